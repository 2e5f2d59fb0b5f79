/- The engine, part 28: a call without arguments that hold memory, computed over no rows, in any memory: what it makes comes behind. -/
import Derived.Test.YthijllagngkbgaaGreatEngReg
namespace Go.Proofs.YthijllagngkbgaaGreat.Eng
open Go

/-- row numbers, so many higher -/
def shiftV (b : Nat) : Nat → Value → Value
  | 0, v => v
  | d + 1, .agg x => .agg (x.toList.map (shiftV b d)).toArray
  | d + 1, .tuple x => .tuple (x.toList.map (shiftV b d)).toArray
  | d + 1, .func f x y => .func f (x.toList.map (shiftV b d)).toArray (y.toList.map (shiftV b d)).toArray
  | _ + 1, .pointer (some ⟨i, o, none⟩) => .pointer (some ⟨b + i, o, none⟩)
  | _ + 1, .slice (some ⟨i, o, sp⟩) n c => .slice (some ⟨b + i, o, sp⟩) n c
  | _ + 1, .chan (some i) => .chan (some (b + i))
  | _ + 1, .map (some i) => .map (some (b + i))
  | _ + 1, v => v
def shiftR (N b : Nat) : Ren := fun i => if i < N then some (b + i) else none
theorem shiftR_some {N b i j : Nat} : shiftR N b i = some j ↔ i < N ∧ j = b + i := by
  unfold shiftR
  split
  · rename_i h; simp [h, eq_comm]
  · rename_i h; simp [h]
theorem flat_shift {b d : Nat} {v : Value} (h : flat v = true) : shiftV b (d + 1) v = v := by
  unfold flat at h
  split at h <;> first | rfl | cases h
theorem shifts_rel {N b d : Nat} (ih : ∀ {v : Value}, closedV N d v = true → RRel (shiftR N b) v (shiftV b d v)) : ∀ {vs : List Value}, vs.all (closedV N d) = true → RRels (shiftR N b) vs (vs.map (shiftV b d))
  | [], _ => .nil
  | v :: vs, h => by
    simp only [List.all_cons, Bool.and_eq_true] at h
    exact .cons _ _ _ _ (ih h.1) (shifts_rel ih h.2)
theorem shift_rel {N b : Nat} : ∀ {d : Nat} {v : Value}, closedV N d v = true → RRel (shiftR N b) v (shiftV b d v)
  | 0, _, h => by cases h
  | d + 1, v, h => by
    unfold closedV at h
    split at h
    · rename_i he; cases he
    · rename_i he; obtain rfl := Nat.succ.inj he; simp only [shiftV]; exact .agg _ _ (by simpa using shifts_rel shift_rel h)
    · rename_i he; obtain rfl := Nat.succ.inj he; simp only [shiftV]; exact .tuple _ _ (by simpa using shifts_rel shift_rel h)
    · rename_i he
      obtain rfl := Nat.succ.inj he
      simp only [Bool.and_eq_true] at h
      simp only [shiftV]
      exact .func _ _ _ _ _ (by simpa using shifts_rel shift_rel h.1) (by simpa using shifts_rel shift_rel h.2)
    · simp only [shiftV]; exact .ptr _ _ _ (shiftR_some.2 ⟨by simpa using h, rfl⟩)
    · simp only [shiftV]; exact .slice _ _ _ _ _ _ (shiftR_some.2 ⟨by simpa using h, rfl⟩)
    · simp only [shiftV]; exact .chan _ _ (shiftR_some.2 ⟨by simpa using h, rfl⟩)
    · simp only [shiftV]; exact .map _ _ (shiftR_some.2 ⟨by simpa using h, rfl⟩)
    · rw [flat_shift h]; exact RRel.flat h
def shiftT (b : Nat) : Thing → Thing
  | .row cs e => .row (cs.map (shiftV b 4)) e
  | .ro cs => .ro (cs.map (shiftV b 4))
theorem shiftT_rel {N b : Nat} {t : Option Thing} (h : closedT N t = true) : TRel (shiftR N b) t (t.map (shiftT b)) := by
  unfold closedT at h
  split at h
  · exact .row _ _ _ (shifts_rel shift_rel h)
  · exact .ro _ _ (shifts_rel shift_rel h)
  · exact .none

/-- rows behind the others -/
def Heap.app (h : Heap) (ts : List (Option Thing)) : Heap := { next := h.next + ts.length, tree := putsL ts h.next h.tree }
theorem Heap.get_app (h : Heap) (ts : List (Option Thing)) (j : Nat) : (h.app ts).get j = if h.next ≤ j ∧ j < h.next + ts.length then (ts[j - h.next]?).join else h.get j := putsL_get _ _ _ _
theorem Heap.next_app (h : Heap) (ts : List (Option Thing)) : (h.app ts).next = h.next + ts.length := rfl
theorem Heap.app_lt {h : Heap} {ts : List (Option Thing)} {j : Nat} (hj : j < h.next) : (h.app ts).get j = h.get j := by rw [Heap.get_app, if_neg (by omega)]
theorem Heap.app_at {h : Heap} {ts : List (Option Thing)} {i j : Nat} {x : Option Thing} (hj : j = h.next + i) (hi : ts[i]? = some x) : (h.app ts).get j = x := by
  subst hj
  have : i < ts.length := by
    rcases Nat.lt_or_ge i ts.length with h1 | h1
    · exact h1
    · rw [List.getElem?_eq_none h1] at hi; cases hi
  rw [Heap.get_app, if_pos (by omega), show h.next + i - h.next = i by omega, hi]; rfl
theorem Heap.ok_app {h : Heap} (hk : h.ok) (ts : List (Option Thing)) : (h.app ts).ok := by
  intro j hj
  rw [Heap.next_app] at hj
  rw [Heap.get_app, if_neg (by omega)]
  exact hk j (by omega)
theorem Heap.look_app {h : Heap} {ts : List (Option Thing)} {r : Nat} {x : Option Thing} (hr : r < h.next) (hx : h.get r = x) : (h.app ts).get r = x := by rw [Heap.app_lt hr, hx]
theorem Keep.app {h g g' : Heap} {ts : List (Option Thing)} (k : Keep h g g') : Keep h g (g'.app ts) :=
  ⟨Nat.le_trans k.1 (by rw [Heap.next_app]; omega), fun i hi => by rw [Heap.app_lt (Nat.lt_of_lt_of_le hi k.1)]; exact k.2 i hi⟩

section
variable {P : Program} {X : Ext}
/-- What a call over no rows makes comes behind the rows that are there. -/
theorem DoesOk.shift {f : FuncId} {args : List Value} {v : Value} {h1 : Heap} (N : Nat) (D : DoesOk P f args Heap.empty v h1) (hargs : args.all (Eng.bare 4) = true) (hv : closedV N 4 v = true) (hr : (rowsTo h1 N).all (closedT N) = true) (h : Heap) :
    DoesOk P f args h (shiftV h.next 4 v) (h.app ((rowsTo h1 N).map (Option.map (shiftT h.next)))) := by
  have len : ((rowsTo h1 N).map (Option.map (shiftT h.next))).length = N := by simp [rowsTo_length]
  refine ⟨?_, fun hk => ⟨by rw [Heap.next_app]; omega, Heap.ok_app hk _⟩⟩
  intro B ρ w args' hH ha
  refine (D.frame (h := h) (h' := h.app ((rowsTo h1 N).map (Option.map (shiftT h.next)))) (π := noRen) (π' := shiftR N h.next) (fun i _ => Heap.get_empty i) (fun i j e => by cases e) (fun i j hi => by cases hi) (fun i j _ e => ?_) (fun i i' j e e' => ?_) (fun i j e => by cases e)
    (bares_any bare_any hargs) (shift_rel hv) (fun i j e => ?_) (fun j hj _ => ?_) (fun j hj hno => ?_) ?_ (fun i j e => ?_)).does B ρ w args' hH ha
  · obtain ⟨_, rfl⟩ := shiftR_some.1 e; omega
  · obtain ⟨_, h1⟩ := shiftR_some.1 e
    obtain ⟨_, h2⟩ := shiftR_some.1 e'
    omega
  · obtain ⟨hi, rfl⟩ := shiftR_some.1 e
    have hg := rowsTo_get h1 N i hi
    have hc : closedT N (h1.get i) = true := List.all_eq_true.1 hr _ (List.mem_of_getElem? hg)
    have : (h.app ((rowsTo h1 N).map (Option.map (shiftT h.next)))).get (h.next + i) = (h1.get i).map (shiftT h.next) := Heap.app_at rfl (by rw [List.getElem?_map, hg]; rfl)
    rw [this]
    exact shiftT_rel hc
  · exact Heap.app_lt hj
  · rw [Heap.get_app, len, if_neg]
    · exact hH.fresh j hj
    · intro h2
      exact hno (j - h.next) (shiftR_some.2 ⟨by omega, by omega⟩)
  · rw [Heap.next_app]; omega
  · obtain ⟨hi, rfl⟩ := shiftR_some.1 e
    rw [Heap.next_app, len]; omega

/-- .. computed -/
theorem DoesOk.shiftEv {f : FuncId} {args : List Value} (N k : Nat) {ts : Nat → List (Option Thing)} {v : Nat → Value} (hmix : P.follows .mixedOrders = true) (hX : ExtOk P X)
    (hr : ((evFn P X noSum k f args Heap.empty).map fun r => (args.all (Eng.bare 4) && closedV N 4 r.1 && (rowsTo r.2 N).all (closedT N), fun b => (shiftV b 4 r.1, (rowsTo r.2 N).map (Option.map (shiftT b))))) = some (true, fun b => (v b, ts b))) (h : Heap) :
    DoesOk P f args h (v h.next) (h.app (ts h.next)) := by
  obtain ⟨⟨u, h1⟩, he, hp⟩ := Option.map_eq_some_iff.mp hr
  simp only [Prod.mk.injEq, Bool.and_eq_true] at hp
  obtain ⟨⟨⟨a, b⟩, c⟩, e⟩ := hp
  have e2 := congrFun e h.next
  simp only [Prod.mk.injEq] at e2
  rw [← e2.1, ← e2.2]
  exact DoesOk.shift N (DoesOk.of_ev k hmix hX he) a b c h
end
end Go.Proofs.YthijllagngkbgaaGreat.Eng
