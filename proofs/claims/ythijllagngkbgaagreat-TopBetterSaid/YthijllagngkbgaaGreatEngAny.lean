/- The engine, part 12: a region whose order is drawn comes to the same in every order. -/
import Derived.Test.YthijllagngkbgaaGreatEngDraw
namespace Go.Proofs.YthijllagngkbgaaGreat.Eng
open Go

/-! ### less is known of where things lie -/
def Where.below (ρ : Where) (m : Nat) : Where := fun i => if i < m then ρ i else none
theorem Where.below_some {ρ : Where} {m i : Nat} {l : Loc} : ρ.below m i = some l ↔ i < m ∧ ρ i = some l := by
  unfold Where.below
  split
  · rename_i h; simp [h]
  · rename_i h; simp [h]
theorem Where.below_le (ρ : Where) (m : Nat) : (ρ.below m).le ρ := fun _ _ h => (Where.below_some.1 h).2
theorem Where.below_mono (ρ : Where) {m m' : Nat} (h : m ≤ m') : (ρ.below m).le (ρ.below m') := fun i l hi => by
  rw [Where.below_some] at hi ⊢
  exact ⟨by omega, hi.2⟩
theorem Where.below_le_below {ρ ρ' : Where} {m m' : Nat} (h : m ≤ m') (hle : ∀ i l, i < m → ρ i = some l → ρ' i = some l) : (ρ.below m).le (ρ'.below m') := fun i l hi => by
  rw [Where.below_some] at hi ⊢
  exact ⟨by omega, hle i l hi.1 hi.2⟩

/-- the slots that an operation looks at -/
def pick (ts : List Tmp) (T : Env) : Env := ts.foldr (fun t U => U.put t (T.get t)) .leaf
theorem pick_get (T : Env) : ∀ (ts : List Tmp) (t : Tmp), (pick ts T).get t = if t ∈ ts then T.get t else none
  | [], t => by simp [pick, Tree.get_leaf]
  | u :: r, t => by
    simp only [pick, List.foldr_cons, Tree.get_put]
    have := pick_get T r t
    simp only [pick] at this
    rw [this]
    by_cases e : t = u
    · subst e; simp
    · by_cases h : t ∈ r <;> simp [e, h]

/-- no row lies behind the numbers that were given -/
def Heap.ok (h : Heap) : Prop := ∀ i, h.next ≤ i → h.get i = none
def NextMono (g : Caller) : Prop := ∀ f args h v h', h.ok → g f args h = some (v, h') → h.next ≤ h'.next ∧ h'.ok

theorem Heap.ok_new {h : Heap} (hk : h.ok) (x : Thing) : (h.new x).ok := by
  intro i hi
  rw [Heap.next_new] at hi
  rw [Heap.get_new, if_neg (by omega)]
  exact hk i (by omega)
theorem Heap.ok_kill {h : Heap} (hk : h.ok) (j : Nat) : (h.kill j).ok := by
  intro i hi
  rw [Heap.get_kill]
  split
  · rfl
  · exact hk i hi

section
variable {P : Program} {X : Ext} {g : Caller}

theorem writeCells_next {h h' : Heap} {i o : Nat} {vs : List Value} (hk : h.ok) (ha : writeCells h i o vs = some h') : h.next ≤ h'.next ∧ h'.ok := by
  unfold writeCells at ha
  split at ha
  · rename_i cs e hg
    split at ha
    · obtain rfl := Option.some.inj ha
      refine ⟨Nat.le_refl _, fun j hj => ?_⟩
      rw [Heap.next_put] at hj
      rw [Heap.get_put, if_neg]
      · exact hk j hj
      · intro e1; subst e1; rw [hk _ hj] at hg; cases hg
    · cases ha
  · cases ha

theorem aappend_next {h h' : Heap} {ts : Array TypeId} {x y v : Value} (hk : h.ok) (ha : aappend P h ts x y = some (v, h')) : h.next ≤ h'.next ∧ h'.ok := by
  unfold aappend at ha
  split at ha
  · split at ha
    · simp only [Option.bind_eq_some_iff] at ha
      obtain ⟨z, _, m, _, new, _, ha⟩ := ha
      split at ha
      · split at ha
        · split at ha
          · obtain ⟨_, rfl⟩ := Prod.mk.inj (Option.some.inj ha); exact ⟨Nat.le_refl _, hk⟩
          · split at ha
            · obtain ⟨_, rfl⟩ := Prod.mk.inj (Option.some.inj ha); exact ⟨by simp [Heap.next_new], Heap.ok_new hk _⟩
            · cases ha
        · split at ha
          · split at ha
            · obtain ⟨_, rfl⟩ := Prod.mk.inj (Option.some.inj ha); exact ⟨Nat.le_refl _, hk⟩
            · obtain ⟨q, hq, ha⟩ := Option.map_eq_some_iff.mp ha
              obtain ⟨_, rfl⟩ := Prod.mk.inj ha
              exact writeCells_next hk hq
          · split at ha
            · simp only [Option.bind_eq_some_iff] at ha
              obtain ⟨old, _, ha⟩ := ha
              split at ha
              · obtain ⟨_, rfl⟩ := Prod.mk.inj (Option.some.inj ha); exact ⟨by simp [Heap.next_new], Heap.ok_new hk _⟩
              · split at ha
                · split at ha
                  · split at ha
                    · split at ha
                      · obtain ⟨_, rfl⟩ := Prod.mk.inj (Option.some.inj ha); exact ⟨by simp [Heap.next_new, Heap.next_kill], Heap.ok_new (Heap.ok_kill hk _) _⟩
                      · cases ha
                    · obtain ⟨_, rfl⟩ := Prod.mk.inj (Option.some.inj ha); exact ⟨by simp [Heap.next_new], Heap.ok_new hk _⟩
                  · cases ha
                · cases ha
            · cases ha
        · cases ha
      · cases ha
    · cases ha
  · cases ha
theorem aclear_next {h h' : Heap} {ts : Array TypeId} {x v : Value} (hk : h.ok) (ha : aclear P h ts x = some (v, h')) : h.next ≤ h'.next ∧ h'.ok := by
  unfold aclear at ha
  split at ha
  · obtain ⟨_, rfl⟩ := Prod.mk.inj (Option.some.inj ha); exact ⟨Nat.le_refl _, hk⟩
  · split at ha
    · obtain ⟨_, rfl⟩ := Prod.mk.inj (Option.some.inj ha); exact ⟨Nat.le_refl _, hk⟩
    · simp only [Option.bind_eq_some_iff, Option.map_eq_some_iff] at ha
      obtain ⟨z, hz, g, hg, ha⟩ := ha
      obtain ⟨_, rfl⟩ := Prod.mk.inj ha
      exact writeCells_next hk hg
  · cases ha
theorem aappendZ_next {h h' : Heap} {ts : Array TypeId} {x y v : Value} (hk : h.ok) (ha : aappendZ P h ts x y = some (v, h')) : h.next ≤ h'.next ∧ h'.ok := by
  unfold aappendZ at ha
  split at ha
  · rename_i q hq
    obtain rfl := Option.some.inj ha
    exact aappend_next hk hq
  · unfold azeros at ha
    split at ha
    · obtain ⟨z, _, ha⟩ := Option.bind_eq_some_iff.mp ha
      split at ha
      · obtain ⟨_, rfl⟩ := Prod.mk.inj (Option.some.inj ha); exact ⟨by simp [Heap.next_new], Heap.ok_new hk _⟩
      · cases ha
    · cases ha

theorem aheavy_next (hm : NextMono g) {T : Env} {h h' : Heap} {op : Op} {v : Value} (hk : h.ok) (ha : aheavy P X g T h op = some (v, h')) : h.next ≤ h'.next ∧ h'.ok := by
  unfold aheavy at ha
  split at ha
  · simp only [Option.bind_eq_some_iff] at ha
    obtain ⟨av, _, xv, _, ha⟩ := ha
    obtain ⟨g', hs, ha⟩ := Option.map_eq_some_iff.mp ha
    obtain ⟨rfl, rfl⟩ := Prod.mk.inj ha
    unfold astore at hs
    split at hs
    · simp only [Option.bind_eq_some_iff] at hs
      obtain ⟨_, _, hs⟩ := hs
      split at hs
      · exact writeCells_next hk hs
      · cases hs
    · cases hs
  · simp only [Option.bind_eq_some_iff] at ha
    obtain ⟨vs, _, ha⟩ := ha
    split at ha
    · exact aappendZ_next hk ha
    · cases ha
  · simp only [Option.bind_eq_some_iff] at ha
    obtain ⟨vs, _, ha⟩ := ha
    split at ha
    · unfold acopy at ha
      split at ha
      · simp only [Option.bind_eq_some_iff] at ha
        obtain ⟨_, _, _, _, _, _, ha⟩ := ha
        split at ha
        · split at ha
          · obtain ⟨_, rfl⟩ := Prod.mk.inj (Option.some.inj ha); exact ⟨Nat.le_refl _, hk⟩
          · cases ha
        · split at ha
          · split at ha
            · obtain ⟨_, rfl⟩ := Prod.mk.inj (Option.some.inj ha); exact ⟨Nat.le_refl _, hk⟩
            · cases ha
          · obtain ⟨q, hq, ha⟩ := Option.map_eq_some_iff.mp ha
            obtain ⟨_, rfl⟩ := Prod.mk.inj ha
            exact writeCells_next hk hq
      · cases ha
    · cases ha
  · simp only [Option.bind_eq_some_iff] at ha
    obtain ⟨vs, _, ha⟩ := ha
    split at ha
    · exact aclear_next hk ha
    · cases ha
  · simp only [Option.bind_eq_some_iff] at ha
    obtain ⟨fv, _, vs, _, ha⟩ := ha
    split at ha
    · unfold acall at ha
      split at ha
      · cases ha
      · split at ha
        · cases ha
        · split at ha
          · obtain ⟨_, _, ha⟩ := Option.map_eq_some_iff.mp ha
            obtain ⟨_, rfl⟩ := Prod.mk.inj ha
            exact ⟨Nat.le_refl _, hk⟩
          · exact hm _ _ _ _ _ hk ha
    · cases ha
  · obtain ⟨_, rfl⟩ := Prod.mk.inj (Option.some.inj ha)
    exact ⟨by rw [Heap.next_new]; omega, Heap.ok_new hk _⟩
  · simp only [Option.bind_eq_some_iff] at ha
    obtain ⟨_, _, ha⟩ := ha
    obtain ⟨_, _, ha⟩ := Option.map_eq_some_iff.mp ha
    obtain ⟨_, rfl⟩ := Prod.mk.inj ha
    exact ⟨by rw [Heap.next_new]; omega, Heap.ok_new hk _⟩
  · simp only [Option.bind_eq_some_iff] at ha
    obtain ⟨_, _, _, _, ha⟩ := ha
    obtain ⟨_, _, ha⟩ := Option.map_eq_some_iff.mp ha
    obtain ⟨_, rfl⟩ := Prod.mk.inj ha
    exact ⟨Nat.le_refl _, hk⟩
  · simp only [Option.bind_eq_some_iff] at ha
    obtain ⟨_, _, _, _, _, _, ha⟩ := ha
    obtain ⟨g', hu, ha⟩ := Option.map_eq_some_iff.mp ha
    obtain ⟨_, rfl⟩ := Prod.mk.inj ha
    unfold amapNew at hu
    split at hu
    · split at hu
      · split at hu
        · rename_i hg
          split at hu
          · obtain rfl := Option.some.inj hu
            refine ⟨Nat.le_refl _, fun j hj => ?_⟩
            rw [Heap.next_put] at hj
            rw [Heap.get_put, if_neg]
            · exact hk j hj
            · intro e
              subst e
              rw [hk _ hj] at hg
              cases hg
          · cases hu
        · cases hu
      · cases hu
    · cases hu
  · cases ha

/-- what an operation is: skipped, still, a new row, or one that may change memory -/
theorem aval_cases {ops : Array Oper} {T : Env} {h h' : Heap} {o : Oper} {v : Value} (ha : aval P X g ops T h o = some (v, h')) :
    (awant ops T o = some false ∧ v = undef ∧ h' = h) ∨
    (awant ops T o = some true ∧ kindOf o.op = .pure ∧ apure P T o.op = some v ∧ h' = h) ∨
    (awant ops T o = some true ∧ kindOf o.op = .load ∧ aloadOp P T h o.op = some v ∧ h' = h) ∨
    (awant ops T o = some true ∧ kindOf o.op = .fresh ∧ ∃ cs e s, afreshRow P T o.op = some (cs, e, s) ∧ v = s.val h.next ∧ h' = h.new (.row cs e)) ∨
    (awant ops T o = some true ∧ kindOf o.op = .heavy ∧ aheavy P X g T h o.op = some (v, h')) := by
  unfold aval at ha
  split at ha
  · cases ha
  · rename_i hw
    obtain ⟨rfl, rfl⟩ := Prod.mk.inj (Option.some.inj ha)
    exact .inl ⟨hw, rfl, rfl⟩
  · rename_i hw
    right
    split at ha
    · rename_i hk
      obtain ⟨u, hu, ha⟩ := Option.map_eq_some_iff.mp ha
      obtain ⟨rfl, rfl⟩ := Prod.mk.inj ha
      exact .inl ⟨hw, hk, hu, rfl⟩
    · rename_i hk
      obtain ⟨u, hu, ha⟩ := Option.map_eq_some_iff.mp ha
      obtain ⟨rfl, rfl⟩ := Prod.mk.inj ha
      exact .inr (.inl ⟨hw, hk, hu, rfl⟩)
    · rename_i hk
      obtain ⟨⟨cs, e, s⟩, hu, ha⟩ := Option.map_eq_some_iff.mp ha
      obtain ⟨rfl, rfl⟩ := Prod.mk.inj ha
      exact .inr (.inr (.inl ⟨hw, hk, cs, e, s, hu, rfl, rfl⟩))
    · rename_i hk
      exact .inr (.inr (.inr ⟨hw, hk, ha⟩))

theorem aval_next (hm : NextMono g) {ops : Array Oper} {T : Env} {h h' : Heap} {o : Oper} {v : Value} (hk : h.ok) (ha : aval P X g ops T h o = some (v, h')) : h.next ≤ h'.next ∧ h'.ok := by
  rcases aval_cases ha with ⟨_, _, rfl⟩ | ⟨_, _, _, rfl⟩ | ⟨_, _, _, rfl⟩ | ⟨_, _, cs, e, s, _, _, rfl⟩ | ⟨_, _, h1⟩
  · exact ⟨Nat.le_refl _, hk⟩
  · exact ⟨Nat.le_refl _, hk⟩
  · exact ⟨Nat.le_refl _, hk⟩
  · exact ⟨by simp [Heap.next_new], Heap.ok_new hk _⟩
  · exact aheavy_next hm hk h1
end

/-- The run in the order of the text, place by place. -/
structure TextRun (P : Program) (X : Ext) (g : Nat → Caller) (n : Nat) (ops : Array Oper) (Tf : Nat → Env) (Hf : Nat → Heap) (vf : Nat → Value) : Prop where
  step : ∀ i o, ops[i]? = some o → aval P X (g i) ops (Tf i) (Hf i) o = some (vf i, Hf (i + 1)) ∧ fillSlot n (Tf i) o.dst (vf i) = some (Tf (i + 1))
  nx : ∀ i, i < ops.size → (Hf i).next ≤ (Hf (i + 1)).next
  okf : ∀ i, i ≤ ops.size → (Hf i).ok
  after : ∀ i j x y, ops[i]? = some x → ops[j]? = some y → kindOf x.op = .load → awant ops (Tf i) x = some true → kindOf y.op = .heavy → i < j → Pre ops i j ∨ aloadOp P (Tf i) (Hf (j + 1)) x.op = some (vf i)
  ahead : ∀ i j x y, ops[i]? = some x → ops[j]? = some y → kindOf x.op = .load → awant ops (Tf i) x = some true → kindOf y.op = .heavy → j < i → Pre ops j i ∨ aloadOp P (Tf i) (Hf j) x.op = some (vf i)

def Fresh (P : Program) (ops : Array Oper) (Tf : Nat → Env) (i : Nat) (o : Oper) (cs : List Value) (e : TypeId) (s : Shape) : Prop :=
  ops[i]? = some o ∧ awant ops (Tf i) o = some true ∧ kindOf o.op = .fresh ∧ afreshRow P (Tf i) o.op = some (cs, e, s)

section
variable {P : Program} {X : Ext} {g : Nat → Caller} {n : Nat} {ops : Array Oper} {Tf : Nat → Env} {Hf : Nat → Heap} {vf : Nat → Value}

theorem TextRun.mono (tr : TextRun P X g n ops Tf Hf vf) : ∀ (i k : Nat), i + k ≤ ops.size → (Hf i).next ≤ (Hf (i + k)).next
  | i, 0, _ => Nat.le_refl _
  | i, k + 1, h => Nat.le_trans (TextRun.mono tr i k (by omega)) (tr.nx (i + k) (by omega))

theorem TextRun.mono' (tr : TextRun P X g n ops Tf Hf vf) {i j : Nat} (h : i ≤ j) (hj : j ≤ ops.size) : (Hf i).next ≤ (Hf j).next := by
  have := tr.mono i (j - i) (by omega)
  rwa [show i + (j - i) = j by omega] at this

theorem TextRun.fresh (tr : TextRun P X g n ops Tf Hf vf) {i : Nat} {o : Oper} {cs : List Value} {e : TypeId} {s : Shape} (h : Fresh P ops Tf i o cs e s) :
    vf i = s.val (Hf i).next ∧ Hf (i + 1) = (Hf i).new (.row cs e) := by
  obtain ⟨ho, hw, hk, hf⟩ := h
  rcases aval_cases (tr.step i o ho).1 with ⟨h1, _, _⟩ | ⟨_, h1, _⟩ | ⟨_, h1, _⟩ | ⟨_, _, cs', e', s', h1, h2, h3⟩ | ⟨_, h1, _⟩
  · rw [hw] at h1; cases h1
  · rw [hk] at h1; cases h1
  · rw [hk] at h1; cases h1
  · rw [hf] at h1
    simp only [Option.some.injEq, Prod.mk.injEq] at h1
    obtain ⟨rfl, rfl, rfl⟩ := h1
    exact ⟨h2, h3⟩
  · rw [hk] at h1; cases h1

/-- what slot t holds ahead of operation i -/
theorem TextRun.slot (tr : TextRun P X g n ops Tf Hf vf) (t : Tmp) : ∀ (i : Nat), i ≤ ops.size → ∀ v, (Tf i).get t = some v →
    (∃ j o, j < i ∧ ops[j]? = some o ∧ o.dst = some t ∧ v = vf j ∧ ∀ k p, j < k → k < i → ops[k]? = some p → p.dst ≠ some t) ∨
    ((Tf 0).get t = some v ∧ ∀ k p, k < i → ops[k]? = some p → p.dst ≠ some t)
  | 0, _, v, h => .inr ⟨h, fun k p hk => by omega⟩
  | i + 1, hi, v, h => by
    obtain ⟨o, ho⟩ : ∃ o, ops[i]? = some o := ⟨ops[i], by simp⟩
    have hf := (tr.step i o ho).2
    have keep : o.dst ≠ some t → (Tf i).get t = some v := by
      intro hne
      unfold fillSlot at hf
      split at hf
      · rw [Option.some.inj hf]; exact h
      · rename_i d hd
        split at hf
        · rw [← Option.some.inj hf, Tree.get_put_ne _ _ (by intro e; subst e; exact hne hd)] at h
          exact h
        · cases hf
    by_cases hd : o.dst = some t
    · left
      refine ⟨i, o, by omega, ho, hd, ?_, fun k p h1 h2 => by omega⟩
      unfold fillSlot at hf
      rw [hd] at hf
      simp only [] at hf
      split at hf
      · rw [← Option.some.inj hf, Tree.get_put_same] at h
        exact (Option.some.inj h).symm
      · cases hf
    · rcases TextRun.slot tr t i (by omega) v (keep hd) with ⟨j, p, h1, h2, h3, h4, h5⟩ | ⟨h1, h2⟩
      · left
        refine ⟨j, p, by omega, h2, h3, h4, fun k q hjk hki hq => ?_⟩
        by_cases e : k = i
        · subst e; rw [ho] at hq; obtain rfl := Option.some.inj hq; exact hd
        · exact h5 k q hjk (by omega) hq
      · right
        refine ⟨h1, fun k q hki hq => ?_⟩
        by_cases e : k = i
        · subst e; rw [ho] at hq; obtain rfl := Option.some.inj hq; exact hd
        · exact h2 k q (by omega) hq
end

/-! ### memory: a block more; a row that is found there -/
theorem HRel.pad {B : Nat} {ρ : Where} {h : Heap} {w : World} (r : HRel B ρ h w) (x : Obj) : HRel B ρ h (newBlk w x) := by
  have hblk : ∀ (b : Nat) (o : Obj), w.heap[b]? = some o → (newBlk w x).heap[b]? = some o := by
    intro b o hb
    rw [newBlk_get, if_neg, hb]
    intro e1
    rw [e1, Array.getElem?_eq_none (Nat.le_refl _)] at hb
    cases hb
  refine ⟨by have := r.size; simp [newBlk]; omega, r.dom, r.fresh, ?_, ?_, r.inj⟩
  · intro i l cs e h1 h2
    obtain ⟨a1, a2, o, hc, a4⟩ := r.row i l cs e h1 h2
    exact ⟨a1, a2, o, hblk _ _ hc, a4⟩
  · intro i l cs h1 h2
    obtain ⟨a1, c, e, fr, hc, a2⟩ := r.ro i l cs h1 h2
    exact ⟨a1, c, e, fr, hblk _ _ hc, a2⟩

/-- What is known of a row that lies at the head of a block of the call's own. -/
structure Head (B : Nat) (ρ : Where) (w : World) (l : Loc) (cs : List Value) (e : TypeId) (c : Array Value) : Prop where
  kind : l.kind = .cells
  off : l.off = 0
  size : l.size = c.size
  known : l.known = cs.length
  own : l.own = true
  base : B ≤ l.blk
  blk : w.heap[l.blk]? = some (.cells c e (0, 0))
  rel : VRels ρ cs c.toList

theorem Head.mono {B : Nat} {ρ ρ' : Where} {w : World} {l : Loc} {cs : List Value} {e : TypeId} {c : Array Value} (h : Head B ρ w l cs e c) (hle : ρ.le ρ') : Head B ρ' w l cs e c :=
  ⟨h.kind, h.off, h.size, h.known, h.own, h.base, h.blk, h.rel.mono hle⟩

theorem HRel.adopt {B : Nat} {ρ : Where} {h : Heap} {w : World} (r : HRel B ρ h w) {id : Nat} {l : Loc} {cs : List Value} {e : TypeId} {c : Array Value} (hd : Head B ρ w l cs e c)
    (hn : ρ id = none) (hid : id < h.next) (hg : h.get id = some (.row cs e)) (hinj : ∀ j m ds f, ρ j = some m → h.get j = some (.row ds f) → m.blk ≠ l.blk) : HRel B (ρ.add id l) h w := by
  have hle := Where.add_le ρ id l hn
  have old : ∀ i m, ρ.add id l i = some m → i ≠ id → ρ i = some m := by
    intro i m hi ne
    unfold Where.add at hi
    rwa [if_neg ne] at hi
  have at_new : ∀ m, ρ.add id l id = some m → m = l := by
    intro m hm
    rw [Where.add_self] at hm
    exact (Option.some.inj hm).symm
  have hlen := hd.rel.length
  simp only [Array.length_toList] at hlen
  refine ⟨r.size, ?_, r.fresh, ?_, ?_, ?_⟩
  · intro i m hi
    by_cases ne : i = id
    · omega
    · exact r.dom i m (old i m hi ne)
  · intro i m ds f hi hgi
    by_cases ne : i = id
    · subst ne
      obtain rfl := at_new m hi
      rw [hg] at hgi
      obtain ⟨rfl, rfl⟩ := Thing.row.inj (Option.some.inj hgi)
      refine ⟨hd.own, hd.base, _, hd.blk, .of_cells hd.kind (by rw [hd.size]; omega) (by rw [hd.off, hd.size]; omega) ⟨hd.known, by rw [hd.off]; omega, ?_⟩⟩
      rw [hd.off, List.drop_zero, hlen, ← Array.length_toList, List.take_length]
      exact hd.rel.mono hle
    · obtain ⟨h1, h2, o, hc, hr⟩ := r.row i m ds f (old i m hi ne) hgi
      exact ⟨h1, h2, o, hc, hr.mono hle⟩
  · intro i m ds hi hgi
    by_cases ne : i = id
    · subst ne; rw [hg] at hgi; cases hgi
    · obtain ⟨h1, c', e', fr, hc, hk, ho, hv'⟩ := r.ro i m ds (old i m hi ne) hgi
      exact ⟨h1, c', e', fr, hc, hk, ho, hv'.mono hle⟩
  · intro i j m m' ds f gs g hi hj hgi hgj hb
    by_cases ni : i = id
    · by_cases nj : j = id
      · omega
      · subst ni
        obtain rfl := at_new m hi
        exact absurd hb.symm (hinj j m' gs g (old j m' hj nj) hgj)
    · by_cases nj : j = id
      · subst nj
        obtain rfl := at_new m' hj
        exact absurd hb (hinj i m ds f (old i m hi ni) hgi)
      · exact r.inj i j m m' ds f gs g (old i m hi ni) (old j m' hj nj) hgi hgj hb

/-- A row that is not there yet. -/
theorem HRel.ghost {B : Nat} {ρ : Where} {h : Heap} {w : World} (r : HRel B ρ h w) (x : Thing) : HRel B ρ (h.new x) w := by
  have key : ∀ i l, ρ i = some l → (h.new x).get i = h.get i := by
    intro i l hi
    have := r.dom i l hi
    rw [Heap.get_new, if_neg (by omega)]
  refine ⟨r.size, fun i l hi => ?_, fun i hi => ?_, fun i l cs e hi hg => ?_, fun i l cs hi hg => ?_, fun i j l m cs e ds f hi hj hgi hgj hb => ?_⟩
  · rw [Heap.next_new]; have := r.dom i l hi; omega
  · rw [Heap.next_new] at hi
    rw [Heap.get_new, if_neg (by omega)]; exact r.fresh i (by omega)
  · rw [key i l hi] at hg; exact r.row i l cs e hi hg
  · rw [key i l hi] at hg; exact r.ro i l cs hi hg
  · rw [key i l hi] at hgi; rw [key j m hj] at hgj; exact r.inj i j l m cs e ds f hi hj hgi hgj hb

theorem Step.pad {ρ₀ ρ : Where} {h₀ h : Heap} {w₀ w : World} (s : Step ρ₀ h₀ w₀ ρ h w) (x : Obj) : Step ρ₀ h₀ w₀ ρ h (newBlk w x) :=
  ⟨s.le, s.next, s.old, s.live, s.ghost, s.new, fun b hb hn => by
    rw [newBlk_get, if_neg (by have := s.size; omega)]; exact s.frame b hb hn, by have := s.size; simp [newBlk]; omega, s.os, s.tape, s.output⟩

theorem Step.adopt {ρ₀ ρ : Where} {h₀ h : Heap} {w₀ w : World} (s : Step ρ₀ h₀ w₀ ρ h w) {id : Nat} {l : Loc} (hn : ρ id = none) (hid : h₀.next ≤ id) (hl : w₀.heap.size ≤ l.blk) : Step ρ₀ h₀ w₀ (ρ.add id l) h w := by
  have old : ∀ i m, ρ.add id l i = some m → i ≠ id → ρ i = some m := by
    intro i m hi ne
    unfold Where.add at hi
    rwa [if_neg ne] at hi
  refine ⟨Where.le_trans s.le (Where.add_le ρ id l hn), s.next, fun i m hi hlt => s.old i m (old i m hi (by omega)) hlt, s.live, s.ghost, ?_, s.frame, s.size, s.os, s.tape, s.output⟩
  intro i m cs e hi hge hg
  by_cases ne : i = id
  · subst ne
    rw [Where.add_self] at hi
    obtain rfl := Option.some.inj hi
    exact .inl hl
  · exact s.new i m cs e (old i m hi ne) hge hg

theorem Step.ghostNew {ρ₀ ρ : Where} {h₀ h : Heap} {w₀ w : World} (s : Step ρ₀ h₀ w₀ ρ h w) (hdom : ∀ i l, ρ i = some l → i < h.next) (x : Thing) : Step ρ₀ h₀ w₀ ρ (h.new x) w := by
  refine ⟨s.le, by rw [Heap.next_new]; have := s.next; omega, s.old, ?_, ?_, ?_, s.frame, s.size, s.os, s.tape, s.output⟩
  · intro i cs e hi hg
    rw [Heap.get_new, if_neg (by have := s.next; omega)] at hg
    exact s.live i cs e hi hg
  · intro i hi hn
    rw [Heap.get_new, if_neg (by have := s.next; omega)]
    exact s.ghost i hi hn
  · intro i l cs e hi hge hg
    rw [Heap.get_new, if_neg (by have := hdom i l hi; omega)] at hg
    exact s.new i l cs e hi hge hg
end Go.Proofs.YthijllagngkbgaaGreat.Eng
