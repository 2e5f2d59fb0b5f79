/- The engine, part 16: code and functions over row numbers, and that the model's calls come to the same. -/
import Derived.Test.YthijllagngkbgaaGreatEngMove2
import Derived.LoopN
namespace Go.Proofs.YthijllagngkbgaaGreat.Eng
open Go
variable {ds : List Deferred}

inductive AExit where
  | normal
  | exit (id : Nat)
  | ret

def AExit.out : AExit → Exit
  | .normal => .normal
  | .exit id => .exit id
  | .ret => .ret

def evCode (P : Program) (X : Ext) (g : Caller) (n : Nat) : Nat → Code → Env → Heap → Option (AExit × Env × Heap)
  | 0, _, _, _ => none
  | k + 1, c, T, h =>
    match c with
    | .skip => some (.normal, T, h)
    | .label _ => some (.normal, T, h)
    | .region _ ops false => (runOps P X g n ops ops.toList T h).map fun r => (.normal, r)
    | .region _ ops true => (runDraw P X g n ops T h).map fun r => (.normal, r)
    | .seq a b =>
      match evCode P X g n k a T h with
      | some (.normal, T', h') => evCode P X g n k b T' h'
      | r => r
    | .cond x a b =>
      match rv T x with
      | some (.bool true) => evCode P X g n k a T h
      | some (.bool false) => evCode P X g n k b T h
      | _ => none
    | .block id b =>
      match evCode P X g n k b T h with
      | some (.exit i, T', h') => if i = id then some (.normal, T', h') else some (.exit i, T', h')
      | r => r
    | .loop b =>
      match evCode P X g n k b T h with
      | some (.normal, T', h') => evCode P X g n k (.loop b) T' h'
      | r => r
    | .exit id => some (.exit id, T, h)
    | .ret => some (.ret, T, h)
    | _ => none

def initFrom : List Value → Nat → Env → Env
  | [], _, T => T
  | v :: r, i, T => initFrom r (i + 1) (T.put i (some v))
def initEnv (args : List Value) : Env := initFrom args 0 .leaf

def aresults (P : Program) (T : Env) (h : Heap) : List ResultVar → Option (List Value)
  | [] => some []
  | .tmp t :: r => (T.get t).bind fun v => (aresults P T h r).map (v :: ·)
  | .cell a t :: r => (T.get a).bind fun x => (aload P h t x).bind fun v => (aresults P T h r).map (v :: ·)

def asOne : List Value → Value
  | [v] => v
  | vs => .tuple vs.toArray

def evBody (P : Program) (X : Ext) (g : Caller) (k : Nat) (f : FuncId) (args : List Value) (h : Heap) : Option (Value × Heap) :=
  match P.funcs[f]? with
  | none => none
  | some fn =>
    match fn.body with
    | none => none
    | some c =>
      if args.length ≤ fn.ntmps then
        match evCode P X g fn.ntmps k c (initEnv args) h with
        | some (.normal, T, h') | some (.ret, T, h') => (aresults P T h' fn.results.toList).map fun vs => (asOne vs, h')
        | _ => none
      else none

def evFn (P : Program) (X : Ext) (s : Caller) : Nat → Caller
  | 0 => fun _ _ _ => none
  | k + 1 => fun f args h =>
    match s f args h with
    | some r => some r
    | none => evBody P X (evFn P X s k) k f args h

section
variable {P : Program} {X : Ext} {g : Caller} {n B : Nat}

/-! ### the trace of a region -/
theorem trace_spec {ops : Array Oper} (hm : NextMono g) : ∀ (rest : List Oper) (i : Nat) {T T' : Env} {h h' : Heap} {l : List Ent}, ops.toList.drop i = rest → h.ok → trace P X g n ops rest i T h = some (l, T', h') →
    l.length = rest.length ∧ (match l[0]? with | some x => x.T = T ∧ x.h = h | none => T' = T ∧ h' = h) ∧ h.next ≤ h'.next ∧ h'.ok ∧
    ∀ k x, l[k]? = some x → ops[i + k]? = some x.o ∧ x.i = i + k ∧ x.h.ok ∧ x.h.next ≤ x.h'.next ∧ aval P X g ops x.T x.h x.o = some (x.v, x.h') ∧
      ∃ T2, fillSlot n x.T x.o.dst x.v = some T2 ∧ (match l[k + 1]? with | some y => y.T = T2 ∧ y.h = x.h' | none => T' = T2 ∧ h' = x.h')
  | [], i, T, T', h, h', l, _, hk, ht => by
    simp only [trace, Option.some.injEq, Prod.mk.injEq] at ht
    obtain ⟨rfl, rfl, rfl⟩ := ht
    exact ⟨rfl, ⟨rfl, rfl⟩, Nat.le_refl _, hk, fun k x hx => by simp at hx⟩
  | o :: rest, i, T, T', h, h', l, hd, hk, ht => by
    have ho : ops[i]? = some o := by
      have := congrArg (·[0]?) hd
      simpa using this
    have hd' : ops.toList.drop (i + 1) = rest := by
      have := congrArg List.tail hd
      simpa [List.tail_drop] using this
    simp only [trace, Option.bind_eq_some_iff, Option.map_eq_some_iff] at ht
    obtain ⟨⟨v, h1⟩, hv, T1, hT, ⟨l', T2, h2⟩, hr, he⟩ := ht
    simp only [Prod.mk.injEq] at he
    obtain ⟨rfl, rfl, rfl⟩ := he
    obtain ⟨n1, n2⟩ := aval_next hm hk hv
    obtain ⟨e1, e2, e3, e4, e5⟩ := trace_spec hm rest (i + 1) hd' n2 hr
    refine ⟨by simp [e1], ⟨rfl, rfl⟩, Nat.le_trans n1 e3, e4, ?_⟩
    intro k x hx
    cases k with
    | zero =>
      simp only [List.getElem?_cons_zero, Option.some.injEq] at hx
      subst hx
      refine ⟨ho, rfl, hk, n1, hv, T1, hT, ?_⟩
      simp only [Nat.zero_add, List.getElem?_cons_succ]
      exact e2
    | succ k =>
      simp only [List.getElem?_cons_succ] at hx ⊢
      obtain ⟨q1, q2, q3⟩ := e5 k x hx
      rw [show i + 1 + k = i + (k + 1) by omega] at q1 q2
      exact ⟨q1, q2, q3⟩

theorem dynOk_spec {ops : Array Oper} {ms : List Nat} : ∀ (r prev : List Ent), dynOk P ops ms prev r = true → ∀ (x y : Ent) (k : Nat), r[k]? = some y → (x ∈ prev ∨ ∃ j, j < k ∧ r[j]? = some x) →
    (ms.getD y.i 0).testBit x.i = true ∨ ((isLoad ops x = true → isHeavy y.o = true → same P x y.h' = true) ∧ (isHeavy x.o = true → isLoad ops y = true → same P y x.h = true))
  | [], prev, _, x, y, k, hy, _ => by simp at hy
  | z :: r, prev, hd, x, y, k, hy, hx => by
    simp only [dynOk, Bool.and_eq_true, List.all_eq_true] at hd
    obtain ⟨h1, h2⟩ := hd
    cases k with
    | zero =>
      simp only [List.getElem?_cons_zero, Option.some.injEq] at hy
      subst hy
      rcases hx with hx | ⟨j, hj, _⟩
      · have := h1 x hx
        simp only [Bool.or_eq_true, Bool.and_eq_true, Bool.not_eq_true', Bool.and_eq_false_imp] at this
        rcases this with h | ⟨ha, hb⟩
        · exact .inl h
        · right
          refine ⟨fun p q => ?_, fun p q => ?_⟩
          · rcases ha with h | h
            · have := h p; rw [q] at this; cases this
            · exact h
          · rcases hb with h | h
            · have := h p; rw [q] at this; cases this
            · exact h
      · omega
    | succ k =>
      simp only [List.getElem?_cons_succ] at hy
      refine dynOk_spec r (z :: prev) h2 x y k hy ?_
      rcases hx with hx | ⟨j, hj, hx⟩
      · exact .inl (List.mem_cons_of_mem _ hx)
      · cases j with
        | zero => simp only [List.getElem?_cons_zero, Option.some.injEq] at hx; subst hx; exact .inl (by simp)
        | succ j => exact .inr ⟨j, by omega, by simpa using hx⟩

/-- loads and what may change memory: ordered, or the load reads the same behind and ahead of it -/
def DynP (P : Program) (ops : Array Oper) (ms : List Nat) (l : List Ent) : Prop := ∀ (x y : Ent) (j k : Nat), j < k → l[j]? = some x → l[k]? = some y →
  (ms.getD y.i 0).testBit x.i = true ∨ ((isLoad ops x = true → isHeavy y.o = true → aloadOp P x.T y.h' x.o.op = some x.v) ∧ (isHeavy x.o = true → isLoad ops y = true → aloadOp P y.T x.h y.o.op = some y.v))
theorem same_load {x : Ent} {h : Heap} (hs : same P x h = true) : aloadOp P x.T h x.o.op = some x.v := by
  unfold same at hs
  split at hs
  · rename_i u hu; rw [hu, veq_eq hs]
  · cases hs
theorem DynP.of_ok {ops : Array Oper} {ms : List Nat} {l : List Ent} (h : dynOk P ops ms [] l = true) : DynP P ops ms l := by
  intro x y j k hjk hx hy
  rcases dynOk_spec (P := P) l [] h x y k hy (.inr ⟨j, hjk, hx⟩) with h | ⟨h1, h2⟩
  · exact .inl h
  · exact .inr ⟨fun a b => same_load (h1 a b), fun a b => same_load (h2 a b)⟩

theorem draw_of {G : Nat → Caller} {ops : Array Oper} {Q : Exit → Act → World → Prop} {T T1 : Env} {h h1 : Heap} {l : List Ent} {ρ : Where} {w : World} {a : Act} {id : Nat} (hmix : P.follows .mixedOrders = true) (hg : ∀ i, Sim P B (G i)) (hX : ExtOk P X)
    (hst : staticOk ops = true) (hdyn : DynP P ops (masks ops.toList []) l) (e1 : l.length = ops.size) (e2 : match l[0]? with | some x => x.T = T ∧ x.h = h | none => T1 = T ∧ h1 = h) (e4 : h1.ok)
    (e5 : ∀ k x, l[k]? = some x → ops[0 + k]? = some x.o ∧ x.i = 0 + k ∧ x.h.ok ∧ x.h.next ≤ x.h'.next ∧ aval P X (G k) ops x.T x.h x.o = some (x.v, x.h') ∧
      ∃ T2, fillSlot n x.T x.o.dst x.v = some T2 ∧ (match l[k + 1]? with | some y => y.T = T2 ∧ y.h = x.h' | none => T1 = T2 ∧ h1 = x.h'))
    (hE : ERel ds ρ n T a) (r : HRel B ρ h w)
    (hQ : ∀ a' w' ρ', ERel ds ρ' n T1 a' → HRel B ρ' h1 w' → Step ρ h w ρ' h1 w' → Q .normal a' w') : (Code.region id ops true).wp P Q a w := by
  let Tf : Nat → Env := fun i => match l[i]? with | some x => x.T | none => T1
  let Hf : Nat → Heap := fun i => match l[i]? with | some x => x.h | none => h1
  let vf : Nat → Value := fun i => match l[i]? with | some x => x.v | none => undef
  have at_ : ∀ (i : Nat) (x : Ent), l[i]? = some x → Tf i = x.T ∧ Hf i = x.h ∧ vf i = x.v := by
    intro i x hx
    simp only [Tf, Hf, vf, hx, and_self]
  have there : ∀ (i : Nat) (o : Oper), ops[i]? = some o → ∃ x : Ent, l[i]? = some x ∧ x.o = o := by
    intro i o ho
    have hi : i < l.length := by
      rcases Nat.lt_or_ge i ops.size with h | h
      · omega
      · rw [Array.getElem?_eq_none h] at ho; cases ho
    refine ⟨l[i], by simp [hi], ?_⟩
    have := (e5 i l[i] (by simp [hi])).1
    rw [Nat.zero_add, ho] at this
    exact (Option.some.inj this).symm
  have behind : ∀ (i : Nat) (x : Ent), l[i]? = some x → ∃ T2, fillSlot n x.T x.o.dst x.v = some T2 ∧ Tf (i + 1) = T2 ∧ Hf (i + 1) = x.h' := by
    intro i x hx
    obtain ⟨_, _, _, _, _, T2, hf, hn⟩ := e5 i x hx
    refine ⟨T2, hf, ?_⟩
    simp only [Tf, Hf]
    cases hy : l[i + 1]? with
    | none => rw [hy] at hn; exact hn
    | some y => rw [hy] at hn; exact hn
  have mask : ∀ i j, ((masks ops.toList []).getD j 0).testBit i = true → Pre ops i j := by
    intro i j hb
    rw [List.getD_eq_getElem?_getD] at hb
    cases hq : (masks ops.toList [])[j]? with
    | none => rw [hq] at hb; simp at hb
    | some q => rw [hq] at hb; exact masks_pre ops ops.toList [] rfl (fun j m hm => by simp at hm) j q hq i hb
  have tr : TextRun P X G n ops Tf Hf vf := by
    refine ⟨?_, ?_, ?_, ?_, ?_⟩
    · intro i o ho
      obtain ⟨x, hx, rfl⟩ := there i o ho
      obtain ⟨a1, a2, a3⟩ := at_ i x hx
      obtain ⟨T2, b1, b2, b3⟩ := behind i x hx
      rw [a1, a2, a3, b2, b3]
      exact ⟨(e5 i x hx).2.2.2.2.1, b1⟩
    · intro i hi
      obtain ⟨x, hx, _⟩ := there i ops[i] (by simp [hi])
      obtain ⟨T2, _, _, b3⟩ := behind i x hx
      rw [(at_ i x hx).2.1, b3]
      exact (e5 i x hx).2.2.2.1
    · intro i hi
      by_cases hlt : i < ops.size
      · obtain ⟨x, hx, _⟩ := there i ops[i] (by simp [hlt])
        rw [(at_ i x hx).2.1]
        exact (e5 i x hx).2.2.1
      · have : l[i]? = none := List.getElem?_eq_none (by omega)
        simp only [Hf, this]
        exact e4
    · intro i j x y hx hy hkx hwx hky hij
      obtain ⟨ex, hex, rfl⟩ := there i x hx
      obtain ⟨ey, hey, rfl⟩ := there j y hy
      have hix := (e5 i ex hex).2.1
      have hjy := (e5 j ey hey).2.1
      obtain ⟨a1, a2, a3⟩ := at_ i ex hex
      obtain ⟨T2, _, _, b3⟩ := behind j ey hey
      rw [a1] at hwx
      rcases hdyn ex ey i j hij hex hey with h | ⟨h, _⟩
      · left; rw [hix, hjy, Nat.zero_add, Nat.zero_add] at h; exact mask i j h
      · right
        have := h (by simp [isLoad, hkx, hwx]) (by simp [isHeavy, hky])
        rw [a1, b3, a3]
        exact this
    · intro i j x y hx hy hkx hwx hky hij
      obtain ⟨ex, hex, rfl⟩ := there i x hx
      obtain ⟨ey, hey, rfl⟩ := there j y hy
      have hix := (e5 i ex hex).2.1
      have hjy := (e5 j ey hey).2.1
      obtain ⟨a1, a2, a3⟩ := at_ i ex hex
      have c2 := (at_ j ey hey).2.1
      rw [a1] at hwx
      rcases hdyn ey ex j i hij hey hex with h | ⟨_, h⟩
      · left; rw [hix, hjy, Nat.zero_add, Nat.zero_add] at h; exact mask j i h
      · right
        have := h (by simp [isHeavy, hky]) (by simp [isLoad, hkx, hwx])
        rw [a1, c2, a3]
        exact this
  have h0 : Tf 0 = T ∧ Hf 0 = h := by
    simp only [Tf, Hf]
    cases hx : l[0]? with
    | none => rw [hx] at e2; exact e2
    | some x => rw [hx] at e2; exact e2
  have hN : Tf ops.size = T1 ∧ Hf ops.size = h1 := by
    have : l[ops.size]? = none := List.getElem?_eq_none (by omega)
    simp only [Tf, Hf, this, and_self]
  obtain ⟨K, hK0, hK1, hK2, hK3⟩ := next_heavy ops ops.size 0 (by omega)
  have hd0 : ({ w with drawn := w.drawn + 1 } : World) = drawn w 1 := rfl
  refine wp_region_any hmix ?_
  rw [hd0]
  -- memory at the first operation that may change it
  have first : ∀ d, d ≤ K → HRel B (ρ.below (Hf d).next) (Hf d) (drawn w 1) ∧ Step ρ h w (ρ.below (Hf d).next) (Hf d) (drawn w 1) := by
    intro d
    induction d with
    | zero =>
      intro _
      have e : ρ.below (Hf 0).next = ρ := by
        rw [h0.2]
        funext j
        unfold Where.below
        split
        · rfl
        · cases hq : ρ j with
          | none => rfl
          | some m => have := r.dom j m hq; omega
      rw [e, h0.2]
      exact ⟨r.draw 1, Step.draw ρ h w 1⟩
    | succ d ih =>
      intro hd
      obtain ⟨r1, r2⟩ := ih (by omega)
      obtain ⟨p, hp⟩ : ∃ p, ops[d]? = some p := ⟨ops[d]'(by omega), by simp⟩
      rcases tr.still hp (hK3 d p (Nat.zero_le _) (by omega) hp) with e | ⟨cs, e, s, hf, eH⟩
      · rw [e]; exact ⟨r1, r2⟩
      · have hnone : ρ (Hf d).next = none := by
          have := tr.mono' (Nat.zero_le d) (by omega)
          rw [h0.2] at this
          exact r.none_next this
        have eb : ρ.below ((Hf d).next + 1) = ρ.below (Hf d).next := by
          funext j
          by_cases e1 : j = (Hf d).next
          · subst e1; simp [Where.below, hnone]
          · by_cases e2 : j < (Hf d).next
            · simp [Where.below, e2, show j < (Hf d).next + 1 by omega]
            · simp [Where.below, e2, show ¬ j < (Hf d).next + 1 by omega]
        rw [eH, Heap.next_new, eb]
        exact ⟨r1.ghost _, r2.ghostNew r1.dom _⟩
  have I : Inv P n B ops Tf Hf vf ρ w ds (fun (i : Nat) => (Array.replicate ops.size false)[i]? = some true) K ρ a (drawn w 1) := by
    have no : ∀ i, ¬ (fun (i : Nat) => (Array.replicate ops.size false)[i]? = some true) i := by
      intro i hi
      simp only [Array.getElem?_replicate] at hi
      split at hi <;> simp at hi
    refine ⟨fun j o hj => absurd hj (no j), hK1, hK2, fun j o hj ho hh => absurd hh (hK3 j o (Nat.zero_le _) hj ho), fun j o _ _ _ => no j, hE.size, hE.defers, fun i o d hi => absurd hi (no i), ?_, (first K (Nat.le_refl _)).1, ?_,
      fun i o cs e s hi => absurd hi (no i), ?_, ?_⟩
    · intro t v _ hv; rw [h0.1] at hv; exact hE.val t v hv
    · rw [h0.2]; exact (first K (Nat.le_refl _)).2
    · intro j m hj
      left
      have h2 := tr.mono' (Nat.zero_le K) hK1
      rw [h0.2] at h2
      have := r.dom j m hj
      omega
    · intro i o cs e s _ hi hf
      have hid := tr.mono' (Nat.zero_le i) (by have := fresh_size hf; omega)
      rw [h0.2] at hid
      refine ⟨r.none_next hid, ?_⟩
      have h5 := (tr.fresh hf).2
      have h6 := (tr.keep (id := (Hf i).next) (i + 1) (K - (i + 1)) (by omega) (fun j o h1 h2 h3 => hK3 j o (Nat.zero_le _) (by omega) h3) (by rw [h5, Heap.next_new]; omega)).1
      rw [show i + 1 + (K - (i + 1)) = K by omega] at h6
      rw [h6, h5, Heap.get_new, if_pos rfl]
  refine draw_any hg hX hst tr ?_ ops.size _ K ρ a (drawn w 1) (by simp) (by simp [List.count_replicate]) I
  intro a' w' ρ' q1 q2 q3
  rw [hN.1] at q1
  rw [hN.2] at q2 q3
  rw [h0.2] at q3
  exact hQ a' w' ρ' q1 q2 q3

theorem runDraw_sound {ops : Array Oper} {Q : Exit → Act → World → Prop} {T T' : Env} {h h' : Heap} {ρ : Where} {w : World} {a : Act} {id : Nat} (hmix : P.follows .mixedOrders = true) (hg : Sim P B g) (hX : ExtOk P X) (hm : NextMono g)
    (hr : runDraw P X g n ops T h = some (T', h')) (hE : ERel ds ρ n T a) (r : HRel B ρ h w)
    (hQ : ∀ a' w' ρ', ERel ds ρ' n T' a' → HRel B ρ' h' w' → Step ρ h w ρ' h' w' → Q .normal a' w') : (Code.region id ops true).wp P Q a w := by
  unfold runDraw at hr
  split at hr
  · rename_i hst
    simp only [Option.bind_eq_some_iff] at hr
    obtain ⟨⟨l, T1, h1⟩, ht, hr⟩ := hr
    simp only [] at hr
    split at hr
    · rename_i hdyn
      obtain ⟨rfl, rfl⟩ := Prod.mk.inj (Option.some.inj hr)
      obtain ⟨e1, e2, e3, e4, e5⟩ := trace_spec (P := P) (X := X) (n := n) hm ops.toList 0 rfl r.fresh ht
      exact draw_of (G := fun _ => g) hmix (fun _ => hg) hX hst (.of_ok hdyn) (by simpa using e1) e2 e4 e5 hE r hQ
    · cases hr
  · cases hr

/-! ### what stays of the numbers -/
theorem runOps_next {ops : Array Oper} (hm : NextMono g) : ∀ (rest : List Oper) {T T' : Env} {h h' : Heap}, h.ok → runOps P X g n ops rest T h = some (T', h') → h.next ≤ h'.next ∧ h'.ok
  | [], T, T', h, h', hk, hr => by
    obtain ⟨_, rfl⟩ := Prod.mk.inj (Option.some.inj hr)
    exact ⟨Nat.le_refl _, hk⟩
  | o :: rest, T, T', h, h', hk, hr => by
    simp only [runOps, Option.bind_eq_some_iff] at hr
    obtain ⟨⟨v, h1⟩, hv, T1, _, hr⟩ := hr
    obtain ⟨a1, a2⟩ := aval_next hm hk hv
    obtain ⟨b1, b2⟩ := runOps_next hm rest a2 hr
    exact ⟨Nat.le_trans a1 b1, b2⟩

theorem evCode_next (hm : NextMono g) : ∀ (k : Nat) (c : Code) {T T' : Env} {h h' : Heap} {e : AExit}, h.ok → evCode P X g n k c T h = some (e, T', h') → h.next ≤ h'.next ∧ h'.ok
  | 0, c, T, T', h, h', e, _, hr => by simp [evCode] at hr
  | k + 1, c, T, T', h, h', e, hk, hr => by
    have same : ∀ {e2 : AExit}, (some (e2, T, h) : Option (AExit × Env × Heap)) = some (e, T', h') → h.next ≤ h'.next ∧ h'.ok := by
      intro e2 hh
      simp only [Option.some.injEq, Prod.mk.injEq] at hh
      obtain ⟨_, _, rfl⟩ := hh
      exact ⟨Nat.le_refl _, hk⟩
    unfold evCode at hr
    split at hr
    · exact same hr
    · exact same hr
    · obtain ⟨⟨T1, h1⟩, h2, h3⟩ := Option.map_eq_some_iff.mp hr
      simp only [Prod.mk.injEq] at h3
      obtain ⟨_, _, rfl⟩ := h3
      exact runOps_next hm _ hk h2
    · obtain ⟨⟨T1, h1⟩, h2, h3⟩ := Option.map_eq_some_iff.mp hr
      simp only [Prod.mk.injEq] at h3
      obtain ⟨_, _, rfl⟩ := h3
      unfold runDraw at h2
      split at h2
      · simp only [Option.bind_eq_some_iff] at h2
        obtain ⟨⟨l, T2, h4⟩, ht, h2⟩ := h2
        simp only [] at h2
        split at h2
        · obtain ⟨_, rfl⟩ := Prod.mk.inj (Option.some.inj h2)
          obtain ⟨_, _, e3, e4, _⟩ := trace_spec (P := P) (X := X) (n := n) hm _ 0 rfl hk ht
          exact ⟨e3, e4⟩
        · cases h2
      · cases h2
    · split at hr
      · rename_i T1 h1 h2
        obtain ⟨a1, a2⟩ := evCode_next hm k _ hk h2
        obtain ⟨b1, b2⟩ := evCode_next hm k _ a2 hr
        exact ⟨Nat.le_trans a1 b1, b2⟩
      · exact evCode_next hm k _ hk hr
    · split at hr
      · exact evCode_next hm k _ hk hr
      · exact evCode_next hm k _ hk hr
      · cases hr
    · split at hr
      · rename_i i T1 h1 h2
        have := evCode_next hm k _ hk h2
        split at hr
        · simp only [Option.some.injEq, Prod.mk.injEq] at hr; obtain ⟨_, _, rfl⟩ := hr; exact this
        · simp only [Option.some.injEq, Prod.mk.injEq] at hr; obtain ⟨_, _, rfl⟩ := hr; exact this
      · exact evCode_next hm k _ hk hr
    · split at hr
      · rename_i T1 h1 h2
        obtain ⟨a1, a2⟩ := evCode_next hm k _ hk h2
        obtain ⟨b1, b2⟩ := evCode_next hm k _ a2 hr
        exact ⟨Nat.le_trans a1 b1, b2⟩
      · exact evCode_next hm k _ hk hr
    · exact same hr
    · exact same hr
    · cases hr

theorem evBody_next (hm : NextMono g) {k : Nat} {f : FuncId} {args : List Value} {h h' : Heap} {v : Value} (hk : h.ok) (hr : evBody P X g k f args h = some (v, h')) : h.next ≤ h'.next ∧ h'.ok := by
  unfold evBody at hr
  split at hr
  · cases hr
  · split at hr
    · cases hr
    · split at hr
      · split at hr
        · rename_i hc
          obtain ⟨_, _, hr⟩ := Option.map_eq_some_iff.mp hr
          obtain ⟨_, rfl⟩ := Prod.mk.inj hr
          exact evCode_next hm k _ hk hc
        · rename_i hc
          obtain ⟨_, _, hr⟩ := Option.map_eq_some_iff.mp hr
          obtain ⟨_, rfl⟩ := Prod.mk.inj hr
          exact evCode_next hm k _ hk hc
        · cases hr
      · cases hr

theorem evFn_next {s : Caller} (hs : NextMono s) : ∀ k, NextMono (evFn P X s k)
  | 0 => fun f args h v h' _ hr => by simp [evFn] at hr
  | k + 1 => fun f args h v h' hk hr => by
    simp only [evFn] at hr
    split at hr
    · rename_i r hsr
      obtain rfl := Option.some.inj hr
      exact hs _ _ _ _ _ hk hsr
    · exact evBody_next (evFn_next hs k) hk hr

/-! ### code -/
theorem evCode_sound (hmix : P.follows .mixedOrders = true) (hg : Sim P B g) (hX : ExtOk P X) (hm : NextMono g) : ∀ (k : Nat) (c : Code) {T T' : Env} {h h' : Heap} {e : AExit} {ρ : Where} {a : Act} {w : World} {Q : Exit → Act → World → Prop},
    evCode P X g n k c T h = some (e, T', h') → ERel ds ρ n T a → HRel B ρ h w →
    (∀ a' w' ρ', ERel ds ρ' n T' a' → HRel B ρ' h' w' → Step ρ h w ρ' h' w' → Q e.out a' w') → c.wp P Q a w
  | 0, c, T, T', h, h', e, ρ, a, w, Q, hr, _, _, _ => by simp [evCode] at hr
  | k + 1, c, T, T', h, h', e, ρ, a, w, Q, hr, hE, r, hQ => by
    have same : ∀ {e2 : AExit}, (some (e2, T, h) : Option (AExit × Env × Heap)) = some (e, T', h') → Q e2.out a w := by
      intro e2 hh
      simp only [Option.some.injEq, Prod.mk.injEq] at hh
      obtain ⟨rfl, rfl, rfl⟩ := hh
      exact hQ a w ρ hE r (Step.refl _ _ _)
    unfold evCode at hr
    split at hr
    · exact wp_skip (same hr)
    · exact wp_label (same hr)
    · rename_i id ops
      obtain ⟨⟨T1, h1⟩, h2, h3⟩ := Option.map_eq_some_iff.mp hr
      simp only [Prod.mk.injEq] at h3
      obtain ⟨rfl, rfl, rfl⟩ := h3
      refine wp_region ?_
      have := runOps_sound (Q := Q) hg hX ops.toList 0 rfl h2 hE r hQ
      rwa [Array.length_toList, ← List.range_eq_range'] at this
    · obtain ⟨⟨T1, h1⟩, h2, h3⟩ := Option.map_eq_some_iff.mp hr
      simp only [Prod.mk.injEq] at h3
      obtain ⟨rfl, rfl, rfl⟩ := h3
      exact runDraw_sound hmix hg hX hm h2 hE r hQ
    · split at hr
      · rename_i T1 h1 h2
        refine wp_seq (evCode_sound hmix hg hX hm k _ h2 hE r ?_)
        intro a1 w1 ρ1 q1 q2 q3
        refine evCode_sound hmix hg hX hm k _ hr q1 q2 ?_
        intro a2 w2 ρ2 p1 p2 p3
        exact hQ a2 w2 ρ2 p1 p2 (q3.trans p3)
      · rename_i hno
        refine wp_seq (evCode_sound hmix hg hX hm k _ hr hE r ?_)
        intro a1 w1 ρ1 q1 q2 q3
        have := hQ a1 w1 ρ1 q1 q2 q3
        cases e with
        | normal => exact absurd hr (hno _ _)
        | exit i => exact this
        | ret => exact this
    · rename_i x y z
      split at hr
      · rename_i hx
        have := hE.rv hx
        generalize hev : a.eval x = v at this
        cases this
        exact wp_cond_true hev (evCode_sound hmix hg hX hm k y hr hE r hQ)
      · rename_i hx
        have := hE.rv hx
        generalize hev : a.eval x = v at this
        cases this
        exact wp_cond_false hev (evCode_sound hmix hg hX hm k z hr hE r hQ)
      · cases hr
    · rename_i id b
      split at hr
      · rename_i i T1 h1 h2
        split at hr
        · rename_i hid
          simp only [Option.some.injEq, Prod.mk.injEq] at hr
          obtain ⟨rfl, rfl, rfl⟩ := hr
          refine wp_block (evCode_sound hmix hg hX hm k b h2 hE r ?_)
          intro a1 w1 ρ1 q1 q2 q3
          simp only [AExit.out, Exit.inBlock, hid, if_true]
          exact hQ a1 w1 ρ1 q1 q2 q3
        · rename_i hid
          simp only [Option.some.injEq, Prod.mk.injEq] at hr
          obtain ⟨rfl, rfl, rfl⟩ := hr
          refine wp_block (evCode_sound hmix hg hX hm k b h2 hE r ?_)
          intro a1 w1 ρ1 q1 q2 q3
          simp only [AExit.out, Exit.inBlock, hid, if_false]
          exact hQ a1 w1 ρ1 q1 q2 q3
      · rename_i hno
        refine wp_block (evCode_sound hmix hg hX hm k b hr hE r ?_)
        intro a1 w1 ρ1 q1 q2 q3
        have := hQ a1 w1 ρ1 q1 q2 q3
        cases e with
        | normal => exact this
        | exit i => exact absurd hr (hno _ _ _)
        | ret => exact this
    · rename_i b
      -- the rounds
      have rounds : ∀ (j : Nat), j ≤ k + 1 → ∀ {T1 : Env} {h1 : Heap} {ρ1 : Where} {a1 : Act} {w1 : World}, evCode P X g n j (.loop b) T1 h1 = some (e, T', h') → ERel ds ρ1 n T1 a1 → HRel B ρ1 h1 w1 → Step ρ h w ρ1 h1 w1 →
          Code.rounds P b Q j a1 w1 := by
        intro j
        induction j with
        | zero => intro _ T1 h1 ρ1 a1 w1 hr1; simp [evCode] at hr1
        | succ j ih =>
          intro hj T1 h1 ρ1 a1 w1 hr1 e1 r1 s1
          rw [rounds_succ]
          have core : ∀ (T2 : Env) (h2 : Heap) (e2 : AExit), evCode P X g n j b T1 h1 = some (e2, T2, h2) → (∀ a' w' ρ', ERel ds ρ' n T2 a' → HRel B ρ' h2 w' → Step ρ1 h1 w1 ρ' h2 w' → Exit.then (Code.rounds P b Q j) Q e2.out a' w') →
              b.wp P (Exit.then (Code.rounds P b Q j) Q) a1 w1 := by
            intro T2 h2 e2 hb hq
            exact evCode_sound hmix hg hX hm j b hb e1 r1 hq
          unfold evCode at hr1
          simp only [] at hr1
          split at hr1
          · rename_i T2 h2 hb
            refine core T2 h2 .normal hb ?_
            intro a2 w2 ρ2 q1 q2 q3
            exact ih (by omega) hr1 q1 q2 (s1.trans q3)
          · rename_i hno
            refine core T' h' e hr1 ?_
            intro a2 w2 ρ2 q1 q2 q3
            have := hQ a2 w2 ρ2 q1 q2 (s1.trans q3)
            cases e with
            | normal => exact absurd hr1 (hno _ _)
            | exit i => exact this
            | ret => exact this
      refine wp_loop_rounds (k + 1) (rounds (k + 1) (Nat.le_refl _) ?_ hE r (Step.refl _ _ _))
      unfold evCode
      exact hr
    · exact wp_exit (same hr)
    · exact wp_ret (same hr)
    · cases hr
  termination_by k => k
end
end Go.Proofs.YthijllagngkbgaaGreat.Eng
