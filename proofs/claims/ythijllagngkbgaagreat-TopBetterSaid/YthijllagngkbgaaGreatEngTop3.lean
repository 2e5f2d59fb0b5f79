/- The engine, part 32: calls with deferred calls and selects as summaries for the evaluator. -/
import Derived.Test.YthijllagngkbgaaGreatEngTop2
namespace Go.Proofs.YthijllagngkbgaaGreat.Eng
open Go
section
variable {P : Program} {X : Ext} {g : Caller} {n : Nat}
theorem Heap.ok_at {h : Heap} (hk : h.ok) {i : Nat} {t u : Thing} (hg : h.get i = some t) : (h.put i u).ok := by
  intro j hj
  rw [Heap.next_put] at hj
  rw [Heap.get_put, if_neg]
  · exact hk j hj
  · intro e
    subst e
    rw [hk _ hj] at hg
    cases hg
theorem runDef_next {ops : Array Oper} (hm : NextMono g) : ∀ (rest : List Oper) {T T' : Env} {h h' : Heap} {D D' : List Value}, h.ok → runDef P X g n ops rest T h D = some (T', h', D') → h.next ≤ h'.next ∧ h'.ok
  | [], T, T', h, h', D, D', hk, hr => by
    simp only [runDef, Option.some.injEq, Prod.mk.injEq] at hr
    obtain ⟨_, rfl, _⟩ := hr
    exact ⟨Nat.le_refl _, hk⟩
  | o :: rest, T, T', h, h', D, D', hk, hr => by
    unfold runDef at hr
    split at hr
    · split at hr
      · split at hr
        · obtain ⟨_, _, hr⟩ := Option.bind_eq_some_iff.mp hr
          exact runDef_next hm rest hk hr
        · cases hr
      · cases hr
    · split at hr
      · simp only [Option.bind_eq_some_iff] at hr
        obtain ⟨_, _, _, _, hr⟩ := hr
        exact runDef_next hm rest hk hr
      · simp only [Option.bind_eq_some_iff] at hr
        obtain ⟨⟨v, h1⟩, hv, T1, _, hr⟩ := hr
        obtain ⟨a1, a2⟩ := aval_next hm hk hv
        obtain ⟨b1, b2⟩ := runDef_next hm rest a2 hr
        exact ⟨Nat.le_trans a1 b1, b2⟩
    · simp only [Option.bind_eq_some_iff] at hr
      obtain ⟨⟨v, h1⟩, hv, T1, _, hr⟩ := hr
      obtain ⟨a1, a2⟩ := aval_next hm hk hv
      obtain ⟨b1, b2⟩ := runDef_next hm rest a2 hr
      exact ⟨Nat.le_trans a1 b1, b2⟩
theorem selAt_next {T : Env} {h h1 : Heap} {c : SelectCase} {v : Value} (hk : h.ok) (hs : selAt P T h c = some (v, h1)) : h.next ≤ h1.next ∧ h1.ok := by
  unfold selAt at hs
  obtain ⟨z, _, hs⟩ := Option.bind_eq_some_iff.mp hs
  split at hs
  · split at hs
    · rename_i hg
      split at hs
      · obtain ⟨xv, _, hs⟩ := Option.map_eq_some_iff.mp hs
        split at hs
        · obtain ⟨_, rfl⟩ := Prod.mk.inj hs; exact ⟨Nat.le_refl _, Heap.ok_at hk hg⟩
        · obtain ⟨_, rfl⟩ := Prod.mk.inj hs; exact ⟨Nat.le_refl _, hk⟩
      · split at hs
        · split at hs
          · obtain ⟨_, rfl⟩ := Prod.mk.inj (Option.some.inj hs); exact ⟨Nat.le_refl _, Heap.ok_at hk hg⟩
          · obtain ⟨_, rfl⟩ := Prod.mk.inj (Option.some.inj hs); exact ⟨Nat.le_refl _, hk⟩
        · cases hs
    · cases hs
  · cases hs
theorem evTop_next (hm : NextMono g) : ∀ (k : Nat) (c : Code) {T T' : Env} {h h' : Heap} {D D' : List Value} {e : AExit}, h.ok → evTop P X g n k c T h D = some (e, T', h', D') → h.next ≤ h'.next ∧ h'.ok
  | 0, c, T, T', h, h', D, D', e, _, hr => by simp [evTop] at hr
  | k + 1, c, T, T', h, h', D, D', e, hk, hr => by
    unfold evTop at hr
    split at hr
    · split at hr
      · rename_i T1 h1 D1 h2
        obtain ⟨a1, a2⟩ := evTop_next hm k _ hk h2
        obtain ⟨b1, b2⟩ := evTop_next hm k _ a2 hr
        exact ⟨Nat.le_trans a1 b1, b2⟩
      · exact evTop_next hm k _ hk hr
    · split at hr
      · simp only [Option.some.injEq, Prod.mk.injEq] at hr
        obtain ⟨_, _, rfl, _⟩ := hr
        exact ⟨Nat.le_refl _, hk⟩
      · split at hr
        · split at hr
          · simp only [Option.bind_eq_some_iff] at hr
            obtain ⟨⟨v, h1⟩, hs, T1, _, hr⟩ := hr
            obtain ⟨⟨T2, h2⟩, hro, hr⟩ := Option.map_eq_some_iff.mp hr
            simp only [Prod.mk.injEq] at hr
            obtain ⟨_, _, rfl, _⟩ := hr
            obtain ⟨a1, a2⟩ := selAt_next hk hs
            obtain ⟨b1, b2⟩ := runOps_next hm _ a2 hro
            exact ⟨Nat.le_trans a1 b1, b2⟩
          · cases hr
        · obtain ⟨⟨T2, h2, D2⟩, hro, hr⟩ := Option.map_eq_some_iff.mp hr
          simp only [Prod.mk.injEq] at hr
          obtain ⟨_, _, rfl, _⟩ := hr
          exact runDef_next hm _ hk hro
    · obtain ⟨⟨e1, T2, h2⟩, hro, hr⟩ := Option.map_eq_some_iff.mp hr
      simp only [Prod.mk.injEq] at hr
      obtain ⟨_, _, rfl, _⟩ := hr
      exact evCode_next hm _ _ hk hro
theorem evRec_next (hm : NextMono g) {k : Nat} {v : Value} {h h' : Heap} (hk : h.ok) (he : evRec P X g k v h = some h') : h.next ≤ h'.next ∧ h'.ok := by
  unfold evRec at he
  split at he
  · split at he
    · cases he
    · split at he
      · cases he
      · split at he
        · split at he
          · split at he
            · split at he
              · simp only [Option.bind_eq_some_iff] at he
                obtain ⟨T1, _, ⟨T2, h2⟩, hro, ⟨e3, T3, h3⟩, hco, he⟩ := he
                obtain ⟨a1, a2⟩ := runOps_next hm _ hk hro
                obtain ⟨b1, b2⟩ := evCode_next hm _ _ a2 hco
                have key : h3 = h' → h.next ≤ h'.next ∧ h'.ok := fun e => by subst e; exact ⟨Nat.le_trans a1 b1, b2⟩
                cases e3 with
                | normal => obtain ⟨_, _, hh⟩ := Option.map_eq_some_iff.mp he; exact key hh
                | ret => obtain ⟨_, _, hh⟩ := Option.map_eq_some_iff.mp he; exact key hh
                | exit i => cases he
              · cases he
            · cases he
          · cases he
        · cases he
  · cases he
theorem evRecs_next (hm : NextMono g) {k : Nat} : ∀ (D : List Value) {h h' : Heap}, h.ok → evRecs P X g k D h = some h' → h.next ≤ h'.next ∧ h'.ok
  | [], h, h', hk, he => by obtain rfl := Option.some.inj he; exact ⟨Nat.le_refl _, hk⟩
  | v :: D, h, h', hk, he => by
    simp only [evRecs, Option.bind_eq_some_iff] at he
    obtain ⟨h1, he1, he⟩ := he
    obtain ⟨a1, a2⟩ := evRec_next hm hk he1
    obtain ⟨b1, b2⟩ := evRecs_next hm D a2 he
    exact ⟨Nat.le_trans a1 b1, b2⟩
theorem evSpine_next (hm : NextMono g) (k : Nat) : NextMono (evSpine P X g k) := by
  intro f args h v h' hk hr
  unfold evSpine at hr
  split at hr
  · cases hr
  · split at hr
    · cases hr
    · split at hr
      · obtain ⟨⟨e, T1, h1, D1⟩, hcode, hr⟩ := Option.bind_eq_some_iff.mp hr
        obtain ⟨a1, a2⟩ := evTop_next hm k _ hk hcode
        have core : ∀ h2, evRecs P X g k D1 h1 = some h2 → h2 = h' → h.next ≤ h'.next ∧ h'.ok := fun h2 q e => by
          subst e
          obtain ⟨b1, b2⟩ := evRecs_next hm D1 a2 q
          exact ⟨Nat.le_trans a1 b1, b2⟩
        cases e with
        | normal =>
          obtain ⟨h2, hd, hr⟩ := Option.bind_eq_some_iff.mp hr
          obtain ⟨vs, _, hr⟩ := Option.map_eq_some_iff.mp hr
          obtain ⟨_, hh⟩ := Prod.mk.inj hr
          exact core h2 hd hh
        | ret =>
          obtain ⟨h2, hd, hr⟩ := Option.bind_eq_some_iff.mp hr
          obtain ⟨vs, _, hr⟩ := Option.map_eq_some_iff.mp hr
          obtain ⟨_, hh⟩ := Prod.mk.inj hr
          exact core h2 hd hh
        | exit i => cases hr
      · cases hr

/-- some functions by their spines, the others as before -/
def layer (P : Program) (X : Ext) (F : List FuncId) (k : Nat) (inner : Caller) : Caller := fun f args h =>
  if F.contains f then evSpine P X (evFn P X inner k) k f args h else inner f args h
theorem layer_sim {B : Nat} (hmix : P.follows .mixedOrders = true) (hX : ExtOk P X) (F : List FuncId) (k : Nat) {inner : Caller} (hi : Sim P B inner) (hn : NextMono inner) : Sim P B (layer P X F k inner) := by
  intro f args h v h' hr
  unfold layer at hr
  split at hr
  · exact evSpine_sim hmix (evFn_sim hmix hX hi hn k) hX (evFn_next hn k) k f args h v h' hr
  · exact hi f args h v h' hr
theorem layer_next (F : List FuncId) (k : Nat) {inner : Caller} (hn : NextMono inner) : NextMono (layer P X F k inner) := by
  intro f args h v h' hk hr
  unfold layer at hr
  split at hr
  · exact evSpine_next (evFn_next hn k) k f args h v h' hk hr
  · exact hn f args h v h' hk hr
/-- a call computed, summaries in use -/
theorem DoesOk.of_evS {s : Caller} {k : Nat} {f : FuncId} {args : List Value} {h h' : Heap} {v : Value} (hmix : P.follows .mixedOrders = true) (hX : ExtOk P X) (hs : ∀ B, Sim P B s) (hsm : NextMono s) (he : evFn P X s k f args h = some (v, h')) : DoesOk P f args h v h' :=
  ⟨fun _ ρ w args' hH ha => evFn_sim hmix hX (hs _) hsm k _ _ _ _ _ he ρ w args' hH ha, fun hk => evFn_next hsm k _ _ _ _ _ hk he⟩
end
end Go.Proofs.YthijllagngkbgaaGreat.Eng
