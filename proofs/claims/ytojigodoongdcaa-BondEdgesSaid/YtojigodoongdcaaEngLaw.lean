/- The engine, part 23: laws at closed inputs, computed; loops that are computed; a loop's round that leaves rows behind. -/
import Derived.Test.YtojigodoongdcaaEngSym
namespace Go.Proofs.Ytojigodoongdcaa.Eng
open Go

/-- does a call come to true? -/
def evIs (P : Program) (X : Ext) (k : Nat) (f : FuncId) (args : List Value) : Bool := match evFn P X noSum k f args Heap.empty with
  | some (.bool true, _) => true
  | _ => false

/-- for all numbers below -/
def allTo : Nat → (Nat → Bool) → Bool
  | 0, _ => true
  | n + 1, p => p n && allTo n p
theorem allTo_spec : ∀ {n : Nat} {p : Nat → Bool}, allTo n p = true → ∀ i, i < n → p i = true
  | n + 1, p, h, i, hi => by
    simp only [allTo, Bool.and_eq_true] at h
    rcases Nat.lt_or_ge i n with h1 | h1
    · exact allTo_spec h.2 i h1
    · obtain rfl : i = n := by omega
      exact h.1

theorem beqB {x y a b c : Bool} (h1 : x = a) (h2 : y = b) (h3 : (a == b) = c) : (x == y) = c := by rw [h1, h2, h3]
theorem bneB {x y a b c : Bool} (h1 : x = a) (h2 : y = b) (h3 : (a != b) = c) : (x != y) = c := by rw [h1, h2, h3]
theorem andB {x y a b c : Bool} (h1 : x = a) (h2 : y = b) (h3 : (a && b) = c) : (x && y) = c := by rw [h1, h2, h3]
theorem orB {x y a b c : Bool} (h1 : x = a) (h2 : y = b) (h3 : (a || b) = c) : (x || y) = c := by rw [h1, h2, h3]
section
variable {P : Program} {X : Ext}

theorem DetFn.of_evIs {f : FuncId} {args : List Value} {k : Nat} (hmix : P.follows .mixedOrders = true) (hX : ExtOk P X) (he : evIs P X k f args = true) : DetFn P f args Heap.empty fun u _ => u = .bool true := by
  unfold evIs at he
  split at he
  · rename_i h1 hev
    exact DetFn.of_ev hmix hX hev rfl
  · cases he

/-- what a call without memory comes to -/
theorem DetFn.of_evFst {f : FuncId} {args : List Value} {v : Value} {k : Nat} (hmix : P.follows .mixedOrders = true) (hX : ExtOk P X) (he : (evFn P X noSum k f args Heap.empty).map Prod.fst = some v) : DetFn P f args Heap.empty fun u _ => u = v := by
  obtain ⟨⟨u, h1⟩, h2, h3⟩ := Option.map_eq_some_iff.mp he
  obtain rfl : u = v := h3
  exact DetFn.of_ev hmix hX h2 rfl

/-! ### code that is computed -/
def evcE (P : Program) (X : Ext) (n k : Nat) (c : Code) (T : Env) (h : Heap) : AExit := match evCode P X (evFn P X noSum k) n k c T h with | some (e, _, _) => e | none => .normal
def evcT (P : Program) (X : Ext) (n k : Nat) (c : Code) (T : Env) (h : Heap) : Env := match evCode P X (evFn P X noSum k) n k c T h with | some (_, T', _) => T' | none => T
def evcH (P : Program) (X : Ext) (n k : Nat) (c : Code) (T : Env) (h : Heap) : Heap := match evCode P X (evFn P X noSum k) n k c T h with | some (_, _, h') => h' | none => h

theorem Det.evA {n : Nat} {root : Code} {p : List Nat} {T : Env} {h : Heap} {Φ : AExit → Env → Heap → Prop} (k : Nat) (hmix : P.follows .mixedOrders = true) (hX : ExtOk P X) (he : (evCode P X (evFn P X noSum k) n k (sub root p) T h).isSome = true)
    (d : Φ (evcE P X n k (sub root p) T h) (evcT P X n k (sub root p) T h) (evcH P X n k (sub root p) T h)) : Det P n (sub root p) T h Φ := by
  unfold evcE evcT evcH at d
  cases hr : evCode P X (evFn P X noSum k) n k (sub root p) T h with
  | none => rw [hr] at he; cases he
  | some r =>
    obtain ⟨e, T', h'⟩ := r
    rw [hr] at d
    refine ⟨e, T', h', ⟨?_, fun hk => evCode_next (evFn_next noSum_next k) k _ hk hr⟩, d⟩
    intro B ρ a w Q hE hH hQ
    exact evCode_sound hmix (evFn_sim hmix hX noSum_sim noSum_next k) hX (evFn_next noSum_next k) k _ hr hE hH hQ

/-- a known state, its slots written out -/
theorem Det.known {n : Nat} {c : Code} {T : Env} {h h₀ : Heap} {Φ : AExit → Env → Heap → Prop} (L : List (Nat × Value)) (hT : (L.map fun p => T.get p.1) = (L.map fun p => some p.2)) (hh : h = h₀) (d : Det P n c (slots L) h₀ Φ) : Det P n c T h Φ := by
  subst hh
  exact Det.weaken (slots_sub hT) d

/-- A round may drop the rows that it made. -/
theorem Det.dropOr {n : Nat} {c : Code} {T : Env} {h : Heap} {Φ : AExit → Env → Heap → Prop} (d : Det P n c T h fun e T' h' => Φ e T' h' ∨ ∃ T₁ h₁, (∀ t v, T₁.get t = some v → T'.get t = some v ∧ RRel (under h.next) v v) ∧ h₁.next = h.next ∧
    (∀ i, i < h.next → h₁.get i = h'.get i ∧ TRel (under h.next) (h'.get i) (h'.get i)) ∧ (∀ i, h.next ≤ i → h₁.get i = none) ∧ Φ e T₁ h₁) : Det P n c T h Φ := by
  obtain ⟨e, T', h', r, hp | ⟨T₁, h₁, a, b, c, d, hp⟩⟩ := d
  · exact ⟨e, T', h', r, hp⟩
  · exact ⟨e, T₁, h₁, r.drop a b c d, hp⟩
end
end Go.Proofs.Ytojigodoongdcaa.Eng
