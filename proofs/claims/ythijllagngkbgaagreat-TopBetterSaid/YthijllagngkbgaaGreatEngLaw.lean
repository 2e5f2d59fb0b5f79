/- The engine, part 23: laws at closed inputs, computed; loops that are computed; a loop's round that leaves rows behind. -/
import Derived.Test.YthijllagngkbgaaGreatEngSym
namespace Go.Proofs.YthijllagngkbgaaGreat.Eng
open Go

/-- does a call come to true? -/
def evIs (P : Program) (X : Ext) (k : Nat) (f : FuncId) (args : List Value) : Bool := match evFn P X noSum k f args Heap.empty with
  | some (.bool true, _) => true
  | _ => false

/-- for all numbers below -/
def allTo : Nat → (Nat → Bool) → Bool
  | 0, _ => true
  | n + 1, p => p n && allTo n p
theorem allTo_spec : ∀ {n : Nat} {p : Nat → Bool}, allTo n p = true → ∀ i, i < n → p i = true
  | n + 1, p, h, i, hi => by
    simp only [allTo, Bool.and_eq_true] at h
    rcases Nat.lt_or_ge i n with h1 | h1
    · exact allTo_spec h.2 i h1
    · obtain rfl : i = n := by omega
      exact h.1

theorem beqB {x y a b c : Bool} (h1 : x = a) (h2 : y = b) (h3 : (a == b) = c) : (x == y) = c := by rw [h1, h2, h3]
theorem bneB {x y a b c : Bool} (h1 : x = a) (h2 : y = b) (h3 : (a != b) = c) : (x != y) = c := by rw [h1, h2, h3]
theorem andB {x y a b c : Bool} (h1 : x = a) (h2 : y = b) (h3 : (a && b) = c) : (x && y) = c := by rw [h1, h2, h3]
theorem orB {x y a b c : Bool} (h1 : x = a) (h2 : y = b) (h3 : (a || b) = c) : (x || y) = c := by rw [h1, h2, h3]
section
variable {P : Program} {X : Ext}

theorem DetFn.of_evIs {f : FuncId} {args : List Value} {k : Nat} (hmix : P.follows .mixedOrders = true) (hX : ExtOk P X) (he : evIs P X k f args = true) : DetFn P f args Heap.empty fun u _ => u = .bool true := by
  unfold evIs at he
  split at he
  · rename_i h1 hev
    exact DetFn.of_ev hmix hX hev rfl
  · cases he

/-- what a call without memory comes to -/
theorem DetFn.of_evFst {f : FuncId} {args : List Value} {v : Value} {k : Nat} (hmix : P.follows .mixedOrders = true) (hX : ExtOk P X) (he : (evFn P X noSum k f args Heap.empty).map Prod.fst = some v) : DetFn P f args Heap.empty fun u _ => u = v := by
  obtain ⟨⟨u, h1⟩, h2, h3⟩ := Option.map_eq_some_iff.mp he
  obtain rfl : u = v := h3
  exact DetFn.of_ev hmix hX h2 rfl

theorem abin_shr {P : Program} {t : TypeId} {k k' : IntKind} {x y : Int} (h : 0 ≤ y) : abin P .shr t (.int k x) (.int k' y) = some (.int k (x.fdiv (2 ^ (min y.toNat k.bits)))) := by
  simp only [abin, ashift]; rw [if_neg (by omega)]
theorem abin_shl {P : Program} {t : TypeId} {k k' : IntKind} {x y : Int} (h : 0 ≤ y) : abin P .shl t (.int k x) (.int k' y) = some (.int k (k.wrap (x * 2 ^ (min y.toNat k.bits)))) := by
  simp only [abin, ashift]; rw [if_neg (by omega)]
theorem wrapU64 (n : Int) : IntKind.u64.wrap n = n % 18446744073709551616 := by simp [IntKind.wrap, IntKind.bits, IntKind.signed]
theorem wrapU32 (n : Int) : IntKind.u32.wrap n = n % 4294967296 := by simp [IntKind.wrap, IntKind.bits, IntKind.signed]
theorem wrapU8 (n : Int) : IntKind.u8.wrap n = n % 256 := by simp [IntKind.wrap, IntKind.bits, IntKind.signed]

/-! ### calls without memory -/
/-- no row number anywhere in it -/
def bare : Nat → Value → Bool
  | 0, _ => false
  | d + 1, .agg x => x.toList.all (bare d)
  | d + 1, .tuple x => x.toList.all (bare d)
  | _ + 1, v => flat v
def noRen : Ren := fun _ => none
theorem bares_rel {d : Nat} (ih : ∀ {v : Value}, bare d v = true → RRel noRen v v) : ∀ {vs : List Value}, vs.all (bare d) = true → RRels noRen vs vs
  | [], _ => .nil
  | v :: vs, h => by
    simp only [List.all_cons, Bool.and_eq_true] at h
    exact .cons _ _ _ _ (ih h.1) (bares_rel ih h.2)
theorem bare_rel : ∀ {d : Nat} {v : Value}, bare d v = true → RRel noRen v v
  | 0, _, h => by cases h
  | d + 1, v, h => by
    unfold bare at h
    split at h
    · cases ‹_ + 1 = 0›
    · rename_i he; obtain rfl := Nat.succ.inj he; exact .agg _ _ (bares_rel bare_rel h)
    · rename_i he; obtain rfl := Nat.succ.inj he; exact .tuple _ _ (bares_rel bare_rel h)
    · exact RRel.flat h

/-- A call whose arguments and answer hold no memory comes to the same in any memory, and leaves it alone. -/
theorem DetFn.bare {f : FuncId} {args : List Value} {v : Value} (hargs : args.all (Eng.bare 4) = true) (hv : Eng.bare 4 v = true) (d : DetFn P f args Heap.empty fun u _ => u = v) (h : Heap) : DetFn P f args h fun u h' => u = v ∧ h' = h := by
  obtain ⟨u, h0, r, rfl⟩ := d
  refine ⟨u, h, ⟨?_, fun hk => ⟨Nat.le_refl _, hk⟩⟩, rfl, rfl⟩
  intro B ρ w args' hH ha
  exact (r.frame (h := h) (h' := h) (π := noRen) (π' := noRen) (fun i _ => Heap.get_empty i) (fun i j e => by cases e) (fun i j _ => Iff.rfl) (fun i j _ e => by cases e) (fun i i' j e => by cases e) (fun i j e => by cases e)
    (bares_rel bare_rel hargs) (bare_rel hv) (fun i j e => by cases e) (fun _ _ _ => rfl) (fun j hj _ => hH.fresh j hj) (Nat.le_refl _) (fun i j e => by cases e)).does B ρ w args' hH ha

/-! ### code that is computed -/
def evcE (P : Program) (X : Ext) (n k : Nat) (c : Code) (T : Env) (h : Heap) : AExit := match evCode P X (evFn P X noSum k) n k c T h with | some (e, _, _) => e | none => .normal
def evcT (P : Program) (X : Ext) (n k : Nat) (c : Code) (T : Env) (h : Heap) : Env := match evCode P X (evFn P X noSum k) n k c T h with | some (_, T', _) => T' | none => T
def evcH (P : Program) (X : Ext) (n k : Nat) (c : Code) (T : Env) (h : Heap) : Heap := match evCode P X (evFn P X noSum k) n k c T h with | some (_, _, h') => h' | none => h

theorem Det.evA {n : Nat} {root : Code} {p : List Nat} {T : Env} {h : Heap} {Φ : AExit → Env → Heap → Prop} (k : Nat) (hmix : P.follows .mixedOrders = true) (hX : ExtOk P X) (he : (evCode P X (evFn P X noSum k) n k (sub root p) T h).isSome = true)
    (d : Φ (evcE P X n k (sub root p) T h) (evcT P X n k (sub root p) T h) (evcH P X n k (sub root p) T h)) : Det P n (sub root p) T h Φ := by
  unfold evcE evcT evcH at d
  cases hr : evCode P X (evFn P X noSum k) n k (sub root p) T h with
  | none => rw [hr] at he; cases he
  | some r =>
    obtain ⟨e, T', h'⟩ := r
    rw [hr] at d
    refine ⟨e, T', h', ⟨?_, fun hk => evCode_next (evFn_next noSum_next k) k _ hk hr⟩, d⟩
    intro ds B ρ a w Q hE hH hQ
    exact evCode_sound hmix (evFn_sim hmix hX noSum_sim noSum_next k) hX (evFn_next noSum_next k) k _ hr hE hH hQ

/-- The rounds of a loop from here on. -/
def DetLp (P : Program) (n : Nat) (root : Code) (p : List Nat) (T : Env) (h : Heap) (Φ : AExit → Env → Heap → Prop) : Prop :=
  ∃ e T' h', Rounds P n (sub root (0 :: p)) T h e T' h' ∧ (h.ok → h.next ≤ h'.next ∧ h'.ok) ∧ Φ e T' h'
theorem Det.unrollA {n : Nat} {root : Code} {p : List Nat} {T : Env} {h : Heap} {Φ : AExit → Env → Heap → Prop} (hs : isLoop (sub root p) = true) (d : DetLp P n root p T h Φ) : Det P n (sub root p) T h Φ := by
  unfold DetLp at d
  simp only [sub] at d
  generalize sub root p = c at *
  cases c with
  | loop b =>
    obtain ⟨e, T', h', r, hn, hp⟩ := d
    exact ⟨e, T', h', ⟨r.runs, hn⟩, hp⟩
  | _ => cases hs
/-- One round gone through. -/
theorem DetLp.step {n : Nat} {root : Code} {p : List Nat} {T : Env} {h : Heap} {Φ : AExit → Env → Heap → Prop}
    (d : Det P n (sub root (0 :: p)) T h fun e T' h' => e.then (DetLp P n root p T' h' Φ) fun e => Φ e T' h') : DetLp P n root p T h Φ := by
  obtain ⟨e, T', h', r, hp⟩ := d
  cases e with
  | normal =>
    obtain ⟨e2, T2, h2, r2, n2, hp2⟩ := hp
    refine ⟨e2, T2, h2, .more r.runs r2, fun hk => ?_, hp2⟩
    have a := r.nx hk
    have b := n2 a.2
    exact ⟨Nat.le_trans a.1 b.1, b.2⟩
  | exit i => exact ⟨_, _, _, .last r.runs (by simp), r.nx, hp⟩
  | ret => exact ⟨_, _, _, .last r.runs (by simp), r.nx, hp⟩

/-- a known state, its slots written out -/
theorem Det.known {n : Nat} {c : Code} {T : Env} {h h₀ : Heap} {Φ : AExit → Env → Heap → Prop} (L : List (Nat × Value)) (hT : (L.map fun p => T.get p.1) = (L.map fun p => some p.2)) (hh : h = h₀) (d : Det P n c (slots L) h₀ Φ) : Det P n c T h Φ := by
  subst hh
  exact Det.weaken (slots_sub hT) d

theorem DetLp.known {n : Nat} {root : Code} {p : List Nat} {T : Env} {h h₀ : Heap} {Φ : AExit → Env → Heap → Prop} (L : List (Nat × Value)) (hT : (L.map fun p => T.get p.1) = (L.map fun p => some p.2)) (hh : h = h₀) (d : DetLp P n root p (slots L) h₀ Φ) :
    DetLp P n root p T h Φ := by
  subst hh
  obtain ⟨e, T', h', r, hn, hp⟩ := d
  refine ⟨e, T', h', ?_, hn, hp⟩
  cases r with
  | last r he => exact .last (r.weaken (slots_sub hT) fun _ _ h => h) he
  | more r t => exact .more (r.weaken (slots_sub hT) fun _ _ h => h) t

/-- A round may drop the rows that it made. -/
theorem Det.dropOr {n : Nat} {c : Code} {T : Env} {h : Heap} {Φ : AExit → Env → Heap → Prop} (d : Det P n c T h fun e T' h' => Φ e T' h' ∨ ∃ T₁ h₁, (∀ t v, T₁.get t = some v → T'.get t = some v ∧ RRel (under h.next) v v) ∧ h₁.next = h.next ∧
    (∀ i, i < h.next → h₁.get i = h'.get i ∧ TRel (under h.next) (h'.get i) (h'.get i)) ∧ (∀ i, h.next ≤ i → h₁.get i = none) ∧ Φ e T₁ h₁) : Det P n c T h Φ := by
  obtain ⟨e, T', h', r, hp | ⟨T₁, h₁, a, b, c, d, hp⟩⟩ := d
  · exact ⟨e, T', h', r, hp⟩
  · exact ⟨e, T₁, h₁, r.drop a b c d, hp⟩
end
end Go.Proofs.YthijllagngkbgaaGreat.Eng
