/- The engine, part 5: each operation that touches no memory, over row numbers, and that the model's operation does the same. -/
import Derived.Laws.Strings
import Derived.Test.YthijllagngkbgaaGreatEngTab
namespace Go.Proofs.YthijllagngkbgaaGreat.Eng
open Go

def abin (P : Program) (op : BinOp) (t : TypeId) (x y : Value) : Option Value :=
  match x, y with
  | .int k a, .int k' b =>
    match op with
    | .shl | .shr => ashift op k a b
    | _ => if k = k' then aint op k a b else none
  | .agg xs, .agg ys =>
    if P.eqGuardType P.depth t then none else
    match op with
    | .eql => (aeq P 10000 t (.agg xs) (.agg ys)).map .bool
    | .neq => (aeq P 10000 t (.agg xs) (.agg ys)).map fun b => .bool (!b)
    | _ => none
  | .bool _, y | .pointer _, y | .slice _ _ _, y =>
    match op with
    | .eql => (aeq P 10000 t x y).map .bool
    | .neq => (aeq P 10000 t x y).map fun b => .bool (!b)
    | _ => none
  | .string a, .string b =>
    match op with
    | .eql => some (.bool (a.data.toList == b.data.toList))
    | .neq => some (.bool (!(a.data.toList == b.data.toList)))
    | _ => none
  | .nilIface, .nilIface =>
    match P.underlying t with
    | some (.interface ms) => if ms.isEmpty then (match op with
      | .eql => some (.bool true)
      | .neq => some (.bool false)
      | _ => none) else none
    | _ => none
  | _, _ => none

def aun (op : UnOp) (x : Value) : Option Value :=
  match op, x with
  | .neg, .int k n => some (.int k (k.wrap (0 - n)))
  | .xor, .int k n => some (.int k (bits .xor k (if k.signed then -1 else k.max) n))
  | .not, .bool b => some (.bool (!b))
  | _, _ => none

variable {P : Program}

theorem aint_run {op : BinOp} {k : IntKind} {x y : Int} {v : Value} (t : TypeId) (h : aint op k x y = some v) (hop : op ≠ .shl ∧ op ≠ .shr) (w : World) :
    (binOp op t (.int k x) (.int k y)).run P w = .ok v w := by
  cases op <;> simp only [aint] at h <;> try (cases h; done)
  all_goals first
    | (obtain rfl := Option.some.inj h; simp [binOp, Op.intArith, Op.intCmp]; done)
    | (obtain rfl := Option.some.inj h; simp [binOp, intBits_and, intBits_or, intBits_xor, intBits_andNot]; done)
    | (split at h
       · cases h
       · obtain rfl := Option.some.inj h; simp [binOp, Op.intDiv, *]; done)

theorem ashift_run {op : BinOp} {k k' : IntKind} {x y : Int} {v : Value} (t : TypeId) (h : ashift op k x y = some v) (w : World) :
    (binOp op t (.int k x) (.int k' y)).run P w = .ok v w := by
  unfold ashift at h
  split at h
  · cases h
  · rename_i hy
    cases op <;> simp only [] at h <;> try (cases h; done)
    all_goals (obtain rfl := Option.some.inj h; simp [binOp, Op.shift, hy])

theorem eqGuard_none (op : BinOp) (t : TypeId) (x y : Operand) {u v : Value} (h1 : ∀ a, u ≠ .agg a) (h2 : u ≠ .nilIface) (w : World) : (eqGuard op t x y u v).run P w = .ok () w := by
  unfold eqGuard
  cases op <;> simp <;> (cases u <;> first | rfl | (exfalso; exact h1 _ rfl) | (exfalso; exact h2 rfl))

theorem eqGuardIn_nil {t : TypeId} {ms : _} (hu : P.underlying t = some (.interface ms)) (n : Nat) (w : World) : (Op.eqGuardIn (n + 1) t .nilIface .nilIface).run P w = .ok (!ms.isEmpty) w := by
  unfold Op.eqGuardIn
  simp [run_underlying hu]
theorem equalIn_nil {t : TypeId} {ms : _} (hu : P.underlying t = some (.interface ms)) (n : Nat) (w : World) : (Op.equalIn (n + 1) t .nilIface .nilIface).run P w = .ok true w := by
  unfold Op.equalIn
  simp [run_underlying hu]
theorem eqGuard_nil {t : TypeId} {ms : _} (hu : P.underlying t = some (.interface ms)) (hm : ms.isEmpty = true) {op : BinOp} (hop : op = .eql ∨ op = .neq) (ox oy : Operand) (w : World) : (eqGuard op t ox oy .nilIface .nilIface).run P w = .ok () w := by
  have h1 : (Op.eqGuardIn Op.maxDepth t .nilIface .nilIface).run P w = .ok false w := by
    have := eqGuardIn_nil (P := P) hu 9999 w
    rw [hm] at this
    exact this
  unfold eqGuard
  rcases hop with rfl | rfl <;> cases ox <;> cases oy <;> simp [h1]
theorem abin_run {ρ : Where} {op : BinOp} {t : TypeId} {x y v x' y' : Value} (ox oy : Operand) (h : abin P op t x y = some v) (hx : VRel ρ x x') (hy : VRel ρ y y') :
    (∀ w, (do eqGuard op t ox oy x' y'; binOp op t x' y' : Sem Value).run P w = .ok v w) ∧ VRel ρ v v := by
  unfold abin at h
  split at h
  · cases hx; cases hy
    constructor
    · intro w
      rw [Sem.run_bind, eqGuard_none _ _ _ _ (by intro a h; cases h) (by intro h; cases h), Result.andThen_ok]
      split at h
      · exact ashift_run t h w
      · exact ashift_run t h w
      · rename_i h1 h2
        split at h
        · rename_i hk; subst hk
          exact aint_run t h ⟨h1, h2⟩ w
        · cases h
    · split at h
      · simp only [ashift] at h
        split at h
        · cases h
        · obtain rfl := Option.some.inj h; exact .int _ _
      · simp only [ashift] at h
        split at h
        · cases h
        · obtain rfl := Option.some.inj h; exact .int _ _
      · split at h
        · cases op <;> simp only [aint] at h <;> first
            | (cases h; done)
            | (obtain rfl := Option.some.inj h; first | exact .int _ _ | exact .bool _)
            | (split at h
               · cases h
               · obtain rfl := Option.some.inj h; exact .int _ _)
        · cases h
  · rename_i xs ys
    cases hx with
    | agg _ xs' hx =>
      cases hy with
      | agg _ ys' hy =>
        split at h
        · cases h
        · rename_i hg
          have hg' : P.eqGuardType P.depth t = false := by simpa using hg
          split at h <;> try (cases h; done)
          · obtain ⟨b, hb, rfl⟩ := Option.map_eq_some_iff.mp h
            refine ⟨fun w => ?_, .bool _⟩
            have := aeq_run 10000 t _ _ b _ _ hb (.agg _ _ hx) (.agg _ _ hy) w
            simp [eqGuard, hg', binOp, Op.equal, Op.maxDepth, this]
          · obtain ⟨b, hb, rfl⟩ := Option.map_eq_some_iff.mp h
            refine ⟨fun w => ?_, .bool _⟩
            have := aeq_run 10000 t _ _ b _ _ hb (.agg _ _ hx) (.agg _ _ hy) w
            simp [eqGuard, hg', binOp, Op.equal, Op.maxDepth, this]
  case h_6 =>
    cases hx
    cases hy
    split at h
    · obtain rfl := Option.some.inj h
      refine ⟨fun w => ?_, .bool _⟩
      rw [Sem.run_bind, eqGuard_none _ _ _ _ (by intro a h; cases h) (by intro h; cases h), Result.andThen_ok]
      simp [binOp, Op.stringOp, ByteArray.toList_eq]
    · obtain rfl := Option.some.inj h
      refine ⟨fun w => ?_, .bool _⟩
      rw [Sem.run_bind, eqGuard_none _ _ _ _ (by intro a h; cases h) (by intro h; cases h), Result.andThen_ok]
      simp [binOp, Op.stringOp, ByteArray.toList_eq]
    · cases h
  case h_7 =>
    split at h
    · rename_i ms hu
      split at h
      · rename_i hm
        cases hx
        cases hy
        have h2 : ∀ w, (Op.equal t .nilIface .nilIface).run P w = .ok true w := fun w => equalIn_nil (P := P) hu 9999 w
        split at h
        · obtain rfl := Option.some.inj h
          refine ⟨fun w => ?_, .bool _⟩
          rw [Sem.run_bind, eqGuard_nil hu hm (.inl rfl), Result.andThen_ok]
          simp [binOp, h2]
        · obtain rfl := Option.some.inj h
          refine ⟨fun w => ?_, .bool _⟩
          rw [Sem.run_bind, eqGuard_nil hu hm (.inr rfl), Result.andThen_ok]
          simp [binOp, h2]
        · cases h
      · cases h
    · cases h
  all_goals first
    | (cases h; done)
    | (split at h <;> try (cases h; done)
       all_goals
        obtain ⟨b, hb, rfl⟩ := Option.map_eq_some_iff.mp h
        refine ⟨fun w => ?_, .bool _⟩
        have := aeq_run 10000 t _ _ b _ _ hb hx hy w
        rw [Sem.run_bind, eqGuard_none _ _ _ _ (by intro a h; subst h; cases hx) (by intro h; subst h; cases hx), Result.andThen_ok]
        have hyy : ∀ k n, y' ≠ .int k n := by
          intro k n e; subst e; cases hy <;>
          · unfold aeq at hb
            split at hb <;> simp_all
        cases hx <;> cases hy <;> first
          | (simp [binOp, Op.equal, Op.maxDepth, this]; done)
          | (exfalso; exact hyy _ _ rfl))

/-! ### numbers that are left open, too -/
def abinT (P : Program) (op : BinOp) (t : TypeId) (x y : Value) : Option Value := match abin P op t x y with
  | some v => some v
  | none => tokBin op x y
theorem abinT_of {op : BinOp} {t : TypeId} {x y v : Value} (h : abin P op t x y = some v) : abinT P op t x y = some v := by unfold abinT; rw [h]
theorem abin_num {op : BinOp} {t : TypeId} {x y v : Value} (h : intOp op x y = some v) : abin P op t x y = some v := by
  unfold intOp at h
  split at h
  · unfold abin; exact h
  · cases h
theorem abinT_run {ρ : Where} {op : BinOp} {t : TypeId} {x y v x' y' : Value} (ox oy : Operand) (h : abinT P op t x y = some v) (hx : VRel ρ x x') (hy : VRel ρ y y') :
    ∃ v', (∀ w, (do eqGuard op t ox oy x' y'; binOp op t x' y' : Sem Value).run P w = .ok v' w) ∧ VRel ρ v v' := by
  unfold abinT at h
  split at h
  · rename_i u hu
    obtain rfl := Option.some.inj h
    exact ⟨u, (abin_run ox oy hu hx hy).1, (abin_run ox oy hu hx hy).2⟩
  · have core : ∀ {l : Loc} {r c p q : Nat} {a b : Od} {o : Od}, ρ r = some l → l.kind = .vals p q → Cls c p q → findT c op a b = some o → x' = a.num p q → y' = b.num p q → v = o.tok r c →
        VRel ρ (a.num p q) (a.num p q) → VRel ρ (b.num p q) (b.num p q) → ∃ v', (∀ w, (do eqGuard op t ox oy x' y'; binOp op t x' y' : Sem Value).run P w = .ok v' w) ∧ VRel ρ v v' := by
      intro l r c p q a b o hρ hk hc hf e1 e2 e3 ha hb
      subst e1 e2 e3
      obtain ⟨h1, h2⟩ := findT_spec hc hf
      exact ⟨o.num p q, (abin_run ox oy (abin_num (P := P) (t := t) h1) ha hb).1, tok_rel hρ hk hc h2⟩
    unfold tokBin at h
    split at h
    · obtain ⟨o, ho, e⟩ := Option.map_eq_some_iff.mp h
      cases hy
      cases hx with
      | tok _ _ _ ht =>
        obtain ⟨l, p, q, h1, h2, h3, rfl⟩ := ht
        exact core h1 h2 h3 ho rfl rfl e.symm (.int _ _) (.int _ _)
    · obtain ⟨o, ho, e⟩ := Option.map_eq_some_iff.mp h
      cases hx
      cases hy with
      | tok _ _ _ ht =>
        obtain ⟨l, p, q, h1, h2, h3, rfl⟩ := ht
        exact core h1 h2 h3 ho rfl rfl e.symm (.int _ _) (.int _ _)
    · split at h
      · rename_i hb
        obtain ⟨rfl, hcc⟩ := hb
        obtain ⟨o, ho, e⟩ := Option.map_eq_some_iff.mp h
        cases hx with
        | tok _ _ _ ht =>
          cases hy with
          | tok _ _ _ ht' =>
            obtain ⟨l, p, q, h1, h2, h3, rfl⟩ := ht
            obtain ⟨l', p', q', h1', h2', h3', rfl⟩ := ht'
            rw [h1] at h1'
            obtain rfl := Option.some.inj h1'
            rw [h2] at h2'
            obtain ⟨rfl, rfl⟩ := LK.vals.inj h2'
            exact core h1 h2 h3 ho rfl rfl e.symm (.int _ _) (.int _ _)
      · cases h
    · cases h
end Go.Proofs.YthijllagngkbgaaGreat.Eng
