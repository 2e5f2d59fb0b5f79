/- The engine, part 4: the operations that touch no memory, over row numbers, and that the model's operations do the same. -/
import Derived.Test.YthijllagngkbgaaGreatEngRel
import Derived.ChangeKeysEq
namespace Go.Proofs.YthijllagngkbgaaGreat.Eng
open Go
variable {ds : List Deferred}

/-! ### values without row numbers -/
def flat : Value → Bool
  | .bool _ | .int .. | .string _ | .pointer none | .slice none _ _ | .nilFunc | .nilIface | .chan none | .map none => true
  | _ => false
def ground : Value → Bool
  | .agg x | .tuple x => x.toList.all flat
  | v => flat v

theorem flat_rel (ρ : Where) {v : Value} (h : flat v = true) : VRel ρ v v := by
  unfold flat at h
  split at h <;> first | constructor | cases h
theorem flats_rel (ρ : Where) {vs : List Value} (h : vs.all flat = true) : VRels ρ vs vs := by
  induction vs with
  | nil => exact .nil
  | cons v vs ih =>
    simp only [List.all_cons, Bool.and_eq_true] at h
    exact .cons _ _ _ _ (flat_rel ρ h.1) (ih h.2)
theorem ground_rel (ρ : Where) {v : Value} (h : ground v = true) : VRel ρ v v := by
  unfold ground at h
  split at h
  · exact .agg _ _ (flats_rel ρ h)
  · exact .tuple _ _ (flats_rel ρ h)
  · exact flat_rel ρ h

/-! ### the slots -/
abbrev Env := Tree Value

/-- The slots of a frame of n slots. -/
structure ERel (ds : List Deferred) (ρ : Where) (n : Nat) (T : Env) (a : Act) : Prop where
  val : ∀ t v, T.get t = some v → VRel ρ v (a.tmps.getD t undef)
  size : a.tmps.size = n
  defers : a.defers = ds

theorem ERel.mono {ρ ρ' : Where} {n : Nat} {T : Env} {a : Act} (h : ERel ds ρ n T a) (hle : ρ.le ρ') : ERel ds ρ' n T a := ⟨fun t v e => (h.val t v e).mono hle, h.size, h.defers⟩

def rv (T : Env) : Operand → Option Value
  | .tmp t => T.get t
  | .const v => if ground v then some v else none
  | .global _ => none
  | .func f => some (.func (.func f) #[] #[])

theorem ERel.rv {ρ : Where} {n : Nat} {T : Env} {a : Act} (h : ERel ds ρ n T a) {x : Operand} {v : Value} (hx : rv T x = some v) : VRel ρ v (a.eval x) := by
  cases x with
  | tmp t => exact h.val t v hx
  | const c =>
    simp only [Eng.rv] at hx
    split at hx
    · obtain rfl := Option.some.inj hx; exact ground_rel ρ ‹_›
    · cases hx
  | global g => cases hx
  | func f => obtain rfl := Option.some.inj hx; exact .func _ _ _ _ _ .nil .nil

/-- Several operands. -/
def rvs (T : Env) : List Operand → Option (List Value)
  | [] => some []
  | x :: r => (rv T x).bind fun v => (rvs T r).map (v :: ·)

theorem ERel.rvs {ρ : Where} {n : Nat} {T : Env} {a : Act} (h : ERel ds ρ n T a) : ∀ {xs : List Operand} {vs : List Value}, rvs T xs = some vs → VRels ρ vs (xs.map a.eval)
  | [], vs, hx => by obtain rfl := Option.some.inj hx; exact .nil
  | x :: r, vs, hx => by
    simp only [Eng.rvs, Option.bind_eq_some_iff, Option.map_eq_some_iff] at hx
    obtain ⟨v, hv, us, hu, rfl⟩ := hx
    exact .cons _ _ _ _ (h.rv hv) (ERel.rvs h hu)

/-- A slot is filled; there must be such a slot. -/
def fillSlot (n : Nat) (T : Env) (dst : Option Tmp) (v : Value) : Option Env :=
  match dst with
  | none => some T
  | some d => if d < n then some (T.put d (some v)) else none

theorem ERel.fill {ρ : Where} {n : Nat} {T T' : Env} {a : Act} (h : ERel ds ρ n T a) {dst : Option Tmp} {v v' : Value} (hf : fillSlot n T dst v = some T') (hv : VRel ρ v v') : ERel ds ρ n T' (a.put dst v') := by
  cases dst with
  | none => obtain rfl := Option.some.inj hf; exact h
  | some d =>
    simp only [fillSlot] at hf
    split at hf
    · rename_i hd
      obtain rfl := Option.some.inj hf
      refine ⟨?_, by simp [Act.put, h.size], h.defers⟩
      intro t u hu
      simp only [Act.put]
      rw [Tree.get_put] at hu
      by_cases e : t = d
      · subst e
        rw [if_pos rfl] at hu
        obtain rfl := Option.some.inj hu
        have : t < a.tmps.size := by rw [h.size]; exact hd
        simpa [Array.getD_eq_getD_getElem?, this] using hv
      · rw [if_neg e] at hu
        have := h.val t u hu
        rw [Array.getD_eq_getD_getElem?, Array.getElem?_setIfInBounds_ne (fun x => e x.symm), ← Array.getD_eq_getD_getElem?]
        exact this
    · cases hf

/-! ### types -/
variable (P : Program)
def szOf (t : TypeId) : Option Nat := (P.info? t).map (·.size)
def aggT (t : TypeId) : Option Bool :=
  match P.underlying t with
  | some (.struct _) | some (.array _ _) => some true
  | some _ => some false
  | none => none

variable {P}
theorem run_size {t : TypeId} {n : Nat} (h : szOf P t = some n) (w : World) : (sizeOf t).run P w = .ok n w := by
  unfold szOf at h
  obtain ⟨i, hi, rfl⟩ := Option.map_eq_some_iff.mp h
  simp [sizeOf, run_typeInfo w hi]

theorem run_agg {t : TypeId} {b : Bool} (h : aggT P t = some b) (w : World) : (isAgg t).run P w = .ok b w := by
  unfold aggT at h
  split at h
  · rename_i fs hu; obtain rfl := Option.some.inj h; simp [isAgg, run_underlying hu]
  · rename_i n e hu; obtain rfl := Option.some.inj h; simp [isAgg, run_underlying hu]
  · rename_i d h1 h2 hu
    obtain rfl := Option.some.inj h
    simp only [isAgg, Sem.run_bind, run_underlying hu, Result.andThen_ok]
    cases d <;> first | rfl | (exfalso; exact h1 _ hu) | (exfalso; exact h2 _ _ hu)
  · cases h

/-! ### the part of an aggregate -/
def apart (P : Program) (t : TypeId) (cs : Array Value) (off : Nat) : Option Value :=
  match aggT P t with
  | some true => (szOf P t).map fun n => .agg (cs.extract off (off + n))
  | some false => cs[off]?
  | none => none

theorem part_rel {ρ : Where} {t : TypeId} {cs cs' : Array Value} {off : Nat} {v : Value} (h : apart P t cs off = some v) (hr : VRels ρ cs.toList cs'.toList) :
    ∃ v', (∀ w, (part t cs' off).run P w = .ok v' w) ∧ VRel ρ v v' := by
  unfold apart at h
  split at h
  · rename_i ha
    obtain ⟨n, hn, rfl⟩ := Option.map_eq_some_iff.mp h
    refine ⟨.agg (cs'.extract off (off + n)), fun w => by simp [part, run_agg ha, run_size hn], .agg _ _ ?_⟩
    simp only [Array.toList_extract, List.extract_eq_take_drop]
    exact (hr.drop off).take _
  · rename_i ha
    obtain ⟨v', hv', hrel⟩ := hr.get (n := off) (v := v) (by simpa using h)
    refine ⟨v', fun w => ?_, hrel⟩
    have : cs'[off]? = some v' := by simpa using hv'
    simp [part, run_agg ha, this]
  · cases h

/-! ### numbers -/
def aint (op : BinOp) (k : IntKind) (x y : Int) : Option Value :=
  match op with
  | .add => some (.int k (k.wrap (x + y)))
  | .sub => some (.int k (k.wrap (x - y)))
  | .mul => some (.int k (k.wrap (x * y)))
  | .quo => if y = 0 then none else some (.int k (k.wrap (x.tdiv y)))
  | .rem => if y = 0 then none else some (.int k (x.tmod y))
  | .and => some (.int k (bits .and k x y))
  | .or => some (.int k (bits .or k x y))
  | .xor => some (.int k (bits .xor k x y))
  | .andNot => some (.int k (bits .andNot k x y))
  | .eql => some (.bool (x == y))
  | .neq => some (.bool (x != y))
  | .lss => some (.bool (decide (x < y)))
  | .leq => some (.bool (decide (x ≤ y)))
  | .gtr => some (.bool (decide (x > y)))
  | .geq => some (.bool (decide (x ≥ y)))
  | _ => none

def ashift (op : BinOp) (k : IntKind) (x y : Int) : Option Value :=
  if y < 0 then none else
  match op with
  | .shl => some (.int k (k.wrap (x * 2 ^ (min y.toNat k.bits))))
  | .shr => some (.int k (x.fdiv (2 ^ (min y.toNat k.bits))))
  | _ => none

/-- whether two values of a type are one: numbers, bools, texts, what holds these; pointers and slices against nil -/
def aeq (P : Program) : Nat → TypeId → Value → Value → Option Bool
  | 0, _, _, _ => none
  | d + 1, t, x, y =>
    match P.underlying t, x, y with
    | some .bool, .bool a, .bool b => some (a == b)
    | some (.int _), .int k a, .int k' b => if k = k' then some (a == b) else none
    | some .string, .string a, .string b => some (a == b)
    | some (.pointer _), .pointer none, .pointer b => some b.isNone
    | some (.pointer _), .pointer (some _), .pointer none => some false
    | some (.slice _), .slice none _ _, .slice b _ _ => some b.isNone
    | some (.slice _), .slice (some _) _ _, .slice none _ _ => some false
    | some (.interface _), .nilIface, .nilIface => some true
    | some (.struct fs), .agg xs, .agg ys => if P.stoodInHeld t then none else aeqFields P (aeq P d) xs ys fs.toList
    | some (.array n e), .agg xs, .agg ys => match szOf P e with
      | some s => aeqCells P (aeq P d) e s xs ys n 0
      | none => none
    | _, _, _ => none
  where
  aeqFields (P : Program) (eq : TypeId → Value → Value → Option Bool) (xs ys : Array Value) : List Field → Option Bool
    | [] => some true
    | f :: r =>
      if f.name ≠ "_" then
        match apart P f.type xs f.offset, apart P f.type ys f.offset with
        | some a, some b => match eq f.type a b with
          | some true => aeqFields P eq xs ys r
          | some false => some false
          | none => none
        | _, _ => none
      else aeqFields P eq xs ys r
  aeqCells (P : Program) (eq : TypeId → Value → Value → Option Bool) (e : TypeId) (s : Nat) (xs ys : Array Value) : Nat → Nat → Option Bool
    | 0, _ => some true
    | n + 1, i =>
      match apart P e xs (i * s), apart P e ys (i * s) with
      | some a, some b => match eq e a b with
        | some true => aeqCells P eq e s xs ys n (i + 1)
        | some false => some false
        | none => none
      | _, _ => none

/-- what the equality's loops do, once the equality of a part is known -/
theorem aeqFields_run {ρ : Where} {eq : TypeId → Value → Value → Option Bool} {eq' : TypeId → Value → Value → Sem Bool}
    (heq : ∀ t x y b x' y', eq t x y = some b → VRel ρ x x' → VRel ρ y y' → ∀ w, (eq' t x' y').run P w = .ok b w)
    {xs ys xs' ys' : Array Value} (hx : VRels ρ xs.toList xs'.toList) (hy : VRels ρ ys.toList ys'.toList) (w : World) :
    ∀ (fs : List Field) (b : Bool), aeq.aeqFields P eq xs ys fs = some b →
      ((forIn fs ((none : Option Bool), ()) fun f _ =>
            if f.name ≠ "_" then do
              let a ← part f.type xs' f.offset
              let c ← part f.type ys' f.offset
              let e ← eq' f.type a c
              if (!e) = true then pure (ForInStep.done (some false, ())) else pure (ForInStep.yield (none, ()))
            else pure (ForInStep.yield (none, ()))) : Sem (Option Bool × Unit)).run P w = .ok (if b then none else some false, ()) w := by
  intro fs
  induction fs with
  | nil =>
    intro b hb
    obtain rfl := Option.some.inj hb
    simp
  | cons f r ih =>
    intro b hb
    rw [List.forIn_cons]
    unfold aeq.aeqFields at hb
    by_cases hn : f.name ≠ "_"
    · rw [if_pos hn] at hb
      rw [if_pos hn]
      cases ha : apart P f.type xs f.offset with
      | none => rw [ha] at hb; cases hb
      | some a =>
        cases hc : apart P f.type ys f.offset with
        | none => rw [ha, hc] at hb; cases hb
        | some c =>
          rw [ha, hc] at hb
          obtain ⟨a', ha', hra⟩ := part_rel ha hx
          obtain ⟨c', hc', hrc⟩ := part_rel hc hy
          cases he : eq f.type a c with
          | none => simp only [he] at hb; cases hb
          | some e =>
            simp only [he] at hb
            have he' := heq _ _ _ _ _ _ he hra hrc w
            cases e with
            | false =>
              obtain rfl := Option.some.inj hb
              simp [ha' w, hc' w, he']
            | true =>
              have := ih b hb
              simp only [Sem.run_bind, ha' w, hc' w, he', Result.andThen_ok, Bool.not_true, Bool.false_eq_true, if_false, Sem.run_pure]
              exact this
    · rw [if_neg hn] at hb
      rw [if_neg hn]
      have := ih b hb
      simp only [Sem.run_bind, Result.andThen_ok, Sem.run_pure]
      exact this

theorem aeqCells_run {ρ : Where} {eq : TypeId → Value → Value → Option Bool} {eq' : TypeId → Value → Value → Sem Bool}
    (heq : ∀ t x y b x' y', eq t x y = some b → VRel ρ x x' → VRel ρ y y' → ∀ w, (eq' t x' y').run P w = .ok b w)
    {xs ys xs' ys' : Array Value} (hx : VRels ρ xs.toList xs'.toList) (hy : VRels ρ ys.toList ys'.toList) (e : TypeId) (s : Nat) (w : World) :
    ∀ (n i : Nat) (b : Bool), aeq.aeqCells P eq e s xs ys n i = some b →
      ((forIn (List.range' i n) ((none : Option Bool), ()) fun i _ => do
              let a ← part e xs' (i * s)
              let c ← part e ys' (i * s)
              let q ← eq' e a c
              if (!q) = true then pure (ForInStep.done (some false, ())) else pure (ForInStep.yield (none, ()))) : Sem (Option Bool × Unit)).run P w = .ok (if b then none else some false, ()) w := by
  intro n
  induction n with
  | zero =>
    intro i b hb
    obtain rfl := Option.some.inj hb
    simp
  | succ n ih =>
    intro i b hb
    rw [List.range'_succ, List.forIn_cons]
    unfold aeq.aeqCells at hb
    cases ha : apart P e xs (i * s) with
    | none => rw [ha] at hb; cases hb
    | some a =>
      cases hc : apart P e ys (i * s) with
      | none => rw [ha, hc] at hb; cases hb
      | some c =>
        rw [ha, hc] at hb
        obtain ⟨a', ha', hra⟩ := part_rel ha hx
        obtain ⟨c', hc', hrc⟩ := part_rel hc hy
        cases he : eq e a c with
        | none => simp only [he] at hb; cases hb
        | some q =>
          simp only [he] at hb
          have he' := heq _ _ _ _ _ _ he hra hrc w
          cases q with
          | false =>
            obtain rfl := Option.some.inj hb
            simp [ha' w, hc' w, he']
          | true =>
            have := ih (i + 1) b hb
            simp only [Sem.run_bind, ha' w, hc' w, he', Result.andThen_ok, Bool.not_true, Bool.false_eq_true, if_false, Sem.run_pure]
            exact this

theorem aeq_run {ρ : Where} : ∀ (d : Nat) (t : TypeId) (x y : Value) (b : Bool) (x' y' : Value), aeq P d t x y = some b → VRel ρ x x' → VRel ρ y y' → ∀ w, (Op.equalIn d t x' y').run P w = .ok b w := by
  intro d
  induction d with
  | zero => intro t x y b x' y' h; cases h
  | succ d ih =>
    intro t x y b x' y' h hx hy w
    unfold aeq at h
    split at h <;> try (cases h; done)
    · rename_i hu; cases hx; cases hy; obtain rfl := Option.some.inj h
      simp [Op.equalIn, run_underlying hu]
    · rename_i hu; cases hx; cases hy
      split at h
      · obtain rfl := Option.some.inj h; rename_i hk; subst hk
        simp [Op.equalIn, run_underlying hu]
      · cases h
    · rename_i hu; cases hx; cases hy; obtain rfl := Option.some.inj h
      simp [Op.equalIn, run_underlying hu]
    · rename_i hu; cases hx
      cases hy <;> (obtain rfl := Option.some.inj h; simp [Op.equalIn, run_underlying hu])
    · rename_i hu; cases hx; cases hy; obtain rfl := Option.some.inj h
      simp [Op.equalIn, run_underlying hu]
    · rename_i hu; cases hx
      cases hy <;> (obtain rfl := Option.some.inj h; simp [Op.equalIn, run_underlying hu])
    · rename_i hu; cases hx; cases hy; obtain rfl := Option.some.inj h
      simp [Op.equalIn, run_underlying hu]
    · rename_i hu; cases hx; cases hy; obtain rfl := Option.some.inj h
      simp [Op.equalIn, run_underlying hu]
    · rename_i fs xs ys hu
      split at h
      · cases h
      · rename_i hs
        cases hx with
        | agg _ xs' hx =>
          cases hy with
          | agg _ ys' hy =>
            have hs' : P.stoodInHeld t = false := by simpa using hs
            simp only [Op.equalIn, Sem.run_bind, run_underlying hu, Result.andThen_ok, run_program, hs', Bool.false_eq_true, if_false]
            rw [← Array.forIn_toList, aeqFields_run (fun t x y b x' y' h h1 h2 w => ih t x y b x' y' h h1 h2 w) hx hy w _ b h]
            cases b <;> simp
    · rename_i n e xs ys hu
      split at h
      · rename_i s hs
        cases hx with
        | agg _ xs' hx =>
          cases hy with
          | agg _ ys' hy =>
            simp only [Op.equalIn, Sem.run_bind, run_underlying hu, Result.andThen_ok, run_size hs]
            rw [Std.Legacy.Range.forIn_eq_forIn_range']
            have := aeqCells_run (fun t x y b x' y' h h1 h2 w => ih t x y b x' y' h h1 h2 w) hx hy e s w n 0 b h
            simp only [Std.Legacy.Range.size, Nat.sub_zero, Nat.add_sub_cancel, Nat.div_one]
            rw [this]
            cases b <;> simp
      · cases h
end Go.Proofs.YthijllagngkbgaaGreat.Eng
