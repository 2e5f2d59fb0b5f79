/- The engine, part 10: the operations of a region in the order of the text; slots that an operation looks at. -/
import Derived.Test.YthijllagngkbgaaGreatEngOp
namespace Go.Proofs.YthijllagngkbgaaGreat.Eng
open Go
variable {ds : List Deferred}

/-- the operations one behind the other -/
def runOps (P : Program) (X : Ext) (g : Caller) (n : Nat) (ops : Array Oper) : List Oper → Env → Heap → Option (Env × Heap)
  | [], T, h => some (T, h)
  | o :: r, T, h => (aval P X g ops T h o).bind fun (v, h') => (fillSlot n T o.dst v).bind fun T' => runOps P X g n ops r T' h'

variable {P : Program} {X : Ext} {g : Caller} {B n : Nat}

theorem runOps_sound {ops : Array Oper} {Q : Exit → Act → World → Prop} (hg : Sim P B g) (hX : ExtOk P X) : ∀ (rest : List Oper) (i : Nat) {ρ : Where} {h : Heap} {w : World} {T T' : Env} {h' : Heap} {a : Act}, ops.toList.drop i = rest →
    runOps P X g n ops rest T h = some (T', h') → ERel ds ρ n T a → HRel B ρ h w →
    (∀ a' w' ρ', ERel ds ρ' n T' a' → HRel B ρ' h' w' → Step ρ h w ρ' h' w' → Q .normal a' w') → wpOps P ops Q (List.range' i rest.length) a w
  | [], i, ρ, h, w, T, T', h', a, _, hr, hE, r, hQ => by
    obtain ⟨rfl, rfl⟩ := Prod.mk.inj (Option.some.inj hr)
    exact hQ a w ρ hE r (Step.refl _ _ _)
  | o :: rest, i, ρ, h, w, T, T', h', a, hd, hr, hE, r, hQ => by
    have ho : ops[i]? = some o := by
      have := congrArg (·[0]?) hd
      simpa using this
    have hd' : ops.toList.drop (i + 1) = rest := by
      have := congrArg List.tail hd
      simpa [List.tail_drop] using this
    simp only [runOps, Option.bind_eq_some_iff] at hr
    obtain ⟨⟨v, h1⟩, hv, T1, hT, hr⟩ := hr
    rw [List.length_cons, List.range'_succ, wpOps_cons]
    refine aval_sound hg hX ho hE r hv ?_
    intro v' w' ρ' q1 q2 q3
    refine runOps_sound hg hX rest (i + 1) hd' hr ((hE.mono q3.le).fill hT q1) q2 ?_
    intro a' w'' ρ'' e1 e2 e3
    exact hQ a' w'' ρ'' e1 e2 (q3.trans e3)

/-! ### an operation looks at its own slots alone -/
theorem rv_congr {T T' : Env} {x : Operand} (h : ∀ t, x = .tmp t → T.get t = T'.get t) : rv T x = rv T' x := by
  cases x with
  | tmp t => exact h t rfl
  | _ => rfl

theorem rvs_congr {T T' : Env} : ∀ {xs : List Operand}, (∀ x ∈ xs, rv T x = rv T' x) → rvs T xs = rvs T' xs
  | [], _ => rfl
  | x :: r, h => by
    simp only [rvs]
    rw [h x (by simp), rvs_congr fun y hy => h y (by simp [hy])]

theorem rparts_congr {T T' : Env} : ∀ {xs : List (Nat × Operand)}, (∀ x ∈ xs.map (·.2), rv T x = rv T' x) → rparts T xs = rparts T' xs
  | [], _ => rfl
  | (i, x) :: r, h => by
    simp only [rparts]
    rw [h x (by simp), rparts_congr fun y hy => h y (by simp only [List.map_cons, List.mem_cons]; exact .inr hy)]

theorem rvo_congr {T T' : Env} {x : Option Operand} (h : ∀ y, x = some y → rv T y = rv T' y) : rvo T x = rvo T' x := by
  cases x with
  | none => rfl
  | some y => simp only [rvo]; rw [h y rfl]

theorem apure_congr {T T' : Env} {op : Op} (h : ∀ x ∈ op.operands.toList, rv T x = rv T' x) : apure P T op = apure P T' op := by
  cases op <;> simp only [Op.operands] at h <;> simp only [apure]
  case move x => exact h x (by simp)
  case assign x => exact h x (by simp)
  case pick c a b => rw [h c (by simp), h a (by simp), h b (by simp)]
  case build t ps => rw [rparts_congr (xs := ps.toList) fun x hx => h x (by simpa using hx)]
  case nilCheck x => rw [h x (by simp)]
  case binOp op t x y yt => rw [h x (by simp), h y (by simp)]
  case unOp op t x => rw [h x (by simp)]
  case convert s d x => rw [h x (by simp)]
  case makeFunc fn x y => rw [rvs_congr (xs := x.toList) fun z hz => h z (by simp at hz ⊢; exact .inl hz), rvs_congr (xs := y.toList) fun z hz => h z (by simp at hz ⊢; exact .inr hz)]
  case slice t x lo hi mx =>
    rw [h x (by simp), rvo_congr (x := lo) fun y hy => h y (by simp [hy]), rvo_congr (x := hi) fun y hy => h y (by simp [hy]), rvo_congr (x := mx) fun y hy => h y (by simp [hy])]
  case fieldAddr t x f => rw [h x (by simp)]
  case field t x f => rw [h x (by simp)]
  case indexAddr t x i => rw [h x (by simp), h i (by simp)]
  case index t x i => rw [h x (by simp), h i (by simp)]
  case extract x i => rw [h x (by simp)]
  case call c =>
    obtain ⟨callee, args, argTypes⟩ := c
    have ha : ∀ x ∈ args.toList, rv T x = rv T' x := fun x hx => h x (by simp [Call.operands]; exact .inr (by simpa using hx))
    cases callee with
    | builtin b =>
      cases b <;> simp only []
      case len =>
        split
        · rename_i x t hx ht; rw [ha x (by rw [hx]; simp)]
        · rfl
      case cap =>
        split
        · rename_i x t hx ht; rw [ha x (by rw [hx]; simp)]
        · rfl
      case max => rw [rvs_congr ha]
      case min => rw [rvs_congr ha]
    | _ => rfl

theorem afreshRow_congr {T T' : Env} {op : Op} (h : ∀ x ∈ op.operands.toList, rv T x = rv T' x) : afreshRow P T op = afreshRow P T' op := by
  cases op <;> simp only [Op.operands] at h <;> simp only [afreshRow]
  case box t x => rw [h x (by simp)]
  case buildSlice t len ps => rw [rparts_congr (xs := ps.toList) fun x hx => h x (by simpa using hx)]
  case makeSlice t l c => rw [h l (by simp), h c (by simp)]

theorem aloadOp_congr {T T' : Env} {hp : Heap} {op : Op} (h : ∀ x ∈ op.operands.toList, rv T x = rv T' x) : aloadOp P T hp op = aloadOp P T' hp op := by
  cases op <;> simp only [Op.operands] at h <;> simp only [aloadOp]
  case load t x => rw [h x (by simp)]

theorem aheavy_congr {T T' : Env} {hp : Heap} {op : Op} (h : ∀ x ∈ op.operands.toList, rv T x = rv T' x) : aheavy P X g T hp op = aheavy P X g T' hp op := by
  cases op <;> simp only [Op.operands] at h <;> simp only [aheavy]
  case store t x y => rw [h x (by simp), h y (by simp)]
  case makeMap t r => cases r <;> rfl
  case makeChan t x => rw [h x (by simp)]
  case lookup t m k ok => cases ok <;> simp only [] <;> rw [h m (by simp), h k (by simp)]
  case mapUpdate t m k x => rw [h m (by simp), h k (by simp), h x (by simp)]
  case call c =>
    obtain ⟨callee, args, argTypes⟩ := c
    have ha : ∀ x ∈ args.toList, rv T x = rv T' x := fun x hx => h x (by simp [Call.operands]; exact .inr (by simpa using hx))
    cases callee with
    | builtin b => cases b <;> simp only [] <;> rw [rvs_congr ha]
    | value f => simp only []; rw [h f (by simp [Call.operands]), rvs_congr ha]
    | _ => rfl

theorem operands_of {T T' : Env} {ops : Array Oper} {o : Oper} (h : ∀ t ∈ o.looksAt ops, T.get t = T'.get t) : ∀ x ∈ o.op.operands.toList, rv T x = rv T' x := by
  intro x hx
  refine rv_congr fun t ht => h t ?_
  subst ht
  exact List.mem_append_left _ (List.mem_filterMap.2 ⟨.tmp t, hx, rfl⟩)

theorem awant_congr {T T' : Env} {ops : Array Oper} {o : Oper} (h : ∀ t ∈ o.looksAt ops, T.get t = T'.get t) : awant ops T o = awant ops T' o := by
  unfold awant
  cases hg : o.guard with
  | none => rfl
  | some gw =>
    obtain ⟨j, want⟩ := gw
    simp only []
    cases hd : (ops[j]?).bind (·.dst) with
    | none => rfl
    | some d =>
      simp only []
      rw [h d (by simp [Oper.looksAt, hg, hd])]

theorem aval_congr {T T' : Env} {ops : Array Oper} {hp : Heap} {o : Oper} (h : ∀ t ∈ o.looksAt ops, T.get t = T'.get t) : aval P X g ops T hp o = aval P X g ops T' hp o := by
  have ho := operands_of h
  unfold aval
  rw [awant_congr h, apure_congr ho, aloadOp_congr ho, afreshRow_congr ho, aheavy_congr ho]
end Go.Proofs.YthijllagngkbgaaGreat.Eng
