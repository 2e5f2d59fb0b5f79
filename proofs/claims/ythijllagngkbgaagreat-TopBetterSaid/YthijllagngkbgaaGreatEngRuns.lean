/- The engine, part 18: what code does over row numbers, said of the model itself; rules for it. -/
import Derived.Test.YthijllagngkbgaaGreatEngFn
namespace Go.Proofs.YthijllagngkbgaaGreat.Eng
open Go
variable {ds : List Deferred}

section
variable (P : Program)

/-- Code comes from slots T and rows h to the exit e, slots T' and rows h'. -/
def Runs (n : Nat) (c : Code) (T : Env) (h : Heap) (e : AExit) (T' : Env) (h' : Heap) : Prop :=
  ∀ (ds : List Deferred) (B : Nat) (ρ : Where) (a : Act) (w : World) (Q : Exit → Act → World → Prop), ERel ds ρ n T a → HRel B ρ h w →
    (∀ a' w' ρ', ERel ds ρ' n T' a' → HRel B ρ' h' w' → Step ρ h w ρ' h' w' → Q e.out a' w') → c.wp P Q a w

/-- A call of f comes to v and rows h'. -/
def Does (f : FuncId) (args : List Value) (h : Heap) (v : Value) (h' : Heap) : Prop :=
  ∀ (B : Nat) (ρ : Where) (w : World) (args' : List Value), HRel B ρ h w → VRels ρ args args' →
    Calls P f args'.toArray w fun e w' => ∃ v' ρ', e = .returned v' ∧ VRel ρ' v v' ∧ HRel B ρ' h' w' ∧ Step ρ h w ρ' h' w'
end

section
variable {P : Program} {n : Nat}

/-- fewer slots are known -/
def Env.sub (T T' : Env) : Prop := ∀ t v, T.get t = some v → T'.get t = some v

theorem ERel.less {ρ : Where} {T T' : Env} {a : Act} (h : ERel ds ρ n T' a) (hs : Env.sub T T') : ERel ds ρ n T a := ⟨fun t v e => h.val t v (hs t v e), h.size, h.defers⟩

theorem Runs.weaken {c : Code} {T T1 T' T2 : Env} {h h' : Heap} {e : AExit} (r : Runs P n c T h e T' h') (hs : Env.sub T T1) (hs' : Env.sub T2 T') : Runs P n c T1 h e T2 h' :=
  fun ds B ρ a w Q hE hH hQ => r ds B ρ a w Q (hE.less hs) hH fun a' w' ρ' e1 e2 e3 => hQ a' w' ρ' (e1.less hs') e2 e3

theorem Runs.skip {T : Env} {h : Heap} : Runs P n .skip T h .normal T h := fun _ _ ρ a w _ hE hH hQ => wp_skip (hQ a w ρ hE hH (Step.refl _ _ _))
theorem Runs.ret {T : Env} {h : Heap} : Runs P n .ret T h .ret T h := fun _ _ ρ a w _ hE hH hQ => wp_ret (hQ a w ρ hE hH (Step.refl _ _ _))
theorem Runs.exit {id : Nat} {T : Env} {h : Heap} : Runs P n (.exit id) T h (.exit id) T h := fun _ _ ρ a w _ hE hH hQ => wp_exit (hQ a w ρ hE hH (Step.refl _ _ _))
theorem Runs.label {l : Nat} {T : Env} {h : Heap} : Runs P n (.label l) T h .normal T h := fun _ _ ρ a w _ hE hH hQ => wp_label (hQ a w ρ hE hH (Step.refl _ _ _))

theorem Runs.seq {x y : Code} {T T1 T' : Env} {h h1 h' : Heap} {e : AExit} (a : Runs P n x T h .normal T1 h1) (b : Runs P n y T1 h1 e T' h') : Runs P n (.seq x y) T h e T' h' :=
  fun ds B ρ act w Q hE hH hQ => wp_seq (a ds B ρ act w _ hE hH fun a1 w1 ρ1 q1 q2 q3 => b ds B ρ1 a1 w1 Q q1 q2 fun a2 w2 ρ2 p1 p2 p3 => hQ a2 w2 ρ2 p1 p2 (q3.trans p3))

theorem Runs.seq_out {x y : Code} {T T' : Env} {h h' : Heap} {e : AExit} (a : Runs P n x T h e T' h') (he : e ≠ .normal) : Runs P n (.seq x y) T h e T' h' :=
  fun ds B ρ act w Q hE hH hQ => wp_seq (a ds B ρ act w _ hE hH fun a1 w1 ρ1 q1 q2 q3 => by
    have := hQ a1 w1 ρ1 q1 q2 q3
    cases e with
    | normal => exact absurd rfl he
    | exit i => exact this
    | ret => exact this)

theorem Runs.cond {x : Operand} {y z : Code} {T T' : Env} {h h' : Heap} {e : AExit} {b : Bool} (hx : rv T x = some (.bool b)) (a : Runs P n (if b then y else z) T h e T' h') : Runs P n (.cond x y z) T h e T' h' :=
  fun ds B ρ act w Q hE hH hQ => by
    have hr := hE.rv hx
    generalize hev : act.eval x = v at hr
    cases hr
    exact wp_cond hev (a ds B ρ act w Q hE hH hQ)

def AExit.inBlock (id : Nat) : AExit → AExit
  | .exit i => if i = id then .normal else .exit i
  | e => e

theorem Runs.block {id : Nat} {b : Code} {T T' : Env} {h h' : Heap} {e : AExit} (a : Runs P n b T h e T' h') : Runs P n (.block id b) T h (e.inBlock id) T' h' :=
  fun ds B ρ act w Q hE hH hQ => wp_block (a ds B ρ act w _ hE hH fun a1 w1 ρ1 q1 q2 q3 => by
    have := hQ a1 w1 ρ1 q1 q2 q3
    cases e with
    | normal => exact this
    | ret => exact this
    | exit i =>
      simp only [AExit.out, Exit.inBlock]
      by_cases hi : i = id
      · simp only [AExit.inBlock, hi, if_true, AExit.out] at this ⊢; exact this
      · simp only [AExit.inBlock, hi, if_false, AExit.out] at this ⊢; exact this)

/-- The rounds of a loop. -/
inductive Rounds (P : Program) (n : Nat) (b : Code) : Env → Heap → AExit → Env → Heap → Prop
  | last {T T' : Env} {h h' : Heap} {e : AExit} (r : Runs P n b T h e T' h') (he : e ≠ .normal) : Rounds P n b T h e T' h'
  | more {T T1 T' : Env} {h h1 h' : Heap} {e : AExit} (r : Runs P n b T h .normal T1 h1) (t : Rounds P n b T1 h1 e T' h') : Rounds P n b T h e T' h'

theorem Rounds.runs {b : Code} {T T' : Env} {h h' : Heap} {e : AExit} (r : Rounds P n b T h e T' h') : Runs P n (.loop b) T h e T' h' := by
  have key : ∀ {T T' : Env} {h h' : Heap} {e : AExit}, Rounds P n b T h e T' h' → ∃ k, ∀ (ds : List Deferred) (B : Nat) (ρ : Where) (a : Act) (w : World) (Q : Exit → Act → World → Prop), ERel ds ρ n T a → HRel B ρ h w →
      (∀ a' w' ρ', ERel ds ρ' n T' a' → HRel B ρ' h' w' → Step ρ h w ρ' h' w' → Q e.out a' w') → Code.rounds P b Q k a w := by
    intro T T' h h' e r
    induction r with
    | last r he =>
      rename_i T T' h h' e
      refine ⟨1, fun ds B ρ a w Q hE hH hQ => ?_⟩
      rw [rounds_succ]
      refine r ds B ρ a w _ hE hH fun a1 w1 ρ1 q1 q2 q3 => ?_
      have := hQ a1 w1 ρ1 q1 q2 q3
      cases e with
      | normal => exact absurd rfl he
      | exit i => exact this
      | ret => exact this
    | more r t ih =>
      obtain ⟨k, ih⟩ := ih
      refine ⟨k + 1, fun ds B ρ a w Q hE hH hQ => ?_⟩
      rw [rounds_succ]
      refine r ds B ρ a w _ hE hH fun a1 w1 ρ1 q1 q2 q3 => ?_
      exact ih ds B ρ1 a1 w1 Q q1 q2 fun a2 w2 ρ2 p1 p2 p3 => hQ a2 w2 ρ2 p1 p2 (q3.trans p3)
  obtain ⟨k, hk⟩ := key r
  exact fun ds B ρ a w Q hE hH hQ => wp_loop_rounds k (hk ds B ρ a w Q hE hH hQ)

/-- A function's call, of what its body does. -/
theorem Does.of_body {f : FuncId} {fn : Func} {c : Code} {args : List Value} {h h' : Heap} {T : Env} {e : AExit} {vs : List Value} (hf : P.funcs[f]? = some fn) (hc : fn.body = some c) (hl : args.length ≤ fn.ntmps)
    (he : e = .normal ∨ e = .ret) (r : Runs P fn.ntmps c (initEnv args) h e T h') (hr : aresults P T h' fn.results.toList = some vs) : Does P f args h (asOne vs) h' := by
  intro B ρ w args' hH hargs
  refine calls_of_wp hf hc ?_
  refine r _ B ρ _ w _ (initEnv_rel hargs hl) hH ?_
  intro a' w' ρ' q1 q2 q3
  obtain ⟨v', e1, e2⟩ := results_run q1 q2 hr
  rcases he with rfl | rfl
  · exact ⟨q1.defers, v', e1, v', ρ', rfl, e2, q2, q3⟩
  · exact ⟨q1.defers, v', e1, v', ρ', rfl, e2, q2, q3⟩

/-- One call alone, known: as what all calls come to. -/
theorem Does.sim {f : FuncId} {args : List Value} {h h' : Heap} {v : Value} (d : Does P f args h v h') (B : Nat) : ∀ ρ w args', HRel B ρ h w → VRels ρ args args' →
    Calls P f args'.toArray w fun e w' => ∃ v' ρ', e = .returned v' ∧ VRel ρ' v v' ∧ HRel B ρ' h' w' ∧ Step ρ h w ρ' h' w' := d B
end
end Go.Proofs.YthijllagngkbgaaGreat.Eng
