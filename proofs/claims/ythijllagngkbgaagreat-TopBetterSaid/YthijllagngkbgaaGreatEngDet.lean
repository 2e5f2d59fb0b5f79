/- The engine, part 19: one outcome over row numbers, known from behind: rules for code, regions, functions, loops. -/
import Derived.Test.YthijllagngkbgaaGreatEngRuns
namespace Go.Proofs.YthijllagngkbgaaGreat.Eng
open Go
variable {ds : List Deferred}

section
variable (P : Program) (X : Ext)

structure RunsOk (n : Nat) (c : Code) (T : Env) (h : Heap) (e : AExit) (T' : Env) (h' : Heap) : Prop where
  runs : Runs P n c T h e T' h'
  nx : h.ok → h.next ≤ h'.next ∧ h'.ok

structure DoesOk (f : FuncId) (args : List Value) (h : Heap) (v : Value) (h' : Heap) : Prop where
  does : Does P f args h v h'
  nx : h.ok → h.next ≤ h'.next ∧ h'.ok

/-- Code comes to one outcome, of which Φ holds. -/
def Det (n : Nat) (c : Code) (T : Env) (h : Heap) (Φ : AExit → Env → Heap → Prop) : Prop := ∃ e T' h', RunsOk P n c T h e T' h' ∧ Φ e T' h'
/-- A call comes to one outcome, of which Φ holds. -/
def DetFn (f : FuncId) (args : List Value) (h : Heap) (Φ : Value → Heap → Prop) : Prop := ∃ v h', DoesOk P f args h v h' ∧ Φ v h'

/-- One operation's step. -/
def StepOk (ops : Array Oper) (T : Env) (h : Heap) (o : Oper) (v : Value) (h1 : Heap) : Prop := ∃ g : Caller, (∀ B, Sim P B g) ∧ NextMono g ∧ aval P X g ops T h o = some (v, h1)

inductive OpsRun (n : Nat) (ops : Array Oper) : List Oper → Nat → Env → Heap → List Ent → Env → Heap → Prop
  | nil (i : Nat) (T : Env) (h : Heap) : OpsRun n ops [] i T h [] T h
  | cons {o : Oper} {rest : List Oper} {i : Nat} {T T1 T' : Env} {h h1 h' : Heap} {v : Value} {l : List Ent} (s : StepOk P X ops T h o v h1) (f : fillSlot n T o.dst v = some T1)
      (r : OpsRun n ops rest (i + 1) T1 h1 l T' h') : OpsRun n ops (o :: rest) i T h (⟨o, i, T, h, h1, v⟩ :: l) T' h'

def ODet (n : Nat) (ops : Array Oper) (rest : List Oper) (i : Nat) (T : Env) (h : Heap) (Φ : List Ent → Env → Heap → Prop) : Prop := ∃ l T' h', OpsRun P X n ops rest i T h l T' h' ∧ Φ l T' h'
end

section
variable {P : Program} {X : Ext} {n : Nat}

theorem StepOk.plain {ops : Array Oper} {T : Env} {h h1 : Heap} {o : Oper} {v : Value} (ha : aval P X noSum ops T h o = some (v, h1)) : StepOk P X ops T h o v h1 :=
  ⟨noSum, fun _ => noSum_sim, noSum_next, ha⟩

open Classical in
/-- one call's answer -/
noncomputable def oneCall (f : FuncId) (args : List Value) (h : Heap) (v : Value) (h' : Heap) : Caller := fun f2 args2 h2 => if f2 = f ∧ args2 = args ∧ h2 = h then some (v, h') else none

theorem oneCall_spec {f f2 : FuncId} {args args2 : List Value} {h h2 h' u' : Heap} {v u : Value} (he : oneCall f args h v h' f2 args2 h2 = some (u, u')) : f2 = f ∧ args2 = args ∧ h2 = h ∧ v = u ∧ h' = u' := by
  unfold oneCall at he
  split at he
  · rename_i hh
    simp only [Option.some.injEq, Prod.mk.injEq] at he
    exact ⟨hh.1, hh.2.1, hh.2.2, he.1, he.2⟩
  · cases he

theorem StepOk.call {ops : Array Oper} {T : Env} {h h1 : Heap} {o : Oper} {v : Value} {f : Operand} {as : Array Operand} {ts : Array TypeId} {k : FuncId} {first captured : Array Value} {vs : List Value} {fn : Func}
    (ho : o.op = .call { callee := .value f, args := as, argTypes := ts }) (hw : awant ops T o = some true) (hf : rv T f = some (.func (.func k) first captured)) (hvs : rvs T as.toList = some vs)
    (hfn : P.funcs[k]? = some fn) (hname : (fn.name == "runtime.NumGoroutine") = false) (hbody : fn.body.isNone = false) (d : DoesOk P k (first.toList ++ vs ++ captured.toList) h v h1) : StepOk P X ops T h o v h1 := by
  refine ⟨oneCall k (first.toList ++ vs ++ captured.toList) h v h1, ?_, ?_, ?_⟩
  · intro B f2 args2 h2 u u' he
    obtain ⟨rfl, rfl, rfl, rfl, rfl⟩ := oneCall_spec he
    exact d.does B
  · intro f2 args2 h2 u u' hk he
    obtain ⟨rfl, rfl, rfl, rfl, rfl⟩ := oneCall_spec he
    exact d.nx hk
  · unfold aval
    rw [hw, ho]
    simp only [kindOf, aheavy, hf, hvs, Option.bind_some, acall, hfn, hname, hbody, oneCall, and_self, if_true]
    simp

/-! ### regions -/
theorem OpsRun.spec {ops : Array Oper} {rest : List Oper} {i : Nat} {T T' : Env} {h h' : Heap} {l : List Ent} (r : OpsRun P X n ops rest i T h l T' h') : ops.toList.drop i = rest → h.ok →
    l.length = rest.length ∧ (match l[0]? with | some x => x.T = T ∧ x.h = h | none => T' = T ∧ h' = h) ∧ h.next ≤ h'.next ∧ h'.ok ∧
    ∀ k x, l[k]? = some x → ops[i + k]? = some x.o ∧ x.i = i + k ∧ x.h.ok ∧ x.h.next ≤ x.h'.next ∧ (∃ g : Caller, (∀ B, Sim P B g) ∧ aval P X g ops x.T x.h x.o = some (x.v, x.h')) ∧
      ∃ T2, fillSlot n x.T x.o.dst x.v = some T2 ∧ (match l[k + 1]? with | some y => y.T = T2 ∧ y.h = x.h' | none => T' = T2 ∧ h' = x.h') := by
  induction r with
  | nil i T h => exact fun _ hk => ⟨rfl, ⟨rfl, rfl⟩, Nat.le_refl _, hk, fun k x hx => by simp at hx⟩
  | cons s f r ih =>
    rename_i o rest i T T1 T' h h1 h' v l
    intro hd hk
    obtain ⟨g, hg, hm, hv⟩ := s
    have ho : ops[i]? = some o := by
      have := congrArg (·[0]?) hd
      simpa using this
    have hd' : ops.toList.drop (i + 1) = rest := by
      have := congrArg List.tail hd
      simpa [List.tail_drop] using this
    obtain ⟨n1, n2⟩ := aval_next hm hk hv
    obtain ⟨e1, e2, e3, e4, e5⟩ := ih hd' n2
    refine ⟨by simp [e1], ⟨rfl, rfl⟩, Nat.le_trans n1 e3, e4, ?_⟩
    intro k x hx
    cases k with
    | zero =>
      simp only [List.getElem?_cons_zero, Option.some.injEq] at hx
      subst hx
      refine ⟨ho, rfl, hk, n1, ⟨g, hg, hv⟩, T1, f, ?_⟩
      simp only [Nat.zero_add, List.getElem?_cons_succ]
      exact e2
    | succ k =>
      simp only [List.getElem?_cons_succ] at hx ⊢
      obtain ⟨q1, q2, q3⟩ := e5 k x hx
      rw [show i + 1 + k = i + (k + 1) by omega] at q1 q2
      exact ⟨q1, q2, q3⟩

theorem OpsRun.nx {ops : Array Oper} {rest : List Oper} {i : Nat} {T T' : Env} {h h' : Heap} {l : List Ent} (r : OpsRun P X n ops rest i T h l T' h') : h.ok → h.next ≤ h'.next ∧ h'.ok := by
  induction r with
  | nil i T h => exact fun hk => ⟨Nat.le_refl _, hk⟩
  | cons s f r ih =>
    intro hk
    obtain ⟨g, hg, hm, hv⟩ := s
    obtain ⟨n1, n2⟩ := aval_next hm hk hv
    obtain ⟨q1, q2⟩ := ih n2
    exact ⟨Nat.le_trans n1 q1, q2⟩

theorem OpsRun.wp {ops : Array Oper} (hX : ExtOk P X) {Q : Exit → Act → World → Prop} {rest : List Oper} {i : Nat} {T T' : Env} {h h' : Heap} {l : List Ent} (r : OpsRun P X n ops rest i T h l T' h') :
    ∀ {B : Nat} {ρ : Where} {w : World} {a : Act}, ops.toList.drop i = rest → ERel ds ρ n T a → HRel B ρ h w →
    (∀ a' w' ρ', ERel ds ρ' n T' a' → HRel B ρ' h' w' → Step ρ h w ρ' h' w' → Q .normal a' w') → wpOps P ops Q (List.range' i rest.length) a w := by
  induction r with
  | nil i T h => exact fun _ hE hH hQ => hQ _ _ _ hE hH (Step.refl _ _ _)
  | cons s f r ih =>
    rename_i o rest i T T1 T' h h1 h' v l
    intro B ρ w a hd hE hH hQ
    obtain ⟨g, hg, hm, hv⟩ := s
    have ho : ops[i]? = some o := by
      have := congrArg (·[0]?) hd
      simpa using this
    have hd' : ops.toList.drop (i + 1) = rest := by
      have := congrArg List.tail hd
      simpa [List.tail_drop] using this
    rw [List.length_cons, List.range'_succ, wpOps_cons]
    refine aval_sound (hg B) hX ho hE hH hv ?_
    intro v' w' ρ' q1 q2 q3
    refine ih hd' ((hE.mono q3.le).fill f q1) q2 ?_
    intro a' w'' ρ'' e1 e2 e3
    exact hQ a' w'' ρ'' e1 e2 (q3.trans e3)

theorem OpsRun.draw {ops : Array Oper} (hmix : P.follows .mixedOrders = true) (hX : ExtOk P X) (hst : staticOk ops = true) {T T' : Env} {h h' : Heap} {l : List Ent} {id : Nat} (r : OpsRun P X n ops ops.toList 0 T h l T' h')
    (hdyn : DynP P ops (masks ops.toList []) l) : RunsOk P n (.region id ops true) T h .normal T' h' := by
  refine ⟨?_, r.nx⟩
  intro ds B ρ a w Q hE hH hQ
  obtain ⟨e1, e2, e3, e4, e5⟩ := r.spec rfl hH.fresh
  have ch : ∀ k : Nat, ∃ g : Caller, (∀ B, Sim P B g) ∧ ∀ x : Ent, l[k]? = some x → aval P X g ops x.T x.h x.o = some (x.v, x.h') := by
    intro k
    cases hx : l[k]? with
    | none => exact ⟨noSum, fun _ => noSum_sim, fun x h => by cases h⟩
    | some x =>
      obtain ⟨_, _, _, _, ⟨g, hg, hv⟩, _⟩ := e5 k x hx
      exact ⟨g, hg, fun y hy => by obtain rfl := Option.some.inj hy; exact hv⟩
  let G : Nat → Caller := fun k => Classical.choose (ch k)
  have hG : ∀ k : Nat, (∀ B, Sim P B (G k)) ∧ ∀ x : Ent, l[k]? = some x → aval P X (G k) ops x.T x.h x.o = some (x.v, x.h') := fun k => Classical.choose_spec (ch k)
  refine draw_of (G := G) hmix (fun i => (hG i).1 B) hX hst hdyn (by simpa using e1) e2 e4 ?_ hE hH hQ
  intro k x hx
  obtain ⟨q1, q2, q3, q4, _, q6⟩ := e5 k x hx
  exact ⟨q1, q2, q3, q4, (hG k).2 x hx, q6⟩

/-- loads and what may change memory are ordered by the text -/
def statDyn (ms : List Nat) : List (Oper × Nat) → List (Oper × Nat) → Bool
  | _, [] => true
  | prev, (y, j) :: r =>
    prev.all (fun (x, i) => (ms.getD j 0).testBit i || (!(decide (kindOf x.op = .load) && isHeavy y) && !(isHeavy x && decide (kindOf y.op = .load)))) && statDyn ms ((y, j) :: prev) r

def numbered : List Oper → Nat → List (Oper × Nat)
  | [], _ => []
  | o :: r, i => (o, i) :: numbered r (i + 1)

theorem statDyn_spec {ops : Array Oper} {ms : List Nat} : ∀ (l prev : List Ent), statDyn ms (prev.map fun x => (x.o, x.i)) (l.map fun x => (x.o, x.i)) = true → dynOk P ops ms prev l = true
  | [], _, _ => rfl
  | y :: r, prev, h => by
    simp only [List.map_cons, statDyn, Bool.and_eq_true, List.all_eq_true] at h
    simp only [dynOk, Bool.and_eq_true, List.all_eq_true]
    refine ⟨?_, statDyn_spec r (y :: prev) h.2⟩
    intro x hx
    have := h.1 (x.o, x.i) (List.mem_map.2 ⟨x, hx, rfl⟩)
    simp only [Bool.or_eq_true, Bool.and_eq_true, Bool.not_eq_true', Bool.and_eq_false_imp] at this ⊢
    rcases this with h1 | ⟨h1, h2⟩
    · exact .inl h1
    · right
      refine ⟨.inl ?_, .inl ?_⟩
      · intro hl
        simp only [isLoad, Bool.and_eq_true] at hl
        exact h1 hl.1
      · intro hh
        have := h2 hh
        simp [isLoad, this]

theorem OpsRun.marks {ops : Array Oper} {rest : List Oper} {i : Nat} {T T' : Env} {h h' : Heap} {l : List Ent} (r : OpsRun P X n ops rest i T h l T' h') : l.map (fun x => (x.o, x.i)) = numbered rest i := by
  induction r with
  | nil => rfl
  | cons s f r ih => simp [numbered, ih]

/-- what loads must read behind, and ahead of, what may change memory -/
def dynPairs (P : Program) (ops : Array Oper) (ms : List Nat) : List Ent → List Ent → List (Option Value × Option Value)
  | _, [] => []
  | prev, y :: r => (prev.flatMap fun x => if (ms.getD y.i 0).testBit x.i then [] else
      (if isLoad ops x && isHeavy y.o then [(aloadOp P x.T y.h' x.o.op, some x.v)] else []) ++ (if isHeavy x.o && isLoad ops y then [(aloadOp P y.T x.h y.o.op, some y.v)] else [])) ++ dynPairs P ops ms (y :: prev) r

theorem dynPairs_in {ops : Array Oper} {ms : List Nat} : ∀ (l prev : List Ent), (∀ p ∈ dynPairs P ops ms prev l, p.1 = p.2) → ∀ (x y : Ent) (k : Nat), l[k]? = some y → (x ∈ prev ∨ ∃ j, j < k ∧ l[j]? = some x) →
    (ms.getD y.i 0).testBit x.i = true ∨ ((isLoad ops x = true → isHeavy y.o = true → aloadOp P x.T y.h' x.o.op = some x.v) ∧ (isHeavy x.o = true → isLoad ops y = true → aloadOp P y.T x.h y.o.op = some y.v))
  | [], _, _, x, y, k, hy, _ => by simp at hy
  | z :: r, prev, hd, x, y, k, hy, hx => by
    simp only [dynPairs, List.mem_append, List.mem_flatMap] at hd
    cases k with
    | zero =>
      simp only [List.getElem?_cons_zero, Option.some.injEq] at hy
      subst hy
      rcases hx with hx | ⟨j, hj, _⟩
      · by_cases hb : (ms.getD z.i 0).testBit x.i = true
        · exact .inl hb
        · right
          refine ⟨fun p q => ?_, fun p q => ?_⟩
          · exact hd (aloadOp P x.T z.h' x.o.op, some x.v) (.inl ⟨x, hx, by rw [if_neg hb]; simp [p, q]⟩)
          · exact hd (aloadOp P z.T x.h z.o.op, some z.v) (.inl ⟨x, hx, by rw [if_neg hb]; simp [p, q]⟩)
      · omega
    | succ k =>
      simp only [List.getElem?_cons_succ] at hy
      refine dynPairs_in r (z :: prev) (fun p hp => hd p (.inr hp)) x y k hy ?_
      rcases hx with hx | ⟨j, hj, hx⟩
      · exact .inl (List.mem_cons_of_mem _ hx)
      · cases j with
        | zero => simp only [List.getElem?_cons_zero, Option.some.injEq] at hx; subst hx; exact .inl (by simp)
        | succ j => exact .inr ⟨j, by omega, by simpa using hx⟩
theorem pairs_eq {α : Type} : ∀ {l : List (α × α)}, l.map Prod.fst = l.map Prod.snd → ∀ p ∈ l, p.1 = p.2
  | [], _, p, hp => by cases hp
  | q :: l, h, p, hp => by
    simp only [List.map_cons, List.cons.injEq] at h
    rcases List.mem_cons.1 hp with rfl | hp
    · exact h.1
    · exact pairs_eq h.2 p hp
theorem dynPairs_spec {ops : Array Oper} {ms : List Nat} {l : List Ent} (h : (dynPairs P ops ms [] l).map Prod.fst = (dynPairs P ops ms [] l).map Prod.snd) : DynP P ops ms l :=
  fun x y j k hjk hx hy => dynPairs_in l [] (pairs_eq h) x y k hy (.inr ⟨j, hjk, hx⟩)

/-! ### operations, from behind -/
theorem ODet.nil {ops : Array Oper} {i : Nat} {T : Env} {h : Heap} {Φ : List Ent → Env → Heap → Prop} (hp : Φ [] T h) : ODet P X n ops [] i T h Φ := ⟨_, _, _, .nil _ _ _, hp⟩
theorem ODet.cons {ops : Array Oper} {o : Oper} {rest : List Oper} {i : Nat} {T T1 : Env} {h h1 : Heap} {v : Value} {Φ : List Ent → Env → Heap → Prop} (s : StepOk P X ops T h o v h1) (f : fillSlot n T o.dst v = some T1)
    (k : ODet P X n ops rest (i + 1) T1 h1 (fun l => Φ (⟨o, i, T, h, h1, v⟩ :: l))) : ODet P X n ops (o :: rest) i T h Φ := by
  obtain ⟨l, T', h', r, hp⟩ := k
  exact ⟨_, _, _, .cons s f r, hp⟩
theorem ODet.next {ops : Array Oper} {o : Oper} {rest : List Oper} {i : Nat} {T T1 : Env} {h h1 : Heap} {v : Value} {Φ : Env → Heap → Prop} (s : StepOk P X ops T h o v h1) (f : fillSlot n T o.dst v = some T1)
    (k : ODet P X n ops rest (i + 1) T1 h1 (fun _ => Φ)) : ODet P X n ops (o :: rest) i T h (fun _ => Φ) := ODet.cons s f k

/-! ### code, from behind -/
theorem Det.mono {c : Code} {T : Env} {h : Heap} {Φ Ψ : AExit → Env → Heap → Prop} (d : Det P n c T h Φ) (hm : ∀ e T' h', Φ e T' h' → Ψ e T' h') : Det P n c T h Ψ := by
  obtain ⟨e, T', h', r, hp⟩ := d
  exact ⟨e, T', h', r, hm _ _ _ hp⟩
theorem Det.weaken {c : Code} {T T0 : Env} {h : Heap} {Φ : AExit → Env → Heap → Prop} (hs : Env.sub T0 T) (d : Det P n c T0 h Φ) : Det P n c T h Φ := by
  obtain ⟨e, T', h', r, hp⟩ := d
  exact ⟨e, T', h', ⟨r.runs.weaken hs (fun _ _ h => h), r.nx⟩, hp⟩
theorem Det.skip {T : Env} {h : Heap} {Φ : AExit → Env → Heap → Prop} (hp : Φ .normal T h) : Det P n .skip T h Φ := ⟨_, _, _, ⟨Runs.skip, fun hk => ⟨Nat.le_refl _, hk⟩⟩, hp⟩
theorem Det.label {l : Nat} {T : Env} {h : Heap} {Φ : AExit → Env → Heap → Prop} (hp : Φ .normal T h) : Det P n (.label l) T h Φ := ⟨_, _, _, ⟨Runs.label, fun hk => ⟨Nat.le_refl _, hk⟩⟩, hp⟩
theorem Det.ret {T : Env} {h : Heap} {Φ : AExit → Env → Heap → Prop} (hp : Φ .ret T h) : Det P n .ret T h Φ := ⟨_, _, _, ⟨Runs.ret, fun hk => ⟨Nat.le_refl _, hk⟩⟩, hp⟩
theorem Det.exit {id : Nat} {T : Env} {h : Heap} {Φ : AExit → Env → Heap → Prop} (hp : Φ (.exit id) T h) : Det P n (.exit id) T h Φ := ⟨_, _, _, ⟨Runs.exit, fun hk => ⟨Nat.le_refl _, hk⟩⟩, hp⟩
def AExit.then (e : AExit) (a : Prop) (b : AExit → Prop) : Prop := match e with | .normal => a | e => b e
theorem Det.seq {x y : Code} {T : Env} {h : Heap} {Φ : AExit → Env → Heap → Prop} (d : Det P n x T h fun e T1 h1 => e.then (Det P n y T1 h1 Φ) fun e => Φ e T1 h1) : Det P n (.seq x y) T h Φ := by
  obtain ⟨e, T1, h1, r, hp⟩ := d
  cases e with
  | normal =>
    obtain ⟨e2, T2, h2, r2, hp2⟩ := hp
    refine ⟨e2, T2, h2, ⟨r.runs.seq r2.runs, fun hk => ?_⟩, hp2⟩
    have a := r.nx hk
    have b := r2.nx a.2
    exact ⟨Nat.le_trans a.1 b.1, b.2⟩
  | exit i => exact ⟨_, _, _, ⟨r.runs.seq_out (by simp), r.nx⟩, hp⟩
  | ret => exact ⟨_, _, _, ⟨r.runs.seq_out (by simp), r.nx⟩, hp⟩
theorem Det.cond {x : Operand} {y z : Code} {T : Env} {h : Heap} {b : Bool} {Φ : AExit → Env → Heap → Prop} (hx : rv T x = some (.bool b)) (d : Det P n (if b then y else z) T h Φ) : Det P n (.cond x y z) T h Φ := by
  obtain ⟨e, T', h', r, hp⟩ := d
  exact ⟨_, _, _, ⟨r.runs.cond hx, r.nx⟩, hp⟩
theorem Det.cond_true {x : Operand} {y z : Code} {T : Env} {h : Heap} {Φ : AExit → Env → Heap → Prop} (hx : rv T x = some (.bool true)) (d : Det P n y T h Φ) : Det P n (.cond x y z) T h Φ := Det.cond hx d
theorem Det.cond_false {x : Operand} {y z : Code} {T : Env} {h : Heap} {Φ : AExit → Env → Heap → Prop} (hx : rv T x = some (.bool false)) (d : Det P n z T h Φ) : Det P n (.cond x y z) T h Φ := Det.cond hx d
theorem Det.block {id : Nat} {c : Code} {T : Env} {h : Heap} {Φ : AExit → Env → Heap → Prop} (d : Det P n c T h fun e T' h' => Φ (e.inBlock id) T' h') : Det P n (.block id c) T h Φ := by
  obtain ⟨e, T', h', r, hp⟩ := d
  exact ⟨_, _, _, ⟨r.runs.block, r.nx⟩, hp⟩
theorem Det.ops {id : Nat} {ops : Array Oper} {T : Env} {h : Heap} {Φ : AExit → Env → Heap → Prop} (hX : ExtOk P X) (d : ODet P X n ops ops.toList 0 T h fun _ T' h' => Φ .normal T' h') : Det P n (.region id ops false) T h Φ := by
  obtain ⟨l, T', h', r, hp⟩ := d
  refine ⟨.normal, T', h', ⟨?_, r.nx⟩, hp⟩
  intro ds B ρ a w Q hE hH hQ
  refine wp_region ?_
  have := r.wp hX (Q := Q) (a := a) rfl hE hH hQ
  simpa [List.range_eq_range'] using this
theorem Det.draw {id : Nat} {ops : Array Oper} {T : Env} {h : Heap} {Φ : AExit → Env → Heap → Prop} (hmix : P.follows .mixedOrders = true) (hX : ExtOk P X) (hst : staticOk ops = true) (hsd : statDyn (masks ops.toList []) [] (numbered ops.toList 0) = true)
    (d : ODet P X n ops ops.toList 0 T h fun _ T' h' => Φ .normal T' h') : Det P n (.region id ops true) T h Φ := by
  obtain ⟨l, T', h', r, hp⟩ := d
  exact ⟨.normal, T', h', r.draw hmix hX hst (.of_ok (statDyn_spec l [] (by rw [r.marks]; exact hsd))), hp⟩
theorem Det.draw_dyn {id : Nat} {ops : Array Oper} {T : Env} {h : Heap} {Φ : AExit → Env → Heap → Prop} (hmix : P.follows .mixedOrders = true) (hX : ExtOk P X) (hst : staticOk ops = true)
    (d : ODet P X n ops ops.toList 0 T h fun l T' h' => (dynPairs P ops (masks ops.toList []) [] l).map Prod.fst = (dynPairs P ops (masks ops.toList []) [] l).map Prod.snd ∧ Φ .normal T' h') : Det P n (.region id ops true) T h Φ := by
  obtain ⟨l, T', h', r, hd, hp⟩ := d
  exact ⟨.normal, T', h', r.draw hmix hX hst (dynPairs_spec hd), hp⟩

/-- A loop: S x are its slots, H x says what its memory is; each round comes to a lesser x, or leaves. -/
theorem Det.loop {α : Type} (m : α → Nat) (S : α → Env) (H : α → Heap → Prop) {b : Code} {Φ : AExit → Env → Heap → Prop}
    (body : ∀ x h, H x h → Det P n b (S x) h fun e T' h' => e.then (∃ y, m y < m x ∧ Env.sub (S y) T' ∧ H y h') fun e => Φ e T' h') :
    ∀ (x : α) (T : Env) (h : Heap), Env.sub (S x) T → H x h → Det P n (.loop b) T h Φ := by
  have key : ∀ (k : Nat) (x : α) (T : Env) (h : Heap), m x < k → Env.sub (S x) T → H x h → ∃ e T' h', Rounds P n b T h e T' h' ∧ (h.ok → h.next ≤ h'.next ∧ h'.ok) ∧ Φ e T' h' := by
    intro k
    induction k with
    | zero => intro x T h hk; omega
    | succ k ih =>
      intro x T h hk hs hH
      obtain ⟨e, T1, h1, r, hp⟩ := Det.weaken hs (body x h hH)
      cases e with
      | normal =>
        obtain ⟨y, hy, hs1, hH1⟩ := hp
        obtain ⟨e2, T2, h2, r2, n2, hp2⟩ := ih y T1 h1 (by omega) hs1 hH1
        refine ⟨e2, T2, h2, .more r.runs r2, fun hk => ?_, hp2⟩
        have a := r.nx hk
        have b := n2 a.2
        exact ⟨Nat.le_trans a.1 b.1, b.2⟩
      | exit i => exact ⟨_, _, _, .last r.runs (by simp), r.nx, hp⟩
      | ret => exact ⟨_, _, _, .last r.runs (by simp), r.nx, hp⟩
  intro x T h hs hH
  obtain ⟨e, T', h', r, hn, hp⟩ := key (m x + 1) x T h (by omega) hs hH
  exact ⟨e, T', h', ⟨r.runs, hn⟩, hp⟩

/-! ### functions, from behind -/
theorem DetFn.of_body {f : FuncId} {fn : Func} {c : Code} {args : List Value} {h : Heap} {Φ : Value → Heap → Prop} (hf : P.funcs[f]? = some fn) (hc : fn.body = some c) (hl : args.length ≤ fn.ntmps)
    (d : Det P fn.ntmps c (initEnv args) h fun e T h' => (e = .normal ∨ e = .ret) ∧ ∃ vs, aresults P T h' fn.results.toList = some vs ∧ Φ (asOne vs) h') : DetFn P f args h Φ := by
  obtain ⟨e, T, h', r, he, vs, hr, hp⟩ := d
  exact ⟨_, _, ⟨Does.of_body hf hc hl he r.runs hr, r.nx⟩, hp⟩

theorem DetFn.mono {f : FuncId} {args : List Value} {h : Heap} {Φ Ψ : Value → Heap → Prop} (d : DetFn P f args h Φ) (hm : ∀ v h', Φ v h' → Ψ v h') : DetFn P f args h Ψ := by
  obtain ⟨v, h', r, hp⟩ := d
  exact ⟨v, h', r, hm _ _ hp⟩

/-- What the engine computed. -/
theorem DetFn.of_ev {f : FuncId} {args : List Value} {h h' : Heap} {v : Value} {k : Nat} {Φ : Value → Heap → Prop} (hmix : P.follows .mixedOrders = true) (hX : ExtOk P X) (he : evFn P X noSum k f args h = some (v, h')) (hp : Φ v h') : DetFn P f args h Φ :=
  ⟨v, h', ⟨fun _ ρ w args' hH ha => evFn_sim hmix hX noSum_sim noSum_next k _ _ _ _ _ he ρ w args' hH ha, fun hk => evFn_next noSum_next k _ _ _ _ _ hk he⟩, hp⟩

/-- A call whose arguments hold no memory, in the model's words. -/
theorem DetFn.calls {f : FuncId} {args : List Value} {b : Bool} (hargs : args.all flat = true) (d : DetFn P f args Heap.empty fun v _ => v = .bool b) (w : World) :
    Calls P f args.toArray w fun e w' => e = .returned (.bool b) ∧ RowKit.Below w.heap.size w w' := by
  obtain ⟨v, h', r, rfl⟩ := d
  refine (r.does w.heap.size (fun _ => none) w args (HRel.empty w) (flats_rel _ hargs)).mono ?_
  rintro e w' ⟨v', ρ', rfl, h1, _, h3⟩
  cases h1
  exact ⟨rfl, h3.below (HRel.empty w)⟩
end
end Go.Proofs.YthijllagngkbgaaGreat.Eng
