/- The engine, part 20: the rules of EngDet for proofs that a program prints: operations by their number, slots and memory left uncomputed in the text. -/
import Derived.Test.YthijllagngkbgaaGreatEngDet
import Derived.KernelRfl
namespace Go.Proofs.YthijllagngkbgaaGreat.Eng
open Go

abbrev St := Env × Heap

def opAt (ops : Array Oper) (i : Nat) : Oper := (ops[i]?).getD ⟨none, .ready 0, 0, "", #[], none⟩

section
variable (P : Program) (X : Ext)
/-- From operation i on, all comes to one outcome, of which Φ holds. -/
def OD (n : Nat) (ops : Array Oper) (i : Nat) (s : St) (Φ : List Ent → St → Prop) : Prop := ODet P X n ops (ops.toList.drop i) i s.1 s.2 fun l T h => Φ l (T, h)

/-- k operations from number i on -/
def runK (n : Nat) (ops : Array Oper) : Nat → Nat → St → Option St
  | 0, _, s => some s
  | k + 1, i, s => (ops[i]?).bind fun o => (aval P X noSum ops s.1 s.2 o).bind fun (v, h') => (fillSlot n s.1 o.dst v).bind fun T' => runK n ops k (i + 1) (T', h')

/-- what they were -/
def entsK (n : Nat) (ops : Array Oper) : Nat → Nat → St → List Ent
  | 0, _, _ => []
  | k + 1, i, s => match ops[i]? with
    | none => []
    | some o => match aval P X noSum ops s.1 s.2 o with
      | none => []
      | some (v, h') => match fillSlot n s.1 o.dst v with
        | none => []
        | some T' => ⟨o, i, s.1, s.2, h', v⟩ :: entsK n ops k (i + 1) (T', h')

/-- where they come to -/
def runTo (n : Nat) (ops : Array Oper) (k i : Nat) (s : St) : St := (runK P X n ops k i s).getD s
def put (ops : Array Oper) (i : Nat) (s : St) (v : Value) : St := match (opAt ops i).dst with
  | some d => (s.1.put d (some v), s.2)
  | none => s
def putH (ops : Array Oper) (i : Nat) (s : St) (v : Value) (h : Heap) : St := match (opAt ops i).dst with
  | some d => (s.1.put d (some v), h)
  | none => (s.1, h)
end

section
variable {P : Program} {X : Ext} {n : Nat} {ops : Array Oper} {i : Nat} {s : St} {Φ : List Ent → St → Prop}

theorem drop_at {i : Nat} {o : Oper} (h : ops[i]? = some o) : ops.toList.drop i = o :: ops.toList.drop (i + 1) := by
  have hi : i < ops.toList.length := by
    rcases Nat.lt_or_ge i ops.size with h1 | h1
    · simpa using h1
    · rw [Array.getElem?_eq_none h1] at h; cases h
  rw [List.drop_eq_getElem_cons hi]
  congr 1
  have : ops.toList[i]? = some o := by simpa using h
  rw [List.getElem?_eq_getElem hi] at this
  exact Option.some.inj this

theorem OD.run : ∀ (k : Nat) {i : Nat} {s : St} {Φ : List Ent → St → Prop}, (runK P X n ops k i s).isSome = true → OD P X n ops (i + k) (runTo P X n ops k i s) (fun l => Φ (entsK P X n ops k i s ++ l)) → OD P X n ops i s Φ
  | 0, i, s, Φ, _, h => h
  | k + 1, i, s, Φ, hk, h => by
    unfold runTo at h
    unfold runK at hk h
    cases ho : ops[i]? with
    | none => rw [ho] at hk; simp at hk
    | some o =>
      rw [ho] at hk h
      simp only [Option.bind_some] at hk h
      cases hv : aval P X noSum ops s.1 s.2 o with
      | none => rw [hv] at hk; simp at hk
      | some r =>
        obtain ⟨v, h1⟩ := r
        rw [hv] at hk h
        simp only [Option.bind_some] at hk h
        cases hf : fillSlot n s.1 o.dst v with
        | none => rw [hf] at hk; simp at hk
        | some T1 =>
          rw [hf] at hk h
          simp only [Option.bind_some] at hk h
          have hs : (runK P X n ops k (i + 1) (T1, h1)).getD s = runTo P X n ops k (i + 1) (T1, h1) := by
            unfold runTo
            cases hr : runK P X n ops k (i + 1) (T1, h1) with
            | none => rw [hr] at hk; simp at hk
            | some r => rfl
          have he : entsK P X n ops (k + 1) i s = ⟨o, i, s.1, s.2, h1, v⟩ :: entsK P X n ops k (i + 1) (T1, h1) := by
            simp only [entsK, ho, hv, hf]
          rw [hs, he, show i + (k + 1) = i + 1 + k by omega] at h
          have := OD.run k (Φ := fun l => Φ (⟨o, i, s.1, s.2, h1, v⟩ :: l)) hk h
          unfold OD
          rw [drop_at ho]
          exact ODet.cons (.plain hv) hf this

theorem OD.done (hi : ops.size ≤ i) (h : Φ [] s) : OD P X n ops i s Φ := by
  unfold OD
  rw [List.drop_of_length_le (by simpa using hi)]
  exact ODet.nil h

/-- one operation, told -/
theorem OD.step {o : Oper} {v : Value} {h1 : Heap} (ho : ops[i]? = some o) (hd : (match o.dst with | some d => decide (d < n) | none => true) = true) (hs : StepOk P X ops s.1 s.2 o v h1)
    (k : OD P X n ops (i + 1) (putH ops i s v h1) (fun l => Φ (⟨opAt ops i, i, s.1, s.2, h1, v⟩ :: l))) : OD P X n ops i s Φ := by
  unfold OD at k ⊢
  rw [drop_at ho]
  have e : opAt ops i = o := by simp [opAt, ho]
  rw [e] at k
  refine ODet.cons (T1 := (putH ops i s v h1).1) (h1 := h1) hs ?_ ?_
  · unfold putH fillSlot
    rw [e]
    cases hdst : o.dst with
    | none => rfl
    | some d => rw [hdst] at hd; simp at hd; simp [hd]
  · have : (putH ops i s v h1).2 = h1 := by unfold putH; split <;> rfl
    rw [this] at k
    exact k

/-- one operation that leaves memory alone -/
theorem OD.keep {o : Oper} {v : Value} (ho : ops[i]? = some o) (hd : (match o.dst with | some d => decide (d < n) | none => true) = true) (hs : StepOk P X ops s.1 s.2 o v s.2)
    (k : OD P X n ops (i + 1) (put ops i s v) (fun l => Φ (⟨opAt ops i, i, s.1, s.2, s.2, v⟩ :: l))) : OD P X n ops i s Φ := by
  refine OD.step ho hd hs ?_
  have : putH ops i s v s.2 = put ops i s v := by unfold putH put; split <;> rfl
  rw [this]
  exact k

/-- one operation whose value is said in other words -/
theorem OD.as (v0 v : Value) (ha : aval P X noSum ops s.1 s.2 (opAt ops i) = some (v0, s.2)) (hi : i < ops.size) (hd : (match (opAt ops i).dst with | some d => decide (d < n) | none => true) = true) (hv : v0 = v)
    (k : OD P X n ops (i + 1) (put ops i s v) (fun l => Φ (⟨opAt ops i, i, s.1, s.2, s.2, v⟩ :: l))) : OD P X n ops i s Φ := by
  subst hv
  have ho : ops[i]? = some (opAt ops i) := by simp [opAt, hi]
  exact OD.keep ho hd (.plain ha) k

theorem not_t {b : Bool} (h : b = false) : (!b) = true := by rw [h]; rfl
theorem not_f {b : Bool} (h : b = true) : (!b) = false := by rw [h]; rfl

/-- what a binary operation is given -/
def binAt (T : Env) (o : Oper) : Option (BinOp × TypeId × Value × Value) := match o.op with
  | .binOp op t x y _ => (rv T x).bind fun a => (rv T y).bind fun b => some (op, t, a, b)
  | _ => none
theorem OD.bin (op : BinOp) (t : TypeId) (a b v : Value) (ha : binAt s.1 (opAt ops i) = some (op, t, a, b)) (hw : awant ops s.1 (opAt ops i) = some true) (hi : i < ops.size)
    (hd : (match (opAt ops i).dst with | some d => decide (d < n) | none => true) = true) (hv : abin P op t a b = some v)
    (k : OD P X n ops (i + 1) (put ops i s v) (fun l => Φ (⟨opAt ops i, i, s.1, s.2, s.2, v⟩ :: l))) : OD P X n ops i s Φ := by
  have ho : ops[i]? = some (opAt ops i) := by simp [opAt, hi]
  refine OD.keep ho hd (.plain ?_) k
  unfold binAt at ha
  split at ha
  · rename_i op' t' x y yt hop
    simp only [Option.bind_eq_some_iff, Option.some.injEq, Prod.mk.injEq] at ha
    obtain ⟨a', h1, b', h2, rfl, rfl, rfl, rfl⟩ := ha
    unfold aval
    rw [hw, hop]
    simp [kindOf, apure, h1, h2, abinT_of hv]
  · cases ha
theorem abin_rem {t : TypeId} {k : IntKind} {x y : Int} (h : y ≠ 0) : abin P .rem t (.int k x) (.int k y) = some (.int k (x.tmod y)) := by simp [abin, aint, h]
theorem abin_quo {t : TypeId} {k : IntKind} {x y : Int} (h : y ≠ 0) : abin P .quo t (.int k x) (.int k y) = some (.int k (k.wrap (x.tdiv y))) := by simp [abin, aint, h]

/-- a call -/
theorem OD.call (k : FuncId) (args : List Value) {Ψ : Value → Heap → Prop} (D : DetFn P k args s.2 Ψ)
    (hc : (match (opAt ops i).op with
      | .call { callee := .value f, args := as, .. } => (rv s.1 f).bind fun fv => (rvs s.1 as.toList).bind fun vs => match fv with
        | .func (.func k) first captured => some (k, first.toList ++ vs ++ captured.toList)
        | _ => none
      | _ => none) = some (k, args)) (hi : i < ops.size) (hd : (match (opAt ops i).dst with | some d => decide (d < n) | none => true) = true) (hw : awant ops s.1 (opAt ops i) = some true)
    (hfn : (match P.funcs[k]? with | some fn => !(fn.name == "runtime.NumGoroutine") && !fn.body.isNone | none => false) = true)
    (c : ∀ v h1, Ψ v h1 → OD P X n ops (i + 1) (putH ops i s v h1) (fun l => Φ (⟨opAt ops i, i, s.1, s.2, h1, v⟩ :: l))) : OD P X n ops i s Φ := by
  obtain ⟨v, h1, D, hp⟩ := D
  have ho : ops[i]? = some (opAt ops i) := by simp [opAt, hi]
  cases hk : P.funcs[k]? with
  | none => rw [hk] at hfn; simp at hfn
  | some fn =>
    rw [hk] at hfn
    simp only [Bool.and_eq_true, Bool.not_eq_true'] at hfn
    split at hc
    · rename_i f as ts hop
      simp only [Option.bind_eq_some_iff] at hc
      obtain ⟨fv, hfv, vs, hvs, hc⟩ := hc
      split at hc
      · simp only [Option.some.injEq, Prod.mk.injEq] at hc
        obtain ⟨rfl, rfl⟩ := hc
        exact OD.step ho hd (StepOk.call hop hw hfv hvs hk hfn.1 hfn.2 D) (c v h1 hp)
      · cases hc
    · cases hc

/-- a function's end -/
def Fin (P : Program) (rs : List ResultVar) (Ψ : Value → Heap → Prop) (e : AExit) (T : Env) (h : Heap) : Prop := (e = .normal ∨ e = .ret) ∧ ∃ vs, aresults P T h rs = some vs ∧ Ψ (asOne vs) h
theorem fin_n {e : AExit} {T : Env} {h : Heap} {rs : List ResultVar} {Ψ : Value → Heap → Prop} (v : Value) (hr : (aresults P T h rs).map asOne = some v) (he : e = .normal) (hp : Ψ v h) : Fin P rs Ψ e T h := by
  obtain ⟨vs, h1, rfl⟩ := Option.map_eq_some_iff.mp hr
  exact ⟨.inl he, vs, h1, hp⟩
theorem fin_r {e : AExit} {T : Env} {h : Heap} {rs : List ResultVar} {Ψ : Value → Heap → Prop} (v : Value) (hr : (aresults P T h rs).map asOne = some v) (he : e = .ret) (hp : Ψ v h) : Fin P rs Ψ e T h := by
  obtain ⟨vs, h1, rfl⟩ := Option.map_eq_some_iff.mp hr
  exact ⟨.inr he, vs, h1, hp⟩

/-! ### code by its place -/
def child : Code → Nat → Code
  | .seq a _, 0 => a
  | .seq _ b, _ => b
  | .cond _ a _, 0 => a
  | .cond _ _ b, _ => b
  | .block _ b, _ => b
  | .loop b, _ => b
  | c, _ => c
/-- the code at a place, the last step first -/
def sub (root : Code) : List Nat → Code
  | [] => root
  | i :: p => child (sub root p) i
def bodyOf (f : Func) : Code := f.body.getD .skip
def opsIn : Code → Array Oper
  | .region _ ops _ => ops
  | _ => #[]
def condOf : Code → Operand
  | .cond x _ _ => x
  | _ => .tmp 0
def idOf : Code → Nat
  | .block i _ => i
  | .exit i => i
  | _ => 0
def isSeq : Code → Bool | .seq _ _ => true | _ => false
def isOps : Code → Bool | .region _ _ false => true | _ => false
def isDraw : Code → Bool | .region _ _ true => true | _ => false
def isCond : Code → Bool | .cond _ _ _ => true | _ => false
def isBlock : Code → Bool | .block _ _ => true | _ => false
def isLoop : Code → Bool | .loop _ => true | _ => false
def isExit : Code → Bool | .exit _ => true | _ => false
def isRet : Code → Bool | .ret => true | _ => false
def isSkip : Code → Bool | .skip | .label _ => true | _ => false

section
variable {root : Code} {p : List Nat} {T : Env} {h : Heap} {Φ : AExit → Env → Heap → Prop}
theorem Det.enter {f : FuncId} {fn : Func} {args : List Value} {Ψ : Value → Heap → Prop} (hf : P.funcs[f]? = some fn) (hb : fn.body.isSome = true) (hl : args.length ≤ fn.ntmps)
    (d : Det P fn.ntmps (sub (bodyOf fn) []) (initEnv args) h fun e T h' => Fin P fn.results.toList Ψ e T h') : DetFn P f args h Ψ := by
  obtain ⟨c, hc⟩ := Option.isSome_iff_exists.mp hb
  refine DetFn.of_body hf hc hl ?_
  simpa [sub, bodyOf, hc, Fin] using d
theorem Det.seqA (hs : isSeq (sub root p) = true) (d : Det P n (sub root (0 :: p)) T h fun e T1 h1 => e.then (Det P n (sub root (1 :: p)) T1 h1 Φ) fun e => Φ e T1 h1) : Det P n (sub root p) T h Φ := by
  simp only [sub] at d
  generalize sub root p = c at *
  cases c <;> simp only [isSeq] at hs <;> first | (cases hs; done) | skip
  exact Det.seq d
theorem Det.opsA (hs : isOps (sub root p) = true) (hX : ExtOk P X) (d : OD P X n (opsIn (sub root p)) 0 (T, h) fun _ s => Φ .normal s.1 s.2) : Det P n (sub root p) T h Φ := by
  generalize sub root p = c at *
  cases c with
  | region id ops b => cases b with
    | false => exact Det.ops hX d
    | true => cases hs
  | _ => cases hs
theorem Det.drawA (hs : isDraw (sub root p) = true) (hmix : P.follows .mixedOrders = true) (hX : ExtOk P X) (hst : staticOk (opsIn (sub root p)) = true) (hsd : statDyn (masks (opsIn (sub root p)).toList []) [] (numbered (opsIn (sub root p)).toList 0) = true)
    (d : OD P X n (opsIn (sub root p)) 0 (T, h) fun _ s => Φ .normal s.1 s.2) : Det P n (sub root p) T h Φ := by
  generalize sub root p = c at *
  cases c with
  | region id ops b => cases b with
    | true => exact Det.draw hmix hX hst hsd d
    | false => cases hs
  | _ => cases hs
theorem Det.drawB (hs : isDraw (sub root p) = true) (hmix : P.follows .mixedOrders = true) (hX : ExtOk P X) (hst : staticOk (opsIn (sub root p)) = true)
    (d : OD P X n (opsIn (sub root p)) 0 (T, h) fun l s => (dynPairs P (opsIn (sub root p)) (masks (opsIn (sub root p)).toList []) [] l).map Prod.fst = (dynPairs P (opsIn (sub root p)) (masks (opsIn (sub root p)).toList []) [] l).map Prod.snd ∧ Φ .normal s.1 s.2) :
    Det P n (sub root p) T h Φ := by
  generalize sub root p = c at *
  cases c with
  | region id ops b => cases b with
    | true => exact Det.draw_dyn hmix hX hst d
    | false => cases hs
  | _ => cases hs
theorem Det.condT (hs : isCond (sub root p) = true) (b : Bool) (hx : rv T (condOf (sub root p)) = some (.bool b)) (hb : b = true) (d : Det P n (sub root (0 :: p)) T h Φ) : Det P n (sub root p) T h Φ := by
  simp only [sub] at d
  generalize sub root p = c at *
  cases c with
  | cond x y z => subst hb; exact Det.cond_true hx d
  | _ => cases hs
theorem Det.condF (hs : isCond (sub root p) = true) (b : Bool) (hx : rv T (condOf (sub root p)) = some (.bool b)) (hb : b = false) (d : Det P n (sub root (1 :: p)) T h Φ) : Det P n (sub root p) T h Φ := by
  simp only [sub] at d
  generalize sub root p = c at *
  cases c with
  | cond x y z => subst hb; exact Det.cond_false hx d
  | _ => cases hs
theorem Det.blockA (hs : isBlock (sub root p) = true) (d : Det P n (sub root (0 :: p)) T h fun e T' h' => Φ (e.inBlock (idOf (sub root p))) T' h') : Det P n (sub root p) T h Φ := by
  simp only [sub] at d
  generalize sub root p = c at *
  cases c with
  | block id b => exact Det.block d
  | _ => cases hs
theorem Det.exitA (hs : isExit (sub root p) = true) (d : Φ (.exit (idOf (sub root p))) T h) : Det P n (sub root p) T h Φ := by
  generalize sub root p = c at *
  cases c with
  | exit id => exact Det.exit d
  | _ => cases hs
theorem Det.retA (hs : isRet (sub root p) = true) (d : Φ .ret T h) : Det P n (sub root p) T h Φ := by
  generalize sub root p = c at *
  cases c with
  | ret => exact Det.ret d
  | _ => cases hs
theorem Det.skipA (hs : isSkip (sub root p) = true) (d : Φ .normal T h) : Det P n (sub root p) T h Φ := by
  generalize sub root p = c at *
  cases c with
  | skip => exact Det.skip d
  | label l => exact Det.label d
  | _ => cases hs
theorem Det.loopA {α : Type} (hs : isLoop (sub root p) = true) (m : α → Nat) (S : α → Env) (H : α → Heap → Prop) (x : α) (hS : Env.sub (S x) T) (hH : H x h)
    (body : ∀ x h, H x h → Det P n (sub root (0 :: p)) (S x) h fun e T' h' => e.then (∃ y, m y < m x ∧ Env.sub (S y) T' ∧ H y h') fun e => Φ e T' h') : Det P n (sub root p) T h Φ := by
  simp only [sub] at body
  generalize sub root p = c at *
  cases c with
  | loop b => exact Det.loop m S H body x T h hS hH
  | _ => cases hs
end

theorem then_n {e : AExit} {a : Prop} {b : AExit → Prop} (he : e = .normal) (ha : a) : e.then a b := by subst he; exact ha
theorem then_x {e : AExit} {a : Prop} {b : AExit → Prop} (i : Nat) (he : e = .exit i) (hb : b (.exit i)) : e.then a b := by subst he; exact hb
theorem then_r {e : AExit} {a : Prop} {b : AExit → Prop} (he : e = .ret) (hb : b .ret) : e.then a b := by subst he; exact hb

theorem DoesOk.of_ev {f : FuncId} {args : List Value} {h h' : Heap} {v : Value} (k : Nat) (hmix : P.follows .mixedOrders = true) (hX : ExtOk P X) (he : evFn P X noSum k f args h = some (v, h')) : DoesOk P f args h v h' :=
  ⟨fun _ ρ w args' hH ha => evFn_sim hmix hX noSum_sim noSum_next k _ _ _ _ _ he ρ w args' hH ha, fun hk => evFn_next noSum_next k _ _ _ _ _ hk he⟩

/-- a call, computed -/
theorem OD.callEv (fuel : Nat) (k : FuncId) (args : List Value) (v : Value) (h1 : Heap) (hmix : P.follows .mixedOrders = true) (hX : ExtOk P X) (he : evFn P X noSum fuel k args s.2 = some (v, h1))
    (hc : (match (opAt ops i).op with
      | .call { callee := .value f, args := as, .. } => (rv s.1 f).bind fun fv => (rvs s.1 as.toList).bind fun vs => match fv with
        | .func (.func k) first captured => some (k, first.toList ++ vs ++ captured.toList)
        | _ => none
      | _ => none) = some (k, args)) (hi : i < ops.size) (hd : (match (opAt ops i).dst with | some d => decide (d < n) | none => true) = true) (hw : awant ops s.1 (opAt ops i) = some true)
    (hfn : (match P.funcs[k]? with | some fn => !(fn.name == "runtime.NumGoroutine") && !fn.body.isNone | none => false) = true)
    (c : OD P X n ops (i + 1) (putH ops i s v h1) (fun l => Φ (⟨opAt ops i, i, s.1, s.2, h1, v⟩ :: l))) : OD P X n ops i s Φ :=
  OD.call k args (Ψ := fun u h2 => u = v ∧ h2 = h1) ⟨v, h1, DoesOk.of_ev fuel hmix hX he, rfl, rfl⟩ hc hi hd hw hfn (by rintro _ _ ⟨rfl, rfl⟩; exact c)

/-! ### a call without memory, in any memory -/
theorem flat_eq {ρ : Where} {v v' : Value} (h : flat v = true) (r : VRel ρ v v') : v' = v := by
  cases r <;> first | rfl | (simp [flat] at h)
theorem flats_eq {ρ : Where} : ∀ {vs vs' : List Value}, vs.all flat = true → VRels ρ vs vs' → vs' = vs
  | [], _, _, r => by cases r; rfl
  | v :: vs, _, h, r => by
    simp only [List.all_cons, Bool.and_eq_true] at h
    cases r with
    | cons _ _ _ _ a t => rw [flat_eq h.1 a, flats_eq h.2 t]
theorem ground_eq {ρ : Where} {v v' : Value} (h : ground v = true) (r : VRel ρ v v') : v' = v := by
  cases r with
  | agg x x' hx => simp only [ground] at h; rw [Array.toList_inj.1 (flats_eq h hx)]
  | tuple x x' hx => simp only [ground] at h; rw [Array.toList_inj.1 (flats_eq h hx)]
  | _ => first | rfl | (simp [ground, flat] at h)
theorem grounds_rel (ρ : Where) : ∀ {vs : List Value}, vs.all ground = true → VRels ρ vs vs
  | [], _ => .nil
  | v :: vs, h => by
    simp only [List.all_cons, Bool.and_eq_true] at h
    exact .cons _ _ _ _ (ground_rel ρ h.1) (grounds_rel ρ h.2)
theorem grounds_eq {ρ : Where} : ∀ {vs vs' : List Value}, vs.all ground = true → VRels ρ vs vs' → vs' = vs
  | [], _, _, r => by cases r; rfl
  | v :: vs, _, h, r => by
    simp only [List.all_cons, Bool.and_eq_true] at h
    cases r with
    | cons _ _ _ _ a t => rw [ground_eq h.1 a, grounds_eq h.2 t]

theorem DetFn.flat {f : FuncId} {args : List Value} {v : Value} (hargs : args.all ground = true) (hv : ground v = true) (d : DetFn P f args Heap.empty fun u _ => u = v) (h : Heap) : DetFn P f args h fun u h' => u = v ∧ h' = h := by
  obtain ⟨u, h0, r, rfl⟩ := d
  refine ⟨u, h, ⟨?_, fun hk => ⟨Nat.le_refl _, hk⟩⟩, rfl, rfl⟩
  intro B ρ w args' hH ha
  have hargs' : args' = args := grounds_eq hargs ha
  subst hargs'
  refine (r.does w.heap.size (fun _ => none) w args' (HRel.empty w) (grounds_rel _ hargs)).mono ?_
  rintro e w' ⟨v', ρ', rfl, h1, _, h3⟩
  have hv' : v' = u := ground_eq hv h1
  subst hv'
  have same : ∀ b, b < w.heap.size → w'.heap[b]? = w.heap[b]? := fun b hb => h3.frame b hb fun i l cs e hi => by cases hi
  have inW : ∀ {b : Nat} {o : Obj}, w.heap[b]? = some o → b < w.heap.size := by
    intro b o hb
    rcases Nat.lt_or_ge b w.heap.size with hl | hl
    · exact hl
    · rw [Array.getElem?_eq_none hl] at hb; cases hb
  refine ⟨v', ρ, rfl, ground_rel ρ hv, ⟨Nat.le_trans hH.size h3.size, hH.dom, hH.fresh, ?_, ?_, hH.inj⟩, ⟨Where.le_refl ρ, Nat.le_refl _, fun _ _ h _ => h, fun _ cs e _ h => ⟨cs, e, h⟩, fun _ _ _ => rfl,
    fun i l cs e hi _ hg => .inr ⟨i, l, cs, e, hi, hg, rfl⟩, fun b hb _ => same b hb, h3.size, h3.os, h3.tape, h3.output⟩⟩
  · intro i l cs e hi hg
    obtain ⟨q1, q2, o, q4, q5⟩ := hH.row i l cs e hi hg
    exact ⟨q1, q2, o, by rw [same _ (inW q4)]; exact q4, q5⟩
  · intro i l cs hi hg
    obtain ⟨q1, c, e, fr, q4, q5⟩ := hH.ro i l cs hi hg
    exact ⟨q1, c, e, fr, by rw [same _ (inW q4)]; exact q4, q5⟩

/-- A call whose arguments hold no memory, in the model's words. -/
theorem DetFn.calls' {f : FuncId} {args : List Value} {v : Value} (hargs : args.all ground = true) (hv : ground v = true) (d : DetFn P f args Heap.empty fun u _ => u = v) (w : World) :
    Calls P f args.toArray w fun e w' => e = .returned v ∧ RowKit.Below w.heap.size w w' := by
  obtain ⟨u, h', r, rfl⟩ := d
  refine (r.does w.heap.size (fun _ => none) w args (HRel.empty w) (grounds_rel _ hargs)).mono ?_
  rintro e w' ⟨v', ρ', rfl, h1, _, h3⟩
  rw [ground_eq hv h1]
  exact ⟨rfl, h3.below (HRel.empty w)⟩
end
end Go.Proofs.YthijllagngkbgaaGreat.Eng
