/- The engine, part 9: one operation of a region over row numbers, calls included, and that the model's operation does the same. -/
import Derived.Test.YthijllagngkbgaaGreatEngMap
namespace Go.Proofs.YthijllagngkbgaaGreat.Eng
open Go
variable {ds : List Deferred}

inductive Kind where
  | pure | load | fresh | heavy
  deriving DecidableEq

def kindOf : Op → Kind
  | .load .. => .load
  | .alloc _ | .box .. | .buildSlice .. | .makeSlice .. => .fresh
  | .call c => match c.callee with
    | .builtin .len | .builtin .cap | .builtin .max | .builtin .min => .pure
    | _ => .heavy
  | .store .. | .insert .. | .ready _ | .waits _ | .makeMap .. | .makeChan .. | .lookup .. | .mapUpdate .. | .mapEntry .. | .entryStore .. | .range .. | .next .. | .entry _ | .go _ | .defer _ | .panic _ | .send .. | .recv .. | .select .. => .heavy
  | _ => .pure

/-- What a call of a function comes to, over row numbers. -/
abbrev Caller := FuncId → List Value → Heap → Option (Value × Heap)
/-- What a function without a Go body comes to. -/
abbrev Ext := FuncId → List Value → Option Value

def aloadOp (P : Program) (T : Env) (h : Heap) : Op → Option Value
  | .load t x => (rv T x).bind fun a => aload P h t a
  | _ => none

def acall (P : Program) (X : Ext) (g : Caller) (h : Heap) (f : FuncId) (args : List Value) : Option (Value × Heap) :=
  match P.funcs[f]? with
  | none => none
  | some fn => if fn.name == "runtime.NumGoroutine" then none else if fn.body.isNone then (X f args).map (·, h) else g f args h

def aheavy (P : Program) (X : Ext) (g : Caller) (T : Env) (h : Heap) : Op → Option (Value × Heap)
  | .store t a x => (rv T a).bind fun av => (rv T x).bind fun xv => (astore P h t av xv).map fun h' => (undef, h')
  | .call { callee := .builtin .append, args, argTypes } => (rvs T args.toList).bind fun
    | [s, x] => aappendZ P h argTypes s x
    | _ => none
  | .call { callee := .builtin .copy, args, argTypes } => (rvs T args.toList).bind fun
    | [d, x] => acopy P h argTypes d x
    | _ => none
  | .call { callee := .builtin .clear, args, argTypes } => (rvs T args.toList).bind fun
    | [s] => aclear P h argTypes s
    | _ => none
  | .call { callee := .value f, args, .. } => (rv T f).bind fun fv => (rvs T args.toList).bind fun as =>
    match fv with
    | .func (.func k) first captured => acall P X g h k (first.toList ++ as ++ captured.toList)
    | _ => none
  | .makeMap _ none => some (.map (some h.next), h.new (.row [] 0))
  | .makeChan t x => (rv T x).bind fun v => (achanRoom P t v).map fun n => (.chan (some h.next), h.new (.row [] n))
  | .lookup t m k false => (rv T m).bind fun mv => (rv T k).bind fun kv => (alookup P h t mv kv).map (·, h)
  | .mapUpdate t m k x => (rv T m).bind fun mv => (rv T k).bind fun kv => (rv T x).bind fun xv => (amapNew P h t mv kv xv).map (undef, ·)
  | _ => none

def awant (ops : Array Oper) (T : Env) (o : Oper) : Option Bool :=
  match o.guard with
  | none => some true
  | some (j, want) =>
    match (ops[j]?).bind (·.dst) with
    | none => some false
    | some d => match T.get d with
      | some (.bool b) => some (b == want)
      | some _ => some false
      | none => none

def aval (P : Program) (X : Ext) (g : Caller) (ops : Array Oper) (T : Env) (h : Heap) (o : Oper) : Option (Value × Heap) :=
  match awant ops T o with
  | none => none
  | some false => some (undef, h)
  | some true =>
    match kindOf o.op with
    | .pure => (apure P T o.op).map (·, h)
    | .load => (aloadOp P T h o.op).map (·, h)
    | .fresh => (afreshRow P T o.op).map fun (cs, e, s) => (s.val h.next, h.new (.row cs e))
    | .heavy => aheavy P X g T h o.op

variable {P : Program} {X : Ext} {g : Caller} {B : Nat} {ρ : Where} {h : Heap} {w : World}

/-- What is asked of the calls: over every memory that fits, the model's call comes to the same. -/
def Sim (P : Program) (B : Nat) (g : Caller) : Prop :=
  ∀ f args h v h', g f args h = some (v, h') → ∀ ρ w args', HRel B ρ h w → VRels ρ args args' →
    Calls P f args'.toArray w fun e w' => ∃ v' ρ', e = .returned v' ∧ VRel ρ' v v' ∧ HRel B ρ' h' w' ∧ Step ρ h w ρ' h' w'

def ExtOk (P : Program) (X : Ext) : Prop :=
  ∀ f args v, X f args = some v → ∀ ρ args', VRels ρ args args' → ∀ w, ∃ v', (callFunc f args'.toArray).run P w = .ok (.value v') w ∧ VRel ρ v v'

theorem undef_rel (ρ : Where) : VRel ρ undef undef := .tuple _ _ .nil

theorem awant_run {n : Nat} {ops : Array Oper} {T : Env} {a : Act} {o : Oper} {b : Bool} (hE : ERel ds ρ n T a) (ha : awant ops T o = some b) : Region.wanted o (yielded ops a.tmps) = b := by
  unfold awant at ha
  unfold Region.wanted
  split at ha
  · rename_i hg; rw [hg]; obtain rfl := Option.some.inj ha; rfl
  · rename_i j want hg
    rw [hg]
    simp only []
    unfold yielded
    split at ha
    · rename_i hd; rw [hd]; obtain rfl := Option.some.inj ha; rfl
    · rename_i d hd
      rw [hd]
      simp only [Option.bind_some]
      split at ha
      · rename_i bb hT
        obtain rfl := Option.some.inj ha
        have hr := hE.val d _ hT
        rw [Array.getD_eq_getD_getElem?] at hr
        cases ht : a.tmps[d]? with
        | none => rw [ht] at hr; simp only [Option.getD_none, undef] at hr; cases hr
        | some u =>
          rw [ht] at hr
          simp only [Option.getD_some] at hr
          cases hr
          cases bb <;> cases want <;> rfl
      · rename_i v hnb hT
        obtain rfl := Option.some.inj ha
        have hr := hE.val d _ hT
        rw [Array.getD_eq_getD_getElem?] at hr
        cases ht : a.tmps[d]? with
        | none => rfl
        | some u =>
          rw [ht] at hr
          simp only [Option.getD_some] at hr
          cases u <;> first
            | rfl
            | (cases hr <;> first
                | exact absurd rfl (hnb _)
                | (rename_i h; obtain ⟨_, _, _, _, _, _, e⟩ := h; cases e))
      · cases ha

theorem acall_sound {f : FuncId} {args args' : List Value} {v : Value} {h' : Heap} {o : Oper} {a : Act} {Q : Exit → Act → World → Prop} {K : Act → World → Prop} (hg : Sim P B g) (hX : ExtOk P X)
    (ha : acall P X g h f args = some (v, h')) (r : HRel B ρ h w) (hr : VRels ρ args args') (hK : ∀ v' w' ρ', VRel ρ' v v' → HRel B ρ' h' w' → Step ρ h w ρ' h' w' → K (a.put o.dst v') w') :
    o.upon P a K Q ((callFunc f args'.toArray).run P w) := by
  unfold acall at ha
  split at ha
  · cases ha
  · rename_i fn hfn
    split at ha
    · cases ha
    · rename_i hname
      split at ha
      · rename_i hb
        obtain ⟨u, hu, ha⟩ := Option.map_eq_some_iff.mp ha
        obtain ⟨rfl, rfl⟩ := Prod.mk.inj ha
        obtain ⟨v', h1, h2⟩ := hX _ _ _ hu ρ args' hr w
        rw [h1, Oper.upon_value]
        exact hK v' w ρ h2 r (Step.refl _ _ _)
      · rename_i hb
        have : (callFunc f args'.toArray).run P w = .ok (.enter f args'.toArray) w := by
          unfold callFunc
          simp only [Sem.run_bind, run_program, Result.andThen_ok, hfn]
          simp [hname, hb]
        rw [this, Oper.upon_enter]
        refine (hg _ _ _ _ _ ha ρ w args' r hr).mono ?_
        rintro e w' ⟨v', ρ', rfl, h1, h2, h3⟩
        exact hK v' w' ρ' h1 h2 h3

theorem aheavy_sound {n : Nat} {T : Env} {a : Act} {o : Oper} {v : Value} {h' : Heap} {Q : Exit → Act → World → Prop} {K : Act → World → Prop} (hg : Sim P B g) (hX : ExtOk P X) (hE : ERel ds ρ n T a) (r : HRel B ρ h w)
    (ha : aheavy P X g T h o.op = some (v, h')) (hK : ∀ v' w' ρ', VRel ρ' v v' → HRel B ρ' h' w' → Step ρ h w ρ' h' w' → K (a.put o.dst v') w') : o.wp P a w K Q := by
  obtain ⟨dst, op, type, pos, after, guard⟩ := o
  simp only at ha hK
  unfold Oper.wp
  unfold aheavy at ha
  split at ha
  · rename_i t x y
    simp only [Option.bind_eq_some_iff] at ha
    obtain ⟨xv, hx, yv, hy, ha⟩ := ha
    obtain ⟨g', hs, ha⟩ := Option.map_eq_some_iff.mp ha
    obtain ⟨rfl, rfl⟩ := Prod.mk.inj ha
    obtain ⟨w', h1, h2, h3⟩ := astore_run (P := P) r hs (hE.rv hx) (hE.rv hy)
    have : (execOp a.eval ⟨dst, .store t x y, type, pos, after, guard⟩).run P w = .ok .skip w' := by simp [execOp, h1]
    rw [this, Oper.upon_skip]
    exact hK _ _ _ (undef_rel ρ) h2 h3
  · rename_i args argTypes
    simp only [Option.bind_eq_some_iff] at ha
    obtain ⟨vs, hvs, ha⟩ := ha
    split at ha
    · rename_i s x
      have hr := hE.rvs hvs
      generalize hev : args.toList.map a.eval = l' at hr
      cases hr with
      | cons _ s' _ l1 hs t1 =>
        cases t1 with
        | cons _ x' _ l2 hx t2 =>
          cases t2
          have e : args.map a.eval = #[s', x'] := by apply Array.ext'; simpa using hev
          obtain ⟨ρ', v', w', h1, h2, h3, h4⟩ := aappendZ_run (P := P) (ty := type) r ha hs hx
          have : (execOp a.eval ⟨dst, .call { callee := .builtin .append, args, argTypes }, type, pos, after, guard⟩).run P w = .ok (.value v') w' := by
            simp [execOp, resolve, invoke, builtin, e, h1]
          rw [this, Oper.upon_value]
          exact hK _ _ _ h2 h3 h4
    · cases ha
  · rename_i args argTypes
    simp only [Option.bind_eq_some_iff] at ha
    obtain ⟨vs, hvs, ha⟩ := ha
    split at ha
    · rename_i s x
      have hr := hE.rvs hvs
      generalize hev : args.toList.map a.eval = l' at hr
      cases hr with
      | cons _ s' _ l1 hs t1 =>
        cases t1 with
        | cons _ x' _ l2 hx t2 =>
          cases t2
          have e : args.map a.eval = #[s', x'] := by apply Array.ext'; simpa using hev
          obtain ⟨v', w', h1, h2, h3, h4⟩ := acopy_run (P := P) (ty := type) r ha hs hx
          have : (execOp a.eval ⟨dst, .call { callee := .builtin .copy, args, argTypes }, type, pos, after, guard⟩).run P w = .ok (.value v') w' := by
            simp [execOp, resolve, invoke, builtin, e, h1]
          rw [this, Oper.upon_value]
          exact hK _ _ _ h2 h3 h4
    · cases ha
  · rename_i args argTypes
    simp only [Option.bind_eq_some_iff] at ha
    obtain ⟨vs, hvs, ha⟩ := ha
    split at ha
    · rename_i s
      have hr := hE.rvs hvs
      generalize hev : args.toList.map a.eval = l' at hr
      cases hr with
      | cons _ s' _ l1 hs t1 =>
        cases t1
        have e : args.map a.eval = #[s'] := by apply Array.ext'; simpa using hev
        obtain ⟨v', w', h1, h2, h3, h4⟩ := aclear_run (P := P) (ty := type) r ha hs
        have : (execOp a.eval ⟨dst, .call { callee := .builtin .clear, args, argTypes }, type, pos, after, guard⟩).run P w = .ok (.value v') w' := by
          simp [execOp, resolve, invoke, builtin, e, h1]
        rw [this, Oper.upon_value]
        exact hK _ _ _ h2 h3 h4
    · cases ha
  · rename_i f args argTypes
    simp only [Option.bind_eq_some_iff] at ha
    obtain ⟨fv, hf, vs, hvs, ha⟩ := ha
    split at ha
    · rename_i k first captured
      have hr := hE.rvs hvs
      have hfr := hE.rv hf
      generalize hev : a.eval f = f' at hfr
      cases hfr with
      | func _ _ _ fs' cs' hx hy =>
        have := acall_sound (o := ⟨dst, .call { callee := .value f, args, argTypes }, type, pos, after, guard⟩) (a := a) (Q := Q) (K := K) hg hX ha r ((hx.append hr).append hy) hK
        have e : (fs'.toList ++ args.toList.map a.eval ++ cs'.toList).toArray = fs' ++ args.map a.eval ++ cs' := by apply Array.ext'; simp
        rw [e] at this
        have e2 : (execOp a.eval ⟨dst, .call { callee := .value f, args, argTypes }, type, pos, after, guard⟩).run P w = (callFunc k (fs' ++ args.map a.eval ++ cs')).run P w := by
          simp [execOp, resolve, invoke, hev, Deferred.ofValue]
        rw [e2]
        exact this
    · cases ha
  · rename_i t
    obtain ⟨rfl, rfl⟩ := Prod.mk.inj (Option.some.inj ha)
    have hrel : ObjRel ρ { blk := w.heap.size, off := 0, size := 0, known := 0, own := true, kind := .map } [] 0 (.map #[] 0) := ⟨#[], 0, rfl, .nil⟩
    obtain ⟨q1, q2⟩ := r.newO [] 0 (.map #[] 0) { blk := w.heap.size, off := 0, size := 0, known := 0, own := true, kind := .map } rfl rfl hrel
    have : (execOp a.eval ⟨dst, .makeMap t none, type, pos, after, guard⟩).run P w = .ok (.value (.map (some w.heap.size))) (newBlk w (.map #[] 0)) := by
      simp [execOp, Instr.makeMap, newBlk]
    rw [this, Oper.upon_value]
    exact hK _ _ _ (.map _ _ (Where.add_self _ _ _) rfl) q1 q2
  · rename_i t x
    simp only [Option.bind_eq_some_iff] at ha
    obtain ⟨v0, hv0, ha⟩ := ha
    obtain ⟨m, hm, ha⟩ := Option.map_eq_some_iff.mp ha
    obtain ⟨rfl, rfl⟩ := Prod.mk.inj ha
    have hrun := achanRoom_run (P := P) (w := w) hm (hE.rv hv0)
    have hrel : ObjRel ρ { blk := w.heap.size, off := 0, size := 0, known := 0, own := true, kind := .chan m } [] m (.chan m #[] false 0 0 false) := ⟨rfl, #[], 0, 0, rfl, .nil⟩
    obtain ⟨q1, q2⟩ := r.newO [] m (.chan m #[] false 0 0 false) { blk := w.heap.size, off := 0, size := 0, known := 0, own := true, kind := .chan m } rfl rfl hrel
    have : (execOp a.eval ⟨dst, .makeChan t x, type, pos, after, guard⟩).run P w = .ok (.value (.chan (some w.heap.size))) (newBlk w (.chan m #[] false 0 0 false)) := by
      simp [execOp, hrun]
    rw [this, Oper.upon_value]
    exact hK _ _ _ (.chan _ _ _ (Where.add_self _ _ _) rfl) q1 q2
  · rename_i t m k
    simp only [Option.bind_eq_some_iff] at ha
    obtain ⟨mv, hm, kv, hk, ha⟩ := ha
    obtain ⟨u, hu, ha⟩ := Option.map_eq_some_iff.mp ha
    obtain ⟨rfl, rfl⟩ := Prod.mk.inj ha
    obtain ⟨v', h1, h2⟩ := alookup_run (P := P) r hu (hE.rv hm) (hE.rv hk)
    have : (execOp a.eval ⟨dst, .lookup t m k false, type, pos, after, guard⟩).run P w = .ok (.value v') w := by simp [execOp, h1]
    rw [this, Oper.upon_value]
    exact hK _ _ _ h2 r (Step.refl _ _ _)
  · rename_i t m k x
    simp only [Option.bind_eq_some_iff] at ha
    obtain ⟨mv, hm, kv, hk, xv, hx, ha⟩ := ha
    obtain ⟨u, hu, ha⟩ := Option.map_eq_some_iff.mp ha
    obtain ⟨rfl, rfl⟩ := Prod.mk.inj ha
    obtain ⟨w', h1, h2, h3⟩ := amapNew_run (P := P) r hu (hE.rv hm) (hE.rv hk) (hE.rv hx)
    have : (execOp a.eval ⟨dst, .mapUpdate t m k x, type, pos, after, guard⟩).run P w = .ok .skip w' := by simp [execOp, h1]
    rw [this, Oper.upon_skip]
    exact hK _ _ _ (undef_rel ρ) h2 h3
  · cases ha

/-- One operation of a region: what it comes to over row numbers it comes to in the model. -/
theorem aval_sound {n i : Nat} {ops : Array Oper} {T : Env} {a : Act} {o : Oper} {v : Value} {h' : Heap} {Q : Exit → Act → World → Prop} {K : Act → World → Prop} (hg : Sim P B g) (hX : ExtOk P X) (ho : ops[i]? = some o)
    (hE : ERel ds ρ n T a) (r : HRel B ρ h w) (ha : aval P X g ops T h o = some (v, h')) (hK : ∀ v' w' ρ', VRel ρ' v v' → HRel B ρ' h' w' → Step ρ h w ρ' h' w' → K (a.put o.dst v') w') :
    wpOp P ops Q i K a w := by
  unfold wpOp
  rw [ho]
  simp only []
  unfold aval at ha
  split at ha
  · cases ha
  · rename_i hw
    rw [awant_run hE hw]
    obtain ⟨rfl, rfl⟩ := Prod.mk.inj (Option.some.inj ha)
    simp only [Bool.false_eq_true, if_false]
    exact hK _ _ _ (undef_rel ρ) r (Step.refl _ _ _)
  · rename_i hw
    rw [awant_run hE hw]
    simp only [if_true]
    left
    split at ha
    · obtain ⟨u, hu, ha⟩ := Option.map_eq_some_iff.mp ha
      obtain ⟨rfl, rfl⟩ := Prod.mk.inj ha
      obtain ⟨v', h1, h2⟩ := apure_run hE hu
      unfold Oper.wp
      rw [h1 w, Oper.upon_value]
      exact hK _ _ _ h2 r (Step.refl _ _ _)
    · obtain ⟨u, hu, ha⟩ := Option.map_eq_some_iff.mp ha
      obtain ⟨rfl, rfl⟩ := Prod.mk.inj ha
      unfold aloadOp at hu
      split at hu
      · rename_i t x hop
        obtain ⟨xv, hx, hu⟩ := Option.bind_eq_some_iff.mp hu
        obtain ⟨v', h1, h2⟩ := aload_run (P := P) r hu (hE.rv hx)
        have : (execOp a.eval o).run P w = .ok (.value v') w := by simp [execOp, hop, h1]
        unfold Oper.wp
        rw [this, Oper.upon_value]
        exact hK _ _ _ h2 r (Step.refl _ _ _)
      · cases hu
    · obtain ⟨⟨cs, e, s⟩, hu, ha⟩ := Option.map_eq_some_iff.mp ha
      obtain ⟨rfl, rfl⟩ := Prod.mk.inj ha
      obtain ⟨hs, c, hc, hrun⟩ := afreshRow_run hE hu
      have hl := hc.length
      obtain ⟨q1, q2⟩ := r.new cs e c (by simp at hl; omega) (by rw [hl, List.take_length]; exact hc)
      unfold Oper.wp
      rw [hrun w, Oper.upon_value]
      exact hK _ _ _ (s.rel hs (Where.add_at _ _ _ rfl) rfl rfl) q1 q2
    · exact aheavy_sound hg hX hE r ha hK
end Go.Proofs.YthijllagngkbgaaGreat.Eng
