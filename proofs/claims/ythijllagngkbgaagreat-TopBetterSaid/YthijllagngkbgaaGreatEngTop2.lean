/- The engine, part 31: calls of functions with deferred calls that recover from nothing, and with a select. -/
import Derived.Test.YthijllagngkbgaaGreatEngTop
import Derived.Orders
namespace Go.Proofs.YthijllagngkbgaaGreat.Eng
open Go Go.Conc

/-! ### a deferred function that asks first whether there is something to recover from -/
/-- a deferred closure runs: what memory it leaves -/
def evRec (P : Program) (X : Ext) (g : Caller) (k : Nat) (v : Value) (h : Heap) : Option Heap :=
  match v with
  | .func (.func f) x y =>
    match P.funcs[f]? with
    | none => none
    | some fn => if fn.name == "runtime.NumGoroutine" then none else
      match fn.body with
      | some (.seq (.region _ ops false) c) =>
        (match ops.toList with
        | o :: rest => (match o.op, o.guard with
          | .call { callee := .builtin .recover, .. }, none =>
            if (x.toList ++ y.toList).length ≤ fn.ntmps then
              (fillSlot fn.ntmps (initEnv (x.toList ++ y.toList)) o.dst .nilIface).bind fun T1 => (runOps P X g fn.ntmps ops rest T1 h).bind fun q =>
                (evCode P X g fn.ntmps k c q.1 q.2).bind fun r => match r.1 with
                  | .normal | .ret => (aresults P r.2.1 r.2.2 fn.results.toList).map fun _ => r.2.2
                  | _ => none
            else none
          | _, _ => none)
        | [] => none)
      | _ => none
  | _ => none

section
variable {P : Program} {X : Ext} {g : Caller} {B : Nat}
theorem wpOpsS_of {ops : Array Oper} {Q : Exit → Act → List Frame → World → Prop} {cs : List Frame} (hno : ∀ a w, ¬ Q .outgrown a cs w) : ∀ (l : List Nat) (a : Act) (w : World), wpOps P ops (fun e a' w' => Q e a' cs w') l a w → wpOpsS P ops Q l a cs w
  | [], a, w, h => h
  | i :: rest, a, w, h => by
    simp only [wpOps] at h
    simp only [wpOpsS]
    split at h
    · rename_i ho
      rw [ho]
      exact wpOpsS_of hno rest a w h
    · rename_i o ho
      rw [ho]
      simp only []
      split at h
      · rename_i hw
        rw [if_pos hw]
        rcases h with h | ⟨_, a0, w0, hq⟩
        · have h2 : o.wp P a w (fun a' w' => wpOpsS P ops Q rest a' cs w') (fun e a' w' => Q e a' cs w') := Oper.wp_mono (fun a w => wpOpsS_of hno rest a w) h
          unfold Oper.wp at h2
          split
          · rename_i w' hr
            rw [hr] at h2
            exact h2.elim
          · exact h2
        · exact absurd hq (hno _ _)
      · rename_i hw
        rw [if_neg hw]
        exact wpOpsS_of hno rest _ _ h

theorem wpOpsS_recover {ops : Array Oper} {Q : Exit → Act → List Frame → World → Prop} {cs : List Frame} {a : Act} {w : World} {o : Oper} {rest : List Nat} (ho : ops[0]? = some o) (hgd : o.guard = none) (hrec : (execOp a.eval o).run P w = .ok .recover w) (hn : recoverD cs = none)
    (h : wpOpsS P ops Q rest (a.put o.dst .nilIface) cs w) : wpOpsS P ops Q (0 :: rest) a cs w := by
  have hwant : Region.wanted o (yielded ops a.tmps) = true := by unfold Region.wanted; rw [hgd]
  unfold wpOpsS
  rw [ho]
  simp only [hwant, if_true, hrec, hn]
  exact h
theorem run_recover {a : Act} {o : Oper} {args : Array Operand} {argTypes : Array TypeId} (hop : o.op = .call { callee := .builtin .recover, args, argTypes }) (w : World) : (execOp a.eval o).run P w = .ok .recover w := by
  unfold execOp
  rw [hop]
  rfl
theorem evRec_sound (hmix : P.follows .mixedOrders = true) (hg : Sim P B g) (hX : ExtOk P X) (hm : NextMono g) {k : Nat} {v : Value} {d : Deferred} {ρ : Where} {h h' : Heap} {w : World} (he : evRec P X g k v h = some h') (hd : DOne ρ v d) (r : HRel B ρ h w) :
    ∃ fv cap f args, d.target = .fn fv cap ∧ (invoke d.target d.args).run P w = .ok (.enter f args) w ∧
      CallsD P f args .returning w fun e u' w' => ∃ v', e = .returned v' ∧ u' = .returning ∧ ∃ ρ', HRel B ρ' h' w' ∧ Step ρ h w ρ' h' w' := by
  obtain ⟨f, x, y, x', y', rfl, rfl, hx, hy⟩ := hd
  unfold evRec at he
  simp only [] at he
  split at he
  · cases he
  · rename_i fn hfn
    split at he
    · cases he
    · rename_i hname
      split at he
      · rename_i id ops c hbody
        split at he
        · rename_i o rest hops
          split at he
          · rename_i args argTypes hop hgd
            split at he
            · rename_i hlen
              simp only [Option.bind_eq_some_iff] at he
              obtain ⟨T1, hT, ⟨T2, h2⟩, hro, ⟨e3, T3, h3⟩, hco, he⟩ := he
              have ho : ops[0]? = some o := by
                have := congrArg (·[0]?) hops
                simpa using this
              refine ⟨.func f, y', f, x' ++ y', rfl, ?_, ?_⟩
              · show (callFunc f (x' ++ y')).run P w = _
                have hno : (fn.name == "runtime.NumGoroutine") = false := by simpa using hname
                unfold callFunc
                simp [hfn, hbody, -beq_iff_eq, hno]
              · have hargs := hx.append hy
                have hE0 := initEnv_rel (m := fn.ntmps) hargs hlen
                have earr : (x'.toList ++ y'.toList).toArray = x' ++ y' := by apply Array.ext'; simp
                rw [earr] at hE0
                refine callsD_of_wpS hfn hbody fun c₀ cs hmode => ?_
                refine wpS_seq (wpS_region ?_)
                rw [range_split hops]
                refine wpOpsS_recover ho hgd (run_recover hop w) (by simp [recoverD, hmode]) ?_
                refine wpOpsS_of (fun a w hq => ?_) _ _ _ ?_
                · simp only [Exit.thenS, bodyPostS] at hq
                  obtain ⟨_, v', hq, _⟩ := hq
                  cases hq
                · have hE1 := hE0.fill hT .nilIface
                  refine runOps_sound (P := P) hg hX rest 1 (by rw [hops]; rfl) hro hE1 r fun a1 w1 ρ1 q1 q2 q3 => ?_
                  show Code.wpS P c _ a1 (c₀ :: cs) w1
                  refine wpS_of_wp (evCode_sound hmix hg hX hm k c hco q1 q2 fun a2 w2 ρ2 p1 p2 p3 => ?_)
                  have fin : ∀ vs, aresults P T3 h3 fn.results.toList = some vs → h3 = h' → bodyPostS P fn c₀ cs (fun e u' w' => ∃ v', e = .returned v' ∧ u' = .returning ∧ ∃ ρ', HRel B ρ' h' w' ∧ Step ρ h w ρ' h' w') .normal a2 (c₀ :: cs) w2 := by
                    intro vs hvs hh
                    subst hh
                    obtain ⟨v', e1, e2⟩ := results_run p1 p2 hvs
                    exact ⟨p1.defers, .returning, by rw [← hmode], v', e1, v', rfl, rfl, ρ2, p2, q3.trans p3⟩
                  cases e3 with
                  | normal =>
                    obtain ⟨vs, hvs, hh⟩ := Option.map_eq_some_iff.mp he
                    exact fin vs hvs hh
                  | ret =>
                    obtain ⟨vs, hvs, hh⟩ := Option.map_eq_some_iff.mp he
                    exact fin vs hvs hh
                  | exit i => cases he
            · cases he
          · cases he
        · cases he
      · cases he

/-! ### the function -/
def evRecs (P : Program) (X : Ext) (g : Caller) (k : Nat) : List Value → Heap → Option Heap
  | [], h => some h
  | v :: D, h => (evRec P X g k v h).bind fun h1 => evRecs P X g k D h1

theorem calls_of_wpB {f : FuncId} {fn : Func} {c : Code} {args : Array Value} {w : World} {R : Ending → World → Prop}
    (hf : P.funcs[f]? = some fn) (hb : fn.body = some c)
    (h : wpB P { (default : Frame) with fn := f, kind := .normal } c (bodyPostD P fn R) { tmps := args ++ Array.replicate (fn.ntmps - args.size) undef, defers := [] } w) : Calls P f args w R := by
  intro cs
  have henter : Frame.enter P f args .normal = ({ (default : Frame) with fn := f, kind := .normal } : Frame).at { tmps := args ++ Array.replicate (fn.ntmps - args.size) undef, defers := [] } [.code c] := by
    simp [Frame.enter, Frame.at, hf, hb]
  obtain ⟨e, a', w', hq, harr⟩ := h [] cs
  rw [← henter] at harr
  cases e with
  | normal =>
    obtain ⟨e', w'', fr', hR, hs, hfn, hl⟩ := leaves_steps a'.defers .returning w' { ({ (default : Frame) with fn := f, kind := .normal } : Frame).at a' [] with mode := .returning } cs rfl rfl rfl hf rfl hq
    exact ⟨e', w'', fr', hR, Comes.of_steps (Steps.trans harr (.one step_end)) hs, hfn, hl⟩
  | ret =>
    obtain ⟨todo, hs₀⟩ := harr
    obtain ⟨e', w'', fr', hR, hs, hfn, hl⟩ := leaves_steps a'.defers .returning w' { ({ (default : Frame) with fn := f, kind := .normal } : Frame).at a' todo with mode := .returning } cs rfl rfl rfl hf rfl hq
    exact ⟨e', w'', fr', hR, Comes.of_steps hs₀ hs, hfn, hl⟩
  | panic chain =>
    obtain ⟨todo, hs₀⟩ := harr
    obtain ⟨e', w'', fr', hR, hs, hfn, hl⟩ := leaves_steps a'.defers (.panicking chain) w' { ({ (default : Frame) with fn := f, kind := .normal } : Frame).at a' todo with mode := .panicking chain } cs rfl rfl rfl hf rfl hq
    exact ⟨e', w'', fr', hR, Comes.of_steps hs₀ hs, hfn, hl⟩
  | exit id => exact hq.elim
  | goto l => exact hq.elim
  | outgrown => exact ⟨.outgrown, w', { (default : Frame) with fn := f, kind := .normal }, hq, harr.resolve_left (by simp), rfl, trivial⟩

theorem leaves_of (hmix : P.follows .mixedOrders = true) (hg : Sim P B g) (hX : ExtOk P X) (hm : NextMono g) {k n : Nat} {fn : Func} {T : Env} {a : Act} {R : Ending → World → Prop} {h' : Heap} {ρ₀ : Where} {h₀ : Heap} {w₀ : World} {vs : List Value} (hvs : aresults P T h' fn.results.toList = some vs) (hR : ∀ v' w' ρ', VRel ρ' (asOne vs) v' → HRel B ρ' h' w' → Step ρ₀ h₀ w₀ ρ' h' w' → R (.returned v') w')
    (hno : ∀ w, ¬ R .outgrown w) : ∀ (D : List Value) {ds : List Deferred} {ρ : Where} {h : Heap} {w : World}, evRecs P X g k D h = some h' → DRel ρ D ds → (∀ t v, T.get t = some v → VRel ρ v (a.tmps.getD t undef)) → a.tmps.size = n → HRel B ρ h w → Step ρ₀ h₀ w₀ ρ h w → Leaves P fn a.tmps R ds .returning w
  | [], ds, ρ, h, w, he, hD, hv, hn, r, st => by
    obtain rfl := Option.some.inj he
    cases ds with
    | cons d s => exact hD.elim
    | nil =>
      have hE : ERel [] ρ n T { a with defers := [] } := ⟨hv, hn, rfl⟩
      obtain ⟨v', e1, e2⟩ := results_run hE r hvs
      exact ⟨v', e1, hR v' w ρ e2 r st⟩
  | v :: D, ds, ρ, h, w, he, hD, hv, hn, r, st => by
    cases ds with
    | nil => exact hD.elim
    | cons d s =>
      simp only [evRecs, Option.bind_eq_some_iff] at he
      obtain ⟨h1, he1, he⟩ := he
      obtain ⟨fv, cap, f, args, ht, hi, hc⟩ := evRec_sound hmix hg hX hm he1 hD.1 r
      refine ⟨by simp, fv, cap, f, args, ht, hi, ?_⟩
      intro c cs hcm
      obtain ⟨e, u', w', fr, ⟨v', rfl, rfl, ρ', r', st'⟩, q1, q2, q3⟩ := hc c cs hcm
      refine ⟨.returned v', .returning, w', fr, ?_, q1, q2, q3⟩
      show Leaves P fn a.tmps R s (settle .returning) w'
      exact leaves_of hmix hg hX hm hvs hR hno D he (hD.2.mono st'.le) (fun t v e => (hv t v e).mono st'.le) hn r' (st.trans st')

/-- a function's call, deferred calls and selects on its spine -/
def evSpine (P : Program) (X : Ext) (g : Caller) (k : Nat) (f : FuncId) (args : List Value) (h : Heap) : Option (Value × Heap) :=
  match P.funcs[f]? with
  | none => none
  | some fn =>
    match fn.body with
    | none => none
    | some c =>
      if args.length ≤ fn.ntmps then
        (evTop P X g fn.ntmps k c (initEnv args) h []).bind fun r => match r.1 with
          | .normal | .ret => (evRecs P X g k r.2.2.2 r.2.2.1).bind fun h' => (aresults P r.2.1 h' fn.results.toList).map fun vs => (asOne vs, h')
          | _ => none
      else none

theorem evSpine_sim (hmix : P.follows .mixedOrders = true) (hg : Sim P B g) (hX : ExtOk P X) (hm : NextMono g) (k : Nat) : Sim P B (evSpine P X g k) := by
  intro f args h v h' hr ρ w args' r hargs
  unfold evSpine at hr
  split at hr
  · cases hr
  · rename_i fn hfn
    split at hr
    · cases hr
    · rename_i c hc
      split at hr
      · rename_i hlen
        obtain ⟨⟨e, T1, h1, D1⟩, hcode, hr⟩ := Option.bind_eq_some_iff.mp hr
        refine calls_of_wpB hfn hc ?_
        refine evTop_sound hmix hg hX hm (by simp) k c hcode (initEnv_rel hargs hlen) trivial r ?_
        intro a' w' ρ' ds' q1 q2 q3 q4
        have core : ∀ vs, evRecs P X g k D1 h1 = some h' → aresults P T1 h' fn.results.toList = some vs → v = asOne vs → Leaves P fn a'.tmps (fun e w' => ∃ v' ρ', e = .returned v' ∧ VRel ρ' v v' ∧ HRel B ρ' h' w' ∧ Step ρ h w ρ' h' w') a'.defers .returning w' := by
          intro vs h2 h3 hv
          subst hv
          rw [q1.defers]
          exact leaves_of (T := T1) (a := a') (ρ₀ := ρ) (h₀ := h) (w₀ := w) hmix hg hX hm h3 (fun v' w' ρ' a b c => ⟨v', ρ', rfl, a, b, c⟩) (fun w ⟨_, _, e, _⟩ => by cases e) D1 h2 q2 (fun t v e => q1.val t v e) rfl q3 q4
        cases e with
        | normal =>
          obtain ⟨h2, hd, hr⟩ := Option.bind_eq_some_iff.mp hr
          obtain ⟨vs, hvs, hr⟩ := Option.map_eq_some_iff.mp hr
          obtain ⟨rfl, rfl⟩ := Prod.mk.inj hr
          exact core vs hd hvs rfl
        | ret =>
          obtain ⟨h2, hd, hr⟩ := Option.bind_eq_some_iff.mp hr
          obtain ⟨vs, hvs, hr⟩ := Option.map_eq_some_iff.mp hr
          obtain ⟨rfl, rfl⟩ := Prod.mk.inj hr
          exact core vs hd hvs rfl
        | exit i => cases hr
      · cases hr
end
end Go.Proofs.YthijllagngkbgaaGreat.Eng
