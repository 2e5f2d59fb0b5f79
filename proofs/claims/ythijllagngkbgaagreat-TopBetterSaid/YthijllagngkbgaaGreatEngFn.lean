/- The engine, part 17: a function's call over row numbers, and that the model's call comes to the same. -/
import Derived.Test.YthijllagngkbgaaGreatEngCode
namespace Go.Proofs.YthijllagngkbgaaGreat.Eng
open Go

theorem initFrom_get : ∀ (vs : List Value) (i : Nat) (T : Env) (t : Nat), (initFrom vs i T).get t = if i ≤ t ∧ t < i + vs.length then vs[t - i]? else T.get t
  | [], i, T, t => by simp [initFrom]; omega
  | v :: r, i, T, t => by
    simp only [initFrom, List.length_cons]
    rw [initFrom_get r (i + 1) _ t, Tree.get_put]
    by_cases h : t = i
    · subst h
      rw [if_neg (by omega), if_pos rfl, if_pos (by omega)]
      simp
    · by_cases h2 : i ≤ t ∧ t < i + (r.length + 1)
      · rw [if_pos (by omega), if_pos h2, show t - i = (t - (i + 1)) + 1 by omega, List.getElem?_cons_succ]
      · rw [if_neg (by omega), if_neg h, if_neg h2]

theorem initEnv_rel {ρ : Where} {args args' : List Value} {m : Nat} (h : VRels ρ args args') (hl : args.length ≤ m) :
    ERel [] ρ m (initEnv args) { tmps := args'.toArray ++ Array.replicate (m - args'.toArray.size) undef, defers := [] } := by
  have hlen := h.length
  refine ⟨?_, by simp; omega, rfl⟩
  intro t v hv
  simp only [initEnv] at hv
  rw [initFrom_get] at hv
  split at hv
  · rename_i ht
    obtain ⟨v', h1, h2⟩ := h.get (n := t) (v := v) (by simpa using hv)
    have : (args'.toArray ++ Array.replicate (m - args'.toArray.size) undef).getD t undef = v' := by
      rw [Array.getD_eq_getD_getElem?, Array.getElem?_append, if_pos (by simp; omega)]
      simp [h1]
    rw [this]; exact h2
  · rw [Tree.get_leaf] at hv; cases hv

section
variable {P : Program} {X : Ext} {g : Caller} {B : Nat}

/-- one result -/
def resRun (tmps : Array Value) : ResultVar → Sem Value
  | .tmp t => pure (tmps.getD t undef)
  | .cell a t => do loadVar t (← asAddr (tmps.getD a undef))

theorem results_eq (fn : Func) (tmps : Array Value) : results fn tmps = (do
    let vs ← fn.results.mapM (resRun tmps)
    pure (if h : vs.size = 1 then vs[0] else .tuple vs) : Sem Value) := by
  unfold results
  congr 1

theorem aresults_run {n : Nat} {ds : List Deferred} {T : Env} {h : Heap} {ρ : Where} {w : World} {a : Act} (hE : ERel ds ρ n T a) (r : HRel B ρ h w) : ∀ {rs : List ResultVar} {vs : List Value}, aresults P T h rs = some vs →
    ∃ vs', (rs.mapM (resRun a.tmps)).run P w = .ok vs' w ∧ VRels ρ vs vs'
  | [], vs, hr => by obtain rfl := Option.some.inj hr; exact ⟨[], by simp, .nil⟩
  | .tmp t :: rs, vs, hr => by
    simp only [aresults, Option.bind_eq_some_iff, Option.map_eq_some_iff] at hr
    obtain ⟨v, hv, us, hu, rfl⟩ := hr
    obtain ⟨us', h1, h2⟩ := aresults_run hE r hu
    refine ⟨a.tmps.getD t undef :: us', ?_, .cons _ _ _ _ (hE.val t v hv) h2⟩
    simp only [List.mapM_cons, resRun, Sem.run_bind, Sem.run_pure, Result.andThen_ok]
    rw [h1]; simp
  | .cell b t :: rs, vs, hr => by
    simp only [aresults, Option.bind_eq_some_iff, Option.map_eq_some_iff] at hr
    obtain ⟨x, hx, v, hv, us, hu, rfl⟩ := hr
    obtain ⟨us', h1, h2⟩ := aresults_run hE r hu
    have hxr := hE.val b x hx
    obtain ⟨v', h3, h4⟩ := aload_run (P := P) r hv hxr
    have hload : ((do loadVar t (← asAddr (a.tmps.getD b undef)) : Sem Value)).run P w = .ok v' w := by
      generalize hev : a.tmps.getD b undef = y at h3 hxr
      unfold aload at hv
      split at hv
      · cases hxr with
        | ptr i o l hl => simpa [asAddr, Instr.loadAt, Instr.sureAddr] using h3
      · cases hv
    refine ⟨v' :: us', ?_, .cons _ _ _ _ h4 h2⟩
    simp only [List.mapM_cons]
    rw [Sem.run_bind, show (resRun a.tmps (.cell b t)).run P w = .ok v' w from hload, Result.andThen_ok, Sem.run_bind, h1]
    simp

theorem results_run {n : Nat} {ds : List Deferred} {T : Env} {h : Heap} {ρ : Where} {w : World} {a : Act} {fn : Func} {vs : List Value} (hE : ERel ds ρ n T a) (r : HRel B ρ h w) (ha : aresults P T h fn.results.toList = some vs) :
    ∃ v', (results fn a.tmps).run P w = .ok v' w ∧ VRel ρ (asOne vs) v' := by
  obtain ⟨vs', h1, h2⟩ := aresults_run hE r ha
  rw [results_eq, Array.mapM_eq_mapM_toList]
  simp only [Sem.run_bind, Sem.run_map, h1, Result.andThen_ok, Sem.run_pure]
  refine ⟨_, rfl, ?_⟩
  match vs, vs', h2 with
  | [], [], h2 => exact .tuple _ _ .nil
  | [v], [v'], .cons _ _ _ _ hv .nil => exact hv
  | v :: u :: r, v' :: u' :: r', h2 =>
    have : ¬ ((v' :: u' :: r').toArray.size = 1) := by simp
    rw [dif_neg this]
    exact .tuple _ _ (by simpa using h2)

theorem evBody_sim (hmix : P.follows .mixedOrders = true) (hg : Sim P B g) (hX : ExtOk P X) (hm : NextMono g) (k : Nat) : Sim P B (evBody P X g k) := by
  intro f args h v h' hr ρ w args' r hargs
  unfold evBody at hr
  split at hr
  · cases hr
  · rename_i fn hfn
    split at hr
    · cases hr
    · rename_i c hc
      split at hr
      · rename_i hlen
        refine calls_of_wp hfn hc ?_
        have hE := initEnv_rel hargs hlen
        split at hr
        · rename_i T1 h1 hcode
          obtain ⟨vs, hvs, hr⟩ := Option.map_eq_some_iff.mp hr
          obtain ⟨rfl, rfl⟩ := Prod.mk.inj hr
          refine evCode_sound hmix hg hX hm k c hcode hE r ?_
          intro a' w' ρ' q1 q2 q3
          obtain ⟨v', e1, e2⟩ := results_run q1 q2 hvs
          exact ⟨q1.defers, v', e1, v', ρ', rfl, e2, q2, q3⟩
        · rename_i T1 h1 hcode
          obtain ⟨vs, hvs, hr⟩ := Option.map_eq_some_iff.mp hr
          obtain ⟨rfl, rfl⟩ := Prod.mk.inj hr
          refine evCode_sound hmix hg hX hm k c hcode hE r ?_
          intro a' w' ρ' q1 q2 q3
          obtain ⟨v', e1, e2⟩ := results_run q1 q2 hvs
          exact ⟨q1.defers, v', e1, v', ρ', rfl, e2, q2, q3⟩
        · cases hr
      · cases hr

/-- A function's call over row numbers: the model's call comes to the same. -/
theorem evFn_sim (hmix : P.follows .mixedOrders = true) (hX : ExtOk P X) {s : Caller} (hs : Sim P B s) (hsm : NextMono s) : ∀ k, Sim P B (evFn P X s k)
  | 0 => fun f args h v h' hr => by simp [evFn] at hr
  | k + 1 => fun f args h v h' hr => by
    simp only [evFn] at hr
    split at hr
    · rename_i r hsr
      obtain rfl := Option.some.inj hr
      exact hs _ _ _ _ _ hsr
    · exact evBody_sim hmix (evFn_sim hmix hX hs hsm k) hX (evFn_next hsm k) k _ _ _ _ _ hr

/-! ### nothing beside -/
def noExt : Ext := fun _ _ => none
def noSum : Caller := fun _ _ _ => none
theorem noExt_ok : ExtOk P noExt := fun _ _ _ h => by cases h
theorem noSum_sim : Sim P B noSum := fun _ _ _ _ _ h => by cases h
theorem noSum_next : NextMono noSum := fun _ _ _ _ _ _ h => by cases h

theorem HRel.empty (w : World) : HRel w.heap.size (fun _ => none) Heap.empty w :=
  ⟨Nat.le_refl _, (fun _ _ h => by cases h), (fun i _ => Heap.get_empty i), (fun _ _ _ _ h => by cases h), (fun _ _ _ h => by cases h), (fun _ _ _ _ _ _ _ _ h => by cases h)⟩

/-- A call whose arguments hold no memory: what it comes to over row numbers. -/
theorem calls_flat (hmix : P.follows .mixedOrders = true) (hX : ExtOk P X) {s : Caller} (hs : ∀ B, Sim P B s) (hsm : NextMono s) {k : Nat} {f : FuncId} {args : List Value} {h' : Heap} {b : Bool} (hargs : args.all flat = true)
    (h : evFn P X s k f args Heap.empty = some (.bool b, h')) (w : World) : Calls P f args.toArray w fun e w' => e = .returned (.bool b) ∧ RowKit.Below w.heap.size w w' := by
  refine (evFn_sim hmix hX (hs w.heap.size) hsm k _ _ _ _ _ h (fun _ => none) w args (HRel.empty w) (flats_rel _ hargs)).mono ?_
  rintro e w' ⟨v', ρ', rfl, h1, _, h3⟩
  cases h1
  exact ⟨rfl, h3.below (HRel.empty w)⟩
end
end Go.Proofs.YthijllagngkbgaaGreat.Eng
