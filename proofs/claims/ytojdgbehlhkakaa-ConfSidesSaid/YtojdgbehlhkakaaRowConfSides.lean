/- The law ConfSides of chapter 22: the buyer is told that it bought, of whom, the seller that it sold, to whom; both the same. No conditions. -/
import Derived.Test.YtojdgbehlhkakaaRows
import Derived.Test.YtojdgbehlhkakaaEngOpen
import Derived.Test.YtojdgbehlhkakaaOf
namespace Go.Proofs.Ytojdgbehlhkakaa.confSides
open Go.ChangeShapes Go.WideShapes Go.ChangeAt Go.RowKit
open Go.Proofs.Ytojdgbehlhkakaa.Eng
set_option linter.unusedVariables false
theorem own : ownKnob Try.prog.godebug = none := by kernel_rfl
theorem laidOut : laidOutB Try.prog = true := by kernel_rfl
set_option maxRecDepth 100000 in
theorem lifted (os : Os) (started : os.Started) (H : Type) (enc : TypeId × Value → H) :
    ReturnsInHanded {} Try.checked os 6 .any (Rows.confSidesSpec.pre6 enc Try.prog Try.f6 Rows.confSidesRow.domain false) (Rows.confSidesSpec.post enc Try.prog Try.f6 false true false false) := by
  refine returnsInHanded_of_change_sized (C := Try.checked) own started (by kernel_rfl) Try.func6
    (ChangeSpec.witness6 (enc := enc) (C := Try.checked) false ⟨#[], #[.agg #[.int .i64 0, .int .i64 0, .int .i64 0, .int .i64 0, .int .i64 0, .int .i64 0, .int .i64 0, .int .i64 0]], []⟩ 8 (by kernel_rfl) (by kernel_rfl) (by kernel_rfl) (by kernel_rfl)) ?_
  intro W base args ds gs before hval0 hW hcnd hsz0 _
  have hsz : (DataW.weightsEach Try.prog (Try.f6.params.toList ++ Rows.confSidesSpec.plain.varTypes Try.prog) (ds ++ gs)).all (· ≤ reachBytes) = true := hsz0
  have hval : ∀ (j : Nat) t v, Try.f6.params[j]? = some t → args[j]? = some v → Value.okWide Try.prog W .any base t v := hval0
  have hW' := hW
  obtain ⟨p, q, hA0, hV, rfl, hfz, hnd⟩ := hW
  have hA : DataW.TrodAll enc Try.prog W 0 (fun _ => true) true Try.f6.params.toList args.toList ds p := hA0
  rw [Try.params6] at hA hval hsz
  obtain ⟨v0, vs0, d0, ds0, p0, q0, hargs, rfl, rfl, h0, r0⟩ := trodAll_cons hA
  obtain ⟨rfl, rfl, rfl⟩ := trodAll_nil r0
  obtain rfl : args = #[v0] := by cases args; simp_all
  obtain ⟨rfl, rfl⟩ := trodVars_none hV
  have k0 := h0
  have lt0 : ∀ x ∈ p0, x.block < W.heap.size := by obtain ⟨m, hm⟩ := k0; exact DataW.trod_lt m _ _ _ hm
  obtain ⟨cs0, rfl, fit0⟩ := open_fit 6 Try.underlying23 (show scal Try.prog 6 23 = some [SK.int IntKind.i64, SK.int IntKind.i64, SK.int IntKind.i64, SK.int IntKind.i64, SK.int IntKind.i64, SK.int IntKind.i64, SK.int IntKind.i64, SK.int IntKind.i64] by kernel_rfl) (hval 0 23 v0 rfl rfl) h0
  obtain ⟨x0_0, r0_0, rfl, u0_0, f0_0⟩ := fit0.int
  obtain ⟨x0_1, r0_1, rfl, u0_1, f0_1⟩ := f0_0.int
  obtain ⟨x0_2, r0_2, rfl, u0_2, f0_2⟩ := f0_1.int
  obtain ⟨x0_3, r0_3, rfl, u0_3, f0_3⟩ := f0_2.int
  obtain ⟨x0_4, r0_4, rfl, u0_4, f0_4⟩ := f0_3.int
  obtain ⟨x0_5, r0_5, rfl, u0_5, f0_5⟩ := f0_4.int
  obtain ⟨x0_6, r0_6, rfl, u0_6, f0_6⟩ := f0_5.int
  obtain ⟨x0_7, r0_7, rfl, u0_7, f0_7⟩ := f0_6.int
  obtain rfl := f0_7.done
  clear hA0 hval0 hsz0 hsz
  refine (DetFn.calls' (of_decide_eq_true (by kernel_rfl)) (of_decide_eq_true (by kernel_rfl)) (law_ConfSides x0_0 x0_1 x0_2 x0_3 x0_4 x0_5 x0_6 x0_7) W).mono fun e W' ⟨he, bel⟩ => ?_
  subst he
  exact ⟨_, rfl, _, _, _, [], _, [], hW', trodAll_mk1 (shut_bool Try.underlying4 _), (trodAll_cons_mk (Below.trod laidOut (by kernel_rfl) (of_decide_eq_true (by kernel_rfl)) k0 bel lt0) trodAll_mk0), rfl, bel.frame _, fun h => by cases h⟩
theorem over : Rows.confSidesRow.holds Try.pinned (OpenSpec.ofChange Rows.confSidesSpec) :=
  OpenClaim.holds_of_wide 6 Try.f6 rfl rfl rfl rfl rfl rfl rfl ⟨rfl, rfl, rfl, rfl, rfl⟩ rfl rfl rfl rfl rfl (by kernel_rfl) Try.func6 (by kernel_rfl)
    (of_decide_eq_true (by kernel_rfl)) (by unfold Func.isWrapper; first | (rw [if_pos (by decide +kernel)]; kernel_rfl) | (rw [if_neg (by decide +kernel)]; exact ⟨rfl, rfl⟩))
    (fun os started H enc _ => lifted os started H enc)
theorem proved : Rows.ConfSidesSaid := over
#print axioms proved
end Go.Proofs.Ytojdgbehlhkakaa.confSides
namespace Go.Proofs.Ytojdgbehlhkakaa
/-- The row, under a short name, for the claim. -/
theorem confSides_holds : Rows.ConfSidesSaid := confSides.proved
end Go.Proofs.Ytojdgbehlhkakaa
