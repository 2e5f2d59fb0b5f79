/- The law BondWell of chapter 12: what is well is within the limits, on a tick, on a lot; nothing is well of a halted one. No conditions. -/
import Derived.Test.YtojigodoongdcaaRows
import Derived.Test.YtojigodoongdcaaEngOpen
import Derived.Test.YtojigodoongdcaaLaws
namespace Go.Proofs.Ytojigodoongdcaa.bondWell
open Go.ChangeShapes Go.WideShapes Go.ChangeAt Go.RowKit
open Go.Proofs.Ytojigodoongdcaa.Eng
set_option linter.unusedVariables false
theorem own : ownKnob Try.prog.godebug = none := by kernel_rfl
theorem laidOut : laidOutB Try.prog = true := by kernel_rfl
set_option maxRecDepth 100000 in
theorem lifted (os : Os) (started : os.Started) (H : Type) (enc : TypeId × Value → H) :
    ReturnsInHanded {} Try.checked os 7 .any (Rows.bondWellSpec.pre6 enc Try.prog Try.f7 Rows.bondWellRow.domain false) (Rows.bondWellSpec.post enc Try.prog Try.f7 false true false false) := by
  refine returnsInHanded_of_change_sized (C := Try.checked) own started (by kernel_rfl) Try.func7
    (ChangeSpec.witness6 (enc := enc) (C := Try.checked) false ⟨#[], #[.agg #[.int .i64 0, .int .i64 0, .int .i64 0, .int .i64 0, .int .i64 0, .int .i64 0, .bool false], .int .i64 0, .int .i64 0], []⟩ 8 (by kernel_rfl) (by kernel_rfl) (by kernel_rfl) (by kernel_rfl)) ?_
  intro W base args ds gs before hval0 hW hcnd hsz0 _
  have hsz : (DataW.weightsEach Try.prog (Try.f7.params.toList ++ Rows.bondWellSpec.plain.varTypes Try.prog) (ds ++ gs)).all (· ≤ reachBytes) = true := hsz0
  have hval : ∀ (j : Nat) t v, Try.f7.params[j]? = some t → args[j]? = some v → Value.okWide Try.prog W .any base t v := hval0
  have hW' := hW
  obtain ⟨p, q, hA0, hV, rfl, hfz, hnd⟩ := hW
  have hA : DataW.TrodAll enc Try.prog W 0 (fun _ => true) true Try.f7.params.toList args.toList ds p := hA0
  rw [Try.params7] at hA hval hsz
  obtain ⟨v0, vs0, d0, ds0, p0, q0, hargs, rfl, rfl, h0, r0⟩ := trodAll_cons hA
  obtain ⟨v1, vs1, d1, ds1, p1, q1, rfl, rfl, rfl, h1, r1⟩ := trodAll_cons r0
  obtain ⟨v2, vs2, d2, ds2, p2, q2, rfl, rfl, rfl, h2, r2⟩ := trodAll_cons r1
  obtain ⟨rfl, rfl, rfl⟩ := trodAll_nil r2
  obtain rfl : args = #[v0, v1, v2] := by cases args; simp_all
  obtain ⟨rfl, rfl⟩ := trodVars_none hV
  have k0 := h0
  have lt0 : ∀ x ∈ p0, x.block < W.heap.size := by obtain ⟨m, hm⟩ := k0; exact DataW.trod_lt m _ _ _ hm
  obtain ⟨cs0, rfl, fit0⟩ := open_fit 6 Try.underlying23 (show scal Try.prog 6 23 = some [SK.int IntKind.i64, SK.int IntKind.i64, SK.int IntKind.i64, SK.int IntKind.i64, SK.int IntKind.i64, SK.int IntKind.i64, SK.bool] by kernel_rfl) (hval 0 23 v0 rfl rfl) h0
  obtain ⟨x0_0, r0_0, rfl, u0_0, f0_0⟩ := fit0.int
  obtain ⟨x0_1, r0_1, rfl, u0_1, f0_1⟩ := f0_0.int
  obtain ⟨x0_2, r0_2, rfl, u0_2, f0_2⟩ := f0_1.int
  obtain ⟨x0_3, r0_3, rfl, u0_3, f0_3⟩ := f0_2.int
  obtain ⟨x0_4, r0_4, rfl, u0_4, f0_4⟩ := f0_3.int
  obtain ⟨x0_5, r0_5, rfl, u0_5, f0_5⟩ := f0_4.int
  obtain ⟨x0_6, r0_6, rfl, f0_6⟩ := f0_5.truth
  obtain rfl := f0_6.done
  obtain ⟨a1, rfl, rfl, rfl, w1⟩ := open_int Try.underlying2 (hval 1 2 v1 rfl rfl) h1
  obtain ⟨a2, rfl, rfl, rfl, w2⟩ := open_int Try.underlying2 (hval 2 2 v2 rfl rfl) h2
  clear hA0 hval0 hsz0 hsz
  refine (DetFn.calls' (of_decide_eq_true (by kernel_rfl)) (of_decide_eq_true (by kernel_rfl)) (law_BondWell x0_0 x0_1 x0_2 x0_3 x0_4 x0_5 x0_6 a1 a2) W).mono fun e W' ⟨he, bel⟩ => ?_
  subst he
  exact ⟨_, rfl, _, _, _, [], _, [], hW', trodAll_mk1 (shut_bool Try.underlying4 _), (trodAll_cons_mk (Below.trod laidOut (by kernel_rfl) (of_decide_eq_true (by kernel_rfl)) k0 bel lt0) (trodAll_cons_mk (shut_int Try.underlying2 w1) (trodAll_cons_mk (shut_int Try.underlying2 w2) trodAll_mk0))), rfl, bel.frame _, fun h => by cases h⟩
theorem over : Rows.bondWellRow.holds Try.pinned (OpenSpec.ofChange Rows.bondWellSpec) :=
  OpenClaim.holds_of_wide 7 Try.f7 rfl rfl rfl rfl rfl rfl rfl ⟨rfl, rfl, rfl, rfl, rfl⟩ rfl rfl rfl rfl rfl (by kernel_rfl) Try.func7 (by kernel_rfl)
    (of_decide_eq_true (by kernel_rfl)) (by unfold Func.isWrapper; first | (rw [if_pos (by decide +kernel)]; kernel_rfl) | (rw [if_neg (by decide +kernel)]; exact ⟨rfl, rfl⟩))
    (fun os started H enc _ => lifted os started H enc)
theorem proved : Rows.BondWellSaid := over
#print axioms proved
end Go.Proofs.Ytojigodoongdcaa.bondWell
namespace Go.Proofs.Ytojigodoongdcaa
/-- The row, under a short name, for the claim. -/
theorem bondWell_holds : Rows.BondWellSaid := bondWell.proved
end Go.Proofs.Ytojigodoongdcaa
