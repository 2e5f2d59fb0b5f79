/- Of whatever rules: the program and the reference say alike who may do what, and whom a client reaches. -/
import Derived.Test.YtmpendenaflonaaRows
import Derived.Test.YtmpendenaflonaaEngArg2
import Derived.Test.YtmpendenaflonaaFirmH
namespace Go.Proofs.Ytmpendenaflonaa.firmTells
open Go.ChangeShapes Go.WideShapes Go.ChangeAt Go.RowKit
open Go.Proofs.Ytmpendenaflonaa.Eng
set_option linter.unusedVariables false
theorem own : ownKnob Try.prog.godebug = none := by kernel_rfl
theorem laidOut : laidOutB Try.prog = true := by kernel_rfl
set_option maxRecDepth 100000 in
theorem lifted (os : Os) (started : os.Started) (H : Type) (enc : TypeId × Value → H) :
    ReturnsInHanded {} Try.checked os 6 .any (Rows.firmTellsSpec.pre6 enc Try.prog Try.f6 Rows.firmTellsRow.domain false) (Rows.firmTellsSpec.post enc Try.prog Try.f6 false true false false) := by
  refine returnsInHanded_of_change_sized (C := Try.checked) own started (by kernel_rfl) Try.func6
    (ChangeSpec.witness6 (enc := enc) (C := Try.checked) false ⟨#[], #[.agg #[.slice none 0 0, .slice none 0 0, .int .i64 0, .int .i64 0], .int .i64 0, .int .i64 0, .int .u64 0], []⟩ 8 (by kernel_rfl) (by kernel_rfl) (by kernel_rfl) (by kernel_rfl)) ?_
  intro W base args ds gs before hval0 hW hcnd hsz0 _
  have hsz : (DataW.weightsEach Try.prog (Try.f6.params.toList ++ Rows.firmTellsSpec.plain.varTypes Try.prog) (ds ++ gs)).all (· ≤ reachBytes) = true := hsz0
  have hval : ∀ (j : Nat) t v, Try.f6.params[j]? = some t → args[j]? = some v → Value.okWide Try.prog W .any base t v := hval0
  have hW' := hW
  obtain ⟨p, q, hA0, hV, rfl, hfz, hnd⟩ := hW
  have hA : DataW.TrodAll enc Try.prog W 0 (fun _ => true) true Try.f6.params.toList args.toList ds p := hA0
  rw [Try.params6] at hA hval hsz
  obtain ⟨v0, vs0, d0, ds0, p0, q0, hargs, rfl, rfl, h0, r0⟩ := trodAll_cons hA
  obtain ⟨v1, vs1, d1, ds1, p1, q1, rfl, rfl, rfl, h1, r1⟩ := trodAll_cons r0
  obtain ⟨v2, vs2, d2, ds2, p2, q2, rfl, rfl, rfl, h2, r2⟩ := trodAll_cons r1
  obtain ⟨v3, vs3, d3, ds3, p3, q3, rfl, rfl, rfl, h3, r3⟩ := trodAll_cons r2
  obtain ⟨rfl, rfl, rfl⟩ := trodAll_nil r3
  obtain rfl : args = #[v0, v1, v2, v3] := by cases args; simp_all
  obtain ⟨rfl, rfl⟩ := trodVars_none hV
  have k0 := h0
  have lt0 : ∀ x ∈ p0, x.block < W.heap.size := by obtain ⟨m, hm⟩ := k0; exact DataW.trod_lt m _ _ _ hm
  obtain ⟨cs0, rfl, ln0, fd0⟩ := open_agg Try.underlying25 (hval 0 25 v0 rfl rfl) h0
  obtain ⟨n0_0, x0_0, e0_0⟩ := fd0 0 _ rfl
  obtain ⟨o0_0, len0_0, cap0_0, cells0_0, A0_0, y0_0, c0_0, S0_0, fl0_0, vr0_0⟩ := arg_openT 0 6 Try.underlying22 (show scal Try.prog 6 55 = some [SK.int IntKind.i64, SK.int IntKind.i64, SK.int IntKind.i64, SK.int IntKind.i64, SK.int IntKind.i64, SK.int IntKind.i64, SK.bool] by kernel_rfl) (by kernel_rfl) (by decide) e0_0
  obtain ⟨n0_1, x0_1, e0_1⟩ := fd0 1 _ rfl
  obtain ⟨o0_1, len0_1, cap0_1, cells0_1, A0_1, y0_1, c0_1, S0_1, fl0_1, vr0_1⟩ := arg_openT 1 6 Try.underlying23 (show scal Try.prog 6 51 = some [SK.int IntKind.i64, SK.int IntKind.u64, SK.int IntKind.i64] by kernel_rfl) (by kernel_rfl) (by decide) e0_1
  obtain ⟨n0_2, x0_2, e0_2⟩ := fd0 2 _ rfl
  obtain ⟨m0_2, c0_2, _, u0_2⟩ := DataW.trod_int Try.underlying2 e0_2
  obtain ⟨n0_3, x0_3, e0_3⟩ := fd0 3 _ rfl
  obtain ⟨m0_3, c0_3, _, u0_3⟩ := DataW.trod_int Try.underlying2 e0_3
  have hcs0 : cs0 = [y0_0, y0_1, .int .i64 m0_2, .int .i64 m0_3] := by
    have z : cs0.drop 4 = [] := List.drop_eq_nil_of_le (by rw [ln0]; exact Nat.le_of_eq (by kernel_rfl))
    have z3 : cs0.drop 3 = _ := drop_one (show (cs0.drop 3).take _ = [_] from c0_3)
    rw [z] at z3
    have z2 : cs0.drop 2 = _ := drop_one (show (cs0.drop 2).take _ = [_] from c0_2)
    rw [z3] at z2
    have z1 : cs0.drop 1 = _ := drop_one (show (cs0.drop 1).take _ = [_] from c0_1)
    rw [z2] at z1
    have z0 : cs0.drop 0 = _ := drop_one (show (cs0.drop 0).take _ = [_] from c0_0)
    rw [z1] at z0
    exact z0
  subst hcs0
  obtain ⟨a1, rfl, rfl, rfl, w1⟩ := open_int Try.underlying3 (hval 1 3 v1 rfl rfl) h1
  obtain ⟨a2, rfl, rfl, rfl, w2⟩ := open_int Try.underlying3 (hval 2 3 v2 rfl rfl) h2
  obtain ⟨a3, rfl, rfl, rfl, w3⟩ := open_int Try.underlying37 (hval 3 37 v3 rfl rfl) h3
  clear hA0 hval0 hsz0 hsz
  refine (DetFn.callsR (HRel.args [(A0_0, cells0_0), (A0_1, cells0_1)] (by
    intro p hp
    simp only [List.mem_cons, List.not_mem_nil, or_false] at hp
    rcases hp with rfl | rfl
    · exact fl0_0
    · exact fl0_1)) (.cons _ _ _ _ (.agg #[.slice o0_0 len0_0 cap0_0, .slice o0_1 len0_1 cap0_1, .int .i64 m0_2, .int .i64 m0_3] _ (.cons _ _ _ _ (vr0_0 [(A0_0, cells0_0), (A0_1, cells0_1)] rfl) (.cons _ _ _ _ (vr0_1 [(A0_0, cells0_0), (A0_1, cells0_1)] rfl) (.cons _ _ _ _ (ground_rel _ (by rfl)) (.cons _ _ _ _ (ground_rel _ (by rfl)) .nil))))) (.cons _ _ _ _ (ground_rel _ (by rfl)) (.cons _ _ _ _ (ground_rel _ (by rfl)) (.cons _ _ _ _ (ground_rel _ (by rfl)) .nil)))) (law_FirmTells o0_0 len0_0 cap0_0 cells0_0 S0_0 o0_1 len0_1 cap0_1 cells0_1 S0_1 m0_2 m0_3 a1 a2 a3 (argHeap [(A0_0, cells0_0), (A0_1, cells0_1)]) (by rw [argHeap_next]; exact Nat.le_refl _) (argHeap_get rfl) (argHeap_get rfl))).mono fun e W' ⟨he, bel⟩ => ?_
  subst he
  exact ⟨_, rfl, _, _, _, [], _, [], hW', trodAll_mk1 (shut_bool Try.underlying4 _), (trodAll_cons_mk (Below.trod laidOut (by kernel_rfl) (of_decide_eq_true (by kernel_rfl)) k0 bel lt0) (trodAll_cons_mk (shut_int Try.underlying3 w1) (trodAll_cons_mk (shut_int Try.underlying3 w2) (trodAll_cons_mk (shut_int Try.underlying37 w3) trodAll_mk0)))), rfl, bel.frame _, fun h => by cases h⟩
theorem over : Rows.firmTellsRow.holds Try.pinned (OpenSpec.ofChange Rows.firmTellsSpec) :=
  OpenClaim.holds_of_wide 6 Try.f6 rfl rfl rfl rfl rfl rfl rfl ⟨rfl, rfl, rfl, rfl, rfl⟩ rfl rfl rfl rfl rfl (by kernel_rfl) Try.func6 (by kernel_rfl)
    (of_decide_eq_true (by kernel_rfl)) (by unfold Func.isWrapper; first | (rw [if_pos (by decide +kernel)]; kernel_rfl) | (rw [if_neg (by decide +kernel)]; exact ⟨rfl, rfl⟩))
    (fun os started H enc _ => lifted os started H enc)
theorem proved : Rows.FirmTellsSaid := over
#print axioms proved
end Go.Proofs.Ytmpendenaflonaa.firmTells
namespace Go.Proofs.Ytmpendenaflonaa
/-- The row, under a short name, for the claim. -/
theorem firmTells_holds : Rows.FirmTellsSaid := firmTells.proved
end Go.Proofs.Ytmpendenaflonaa
