/- The law ConfAll: of any trades all that are told match, whatever else is told between; one left out, or turned, does not. No conditions. -/
import Derived.Test.YtojdgbehlhkakaaRows
import Derived.Test.YtojdgbehlhkakaaEngArgs
import Derived.Test.YtojdgbehlhkakaaConfQ
namespace Go.Proofs.Ytojdgbehlhkakaa.confAll
open Go.ChangeShapes Go.WideShapes Go.ChangeAt Go.RowKit
open Go.Proofs.Ytojdgbehlhkakaa.Eng
set_option linter.unusedVariables false
theorem own : ownKnob Try.prog.godebug = none := by kernel_rfl
theorem laidOut : laidOutB Try.prog = true := by kernel_rfl
set_option maxRecDepth 100000 in
theorem lifted (os : Os) (started : os.Started) (H : Type) (enc : TypeId × Value → H) :
    ReturnsInHanded {} Try.checked os 5 .any (Rows.confAllSpec.pre6 enc Try.prog Try.f5 Rows.confAllRow.domain false) (Rows.confAllSpec.post enc Try.prog Try.f5 false true false false) := by
  refine returnsInHanded_of_change_sized (C := Try.checked) own started (by kernel_rfl) Try.func5
    (ChangeSpec.witness6 (enc := enc) (C := Try.checked) false ⟨#[], #[.slice none 0 0, .slice none 0 0, .int .i64 0, .int .i64 0], []⟩ 8 (by kernel_rfl) (by kernel_rfl) (by kernel_rfl) (by kernel_rfl)) ?_
  intro W base args ds gs before hval0 hW hcnd hsz0 _
  have hsz : (DataW.weightsEach Try.prog (Try.f5.params.toList ++ Rows.confAllSpec.plain.varTypes Try.prog) (ds ++ gs)).all (· ≤ reachBytes) = true := hsz0
  have hval : ∀ (j : Nat) t v, Try.f5.params[j]? = some t → args[j]? = some v → Value.okWide Try.prog W .any base t v := hval0
  have hW' := hW
  obtain ⟨p, q, hA0, hV, rfl, hfz, hnd⟩ := hW
  have hA : DataW.TrodAll enc Try.prog W 0 (fun _ => true) true Try.f5.params.toList args.toList ds p := hA0
  rw [Try.params5] at hA hval hsz
  obtain ⟨v0, vs0, d0, ds0, p0, q0, hargs, rfl, rfl, h0, r0⟩ := trodAll_cons hA
  obtain ⟨v1, vs1, d1, ds1, p1, q1, rfl, rfl, rfl, h1, r1⟩ := trodAll_cons r0
  obtain ⟨v2, vs2, d2, ds2, p2, q2, rfl, rfl, rfl, h2, r2⟩ := trodAll_cons r1
  obtain ⟨v3, vs3, d3, ds3, p3, q3, rfl, rfl, rfl, h3, r3⟩ := trodAll_cons r2
  obtain ⟨rfl, rfl, rfl⟩ := trodAll_nil r3
  obtain rfl : args = #[v0, v1, v2, v3] := by cases args; simp_all
  obtain ⟨rfl, rfl⟩ := trodVars_none hV
  have k0 := h0
  have lt0 : ∀ x ∈ p0, x.block < W.heap.size := by obtain ⟨m, hm⟩ := k0; exact DataW.trod_lt m _ _ _ hm
  obtain ⟨o0, len0, cap0, cells0, A0, S0, fl0, vr0⟩ := arg_open 0 6 Try.underlying29 (show scal Try.prog 6 23 = some [SK.int IntKind.i64, SK.int IntKind.i64, SK.int IntKind.i64, SK.int IntKind.i64, SK.int IntKind.i64, SK.int IntKind.i64, SK.int IntKind.i64, SK.int IntKind.i64] by kernel_rfl) (by kernel_rfl) (by decide) (hval 0 29 v0 rfl rfl) h0
  have k1 := h1
  have lt1 : ∀ x ∈ p1, x.block < W.heap.size := by obtain ⟨m, hm⟩ := k1; exact DataW.trod_lt m _ _ _ hm
  obtain ⟨o1, len1, cap1, cells1, A1, S1, fl1, vr1⟩ := arg_open 1 6 Try.underlying31 (show scal Try.prog 6 3 = some [SK.int IntKind.i64] by kernel_rfl) (by kernel_rfl) (by decide) (hval 1 31 v1 rfl rfl) h1
  obtain ⟨a2, rfl, rfl, rfl, w2⟩ := open_int Try.underlying3 (hval 2 3 v2 rfl rfl) h2
  obtain ⟨a3, rfl, rfl, rfl, w3⟩ := open_int Try.underlying2 (hval 3 2 v3 rfl rfl) h3
  clear hA0 hval0 hsz0 hsz
  refine (DetFn.callsR (HRel.args [(A0, cells0), (A1, cells1)] (by
    intro p hp
    simp only [List.mem_cons, List.not_mem_nil, or_false] at hp
    rcases hp with rfl | rfl
    · exact fl0
    · exact fl1)) (.cons _ _ _ _ (vr0 [(A0, cells0), (A1, cells1)] rfl) (.cons _ _ _ _ (vr1 [(A0, cells0), (A1, cells1)] rfl) (.cons _ _ _ _ (ground_rel _ (by rfl)) (.cons _ _ _ _ (ground_rel _ (by rfl)) .nil)))) (law_ConfAll o0 len0 cap0 cells0 S0 o1 len1 cap1 cells1 S1 a2 a3 w2 w3 (argHeap [(A0, cells0), (A1, cells1)]) (by rw [argHeap_next]; exact Nat.le_refl _) (argHeap_get rfl) (argHeap_get rfl))).mono fun e W' ⟨he, bel⟩ => ?_
  subst he
  exact ⟨_, rfl, _, _, _, [], _, [], hW', trodAll_mk1 (shut_bool Try.underlying4 _), (trodAll_cons_mk (Below.trod laidOut (by kernel_rfl) (of_decide_eq_true (by kernel_rfl)) k0 bel lt0) (trodAll_cons_mk (Below.trod laidOut (by kernel_rfl) (of_decide_eq_true (by kernel_rfl)) k1 bel lt1) (trodAll_cons_mk (shut_int Try.underlying3 w2) (trodAll_cons_mk (shut_int Try.underlying2 w3) trodAll_mk0)))), rfl, bel.frame _, fun h => by cases h⟩
theorem over : Rows.confAllRow.holds Try.pinned (OpenSpec.ofChange Rows.confAllSpec) :=
  OpenClaim.holds_of_wide 5 Try.f5 rfl rfl rfl rfl rfl rfl rfl ⟨rfl, rfl, rfl, rfl, rfl⟩ rfl rfl rfl rfl rfl (by kernel_rfl) Try.func5 (by kernel_rfl)
    (of_decide_eq_true (by kernel_rfl)) (by unfold Func.isWrapper; first | (rw [if_pos (by decide +kernel)]; kernel_rfl) | (rw [if_neg (by decide +kernel)]; exact ⟨rfl, rfl⟩))
    (fun os started H enc _ => lifted os started H enc)
theorem proved : Rows.ConfAllSaid := over
#print axioms proved
end Go.Proofs.Ytojdgbehlhkakaa.confAll
namespace Go.Proofs.Ytojdgbehlhkakaa
/-- The row, under a short name, for the claim. -/
theorem confAll_holds : Rows.ConfAllSaid := confAll.proved
end Go.Proofs.Ytojdgbehlhkakaa
