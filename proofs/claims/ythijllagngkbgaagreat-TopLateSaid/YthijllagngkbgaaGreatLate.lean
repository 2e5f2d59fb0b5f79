/- TopLate's law: a deal comes about just if it is taken within the look. -/
import Derived.Test.YthijllagngkbgaaGreatLate1
import Derived.Test.YthijllagngkbgaaGreatLate2
import Derived.Test.YthijllagngkbgaaGreatLate3
import Derived.Test.YthijllagngkbgaaGreatLate4
import Derived.Test.YthijllagngkbgaaGreatLate5
import Derived.Test.YthijllagngkbgaaGreatLate6
import Derived.Test.YthijllagngkbgaaGreatLate7
import Derived.Test.YthijllagngkbgaaGreatLate8
import Derived.Test.YthijllagngkbgaaGreatLate9
import Derived.Test.YthijllagngkbgaaGreatLate10
import Derived.Test.YthijllagngkbgaaGreatLate11
namespace Go.Proofs.YthijllagngkbgaaGreat.Eng
open Go Go.Proofs
set_option maxRecDepth 100000
set_option maxHeartbeats 4000000
set_option linter.unusedVariables false
theorem late_out (a0 : Int) (a1 : Bool) (h0 : a0 < 0 ∨ 40 < a0) (h : Heap) : DetFn Tryz.prog 6 [.int .i64 a0, .bool a1] h fun v _ => v = .bool true := by
  refine Det.enterS Tryz.f6 [(0, .int .i64 a0), (1, .bool a1)] Tryz.func6 (by kernel_rfl) (of_decide_eq_true (by kernel_rfl)) (by kernel_rfl) ?_
  refine Det.sreg [] [(1, Value.bool a1), (0, Value.int IntKind.i64 a0), (4, Value.bool false)] (h) [] (by kernel_rfl) (by kernel_rfl) hX (by kernel_rfl) allp0 ?_
  refine Det.seqA (by kernel_rfl) ?_
  by_cases c2 : a0 < 0
  · refine Det.sreg [(1, .s (Value.bool true))] [(4, Value.bool false), (0, Value.int IntKind.i64 a0), (1, Value.bool a1), (16, Value.bool true)] (h) [(Value.bool (decide (a0 < 0))) = (Value.bool true)] (by kernel_rfl) (by kernel_rfl) hX (by kernel_rfl) (allp (congrArg Value.bool (decide_eq_true (by exact c2))) allp0) ?_
    refine Det.condT (by kernel_rfl) (true) (by kernel_rfl) rfl ?_
    refine Det.sreg [] [(16, Value.bool true), (1, Value.bool a1), (0, Value.int IntKind.i64 a0), (4, Value.bool true)] (h) [] (by kernel_rfl) (by kernel_rfl) hX (by kernel_rfl) allp0 ?_
    refine Det.retA (by kernel_rfl) ?_
    refine then_r (by kernel_rfl) ?_
    refine fin_r (Value.bool true) (by kernel_rfl) (by kernel_rfl) ?_
    rfl
  · refine Det.sreg [(1, .s (Value.bool false)), (2, .s (Value.bool true))] [(4, Value.bool false), (0, Value.int IntKind.i64 a0), (1, Value.bool a1), (16, Value.bool true)] (h) [(Value.bool (decide (a0 < 0))) = (Value.bool false), (Value.bool (decide (40 < a0))) = (Value.bool true)] (by kernel_rfl) (by kernel_rfl) hX (by kernel_rfl) (allp (congrArg Value.bool (decide_eq_false (by exact c2))) (allp (congrArg Value.bool (decide_eq_true (by omega))) allp0)) ?_
    refine Det.condT (by kernel_rfl) (true) (by kernel_rfl) rfl ?_
    refine Det.sreg [] [(16, Value.bool true), (1, Value.bool a1), (0, Value.int IntKind.i64 a0), (4, Value.bool true)] (h) [] (by kernel_rfl) (by kernel_rfl) hX (by kernel_rfl) allp0 ?_
    refine Det.retA (by kernel_rfl) ?_
    refine then_r (by kernel_rfl) ?_
    refine fin_r (Value.bool true) (by kernel_rfl) (by kernel_rfl) ?_
    rfl
theorem late_in : ∀ (j : Nat), j < 41 → ∀ b : Bool, DetFn Tryz.prog 6 [.int .i64 (.ofNat j), .bool b] Heap.empty fun u _ => u = .bool true
  | 0, _, false => late_0_false
  | 0, _, true => late_0_true
  | 1, _, false => late_1_false
  | 1, _, true => late_1_true
  | 2, _, false => late_2_false
  | 2, _, true => late_2_true
  | 3, _, false => late_3_false
  | 3, _, true => late_3_true
  | 4, _, false => late_4_false
  | 4, _, true => late_4_true
  | 5, _, false => late_5_false
  | 5, _, true => late_5_true
  | 6, _, false => late_6_false
  | 6, _, true => late_6_true
  | 7, _, false => late_7_false
  | 7, _, true => late_7_true
  | 8, _, false => late_8_false
  | 8, _, true => late_8_true
  | 9, _, false => late_9_false
  | 9, _, true => late_9_true
  | 10, _, false => late_10_false
  | 10, _, true => late_10_true
  | 11, _, false => late_11_false
  | 11, _, true => late_11_true
  | 12, _, false => late_12_false
  | 12, _, true => late_12_true
  | 13, _, false => late_13_false
  | 13, _, true => late_13_true
  | 14, _, false => late_14_false
  | 14, _, true => late_14_true
  | 15, _, false => late_15_false
  | 15, _, true => late_15_true
  | 16, _, false => late_16_false
  | 16, _, true => late_16_true
  | 17, _, false => late_17_false
  | 17, _, true => late_17_true
  | 18, _, false => late_18_false
  | 18, _, true => late_18_true
  | 19, _, false => late_19_false
  | 19, _, true => late_19_true
  | 20, _, false => late_20_false
  | 20, _, true => late_20_true
  | 21, _, false => late_21_false
  | 21, _, true => late_21_true
  | 22, _, false => late_22_false
  | 22, _, true => late_22_true
  | 23, _, false => late_23_false
  | 23, _, true => late_23_true
  | 24, _, false => late_24_false
  | 24, _, true => late_24_true
  | 25, _, false => late_25_false
  | 25, _, true => late_25_true
  | 26, _, false => late_26_false
  | 26, _, true => late_26_true
  | 27, _, false => late_27_false
  | 27, _, true => late_27_true
  | 28, _, false => late_28_false
  | 28, _, true => late_28_true
  | 29, _, false => late_29_false
  | 29, _, true => late_29_true
  | 30, _, false => late_30_false
  | 30, _, true => late_30_true
  | 31, _, false => late_31_false
  | 31, _, true => late_31_true
  | 32, _, false => late_32_false
  | 32, _, true => late_32_true
  | 33, _, false => late_33_false
  | 33, _, true => late_33_true
  | 34, _, false => late_34_false
  | 34, _, true => late_34_true
  | 35, _, false => late_35_false
  | 35, _, true => late_35_true
  | 36, _, false => late_36_false
  | 36, _, true => late_36_true
  | 37, _, false => late_37_false
  | 37, _, true => late_37_true
  | 38, _, false => late_38_false
  | 38, _, true => late_38_true
  | 39, _, false => late_39_false
  | 39, _, true => late_39_true
  | 40, _, false => late_40_false
  | 40, _, true => late_40_true
  | j + 41, h, _ => absurd h (by omega)
theorem law_TopLate (a0 : Int) (a1 : Bool) : DetFn Tryz.prog 6 [.int .i64 a0, .bool a1] Heap.empty fun v _ => v = .bool true := by
  by_cases h0 : a0 < 0 ∨ 40 < a0
  · exact late_out a0 a1 h0 _
  · obtain ⟨j, rfl⟩ := Int.eq_ofNat_of_zero_le (show 0 ≤ a0 by omega)
    exact late_in j (by omega) a1
end Go.Proofs.YthijllagngkbgaaGreat.Eng
