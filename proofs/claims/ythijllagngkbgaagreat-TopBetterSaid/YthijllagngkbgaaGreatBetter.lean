/- TopBetter's law: a deal comes about beside a book just if the client is no worse off. -/
import Derived.Test.YthijllagngkbgaaGreatBetter1
import Derived.Test.YthijllagngkbgaaGreatBetter2
import Derived.Test.YthijllagngkbgaaGreatBetter3
import Derived.Test.YthijllagngkbgaaGreatBetter4
namespace Go.Proofs.YthijllagngkbgaaGreat.Eng
open Go Go.Proofs
set_option maxRecDepth 100000
set_option maxHeartbeats 4000000
set_option linter.unusedVariables false
theorem better_out (a0 a1 : Int) (h0 : a0 < 1 ∨ 100 < a0 ∨ a1 < 1 ∨ 10 < a1) (h : Heap) : DetFn Tryz.prog 3 [.int .i64 a0, .int .i64 a1] h fun v _ => v = .bool true := by
  refine Det.enterS Tryz.f3 [(0, .int .i64 a0), (1, .int .i64 a1)] Tryz.func3 (by kernel_rfl) (of_decide_eq_true (by kernel_rfl)) (by kernel_rfl) ?_
  refine Det.sreg [] [(1, Value.int IntKind.i64 a1), (0, Value.int IntKind.i64 a0), (4, Value.bool false)] (h) [] (by kernel_rfl) (by kernel_rfl) hX (by kernel_rfl) allp0 ?_
  refine Det.seqA (by kernel_rfl) ?_
  by_cases c2 : a0 < 1
  · refine Det.sreg [(1, .s (Value.bool true))] [(4, Value.bool false), (0, Value.int IntKind.i64 a0), (1, Value.int IntKind.i64 a1), (20, Value.bool true)] (h) [(Value.bool (decide (a0 < 1))) = (Value.bool true)] (by kernel_rfl) (by kernel_rfl) hX (by kernel_rfl) (allp (congrArg Value.bool (decide_eq_true (by exact c2))) allp0) ?_
    refine Det.condT (by kernel_rfl) (true) (by kernel_rfl) rfl ?_
    refine Det.sreg [] [(20, Value.bool true), (1, Value.int IntKind.i64 a1), (0, Value.int IntKind.i64 a0), (4, Value.bool true)] (h) [] (by kernel_rfl) (by kernel_rfl) hX (by kernel_rfl) allp0 ?_
    refine Det.retA (by kernel_rfl) ?_
    refine then_r (by kernel_rfl) ?_
    refine fin_r (Value.bool true) (by kernel_rfl) (by kernel_rfl) ?_
    rfl
  · by_cases c3 : 100 < a0
    · refine Det.sreg [(1, .s (Value.bool false)), (2, .s (Value.bool true))] [(4, Value.bool false), (0, Value.int IntKind.i64 a0), (1, Value.int IntKind.i64 a1), (20, Value.bool true)] (h) [(Value.bool (decide (a0 < 1))) = (Value.bool false), (Value.bool (decide (100 < a0))) = (Value.bool true)] (by kernel_rfl) (by kernel_rfl) hX (by kernel_rfl) (allp (congrArg Value.bool (decide_eq_false (by exact c2))) (allp (congrArg Value.bool (decide_eq_true (by exact c3))) allp0)) ?_
      refine Det.condT (by kernel_rfl) (true) (by kernel_rfl) rfl ?_
      refine Det.sreg [] [(20, Value.bool true), (1, Value.int IntKind.i64 a1), (0, Value.int IntKind.i64 a0), (4, Value.bool true)] (h) [] (by kernel_rfl) (by kernel_rfl) hX (by kernel_rfl) allp0 ?_
      refine Det.retA (by kernel_rfl) ?_
      refine then_r (by kernel_rfl) ?_
      refine fin_r (Value.bool true) (by kernel_rfl) (by kernel_rfl) ?_
      rfl
    · by_cases c4 : a1 < 1
      · refine Det.sreg [(1, .s (Value.bool false)), (2, .s (Value.bool false)), (3, .s (Value.bool true))] [(4, Value.bool false), (0, Value.int IntKind.i64 a0), (1, Value.int IntKind.i64 a1), (20, Value.bool true)] (h) [(Value.bool (decide (a0 < 1))) = (Value.bool false), (Value.bool (decide (100 < a0))) = (Value.bool false), (Value.bool (decide (a1 < 1))) = (Value.bool true)] (by kernel_rfl) (by kernel_rfl) hX (by kernel_rfl) (allp (congrArg Value.bool (decide_eq_false (by exact c2))) (allp (congrArg Value.bool (decide_eq_false (by exact c3))) (allp (congrArg Value.bool (decide_eq_true (by exact c4))) allp0))) ?_
        refine Det.condT (by kernel_rfl) (true) (by kernel_rfl) rfl ?_
        refine Det.sreg [] [(20, Value.bool true), (1, Value.int IntKind.i64 a1), (0, Value.int IntKind.i64 a0), (4, Value.bool true)] (h) [] (by kernel_rfl) (by kernel_rfl) hX (by kernel_rfl) allp0 ?_
        refine Det.retA (by kernel_rfl) ?_
        refine then_r (by kernel_rfl) ?_
        refine fin_r (Value.bool true) (by kernel_rfl) (by kernel_rfl) ?_
        rfl
      · refine Det.sreg [(1, .s (Value.bool false)), (2, .s (Value.bool false)), (3, .s (Value.bool false)), (3, .s (Value.bool true))] [(4, Value.bool false), (0, Value.int IntKind.i64 a0), (1, Value.int IntKind.i64 a1), (20, Value.bool true)] (h) [(Value.bool (decide (a0 < 1))) = (Value.bool false), (Value.bool (decide (100 < a0))) = (Value.bool false), (Value.bool (decide (a1 < 1))) = (Value.bool false), (Value.bool (decide (10 < a1))) = (Value.bool true)] (by kernel_rfl) (by kernel_rfl) hX (by kernel_rfl) (allp (congrArg Value.bool (decide_eq_false (by exact c2))) (allp (congrArg Value.bool (decide_eq_false (by exact c3))) (allp (congrArg Value.bool (decide_eq_false (by exact c4))) (allp (congrArg Value.bool (decide_eq_true (by omega))) allp0)))) ?_
        refine Det.condT (by kernel_rfl) (true) (by kernel_rfl) rfl ?_
        refine Det.sreg [] [(20, Value.bool true), (1, Value.int IntKind.i64 a1), (0, Value.int IntKind.i64 a0), (4, Value.bool true)] (h) [] (by kernel_rfl) (by kernel_rfl) hX (by kernel_rfl) allp0 ?_
        refine Det.retA (by kernel_rfl) ?_
        refine then_r (by kernel_rfl) ?_
        refine fin_r (Value.bool true) (by kernel_rfl) (by kernel_rfl) ?_
        rfl
theorem better_in : ∀ (c : Nat), c < 8 → DetFn Tryz.prog 3 [tokAt c 0 9, tokAt c 0 109] ⟨1, .leaf⟩ fun u _ => u = .bool true
  | 0, _ => better_0
  | 1, _ => better_1
  | 2, _ => better_2
  | 3, _ => better_3
  | 4, _ => better_4
  | 5, _ => better_5
  | 6, _ => better_6
  | 7, _ => better_7
  | c + 8, h => absurd h (by omega)
theorem law_TopBetter (a0 a1 : Int) : DetFn Tryz.prog 3 [.int .i64 a0, .int .i64 a1] Heap.empty fun v _ => v = .bool true := by
  by_cases h0 : a0 < 1 ∨ 100 < a0 ∨ a1 < 1 ∨ 10 < a1
  · exact better_out a0 a1 h0 _
  · obtain ⟨p, rfl⟩ := Int.eq_ofNat_of_zero_le (show 0 ≤ a0 by omega)
    obtain ⟨q, rfl⟩ := Int.eq_ofNat_of_zero_le (show 0 ≤ a1 by omega)
    have hp : clsP p < 4 := by unfold clsP; split <;> omega
    have hq : clsQ q < 2 := by unfold clsQ; split <;> omega
    have hc : Cls (4 * clsQ q + clsP p) p q := ⟨by omega, by omega, by omega, by omega, by omega, by omega⟩
    exact DetFn.open2 hc (better_in _ (by omega))
end Go.Proofs.YthijllagngkbgaaGreat.Eng
