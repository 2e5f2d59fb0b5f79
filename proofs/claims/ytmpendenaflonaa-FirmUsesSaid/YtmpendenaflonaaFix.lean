/- What the functions of chapter 1 come to, over the engine's memory. No conditions. -/
import Derived.Test.YtmpendenaflonaaFixMath
import Derived.Test.YtmpendenaflonaaProg
import Derived.Test.YtmpendenaflonaaChecked
import Derived.IntWalk
namespace Go.Proofs.Ytmpendenaflonaa.Eng
open Go Go.Proofs Go.Proofs.Ytmpendenaflonaa.FixMath
set_option maxRecDepth 100000
set_option maxHeartbeats 4000000
set_option linter.unusedVariables false
theorem hmix : Try.prog.follows .mixedOrders = true := by kernel_rfl
theorem hX : ExtOk Try.prog noExt := noExt_ok
/-- a sum, and whether an int64 holds it -/
def keptV (n : Int) : Value := .tuple #[.int .i64 (keep n), .bool (inR n)]
theorem keptV_in {n : Int} (h : -9223372036854775808 ≤ n) (k : n ≤ 9223372036854775807) : Value.tuple #[.int .i64 n, .bool true] = keptV n := by rw [keptV, keep_in h k, inR_iff.2 ⟨h, k⟩]
theorem keptV_no {n : Int} (h : n < -9223372036854775808 ∨ 9223372036854775807 < n) : Value.tuple #[.int .i64 0, .bool false] = keptV n := by rw [keptV, keep_no h, inR_no.2 h]
theorem fix_Add (a b : Int) (ha : -9223372036854775808 ≤ a) (hA : a ≤ 9223372036854775807) (hb : -9223372036854775808 ≤ b) (hB : b ≤ 9223372036854775807) (h : Heap) :
    DetFn Try.prog 47 [.int .i64 a, .int .i64 b] h fun v h' => v = keptV (a + b) ∧ h' = h := by
  refine DetFn.bare (by kernel_rfl) (by kernel_rfl) ?_ h
  refine Det.enter Try.func47 (by kernel_rfl) (of_decide_eq_true (by kernel_rfl)) ?_
  refine Det.seqA (by kernel_rfl) ?_
  refine Det.opsA (by kernel_rfl) hX ?_
  refine OD.run 2 (by kernel_rfl) ?_
  refine OD.done (of_decide_eq_true (by kernel_rfl)) ?_
  refine then_n (by kernel_rfl) ?_
  refine Det.seqA (by kernel_rfl) ?_
  refine Det.seqA (by kernel_rfl) ?_
  refine Det.opsA (by kernel_rfl) hX ?_
  refine OD.run 2 (by kernel_rfl) ?_
  by_cases c8 : 0 < b
  · refine OD.as (Value.bool (decide (0 < b))) (Value.bool true) (by kernel_rfl) (of_decide_eq_true (by kernel_rfl)) (by kernel_rfl) (congrArg Value.bool (decide_eq_true (by exact c8))) ?_
    refine OD.run 2 (by kernel_rfl) ?_
    refine OD.as (Value.int IntKind.i64 (IntKind.wrap IntKind.i64 (9223372036854775807 - b))) (Value.int IntKind.i64 (9223372036854775807 - b)) (by kernel_rfl) (of_decide_eq_true (by kernel_rfl)) (by kernel_rfl) (congrArg _ (by (rw [IntKind.wrap_i64]; omega))) ?_
    refine OD.run 2 (by kernel_rfl) ?_
    by_cases c12 : 9223372036854775807 - b < a
    · refine OD.as (Value.bool (decide (9223372036854775807 - b < a))) (Value.bool true) (by kernel_rfl) (of_decide_eq_true (by kernel_rfl)) (by kernel_rfl) (congrArg Value.bool (decide_eq_true (by exact c12))) ?_
      refine OD.run 9 (by kernel_rfl) ?_
      refine OD.done (of_decide_eq_true (by kernel_rfl)) ?_
      refine then_n (by kernel_rfl) ?_
      refine Det.condT (by kernel_rfl) (true) (by kernel_rfl) rfl ?_
      refine Det.seqA (by kernel_rfl) ?_
      refine Det.opsA (by kernel_rfl) hX ?_
      refine OD.run 2 (by kernel_rfl) ?_
      refine OD.done (of_decide_eq_true (by kernel_rfl)) ?_
      refine then_n (by kernel_rfl) ?_
      refine Det.retA (by kernel_rfl) ?_
      refine then_r (by kernel_rfl) ?_
      refine fin_r (Value.tuple #[Value.int IntKind.i64 0, Value.bool false]) (by kernel_rfl) (by kernel_rfl) ?_
      first | exact keptV_in (by omega) (by omega) | exact keptV_no (by omega)
    · refine OD.as (Value.bool (decide (9223372036854775807 - b < a))) (Value.bool false) (by kernel_rfl) (of_decide_eq_true (by kernel_rfl)) (by kernel_rfl) (congrArg Value.bool (decide_eq_false (by exact c12))) ?_
      refine OD.run 1 (by kernel_rfl) ?_
      refine OD.as (Value.bool (decide (b < 0))) (Value.bool false) (by kernel_rfl) (of_decide_eq_true (by kernel_rfl)) (by kernel_rfl) (congrArg Value.bool (decide_eq_false (by omega))) ?_
      refine OD.run 7 (by kernel_rfl) ?_
      refine OD.done (of_decide_eq_true (by kernel_rfl)) ?_
      refine then_n (by kernel_rfl) ?_
      refine Det.condF (by kernel_rfl) (false) (by kernel_rfl) rfl ?_
      refine Det.skipA (by kernel_rfl) ?_
      refine then_n (by kernel_rfl) ?_
      refine Det.seqA (by kernel_rfl) ?_
      refine Det.opsA (by kernel_rfl) hX ?_
      refine OD.run 2 (by kernel_rfl) ?_
      refine OD.as (Value.int IntKind.i64 (IntKind.wrap IntKind.i64 (a + b))) (Value.int IntKind.i64 (a + b)) (by kernel_rfl) (of_decide_eq_true (by kernel_rfl)) (by kernel_rfl) (congrArg _ (by (rw [IntKind.wrap_i64]; omega))) ?_
      refine OD.run 2 (by kernel_rfl) ?_
      refine OD.done (of_decide_eq_true (by kernel_rfl)) ?_
      refine then_n (by kernel_rfl) ?_
      refine Det.retA (by kernel_rfl) ?_
      refine fin_r (Value.tuple #[Value.int IntKind.i64 (a + b), Value.bool true]) (by kernel_rfl) (by kernel_rfl) ?_
      first | exact keptV_in (by omega) (by omega) | exact keptV_no (by omega)
  · refine OD.as (Value.bool (decide (0 < b))) (Value.bool false) (by kernel_rfl) (of_decide_eq_true (by kernel_rfl)) (by kernel_rfl) (congrArg Value.bool (decide_eq_false (by exact c8))) ?_
    refine OD.run 8 (by kernel_rfl) ?_
    by_cases c11 : b < 0
    · refine OD.as (Value.bool (decide (b < 0))) (Value.bool true) (by kernel_rfl) (of_decide_eq_true (by kernel_rfl)) (by kernel_rfl) (congrArg Value.bool (decide_eq_true (by exact c11))) ?_
      refine OD.run 2 (by kernel_rfl) ?_
      refine OD.as (Value.int IntKind.i64 (IntKind.wrap IntKind.i64 (-9223372036854775808 - b))) (Value.int IntKind.i64 (-9223372036854775808 - b)) (by kernel_rfl) (of_decide_eq_true (by kernel_rfl)) (by kernel_rfl) (congrArg _ (by (rw [IntKind.wrap_i64]; omega))) ?_
      refine OD.run 3 (by kernel_rfl) ?_
      refine OD.done (of_decide_eq_true (by kernel_rfl)) ?_
      refine then_n (by kernel_rfl) ?_
      by_cases c16 : a < -9223372036854775808 - b
      · refine Det.condT (by kernel_rfl) (decide (a < -9223372036854775808 - b)) (by kernel_rfl) (decide_eq_true (by exact c16)) ?_
        refine Det.seqA (by kernel_rfl) ?_
        refine Det.opsA (by kernel_rfl) hX ?_
        refine OD.run 2 (by kernel_rfl) ?_
        refine OD.done (of_decide_eq_true (by kernel_rfl)) ?_
        refine then_n (by kernel_rfl) ?_
        refine Det.retA (by kernel_rfl) ?_
        refine then_r (by kernel_rfl) ?_
        refine fin_r (Value.tuple #[Value.int IntKind.i64 0, Value.bool false]) (by kernel_rfl) (by kernel_rfl) ?_
        first | exact keptV_in (by omega) (by omega) | exact keptV_no (by omega)
      · refine Det.condF (by kernel_rfl) (decide (a < -9223372036854775808 - b)) (by kernel_rfl) (decide_eq_false (by exact c16)) ?_
        refine Det.skipA (by kernel_rfl) ?_
        refine then_n (by kernel_rfl) ?_
        refine Det.seqA (by kernel_rfl) ?_
        refine Det.opsA (by kernel_rfl) hX ?_
        refine OD.run 2 (by kernel_rfl) ?_
        refine OD.as (Value.int IntKind.i64 (IntKind.wrap IntKind.i64 (a + b))) (Value.int IntKind.i64 (a + b)) (by kernel_rfl) (of_decide_eq_true (by kernel_rfl)) (by kernel_rfl) (congrArg _ (by (rw [IntKind.wrap_i64]; omega))) ?_
        refine OD.run 2 (by kernel_rfl) ?_
        refine OD.done (of_decide_eq_true (by kernel_rfl)) ?_
        refine then_n (by kernel_rfl) ?_
        refine Det.retA (by kernel_rfl) ?_
        refine fin_r (Value.tuple #[Value.int IntKind.i64 (a + b), Value.bool true]) (by kernel_rfl) (by kernel_rfl) ?_
        first | exact keptV_in (by omega) (by omega) | exact keptV_no (by omega)
    · refine OD.as (Value.bool (decide (b < 0))) (Value.bool false) (by kernel_rfl) (of_decide_eq_true (by kernel_rfl)) (by kernel_rfl) (congrArg Value.bool (decide_eq_false (by exact c11))) ?_
      refine OD.run 6 (by kernel_rfl) ?_
      refine OD.done (of_decide_eq_true (by kernel_rfl)) ?_
      refine then_n (by kernel_rfl) ?_
      refine Det.condF (by kernel_rfl) (false) (by kernel_rfl) rfl ?_
      refine Det.skipA (by kernel_rfl) ?_
      refine then_n (by kernel_rfl) ?_
      refine Det.seqA (by kernel_rfl) ?_
      refine Det.opsA (by kernel_rfl) hX ?_
      refine OD.run 2 (by kernel_rfl) ?_
      refine OD.as (Value.int IntKind.i64 (IntKind.wrap IntKind.i64 (a + b))) (Value.int IntKind.i64 (a + b)) (by kernel_rfl) (of_decide_eq_true (by kernel_rfl)) (by kernel_rfl) (congrArg _ (by (rw [IntKind.wrap_i64]; omega))) ?_
      refine OD.run 2 (by kernel_rfl) ?_
      refine OD.done (of_decide_eq_true (by kernel_rfl)) ?_
      refine then_n (by kernel_rfl) ?_
      refine Det.retA (by kernel_rfl) ?_
      refine fin_r (Value.tuple #[Value.int IntKind.i64 (a + b), Value.bool true]) (by kernel_rfl) (by kernel_rfl) ?_
      first | exact keptV_in (by omega) (by omega) | exact keptV_no (by omega)
theorem ref_Add (a b : Int) (ha : -9223372036854775808 ≤ a) (hA : a ≤ 9223372036854775807) (hb : -9223372036854775808 ≤ b) (hB : b ≤ 9223372036854775807) (h : Heap) :
    DetFn Try.prog 40 [.int .i64 a, .int .i64 b] h fun v h' => v = keptV (a + b) ∧ h' = h := by
  refine DetFn.bare (by kernel_rfl) (by kernel_rfl) ?_ h
  refine Det.enter Try.func40 (by kernel_rfl) (of_decide_eq_true (by kernel_rfl)) ?_
  refine Det.seqA (by kernel_rfl) ?_
  refine Det.opsA (by kernel_rfl) hX ?_
  refine OD.run 2 (by kernel_rfl) ?_
  refine OD.done (of_decide_eq_true (by kernel_rfl)) ?_
  refine then_n (by kernel_rfl) ?_
  refine Det.seqA (by kernel_rfl) ?_
  refine Det.seqA (by kernel_rfl) ?_
  refine Det.opsA (by kernel_rfl) hX ?_
  refine OD.run 2 (by kernel_rfl) ?_
  by_cases c8 : 0 < b
  · refine OD.as (Value.bool (decide (0 < b))) (Value.bool true) (by kernel_rfl) (of_decide_eq_true (by kernel_rfl)) (by kernel_rfl) (congrArg Value.bool (decide_eq_true (by exact c8))) ?_
    refine OD.run 2 (by kernel_rfl) ?_
    refine OD.as (Value.int IntKind.i64 (IntKind.wrap IntKind.i64 (9223372036854775807 - b))) (Value.int IntKind.i64 (9223372036854775807 - b)) (by kernel_rfl) (of_decide_eq_true (by kernel_rfl)) (by kernel_rfl) (congrArg _ (by (rw [IntKind.wrap_i64]; omega))) ?_
    refine OD.run 2 (by kernel_rfl) ?_
    by_cases c12 : 9223372036854775807 - b < a
    · refine OD.as (Value.bool (decide (9223372036854775807 - b < a))) (Value.bool true) (by kernel_rfl) (of_decide_eq_true (by kernel_rfl)) (by kernel_rfl) (congrArg Value.bool (decide_eq_true (by exact c12))) ?_
      refine OD.run 9 (by kernel_rfl) ?_
      refine OD.done (of_decide_eq_true (by kernel_rfl)) ?_
      refine then_n (by kernel_rfl) ?_
      refine Det.condT (by kernel_rfl) (true) (by kernel_rfl) rfl ?_
      refine Det.seqA (by kernel_rfl) ?_
      refine Det.opsA (by kernel_rfl) hX ?_
      refine OD.run 2 (by kernel_rfl) ?_
      refine OD.done (of_decide_eq_true (by kernel_rfl)) ?_
      refine then_n (by kernel_rfl) ?_
      refine Det.retA (by kernel_rfl) ?_
      refine then_r (by kernel_rfl) ?_
      refine fin_r (Value.tuple #[Value.int IntKind.i64 0, Value.bool false]) (by kernel_rfl) (by kernel_rfl) ?_
      first | exact keptV_in (by omega) (by omega) | exact keptV_no (by omega)
    · refine OD.as (Value.bool (decide (9223372036854775807 - b < a))) (Value.bool false) (by kernel_rfl) (of_decide_eq_true (by kernel_rfl)) (by kernel_rfl) (congrArg Value.bool (decide_eq_false (by exact c12))) ?_
      refine OD.run 1 (by kernel_rfl) ?_
      refine OD.as (Value.bool (decide (b < 0))) (Value.bool false) (by kernel_rfl) (of_decide_eq_true (by kernel_rfl)) (by kernel_rfl) (congrArg Value.bool (decide_eq_false (by omega))) ?_
      refine OD.run 7 (by kernel_rfl) ?_
      refine OD.done (of_decide_eq_true (by kernel_rfl)) ?_
      refine then_n (by kernel_rfl) ?_
      refine Det.condF (by kernel_rfl) (false) (by kernel_rfl) rfl ?_
      refine Det.skipA (by kernel_rfl) ?_
      refine then_n (by kernel_rfl) ?_
      refine Det.seqA (by kernel_rfl) ?_
      refine Det.opsA (by kernel_rfl) hX ?_
      refine OD.run 2 (by kernel_rfl) ?_
      refine OD.as (Value.int IntKind.i64 (IntKind.wrap IntKind.i64 (a + b))) (Value.int IntKind.i64 (a + b)) (by kernel_rfl) (of_decide_eq_true (by kernel_rfl)) (by kernel_rfl) (congrArg _ (by (rw [IntKind.wrap_i64]; omega))) ?_
      refine OD.run 2 (by kernel_rfl) ?_
      refine OD.done (of_decide_eq_true (by kernel_rfl)) ?_
      refine then_n (by kernel_rfl) ?_
      refine Det.retA (by kernel_rfl) ?_
      refine fin_r (Value.tuple #[Value.int IntKind.i64 (a + b), Value.bool true]) (by kernel_rfl) (by kernel_rfl) ?_
      first | exact keptV_in (by omega) (by omega) | exact keptV_no (by omega)
  · refine OD.as (Value.bool (decide (0 < b))) (Value.bool false) (by kernel_rfl) (of_decide_eq_true (by kernel_rfl)) (by kernel_rfl) (congrArg Value.bool (decide_eq_false (by exact c8))) ?_
    refine OD.run 8 (by kernel_rfl) ?_
    by_cases c11 : b < 0
    · refine OD.as (Value.bool (decide (b < 0))) (Value.bool true) (by kernel_rfl) (of_decide_eq_true (by kernel_rfl)) (by kernel_rfl) (congrArg Value.bool (decide_eq_true (by exact c11))) ?_
      refine OD.run 2 (by kernel_rfl) ?_
      refine OD.as (Value.int IntKind.i64 (IntKind.wrap IntKind.i64 (-9223372036854775808 - b))) (Value.int IntKind.i64 (-9223372036854775808 - b)) (by kernel_rfl) (of_decide_eq_true (by kernel_rfl)) (by kernel_rfl) (congrArg _ (by (rw [IntKind.wrap_i64]; omega))) ?_
      refine OD.run 3 (by kernel_rfl) ?_
      refine OD.done (of_decide_eq_true (by kernel_rfl)) ?_
      refine then_n (by kernel_rfl) ?_
      by_cases c16 : a < -9223372036854775808 - b
      · refine Det.condT (by kernel_rfl) (decide (a < -9223372036854775808 - b)) (by kernel_rfl) (decide_eq_true (by exact c16)) ?_
        refine Det.seqA (by kernel_rfl) ?_
        refine Det.opsA (by kernel_rfl) hX ?_
        refine OD.run 2 (by kernel_rfl) ?_
        refine OD.done (of_decide_eq_true (by kernel_rfl)) ?_
        refine then_n (by kernel_rfl) ?_
        refine Det.retA (by kernel_rfl) ?_
        refine then_r (by kernel_rfl) ?_
        refine fin_r (Value.tuple #[Value.int IntKind.i64 0, Value.bool false]) (by kernel_rfl) (by kernel_rfl) ?_
        first | exact keptV_in (by omega) (by omega) | exact keptV_no (by omega)
      · refine Det.condF (by kernel_rfl) (decide (a < -9223372036854775808 - b)) (by kernel_rfl) (decide_eq_false (by exact c16)) ?_
        refine Det.skipA (by kernel_rfl) ?_
        refine then_n (by kernel_rfl) ?_
        refine Det.seqA (by kernel_rfl) ?_
        refine Det.opsA (by kernel_rfl) hX ?_
        refine OD.run 2 (by kernel_rfl) ?_
        refine OD.as (Value.int IntKind.i64 (IntKind.wrap IntKind.i64 (a + b))) (Value.int IntKind.i64 (a + b)) (by kernel_rfl) (of_decide_eq_true (by kernel_rfl)) (by kernel_rfl) (congrArg _ (by (rw [IntKind.wrap_i64]; omega))) ?_
        refine OD.run 2 (by kernel_rfl) ?_
        refine OD.done (of_decide_eq_true (by kernel_rfl)) ?_
        refine then_n (by kernel_rfl) ?_
        refine Det.retA (by kernel_rfl) ?_
        refine fin_r (Value.tuple #[Value.int IntKind.i64 (a + b), Value.bool true]) (by kernel_rfl) (by kernel_rfl) ?_
        first | exact keptV_in (by omega) (by omega) | exact keptV_no (by omega)
    · refine OD.as (Value.bool (decide (b < 0))) (Value.bool false) (by kernel_rfl) (of_decide_eq_true (by kernel_rfl)) (by kernel_rfl) (congrArg Value.bool (decide_eq_false (by exact c11))) ?_
      refine OD.run 6 (by kernel_rfl) ?_
      refine OD.done (of_decide_eq_true (by kernel_rfl)) ?_
      refine then_n (by kernel_rfl) ?_
      refine Det.condF (by kernel_rfl) (false) (by kernel_rfl) rfl ?_
      refine Det.skipA (by kernel_rfl) ?_
      refine then_n (by kernel_rfl) ?_
      refine Det.seqA (by kernel_rfl) ?_
      refine Det.opsA (by kernel_rfl) hX ?_
      refine OD.run 2 (by kernel_rfl) ?_
      refine OD.as (Value.int IntKind.i64 (IntKind.wrap IntKind.i64 (a + b))) (Value.int IntKind.i64 (a + b)) (by kernel_rfl) (of_decide_eq_true (by kernel_rfl)) (by kernel_rfl) (congrArg _ (by (rw [IntKind.wrap_i64]; omega))) ?_
      refine OD.run 2 (by kernel_rfl) ?_
      refine OD.done (of_decide_eq_true (by kernel_rfl)) ?_
      refine then_n (by kernel_rfl) ?_
      refine Det.retA (by kernel_rfl) ?_
      refine fin_r (Value.tuple #[Value.int IntKind.i64 (a + b), Value.bool true]) (by kernel_rfl) (by kernel_rfl) ?_
      first | exact keptV_in (by omega) (by omega) | exact keptV_no (by omega)
theorem bits_Mul64 (a b : Int) (ha : 0 ≤ a) (hA : a < 18446744073709551616) (hb : 0 ≤ b) (hB : b < 18446744073709551616) (h : Heap) :
    DetFn Try.prog 49 [.int .u64 a, .int .u64 b] h fun v h' => v = .tuple #[.int .u64 (a * b / 18446744073709551616), .int .u64 (a * b % 18446744073709551616)] ∧ h' = h := by
  refine DetFn.bare (by kernel_rfl) (by kernel_rfl) ?_ h
  refine Det.enter Try.func49 (by kernel_rfl) (of_decide_eq_true (by kernel_rfl)) ?_
  refine Det.seqA (by kernel_rfl) ?_
  refine Det.opsA (by kernel_rfl) hX ?_
  refine OD.run 2 (by kernel_rfl) ?_
  refine OD.done (of_decide_eq_true (by kernel_rfl)) ?_
  refine then_n (by kernel_rfl) ?_
  refine Det.seqA (by kernel_rfl) ?_
  refine Det.opsA (by kernel_rfl) hX ?_
  refine OD.run 3 (by kernel_rfl) ?_
  refine OD.done (of_decide_eq_true (by kernel_rfl)) ?_
  refine then_n (by kernel_rfl) ?_
  refine Det.seqA (by kernel_rfl) ?_
  refine Det.opsA (by kernel_rfl) hX ?_
  refine OD.run 3 (by kernel_rfl) ?_
  refine OD.done (of_decide_eq_true (by kernel_rfl)) ?_
  refine then_n (by kernel_rfl) ?_
  refine Det.seqA (by kernel_rfl) ?_
  refine Det.opsA (by kernel_rfl) hX ?_
  refine OD.run 3 (by kernel_rfl) ?_
  refine OD.done (of_decide_eq_true (by kernel_rfl)) ?_
  refine then_n (by kernel_rfl) ?_
  refine Det.seqA (by kernel_rfl) ?_
  refine Det.opsA (by kernel_rfl) hX ?_
  refine OD.run 3 (by kernel_rfl) ?_
  refine OD.done (of_decide_eq_true (by kernel_rfl)) ?_
  refine then_n (by kernel_rfl) ?_
  refine Det.seqA (by kernel_rfl) ?_
  refine Det.opsA (by kernel_rfl) hX ?_
  refine OD.run 4 (by kernel_rfl) ?_
  refine OD.done (of_decide_eq_true (by kernel_rfl)) ?_
  refine then_n (by kernel_rfl) ?_
  refine Det.seqA (by kernel_rfl) ?_
  refine Det.opsA (by kernel_rfl) hX ?_
  refine OD.run 7 (by kernel_rfl) ?_
  refine OD.done (of_decide_eq_true (by kernel_rfl)) ?_
  refine then_n (by kernel_rfl) ?_
  refine Det.seqA (by kernel_rfl) ?_
  refine Det.opsA (by kernel_rfl) hX ?_
  refine OD.run 3 (by kernel_rfl) ?_
  refine OD.done (of_decide_eq_true (by kernel_rfl)) ?_
  refine then_n (by kernel_rfl) ?_
  refine Det.seqA (by kernel_rfl) ?_
  refine Det.opsA (by kernel_rfl) hX ?_
  refine OD.run 3 (by kernel_rfl) ?_
  refine OD.done (of_decide_eq_true (by kernel_rfl)) ?_
  refine then_n (by kernel_rfl) ?_
  refine Det.seqA (by kernel_rfl) ?_
  refine Det.opsA (by kernel_rfl) hX ?_
  refine OD.run 6 (by kernel_rfl) ?_
  refine OD.done (of_decide_eq_true (by kernel_rfl)) ?_
  refine then_n (by kernel_rfl) ?_
  refine Det.seqA (by kernel_rfl) ?_
  refine Det.opsA (by kernel_rfl) hX ?_
  refine OD.run 9 (by kernel_rfl) ?_
  refine OD.done (of_decide_eq_true (by kernel_rfl)) ?_
  refine then_n (by kernel_rfl) ?_
  refine Det.seqA (by kernel_rfl) ?_
  refine Det.opsA (by kernel_rfl) hX ?_
  refine OD.run 4 (by kernel_rfl) ?_
  refine OD.done (of_decide_eq_true (by kernel_rfl)) ?_
  refine then_n (by kernel_rfl) ?_
  refine Det.retA (by kernel_rfl) ?_
  refine fin_r (Value.tuple #[Value.int IntKind.u64 (IntKind.wrap IntKind.u64 (IntKind.wrap IntKind.u64 (IntKind.wrap IntKind.u64 (Int.fdiv a 4294967296 * Int.fdiv b 4294967296) + Int.fdiv (IntKind.wrap IntKind.u64 (IntKind.wrap IntKind.u64 (Int.fdiv a 4294967296 * bits BinOp.and IntKind.u64 b 4294967295) + Int.fdiv (IntKind.wrap IntKind.u64 (bits BinOp.and IntKind.u64 a 4294967295 * bits BinOp.and IntKind.u64 b 4294967295)) 4294967296)) 4294967296) + Int.fdiv (IntKind.wrap IntKind.u64 (bits BinOp.and IntKind.u64 (IntKind.wrap IntKind.u64 (IntKind.wrap IntKind.u64 (Int.fdiv a 4294967296 * bits BinOp.and IntKind.u64 b 4294967295) + Int.fdiv (IntKind.wrap IntKind.u64 (bits BinOp.and IntKind.u64 a 4294967295 * bits BinOp.and IntKind.u64 b 4294967295)) 4294967296)) 4294967295 + IntKind.wrap IntKind.u64 (bits BinOp.and IntKind.u64 a 4294967295 * Int.fdiv b 4294967296))) 4294967296)), Value.int IntKind.u64 (IntKind.wrap IntKind.u64 (a * b))]) (by kernel_rfl) (by kernel_rfl) ?_
  (simp only [shr32, mask32 a ha hA, mask32 b hb hB, mask32w]; rw [mul_halves a b ha hA hb hB, wrap_u])
/-- a number of 128 digits -/
def wideV (p : Int) : Value := .agg #[.int .u64 (p / 18446744073709551616), .int .u64 (p % 18446744073709551616)]
theorem fix_Times (a b : Int) (ha : 0 ≤ a) (hA : a ≤ 9223372036854775807) (hb : 0 ≤ b) (hB : b ≤ 9223372036854775807) (h : Heap) :
    DetFn Try.prog 45 [.int .i64 a, .int .i64 b] h fun v h' => v = .tuple #[wideV (a * b), .bool true] ∧ h' = h := by
  refine DetFn.bare (by kernel_rfl) (by kernel_rfl) ?_ h
  refine Det.enter Try.func45 (by kernel_rfl) (of_decide_eq_true (by kernel_rfl)) ?_
  refine Det.seqA (by kernel_rfl) ?_
  refine Det.opsA (by kernel_rfl) hX ?_
  refine OD.run 2 (by kernel_rfl) ?_
  refine OD.done (of_decide_eq_true (by kernel_rfl)) ?_
  refine then_n (by kernel_rfl) ?_
  refine Det.seqA (by kernel_rfl) ?_
  refine Det.seqA (by kernel_rfl) ?_
  refine Det.opsA (by kernel_rfl) hX ?_
  refine OD.run 1 (by kernel_rfl) ?_
  refine OD.as (Value.bool (decide (a < 0))) (Value.bool false) (by kernel_rfl) (of_decide_eq_true (by kernel_rfl)) (by kernel_rfl) (congrArg Value.bool (decide_eq_false (by omega))) ?_
  refine OD.run 2 (by kernel_rfl) ?_
  refine OD.as (Value.bool (decide (b < 0))) (Value.bool false) (by kernel_rfl) (of_decide_eq_true (by kernel_rfl)) (by kernel_rfl) (congrArg Value.bool (decide_eq_false (by omega))) ?_
  refine OD.run 1 (by kernel_rfl) ?_
  refine OD.done (of_decide_eq_true (by kernel_rfl)) ?_
  refine then_n (by kernel_rfl) ?_
  refine Det.condF (by kernel_rfl) (false) (by kernel_rfl) rfl ?_
  refine Det.skipA (by kernel_rfl) ?_
  refine then_n (by kernel_rfl) ?_
  refine Det.seqA (by kernel_rfl) ?_
  refine Det.opsA (by kernel_rfl) hX ?_
  refine OD.run 1 (by kernel_rfl) ?_
  refine OD.as (Value.int IntKind.u64 (IntKind.wrap IntKind.u64 a)) (Value.int IntKind.u64 a) (by kernel_rfl) (of_decide_eq_true (by kernel_rfl)) (by kernel_rfl) (congrArg _ (by (rw [wrapU64]; omega))) ?_
  refine OD.run 1 (by kernel_rfl) ?_
  refine OD.as (Value.int IntKind.u64 (IntKind.wrap IntKind.u64 b)) (Value.int IntKind.u64 b) (by kernel_rfl) (of_decide_eq_true (by kernel_rfl)) (by kernel_rfl) (congrArg _ (by (rw [wrapU64]; omega))) ?_
  refine OD.callEq 49 ([Value.int IntKind.u64 a, Value.int IntKind.u64 b]) (bits_Mul64 _ _ (by omega) (by omega) (by omega) (by omega) _) (by kernel_rfl) (of_decide_eq_true (by kernel_rfl)) (by kernel_rfl) (by kernel_rfl) (by kernel_rfl) ?_
  refine OD.run 5 (by kernel_rfl) ?_
  refine OD.done (of_decide_eq_true (by kernel_rfl)) ?_
  refine then_n (by kernel_rfl) ?_
  refine Det.seqA (by kernel_rfl) ?_
  refine Det.opsA (by kernel_rfl) hX ?_
  refine OD.run 5 (by kernel_rfl) ?_
  refine OD.done (of_decide_eq_true (by kernel_rfl)) ?_
  refine then_n (by kernel_rfl) ?_
  refine Det.retA (by kernel_rfl) ?_
  refine fin_r (Value.tuple #[Value.agg #[Value.int IntKind.u64 (a * b / 18446744073709551616), Value.int IntKind.u64 (a * b % 18446744073709551616)], Value.bool true]) (by kernel_rfl) (by kernel_rfl) ?_
  rfl
theorem fix_Times_no (a b : Int) (hn : a < 0 ∨ b < 0) (h : Heap) :
    DetFn Try.prog 45 [.int .i64 a, .int .i64 b] h fun v h' => v = .tuple #[wideV 0, .bool false] ∧ h' = h := by
  refine DetFn.bare (by kernel_rfl) (by kernel_rfl) ?_ h
  refine Det.enter Try.func45 (by kernel_rfl) (of_decide_eq_true (by kernel_rfl)) ?_
  by_cases h1 : a < 0
  · skip
    refine Det.seqA (by kernel_rfl) ?_
    refine Det.opsA (by kernel_rfl) hX ?_
    refine OD.run 2 (by kernel_rfl) ?_
    refine OD.done (of_decide_eq_true (by kernel_rfl)) ?_
    refine then_n (by kernel_rfl) ?_
    refine Det.seqA (by kernel_rfl) ?_
    refine Det.seqA (by kernel_rfl) ?_
    refine Det.opsA (by kernel_rfl) hX ?_
    refine OD.run 1 (by kernel_rfl) ?_
    refine OD.as (Value.bool (decide (a < 0))) (Value.bool true) (by kernel_rfl) (of_decide_eq_true (by kernel_rfl)) (by kernel_rfl) (congrArg Value.bool (decide_eq_true (by exact h1))) ?_
    refine OD.run 4 (by kernel_rfl) ?_
    refine OD.done (of_decide_eq_true (by kernel_rfl)) ?_
    refine then_n (by kernel_rfl) ?_
    refine Det.condT (by kernel_rfl) (true) (by kernel_rfl) rfl ?_
    refine Det.seqA (by kernel_rfl) ?_
    refine Det.opsA (by kernel_rfl) hX ?_
    refine OD.run 3 (by kernel_rfl) ?_
    refine OD.done (of_decide_eq_true (by kernel_rfl)) ?_
    refine then_n (by kernel_rfl) ?_
    refine Det.retA (by kernel_rfl) ?_
    refine then_r (by kernel_rfl) ?_
    refine fin_r (Value.tuple #[Value.agg #[Value.int IntKind.u64 0, Value.int IntKind.u64 0], Value.bool false]) (by kernel_rfl) (by kernel_rfl) ?_
    rfl
  · skip
    refine Det.seqA (by kernel_rfl) ?_
    refine Det.opsA (by kernel_rfl) hX ?_
    refine OD.run 2 (by kernel_rfl) ?_
    refine OD.done (of_decide_eq_true (by kernel_rfl)) ?_
    refine then_n (by kernel_rfl) ?_
    refine Det.seqA (by kernel_rfl) ?_
    refine Det.seqA (by kernel_rfl) ?_
    refine Det.opsA (by kernel_rfl) hX ?_
    refine OD.run 1 (by kernel_rfl) ?_
    refine OD.as (Value.bool (decide (a < 0))) (Value.bool false) (by kernel_rfl) (of_decide_eq_true (by kernel_rfl)) (by kernel_rfl) (congrArg Value.bool (decide_eq_false (by exact h1))) ?_
    refine OD.run 2 (by kernel_rfl) ?_
    refine OD.as (Value.bool (decide (b < 0))) (Value.bool true) (by kernel_rfl) (of_decide_eq_true (by kernel_rfl)) (by kernel_rfl) (congrArg Value.bool (decide_eq_true (by omega))) ?_
    refine OD.run 1 (by kernel_rfl) ?_
    refine OD.done (of_decide_eq_true (by kernel_rfl)) ?_
    refine then_n (by kernel_rfl) ?_
    refine Det.condT (by kernel_rfl) (true) (by kernel_rfl) rfl ?_
    refine Det.seqA (by kernel_rfl) ?_
    refine Det.opsA (by kernel_rfl) hX ?_
    refine OD.run 3 (by kernel_rfl) ?_
    refine OD.done (of_decide_eq_true (by kernel_rfl)) ?_
    refine then_n (by kernel_rfl) ?_
    refine Det.retA (by kernel_rfl) ?_
    refine then_r (by kernel_rfl) ?_
    refine fin_r (Value.tuple #[Value.agg #[Value.int IntKind.u64 0, Value.int IntKind.u64 0], Value.bool false]) (by kernel_rfl) (by kernel_rfl) ?_
    rfl
theorem fix_Narrow (p : Int) (h0 : 0 ≤ p) (h : Heap) : DetFn Try.prog 46 [wideV p] h fun v h' => v = keptV p ∧ h' = h := by
  refine DetFn.bare (by kernel_rfl) (by kernel_rfl) ?_ h
  refine Det.enter Try.func46 (by kernel_rfl) (of_decide_eq_true (by kernel_rfl)) ?_
  refine Det.seqA (by kernel_rfl) ?_
  refine Det.opsA (by kernel_rfl) hX ?_
  refine OD.run 3 (by kernel_rfl) ?_
  refine OD.done (of_decide_eq_true (by kernel_rfl)) ?_
  refine then_n (by kernel_rfl) ?_
  refine Det.seqA (by kernel_rfl) ?_
  refine Det.seqA (by kernel_rfl) ?_
  refine Det.opsA (by kernel_rfl) hX ?_
  refine OD.run 3 (by kernel_rfl) ?_
  by_cases c8 : 0 < p / 18446744073709551616
  · refine OD.as (Value.bool (decide (0 < p / 18446744073709551616))) (Value.bool true) (by kernel_rfl) (of_decide_eq_true (by kernel_rfl)) (by kernel_rfl) (congrArg Value.bool (decide_eq_true (by exact c8))) ?_
    refine OD.run 4 (by kernel_rfl) ?_
    refine OD.done (of_decide_eq_true (by kernel_rfl)) ?_
    refine then_n (by kernel_rfl) ?_
    refine Det.condT (by kernel_rfl) (true) (by kernel_rfl) rfl ?_
    refine Det.seqA (by kernel_rfl) ?_
    refine Det.opsA (by kernel_rfl) hX ?_
    refine OD.run 2 (by kernel_rfl) ?_
    refine OD.done (of_decide_eq_true (by kernel_rfl)) ?_
    refine then_n (by kernel_rfl) ?_
    refine Det.retA (by kernel_rfl) ?_
    refine then_r (by kernel_rfl) ?_
    refine fin_r (Value.tuple #[Value.int IntKind.i64 0, Value.bool false]) (by kernel_rfl) (by kernel_rfl) ?_
    first | exact keptV_no (by omega) | (rw [show p % 18446744073709551616 = p by omega]; exact keptV_in (by omega) (by omega))
  · refine OD.as (Value.bool (decide (0 < p / 18446744073709551616))) (Value.bool false) (by kernel_rfl) (of_decide_eq_true (by kernel_rfl)) (by kernel_rfl) (congrArg Value.bool (decide_eq_false (by exact c8))) ?_
    refine OD.run 4 (by kernel_rfl) ?_
    refine OD.done (of_decide_eq_true (by kernel_rfl)) ?_
    refine then_n (by kernel_rfl) ?_
    by_cases c12 : 9223372036854775807 < p % 18446744073709551616
    · refine Det.condT (by kernel_rfl) (decide (9223372036854775807 < p % 18446744073709551616)) (by kernel_rfl) (decide_eq_true (by exact c12)) ?_
      refine Det.seqA (by kernel_rfl) ?_
      refine Det.opsA (by kernel_rfl) hX ?_
      refine OD.run 2 (by kernel_rfl) ?_
      refine OD.done (of_decide_eq_true (by kernel_rfl)) ?_
      refine then_n (by kernel_rfl) ?_
      refine Det.retA (by kernel_rfl) ?_
      refine then_r (by kernel_rfl) ?_
      refine fin_r (Value.tuple #[Value.int IntKind.i64 0, Value.bool false]) (by kernel_rfl) (by kernel_rfl) ?_
      first | exact keptV_no (by omega) | (rw [show p % 18446744073709551616 = p by omega]; exact keptV_in (by omega) (by omega))
    · refine Det.condF (by kernel_rfl) (decide (9223372036854775807 < p % 18446744073709551616)) (by kernel_rfl) (decide_eq_false (by exact c12)) ?_
      refine Det.skipA (by kernel_rfl) ?_
      refine then_n (by kernel_rfl) ?_
      refine Det.seqA (by kernel_rfl) ?_
      refine Det.opsA (by kernel_rfl) hX ?_
      refine OD.run 2 (by kernel_rfl) ?_
      refine OD.as (Value.int IntKind.i64 (IntKind.wrap IntKind.i64 (p % 18446744073709551616))) (Value.int IntKind.i64 (p % 18446744073709551616)) (by kernel_rfl) (of_decide_eq_true (by kernel_rfl)) (by kernel_rfl) (congrArg _ (by (rw [IntKind.wrap_i64]; omega))) ?_
      refine OD.run 2 (by kernel_rfl) ?_
      refine OD.done (of_decide_eq_true (by kernel_rfl)) ?_
      refine then_n (by kernel_rfl) ?_
      refine Det.retA (by kernel_rfl) ?_
      refine fin_r (Value.tuple #[Value.int IntKind.i64 (p % 18446744073709551616), Value.bool true]) (by kernel_rfl) (by kernel_rfl) ?_
      first | exact keptV_no (by omega) | (rw [show p % 18446744073709551616 = p by omega]; exact keptV_in (by omega) (by omega))
theorem ref_Narrow (p : Int) (h0 : 0 ≤ p) (h : Heap) : DetFn Try.prog 39 [wideV p] h fun v h' => v = keptV p ∧ h' = h := by
  refine DetFn.bare (by kernel_rfl) (by kernel_rfl) ?_ h
  refine Det.enter Try.func39 (by kernel_rfl) (of_decide_eq_true (by kernel_rfl)) ?_
  refine Det.seqA (by kernel_rfl) ?_
  refine Det.opsA (by kernel_rfl) hX ?_
  refine OD.run 3 (by kernel_rfl) ?_
  refine OD.done (of_decide_eq_true (by kernel_rfl)) ?_
  refine then_n (by kernel_rfl) ?_
  refine Det.seqA (by kernel_rfl) ?_
  refine Det.seqA (by kernel_rfl) ?_
  refine Det.opsA (by kernel_rfl) hX ?_
  refine OD.run 3 (by kernel_rfl) ?_
  by_cases c8 : p / 18446744073709551616 = 0
  · refine OD.as (Value.bool (p / 18446744073709551616 != 0)) (Value.bool false) (by kernel_rfl) (of_decide_eq_true (by kernel_rfl)) (by kernel_rfl) (congrArg Value.bool (bne_eq_false_iff_eq.2 (by exact c8))) ?_
    refine OD.run 4 (by kernel_rfl) ?_
    refine OD.done (of_decide_eq_true (by kernel_rfl)) ?_
    refine then_n (by kernel_rfl) ?_
    by_cases c12 : 9223372036854775808 ≤ p % 18446744073709551616
    · refine Det.condT (by kernel_rfl) (decide (9223372036854775808 ≤ p % 18446744073709551616)) (by kernel_rfl) (decide_eq_true (by exact c12)) ?_
      refine Det.seqA (by kernel_rfl) ?_
      refine Det.opsA (by kernel_rfl) hX ?_
      refine OD.run 2 (by kernel_rfl) ?_
      refine OD.done (of_decide_eq_true (by kernel_rfl)) ?_
      refine then_n (by kernel_rfl) ?_
      refine Det.retA (by kernel_rfl) ?_
      refine then_r (by kernel_rfl) ?_
      refine fin_r (Value.tuple #[Value.int IntKind.i64 0, Value.bool false]) (by kernel_rfl) (by kernel_rfl) ?_
      first | exact keptV_no (by omega) | (rw [show p % 18446744073709551616 = p by omega]; exact keptV_in (by omega) (by omega))
    · refine Det.condF (by kernel_rfl) (decide (9223372036854775808 ≤ p % 18446744073709551616)) (by kernel_rfl) (decide_eq_false (by exact c12)) ?_
      refine Det.skipA (by kernel_rfl) ?_
      refine then_n (by kernel_rfl) ?_
      refine Det.seqA (by kernel_rfl) ?_
      refine Det.opsA (by kernel_rfl) hX ?_
      refine OD.run 2 (by kernel_rfl) ?_
      refine OD.as (Value.int IntKind.i64 (IntKind.wrap IntKind.i64 (p % 18446744073709551616))) (Value.int IntKind.i64 (p % 18446744073709551616)) (by kernel_rfl) (of_decide_eq_true (by kernel_rfl)) (by kernel_rfl) (congrArg _ (by (rw [IntKind.wrap_i64]; omega))) ?_
      refine OD.run 2 (by kernel_rfl) ?_
      refine OD.done (of_decide_eq_true (by kernel_rfl)) ?_
      refine then_n (by kernel_rfl) ?_
      refine Det.retA (by kernel_rfl) ?_
      refine fin_r (Value.tuple #[Value.int IntKind.i64 (p % 18446744073709551616), Value.bool true]) (by kernel_rfl) (by kernel_rfl) ?_
      first | exact keptV_no (by omega) | (rw [show p % 18446744073709551616 = p by omega]; exact keptV_in (by omega) (by omega))
  · refine OD.as (Value.bool (p / 18446744073709551616 != 0)) (Value.bool true) (by kernel_rfl) (of_decide_eq_true (by kernel_rfl)) (by kernel_rfl) (congrArg Value.bool (bne_iff_ne.2 (by exact c8))) ?_
    refine OD.run 4 (by kernel_rfl) ?_
    refine OD.done (of_decide_eq_true (by kernel_rfl)) ?_
    refine then_n (by kernel_rfl) ?_
    refine Det.condT (by kernel_rfl) (true) (by kernel_rfl) rfl ?_
    refine Det.seqA (by kernel_rfl) ?_
    refine Det.opsA (by kernel_rfl) hX ?_
    refine OD.run 2 (by kernel_rfl) ?_
    refine OD.done (of_decide_eq_true (by kernel_rfl)) ?_
    refine then_n (by kernel_rfl) ?_
    refine Det.retA (by kernel_rfl) ?_
    refine then_r (by kernel_rfl) ?_
    refine fin_r (Value.tuple #[Value.int IntKind.i64 0, Value.bool false]) (by kernel_rfl) (by kernel_rfl) ?_
    first | exact keptV_no (by omega) | (rw [show p % 18446744073709551616 = p by omega]; exact keptV_in (by omega) (by omega))
theorem wideV_eq {x y p : Int} (hx : x = p / 18446744073709551616) (hy : y = p % 18446744073709551616) : Value.tuple #[.agg #[.int .u64 x, .int .u64 y], .bool true] = .tuple #[wideV p, .bool true] := by rw [hx, hy]; rfl
theorem ref_Plus (p q : Int) (hp : 0 ≤ p) (hq : 0 ≤ q) (hs : p + q < 340282366920938463463374607431768211456) (h : Heap) :
    DetFn Try.prog 48 [wideV p, wideV q] h fun v h' => v = .tuple #[wideV (p + q), .bool true] ∧ h' = h := by
  refine DetFn.bare (by kernel_rfl) (by kernel_rfl) ?_ h
  refine Det.enter Try.func48 (by kernel_rfl) (of_decide_eq_true (by kernel_rfl)) ?_
  refine Det.seqA (by kernel_rfl) ?_
  refine Det.opsA (by kernel_rfl) hX ?_
  refine OD.run 4 (by kernel_rfl) ?_
  refine OD.done (of_decide_eq_true (by kernel_rfl)) ?_
  refine then_n (by kernel_rfl) ?_
  refine Det.seqA (by kernel_rfl) ?_
  refine Det.opsA (by kernel_rfl) hX ?_
  refine OD.run 6 (by kernel_rfl) ?_
  refine OD.done (of_decide_eq_true (by kernel_rfl)) ?_
  refine then_n (by kernel_rfl) ?_
  refine Det.seqA (by kernel_rfl) ?_
  refine Det.opsA (by kernel_rfl) hX ?_
  refine OD.run 1 (by kernel_rfl) ?_
  refine OD.done (of_decide_eq_true (by kernel_rfl)) ?_
  refine then_n (by kernel_rfl) ?_
  refine Det.seqA (by kernel_rfl) ?_
  refine Det.seqA (by kernel_rfl) ?_
  refine Det.opsA (by kernel_rfl) hX ?_
  refine OD.run 4 (by kernel_rfl) ?_
  refine OD.done (of_decide_eq_true (by kernel_rfl)) ?_
  refine then_n (by kernel_rfl) ?_
  by_cases c17 : IntKind.wrap IntKind.u64 (p % 18446744073709551616 + q % 18446744073709551616) < p % 18446744073709551616
  · refine Det.condT (by kernel_rfl) (decide (IntKind.wrap IntKind.u64 (p % 18446744073709551616 + q % 18446744073709551616) < p % 18446744073709551616)) (by kernel_rfl) (decide_eq_true (by exact c17)) ?_
    refine Det.opsA (by kernel_rfl) hX ?_
    refine OD.run 1 (by kernel_rfl) ?_
    refine OD.done (of_decide_eq_true (by kernel_rfl)) ?_
    refine then_n (by kernel_rfl) ?_
    refine Det.seqA (by kernel_rfl) ?_
    refine Det.opsA (by kernel_rfl) hX ?_
    refine OD.run 4 (by kernel_rfl) ?_
    refine OD.as (Value.int IntKind.u64 (IntKind.wrap IntKind.u64 (p / 18446744073709551616 + q / 18446744073709551616))) (Value.int IntKind.u64 (p / 18446744073709551616 + q / 18446744073709551616)) (by kernel_rfl) (of_decide_eq_true (by kernel_rfl)) (by kernel_rfl) (congrArg _ (by (rw [wrapU64]; omega))) ?_
    refine OD.run 1 (by kernel_rfl) ?_
    refine OD.done (of_decide_eq_true (by kernel_rfl)) ?_
    refine then_n (by kernel_rfl) ?_
    refine Det.seqA (by kernel_rfl) ?_
    refine Det.opsA (by kernel_rfl) hX ?_
    refine OD.run 3 (by kernel_rfl) ?_
    refine OD.as (Value.bool (decide (p / 18446744073709551616 + q / 18446744073709551616 < p / 18446744073709551616))) (Value.bool false) (by kernel_rfl) (of_decide_eq_true (by kernel_rfl)) (by kernel_rfl) (congrArg Value.bool (decide_eq_false (by (simp only [wrap_u] at *; omega)))) ?_
    refine OD.run 1 (by kernel_rfl) ?_
    refine OD.done (of_decide_eq_true (by kernel_rfl)) ?_
    refine then_n (by kernel_rfl) ?_
    refine Det.seqA (by kernel_rfl) ?_
    refine Det.opsA (by kernel_rfl) hX ?_
    refine OD.run 4 (by kernel_rfl) ?_
    refine OD.done (of_decide_eq_true (by kernel_rfl)) ?_
    refine then_n (by kernel_rfl) ?_
    refine Det.seqA (by kernel_rfl) ?_
    refine Det.seqA (by kernel_rfl) ?_
    refine Det.opsA (by kernel_rfl) hX ?_
    refine OD.run 4 (by kernel_rfl) ?_
    refine OD.as (Value.bool (decide (IntKind.wrap IntKind.u64 (p / 18446744073709551616 + q / 18446744073709551616 + 1) < p / 18446744073709551616 + q / 18446744073709551616))) (Value.bool false) (by kernel_rfl) (of_decide_eq_true (by kernel_rfl)) (by kernel_rfl) (congrArg Value.bool (decide_eq_false (by (simp only [wrap_u] at *; omega)))) ?_
    refine OD.run 1 (by kernel_rfl) ?_
    refine OD.done (of_decide_eq_true (by kernel_rfl)) ?_
    refine then_n (by kernel_rfl) ?_
    refine Det.condF (by kernel_rfl) (false) (by kernel_rfl) rfl ?_
    refine Det.skipA (by kernel_rfl) ?_
    refine then_n (by kernel_rfl) ?_
    refine Det.seqA (by kernel_rfl) ?_
    refine Det.opsA (by kernel_rfl) hX ?_
    refine OD.run 5 (by kernel_rfl) ?_
    refine OD.done (of_decide_eq_true (by kernel_rfl)) ?_
    refine then_n (by kernel_rfl) ?_
    refine Det.retA (by kernel_rfl) ?_
    refine fin_r (Value.tuple #[Value.agg #[Value.int IntKind.u64 (IntKind.wrap IntKind.u64 (p / 18446744073709551616 + q / 18446744073709551616 + 1)), Value.int IntKind.u64 (IntKind.wrap IntKind.u64 (p % 18446744073709551616 + q % 18446744073709551616))], Value.bool true]) (by kernel_rfl) (by kernel_rfl) ?_
    first | exact wideV_eq (by simp only [wrap_u] at *; omega) (by simp only [wrap_u] at *; omega) | (exfalso; simp only [wrap_u] at *; omega)
  · refine Det.condF (by kernel_rfl) (decide (IntKind.wrap IntKind.u64 (p % 18446744073709551616 + q % 18446744073709551616) < p % 18446744073709551616)) (by kernel_rfl) (decide_eq_false (by exact c17)) ?_
    refine Det.skipA (by kernel_rfl) ?_
    refine then_n (by kernel_rfl) ?_
    refine Det.seqA (by kernel_rfl) ?_
    refine Det.opsA (by kernel_rfl) hX ?_
    refine OD.run 4 (by kernel_rfl) ?_
    refine OD.as (Value.int IntKind.u64 (IntKind.wrap IntKind.u64 (p / 18446744073709551616 + q / 18446744073709551616))) (Value.int IntKind.u64 (p / 18446744073709551616 + q / 18446744073709551616)) (by kernel_rfl) (of_decide_eq_true (by kernel_rfl)) (by kernel_rfl) (congrArg _ (by (rw [wrapU64]; omega))) ?_
    refine OD.run 1 (by kernel_rfl) ?_
    refine OD.done (of_decide_eq_true (by kernel_rfl)) ?_
    refine then_n (by kernel_rfl) ?_
    refine Det.seqA (by kernel_rfl) ?_
    refine Det.opsA (by kernel_rfl) hX ?_
    refine OD.run 3 (by kernel_rfl) ?_
    refine OD.as (Value.bool (decide (p / 18446744073709551616 + q / 18446744073709551616 < p / 18446744073709551616))) (Value.bool false) (by kernel_rfl) (of_decide_eq_true (by kernel_rfl)) (by kernel_rfl) (congrArg Value.bool (decide_eq_false (by (simp only [wrap_u] at *; omega)))) ?_
    refine OD.run 1 (by kernel_rfl) ?_
    refine OD.done (of_decide_eq_true (by kernel_rfl)) ?_
    refine then_n (by kernel_rfl) ?_
    refine Det.seqA (by kernel_rfl) ?_
    refine Det.opsA (by kernel_rfl) hX ?_
    refine OD.run 2 (by kernel_rfl) ?_
    refine OD.as (Value.int IntKind.u64 (IntKind.wrap IntKind.u64 (p / 18446744073709551616 + q / 18446744073709551616 + 0))) (Value.int IntKind.u64 (p / 18446744073709551616 + q / 18446744073709551616 + 0)) (by kernel_rfl) (of_decide_eq_true (by kernel_rfl)) (by kernel_rfl) (congrArg _ (by (rw [wrapU64]; omega))) ?_
    refine OD.run 1 (by kernel_rfl) ?_
    refine OD.done (of_decide_eq_true (by kernel_rfl)) ?_
    refine then_n (by kernel_rfl) ?_
    refine Det.seqA (by kernel_rfl) ?_
    refine Det.seqA (by kernel_rfl) ?_
    refine Det.opsA (by kernel_rfl) hX ?_
    refine OD.run 4 (by kernel_rfl) ?_
    refine OD.as (Value.bool (decide (p / 18446744073709551616 + q / 18446744073709551616 + 0 < p / 18446744073709551616 + q / 18446744073709551616))) (Value.bool false) (by kernel_rfl) (of_decide_eq_true (by kernel_rfl)) (by kernel_rfl) (congrArg Value.bool (decide_eq_false (by (simp only [wrap_u] at *; omega)))) ?_
    refine OD.run 1 (by kernel_rfl) ?_
    refine OD.done (of_decide_eq_true (by kernel_rfl)) ?_
    refine then_n (by kernel_rfl) ?_
    refine Det.condF (by kernel_rfl) (false) (by kernel_rfl) rfl ?_
    refine Det.skipA (by kernel_rfl) ?_
    refine then_n (by kernel_rfl) ?_
    refine Det.seqA (by kernel_rfl) ?_
    refine Det.opsA (by kernel_rfl) hX ?_
    refine OD.run 5 (by kernel_rfl) ?_
    refine OD.done (of_decide_eq_true (by kernel_rfl)) ?_
    refine then_n (by kernel_rfl) ?_
    refine Det.retA (by kernel_rfl) ?_
    refine fin_r (Value.tuple #[Value.agg #[Value.int IntKind.u64 (p / 18446744073709551616 + q / 18446744073709551616 + 0), Value.int IntKind.u64 (IntKind.wrap IntKind.u64 (p % 18446744073709551616 + q % 18446744073709551616))], Value.bool true]) (by kernel_rfl) (by kernel_rfl) ?_
    first | exact wideV_eq (by simp only [wrap_u] at *; omega) (by simp only [wrap_u] at *; omega) | (exfalso; simp only [wrap_u] at *; omega)
theorem ref_Plus_no (p q : Int) (hp : 0 ≤ p) (hP : p < 340282366920938463463374607431768211456) (hq : 0 ≤ q) (hQ : q < 340282366920938463463374607431768211456) (hs : 340282366920938463463374607431768211456 ≤ p + q) (h : Heap) :
    DetFn Try.prog 48 [wideV p, wideV q] h fun v h' => v = .tuple #[wideV 0, .bool false] ∧ h' = h := by
  refine DetFn.bare (by kernel_rfl) (by kernel_rfl) ?_ h
  refine Det.enter Try.func48 (by kernel_rfl) (of_decide_eq_true (by kernel_rfl)) ?_
  refine Det.seqA (by kernel_rfl) ?_
  refine Det.opsA (by kernel_rfl) hX ?_
  refine OD.run 4 (by kernel_rfl) ?_
  refine OD.done (of_decide_eq_true (by kernel_rfl)) ?_
  refine then_n (by kernel_rfl) ?_
  refine Det.seqA (by kernel_rfl) ?_
  refine Det.opsA (by kernel_rfl) hX ?_
  refine OD.run 6 (by kernel_rfl) ?_
  refine OD.done (of_decide_eq_true (by kernel_rfl)) ?_
  refine then_n (by kernel_rfl) ?_
  refine Det.seqA (by kernel_rfl) ?_
  refine Det.opsA (by kernel_rfl) hX ?_
  refine OD.run 1 (by kernel_rfl) ?_
  refine OD.done (of_decide_eq_true (by kernel_rfl)) ?_
  refine then_n (by kernel_rfl) ?_
  refine Det.seqA (by kernel_rfl) ?_
  refine Det.seqA (by kernel_rfl) ?_
  refine Det.opsA (by kernel_rfl) hX ?_
  refine OD.run 4 (by kernel_rfl) ?_
  refine OD.done (of_decide_eq_true (by kernel_rfl)) ?_
  refine then_n (by kernel_rfl) ?_
  by_cases c17 : IntKind.wrap IntKind.u64 (p % 18446744073709551616 + q % 18446744073709551616) < p % 18446744073709551616
  · refine Det.condT (by kernel_rfl) (decide (IntKind.wrap IntKind.u64 (p % 18446744073709551616 + q % 18446744073709551616) < p % 18446744073709551616)) (by kernel_rfl) (decide_eq_true (by exact c17)) ?_
    refine Det.opsA (by kernel_rfl) hX ?_
    refine OD.run 1 (by kernel_rfl) ?_
    refine OD.done (of_decide_eq_true (by kernel_rfl)) ?_
    refine then_n (by kernel_rfl) ?_
    refine Det.seqA (by kernel_rfl) ?_
    refine Det.opsA (by kernel_rfl) hX ?_
    refine OD.run 6 (by kernel_rfl) ?_
    refine OD.done (of_decide_eq_true (by kernel_rfl)) ?_
    refine then_n (by kernel_rfl) ?_
    refine Det.seqA (by kernel_rfl) ?_
    refine Det.opsA (by kernel_rfl) hX ?_
    refine OD.run 5 (by kernel_rfl) ?_
    refine OD.done (of_decide_eq_true (by kernel_rfl)) ?_
    refine then_n (by kernel_rfl) ?_
    refine Det.seqA (by kernel_rfl) ?_
    refine Det.opsA (by kernel_rfl) hX ?_
    refine OD.run 4 (by kernel_rfl) ?_
    refine OD.done (of_decide_eq_true (by kernel_rfl)) ?_
    refine then_n (by kernel_rfl) ?_
    refine Det.seqA (by kernel_rfl) ?_
    refine Det.seqA (by kernel_rfl) ?_
    refine Det.opsA (by kernel_rfl) hX ?_
    refine OD.run 1 (by kernel_rfl) ?_
    by_cases c38 : IntKind.wrap IntKind.u64 (p / 18446744073709551616 + q / 18446744073709551616) < p / 18446744073709551616
    · refine OD.as (Value.bool (decide (IntKind.wrap IntKind.u64 (p / 18446744073709551616 + q / 18446744073709551616) < p / 18446744073709551616))) (Value.bool true) (by kernel_rfl) (of_decide_eq_true (by kernel_rfl)) (by kernel_rfl) (congrArg Value.bool (decide_eq_true (by exact c38))) ?_
      refine OD.run 4 (by kernel_rfl) ?_
      refine OD.done (of_decide_eq_true (by kernel_rfl)) ?_
      refine then_n (by kernel_rfl) ?_
      refine Det.condT (by kernel_rfl) (true) (by kernel_rfl) rfl ?_
      refine Det.seqA (by kernel_rfl) ?_
      refine Det.opsA (by kernel_rfl) hX ?_
      refine OD.run 3 (by kernel_rfl) ?_
      refine OD.done (of_decide_eq_true (by kernel_rfl)) ?_
      refine then_n (by kernel_rfl) ?_
      refine Det.retA (by kernel_rfl) ?_
      refine then_r (by kernel_rfl) ?_
      refine fin_r (Value.tuple #[Value.agg #[Value.int IntKind.u64 0, Value.int IntKind.u64 0], Value.bool false]) (by kernel_rfl) (by kernel_rfl) ?_
      first | rfl | (exfalso; simp only [wrap_u] at *; omega)
    · refine OD.as (Value.bool (decide (IntKind.wrap IntKind.u64 (p / 18446744073709551616 + q / 18446744073709551616) < p / 18446744073709551616))) (Value.bool false) (by kernel_rfl) (of_decide_eq_true (by kernel_rfl)) (by kernel_rfl) (congrArg Value.bool (decide_eq_false (by exact c38))) ?_
      refine OD.run 2 (by kernel_rfl) ?_
      refine OD.as (Value.bool (decide (IntKind.wrap IntKind.u64 (IntKind.wrap IntKind.u64 (p / 18446744073709551616 + q / 18446744073709551616) + 1) < IntKind.wrap IntKind.u64 (p / 18446744073709551616 + q / 18446744073709551616)))) (Value.bool true) (by kernel_rfl) (of_decide_eq_true (by kernel_rfl)) (by kernel_rfl) (congrArg Value.bool (decide_eq_true (by (simp only [wrap_u] at *; omega)))) ?_
      refine OD.run 1 (by kernel_rfl) ?_
      refine OD.done (of_decide_eq_true (by kernel_rfl)) ?_
      refine then_n (by kernel_rfl) ?_
      refine Det.condT (by kernel_rfl) (true) (by kernel_rfl) rfl ?_
      refine Det.seqA (by kernel_rfl) ?_
      refine Det.opsA (by kernel_rfl) hX ?_
      refine OD.run 3 (by kernel_rfl) ?_
      refine OD.done (of_decide_eq_true (by kernel_rfl)) ?_
      refine then_n (by kernel_rfl) ?_
      refine Det.retA (by kernel_rfl) ?_
      refine then_r (by kernel_rfl) ?_
      refine fin_r (Value.tuple #[Value.agg #[Value.int IntKind.u64 0, Value.int IntKind.u64 0], Value.bool false]) (by kernel_rfl) (by kernel_rfl) ?_
      first | rfl | (exfalso; simp only [wrap_u] at *; omega)
  · refine Det.condF (by kernel_rfl) (decide (IntKind.wrap IntKind.u64 (p % 18446744073709551616 + q % 18446744073709551616) < p % 18446744073709551616)) (by kernel_rfl) (decide_eq_false (by exact c17)) ?_
    refine Det.skipA (by kernel_rfl) ?_
    refine then_n (by kernel_rfl) ?_
    refine Det.seqA (by kernel_rfl) ?_
    refine Det.opsA (by kernel_rfl) hX ?_
    refine OD.run 6 (by kernel_rfl) ?_
    refine OD.done (of_decide_eq_true (by kernel_rfl)) ?_
    refine then_n (by kernel_rfl) ?_
    refine Det.seqA (by kernel_rfl) ?_
    refine Det.opsA (by kernel_rfl) hX ?_
    refine OD.run 3 (by kernel_rfl) ?_
    refine OD.as (Value.bool (decide (IntKind.wrap IntKind.u64 (p / 18446744073709551616 + q / 18446744073709551616) < p / 18446744073709551616))) (Value.bool true) (by kernel_rfl) (of_decide_eq_true (by kernel_rfl)) (by kernel_rfl) (congrArg Value.bool (decide_eq_true (by (simp only [wrap_u] at *; omega)))) ?_
    refine OD.run 1 (by kernel_rfl) ?_
    refine OD.done (of_decide_eq_true (by kernel_rfl)) ?_
    refine then_n (by kernel_rfl) ?_
    refine Det.seqA (by kernel_rfl) ?_
    refine Det.opsA (by kernel_rfl) hX ?_
    refine OD.run 4 (by kernel_rfl) ?_
    refine OD.done (of_decide_eq_true (by kernel_rfl)) ?_
    refine then_n (by kernel_rfl) ?_
    refine Det.seqA (by kernel_rfl) ?_
    refine Det.seqA (by kernel_rfl) ?_
    refine Det.opsA (by kernel_rfl) hX ?_
    refine OD.run 6 (by kernel_rfl) ?_
    refine OD.done (of_decide_eq_true (by kernel_rfl)) ?_
    refine then_n (by kernel_rfl) ?_
    refine Det.condT (by kernel_rfl) (true) (by kernel_rfl) rfl ?_
    refine Det.seqA (by kernel_rfl) ?_
    refine Det.opsA (by kernel_rfl) hX ?_
    refine OD.run 3 (by kernel_rfl) ?_
    refine OD.done (of_decide_eq_true (by kernel_rfl)) ?_
    refine then_n (by kernel_rfl) ?_
    refine Det.retA (by kernel_rfl) ?_
    refine then_r (by kernel_rfl) ?_
    refine fin_r (Value.tuple #[Value.agg #[Value.int IntKind.u64 0, Value.int IntKind.u64 0], Value.bool false]) (by kernel_rfl) (by kernel_rfl) ?_
    first | rfl | (exfalso; simp only [wrap_u] at *; omega)
theorem ref_Times_no (a b : Int) (hn : a < 0 ∨ b < 0) (h : Heap) :
    DetFn Try.prog 38 [.int .i64 a, .int .i64 b] h fun v h' => v = .tuple #[wideV 0, .bool false] ∧ h' = h := by
  refine DetFn.bare (by kernel_rfl) (by kernel_rfl) ?_ h
  refine Det.enter Try.func38 (by kernel_rfl) (of_decide_eq_true (by kernel_rfl)) ?_
  by_cases h1 : a < 0
  · skip
    refine Det.seqA (by kernel_rfl) ?_
    refine Det.opsA (by kernel_rfl) hX ?_
    refine OD.run 2 (by kernel_rfl) ?_
    refine OD.done (of_decide_eq_true (by kernel_rfl)) ?_
    refine then_n (by kernel_rfl) ?_
    refine Det.seqA (by kernel_rfl) ?_
    refine Det.seqA (by kernel_rfl) ?_
    refine Det.opsA (by kernel_rfl) hX ?_
    refine OD.run 1 (by kernel_rfl) ?_
    refine OD.as (Value.bool (decide (a < 0))) (Value.bool true) (by kernel_rfl) (of_decide_eq_true (by kernel_rfl)) (by kernel_rfl) (congrArg Value.bool (decide_eq_true (by exact h1))) ?_
    refine OD.run 4 (by kernel_rfl) ?_
    refine OD.done (of_decide_eq_true (by kernel_rfl)) ?_
    refine then_n (by kernel_rfl) ?_
    refine Det.condT (by kernel_rfl) (true) (by kernel_rfl) rfl ?_
    refine Det.seqA (by kernel_rfl) ?_
    refine Det.opsA (by kernel_rfl) hX ?_
    refine OD.run 3 (by kernel_rfl) ?_
    refine OD.done (of_decide_eq_true (by kernel_rfl)) ?_
    refine then_n (by kernel_rfl) ?_
    refine Det.retA (by kernel_rfl) ?_
    refine then_r (by kernel_rfl) ?_
    refine fin_r (Value.tuple #[Value.agg #[Value.int IntKind.u64 0, Value.int IntKind.u64 0], Value.bool false]) (by kernel_rfl) (by kernel_rfl) ?_
    rfl
  · skip
    refine Det.seqA (by kernel_rfl) ?_
    refine Det.opsA (by kernel_rfl) hX ?_
    refine OD.run 2 (by kernel_rfl) ?_
    refine OD.done (of_decide_eq_true (by kernel_rfl)) ?_
    refine then_n (by kernel_rfl) ?_
    refine Det.seqA (by kernel_rfl) ?_
    refine Det.seqA (by kernel_rfl) ?_
    refine Det.opsA (by kernel_rfl) hX ?_
    refine OD.run 1 (by kernel_rfl) ?_
    refine OD.as (Value.bool (decide (a < 0))) (Value.bool false) (by kernel_rfl) (of_decide_eq_true (by kernel_rfl)) (by kernel_rfl) (congrArg Value.bool (decide_eq_false (by exact h1))) ?_
    refine OD.run 2 (by kernel_rfl) ?_
    refine OD.as (Value.bool (decide (b < 0))) (Value.bool true) (by kernel_rfl) (of_decide_eq_true (by kernel_rfl)) (by kernel_rfl) (congrArg Value.bool (decide_eq_true (by omega))) ?_
    refine OD.run 1 (by kernel_rfl) ?_
    refine OD.done (of_decide_eq_true (by kernel_rfl)) ?_
    refine then_n (by kernel_rfl) ?_
    refine Det.condT (by kernel_rfl) (true) (by kernel_rfl) rfl ?_
    refine Det.seqA (by kernel_rfl) ?_
    refine Det.opsA (by kernel_rfl) hX ?_
    refine OD.run 3 (by kernel_rfl) ?_
    refine OD.done (of_decide_eq_true (by kernel_rfl)) ?_
    refine then_n (by kernel_rfl) ?_
    refine Det.retA (by kernel_rfl) ?_
    refine then_r (by kernel_rfl) ?_
    refine fin_r (Value.tuple #[Value.agg #[Value.int IntKind.u64 0, Value.int IntKind.u64 0], Value.bool false]) (by kernel_rfl) (by kernel_rfl) ?_
    rfl
theorem ref_Plus_lo (p b : Int) (hp : 0 ≤ p) (hb : 0 ≤ b) (hB : b < 18446744073709551616) (hs : p + b < 340282366920938463463374607431768211456) (h : Heap) :
    DetFn Try.prog 48 [wideV p, .agg #[.int .u64 0, .int .u64 b]] h fun v h' => v = .tuple #[wideV (p + b), .bool true] ∧ h' = h := by
  have e : Value.agg #[.int .u64 0, .int .u64 b] = wideV b := by unfold wideV; rw [show b / 18446744073709551616 = 0 by omega, show b % 18446744073709551616 = b by omega]
  rw [e]
  exact ref_Plus p b hp hb hs h
def heapT (p : Int) : Heap := { next := 2, tree := (Tree.leaf.put 0 (some (.row [.int .u64 0, .int .u64 0] 70))).put 1 (some (.row [.int .u64 (p / 18446744073709551616), .int .u64 (p % 18446744073709551616)] 70)) }
theorem ref_Times (a b : Int) (ha : 0 ≤ a) (hA : a ≤ 9223372036854775807) (hb : 0 ≤ b) (hB : b ≤ 9223372036854775807) (h : Heap) :
    DetFn Try.prog 38 [.int .i64 a, .int .i64 b] h fun v h' => v = .tuple #[wideV (a * b), .bool true] ∧ h' = h := by
  refine DetFn.bare (by kernel_rfl) (by kernel_rfl) ?_ h
  refine Det.enter Try.func38 (by kernel_rfl) (of_decide_eq_true (by kernel_rfl)) ?_
  refine Det.seqA (by kernel_rfl) ?_
  refine Det.opsA (by kernel_rfl) hX ?_
  refine OD.run 2 (by kernel_rfl) ?_
  refine OD.done (of_decide_eq_true (by kernel_rfl)) ?_
  refine then_n (by kernel_rfl) ?_
  refine Det.seqA (by kernel_rfl) ?_
  refine Det.seqA (by kernel_rfl) ?_
  refine Det.opsA (by kernel_rfl) hX ?_
  refine OD.run 1 (by kernel_rfl) ?_
  refine OD.as (Value.bool (decide (a < 0))) (Value.bool false) (by kernel_rfl) (of_decide_eq_true (by kernel_rfl)) (by kernel_rfl) (congrArg Value.bool (decide_eq_false (by omega))) ?_
  refine OD.run 2 (by kernel_rfl) ?_
  refine OD.as (Value.bool (decide (b < 0))) (Value.bool false) (by kernel_rfl) (of_decide_eq_true (by kernel_rfl)) (by kernel_rfl) (congrArg Value.bool (decide_eq_false (by omega))) ?_
  refine OD.run 1 (by kernel_rfl) ?_
  refine OD.done (of_decide_eq_true (by kernel_rfl)) ?_
  refine then_n (by kernel_rfl) ?_
  refine Det.condF (by kernel_rfl) (false) (by kernel_rfl) rfl ?_
  refine Det.skipA (by kernel_rfl) ?_
  refine then_n (by kernel_rfl) ?_
  refine Det.seqA (by kernel_rfl) ?_
  refine Det.opsA (by kernel_rfl) hX ?_
  refine OD.run 1 (by kernel_rfl) ?_
  refine OD.done (of_decide_eq_true (by kernel_rfl)) ?_
  refine then_n (by kernel_rfl) ?_
  refine Det.seqA (by kernel_rfl) ?_
  refine Det.seqA (by kernel_rfl) ?_
  refine Det.opsA (by kernel_rfl) hX ?_
  refine OD.run 1 (by kernel_rfl) ?_
  refine OD.done (of_decide_eq_true (by kernel_rfl)) ?_
  refine then_n (by kernel_rfl) ?_
  refine Det.blockA (by kernel_rfl) ?_
  refine Det.loopA (by kernel_rfl) (fun j : Nat => j) (fun j => slots [(0, .int .i64 a), (1, .int .i64 b), (4, .pointer (some ⟨0, 0, none⟩)), (6, .pointer (some ⟨1, 0, none⟩)), (7, .int .i64 ((j : Int) - 1))]) (fun j h => j ≤ 63 ∧ h = heapT (upto a j * b)) 63 ?_ ?_ ?_
  · exact slots_sub (by kernel_rfl)
  · exact ⟨by omega, by rw [upto_63 ha hA, Int.zero_mul]; kernel_rfl⟩
  (rintro j h ⟨hj, rfl⟩; have hp := prod_bound j ha hA hb hB)
  refine Det.seqA (by kernel_rfl) ?_
  refine Det.seqA (by kernel_rfl) ?_
  refine Det.opsA (by kernel_rfl) hX ?_
  refine OD.run 2 (by kernel_rfl) ?_
  refine OD.done (of_decide_eq_true (by kernel_rfl)) ?_
  refine then_n (by kernel_rfl) ?_
  by_cases c30 : 0 ≤ (↑j : Int) - 1
  · refine Det.condT (by kernel_rfl) (decide (0 ≤ (↑j : Int) - 1)) (by kernel_rfl) (decide_eq_true (by exact c30)) ?_
    refine Det.skipA (by kernel_rfl) ?_
    refine then_n (by kernel_rfl) ?_
    refine Det.seqA (by kernel_rfl) ?_
    refine Det.blockA (by kernel_rfl) ?_
    refine Det.seqA (by kernel_rfl) ?_
    refine Det.opsA (by kernel_rfl) hX ?_
    refine OD.run 2 (by kernel_rfl) ?_
    refine OD.callEq 48 ([Value.agg #[Value.int IntKind.u64 (upto a j * b / 18446744073709551616), Value.int IntKind.u64 (upto a j * b % 18446744073709551616)], Value.agg #[Value.int IntKind.u64 (upto a j * b / 18446744073709551616), Value.int IntKind.u64 (upto a j * b % 18446744073709551616)]]) (ref_Plus _ _ (by omega) (by omega) (by omega) _) (by kernel_rfl) (of_decide_eq_true (by kernel_rfl)) (by kernel_rfl) (by kernel_rfl) (by kernel_rfl) ?_
    refine OD.run 4 (by kernel_rfl) ?_
    refine OD.done (of_decide_eq_true (by kernel_rfl)) ?_
    refine then_n (by kernel_rfl) ?_
    refine Det.seqA (by kernel_rfl) ?_
    refine Det.opsA (by kernel_rfl) hX ?_
    refine OD.run 2 (by kernel_rfl) ?_
    refine OD.as (Value.int IntKind.u64 (IntKind.wrap IntKind.u64 ((↑j : Int) - 1))) (Value.int IntKind.u64 ((↑j : Int) - 1)) (by kernel_rfl) (of_decide_eq_true (by kernel_rfl)) (by kernel_rfl) (congrArg _ (by (rw [wrapU64]; omega))) ?_
    refine OD.bin BinOp.shr 2 (Value.int IntKind.i64 a) (Value.int IntKind.u64 ((↑j : Int) - 1)) (Value.int IntKind.i64 (Int.fdiv a (2 ^ min (Int.toNat ((↑j : Int) - 1)) 64))) (by kernel_rfl) (by kernel_rfl) (of_decide_eq_true (by kernel_rfl)) (by kernel_rfl) (abin_shr (by exact c30)) ?_
    refine OD.run 2 (by kernel_rfl) ?_
    refine OD.done (of_decide_eq_true (by kernel_rfl)) ?_
    refine then_n (by kernel_rfl) ?_
    by_cases c47 : bits BinOp.and IntKind.i64 (Int.fdiv a (2 ^ min (Int.toNat ((↑j : Int) - 1)) 64)) 1 = 1
    · refine Det.condT (by kernel_rfl) (bits BinOp.and IntKind.i64 (Int.fdiv a (2 ^ min (Int.toNat ((↑j : Int) - 1)) 64)) 1 == 1) (by kernel_rfl) (beq_iff_eq.2 (by omega)) ?_
      refine Det.opsA (by kernel_rfl) hX ?_
      refine OD.run 2 (by kernel_rfl) ?_
      refine OD.as (Value.int IntKind.u64 (IntKind.wrap IntKind.u64 b)) (Value.int IntKind.u64 b) (by kernel_rfl) (of_decide_eq_true (by kernel_rfl)) (by kernel_rfl) (congrArg _ (by (rw [wrapU64]; omega))) ?_
      refine OD.run 1 (by kernel_rfl) ?_
      refine OD.callEq 48 ([Value.agg #[Value.int IntKind.u64 ((upto a j * b + upto a j * b) / 18446744073709551616), Value.int IntKind.u64 ((upto a j * b + upto a j * b) % 18446744073709551616)], Value.agg #[Value.int IntKind.u64 0, Value.int IntKind.u64 b]]) (ref_Plus_lo _ _ (by omega) (by omega) (by omega) (by omega) _) (by kernel_rfl) (of_decide_eq_true (by kernel_rfl)) (by kernel_rfl) (by kernel_rfl) (by kernel_rfl) ?_
      refine OD.run 4 (by kernel_rfl) ?_
      refine OD.done (of_decide_eq_true (by kernel_rfl)) ?_
      refine then_n (by kernel_rfl) ?_
      refine Det.opsA (by kernel_rfl) hX ?_
      refine OD.run 1 (by kernel_rfl) ?_
      refine OD.as (Value.int IntKind.i64 (IntKind.wrap IntKind.i64 ((↑j : Int) - 1 - 1))) (Value.int IntKind.i64 ((↑j : Int) - 1 - 1)) (by kernel_rfl) (of_decide_eq_true (by kernel_rfl)) (by kernel_rfl) (congrArg _ (by (rw [IntKind.wrap_i64]; omega))) ?_
      refine OD.run 1 (by kernel_rfl) ?_
      refine OD.done (of_decide_eq_true (by kernel_rfl)) ?_
      refine then_n (by kernel_rfl) ?_
      (refine ⟨j - 1, by omega, ?_, by omega, ?_⟩; (have e : ((j - 1 : Nat) : Int) = (j : Int) - 1 := by omega); (simp only [e]; exact slots_sub (by kernel_rfl)); (rw [bit_at ha hA (by omega) hj] at *; rw [upto_odd (by omega) (by assumption)]; kernel_rfl))
    · refine Det.condF (by kernel_rfl) (bits BinOp.and IntKind.i64 (Int.fdiv a (2 ^ min (Int.toNat ((↑j : Int) - 1)) 64)) 1 == 1) (by kernel_rfl) (beq_eq_false_iff_ne.2 (by omega)) ?_
      refine Det.skipA (by kernel_rfl) ?_
      refine then_n (by kernel_rfl) ?_
      refine Det.opsA (by kernel_rfl) hX ?_
      refine OD.run 1 (by kernel_rfl) ?_
      refine OD.as (Value.int IntKind.i64 (IntKind.wrap IntKind.i64 ((↑j : Int) - 1 - 1))) (Value.int IntKind.i64 ((↑j : Int) - 1 - 1)) (by kernel_rfl) (of_decide_eq_true (by kernel_rfl)) (by kernel_rfl) (congrArg _ (by (rw [IntKind.wrap_i64]; omega))) ?_
      refine OD.run 1 (by kernel_rfl) ?_
      refine OD.done (of_decide_eq_true (by kernel_rfl)) ?_
      refine then_n (by kernel_rfl) ?_
      (refine ⟨j - 1, by omega, ?_, by omega, ?_⟩; (have e : ((j - 1 : Nat) : Int) = (j : Int) - 1 := by omega); (simp only [e]; exact slots_sub (by kernel_rfl)); (rw [bit_at ha hA (by omega) hj] at *; rw [upto_even (by omega) (by assumption)]; kernel_rfl))
  · refine Det.condF (by kernel_rfl) (decide (0 ≤ (↑j : Int) - 1)) (by kernel_rfl) (decide_eq_false (by exact c30)) ?_
    refine Det.exitA (by kernel_rfl) ?_
    refine then_x 0 (by kernel_rfl) ?_
    refine then_x 0 (by kernel_rfl) ?_
    refine then_n (by kernel_rfl) ?_
    refine Det.seqA (by kernel_rfl) ?_
    refine Det.opsA (by kernel_rfl) hX ?_
    refine OD.run 3 (by kernel_rfl) ?_
    refine OD.done (of_decide_eq_true (by kernel_rfl)) ?_
    refine then_n (by kernel_rfl) ?_
    refine Det.retA (by kernel_rfl) ?_
    refine fin_r (Value.tuple #[Value.agg #[Value.int IntKind.u64 (upto a j * b / 18446744073709551616), Value.int IntKind.u64 (upto a j * b % 18446744073709551616)], Value.bool true]) (by kernel_rfl) (by kernel_rfl) ?_
    (rw [show j = 0 by omega, upto_0]; rfl)
end Go.Proofs.Ytmpendenaflonaa.Eng
