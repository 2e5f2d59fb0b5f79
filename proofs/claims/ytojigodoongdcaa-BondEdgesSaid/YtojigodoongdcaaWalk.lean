/- What the functions of chapter 12 come to, over the engine's memory. No conditions. -/
import Derived.Test.YtojigodoongdcaaEngSym
import Derived.Test.YtojigodoongdcaaProg
import Derived.Test.YtojigodoongdcaaChecked
import Derived.IntWalk
namespace Go.Proofs.Ytojigodoongdcaa.Eng
open Go Go.Proofs
set_option maxRecDepth 100000
set_option maxHeartbeats 4000000
set_option linter.unusedVariables false
theorem hmix : Try.prog.follows .mixedOrders = true := by kernel_rfl
theorem hX : ExtOk Try.prog noExt := noExt_ok
/-- within -/
def within (n a b : Int) : Bool := decide (a ≤ n) && decide (n ≤ b)
theorem within_ne {l b : Int} (h : within l 1 b = true) : l ≠ 0 := by
  simp only [within, Bool.and_eq_true, decide_eq_true_eq] at h; omega
theorem bond_in (n a b : Int) (h : Heap) : DetFn Try.prog 18 [.int .i64 n, .int .i64 a, .int .i64 b] h fun v h' => v = .bool (within n a b) ∧ h' = h := by
  refine DetFn.flat (of_decide_eq_true (by kernel_rfl)) (of_decide_eq_true (by kernel_rfl)) ?_ h
  refine Det.enter Try.func18 (by kernel_rfl) (of_decide_eq_true (by kernel_rfl)) ?_
  refine Det.seqA (by kernel_rfl) ?_
  refine Det.opsA (by kernel_rfl) hX ?_
  refine OD.run 1 (by kernel_rfl) ?_
  refine OD.done (of_decide_eq_true (by kernel_rfl)) ?_
  refine then_n (by kernel_rfl) ?_
  refine Det.seqA (by kernel_rfl) ?_
  refine Det.opsA (by kernel_rfl) hX ?_
  refine OD.run 3 (by kernel_rfl) ?_
  by_cases c7 : a ≤ n
  · refine OD.as (Value.bool (decide (a ≤ n))) (Value.bool true) (by kernel_rfl) (of_decide_eq_true (by kernel_rfl)) (by kernel_rfl) (congrArg Value.bool (decide_eq_true (by exact c7))) ?_
    refine OD.run 5 (by kernel_rfl) ?_
    refine OD.done (of_decide_eq_true (by kernel_rfl)) ?_
    refine then_n (by kernel_rfl) ?_
    refine Det.retA (by kernel_rfl) ?_
    refine fin_r (Value.bool (decide (n ≤ b))) (by kernel_rfl) (by kernel_rfl) ?_
    first | rfl | simp [within, *]
  · refine OD.as (Value.bool (decide (a ≤ n))) (Value.bool false) (by kernel_rfl) (of_decide_eq_true (by kernel_rfl)) (by kernel_rfl) (congrArg Value.bool (decide_eq_false (by exact c7))) ?_
    refine OD.run 5 (by kernel_rfl) ?_
    refine OD.done (of_decide_eq_true (by kernel_rfl)) ?_
    refine then_n (by kernel_rfl) ?_
    refine Det.retA (by kernel_rfl) ?_
    refine fin_r (Value.bool false) (by kernel_rfl) (by kernel_rfl) ?_
    first | rfl | simp [within, *]
theorem ref_in (n a b : Int) (h : Heap) : DetFn Try.prog 19 [.int .i64 n, .int .i64 a, .int .i64 b] h fun v h' => v = .bool (within n a b) ∧ h' = h := by
  refine DetFn.flat (of_decide_eq_true (by kernel_rfl)) (of_decide_eq_true (by kernel_rfl)) ?_ h
  refine Det.enter Try.func19 (by kernel_rfl) (of_decide_eq_true (by kernel_rfl)) ?_
  refine Det.seqA (by kernel_rfl) ?_
  refine Det.opsA (by kernel_rfl) hX ?_
  refine OD.run 1 (by kernel_rfl) ?_
  refine OD.done (of_decide_eq_true (by kernel_rfl)) ?_
  refine then_n (by kernel_rfl) ?_
  refine Det.seqA (by kernel_rfl) ?_
  refine Det.opsA (by kernel_rfl) hX ?_
  refine OD.run 3 (by kernel_rfl) ?_
  by_cases c7 : a ≤ n
  · refine OD.as (Value.bool (decide (a ≤ n))) (Value.bool true) (by kernel_rfl) (of_decide_eq_true (by kernel_rfl)) (by kernel_rfl) (congrArg Value.bool (decide_eq_true (by exact c7))) ?_
    refine OD.run 5 (by kernel_rfl) ?_
    refine OD.done (of_decide_eq_true (by kernel_rfl)) ?_
    refine then_n (by kernel_rfl) ?_
    refine Det.retA (by kernel_rfl) ?_
    refine fin_r (Value.bool (decide (n ≤ b))) (by kernel_rfl) (by kernel_rfl) ?_
    first | rfl | simp [within, *]
  · refine OD.as (Value.bool (decide (a ≤ n))) (Value.bool false) (by kernel_rfl) (of_decide_eq_true (by kernel_rfl)) (by kernel_rfl) (congrArg Value.bool (decide_eq_false (by exact c7))) ?_
    refine OD.run 5 (by kernel_rfl) ?_
    refine OD.done (of_decide_eq_true (by kernel_rfl)) ?_
    refine then_n (by kernel_rfl) ?_
    refine Det.retA (by kernel_rfl) ?_
    refine fin_r (Value.bool false) (by kernel_rfl) (by kernel_rfl) ?_
    first | rfl | simp [within, *]
/-- a bond's value -/
def bondV (t l mn mx lo hi : Int) (hl : Bool) : Value := .agg #[.int .i64 t, .int .i64 l, .int .i64 mn, .int .i64 mx, .int .i64 lo, .int .i64 hi, .bool hl]
/-- what is wrong with a price -/
def priceF (t lo hi p : Int) : Int := if within p lo hi then (if p.tmod t = 0 then 0 else 7) else 10
theorem bond_Price (t l mn mx lo hi : Int) (hl : Bool) (p : Int) (ht : t ≠ 0) (h : Heap) :
    DetFn Try.prog 13 [bondV t l mn mx lo hi hl, .int .i64 p] h fun v h' => v = .int .i64 (priceF t lo hi p) ∧ h' = h := by
  refine DetFn.flat (of_decide_eq_true (by kernel_rfl)) (of_decide_eq_true (by kernel_rfl)) ?_ h
  refine Det.enter Try.func13 (by kernel_rfl) (of_decide_eq_true (by kernel_rfl)) ?_
  refine Det.seqA (by kernel_rfl) ?_
  refine Det.opsA (by kernel_rfl) hX ?_
  refine OD.run 2 (by kernel_rfl) ?_
  refine OD.done (of_decide_eq_true (by kernel_rfl)) ?_
  refine then_n (by kernel_rfl) ?_
  refine Det.seqA (by kernel_rfl) ?_
  refine Det.blockA (by kernel_rfl) ?_
  refine Det.seqA (by kernel_rfl) ?_
  refine Det.opsA (by kernel_rfl) hX ?_
  refine OD.run 5 (by kernel_rfl) ?_
  refine OD.callEq 18 ([Value.int IntKind.i64 p, Value.int IntKind.i64 lo, Value.int IntKind.i64 hi]) (bond_in _ _ _ _) (by kernel_rfl) (of_decide_eq_true (by kernel_rfl)) (by kernel_rfl) (by kernel_rfl) (by kernel_rfl) ?_
  refine OD.run 2 (by kernel_rfl) ?_
  refine OD.done (of_decide_eq_true (by kernel_rfl)) ?_
  refine then_n (by kernel_rfl) ?_
  rcases Bool.eq_false_or_eq_true (within p lo hi) with c11 | c11
  · refine Det.condF (by kernel_rfl) (!within p lo hi) (by kernel_rfl) (not_f (by exact c11)) ?_
    refine Det.seqA (by kernel_rfl) ?_
    refine Det.opsA (by kernel_rfl) hX ?_
    refine OD.run 3 (by kernel_rfl) ?_
    refine OD.bin BinOp.rem 2 (Value.int IntKind.i64 p) (Value.int IntKind.i64 t) (Value.int IntKind.i64 (Int.tmod p t)) (by kernel_rfl) (by kernel_rfl) (of_decide_eq_true (by kernel_rfl)) (by kernel_rfl) (abin_rem (by exact ht)) ?_
    refine OD.run 2 (by kernel_rfl) ?_
    refine OD.done (of_decide_eq_true (by kernel_rfl)) ?_
    refine then_n (by kernel_rfl) ?_
    by_cases c18 : Int.tmod p t = 0
    · refine Det.condF (by kernel_rfl) (Int.tmod p t != 0) (by kernel_rfl) (bne_eq_false_iff_eq.2 (by exact c18)) ?_
      refine Det.skipA (by kernel_rfl) ?_
      refine then_n (by kernel_rfl) ?_
      refine Det.seqA (by kernel_rfl) ?_
      refine Det.opsA (by kernel_rfl) hX ?_
      refine OD.run 1 (by kernel_rfl) ?_
      refine OD.done (of_decide_eq_true (by kernel_rfl)) ?_
      refine then_n (by kernel_rfl) ?_
      refine Det.retA (by kernel_rfl) ?_
      refine fin_r (Value.int IntKind.i64 0) (by kernel_rfl) (by kernel_rfl) ?_
      first | rfl | simp [priceF, *]
    · refine Det.condT (by kernel_rfl) (Int.tmod p t != 0) (by kernel_rfl) (bne_iff_ne.2 (by exact c18)) ?_
      refine Det.seqA (by kernel_rfl) ?_
      refine Det.opsA (by kernel_rfl) hX ?_
      refine OD.run 1 (by kernel_rfl) ?_
      refine OD.done (of_decide_eq_true (by kernel_rfl)) ?_
      refine then_n (by kernel_rfl) ?_
      refine Det.retA (by kernel_rfl) ?_
      refine then_r (by kernel_rfl) ?_
      refine fin_r (Value.int IntKind.i64 7) (by kernel_rfl) (by kernel_rfl) ?_
      first | rfl | simp [priceF, *]
  · refine Det.condT (by kernel_rfl) (!within p lo hi) (by kernel_rfl) (not_t (by exact c11)) ?_
    refine Det.seqA (by kernel_rfl) ?_
    refine Det.opsA (by kernel_rfl) hX ?_
    refine OD.run 1 (by kernel_rfl) ?_
    refine OD.done (of_decide_eq_true (by kernel_rfl)) ?_
    refine then_n (by kernel_rfl) ?_
    refine Det.retA (by kernel_rfl) ?_
    refine then_r (by kernel_rfl) ?_
    refine fin_r (Value.int IntKind.i64 10) (by kernel_rfl) (by kernel_rfl) ?_
    first | rfl | simp [priceF, *]
theorem ref_Price (t l mn mx lo hi : Int) (hl : Bool) (p : Int) (ht : t ≠ 0) (h : Heap) :
    DetFn Try.prog 14 [bondV t l mn mx lo hi hl, .int .i64 p] h fun v h' => v = .int .i64 (priceF t lo hi p) ∧ h' = h := by
  refine DetFn.flat (of_decide_eq_true (by kernel_rfl)) (of_decide_eq_true (by kernel_rfl)) ?_ h
  refine Det.enter Try.func14 (by kernel_rfl) (of_decide_eq_true (by kernel_rfl)) ?_
  refine Det.seqA (by kernel_rfl) ?_
  refine Det.opsA (by kernel_rfl) hX ?_
  refine OD.run 2 (by kernel_rfl) ?_
  refine OD.done (of_decide_eq_true (by kernel_rfl)) ?_
  refine then_n (by kernel_rfl) ?_
  refine Det.seqA (by kernel_rfl) ?_
  refine Det.blockA (by kernel_rfl) ?_
  refine Det.seqA (by kernel_rfl) ?_
  refine Det.opsA (by kernel_rfl) hX ?_
  refine OD.run 5 (by kernel_rfl) ?_
  refine OD.callEq 19 ([Value.int IntKind.i64 p, Value.int IntKind.i64 lo, Value.int IntKind.i64 hi]) (ref_in _ _ _ _) (by kernel_rfl) (of_decide_eq_true (by kernel_rfl)) (by kernel_rfl) (by kernel_rfl) (by kernel_rfl) ?_
  refine OD.run 2 (by kernel_rfl) ?_
  refine OD.done (of_decide_eq_true (by kernel_rfl)) ?_
  refine then_n (by kernel_rfl) ?_
  rcases Bool.eq_false_or_eq_true (within p lo hi) with c11 | c11
  · refine Det.condF (by kernel_rfl) (!within p lo hi) (by kernel_rfl) (not_f (by exact c11)) ?_
    refine Det.seqA (by kernel_rfl) ?_
    refine Det.opsA (by kernel_rfl) hX ?_
    refine OD.run 3 (by kernel_rfl) ?_
    refine OD.bin BinOp.rem 2 (Value.int IntKind.i64 p) (Value.int IntKind.i64 t) (Value.int IntKind.i64 (Int.tmod p t)) (by kernel_rfl) (by kernel_rfl) (of_decide_eq_true (by kernel_rfl)) (by kernel_rfl) (abin_rem (by exact ht)) ?_
    refine OD.run 2 (by kernel_rfl) ?_
    refine OD.done (of_decide_eq_true (by kernel_rfl)) ?_
    refine then_n (by kernel_rfl) ?_
    by_cases c18 : Int.tmod p t = 0
    · refine Det.condF (by kernel_rfl) (Int.tmod p t != 0) (by kernel_rfl) (bne_eq_false_iff_eq.2 (by exact c18)) ?_
      refine Det.skipA (by kernel_rfl) ?_
      refine then_n (by kernel_rfl) ?_
      refine Det.seqA (by kernel_rfl) ?_
      refine Det.opsA (by kernel_rfl) hX ?_
      refine OD.run 1 (by kernel_rfl) ?_
      refine OD.done (of_decide_eq_true (by kernel_rfl)) ?_
      refine then_n (by kernel_rfl) ?_
      refine Det.retA (by kernel_rfl) ?_
      refine fin_r (Value.int IntKind.i64 0) (by kernel_rfl) (by kernel_rfl) ?_
      first | rfl | simp [priceF, *]
    · refine Det.condT (by kernel_rfl) (Int.tmod p t != 0) (by kernel_rfl) (bne_iff_ne.2 (by exact c18)) ?_
      refine Det.seqA (by kernel_rfl) ?_
      refine Det.opsA (by kernel_rfl) hX ?_
      refine OD.run 1 (by kernel_rfl) ?_
      refine OD.done (of_decide_eq_true (by kernel_rfl)) ?_
      refine then_n (by kernel_rfl) ?_
      refine Det.retA (by kernel_rfl) ?_
      refine then_r (by kernel_rfl) ?_
      refine fin_r (Value.int IntKind.i64 7) (by kernel_rfl) (by kernel_rfl) ?_
      first | rfl | simp [priceF, *]
  · refine Det.condT (by kernel_rfl) (!within p lo hi) (by kernel_rfl) (not_t (by exact c11)) ?_
    refine Det.seqA (by kernel_rfl) ?_
    refine Det.opsA (by kernel_rfl) hX ?_
    refine OD.run 1 (by kernel_rfl) ?_
    refine OD.done (of_decide_eq_true (by kernel_rfl)) ?_
    refine then_n (by kernel_rfl) ?_
    refine Det.retA (by kernel_rfl) ?_
    refine then_r (by kernel_rfl) ?_
    refine fin_r (Value.int IntKind.i64 10) (by kernel_rfl) (by kernel_rfl) ?_
    first | rfl | simp [priceF, *]
/-- what is wrong with a quantity -/
def qtyF (l mn mx q : Int) : Int := if within q mn mx then (if q.tmod l = 0 then 0 else 8) else 9
theorem bond_Qty (t l mn mx lo hi : Int) (hl : Bool) (q : Int) (ht : l ≠ 0) (h : Heap) :
    DetFn Try.prog 11 [bondV t l mn mx lo hi hl, .int .i64 q] h fun v h' => v = .int .i64 (qtyF l mn mx q) ∧ h' = h := by
  refine DetFn.flat (of_decide_eq_true (by kernel_rfl)) (of_decide_eq_true (by kernel_rfl)) ?_ h
  refine Det.enter Try.func11 (by kernel_rfl) (of_decide_eq_true (by kernel_rfl)) ?_
  refine Det.seqA (by kernel_rfl) ?_
  refine Det.opsA (by kernel_rfl) hX ?_
  refine OD.run 2 (by kernel_rfl) ?_
  refine OD.done (of_decide_eq_true (by kernel_rfl)) ?_
  refine then_n (by kernel_rfl) ?_
  refine Det.seqA (by kernel_rfl) ?_
  refine Det.blockA (by kernel_rfl) ?_
  refine Det.seqA (by kernel_rfl) ?_
  refine Det.opsA (by kernel_rfl) hX ?_
  refine OD.run 5 (by kernel_rfl) ?_
  refine OD.callEq 18 ([Value.int IntKind.i64 q, Value.int IntKind.i64 mn, Value.int IntKind.i64 mx]) (bond_in _ _ _ _) (by kernel_rfl) (of_decide_eq_true (by kernel_rfl)) (by kernel_rfl) (by kernel_rfl) (by kernel_rfl) ?_
  refine OD.run 2 (by kernel_rfl) ?_
  refine OD.done (of_decide_eq_true (by kernel_rfl)) ?_
  refine then_n (by kernel_rfl) ?_
  rcases Bool.eq_false_or_eq_true (within q mn mx) with c11 | c11
  · refine Det.condF (by kernel_rfl) (!within q mn mx) (by kernel_rfl) (not_f (by exact c11)) ?_
    refine Det.seqA (by kernel_rfl) ?_
    refine Det.opsA (by kernel_rfl) hX ?_
    refine OD.run 3 (by kernel_rfl) ?_
    refine OD.bin BinOp.rem 2 (Value.int IntKind.i64 q) (Value.int IntKind.i64 l) (Value.int IntKind.i64 (Int.tmod q l)) (by kernel_rfl) (by kernel_rfl) (of_decide_eq_true (by kernel_rfl)) (by kernel_rfl) (abin_rem (by exact ht)) ?_
    refine OD.run 2 (by kernel_rfl) ?_
    refine OD.done (of_decide_eq_true (by kernel_rfl)) ?_
    refine then_n (by kernel_rfl) ?_
    by_cases c18 : Int.tmod q l = 0
    · refine Det.condF (by kernel_rfl) (Int.tmod q l != 0) (by kernel_rfl) (bne_eq_false_iff_eq.2 (by exact c18)) ?_
      refine Det.skipA (by kernel_rfl) ?_
      refine then_n (by kernel_rfl) ?_
      refine Det.seqA (by kernel_rfl) ?_
      refine Det.opsA (by kernel_rfl) hX ?_
      refine OD.run 1 (by kernel_rfl) ?_
      refine OD.done (of_decide_eq_true (by kernel_rfl)) ?_
      refine then_n (by kernel_rfl) ?_
      refine Det.retA (by kernel_rfl) ?_
      refine fin_r (Value.int IntKind.i64 0) (by kernel_rfl) (by kernel_rfl) ?_
      first | rfl | simp [qtyF, *]
    · refine Det.condT (by kernel_rfl) (Int.tmod q l != 0) (by kernel_rfl) (bne_iff_ne.2 (by exact c18)) ?_
      refine Det.seqA (by kernel_rfl) ?_
      refine Det.opsA (by kernel_rfl) hX ?_
      refine OD.run 1 (by kernel_rfl) ?_
      refine OD.done (of_decide_eq_true (by kernel_rfl)) ?_
      refine then_n (by kernel_rfl) ?_
      refine Det.retA (by kernel_rfl) ?_
      refine then_r (by kernel_rfl) ?_
      refine fin_r (Value.int IntKind.i64 8) (by kernel_rfl) (by kernel_rfl) ?_
      first | rfl | simp [qtyF, *]
  · refine Det.condT (by kernel_rfl) (!within q mn mx) (by kernel_rfl) (not_t (by exact c11)) ?_
    refine Det.seqA (by kernel_rfl) ?_
    refine Det.opsA (by kernel_rfl) hX ?_
    refine OD.run 1 (by kernel_rfl) ?_
    refine OD.done (of_decide_eq_true (by kernel_rfl)) ?_
    refine then_n (by kernel_rfl) ?_
    refine Det.retA (by kernel_rfl) ?_
    refine then_r (by kernel_rfl) ?_
    refine fin_r (Value.int IntKind.i64 9) (by kernel_rfl) (by kernel_rfl) ?_
    first | rfl | simp [qtyF, *]
theorem ref_Qty (t l mn mx lo hi : Int) (hl : Bool) (q : Int) (ht : l ≠ 0) (h : Heap) :
    DetFn Try.prog 15 [bondV t l mn mx lo hi hl, .int .i64 q] h fun v h' => v = .int .i64 (qtyF l mn mx q) ∧ h' = h := by
  refine DetFn.flat (of_decide_eq_true (by kernel_rfl)) (of_decide_eq_true (by kernel_rfl)) ?_ h
  refine Det.enter Try.func15 (by kernel_rfl) (of_decide_eq_true (by kernel_rfl)) ?_
  refine Det.seqA (by kernel_rfl) ?_
  refine Det.opsA (by kernel_rfl) hX ?_
  refine OD.run 2 (by kernel_rfl) ?_
  refine OD.done (of_decide_eq_true (by kernel_rfl)) ?_
  refine then_n (by kernel_rfl) ?_
  refine Det.seqA (by kernel_rfl) ?_
  refine Det.blockA (by kernel_rfl) ?_
  refine Det.seqA (by kernel_rfl) ?_
  refine Det.opsA (by kernel_rfl) hX ?_
  refine OD.run 5 (by kernel_rfl) ?_
  refine OD.callEq 19 ([Value.int IntKind.i64 q, Value.int IntKind.i64 mn, Value.int IntKind.i64 mx]) (ref_in _ _ _ _) (by kernel_rfl) (of_decide_eq_true (by kernel_rfl)) (by kernel_rfl) (by kernel_rfl) (by kernel_rfl) ?_
  refine OD.run 2 (by kernel_rfl) ?_
  refine OD.done (of_decide_eq_true (by kernel_rfl)) ?_
  refine then_n (by kernel_rfl) ?_
  rcases Bool.eq_false_or_eq_true (within q mn mx) with c11 | c11
  · refine Det.condF (by kernel_rfl) (!within q mn mx) (by kernel_rfl) (not_f (by exact c11)) ?_
    refine Det.seqA (by kernel_rfl) ?_
    refine Det.opsA (by kernel_rfl) hX ?_
    refine OD.run 3 (by kernel_rfl) ?_
    refine OD.bin BinOp.rem 2 (Value.int IntKind.i64 q) (Value.int IntKind.i64 l) (Value.int IntKind.i64 (Int.tmod q l)) (by kernel_rfl) (by kernel_rfl) (of_decide_eq_true (by kernel_rfl)) (by kernel_rfl) (abin_rem (by exact ht)) ?_
    refine OD.run 2 (by kernel_rfl) ?_
    refine OD.done (of_decide_eq_true (by kernel_rfl)) ?_
    refine then_n (by kernel_rfl) ?_
    by_cases c18 : Int.tmod q l = 0
    · refine Det.condF (by kernel_rfl) (Int.tmod q l != 0) (by kernel_rfl) (bne_eq_false_iff_eq.2 (by exact c18)) ?_
      refine Det.skipA (by kernel_rfl) ?_
      refine then_n (by kernel_rfl) ?_
      refine Det.seqA (by kernel_rfl) ?_
      refine Det.opsA (by kernel_rfl) hX ?_
      refine OD.run 1 (by kernel_rfl) ?_
      refine OD.done (of_decide_eq_true (by kernel_rfl)) ?_
      refine then_n (by kernel_rfl) ?_
      refine Det.retA (by kernel_rfl) ?_
      refine fin_r (Value.int IntKind.i64 0) (by kernel_rfl) (by kernel_rfl) ?_
      first | rfl | simp [qtyF, *]
    · refine Det.condT (by kernel_rfl) (Int.tmod q l != 0) (by kernel_rfl) (bne_iff_ne.2 (by exact c18)) ?_
      refine Det.seqA (by kernel_rfl) ?_
      refine Det.opsA (by kernel_rfl) hX ?_
      refine OD.run 1 (by kernel_rfl) ?_
      refine OD.done (of_decide_eq_true (by kernel_rfl)) ?_
      refine then_n (by kernel_rfl) ?_
      refine Det.retA (by kernel_rfl) ?_
      refine then_r (by kernel_rfl) ?_
      refine fin_r (Value.int IntKind.i64 8) (by kernel_rfl) (by kernel_rfl) ?_
      first | rfl | simp [qtyF, *]
  · refine Det.condT (by kernel_rfl) (!within q mn mx) (by kernel_rfl) (not_t (by exact c11)) ?_
    refine Det.seqA (by kernel_rfl) ?_
    refine Det.opsA (by kernel_rfl) hX ?_
    refine OD.run 1 (by kernel_rfl) ?_
    refine OD.done (of_decide_eq_true (by kernel_rfl)) ?_
    refine then_n (by kernel_rfl) ?_
    refine Det.retA (by kernel_rfl) ?_
    refine then_r (by kernel_rfl) ?_
    refine fin_r (Value.int IntKind.i64 9) (by kernel_rfl) (by kernel_rfl) ?_
    first | rfl | simp [qtyF, *]
/-- whether a bond may be -/
def isF (t l mn mx lo hi : Int) : Bool := within t 1 1000000 && within lo 1 1000000 && within hi lo 1000000 && within l 1 1000000 && within mn 1 1000000 && within mx mn 1000000 && decide (mn ≤ IntKind.i64.wrap (mx - mx.tmod l))
theorem bond_Is (t l mn mx lo hi : Int) (hl : Bool) (h : Heap) : DetFn Try.prog 8 [bondV t l mn mx lo hi hl] h fun v h' => v = .bool (isF t l mn mx lo hi) ∧ h' = h := by
  refine DetFn.flat (of_decide_eq_true (by kernel_rfl)) (of_decide_eq_true (by kernel_rfl)) ?_ h
  refine Det.enter Try.func8 (by kernel_rfl) (of_decide_eq_true (by kernel_rfl)) ?_
  refine Det.seqA (by kernel_rfl) ?_
  refine Det.opsA (by kernel_rfl) hX ?_
  refine OD.run 2 (by kernel_rfl) ?_
  refine OD.done (of_decide_eq_true (by kernel_rfl)) ?_
  refine then_n (by kernel_rfl) ?_
  refine Det.seqA (by kernel_rfl) ?_
  refine Det.opsA (by kernel_rfl) hX ?_
  refine OD.run 2 (by kernel_rfl) ?_
  refine OD.callEq 18 ([Value.int IntKind.i64 t, Value.int IntKind.i64 1, Value.int IntKind.i64 1000000]) (bond_in _ _ _ _) (by kernel_rfl) (of_decide_eq_true (by kernel_rfl)) (by kernel_rfl) (by kernel_rfl) (by kernel_rfl) ?_
  rcases Bool.eq_false_or_eq_true (within t 1 1000000) with c8 | c8
  · refine OD.as (Value.bool (within t 1 1000000)) (Value.bool true) (by kernel_rfl) (of_decide_eq_true (by kernel_rfl)) (by kernel_rfl) (congrArg Value.bool (by exact c8)) ?_
    refine OD.run 2 (by kernel_rfl) ?_
    refine OD.callEq 18 ([Value.int IntKind.i64 lo, Value.int IntKind.i64 1, Value.int IntKind.i64 1000000]) (bond_in _ _ _ _) (by kernel_rfl) (of_decide_eq_true (by kernel_rfl)) (by kernel_rfl) (by kernel_rfl) (by kernel_rfl) ?_
    refine OD.run 1 (by kernel_rfl) ?_
    rcases Bool.eq_false_or_eq_true (within lo 1 1000000) with c12 | c12
    · refine OD.as (Value.bool (within lo 1 1000000)) (Value.bool true) (by kernel_rfl) (of_decide_eq_true (by kernel_rfl)) (by kernel_rfl) (congrArg Value.bool (by exact c12)) ?_
      refine OD.run 4 (by kernel_rfl) ?_
      refine OD.callEq 18 ([Value.int IntKind.i64 hi, Value.int IntKind.i64 lo, Value.int IntKind.i64 1000000]) (bond_in _ _ _ _) (by kernel_rfl) (of_decide_eq_true (by kernel_rfl)) (by kernel_rfl) (by kernel_rfl) (by kernel_rfl) ?_
      refine OD.run 2 (by kernel_rfl) ?_
      refine OD.done (of_decide_eq_true (by kernel_rfl)) ?_
      refine then_n (by kernel_rfl) ?_
      refine Det.seqA (by kernel_rfl) ?_
      refine Det.opsA (by kernel_rfl) hX ?_
      refine OD.run 2 (by kernel_rfl) ?_
      refine OD.callEq 18 ([Value.int IntKind.i64 l, Value.int IntKind.i64 1, Value.int IntKind.i64 1000000]) (bond_in _ _ _ _) (by kernel_rfl) (of_decide_eq_true (by kernel_rfl)) (by kernel_rfl) (by kernel_rfl) (by kernel_rfl) ?_
      rcases Bool.eq_false_or_eq_true (within l 1 1000000) with c21 | c21
      · refine OD.as (Value.bool (within l 1 1000000)) (Value.bool true) (by kernel_rfl) (of_decide_eq_true (by kernel_rfl)) (by kernel_rfl) (congrArg Value.bool (by exact c21)) ?_
        refine OD.run 2 (by kernel_rfl) ?_
        refine OD.callEq 18 ([Value.int IntKind.i64 mn, Value.int IntKind.i64 1, Value.int IntKind.i64 1000000]) (bond_in _ _ _ _) (by kernel_rfl) (of_decide_eq_true (by kernel_rfl)) (by kernel_rfl) (by kernel_rfl) (by kernel_rfl) ?_
        refine OD.run 1 (by kernel_rfl) ?_
        rcases Bool.eq_false_or_eq_true (within mn 1 1000000) with c25 | c25
        · refine OD.as (Value.bool (within mn 1 1000000)) (Value.bool true) (by kernel_rfl) (of_decide_eq_true (by kernel_rfl)) (by kernel_rfl) (congrArg Value.bool (by exact c25)) ?_
          refine OD.run 4 (by kernel_rfl) ?_
          refine OD.callEq 18 ([Value.int IntKind.i64 mx, Value.int IntKind.i64 mn, Value.int IntKind.i64 1000000]) (bond_in _ _ _ _) (by kernel_rfl) (of_decide_eq_true (by kernel_rfl)) (by kernel_rfl) (by kernel_rfl) (by kernel_rfl) ?_
          refine OD.run 2 (by kernel_rfl) ?_
          refine OD.done (of_decide_eq_true (by kernel_rfl)) ?_
          refine then_n (by kernel_rfl) ?_
          refine Det.seqA (by kernel_rfl) ?_
          refine Det.drawA (by kernel_rfl) hmix hX (by kernel_rfl) (by kernel_rfl) ?_
          refine OD.run 1 (by kernel_rfl) ?_
          rcases Bool.eq_false_or_eq_true (within hi lo 1000000) with c33 | c33
          · refine OD.as (Value.bool (within hi lo 1000000)) (Value.bool true) (by kernel_rfl) (of_decide_eq_true (by kernel_rfl)) (by kernel_rfl) (congrArg Value.bool (by exact c33)) ?_
            refine OD.run 2 (by kernel_rfl) ?_
            rcases Bool.eq_false_or_eq_true (within mx mn 1000000) with c36 | c36
            · refine OD.as (Value.bool (within mx mn 1000000)) (Value.bool true) (by kernel_rfl) (of_decide_eq_true (by kernel_rfl)) (by kernel_rfl) (congrArg Value.bool (by exact c36)) ?_
              refine OD.run 6 (by kernel_rfl) ?_
              refine OD.bin BinOp.rem 2 (Value.int IntKind.i64 mx) (Value.int IntKind.i64 l) (Value.int IntKind.i64 (Int.tmod mx l)) (by kernel_rfl) (by kernel_rfl) (of_decide_eq_true (by kernel_rfl)) (by kernel_rfl) (abin_rem (by (refine within_ne (b := 1000000) ?_; with_reducible assumption))) ?_
              refine OD.run 6 (by kernel_rfl) ?_
              refine OD.done (of_decide_eq_true (by kernel_rfl)) ?_
              refine then_n (by kernel_rfl) ?_
              refine Det.retA (by kernel_rfl) ?_
              refine fin_r (Value.bool (decide (mn ≤ IntKind.wrap IntKind.i64 (mx - Int.tmod mx l)))) (by kernel_rfl) (by kernel_rfl) ?_
              first | rfl | simp [isF, *]
            · refine OD.as (Value.bool (within mx mn 1000000)) (Value.bool false) (by kernel_rfl) (of_decide_eq_true (by kernel_rfl)) (by kernel_rfl) (congrArg Value.bool (by exact c36)) ?_
              refine OD.run 13 (by kernel_rfl) ?_
              refine OD.done (of_decide_eq_true (by kernel_rfl)) ?_
              refine then_n (by kernel_rfl) ?_
              refine Det.retA (by kernel_rfl) ?_
              refine fin_r (Value.bool false) (by kernel_rfl) (by kernel_rfl) ?_
              first | rfl | simp [isF, *]
          · refine OD.as (Value.bool (within hi lo 1000000)) (Value.bool false) (by kernel_rfl) (of_decide_eq_true (by kernel_rfl)) (by kernel_rfl) (congrArg Value.bool (by exact c33)) ?_
            refine OD.run 16 (by kernel_rfl) ?_
            refine OD.done (of_decide_eq_true (by kernel_rfl)) ?_
            refine then_n (by kernel_rfl) ?_
            refine Det.retA (by kernel_rfl) ?_
            refine fin_r (Value.bool false) (by kernel_rfl) (by kernel_rfl) ?_
            first | rfl | simp [isF, *]
        · refine OD.as (Value.bool (within mn 1 1000000)) (Value.bool false) (by kernel_rfl) (of_decide_eq_true (by kernel_rfl)) (by kernel_rfl) (congrArg Value.bool (by exact c25)) ?_
          refine OD.run 7 (by kernel_rfl) ?_
          refine OD.done (of_decide_eq_true (by kernel_rfl)) ?_
          refine then_n (by kernel_rfl) ?_
          refine Det.seqA (by kernel_rfl) ?_
          refine Det.drawA (by kernel_rfl) hmix hX (by kernel_rfl) (by kernel_rfl) ?_
          refine OD.run 1 (by kernel_rfl) ?_
          rcases Bool.eq_false_or_eq_true (within hi lo 1000000) with c32 | c32
          · refine OD.as (Value.bool (within hi lo 1000000)) (Value.bool true) (by kernel_rfl) (of_decide_eq_true (by kernel_rfl)) (by kernel_rfl) (congrArg Value.bool (by exact c32)) ?_
            refine OD.run 16 (by kernel_rfl) ?_
            refine OD.done (of_decide_eq_true (by kernel_rfl)) ?_
            refine then_n (by kernel_rfl) ?_
            refine Det.retA (by kernel_rfl) ?_
            refine fin_r (Value.bool false) (by kernel_rfl) (by kernel_rfl) ?_
            first | rfl | simp [isF, *]
          · refine OD.as (Value.bool (within hi lo 1000000)) (Value.bool false) (by kernel_rfl) (of_decide_eq_true (by kernel_rfl)) (by kernel_rfl) (congrArg Value.bool (by exact c32)) ?_
            refine OD.run 16 (by kernel_rfl) ?_
            refine OD.done (of_decide_eq_true (by kernel_rfl)) ?_
            refine then_n (by kernel_rfl) ?_
            refine Det.retA (by kernel_rfl) ?_
            refine fin_r (Value.bool false) (by kernel_rfl) (by kernel_rfl) ?_
            first | rfl | simp [isF, *]
      · refine OD.as (Value.bool (within l 1 1000000)) (Value.bool false) (by kernel_rfl) (of_decide_eq_true (by kernel_rfl)) (by kernel_rfl) (congrArg Value.bool (by exact c21)) ?_
        refine OD.run 12 (by kernel_rfl) ?_
        refine OD.done (of_decide_eq_true (by kernel_rfl)) ?_
        refine then_n (by kernel_rfl) ?_
        refine Det.seqA (by kernel_rfl) ?_
        refine Det.drawA (by kernel_rfl) hmix hX (by kernel_rfl) (by kernel_rfl) ?_
        refine OD.run 1 (by kernel_rfl) ?_
        rcases Bool.eq_false_or_eq_true (within hi lo 1000000) with c28 | c28
        · refine OD.as (Value.bool (within hi lo 1000000)) (Value.bool true) (by kernel_rfl) (of_decide_eq_true (by kernel_rfl)) (by kernel_rfl) (congrArg Value.bool (by exact c28)) ?_
          refine OD.run 16 (by kernel_rfl) ?_
          refine OD.done (of_decide_eq_true (by kernel_rfl)) ?_
          refine then_n (by kernel_rfl) ?_
          refine Det.retA (by kernel_rfl) ?_
          refine fin_r (Value.bool false) (by kernel_rfl) (by kernel_rfl) ?_
          first | rfl | simp [isF, *]
        · refine OD.as (Value.bool (within hi lo 1000000)) (Value.bool false) (by kernel_rfl) (of_decide_eq_true (by kernel_rfl)) (by kernel_rfl) (congrArg Value.bool (by exact c28)) ?_
          refine OD.run 16 (by kernel_rfl) ?_
          refine OD.done (of_decide_eq_true (by kernel_rfl)) ?_
          refine then_n (by kernel_rfl) ?_
          refine Det.retA (by kernel_rfl) ?_
          refine fin_r (Value.bool false) (by kernel_rfl) (by kernel_rfl) ?_
          first | rfl | simp [isF, *]
    · refine OD.as (Value.bool (within lo 1 1000000)) (Value.bool false) (by kernel_rfl) (of_decide_eq_true (by kernel_rfl)) (by kernel_rfl) (congrArg Value.bool (by exact c12)) ?_
      refine OD.run 7 (by kernel_rfl) ?_
      refine OD.done (of_decide_eq_true (by kernel_rfl)) ?_
      refine then_n (by kernel_rfl) ?_
      refine Det.seqA (by kernel_rfl) ?_
      refine Det.opsA (by kernel_rfl) hX ?_
      refine OD.run 2 (by kernel_rfl) ?_
      refine OD.callEq 18 ([Value.int IntKind.i64 l, Value.int IntKind.i64 1, Value.int IntKind.i64 1000000]) (bond_in _ _ _ _) (by kernel_rfl) (of_decide_eq_true (by kernel_rfl)) (by kernel_rfl) (by kernel_rfl) (by kernel_rfl) ?_
      rcases Bool.eq_false_or_eq_true (within l 1 1000000) with c20 | c20
      · refine OD.as (Value.bool (within l 1 1000000)) (Value.bool true) (by kernel_rfl) (of_decide_eq_true (by kernel_rfl)) (by kernel_rfl) (congrArg Value.bool (by exact c20)) ?_
        refine OD.run 2 (by kernel_rfl) ?_
        refine OD.callEq 18 ([Value.int IntKind.i64 mn, Value.int IntKind.i64 1, Value.int IntKind.i64 1000000]) (bond_in _ _ _ _) (by kernel_rfl) (of_decide_eq_true (by kernel_rfl)) (by kernel_rfl) (by kernel_rfl) (by kernel_rfl) ?_
        refine OD.run 1 (by kernel_rfl) ?_
        rcases Bool.eq_false_or_eq_true (within mn 1 1000000) with c24 | c24
        · refine OD.as (Value.bool (within mn 1 1000000)) (Value.bool true) (by kernel_rfl) (of_decide_eq_true (by kernel_rfl)) (by kernel_rfl) (congrArg Value.bool (by exact c24)) ?_
          refine OD.run 4 (by kernel_rfl) ?_
          refine OD.callEq 18 ([Value.int IntKind.i64 mx, Value.int IntKind.i64 mn, Value.int IntKind.i64 1000000]) (bond_in _ _ _ _) (by kernel_rfl) (of_decide_eq_true (by kernel_rfl)) (by kernel_rfl) (by kernel_rfl) (by kernel_rfl) ?_
          refine OD.run 2 (by kernel_rfl) ?_
          refine OD.done (of_decide_eq_true (by kernel_rfl)) ?_
          refine then_n (by kernel_rfl) ?_
          refine Det.seqA (by kernel_rfl) ?_
          refine Det.drawA (by kernel_rfl) hmix hX (by kernel_rfl) (by kernel_rfl) ?_
          refine OD.run 18 (by kernel_rfl) ?_
          refine OD.done (of_decide_eq_true (by kernel_rfl)) ?_
          refine then_n (by kernel_rfl) ?_
          refine Det.retA (by kernel_rfl) ?_
          refine fin_r (Value.bool false) (by kernel_rfl) (by kernel_rfl) ?_
          first | rfl | simp [isF, *]
        · refine OD.as (Value.bool (within mn 1 1000000)) (Value.bool false) (by kernel_rfl) (of_decide_eq_true (by kernel_rfl)) (by kernel_rfl) (congrArg Value.bool (by exact c24)) ?_
          refine OD.run 7 (by kernel_rfl) ?_
          refine OD.done (of_decide_eq_true (by kernel_rfl)) ?_
          refine then_n (by kernel_rfl) ?_
          refine Det.seqA (by kernel_rfl) ?_
          refine Det.drawA (by kernel_rfl) hmix hX (by kernel_rfl) (by kernel_rfl) ?_
          refine OD.run 18 (by kernel_rfl) ?_
          refine OD.done (of_decide_eq_true (by kernel_rfl)) ?_
          refine then_n (by kernel_rfl) ?_
          refine Det.retA (by kernel_rfl) ?_
          refine fin_r (Value.bool false) (by kernel_rfl) (by kernel_rfl) ?_
          first | rfl | simp [isF, *]
      · refine OD.as (Value.bool (within l 1 1000000)) (Value.bool false) (by kernel_rfl) (of_decide_eq_true (by kernel_rfl)) (by kernel_rfl) (congrArg Value.bool (by exact c20)) ?_
        refine OD.run 12 (by kernel_rfl) ?_
        refine OD.done (of_decide_eq_true (by kernel_rfl)) ?_
        refine then_n (by kernel_rfl) ?_
        refine Det.seqA (by kernel_rfl) ?_
        refine Det.drawA (by kernel_rfl) hmix hX (by kernel_rfl) (by kernel_rfl) ?_
        refine OD.run 18 (by kernel_rfl) ?_
        refine OD.done (of_decide_eq_true (by kernel_rfl)) ?_
        refine then_n (by kernel_rfl) ?_
        refine Det.retA (by kernel_rfl) ?_
        refine fin_r (Value.bool false) (by kernel_rfl) (by kernel_rfl) ?_
        first | rfl | simp [isF, *]
  · refine OD.as (Value.bool (within t 1 1000000)) (Value.bool false) (by kernel_rfl) (of_decide_eq_true (by kernel_rfl)) (by kernel_rfl) (congrArg Value.bool (by exact c8)) ?_
    refine OD.run 12 (by kernel_rfl) ?_
    refine OD.done (of_decide_eq_true (by kernel_rfl)) ?_
    refine then_n (by kernel_rfl) ?_
    refine Det.seqA (by kernel_rfl) ?_
    refine Det.opsA (by kernel_rfl) hX ?_
    refine OD.run 2 (by kernel_rfl) ?_
    refine OD.callEq 18 ([Value.int IntKind.i64 l, Value.int IntKind.i64 1, Value.int IntKind.i64 1000000]) (bond_in _ _ _ _) (by kernel_rfl) (of_decide_eq_true (by kernel_rfl)) (by kernel_rfl) (by kernel_rfl) (by kernel_rfl) ?_
    rcases Bool.eq_false_or_eq_true (within l 1 1000000) with c16 | c16
    · refine OD.as (Value.bool (within l 1 1000000)) (Value.bool true) (by kernel_rfl) (of_decide_eq_true (by kernel_rfl)) (by kernel_rfl) (congrArg Value.bool (by exact c16)) ?_
      refine OD.run 2 (by kernel_rfl) ?_
      refine OD.callEq 18 ([Value.int IntKind.i64 mn, Value.int IntKind.i64 1, Value.int IntKind.i64 1000000]) (bond_in _ _ _ _) (by kernel_rfl) (of_decide_eq_true (by kernel_rfl)) (by kernel_rfl) (by kernel_rfl) (by kernel_rfl) ?_
      refine OD.run 1 (by kernel_rfl) ?_
      rcases Bool.eq_false_or_eq_true (within mn 1 1000000) with c20 | c20
      · refine OD.as (Value.bool (within mn 1 1000000)) (Value.bool true) (by kernel_rfl) (of_decide_eq_true (by kernel_rfl)) (by kernel_rfl) (congrArg Value.bool (by exact c20)) ?_
        refine OD.run 4 (by kernel_rfl) ?_
        refine OD.callEq 18 ([Value.int IntKind.i64 mx, Value.int IntKind.i64 mn, Value.int IntKind.i64 1000000]) (bond_in _ _ _ _) (by kernel_rfl) (of_decide_eq_true (by kernel_rfl)) (by kernel_rfl) (by kernel_rfl) (by kernel_rfl) ?_
        refine OD.run 2 (by kernel_rfl) ?_
        refine OD.done (of_decide_eq_true (by kernel_rfl)) ?_
        refine then_n (by kernel_rfl) ?_
        refine Det.seqA (by kernel_rfl) ?_
        refine Det.drawA (by kernel_rfl) hmix hX (by kernel_rfl) (by kernel_rfl) ?_
        refine OD.run 18 (by kernel_rfl) ?_
        refine OD.done (of_decide_eq_true (by kernel_rfl)) ?_
        refine then_n (by kernel_rfl) ?_
        refine Det.retA (by kernel_rfl) ?_
        refine fin_r (Value.bool false) (by kernel_rfl) (by kernel_rfl) ?_
        first | rfl | simp [isF, *]
      · refine OD.as (Value.bool (within mn 1 1000000)) (Value.bool false) (by kernel_rfl) (of_decide_eq_true (by kernel_rfl)) (by kernel_rfl) (congrArg Value.bool (by exact c20)) ?_
        refine OD.run 7 (by kernel_rfl) ?_
        refine OD.done (of_decide_eq_true (by kernel_rfl)) ?_
        refine then_n (by kernel_rfl) ?_
        refine Det.seqA (by kernel_rfl) ?_
        refine Det.drawA (by kernel_rfl) hmix hX (by kernel_rfl) (by kernel_rfl) ?_
        refine OD.run 18 (by kernel_rfl) ?_
        refine OD.done (of_decide_eq_true (by kernel_rfl)) ?_
        refine then_n (by kernel_rfl) ?_
        refine Det.retA (by kernel_rfl) ?_
        refine fin_r (Value.bool false) (by kernel_rfl) (by kernel_rfl) ?_
        first | rfl | simp [isF, *]
    · refine OD.as (Value.bool (within l 1 1000000)) (Value.bool false) (by kernel_rfl) (of_decide_eq_true (by kernel_rfl)) (by kernel_rfl) (congrArg Value.bool (by exact c16)) ?_
      refine OD.run 12 (by kernel_rfl) ?_
      refine OD.done (of_decide_eq_true (by kernel_rfl)) ?_
      refine then_n (by kernel_rfl) ?_
      refine Det.seqA (by kernel_rfl) ?_
      refine Det.drawA (by kernel_rfl) hmix hX (by kernel_rfl) (by kernel_rfl) ?_
      refine OD.run 18 (by kernel_rfl) ?_
      refine OD.done (of_decide_eq_true (by kernel_rfl)) ?_
      refine then_n (by kernel_rfl) ?_
      refine Det.retA (by kernel_rfl) ?_
      refine fin_r (Value.bool false) (by kernel_rfl) (by kernel_rfl) ?_
      first | rfl | simp [isF, *]
theorem ref_Is (t l mn mx lo hi : Int) (hl : Bool) (h : Heap) : DetFn Try.prog 9 [bondV t l mn mx lo hi hl] h fun v h' => v = .bool (isF t l mn mx lo hi) ∧ h' = h := by
  refine DetFn.flat (of_decide_eq_true (by kernel_rfl)) (of_decide_eq_true (by kernel_rfl)) ?_ h
  refine Det.enter Try.func9 (by kernel_rfl) (of_decide_eq_true (by kernel_rfl)) ?_
  refine Det.seqA (by kernel_rfl) ?_
  refine Det.opsA (by kernel_rfl) hX ?_
  refine OD.run 2 (by kernel_rfl) ?_
  refine OD.done (of_decide_eq_true (by kernel_rfl)) ?_
  refine then_n (by kernel_rfl) ?_
  refine Det.seqA (by kernel_rfl) ?_
  refine Det.seqA (by kernel_rfl) ?_
  refine Det.opsA (by kernel_rfl) hX ?_
  refine OD.run 2 (by kernel_rfl) ?_
  refine OD.callEq 19 ([Value.int IntKind.i64 t, Value.int IntKind.i64 1, Value.int IntKind.i64 1000000]) (ref_in _ _ _ _) (by kernel_rfl) (of_decide_eq_true (by kernel_rfl)) (by kernel_rfl) (by kernel_rfl) (by kernel_rfl) ?_
  refine OD.run 1 (by kernel_rfl) ?_
  rcases Bool.eq_false_or_eq_true (within t 1 1000000) with c9 | c9
  · refine OD.as (Value.bool !within t 1 1000000) (Value.bool false) (by kernel_rfl) (of_decide_eq_true (by kernel_rfl)) (by kernel_rfl) (congrArg Value.bool (not_f (by exact c9))) ?_
    refine OD.run 2 (by kernel_rfl) ?_
    refine OD.callEq 19 ([Value.int IntKind.i64 lo, Value.int IntKind.i64 1, Value.int IntKind.i64 1000000]) (ref_in _ _ _ _) (by kernel_rfl) (of_decide_eq_true (by kernel_rfl)) (by kernel_rfl) (by kernel_rfl) (by kernel_rfl) ?_
    refine OD.run 2 (by kernel_rfl) ?_
    rcases Bool.eq_false_or_eq_true (within lo 1 1000000) with c13 | c13
    · refine OD.as (Value.bool !within lo 1 1000000) (Value.bool false) (by kernel_rfl) (of_decide_eq_true (by kernel_rfl)) (by kernel_rfl) (congrArg Value.bool (not_f (by exact c13))) ?_
      refine OD.run 4 (by kernel_rfl) ?_
      refine OD.callEq 19 ([Value.int IntKind.i64 hi, Value.int IntKind.i64 lo, Value.int IntKind.i64 1000000]) (ref_in _ _ _ _) (by kernel_rfl) (of_decide_eq_true (by kernel_rfl)) (by kernel_rfl) (by kernel_rfl) (by kernel_rfl) ?_
      refine OD.run 2 (by kernel_rfl) ?_
      refine OD.done (of_decide_eq_true (by kernel_rfl)) ?_
      refine then_n (by kernel_rfl) ?_
      rcases Bool.eq_false_or_eq_true (within hi lo 1000000) with c18 | c18
      · refine Det.condF (by kernel_rfl) (!within hi lo 1000000) (by kernel_rfl) (not_f (by exact c18)) ?_
        refine Det.skipA (by kernel_rfl) ?_
        refine then_n (by kernel_rfl) ?_
        refine Det.seqA (by kernel_rfl) ?_
        refine Det.seqA (by kernel_rfl) ?_
        refine Det.opsA (by kernel_rfl) hX ?_
        refine OD.run 2 (by kernel_rfl) ?_
        refine OD.callEq 19 ([Value.int IntKind.i64 l, Value.int IntKind.i64 1, Value.int IntKind.i64 1000000]) (ref_in _ _ _ _) (by kernel_rfl) (of_decide_eq_true (by kernel_rfl)) (by kernel_rfl) (by kernel_rfl) (by kernel_rfl) ?_
        refine OD.run 1 (by kernel_rfl) ?_
        rcases Bool.eq_false_or_eq_true (within l 1 1000000) with c27 | c27
        · refine OD.as (Value.bool !within l 1 1000000) (Value.bool false) (by kernel_rfl) (of_decide_eq_true (by kernel_rfl)) (by kernel_rfl) (congrArg Value.bool (not_f (by exact c27))) ?_
          refine OD.run 2 (by kernel_rfl) ?_
          refine OD.callEq 19 ([Value.int IntKind.i64 mn, Value.int IntKind.i64 1, Value.int IntKind.i64 1000000]) (ref_in _ _ _ _) (by kernel_rfl) (of_decide_eq_true (by kernel_rfl)) (by kernel_rfl) (by kernel_rfl) (by kernel_rfl) ?_
          refine OD.run 2 (by kernel_rfl) ?_
          rcases Bool.eq_false_or_eq_true (within mn 1 1000000) with c31 | c31
          · refine OD.as (Value.bool !within mn 1 1000000) (Value.bool false) (by kernel_rfl) (of_decide_eq_true (by kernel_rfl)) (by kernel_rfl) (congrArg Value.bool (not_f (by exact c31))) ?_
            refine OD.run 4 (by kernel_rfl) ?_
            refine OD.callEq 19 ([Value.int IntKind.i64 mx, Value.int IntKind.i64 mn, Value.int IntKind.i64 1000000]) (ref_in _ _ _ _) (by kernel_rfl) (of_decide_eq_true (by kernel_rfl)) (by kernel_rfl) (by kernel_rfl) (by kernel_rfl) ?_
            refine OD.run 2 (by kernel_rfl) ?_
            refine OD.done (of_decide_eq_true (by kernel_rfl)) ?_
            refine then_n (by kernel_rfl) ?_
            rcases Bool.eq_false_or_eq_true (within mx mn 1000000) with c36 | c36
            · refine Det.condF (by kernel_rfl) (!within mx mn 1000000) (by kernel_rfl) (not_f (by exact c36)) ?_
              refine Det.skipA (by kernel_rfl) ?_
              refine then_n (by kernel_rfl) ?_
              refine Det.seqA (by kernel_rfl) ?_
              refine Det.drawA (by kernel_rfl) hmix hX (by kernel_rfl) (by kernel_rfl) ?_
              refine OD.run 6 (by kernel_rfl) ?_
              refine OD.bin BinOp.rem 2 (Value.int IntKind.i64 mx) (Value.int IntKind.i64 l) (Value.int IntKind.i64 (Int.tmod mx l)) (by kernel_rfl) (by kernel_rfl) (of_decide_eq_true (by kernel_rfl)) (by kernel_rfl) (abin_rem (by (refine within_ne (b := 1000000) ?_; with_reducible assumption))) ?_
              refine OD.run 5 (by kernel_rfl) ?_
              refine OD.done (of_decide_eq_true (by kernel_rfl)) ?_
              refine then_n (by kernel_rfl) ?_
              refine Det.retA (by kernel_rfl) ?_
              refine fin_r (Value.bool (decide (mn ≤ IntKind.wrap IntKind.i64 (mx - Int.tmod mx l)))) (by kernel_rfl) (by kernel_rfl) ?_
              first | rfl | simp [isF, *]
            · refine Det.condT (by kernel_rfl) (!within mx mn 1000000) (by kernel_rfl) (not_t (by exact c36)) ?_
              refine Det.seqA (by kernel_rfl) ?_
              refine Det.opsA (by kernel_rfl) hX ?_
              refine OD.run 1 (by kernel_rfl) ?_
              refine OD.done (of_decide_eq_true (by kernel_rfl)) ?_
              refine then_n (by kernel_rfl) ?_
              refine Det.retA (by kernel_rfl) ?_
              refine then_r (by kernel_rfl) ?_
              refine fin_r (Value.bool false) (by kernel_rfl) (by kernel_rfl) ?_
              first | rfl | simp [isF, *]
          · refine OD.as (Value.bool !within mn 1 1000000) (Value.bool true) (by kernel_rfl) (of_decide_eq_true (by kernel_rfl)) (by kernel_rfl) (congrArg Value.bool (not_t (by exact c31))) ?_
            refine OD.run 7 (by kernel_rfl) ?_
            refine OD.done (of_decide_eq_true (by kernel_rfl)) ?_
            refine then_n (by kernel_rfl) ?_
            refine Det.condT (by kernel_rfl) (true) (by kernel_rfl) rfl ?_
            refine Det.seqA (by kernel_rfl) ?_
            refine Det.opsA (by kernel_rfl) hX ?_
            refine OD.run 1 (by kernel_rfl) ?_
            refine OD.done (of_decide_eq_true (by kernel_rfl)) ?_
            refine then_n (by kernel_rfl) ?_
            refine Det.retA (by kernel_rfl) ?_
            refine then_r (by kernel_rfl) ?_
            refine fin_r (Value.bool false) (by kernel_rfl) (by kernel_rfl) ?_
            first | rfl | simp [isF, *]
        · refine OD.as (Value.bool !within l 1 1000000) (Value.bool true) (by kernel_rfl) (of_decide_eq_true (by kernel_rfl)) (by kernel_rfl) (congrArg Value.bool (not_t (by exact c27))) ?_
          refine OD.run 13 (by kernel_rfl) ?_
          refine OD.done (of_decide_eq_true (by kernel_rfl)) ?_
          refine then_n (by kernel_rfl) ?_
          refine Det.condT (by kernel_rfl) (true) (by kernel_rfl) rfl ?_
          refine Det.seqA (by kernel_rfl) ?_
          refine Det.opsA (by kernel_rfl) hX ?_
          refine OD.run 1 (by kernel_rfl) ?_
          refine OD.done (of_decide_eq_true (by kernel_rfl)) ?_
          refine then_n (by kernel_rfl) ?_
          refine Det.retA (by kernel_rfl) ?_
          refine then_r (by kernel_rfl) ?_
          refine fin_r (Value.bool false) (by kernel_rfl) (by kernel_rfl) ?_
          first | rfl | simp [isF, *]
      · refine Det.condT (by kernel_rfl) (!within hi lo 1000000) (by kernel_rfl) (not_t (by exact c18)) ?_
        refine Det.seqA (by kernel_rfl) ?_
        refine Det.opsA (by kernel_rfl) hX ?_
        refine OD.run 1 (by kernel_rfl) ?_
        refine OD.done (of_decide_eq_true (by kernel_rfl)) ?_
        refine then_n (by kernel_rfl) ?_
        refine Det.retA (by kernel_rfl) ?_
        refine then_r (by kernel_rfl) ?_
        refine fin_r (Value.bool false) (by kernel_rfl) (by kernel_rfl) ?_
        first | rfl | simp [isF, *]
    · refine OD.as (Value.bool !within lo 1 1000000) (Value.bool true) (by kernel_rfl) (of_decide_eq_true (by kernel_rfl)) (by kernel_rfl) (congrArg Value.bool (not_t (by exact c13))) ?_
      refine OD.run 7 (by kernel_rfl) ?_
      refine OD.done (of_decide_eq_true (by kernel_rfl)) ?_
      refine then_n (by kernel_rfl) ?_
      refine Det.condT (by kernel_rfl) (true) (by kernel_rfl) rfl ?_
      refine Det.seqA (by kernel_rfl) ?_
      refine Det.opsA (by kernel_rfl) hX ?_
      refine OD.run 1 (by kernel_rfl) ?_
      refine OD.done (of_decide_eq_true (by kernel_rfl)) ?_
      refine then_n (by kernel_rfl) ?_
      refine Det.retA (by kernel_rfl) ?_
      refine then_r (by kernel_rfl) ?_
      refine fin_r (Value.bool false) (by kernel_rfl) (by kernel_rfl) ?_
      first | rfl | simp [isF, *]
  · refine OD.as (Value.bool !within t 1 1000000) (Value.bool true) (by kernel_rfl) (of_decide_eq_true (by kernel_rfl)) (by kernel_rfl) (congrArg Value.bool (not_t (by exact c9))) ?_
    refine OD.run 13 (by kernel_rfl) ?_
    refine OD.done (of_decide_eq_true (by kernel_rfl)) ?_
    refine then_n (by kernel_rfl) ?_
    refine Det.condT (by kernel_rfl) (true) (by kernel_rfl) rfl ?_
    refine Det.seqA (by kernel_rfl) ?_
    refine Det.opsA (by kernel_rfl) hX ?_
    refine OD.run 1 (by kernel_rfl) ?_
    refine OD.done (of_decide_eq_true (by kernel_rfl)) ?_
    refine then_n (by kernel_rfl) ?_
    refine Det.retA (by kernel_rfl) ?_
    refine then_r (by kernel_rfl) ?_
    refine fin_r (Value.bool false) (by kernel_rfl) (by kernel_rfl) ?_
    first | rfl | simp [isF, *]
end Go.Proofs.Ytojigodoongdcaa.Eng
