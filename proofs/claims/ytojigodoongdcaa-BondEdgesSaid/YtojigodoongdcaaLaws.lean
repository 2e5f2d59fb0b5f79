/- The laws of chapter 12, over the engine's memory. No conditions. -/
import Derived.Test.YtojigodoongdcaaEngLaw
import Derived.Test.YtojigodoongdcaaWalk
namespace Go.Proofs.Ytojigodoongdcaa.Eng
open Go Go.Proofs
set_option maxRecDepth 100000
set_option maxHeartbeats 4000000
set_option linter.unusedVariables false
theorem known_ok (h : Heap) : DetFn Try.prog 10 [] h fun v h' => v = .bool true ∧ h' = h :=
  DetFn.flat (of_decide_eq_true (by kernel_rfl)) (of_decide_eq_true (by kernel_rfl)) (DetFn.of_evFst (k := 100) hmix hX (by kernel_rfl)) h
/-- what is wrong with a price and a quantity -/
def checkF (t l mn mx lo hi : Int) (hl : Bool) (p q : Int) : Int := if hl then 6 else if priceF t lo hi p = 0 then qtyF l mn mx q else priceF t lo hi p
theorem bond_Check (t l mn mx lo hi : Int) (hl : Bool) (p q : Int) (ht : t ≠ 0) (hl0 : l ≠ 0) (h : Heap) :
    DetFn Try.prog 16 [bondV t l mn mx lo hi hl, .int .i64 p, .int .i64 q] h fun v h' => v = .int .i64 (checkF t l mn mx lo hi hl p q) ∧ h' = h := by
  refine DetFn.flat (of_decide_eq_true (by kernel_rfl)) (of_decide_eq_true (by kernel_rfl)) ?_ h
  refine Det.enter Try.func16 (by kernel_rfl) (of_decide_eq_true (by kernel_rfl)) ?_
  refine Det.seqA (by kernel_rfl) ?_
  refine Det.opsA (by kernel_rfl) hX ?_
  refine OD.run 2 (by kernel_rfl) ?_
  refine OD.done (of_decide_eq_true (by kernel_rfl)) ?_
  refine then_n (by kernel_rfl) ?_
  refine Det.seqA (by kernel_rfl) ?_
  refine Det.seqA (by kernel_rfl) ?_
  refine Det.opsA (by kernel_rfl) hX ?_
  refine OD.run 2 (by kernel_rfl) ?_
  refine OD.done (of_decide_eq_true (by kernel_rfl)) ?_
  refine then_n (by kernel_rfl) ?_
  rcases Bool.eq_false_or_eq_true (hl) with c9 | c9
  · refine Det.condT (by kernel_rfl) (hl) (by kernel_rfl) (by exact c9) ?_
    refine Det.seqA (by kernel_rfl) ?_
    refine Det.opsA (by kernel_rfl) hX ?_
    refine OD.run 1 (by kernel_rfl) ?_
    refine OD.done (of_decide_eq_true (by kernel_rfl)) ?_
    refine then_n (by kernel_rfl) ?_
    refine Det.retA (by kernel_rfl) ?_
    refine then_r (by kernel_rfl) ?_
    refine fin_r (Value.int IntKind.i64 6) (by kernel_rfl) (by kernel_rfl) ?_
    first | rfl | simp [checkF, *]
  · refine Det.condF (by kernel_rfl) (hl) (by kernel_rfl) (by exact c9) ?_
    refine Det.skipA (by kernel_rfl) ?_
    refine then_n (by kernel_rfl) ?_
    refine Det.seqA (by kernel_rfl) ?_
    refine Det.seqA (by kernel_rfl) ?_
    refine Det.opsA (by kernel_rfl) hX ?_
    refine OD.run 2 (by kernel_rfl) ?_
    refine OD.callEq 13 ([Value.agg #[Value.int IntKind.i64 t, Value.int IntKind.i64 l, Value.int IntKind.i64 mn, Value.int IntKind.i64 mx, Value.int IntKind.i64 lo, Value.int IntKind.i64 hi, Value.bool hl], Value.int IntKind.i64 p]) (bond_Price _ _ _ _ _ _ _ _ ht _) (by kernel_rfl) (of_decide_eq_true (by kernel_rfl)) (by kernel_rfl) (by kernel_rfl) (by kernel_rfl) ?_
    refine OD.run 1 (by kernel_rfl) ?_
    refine OD.done (of_decide_eq_true (by kernel_rfl)) ?_
    refine then_n (by kernel_rfl) ?_
    refine Det.seqA (by kernel_rfl) ?_
    refine Det.opsA (by kernel_rfl) hX ?_
    refine OD.run 2 (by kernel_rfl) ?_
    refine OD.done (of_decide_eq_true (by kernel_rfl)) ?_
    refine then_n (by kernel_rfl) ?_
    by_cases c23 : priceF t lo hi p = 0
    · refine Det.condF (by kernel_rfl) (priceF t lo hi p != 0) (by kernel_rfl) (bne_eq_false_iff_eq.2 (by exact c23)) ?_
      refine Det.skipA (by kernel_rfl) ?_
      refine then_n (by kernel_rfl) ?_
      refine Det.seqA (by kernel_rfl) ?_
      refine Det.opsA (by kernel_rfl) hX ?_
      refine OD.run 2 (by kernel_rfl) ?_
      refine OD.callEq 11 ([Value.agg #[Value.int IntKind.i64 t, Value.int IntKind.i64 l, Value.int IntKind.i64 mn, Value.int IntKind.i64 mx, Value.int IntKind.i64 lo, Value.int IntKind.i64 hi, Value.bool hl], Value.int IntKind.i64 q]) (bond_Qty _ _ _ _ _ _ _ _ hl0 _) (by kernel_rfl) (of_decide_eq_true (by kernel_rfl)) (by kernel_rfl) (by kernel_rfl) (by kernel_rfl) ?_
      refine OD.run 1 (by kernel_rfl) ?_
      refine OD.done (of_decide_eq_true (by kernel_rfl)) ?_
      refine then_n (by kernel_rfl) ?_
      refine Det.retA (by kernel_rfl) ?_
      refine fin_r (Value.int IntKind.i64 (qtyF l mn mx q)) (by kernel_rfl) (by kernel_rfl) ?_
      first | rfl | simp [checkF, *]
    · refine Det.condT (by kernel_rfl) (priceF t lo hi p != 0) (by kernel_rfl) (bne_iff_ne.2 (by exact c23)) ?_
      refine Det.seqA (by kernel_rfl) ?_
      refine Det.opsA (by kernel_rfl) hX ?_
      refine OD.run 2 (by kernel_rfl) ?_
      refine OD.done (of_decide_eq_true (by kernel_rfl)) ?_
      refine then_n (by kernel_rfl) ?_
      refine Det.retA (by kernel_rfl) ?_
      refine then_r (by kernel_rfl) ?_
      refine fin_r (Value.int IntKind.i64 (priceF t lo hi p)) (by kernel_rfl) (by kernel_rfl) ?_
      first | rfl | simp [checkF, *]
theorem ref_Check (t l mn mx lo hi : Int) (hl : Bool) (p q : Int) (ht : t ≠ 0) (hl0 : l ≠ 0) (h : Heap) :
    DetFn Try.prog 17 [bondV t l mn mx lo hi hl, .int .i64 p, .int .i64 q] h fun v h' => v = .int .i64 (checkF t l mn mx lo hi hl p q) ∧ h' = h := by
  refine DetFn.flat (of_decide_eq_true (by kernel_rfl)) (of_decide_eq_true (by kernel_rfl)) ?_ h
  refine Det.enter Try.func17 (by kernel_rfl) (of_decide_eq_true (by kernel_rfl)) ?_
  refine Det.seqA (by kernel_rfl) ?_
  refine Det.opsA (by kernel_rfl) hX ?_
  refine OD.run 2 (by kernel_rfl) ?_
  refine OD.done (of_decide_eq_true (by kernel_rfl)) ?_
  refine then_n (by kernel_rfl) ?_
  refine Det.seqA (by kernel_rfl) ?_
  refine Det.seqA (by kernel_rfl) ?_
  refine Det.opsA (by kernel_rfl) hX ?_
  refine OD.run 2 (by kernel_rfl) ?_
  refine OD.done (of_decide_eq_true (by kernel_rfl)) ?_
  refine then_n (by kernel_rfl) ?_
  rcases Bool.eq_false_or_eq_true (hl) with c9 | c9
  · refine Det.condT (by kernel_rfl) (hl) (by kernel_rfl) (by exact c9) ?_
    refine Det.seqA (by kernel_rfl) ?_
    refine Det.opsA (by kernel_rfl) hX ?_
    refine OD.run 1 (by kernel_rfl) ?_
    refine OD.done (of_decide_eq_true (by kernel_rfl)) ?_
    refine then_n (by kernel_rfl) ?_
    refine Det.retA (by kernel_rfl) ?_
    refine then_r (by kernel_rfl) ?_
    refine fin_r (Value.int IntKind.i64 6) (by kernel_rfl) (by kernel_rfl) ?_
    first | rfl | simp [checkF, *]
  · refine Det.condF (by kernel_rfl) (hl) (by kernel_rfl) (by exact c9) ?_
    refine Det.skipA (by kernel_rfl) ?_
    refine then_n (by kernel_rfl) ?_
    refine Det.seqA (by kernel_rfl) ?_
    refine Det.opsA (by kernel_rfl) hX ?_
    refine OD.run 2 (by kernel_rfl) ?_
    refine OD.callEq 14 ([Value.agg #[Value.int IntKind.i64 t, Value.int IntKind.i64 l, Value.int IntKind.i64 mn, Value.int IntKind.i64 mx, Value.int IntKind.i64 lo, Value.int IntKind.i64 hi, Value.bool hl], Value.int IntKind.i64 p]) (ref_Price _ _ _ _ _ _ _ _ ht _) (by kernel_rfl) (of_decide_eq_true (by kernel_rfl)) (by kernel_rfl) (by kernel_rfl) (by kernel_rfl) ?_
    refine OD.run 1 (by kernel_rfl) ?_
    refine OD.done (of_decide_eq_true (by kernel_rfl)) ?_
    refine then_n (by kernel_rfl) ?_
    refine Det.seqA (by kernel_rfl) ?_
    refine Det.seqA (by kernel_rfl) ?_
    refine Det.opsA (by kernel_rfl) hX ?_
    refine OD.run 2 (by kernel_rfl) ?_
    refine OD.done (of_decide_eq_true (by kernel_rfl)) ?_
    refine then_n (by kernel_rfl) ?_
    by_cases c23 : priceF t lo hi p = 0
    · refine Det.condT (by kernel_rfl) (priceF t lo hi p == 0) (by kernel_rfl) (beq_iff_eq.2 (by exact c23)) ?_
      refine Det.opsA (by kernel_rfl) hX ?_
      refine OD.run 2 (by kernel_rfl) ?_
      refine OD.callEq 15 ([Value.agg #[Value.int IntKind.i64 t, Value.int IntKind.i64 l, Value.int IntKind.i64 mn, Value.int IntKind.i64 mx, Value.int IntKind.i64 lo, Value.int IntKind.i64 hi, Value.bool hl], Value.int IntKind.i64 q]) (ref_Qty _ _ _ _ _ _ _ _ hl0 _) (by kernel_rfl) (of_decide_eq_true (by kernel_rfl)) (by kernel_rfl) (by kernel_rfl) (by kernel_rfl) ?_
      refine OD.run 1 (by kernel_rfl) ?_
      refine OD.done (of_decide_eq_true (by kernel_rfl)) ?_
      refine then_n (by kernel_rfl) ?_
      refine Det.seqA (by kernel_rfl) ?_
      refine Det.opsA (by kernel_rfl) hX ?_
      refine OD.run 2 (by kernel_rfl) ?_
      refine OD.done (of_decide_eq_true (by kernel_rfl)) ?_
      refine then_n (by kernel_rfl) ?_
      refine Det.retA (by kernel_rfl) ?_
      refine fin_r (Value.int IntKind.i64 (qtyF l mn mx q)) (by kernel_rfl) (by kernel_rfl) ?_
      first | rfl | simp [checkF, *]
    · refine Det.condF (by kernel_rfl) (priceF t lo hi p == 0) (by kernel_rfl) (beq_eq_false_iff_ne.2 (by exact c23)) ?_
      refine Det.skipA (by kernel_rfl) ?_
      refine then_n (by kernel_rfl) ?_
      refine Det.seqA (by kernel_rfl) ?_
      refine Det.opsA (by kernel_rfl) hX ?_
      refine OD.run 2 (by kernel_rfl) ?_
      refine OD.done (of_decide_eq_true (by kernel_rfl)) ?_
      refine then_n (by kernel_rfl) ?_
      refine Det.retA (by kernel_rfl) ?_
      refine fin_r (Value.int IntKind.i64 (priceF t lo hi p)) (by kernel_rfl) (by kernel_rfl) ?_
      first | rfl | simp [checkF, *]
/-- what a bond that may be has -/
theorem isF_t {t l mn mx lo hi : Int} (h : isF t l mn mx lo hi = true) : t ≠ 0 ∧ l ≠ 0 := by
  simp only [isF, Bool.and_eq_true] at h
  exact ⟨within_ne h.1.1.1.1.1.1, within_ne h.1.1.1.2⟩
theorem law_BondTells (t l mn mx lo hi : Int) (hl : Bool) (p q : Int) : DetFn Try.prog 6 [bondV t l mn mx lo hi hl, .int .i64 p, .int .i64 q] Heap.empty fun v _ => v = .bool true := by
  refine Det.enter Try.func6 (by kernel_rfl) (of_decide_eq_true (by kernel_rfl)) ?_
  rcases Bool.eq_false_or_eq_true (isF t l mn mx lo hi) with hi0 | hi0
  · have ht := (isF_t hi0).1
    have hl0 := (isF_t hi0).2
    refine Det.seqA (by kernel_rfl) ?_
    refine Det.opsA (by kernel_rfl) hX ?_
    refine OD.run 2 (by kernel_rfl) ?_
    refine OD.done (of_decide_eq_true (by kernel_rfl)) ?_
    refine then_n (by kernel_rfl) ?_
    refine Det.seqA (by kernel_rfl) ?_
    refine Det.opsA (by kernel_rfl) hX ?_
    refine OD.run 1 (by kernel_rfl) ?_
    refine OD.callEq 9 ([Value.agg #[Value.int IntKind.i64 t, Value.int IntKind.i64 l, Value.int IntKind.i64 mn, Value.int IntKind.i64 mx, Value.int IntKind.i64 lo, Value.int IntKind.i64 hi, Value.bool hl]]) (ref_Is _ _ _ _ _ _ _ _) (by kernel_rfl) (of_decide_eq_true (by kernel_rfl)) (by kernel_rfl) (by kernel_rfl) (by kernel_rfl) ?_
    refine OD.as (Value.bool (isF t l mn mx lo hi)) (Value.bool true) (by kernel_rfl) (of_decide_eq_true (by kernel_rfl)) (by kernel_rfl) (congrArg Value.bool (by exact hi0)) ?_
    refine OD.done (of_decide_eq_true (by kernel_rfl)) ?_
    refine then_n (by kernel_rfl) ?_
    refine Det.seqA (by kernel_rfl) ?_
    refine Det.seqA (by kernel_rfl) ?_
    refine Det.opsA (by kernel_rfl) hX ?_
    refine OD.run 1 (by kernel_rfl) ?_
    refine OD.callEq 8 ([Value.agg #[Value.int IntKind.i64 t, Value.int IntKind.i64 l, Value.int IntKind.i64 mn, Value.int IntKind.i64 mx, Value.int IntKind.i64 lo, Value.int IntKind.i64 hi, Value.bool hl]]) (bond_Is _ _ _ _ _ _ _ _) (by kernel_rfl) (of_decide_eq_true (by kernel_rfl)) (by kernel_rfl) (by kernel_rfl) (by kernel_rfl) ?_
    refine OD.run 1 (by kernel_rfl) ?_
    refine OD.as (Value.bool !isF t l mn mx lo hi == true) (Value.bool false) (by kernel_rfl) (of_decide_eq_true (by kernel_rfl)) (by kernel_rfl) (congrArg Value.bool (not_f (beqB (a := true) (b := true) (by exact hi0) rfl rfl))) ?_
    refine OD.done (of_decide_eq_true (by kernel_rfl)) ?_
    refine then_n (by kernel_rfl) ?_
    refine Det.condF (by kernel_rfl) (false) (by kernel_rfl) rfl ?_
    refine Det.skipA (by kernel_rfl) ?_
    refine then_n (by kernel_rfl) ?_
    refine Det.seqA (by kernel_rfl) ?_
    refine Det.drawB (by kernel_rfl) hmix hX (by kernel_rfl) ?_
    refine OD.run 5 (by kernel_rfl) ?_
    refine OD.callEq 13 ([Value.agg #[Value.int IntKind.i64 t, Value.int IntKind.i64 l, Value.int IntKind.i64 mn, Value.int IntKind.i64 mx, Value.int IntKind.i64 lo, Value.int IntKind.i64 hi, Value.bool hl], Value.int IntKind.i64 p]) (bond_Price _ _ _ _ _ _ _ _ ht _) (by kernel_rfl) (of_decide_eq_true (by kernel_rfl)) (by kernel_rfl) (by kernel_rfl) (by kernel_rfl) ?_
    refine OD.run 2 (by kernel_rfl) ?_
    refine OD.callEq 14 ([Value.agg #[Value.int IntKind.i64 t, Value.int IntKind.i64 l, Value.int IntKind.i64 mn, Value.int IntKind.i64 mx, Value.int IntKind.i64 lo, Value.int IntKind.i64 hi, Value.bool hl], Value.int IntKind.i64 p]) (ref_Price _ _ _ _ _ _ _ _ ht _) (by kernel_rfl) (of_decide_eq_true (by kernel_rfl)) (by kernel_rfl) (by kernel_rfl) (by kernel_rfl) ?_
    refine OD.as (Value.bool (priceF t lo hi p == priceF t lo hi p)) (Value.bool true) (by kernel_rfl) (of_decide_eq_true (by kernel_rfl)) (by kernel_rfl) (congrArg Value.bool (beq_iff_eq.2 (by rfl))) ?_
    refine OD.run 3 (by kernel_rfl) ?_
    refine OD.callEq 11 ([Value.agg #[Value.int IntKind.i64 t, Value.int IntKind.i64 l, Value.int IntKind.i64 mn, Value.int IntKind.i64 mx, Value.int IntKind.i64 lo, Value.int IntKind.i64 hi, Value.bool hl], Value.int IntKind.i64 q]) (bond_Qty _ _ _ _ _ _ _ _ hl0 _) (by kernel_rfl) (of_decide_eq_true (by kernel_rfl)) (by kernel_rfl) (by kernel_rfl) (by kernel_rfl) ?_
    refine OD.run 2 (by kernel_rfl) ?_
    refine OD.callEq 15 ([Value.agg #[Value.int IntKind.i64 t, Value.int IntKind.i64 l, Value.int IntKind.i64 mn, Value.int IntKind.i64 mx, Value.int IntKind.i64 lo, Value.int IntKind.i64 hi, Value.bool hl], Value.int IntKind.i64 q]) (ref_Qty _ _ _ _ _ _ _ _ hl0 _) (by kernel_rfl) (of_decide_eq_true (by kernel_rfl)) (by kernel_rfl) (by kernel_rfl) (by kernel_rfl) ?_
    refine OD.as (Value.bool (qtyF l mn mx q == qtyF l mn mx q)) (Value.bool true) (by kernel_rfl) (of_decide_eq_true (by kernel_rfl)) (by kernel_rfl) (congrArg Value.bool (beq_iff_eq.2 (by rfl))) ?_
    refine OD.run 5 (by kernel_rfl) ?_
    refine OD.callEq 16 ([Value.agg #[Value.int IntKind.i64 t, Value.int IntKind.i64 l, Value.int IntKind.i64 mn, Value.int IntKind.i64 mx, Value.int IntKind.i64 lo, Value.int IntKind.i64 hi, Value.bool hl], Value.int IntKind.i64 p, Value.int IntKind.i64 q]) (bond_Check _ _ _ _ _ _ _ _ _ ht hl0 _) (by kernel_rfl) (of_decide_eq_true (by kernel_rfl)) (by kernel_rfl) (by kernel_rfl) (by kernel_rfl) ?_
    refine OD.run 3 (by kernel_rfl) ?_
    refine OD.callEq 17 ([Value.agg #[Value.int IntKind.i64 t, Value.int IntKind.i64 l, Value.int IntKind.i64 mn, Value.int IntKind.i64 mx, Value.int IntKind.i64 lo, Value.int IntKind.i64 hi, Value.bool hl], Value.int IntKind.i64 p, Value.int IntKind.i64 q]) (ref_Check _ _ _ _ _ _ _ _ _ ht hl0 _) (by kernel_rfl) (of_decide_eq_true (by kernel_rfl)) (by kernel_rfl) (by kernel_rfl) (by kernel_rfl) ?_
    refine OD.as (Value.bool (checkF t l mn mx lo hi hl p q == checkF t l mn mx lo hi hl p q)) (Value.bool true) (by kernel_rfl) (of_decide_eq_true (by kernel_rfl)) (by kernel_rfl) (congrArg Value.bool (beq_iff_eq.2 (by rfl))) ?_
    refine OD.run 3 (by kernel_rfl) ?_
    refine OD.callEq 10 ([]) (known_ok _) (by kernel_rfl) (of_decide_eq_true (by kernel_rfl)) (by kernel_rfl) (by kernel_rfl) (by kernel_rfl) ?_
    refine OD.run 2 (by kernel_rfl) ?_
    refine OD.done (of_decide_eq_true (by kernel_rfl)) ?_
    refine ⟨by kernel_rfl, ?_⟩
    refine then_n (by kernel_rfl) ?_
    refine Det.retA (by kernel_rfl) ?_
    refine fin_r (Value.bool true) (by kernel_rfl) (by kernel_rfl) ?_
    rfl
  · skip
    refine Det.seqA (by kernel_rfl) ?_
    refine Det.opsA (by kernel_rfl) hX ?_
    refine OD.run 2 (by kernel_rfl) ?_
    refine OD.done (of_decide_eq_true (by kernel_rfl)) ?_
    refine then_n (by kernel_rfl) ?_
    refine Det.seqA (by kernel_rfl) ?_
    refine Det.opsA (by kernel_rfl) hX ?_
    refine OD.run 1 (by kernel_rfl) ?_
    refine OD.callEq 9 ([Value.agg #[Value.int IntKind.i64 t, Value.int IntKind.i64 l, Value.int IntKind.i64 mn, Value.int IntKind.i64 mx, Value.int IntKind.i64 lo, Value.int IntKind.i64 hi, Value.bool hl]]) (ref_Is _ _ _ _ _ _ _ _) (by kernel_rfl) (of_decide_eq_true (by kernel_rfl)) (by kernel_rfl) (by kernel_rfl) (by kernel_rfl) ?_
    refine OD.as (Value.bool (isF t l mn mx lo hi)) (Value.bool false) (by kernel_rfl) (of_decide_eq_true (by kernel_rfl)) (by kernel_rfl) (congrArg Value.bool (by exact hi0)) ?_
    refine OD.done (of_decide_eq_true (by kernel_rfl)) ?_
    refine then_n (by kernel_rfl) ?_
    refine Det.seqA (by kernel_rfl) ?_
    refine Det.seqA (by kernel_rfl) ?_
    refine Det.opsA (by kernel_rfl) hX ?_
    refine OD.run 1 (by kernel_rfl) ?_
    refine OD.callEq 8 ([Value.agg #[Value.int IntKind.i64 t, Value.int IntKind.i64 l, Value.int IntKind.i64 mn, Value.int IntKind.i64 mx, Value.int IntKind.i64 lo, Value.int IntKind.i64 hi, Value.bool hl]]) (bond_Is _ _ _ _ _ _ _ _) (by kernel_rfl) (of_decide_eq_true (by kernel_rfl)) (by kernel_rfl) (by kernel_rfl) (by kernel_rfl) ?_
    refine OD.run 1 (by kernel_rfl) ?_
    refine OD.as (Value.bool !isF t l mn mx lo hi == false) (Value.bool false) (by kernel_rfl) (of_decide_eq_true (by kernel_rfl)) (by kernel_rfl) (congrArg Value.bool (not_f (beqB (a := false) (b := false) (by exact hi0) rfl rfl))) ?_
    refine OD.done (of_decide_eq_true (by kernel_rfl)) ?_
    refine then_n (by kernel_rfl) ?_
    refine Det.condF (by kernel_rfl) (false) (by kernel_rfl) rfl ?_
    refine Det.skipA (by kernel_rfl) ?_
    refine then_n (by kernel_rfl) ?_
    refine Det.seqA (by kernel_rfl) ?_
    refine Det.drawB (by kernel_rfl) hmix hX (by kernel_rfl) ?_
    refine OD.run 32 (by kernel_rfl) ?_
    refine OD.callEq 10 ([]) (known_ok _) (by kernel_rfl) (of_decide_eq_true (by kernel_rfl)) (by kernel_rfl) (by kernel_rfl) (by kernel_rfl) ?_
    refine OD.run 2 (by kernel_rfl) ?_
    refine OD.done (of_decide_eq_true (by kernel_rfl)) ?_
    refine ⟨by kernel_rfl, ?_⟩
    refine then_n (by kernel_rfl) ?_
    refine Det.retA (by kernel_rfl) ?_
    refine fin_r (Value.bool true) (by kernel_rfl) (by kernel_rfl) ?_
    rfl
theorem checkF_halt (t l mn mx lo hi p q : Int) : checkF t l mn mx lo hi true p q = 6 := by simp [checkF]
theorem checkF_ok {t l mn mx lo hi p q : Int} {hl : Bool} (h : checkF t l mn mx lo hi hl p q = 0) : lo ≤ p ∧ p ≤ hi ∧ p.tmod t = 0 ∧ mn ≤ q ∧ q ≤ mx ∧ q.tmod l = 0 := by
  unfold checkF priceF qtyF within at h
  cases hl
  · simp only [Bool.and_eq_true, decide_eq_true_eq] at h
    by_cases h1 : lo ≤ p ∧ p ≤ hi
    · by_cases h2 : p.tmod t = 0
      · simp only [h1, h2, and_self, if_true] at h
        by_cases h3 : mn ≤ q ∧ q ≤ mx
        · by_cases h4 : q.tmod l = 0
          · exact ⟨h1.1, h1.2, h2, h3.1, h3.2, h4⟩
          · simp [h3, h4] at h
        · simp [h3] at h
      · simp [h1, h2] at h
    · simp [h1] at h
  · simp at h
theorem checkF_no {t l mn mx lo hi p q : Int} (h : ¬ checkF t l mn mx lo hi false p q = 0) (hp : priceF t lo hi p = 0) : ¬ qtyF l mn mx q = 0 := by
  intro hq; exact h (by simp [checkF, hp, hq])
theorem isF_in {t l mn mx lo hi : Int} (h : isF t l mn mx lo hi = true) : 1 ≤ lo ∧ hi ≤ 1000000 ∧ 1 ≤ mn ∧ mx ≤ 1000000 ∧ 1 ≤ l := by
  simp only [isF, within, Bool.and_eq_true, decide_eq_true_eq] at h
  omega
theorem law_BondWell (t l mn mx lo hi : Int) (hl : Bool) (p q : Int) : DetFn Try.prog 7 [bondV t l mn mx lo hi hl, .int .i64 p, .int .i64 q] Heap.empty fun v _ => v = .bool true := by
  refine Det.enter Try.func7 (by kernel_rfl) (of_decide_eq_true (by kernel_rfl)) ?_
  rcases Bool.eq_false_or_eq_true (isF t l mn mx lo hi) with hi0 | hi0
  · have ht := (isF_t hi0).1
    have hl0 := (isF_t hi0).2
    have hin := isF_in hi0
    have hh := checkF_halt t l mn mx lo hi p q
    by_cases hc : checkF t l mn mx lo hi hl p q = 0
    · have ho := checkF_ok hc
      obtain ⟨o1, o2, o3, o4, o5, o6⟩ := ho
      obtain ⟨i1, i2, i3, i4, i5⟩ := hin
      refine Det.seqA (by kernel_rfl) ?_
      refine Det.opsA (by kernel_rfl) hX ?_
      refine OD.run 2 (by kernel_rfl) ?_
      refine OD.done (of_decide_eq_true (by kernel_rfl)) ?_
      refine then_n (by kernel_rfl) ?_
      refine Det.seqA (by kernel_rfl) ?_
      refine Det.seqA (by kernel_rfl) ?_
      refine Det.opsA (by kernel_rfl) hX ?_
      refine OD.run 1 (by kernel_rfl) ?_
      refine OD.callEq 9 ([Value.agg #[Value.int IntKind.i64 t, Value.int IntKind.i64 l, Value.int IntKind.i64 mn, Value.int IntKind.i64 mx, Value.int IntKind.i64 lo, Value.int IntKind.i64 hi, Value.bool hl]]) (ref_Is _ _ _ _ _ _ _ _) (by kernel_rfl) (of_decide_eq_true (by kernel_rfl)) (by kernel_rfl) (by kernel_rfl) (by kernel_rfl) ?_
      refine OD.as (Value.bool !isF t l mn mx lo hi) (Value.bool false) (by kernel_rfl) (of_decide_eq_true (by kernel_rfl)) (by kernel_rfl) (congrArg Value.bool (not_f (by exact hi0))) ?_
      refine OD.done (of_decide_eq_true (by kernel_rfl)) ?_
      refine then_n (by kernel_rfl) ?_
      refine Det.condF (by kernel_rfl) (false) (by kernel_rfl) rfl ?_
      refine Det.skipA (by kernel_rfl) ?_
      refine then_n (by kernel_rfl) ?_
      refine Det.seqA (by kernel_rfl) ?_
      refine Det.opsA (by kernel_rfl) hX ?_
      refine OD.run 3 (by kernel_rfl) ?_
      refine OD.done (of_decide_eq_true (by kernel_rfl)) ?_
      refine then_n (by kernel_rfl) ?_
      refine Det.seqA (by kernel_rfl) ?_
      refine Det.opsA (by kernel_rfl) hX ?_
      refine OD.run 2 (by kernel_rfl) ?_
      refine OD.done (of_decide_eq_true (by kernel_rfl)) ?_
      refine then_n (by kernel_rfl) ?_
      refine Det.seqA (by kernel_rfl) ?_
      refine Det.seqA (by kernel_rfl) ?_
      refine Det.opsA (by kernel_rfl) hX ?_
      refine OD.run 3 (by kernel_rfl) ?_
      refine OD.callEq 16 ([Value.agg #[Value.int IntKind.i64 t, Value.int IntKind.i64 l, Value.int IntKind.i64 mn, Value.int IntKind.i64 mx, Value.int IntKind.i64 lo, Value.int IntKind.i64 hi, Value.bool true], Value.int IntKind.i64 p, Value.int IntKind.i64 q]) (bond_Check _ _ _ _ _ _ _ _ _ ht hl0 _) (by kernel_rfl) (of_decide_eq_true (by kernel_rfl)) (by kernel_rfl) (by kernel_rfl) (by kernel_rfl) ?_
      refine OD.as (Value.bool (checkF t l mn mx lo hi true p q != 6)) (Value.bool false) (by kernel_rfl) (of_decide_eq_true (by kernel_rfl)) (by kernel_rfl) (congrArg Value.bool (bne_eq_false_iff_eq.2 (by exact hh))) ?_
      refine OD.done (of_decide_eq_true (by kernel_rfl)) ?_
      refine then_n (by kernel_rfl) ?_
      refine Det.condF (by kernel_rfl) (false) (by kernel_rfl) rfl ?_
      refine Det.skipA (by kernel_rfl) ?_
      refine then_n (by kernel_rfl) ?_
      refine Det.seqA (by kernel_rfl) ?_
      refine Det.seqA (by kernel_rfl) ?_
      refine Det.opsA (by kernel_rfl) hX ?_
      refine OD.run 3 (by kernel_rfl) ?_
      refine OD.callEq 16 ([Value.agg #[Value.int IntKind.i64 t, Value.int IntKind.i64 l, Value.int IntKind.i64 mn, Value.int IntKind.i64 mx, Value.int IntKind.i64 lo, Value.int IntKind.i64 hi, Value.bool hl], Value.int IntKind.i64 p, Value.int IntKind.i64 q]) (bond_Check _ _ _ _ _ _ _ _ _ ht hl0 _) (by kernel_rfl) (of_decide_eq_true (by kernel_rfl)) (by kernel_rfl) (by kernel_rfl) (by kernel_rfl) ?_
      refine OD.as (Value.bool (checkF t l mn mx lo hi hl p q != 0)) (Value.bool false) (by kernel_rfl) (of_decide_eq_true (by kernel_rfl)) (by kernel_rfl) (congrArg Value.bool (bne_eq_false_iff_eq.2 (by exact hc))) ?_
      refine OD.done (of_decide_eq_true (by kernel_rfl)) ?_
      refine then_n (by kernel_rfl) ?_
      refine Det.condF (by kernel_rfl) (false) (by kernel_rfl) rfl ?_
      refine Det.skipA (by kernel_rfl) ?_
      refine then_n (by kernel_rfl) ?_
      refine Det.seqA (by kernel_rfl) ?_
      refine Det.opsA (by kernel_rfl) hX ?_
      refine OD.run 3 (by kernel_rfl) ?_
      refine OD.as (Value.bool (decide (lo ≤ p))) (Value.bool true) (by kernel_rfl) (of_decide_eq_true (by kernel_rfl)) (by kernel_rfl) (congrArg Value.bool (decide_eq_true (by exact o1))) ?_
      refine OD.run 4 (by kernel_rfl) ?_
      refine OD.as (Value.bool (decide (p ≤ hi))) (Value.bool true) (by kernel_rfl) (of_decide_eq_true (by kernel_rfl)) (by kernel_rfl) (congrArg Value.bool (decide_eq_true (by exact o2))) ?_
      refine OD.run 5 (by kernel_rfl) ?_
      refine OD.bin BinOp.rem 2 (Value.int IntKind.i64 p) (Value.int IntKind.i64 t) (Value.int IntKind.i64 (Int.tmod p t)) (by kernel_rfl) (by kernel_rfl) (of_decide_eq_true (by kernel_rfl)) (by kernel_rfl) (abin_rem (by exact ht)) ?_
      refine OD.as (Value.bool (Int.tmod p t == 0)) (Value.bool true) (by kernel_rfl) (of_decide_eq_true (by kernel_rfl)) (by kernel_rfl) (congrArg Value.bool (beq_iff_eq.2 (by exact o3))) ?_
      refine OD.run 5 (by kernel_rfl) ?_
      refine OD.as (Value.bool (decide (mn ≤ q))) (Value.bool true) (by kernel_rfl) (of_decide_eq_true (by kernel_rfl)) (by kernel_rfl) (congrArg Value.bool (decide_eq_true (by exact o4))) ?_
      refine OD.run 5 (by kernel_rfl) ?_
      refine OD.as (Value.bool (decide (q ≤ mx))) (Value.bool true) (by kernel_rfl) (of_decide_eq_true (by kernel_rfl)) (by kernel_rfl) (congrArg Value.bool (decide_eq_true (by exact o5))) ?_
      refine OD.run 5 (by kernel_rfl) ?_
      refine OD.bin BinOp.rem 2 (Value.int IntKind.i64 q) (Value.int IntKind.i64 l) (Value.int IntKind.i64 (Int.tmod q l)) (by kernel_rfl) (by kernel_rfl) (of_decide_eq_true (by kernel_rfl)) (by kernel_rfl) (abin_rem (by exact hl0)) ?_
      refine OD.as (Value.bool (Int.tmod q l == 0)) (Value.bool true) (by kernel_rfl) (of_decide_eq_true (by kernel_rfl)) (by kernel_rfl) (congrArg Value.bool (beq_iff_eq.2 (by exact o6))) ?_
      refine OD.run 3 (by kernel_rfl) ?_
      refine OD.as (Value.bool (decide (1 ≤ p))) (Value.bool true) (by kernel_rfl) (of_decide_eq_true (by kernel_rfl)) (by kernel_rfl) (congrArg Value.bool (decide_eq_true (by omega))) ?_
      refine OD.run 3 (by kernel_rfl) ?_
      refine OD.as (Value.bool (decide (1 ≤ q))) (Value.bool true) (by kernel_rfl) (of_decide_eq_true (by kernel_rfl)) (by kernel_rfl) (congrArg Value.bool (decide_eq_true (by omega))) ?_
      refine OD.run 3 (by kernel_rfl) ?_
      refine OD.as (Value.bool (decide (p ≤ 1000000))) (Value.bool true) (by kernel_rfl) (of_decide_eq_true (by kernel_rfl)) (by kernel_rfl) (congrArg Value.bool (decide_eq_true (by omega))) ?_
      refine OD.run 3 (by kernel_rfl) ?_
      refine OD.as (Value.bool (decide (q ≤ 1000000))) (Value.bool true) (by kernel_rfl) (of_decide_eq_true (by kernel_rfl)) (by kernel_rfl) (congrArg Value.bool (decide_eq_true (by omega))) ?_
      refine OD.run 2 (by kernel_rfl) ?_
      refine OD.callEq 10 ([]) (known_ok _) (by kernel_rfl) (of_decide_eq_true (by kernel_rfl)) (by kernel_rfl) (by kernel_rfl) (by kernel_rfl) ?_
      refine OD.run 2 (by kernel_rfl) ?_
      refine OD.done (of_decide_eq_true (by kernel_rfl)) ?_
      refine then_n (by kernel_rfl) ?_
      refine Det.retA (by kernel_rfl) ?_
      refine fin_r (Value.bool true) (by kernel_rfl) (by kernel_rfl) ?_
      rfl
    · cases hl with
      | true =>
        refine Det.seqA (by kernel_rfl) ?_
        refine Det.opsA (by kernel_rfl) hX ?_
        refine OD.run 2 (by kernel_rfl) ?_
        refine OD.done (of_decide_eq_true (by kernel_rfl)) ?_
        refine then_n (by kernel_rfl) ?_
        refine Det.seqA (by kernel_rfl) ?_
        refine Det.seqA (by kernel_rfl) ?_
        refine Det.opsA (by kernel_rfl) hX ?_
        refine OD.run 1 (by kernel_rfl) ?_
        refine OD.callEq 9 ([Value.agg #[Value.int IntKind.i64 t, Value.int IntKind.i64 l, Value.int IntKind.i64 mn, Value.int IntKind.i64 mx, Value.int IntKind.i64 lo, Value.int IntKind.i64 hi, Value.bool true]]) (ref_Is _ _ _ _ _ _ _ _) (by kernel_rfl) (of_decide_eq_true (by kernel_rfl)) (by kernel_rfl) (by kernel_rfl) (by kernel_rfl) ?_
        refine OD.as (Value.bool !isF t l mn mx lo hi) (Value.bool false) (by kernel_rfl) (of_decide_eq_true (by kernel_rfl)) (by kernel_rfl) (congrArg Value.bool (not_f (by exact hi0))) ?_
        refine OD.done (of_decide_eq_true (by kernel_rfl)) ?_
        refine then_n (by kernel_rfl) ?_
        refine Det.condF (by kernel_rfl) (false) (by kernel_rfl) rfl ?_
        refine Det.skipA (by kernel_rfl) ?_
        refine then_n (by kernel_rfl) ?_
        refine Det.seqA (by kernel_rfl) ?_
        refine Det.opsA (by kernel_rfl) hX ?_
        refine OD.run 3 (by kernel_rfl) ?_
        refine OD.done (of_decide_eq_true (by kernel_rfl)) ?_
        refine then_n (by kernel_rfl) ?_
        refine Det.seqA (by kernel_rfl) ?_
        refine Det.opsA (by kernel_rfl) hX ?_
        refine OD.run 2 (by kernel_rfl) ?_
        refine OD.done (of_decide_eq_true (by kernel_rfl)) ?_
        refine then_n (by kernel_rfl) ?_
        refine Det.seqA (by kernel_rfl) ?_
        refine Det.seqA (by kernel_rfl) ?_
        refine Det.opsA (by kernel_rfl) hX ?_
        refine OD.run 3 (by kernel_rfl) ?_
        refine OD.callEq 16 ([Value.agg #[Value.int IntKind.i64 t, Value.int IntKind.i64 l, Value.int IntKind.i64 mn, Value.int IntKind.i64 mx, Value.int IntKind.i64 lo, Value.int IntKind.i64 hi, Value.bool true], Value.int IntKind.i64 p, Value.int IntKind.i64 q]) (bond_Check _ _ _ _ _ _ _ _ _ ht hl0 _) (by kernel_rfl) (of_decide_eq_true (by kernel_rfl)) (by kernel_rfl) (by kernel_rfl) (by kernel_rfl) ?_
        refine OD.as (Value.bool (checkF t l mn mx lo hi true p q != 6)) (Value.bool false) (by kernel_rfl) (of_decide_eq_true (by kernel_rfl)) (by kernel_rfl) (congrArg Value.bool (bne_eq_false_iff_eq.2 (by exact hh))) ?_
        refine OD.done (of_decide_eq_true (by kernel_rfl)) ?_
        refine then_n (by kernel_rfl) ?_
        refine Det.condF (by kernel_rfl) (false) (by kernel_rfl) rfl ?_
        refine Det.skipA (by kernel_rfl) ?_
        refine then_n (by kernel_rfl) ?_
        refine Det.seqA (by kernel_rfl) ?_
        refine Det.seqA (by kernel_rfl) ?_
        refine Det.opsA (by kernel_rfl) hX ?_
        refine OD.run 3 (by kernel_rfl) ?_
        refine OD.callEq 16 ([Value.agg #[Value.int IntKind.i64 t, Value.int IntKind.i64 l, Value.int IntKind.i64 mn, Value.int IntKind.i64 mx, Value.int IntKind.i64 lo, Value.int IntKind.i64 hi, Value.bool true], Value.int IntKind.i64 p, Value.int IntKind.i64 q]) (bond_Check _ _ _ _ _ _ _ _ _ ht hl0 _) (by kernel_rfl) (of_decide_eq_true (by kernel_rfl)) (by kernel_rfl) (by kernel_rfl) (by kernel_rfl) ?_
        refine OD.as (Value.bool (checkF t l mn mx lo hi true p q != 0)) (Value.bool true) (by kernel_rfl) (of_decide_eq_true (by kernel_rfl)) (by kernel_rfl) (congrArg Value.bool (bne_iff_ne.2 (by exact hc))) ?_
        refine OD.done (of_decide_eq_true (by kernel_rfl)) ?_
        refine then_n (by kernel_rfl) ?_
        refine Det.condT (by kernel_rfl) (true) (by kernel_rfl) rfl ?_
        refine Det.seqA (by kernel_rfl) ?_
        refine Det.opsA (by kernel_rfl) hX ?_
        refine OD.run 15 (by kernel_rfl) ?_
        refine OD.callEq 10 ([]) (known_ok _) (by kernel_rfl) (of_decide_eq_true (by kernel_rfl)) (by kernel_rfl) (by kernel_rfl) (by kernel_rfl) ?_
        refine OD.run 2 (by kernel_rfl) ?_
        refine OD.done (of_decide_eq_true (by kernel_rfl)) ?_
        refine then_n (by kernel_rfl) ?_
        refine Det.retA (by kernel_rfl) ?_
        refine then_r (by kernel_rfl) ?_
        refine fin_r (Value.bool true) (by kernel_rfl) (by kernel_rfl) ?_
        rfl
      | false =>
        have hq := checkF_no hc
        by_cases hp : priceF t lo hi p = 0
        · have hq := hq hp
          refine Det.seqA (by kernel_rfl) ?_
          refine Det.opsA (by kernel_rfl) hX ?_
          refine OD.run 2 (by kernel_rfl) ?_
          refine OD.done (of_decide_eq_true (by kernel_rfl)) ?_
          refine then_n (by kernel_rfl) ?_
          refine Det.seqA (by kernel_rfl) ?_
          refine Det.seqA (by kernel_rfl) ?_
          refine Det.opsA (by kernel_rfl) hX ?_
          refine OD.run 1 (by kernel_rfl) ?_
          refine OD.callEq 9 ([Value.agg #[Value.int IntKind.i64 t, Value.int IntKind.i64 l, Value.int IntKind.i64 mn, Value.int IntKind.i64 mx, Value.int IntKind.i64 lo, Value.int IntKind.i64 hi, Value.bool false]]) (ref_Is _ _ _ _ _ _ _ _) (by kernel_rfl) (of_decide_eq_true (by kernel_rfl)) (by kernel_rfl) (by kernel_rfl) (by kernel_rfl) ?_
          refine OD.as (Value.bool !isF t l mn mx lo hi) (Value.bool false) (by kernel_rfl) (of_decide_eq_true (by kernel_rfl)) (by kernel_rfl) (congrArg Value.bool (not_f (by exact hi0))) ?_
          refine OD.done (of_decide_eq_true (by kernel_rfl)) ?_
          refine then_n (by kernel_rfl) ?_
          refine Det.condF (by kernel_rfl) (false) (by kernel_rfl) rfl ?_
          refine Det.skipA (by kernel_rfl) ?_
          refine then_n (by kernel_rfl) ?_
          refine Det.seqA (by kernel_rfl) ?_
          refine Det.opsA (by kernel_rfl) hX ?_
          refine OD.run 3 (by kernel_rfl) ?_
          refine OD.done (of_decide_eq_true (by kernel_rfl)) ?_
          refine then_n (by kernel_rfl) ?_
          refine Det.seqA (by kernel_rfl) ?_
          refine Det.opsA (by kernel_rfl) hX ?_
          refine OD.run 2 (by kernel_rfl) ?_
          refine OD.done (of_decide_eq_true (by kernel_rfl)) ?_
          refine then_n (by kernel_rfl) ?_
          refine Det.seqA (by kernel_rfl) ?_
          refine Det.seqA (by kernel_rfl) ?_
          refine Det.opsA (by kernel_rfl) hX ?_
          refine OD.run 3 (by kernel_rfl) ?_
          refine OD.callEq 16 ([Value.agg #[Value.int IntKind.i64 t, Value.int IntKind.i64 l, Value.int IntKind.i64 mn, Value.int IntKind.i64 mx, Value.int IntKind.i64 lo, Value.int IntKind.i64 hi, Value.bool true], Value.int IntKind.i64 p, Value.int IntKind.i64 q]) (bond_Check _ _ _ _ _ _ _ _ _ ht hl0 _) (by kernel_rfl) (of_decide_eq_true (by kernel_rfl)) (by kernel_rfl) (by kernel_rfl) (by kernel_rfl) ?_
          refine OD.as (Value.bool (checkF t l mn mx lo hi true p q != 6)) (Value.bool false) (by kernel_rfl) (of_decide_eq_true (by kernel_rfl)) (by kernel_rfl) (congrArg Value.bool (bne_eq_false_iff_eq.2 (by exact hh))) ?_
          refine OD.done (of_decide_eq_true (by kernel_rfl)) ?_
          refine then_n (by kernel_rfl) ?_
          refine Det.condF (by kernel_rfl) (false) (by kernel_rfl) rfl ?_
          refine Det.skipA (by kernel_rfl) ?_
          refine then_n (by kernel_rfl) ?_
          refine Det.seqA (by kernel_rfl) ?_
          refine Det.seqA (by kernel_rfl) ?_
          refine Det.opsA (by kernel_rfl) hX ?_
          refine OD.run 3 (by kernel_rfl) ?_
          refine OD.callEq 16 ([Value.agg #[Value.int IntKind.i64 t, Value.int IntKind.i64 l, Value.int IntKind.i64 mn, Value.int IntKind.i64 mx, Value.int IntKind.i64 lo, Value.int IntKind.i64 hi, Value.bool false], Value.int IntKind.i64 p, Value.int IntKind.i64 q]) (bond_Check _ _ _ _ _ _ _ _ _ ht hl0 _) (by kernel_rfl) (of_decide_eq_true (by kernel_rfl)) (by kernel_rfl) (by kernel_rfl) (by kernel_rfl) ?_
          refine OD.as (Value.bool (checkF t l mn mx lo hi false p q != 0)) (Value.bool true) (by kernel_rfl) (of_decide_eq_true (by kernel_rfl)) (by kernel_rfl) (congrArg Value.bool (bne_iff_ne.2 (by exact hc))) ?_
          refine OD.done (of_decide_eq_true (by kernel_rfl)) ?_
          refine then_n (by kernel_rfl) ?_
          refine Det.condT (by kernel_rfl) (true) (by kernel_rfl) rfl ?_
          refine Det.seqA (by kernel_rfl) ?_
          refine Det.opsA (by kernel_rfl) hX ?_
          refine OD.run 5 (by kernel_rfl) ?_
          refine OD.callEq 13 ([Value.agg #[Value.int IntKind.i64 t, Value.int IntKind.i64 l, Value.int IntKind.i64 mn, Value.int IntKind.i64 mx, Value.int IntKind.i64 lo, Value.int IntKind.i64 hi, Value.bool false], Value.int IntKind.i64 p]) (bond_Price _ _ _ _ _ _ _ _ ht _) (by kernel_rfl) (of_decide_eq_true (by kernel_rfl)) (by kernel_rfl) (by kernel_rfl) (by kernel_rfl) ?_
          refine OD.as (Value.bool (priceF t lo hi p != 0)) (Value.bool false) (by kernel_rfl) (of_decide_eq_true (by kernel_rfl)) (by kernel_rfl) (congrArg Value.bool (bne_eq_false_iff_eq.2 (by exact hp))) ?_
          refine OD.run 4 (by kernel_rfl) ?_
          refine OD.callEq 11 ([Value.agg #[Value.int IntKind.i64 t, Value.int IntKind.i64 l, Value.int IntKind.i64 mn, Value.int IntKind.i64 mx, Value.int IntKind.i64 lo, Value.int IntKind.i64 hi, Value.bool false], Value.int IntKind.i64 q]) (bond_Qty _ _ _ _ _ _ _ _ hl0 _) (by kernel_rfl) (of_decide_eq_true (by kernel_rfl)) (by kernel_rfl) (by kernel_rfl) (by kernel_rfl) ?_
          refine OD.as (Value.bool (qtyF l mn mx q != 0)) (Value.bool true) (by kernel_rfl) (of_decide_eq_true (by kernel_rfl)) (by kernel_rfl) (congrArg Value.bool (bne_iff_ne.2 (by exact hq))) ?_
          refine OD.run 2 (by kernel_rfl) ?_
          refine OD.callEq 10 ([]) (known_ok _) (by kernel_rfl) (of_decide_eq_true (by kernel_rfl)) (by kernel_rfl) (by kernel_rfl) (by kernel_rfl) ?_
          refine OD.run 2 (by kernel_rfl) ?_
          refine OD.done (of_decide_eq_true (by kernel_rfl)) ?_
          refine then_n (by kernel_rfl) ?_
          refine Det.retA (by kernel_rfl) ?_
          refine then_r (by kernel_rfl) ?_
          refine fin_r (Value.bool true) (by kernel_rfl) (by kernel_rfl) ?_
          rfl
        · skip
          refine Det.seqA (by kernel_rfl) ?_
          refine Det.opsA (by kernel_rfl) hX ?_
          refine OD.run 2 (by kernel_rfl) ?_
          refine OD.done (of_decide_eq_true (by kernel_rfl)) ?_
          refine then_n (by kernel_rfl) ?_
          refine Det.seqA (by kernel_rfl) ?_
          refine Det.seqA (by kernel_rfl) ?_
          refine Det.opsA (by kernel_rfl) hX ?_
          refine OD.run 1 (by kernel_rfl) ?_
          refine OD.callEq 9 ([Value.agg #[Value.int IntKind.i64 t, Value.int IntKind.i64 l, Value.int IntKind.i64 mn, Value.int IntKind.i64 mx, Value.int IntKind.i64 lo, Value.int IntKind.i64 hi, Value.bool false]]) (ref_Is _ _ _ _ _ _ _ _) (by kernel_rfl) (of_decide_eq_true (by kernel_rfl)) (by kernel_rfl) (by kernel_rfl) (by kernel_rfl) ?_
          refine OD.as (Value.bool !isF t l mn mx lo hi) (Value.bool false) (by kernel_rfl) (of_decide_eq_true (by kernel_rfl)) (by kernel_rfl) (congrArg Value.bool (not_f (by exact hi0))) ?_
          refine OD.done (of_decide_eq_true (by kernel_rfl)) ?_
          refine then_n (by kernel_rfl) ?_
          refine Det.condF (by kernel_rfl) (false) (by kernel_rfl) rfl ?_
          refine Det.skipA (by kernel_rfl) ?_
          refine then_n (by kernel_rfl) ?_
          refine Det.seqA (by kernel_rfl) ?_
          refine Det.opsA (by kernel_rfl) hX ?_
          refine OD.run 3 (by kernel_rfl) ?_
          refine OD.done (of_decide_eq_true (by kernel_rfl)) ?_
          refine then_n (by kernel_rfl) ?_
          refine Det.seqA (by kernel_rfl) ?_
          refine Det.opsA (by kernel_rfl) hX ?_
          refine OD.run 2 (by kernel_rfl) ?_
          refine OD.done (of_decide_eq_true (by kernel_rfl)) ?_
          refine then_n (by kernel_rfl) ?_
          refine Det.seqA (by kernel_rfl) ?_
          refine Det.seqA (by kernel_rfl) ?_
          refine Det.opsA (by kernel_rfl) hX ?_
          refine OD.run 3 (by kernel_rfl) ?_
          refine OD.callEq 16 ([Value.agg #[Value.int IntKind.i64 t, Value.int IntKind.i64 l, Value.int IntKind.i64 mn, Value.int IntKind.i64 mx, Value.int IntKind.i64 lo, Value.int IntKind.i64 hi, Value.bool true], Value.int IntKind.i64 p, Value.int IntKind.i64 q]) (bond_Check _ _ _ _ _ _ _ _ _ ht hl0 _) (by kernel_rfl) (of_decide_eq_true (by kernel_rfl)) (by kernel_rfl) (by kernel_rfl) (by kernel_rfl) ?_
          refine OD.as (Value.bool (checkF t l mn mx lo hi true p q != 6)) (Value.bool false) (by kernel_rfl) (of_decide_eq_true (by kernel_rfl)) (by kernel_rfl) (congrArg Value.bool (bne_eq_false_iff_eq.2 (by exact hh))) ?_
          refine OD.done (of_decide_eq_true (by kernel_rfl)) ?_
          refine then_n (by kernel_rfl) ?_
          refine Det.condF (by kernel_rfl) (false) (by kernel_rfl) rfl ?_
          refine Det.skipA (by kernel_rfl) ?_
          refine then_n (by kernel_rfl) ?_
          refine Det.seqA (by kernel_rfl) ?_
          refine Det.seqA (by kernel_rfl) ?_
          refine Det.opsA (by kernel_rfl) hX ?_
          refine OD.run 3 (by kernel_rfl) ?_
          refine OD.callEq 16 ([Value.agg #[Value.int IntKind.i64 t, Value.int IntKind.i64 l, Value.int IntKind.i64 mn, Value.int IntKind.i64 mx, Value.int IntKind.i64 lo, Value.int IntKind.i64 hi, Value.bool false], Value.int IntKind.i64 p, Value.int IntKind.i64 q]) (bond_Check _ _ _ _ _ _ _ _ _ ht hl0 _) (by kernel_rfl) (of_decide_eq_true (by kernel_rfl)) (by kernel_rfl) (by kernel_rfl) (by kernel_rfl) ?_
          refine OD.as (Value.bool (checkF t l mn mx lo hi false p q != 0)) (Value.bool true) (by kernel_rfl) (of_decide_eq_true (by kernel_rfl)) (by kernel_rfl) (congrArg Value.bool (bne_iff_ne.2 (by exact hc))) ?_
          refine OD.done (of_decide_eq_true (by kernel_rfl)) ?_
          refine then_n (by kernel_rfl) ?_
          refine Det.condT (by kernel_rfl) (true) (by kernel_rfl) rfl ?_
          refine Det.seqA (by kernel_rfl) ?_
          refine Det.opsA (by kernel_rfl) hX ?_
          refine OD.run 5 (by kernel_rfl) ?_
          refine OD.callEq 13 ([Value.agg #[Value.int IntKind.i64 t, Value.int IntKind.i64 l, Value.int IntKind.i64 mn, Value.int IntKind.i64 mx, Value.int IntKind.i64 lo, Value.int IntKind.i64 hi, Value.bool false], Value.int IntKind.i64 p]) (bond_Price _ _ _ _ _ _ _ _ ht _) (by kernel_rfl) (of_decide_eq_true (by kernel_rfl)) (by kernel_rfl) (by kernel_rfl) (by kernel_rfl) ?_
          refine OD.as (Value.bool (priceF t lo hi p != 0)) (Value.bool true) (by kernel_rfl) (of_decide_eq_true (by kernel_rfl)) (by kernel_rfl) (congrArg Value.bool (bne_iff_ne.2 (by exact hp))) ?_
          refine OD.run 8 (by kernel_rfl) ?_
          refine OD.callEq 10 ([]) (known_ok _) (by kernel_rfl) (of_decide_eq_true (by kernel_rfl)) (by kernel_rfl) (by kernel_rfl) (by kernel_rfl) ?_
          refine OD.run 2 (by kernel_rfl) ?_
          refine OD.done (of_decide_eq_true (by kernel_rfl)) ?_
          refine then_n (by kernel_rfl) ?_
          refine Det.retA (by kernel_rfl) ?_
          refine then_r (by kernel_rfl) ?_
          refine fin_r (Value.bool true) (by kernel_rfl) (by kernel_rfl) ?_
          rfl
  · skip
    refine Det.seqA (by kernel_rfl) ?_
    refine Det.opsA (by kernel_rfl) hX ?_
    refine OD.run 2 (by kernel_rfl) ?_
    refine OD.done (of_decide_eq_true (by kernel_rfl)) ?_
    refine then_n (by kernel_rfl) ?_
    refine Det.seqA (by kernel_rfl) ?_
    refine Det.seqA (by kernel_rfl) ?_
    refine Det.opsA (by kernel_rfl) hX ?_
    refine OD.run 1 (by kernel_rfl) ?_
    refine OD.callEq 9 ([Value.agg #[Value.int IntKind.i64 t, Value.int IntKind.i64 l, Value.int IntKind.i64 mn, Value.int IntKind.i64 mx, Value.int IntKind.i64 lo, Value.int IntKind.i64 hi, Value.bool hl]]) (ref_Is _ _ _ _ _ _ _ _) (by kernel_rfl) (of_decide_eq_true (by kernel_rfl)) (by kernel_rfl) (by kernel_rfl) (by kernel_rfl) ?_
    refine OD.as (Value.bool !isF t l mn mx lo hi) (Value.bool true) (by kernel_rfl) (of_decide_eq_true (by kernel_rfl)) (by kernel_rfl) (congrArg Value.bool (not_t (by exact hi0))) ?_
    refine OD.done (of_decide_eq_true (by kernel_rfl)) ?_
    refine then_n (by kernel_rfl) ?_
    refine Det.condT (by kernel_rfl) (true) (by kernel_rfl) rfl ?_
    refine Det.seqA (by kernel_rfl) ?_
    refine Det.opsA (by kernel_rfl) hX ?_
    refine OD.run 1 (by kernel_rfl) ?_
    refine OD.done (of_decide_eq_true (by kernel_rfl)) ?_
    refine then_n (by kernel_rfl) ?_
    refine Det.retA (by kernel_rfl) ?_
    refine then_r (by kernel_rfl) ?_
    refine fin_r (Value.bool true) (by kernel_rfl) (by kernel_rfl) ?_
    rfl
theorem qtyF_some {t l mn mx lo hi : Int} (h : isF t l mn mx lo hi = true) : qtyF l mn mx (IntKind.i64.wrap (mx - mx.tmod l)) = 0 := by
  simp only [isF, within, Bool.and_eq_true, decide_eq_true_eq] at h
  obtain ⟨⟨⟨⟨⟨⟨_, _⟩, _⟩, hl⟩, hmn⟩, hmx⟩, hge⟩ := h
  have hl0 : 0 < l := by omega
  have hmx0 : 0 ≤ mx := by omega
  have e : mx.tmod l = mx % l := Int.tmod_eq_emod_of_nonneg hmx0
  rw [e] at hge ⊢
  have m0 := Int.emod_nonneg mx (show l ≠ 0 by omega)
  have m1 := Int.emod_lt_of_pos mx hl0
  have w : IntKind.i64.wrap (mx - mx % l) = mx - mx % l := by rw [IntKind.wrap_i64]; omega
  rw [w] at hge ⊢
  have d : (mx - mx % l).tmod l = 0 := by
    have e2 : mx - mx % l = l * (mx / l) := by have := Int.emod_add_mul_ediv mx l; omega
    rw [e2]; exact Int.mul_tmod_right l (mx / l)
  unfold qtyF within
  have c : (decide (mn ≤ mx - mx % l) && decide (mx - mx % l ≤ mx)) = true := by simp only [Bool.and_eq_true, decide_eq_true_eq]; omega
  rw [if_pos c, if_pos d]
theorem law_BondSome (t l mn mx lo hi : Int) (hl : Bool) : DetFn Try.prog 3 [bondV t l mn mx lo hi hl] Heap.empty fun v _ => v = .bool true := by
  refine Det.enter Try.func3 (by kernel_rfl) (of_decide_eq_true (by kernel_rfl)) ?_
  rcases Bool.eq_false_or_eq_true (isF t l mn mx lo hi) with hi0 | hi0
  · have ht := (isF_t hi0).1
    have hl0 := (isF_t hi0).2
    have hq := qtyF_some hi0
    refine Det.seqA (by kernel_rfl) ?_
    refine Det.opsA (by kernel_rfl) hX ?_
    refine OD.run 2 (by kernel_rfl) ?_
    refine OD.done (of_decide_eq_true (by kernel_rfl)) ?_
    refine then_n (by kernel_rfl) ?_
    refine Det.seqA (by kernel_rfl) ?_
    refine Det.seqA (by kernel_rfl) ?_
    refine Det.opsA (by kernel_rfl) hX ?_
    refine OD.run 1 (by kernel_rfl) ?_
    refine OD.callEq 8 ([Value.agg #[Value.int IntKind.i64 t, Value.int IntKind.i64 l, Value.int IntKind.i64 mn, Value.int IntKind.i64 mx, Value.int IntKind.i64 lo, Value.int IntKind.i64 hi, Value.bool hl]]) (bond_Is _ _ _ _ _ _ _ _) (by kernel_rfl) (of_decide_eq_true (by kernel_rfl)) (by kernel_rfl) (by kernel_rfl) (by kernel_rfl) ?_
    refine OD.as (Value.bool !isF t l mn mx lo hi) (Value.bool false) (by kernel_rfl) (of_decide_eq_true (by kernel_rfl)) (by kernel_rfl) (congrArg Value.bool (not_f (by exact hi0))) ?_
    refine OD.done (of_decide_eq_true (by kernel_rfl)) ?_
    refine then_n (by kernel_rfl) ?_
    refine Det.condF (by kernel_rfl) (false) (by kernel_rfl) rfl ?_
    refine Det.skipA (by kernel_rfl) ?_
    refine then_n (by kernel_rfl) ?_
    refine Det.seqA (by kernel_rfl) ?_
    refine Det.seqA (by kernel_rfl) ?_
    refine Det.opsA (by kernel_rfl) hX ?_
    refine OD.run 1 (by kernel_rfl) ?_
    refine OD.callEq 9 ([Value.agg #[Value.int IntKind.i64 t, Value.int IntKind.i64 l, Value.int IntKind.i64 mn, Value.int IntKind.i64 mx, Value.int IntKind.i64 lo, Value.int IntKind.i64 hi, Value.bool hl]]) (ref_Is _ _ _ _ _ _ _ _) (by kernel_rfl) (of_decide_eq_true (by kernel_rfl)) (by kernel_rfl) (by kernel_rfl) (by kernel_rfl) ?_
    refine OD.as (Value.bool !isF t l mn mx lo hi) (Value.bool false) (by kernel_rfl) (of_decide_eq_true (by kernel_rfl)) (by kernel_rfl) (congrArg Value.bool (not_f (by exact hi0))) ?_
    refine OD.done (of_decide_eq_true (by kernel_rfl)) ?_
    refine then_n (by kernel_rfl) ?_
    refine Det.condF (by kernel_rfl) (false) (by kernel_rfl) rfl ?_
    refine Det.skipA (by kernel_rfl) ?_
    refine then_n (by kernel_rfl) ?_
    refine Det.seqA (by kernel_rfl) ?_
    refine Det.drawA (by kernel_rfl) hmix hX (by kernel_rfl) (by kernel_rfl) ?_
    refine OD.run 7 (by kernel_rfl) ?_
    refine OD.bin BinOp.rem 2 (Value.int IntKind.i64 mx) (Value.int IntKind.i64 l) (Value.int IntKind.i64 (Int.tmod mx l)) (by kernel_rfl) (by kernel_rfl) (of_decide_eq_true (by kernel_rfl)) (by kernel_rfl) (abin_rem (by exact hl0)) ?_
    refine OD.run 1 (by kernel_rfl) ?_
    refine OD.callEq 11 ([Value.agg #[Value.int IntKind.i64 t, Value.int IntKind.i64 l, Value.int IntKind.i64 mn, Value.int IntKind.i64 mx, Value.int IntKind.i64 lo, Value.int IntKind.i64 hi, Value.bool hl], Value.int IntKind.i64 (IntKind.wrap IntKind.i64 (mx - Int.tmod mx l))]) (bond_Qty _ _ _ _ _ _ _ _ hl0 _) (by kernel_rfl) (of_decide_eq_true (by kernel_rfl)) (by kernel_rfl) (by kernel_rfl) (by kernel_rfl) ?_
    refine OD.as (Value.bool (qtyF l mn mx (IntKind.wrap IntKind.i64 (mx - Int.tmod mx l)) == 0)) (Value.bool true) (by kernel_rfl) (of_decide_eq_true (by kernel_rfl)) (by kernel_rfl) (congrArg Value.bool (beq_iff_eq.2 (by exact hq))) ?_
    refine OD.run 1 (by kernel_rfl) ?_
    refine OD.callEq 10 ([]) (known_ok _) (by kernel_rfl) (of_decide_eq_true (by kernel_rfl)) (by kernel_rfl) (by kernel_rfl) (by kernel_rfl) ?_
    refine OD.run 2 (by kernel_rfl) ?_
    refine OD.done (of_decide_eq_true (by kernel_rfl)) ?_
    refine then_n (by kernel_rfl) ?_
    refine Det.retA (by kernel_rfl) ?_
    refine fin_r (Value.bool true) (by kernel_rfl) (by kernel_rfl) ?_
    rfl
  · skip
    refine Det.seqA (by kernel_rfl) ?_
    refine Det.opsA (by kernel_rfl) hX ?_
    refine OD.run 2 (by kernel_rfl) ?_
    refine OD.done (of_decide_eq_true (by kernel_rfl)) ?_
    refine then_n (by kernel_rfl) ?_
    refine Det.seqA (by kernel_rfl) ?_
    refine Det.seqA (by kernel_rfl) ?_
    refine Det.opsA (by kernel_rfl) hX ?_
    refine OD.run 1 (by kernel_rfl) ?_
    refine OD.callEq 8 ([Value.agg #[Value.int IntKind.i64 t, Value.int IntKind.i64 l, Value.int IntKind.i64 mn, Value.int IntKind.i64 mx, Value.int IntKind.i64 lo, Value.int IntKind.i64 hi, Value.bool hl]]) (bond_Is _ _ _ _ _ _ _ _) (by kernel_rfl) (of_decide_eq_true (by kernel_rfl)) (by kernel_rfl) (by kernel_rfl) (by kernel_rfl) ?_
    refine OD.as (Value.bool !isF t l mn mx lo hi) (Value.bool true) (by kernel_rfl) (of_decide_eq_true (by kernel_rfl)) (by kernel_rfl) (congrArg Value.bool (not_t (by exact hi0))) ?_
    refine OD.done (of_decide_eq_true (by kernel_rfl)) ?_
    refine then_n (by kernel_rfl) ?_
    refine Det.condT (by kernel_rfl) (true) (by kernel_rfl) rfl ?_
    refine Det.seqA (by kernel_rfl) ?_
    refine Det.opsA (by kernel_rfl) hX ?_
    refine OD.run 1 (by kernel_rfl) ?_
    refine OD.callEq 9 ([Value.agg #[Value.int IntKind.i64 t, Value.int IntKind.i64 l, Value.int IntKind.i64 mn, Value.int IntKind.i64 mx, Value.int IntKind.i64 lo, Value.int IntKind.i64 hi, Value.bool hl]]) (ref_Is _ _ _ _ _ _ _ _) (by kernel_rfl) (of_decide_eq_true (by kernel_rfl)) (by kernel_rfl) (by kernel_rfl) (by kernel_rfl) ?_
    refine OD.as (Value.bool !isF t l mn mx lo hi) (Value.bool true) (by kernel_rfl) (of_decide_eq_true (by kernel_rfl)) (by kernel_rfl) (congrArg Value.bool (not_t (by exact hi0))) ?_
    refine OD.run 1 (by kernel_rfl) ?_
    refine OD.callEq 10 ([]) (known_ok _) (by kernel_rfl) (of_decide_eq_true (by kernel_rfl)) (by kernel_rfl) (by kernel_rfl) (by kernel_rfl) ?_
    refine OD.run 2 (by kernel_rfl) ?_
    refine OD.done (of_decide_eq_true (by kernel_rfl)) ?_
    refine then_n (by kernel_rfl) ?_
    refine Det.retA (by kernel_rfl) ?_
    refine then_r (by kernel_rfl) ?_
    refine fin_r (Value.bool true) (by kernel_rfl) (by kernel_rfl) ?_
    rfl
theorem edges_all : allTo 41 (fun j => evIs Try.prog noExt 100 5 [.int .i64 ((j : Int) - 20)]) = true := by kernel_rfl
theorem law_BondEdges (off : Int) : DetFn Try.prog 5 [.int .i64 off] Heap.empty fun v _ => v = .bool true := by
  by_cases h1 : off < -20
  · refine Det.enter Try.func5 (by kernel_rfl) (of_decide_eq_true (by kernel_rfl)) ?_
    refine Det.seqA (by kernel_rfl) ?_
    refine Det.opsA (by kernel_rfl) hX ?_
    refine OD.run 1 (by kernel_rfl) ?_
    refine OD.done (of_decide_eq_true (by kernel_rfl)) ?_
    refine then_n (by kernel_rfl) ?_
    refine Det.seqA (by kernel_rfl) ?_
    refine Det.seqA (by kernel_rfl) ?_
    refine Det.opsA (by kernel_rfl) hX ?_
    refine OD.run 1 (by kernel_rfl) ?_
    refine OD.as (Value.bool (decide (off < -20))) (Value.bool true) (by kernel_rfl) (of_decide_eq_true (by kernel_rfl)) (by kernel_rfl) (congrArg Value.bool (decide_eq_true (by exact h1))) ?_
    refine OD.run 4 (by kernel_rfl) ?_
    refine OD.done (of_decide_eq_true (by kernel_rfl)) ?_
    refine then_n (by kernel_rfl) ?_
    refine Det.condT (by kernel_rfl) (true) (by kernel_rfl) rfl ?_
    refine Det.seqA (by kernel_rfl) ?_
    refine Det.opsA (by kernel_rfl) hX ?_
    refine OD.run 1 (by kernel_rfl) ?_
    refine OD.done (of_decide_eq_true (by kernel_rfl)) ?_
    refine then_n (by kernel_rfl) ?_
    refine Det.retA (by kernel_rfl) ?_
    refine then_r (by kernel_rfl) ?_
    refine fin_r (Value.bool true) (by kernel_rfl) (by kernel_rfl) ?_
    rfl
  · by_cases h2 : off > 20
    · refine Det.enter Try.func5 (by kernel_rfl) (of_decide_eq_true (by kernel_rfl)) ?_
      refine Det.seqA (by kernel_rfl) ?_
      refine Det.opsA (by kernel_rfl) hX ?_
      refine OD.run 1 (by kernel_rfl) ?_
      refine OD.done (of_decide_eq_true (by kernel_rfl)) ?_
      refine then_n (by kernel_rfl) ?_
      refine Det.seqA (by kernel_rfl) ?_
      refine Det.seqA (by kernel_rfl) ?_
      refine Det.opsA (by kernel_rfl) hX ?_
      refine OD.run 1 (by kernel_rfl) ?_
      refine OD.as (Value.bool (decide (off < -20))) (Value.bool false) (by kernel_rfl) (of_decide_eq_true (by kernel_rfl)) (by kernel_rfl) (congrArg Value.bool (decide_eq_false (by exact h1))) ?_
      refine OD.run 2 (by kernel_rfl) ?_
      refine OD.as (Value.bool (decide (20 < off))) (Value.bool true) (by kernel_rfl) (of_decide_eq_true (by kernel_rfl)) (by kernel_rfl) (congrArg Value.bool (decide_eq_true (by omega))) ?_
      refine OD.run 1 (by kernel_rfl) ?_
      refine OD.done (of_decide_eq_true (by kernel_rfl)) ?_
      refine then_n (by kernel_rfl) ?_
      refine Det.condT (by kernel_rfl) (true) (by kernel_rfl) rfl ?_
      refine Det.seqA (by kernel_rfl) ?_
      refine Det.opsA (by kernel_rfl) hX ?_
      refine OD.run 1 (by kernel_rfl) ?_
      refine OD.done (of_decide_eq_true (by kernel_rfl)) ?_
      refine then_n (by kernel_rfl) ?_
      refine Det.retA (by kernel_rfl) ?_
      refine then_r (by kernel_rfl) ?_
      refine fin_r (Value.bool true) (by kernel_rfl) (by kernel_rfl) ?_
      rfl
    · have := allTo_spec edges_all (off + 20).toNat (by omega)
      rw [show (((off + 20).toNat : Nat) : Int) - 20 = off by omega] at this
      exact DetFn.of_evIs hmix hX this
theorem known_all : allTo 12 (fun j => evIs Try.prog noExt 300 4 [.int .i64 (j : Int)]) = true := by kernel_rfl
theorem law_BondKnown (way : Int) : DetFn Try.prog 4 [.int .i64 way] Heap.empty fun v _ => v = .bool true := by
  by_cases h1 : way < 0
  · refine Det.enter Try.func4 (by kernel_rfl) (of_decide_eq_true (by kernel_rfl)) ?_
    refine Det.seqA (by kernel_rfl) ?_
    refine Det.opsA (by kernel_rfl) hX ?_
    refine OD.run 1 (by kernel_rfl) ?_
    refine OD.done (of_decide_eq_true (by kernel_rfl)) ?_
    refine then_n (by kernel_rfl) ?_
    refine Det.seqA (by kernel_rfl) ?_
    refine Det.opsA (by kernel_rfl) hX ?_
    refine OD.run 2 (by kernel_rfl) ?_
    refine OD.done (of_decide_eq_true (by kernel_rfl)) ?_
    refine then_n (by kernel_rfl) ?_
    refine Det.seqA (by kernel_rfl) ?_
    refine Det.seqA (by kernel_rfl) ?_
    refine Det.opsA (by kernel_rfl) hX ?_
    refine OD.run 1 (by kernel_rfl) ?_
    refine OD.done (of_decide_eq_true (by kernel_rfl)) ?_
    refine then_n (by kernel_rfl) ?_
    refine Det.blockA (by kernel_rfl) ?_
    refine Det.evA 3000 hmix hX (by kernel_rfl) ?_
    refine then_n (by kernel_rfl) ?_
    refine Det.seqA (by kernel_rfl) ?_
    refine Det.opsA (by kernel_rfl) hX ?_
    refine OD.run 4 (by kernel_rfl) ?_
    refine OD.done (of_decide_eq_true (by kernel_rfl)) ?_
    refine then_n (by kernel_rfl) ?_
    refine Det.seqA (by kernel_rfl) ?_
    refine Det.opsA (by kernel_rfl) hX ?_
    refine OD.run 4 (by kernel_rfl) ?_
    refine OD.done (of_decide_eq_true (by kernel_rfl)) ?_
    refine then_n (by kernel_rfl) ?_
    refine Det.seqA (by kernel_rfl) ?_
    refine Det.opsA (by kernel_rfl) hX ?_
    refine OD.run 4 (by kernel_rfl) ?_
    refine OD.done (of_decide_eq_true (by kernel_rfl)) ?_
    refine then_n (by kernel_rfl) ?_
    refine Det.seqA (by kernel_rfl) ?_
    refine Det.opsA (by kernel_rfl) hX ?_
    refine OD.run 4 (by kernel_rfl) ?_
    refine OD.done (of_decide_eq_true (by kernel_rfl)) ?_
    refine then_n (by kernel_rfl) ?_
    refine Det.seqA (by kernel_rfl) ?_
    refine Det.opsA (by kernel_rfl) hX ?_
    refine OD.run 4 (by kernel_rfl) ?_
    refine OD.done (of_decide_eq_true (by kernel_rfl)) ?_
    refine then_n (by kernel_rfl) ?_
    refine Det.seqA (by kernel_rfl) ?_
    refine Det.opsA (by kernel_rfl) hX ?_
    refine OD.run 4 (by kernel_rfl) ?_
    refine OD.done (of_decide_eq_true (by kernel_rfl)) ?_
    refine then_n (by kernel_rfl) ?_
    refine Det.seqA (by kernel_rfl) ?_
    refine Det.opsA (by kernel_rfl) hX ?_
    refine OD.run 4 (by kernel_rfl) ?_
    refine OD.done (of_decide_eq_true (by kernel_rfl)) ?_
    refine then_n (by kernel_rfl) ?_
    refine Det.seqA (by kernel_rfl) ?_
    refine Det.opsA (by kernel_rfl) hX ?_
    refine OD.run 4 (by kernel_rfl) ?_
    refine OD.done (of_decide_eq_true (by kernel_rfl)) ?_
    refine then_n (by kernel_rfl) ?_
    refine Det.seqA (by kernel_rfl) ?_
    refine Det.opsA (by kernel_rfl) hX ?_
    refine OD.run 4 (by kernel_rfl) ?_
    refine OD.done (of_decide_eq_true (by kernel_rfl)) ?_
    refine then_n (by kernel_rfl) ?_
    refine Det.seqA (by kernel_rfl) ?_
    refine Det.opsA (by kernel_rfl) hX ?_
    refine OD.run 8 (by kernel_rfl) ?_
    refine OD.done (of_decide_eq_true (by kernel_rfl)) ?_
    refine then_n (by kernel_rfl) ?_
    refine Det.seqA (by kernel_rfl) ?_
    refine Det.opsA (by kernel_rfl) hX ?_
    refine OD.run 4 (by kernel_rfl) ?_
    refine OD.done (of_decide_eq_true (by kernel_rfl)) ?_
    refine then_n (by kernel_rfl) ?_
    refine Det.seqA (by kernel_rfl) ?_
    refine Det.opsA (by kernel_rfl) hX ?_
    refine OD.run 4 (by kernel_rfl) ?_
    refine OD.done (of_decide_eq_true (by kernel_rfl)) ?_
    refine then_n (by kernel_rfl) ?_
    refine Det.seqA (by kernel_rfl) ?_
    refine Det.seqA (by kernel_rfl) ?_
    refine Det.opsA (by kernel_rfl) hX ?_
    refine OD.run 1 (by kernel_rfl) ?_
    refine OD.as (Value.bool (decide (way < 0))) (Value.bool true) (by kernel_rfl) (of_decide_eq_true (by kernel_rfl)) (by kernel_rfl) (congrArg Value.bool (decide_eq_true (by exact h1))) ?_
    refine OD.run 6 (by kernel_rfl) ?_
    refine OD.done (of_decide_eq_true (by kernel_rfl)) ?_
    refine then_n (by kernel_rfl) ?_
    refine Det.condT (by kernel_rfl) (true) (by kernel_rfl) rfl ?_
    refine Det.seqA (by kernel_rfl) ?_
    refine Det.opsA (by kernel_rfl) hX ?_
    refine OD.run 1 (by kernel_rfl) ?_
    refine OD.done (of_decide_eq_true (by kernel_rfl)) ?_
    refine then_n (by kernel_rfl) ?_
    refine Det.retA (by kernel_rfl) ?_
    refine then_r (by kernel_rfl) ?_
    refine fin_r (Value.bool true) (by kernel_rfl) (by kernel_rfl) ?_
    rfl
  · by_cases h2 : way ≥ 12
    · refine Det.enter Try.func4 (by kernel_rfl) (of_decide_eq_true (by kernel_rfl)) ?_
      refine Det.seqA (by kernel_rfl) ?_
      refine Det.opsA (by kernel_rfl) hX ?_
      refine OD.run 1 (by kernel_rfl) ?_
      refine OD.done (of_decide_eq_true (by kernel_rfl)) ?_
      refine then_n (by kernel_rfl) ?_
      refine Det.seqA (by kernel_rfl) ?_
      refine Det.opsA (by kernel_rfl) hX ?_
      refine OD.run 2 (by kernel_rfl) ?_
      refine OD.done (of_decide_eq_true (by kernel_rfl)) ?_
      refine then_n (by kernel_rfl) ?_
      refine Det.seqA (by kernel_rfl) ?_
      refine Det.seqA (by kernel_rfl) ?_
      refine Det.opsA (by kernel_rfl) hX ?_
      refine OD.run 1 (by kernel_rfl) ?_
      refine OD.done (of_decide_eq_true (by kernel_rfl)) ?_
      refine then_n (by kernel_rfl) ?_
      refine Det.blockA (by kernel_rfl) ?_
      refine Det.evA 3000 hmix hX (by kernel_rfl) ?_
      refine then_n (by kernel_rfl) ?_
      refine Det.seqA (by kernel_rfl) ?_
      refine Det.opsA (by kernel_rfl) hX ?_
      refine OD.run 4 (by kernel_rfl) ?_
      refine OD.done (of_decide_eq_true (by kernel_rfl)) ?_
      refine then_n (by kernel_rfl) ?_
      refine Det.seqA (by kernel_rfl) ?_
      refine Det.opsA (by kernel_rfl) hX ?_
      refine OD.run 4 (by kernel_rfl) ?_
      refine OD.done (of_decide_eq_true (by kernel_rfl)) ?_
      refine then_n (by kernel_rfl) ?_
      refine Det.seqA (by kernel_rfl) ?_
      refine Det.opsA (by kernel_rfl) hX ?_
      refine OD.run 4 (by kernel_rfl) ?_
      refine OD.done (of_decide_eq_true (by kernel_rfl)) ?_
      refine then_n (by kernel_rfl) ?_
      refine Det.seqA (by kernel_rfl) ?_
      refine Det.opsA (by kernel_rfl) hX ?_
      refine OD.run 4 (by kernel_rfl) ?_
      refine OD.done (of_decide_eq_true (by kernel_rfl)) ?_
      refine then_n (by kernel_rfl) ?_
      refine Det.seqA (by kernel_rfl) ?_
      refine Det.opsA (by kernel_rfl) hX ?_
      refine OD.run 4 (by kernel_rfl) ?_
      refine OD.done (of_decide_eq_true (by kernel_rfl)) ?_
      refine then_n (by kernel_rfl) ?_
      refine Det.seqA (by kernel_rfl) ?_
      refine Det.opsA (by kernel_rfl) hX ?_
      refine OD.run 4 (by kernel_rfl) ?_
      refine OD.done (of_decide_eq_true (by kernel_rfl)) ?_
      refine then_n (by kernel_rfl) ?_
      refine Det.seqA (by kernel_rfl) ?_
      refine Det.opsA (by kernel_rfl) hX ?_
      refine OD.run 4 (by kernel_rfl) ?_
      refine OD.done (of_decide_eq_true (by kernel_rfl)) ?_
      refine then_n (by kernel_rfl) ?_
      refine Det.seqA (by kernel_rfl) ?_
      refine Det.opsA (by kernel_rfl) hX ?_
      refine OD.run 4 (by kernel_rfl) ?_
      refine OD.done (of_decide_eq_true (by kernel_rfl)) ?_
      refine then_n (by kernel_rfl) ?_
      refine Det.seqA (by kernel_rfl) ?_
      refine Det.opsA (by kernel_rfl) hX ?_
      refine OD.run 4 (by kernel_rfl) ?_
      refine OD.done (of_decide_eq_true (by kernel_rfl)) ?_
      refine then_n (by kernel_rfl) ?_
      refine Det.seqA (by kernel_rfl) ?_
      refine Det.opsA (by kernel_rfl) hX ?_
      refine OD.run 8 (by kernel_rfl) ?_
      refine OD.done (of_decide_eq_true (by kernel_rfl)) ?_
      refine then_n (by kernel_rfl) ?_
      refine Det.seqA (by kernel_rfl) ?_
      refine Det.opsA (by kernel_rfl) hX ?_
      refine OD.run 4 (by kernel_rfl) ?_
      refine OD.done (of_decide_eq_true (by kernel_rfl)) ?_
      refine then_n (by kernel_rfl) ?_
      refine Det.seqA (by kernel_rfl) ?_
      refine Det.opsA (by kernel_rfl) hX ?_
      refine OD.run 4 (by kernel_rfl) ?_
      refine OD.done (of_decide_eq_true (by kernel_rfl)) ?_
      refine then_n (by kernel_rfl) ?_
      refine Det.seqA (by kernel_rfl) ?_
      refine Det.seqA (by kernel_rfl) ?_
      refine Det.opsA (by kernel_rfl) hX ?_
      refine OD.run 1 (by kernel_rfl) ?_
      refine OD.as (Value.bool (decide (way < 0))) (Value.bool false) (by kernel_rfl) (of_decide_eq_true (by kernel_rfl)) (by kernel_rfl) (congrArg Value.bool (decide_eq_false (by exact h1))) ?_
      refine OD.run 4 (by kernel_rfl) ?_
      refine OD.as (Value.bool (decide (12 ≤ way))) (Value.bool true) (by kernel_rfl) (of_decide_eq_true (by kernel_rfl)) (by kernel_rfl) (congrArg Value.bool (decide_eq_true (by omega))) ?_
      refine OD.run 1 (by kernel_rfl) ?_
      refine OD.done (of_decide_eq_true (by kernel_rfl)) ?_
      refine then_n (by kernel_rfl) ?_
      refine Det.condT (by kernel_rfl) (true) (by kernel_rfl) rfl ?_
      refine Det.seqA (by kernel_rfl) ?_
      refine Det.opsA (by kernel_rfl) hX ?_
      refine OD.run 1 (by kernel_rfl) ?_
      refine OD.done (of_decide_eq_true (by kernel_rfl)) ?_
      refine then_n (by kernel_rfl) ?_
      refine Det.retA (by kernel_rfl) ?_
      refine then_r (by kernel_rfl) ?_
      refine fin_r (Value.bool true) (by kernel_rfl) (by kernel_rfl) ?_
      rfl
    · have := allTo_spec known_all way.toNat (by omega)
      rw [show ((way.toNat : Nat) : Int) = way by omega] at this
      exact DetFn.of_evIs hmix hX this
end Go.Proofs.Ytojigodoongdcaa.Eng
