/- The laws FirmRoles and FirmCaps of chapter 13, over the engine's memory. The numbers are int64s. -/
import Derived.Test.YtmpendenaflonaaEngLoop
import Derived.Test.YtmpendenaflonaaFix
namespace Go.Proofs.Ytmpendenaflonaa.Eng
open Go Go.Proofs Go.Proofs.Ytmpendenaflonaa.FixMath
set_option maxRecDepth 100000
set_option maxHeartbeats 4000000
set_option linter.unusedVariables false
theorem known_ok (h : Heap) : DetFn Try.prog 11 [] h fun v h' => v = .bool true ∧ h' = h :=
  DetFn.bare (by kernel_rfl) (by kernel_rfl) (DetFn.of_evFst (k := 1000) hmix hX (by kernel_rfl)) h
theorem wf_i64 {n : Int} (h : (Lit.int .i64 n).wf = true) : -9223372036854775808 ≤ n ∧ n ≤ 9223372036854775807 := by
  simpa [Lit.wf, IntKind.min, IntKind.max, IntKind.signed, IntKind.bits] using h
theorem roles_all : allTo 46 (fun j => evIs Try.prog noExt 1000 4 [.int .i64 ((j : Int) - 5)]) = true := by kernel_rfl
theorem law_FirmRoles (kind : Int) : DetFn Try.prog 4 [.int .i64 kind] Heap.empty fun v _ => v = .bool true := by
  by_cases h1 : kind < -5
  · refine Det.enter Try.func4 (by kernel_rfl) (of_decide_eq_true (by kernel_rfl)) ?_
    refine Det.seqA (by kernel_rfl) ?_
    refine Det.opsA (by kernel_rfl) hX ?_
    refine OD.run 1 (by kernel_rfl) ?_
    refine OD.done (of_decide_eq_true (by kernel_rfl)) ?_
    refine then_n (by kernel_rfl) ?_
    refine Det.seqA (by kernel_rfl) ?_
    refine Det.seqA (by kernel_rfl) ?_
    refine Det.opsA (by kernel_rfl) hX ?_
    refine OD.run 1 (by kernel_rfl) ?_
    refine OD.as (Value.bool (decide (kind < -5))) (Value.bool true) (by kernel_rfl) (of_decide_eq_true (by kernel_rfl)) (by kernel_rfl) (congrArg Value.bool (decide_eq_true (by exact h1))) ?_
    refine OD.run 4 (by kernel_rfl) ?_
    refine OD.done (of_decide_eq_true (by kernel_rfl)) ?_
    refine then_n (by kernel_rfl) ?_
    refine Det.condT (by kernel_rfl) (true) (by kernel_rfl) rfl ?_
    refine Det.seqA (by kernel_rfl) ?_
    refine Det.opsA (by kernel_rfl) hX ?_
    refine OD.run 1 (by kernel_rfl) ?_
    refine OD.done (of_decide_eq_true (by kernel_rfl)) ?_
    refine then_n (by kernel_rfl) ?_
    refine Det.retA (by kernel_rfl) ?_
    refine then_r (by kernel_rfl) ?_
    refine fin_r (Value.bool true) (by kernel_rfl) (by kernel_rfl) ?_
    rfl
  · by_cases h2 : kind > 40
    · refine Det.enter Try.func4 (by kernel_rfl) (of_decide_eq_true (by kernel_rfl)) ?_
      refine Det.seqA (by kernel_rfl) ?_
      refine Det.opsA (by kernel_rfl) hX ?_
      refine OD.run 1 (by kernel_rfl) ?_
      refine OD.done (of_decide_eq_true (by kernel_rfl)) ?_
      refine then_n (by kernel_rfl) ?_
      refine Det.seqA (by kernel_rfl) ?_
      refine Det.seqA (by kernel_rfl) ?_
      refine Det.opsA (by kernel_rfl) hX ?_
      refine OD.run 1 (by kernel_rfl) ?_
      refine OD.as (Value.bool (decide (kind < -5))) (Value.bool false) (by kernel_rfl) (of_decide_eq_true (by kernel_rfl)) (by kernel_rfl) (congrArg Value.bool (decide_eq_false (by exact h1))) ?_
      refine OD.run 2 (by kernel_rfl) ?_
      refine OD.as (Value.bool (decide (40 < kind))) (Value.bool true) (by kernel_rfl) (of_decide_eq_true (by kernel_rfl)) (by kernel_rfl) (congrArg Value.bool (decide_eq_true (by omega))) ?_
      refine OD.run 1 (by kernel_rfl) ?_
      refine OD.done (of_decide_eq_true (by kernel_rfl)) ?_
      refine then_n (by kernel_rfl) ?_
      refine Det.condT (by kernel_rfl) (true) (by kernel_rfl) rfl ?_
      refine Det.seqA (by kernel_rfl) ?_
      refine Det.opsA (by kernel_rfl) hX ?_
      refine OD.run 1 (by kernel_rfl) ?_
      refine OD.done (of_decide_eq_true (by kernel_rfl)) ?_
      refine then_n (by kernel_rfl) ?_
      refine Det.retA (by kernel_rfl) ?_
      refine then_r (by kernel_rfl) ?_
      refine fin_r (Value.bool true) (by kernel_rfl) (by kernel_rfl) ?_
      rfl
    · have := allTo_spec roles_all (kind + 5).toNat (by omega)
      rw [show (((kind + 5).toNat : Nat) : Int) - 5 = kind by omega] at this
      exact DetFn.of_evIs hmix hX this
theorem caps_bounds {p q : Int} (h1 : 1 ≤ p) (h2 : p ≤ 3000) (h3 : 1 ≤ q) (h4 : q ≤ 3000) : 1 ≤ p * q ∧ p * q ≤ 9000000 := by
  have a := Int.mul_le_mul h2 h4 (by omega) (by decide)
  have b := Int.mul_le_mul h1 h3 (by decide) (by omega)
  omega
theorem fix_Narrow_in (p : Int) (h0 : 0 ≤ p) (h1 : p ≤ 9223372036854775807) (h : Heap) : DetFn Try.prog 46 [wideV p] h fun v h' => v = .tuple #[.int .i64 p, .bool true] ∧ h' = h := by
  rw [keptV_in (by omega) h1]; exact fix_Narrow p h0 h
theorem fix_Add_in (a b : Int) (ha : -9223372036854775808 ≤ a) (hA : a ≤ 9223372036854775807) (hb : -9223372036854775808 ≤ b) (hB : b ≤ 9223372036854775807) (hs : -9223372036854775808 ≤ a + b) (hS : a + b ≤ 9223372036854775807) (h : Heap) :
    DetFn Try.prog 47 [.int .i64 a, .int .i64 b] h fun v h' => v = .tuple #[.int .i64 (a + b), .bool true] ∧ h' = h := by
  rw [keptV_in hs hS]; exact fix_Add a b ha hA hb hB h
def rowsC (n : Int) : List (Option Thing) := [rw' [Value.slice (some { block := 3, off := 0 }) 2 2, Value.slice (some { block := 4, off := 0 }) 5 5, Value.int IntKind.i64 3, Value.int IntKind.i64 50] 25, rw' [Value.int IntKind.i64 5, Value.int IntKind.i64 10, Value.int IntKind.i64 10, Value.int IntKind.i64 100, Value.int IntKind.i64 5, Value.int IntKind.i64 500, Value.bool false] 55, rw' [Value.int IntKind.i64 1, Value.int IntKind.i64 1, Value.int IntKind.i64 1, Value.int IntKind.i64 1000, Value.int IntKind.i64 1, Value.int IntKind.i64 1000, Value.bool false] 55, rw' [Value.int IntKind.i64 5, Value.int IntKind.i64 10, Value.int IntKind.i64 10, Value.int IntKind.i64 100, Value.int IntKind.i64 5, Value.int IntKind.i64 500, Value.bool false, Value.int IntKind.i64 1, Value.int IntKind.i64 1, Value.int IntKind.i64 1, Value.int IntKind.i64 1000, Value.int IntKind.i64 1, Value.int IntKind.i64 1000, Value.bool false] 55, rw' [Value.int IntKind.i64 1, Value.int IntKind.u64 12, Value.int IntKind.i64 0, Value.int IntKind.i64 1, Value.int IntKind.u64 4, Value.int IntKind.i64 0, Value.int IntKind.i64 2, Value.int IntKind.u64 0, Value.int IntKind.i64 100000, Value.int IntKind.i64 2, Value.int IntKind.u64 0, Value.int IntKind.i64 3000, Value.int IntKind.i64 3, Value.int IntKind.u64 0, Value.int IntKind.i64 0] 51, rw' [Value.slice (some { block := 3, off := 0 }) 2 2, Value.slice (some { block := 4, off := 0 }) 5 5, Value.int IntKind.i64 3, Value.int IntKind.i64 50] 25, rw' [Value.slice (some { block := 3, off := 0 }) 2 2, Value.slice (some { block := 4, off := 0 }) 5 5, Value.int IntKind.i64 3, Value.int IntKind.i64 50] 25, rw' [Value.slice (some { block := 3, off := 0 }) 2 2, Value.slice (some { block := 4, off := 0 }) 5 5, Value.int IntKind.i64 3, Value.int IntKind.i64 50] 25, rw' [Value.int IntKind.i64 1, Value.int IntKind.u64 12, Value.int IntKind.i64 0] 51, rw' [Value.int IntKind.i64 1, Value.int IntKind.u64 4, Value.int IntKind.i64 0] 51, rw' [Value.int IntKind.i64 2, Value.int IntKind.u64 0, Value.int IntKind.i64 100000] 51, rw' [Value.int IntKind.i64 2, Value.int IntKind.u64 0, Value.int IntKind.i64 3000] 51, rw' [Value.int IntKind.i64 3, Value.int IntKind.u64 0, Value.int IntKind.i64 0] 51, rw' [Value.int IntKind.u64 12] 37, rw' [Value.int IntKind.i64 5, Value.int IntKind.i64 10, Value.int IntKind.i64 10, Value.int IntKind.i64 100, Value.int IntKind.i64 5, Value.int IntKind.i64 500, Value.bool false] 55, rw' [Value.int IntKind.i64 5, Value.int IntKind.i64 10, Value.int IntKind.i64 10, Value.int IntKind.i64 100, Value.int IntKind.i64 5, Value.int IntKind.i64 500, Value.bool false] 55, rw' [Value.int IntKind.i64 1, Value.int IntKind.i64 1, Value.int IntKind.i64 1, Value.int IntKind.i64 1000, Value.int IntKind.i64 1, Value.int IntKind.i64 1000, Value.bool false] 55, rw' [Value.int IntKind.i64 1, Value.int IntKind.i64 1, Value.int IntKind.i64 1, Value.int IntKind.i64 1000, Value.int IntKind.i64 1, Value.int IntKind.i64 1000, Value.bool false] 55, rw' [Value.int IntKind.i64 1, Value.int IntKind.u64 12, Value.int IntKind.i64 0] 51, rw' [Value.int IntKind.i64 1, Value.int IntKind.u64 12, Value.int IntKind.i64 0] 51, rw' [Value.int IntKind.i64 1, Value.int IntKind.u64 4, Value.int IntKind.i64 0] 51, rw' [Value.int IntKind.i64 1, Value.int IntKind.u64 4, Value.int IntKind.i64 0] 51, rw' [Value.int IntKind.i64 2, Value.int IntKind.u64 0, Value.int IntKind.i64 100000] 51, rw' [Value.int IntKind.i64 2, Value.int IntKind.u64 0, Value.int IntKind.i64 100000] 51, rw' [Value.int IntKind.i64 2, Value.int IntKind.u64 0, Value.int IntKind.i64 3000] 51, rw' [Value.int IntKind.i64 2, Value.int IntKind.u64 0, Value.int IntKind.i64 3000] 51, rw' [Value.int IntKind.i64 3, Value.int IntKind.u64 0, Value.int IntKind.i64 0] 51, rw' [Value.int IntKind.i64 3, Value.int IntKind.u64 0, Value.int IntKind.i64 0] 51, rw' [] 51, rw' [Value.int IntKind.i64 1, Value.int IntKind.u64 12, Value.int IntKind.i64 0, Value.int IntKind.i64 1, Value.int IntKind.u64 4, Value.int IntKind.i64 0, Value.int IntKind.i64 2, Value.int IntKind.u64 0, Value.int IntKind.i64 100000, Value.int IntKind.i64 2, Value.int IntKind.u64 0, Value.int IntKind.i64 3000, Value.int IntKind.i64 3, Value.int IntKind.u64 0, Value.int IntKind.i64 0] 51, rw' [Value.int IntKind.i64 0, Value.int IntKind.i64 0, Value.int IntKind.i64 0, Value.int IntKind.i64 n, Value.int IntKind.i64 0] 2, rw' [Value.slice (some { block := 29, off := 0, spot := some 3 }) 5 5, Value.slice (some { block := 30, off := 0 }) 5 5] 65]
theorem law_FirmCaps (price qty : Int) (wp : (Lit.int .i64 price).wf = true) (wq : (Lit.int .i64 qty).wf = true) : DetFn Try.prog 5 [.int .i64 price, .int .i64 qty] Heap.empty fun v _ => v = .bool true := by
  obtain ⟨ha, hA⟩ := wf_i64 wp
  obtain ⟨hb, hB⟩ := wf_i64 wq
  refine Det.enter Try.func5 (by kernel_rfl) (of_decide_eq_true (by kernel_rfl)) ?_
  by_cases h1 : price < 1
  · skip
    refine Det.seqA (by kernel_rfl) ?_
    refine Det.opsA (by kernel_rfl) hX ?_
    refine OD.run 1 (by kernel_rfl) ?_
    refine OD.done (of_decide_eq_true (by kernel_rfl)) ?_
    refine then_n (by kernel_rfl) ?_
    refine Det.seqA (by kernel_rfl) ?_
    refine Det.seqA (by kernel_rfl) ?_
    refine Det.opsA (by kernel_rfl) hX ?_
    refine OD.run 1 (by kernel_rfl) ?_
    refine OD.as (Value.bool (decide (price < 1))) (Value.bool true) (by kernel_rfl) (of_decide_eq_true (by kernel_rfl)) (by kernel_rfl) (congrArg Value.bool (decide_eq_true (by exact h1))) ?_
    refine OD.run 12 (by kernel_rfl) ?_
    refine OD.done (of_decide_eq_true (by kernel_rfl)) ?_
    refine then_n (by kernel_rfl) ?_
    refine Det.condT (by kernel_rfl) (true) (by kernel_rfl) rfl ?_
    refine Det.seqA (by kernel_rfl) ?_
    refine Det.opsA (by kernel_rfl) hX ?_
    refine OD.run 1 (by kernel_rfl) ?_
    refine OD.done (of_decide_eq_true (by kernel_rfl)) ?_
    refine then_n (by kernel_rfl) ?_
    refine Det.retA (by kernel_rfl) ?_
    refine then_r (by kernel_rfl) ?_
    refine fin_r (Value.bool true) (by kernel_rfl) (by kernel_rfl) ?_
    rfl
  · by_cases h2 : price > 3000
    · skip
      refine Det.seqA (by kernel_rfl) ?_
      refine Det.opsA (by kernel_rfl) hX ?_
      refine OD.run 1 (by kernel_rfl) ?_
      refine OD.done (of_decide_eq_true (by kernel_rfl)) ?_
      refine then_n (by kernel_rfl) ?_
      refine Det.seqA (by kernel_rfl) ?_
      refine Det.seqA (by kernel_rfl) ?_
      refine Det.opsA (by kernel_rfl) hX ?_
      refine OD.run 1 (by kernel_rfl) ?_
      refine OD.as (Value.bool (decide (price < 1))) (Value.bool false) (by kernel_rfl) (of_decide_eq_true (by kernel_rfl)) (by kernel_rfl) (congrArg Value.bool (decide_eq_false (by exact h1))) ?_
      refine OD.run 2 (by kernel_rfl) ?_
      refine OD.as (Value.bool (decide (3000 < price))) (Value.bool true) (by kernel_rfl) (of_decide_eq_true (by kernel_rfl)) (by kernel_rfl) (congrArg Value.bool (decide_eq_true (by omega))) ?_
      refine OD.run 9 (by kernel_rfl) ?_
      refine OD.done (of_decide_eq_true (by kernel_rfl)) ?_
      refine then_n (by kernel_rfl) ?_
      refine Det.condT (by kernel_rfl) (true) (by kernel_rfl) rfl ?_
      refine Det.seqA (by kernel_rfl) ?_
      refine Det.opsA (by kernel_rfl) hX ?_
      refine OD.run 1 (by kernel_rfl) ?_
      refine OD.done (of_decide_eq_true (by kernel_rfl)) ?_
      refine then_n (by kernel_rfl) ?_
      refine Det.retA (by kernel_rfl) ?_
      refine then_r (by kernel_rfl) ?_
      refine fin_r (Value.bool true) (by kernel_rfl) (by kernel_rfl) ?_
      rfl
    · by_cases h3 : qty < 1
      · skip
        refine Det.seqA (by kernel_rfl) ?_
        refine Det.opsA (by kernel_rfl) hX ?_
        refine OD.run 1 (by kernel_rfl) ?_
        refine OD.done (of_decide_eq_true (by kernel_rfl)) ?_
        refine then_n (by kernel_rfl) ?_
        refine Det.seqA (by kernel_rfl) ?_
        refine Det.seqA (by kernel_rfl) ?_
        refine Det.opsA (by kernel_rfl) hX ?_
        refine OD.run 1 (by kernel_rfl) ?_
        refine OD.as (Value.bool (decide (price < 1))) (Value.bool false) (by kernel_rfl) (of_decide_eq_true (by kernel_rfl)) (by kernel_rfl) (congrArg Value.bool (decide_eq_false (by exact h1))) ?_
        refine OD.run 2 (by kernel_rfl) ?_
        refine OD.as (Value.bool (decide (3000 < price))) (Value.bool false) (by kernel_rfl) (of_decide_eq_true (by kernel_rfl)) (by kernel_rfl) (congrArg Value.bool (decide_eq_false (by omega))) ?_
        refine OD.run 3 (by kernel_rfl) ?_
        refine OD.as (Value.bool (decide (qty < 1))) (Value.bool true) (by kernel_rfl) (of_decide_eq_true (by kernel_rfl)) (by kernel_rfl) (congrArg Value.bool (decide_eq_true (by exact h3))) ?_
        refine OD.run 5 (by kernel_rfl) ?_
        refine OD.done (of_decide_eq_true (by kernel_rfl)) ?_
        refine then_n (by kernel_rfl) ?_
        refine Det.condT (by kernel_rfl) (true) (by kernel_rfl) rfl ?_
        refine Det.seqA (by kernel_rfl) ?_
        refine Det.opsA (by kernel_rfl) hX ?_
        refine OD.run 1 (by kernel_rfl) ?_
        refine OD.done (of_decide_eq_true (by kernel_rfl)) ?_
        refine then_n (by kernel_rfl) ?_
        refine Det.retA (by kernel_rfl) ?_
        refine then_r (by kernel_rfl) ?_
        refine fin_r (Value.bool true) (by kernel_rfl) (by kernel_rfl) ?_
        rfl
      · by_cases h4 : qty > 3000
        · skip
          refine Det.seqA (by kernel_rfl) ?_
          refine Det.opsA (by kernel_rfl) hX ?_
          refine OD.run 1 (by kernel_rfl) ?_
          refine OD.done (of_decide_eq_true (by kernel_rfl)) ?_
          refine then_n (by kernel_rfl) ?_
          refine Det.seqA (by kernel_rfl) ?_
          refine Det.seqA (by kernel_rfl) ?_
          refine Det.opsA (by kernel_rfl) hX ?_
          refine OD.run 1 (by kernel_rfl) ?_
          refine OD.as (Value.bool (decide (price < 1))) (Value.bool false) (by kernel_rfl) (of_decide_eq_true (by kernel_rfl)) (by kernel_rfl) (congrArg Value.bool (decide_eq_false (by exact h1))) ?_
          refine OD.run 2 (by kernel_rfl) ?_
          refine OD.as (Value.bool (decide (3000 < price))) (Value.bool false) (by kernel_rfl) (of_decide_eq_true (by kernel_rfl)) (by kernel_rfl) (congrArg Value.bool (decide_eq_false (by omega))) ?_
          refine OD.run 3 (by kernel_rfl) ?_
          refine OD.as (Value.bool (decide (qty < 1))) (Value.bool false) (by kernel_rfl) (of_decide_eq_true (by kernel_rfl)) (by kernel_rfl) (congrArg Value.bool (decide_eq_false (by exact h3))) ?_
          refine OD.run 3 (by kernel_rfl) ?_
          refine OD.as (Value.bool (decide (3000 < qty))) (Value.bool true) (by kernel_rfl) (of_decide_eq_true (by kernel_rfl)) (by kernel_rfl) (congrArg Value.bool (decide_eq_true (by omega))) ?_
          refine OD.run 1 (by kernel_rfl) ?_
          refine OD.done (of_decide_eq_true (by kernel_rfl)) ?_
          refine then_n (by kernel_rfl) ?_
          refine Det.condT (by kernel_rfl) (true) (by kernel_rfl) rfl ?_
          refine Det.seqA (by kernel_rfl) ?_
          refine Det.opsA (by kernel_rfl) hX ?_
          refine OD.run 1 (by kernel_rfl) ?_
          refine OD.done (of_decide_eq_true (by kernel_rfl)) ?_
          refine then_n (by kernel_rfl) ?_
          refine Det.retA (by kernel_rfl) ?_
          refine then_r (by kernel_rfl) ?_
          refine fin_r (Value.bool true) (by kernel_rfl) (by kernel_rfl) ?_
          rfl
        · have hp := caps_bounds (p := price) (q := qty) (by omega) (by omega) (by omega) (by omega)
          refine Det.seqA (by kernel_rfl) ?_
          refine Det.opsA (by kernel_rfl) hX ?_
          refine OD.run 1 (by kernel_rfl) ?_
          refine OD.done (of_decide_eq_true (by kernel_rfl)) ?_
          refine then_n (by kernel_rfl) ?_
          refine Det.seqA (by kernel_rfl) ?_
          refine Det.seqA (by kernel_rfl) ?_
          refine Det.opsA (by kernel_rfl) hX ?_
          refine OD.run 1 (by kernel_rfl) ?_
          refine OD.as (Value.bool (decide (price < 1))) (Value.bool false) (by kernel_rfl) (of_decide_eq_true (by kernel_rfl)) (by kernel_rfl) (congrArg Value.bool (decide_eq_false (by exact h1))) ?_
          refine OD.run 2 (by kernel_rfl) ?_
          refine OD.as (Value.bool (decide (3000 < price))) (Value.bool false) (by kernel_rfl) (of_decide_eq_true (by kernel_rfl)) (by kernel_rfl) (congrArg Value.bool (decide_eq_false (by omega))) ?_
          refine OD.run 3 (by kernel_rfl) ?_
          refine OD.as (Value.bool (decide (qty < 1))) (Value.bool false) (by kernel_rfl) (of_decide_eq_true (by kernel_rfl)) (by kernel_rfl) (congrArg Value.bool (decide_eq_false (by exact h3))) ?_
          refine OD.run 3 (by kernel_rfl) ?_
          refine OD.as (Value.bool (decide (3000 < qty))) (Value.bool false) (by kernel_rfl) (of_decide_eq_true (by kernel_rfl)) (by kernel_rfl) (congrArg Value.bool (decide_eq_false (by omega))) ?_
          refine OD.run 1 (by kernel_rfl) ?_
          refine OD.done (of_decide_eq_true (by kernel_rfl)) ?_
          refine then_n (by kernel_rfl) ?_
          refine Det.condF (by kernel_rfl) (false) (by kernel_rfl) rfl ?_
          refine Det.skipA (by kernel_rfl) ?_
          refine then_n (by kernel_rfl) ?_
          refine Det.seqA (by kernel_rfl) ?_
          refine Det.opsA (by kernel_rfl) hX ?_
          refine OD.callEv 100 12 ([Value.int IntKind.i64 0]) (Value.agg #[Value.slice (some { block := 3, off := 0 }) 2 2, Value.slice (some { block := 4, off := 0 }) 5 5, Value.int IntKind.i64 3, Value.int IntKind.i64 50]) ({ next := 6, tree := Tree.node (Tree.node (Tree.node Tree.leaf (some (Thing.row [Value.int IntKind.i64 5, Value.int IntKind.i64 10, Value.int IntKind.i64 10, Value.int IntKind.i64 100, Value.int IntKind.i64 5, Value.int IntKind.i64 500, Value.bool false, Value.int IntKind.i64 1, Value.int IntKind.i64 1, Value.int IntKind.i64 1, Value.int IntKind.i64 1000, Value.int IntKind.i64 1, Value.int IntKind.i64 1000, Value.bool false] 55)) Tree.leaf) (some (Thing.row [Value.int IntKind.i64 5, Value.int IntKind.i64 10, Value.int IntKind.i64 10, Value.int IntKind.i64 100, Value.int IntKind.i64 5, Value.int IntKind.i64 500, Value.bool false] 55)) (Tree.node Tree.leaf (some (Thing.row [Value.slice (some { block := 3, off := 0 }) 2 2, Value.slice (some { block := 4, off := 0 }) 5 5, Value.int IntKind.i64 3, Value.int IntKind.i64 50] 25)) Tree.leaf)) (some (Thing.row [Value.slice (some { block := 3, off := 0 }) 2 2, Value.slice (some { block := 4, off := 0 }) 5 5, Value.int IntKind.i64 3, Value.int IntKind.i64 50] 25)) (Tree.node (Tree.node Tree.leaf (some (Thing.row [Value.int IntKind.i64 1, Value.int IntKind.u64 12, Value.int IntKind.i64 0, Value.int IntKind.i64 1, Value.int IntKind.u64 4, Value.int IntKind.i64 0, Value.int IntKind.i64 2, Value.int IntKind.u64 0, Value.int IntKind.i64 100000, Value.int IntKind.i64 2, Value.int IntKind.u64 0, Value.int IntKind.i64 3000, Value.int IntKind.i64 3, Value.int IntKind.u64 0, Value.int IntKind.i64 0] 51)) Tree.leaf) (some (Thing.row [Value.int IntKind.i64 1, Value.int IntKind.i64 1, Value.int IntKind.i64 1, Value.int IntKind.i64 1000, Value.int IntKind.i64 1, Value.int IntKind.i64 1000, Value.bool false] 55)) Tree.leaf) }) hmix hX (by kernel_rfl) (by kernel_rfl) (of_decide_eq_true (by kernel_rfl)) (by kernel_rfl) (by kernel_rfl) (by kernel_rfl) ?_
          refine OD.callEv 100 10 ([Value.agg #[Value.slice (some { block := 3, off := 0 }) 2 2, Value.slice (some { block := 4, off := 0 }) 5 5, Value.int IntKind.i64 3, Value.int IntKind.i64 50]]) (Value.pointer (some { block := 31, off := 0 })) ({ next := 32, tree := Tree.node (Tree.node (Tree.node (Tree.node (Tree.node (Tree.node Tree.leaf (some (Thing.row [Value.slice (some { block := 29, off := 0, spot := some 3 }) 5 5, Value.slice (some { block := 30, off := 0 }) 5 5] 65)) Tree.leaf) (some (Thing.row [Value.int IntKind.i64 5, Value.int IntKind.i64 10, Value.int IntKind.i64 10, Value.int IntKind.i64 100, Value.int IntKind.i64 5, Value.int IntKind.i64 500, Value.bool false] 55)) Tree.leaf) (some (Thing.row [Value.slice (some { block := 3, off := 0 }) 2 2, Value.slice (some { block := 4, off := 0 }) 5 5, Value.int IntKind.i64 3, Value.int IntKind.i64 50] 25)) (Tree.node Tree.leaf (some (Thing.row [Value.int IntKind.i64 2, Value.int IntKind.u64 0, Value.int IntKind.i64 100000] 51)) Tree.leaf)) (some (Thing.row [Value.int IntKind.i64 5, Value.int IntKind.i64 10, Value.int IntKind.i64 10, Value.int IntKind.i64 100, Value.int IntKind.i64 5, Value.int IntKind.i64 500, Value.bool false, Value.int IntKind.i64 1, Value.int IntKind.i64 1, Value.int IntKind.i64 1, Value.int IntKind.i64 1000, Value.int IntKind.i64 1, Value.int IntKind.i64 1000, Value.bool false] 55)) (Tree.node (Tree.node Tree.leaf (some (Thing.row [Value.int IntKind.i64 1, Value.int IntKind.u64 12, Value.int IntKind.i64 0] 51)) Tree.leaf) (some (Thing.row [Value.int IntKind.i64 2, Value.int IntKind.u64 0, Value.int IntKind.i64 3000] 51)) (Tree.node Tree.leaf (some (Thing.row [Value.int IntKind.i64 3, Value.int IntKind.u64 0, Value.int IntKind.i64 0] 51)) Tree.leaf))) (some (Thing.row [Value.int IntKind.i64 5, Value.int IntKind.i64 10, Value.int IntKind.i64 10, Value.int IntKind.i64 100, Value.int IntKind.i64 5, Value.int IntKind.i64 500, Value.bool false] 55)) (Tree.node (Tree.node (Tree.node Tree.leaf (some (Thing.row [Value.int IntKind.i64 1, Value.int IntKind.i64 1, Value.int IntKind.i64 1, Value.int IntKind.i64 1000, Value.int IntKind.i64 1, Value.int IntKind.i64 1000, Value.bool false] 55)) Tree.leaf) (some (Thing.row [Value.int IntKind.i64 1, Value.int IntKind.u64 4, Value.int IntKind.i64 0] 51)) (Tree.node Tree.leaf (some (Thing.row [Value.int IntKind.i64 2, Value.int IntKind.u64 0, Value.int IntKind.i64 3000] 51)) Tree.leaf)) (some (Thing.row [Value.slice (some { block := 3, off := 0 }) 2 2, Value.slice (some { block := 4, off := 0 }) 5 5, Value.int IntKind.i64 3, Value.int IntKind.i64 50] 25)) (Tree.node (Tree.node Tree.leaf (some (Thing.row [Value.int IntKind.i64 1, Value.int IntKind.u64 4, Value.int IntKind.i64 0] 51)) Tree.leaf) (some (Thing.row [Value.int IntKind.u64 12] 37)) (Tree.node Tree.leaf (some (Thing.row [Value.int IntKind.i64 1, Value.int IntKind.u64 12, Value.int IntKind.i64 0, Value.int IntKind.i64 1, Value.int IntKind.u64 4, Value.int IntKind.i64 0, Value.int IntKind.i64 2, Value.int IntKind.u64 0, Value.int IntKind.i64 100000, Value.int IntKind.i64 2, Value.int IntKind.u64 0, Value.int IntKind.i64 3000, Value.int IntKind.i64 3, Value.int IntKind.u64 0, Value.int IntKind.i64 0] 51)) Tree.leaf)))) (some (Thing.row [Value.slice (some { block := 3, off := 0 }) 2 2, Value.slice (some { block := 4, off := 0 }) 5 5, Value.int IntKind.i64 3, Value.int IntKind.i64 50] 25)) (Tree.node (Tree.node (Tree.node (Tree.node Tree.leaf (some (Thing.row [Value.int IntKind.i64 1, Value.int IntKind.i64 1, Value.int IntKind.i64 1, Value.int IntKind.i64 1000, Value.int IntKind.i64 1, Value.int IntKind.i64 1000, Value.bool false] 55)) Tree.leaf) (some (Thing.row [Value.int IntKind.i64 1, Value.int IntKind.u64 12, Value.int IntKind.i64 0] 51)) (Tree.node Tree.leaf (some (Thing.row [Value.int IntKind.i64 2, Value.int IntKind.u64 0, Value.int IntKind.i64 3000] 51)) Tree.leaf)) (some (Thing.row [Value.int IntKind.i64 1, Value.int IntKind.u64 12, Value.int IntKind.i64 0, Value.int IntKind.i64 1, Value.int IntKind.u64 4, Value.int IntKind.i64 0, Value.int IntKind.i64 2, Value.int IntKind.u64 0, Value.int IntKind.i64 100000, Value.int IntKind.i64 2, Value.int IntKind.u64 0, Value.int IntKind.i64 3000, Value.int IntKind.i64 3, Value.int IntKind.u64 0, Value.int IntKind.i64 0] 51)) (Tree.node (Tree.node Tree.leaf (some (Thing.row [Value.int IntKind.i64 1, Value.int IntKind.u64 4, Value.int IntKind.i64 0] 51)) Tree.leaf) (some (Thing.row [Value.int IntKind.i64 3, Value.int IntKind.u64 0, Value.int IntKind.i64 0] 51)) (Tree.node Tree.leaf (some (Thing.row [] 51)) Tree.leaf))) (some (Thing.row [Value.int IntKind.i64 1, Value.int IntKind.i64 1, Value.int IntKind.i64 1, Value.int IntKind.i64 1000, Value.int IntKind.i64 1, Value.int IntKind.i64 1000, Value.bool false] 55)) (Tree.node (Tree.node (Tree.node Tree.leaf (some (Thing.row [Value.int IntKind.i64 1, Value.int IntKind.u64 12, Value.int IntKind.i64 0] 51)) Tree.leaf) (some (Thing.row [Value.int IntKind.i64 2, Value.int IntKind.u64 0, Value.int IntKind.i64 100000] 51)) (Tree.node Tree.leaf (some (Thing.row [Value.int IntKind.i64 3, Value.int IntKind.u64 0, Value.int IntKind.i64 0] 51)) Tree.leaf)) (some (Thing.row [Value.slice (some { block := 3, off := 0 }) 2 2, Value.slice (some { block := 4, off := 0 }) 5 5, Value.int IntKind.i64 3, Value.int IntKind.i64 50] 25)) (Tree.node (Tree.node Tree.leaf (some (Thing.row [Value.int IntKind.i64 2, Value.int IntKind.u64 0, Value.int IntKind.i64 100000] 51)) Tree.leaf) (some (Thing.row [Value.int IntKind.i64 5, Value.int IntKind.i64 10, Value.int IntKind.i64 10, Value.int IntKind.i64 100, Value.int IntKind.i64 5, Value.int IntKind.i64 500, Value.bool false] 55)) (Tree.node Tree.leaf (some (Thing.row [Value.int IntKind.i64 0, Value.int IntKind.i64 0, Value.int IntKind.i64 0, Value.int IntKind.i64 0, Value.int IntKind.i64 0] 2)) Tree.leaf)))) }) hmix hX (by kernel_rfl) (by kernel_rfl) (of_decide_eq_true (by kernel_rfl)) (by kernel_rfl) (by kernel_rfl) (by kernel_rfl) ?_
          refine OD.run 1 (by kernel_rfl) ?_
          refine OD.done (of_decide_eq_true (by kernel_rfl)) ?_
          refine then_n (by kernel_rfl) ?_
          refine Det.seqA (by kernel_rfl) ?_
          refine Det.opsA (by kernel_rfl) hX ?_
          refine OD.run 1 (by kernel_rfl) ?_
          refine OD.done (of_decide_eq_true (by kernel_rfl)) ?_
          refine then_n (by kernel_rfl) ?_
          refine Det.seqA (by kernel_rfl) ?_
          refine Det.seqA (by kernel_rfl) ?_
          refine Det.opsA (by kernel_rfl) hX ?_
          refine OD.run 1 (by kernel_rfl) ?_
          refine OD.done (of_decide_eq_true (by kernel_rfl)) ?_
          refine then_n (by kernel_rfl) ?_
          refine Det.blockA (by kernel_rfl) ?_
          refine Det.loopD 32 (fun x : Nat × Int => 20 - x.1) (fun x => x.1 ≤ 20 ∧ 0 ≤ x.2 ∧ x.2 ≤ 3000) (fun x => [(0, .int .i64 price), (1, .int .i64 qty), (4, .bool false), (5, .pointer (some ⟨31, 0, none⟩)), (6, .int .i64 x.2), (7, .int .i64 (x.1 : Int))]) (fun x => rowsC x.2) (by kernel_rfl) (fun _ => rfl) (fun x _ => List.all_eq_true.1 (by kernel_rfl)) (fun x _ => by kernel_rfl) (0, 0) (by simp) (by kernel_rfl) (by kernel_rfl) (by kernel_rfl) ?_
          (rintro ⟨j, n⟩ ⟨hj, hn0, hn1⟩; simp only [] at hj hn0 hn1)
          refine Det.seqA (by kernel_rfl) ?_
          refine Det.seqA (by kernel_rfl) ?_
          refine Det.opsA (by kernel_rfl) hX ?_
          refine OD.run 2 (by kernel_rfl) ?_
          refine OD.done (of_decide_eq_true (by kernel_rfl)) ?_
          refine then_n (by kernel_rfl) ?_
          by_cases c38 : (↑j : Int) < 20
          · refine Det.condT (by kernel_rfl) (decide ((↑j : Int) < 20)) (by kernel_rfl) (decide_eq_true (by exact c38)) ?_
            refine Det.skipA (by kernel_rfl) ?_
            refine then_n (by kernel_rfl) ?_
            refine Det.seqA (by kernel_rfl) ?_
            refine Det.blockA (by kernel_rfl) ?_
            refine Det.seqA (by kernel_rfl) ?_
            refine Det.opsA (by kernel_rfl) hX ?_
            refine OD.run 3 (by kernel_rfl) ?_
            refine OD.callIn 14 ([Value.pointer (some { block := 31, off := 0 }), Value.int IntKind.i64 3, Value.int IntKind.i64 price, Value.int IntKind.i64 qty]) (by kernel_rfl) (of_decide_eq_true (by kernel_rfl)) (by kernel_rfl) (by kernel_rfl) (by kernel_rfl) ?_
            refine Det.enter Try.func14 (by kernel_rfl) (of_decide_eq_true (by kernel_rfl)) ?_
            refine Det.seqA (by kernel_rfl) ?_
            refine Det.opsA (by kernel_rfl) hX ?_
            refine OD.run 1 (by kernel_rfl) ?_
            refine OD.done (of_decide_eq_true (by kernel_rfl)) ?_
            refine then_n (by kernel_rfl) ?_
            refine Det.seqA (by kernel_rfl) ?_
            refine Det.opsA (by kernel_rfl) hX ?_
            refine OD.run 4 (by kernel_rfl) ?_
            refine OD.callIn 36 ([Value.pointer (some { block := 31, off := 0 }), Value.int IntKind.i64 3, Value.int IntKind.i64 price, Value.int IntKind.i64 qty]) (by kernel_rfl) (of_decide_eq_true (by kernel_rfl)) (by kernel_rfl) (by kernel_rfl) (by kernel_rfl) ?_
            refine Det.enter Try.func36 (by kernel_rfl) (of_decide_eq_true (by kernel_rfl)) ?_
            refine Det.seqA (by kernel_rfl) ?_
            refine Det.opsA (by kernel_rfl) hX ?_
            refine OD.run 2 (by kernel_rfl) ?_
            refine OD.done (of_decide_eq_true (by kernel_rfl)) ?_
            refine then_n (by kernel_rfl) ?_
            refine Det.seqA (by kernel_rfl) ?_
            refine Det.blockA (by kernel_rfl) ?_
            refine Det.seqA (by kernel_rfl) ?_
            refine Det.opsA (by kernel_rfl) hX ?_
            refine OD.run 3 (by kernel_rfl) ?_
            refine OD.done (of_decide_eq_true (by kernel_rfl)) ?_
            refine then_n (by kernel_rfl) ?_
            refine Det.condF (by kernel_rfl) (false) (by kernel_rfl) rfl ?_
            refine Det.seqA (by kernel_rfl) ?_
            refine Det.opsA (by kernel_rfl) hX ?_
            refine OD.run 2 (by kernel_rfl) ?_
            refine OD.callEv 100 35 ([Value.pointer (some { block := 31, off := 0 }), Value.int IntKind.i64 3]) (Value.int IntKind.i64 2) ({ next := 32, tree := Tree.node (Tree.node (Tree.node (Tree.node (Tree.node (Tree.node Tree.leaf (some (Thing.row [Value.slice (some { block := 29, off := 0, spot := some 3 }) 5 5, Value.slice (some { block := 30, off := 0 }) 5 5] 65)) Tree.leaf) (some (Thing.row [Value.int IntKind.i64 5, Value.int IntKind.i64 10, Value.int IntKind.i64 10, Value.int IntKind.i64 100, Value.int IntKind.i64 5, Value.int IntKind.i64 500, Value.bool false] 55)) Tree.leaf) (some (Thing.row [Value.slice (some { block := 3, off := 0 }) 2 2, Value.slice (some { block := 4, off := 0 }) 5 5, Value.int IntKind.i64 3, Value.int IntKind.i64 50] 25)) (Tree.node Tree.leaf (some (Thing.row [Value.int IntKind.i64 2, Value.int IntKind.u64 0, Value.int IntKind.i64 100000] 51)) Tree.leaf)) (some (Thing.row [Value.int IntKind.i64 5, Value.int IntKind.i64 10, Value.int IntKind.i64 10, Value.int IntKind.i64 100, Value.int IntKind.i64 5, Value.int IntKind.i64 500, Value.bool false, Value.int IntKind.i64 1, Value.int IntKind.i64 1, Value.int IntKind.i64 1, Value.int IntKind.i64 1000, Value.int IntKind.i64 1, Value.int IntKind.i64 1000, Value.bool false] 55)) (Tree.node (Tree.node Tree.leaf (some (Thing.row [Value.int IntKind.i64 1, Value.int IntKind.u64 12, Value.int IntKind.i64 0] 51)) Tree.leaf) (some (Thing.row [Value.int IntKind.i64 2, Value.int IntKind.u64 0, Value.int IntKind.i64 3000] 51)) (Tree.node Tree.leaf (some (Thing.row [Value.int IntKind.i64 3, Value.int IntKind.u64 0, Value.int IntKind.i64 0] 51)) Tree.leaf))) (some (Thing.row [Value.int IntKind.i64 5, Value.int IntKind.i64 10, Value.int IntKind.i64 10, Value.int IntKind.i64 100, Value.int IntKind.i64 5, Value.int IntKind.i64 500, Value.bool false] 55)) (Tree.node (Tree.node (Tree.node Tree.leaf (some (Thing.row [Value.int IntKind.i64 1, Value.int IntKind.i64 1, Value.int IntKind.i64 1, Value.int IntKind.i64 1000, Value.int IntKind.i64 1, Value.int IntKind.i64 1000, Value.bool false] 55)) Tree.leaf) (some (Thing.row [Value.int IntKind.i64 1, Value.int IntKind.u64 4, Value.int IntKind.i64 0] 51)) (Tree.node Tree.leaf (some (Thing.row [Value.int IntKind.i64 2, Value.int IntKind.u64 0, Value.int IntKind.i64 3000] 51)) Tree.leaf)) (some (Thing.row [Value.slice (some { block := 3, off := 0 }) 2 2, Value.slice (some { block := 4, off := 0 }) 5 5, Value.int IntKind.i64 3, Value.int IntKind.i64 50] 25)) (Tree.node (Tree.node Tree.leaf (some (Thing.row [Value.int IntKind.i64 1, Value.int IntKind.u64 4, Value.int IntKind.i64 0] 51)) Tree.leaf) (some (Thing.row [Value.int IntKind.u64 12] 37)) (Tree.node Tree.leaf (some (Thing.row [Value.int IntKind.i64 1, Value.int IntKind.u64 12, Value.int IntKind.i64 0, Value.int IntKind.i64 1, Value.int IntKind.u64 4, Value.int IntKind.i64 0, Value.int IntKind.i64 2, Value.int IntKind.u64 0, Value.int IntKind.i64 100000, Value.int IntKind.i64 2, Value.int IntKind.u64 0, Value.int IntKind.i64 3000, Value.int IntKind.i64 3, Value.int IntKind.u64 0, Value.int IntKind.i64 0] 51)) Tree.leaf)))) (some (Thing.row [Value.slice (some { block := 3, off := 0 }) 2 2, Value.slice (some { block := 4, off := 0 }) 5 5, Value.int IntKind.i64 3, Value.int IntKind.i64 50] 25)) (Tree.node (Tree.node (Tree.node (Tree.node Tree.leaf (some (Thing.row [Value.int IntKind.i64 1, Value.int IntKind.i64 1, Value.int IntKind.i64 1, Value.int IntKind.i64 1000, Value.int IntKind.i64 1, Value.int IntKind.i64 1000, Value.bool false] 55)) Tree.leaf) (some (Thing.row [Value.int IntKind.i64 1, Value.int IntKind.u64 12, Value.int IntKind.i64 0] 51)) (Tree.node Tree.leaf (some (Thing.row [Value.int IntKind.i64 2, Value.int IntKind.u64 0, Value.int IntKind.i64 3000] 51)) Tree.leaf)) (some (Thing.row [Value.int IntKind.i64 1, Value.int IntKind.u64 12, Value.int IntKind.i64 0, Value.int IntKind.i64 1, Value.int IntKind.u64 4, Value.int IntKind.i64 0, Value.int IntKind.i64 2, Value.int IntKind.u64 0, Value.int IntKind.i64 100000, Value.int IntKind.i64 2, Value.int IntKind.u64 0, Value.int IntKind.i64 3000, Value.int IntKind.i64 3, Value.int IntKind.u64 0, Value.int IntKind.i64 0] 51)) (Tree.node (Tree.node Tree.leaf (some (Thing.row [Value.int IntKind.i64 1, Value.int IntKind.u64 4, Value.int IntKind.i64 0] 51)) Tree.leaf) (some (Thing.row [Value.int IntKind.i64 3, Value.int IntKind.u64 0, Value.int IntKind.i64 0] 51)) (Tree.node Tree.leaf (some (Thing.row [] 51)) Tree.leaf))) (some (Thing.row [Value.int IntKind.i64 1, Value.int IntKind.i64 1, Value.int IntKind.i64 1, Value.int IntKind.i64 1000, Value.int IntKind.i64 1, Value.int IntKind.i64 1000, Value.bool false] 55)) (Tree.node (Tree.node (Tree.node Tree.leaf (some (Thing.row [Value.int IntKind.i64 1, Value.int IntKind.u64 12, Value.int IntKind.i64 0] 51)) Tree.leaf) (some (Thing.row [Value.int IntKind.i64 2, Value.int IntKind.u64 0, Value.int IntKind.i64 100000] 51)) (Tree.node Tree.leaf (some (Thing.row [Value.int IntKind.i64 3, Value.int IntKind.u64 0, Value.int IntKind.i64 0] 51)) Tree.leaf)) (some (Thing.row [Value.slice (some { block := 3, off := 0 }) 2 2, Value.slice (some { block := 4, off := 0 }) 5 5, Value.int IntKind.i64 3, Value.int IntKind.i64 50] 25)) (Tree.node (Tree.node Tree.leaf (some (Thing.row [Value.int IntKind.i64 2, Value.int IntKind.u64 0, Value.int IntKind.i64 100000] 51)) Tree.leaf) (some (Thing.row [Value.int IntKind.i64 5, Value.int IntKind.i64 10, Value.int IntKind.i64 10, Value.int IntKind.i64 100, Value.int IntKind.i64 5, Value.int IntKind.i64 500, Value.bool false] 55)) (Tree.node Tree.leaf (some (Thing.row [Value.int IntKind.i64 0, Value.int IntKind.i64 0, Value.int IntKind.i64 0, Value.int IntKind.i64 n, Value.int IntKind.i64 0] 2)) Tree.leaf)))) }) hmix hX (by kernel_rfl) (by kernel_rfl) (of_decide_eq_true (by kernel_rfl)) (by kernel_rfl) (by kernel_rfl) (by kernel_rfl) ?_
            refine OD.run 2 (by kernel_rfl) ?_
            refine OD.done (of_decide_eq_true (by kernel_rfl)) ?_
            refine then_n (by kernel_rfl) ?_
            refine Det.condF (by kernel_rfl) (false) (by kernel_rfl) rfl ?_
            refine Det.seqA (by kernel_rfl) ?_
            refine Det.opsA (by kernel_rfl) hX ?_
            refine OD.run 1 (by kernel_rfl) ?_
            refine OD.as (Value.bool (decide (price < 1))) (Value.bool false) (by kernel_rfl) (of_decide_eq_true (by kernel_rfl)) (by kernel_rfl) (congrArg Value.bool (decide_eq_false (by exact h1))) ?_
            refine OD.run 2 (by kernel_rfl) ?_
            refine OD.as (Value.bool (decide (qty < 1))) (Value.bool false) (by kernel_rfl) (of_decide_eq_true (by kernel_rfl)) (by kernel_rfl) (congrArg Value.bool (decide_eq_false (by exact h3))) ?_
            refine OD.run 2 (by kernel_rfl) ?_
            refine OD.done (of_decide_eq_true (by kernel_rfl)) ?_
            refine then_n (by kernel_rfl) ?_
            refine Det.condF (by kernel_rfl) (false) (by kernel_rfl) rfl ?_
            refine Det.skipA (by kernel_rfl) ?_
            refine then_n (by kernel_rfl) ?_
            refine Det.seqA (by kernel_rfl) ?_
            refine Det.opsA (by kernel_rfl) hX ?_
            refine OD.run 2 (by kernel_rfl) ?_
            refine OD.callEq 45 ([Value.int IntKind.i64 price, Value.int IntKind.i64 qty]) (fix_Times _ _ (by omega) hA (by omega) hB _) (by kernel_rfl) (of_decide_eq_true (by kernel_rfl)) (by kernel_rfl) (by kernel_rfl) (by kernel_rfl) ?_
            refine OD.run 6 (by kernel_rfl) ?_
            refine OD.done (of_decide_eq_true (by kernel_rfl)) ?_
            refine then_n (by kernel_rfl) ?_
            refine Det.seqA (by kernel_rfl) ?_
            refine Det.opsA (by kernel_rfl) hX ?_
            refine OD.run 1 (by kernel_rfl) ?_
            refine OD.callEq 46 ([Value.agg #[Value.int IntKind.u64 (price * qty / 18446744073709551616), Value.int IntKind.u64 (price * qty % 18446744073709551616)]]) (fix_Narrow_in _ (by omega) (by omega) _) (by kernel_rfl) (of_decide_eq_true (by kernel_rfl)) (by kernel_rfl) (by kernel_rfl) (by kernel_rfl) ?_
            refine OD.run 5 (by kernel_rfl) ?_
            refine OD.done (of_decide_eq_true (by kernel_rfl)) ?_
            refine then_n (by kernel_rfl) ?_
            refine Det.seqA (by kernel_rfl) ?_
            refine Det.seqA (by kernel_rfl) ?_
            refine Det.opsA (by kernel_rfl) hX ?_
            refine OD.run 2 (by kernel_rfl) ?_
            refine OD.done (of_decide_eq_true (by kernel_rfl)) ?_
            refine then_n (by kernel_rfl) ?_
            refine Det.condF (by kernel_rfl) (false) (by kernel_rfl) rfl ?_
            refine Det.skipA (by kernel_rfl) ?_
            refine then_n (by kernel_rfl) ?_
            refine Det.seqA (by kernel_rfl) ?_
            refine Det.opsA (by kernel_rfl) hX ?_
            refine OD.run 8 (by kernel_rfl) ?_
            refine OD.callEq 47 ([Value.int IntKind.i64 n, Value.int IntKind.i64 (price * qty)]) (fix_Add_in _ _ (by omega) (by omega) (by omega) (by omega) (by omega) (by omega) _) (by kernel_rfl) (of_decide_eq_true (by kernel_rfl)) (by kernel_rfl) (by kernel_rfl) (by kernel_rfl) ?_
            refine OD.run 5 (by kernel_rfl) ?_
            refine OD.done (of_decide_eq_true (by kernel_rfl)) ?_
            refine then_n (by kernel_rfl) ?_
            refine Det.seqA (by kernel_rfl) ?_
            refine Det.seqA (by kernel_rfl) ?_
            refine Det.opsA (by kernel_rfl) hX ?_
            refine OD.run 2 (by kernel_rfl) ?_
            refine OD.done (of_decide_eq_true (by kernel_rfl)) ?_
            refine then_n (by kernel_rfl) ?_
            refine Det.condF (by kernel_rfl) (false) (by kernel_rfl) rfl ?_
            refine Det.skipA (by kernel_rfl) ?_
            refine then_n (by kernel_rfl) ?_
            refine Det.seqA (by kernel_rfl) ?_
            refine Det.seqA (by kernel_rfl) ?_
            refine Det.opsA (by kernel_rfl) hX ?_
            refine OD.run 10 (by kernel_rfl) ?_
            refine OD.done (of_decide_eq_true (by kernel_rfl)) ?_
            refine then_n (by kernel_rfl) ?_
            by_cases c116 : 3000 < n + price * qty
            · refine Det.condT (by kernel_rfl) (decide (3000 < n + price * qty)) (by kernel_rfl) (decide_eq_true (by exact c116)) ?_
              refine Det.seqA (by kernel_rfl) ?_
              refine Det.opsA (by kernel_rfl) hX ?_
              refine OD.run 2 (by kernel_rfl) ?_
              refine OD.done (of_decide_eq_true (by kernel_rfl)) ?_
              refine then_n (by kernel_rfl) ?_
              refine Det.retA (by kernel_rfl) ?_
              refine then_r (by kernel_rfl) ?_
              refine fin_r (Value.tuple #[Value.int IntKind.i64 0, Value.int IntKind.i64 14]) (by kernel_rfl) (by kernel_rfl) ?_
              refine OD.run 5 (by kernel_rfl) ?_
              refine OD.done (of_decide_eq_true (by kernel_rfl)) ?_
              refine then_n (by kernel_rfl) ?_
              refine Det.seqA (by kernel_rfl) ?_
              refine Det.seqA (by kernel_rfl) ?_
              refine Det.opsA (by kernel_rfl) hX ?_
              refine OD.run 2 (by kernel_rfl) ?_
              refine OD.done (of_decide_eq_true (by kernel_rfl)) ?_
              refine then_n (by kernel_rfl) ?_
              refine Det.condF (by kernel_rfl) (false) (by kernel_rfl) rfl ?_
              refine Det.skipA (by kernel_rfl) ?_
              refine then_n (by kernel_rfl) ?_
              refine Det.seqA (by kernel_rfl) ?_
              refine Det.opsA (by kernel_rfl) hX ?_
              refine OD.run 2 (by kernel_rfl) ?_
              refine OD.done (of_decide_eq_true (by kernel_rfl)) ?_
              refine then_n (by kernel_rfl) ?_
              refine Det.retA (by kernel_rfl) ?_
              refine fin_r (Value.int IntKind.i64 14) (by kernel_rfl) (by kernel_rfl) ?_
              refine OD.run 1 (by kernel_rfl) ?_
              refine OD.done (of_decide_eq_true (by kernel_rfl)) ?_
              refine then_n (by kernel_rfl) ?_
              refine Det.seqA (by kernel_rfl) ?_
              refine Det.opsA (by kernel_rfl) hX ?_
              refine OD.run 1 (by kernel_rfl) ?_
              refine OD.done (of_decide_eq_true (by kernel_rfl)) ?_
              refine then_n (by kernel_rfl) ?_
              refine Det.seqA (by kernel_rfl) ?_
              refine Det.seqA (by kernel_rfl) ?_
              refine Det.opsA (by kernel_rfl) hX ?_
              refine OD.run 2 (by kernel_rfl) ?_
              refine OD.as (Value.int IntKind.i64 (IntKind.wrap IntKind.i64 (price * qty))) (Value.int IntKind.i64 (price * qty)) (by kernel_rfl) (of_decide_eq_true (by kernel_rfl)) (by kernel_rfl) (congrArg _ (by (rw [IntKind.wrap_i64]; omega))) ?_
              refine OD.run 1 (by kernel_rfl) ?_
              refine OD.as (Value.int IntKind.i64 (IntKind.wrap IntKind.i64 (3000 - n))) (Value.int IntKind.i64 (3000 - n)) (by kernel_rfl) (of_decide_eq_true (by kernel_rfl)) (by kernel_rfl) (congrArg _ (by (rw [IntKind.wrap_i64]; omega))) ?_
              refine OD.as (Value.bool (decide (3000 - n < price * qty))) (Value.bool true) (by kernel_rfl) (of_decide_eq_true (by kernel_rfl)) (by kernel_rfl) (congrArg Value.bool (decide_eq_true (by omega))) ?_
              refine OD.done (of_decide_eq_true (by kernel_rfl)) ?_
              refine then_n (by kernel_rfl) ?_
              refine Det.condT (by kernel_rfl) (true) (by kernel_rfl) rfl ?_
              refine Det.opsA (by kernel_rfl) hX ?_
              refine OD.run 1 (by kernel_rfl) ?_
              refine OD.done (of_decide_eq_true (by kernel_rfl)) ?_
              refine then_n (by kernel_rfl) ?_
              refine Det.seqA (by kernel_rfl) ?_
              refine Det.seqA (by kernel_rfl) ?_
              refine Det.opsA (by kernel_rfl) hX ?_
              refine OD.run 3 (by kernel_rfl) ?_
              refine OD.done (of_decide_eq_true (by kernel_rfl)) ?_
              refine then_n (by kernel_rfl) ?_
              refine Det.condF (by kernel_rfl) (false) (by kernel_rfl) rfl ?_
              refine Det.skipA (by kernel_rfl) ?_
              refine then_n (by kernel_rfl) ?_
              refine Det.seqA (by kernel_rfl) ?_
              refine Det.seqA (by kernel_rfl) ?_
              refine Det.opsA (by kernel_rfl) hX ?_
              refine OD.run 2 (by kernel_rfl) ?_
              refine OD.done (of_decide_eq_true (by kernel_rfl)) ?_
              refine then_n (by kernel_rfl) ?_
              refine Det.condF (by kernel_rfl) (false) (by kernel_rfl) rfl ?_
              refine Det.skipA (by kernel_rfl) ?_
              refine then_n (by kernel_rfl) ?_
              refine Det.seqA (by kernel_rfl) ?_
              refine Det.opsA (by kernel_rfl) hX ?_
              refine OD.run 1 (by kernel_rfl) ?_
              refine OD.callEv 100 15 ([Value.pointer (some { block := 31, off := 0 }), Value.int IntKind.i64 3]) (Value.int IntKind.i64 n) ({ next := 33, tree := Tree.node (Tree.node (Tree.node (Tree.node (Tree.node (Tree.node Tree.leaf (some (Thing.row [Value.slice (some { block := 29, off := 0, spot := some 3 }) 5 5, Value.slice (some { block := 30, off := 0 }) 5 5] 65)) Tree.leaf) (some (Thing.row [Value.int IntKind.i64 5, Value.int IntKind.i64 10, Value.int IntKind.i64 10, Value.int IntKind.i64 100, Value.int IntKind.i64 5, Value.int IntKind.i64 500, Value.bool false] 55)) Tree.leaf) (some (Thing.row [Value.slice (some { block := 3, off := 0 }) 2 2, Value.slice (some { block := 4, off := 0 }) 5 5, Value.int IntKind.i64 3, Value.int IntKind.i64 50] 25)) (Tree.node Tree.leaf (some (Thing.row [Value.int IntKind.i64 2, Value.int IntKind.u64 0, Value.int IntKind.i64 100000] 51)) Tree.leaf)) (some (Thing.row [Value.int IntKind.i64 5, Value.int IntKind.i64 10, Value.int IntKind.i64 10, Value.int IntKind.i64 100, Value.int IntKind.i64 5, Value.int IntKind.i64 500, Value.bool false, Value.int IntKind.i64 1, Value.int IntKind.i64 1, Value.int IntKind.i64 1, Value.int IntKind.i64 1000, Value.int IntKind.i64 1, Value.int IntKind.i64 1000, Value.bool false] 55)) (Tree.node (Tree.node Tree.leaf (some (Thing.row [Value.int IntKind.i64 1, Value.int IntKind.u64 12, Value.int IntKind.i64 0] 51)) Tree.leaf) (some (Thing.row [Value.int IntKind.i64 2, Value.int IntKind.u64 0, Value.int IntKind.i64 3000] 51)) (Tree.node Tree.leaf (some (Thing.row [Value.int IntKind.i64 3, Value.int IntKind.u64 0, Value.int IntKind.i64 0] 51)) Tree.leaf))) (some (Thing.row [Value.int IntKind.i64 5, Value.int IntKind.i64 10, Value.int IntKind.i64 10, Value.int IntKind.i64 100, Value.int IntKind.i64 5, Value.int IntKind.i64 500, Value.bool false] 55)) (Tree.node (Tree.node (Tree.node Tree.leaf (some (Thing.row [Value.int IntKind.i64 1, Value.int IntKind.i64 1, Value.int IntKind.i64 1, Value.int IntKind.i64 1000, Value.int IntKind.i64 1, Value.int IntKind.i64 1000, Value.bool false] 55)) Tree.leaf) (some (Thing.row [Value.int IntKind.i64 1, Value.int IntKind.u64 4, Value.int IntKind.i64 0] 51)) (Tree.node Tree.leaf (some (Thing.row [Value.int IntKind.i64 2, Value.int IntKind.u64 0, Value.int IntKind.i64 3000] 51)) Tree.leaf)) (some (Thing.row [Value.slice (some { block := 3, off := 0 }) 2 2, Value.slice (some { block := 4, off := 0 }) 5 5, Value.int IntKind.i64 3, Value.int IntKind.i64 50] 25)) (Tree.node (Tree.node Tree.leaf (some (Thing.row [Value.int IntKind.i64 1, Value.int IntKind.u64 4, Value.int IntKind.i64 0] 51)) Tree.leaf) (some (Thing.row [Value.int IntKind.u64 12] 37)) (Tree.node Tree.leaf (some (Thing.row [Value.int IntKind.i64 1, Value.int IntKind.u64 12, Value.int IntKind.i64 0, Value.int IntKind.i64 1, Value.int IntKind.u64 4, Value.int IntKind.i64 0, Value.int IntKind.i64 2, Value.int IntKind.u64 0, Value.int IntKind.i64 100000, Value.int IntKind.i64 2, Value.int IntKind.u64 0, Value.int IntKind.i64 3000, Value.int IntKind.i64 3, Value.int IntKind.u64 0, Value.int IntKind.i64 0] 51)) Tree.leaf)))) (some (Thing.row [Value.slice (some { block := 3, off := 0 }) 2 2, Value.slice (some { block := 4, off := 0 }) 5 5, Value.int IntKind.i64 3, Value.int IntKind.i64 50] 25)) (Tree.node (Tree.node (Tree.node (Tree.node (Tree.node Tree.leaf (some (Thing.row [Value.int IntKind.u64 (price * qty / 18446744073709551616), Value.int IntKind.u64 (price * qty % 18446744073709551616)] 70)) Tree.leaf) (some (Thing.row [Value.int IntKind.i64 1, Value.int IntKind.i64 1, Value.int IntKind.i64 1, Value.int IntKind.i64 1000, Value.int IntKind.i64 1, Value.int IntKind.i64 1000, Value.bool false] 55)) Tree.leaf) (some (Thing.row [Value.int IntKind.i64 1, Value.int IntKind.u64 12, Value.int IntKind.i64 0] 51)) (Tree.node Tree.leaf (some (Thing.row [Value.int IntKind.i64 2, Value.int IntKind.u64 0, Value.int IntKind.i64 3000] 51)) Tree.leaf)) (some (Thing.row [Value.int IntKind.i64 1, Value.int IntKind.u64 12, Value.int IntKind.i64 0, Value.int IntKind.i64 1, Value.int IntKind.u64 4, Value.int IntKind.i64 0, Value.int IntKind.i64 2, Value.int IntKind.u64 0, Value.int IntKind.i64 100000, Value.int IntKind.i64 2, Value.int IntKind.u64 0, Value.int IntKind.i64 3000, Value.int IntKind.i64 3, Value.int IntKind.u64 0, Value.int IntKind.i64 0] 51)) (Tree.node (Tree.node Tree.leaf (some (Thing.row [Value.int IntKind.i64 1, Value.int IntKind.u64 4, Value.int IntKind.i64 0] 51)) Tree.leaf) (some (Thing.row [Value.int IntKind.i64 3, Value.int IntKind.u64 0, Value.int IntKind.i64 0] 51)) (Tree.node Tree.leaf (some (Thing.row [] 51)) Tree.leaf))) (some (Thing.row [Value.int IntKind.i64 1, Value.int IntKind.i64 1, Value.int IntKind.i64 1, Value.int IntKind.i64 1000, Value.int IntKind.i64 1, Value.int IntKind.i64 1000, Value.bool false] 55)) (Tree.node (Tree.node (Tree.node Tree.leaf (some (Thing.row [Value.int IntKind.i64 1, Value.int IntKind.u64 12, Value.int IntKind.i64 0] 51)) Tree.leaf) (some (Thing.row [Value.int IntKind.i64 2, Value.int IntKind.u64 0, Value.int IntKind.i64 100000] 51)) (Tree.node Tree.leaf (some (Thing.row [Value.int IntKind.i64 3, Value.int IntKind.u64 0, Value.int IntKind.i64 0] 51)) Tree.leaf)) (some (Thing.row [Value.slice (some { block := 3, off := 0 }) 2 2, Value.slice (some { block := 4, off := 0 }) 5 5, Value.int IntKind.i64 3, Value.int IntKind.i64 50] 25)) (Tree.node (Tree.node Tree.leaf (some (Thing.row [Value.int IntKind.i64 2, Value.int IntKind.u64 0, Value.int IntKind.i64 100000] 51)) Tree.leaf) (some (Thing.row [Value.int IntKind.i64 5, Value.int IntKind.i64 10, Value.int IntKind.i64 10, Value.int IntKind.i64 100, Value.int IntKind.i64 5, Value.int IntKind.i64 500, Value.bool false] 55)) (Tree.node Tree.leaf (some (Thing.row [Value.int IntKind.i64 0, Value.int IntKind.i64 0, Value.int IntKind.i64 0, Value.int IntKind.i64 n, Value.int IntKind.i64 0] 2)) Tree.leaf)))) }) hmix hX (by kernel_rfl) (by kernel_rfl) (of_decide_eq_true (by kernel_rfl)) (by kernel_rfl) (by kernel_rfl) (by kernel_rfl) ?_
              refine OD.run 1 (by kernel_rfl) ?_
              refine OD.as (Value.bool (n != n)) (Value.bool false) (by kernel_rfl) (of_decide_eq_true (by kernel_rfl)) (by kernel_rfl) (congrArg Value.bool (bne_eq_false_iff_eq.2 rfl)) ?_
              refine OD.run 2 (by kernel_rfl) ?_
              refine OD.callEv 100 15 ([Value.pointer (some { block := 31, off := 0 }), Value.int IntKind.i64 2]) (Value.int IntKind.i64 0) ({ next := 33, tree := Tree.node (Tree.node (Tree.node (Tree.node (Tree.node (Tree.node Tree.leaf (some (Thing.row [Value.slice (some { block := 29, off := 0, spot := some 3 }) 5 5, Value.slice (some { block := 30, off := 0 }) 5 5] 65)) Tree.leaf) (some (Thing.row [Value.int IntKind.i64 5, Value.int IntKind.i64 10, Value.int IntKind.i64 10, Value.int IntKind.i64 100, Value.int IntKind.i64 5, Value.int IntKind.i64 500, Value.bool false] 55)) Tree.leaf) (some (Thing.row [Value.slice (some { block := 3, off := 0 }) 2 2, Value.slice (some { block := 4, off := 0 }) 5 5, Value.int IntKind.i64 3, Value.int IntKind.i64 50] 25)) (Tree.node Tree.leaf (some (Thing.row [Value.int IntKind.i64 2, Value.int IntKind.u64 0, Value.int IntKind.i64 100000] 51)) Tree.leaf)) (some (Thing.row [Value.int IntKind.i64 5, Value.int IntKind.i64 10, Value.int IntKind.i64 10, Value.int IntKind.i64 100, Value.int IntKind.i64 5, Value.int IntKind.i64 500, Value.bool false, Value.int IntKind.i64 1, Value.int IntKind.i64 1, Value.int IntKind.i64 1, Value.int IntKind.i64 1000, Value.int IntKind.i64 1, Value.int IntKind.i64 1000, Value.bool false] 55)) (Tree.node (Tree.node Tree.leaf (some (Thing.row [Value.int IntKind.i64 1, Value.int IntKind.u64 12, Value.int IntKind.i64 0] 51)) Tree.leaf) (some (Thing.row [Value.int IntKind.i64 2, Value.int IntKind.u64 0, Value.int IntKind.i64 3000] 51)) (Tree.node Tree.leaf (some (Thing.row [Value.int IntKind.i64 3, Value.int IntKind.u64 0, Value.int IntKind.i64 0] 51)) Tree.leaf))) (some (Thing.row [Value.int IntKind.i64 5, Value.int IntKind.i64 10, Value.int IntKind.i64 10, Value.int IntKind.i64 100, Value.int IntKind.i64 5, Value.int IntKind.i64 500, Value.bool false] 55)) (Tree.node (Tree.node (Tree.node Tree.leaf (some (Thing.row [Value.int IntKind.i64 1, Value.int IntKind.i64 1, Value.int IntKind.i64 1, Value.int IntKind.i64 1000, Value.int IntKind.i64 1, Value.int IntKind.i64 1000, Value.bool false] 55)) Tree.leaf) (some (Thing.row [Value.int IntKind.i64 1, Value.int IntKind.u64 4, Value.int IntKind.i64 0] 51)) (Tree.node Tree.leaf (some (Thing.row [Value.int IntKind.i64 2, Value.int IntKind.u64 0, Value.int IntKind.i64 3000] 51)) Tree.leaf)) (some (Thing.row [Value.slice (some { block := 3, off := 0 }) 2 2, Value.slice (some { block := 4, off := 0 }) 5 5, Value.int IntKind.i64 3, Value.int IntKind.i64 50] 25)) (Tree.node (Tree.node Tree.leaf (some (Thing.row [Value.int IntKind.i64 1, Value.int IntKind.u64 4, Value.int IntKind.i64 0] 51)) Tree.leaf) (some (Thing.row [Value.int IntKind.u64 12] 37)) (Tree.node Tree.leaf (some (Thing.row [Value.int IntKind.i64 1, Value.int IntKind.u64 12, Value.int IntKind.i64 0, Value.int IntKind.i64 1, Value.int IntKind.u64 4, Value.int IntKind.i64 0, Value.int IntKind.i64 2, Value.int IntKind.u64 0, Value.int IntKind.i64 100000, Value.int IntKind.i64 2, Value.int IntKind.u64 0, Value.int IntKind.i64 3000, Value.int IntKind.i64 3, Value.int IntKind.u64 0, Value.int IntKind.i64 0] 51)) Tree.leaf)))) (some (Thing.row [Value.slice (some { block := 3, off := 0 }) 2 2, Value.slice (some { block := 4, off := 0 }) 5 5, Value.int IntKind.i64 3, Value.int IntKind.i64 50] 25)) (Tree.node (Tree.node (Tree.node (Tree.node (Tree.node Tree.leaf (some (Thing.row [Value.int IntKind.u64 (price * qty / 18446744073709551616), Value.int IntKind.u64 (price * qty % 18446744073709551616)] 70)) Tree.leaf) (some (Thing.row [Value.int IntKind.i64 1, Value.int IntKind.i64 1, Value.int IntKind.i64 1, Value.int IntKind.i64 1000, Value.int IntKind.i64 1, Value.int IntKind.i64 1000, Value.bool false] 55)) Tree.leaf) (some (Thing.row [Value.int IntKind.i64 1, Value.int IntKind.u64 12, Value.int IntKind.i64 0] 51)) (Tree.node Tree.leaf (some (Thing.row [Value.int IntKind.i64 2, Value.int IntKind.u64 0, Value.int IntKind.i64 3000] 51)) Tree.leaf)) (some (Thing.row [Value.int IntKind.i64 1, Value.int IntKind.u64 12, Value.int IntKind.i64 0, Value.int IntKind.i64 1, Value.int IntKind.u64 4, Value.int IntKind.i64 0, Value.int IntKind.i64 2, Value.int IntKind.u64 0, Value.int IntKind.i64 100000, Value.int IntKind.i64 2, Value.int IntKind.u64 0, Value.int IntKind.i64 3000, Value.int IntKind.i64 3, Value.int IntKind.u64 0, Value.int IntKind.i64 0] 51)) (Tree.node (Tree.node Tree.leaf (some (Thing.row [Value.int IntKind.i64 1, Value.int IntKind.u64 4, Value.int IntKind.i64 0] 51)) Tree.leaf) (some (Thing.row [Value.int IntKind.i64 3, Value.int IntKind.u64 0, Value.int IntKind.i64 0] 51)) (Tree.node Tree.leaf (some (Thing.row [] 51)) Tree.leaf))) (some (Thing.row [Value.int IntKind.i64 1, Value.int IntKind.i64 1, Value.int IntKind.i64 1, Value.int IntKind.i64 1000, Value.int IntKind.i64 1, Value.int IntKind.i64 1000, Value.bool false] 55)) (Tree.node (Tree.node (Tree.node Tree.leaf (some (Thing.row [Value.int IntKind.i64 1, Value.int IntKind.u64 12, Value.int IntKind.i64 0] 51)) Tree.leaf) (some (Thing.row [Value.int IntKind.i64 2, Value.int IntKind.u64 0, Value.int IntKind.i64 100000] 51)) (Tree.node Tree.leaf (some (Thing.row [Value.int IntKind.i64 3, Value.int IntKind.u64 0, Value.int IntKind.i64 0] 51)) Tree.leaf)) (some (Thing.row [Value.slice (some { block := 3, off := 0 }) 2 2, Value.slice (some { block := 4, off := 0 }) 5 5, Value.int IntKind.i64 3, Value.int IntKind.i64 50] 25)) (Tree.node (Tree.node Tree.leaf (some (Thing.row [Value.int IntKind.i64 2, Value.int IntKind.u64 0, Value.int IntKind.i64 100000] 51)) Tree.leaf) (some (Thing.row [Value.int IntKind.i64 5, Value.int IntKind.i64 10, Value.int IntKind.i64 10, Value.int IntKind.i64 100, Value.int IntKind.i64 5, Value.int IntKind.i64 500, Value.bool false] 55)) (Tree.node Tree.leaf (some (Thing.row [Value.int IntKind.i64 0, Value.int IntKind.i64 0, Value.int IntKind.i64 0, Value.int IntKind.i64 n, Value.int IntKind.i64 0] 2)) Tree.leaf)))) }) hmix hX (by kernel_rfl) (by kernel_rfl) (of_decide_eq_true (by kernel_rfl)) (by kernel_rfl) (by kernel_rfl) (by kernel_rfl) ?_
              refine OD.run 2 (by kernel_rfl) ?_
              refine OD.done (of_decide_eq_true (by kernel_rfl)) ?_
              refine then_n (by kernel_rfl) ?_
              refine Det.condF (by kernel_rfl) (false) (by kernel_rfl) rfl ?_
              refine Det.skipA (by kernel_rfl) ?_
              refine then_n (by kernel_rfl) ?_
              refine Det.opsA (by kernel_rfl) hX ?_
              refine OD.run 1 (by kernel_rfl) ?_
              refine OD.as (Value.int IntKind.i64 (IntKind.wrap IntKind.i64 ((↑j : Int) + 1))) (Value.int IntKind.i64 ((↑j : Int) + 1)) (by kernel_rfl) (of_decide_eq_true (by kernel_rfl)) (by kernel_rfl) (congrArg _ (by (rw [IntKind.wrap_i64]; omega))) ?_
              refine OD.run 1 (by kernel_rfl) ?_
              refine OD.done (of_decide_eq_true (by kernel_rfl)) ?_
              refine then_n (by kernel_rfl) ?_
              exact ⟨(j + 1, n), ⟨(show j + 1 ≤ 20 by omega), hn0, hn1⟩, (show 20 - (j + 1) < 20 - j by omega), by kernel_rfl, by kernel_rfl⟩
            · refine Det.condF (by kernel_rfl) (decide (3000 < n + price * qty)) (by kernel_rfl) (decide_eq_false (by exact c116)) ?_
              refine Det.skipA (by kernel_rfl) ?_
              refine then_n (by kernel_rfl) ?_
              refine Det.seqA (by kernel_rfl) ?_
              refine Det.opsA (by kernel_rfl) hX ?_
              refine OD.run 3 (by kernel_rfl) ?_
              refine OD.done (of_decide_eq_true (by kernel_rfl)) ?_
              refine then_n (by kernel_rfl) ?_
              refine Det.retA (by kernel_rfl) ?_
              refine fin_r (Value.tuple #[Value.int IntKind.i64 (n + price * qty), Value.int IntKind.i64 0]) (by kernel_rfl) (by kernel_rfl) ?_
              refine OD.run 5 (by kernel_rfl) ?_
              refine OD.done (of_decide_eq_true (by kernel_rfl)) ?_
              refine then_n (by kernel_rfl) ?_
              refine Det.seqA (by kernel_rfl) ?_
              refine Det.seqA (by kernel_rfl) ?_
              refine Det.opsA (by kernel_rfl) hX ?_
              refine OD.run 2 (by kernel_rfl) ?_
              refine OD.done (of_decide_eq_true (by kernel_rfl)) ?_
              refine then_n (by kernel_rfl) ?_
              refine Det.condT (by kernel_rfl) (true) (by kernel_rfl) rfl ?_
              refine Det.opsA (by kernel_rfl) hX ?_
              refine OD.run 8 (by kernel_rfl) ?_
              refine OD.done (of_decide_eq_true (by kernel_rfl)) ?_
              refine then_n (by kernel_rfl) ?_
              refine Det.seqA (by kernel_rfl) ?_
              refine Det.opsA (by kernel_rfl) hX ?_
              refine OD.run 2 (by kernel_rfl) ?_
              refine OD.done (of_decide_eq_true (by kernel_rfl)) ?_
              refine then_n (by kernel_rfl) ?_
              refine Det.retA (by kernel_rfl) ?_
              refine fin_r (Value.int IntKind.i64 0) (by kernel_rfl) (by kernel_rfl) ?_
              refine OD.run 1 (by kernel_rfl) ?_
              refine OD.done (of_decide_eq_true (by kernel_rfl)) ?_
              refine then_n (by kernel_rfl) ?_
              refine Det.seqA (by kernel_rfl) ?_
              refine Det.opsA (by kernel_rfl) hX ?_
              refine OD.run 1 (by kernel_rfl) ?_
              refine OD.done (of_decide_eq_true (by kernel_rfl)) ?_
              refine then_n (by kernel_rfl) ?_
              refine Det.seqA (by kernel_rfl) ?_
              refine Det.seqA (by kernel_rfl) ?_
              refine Det.opsA (by kernel_rfl) hX ?_
              refine OD.run 2 (by kernel_rfl) ?_
              refine OD.as (Value.int IntKind.i64 (IntKind.wrap IntKind.i64 (price * qty))) (Value.int IntKind.i64 (price * qty)) (by kernel_rfl) (of_decide_eq_true (by kernel_rfl)) (by kernel_rfl) (congrArg _ (by (rw [IntKind.wrap_i64]; omega))) ?_
              refine OD.run 1 (by kernel_rfl) ?_
              refine OD.as (Value.int IntKind.i64 (IntKind.wrap IntKind.i64 (3000 - n))) (Value.int IntKind.i64 (3000 - n)) (by kernel_rfl) (of_decide_eq_true (by kernel_rfl)) (by kernel_rfl) (congrArg _ (by (rw [IntKind.wrap_i64]; omega))) ?_
              refine OD.as (Value.bool (decide (3000 - n < price * qty))) (Value.bool false) (by kernel_rfl) (of_decide_eq_true (by kernel_rfl)) (by kernel_rfl) (congrArg Value.bool (decide_eq_false (by omega))) ?_
              refine OD.done (of_decide_eq_true (by kernel_rfl)) ?_
              refine then_n (by kernel_rfl) ?_
              refine Det.condF (by kernel_rfl) (false) (by kernel_rfl) rfl ?_
              refine Det.skipA (by kernel_rfl) ?_
              refine then_n (by kernel_rfl) ?_
              refine Det.seqA (by kernel_rfl) ?_
              refine Det.seqA (by kernel_rfl) ?_
              refine Det.opsA (by kernel_rfl) hX ?_
              refine OD.run 3 (by kernel_rfl) ?_
              refine OD.done (of_decide_eq_true (by kernel_rfl)) ?_
              refine then_n (by kernel_rfl) ?_
              refine Det.condF (by kernel_rfl) (false) (by kernel_rfl) rfl ?_
              refine Det.skipA (by kernel_rfl) ?_
              refine then_n (by kernel_rfl) ?_
              refine Det.seqA (by kernel_rfl) ?_
              refine Det.seqA (by kernel_rfl) ?_
              refine Det.opsA (by kernel_rfl) hX ?_
              refine OD.run 2 (by kernel_rfl) ?_
              refine OD.done (of_decide_eq_true (by kernel_rfl)) ?_
              refine then_n (by kernel_rfl) ?_
              refine Det.condT (by kernel_rfl) (true) (by kernel_rfl) rfl ?_
              refine Det.opsA (by kernel_rfl) hX ?_
              refine OD.run 3 (by kernel_rfl) ?_
              refine OD.as (Value.int IntKind.i64 (IntKind.wrap IntKind.i64 (price * qty))) (Value.int IntKind.i64 (price * qty)) (by kernel_rfl) (of_decide_eq_true (by kernel_rfl)) (by kernel_rfl) (congrArg _ (by (rw [IntKind.wrap_i64]; omega))) ?_
              refine OD.as (Value.int IntKind.i64 (IntKind.wrap IntKind.i64 (n + price * qty))) (Value.int IntKind.i64 (n + price * qty)) (by kernel_rfl) (of_decide_eq_true (by kernel_rfl)) (by kernel_rfl) (congrArg _ (by (rw [IntKind.wrap_i64]; omega))) ?_
              refine OD.run 1 (by kernel_rfl) ?_
              refine OD.done (of_decide_eq_true (by kernel_rfl)) ?_
              refine then_n (by kernel_rfl) ?_
              refine Det.seqA (by kernel_rfl) ?_
              refine Det.opsA (by kernel_rfl) hX ?_
              refine OD.run 1 (by kernel_rfl) ?_
              refine OD.callEv 100 15 ([Value.pointer (some { block := 31, off := 0 }), Value.int IntKind.i64 3]) (Value.int IntKind.i64 (n + price * qty)) ({ next := 33, tree := Tree.node (Tree.node (Tree.node (Tree.node (Tree.node (Tree.node Tree.leaf (some (Thing.row [Value.slice (some { block := 29, off := 0, spot := some 3 }) 5 5, Value.slice (some { block := 30, off := 0 }) 5 5] 65)) Tree.leaf) (some (Thing.row [Value.int IntKind.i64 5, Value.int IntKind.i64 10, Value.int IntKind.i64 10, Value.int IntKind.i64 100, Value.int IntKind.i64 5, Value.int IntKind.i64 500, Value.bool false] 55)) Tree.leaf) (some (Thing.row [Value.slice (some { block := 3, off := 0 }) 2 2, Value.slice (some { block := 4, off := 0 }) 5 5, Value.int IntKind.i64 3, Value.int IntKind.i64 50] 25)) (Tree.node Tree.leaf (some (Thing.row [Value.int IntKind.i64 2, Value.int IntKind.u64 0, Value.int IntKind.i64 100000] 51)) Tree.leaf)) (some (Thing.row [Value.int IntKind.i64 5, Value.int IntKind.i64 10, Value.int IntKind.i64 10, Value.int IntKind.i64 100, Value.int IntKind.i64 5, Value.int IntKind.i64 500, Value.bool false, Value.int IntKind.i64 1, Value.int IntKind.i64 1, Value.int IntKind.i64 1, Value.int IntKind.i64 1000, Value.int IntKind.i64 1, Value.int IntKind.i64 1000, Value.bool false] 55)) (Tree.node (Tree.node Tree.leaf (some (Thing.row [Value.int IntKind.i64 1, Value.int IntKind.u64 12, Value.int IntKind.i64 0] 51)) Tree.leaf) (some (Thing.row [Value.int IntKind.i64 2, Value.int IntKind.u64 0, Value.int IntKind.i64 3000] 51)) (Tree.node Tree.leaf (some (Thing.row [Value.int IntKind.i64 3, Value.int IntKind.u64 0, Value.int IntKind.i64 0] 51)) Tree.leaf))) (some (Thing.row [Value.int IntKind.i64 5, Value.int IntKind.i64 10, Value.int IntKind.i64 10, Value.int IntKind.i64 100, Value.int IntKind.i64 5, Value.int IntKind.i64 500, Value.bool false] 55)) (Tree.node (Tree.node (Tree.node Tree.leaf (some (Thing.row [Value.int IntKind.i64 1, Value.int IntKind.i64 1, Value.int IntKind.i64 1, Value.int IntKind.i64 1000, Value.int IntKind.i64 1, Value.int IntKind.i64 1000, Value.bool false] 55)) Tree.leaf) (some (Thing.row [Value.int IntKind.i64 1, Value.int IntKind.u64 4, Value.int IntKind.i64 0] 51)) (Tree.node Tree.leaf (some (Thing.row [Value.int IntKind.i64 2, Value.int IntKind.u64 0, Value.int IntKind.i64 3000] 51)) Tree.leaf)) (some (Thing.row [Value.slice (some { block := 3, off := 0 }) 2 2, Value.slice (some { block := 4, off := 0 }) 5 5, Value.int IntKind.i64 3, Value.int IntKind.i64 50] 25)) (Tree.node (Tree.node Tree.leaf (some (Thing.row [Value.int IntKind.i64 1, Value.int IntKind.u64 4, Value.int IntKind.i64 0] 51)) Tree.leaf) (some (Thing.row [Value.int IntKind.u64 12] 37)) (Tree.node Tree.leaf (some (Thing.row [Value.int IntKind.i64 1, Value.int IntKind.u64 12, Value.int IntKind.i64 0, Value.int IntKind.i64 1, Value.int IntKind.u64 4, Value.int IntKind.i64 0, Value.int IntKind.i64 2, Value.int IntKind.u64 0, Value.int IntKind.i64 100000, Value.int IntKind.i64 2, Value.int IntKind.u64 0, Value.int IntKind.i64 3000, Value.int IntKind.i64 3, Value.int IntKind.u64 0, Value.int IntKind.i64 0] 51)) Tree.leaf)))) (some (Thing.row [Value.slice (some { block := 3, off := 0 }) 2 2, Value.slice (some { block := 4, off := 0 }) 5 5, Value.int IntKind.i64 3, Value.int IntKind.i64 50] 25)) (Tree.node (Tree.node (Tree.node (Tree.node (Tree.node Tree.leaf (some (Thing.row [Value.int IntKind.u64 (price * qty / 18446744073709551616), Value.int IntKind.u64 (price * qty % 18446744073709551616)] 70)) Tree.leaf) (some (Thing.row [Value.int IntKind.i64 1, Value.int IntKind.i64 1, Value.int IntKind.i64 1, Value.int IntKind.i64 1000, Value.int IntKind.i64 1, Value.int IntKind.i64 1000, Value.bool false] 55)) Tree.leaf) (some (Thing.row [Value.int IntKind.i64 1, Value.int IntKind.u64 12, Value.int IntKind.i64 0] 51)) (Tree.node Tree.leaf (some (Thing.row [Value.int IntKind.i64 2, Value.int IntKind.u64 0, Value.int IntKind.i64 3000] 51)) Tree.leaf)) (some (Thing.row [Value.int IntKind.i64 1, Value.int IntKind.u64 12, Value.int IntKind.i64 0, Value.int IntKind.i64 1, Value.int IntKind.u64 4, Value.int IntKind.i64 0, Value.int IntKind.i64 2, Value.int IntKind.u64 0, Value.int IntKind.i64 100000, Value.int IntKind.i64 2, Value.int IntKind.u64 0, Value.int IntKind.i64 3000, Value.int IntKind.i64 3, Value.int IntKind.u64 0, Value.int IntKind.i64 0] 51)) (Tree.node (Tree.node Tree.leaf (some (Thing.row [Value.int IntKind.i64 1, Value.int IntKind.u64 4, Value.int IntKind.i64 0] 51)) Tree.leaf) (some (Thing.row [Value.int IntKind.i64 3, Value.int IntKind.u64 0, Value.int IntKind.i64 0] 51)) (Tree.node Tree.leaf (some (Thing.row [] 51)) Tree.leaf))) (some (Thing.row [Value.int IntKind.i64 1, Value.int IntKind.i64 1, Value.int IntKind.i64 1, Value.int IntKind.i64 1000, Value.int IntKind.i64 1, Value.int IntKind.i64 1000, Value.bool false] 55)) (Tree.node (Tree.node (Tree.node Tree.leaf (some (Thing.row [Value.int IntKind.i64 1, Value.int IntKind.u64 12, Value.int IntKind.i64 0] 51)) Tree.leaf) (some (Thing.row [Value.int IntKind.i64 2, Value.int IntKind.u64 0, Value.int IntKind.i64 100000] 51)) (Tree.node Tree.leaf (some (Thing.row [Value.int IntKind.i64 3, Value.int IntKind.u64 0, Value.int IntKind.i64 0] 51)) Tree.leaf)) (some (Thing.row [Value.slice (some { block := 3, off := 0 }) 2 2, Value.slice (some { block := 4, off := 0 }) 5 5, Value.int IntKind.i64 3, Value.int IntKind.i64 50] 25)) (Tree.node (Tree.node Tree.leaf (some (Thing.row [Value.int IntKind.i64 2, Value.int IntKind.u64 0, Value.int IntKind.i64 100000] 51)) Tree.leaf) (some (Thing.row [Value.int IntKind.i64 5, Value.int IntKind.i64 10, Value.int IntKind.i64 10, Value.int IntKind.i64 100, Value.int IntKind.i64 5, Value.int IntKind.i64 500, Value.bool false] 55)) (Tree.node Tree.leaf (some (Thing.row [Value.int IntKind.i64 0, Value.int IntKind.i64 0, Value.int IntKind.i64 0, Value.int IntKind.i64 (n + price * qty), Value.int IntKind.i64 0] 2)) Tree.leaf)))) }) hmix hX (by kernel_rfl) (by kernel_rfl) (of_decide_eq_true (by kernel_rfl)) (by kernel_rfl) (by kernel_rfl) (by kernel_rfl) ?_
              refine OD.run 1 (by kernel_rfl) ?_
              refine OD.as (Value.bool (n + price * qty != n + price * qty)) (Value.bool false) (by kernel_rfl) (of_decide_eq_true (by kernel_rfl)) (by kernel_rfl) (congrArg Value.bool (bne_eq_false_iff_eq.2 rfl)) ?_
              refine OD.run 2 (by kernel_rfl) ?_
              refine OD.callEv 100 15 ([Value.pointer (some { block := 31, off := 0 }), Value.int IntKind.i64 2]) (Value.int IntKind.i64 0) ({ next := 33, tree := Tree.node (Tree.node (Tree.node (Tree.node (Tree.node (Tree.node Tree.leaf (some (Thing.row [Value.slice (some { block := 29, off := 0, spot := some 3 }) 5 5, Value.slice (some { block := 30, off := 0 }) 5 5] 65)) Tree.leaf) (some (Thing.row [Value.int IntKind.i64 5, Value.int IntKind.i64 10, Value.int IntKind.i64 10, Value.int IntKind.i64 100, Value.int IntKind.i64 5, Value.int IntKind.i64 500, Value.bool false] 55)) Tree.leaf) (some (Thing.row [Value.slice (some { block := 3, off := 0 }) 2 2, Value.slice (some { block := 4, off := 0 }) 5 5, Value.int IntKind.i64 3, Value.int IntKind.i64 50] 25)) (Tree.node Tree.leaf (some (Thing.row [Value.int IntKind.i64 2, Value.int IntKind.u64 0, Value.int IntKind.i64 100000] 51)) Tree.leaf)) (some (Thing.row [Value.int IntKind.i64 5, Value.int IntKind.i64 10, Value.int IntKind.i64 10, Value.int IntKind.i64 100, Value.int IntKind.i64 5, Value.int IntKind.i64 500, Value.bool false, Value.int IntKind.i64 1, Value.int IntKind.i64 1, Value.int IntKind.i64 1, Value.int IntKind.i64 1000, Value.int IntKind.i64 1, Value.int IntKind.i64 1000, Value.bool false] 55)) (Tree.node (Tree.node Tree.leaf (some (Thing.row [Value.int IntKind.i64 1, Value.int IntKind.u64 12, Value.int IntKind.i64 0] 51)) Tree.leaf) (some (Thing.row [Value.int IntKind.i64 2, Value.int IntKind.u64 0, Value.int IntKind.i64 3000] 51)) (Tree.node Tree.leaf (some (Thing.row [Value.int IntKind.i64 3, Value.int IntKind.u64 0, Value.int IntKind.i64 0] 51)) Tree.leaf))) (some (Thing.row [Value.int IntKind.i64 5, Value.int IntKind.i64 10, Value.int IntKind.i64 10, Value.int IntKind.i64 100, Value.int IntKind.i64 5, Value.int IntKind.i64 500, Value.bool false] 55)) (Tree.node (Tree.node (Tree.node Tree.leaf (some (Thing.row [Value.int IntKind.i64 1, Value.int IntKind.i64 1, Value.int IntKind.i64 1, Value.int IntKind.i64 1000, Value.int IntKind.i64 1, Value.int IntKind.i64 1000, Value.bool false] 55)) Tree.leaf) (some (Thing.row [Value.int IntKind.i64 1, Value.int IntKind.u64 4, Value.int IntKind.i64 0] 51)) (Tree.node Tree.leaf (some (Thing.row [Value.int IntKind.i64 2, Value.int IntKind.u64 0, Value.int IntKind.i64 3000] 51)) Tree.leaf)) (some (Thing.row [Value.slice (some { block := 3, off := 0 }) 2 2, Value.slice (some { block := 4, off := 0 }) 5 5, Value.int IntKind.i64 3, Value.int IntKind.i64 50] 25)) (Tree.node (Tree.node Tree.leaf (some (Thing.row [Value.int IntKind.i64 1, Value.int IntKind.u64 4, Value.int IntKind.i64 0] 51)) Tree.leaf) (some (Thing.row [Value.int IntKind.u64 12] 37)) (Tree.node Tree.leaf (some (Thing.row [Value.int IntKind.i64 1, Value.int IntKind.u64 12, Value.int IntKind.i64 0, Value.int IntKind.i64 1, Value.int IntKind.u64 4, Value.int IntKind.i64 0, Value.int IntKind.i64 2, Value.int IntKind.u64 0, Value.int IntKind.i64 100000, Value.int IntKind.i64 2, Value.int IntKind.u64 0, Value.int IntKind.i64 3000, Value.int IntKind.i64 3, Value.int IntKind.u64 0, Value.int IntKind.i64 0] 51)) Tree.leaf)))) (some (Thing.row [Value.slice (some { block := 3, off := 0 }) 2 2, Value.slice (some { block := 4, off := 0 }) 5 5, Value.int IntKind.i64 3, Value.int IntKind.i64 50] 25)) (Tree.node (Tree.node (Tree.node (Tree.node (Tree.node Tree.leaf (some (Thing.row [Value.int IntKind.u64 (price * qty / 18446744073709551616), Value.int IntKind.u64 (price * qty % 18446744073709551616)] 70)) Tree.leaf) (some (Thing.row [Value.int IntKind.i64 1, Value.int IntKind.i64 1, Value.int IntKind.i64 1, Value.int IntKind.i64 1000, Value.int IntKind.i64 1, Value.int IntKind.i64 1000, Value.bool false] 55)) Tree.leaf) (some (Thing.row [Value.int IntKind.i64 1, Value.int IntKind.u64 12, Value.int IntKind.i64 0] 51)) (Tree.node Tree.leaf (some (Thing.row [Value.int IntKind.i64 2, Value.int IntKind.u64 0, Value.int IntKind.i64 3000] 51)) Tree.leaf)) (some (Thing.row [Value.int IntKind.i64 1, Value.int IntKind.u64 12, Value.int IntKind.i64 0, Value.int IntKind.i64 1, Value.int IntKind.u64 4, Value.int IntKind.i64 0, Value.int IntKind.i64 2, Value.int IntKind.u64 0, Value.int IntKind.i64 100000, Value.int IntKind.i64 2, Value.int IntKind.u64 0, Value.int IntKind.i64 3000, Value.int IntKind.i64 3, Value.int IntKind.u64 0, Value.int IntKind.i64 0] 51)) (Tree.node (Tree.node Tree.leaf (some (Thing.row [Value.int IntKind.i64 1, Value.int IntKind.u64 4, Value.int IntKind.i64 0] 51)) Tree.leaf) (some (Thing.row [Value.int IntKind.i64 3, Value.int IntKind.u64 0, Value.int IntKind.i64 0] 51)) (Tree.node Tree.leaf (some (Thing.row [] 51)) Tree.leaf))) (some (Thing.row [Value.int IntKind.i64 1, Value.int IntKind.i64 1, Value.int IntKind.i64 1, Value.int IntKind.i64 1000, Value.int IntKind.i64 1, Value.int IntKind.i64 1000, Value.bool false] 55)) (Tree.node (Tree.node (Tree.node Tree.leaf (some (Thing.row [Value.int IntKind.i64 1, Value.int IntKind.u64 12, Value.int IntKind.i64 0] 51)) Tree.leaf) (some (Thing.row [Value.int IntKind.i64 2, Value.int IntKind.u64 0, Value.int IntKind.i64 100000] 51)) (Tree.node Tree.leaf (some (Thing.row [Value.int IntKind.i64 3, Value.int IntKind.u64 0, Value.int IntKind.i64 0] 51)) Tree.leaf)) (some (Thing.row [Value.slice (some { block := 3, off := 0 }) 2 2, Value.slice (some { block := 4, off := 0 }) 5 5, Value.int IntKind.i64 3, Value.int IntKind.i64 50] 25)) (Tree.node (Tree.node Tree.leaf (some (Thing.row [Value.int IntKind.i64 2, Value.int IntKind.u64 0, Value.int IntKind.i64 100000] 51)) Tree.leaf) (some (Thing.row [Value.int IntKind.i64 5, Value.int IntKind.i64 10, Value.int IntKind.i64 10, Value.int IntKind.i64 100, Value.int IntKind.i64 5, Value.int IntKind.i64 500, Value.bool false] 55)) (Tree.node Tree.leaf (some (Thing.row [Value.int IntKind.i64 0, Value.int IntKind.i64 0, Value.int IntKind.i64 0, Value.int IntKind.i64 (n + price * qty), Value.int IntKind.i64 0] 2)) Tree.leaf)))) }) hmix hX (by kernel_rfl) (by kernel_rfl) (of_decide_eq_true (by kernel_rfl)) (by kernel_rfl) (by kernel_rfl) (by kernel_rfl) ?_
              refine OD.run 2 (by kernel_rfl) ?_
              refine OD.done (of_decide_eq_true (by kernel_rfl)) ?_
              refine then_n (by kernel_rfl) ?_
              refine Det.condF (by kernel_rfl) (false) (by kernel_rfl) rfl ?_
              refine Det.skipA (by kernel_rfl) ?_
              refine then_n (by kernel_rfl) ?_
              refine Det.opsA (by kernel_rfl) hX ?_
              refine OD.run 1 (by kernel_rfl) ?_
              refine OD.as (Value.int IntKind.i64 (IntKind.wrap IntKind.i64 ((↑j : Int) + 1))) (Value.int IntKind.i64 ((↑j : Int) + 1)) (by kernel_rfl) (of_decide_eq_true (by kernel_rfl)) (by kernel_rfl) (congrArg _ (by (rw [IntKind.wrap_i64]; omega))) ?_
              refine OD.run 1 (by kernel_rfl) ?_
              refine OD.done (of_decide_eq_true (by kernel_rfl)) ?_
              refine then_n (by kernel_rfl) ?_
              exact ⟨(j + 1, n + price * qty), ⟨(show j + 1 ≤ 20 by omega), (show 0 ≤ n + price * qty by omega), (show n + price * qty ≤ 3000 by omega)⟩, (show 20 - (j + 1) < 20 - j by omega), by kernel_rfl, by kernel_rfl⟩
          · refine Det.condF (by kernel_rfl) (decide ((↑j : Int) < 20)) (by kernel_rfl) (decide_eq_false (by exact c38)) ?_
            refine Det.exitA (by kernel_rfl) ?_
            refine then_x 0 (by kernel_rfl) ?_
            refine then_x 0 (by kernel_rfl) ?_
            refine then_n (by kernel_rfl) ?_
            refine Det.seqA (by kernel_rfl) ?_
            refine Det.opsA (by kernel_rfl) hX ?_
            refine OD.callEq 11 ([]) (known_ok _) (by kernel_rfl) (of_decide_eq_true (by kernel_rfl)) (by kernel_rfl) (by kernel_rfl) (by kernel_rfl) ?_
            refine OD.run 1 (by kernel_rfl) ?_
            refine OD.done (of_decide_eq_true (by kernel_rfl)) ?_
            refine then_n (by kernel_rfl) ?_
            refine Det.retA (by kernel_rfl) ?_
            refine fin_r (Value.bool true) (by kernel_rfl) (by kernel_rfl) ?_
            rfl
end Go.Proofs.Ytmpendenaflonaa.Eng
