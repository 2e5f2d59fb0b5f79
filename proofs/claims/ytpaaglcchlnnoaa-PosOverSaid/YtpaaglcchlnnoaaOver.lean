/- The law PosOver of chapter 20, over the engine's memory. The numbers are int64s. -/
import Derived.Test.YtpaaglcchlnnoaaEngLoop
import Derived.Test.YtpaaglcchlnnoaaFix
namespace Go.Proofs.Ytpaaglcchlnnoaa.Eng
open Go Go.Proofs Go.Proofs.Ytpaaglcchlnnoaa.FixMath
set_option maxRecDepth 100000
set_option maxHeartbeats 4000000
set_option linter.unusedVariables false
theorem known_ok (h : Heap) : DetFn Try.prog 15 [] h fun v h' => v = .bool true ∧ h' = h :=
  DetFn.bare (by kernel_rfl) (by kernel_rfl) (DetFn.of_evFst (k := 300) hmix hX (by kernel_rfl)) h
theorem wf_i64 {n : Int} (h : (Lit.int .i64 n).wf = true) : -9223372036854775808 ≤ n ∧ n ≤ 9223372036854775807 := by
  simpa [Lit.wf, IntKind.min, IntKind.max, IntKind.signed, IntKind.bits] using h
def I64 (n : Int) : Prop := -9223372036854775808 ≤ n ∧ n ≤ 9223372036854775807
def rowsP (price qty c0 c1 b0 b1 : Int) : List (Option Thing) := [rw' [Value.int IntKind.i64 c0, Value.int IntKind.i64 c1] 2, rw' [Value.slice (some { block := 7, off := 0, spot := some 1 }) 2 2, Value.slice (some { block := 0, off := 0 }) 2 2] 41, rw' [Value.int IntKind.i64 b0] 2, rw' [Value.slice (some { block := 2, off := 0 }) 1 1] 38, none, rw' [Value.int IntKind.i64 b1] 2, rw' [Value.slice (some { block := 5, off := 0 }) 1 1] 38, rw' [Value.slice (some { block := 2, off := 0 }) 1 1, Value.slice (some { block := 5, off := 0 }) 1 1] 38, rw' [Value.int IntKind.i64 c0, Value.int IntKind.i64 c1] 2, rw' [Value.slice (some { block := 15, off := 0, spot := some 1 }) 2 2, Value.slice (some { block := 8, off := 0 }) 2 2] 43, rw' [Value.int IntKind.i64 b0] 2, rw' [Value.slice (some { block := 10, off := 0 }) 1 1] 38, none, rw' [Value.int IntKind.i64 b1] 2, rw' [Value.slice (some { block := 13, off := 0 }) 1 1] 38, rw' [Value.slice (some { block := 10, off := 0 }) 1 1, Value.slice (some { block := 13, off := 0 }) 1 1] 38, rw' [Value.int IntKind.i64 0, Value.int IntKind.i64 0, Value.int IntKind.i64 1, Value.int IntKind.i64 0, Value.int IntKind.i64 price, Value.int IntKind.i64 qty, Value.int IntKind.i64 0, Value.int IntKind.i64 0] 30]
theorem law_PosOver (price qty : Int) (wp : (Lit.int .i64 price).wf = true) (wq : (Lit.int .i64 qty).wf = true) : DetFn Try.prog 5 [.int .i64 price, .int .i64 qty] Heap.empty fun v _ => v = .bool true := by
  obtain ⟨ha, hA⟩ := wf_i64 wp
  obtain ⟨hb, hB⟩ := wf_i64 wq
  refine Det.enter Try.func5 (by kernel_rfl) (of_decide_eq_true (by kernel_rfl)) ?_
  by_cases h1 : price < 1
  · skip
    refine Det.seqA (by kernel_rfl) ?_
    refine Det.opsA (by kernel_rfl) hX ?_
    refine OD.run 1 (by kernel_rfl) ?_
    refine OD.done (of_decide_eq_true (by kernel_rfl)) ?_
    refine then_n (by kernel_rfl) ?_
    refine Det.seqA (by kernel_rfl) ?_
    refine Det.seqA (by kernel_rfl) ?_
    refine Det.opsA (by kernel_rfl) hX ?_
    refine OD.run 1 (by kernel_rfl) ?_
    refine OD.as (Value.bool (decide (price < 1))) (Value.bool true) (by kernel_rfl) (of_decide_eq_true (by kernel_rfl)) (by kernel_rfl) (congrArg Value.bool (decide_eq_true (by exact h1))) ?_
    refine OD.run 4 (by kernel_rfl) ?_
    refine OD.done (of_decide_eq_true (by kernel_rfl)) ?_
    refine then_n (by kernel_rfl) ?_
    refine Det.condT (by kernel_rfl) (true) (by kernel_rfl) rfl ?_
    refine Det.seqA (by kernel_rfl) ?_
    refine Det.opsA (by kernel_rfl) hX ?_
    refine OD.run 1 (by kernel_rfl) ?_
    refine OD.done (of_decide_eq_true (by kernel_rfl)) ?_
    refine then_n (by kernel_rfl) ?_
    refine Det.retA (by kernel_rfl) ?_
    refine then_r (by kernel_rfl) ?_
    refine fin_r (Value.bool true) (by kernel_rfl) (by kernel_rfl) ?_
    rfl
  · by_cases h2 : qty < 1
    · skip
      refine Det.seqA (by kernel_rfl) ?_
      refine Det.opsA (by kernel_rfl) hX ?_
      refine OD.run 1 (by kernel_rfl) ?_
      refine OD.done (of_decide_eq_true (by kernel_rfl)) ?_
      refine then_n (by kernel_rfl) ?_
      refine Det.seqA (by kernel_rfl) ?_
      refine Det.seqA (by kernel_rfl) ?_
      refine Det.opsA (by kernel_rfl) hX ?_
      refine OD.run 1 (by kernel_rfl) ?_
      refine OD.as (Value.bool (decide (price < 1))) (Value.bool false) (by kernel_rfl) (of_decide_eq_true (by kernel_rfl)) (by kernel_rfl) (congrArg Value.bool (decide_eq_false (by exact h1))) ?_
      refine OD.run 2 (by kernel_rfl) ?_
      refine OD.as (Value.bool (decide (qty < 1))) (Value.bool true) (by kernel_rfl) (of_decide_eq_true (by kernel_rfl)) (by kernel_rfl) (congrArg Value.bool (decide_eq_true (by exact h2))) ?_
      refine OD.run 1 (by kernel_rfl) ?_
      refine OD.done (of_decide_eq_true (by kernel_rfl)) ?_
      refine then_n (by kernel_rfl) ?_
      refine Det.condT (by kernel_rfl) (true) (by kernel_rfl) rfl ?_
      refine Det.seqA (by kernel_rfl) ?_
      refine Det.opsA (by kernel_rfl) hX ?_
      refine OD.run 1 (by kernel_rfl) ?_
      refine OD.done (of_decide_eq_true (by kernel_rfl)) ?_
      refine then_n (by kernel_rfl) ?_
      refine Det.retA (by kernel_rfl) ?_
      refine then_r (by kernel_rfl) ?_
      refine fin_r (Value.bool true) (by kernel_rfl) (by kernel_rfl) ?_
      rfl
    · have hp : 0 ≤ price * qty := Int.mul_nonneg (by omega) (by omega)
      have kp := keep_bounds (price * qty)
      refine Det.seqA (by kernel_rfl) ?_
      refine Det.opsA (by kernel_rfl) hX ?_
      refine OD.run 1 (by kernel_rfl) ?_
      refine OD.done (of_decide_eq_true (by kernel_rfl)) ?_
      refine then_n (by kernel_rfl) ?_
      refine Det.seqA (by kernel_rfl) ?_
      refine Det.seqA (by kernel_rfl) ?_
      refine Det.opsA (by kernel_rfl) hX ?_
      refine OD.run 1 (by kernel_rfl) ?_
      refine OD.as (Value.bool (decide (price < 1))) (Value.bool false) (by kernel_rfl) (of_decide_eq_true (by kernel_rfl)) (by kernel_rfl) (congrArg Value.bool (decide_eq_false (by exact h1))) ?_
      refine OD.run 2 (by kernel_rfl) ?_
      refine OD.as (Value.bool (decide (qty < 1))) (Value.bool false) (by kernel_rfl) (of_decide_eq_true (by kernel_rfl)) (by kernel_rfl) (congrArg Value.bool (decide_eq_false (by exact h2))) ?_
      refine OD.run 1 (by kernel_rfl) ?_
      refine OD.done (of_decide_eq_true (by kernel_rfl)) ?_
      refine then_n (by kernel_rfl) ?_
      refine Det.condF (by kernel_rfl) (false) (by kernel_rfl) rfl ?_
      refine Det.skipA (by kernel_rfl) ?_
      refine then_n (by kernel_rfl) ?_
      refine Det.seqA (by kernel_rfl) ?_
      refine Det.opsA (by kernel_rfl) hX ?_
      refine OD.callEv 100 7 ([Value.int IntKind.i64 2, Value.int IntKind.i64 1]) (Value.pointer (some { block := 1, off := 0 })) ({ next := 8, tree := Tree.node (Tree.node (Tree.node (Tree.node Tree.leaf (some (Thing.row [Value.slice (some { block := 2, off := 0 }) 1 1, Value.slice (some { block := 5, off := 0 }) 1 1] 38)) Tree.leaf) (some (Thing.row [Value.slice (some { block := 2, off := 0 }) 1 1] 38)) Tree.leaf) (some (Thing.row [Value.slice (some { block := 7, off := 0, spot := some 1 }) 2 2, Value.slice (some { block := 0, off := 0 }) 2 2] 41)) (Tree.node Tree.leaf (some (Thing.row [Value.int IntKind.i64 0] 2)) Tree.leaf)) (some (Thing.row [Value.int IntKind.i64 0, Value.int IntKind.i64 0] 2)) (Tree.node (Tree.node Tree.leaf none Tree.leaf) (some (Thing.row [Value.int IntKind.i64 0] 2)) (Tree.node Tree.leaf (some (Thing.row [Value.slice (some { block := 5, off := 0 }) 1 1] 38)) Tree.leaf)) }) hmix hX (by kernel_rfl) (by kernel_rfl) (of_decide_eq_true (by kernel_rfl)) (by kernel_rfl) (by kernel_rfl) (by kernel_rfl) ?_
      refine OD.callEv 100 8 ([Value.int IntKind.i64 2, Value.int IntKind.i64 1]) (Value.pointer (some { block := 9, off := 0 })) ({ next := 16, tree := Tree.node (Tree.node (Tree.node (Tree.node (Tree.node Tree.leaf (some (Thing.row [Value.slice (some { block := 10, off := 0 }) 1 1, Value.slice (some { block := 13, off := 0 }) 1 1] 38)) Tree.leaf) (some (Thing.row [Value.slice (some { block := 2, off := 0 }) 1 1, Value.slice (some { block := 5, off := 0 }) 1 1] 38)) Tree.leaf) (some (Thing.row [Value.slice (some { block := 2, off := 0 }) 1 1] 38)) (Tree.node Tree.leaf (some (Thing.row [Value.slice (some { block := 10, off := 0 }) 1 1] 38)) Tree.leaf)) (some (Thing.row [Value.slice (some { block := 7, off := 0, spot := some 1 }) 2 2, Value.slice (some { block := 0, off := 0 }) 2 2] 41)) (Tree.node (Tree.node Tree.leaf (some (Thing.row [Value.slice (some { block := 15, off := 0, spot := some 1 }) 2 2, Value.slice (some { block := 8, off := 0 }) 2 2] 43)) Tree.leaf) (some (Thing.row [Value.int IntKind.i64 0] 2)) (Tree.node Tree.leaf (some (Thing.row [Value.int IntKind.i64 0] 2)) Tree.leaf))) (some (Thing.row [Value.int IntKind.i64 0, Value.int IntKind.i64 0] 2)) (Tree.node (Tree.node (Tree.node Tree.leaf (some (Thing.row [Value.int IntKind.i64 0, Value.int IntKind.i64 0] 2)) Tree.leaf) none (Tree.node Tree.leaf none Tree.leaf)) (some (Thing.row [Value.int IntKind.i64 0] 2)) (Tree.node (Tree.node Tree.leaf (some (Thing.row [Value.int IntKind.i64 0] 2)) Tree.leaf) (some (Thing.row [Value.slice (some { block := 5, off := 0 }) 1 1] 38)) (Tree.node Tree.leaf (some (Thing.row [Value.slice (some { block := 13, off := 0 }) 1 1] 38)) Tree.leaf))) }) hmix hX (by kernel_rfl) (by kernel_rfl) (of_decide_eq_true (by kernel_rfl)) (by kernel_rfl) (by kernel_rfl) (by kernel_rfl) ?_
      refine OD.run 2 (by kernel_rfl) ?_
      refine OD.done (of_decide_eq_true (by kernel_rfl)) ?_
      refine then_n (by kernel_rfl) ?_
      refine Det.seqA (by kernel_rfl) ?_
      refine Det.opsA (by kernel_rfl) hX ?_
      refine OD.run 5 (by kernel_rfl) ?_
      refine OD.done (of_decide_eq_true (by kernel_rfl)) ?_
      refine then_n (by kernel_rfl) ?_
      refine Det.seqA (by kernel_rfl) ?_
      refine Det.seqA (by kernel_rfl) ?_
      refine Det.opsA (by kernel_rfl) hX ?_
      refine OD.run 1 (by kernel_rfl) ?_
      refine OD.done (of_decide_eq_true (by kernel_rfl)) ?_
      refine then_n (by kernel_rfl) ?_
      refine Det.blockA (by kernel_rfl) ?_
      refine Det.loopD 17 (fun x : Nat × Int × Int × Int × Int => 5 - x.1) (fun x => x.1 ≤ 5 ∧ I64 x.2.1 ∧ I64 x.2.2.1 ∧ I64 x.2.2.2.1 ∧ I64 x.2.2.2.2) (fun x => [(0, .int .i64 price), (1, .int .i64 qty), (4, .bool false), (5, .pointer (some ⟨1, 0, none⟩)), (6, .pointer (some ⟨9, 0, none⟩)), (7, .pointer (some ⟨16, 0, none⟩)), (8, .int .i64 (x.1 : Int))]) (fun x => rowsP price qty x.2.1 x.2.2.1 x.2.2.2.1 x.2.2.2.2) (by kernel_rfl) (fun _ => rfl) (fun x _ => List.all_eq_true.1 (by kernel_rfl)) (fun x _ => by kernel_rfl) (0, 0, 0, 0, 0) (by simp [I64]) (by kernel_rfl) (by kernel_rfl) (by kernel_rfl) ?_
      (rintro ⟨j, c0, c1, b0, b1⟩ ⟨hj, ⟨p1, p2⟩, ⟨p3, p4⟩, ⟨p5, p6⟩, ⟨p7, p8⟩⟩; simp only [] at hj p1 p2 p3 p4 p5 p6 p7 p8)
      refine Det.seqA (by kernel_rfl) ?_
      refine Det.seqA (by kernel_rfl) ?_
      refine Det.opsA (by kernel_rfl) hX ?_
      refine OD.run 6 (by kernel_rfl) ?_
      refine OD.done (of_decide_eq_true (by kernel_rfl)) ?_
      refine then_n (by kernel_rfl) ?_
      by_cases c36 : (↑j : Int) < 5
      · refine Det.condT (by kernel_rfl) (decide ((↑j : Int) < 5)) (by kernel_rfl) (decide_eq_true (by exact c36)) ?_
        refine Det.skipA (by kernel_rfl) ?_
        refine then_n (by kernel_rfl) ?_
        refine Det.seqA (by kernel_rfl) ?_
        refine Det.blockA (by kernel_rfl) ?_
        refine Det.seqA (by kernel_rfl) ?_
        refine Det.opsA (by kernel_rfl) hX ?_
        refine OD.run 1 (by kernel_rfl) ?_
        refine OD.callEv 100 13 ([Value.pointer (some { block := 1, off := 0 }), Value.int IntKind.i64 0]) (Value.int IntKind.i64 c0) ({ next := 17, tree := Tree.node (Tree.node (Tree.node (Tree.node (Tree.node Tree.leaf (some (Thing.row [Value.slice (some { block := 10, off := 0 }) 1 1, Value.slice (some { block := 13, off := 0 }) 1 1] 38)) Tree.leaf) (some (Thing.row [Value.slice (some { block := 2, off := 0 }) 1 1, Value.slice (some { block := 5, off := 0 }) 1 1] 38)) Tree.leaf) (some (Thing.row [Value.slice (some { block := 2, off := 0 }) 1 1] 38)) (Tree.node Tree.leaf (some (Thing.row [Value.slice (some { block := 10, off := 0 }) 1 1] 38)) Tree.leaf)) (some (Thing.row [Value.slice (some { block := 7, off := 0, spot := some 1 }) 2 2, Value.slice (some { block := 0, off := 0 }) 2 2] 41)) (Tree.node (Tree.node Tree.leaf (some (Thing.row [Value.slice (some { block := 15, off := 0, spot := some 1 }) 2 2, Value.slice (some { block := 8, off := 0 }) 2 2] 43)) Tree.leaf) (some (Thing.row [Value.int IntKind.i64 b1] 2)) (Tree.node Tree.leaf (some (Thing.row [Value.int IntKind.i64 b1] 2)) Tree.leaf))) (some (Thing.row [Value.int IntKind.i64 c0, Value.int IntKind.i64 c1] 2)) (Tree.node (Tree.node (Tree.node (Tree.node Tree.leaf (some (Thing.row [Value.int IntKind.i64 0, Value.int IntKind.i64 0, Value.int IntKind.i64 1, Value.int IntKind.i64 0, Value.int IntKind.i64 price, Value.int IntKind.i64 qty, Value.int IntKind.i64 0, Value.int IntKind.i64 0] 30)) Tree.leaf) (some (Thing.row [Value.int IntKind.i64 c0, Value.int IntKind.i64 c1] 2)) Tree.leaf) none (Tree.node Tree.leaf none Tree.leaf)) (some (Thing.row [Value.int IntKind.i64 b0] 2)) (Tree.node (Tree.node Tree.leaf (some (Thing.row [Value.int IntKind.i64 b0] 2)) Tree.leaf) (some (Thing.row [Value.slice (some { block := 5, off := 0 }) 1 1] 38)) (Tree.node Tree.leaf (some (Thing.row [Value.slice (some { block := 13, off := 0 }) 1 1] 38)) Tree.leaf))) }) hmix hX (by kernel_rfl) (by kernel_rfl) (of_decide_eq_true (by kernel_rfl)) (by kernel_rfl) (by kernel_rfl) (by kernel_rfl) ?_
        refine OD.run 1 (by kernel_rfl) ?_
        refine OD.done (of_decide_eq_true (by kernel_rfl)) ?_
        refine then_n (by kernel_rfl) ?_
        refine Det.seqA (by kernel_rfl) ?_
        refine Det.opsA (by kernel_rfl) hX ?_
        refine OD.run 2 (by kernel_rfl) ?_
        refine OD.callIn 9 ([Value.pointer (some { block := 1, off := 0 }), Value.agg #[Value.int IntKind.i64 0, Value.int IntKind.i64 0, Value.int IntKind.i64 1, Value.int IntKind.i64 0, Value.int IntKind.i64 price, Value.int IntKind.i64 qty, Value.int IntKind.i64 0, Value.int IntKind.i64 0]]) (by kernel_rfl) (of_decide_eq_true (by kernel_rfl)) (by kernel_rfl) (by kernel_rfl) (by kernel_rfl) ?_
        refine Det.enter Try.func9 (by kernel_rfl) (of_decide_eq_true (by kernel_rfl)) ?_
        refine Det.seqA (by kernel_rfl) ?_
        refine Det.opsA (by kernel_rfl) hX ?_
        refine OD.run 2 (by kernel_rfl) ?_
        refine OD.done (of_decide_eq_true (by kernel_rfl)) ?_
        refine then_n (by kernel_rfl) ?_
        refine Det.seqA (by kernel_rfl) ?_
        refine Det.seqA (by kernel_rfl) ?_
        refine Det.opsA (by kernel_rfl) hX ?_
        refine OD.run 5 (by kernel_rfl) ?_
        refine OD.callEv 100 16 ([Value.pointer (some { block := 1, off := 0 }), Value.int IntKind.i64 1, Value.int IntKind.i64 0]) (Value.bool true) ({ next := 18, tree := Tree.node (Tree.node (Tree.node (Tree.node (Tree.node Tree.leaf (some (Thing.row [Value.slice (some { block := 10, off := 0 }) 1 1, Value.slice (some { block := 13, off := 0 }) 1 1] 38)) Tree.leaf) (some (Thing.row [Value.slice (some { block := 2, off := 0 }) 1 1, Value.slice (some { block := 5, off := 0 }) 1 1] 38)) Tree.leaf) (some (Thing.row [Value.slice (some { block := 2, off := 0 }) 1 1] 38)) (Tree.node Tree.leaf (some (Thing.row [Value.slice (some { block := 10, off := 0 }) 1 1] 38)) Tree.leaf)) (some (Thing.row [Value.slice (some { block := 7, off := 0, spot := some 1 }) 2 2, Value.slice (some { block := 0, off := 0 }) 2 2] 41)) (Tree.node (Tree.node (Tree.node Tree.leaf (some (Thing.row [Value.int IntKind.i64 0, Value.int IntKind.i64 0, Value.int IntKind.i64 1, Value.int IntKind.i64 0, Value.int IntKind.i64 price, Value.int IntKind.i64 qty, Value.int IntKind.i64 0, Value.int IntKind.i64 0] 30)) Tree.leaf) (some (Thing.row [Value.slice (some { block := 15, off := 0, spot := some 1 }) 2 2, Value.slice (some { block := 8, off := 0 }) 2 2] 43)) Tree.leaf) (some (Thing.row [Value.int IntKind.i64 b1] 2)) (Tree.node Tree.leaf (some (Thing.row [Value.int IntKind.i64 b1] 2)) Tree.leaf))) (some (Thing.row [Value.int IntKind.i64 c0, Value.int IntKind.i64 c1] 2)) (Tree.node (Tree.node (Tree.node (Tree.node Tree.leaf (some (Thing.row [Value.int IntKind.i64 0, Value.int IntKind.i64 0, Value.int IntKind.i64 1, Value.int IntKind.i64 0, Value.int IntKind.i64 price, Value.int IntKind.i64 qty, Value.int IntKind.i64 0, Value.int IntKind.i64 0] 30)) Tree.leaf) (some (Thing.row [Value.int IntKind.i64 c0, Value.int IntKind.i64 c1] 2)) Tree.leaf) none (Tree.node Tree.leaf none Tree.leaf)) (some (Thing.row [Value.int IntKind.i64 b0] 2)) (Tree.node (Tree.node Tree.leaf (some (Thing.row [Value.int IntKind.i64 b0] 2)) Tree.leaf) (some (Thing.row [Value.slice (some { block := 5, off := 0 }) 1 1] 38)) (Tree.node Tree.leaf (some (Thing.row [Value.slice (some { block := 13, off := 0 }) 1 1] 38)) Tree.leaf))) }) hmix hX (by kernel_rfl) (by kernel_rfl) (of_decide_eq_true (by kernel_rfl)) (by kernel_rfl) (by kernel_rfl) (by kernel_rfl) ?_
        refine OD.run 7 (by kernel_rfl) ?_
        refine OD.callEv 100 16 ([Value.pointer (some { block := 1, off := 0 }), Value.int IntKind.i64 0, Value.int IntKind.i64 0]) (Value.bool true) ({ next := 18, tree := Tree.node (Tree.node (Tree.node (Tree.node (Tree.node Tree.leaf (some (Thing.row [Value.slice (some { block := 10, off := 0 }) 1 1, Value.slice (some { block := 13, off := 0 }) 1 1] 38)) Tree.leaf) (some (Thing.row [Value.slice (some { block := 2, off := 0 }) 1 1, Value.slice (some { block := 5, off := 0 }) 1 1] 38)) Tree.leaf) (some (Thing.row [Value.slice (some { block := 2, off := 0 }) 1 1] 38)) (Tree.node Tree.leaf (some (Thing.row [Value.slice (some { block := 10, off := 0 }) 1 1] 38)) Tree.leaf)) (some (Thing.row [Value.slice (some { block := 7, off := 0, spot := some 1 }) 2 2, Value.slice (some { block := 0, off := 0 }) 2 2] 41)) (Tree.node (Tree.node (Tree.node Tree.leaf (some (Thing.row [Value.int IntKind.i64 0, Value.int IntKind.i64 0, Value.int IntKind.i64 1, Value.int IntKind.i64 0, Value.int IntKind.i64 price, Value.int IntKind.i64 qty, Value.int IntKind.i64 0, Value.int IntKind.i64 0] 30)) Tree.leaf) (some (Thing.row [Value.slice (some { block := 15, off := 0, spot := some 1 }) 2 2, Value.slice (some { block := 8, off := 0 }) 2 2] 43)) Tree.leaf) (some (Thing.row [Value.int IntKind.i64 b1] 2)) (Tree.node Tree.leaf (some (Thing.row [Value.int IntKind.i64 b1] 2)) Tree.leaf))) (some (Thing.row [Value.int IntKind.i64 c0, Value.int IntKind.i64 c1] 2)) (Tree.node (Tree.node (Tree.node (Tree.node Tree.leaf (some (Thing.row [Value.int IntKind.i64 0, Value.int IntKind.i64 0, Value.int IntKind.i64 1, Value.int IntKind.i64 0, Value.int IntKind.i64 price, Value.int IntKind.i64 qty, Value.int IntKind.i64 0, Value.int IntKind.i64 0] 30)) Tree.leaf) (some (Thing.row [Value.int IntKind.i64 c0, Value.int IntKind.i64 c1] 2)) Tree.leaf) none (Tree.node Tree.leaf none Tree.leaf)) (some (Thing.row [Value.int IntKind.i64 b0] 2)) (Tree.node (Tree.node Tree.leaf (some (Thing.row [Value.int IntKind.i64 b0] 2)) Tree.leaf) (some (Thing.row [Value.slice (some { block := 5, off := 0 }) 1 1] 38)) (Tree.node Tree.leaf (some (Thing.row [Value.slice (some { block := 13, off := 0 }) 1 1] 38)) Tree.leaf))) }) hmix hX (by kernel_rfl) (by kernel_rfl) (of_decide_eq_true (by kernel_rfl)) (by kernel_rfl) (by kernel_rfl) (by kernel_rfl) ?_
        refine OD.run 12 (by kernel_rfl) ?_
        refine OD.as (Value.bool (decide (price < 1))) (Value.bool false) (by kernel_rfl) (of_decide_eq_true (by kernel_rfl)) (by kernel_rfl) (congrArg Value.bool (decide_eq_false (by exact h1))) ?_
        refine OD.run 4 (by kernel_rfl) ?_
        refine OD.as (Value.bool (decide (qty < 1))) (Value.bool false) (by kernel_rfl) (of_decide_eq_true (by kernel_rfl)) (by kernel_rfl) (congrArg Value.bool (decide_eq_false (by exact h2))) ?_
        refine OD.run 1 (by kernel_rfl) ?_
        refine OD.done (of_decide_eq_true (by kernel_rfl)) ?_
        refine then_n (by kernel_rfl) ?_
        refine Det.condF (by kernel_rfl) (false) (by kernel_rfl) rfl ?_
        refine Det.skipA (by kernel_rfl) ?_
        refine then_n (by kernel_rfl) ?_
        refine Det.seqA (by kernel_rfl) ?_
        refine Det.opsA (by kernel_rfl) hX ?_
        refine OD.run 4 (by kernel_rfl) ?_
        refine OD.callEq 17 ([Value.int IntKind.i64 price, Value.int IntKind.i64 qty]) (fix_Times _ _ (by omega) hA (by omega) hB _) (by kernel_rfl) (of_decide_eq_true (by kernel_rfl)) (by kernel_rfl) (by kernel_rfl) (by kernel_rfl) ?_
        refine OD.run 6 (by kernel_rfl) ?_
        refine OD.done (of_decide_eq_true (by kernel_rfl)) ?_
        refine then_n (by kernel_rfl) ?_
        refine Det.seqA (by kernel_rfl) ?_
        refine Det.opsA (by kernel_rfl) hX ?_
        refine OD.run 1 (by kernel_rfl) ?_
        refine OD.callEq 18 ([Value.agg #[Value.int IntKind.u64 (price * qty / 18446744073709551616), Value.int IntKind.u64 (price * qty % 18446744073709551616)]]) (fix_Narrow _ hp _) (by kernel_rfl) (of_decide_eq_true (by kernel_rfl)) (by kernel_rfl) (by kernel_rfl) (by kernel_rfl) ?_
        refine OD.run 5 (by kernel_rfl) ?_
        refine OD.done (of_decide_eq_true (by kernel_rfl)) ?_
        refine then_n (by kernel_rfl) ?_
        refine Det.seqA (by kernel_rfl) ?_
        refine Det.drawA (by kernel_rfl) hmix hX (by kernel_rfl) (by kernel_rfl) ?_
        refine OD.run 14 (by kernel_rfl) ?_
        refine OD.callEq 19 ([Value.int IntKind.i64 b1, Value.int IntKind.i64 qty]) (fix_Add _ _ (by omega) (by omega) (by omega) (by omega) _) (by kernel_rfl) (of_decide_eq_true (by kernel_rfl)) (by kernel_rfl) (by kernel_rfl) (by kernel_rfl) ?_
        refine OD.run 5 (by kernel_rfl) ?_
        refine OD.done (of_decide_eq_true (by kernel_rfl)) ?_
        refine then_n (by kernel_rfl) ?_
        refine Det.seqA (by kernel_rfl) ?_
        refine Det.drawA (by kernel_rfl) hmix hX (by kernel_rfl) (by kernel_rfl) ?_
        refine OD.run 14 (by kernel_rfl) ?_
        refine OD.callEq 20 ([Value.int IntKind.i64 b0, Value.int IntKind.i64 qty]) (fix_Sub _ _ (by omega) (by omega) (by omega) (by omega) _) (by kernel_rfl) (of_decide_eq_true (by kernel_rfl)) (by kernel_rfl) (by kernel_rfl) (by kernel_rfl) ?_
        refine OD.run 5 (by kernel_rfl) ?_
        refine OD.done (of_decide_eq_true (by kernel_rfl)) ?_
        refine then_n (by kernel_rfl) ?_
        refine Det.seqA (by kernel_rfl) ?_
        refine Det.drawA (by kernel_rfl) hmix hX (by kernel_rfl) (by kernel_rfl) ?_
        refine OD.run 9 (by kernel_rfl) ?_
        refine OD.callEq 20 ([Value.int IntKind.i64 c1, Value.int IntKind.i64 (keep (price * qty))]) (fix_Sub _ _ (by omega) (by omega) (by omega) (by omega) _) (by kernel_rfl) (of_decide_eq_true (by kernel_rfl)) (by kernel_rfl) (by kernel_rfl) (by kernel_rfl) ?_
        refine OD.run 5 (by kernel_rfl) ?_
        refine OD.done (of_decide_eq_true (by kernel_rfl)) ?_
        refine then_n (by kernel_rfl) ?_
        refine Det.seqA (by kernel_rfl) ?_
        refine Det.drawA (by kernel_rfl) hmix hX (by kernel_rfl) (by kernel_rfl) ?_
        refine OD.run 9 (by kernel_rfl) ?_
        refine OD.callEq 19 ([Value.int IntKind.i64 c0, Value.int IntKind.i64 (keep (price * qty))]) (fix_Add _ _ (by omega) (by omega) (by omega) (by omega) _) (by kernel_rfl) (of_decide_eq_true (by kernel_rfl)) (by kernel_rfl) (by kernel_rfl) (by kernel_rfl) ?_
        refine OD.run 5 (by kernel_rfl) ?_
        refine OD.done (of_decide_eq_true (by kernel_rfl)) ?_
        refine then_n (by kernel_rfl) ?_
        refine Det.seqA (by kernel_rfl) ?_
        refine Det.seqA (by kernel_rfl) ?_
        refine Det.opsA (by kernel_rfl) hX ?_
        refine OD.run 2 (by kernel_rfl) ?_
        rcases Bool.eq_false_or_eq_true (inR (price * qty)) with c100 | c100
        · refine OD.as (Value.bool !inR (price * qty)) (Value.bool false) (by kernel_rfl) (of_decide_eq_true (by kernel_rfl)) (by kernel_rfl) (congrArg Value.bool (not_f (by exact c100))) ?_
          refine OD.run 3 (by kernel_rfl) ?_
          rcases Bool.eq_false_or_eq_true (inR (b1 + qty)) with c103 | c103
          · refine OD.as (Value.bool !inR (b1 + qty)) (Value.bool false) (by kernel_rfl) (of_decide_eq_true (by kernel_rfl)) (by kernel_rfl) (congrArg Value.bool (not_f (by exact c103))) ?_
            refine OD.run 3 (by kernel_rfl) ?_
            rcases Bool.eq_false_or_eq_true (inR (b0 - qty)) with c106 | c106
            · refine OD.as (Value.bool !inR (b0 - qty)) (Value.bool false) (by kernel_rfl) (of_decide_eq_true (by kernel_rfl)) (by kernel_rfl) (congrArg Value.bool (not_f (by exact c106))) ?_
              refine OD.run 3 (by kernel_rfl) ?_
              rcases Bool.eq_false_or_eq_true (inR (c1 - keep (price * qty))) with c109 | c109
              · refine OD.as (Value.bool !inR (c1 - keep (price * qty))) (Value.bool false) (by kernel_rfl) (of_decide_eq_true (by kernel_rfl)) (by kernel_rfl) (congrArg Value.bool (not_f (by exact c109))) ?_
                refine OD.run 3 (by kernel_rfl) ?_
                refine OD.done (of_decide_eq_true (by kernel_rfl)) ?_
                refine then_n (by kernel_rfl) ?_
                rcases Bool.eq_false_or_eq_true (inR (c0 + keep (price * qty))) with c113 | c113
                · refine Det.condF (by kernel_rfl) (!inR (c0 + keep (price * qty))) (by kernel_rfl) (not_f (by exact c113)) ?_
                  refine Det.skipA (by kernel_rfl) ?_
                  refine then_n (by kernel_rfl) ?_
                  refine Det.seqA (by kernel_rfl) ?_
                  refine Det.drawB (by kernel_rfl) hmix hX (by kernel_rfl) ?_
                  refine OD.run 26 (by kernel_rfl) ?_
                  refine OD.done (of_decide_eq_true (by kernel_rfl)) ?_
                  refine ⟨by kernel_rfl, ?_⟩
                  refine then_n (by kernel_rfl) ?_
                  refine Det.seqA (by kernel_rfl) ?_
                  refine Det.drawB (by kernel_rfl) hmix hX (by kernel_rfl) ?_
                  refine OD.run 18 (by kernel_rfl) ?_
                  refine OD.done (of_decide_eq_true (by kernel_rfl)) ?_
                  refine ⟨by kernel_rfl, ?_⟩
                  refine then_n (by kernel_rfl) ?_
                  refine Det.seqA (by kernel_rfl) ?_
                  refine Det.opsA (by kernel_rfl) hX ?_
                  refine OD.run 1 (by kernel_rfl) ?_
                  refine OD.done (of_decide_eq_true (by kernel_rfl)) ?_
                  refine then_n (by kernel_rfl) ?_
                  refine Det.retA (by kernel_rfl) ?_
                  refine fin_r (Value.int IntKind.i64 0) (by kernel_rfl) (by kernel_rfl) ?_
                  refine OD.run 1 (by kernel_rfl) ?_
                  refine OD.done (of_decide_eq_true (by kernel_rfl)) ?_
                  refine then_n (by kernel_rfl) ?_
                  refine Det.seqA (by kernel_rfl) ?_
                  refine Det.opsA (by kernel_rfl) hX ?_
                  refine OD.run 3 (by kernel_rfl) ?_
                  refine OD.callIn 10 ([Value.pointer (some { block := 9, off := 0 }), Value.agg #[Value.int IntKind.i64 0, Value.int IntKind.i64 0, Value.int IntKind.i64 1, Value.int IntKind.i64 0, Value.int IntKind.i64 price, Value.int IntKind.i64 qty, Value.int IntKind.i64 0, Value.int IntKind.i64 0]]) (by kernel_rfl) (of_decide_eq_true (by kernel_rfl)) (by kernel_rfl) (by kernel_rfl) (by kernel_rfl) ?_
                  refine Det.enter Try.func10 (by kernel_rfl) (of_decide_eq_true (by kernel_rfl)) ?_
                  refine Det.seqA (by kernel_rfl) ?_
                  refine Det.opsA (by kernel_rfl) hX ?_
                  refine OD.run 2 (by kernel_rfl) ?_
                  refine OD.done (of_decide_eq_true (by kernel_rfl)) ?_
                  refine then_n (by kernel_rfl) ?_
                  refine Det.seqA (by kernel_rfl) ?_
                  refine Det.seqA (by kernel_rfl) ?_
                  refine Det.drawA (by kernel_rfl) hmix hX (by kernel_rfl) (by kernel_rfl) ?_
                  refine OD.run 3 (by kernel_rfl) ?_
                  refine OD.callEv 100 21 ([Value.pointer (some { block := 9, off := 0 }), Value.int IntKind.i64 1]) (Value.bool true) ({ next := 20, tree := Tree.node (Tree.node (Tree.node (Tree.node (Tree.node Tree.leaf (some (Thing.row [Value.slice (some { block := 10, off := 0 }) 1 1, Value.slice (some { block := 13, off := 0 }) 1 1] 38)) Tree.leaf) (some (Thing.row [Value.slice (some { block := 2, off := 0 }) 1 1, Value.slice (some { block := 5, off := 0 }) 1 1] 38)) Tree.leaf) (some (Thing.row [Value.slice (some { block := 2, off := 0 }) 1 1] 38)) (Tree.node (Tree.node Tree.leaf (some (Thing.row [Value.int IntKind.i64 0, Value.int IntKind.i64 0, Value.int IntKind.i64 1, Value.int IntKind.i64 0, Value.int IntKind.i64 price, Value.int IntKind.i64 qty, Value.int IntKind.i64 0, Value.int IntKind.i64 0] 30)) Tree.leaf) (some (Thing.row [Value.slice (some { block := 10, off := 0 }) 1 1] 38)) Tree.leaf)) (some (Thing.row [Value.slice (some { block := 7, off := 0, spot := some 1 }) 2 2, Value.slice (some { block := 0, off := 0 }) 2 2] 41)) (Tree.node (Tree.node (Tree.node Tree.leaf (some (Thing.row [Value.int IntKind.i64 0, Value.int IntKind.i64 0, Value.int IntKind.i64 1, Value.int IntKind.i64 0, Value.int IntKind.i64 price, Value.int IntKind.i64 qty, Value.int IntKind.i64 0, Value.int IntKind.i64 0] 30)) Tree.leaf) (some (Thing.row [Value.slice (some { block := 15, off := 0, spot := some 1 }) 2 2, Value.slice (some { block := 8, off := 0 }) 2 2] 43)) Tree.leaf) (some (Thing.row [Value.int IntKind.i64 (keep (b1 + qty))] 2)) (Tree.node Tree.leaf (some (Thing.row [Value.int IntKind.i64 b1] 2)) Tree.leaf))) (some (Thing.row [Value.int IntKind.i64 (keep (c0 + keep (price * qty))), Value.int IntKind.i64 (keep (c1 - keep (price * qty)))] 2)) (Tree.node (Tree.node (Tree.node (Tree.node Tree.leaf (some (Thing.row [Value.int IntKind.i64 0, Value.int IntKind.i64 0, Value.int IntKind.i64 1, Value.int IntKind.i64 0, Value.int IntKind.i64 price, Value.int IntKind.i64 qty, Value.int IntKind.i64 0, Value.int IntKind.i64 0] 30)) Tree.leaf) (some (Thing.row [Value.int IntKind.i64 c0, Value.int IntKind.i64 c1] 2)) Tree.leaf) none (Tree.node Tree.leaf none Tree.leaf)) (some (Thing.row [Value.int IntKind.i64 (keep (b0 - qty))] 2)) (Tree.node (Tree.node (Tree.node Tree.leaf (some (Thing.row [Value.int IntKind.u64 (price * qty / 18446744073709551616), Value.int IntKind.u64 (price * qty % 18446744073709551616)] 47)) Tree.leaf) (some (Thing.row [Value.int IntKind.i64 b0] 2)) Tree.leaf) (some (Thing.row [Value.slice (some { block := 5, off := 0 }) 1 1] 38)) (Tree.node Tree.leaf (some (Thing.row [Value.slice (some { block := 13, off := 0 }) 1 1] 38)) Tree.leaf))) }) hmix hX (by kernel_rfl) (by kernel_rfl) (of_decide_eq_true (by kernel_rfl)) (by kernel_rfl) (by kernel_rfl) (by kernel_rfl) ?_
                  refine OD.run 5 (by kernel_rfl) ?_
                  refine OD.callEv 100 21 ([Value.pointer (some { block := 9, off := 0 }), Value.int IntKind.i64 0]) (Value.bool true) ({ next := 20, tree := Tree.node (Tree.node (Tree.node (Tree.node (Tree.node Tree.leaf (some (Thing.row [Value.slice (some { block := 10, off := 0 }) 1 1, Value.slice (some { block := 13, off := 0 }) 1 1] 38)) Tree.leaf) (some (Thing.row [Value.slice (some { block := 2, off := 0 }) 1 1, Value.slice (some { block := 5, off := 0 }) 1 1] 38)) Tree.leaf) (some (Thing.row [Value.slice (some { block := 2, off := 0 }) 1 1] 38)) (Tree.node (Tree.node Tree.leaf (some (Thing.row [Value.int IntKind.i64 0, Value.int IntKind.i64 0, Value.int IntKind.i64 1, Value.int IntKind.i64 0, Value.int IntKind.i64 price, Value.int IntKind.i64 qty, Value.int IntKind.i64 0, Value.int IntKind.i64 0] 30)) Tree.leaf) (some (Thing.row [Value.slice (some { block := 10, off := 0 }) 1 1] 38)) Tree.leaf)) (some (Thing.row [Value.slice (some { block := 7, off := 0, spot := some 1 }) 2 2, Value.slice (some { block := 0, off := 0 }) 2 2] 41)) (Tree.node (Tree.node (Tree.node Tree.leaf (some (Thing.row [Value.int IntKind.i64 0, Value.int IntKind.i64 0, Value.int IntKind.i64 1, Value.int IntKind.i64 0, Value.int IntKind.i64 price, Value.int IntKind.i64 qty, Value.int IntKind.i64 0, Value.int IntKind.i64 0] 30)) Tree.leaf) (some (Thing.row [Value.slice (some { block := 15, off := 0, spot := some 1 }) 2 2, Value.slice (some { block := 8, off := 0 }) 2 2] 43)) Tree.leaf) (some (Thing.row [Value.int IntKind.i64 (keep (b1 + qty))] 2)) (Tree.node Tree.leaf (some (Thing.row [Value.int IntKind.i64 b1] 2)) Tree.leaf))) (some (Thing.row [Value.int IntKind.i64 (keep (c0 + keep (price * qty))), Value.int IntKind.i64 (keep (c1 - keep (price * qty)))] 2)) (Tree.node (Tree.node (Tree.node (Tree.node Tree.leaf (some (Thing.row [Value.int IntKind.i64 0, Value.int IntKind.i64 0, Value.int IntKind.i64 1, Value.int IntKind.i64 0, Value.int IntKind.i64 price, Value.int IntKind.i64 qty, Value.int IntKind.i64 0, Value.int IntKind.i64 0] 30)) Tree.leaf) (some (Thing.row [Value.int IntKind.i64 c0, Value.int IntKind.i64 c1] 2)) Tree.leaf) none (Tree.node Tree.leaf none Tree.leaf)) (some (Thing.row [Value.int IntKind.i64 (keep (b0 - qty))] 2)) (Tree.node (Tree.node (Tree.node Tree.leaf (some (Thing.row [Value.int IntKind.u64 (price * qty / 18446744073709551616), Value.int IntKind.u64 (price * qty % 18446744073709551616)] 47)) Tree.leaf) (some (Thing.row [Value.int IntKind.i64 b0] 2)) Tree.leaf) (some (Thing.row [Value.slice (some { block := 5, off := 0 }) 1 1] 38)) (Tree.node Tree.leaf (some (Thing.row [Value.slice (some { block := 13, off := 0 }) 1 1] 38)) Tree.leaf))) }) hmix hX (by kernel_rfl) (by kernel_rfl) (of_decide_eq_true (by kernel_rfl)) (by kernel_rfl) (by kernel_rfl) (by kernel_rfl) ?_
                  refine OD.run 29 (by kernel_rfl) ?_
                  refine OD.as (Value.bool (decide (price < 1))) (Value.bool false) (by kernel_rfl) (of_decide_eq_true (by kernel_rfl)) (by kernel_rfl) (congrArg Value.bool (decide_eq_false (by exact h1))) ?_
                  refine OD.run 4 (by kernel_rfl) ?_
                  refine OD.as (Value.bool (decide (qty < 1))) (Value.bool false) (by kernel_rfl) (of_decide_eq_true (by kernel_rfl)) (by kernel_rfl) (congrArg Value.bool (decide_eq_false (by exact h2))) ?_
                  refine OD.run 1 (by kernel_rfl) ?_
                  refine OD.done (of_decide_eq_true (by kernel_rfl)) ?_
                  refine then_n (by kernel_rfl) ?_
                  refine Det.condF (by kernel_rfl) (false) (by kernel_rfl) rfl ?_
                  refine Det.skipA (by kernel_rfl) ?_
                  refine then_n (by kernel_rfl) ?_
                  refine Det.seqA (by kernel_rfl) ?_
                  refine Det.opsA (by kernel_rfl) hX ?_
                  refine OD.run 4 (by kernel_rfl) ?_
                  refine OD.callEq 22 ([Value.int IntKind.i64 price, Value.int IntKind.i64 qty]) (ref_Times _ _ (by omega) hA (by omega) hB _) (by kernel_rfl) (of_decide_eq_true (by kernel_rfl)) (by kernel_rfl) (by kernel_rfl) (by kernel_rfl) ?_
                  refine OD.run 6 (by kernel_rfl) ?_
                  refine OD.done (of_decide_eq_true (by kernel_rfl)) ?_
                  refine then_n (by kernel_rfl) ?_
                  refine Det.seqA (by kernel_rfl) ?_
                  refine Det.opsA (by kernel_rfl) hX ?_
                  refine OD.run 1 (by kernel_rfl) ?_
                  refine OD.callEq 23 ([Value.agg #[Value.int IntKind.u64 (price * qty / 18446744073709551616), Value.int IntKind.u64 (price * qty % 18446744073709551616)]]) (ref_Narrow _ hp _) (by kernel_rfl) (of_decide_eq_true (by kernel_rfl)) (by kernel_rfl) (by kernel_rfl) (by kernel_rfl) ?_
                  refine OD.run 2 (by kernel_rfl) ?_
                  refine OD.as (Value.bool (inR (price * qty))) (Value.bool true) (by kernel_rfl) (of_decide_eq_true (by kernel_rfl)) (by kernel_rfl) (congrArg Value.bool (by exact c100)) ?_
                  refine OD.run 2 (by kernel_rfl) ?_
                  refine OD.done (of_decide_eq_true (by kernel_rfl)) ?_
                  refine then_n (by kernel_rfl) ?_
                  refine Det.seqA (by kernel_rfl) ?_
                  refine Det.drawA (by kernel_rfl) hmix hX (by kernel_rfl) (by kernel_rfl) ?_
                  refine OD.run 14 (by kernel_rfl) ?_
                  refine OD.callEq 24 ([Value.int IntKind.i64 b1, Value.int IntKind.i64 qty]) (ref_Add _ _ (by omega) (by omega) (by omega) (by omega) _) (by kernel_rfl) (of_decide_eq_true (by kernel_rfl)) (by kernel_rfl) (by kernel_rfl) (by kernel_rfl) ?_
                  refine OD.run 2 (by kernel_rfl) ?_
                  refine OD.as (Value.bool (inR (b1 + qty))) (Value.bool true) (by kernel_rfl) (of_decide_eq_true (by kernel_rfl)) (by kernel_rfl) (congrArg Value.bool (by exact c103)) ?_
                  refine OD.run 2 (by kernel_rfl) ?_
                  refine OD.done (of_decide_eq_true (by kernel_rfl)) ?_
                  refine then_n (by kernel_rfl) ?_
                  refine Det.seqA (by kernel_rfl) ?_
                  refine Det.drawA (by kernel_rfl) hmix hX (by kernel_rfl) (by kernel_rfl) ?_
                  refine OD.run 14 (by kernel_rfl) ?_
                  refine OD.callEq 25 ([Value.int IntKind.i64 b0, Value.int IntKind.i64 qty]) (ref_Sub _ _ (by omega) (by omega) (by omega) (by omega) _) (by kernel_rfl) (of_decide_eq_true (by kernel_rfl)) (by kernel_rfl) (by kernel_rfl) (by kernel_rfl) ?_
                  refine OD.run 2 (by kernel_rfl) ?_
                  refine OD.as (Value.bool (inR (b0 - qty))) (Value.bool true) (by kernel_rfl) (of_decide_eq_true (by kernel_rfl)) (by kernel_rfl) (congrArg Value.bool (by exact c106)) ?_
                  refine OD.run 2 (by kernel_rfl) ?_
                  refine OD.done (of_decide_eq_true (by kernel_rfl)) ?_
                  refine then_n (by kernel_rfl) ?_
                  refine Det.seqA (by kernel_rfl) ?_
                  refine Det.drawA (by kernel_rfl) hmix hX (by kernel_rfl) (by kernel_rfl) ?_
                  refine OD.run 9 (by kernel_rfl) ?_
                  refine OD.callEq 25 ([Value.int IntKind.i64 c1, Value.int IntKind.i64 (keep (price * qty))]) (ref_Sub _ _ (by omega) (by omega) (by omega) (by omega) _) (by kernel_rfl) (of_decide_eq_true (by kernel_rfl)) (by kernel_rfl) (by kernel_rfl) (by kernel_rfl) ?_
                  refine OD.run 2 (by kernel_rfl) ?_
                  refine OD.as (Value.bool (inR (c1 - keep (price * qty)))) (Value.bool true) (by kernel_rfl) (of_decide_eq_true (by kernel_rfl)) (by kernel_rfl) (congrArg Value.bool (by exact c109)) ?_
                  refine OD.run 2 (by kernel_rfl) ?_
                  refine OD.done (of_decide_eq_true (by kernel_rfl)) ?_
                  refine then_n (by kernel_rfl) ?_
                  refine Det.seqA (by kernel_rfl) ?_
                  refine Det.drawA (by kernel_rfl) hmix hX (by kernel_rfl) (by kernel_rfl) ?_
                  refine OD.run 9 (by kernel_rfl) ?_
                  refine OD.callEq 24 ([Value.int IntKind.i64 c0, Value.int IntKind.i64 (keep (price * qty))]) (ref_Add _ _ (by omega) (by omega) (by omega) (by omega) _) (by kernel_rfl) (of_decide_eq_true (by kernel_rfl)) (by kernel_rfl) (by kernel_rfl) (by kernel_rfl) ?_
                  refine OD.run 2 (by kernel_rfl) ?_
                  refine OD.as (Value.bool (inR (c0 + keep (price * qty)))) (Value.bool true) (by kernel_rfl) (of_decide_eq_true (by kernel_rfl)) (by kernel_rfl) (congrArg Value.bool (by exact c113)) ?_
                  refine OD.run 2 (by kernel_rfl) ?_
                  refine OD.done (of_decide_eq_true (by kernel_rfl)) ?_
                  refine then_n (by kernel_rfl) ?_
                  refine Det.seqA (by kernel_rfl) ?_
                  refine Det.seqA (by kernel_rfl) ?_
                  refine Det.opsA (by kernel_rfl) hX ?_
                  refine OD.run 18 (by kernel_rfl) ?_
                  refine OD.done (of_decide_eq_true (by kernel_rfl)) ?_
                  refine then_n (by kernel_rfl) ?_
                  refine Det.condF (by kernel_rfl) (false) (by kernel_rfl) rfl ?_
                  refine Det.skipA (by kernel_rfl) ?_
                  refine then_n (by kernel_rfl) ?_
                  refine Det.seqA (by kernel_rfl) ?_
                  refine Det.drawB (by kernel_rfl) hmix hX (by kernel_rfl) ?_
                  refine OD.run 44 (by kernel_rfl) ?_
                  refine OD.done (of_decide_eq_true (by kernel_rfl)) ?_
                  refine ⟨by kernel_rfl, ?_⟩
                  refine then_n (by kernel_rfl) ?_
                  refine Det.seqA (by kernel_rfl) ?_
                  refine Det.opsA (by kernel_rfl) hX ?_
                  refine OD.run 1 (by kernel_rfl) ?_
                  refine OD.done (of_decide_eq_true (by kernel_rfl)) ?_
                  refine then_n (by kernel_rfl) ?_
                  refine Det.retA (by kernel_rfl) ?_
                  refine fin_r (Value.int IntKind.i64 0) (by kernel_rfl) (by kernel_rfl) ?_
                  refine OD.run 3 (by kernel_rfl) ?_
                  refine OD.callEv 100 13 ([Value.pointer (some { block := 1, off := 0 }), Value.int IntKind.i64 0]) (Value.int IntKind.i64 (keep (c0 + keep (price * qty)))) ({ next := 21, tree := Tree.node (Tree.node (Tree.node (Tree.node (Tree.node Tree.leaf (some (Thing.row [Value.slice (some { block := 10, off := 0 }) 1 1, Value.slice (some { block := 13, off := 0 }) 1 1] 38)) Tree.leaf) (some (Thing.row [Value.slice (some { block := 2, off := 0 }) 1 1, Value.slice (some { block := 5, off := 0 }) 1 1] 38)) Tree.leaf) (some (Thing.row [Value.slice (some { block := 2, off := 0 }) 1 1] 38)) (Tree.node (Tree.node Tree.leaf (some (Thing.row [Value.int IntKind.i64 0, Value.int IntKind.i64 0, Value.int IntKind.i64 1, Value.int IntKind.i64 0, Value.int IntKind.i64 price, Value.int IntKind.i64 qty, Value.int IntKind.i64 0, Value.int IntKind.i64 0] 30)) Tree.leaf) (some (Thing.row [Value.slice (some { block := 10, off := 0 }) 1 1] 38)) Tree.leaf)) (some (Thing.row [Value.slice (some { block := 7, off := 0, spot := some 1 }) 2 2, Value.slice (some { block := 0, off := 0 }) 2 2] 41)) (Tree.node (Tree.node (Tree.node Tree.leaf (some (Thing.row [Value.int IntKind.i64 0, Value.int IntKind.i64 0, Value.int IntKind.i64 1, Value.int IntKind.i64 0, Value.int IntKind.i64 price, Value.int IntKind.i64 qty, Value.int IntKind.i64 0, Value.int IntKind.i64 0] 30)) Tree.leaf) (some (Thing.row [Value.slice (some { block := 15, off := 0, spot := some 1 }) 2 2, Value.slice (some { block := 8, off := 0 }) 2 2] 43)) Tree.leaf) (some (Thing.row [Value.int IntKind.i64 (keep (b1 + qty))] 2)) (Tree.node Tree.leaf (some (Thing.row [Value.int IntKind.i64 (keep (b1 + qty))] 2)) Tree.leaf))) (some (Thing.row [Value.int IntKind.i64 (keep (c0 + keep (price * qty))), Value.int IntKind.i64 (keep (c1 - keep (price * qty)))] 2)) (Tree.node (Tree.node (Tree.node (Tree.node Tree.leaf (some (Thing.row [Value.int IntKind.i64 0, Value.int IntKind.i64 0, Value.int IntKind.i64 1, Value.int IntKind.i64 0, Value.int IntKind.i64 price, Value.int IntKind.i64 qty, Value.int IntKind.i64 0, Value.int IntKind.i64 0] 30)) Tree.leaf) (some (Thing.row [Value.int IntKind.i64 (keep (c0 + keep (price * qty))), Value.int IntKind.i64 (keep (c1 - keep (price * qty)))] 2)) Tree.leaf) none (Tree.node (Tree.node Tree.leaf (some (Thing.row [Value.int IntKind.u64 (price * qty / 18446744073709551616), Value.int IntKind.u64 (price * qty % 18446744073709551616)] 47)) Tree.leaf) none Tree.leaf)) (some (Thing.row [Value.int IntKind.i64 (keep (b0 - qty))] 2)) (Tree.node (Tree.node (Tree.node Tree.leaf (some (Thing.row [Value.int IntKind.u64 (price * qty / 18446744073709551616), Value.int IntKind.u64 (price * qty % 18446744073709551616)] 47)) Tree.leaf) (some (Thing.row [Value.int IntKind.i64 (keep (b0 - qty))] 2)) Tree.leaf) (some (Thing.row [Value.slice (some { block := 5, off := 0 }) 1 1] 38)) (Tree.node Tree.leaf (some (Thing.row [Value.slice (some { block := 13, off := 0 }) 1 1] 38)) Tree.leaf))) }) hmix hX (by kernel_rfl) (by kernel_rfl) (of_decide_eq_true (by kernel_rfl)) (by kernel_rfl) (by kernel_rfl) (by kernel_rfl) ?_
                  refine OD.run 1 (by kernel_rfl) ?_
                  refine OD.callEv 100 14 ([Value.pointer (some { block := 9, off := 0 }), Value.int IntKind.i64 0]) (Value.int IntKind.i64 (keep (c0 + keep (price * qty)))) ({ next := 21, tree := Tree.node (Tree.node (Tree.node (Tree.node (Tree.node Tree.leaf (some (Thing.row [Value.slice (some { block := 10, off := 0 }) 1 1, Value.slice (some { block := 13, off := 0 }) 1 1] 38)) Tree.leaf) (some (Thing.row [Value.slice (some { block := 2, off := 0 }) 1 1, Value.slice (some { block := 5, off := 0 }) 1 1] 38)) Tree.leaf) (some (Thing.row [Value.slice (some { block := 2, off := 0 }) 1 1] 38)) (Tree.node (Tree.node Tree.leaf (some (Thing.row [Value.int IntKind.i64 0, Value.int IntKind.i64 0, Value.int IntKind.i64 1, Value.int IntKind.i64 0, Value.int IntKind.i64 price, Value.int IntKind.i64 qty, Value.int IntKind.i64 0, Value.int IntKind.i64 0] 30)) Tree.leaf) (some (Thing.row [Value.slice (some { block := 10, off := 0 }) 1 1] 38)) Tree.leaf)) (some (Thing.row [Value.slice (some { block := 7, off := 0, spot := some 1 }) 2 2, Value.slice (some { block := 0, off := 0 }) 2 2] 41)) (Tree.node (Tree.node (Tree.node Tree.leaf (some (Thing.row [Value.int IntKind.i64 0, Value.int IntKind.i64 0, Value.int IntKind.i64 1, Value.int IntKind.i64 0, Value.int IntKind.i64 price, Value.int IntKind.i64 qty, Value.int IntKind.i64 0, Value.int IntKind.i64 0] 30)) Tree.leaf) (some (Thing.row [Value.slice (some { block := 15, off := 0, spot := some 1 }) 2 2, Value.slice (some { block := 8, off := 0 }) 2 2] 43)) Tree.leaf) (some (Thing.row [Value.int IntKind.i64 (keep (b1 + qty))] 2)) (Tree.node Tree.leaf (some (Thing.row [Value.int IntKind.i64 (keep (b1 + qty))] 2)) Tree.leaf))) (some (Thing.row [Value.int IntKind.i64 (keep (c0 + keep (price * qty))), Value.int IntKind.i64 (keep (c1 - keep (price * qty)))] 2)) (Tree.node (Tree.node (Tree.node (Tree.node Tree.leaf (some (Thing.row [Value.int IntKind.i64 0, Value.int IntKind.i64 0, Value.int IntKind.i64 1, Value.int IntKind.i64 0, Value.int IntKind.i64 price, Value.int IntKind.i64 qty, Value.int IntKind.i64 0, Value.int IntKind.i64 0] 30)) Tree.leaf) (some (Thing.row [Value.int IntKind.i64 (keep (c0 + keep (price * qty))), Value.int IntKind.i64 (keep (c1 - keep (price * qty)))] 2)) Tree.leaf) none (Tree.node (Tree.node Tree.leaf (some (Thing.row [Value.int IntKind.u64 (price * qty / 18446744073709551616), Value.int IntKind.u64 (price * qty % 18446744073709551616)] 47)) Tree.leaf) none Tree.leaf)) (some (Thing.row [Value.int IntKind.i64 (keep (b0 - qty))] 2)) (Tree.node (Tree.node (Tree.node Tree.leaf (some (Thing.row [Value.int IntKind.u64 (price * qty / 18446744073709551616), Value.int IntKind.u64 (price * qty % 18446744073709551616)] 47)) Tree.leaf) (some (Thing.row [Value.int IntKind.i64 (keep (b0 - qty))] 2)) Tree.leaf) (some (Thing.row [Value.slice (some { block := 5, off := 0 }) 1 1] 38)) (Tree.node Tree.leaf (some (Thing.row [Value.slice (some { block := 13, off := 0 }) 1 1] 38)) Tree.leaf))) }) hmix hX (by kernel_rfl) (by kernel_rfl) (of_decide_eq_true (by kernel_rfl)) (by kernel_rfl) (by kernel_rfl) (by kernel_rfl) ?_
                  refine OD.as (Value.bool (keep (c0 + keep (price * qty)) != keep (c0 + keep (price * qty)))) (Value.bool false) (by kernel_rfl) (of_decide_eq_true (by kernel_rfl)) (by kernel_rfl) (congrArg Value.bool (bne_eq_false_iff_eq.2 rfl)) ?_
                  refine OD.run 3 (by kernel_rfl) ?_
                  refine OD.callEv 100 11 ([Value.pointer (some { block := 1, off := 0 }), Value.int IntKind.i64 1, Value.int IntKind.i64 0]) (Value.int IntKind.i64 (keep (b1 + qty))) ({ next := 21, tree := Tree.node (Tree.node (Tree.node (Tree.node (Tree.node Tree.leaf (some (Thing.row [Value.slice (some { block := 10, off := 0 }) 1 1, Value.slice (some { block := 13, off := 0 }) 1 1] 38)) Tree.leaf) (some (Thing.row [Value.slice (some { block := 2, off := 0 }) 1 1, Value.slice (some { block := 5, off := 0 }) 1 1] 38)) Tree.leaf) (some (Thing.row [Value.slice (some { block := 2, off := 0 }) 1 1] 38)) (Tree.node (Tree.node Tree.leaf (some (Thing.row [Value.int IntKind.i64 0, Value.int IntKind.i64 0, Value.int IntKind.i64 1, Value.int IntKind.i64 0, Value.int IntKind.i64 price, Value.int IntKind.i64 qty, Value.int IntKind.i64 0, Value.int IntKind.i64 0] 30)) Tree.leaf) (some (Thing.row [Value.slice (some { block := 10, off := 0 }) 1 1] 38)) Tree.leaf)) (some (Thing.row [Value.slice (some { block := 7, off := 0, spot := some 1 }) 2 2, Value.slice (some { block := 0, off := 0 }) 2 2] 41)) (Tree.node (Tree.node (Tree.node Tree.leaf (some (Thing.row [Value.int IntKind.i64 0, Value.int IntKind.i64 0, Value.int IntKind.i64 1, Value.int IntKind.i64 0, Value.int IntKind.i64 price, Value.int IntKind.i64 qty, Value.int IntKind.i64 0, Value.int IntKind.i64 0] 30)) Tree.leaf) (some (Thing.row [Value.slice (some { block := 15, off := 0, spot := some 1 }) 2 2, Value.slice (some { block := 8, off := 0 }) 2 2] 43)) Tree.leaf) (some (Thing.row [Value.int IntKind.i64 (keep (b1 + qty))] 2)) (Tree.node Tree.leaf (some (Thing.row [Value.int IntKind.i64 (keep (b1 + qty))] 2)) Tree.leaf))) (some (Thing.row [Value.int IntKind.i64 (keep (c0 + keep (price * qty))), Value.int IntKind.i64 (keep (c1 - keep (price * qty)))] 2)) (Tree.node (Tree.node (Tree.node (Tree.node Tree.leaf (some (Thing.row [Value.int IntKind.i64 0, Value.int IntKind.i64 0, Value.int IntKind.i64 1, Value.int IntKind.i64 0, Value.int IntKind.i64 price, Value.int IntKind.i64 qty, Value.int IntKind.i64 0, Value.int IntKind.i64 0] 30)) Tree.leaf) (some (Thing.row [Value.int IntKind.i64 (keep (c0 + keep (price * qty))), Value.int IntKind.i64 (keep (c1 - keep (price * qty)))] 2)) Tree.leaf) none (Tree.node (Tree.node Tree.leaf (some (Thing.row [Value.int IntKind.u64 (price * qty / 18446744073709551616), Value.int IntKind.u64 (price * qty % 18446744073709551616)] 47)) Tree.leaf) none Tree.leaf)) (some (Thing.row [Value.int IntKind.i64 (keep (b0 - qty))] 2)) (Tree.node (Tree.node (Tree.node Tree.leaf (some (Thing.row [Value.int IntKind.u64 (price * qty / 18446744073709551616), Value.int IntKind.u64 (price * qty % 18446744073709551616)] 47)) Tree.leaf) (some (Thing.row [Value.int IntKind.i64 (keep (b0 - qty))] 2)) Tree.leaf) (some (Thing.row [Value.slice (some { block := 5, off := 0 }) 1 1] 38)) (Tree.node Tree.leaf (some (Thing.row [Value.slice (some { block := 13, off := 0 }) 1 1] 38)) Tree.leaf))) }) hmix hX (by kernel_rfl) (by kernel_rfl) (of_decide_eq_true (by kernel_rfl)) (by kernel_rfl) (by kernel_rfl) (by kernel_rfl) ?_
                  refine OD.run 1 (by kernel_rfl) ?_
                  refine OD.callEv 100 12 ([Value.pointer (some { block := 9, off := 0 }), Value.int IntKind.i64 1, Value.int IntKind.i64 0]) (Value.int IntKind.i64 (keep (b1 + qty))) ({ next := 21, tree := Tree.node (Tree.node (Tree.node (Tree.node (Tree.node Tree.leaf (some (Thing.row [Value.slice (some { block := 10, off := 0 }) 1 1, Value.slice (some { block := 13, off := 0 }) 1 1] 38)) Tree.leaf) (some (Thing.row [Value.slice (some { block := 2, off := 0 }) 1 1, Value.slice (some { block := 5, off := 0 }) 1 1] 38)) Tree.leaf) (some (Thing.row [Value.slice (some { block := 2, off := 0 }) 1 1] 38)) (Tree.node (Tree.node Tree.leaf (some (Thing.row [Value.int IntKind.i64 0, Value.int IntKind.i64 0, Value.int IntKind.i64 1, Value.int IntKind.i64 0, Value.int IntKind.i64 price, Value.int IntKind.i64 qty, Value.int IntKind.i64 0, Value.int IntKind.i64 0] 30)) Tree.leaf) (some (Thing.row [Value.slice (some { block := 10, off := 0 }) 1 1] 38)) Tree.leaf)) (some (Thing.row [Value.slice (some { block := 7, off := 0, spot := some 1 }) 2 2, Value.slice (some { block := 0, off := 0 }) 2 2] 41)) (Tree.node (Tree.node (Tree.node Tree.leaf (some (Thing.row [Value.int IntKind.i64 0, Value.int IntKind.i64 0, Value.int IntKind.i64 1, Value.int IntKind.i64 0, Value.int IntKind.i64 price, Value.int IntKind.i64 qty, Value.int IntKind.i64 0, Value.int IntKind.i64 0] 30)) Tree.leaf) (some (Thing.row [Value.slice (some { block := 15, off := 0, spot := some 1 }) 2 2, Value.slice (some { block := 8, off := 0 }) 2 2] 43)) Tree.leaf) (some (Thing.row [Value.int IntKind.i64 (keep (b1 + qty))] 2)) (Tree.node Tree.leaf (some (Thing.row [Value.int IntKind.i64 (keep (b1 + qty))] 2)) Tree.leaf))) (some (Thing.row [Value.int IntKind.i64 (keep (c0 + keep (price * qty))), Value.int IntKind.i64 (keep (c1 - keep (price * qty)))] 2)) (Tree.node (Tree.node (Tree.node (Tree.node Tree.leaf (some (Thing.row [Value.int IntKind.i64 0, Value.int IntKind.i64 0, Value.int IntKind.i64 1, Value.int IntKind.i64 0, Value.int IntKind.i64 price, Value.int IntKind.i64 qty, Value.int IntKind.i64 0, Value.int IntKind.i64 0] 30)) Tree.leaf) (some (Thing.row [Value.int IntKind.i64 (keep (c0 + keep (price * qty))), Value.int IntKind.i64 (keep (c1 - keep (price * qty)))] 2)) Tree.leaf) none (Tree.node (Tree.node Tree.leaf (some (Thing.row [Value.int IntKind.u64 (price * qty / 18446744073709551616), Value.int IntKind.u64 (price * qty % 18446744073709551616)] 47)) Tree.leaf) none Tree.leaf)) (some (Thing.row [Value.int IntKind.i64 (keep (b0 - qty))] 2)) (Tree.node (Tree.node (Tree.node Tree.leaf (some (Thing.row [Value.int IntKind.u64 (price * qty / 18446744073709551616), Value.int IntKind.u64 (price * qty % 18446744073709551616)] 47)) Tree.leaf) (some (Thing.row [Value.int IntKind.i64 (keep (b0 - qty))] 2)) Tree.leaf) (some (Thing.row [Value.slice (some { block := 5, off := 0 }) 1 1] 38)) (Tree.node Tree.leaf (some (Thing.row [Value.slice (some { block := 13, off := 0 }) 1 1] 38)) Tree.leaf))) }) hmix hX (by kernel_rfl) (by kernel_rfl) (of_decide_eq_true (by kernel_rfl)) (by kernel_rfl) (by kernel_rfl) (by kernel_rfl) ?_
                  refine OD.as (Value.bool (keep (b1 + qty) != keep (b1 + qty))) (Value.bool false) (by kernel_rfl) (of_decide_eq_true (by kernel_rfl)) (by kernel_rfl) (congrArg Value.bool (bne_eq_false_iff_eq.2 rfl)) ?_
                  refine OD.run 15 (by kernel_rfl) ?_
                  refine OD.done (of_decide_eq_true (by kernel_rfl)) ?_
                  refine then_n (by kernel_rfl) ?_
                  refine Det.condF (by kernel_rfl) (false) (by kernel_rfl) rfl ?_
                  refine Det.skipA (by kernel_rfl) ?_
                  refine then_n (by kernel_rfl) ?_
                  refine Det.opsA (by kernel_rfl) hX ?_
                  refine OD.run 1 (by kernel_rfl) ?_
                  refine OD.as (Value.int IntKind.i64 (IntKind.wrap IntKind.i64 ((↑j : Int) + 1))) (Value.int IntKind.i64 ((↑j : Int) + 1)) (by kernel_rfl) (of_decide_eq_true (by kernel_rfl)) (by kernel_rfl) (congrArg _ (by (rw [IntKind.wrap_i64]; omega))) ?_
                  refine OD.run 1 (by kernel_rfl) ?_
                  refine OD.done (of_decide_eq_true (by kernel_rfl)) ?_
                  refine then_n (by kernel_rfl) ?_
                  exact ⟨(j + 1, keep (c0 + keep (price * qty)), keep (c1 - keep (price * qty)), keep (b0 - qty), keep (b1 + qty)), ⟨(show j + 1 ≤ 5 by omega), keep_bounds _, keep_bounds _, keep_bounds _, keep_bounds _⟩, (show 5 - (j + 1) < 5 - j by omega), by kernel_rfl, by kernel_rfl⟩
                · refine Det.condT (by kernel_rfl) (!inR (c0 + keep (price * qty))) (by kernel_rfl) (not_t (by exact c113)) ?_
                  refine Det.seqA (by kernel_rfl) ?_
                  refine Det.opsA (by kernel_rfl) hX ?_
                  refine OD.run 1 (by kernel_rfl) ?_
                  refine OD.done (of_decide_eq_true (by kernel_rfl)) ?_
                  refine then_n (by kernel_rfl) ?_
                  refine Det.retA (by kernel_rfl) ?_
                  refine then_r (by kernel_rfl) ?_
                  refine fin_r (Value.int IntKind.i64 15) (by kernel_rfl) (by kernel_rfl) ?_
                  refine OD.run 1 (by kernel_rfl) ?_
                  refine OD.done (of_decide_eq_true (by kernel_rfl)) ?_
                  refine then_n (by kernel_rfl) ?_
                  refine Det.seqA (by kernel_rfl) ?_
                  refine Det.opsA (by kernel_rfl) hX ?_
                  refine OD.run 3 (by kernel_rfl) ?_
                  refine OD.callIn 10 ([Value.pointer (some { block := 9, off := 0 }), Value.agg #[Value.int IntKind.i64 0, Value.int IntKind.i64 0, Value.int IntKind.i64 1, Value.int IntKind.i64 0, Value.int IntKind.i64 price, Value.int IntKind.i64 qty, Value.int IntKind.i64 0, Value.int IntKind.i64 0]]) (by kernel_rfl) (of_decide_eq_true (by kernel_rfl)) (by kernel_rfl) (by kernel_rfl) (by kernel_rfl) ?_
                  refine Det.enter Try.func10 (by kernel_rfl) (of_decide_eq_true (by kernel_rfl)) ?_
                  refine Det.seqA (by kernel_rfl) ?_
                  refine Det.opsA (by kernel_rfl) hX ?_
                  refine OD.run 2 (by kernel_rfl) ?_
                  refine OD.done (of_decide_eq_true (by kernel_rfl)) ?_
                  refine then_n (by kernel_rfl) ?_
                  refine Det.seqA (by kernel_rfl) ?_
                  refine Det.seqA (by kernel_rfl) ?_
                  refine Det.drawA (by kernel_rfl) hmix hX (by kernel_rfl) (by kernel_rfl) ?_
                  refine OD.run 3 (by kernel_rfl) ?_
                  refine OD.callEv 100 21 ([Value.pointer (some { block := 9, off := 0 }), Value.int IntKind.i64 1]) (Value.bool true) ({ next := 20, tree := Tree.node (Tree.node (Tree.node (Tree.node (Tree.node Tree.leaf (some (Thing.row [Value.slice (some { block := 10, off := 0 }) 1 1, Value.slice (some { block := 13, off := 0 }) 1 1] 38)) Tree.leaf) (some (Thing.row [Value.slice (some { block := 2, off := 0 }) 1 1, Value.slice (some { block := 5, off := 0 }) 1 1] 38)) Tree.leaf) (some (Thing.row [Value.slice (some { block := 2, off := 0 }) 1 1] 38)) (Tree.node (Tree.node Tree.leaf (some (Thing.row [Value.int IntKind.i64 0, Value.int IntKind.i64 0, Value.int IntKind.i64 1, Value.int IntKind.i64 0, Value.int IntKind.i64 price, Value.int IntKind.i64 qty, Value.int IntKind.i64 0, Value.int IntKind.i64 0] 30)) Tree.leaf) (some (Thing.row [Value.slice (some { block := 10, off := 0 }) 1 1] 38)) Tree.leaf)) (some (Thing.row [Value.slice (some { block := 7, off := 0, spot := some 1 }) 2 2, Value.slice (some { block := 0, off := 0 }) 2 2] 41)) (Tree.node (Tree.node (Tree.node Tree.leaf (some (Thing.row [Value.int IntKind.i64 0, Value.int IntKind.i64 0, Value.int IntKind.i64 1, Value.int IntKind.i64 0, Value.int IntKind.i64 price, Value.int IntKind.i64 qty, Value.int IntKind.i64 0, Value.int IntKind.i64 0] 30)) Tree.leaf) (some (Thing.row [Value.slice (some { block := 15, off := 0, spot := some 1 }) 2 2, Value.slice (some { block := 8, off := 0 }) 2 2] 43)) Tree.leaf) (some (Thing.row [Value.int IntKind.i64 b1] 2)) (Tree.node Tree.leaf (some (Thing.row [Value.int IntKind.i64 b1] 2)) Tree.leaf))) (some (Thing.row [Value.int IntKind.i64 c0, Value.int IntKind.i64 c1] 2)) (Tree.node (Tree.node (Tree.node (Tree.node Tree.leaf (some (Thing.row [Value.int IntKind.i64 0, Value.int IntKind.i64 0, Value.int IntKind.i64 1, Value.int IntKind.i64 0, Value.int IntKind.i64 price, Value.int IntKind.i64 qty, Value.int IntKind.i64 0, Value.int IntKind.i64 0] 30)) Tree.leaf) (some (Thing.row [Value.int IntKind.i64 c0, Value.int IntKind.i64 c1] 2)) Tree.leaf) none (Tree.node Tree.leaf none Tree.leaf)) (some (Thing.row [Value.int IntKind.i64 b0] 2)) (Tree.node (Tree.node (Tree.node Tree.leaf (some (Thing.row [Value.int IntKind.u64 (price * qty / 18446744073709551616), Value.int IntKind.u64 (price * qty % 18446744073709551616)] 47)) Tree.leaf) (some (Thing.row [Value.int IntKind.i64 b0] 2)) Tree.leaf) (some (Thing.row [Value.slice (some { block := 5, off := 0 }) 1 1] 38)) (Tree.node Tree.leaf (some (Thing.row [Value.slice (some { block := 13, off := 0 }) 1 1] 38)) Tree.leaf))) }) hmix hX (by kernel_rfl) (by kernel_rfl) (of_decide_eq_true (by kernel_rfl)) (by kernel_rfl) (by kernel_rfl) (by kernel_rfl) ?_
                  refine OD.run 5 (by kernel_rfl) ?_
                  refine OD.callEv 100 21 ([Value.pointer (some { block := 9, off := 0 }), Value.int IntKind.i64 0]) (Value.bool true) ({ next := 20, tree := Tree.node (Tree.node (Tree.node (Tree.node (Tree.node Tree.leaf (some (Thing.row [Value.slice (some { block := 10, off := 0 }) 1 1, Value.slice (some { block := 13, off := 0 }) 1 1] 38)) Tree.leaf) (some (Thing.row [Value.slice (some { block := 2, off := 0 }) 1 1, Value.slice (some { block := 5, off := 0 }) 1 1] 38)) Tree.leaf) (some (Thing.row [Value.slice (some { block := 2, off := 0 }) 1 1] 38)) (Tree.node (Tree.node Tree.leaf (some (Thing.row [Value.int IntKind.i64 0, Value.int IntKind.i64 0, Value.int IntKind.i64 1, Value.int IntKind.i64 0, Value.int IntKind.i64 price, Value.int IntKind.i64 qty, Value.int IntKind.i64 0, Value.int IntKind.i64 0] 30)) Tree.leaf) (some (Thing.row [Value.slice (some { block := 10, off := 0 }) 1 1] 38)) Tree.leaf)) (some (Thing.row [Value.slice (some { block := 7, off := 0, spot := some 1 }) 2 2, Value.slice (some { block := 0, off := 0 }) 2 2] 41)) (Tree.node (Tree.node (Tree.node Tree.leaf (some (Thing.row [Value.int IntKind.i64 0, Value.int IntKind.i64 0, Value.int IntKind.i64 1, Value.int IntKind.i64 0, Value.int IntKind.i64 price, Value.int IntKind.i64 qty, Value.int IntKind.i64 0, Value.int IntKind.i64 0] 30)) Tree.leaf) (some (Thing.row [Value.slice (some { block := 15, off := 0, spot := some 1 }) 2 2, Value.slice (some { block := 8, off := 0 }) 2 2] 43)) Tree.leaf) (some (Thing.row [Value.int IntKind.i64 b1] 2)) (Tree.node Tree.leaf (some (Thing.row [Value.int IntKind.i64 b1] 2)) Tree.leaf))) (some (Thing.row [Value.int IntKind.i64 c0, Value.int IntKind.i64 c1] 2)) (Tree.node (Tree.node (Tree.node (Tree.node Tree.leaf (some (Thing.row [Value.int IntKind.i64 0, Value.int IntKind.i64 0, Value.int IntKind.i64 1, Value.int IntKind.i64 0, Value.int IntKind.i64 price, Value.int IntKind.i64 qty, Value.int IntKind.i64 0, Value.int IntKind.i64 0] 30)) Tree.leaf) (some (Thing.row [Value.int IntKind.i64 c0, Value.int IntKind.i64 c1] 2)) Tree.leaf) none (Tree.node Tree.leaf none Tree.leaf)) (some (Thing.row [Value.int IntKind.i64 b0] 2)) (Tree.node (Tree.node (Tree.node Tree.leaf (some (Thing.row [Value.int IntKind.u64 (price * qty / 18446744073709551616), Value.int IntKind.u64 (price * qty % 18446744073709551616)] 47)) Tree.leaf) (some (Thing.row [Value.int IntKind.i64 b0] 2)) Tree.leaf) (some (Thing.row [Value.slice (some { block := 5, off := 0 }) 1 1] 38)) (Tree.node Tree.leaf (some (Thing.row [Value.slice (some { block := 13, off := 0 }) 1 1] 38)) Tree.leaf))) }) hmix hX (by kernel_rfl) (by kernel_rfl) (of_decide_eq_true (by kernel_rfl)) (by kernel_rfl) (by kernel_rfl) (by kernel_rfl) ?_
                  refine OD.run 29 (by kernel_rfl) ?_
                  refine OD.as (Value.bool (decide (price < 1))) (Value.bool false) (by kernel_rfl) (of_decide_eq_true (by kernel_rfl)) (by kernel_rfl) (congrArg Value.bool (decide_eq_false (by exact h1))) ?_
                  refine OD.run 4 (by kernel_rfl) ?_
                  refine OD.as (Value.bool (decide (qty < 1))) (Value.bool false) (by kernel_rfl) (of_decide_eq_true (by kernel_rfl)) (by kernel_rfl) (congrArg Value.bool (decide_eq_false (by exact h2))) ?_
                  refine OD.run 1 (by kernel_rfl) ?_
                  refine OD.done (of_decide_eq_true (by kernel_rfl)) ?_
                  refine then_n (by kernel_rfl) ?_
                  refine Det.condF (by kernel_rfl) (false) (by kernel_rfl) rfl ?_
                  refine Det.skipA (by kernel_rfl) ?_
                  refine then_n (by kernel_rfl) ?_
                  refine Det.seqA (by kernel_rfl) ?_
                  refine Det.opsA (by kernel_rfl) hX ?_
                  refine OD.run 4 (by kernel_rfl) ?_
                  refine OD.callEq 22 ([Value.int IntKind.i64 price, Value.int IntKind.i64 qty]) (ref_Times _ _ (by omega) hA (by omega) hB _) (by kernel_rfl) (of_decide_eq_true (by kernel_rfl)) (by kernel_rfl) (by kernel_rfl) (by kernel_rfl) ?_
                  refine OD.run 6 (by kernel_rfl) ?_
                  refine OD.done (of_decide_eq_true (by kernel_rfl)) ?_
                  refine then_n (by kernel_rfl) ?_
                  refine Det.seqA (by kernel_rfl) ?_
                  refine Det.opsA (by kernel_rfl) hX ?_
                  refine OD.run 1 (by kernel_rfl) ?_
                  refine OD.callEq 23 ([Value.agg #[Value.int IntKind.u64 (price * qty / 18446744073709551616), Value.int IntKind.u64 (price * qty % 18446744073709551616)]]) (ref_Narrow _ hp _) (by kernel_rfl) (of_decide_eq_true (by kernel_rfl)) (by kernel_rfl) (by kernel_rfl) (by kernel_rfl) ?_
                  refine OD.run 2 (by kernel_rfl) ?_
                  refine OD.as (Value.bool (inR (price * qty))) (Value.bool true) (by kernel_rfl) (of_decide_eq_true (by kernel_rfl)) (by kernel_rfl) (congrArg Value.bool (by exact c100)) ?_
                  refine OD.run 2 (by kernel_rfl) ?_
                  refine OD.done (of_decide_eq_true (by kernel_rfl)) ?_
                  refine then_n (by kernel_rfl) ?_
                  refine Det.seqA (by kernel_rfl) ?_
                  refine Det.drawA (by kernel_rfl) hmix hX (by kernel_rfl) (by kernel_rfl) ?_
                  refine OD.run 14 (by kernel_rfl) ?_
                  refine OD.callEq 24 ([Value.int IntKind.i64 b1, Value.int IntKind.i64 qty]) (ref_Add _ _ (by omega) (by omega) (by omega) (by omega) _) (by kernel_rfl) (of_decide_eq_true (by kernel_rfl)) (by kernel_rfl) (by kernel_rfl) (by kernel_rfl) ?_
                  refine OD.run 2 (by kernel_rfl) ?_
                  refine OD.as (Value.bool (inR (b1 + qty))) (Value.bool true) (by kernel_rfl) (of_decide_eq_true (by kernel_rfl)) (by kernel_rfl) (congrArg Value.bool (by exact c103)) ?_
                  refine OD.run 2 (by kernel_rfl) ?_
                  refine OD.done (of_decide_eq_true (by kernel_rfl)) ?_
                  refine then_n (by kernel_rfl) ?_
                  refine Det.seqA (by kernel_rfl) ?_
                  refine Det.drawA (by kernel_rfl) hmix hX (by kernel_rfl) (by kernel_rfl) ?_
                  refine OD.run 14 (by kernel_rfl) ?_
                  refine OD.callEq 25 ([Value.int IntKind.i64 b0, Value.int IntKind.i64 qty]) (ref_Sub _ _ (by omega) (by omega) (by omega) (by omega) _) (by kernel_rfl) (of_decide_eq_true (by kernel_rfl)) (by kernel_rfl) (by kernel_rfl) (by kernel_rfl) ?_
                  refine OD.run 2 (by kernel_rfl) ?_
                  refine OD.as (Value.bool (inR (b0 - qty))) (Value.bool true) (by kernel_rfl) (of_decide_eq_true (by kernel_rfl)) (by kernel_rfl) (congrArg Value.bool (by exact c106)) ?_
                  refine OD.run 2 (by kernel_rfl) ?_
                  refine OD.done (of_decide_eq_true (by kernel_rfl)) ?_
                  refine then_n (by kernel_rfl) ?_
                  refine Det.seqA (by kernel_rfl) ?_
                  refine Det.drawA (by kernel_rfl) hmix hX (by kernel_rfl) (by kernel_rfl) ?_
                  refine OD.run 9 (by kernel_rfl) ?_
                  refine OD.callEq 25 ([Value.int IntKind.i64 c1, Value.int IntKind.i64 (keep (price * qty))]) (ref_Sub _ _ (by omega) (by omega) (by omega) (by omega) _) (by kernel_rfl) (of_decide_eq_true (by kernel_rfl)) (by kernel_rfl) (by kernel_rfl) (by kernel_rfl) ?_
                  refine OD.run 2 (by kernel_rfl) ?_
                  refine OD.as (Value.bool (inR (c1 - keep (price * qty)))) (Value.bool true) (by kernel_rfl) (of_decide_eq_true (by kernel_rfl)) (by kernel_rfl) (congrArg Value.bool (by exact c109)) ?_
                  refine OD.run 2 (by kernel_rfl) ?_
                  refine OD.done (of_decide_eq_true (by kernel_rfl)) ?_
                  refine then_n (by kernel_rfl) ?_
                  refine Det.seqA (by kernel_rfl) ?_
                  refine Det.drawA (by kernel_rfl) hmix hX (by kernel_rfl) (by kernel_rfl) ?_
                  refine OD.run 9 (by kernel_rfl) ?_
                  refine OD.callEq 24 ([Value.int IntKind.i64 c0, Value.int IntKind.i64 (keep (price * qty))]) (ref_Add _ _ (by omega) (by omega) (by omega) (by omega) _) (by kernel_rfl) (of_decide_eq_true (by kernel_rfl)) (by kernel_rfl) (by kernel_rfl) (by kernel_rfl) ?_
                  refine OD.run 2 (by kernel_rfl) ?_
                  refine OD.as (Value.bool (inR (c0 + keep (price * qty)))) (Value.bool false) (by kernel_rfl) (of_decide_eq_true (by kernel_rfl)) (by kernel_rfl) (congrArg Value.bool (by exact c113)) ?_
                  refine OD.run 2 (by kernel_rfl) ?_
                  refine OD.done (of_decide_eq_true (by kernel_rfl)) ?_
                  refine then_n (by kernel_rfl) ?_
                  refine Det.seqA (by kernel_rfl) ?_
                  refine Det.seqA (by kernel_rfl) ?_
                  refine Det.opsA (by kernel_rfl) hX ?_
                  refine OD.run 18 (by kernel_rfl) ?_
                  refine OD.done (of_decide_eq_true (by kernel_rfl)) ?_
                  refine then_n (by kernel_rfl) ?_
                  refine Det.condT (by kernel_rfl) (true) (by kernel_rfl) rfl ?_
                  refine Det.seqA (by kernel_rfl) ?_
                  refine Det.opsA (by kernel_rfl) hX ?_
                  refine OD.run 1 (by kernel_rfl) ?_
                  refine OD.done (of_decide_eq_true (by kernel_rfl)) ?_
                  refine then_n (by kernel_rfl) ?_
                  refine Det.retA (by kernel_rfl) ?_
                  refine then_r (by kernel_rfl) ?_
                  refine fin_r (Value.int IntKind.i64 15) (by kernel_rfl) (by kernel_rfl) ?_
                  refine OD.run 3 (by kernel_rfl) ?_
                  refine OD.callEv 100 13 ([Value.pointer (some { block := 1, off := 0 }), Value.int IntKind.i64 0]) (Value.int IntKind.i64 c0) ({ next := 21, tree := Tree.node (Tree.node (Tree.node (Tree.node (Tree.node Tree.leaf (some (Thing.row [Value.slice (some { block := 10, off := 0 }) 1 1, Value.slice (some { block := 13, off := 0 }) 1 1] 38)) Tree.leaf) (some (Thing.row [Value.slice (some { block := 2, off := 0 }) 1 1, Value.slice (some { block := 5, off := 0 }) 1 1] 38)) Tree.leaf) (some (Thing.row [Value.slice (some { block := 2, off := 0 }) 1 1] 38)) (Tree.node (Tree.node Tree.leaf (some (Thing.row [Value.int IntKind.i64 0, Value.int IntKind.i64 0, Value.int IntKind.i64 1, Value.int IntKind.i64 0, Value.int IntKind.i64 price, Value.int IntKind.i64 qty, Value.int IntKind.i64 0, Value.int IntKind.i64 0] 30)) Tree.leaf) (some (Thing.row [Value.slice (some { block := 10, off := 0 }) 1 1] 38)) Tree.leaf)) (some (Thing.row [Value.slice (some { block := 7, off := 0, spot := some 1 }) 2 2, Value.slice (some { block := 0, off := 0 }) 2 2] 41)) (Tree.node (Tree.node (Tree.node Tree.leaf (some (Thing.row [Value.int IntKind.i64 0, Value.int IntKind.i64 0, Value.int IntKind.i64 1, Value.int IntKind.i64 0, Value.int IntKind.i64 price, Value.int IntKind.i64 qty, Value.int IntKind.i64 0, Value.int IntKind.i64 0] 30)) Tree.leaf) (some (Thing.row [Value.slice (some { block := 15, off := 0, spot := some 1 }) 2 2, Value.slice (some { block := 8, off := 0 }) 2 2] 43)) Tree.leaf) (some (Thing.row [Value.int IntKind.i64 b1] 2)) (Tree.node Tree.leaf (some (Thing.row [Value.int IntKind.i64 b1] 2)) Tree.leaf))) (some (Thing.row [Value.int IntKind.i64 c0, Value.int IntKind.i64 c1] 2)) (Tree.node (Tree.node (Tree.node (Tree.node Tree.leaf (some (Thing.row [Value.int IntKind.i64 0, Value.int IntKind.i64 0, Value.int IntKind.i64 1, Value.int IntKind.i64 0, Value.int IntKind.i64 price, Value.int IntKind.i64 qty, Value.int IntKind.i64 0, Value.int IntKind.i64 0] 30)) Tree.leaf) (some (Thing.row [Value.int IntKind.i64 c0, Value.int IntKind.i64 c1] 2)) Tree.leaf) none (Tree.node (Tree.node Tree.leaf (some (Thing.row [Value.int IntKind.u64 (price * qty / 18446744073709551616), Value.int IntKind.u64 (price * qty % 18446744073709551616)] 47)) Tree.leaf) none Tree.leaf)) (some (Thing.row [Value.int IntKind.i64 b0] 2)) (Tree.node (Tree.node (Tree.node Tree.leaf (some (Thing.row [Value.int IntKind.u64 (price * qty / 18446744073709551616), Value.int IntKind.u64 (price * qty % 18446744073709551616)] 47)) Tree.leaf) (some (Thing.row [Value.int IntKind.i64 b0] 2)) Tree.leaf) (some (Thing.row [Value.slice (some { block := 5, off := 0 }) 1 1] 38)) (Tree.node Tree.leaf (some (Thing.row [Value.slice (some { block := 13, off := 0 }) 1 1] 38)) Tree.leaf))) }) hmix hX (by kernel_rfl) (by kernel_rfl) (of_decide_eq_true (by kernel_rfl)) (by kernel_rfl) (by kernel_rfl) (by kernel_rfl) ?_
                  refine OD.run 1 (by kernel_rfl) ?_
                  refine OD.callEv 100 14 ([Value.pointer (some { block := 9, off := 0 }), Value.int IntKind.i64 0]) (Value.int IntKind.i64 c0) ({ next := 21, tree := Tree.node (Tree.node (Tree.node (Tree.node (Tree.node Tree.leaf (some (Thing.row [Value.slice (some { block := 10, off := 0 }) 1 1, Value.slice (some { block := 13, off := 0 }) 1 1] 38)) Tree.leaf) (some (Thing.row [Value.slice (some { block := 2, off := 0 }) 1 1, Value.slice (some { block := 5, off := 0 }) 1 1] 38)) Tree.leaf) (some (Thing.row [Value.slice (some { block := 2, off := 0 }) 1 1] 38)) (Tree.node (Tree.node Tree.leaf (some (Thing.row [Value.int IntKind.i64 0, Value.int IntKind.i64 0, Value.int IntKind.i64 1, Value.int IntKind.i64 0, Value.int IntKind.i64 price, Value.int IntKind.i64 qty, Value.int IntKind.i64 0, Value.int IntKind.i64 0] 30)) Tree.leaf) (some (Thing.row [Value.slice (some { block := 10, off := 0 }) 1 1] 38)) Tree.leaf)) (some (Thing.row [Value.slice (some { block := 7, off := 0, spot := some 1 }) 2 2, Value.slice (some { block := 0, off := 0 }) 2 2] 41)) (Tree.node (Tree.node (Tree.node Tree.leaf (some (Thing.row [Value.int IntKind.i64 0, Value.int IntKind.i64 0, Value.int IntKind.i64 1, Value.int IntKind.i64 0, Value.int IntKind.i64 price, Value.int IntKind.i64 qty, Value.int IntKind.i64 0, Value.int IntKind.i64 0] 30)) Tree.leaf) (some (Thing.row [Value.slice (some { block := 15, off := 0, spot := some 1 }) 2 2, Value.slice (some { block := 8, off := 0 }) 2 2] 43)) Tree.leaf) (some (Thing.row [Value.int IntKind.i64 b1] 2)) (Tree.node Tree.leaf (some (Thing.row [Value.int IntKind.i64 b1] 2)) Tree.leaf))) (some (Thing.row [Value.int IntKind.i64 c0, Value.int IntKind.i64 c1] 2)) (Tree.node (Tree.node (Tree.node (Tree.node Tree.leaf (some (Thing.row [Value.int IntKind.i64 0, Value.int IntKind.i64 0, Value.int IntKind.i64 1, Value.int IntKind.i64 0, Value.int IntKind.i64 price, Value.int IntKind.i64 qty, Value.int IntKind.i64 0, Value.int IntKind.i64 0] 30)) Tree.leaf) (some (Thing.row [Value.int IntKind.i64 c0, Value.int IntKind.i64 c1] 2)) Tree.leaf) none (Tree.node (Tree.node Tree.leaf (some (Thing.row [Value.int IntKind.u64 (price * qty / 18446744073709551616), Value.int IntKind.u64 (price * qty % 18446744073709551616)] 47)) Tree.leaf) none Tree.leaf)) (some (Thing.row [Value.int IntKind.i64 b0] 2)) (Tree.node (Tree.node (Tree.node Tree.leaf (some (Thing.row [Value.int IntKind.u64 (price * qty / 18446744073709551616), Value.int IntKind.u64 (price * qty % 18446744073709551616)] 47)) Tree.leaf) (some (Thing.row [Value.int IntKind.i64 b0] 2)) Tree.leaf) (some (Thing.row [Value.slice (some { block := 5, off := 0 }) 1 1] 38)) (Tree.node Tree.leaf (some (Thing.row [Value.slice (some { block := 13, off := 0 }) 1 1] 38)) Tree.leaf))) }) hmix hX (by kernel_rfl) (by kernel_rfl) (of_decide_eq_true (by kernel_rfl)) (by kernel_rfl) (by kernel_rfl) (by kernel_rfl) ?_
                  refine OD.as (Value.bool (c0 != c0)) (Value.bool false) (by kernel_rfl) (of_decide_eq_true (by kernel_rfl)) (by kernel_rfl) (congrArg Value.bool (bne_eq_false_iff_eq.2 rfl)) ?_
                  refine OD.run 3 (by kernel_rfl) ?_
                  refine OD.callEv 100 11 ([Value.pointer (some { block := 1, off := 0 }), Value.int IntKind.i64 1, Value.int IntKind.i64 0]) (Value.int IntKind.i64 b1) ({ next := 21, tree := Tree.node (Tree.node (Tree.node (Tree.node (Tree.node Tree.leaf (some (Thing.row [Value.slice (some { block := 10, off := 0 }) 1 1, Value.slice (some { block := 13, off := 0 }) 1 1] 38)) Tree.leaf) (some (Thing.row [Value.slice (some { block := 2, off := 0 }) 1 1, Value.slice (some { block := 5, off := 0 }) 1 1] 38)) Tree.leaf) (some (Thing.row [Value.slice (some { block := 2, off := 0 }) 1 1] 38)) (Tree.node (Tree.node Tree.leaf (some (Thing.row [Value.int IntKind.i64 0, Value.int IntKind.i64 0, Value.int IntKind.i64 1, Value.int IntKind.i64 0, Value.int IntKind.i64 price, Value.int IntKind.i64 qty, Value.int IntKind.i64 0, Value.int IntKind.i64 0] 30)) Tree.leaf) (some (Thing.row [Value.slice (some { block := 10, off := 0 }) 1 1] 38)) Tree.leaf)) (some (Thing.row [Value.slice (some { block := 7, off := 0, spot := some 1 }) 2 2, Value.slice (some { block := 0, off := 0 }) 2 2] 41)) (Tree.node (Tree.node (Tree.node Tree.leaf (some (Thing.row [Value.int IntKind.i64 0, Value.int IntKind.i64 0, Value.int IntKind.i64 1, Value.int IntKind.i64 0, Value.int IntKind.i64 price, Value.int IntKind.i64 qty, Value.int IntKind.i64 0, Value.int IntKind.i64 0] 30)) Tree.leaf) (some (Thing.row [Value.slice (some { block := 15, off := 0, spot := some 1 }) 2 2, Value.slice (some { block := 8, off := 0 }) 2 2] 43)) Tree.leaf) (some (Thing.row [Value.int IntKind.i64 b1] 2)) (Tree.node Tree.leaf (some (Thing.row [Value.int IntKind.i64 b1] 2)) Tree.leaf))) (some (Thing.row [Value.int IntKind.i64 c0, Value.int IntKind.i64 c1] 2)) (Tree.node (Tree.node (Tree.node (Tree.node Tree.leaf (some (Thing.row [Value.int IntKind.i64 0, Value.int IntKind.i64 0, Value.int IntKind.i64 1, Value.int IntKind.i64 0, Value.int IntKind.i64 price, Value.int IntKind.i64 qty, Value.int IntKind.i64 0, Value.int IntKind.i64 0] 30)) Tree.leaf) (some (Thing.row [Value.int IntKind.i64 c0, Value.int IntKind.i64 c1] 2)) Tree.leaf) none (Tree.node (Tree.node Tree.leaf (some (Thing.row [Value.int IntKind.u64 (price * qty / 18446744073709551616), Value.int IntKind.u64 (price * qty % 18446744073709551616)] 47)) Tree.leaf) none Tree.leaf)) (some (Thing.row [Value.int IntKind.i64 b0] 2)) (Tree.node (Tree.node (Tree.node Tree.leaf (some (Thing.row [Value.int IntKind.u64 (price * qty / 18446744073709551616), Value.int IntKind.u64 (price * qty % 18446744073709551616)] 47)) Tree.leaf) (some (Thing.row [Value.int IntKind.i64 b0] 2)) Tree.leaf) (some (Thing.row [Value.slice (some { block := 5, off := 0 }) 1 1] 38)) (Tree.node Tree.leaf (some (Thing.row [Value.slice (some { block := 13, off := 0 }) 1 1] 38)) Tree.leaf))) }) hmix hX (by kernel_rfl) (by kernel_rfl) (of_decide_eq_true (by kernel_rfl)) (by kernel_rfl) (by kernel_rfl) (by kernel_rfl) ?_
                  refine OD.run 1 (by kernel_rfl) ?_
                  refine OD.callEv 100 12 ([Value.pointer (some { block := 9, off := 0 }), Value.int IntKind.i64 1, Value.int IntKind.i64 0]) (Value.int IntKind.i64 b1) ({ next := 21, tree := Tree.node (Tree.node (Tree.node (Tree.node (Tree.node Tree.leaf (some (Thing.row [Value.slice (some { block := 10, off := 0 }) 1 1, Value.slice (some { block := 13, off := 0 }) 1 1] 38)) Tree.leaf) (some (Thing.row [Value.slice (some { block := 2, off := 0 }) 1 1, Value.slice (some { block := 5, off := 0 }) 1 1] 38)) Tree.leaf) (some (Thing.row [Value.slice (some { block := 2, off := 0 }) 1 1] 38)) (Tree.node (Tree.node Tree.leaf (some (Thing.row [Value.int IntKind.i64 0, Value.int IntKind.i64 0, Value.int IntKind.i64 1, Value.int IntKind.i64 0, Value.int IntKind.i64 price, Value.int IntKind.i64 qty, Value.int IntKind.i64 0, Value.int IntKind.i64 0] 30)) Tree.leaf) (some (Thing.row [Value.slice (some { block := 10, off := 0 }) 1 1] 38)) Tree.leaf)) (some (Thing.row [Value.slice (some { block := 7, off := 0, spot := some 1 }) 2 2, Value.slice (some { block := 0, off := 0 }) 2 2] 41)) (Tree.node (Tree.node (Tree.node Tree.leaf (some (Thing.row [Value.int IntKind.i64 0, Value.int IntKind.i64 0, Value.int IntKind.i64 1, Value.int IntKind.i64 0, Value.int IntKind.i64 price, Value.int IntKind.i64 qty, Value.int IntKind.i64 0, Value.int IntKind.i64 0] 30)) Tree.leaf) (some (Thing.row [Value.slice (some { block := 15, off := 0, spot := some 1 }) 2 2, Value.slice (some { block := 8, off := 0 }) 2 2] 43)) Tree.leaf) (some (Thing.row [Value.int IntKind.i64 b1] 2)) (Tree.node Tree.leaf (some (Thing.row [Value.int IntKind.i64 b1] 2)) Tree.leaf))) (some (Thing.row [Value.int IntKind.i64 c0, Value.int IntKind.i64 c1] 2)) (Tree.node (Tree.node (Tree.node (Tree.node Tree.leaf (some (Thing.row [Value.int IntKind.i64 0, Value.int IntKind.i64 0, Value.int IntKind.i64 1, Value.int IntKind.i64 0, Value.int IntKind.i64 price, Value.int IntKind.i64 qty, Value.int IntKind.i64 0, Value.int IntKind.i64 0] 30)) Tree.leaf) (some (Thing.row [Value.int IntKind.i64 c0, Value.int IntKind.i64 c1] 2)) Tree.leaf) none (Tree.node (Tree.node Tree.leaf (some (Thing.row [Value.int IntKind.u64 (price * qty / 18446744073709551616), Value.int IntKind.u64 (price * qty % 18446744073709551616)] 47)) Tree.leaf) none Tree.leaf)) (some (Thing.row [Value.int IntKind.i64 b0] 2)) (Tree.node (Tree.node (Tree.node Tree.leaf (some (Thing.row [Value.int IntKind.u64 (price * qty / 18446744073709551616), Value.int IntKind.u64 (price * qty % 18446744073709551616)] 47)) Tree.leaf) (some (Thing.row [Value.int IntKind.i64 b0] 2)) Tree.leaf) (some (Thing.row [Value.slice (some { block := 5, off := 0 }) 1 1] 38)) (Tree.node Tree.leaf (some (Thing.row [Value.slice (some { block := 13, off := 0 }) 1 1] 38)) Tree.leaf))) }) hmix hX (by kernel_rfl) (by kernel_rfl) (of_decide_eq_true (by kernel_rfl)) (by kernel_rfl) (by kernel_rfl) (by kernel_rfl) ?_
                  refine OD.as (Value.bool (b1 != b1)) (Value.bool false) (by kernel_rfl) (of_decide_eq_true (by kernel_rfl)) (by kernel_rfl) (congrArg Value.bool (bne_eq_false_iff_eq.2 rfl)) ?_
                  refine OD.run 9 (by kernel_rfl) ?_
                  refine OD.callEv 100 13 ([Value.pointer (some { block := 1, off := 0 }), Value.int IntKind.i64 0]) (Value.int IntKind.i64 c0) ({ next := 21, tree := Tree.node (Tree.node (Tree.node (Tree.node (Tree.node Tree.leaf (some (Thing.row [Value.slice (some { block := 10, off := 0 }) 1 1, Value.slice (some { block := 13, off := 0 }) 1 1] 38)) Tree.leaf) (some (Thing.row [Value.slice (some { block := 2, off := 0 }) 1 1, Value.slice (some { block := 5, off := 0 }) 1 1] 38)) Tree.leaf) (some (Thing.row [Value.slice (some { block := 2, off := 0 }) 1 1] 38)) (Tree.node (Tree.node Tree.leaf (some (Thing.row [Value.int IntKind.i64 0, Value.int IntKind.i64 0, Value.int IntKind.i64 1, Value.int IntKind.i64 0, Value.int IntKind.i64 price, Value.int IntKind.i64 qty, Value.int IntKind.i64 0, Value.int IntKind.i64 0] 30)) Tree.leaf) (some (Thing.row [Value.slice (some { block := 10, off := 0 }) 1 1] 38)) Tree.leaf)) (some (Thing.row [Value.slice (some { block := 7, off := 0, spot := some 1 }) 2 2, Value.slice (some { block := 0, off := 0 }) 2 2] 41)) (Tree.node (Tree.node (Tree.node Tree.leaf (some (Thing.row [Value.int IntKind.i64 0, Value.int IntKind.i64 0, Value.int IntKind.i64 1, Value.int IntKind.i64 0, Value.int IntKind.i64 price, Value.int IntKind.i64 qty, Value.int IntKind.i64 0, Value.int IntKind.i64 0] 30)) Tree.leaf) (some (Thing.row [Value.slice (some { block := 15, off := 0, spot := some 1 }) 2 2, Value.slice (some { block := 8, off := 0 }) 2 2] 43)) Tree.leaf) (some (Thing.row [Value.int IntKind.i64 b1] 2)) (Tree.node Tree.leaf (some (Thing.row [Value.int IntKind.i64 b1] 2)) Tree.leaf))) (some (Thing.row [Value.int IntKind.i64 c0, Value.int IntKind.i64 c1] 2)) (Tree.node (Tree.node (Tree.node (Tree.node Tree.leaf (some (Thing.row [Value.int IntKind.i64 0, Value.int IntKind.i64 0, Value.int IntKind.i64 1, Value.int IntKind.i64 0, Value.int IntKind.i64 price, Value.int IntKind.i64 qty, Value.int IntKind.i64 0, Value.int IntKind.i64 0] 30)) Tree.leaf) (some (Thing.row [Value.int IntKind.i64 c0, Value.int IntKind.i64 c1] 2)) Tree.leaf) none (Tree.node (Tree.node Tree.leaf (some (Thing.row [Value.int IntKind.u64 (price * qty / 18446744073709551616), Value.int IntKind.u64 (price * qty % 18446744073709551616)] 47)) Tree.leaf) none Tree.leaf)) (some (Thing.row [Value.int IntKind.i64 b0] 2)) (Tree.node (Tree.node (Tree.node Tree.leaf (some (Thing.row [Value.int IntKind.u64 (price * qty / 18446744073709551616), Value.int IntKind.u64 (price * qty % 18446744073709551616)] 47)) Tree.leaf) (some (Thing.row [Value.int IntKind.i64 b0] 2)) Tree.leaf) (some (Thing.row [Value.slice (some { block := 5, off := 0 }) 1 1] 38)) (Tree.node Tree.leaf (some (Thing.row [Value.slice (some { block := 13, off := 0 }) 1 1] 38)) Tree.leaf))) }) hmix hX (by kernel_rfl) (by kernel_rfl) (of_decide_eq_true (by kernel_rfl)) (by kernel_rfl) (by kernel_rfl) (by kernel_rfl) ?_
                  refine OD.run 1 (by kernel_rfl) ?_
                  refine OD.as (Value.bool (c0 != c0)) (Value.bool false) (by kernel_rfl) (of_decide_eq_true (by kernel_rfl)) (by kernel_rfl) (congrArg Value.bool (bne_eq_false_iff_eq.2 rfl)) ?_
                  refine OD.run 3 (by kernel_rfl) ?_
                  refine OD.done (of_decide_eq_true (by kernel_rfl)) ?_
                  refine then_n (by kernel_rfl) ?_
                  refine Det.condF (by kernel_rfl) (false) (by kernel_rfl) rfl ?_
                  refine Det.skipA (by kernel_rfl) ?_
                  refine then_n (by kernel_rfl) ?_
                  refine Det.opsA (by kernel_rfl) hX ?_
                  refine OD.run 1 (by kernel_rfl) ?_
                  refine OD.as (Value.int IntKind.i64 (IntKind.wrap IntKind.i64 ((↑j : Int) + 1))) (Value.int IntKind.i64 ((↑j : Int) + 1)) (by kernel_rfl) (of_decide_eq_true (by kernel_rfl)) (by kernel_rfl) (congrArg _ (by (rw [IntKind.wrap_i64]; omega))) ?_
                  refine OD.run 1 (by kernel_rfl) ?_
                  refine OD.done (of_decide_eq_true (by kernel_rfl)) ?_
                  refine then_n (by kernel_rfl) ?_
                  exact ⟨(j + 1, c0, c1, b0, b1), ⟨(show j + 1 ≤ 5 by omega), ⟨p1, p2⟩, ⟨p3, p4⟩, ⟨p5, p6⟩, ⟨p7, p8⟩⟩, (show 5 - (j + 1) < 5 - j by omega), by kernel_rfl, by kernel_rfl⟩
              · refine OD.as (Value.bool !inR (c1 - keep (price * qty))) (Value.bool true) (by kernel_rfl) (of_decide_eq_true (by kernel_rfl)) (by kernel_rfl) (congrArg Value.bool (not_t (by exact c109))) ?_
                refine OD.run 3 (by kernel_rfl) ?_
                refine OD.done (of_decide_eq_true (by kernel_rfl)) ?_
                refine then_n (by kernel_rfl) ?_
                refine Det.condT (by kernel_rfl) (true) (by kernel_rfl) rfl ?_
                refine Det.seqA (by kernel_rfl) ?_
                refine Det.opsA (by kernel_rfl) hX ?_
                refine OD.run 1 (by kernel_rfl) ?_
                refine OD.done (of_decide_eq_true (by kernel_rfl)) ?_
                refine then_n (by kernel_rfl) ?_
                refine Det.retA (by kernel_rfl) ?_
                refine then_r (by kernel_rfl) ?_
                refine fin_r (Value.int IntKind.i64 15) (by kernel_rfl) (by kernel_rfl) ?_
                refine OD.run 1 (by kernel_rfl) ?_
                refine OD.done (of_decide_eq_true (by kernel_rfl)) ?_
                refine then_n (by kernel_rfl) ?_
                refine Det.seqA (by kernel_rfl) ?_
                refine Det.opsA (by kernel_rfl) hX ?_
                refine OD.run 3 (by kernel_rfl) ?_
                refine OD.callIn 10 ([Value.pointer (some { block := 9, off := 0 }), Value.agg #[Value.int IntKind.i64 0, Value.int IntKind.i64 0, Value.int IntKind.i64 1, Value.int IntKind.i64 0, Value.int IntKind.i64 price, Value.int IntKind.i64 qty, Value.int IntKind.i64 0, Value.int IntKind.i64 0]]) (by kernel_rfl) (of_decide_eq_true (by kernel_rfl)) (by kernel_rfl) (by kernel_rfl) (by kernel_rfl) ?_
                refine Det.enter Try.func10 (by kernel_rfl) (of_decide_eq_true (by kernel_rfl)) ?_
                refine Det.seqA (by kernel_rfl) ?_
                refine Det.opsA (by kernel_rfl) hX ?_
                refine OD.run 2 (by kernel_rfl) ?_
                refine OD.done (of_decide_eq_true (by kernel_rfl)) ?_
                refine then_n (by kernel_rfl) ?_
                refine Det.seqA (by kernel_rfl) ?_
                refine Det.seqA (by kernel_rfl) ?_
                refine Det.drawA (by kernel_rfl) hmix hX (by kernel_rfl) (by kernel_rfl) ?_
                refine OD.run 3 (by kernel_rfl) ?_
                refine OD.callEv 100 21 ([Value.pointer (some { block := 9, off := 0 }), Value.int IntKind.i64 1]) (Value.bool true) ({ next := 20, tree := Tree.node (Tree.node (Tree.node (Tree.node (Tree.node Tree.leaf (some (Thing.row [Value.slice (some { block := 10, off := 0 }) 1 1, Value.slice (some { block := 13, off := 0 }) 1 1] 38)) Tree.leaf) (some (Thing.row [Value.slice (some { block := 2, off := 0 }) 1 1, Value.slice (some { block := 5, off := 0 }) 1 1] 38)) Tree.leaf) (some (Thing.row [Value.slice (some { block := 2, off := 0 }) 1 1] 38)) (Tree.node (Tree.node Tree.leaf (some (Thing.row [Value.int IntKind.i64 0, Value.int IntKind.i64 0, Value.int IntKind.i64 1, Value.int IntKind.i64 0, Value.int IntKind.i64 price, Value.int IntKind.i64 qty, Value.int IntKind.i64 0, Value.int IntKind.i64 0] 30)) Tree.leaf) (some (Thing.row [Value.slice (some { block := 10, off := 0 }) 1 1] 38)) Tree.leaf)) (some (Thing.row [Value.slice (some { block := 7, off := 0, spot := some 1 }) 2 2, Value.slice (some { block := 0, off := 0 }) 2 2] 41)) (Tree.node (Tree.node (Tree.node Tree.leaf (some (Thing.row [Value.int IntKind.i64 0, Value.int IntKind.i64 0, Value.int IntKind.i64 1, Value.int IntKind.i64 0, Value.int IntKind.i64 price, Value.int IntKind.i64 qty, Value.int IntKind.i64 0, Value.int IntKind.i64 0] 30)) Tree.leaf) (some (Thing.row [Value.slice (some { block := 15, off := 0, spot := some 1 }) 2 2, Value.slice (some { block := 8, off := 0 }) 2 2] 43)) Tree.leaf) (some (Thing.row [Value.int IntKind.i64 b1] 2)) (Tree.node Tree.leaf (some (Thing.row [Value.int IntKind.i64 b1] 2)) Tree.leaf))) (some (Thing.row [Value.int IntKind.i64 c0, Value.int IntKind.i64 c1] 2)) (Tree.node (Tree.node (Tree.node (Tree.node Tree.leaf (some (Thing.row [Value.int IntKind.i64 0, Value.int IntKind.i64 0, Value.int IntKind.i64 1, Value.int IntKind.i64 0, Value.int IntKind.i64 price, Value.int IntKind.i64 qty, Value.int IntKind.i64 0, Value.int IntKind.i64 0] 30)) Tree.leaf) (some (Thing.row [Value.int IntKind.i64 c0, Value.int IntKind.i64 c1] 2)) Tree.leaf) none (Tree.node Tree.leaf none Tree.leaf)) (some (Thing.row [Value.int IntKind.i64 b0] 2)) (Tree.node (Tree.node (Tree.node Tree.leaf (some (Thing.row [Value.int IntKind.u64 (price * qty / 18446744073709551616), Value.int IntKind.u64 (price * qty % 18446744073709551616)] 47)) Tree.leaf) (some (Thing.row [Value.int IntKind.i64 b0] 2)) Tree.leaf) (some (Thing.row [Value.slice (some { block := 5, off := 0 }) 1 1] 38)) (Tree.node Tree.leaf (some (Thing.row [Value.slice (some { block := 13, off := 0 }) 1 1] 38)) Tree.leaf))) }) hmix hX (by kernel_rfl) (by kernel_rfl) (of_decide_eq_true (by kernel_rfl)) (by kernel_rfl) (by kernel_rfl) (by kernel_rfl) ?_
                refine OD.run 5 (by kernel_rfl) ?_
                refine OD.callEv 100 21 ([Value.pointer (some { block := 9, off := 0 }), Value.int IntKind.i64 0]) (Value.bool true) ({ next := 20, tree := Tree.node (Tree.node (Tree.node (Tree.node (Tree.node Tree.leaf (some (Thing.row [Value.slice (some { block := 10, off := 0 }) 1 1, Value.slice (some { block := 13, off := 0 }) 1 1] 38)) Tree.leaf) (some (Thing.row [Value.slice (some { block := 2, off := 0 }) 1 1, Value.slice (some { block := 5, off := 0 }) 1 1] 38)) Tree.leaf) (some (Thing.row [Value.slice (some { block := 2, off := 0 }) 1 1] 38)) (Tree.node (Tree.node Tree.leaf (some (Thing.row [Value.int IntKind.i64 0, Value.int IntKind.i64 0, Value.int IntKind.i64 1, Value.int IntKind.i64 0, Value.int IntKind.i64 price, Value.int IntKind.i64 qty, Value.int IntKind.i64 0, Value.int IntKind.i64 0] 30)) Tree.leaf) (some (Thing.row [Value.slice (some { block := 10, off := 0 }) 1 1] 38)) Tree.leaf)) (some (Thing.row [Value.slice (some { block := 7, off := 0, spot := some 1 }) 2 2, Value.slice (some { block := 0, off := 0 }) 2 2] 41)) (Tree.node (Tree.node (Tree.node Tree.leaf (some (Thing.row [Value.int IntKind.i64 0, Value.int IntKind.i64 0, Value.int IntKind.i64 1, Value.int IntKind.i64 0, Value.int IntKind.i64 price, Value.int IntKind.i64 qty, Value.int IntKind.i64 0, Value.int IntKind.i64 0] 30)) Tree.leaf) (some (Thing.row [Value.slice (some { block := 15, off := 0, spot := some 1 }) 2 2, Value.slice (some { block := 8, off := 0 }) 2 2] 43)) Tree.leaf) (some (Thing.row [Value.int IntKind.i64 b1] 2)) (Tree.node Tree.leaf (some (Thing.row [Value.int IntKind.i64 b1] 2)) Tree.leaf))) (some (Thing.row [Value.int IntKind.i64 c0, Value.int IntKind.i64 c1] 2)) (Tree.node (Tree.node (Tree.node (Tree.node Tree.leaf (some (Thing.row [Value.int IntKind.i64 0, Value.int IntKind.i64 0, Value.int IntKind.i64 1, Value.int IntKind.i64 0, Value.int IntKind.i64 price, Value.int IntKind.i64 qty, Value.int IntKind.i64 0, Value.int IntKind.i64 0] 30)) Tree.leaf) (some (Thing.row [Value.int IntKind.i64 c0, Value.int IntKind.i64 c1] 2)) Tree.leaf) none (Tree.node Tree.leaf none Tree.leaf)) (some (Thing.row [Value.int IntKind.i64 b0] 2)) (Tree.node (Tree.node (Tree.node Tree.leaf (some (Thing.row [Value.int IntKind.u64 (price * qty / 18446744073709551616), Value.int IntKind.u64 (price * qty % 18446744073709551616)] 47)) Tree.leaf) (some (Thing.row [Value.int IntKind.i64 b0] 2)) Tree.leaf) (some (Thing.row [Value.slice (some { block := 5, off := 0 }) 1 1] 38)) (Tree.node Tree.leaf (some (Thing.row [Value.slice (some { block := 13, off := 0 }) 1 1] 38)) Tree.leaf))) }) hmix hX (by kernel_rfl) (by kernel_rfl) (of_decide_eq_true (by kernel_rfl)) (by kernel_rfl) (by kernel_rfl) (by kernel_rfl) ?_
                refine OD.run 29 (by kernel_rfl) ?_
                refine OD.as (Value.bool (decide (price < 1))) (Value.bool false) (by kernel_rfl) (of_decide_eq_true (by kernel_rfl)) (by kernel_rfl) (congrArg Value.bool (decide_eq_false (by exact h1))) ?_
                refine OD.run 4 (by kernel_rfl) ?_
                refine OD.as (Value.bool (decide (qty < 1))) (Value.bool false) (by kernel_rfl) (of_decide_eq_true (by kernel_rfl)) (by kernel_rfl) (congrArg Value.bool (decide_eq_false (by exact h2))) ?_
                refine OD.run 1 (by kernel_rfl) ?_
                refine OD.done (of_decide_eq_true (by kernel_rfl)) ?_
                refine then_n (by kernel_rfl) ?_
                refine Det.condF (by kernel_rfl) (false) (by kernel_rfl) rfl ?_
                refine Det.skipA (by kernel_rfl) ?_
                refine then_n (by kernel_rfl) ?_
                refine Det.seqA (by kernel_rfl) ?_
                refine Det.opsA (by kernel_rfl) hX ?_
                refine OD.run 4 (by kernel_rfl) ?_
                refine OD.callEq 22 ([Value.int IntKind.i64 price, Value.int IntKind.i64 qty]) (ref_Times _ _ (by omega) hA (by omega) hB _) (by kernel_rfl) (of_decide_eq_true (by kernel_rfl)) (by kernel_rfl) (by kernel_rfl) (by kernel_rfl) ?_
                refine OD.run 6 (by kernel_rfl) ?_
                refine OD.done (of_decide_eq_true (by kernel_rfl)) ?_
                refine then_n (by kernel_rfl) ?_
                refine Det.seqA (by kernel_rfl) ?_
                refine Det.opsA (by kernel_rfl) hX ?_
                refine OD.run 1 (by kernel_rfl) ?_
                refine OD.callEq 23 ([Value.agg #[Value.int IntKind.u64 (price * qty / 18446744073709551616), Value.int IntKind.u64 (price * qty % 18446744073709551616)]]) (ref_Narrow _ hp _) (by kernel_rfl) (of_decide_eq_true (by kernel_rfl)) (by kernel_rfl) (by kernel_rfl) (by kernel_rfl) ?_
                refine OD.run 2 (by kernel_rfl) ?_
                refine OD.as (Value.bool (inR (price * qty))) (Value.bool true) (by kernel_rfl) (of_decide_eq_true (by kernel_rfl)) (by kernel_rfl) (congrArg Value.bool (by exact c100)) ?_
                refine OD.run 2 (by kernel_rfl) ?_
                refine OD.done (of_decide_eq_true (by kernel_rfl)) ?_
                refine then_n (by kernel_rfl) ?_
                refine Det.seqA (by kernel_rfl) ?_
                refine Det.drawA (by kernel_rfl) hmix hX (by kernel_rfl) (by kernel_rfl) ?_
                refine OD.run 14 (by kernel_rfl) ?_
                refine OD.callEq 24 ([Value.int IntKind.i64 b1, Value.int IntKind.i64 qty]) (ref_Add _ _ (by omega) (by omega) (by omega) (by omega) _) (by kernel_rfl) (of_decide_eq_true (by kernel_rfl)) (by kernel_rfl) (by kernel_rfl) (by kernel_rfl) ?_
                refine OD.run 2 (by kernel_rfl) ?_
                refine OD.as (Value.bool (inR (b1 + qty))) (Value.bool true) (by kernel_rfl) (of_decide_eq_true (by kernel_rfl)) (by kernel_rfl) (congrArg Value.bool (by exact c103)) ?_
                refine OD.run 2 (by kernel_rfl) ?_
                refine OD.done (of_decide_eq_true (by kernel_rfl)) ?_
                refine then_n (by kernel_rfl) ?_
                refine Det.seqA (by kernel_rfl) ?_
                refine Det.drawA (by kernel_rfl) hmix hX (by kernel_rfl) (by kernel_rfl) ?_
                refine OD.run 14 (by kernel_rfl) ?_
                refine OD.callEq 25 ([Value.int IntKind.i64 b0, Value.int IntKind.i64 qty]) (ref_Sub _ _ (by omega) (by omega) (by omega) (by omega) _) (by kernel_rfl) (of_decide_eq_true (by kernel_rfl)) (by kernel_rfl) (by kernel_rfl) (by kernel_rfl) ?_
                refine OD.run 2 (by kernel_rfl) ?_
                refine OD.as (Value.bool (inR (b0 - qty))) (Value.bool true) (by kernel_rfl) (of_decide_eq_true (by kernel_rfl)) (by kernel_rfl) (congrArg Value.bool (by exact c106)) ?_
                refine OD.run 2 (by kernel_rfl) ?_
                refine OD.done (of_decide_eq_true (by kernel_rfl)) ?_
                refine then_n (by kernel_rfl) ?_
                refine Det.seqA (by kernel_rfl) ?_
                refine Det.drawA (by kernel_rfl) hmix hX (by kernel_rfl) (by kernel_rfl) ?_
                refine OD.run 9 (by kernel_rfl) ?_
                refine OD.callEq 25 ([Value.int IntKind.i64 c1, Value.int IntKind.i64 (keep (price * qty))]) (ref_Sub _ _ (by omega) (by omega) (by omega) (by omega) _) (by kernel_rfl) (of_decide_eq_true (by kernel_rfl)) (by kernel_rfl) (by kernel_rfl) (by kernel_rfl) ?_
                refine OD.run 2 (by kernel_rfl) ?_
                refine OD.as (Value.bool (inR (c1 - keep (price * qty)))) (Value.bool false) (by kernel_rfl) (of_decide_eq_true (by kernel_rfl)) (by kernel_rfl) (congrArg Value.bool (by exact c109)) ?_
                refine OD.run 2 (by kernel_rfl) ?_
                refine OD.done (of_decide_eq_true (by kernel_rfl)) ?_
                refine then_n (by kernel_rfl) ?_
                refine Det.seqA (by kernel_rfl) ?_
                refine Det.drawA (by kernel_rfl) hmix hX (by kernel_rfl) (by kernel_rfl) ?_
                refine OD.run 9 (by kernel_rfl) ?_
                refine OD.callEq 24 ([Value.int IntKind.i64 c0, Value.int IntKind.i64 (keep (price * qty))]) (ref_Add _ _ (by omega) (by omega) (by omega) (by omega) _) (by kernel_rfl) (of_decide_eq_true (by kernel_rfl)) (by kernel_rfl) (by kernel_rfl) (by kernel_rfl) ?_
                refine OD.run 5 (by kernel_rfl) ?_
                refine OD.done (of_decide_eq_true (by kernel_rfl)) ?_
                refine then_n (by kernel_rfl) ?_
                refine Det.seqA (by kernel_rfl) ?_
                refine Det.seqA (by kernel_rfl) ?_
                refine Det.opsA (by kernel_rfl) hX ?_
                refine OD.run 18 (by kernel_rfl) ?_
                refine OD.done (of_decide_eq_true (by kernel_rfl)) ?_
                refine then_n (by kernel_rfl) ?_
                refine Det.condT (by kernel_rfl) (true) (by kernel_rfl) rfl ?_
                refine Det.seqA (by kernel_rfl) ?_
                refine Det.opsA (by kernel_rfl) hX ?_
                refine OD.run 1 (by kernel_rfl) ?_
                refine OD.done (of_decide_eq_true (by kernel_rfl)) ?_
                refine then_n (by kernel_rfl) ?_
                refine Det.retA (by kernel_rfl) ?_
                refine then_r (by kernel_rfl) ?_
                refine fin_r (Value.int IntKind.i64 15) (by kernel_rfl) (by kernel_rfl) ?_
                refine OD.run 3 (by kernel_rfl) ?_
                refine OD.callEv 100 13 ([Value.pointer (some { block := 1, off := 0 }), Value.int IntKind.i64 0]) (Value.int IntKind.i64 c0) ({ next := 21, tree := Tree.node (Tree.node (Tree.node (Tree.node (Tree.node Tree.leaf (some (Thing.row [Value.slice (some { block := 10, off := 0 }) 1 1, Value.slice (some { block := 13, off := 0 }) 1 1] 38)) Tree.leaf) (some (Thing.row [Value.slice (some { block := 2, off := 0 }) 1 1, Value.slice (some { block := 5, off := 0 }) 1 1] 38)) Tree.leaf) (some (Thing.row [Value.slice (some { block := 2, off := 0 }) 1 1] 38)) (Tree.node (Tree.node Tree.leaf (some (Thing.row [Value.int IntKind.i64 0, Value.int IntKind.i64 0, Value.int IntKind.i64 1, Value.int IntKind.i64 0, Value.int IntKind.i64 price, Value.int IntKind.i64 qty, Value.int IntKind.i64 0, Value.int IntKind.i64 0] 30)) Tree.leaf) (some (Thing.row [Value.slice (some { block := 10, off := 0 }) 1 1] 38)) Tree.leaf)) (some (Thing.row [Value.slice (some { block := 7, off := 0, spot := some 1 }) 2 2, Value.slice (some { block := 0, off := 0 }) 2 2] 41)) (Tree.node (Tree.node (Tree.node Tree.leaf (some (Thing.row [Value.int IntKind.i64 0, Value.int IntKind.i64 0, Value.int IntKind.i64 1, Value.int IntKind.i64 0, Value.int IntKind.i64 price, Value.int IntKind.i64 qty, Value.int IntKind.i64 0, Value.int IntKind.i64 0] 30)) Tree.leaf) (some (Thing.row [Value.slice (some { block := 15, off := 0, spot := some 1 }) 2 2, Value.slice (some { block := 8, off := 0 }) 2 2] 43)) Tree.leaf) (some (Thing.row [Value.int IntKind.i64 b1] 2)) (Tree.node Tree.leaf (some (Thing.row [Value.int IntKind.i64 b1] 2)) Tree.leaf))) (some (Thing.row [Value.int IntKind.i64 c0, Value.int IntKind.i64 c1] 2)) (Tree.node (Tree.node (Tree.node (Tree.node Tree.leaf (some (Thing.row [Value.int IntKind.i64 0, Value.int IntKind.i64 0, Value.int IntKind.i64 1, Value.int IntKind.i64 0, Value.int IntKind.i64 price, Value.int IntKind.i64 qty, Value.int IntKind.i64 0, Value.int IntKind.i64 0] 30)) Tree.leaf) (some (Thing.row [Value.int IntKind.i64 c0, Value.int IntKind.i64 c1] 2)) Tree.leaf) none (Tree.node (Tree.node Tree.leaf (some (Thing.row [Value.int IntKind.u64 (price * qty / 18446744073709551616), Value.int IntKind.u64 (price * qty % 18446744073709551616)] 47)) Tree.leaf) none Tree.leaf)) (some (Thing.row [Value.int IntKind.i64 b0] 2)) (Tree.node (Tree.node (Tree.node Tree.leaf (some (Thing.row [Value.int IntKind.u64 (price * qty / 18446744073709551616), Value.int IntKind.u64 (price * qty % 18446744073709551616)] 47)) Tree.leaf) (some (Thing.row [Value.int IntKind.i64 b0] 2)) Tree.leaf) (some (Thing.row [Value.slice (some { block := 5, off := 0 }) 1 1] 38)) (Tree.node Tree.leaf (some (Thing.row [Value.slice (some { block := 13, off := 0 }) 1 1] 38)) Tree.leaf))) }) hmix hX (by kernel_rfl) (by kernel_rfl) (of_decide_eq_true (by kernel_rfl)) (by kernel_rfl) (by kernel_rfl) (by kernel_rfl) ?_
                refine OD.run 1 (by kernel_rfl) ?_
                refine OD.callEv 100 14 ([Value.pointer (some { block := 9, off := 0 }), Value.int IntKind.i64 0]) (Value.int IntKind.i64 c0) ({ next := 21, tree := Tree.node (Tree.node (Tree.node (Tree.node (Tree.node Tree.leaf (some (Thing.row [Value.slice (some { block := 10, off := 0 }) 1 1, Value.slice (some { block := 13, off := 0 }) 1 1] 38)) Tree.leaf) (some (Thing.row [Value.slice (some { block := 2, off := 0 }) 1 1, Value.slice (some { block := 5, off := 0 }) 1 1] 38)) Tree.leaf) (some (Thing.row [Value.slice (some { block := 2, off := 0 }) 1 1] 38)) (Tree.node (Tree.node Tree.leaf (some (Thing.row [Value.int IntKind.i64 0, Value.int IntKind.i64 0, Value.int IntKind.i64 1, Value.int IntKind.i64 0, Value.int IntKind.i64 price, Value.int IntKind.i64 qty, Value.int IntKind.i64 0, Value.int IntKind.i64 0] 30)) Tree.leaf) (some (Thing.row [Value.slice (some { block := 10, off := 0 }) 1 1] 38)) Tree.leaf)) (some (Thing.row [Value.slice (some { block := 7, off := 0, spot := some 1 }) 2 2, Value.slice (some { block := 0, off := 0 }) 2 2] 41)) (Tree.node (Tree.node (Tree.node Tree.leaf (some (Thing.row [Value.int IntKind.i64 0, Value.int IntKind.i64 0, Value.int IntKind.i64 1, Value.int IntKind.i64 0, Value.int IntKind.i64 price, Value.int IntKind.i64 qty, Value.int IntKind.i64 0, Value.int IntKind.i64 0] 30)) Tree.leaf) (some (Thing.row [Value.slice (some { block := 15, off := 0, spot := some 1 }) 2 2, Value.slice (some { block := 8, off := 0 }) 2 2] 43)) Tree.leaf) (some (Thing.row [Value.int IntKind.i64 b1] 2)) (Tree.node Tree.leaf (some (Thing.row [Value.int IntKind.i64 b1] 2)) Tree.leaf))) (some (Thing.row [Value.int IntKind.i64 c0, Value.int IntKind.i64 c1] 2)) (Tree.node (Tree.node (Tree.node (Tree.node Tree.leaf (some (Thing.row [Value.int IntKind.i64 0, Value.int IntKind.i64 0, Value.int IntKind.i64 1, Value.int IntKind.i64 0, Value.int IntKind.i64 price, Value.int IntKind.i64 qty, Value.int IntKind.i64 0, Value.int IntKind.i64 0] 30)) Tree.leaf) (some (Thing.row [Value.int IntKind.i64 c0, Value.int IntKind.i64 c1] 2)) Tree.leaf) none (Tree.node (Tree.node Tree.leaf (some (Thing.row [Value.int IntKind.u64 (price * qty / 18446744073709551616), Value.int IntKind.u64 (price * qty % 18446744073709551616)] 47)) Tree.leaf) none Tree.leaf)) (some (Thing.row [Value.int IntKind.i64 b0] 2)) (Tree.node (Tree.node (Tree.node Tree.leaf (some (Thing.row [Value.int IntKind.u64 (price * qty / 18446744073709551616), Value.int IntKind.u64 (price * qty % 18446744073709551616)] 47)) Tree.leaf) (some (Thing.row [Value.int IntKind.i64 b0] 2)) Tree.leaf) (some (Thing.row [Value.slice (some { block := 5, off := 0 }) 1 1] 38)) (Tree.node Tree.leaf (some (Thing.row [Value.slice (some { block := 13, off := 0 }) 1 1] 38)) Tree.leaf))) }) hmix hX (by kernel_rfl) (by kernel_rfl) (of_decide_eq_true (by kernel_rfl)) (by kernel_rfl) (by kernel_rfl) (by kernel_rfl) ?_
                refine OD.as (Value.bool (c0 != c0)) (Value.bool false) (by kernel_rfl) (of_decide_eq_true (by kernel_rfl)) (by kernel_rfl) (congrArg Value.bool (bne_eq_false_iff_eq.2 rfl)) ?_
                refine OD.run 3 (by kernel_rfl) ?_
                refine OD.callEv 100 11 ([Value.pointer (some { block := 1, off := 0 }), Value.int IntKind.i64 1, Value.int IntKind.i64 0]) (Value.int IntKind.i64 b1) ({ next := 21, tree := Tree.node (Tree.node (Tree.node (Tree.node (Tree.node Tree.leaf (some (Thing.row [Value.slice (some { block := 10, off := 0 }) 1 1, Value.slice (some { block := 13, off := 0 }) 1 1] 38)) Tree.leaf) (some (Thing.row [Value.slice (some { block := 2, off := 0 }) 1 1, Value.slice (some { block := 5, off := 0 }) 1 1] 38)) Tree.leaf) (some (Thing.row [Value.slice (some { block := 2, off := 0 }) 1 1] 38)) (Tree.node (Tree.node Tree.leaf (some (Thing.row [Value.int IntKind.i64 0, Value.int IntKind.i64 0, Value.int IntKind.i64 1, Value.int IntKind.i64 0, Value.int IntKind.i64 price, Value.int IntKind.i64 qty, Value.int IntKind.i64 0, Value.int IntKind.i64 0] 30)) Tree.leaf) (some (Thing.row [Value.slice (some { block := 10, off := 0 }) 1 1] 38)) Tree.leaf)) (some (Thing.row [Value.slice (some { block := 7, off := 0, spot := some 1 }) 2 2, Value.slice (some { block := 0, off := 0 }) 2 2] 41)) (Tree.node (Tree.node (Tree.node Tree.leaf (some (Thing.row [Value.int IntKind.i64 0, Value.int IntKind.i64 0, Value.int IntKind.i64 1, Value.int IntKind.i64 0, Value.int IntKind.i64 price, Value.int IntKind.i64 qty, Value.int IntKind.i64 0, Value.int IntKind.i64 0] 30)) Tree.leaf) (some (Thing.row [Value.slice (some { block := 15, off := 0, spot := some 1 }) 2 2, Value.slice (some { block := 8, off := 0 }) 2 2] 43)) Tree.leaf) (some (Thing.row [Value.int IntKind.i64 b1] 2)) (Tree.node Tree.leaf (some (Thing.row [Value.int IntKind.i64 b1] 2)) Tree.leaf))) (some (Thing.row [Value.int IntKind.i64 c0, Value.int IntKind.i64 c1] 2)) (Tree.node (Tree.node (Tree.node (Tree.node Tree.leaf (some (Thing.row [Value.int IntKind.i64 0, Value.int IntKind.i64 0, Value.int IntKind.i64 1, Value.int IntKind.i64 0, Value.int IntKind.i64 price, Value.int IntKind.i64 qty, Value.int IntKind.i64 0, Value.int IntKind.i64 0] 30)) Tree.leaf) (some (Thing.row [Value.int IntKind.i64 c0, Value.int IntKind.i64 c1] 2)) Tree.leaf) none (Tree.node (Tree.node Tree.leaf (some (Thing.row [Value.int IntKind.u64 (price * qty / 18446744073709551616), Value.int IntKind.u64 (price * qty % 18446744073709551616)] 47)) Tree.leaf) none Tree.leaf)) (some (Thing.row [Value.int IntKind.i64 b0] 2)) (Tree.node (Tree.node (Tree.node Tree.leaf (some (Thing.row [Value.int IntKind.u64 (price * qty / 18446744073709551616), Value.int IntKind.u64 (price * qty % 18446744073709551616)] 47)) Tree.leaf) (some (Thing.row [Value.int IntKind.i64 b0] 2)) Tree.leaf) (some (Thing.row [Value.slice (some { block := 5, off := 0 }) 1 1] 38)) (Tree.node Tree.leaf (some (Thing.row [Value.slice (some { block := 13, off := 0 }) 1 1] 38)) Tree.leaf))) }) hmix hX (by kernel_rfl) (by kernel_rfl) (of_decide_eq_true (by kernel_rfl)) (by kernel_rfl) (by kernel_rfl) (by kernel_rfl) ?_
                refine OD.run 1 (by kernel_rfl) ?_
                refine OD.callEv 100 12 ([Value.pointer (some { block := 9, off := 0 }), Value.int IntKind.i64 1, Value.int IntKind.i64 0]) (Value.int IntKind.i64 b1) ({ next := 21, tree := Tree.node (Tree.node (Tree.node (Tree.node (Tree.node Tree.leaf (some (Thing.row [Value.slice (some { block := 10, off := 0 }) 1 1, Value.slice (some { block := 13, off := 0 }) 1 1] 38)) Tree.leaf) (some (Thing.row [Value.slice (some { block := 2, off := 0 }) 1 1, Value.slice (some { block := 5, off := 0 }) 1 1] 38)) Tree.leaf) (some (Thing.row [Value.slice (some { block := 2, off := 0 }) 1 1] 38)) (Tree.node (Tree.node Tree.leaf (some (Thing.row [Value.int IntKind.i64 0, Value.int IntKind.i64 0, Value.int IntKind.i64 1, Value.int IntKind.i64 0, Value.int IntKind.i64 price, Value.int IntKind.i64 qty, Value.int IntKind.i64 0, Value.int IntKind.i64 0] 30)) Tree.leaf) (some (Thing.row [Value.slice (some { block := 10, off := 0 }) 1 1] 38)) Tree.leaf)) (some (Thing.row [Value.slice (some { block := 7, off := 0, spot := some 1 }) 2 2, Value.slice (some { block := 0, off := 0 }) 2 2] 41)) (Tree.node (Tree.node (Tree.node Tree.leaf (some (Thing.row [Value.int IntKind.i64 0, Value.int IntKind.i64 0, Value.int IntKind.i64 1, Value.int IntKind.i64 0, Value.int IntKind.i64 price, Value.int IntKind.i64 qty, Value.int IntKind.i64 0, Value.int IntKind.i64 0] 30)) Tree.leaf) (some (Thing.row [Value.slice (some { block := 15, off := 0, spot := some 1 }) 2 2, Value.slice (some { block := 8, off := 0 }) 2 2] 43)) Tree.leaf) (some (Thing.row [Value.int IntKind.i64 b1] 2)) (Tree.node Tree.leaf (some (Thing.row [Value.int IntKind.i64 b1] 2)) Tree.leaf))) (some (Thing.row [Value.int IntKind.i64 c0, Value.int IntKind.i64 c1] 2)) (Tree.node (Tree.node (Tree.node (Tree.node Tree.leaf (some (Thing.row [Value.int IntKind.i64 0, Value.int IntKind.i64 0, Value.int IntKind.i64 1, Value.int IntKind.i64 0, Value.int IntKind.i64 price, Value.int IntKind.i64 qty, Value.int IntKind.i64 0, Value.int IntKind.i64 0] 30)) Tree.leaf) (some (Thing.row [Value.int IntKind.i64 c0, Value.int IntKind.i64 c1] 2)) Tree.leaf) none (Tree.node (Tree.node Tree.leaf (some (Thing.row [Value.int IntKind.u64 (price * qty / 18446744073709551616), Value.int IntKind.u64 (price * qty % 18446744073709551616)] 47)) Tree.leaf) none Tree.leaf)) (some (Thing.row [Value.int IntKind.i64 b0] 2)) (Tree.node (Tree.node (Tree.node Tree.leaf (some (Thing.row [Value.int IntKind.u64 (price * qty / 18446744073709551616), Value.int IntKind.u64 (price * qty % 18446744073709551616)] 47)) Tree.leaf) (some (Thing.row [Value.int IntKind.i64 b0] 2)) Tree.leaf) (some (Thing.row [Value.slice (some { block := 5, off := 0 }) 1 1] 38)) (Tree.node Tree.leaf (some (Thing.row [Value.slice (some { block := 13, off := 0 }) 1 1] 38)) Tree.leaf))) }) hmix hX (by kernel_rfl) (by kernel_rfl) (of_decide_eq_true (by kernel_rfl)) (by kernel_rfl) (by kernel_rfl) (by kernel_rfl) ?_
                refine OD.as (Value.bool (b1 != b1)) (Value.bool false) (by kernel_rfl) (of_decide_eq_true (by kernel_rfl)) (by kernel_rfl) (congrArg Value.bool (bne_eq_false_iff_eq.2 rfl)) ?_
                refine OD.run 9 (by kernel_rfl) ?_
                refine OD.callEv 100 13 ([Value.pointer (some { block := 1, off := 0 }), Value.int IntKind.i64 0]) (Value.int IntKind.i64 c0) ({ next := 21, tree := Tree.node (Tree.node (Tree.node (Tree.node (Tree.node Tree.leaf (some (Thing.row [Value.slice (some { block := 10, off := 0 }) 1 1, Value.slice (some { block := 13, off := 0 }) 1 1] 38)) Tree.leaf) (some (Thing.row [Value.slice (some { block := 2, off := 0 }) 1 1, Value.slice (some { block := 5, off := 0 }) 1 1] 38)) Tree.leaf) (some (Thing.row [Value.slice (some { block := 2, off := 0 }) 1 1] 38)) (Tree.node (Tree.node Tree.leaf (some (Thing.row [Value.int IntKind.i64 0, Value.int IntKind.i64 0, Value.int IntKind.i64 1, Value.int IntKind.i64 0, Value.int IntKind.i64 price, Value.int IntKind.i64 qty, Value.int IntKind.i64 0, Value.int IntKind.i64 0] 30)) Tree.leaf) (some (Thing.row [Value.slice (some { block := 10, off := 0 }) 1 1] 38)) Tree.leaf)) (some (Thing.row [Value.slice (some { block := 7, off := 0, spot := some 1 }) 2 2, Value.slice (some { block := 0, off := 0 }) 2 2] 41)) (Tree.node (Tree.node (Tree.node Tree.leaf (some (Thing.row [Value.int IntKind.i64 0, Value.int IntKind.i64 0, Value.int IntKind.i64 1, Value.int IntKind.i64 0, Value.int IntKind.i64 price, Value.int IntKind.i64 qty, Value.int IntKind.i64 0, Value.int IntKind.i64 0] 30)) Tree.leaf) (some (Thing.row [Value.slice (some { block := 15, off := 0, spot := some 1 }) 2 2, Value.slice (some { block := 8, off := 0 }) 2 2] 43)) Tree.leaf) (some (Thing.row [Value.int IntKind.i64 b1] 2)) (Tree.node Tree.leaf (some (Thing.row [Value.int IntKind.i64 b1] 2)) Tree.leaf))) (some (Thing.row [Value.int IntKind.i64 c0, Value.int IntKind.i64 c1] 2)) (Tree.node (Tree.node (Tree.node (Tree.node Tree.leaf (some (Thing.row [Value.int IntKind.i64 0, Value.int IntKind.i64 0, Value.int IntKind.i64 1, Value.int IntKind.i64 0, Value.int IntKind.i64 price, Value.int IntKind.i64 qty, Value.int IntKind.i64 0, Value.int IntKind.i64 0] 30)) Tree.leaf) (some (Thing.row [Value.int IntKind.i64 c0, Value.int IntKind.i64 c1] 2)) Tree.leaf) none (Tree.node (Tree.node Tree.leaf (some (Thing.row [Value.int IntKind.u64 (price * qty / 18446744073709551616), Value.int IntKind.u64 (price * qty % 18446744073709551616)] 47)) Tree.leaf) none Tree.leaf)) (some (Thing.row [Value.int IntKind.i64 b0] 2)) (Tree.node (Tree.node (Tree.node Tree.leaf (some (Thing.row [Value.int IntKind.u64 (price * qty / 18446744073709551616), Value.int IntKind.u64 (price * qty % 18446744073709551616)] 47)) Tree.leaf) (some (Thing.row [Value.int IntKind.i64 b0] 2)) Tree.leaf) (some (Thing.row [Value.slice (some { block := 5, off := 0 }) 1 1] 38)) (Tree.node Tree.leaf (some (Thing.row [Value.slice (some { block := 13, off := 0 }) 1 1] 38)) Tree.leaf))) }) hmix hX (by kernel_rfl) (by kernel_rfl) (of_decide_eq_true (by kernel_rfl)) (by kernel_rfl) (by kernel_rfl) (by kernel_rfl) ?_
                refine OD.run 1 (by kernel_rfl) ?_
                refine OD.as (Value.bool (c0 != c0)) (Value.bool false) (by kernel_rfl) (of_decide_eq_true (by kernel_rfl)) (by kernel_rfl) (congrArg Value.bool (bne_eq_false_iff_eq.2 rfl)) ?_
                refine OD.run 3 (by kernel_rfl) ?_
                refine OD.done (of_decide_eq_true (by kernel_rfl)) ?_
                refine then_n (by kernel_rfl) ?_
                refine Det.condF (by kernel_rfl) (false) (by kernel_rfl) rfl ?_
                refine Det.skipA (by kernel_rfl) ?_
                refine then_n (by kernel_rfl) ?_
                refine Det.opsA (by kernel_rfl) hX ?_
                refine OD.run 1 (by kernel_rfl) ?_
                refine OD.as (Value.int IntKind.i64 (IntKind.wrap IntKind.i64 ((↑j : Int) + 1))) (Value.int IntKind.i64 ((↑j : Int) + 1)) (by kernel_rfl) (of_decide_eq_true (by kernel_rfl)) (by kernel_rfl) (congrArg _ (by (rw [IntKind.wrap_i64]; omega))) ?_
                refine OD.run 1 (by kernel_rfl) ?_
                refine OD.done (of_decide_eq_true (by kernel_rfl)) ?_
                refine then_n (by kernel_rfl) ?_
                exact ⟨(j + 1, c0, c1, b0, b1), ⟨(show j + 1 ≤ 5 by omega), ⟨p1, p2⟩, ⟨p3, p4⟩, ⟨p5, p6⟩, ⟨p7, p8⟩⟩, (show 5 - (j + 1) < 5 - j by omega), by kernel_rfl, by kernel_rfl⟩
            · refine OD.as (Value.bool !inR (b0 - qty)) (Value.bool true) (by kernel_rfl) (of_decide_eq_true (by kernel_rfl)) (by kernel_rfl) (congrArg Value.bool (not_t (by exact c106))) ?_
              refine OD.run 7 (by kernel_rfl) ?_
              refine OD.done (of_decide_eq_true (by kernel_rfl)) ?_
              refine then_n (by kernel_rfl) ?_
              refine Det.condT (by kernel_rfl) (true) (by kernel_rfl) rfl ?_
              refine Det.seqA (by kernel_rfl) ?_
              refine Det.opsA (by kernel_rfl) hX ?_
              refine OD.run 1 (by kernel_rfl) ?_
              refine OD.done (of_decide_eq_true (by kernel_rfl)) ?_
              refine then_n (by kernel_rfl) ?_
              refine Det.retA (by kernel_rfl) ?_
              refine then_r (by kernel_rfl) ?_
              refine fin_r (Value.int IntKind.i64 15) (by kernel_rfl) (by kernel_rfl) ?_
              refine OD.run 1 (by kernel_rfl) ?_
              refine OD.done (of_decide_eq_true (by kernel_rfl)) ?_
              refine then_n (by kernel_rfl) ?_
              refine Det.seqA (by kernel_rfl) ?_
              refine Det.opsA (by kernel_rfl) hX ?_
              refine OD.run 3 (by kernel_rfl) ?_
              refine OD.callIn 10 ([Value.pointer (some { block := 9, off := 0 }), Value.agg #[Value.int IntKind.i64 0, Value.int IntKind.i64 0, Value.int IntKind.i64 1, Value.int IntKind.i64 0, Value.int IntKind.i64 price, Value.int IntKind.i64 qty, Value.int IntKind.i64 0, Value.int IntKind.i64 0]]) (by kernel_rfl) (of_decide_eq_true (by kernel_rfl)) (by kernel_rfl) (by kernel_rfl) (by kernel_rfl) ?_
              refine Det.enter Try.func10 (by kernel_rfl) (of_decide_eq_true (by kernel_rfl)) ?_
              refine Det.seqA (by kernel_rfl) ?_
              refine Det.opsA (by kernel_rfl) hX ?_
              refine OD.run 2 (by kernel_rfl) ?_
              refine OD.done (of_decide_eq_true (by kernel_rfl)) ?_
              refine then_n (by kernel_rfl) ?_
              refine Det.seqA (by kernel_rfl) ?_
              refine Det.seqA (by kernel_rfl) ?_
              refine Det.drawA (by kernel_rfl) hmix hX (by kernel_rfl) (by kernel_rfl) ?_
              refine OD.run 3 (by kernel_rfl) ?_
              refine OD.callEv 100 21 ([Value.pointer (some { block := 9, off := 0 }), Value.int IntKind.i64 1]) (Value.bool true) ({ next := 20, tree := Tree.node (Tree.node (Tree.node (Tree.node (Tree.node Tree.leaf (some (Thing.row [Value.slice (some { block := 10, off := 0 }) 1 1, Value.slice (some { block := 13, off := 0 }) 1 1] 38)) Tree.leaf) (some (Thing.row [Value.slice (some { block := 2, off := 0 }) 1 1, Value.slice (some { block := 5, off := 0 }) 1 1] 38)) Tree.leaf) (some (Thing.row [Value.slice (some { block := 2, off := 0 }) 1 1] 38)) (Tree.node (Tree.node Tree.leaf (some (Thing.row [Value.int IntKind.i64 0, Value.int IntKind.i64 0, Value.int IntKind.i64 1, Value.int IntKind.i64 0, Value.int IntKind.i64 price, Value.int IntKind.i64 qty, Value.int IntKind.i64 0, Value.int IntKind.i64 0] 30)) Tree.leaf) (some (Thing.row [Value.slice (some { block := 10, off := 0 }) 1 1] 38)) Tree.leaf)) (some (Thing.row [Value.slice (some { block := 7, off := 0, spot := some 1 }) 2 2, Value.slice (some { block := 0, off := 0 }) 2 2] 41)) (Tree.node (Tree.node (Tree.node Tree.leaf (some (Thing.row [Value.int IntKind.i64 0, Value.int IntKind.i64 0, Value.int IntKind.i64 1, Value.int IntKind.i64 0, Value.int IntKind.i64 price, Value.int IntKind.i64 qty, Value.int IntKind.i64 0, Value.int IntKind.i64 0] 30)) Tree.leaf) (some (Thing.row [Value.slice (some { block := 15, off := 0, spot := some 1 }) 2 2, Value.slice (some { block := 8, off := 0 }) 2 2] 43)) Tree.leaf) (some (Thing.row [Value.int IntKind.i64 b1] 2)) (Tree.node Tree.leaf (some (Thing.row [Value.int IntKind.i64 b1] 2)) Tree.leaf))) (some (Thing.row [Value.int IntKind.i64 c0, Value.int IntKind.i64 c1] 2)) (Tree.node (Tree.node (Tree.node (Tree.node Tree.leaf (some (Thing.row [Value.int IntKind.i64 0, Value.int IntKind.i64 0, Value.int IntKind.i64 1, Value.int IntKind.i64 0, Value.int IntKind.i64 price, Value.int IntKind.i64 qty, Value.int IntKind.i64 0, Value.int IntKind.i64 0] 30)) Tree.leaf) (some (Thing.row [Value.int IntKind.i64 c0, Value.int IntKind.i64 c1] 2)) Tree.leaf) none (Tree.node Tree.leaf none Tree.leaf)) (some (Thing.row [Value.int IntKind.i64 b0] 2)) (Tree.node (Tree.node (Tree.node Tree.leaf (some (Thing.row [Value.int IntKind.u64 (price * qty / 18446744073709551616), Value.int IntKind.u64 (price * qty % 18446744073709551616)] 47)) Tree.leaf) (some (Thing.row [Value.int IntKind.i64 b0] 2)) Tree.leaf) (some (Thing.row [Value.slice (some { block := 5, off := 0 }) 1 1] 38)) (Tree.node Tree.leaf (some (Thing.row [Value.slice (some { block := 13, off := 0 }) 1 1] 38)) Tree.leaf))) }) hmix hX (by kernel_rfl) (by kernel_rfl) (of_decide_eq_true (by kernel_rfl)) (by kernel_rfl) (by kernel_rfl) (by kernel_rfl) ?_
              refine OD.run 5 (by kernel_rfl) ?_
              refine OD.callEv 100 21 ([Value.pointer (some { block := 9, off := 0 }), Value.int IntKind.i64 0]) (Value.bool true) ({ next := 20, tree := Tree.node (Tree.node (Tree.node (Tree.node (Tree.node Tree.leaf (some (Thing.row [Value.slice (some { block := 10, off := 0 }) 1 1, Value.slice (some { block := 13, off := 0 }) 1 1] 38)) Tree.leaf) (some (Thing.row [Value.slice (some { block := 2, off := 0 }) 1 1, Value.slice (some { block := 5, off := 0 }) 1 1] 38)) Tree.leaf) (some (Thing.row [Value.slice (some { block := 2, off := 0 }) 1 1] 38)) (Tree.node (Tree.node Tree.leaf (some (Thing.row [Value.int IntKind.i64 0, Value.int IntKind.i64 0, Value.int IntKind.i64 1, Value.int IntKind.i64 0, Value.int IntKind.i64 price, Value.int IntKind.i64 qty, Value.int IntKind.i64 0, Value.int IntKind.i64 0] 30)) Tree.leaf) (some (Thing.row [Value.slice (some { block := 10, off := 0 }) 1 1] 38)) Tree.leaf)) (some (Thing.row [Value.slice (some { block := 7, off := 0, spot := some 1 }) 2 2, Value.slice (some { block := 0, off := 0 }) 2 2] 41)) (Tree.node (Tree.node (Tree.node Tree.leaf (some (Thing.row [Value.int IntKind.i64 0, Value.int IntKind.i64 0, Value.int IntKind.i64 1, Value.int IntKind.i64 0, Value.int IntKind.i64 price, Value.int IntKind.i64 qty, Value.int IntKind.i64 0, Value.int IntKind.i64 0] 30)) Tree.leaf) (some (Thing.row [Value.slice (some { block := 15, off := 0, spot := some 1 }) 2 2, Value.slice (some { block := 8, off := 0 }) 2 2] 43)) Tree.leaf) (some (Thing.row [Value.int IntKind.i64 b1] 2)) (Tree.node Tree.leaf (some (Thing.row [Value.int IntKind.i64 b1] 2)) Tree.leaf))) (some (Thing.row [Value.int IntKind.i64 c0, Value.int IntKind.i64 c1] 2)) (Tree.node (Tree.node (Tree.node (Tree.node Tree.leaf (some (Thing.row [Value.int IntKind.i64 0, Value.int IntKind.i64 0, Value.int IntKind.i64 1, Value.int IntKind.i64 0, Value.int IntKind.i64 price, Value.int IntKind.i64 qty, Value.int IntKind.i64 0, Value.int IntKind.i64 0] 30)) Tree.leaf) (some (Thing.row [Value.int IntKind.i64 c0, Value.int IntKind.i64 c1] 2)) Tree.leaf) none (Tree.node Tree.leaf none Tree.leaf)) (some (Thing.row [Value.int IntKind.i64 b0] 2)) (Tree.node (Tree.node (Tree.node Tree.leaf (some (Thing.row [Value.int IntKind.u64 (price * qty / 18446744073709551616), Value.int IntKind.u64 (price * qty % 18446744073709551616)] 47)) Tree.leaf) (some (Thing.row [Value.int IntKind.i64 b0] 2)) Tree.leaf) (some (Thing.row [Value.slice (some { block := 5, off := 0 }) 1 1] 38)) (Tree.node Tree.leaf (some (Thing.row [Value.slice (some { block := 13, off := 0 }) 1 1] 38)) Tree.leaf))) }) hmix hX (by kernel_rfl) (by kernel_rfl) (of_decide_eq_true (by kernel_rfl)) (by kernel_rfl) (by kernel_rfl) (by kernel_rfl) ?_
              refine OD.run 29 (by kernel_rfl) ?_
              refine OD.as (Value.bool (decide (price < 1))) (Value.bool false) (by kernel_rfl) (of_decide_eq_true (by kernel_rfl)) (by kernel_rfl) (congrArg Value.bool (decide_eq_false (by exact h1))) ?_
              refine OD.run 4 (by kernel_rfl) ?_
              refine OD.as (Value.bool (decide (qty < 1))) (Value.bool false) (by kernel_rfl) (of_decide_eq_true (by kernel_rfl)) (by kernel_rfl) (congrArg Value.bool (decide_eq_false (by exact h2))) ?_
              refine OD.run 1 (by kernel_rfl) ?_
              refine OD.done (of_decide_eq_true (by kernel_rfl)) ?_
              refine then_n (by kernel_rfl) ?_
              refine Det.condF (by kernel_rfl) (false) (by kernel_rfl) rfl ?_
              refine Det.skipA (by kernel_rfl) ?_
              refine then_n (by kernel_rfl) ?_
              refine Det.seqA (by kernel_rfl) ?_
              refine Det.opsA (by kernel_rfl) hX ?_
              refine OD.run 4 (by kernel_rfl) ?_
              refine OD.callEq 22 ([Value.int IntKind.i64 price, Value.int IntKind.i64 qty]) (ref_Times _ _ (by omega) hA (by omega) hB _) (by kernel_rfl) (of_decide_eq_true (by kernel_rfl)) (by kernel_rfl) (by kernel_rfl) (by kernel_rfl) ?_
              refine OD.run 6 (by kernel_rfl) ?_
              refine OD.done (of_decide_eq_true (by kernel_rfl)) ?_
              refine then_n (by kernel_rfl) ?_
              refine Det.seqA (by kernel_rfl) ?_
              refine Det.opsA (by kernel_rfl) hX ?_
              refine OD.run 1 (by kernel_rfl) ?_
              refine OD.callEq 23 ([Value.agg #[Value.int IntKind.u64 (price * qty / 18446744073709551616), Value.int IntKind.u64 (price * qty % 18446744073709551616)]]) (ref_Narrow _ hp _) (by kernel_rfl) (of_decide_eq_true (by kernel_rfl)) (by kernel_rfl) (by kernel_rfl) (by kernel_rfl) ?_
              refine OD.run 2 (by kernel_rfl) ?_
              refine OD.as (Value.bool (inR (price * qty))) (Value.bool true) (by kernel_rfl) (of_decide_eq_true (by kernel_rfl)) (by kernel_rfl) (congrArg Value.bool (by exact c100)) ?_
              refine OD.run 2 (by kernel_rfl) ?_
              refine OD.done (of_decide_eq_true (by kernel_rfl)) ?_
              refine then_n (by kernel_rfl) ?_
              refine Det.seqA (by kernel_rfl) ?_
              refine Det.drawA (by kernel_rfl) hmix hX (by kernel_rfl) (by kernel_rfl) ?_
              refine OD.run 14 (by kernel_rfl) ?_
              refine OD.callEq 24 ([Value.int IntKind.i64 b1, Value.int IntKind.i64 qty]) (ref_Add _ _ (by omega) (by omega) (by omega) (by omega) _) (by kernel_rfl) (of_decide_eq_true (by kernel_rfl)) (by kernel_rfl) (by kernel_rfl) (by kernel_rfl) ?_
              refine OD.run 2 (by kernel_rfl) ?_
              refine OD.as (Value.bool (inR (b1 + qty))) (Value.bool true) (by kernel_rfl) (of_decide_eq_true (by kernel_rfl)) (by kernel_rfl) (congrArg Value.bool (by exact c103)) ?_
              refine OD.run 2 (by kernel_rfl) ?_
              refine OD.done (of_decide_eq_true (by kernel_rfl)) ?_
              refine then_n (by kernel_rfl) ?_
              refine Det.seqA (by kernel_rfl) ?_
              refine Det.drawA (by kernel_rfl) hmix hX (by kernel_rfl) (by kernel_rfl) ?_
              refine OD.run 14 (by kernel_rfl) ?_
              refine OD.callEq 25 ([Value.int IntKind.i64 b0, Value.int IntKind.i64 qty]) (ref_Sub _ _ (by omega) (by omega) (by omega) (by omega) _) (by kernel_rfl) (of_decide_eq_true (by kernel_rfl)) (by kernel_rfl) (by kernel_rfl) (by kernel_rfl) ?_
              refine OD.run 2 (by kernel_rfl) ?_
              refine OD.as (Value.bool (inR (b0 - qty))) (Value.bool false) (by kernel_rfl) (of_decide_eq_true (by kernel_rfl)) (by kernel_rfl) (congrArg Value.bool (by exact c106)) ?_
              refine OD.run 2 (by kernel_rfl) ?_
              refine OD.done (of_decide_eq_true (by kernel_rfl)) ?_
              refine then_n (by kernel_rfl) ?_
              refine Det.seqA (by kernel_rfl) ?_
              refine Det.drawA (by kernel_rfl) hmix hX (by kernel_rfl) (by kernel_rfl) ?_
              refine OD.run 9 (by kernel_rfl) ?_
              refine OD.callEq 25 ([Value.int IntKind.i64 c1, Value.int IntKind.i64 (keep (price * qty))]) (ref_Sub _ _ (by omega) (by omega) (by omega) (by omega) _) (by kernel_rfl) (of_decide_eq_true (by kernel_rfl)) (by kernel_rfl) (by kernel_rfl) (by kernel_rfl) ?_
              refine OD.run 5 (by kernel_rfl) ?_
              refine OD.done (of_decide_eq_true (by kernel_rfl)) ?_
              refine then_n (by kernel_rfl) ?_
              refine Det.seqA (by kernel_rfl) ?_
              refine Det.drawA (by kernel_rfl) hmix hX (by kernel_rfl) (by kernel_rfl) ?_
              refine OD.run 9 (by kernel_rfl) ?_
              refine OD.callEq 24 ([Value.int IntKind.i64 c0, Value.int IntKind.i64 (keep (price * qty))]) (ref_Add _ _ (by omega) (by omega) (by omega) (by omega) _) (by kernel_rfl) (of_decide_eq_true (by kernel_rfl)) (by kernel_rfl) (by kernel_rfl) (by kernel_rfl) ?_
              refine OD.run 5 (by kernel_rfl) ?_
              refine OD.done (of_decide_eq_true (by kernel_rfl)) ?_
              refine then_n (by kernel_rfl) ?_
              refine Det.seqA (by kernel_rfl) ?_
              refine Det.seqA (by kernel_rfl) ?_
              refine Det.opsA (by kernel_rfl) hX ?_
              refine OD.run 18 (by kernel_rfl) ?_
              refine OD.done (of_decide_eq_true (by kernel_rfl)) ?_
              refine then_n (by kernel_rfl) ?_
              refine Det.condT (by kernel_rfl) (true) (by kernel_rfl) rfl ?_
              refine Det.seqA (by kernel_rfl) ?_
              refine Det.opsA (by kernel_rfl) hX ?_
              refine OD.run 1 (by kernel_rfl) ?_
              refine OD.done (of_decide_eq_true (by kernel_rfl)) ?_
              refine then_n (by kernel_rfl) ?_
              refine Det.retA (by kernel_rfl) ?_
              refine then_r (by kernel_rfl) ?_
              refine fin_r (Value.int IntKind.i64 15) (by kernel_rfl) (by kernel_rfl) ?_
              refine OD.run 3 (by kernel_rfl) ?_
              refine OD.callEv 100 13 ([Value.pointer (some { block := 1, off := 0 }), Value.int IntKind.i64 0]) (Value.int IntKind.i64 c0) ({ next := 21, tree := Tree.node (Tree.node (Tree.node (Tree.node (Tree.node Tree.leaf (some (Thing.row [Value.slice (some { block := 10, off := 0 }) 1 1, Value.slice (some { block := 13, off := 0 }) 1 1] 38)) Tree.leaf) (some (Thing.row [Value.slice (some { block := 2, off := 0 }) 1 1, Value.slice (some { block := 5, off := 0 }) 1 1] 38)) Tree.leaf) (some (Thing.row [Value.slice (some { block := 2, off := 0 }) 1 1] 38)) (Tree.node (Tree.node Tree.leaf (some (Thing.row [Value.int IntKind.i64 0, Value.int IntKind.i64 0, Value.int IntKind.i64 1, Value.int IntKind.i64 0, Value.int IntKind.i64 price, Value.int IntKind.i64 qty, Value.int IntKind.i64 0, Value.int IntKind.i64 0] 30)) Tree.leaf) (some (Thing.row [Value.slice (some { block := 10, off := 0 }) 1 1] 38)) Tree.leaf)) (some (Thing.row [Value.slice (some { block := 7, off := 0, spot := some 1 }) 2 2, Value.slice (some { block := 0, off := 0 }) 2 2] 41)) (Tree.node (Tree.node (Tree.node Tree.leaf (some (Thing.row [Value.int IntKind.i64 0, Value.int IntKind.i64 0, Value.int IntKind.i64 1, Value.int IntKind.i64 0, Value.int IntKind.i64 price, Value.int IntKind.i64 qty, Value.int IntKind.i64 0, Value.int IntKind.i64 0] 30)) Tree.leaf) (some (Thing.row [Value.slice (some { block := 15, off := 0, spot := some 1 }) 2 2, Value.slice (some { block := 8, off := 0 }) 2 2] 43)) Tree.leaf) (some (Thing.row [Value.int IntKind.i64 b1] 2)) (Tree.node Tree.leaf (some (Thing.row [Value.int IntKind.i64 b1] 2)) Tree.leaf))) (some (Thing.row [Value.int IntKind.i64 c0, Value.int IntKind.i64 c1] 2)) (Tree.node (Tree.node (Tree.node (Tree.node Tree.leaf (some (Thing.row [Value.int IntKind.i64 0, Value.int IntKind.i64 0, Value.int IntKind.i64 1, Value.int IntKind.i64 0, Value.int IntKind.i64 price, Value.int IntKind.i64 qty, Value.int IntKind.i64 0, Value.int IntKind.i64 0] 30)) Tree.leaf) (some (Thing.row [Value.int IntKind.i64 c0, Value.int IntKind.i64 c1] 2)) Tree.leaf) none (Tree.node (Tree.node Tree.leaf (some (Thing.row [Value.int IntKind.u64 (price * qty / 18446744073709551616), Value.int IntKind.u64 (price * qty % 18446744073709551616)] 47)) Tree.leaf) none Tree.leaf)) (some (Thing.row [Value.int IntKind.i64 b0] 2)) (Tree.node (Tree.node (Tree.node Tree.leaf (some (Thing.row [Value.int IntKind.u64 (price * qty / 18446744073709551616), Value.int IntKind.u64 (price * qty % 18446744073709551616)] 47)) Tree.leaf) (some (Thing.row [Value.int IntKind.i64 b0] 2)) Tree.leaf) (some (Thing.row [Value.slice (some { block := 5, off := 0 }) 1 1] 38)) (Tree.node Tree.leaf (some (Thing.row [Value.slice (some { block := 13, off := 0 }) 1 1] 38)) Tree.leaf))) }) hmix hX (by kernel_rfl) (by kernel_rfl) (of_decide_eq_true (by kernel_rfl)) (by kernel_rfl) (by kernel_rfl) (by kernel_rfl) ?_
              refine OD.run 1 (by kernel_rfl) ?_
              refine OD.callEv 100 14 ([Value.pointer (some { block := 9, off := 0 }), Value.int IntKind.i64 0]) (Value.int IntKind.i64 c0) ({ next := 21, tree := Tree.node (Tree.node (Tree.node (Tree.node (Tree.node Tree.leaf (some (Thing.row [Value.slice (some { block := 10, off := 0 }) 1 1, Value.slice (some { block := 13, off := 0 }) 1 1] 38)) Tree.leaf) (some (Thing.row [Value.slice (some { block := 2, off := 0 }) 1 1, Value.slice (some { block := 5, off := 0 }) 1 1] 38)) Tree.leaf) (some (Thing.row [Value.slice (some { block := 2, off := 0 }) 1 1] 38)) (Tree.node (Tree.node Tree.leaf (some (Thing.row [Value.int IntKind.i64 0, Value.int IntKind.i64 0, Value.int IntKind.i64 1, Value.int IntKind.i64 0, Value.int IntKind.i64 price, Value.int IntKind.i64 qty, Value.int IntKind.i64 0, Value.int IntKind.i64 0] 30)) Tree.leaf) (some (Thing.row [Value.slice (some { block := 10, off := 0 }) 1 1] 38)) Tree.leaf)) (some (Thing.row [Value.slice (some { block := 7, off := 0, spot := some 1 }) 2 2, Value.slice (some { block := 0, off := 0 }) 2 2] 41)) (Tree.node (Tree.node (Tree.node Tree.leaf (some (Thing.row [Value.int IntKind.i64 0, Value.int IntKind.i64 0, Value.int IntKind.i64 1, Value.int IntKind.i64 0, Value.int IntKind.i64 price, Value.int IntKind.i64 qty, Value.int IntKind.i64 0, Value.int IntKind.i64 0] 30)) Tree.leaf) (some (Thing.row [Value.slice (some { block := 15, off := 0, spot := some 1 }) 2 2, Value.slice (some { block := 8, off := 0 }) 2 2] 43)) Tree.leaf) (some (Thing.row [Value.int IntKind.i64 b1] 2)) (Tree.node Tree.leaf (some (Thing.row [Value.int IntKind.i64 b1] 2)) Tree.leaf))) (some (Thing.row [Value.int IntKind.i64 c0, Value.int IntKind.i64 c1] 2)) (Tree.node (Tree.node (Tree.node (Tree.node Tree.leaf (some (Thing.row [Value.int IntKind.i64 0, Value.int IntKind.i64 0, Value.int IntKind.i64 1, Value.int IntKind.i64 0, Value.int IntKind.i64 price, Value.int IntKind.i64 qty, Value.int IntKind.i64 0, Value.int IntKind.i64 0] 30)) Tree.leaf) (some (Thing.row [Value.int IntKind.i64 c0, Value.int IntKind.i64 c1] 2)) Tree.leaf) none (Tree.node (Tree.node Tree.leaf (some (Thing.row [Value.int IntKind.u64 (price * qty / 18446744073709551616), Value.int IntKind.u64 (price * qty % 18446744073709551616)] 47)) Tree.leaf) none Tree.leaf)) (some (Thing.row [Value.int IntKind.i64 b0] 2)) (Tree.node (Tree.node (Tree.node Tree.leaf (some (Thing.row [Value.int IntKind.u64 (price * qty / 18446744073709551616), Value.int IntKind.u64 (price * qty % 18446744073709551616)] 47)) Tree.leaf) (some (Thing.row [Value.int IntKind.i64 b0] 2)) Tree.leaf) (some (Thing.row [Value.slice (some { block := 5, off := 0 }) 1 1] 38)) (Tree.node Tree.leaf (some (Thing.row [Value.slice (some { block := 13, off := 0 }) 1 1] 38)) Tree.leaf))) }) hmix hX (by kernel_rfl) (by kernel_rfl) (of_decide_eq_true (by kernel_rfl)) (by kernel_rfl) (by kernel_rfl) (by kernel_rfl) ?_
              refine OD.as (Value.bool (c0 != c0)) (Value.bool false) (by kernel_rfl) (of_decide_eq_true (by kernel_rfl)) (by kernel_rfl) (congrArg Value.bool (bne_eq_false_iff_eq.2 rfl)) ?_
              refine OD.run 3 (by kernel_rfl) ?_
              refine OD.callEv 100 11 ([Value.pointer (some { block := 1, off := 0 }), Value.int IntKind.i64 1, Value.int IntKind.i64 0]) (Value.int IntKind.i64 b1) ({ next := 21, tree := Tree.node (Tree.node (Tree.node (Tree.node (Tree.node Tree.leaf (some (Thing.row [Value.slice (some { block := 10, off := 0 }) 1 1, Value.slice (some { block := 13, off := 0 }) 1 1] 38)) Tree.leaf) (some (Thing.row [Value.slice (some { block := 2, off := 0 }) 1 1, Value.slice (some { block := 5, off := 0 }) 1 1] 38)) Tree.leaf) (some (Thing.row [Value.slice (some { block := 2, off := 0 }) 1 1] 38)) (Tree.node (Tree.node Tree.leaf (some (Thing.row [Value.int IntKind.i64 0, Value.int IntKind.i64 0, Value.int IntKind.i64 1, Value.int IntKind.i64 0, Value.int IntKind.i64 price, Value.int IntKind.i64 qty, Value.int IntKind.i64 0, Value.int IntKind.i64 0] 30)) Tree.leaf) (some (Thing.row [Value.slice (some { block := 10, off := 0 }) 1 1] 38)) Tree.leaf)) (some (Thing.row [Value.slice (some { block := 7, off := 0, spot := some 1 }) 2 2, Value.slice (some { block := 0, off := 0 }) 2 2] 41)) (Tree.node (Tree.node (Tree.node Tree.leaf (some (Thing.row [Value.int IntKind.i64 0, Value.int IntKind.i64 0, Value.int IntKind.i64 1, Value.int IntKind.i64 0, Value.int IntKind.i64 price, Value.int IntKind.i64 qty, Value.int IntKind.i64 0, Value.int IntKind.i64 0] 30)) Tree.leaf) (some (Thing.row [Value.slice (some { block := 15, off := 0, spot := some 1 }) 2 2, Value.slice (some { block := 8, off := 0 }) 2 2] 43)) Tree.leaf) (some (Thing.row [Value.int IntKind.i64 b1] 2)) (Tree.node Tree.leaf (some (Thing.row [Value.int IntKind.i64 b1] 2)) Tree.leaf))) (some (Thing.row [Value.int IntKind.i64 c0, Value.int IntKind.i64 c1] 2)) (Tree.node (Tree.node (Tree.node (Tree.node Tree.leaf (some (Thing.row [Value.int IntKind.i64 0, Value.int IntKind.i64 0, Value.int IntKind.i64 1, Value.int IntKind.i64 0, Value.int IntKind.i64 price, Value.int IntKind.i64 qty, Value.int IntKind.i64 0, Value.int IntKind.i64 0] 30)) Tree.leaf) (some (Thing.row [Value.int IntKind.i64 c0, Value.int IntKind.i64 c1] 2)) Tree.leaf) none (Tree.node (Tree.node Tree.leaf (some (Thing.row [Value.int IntKind.u64 (price * qty / 18446744073709551616), Value.int IntKind.u64 (price * qty % 18446744073709551616)] 47)) Tree.leaf) none Tree.leaf)) (some (Thing.row [Value.int IntKind.i64 b0] 2)) (Tree.node (Tree.node (Tree.node Tree.leaf (some (Thing.row [Value.int IntKind.u64 (price * qty / 18446744073709551616), Value.int IntKind.u64 (price * qty % 18446744073709551616)] 47)) Tree.leaf) (some (Thing.row [Value.int IntKind.i64 b0] 2)) Tree.leaf) (some (Thing.row [Value.slice (some { block := 5, off := 0 }) 1 1] 38)) (Tree.node Tree.leaf (some (Thing.row [Value.slice (some { block := 13, off := 0 }) 1 1] 38)) Tree.leaf))) }) hmix hX (by kernel_rfl) (by kernel_rfl) (of_decide_eq_true (by kernel_rfl)) (by kernel_rfl) (by kernel_rfl) (by kernel_rfl) ?_
              refine OD.run 1 (by kernel_rfl) ?_
              refine OD.callEv 100 12 ([Value.pointer (some { block := 9, off := 0 }), Value.int IntKind.i64 1, Value.int IntKind.i64 0]) (Value.int IntKind.i64 b1) ({ next := 21, tree := Tree.node (Tree.node (Tree.node (Tree.node (Tree.node Tree.leaf (some (Thing.row [Value.slice (some { block := 10, off := 0 }) 1 1, Value.slice (some { block := 13, off := 0 }) 1 1] 38)) Tree.leaf) (some (Thing.row [Value.slice (some { block := 2, off := 0 }) 1 1, Value.slice (some { block := 5, off := 0 }) 1 1] 38)) Tree.leaf) (some (Thing.row [Value.slice (some { block := 2, off := 0 }) 1 1] 38)) (Tree.node (Tree.node Tree.leaf (some (Thing.row [Value.int IntKind.i64 0, Value.int IntKind.i64 0, Value.int IntKind.i64 1, Value.int IntKind.i64 0, Value.int IntKind.i64 price, Value.int IntKind.i64 qty, Value.int IntKind.i64 0, Value.int IntKind.i64 0] 30)) Tree.leaf) (some (Thing.row [Value.slice (some { block := 10, off := 0 }) 1 1] 38)) Tree.leaf)) (some (Thing.row [Value.slice (some { block := 7, off := 0, spot := some 1 }) 2 2, Value.slice (some { block := 0, off := 0 }) 2 2] 41)) (Tree.node (Tree.node (Tree.node Tree.leaf (some (Thing.row [Value.int IntKind.i64 0, Value.int IntKind.i64 0, Value.int IntKind.i64 1, Value.int IntKind.i64 0, Value.int IntKind.i64 price, Value.int IntKind.i64 qty, Value.int IntKind.i64 0, Value.int IntKind.i64 0] 30)) Tree.leaf) (some (Thing.row [Value.slice (some { block := 15, off := 0, spot := some 1 }) 2 2, Value.slice (some { block := 8, off := 0 }) 2 2] 43)) Tree.leaf) (some (Thing.row [Value.int IntKind.i64 b1] 2)) (Tree.node Tree.leaf (some (Thing.row [Value.int IntKind.i64 b1] 2)) Tree.leaf))) (some (Thing.row [Value.int IntKind.i64 c0, Value.int IntKind.i64 c1] 2)) (Tree.node (Tree.node (Tree.node (Tree.node Tree.leaf (some (Thing.row [Value.int IntKind.i64 0, Value.int IntKind.i64 0, Value.int IntKind.i64 1, Value.int IntKind.i64 0, Value.int IntKind.i64 price, Value.int IntKind.i64 qty, Value.int IntKind.i64 0, Value.int IntKind.i64 0] 30)) Tree.leaf) (some (Thing.row [Value.int IntKind.i64 c0, Value.int IntKind.i64 c1] 2)) Tree.leaf) none (Tree.node (Tree.node Tree.leaf (some (Thing.row [Value.int IntKind.u64 (price * qty / 18446744073709551616), Value.int IntKind.u64 (price * qty % 18446744073709551616)] 47)) Tree.leaf) none Tree.leaf)) (some (Thing.row [Value.int IntKind.i64 b0] 2)) (Tree.node (Tree.node (Tree.node Tree.leaf (some (Thing.row [Value.int IntKind.u64 (price * qty / 18446744073709551616), Value.int IntKind.u64 (price * qty % 18446744073709551616)] 47)) Tree.leaf) (some (Thing.row [Value.int IntKind.i64 b0] 2)) Tree.leaf) (some (Thing.row [Value.slice (some { block := 5, off := 0 }) 1 1] 38)) (Tree.node Tree.leaf (some (Thing.row [Value.slice (some { block := 13, off := 0 }) 1 1] 38)) Tree.leaf))) }) hmix hX (by kernel_rfl) (by kernel_rfl) (of_decide_eq_true (by kernel_rfl)) (by kernel_rfl) (by kernel_rfl) (by kernel_rfl) ?_
              refine OD.as (Value.bool (b1 != b1)) (Value.bool false) (by kernel_rfl) (of_decide_eq_true (by kernel_rfl)) (by kernel_rfl) (congrArg Value.bool (bne_eq_false_iff_eq.2 rfl)) ?_
              refine OD.run 9 (by kernel_rfl) ?_
              refine OD.callEv 100 13 ([Value.pointer (some { block := 1, off := 0 }), Value.int IntKind.i64 0]) (Value.int IntKind.i64 c0) ({ next := 21, tree := Tree.node (Tree.node (Tree.node (Tree.node (Tree.node Tree.leaf (some (Thing.row [Value.slice (some { block := 10, off := 0 }) 1 1, Value.slice (some { block := 13, off := 0 }) 1 1] 38)) Tree.leaf) (some (Thing.row [Value.slice (some { block := 2, off := 0 }) 1 1, Value.slice (some { block := 5, off := 0 }) 1 1] 38)) Tree.leaf) (some (Thing.row [Value.slice (some { block := 2, off := 0 }) 1 1] 38)) (Tree.node (Tree.node Tree.leaf (some (Thing.row [Value.int IntKind.i64 0, Value.int IntKind.i64 0, Value.int IntKind.i64 1, Value.int IntKind.i64 0, Value.int IntKind.i64 price, Value.int IntKind.i64 qty, Value.int IntKind.i64 0, Value.int IntKind.i64 0] 30)) Tree.leaf) (some (Thing.row [Value.slice (some { block := 10, off := 0 }) 1 1] 38)) Tree.leaf)) (some (Thing.row [Value.slice (some { block := 7, off := 0, spot := some 1 }) 2 2, Value.slice (some { block := 0, off := 0 }) 2 2] 41)) (Tree.node (Tree.node (Tree.node Tree.leaf (some (Thing.row [Value.int IntKind.i64 0, Value.int IntKind.i64 0, Value.int IntKind.i64 1, Value.int IntKind.i64 0, Value.int IntKind.i64 price, Value.int IntKind.i64 qty, Value.int IntKind.i64 0, Value.int IntKind.i64 0] 30)) Tree.leaf) (some (Thing.row [Value.slice (some { block := 15, off := 0, spot := some 1 }) 2 2, Value.slice (some { block := 8, off := 0 }) 2 2] 43)) Tree.leaf) (some (Thing.row [Value.int IntKind.i64 b1] 2)) (Tree.node Tree.leaf (some (Thing.row [Value.int IntKind.i64 b1] 2)) Tree.leaf))) (some (Thing.row [Value.int IntKind.i64 c0, Value.int IntKind.i64 c1] 2)) (Tree.node (Tree.node (Tree.node (Tree.node Tree.leaf (some (Thing.row [Value.int IntKind.i64 0, Value.int IntKind.i64 0, Value.int IntKind.i64 1, Value.int IntKind.i64 0, Value.int IntKind.i64 price, Value.int IntKind.i64 qty, Value.int IntKind.i64 0, Value.int IntKind.i64 0] 30)) Tree.leaf) (some (Thing.row [Value.int IntKind.i64 c0, Value.int IntKind.i64 c1] 2)) Tree.leaf) none (Tree.node (Tree.node Tree.leaf (some (Thing.row [Value.int IntKind.u64 (price * qty / 18446744073709551616), Value.int IntKind.u64 (price * qty % 18446744073709551616)] 47)) Tree.leaf) none Tree.leaf)) (some (Thing.row [Value.int IntKind.i64 b0] 2)) (Tree.node (Tree.node (Tree.node Tree.leaf (some (Thing.row [Value.int IntKind.u64 (price * qty / 18446744073709551616), Value.int IntKind.u64 (price * qty % 18446744073709551616)] 47)) Tree.leaf) (some (Thing.row [Value.int IntKind.i64 b0] 2)) Tree.leaf) (some (Thing.row [Value.slice (some { block := 5, off := 0 }) 1 1] 38)) (Tree.node Tree.leaf (some (Thing.row [Value.slice (some { block := 13, off := 0 }) 1 1] 38)) Tree.leaf))) }) hmix hX (by kernel_rfl) (by kernel_rfl) (of_decide_eq_true (by kernel_rfl)) (by kernel_rfl) (by kernel_rfl) (by kernel_rfl) ?_
              refine OD.run 1 (by kernel_rfl) ?_
              refine OD.as (Value.bool (c0 != c0)) (Value.bool false) (by kernel_rfl) (of_decide_eq_true (by kernel_rfl)) (by kernel_rfl) (congrArg Value.bool (bne_eq_false_iff_eq.2 rfl)) ?_
              refine OD.run 3 (by kernel_rfl) ?_
              refine OD.done (of_decide_eq_true (by kernel_rfl)) ?_
              refine then_n (by kernel_rfl) ?_
              refine Det.condF (by kernel_rfl) (false) (by kernel_rfl) rfl ?_
              refine Det.skipA (by kernel_rfl) ?_
              refine then_n (by kernel_rfl) ?_
              refine Det.opsA (by kernel_rfl) hX ?_
              refine OD.run 1 (by kernel_rfl) ?_
              refine OD.as (Value.int IntKind.i64 (IntKind.wrap IntKind.i64 ((↑j : Int) + 1))) (Value.int IntKind.i64 ((↑j : Int) + 1)) (by kernel_rfl) (of_decide_eq_true (by kernel_rfl)) (by kernel_rfl) (congrArg _ (by (rw [IntKind.wrap_i64]; omega))) ?_
              refine OD.run 1 (by kernel_rfl) ?_
              refine OD.done (of_decide_eq_true (by kernel_rfl)) ?_
              refine then_n (by kernel_rfl) ?_
              exact ⟨(j + 1, c0, c1, b0, b1), ⟨(show j + 1 ≤ 5 by omega), ⟨p1, p2⟩, ⟨p3, p4⟩, ⟨p5, p6⟩, ⟨p7, p8⟩⟩, (show 5 - (j + 1) < 5 - j by omega), by kernel_rfl, by kernel_rfl⟩
          · refine OD.as (Value.bool !inR (b1 + qty)) (Value.bool true) (by kernel_rfl) (of_decide_eq_true (by kernel_rfl)) (by kernel_rfl) (congrArg Value.bool (not_t (by exact c103))) ?_
            refine OD.run 11 (by kernel_rfl) ?_
            refine OD.done (of_decide_eq_true (by kernel_rfl)) ?_
            refine then_n (by kernel_rfl) ?_
            refine Det.condT (by kernel_rfl) (true) (by kernel_rfl) rfl ?_
            refine Det.seqA (by kernel_rfl) ?_
            refine Det.opsA (by kernel_rfl) hX ?_
            refine OD.run 1 (by kernel_rfl) ?_
            refine OD.done (of_decide_eq_true (by kernel_rfl)) ?_
            refine then_n (by kernel_rfl) ?_
            refine Det.retA (by kernel_rfl) ?_
            refine then_r (by kernel_rfl) ?_
            refine fin_r (Value.int IntKind.i64 15) (by kernel_rfl) (by kernel_rfl) ?_
            refine OD.run 1 (by kernel_rfl) ?_
            refine OD.done (of_decide_eq_true (by kernel_rfl)) ?_
            refine then_n (by kernel_rfl) ?_
            refine Det.seqA (by kernel_rfl) ?_
            refine Det.opsA (by kernel_rfl) hX ?_
            refine OD.run 3 (by kernel_rfl) ?_
            refine OD.callIn 10 ([Value.pointer (some { block := 9, off := 0 }), Value.agg #[Value.int IntKind.i64 0, Value.int IntKind.i64 0, Value.int IntKind.i64 1, Value.int IntKind.i64 0, Value.int IntKind.i64 price, Value.int IntKind.i64 qty, Value.int IntKind.i64 0, Value.int IntKind.i64 0]]) (by kernel_rfl) (of_decide_eq_true (by kernel_rfl)) (by kernel_rfl) (by kernel_rfl) (by kernel_rfl) ?_
            refine Det.enter Try.func10 (by kernel_rfl) (of_decide_eq_true (by kernel_rfl)) ?_
            refine Det.seqA (by kernel_rfl) ?_
            refine Det.opsA (by kernel_rfl) hX ?_
            refine OD.run 2 (by kernel_rfl) ?_
            refine OD.done (of_decide_eq_true (by kernel_rfl)) ?_
            refine then_n (by kernel_rfl) ?_
            refine Det.seqA (by kernel_rfl) ?_
            refine Det.seqA (by kernel_rfl) ?_
            refine Det.drawA (by kernel_rfl) hmix hX (by kernel_rfl) (by kernel_rfl) ?_
            refine OD.run 3 (by kernel_rfl) ?_
            refine OD.callEv 100 21 ([Value.pointer (some { block := 9, off := 0 }), Value.int IntKind.i64 1]) (Value.bool true) ({ next := 20, tree := Tree.node (Tree.node (Tree.node (Tree.node (Tree.node Tree.leaf (some (Thing.row [Value.slice (some { block := 10, off := 0 }) 1 1, Value.slice (some { block := 13, off := 0 }) 1 1] 38)) Tree.leaf) (some (Thing.row [Value.slice (some { block := 2, off := 0 }) 1 1, Value.slice (some { block := 5, off := 0 }) 1 1] 38)) Tree.leaf) (some (Thing.row [Value.slice (some { block := 2, off := 0 }) 1 1] 38)) (Tree.node (Tree.node Tree.leaf (some (Thing.row [Value.int IntKind.i64 0, Value.int IntKind.i64 0, Value.int IntKind.i64 1, Value.int IntKind.i64 0, Value.int IntKind.i64 price, Value.int IntKind.i64 qty, Value.int IntKind.i64 0, Value.int IntKind.i64 0] 30)) Tree.leaf) (some (Thing.row [Value.slice (some { block := 10, off := 0 }) 1 1] 38)) Tree.leaf)) (some (Thing.row [Value.slice (some { block := 7, off := 0, spot := some 1 }) 2 2, Value.slice (some { block := 0, off := 0 }) 2 2] 41)) (Tree.node (Tree.node (Tree.node Tree.leaf (some (Thing.row [Value.int IntKind.i64 0, Value.int IntKind.i64 0, Value.int IntKind.i64 1, Value.int IntKind.i64 0, Value.int IntKind.i64 price, Value.int IntKind.i64 qty, Value.int IntKind.i64 0, Value.int IntKind.i64 0] 30)) Tree.leaf) (some (Thing.row [Value.slice (some { block := 15, off := 0, spot := some 1 }) 2 2, Value.slice (some { block := 8, off := 0 }) 2 2] 43)) Tree.leaf) (some (Thing.row [Value.int IntKind.i64 b1] 2)) (Tree.node Tree.leaf (some (Thing.row [Value.int IntKind.i64 b1] 2)) Tree.leaf))) (some (Thing.row [Value.int IntKind.i64 c0, Value.int IntKind.i64 c1] 2)) (Tree.node (Tree.node (Tree.node (Tree.node Tree.leaf (some (Thing.row [Value.int IntKind.i64 0, Value.int IntKind.i64 0, Value.int IntKind.i64 1, Value.int IntKind.i64 0, Value.int IntKind.i64 price, Value.int IntKind.i64 qty, Value.int IntKind.i64 0, Value.int IntKind.i64 0] 30)) Tree.leaf) (some (Thing.row [Value.int IntKind.i64 c0, Value.int IntKind.i64 c1] 2)) Tree.leaf) none (Tree.node Tree.leaf none Tree.leaf)) (some (Thing.row [Value.int IntKind.i64 b0] 2)) (Tree.node (Tree.node (Tree.node Tree.leaf (some (Thing.row [Value.int IntKind.u64 (price * qty / 18446744073709551616), Value.int IntKind.u64 (price * qty % 18446744073709551616)] 47)) Tree.leaf) (some (Thing.row [Value.int IntKind.i64 b0] 2)) Tree.leaf) (some (Thing.row [Value.slice (some { block := 5, off := 0 }) 1 1] 38)) (Tree.node Tree.leaf (some (Thing.row [Value.slice (some { block := 13, off := 0 }) 1 1] 38)) Tree.leaf))) }) hmix hX (by kernel_rfl) (by kernel_rfl) (of_decide_eq_true (by kernel_rfl)) (by kernel_rfl) (by kernel_rfl) (by kernel_rfl) ?_
            refine OD.run 5 (by kernel_rfl) ?_
            refine OD.callEv 100 21 ([Value.pointer (some { block := 9, off := 0 }), Value.int IntKind.i64 0]) (Value.bool true) ({ next := 20, tree := Tree.node (Tree.node (Tree.node (Tree.node (Tree.node Tree.leaf (some (Thing.row [Value.slice (some { block := 10, off := 0 }) 1 1, Value.slice (some { block := 13, off := 0 }) 1 1] 38)) Tree.leaf) (some (Thing.row [Value.slice (some { block := 2, off := 0 }) 1 1, Value.slice (some { block := 5, off := 0 }) 1 1] 38)) Tree.leaf) (some (Thing.row [Value.slice (some { block := 2, off := 0 }) 1 1] 38)) (Tree.node (Tree.node Tree.leaf (some (Thing.row [Value.int IntKind.i64 0, Value.int IntKind.i64 0, Value.int IntKind.i64 1, Value.int IntKind.i64 0, Value.int IntKind.i64 price, Value.int IntKind.i64 qty, Value.int IntKind.i64 0, Value.int IntKind.i64 0] 30)) Tree.leaf) (some (Thing.row [Value.slice (some { block := 10, off := 0 }) 1 1] 38)) Tree.leaf)) (some (Thing.row [Value.slice (some { block := 7, off := 0, spot := some 1 }) 2 2, Value.slice (some { block := 0, off := 0 }) 2 2] 41)) (Tree.node (Tree.node (Tree.node Tree.leaf (some (Thing.row [Value.int IntKind.i64 0, Value.int IntKind.i64 0, Value.int IntKind.i64 1, Value.int IntKind.i64 0, Value.int IntKind.i64 price, Value.int IntKind.i64 qty, Value.int IntKind.i64 0, Value.int IntKind.i64 0] 30)) Tree.leaf) (some (Thing.row [Value.slice (some { block := 15, off := 0, spot := some 1 }) 2 2, Value.slice (some { block := 8, off := 0 }) 2 2] 43)) Tree.leaf) (some (Thing.row [Value.int IntKind.i64 b1] 2)) (Tree.node Tree.leaf (some (Thing.row [Value.int IntKind.i64 b1] 2)) Tree.leaf))) (some (Thing.row [Value.int IntKind.i64 c0, Value.int IntKind.i64 c1] 2)) (Tree.node (Tree.node (Tree.node (Tree.node Tree.leaf (some (Thing.row [Value.int IntKind.i64 0, Value.int IntKind.i64 0, Value.int IntKind.i64 1, Value.int IntKind.i64 0, Value.int IntKind.i64 price, Value.int IntKind.i64 qty, Value.int IntKind.i64 0, Value.int IntKind.i64 0] 30)) Tree.leaf) (some (Thing.row [Value.int IntKind.i64 c0, Value.int IntKind.i64 c1] 2)) Tree.leaf) none (Tree.node Tree.leaf none Tree.leaf)) (some (Thing.row [Value.int IntKind.i64 b0] 2)) (Tree.node (Tree.node (Tree.node Tree.leaf (some (Thing.row [Value.int IntKind.u64 (price * qty / 18446744073709551616), Value.int IntKind.u64 (price * qty % 18446744073709551616)] 47)) Tree.leaf) (some (Thing.row [Value.int IntKind.i64 b0] 2)) Tree.leaf) (some (Thing.row [Value.slice (some { block := 5, off := 0 }) 1 1] 38)) (Tree.node Tree.leaf (some (Thing.row [Value.slice (some { block := 13, off := 0 }) 1 1] 38)) Tree.leaf))) }) hmix hX (by kernel_rfl) (by kernel_rfl) (of_decide_eq_true (by kernel_rfl)) (by kernel_rfl) (by kernel_rfl) (by kernel_rfl) ?_
            refine OD.run 29 (by kernel_rfl) ?_
            refine OD.as (Value.bool (decide (price < 1))) (Value.bool false) (by kernel_rfl) (of_decide_eq_true (by kernel_rfl)) (by kernel_rfl) (congrArg Value.bool (decide_eq_false (by exact h1))) ?_
            refine OD.run 4 (by kernel_rfl) ?_
            refine OD.as (Value.bool (decide (qty < 1))) (Value.bool false) (by kernel_rfl) (of_decide_eq_true (by kernel_rfl)) (by kernel_rfl) (congrArg Value.bool (decide_eq_false (by exact h2))) ?_
            refine OD.run 1 (by kernel_rfl) ?_
            refine OD.done (of_decide_eq_true (by kernel_rfl)) ?_
            refine then_n (by kernel_rfl) ?_
            refine Det.condF (by kernel_rfl) (false) (by kernel_rfl) rfl ?_
            refine Det.skipA (by kernel_rfl) ?_
            refine then_n (by kernel_rfl) ?_
            refine Det.seqA (by kernel_rfl) ?_
            refine Det.opsA (by kernel_rfl) hX ?_
            refine OD.run 4 (by kernel_rfl) ?_
            refine OD.callEq 22 ([Value.int IntKind.i64 price, Value.int IntKind.i64 qty]) (ref_Times _ _ (by omega) hA (by omega) hB _) (by kernel_rfl) (of_decide_eq_true (by kernel_rfl)) (by kernel_rfl) (by kernel_rfl) (by kernel_rfl) ?_
            refine OD.run 6 (by kernel_rfl) ?_
            refine OD.done (of_decide_eq_true (by kernel_rfl)) ?_
            refine then_n (by kernel_rfl) ?_
            refine Det.seqA (by kernel_rfl) ?_
            refine Det.opsA (by kernel_rfl) hX ?_
            refine OD.run 1 (by kernel_rfl) ?_
            refine OD.callEq 23 ([Value.agg #[Value.int IntKind.u64 (price * qty / 18446744073709551616), Value.int IntKind.u64 (price * qty % 18446744073709551616)]]) (ref_Narrow _ hp _) (by kernel_rfl) (of_decide_eq_true (by kernel_rfl)) (by kernel_rfl) (by kernel_rfl) (by kernel_rfl) ?_
            refine OD.run 2 (by kernel_rfl) ?_
            refine OD.as (Value.bool (inR (price * qty))) (Value.bool true) (by kernel_rfl) (of_decide_eq_true (by kernel_rfl)) (by kernel_rfl) (congrArg Value.bool (by exact c100)) ?_
            refine OD.run 2 (by kernel_rfl) ?_
            refine OD.done (of_decide_eq_true (by kernel_rfl)) ?_
            refine then_n (by kernel_rfl) ?_
            refine Det.seqA (by kernel_rfl) ?_
            refine Det.drawA (by kernel_rfl) hmix hX (by kernel_rfl) (by kernel_rfl) ?_
            refine OD.run 14 (by kernel_rfl) ?_
            refine OD.callEq 24 ([Value.int IntKind.i64 b1, Value.int IntKind.i64 qty]) (ref_Add _ _ (by omega) (by omega) (by omega) (by omega) _) (by kernel_rfl) (of_decide_eq_true (by kernel_rfl)) (by kernel_rfl) (by kernel_rfl) (by kernel_rfl) ?_
            refine OD.run 2 (by kernel_rfl) ?_
            refine OD.as (Value.bool (inR (b1 + qty))) (Value.bool false) (by kernel_rfl) (of_decide_eq_true (by kernel_rfl)) (by kernel_rfl) (congrArg Value.bool (by exact c103)) ?_
            refine OD.run 2 (by kernel_rfl) ?_
            refine OD.done (of_decide_eq_true (by kernel_rfl)) ?_
            refine then_n (by kernel_rfl) ?_
            refine Det.seqA (by kernel_rfl) ?_
            refine Det.drawA (by kernel_rfl) hmix hX (by kernel_rfl) (by kernel_rfl) ?_
            refine OD.run 14 (by kernel_rfl) ?_
            refine OD.callEq 25 ([Value.int IntKind.i64 b0, Value.int IntKind.i64 qty]) (ref_Sub _ _ (by omega) (by omega) (by omega) (by omega) _) (by kernel_rfl) (of_decide_eq_true (by kernel_rfl)) (by kernel_rfl) (by kernel_rfl) (by kernel_rfl) ?_
            refine OD.run 5 (by kernel_rfl) ?_
            refine OD.done (of_decide_eq_true (by kernel_rfl)) ?_
            refine then_n (by kernel_rfl) ?_
            refine Det.seqA (by kernel_rfl) ?_
            refine Det.drawA (by kernel_rfl) hmix hX (by kernel_rfl) (by kernel_rfl) ?_
            refine OD.run 9 (by kernel_rfl) ?_
            refine OD.callEq 25 ([Value.int IntKind.i64 c1, Value.int IntKind.i64 (keep (price * qty))]) (ref_Sub _ _ (by omega) (by omega) (by omega) (by omega) _) (by kernel_rfl) (of_decide_eq_true (by kernel_rfl)) (by kernel_rfl) (by kernel_rfl) (by kernel_rfl) ?_
            refine OD.run 5 (by kernel_rfl) ?_
            refine OD.done (of_decide_eq_true (by kernel_rfl)) ?_
            refine then_n (by kernel_rfl) ?_
            refine Det.seqA (by kernel_rfl) ?_
            refine Det.drawA (by kernel_rfl) hmix hX (by kernel_rfl) (by kernel_rfl) ?_
            refine OD.run 9 (by kernel_rfl) ?_
            refine OD.callEq 24 ([Value.int IntKind.i64 c0, Value.int IntKind.i64 (keep (price * qty))]) (ref_Add _ _ (by omega) (by omega) (by omega) (by omega) _) (by kernel_rfl) (of_decide_eq_true (by kernel_rfl)) (by kernel_rfl) (by kernel_rfl) (by kernel_rfl) ?_
            refine OD.run 5 (by kernel_rfl) ?_
            refine OD.done (of_decide_eq_true (by kernel_rfl)) ?_
            refine then_n (by kernel_rfl) ?_
            refine Det.seqA (by kernel_rfl) ?_
            refine Det.seqA (by kernel_rfl) ?_
            refine Det.opsA (by kernel_rfl) hX ?_
            refine OD.run 18 (by kernel_rfl) ?_
            refine OD.done (of_decide_eq_true (by kernel_rfl)) ?_
            refine then_n (by kernel_rfl) ?_
            refine Det.condT (by kernel_rfl) (true) (by kernel_rfl) rfl ?_
            refine Det.seqA (by kernel_rfl) ?_
            refine Det.opsA (by kernel_rfl) hX ?_
            refine OD.run 1 (by kernel_rfl) ?_
            refine OD.done (of_decide_eq_true (by kernel_rfl)) ?_
            refine then_n (by kernel_rfl) ?_
            refine Det.retA (by kernel_rfl) ?_
            refine then_r (by kernel_rfl) ?_
            refine fin_r (Value.int IntKind.i64 15) (by kernel_rfl) (by kernel_rfl) ?_
            refine OD.run 3 (by kernel_rfl) ?_
            refine OD.callEv 100 13 ([Value.pointer (some { block := 1, off := 0 }), Value.int IntKind.i64 0]) (Value.int IntKind.i64 c0) ({ next := 21, tree := Tree.node (Tree.node (Tree.node (Tree.node (Tree.node Tree.leaf (some (Thing.row [Value.slice (some { block := 10, off := 0 }) 1 1, Value.slice (some { block := 13, off := 0 }) 1 1] 38)) Tree.leaf) (some (Thing.row [Value.slice (some { block := 2, off := 0 }) 1 1, Value.slice (some { block := 5, off := 0 }) 1 1] 38)) Tree.leaf) (some (Thing.row [Value.slice (some { block := 2, off := 0 }) 1 1] 38)) (Tree.node (Tree.node Tree.leaf (some (Thing.row [Value.int IntKind.i64 0, Value.int IntKind.i64 0, Value.int IntKind.i64 1, Value.int IntKind.i64 0, Value.int IntKind.i64 price, Value.int IntKind.i64 qty, Value.int IntKind.i64 0, Value.int IntKind.i64 0] 30)) Tree.leaf) (some (Thing.row [Value.slice (some { block := 10, off := 0 }) 1 1] 38)) Tree.leaf)) (some (Thing.row [Value.slice (some { block := 7, off := 0, spot := some 1 }) 2 2, Value.slice (some { block := 0, off := 0 }) 2 2] 41)) (Tree.node (Tree.node (Tree.node Tree.leaf (some (Thing.row [Value.int IntKind.i64 0, Value.int IntKind.i64 0, Value.int IntKind.i64 1, Value.int IntKind.i64 0, Value.int IntKind.i64 price, Value.int IntKind.i64 qty, Value.int IntKind.i64 0, Value.int IntKind.i64 0] 30)) Tree.leaf) (some (Thing.row [Value.slice (some { block := 15, off := 0, spot := some 1 }) 2 2, Value.slice (some { block := 8, off := 0 }) 2 2] 43)) Tree.leaf) (some (Thing.row [Value.int IntKind.i64 b1] 2)) (Tree.node Tree.leaf (some (Thing.row [Value.int IntKind.i64 b1] 2)) Tree.leaf))) (some (Thing.row [Value.int IntKind.i64 c0, Value.int IntKind.i64 c1] 2)) (Tree.node (Tree.node (Tree.node (Tree.node Tree.leaf (some (Thing.row [Value.int IntKind.i64 0, Value.int IntKind.i64 0, Value.int IntKind.i64 1, Value.int IntKind.i64 0, Value.int IntKind.i64 price, Value.int IntKind.i64 qty, Value.int IntKind.i64 0, Value.int IntKind.i64 0] 30)) Tree.leaf) (some (Thing.row [Value.int IntKind.i64 c0, Value.int IntKind.i64 c1] 2)) Tree.leaf) none (Tree.node (Tree.node Tree.leaf (some (Thing.row [Value.int IntKind.u64 (price * qty / 18446744073709551616), Value.int IntKind.u64 (price * qty % 18446744073709551616)] 47)) Tree.leaf) none Tree.leaf)) (some (Thing.row [Value.int IntKind.i64 b0] 2)) (Tree.node (Tree.node (Tree.node Tree.leaf (some (Thing.row [Value.int IntKind.u64 (price * qty / 18446744073709551616), Value.int IntKind.u64 (price * qty % 18446744073709551616)] 47)) Tree.leaf) (some (Thing.row [Value.int IntKind.i64 b0] 2)) Tree.leaf) (some (Thing.row [Value.slice (some { block := 5, off := 0 }) 1 1] 38)) (Tree.node Tree.leaf (some (Thing.row [Value.slice (some { block := 13, off := 0 }) 1 1] 38)) Tree.leaf))) }) hmix hX (by kernel_rfl) (by kernel_rfl) (of_decide_eq_true (by kernel_rfl)) (by kernel_rfl) (by kernel_rfl) (by kernel_rfl) ?_
            refine OD.run 1 (by kernel_rfl) ?_
            refine OD.callEv 100 14 ([Value.pointer (some { block := 9, off := 0 }), Value.int IntKind.i64 0]) (Value.int IntKind.i64 c0) ({ next := 21, tree := Tree.node (Tree.node (Tree.node (Tree.node (Tree.node Tree.leaf (some (Thing.row [Value.slice (some { block := 10, off := 0 }) 1 1, Value.slice (some { block := 13, off := 0 }) 1 1] 38)) Tree.leaf) (some (Thing.row [Value.slice (some { block := 2, off := 0 }) 1 1, Value.slice (some { block := 5, off := 0 }) 1 1] 38)) Tree.leaf) (some (Thing.row [Value.slice (some { block := 2, off := 0 }) 1 1] 38)) (Tree.node (Tree.node Tree.leaf (some (Thing.row [Value.int IntKind.i64 0, Value.int IntKind.i64 0, Value.int IntKind.i64 1, Value.int IntKind.i64 0, Value.int IntKind.i64 price, Value.int IntKind.i64 qty, Value.int IntKind.i64 0, Value.int IntKind.i64 0] 30)) Tree.leaf) (some (Thing.row [Value.slice (some { block := 10, off := 0 }) 1 1] 38)) Tree.leaf)) (some (Thing.row [Value.slice (some { block := 7, off := 0, spot := some 1 }) 2 2, Value.slice (some { block := 0, off := 0 }) 2 2] 41)) (Tree.node (Tree.node (Tree.node Tree.leaf (some (Thing.row [Value.int IntKind.i64 0, Value.int IntKind.i64 0, Value.int IntKind.i64 1, Value.int IntKind.i64 0, Value.int IntKind.i64 price, Value.int IntKind.i64 qty, Value.int IntKind.i64 0, Value.int IntKind.i64 0] 30)) Tree.leaf) (some (Thing.row [Value.slice (some { block := 15, off := 0, spot := some 1 }) 2 2, Value.slice (some { block := 8, off := 0 }) 2 2] 43)) Tree.leaf) (some (Thing.row [Value.int IntKind.i64 b1] 2)) (Tree.node Tree.leaf (some (Thing.row [Value.int IntKind.i64 b1] 2)) Tree.leaf))) (some (Thing.row [Value.int IntKind.i64 c0, Value.int IntKind.i64 c1] 2)) (Tree.node (Tree.node (Tree.node (Tree.node Tree.leaf (some (Thing.row [Value.int IntKind.i64 0, Value.int IntKind.i64 0, Value.int IntKind.i64 1, Value.int IntKind.i64 0, Value.int IntKind.i64 price, Value.int IntKind.i64 qty, Value.int IntKind.i64 0, Value.int IntKind.i64 0] 30)) Tree.leaf) (some (Thing.row [Value.int IntKind.i64 c0, Value.int IntKind.i64 c1] 2)) Tree.leaf) none (Tree.node (Tree.node Tree.leaf (some (Thing.row [Value.int IntKind.u64 (price * qty / 18446744073709551616), Value.int IntKind.u64 (price * qty % 18446744073709551616)] 47)) Tree.leaf) none Tree.leaf)) (some (Thing.row [Value.int IntKind.i64 b0] 2)) (Tree.node (Tree.node (Tree.node Tree.leaf (some (Thing.row [Value.int IntKind.u64 (price * qty / 18446744073709551616), Value.int IntKind.u64 (price * qty % 18446744073709551616)] 47)) Tree.leaf) (some (Thing.row [Value.int IntKind.i64 b0] 2)) Tree.leaf) (some (Thing.row [Value.slice (some { block := 5, off := 0 }) 1 1] 38)) (Tree.node Tree.leaf (some (Thing.row [Value.slice (some { block := 13, off := 0 }) 1 1] 38)) Tree.leaf))) }) hmix hX (by kernel_rfl) (by kernel_rfl) (of_decide_eq_true (by kernel_rfl)) (by kernel_rfl) (by kernel_rfl) (by kernel_rfl) ?_
            refine OD.as (Value.bool (c0 != c0)) (Value.bool false) (by kernel_rfl) (of_decide_eq_true (by kernel_rfl)) (by kernel_rfl) (congrArg Value.bool (bne_eq_false_iff_eq.2 rfl)) ?_
            refine OD.run 3 (by kernel_rfl) ?_
            refine OD.callEv 100 11 ([Value.pointer (some { block := 1, off := 0 }), Value.int IntKind.i64 1, Value.int IntKind.i64 0]) (Value.int IntKind.i64 b1) ({ next := 21, tree := Tree.node (Tree.node (Tree.node (Tree.node (Tree.node Tree.leaf (some (Thing.row [Value.slice (some { block := 10, off := 0 }) 1 1, Value.slice (some { block := 13, off := 0 }) 1 1] 38)) Tree.leaf) (some (Thing.row [Value.slice (some { block := 2, off := 0 }) 1 1, Value.slice (some { block := 5, off := 0 }) 1 1] 38)) Tree.leaf) (some (Thing.row [Value.slice (some { block := 2, off := 0 }) 1 1] 38)) (Tree.node (Tree.node Tree.leaf (some (Thing.row [Value.int IntKind.i64 0, Value.int IntKind.i64 0, Value.int IntKind.i64 1, Value.int IntKind.i64 0, Value.int IntKind.i64 price, Value.int IntKind.i64 qty, Value.int IntKind.i64 0, Value.int IntKind.i64 0] 30)) Tree.leaf) (some (Thing.row [Value.slice (some { block := 10, off := 0 }) 1 1] 38)) Tree.leaf)) (some (Thing.row [Value.slice (some { block := 7, off := 0, spot := some 1 }) 2 2, Value.slice (some { block := 0, off := 0 }) 2 2] 41)) (Tree.node (Tree.node (Tree.node Tree.leaf (some (Thing.row [Value.int IntKind.i64 0, Value.int IntKind.i64 0, Value.int IntKind.i64 1, Value.int IntKind.i64 0, Value.int IntKind.i64 price, Value.int IntKind.i64 qty, Value.int IntKind.i64 0, Value.int IntKind.i64 0] 30)) Tree.leaf) (some (Thing.row [Value.slice (some { block := 15, off := 0, spot := some 1 }) 2 2, Value.slice (some { block := 8, off := 0 }) 2 2] 43)) Tree.leaf) (some (Thing.row [Value.int IntKind.i64 b1] 2)) (Tree.node Tree.leaf (some (Thing.row [Value.int IntKind.i64 b1] 2)) Tree.leaf))) (some (Thing.row [Value.int IntKind.i64 c0, Value.int IntKind.i64 c1] 2)) (Tree.node (Tree.node (Tree.node (Tree.node Tree.leaf (some (Thing.row [Value.int IntKind.i64 0, Value.int IntKind.i64 0, Value.int IntKind.i64 1, Value.int IntKind.i64 0, Value.int IntKind.i64 price, Value.int IntKind.i64 qty, Value.int IntKind.i64 0, Value.int IntKind.i64 0] 30)) Tree.leaf) (some (Thing.row [Value.int IntKind.i64 c0, Value.int IntKind.i64 c1] 2)) Tree.leaf) none (Tree.node (Tree.node Tree.leaf (some (Thing.row [Value.int IntKind.u64 (price * qty / 18446744073709551616), Value.int IntKind.u64 (price * qty % 18446744073709551616)] 47)) Tree.leaf) none Tree.leaf)) (some (Thing.row [Value.int IntKind.i64 b0] 2)) (Tree.node (Tree.node (Tree.node Tree.leaf (some (Thing.row [Value.int IntKind.u64 (price * qty / 18446744073709551616), Value.int IntKind.u64 (price * qty % 18446744073709551616)] 47)) Tree.leaf) (some (Thing.row [Value.int IntKind.i64 b0] 2)) Tree.leaf) (some (Thing.row [Value.slice (some { block := 5, off := 0 }) 1 1] 38)) (Tree.node Tree.leaf (some (Thing.row [Value.slice (some { block := 13, off := 0 }) 1 1] 38)) Tree.leaf))) }) hmix hX (by kernel_rfl) (by kernel_rfl) (of_decide_eq_true (by kernel_rfl)) (by kernel_rfl) (by kernel_rfl) (by kernel_rfl) ?_
            refine OD.run 1 (by kernel_rfl) ?_
            refine OD.callEv 100 12 ([Value.pointer (some { block := 9, off := 0 }), Value.int IntKind.i64 1, Value.int IntKind.i64 0]) (Value.int IntKind.i64 b1) ({ next := 21, tree := Tree.node (Tree.node (Tree.node (Tree.node (Tree.node Tree.leaf (some (Thing.row [Value.slice (some { block := 10, off := 0 }) 1 1, Value.slice (some { block := 13, off := 0 }) 1 1] 38)) Tree.leaf) (some (Thing.row [Value.slice (some { block := 2, off := 0 }) 1 1, Value.slice (some { block := 5, off := 0 }) 1 1] 38)) Tree.leaf) (some (Thing.row [Value.slice (some { block := 2, off := 0 }) 1 1] 38)) (Tree.node (Tree.node Tree.leaf (some (Thing.row [Value.int IntKind.i64 0, Value.int IntKind.i64 0, Value.int IntKind.i64 1, Value.int IntKind.i64 0, Value.int IntKind.i64 price, Value.int IntKind.i64 qty, Value.int IntKind.i64 0, Value.int IntKind.i64 0] 30)) Tree.leaf) (some (Thing.row [Value.slice (some { block := 10, off := 0 }) 1 1] 38)) Tree.leaf)) (some (Thing.row [Value.slice (some { block := 7, off := 0, spot := some 1 }) 2 2, Value.slice (some { block := 0, off := 0 }) 2 2] 41)) (Tree.node (Tree.node (Tree.node Tree.leaf (some (Thing.row [Value.int IntKind.i64 0, Value.int IntKind.i64 0, Value.int IntKind.i64 1, Value.int IntKind.i64 0, Value.int IntKind.i64 price, Value.int IntKind.i64 qty, Value.int IntKind.i64 0, Value.int IntKind.i64 0] 30)) Tree.leaf) (some (Thing.row [Value.slice (some { block := 15, off := 0, spot := some 1 }) 2 2, Value.slice (some { block := 8, off := 0 }) 2 2] 43)) Tree.leaf) (some (Thing.row [Value.int IntKind.i64 b1] 2)) (Tree.node Tree.leaf (some (Thing.row [Value.int IntKind.i64 b1] 2)) Tree.leaf))) (some (Thing.row [Value.int IntKind.i64 c0, Value.int IntKind.i64 c1] 2)) (Tree.node (Tree.node (Tree.node (Tree.node Tree.leaf (some (Thing.row [Value.int IntKind.i64 0, Value.int IntKind.i64 0, Value.int IntKind.i64 1, Value.int IntKind.i64 0, Value.int IntKind.i64 price, Value.int IntKind.i64 qty, Value.int IntKind.i64 0, Value.int IntKind.i64 0] 30)) Tree.leaf) (some (Thing.row [Value.int IntKind.i64 c0, Value.int IntKind.i64 c1] 2)) Tree.leaf) none (Tree.node (Tree.node Tree.leaf (some (Thing.row [Value.int IntKind.u64 (price * qty / 18446744073709551616), Value.int IntKind.u64 (price * qty % 18446744073709551616)] 47)) Tree.leaf) none Tree.leaf)) (some (Thing.row [Value.int IntKind.i64 b0] 2)) (Tree.node (Tree.node (Tree.node Tree.leaf (some (Thing.row [Value.int IntKind.u64 (price * qty / 18446744073709551616), Value.int IntKind.u64 (price * qty % 18446744073709551616)] 47)) Tree.leaf) (some (Thing.row [Value.int IntKind.i64 b0] 2)) Tree.leaf) (some (Thing.row [Value.slice (some { block := 5, off := 0 }) 1 1] 38)) (Tree.node Tree.leaf (some (Thing.row [Value.slice (some { block := 13, off := 0 }) 1 1] 38)) Tree.leaf))) }) hmix hX (by kernel_rfl) (by kernel_rfl) (of_decide_eq_true (by kernel_rfl)) (by kernel_rfl) (by kernel_rfl) (by kernel_rfl) ?_
            refine OD.as (Value.bool (b1 != b1)) (Value.bool false) (by kernel_rfl) (of_decide_eq_true (by kernel_rfl)) (by kernel_rfl) (congrArg Value.bool (bne_eq_false_iff_eq.2 rfl)) ?_
            refine OD.run 9 (by kernel_rfl) ?_
            refine OD.callEv 100 13 ([Value.pointer (some { block := 1, off := 0 }), Value.int IntKind.i64 0]) (Value.int IntKind.i64 c0) ({ next := 21, tree := Tree.node (Tree.node (Tree.node (Tree.node (Tree.node Tree.leaf (some (Thing.row [Value.slice (some { block := 10, off := 0 }) 1 1, Value.slice (some { block := 13, off := 0 }) 1 1] 38)) Tree.leaf) (some (Thing.row [Value.slice (some { block := 2, off := 0 }) 1 1, Value.slice (some { block := 5, off := 0 }) 1 1] 38)) Tree.leaf) (some (Thing.row [Value.slice (some { block := 2, off := 0 }) 1 1] 38)) (Tree.node (Tree.node Tree.leaf (some (Thing.row [Value.int IntKind.i64 0, Value.int IntKind.i64 0, Value.int IntKind.i64 1, Value.int IntKind.i64 0, Value.int IntKind.i64 price, Value.int IntKind.i64 qty, Value.int IntKind.i64 0, Value.int IntKind.i64 0] 30)) Tree.leaf) (some (Thing.row [Value.slice (some { block := 10, off := 0 }) 1 1] 38)) Tree.leaf)) (some (Thing.row [Value.slice (some { block := 7, off := 0, spot := some 1 }) 2 2, Value.slice (some { block := 0, off := 0 }) 2 2] 41)) (Tree.node (Tree.node (Tree.node Tree.leaf (some (Thing.row [Value.int IntKind.i64 0, Value.int IntKind.i64 0, Value.int IntKind.i64 1, Value.int IntKind.i64 0, Value.int IntKind.i64 price, Value.int IntKind.i64 qty, Value.int IntKind.i64 0, Value.int IntKind.i64 0] 30)) Tree.leaf) (some (Thing.row [Value.slice (some { block := 15, off := 0, spot := some 1 }) 2 2, Value.slice (some { block := 8, off := 0 }) 2 2] 43)) Tree.leaf) (some (Thing.row [Value.int IntKind.i64 b1] 2)) (Tree.node Tree.leaf (some (Thing.row [Value.int IntKind.i64 b1] 2)) Tree.leaf))) (some (Thing.row [Value.int IntKind.i64 c0, Value.int IntKind.i64 c1] 2)) (Tree.node (Tree.node (Tree.node (Tree.node Tree.leaf (some (Thing.row [Value.int IntKind.i64 0, Value.int IntKind.i64 0, Value.int IntKind.i64 1, Value.int IntKind.i64 0, Value.int IntKind.i64 price, Value.int IntKind.i64 qty, Value.int IntKind.i64 0, Value.int IntKind.i64 0] 30)) Tree.leaf) (some (Thing.row [Value.int IntKind.i64 c0, Value.int IntKind.i64 c1] 2)) Tree.leaf) none (Tree.node (Tree.node Tree.leaf (some (Thing.row [Value.int IntKind.u64 (price * qty / 18446744073709551616), Value.int IntKind.u64 (price * qty % 18446744073709551616)] 47)) Tree.leaf) none Tree.leaf)) (some (Thing.row [Value.int IntKind.i64 b0] 2)) (Tree.node (Tree.node (Tree.node Tree.leaf (some (Thing.row [Value.int IntKind.u64 (price * qty / 18446744073709551616), Value.int IntKind.u64 (price * qty % 18446744073709551616)] 47)) Tree.leaf) (some (Thing.row [Value.int IntKind.i64 b0] 2)) Tree.leaf) (some (Thing.row [Value.slice (some { block := 5, off := 0 }) 1 1] 38)) (Tree.node Tree.leaf (some (Thing.row [Value.slice (some { block := 13, off := 0 }) 1 1] 38)) Tree.leaf))) }) hmix hX (by kernel_rfl) (by kernel_rfl) (of_decide_eq_true (by kernel_rfl)) (by kernel_rfl) (by kernel_rfl) (by kernel_rfl) ?_
            refine OD.run 1 (by kernel_rfl) ?_
            refine OD.as (Value.bool (c0 != c0)) (Value.bool false) (by kernel_rfl) (of_decide_eq_true (by kernel_rfl)) (by kernel_rfl) (congrArg Value.bool (bne_eq_false_iff_eq.2 rfl)) ?_
            refine OD.run 3 (by kernel_rfl) ?_
            refine OD.done (of_decide_eq_true (by kernel_rfl)) ?_
            refine then_n (by kernel_rfl) ?_
            refine Det.condF (by kernel_rfl) (false) (by kernel_rfl) rfl ?_
            refine Det.skipA (by kernel_rfl) ?_
            refine then_n (by kernel_rfl) ?_
            refine Det.opsA (by kernel_rfl) hX ?_
            refine OD.run 1 (by kernel_rfl) ?_
            refine OD.as (Value.int IntKind.i64 (IntKind.wrap IntKind.i64 ((↑j : Int) + 1))) (Value.int IntKind.i64 ((↑j : Int) + 1)) (by kernel_rfl) (of_decide_eq_true (by kernel_rfl)) (by kernel_rfl) (congrArg _ (by (rw [IntKind.wrap_i64]; omega))) ?_
            refine OD.run 1 (by kernel_rfl) ?_
            refine OD.done (of_decide_eq_true (by kernel_rfl)) ?_
            refine then_n (by kernel_rfl) ?_
            exact ⟨(j + 1, c0, c1, b0, b1), ⟨(show j + 1 ≤ 5 by omega), ⟨p1, p2⟩, ⟨p3, p4⟩, ⟨p5, p6⟩, ⟨p7, p8⟩⟩, (show 5 - (j + 1) < 5 - j by omega), by kernel_rfl, by kernel_rfl⟩
        · refine OD.as (Value.bool !inR (price * qty)) (Value.bool true) (by kernel_rfl) (of_decide_eq_true (by kernel_rfl)) (by kernel_rfl) (congrArg Value.bool (not_t (by exact c100))) ?_
          refine OD.run 15 (by kernel_rfl) ?_
          refine OD.done (of_decide_eq_true (by kernel_rfl)) ?_
          refine then_n (by kernel_rfl) ?_
          refine Det.condT (by kernel_rfl) (true) (by kernel_rfl) rfl ?_
          refine Det.seqA (by kernel_rfl) ?_
          refine Det.opsA (by kernel_rfl) hX ?_
          refine OD.run 1 (by kernel_rfl) ?_
          refine OD.done (of_decide_eq_true (by kernel_rfl)) ?_
          refine then_n (by kernel_rfl) ?_
          refine Det.retA (by kernel_rfl) ?_
          refine then_r (by kernel_rfl) ?_
          refine fin_r (Value.int IntKind.i64 15) (by kernel_rfl) (by kernel_rfl) ?_
          refine OD.run 1 (by kernel_rfl) ?_
          refine OD.done (of_decide_eq_true (by kernel_rfl)) ?_
          refine then_n (by kernel_rfl) ?_
          refine Det.seqA (by kernel_rfl) ?_
          refine Det.opsA (by kernel_rfl) hX ?_
          refine OD.run 3 (by kernel_rfl) ?_
          refine OD.callIn 10 ([Value.pointer (some { block := 9, off := 0 }), Value.agg #[Value.int IntKind.i64 0, Value.int IntKind.i64 0, Value.int IntKind.i64 1, Value.int IntKind.i64 0, Value.int IntKind.i64 price, Value.int IntKind.i64 qty, Value.int IntKind.i64 0, Value.int IntKind.i64 0]]) (by kernel_rfl) (of_decide_eq_true (by kernel_rfl)) (by kernel_rfl) (by kernel_rfl) (by kernel_rfl) ?_
          refine Det.enter Try.func10 (by kernel_rfl) (of_decide_eq_true (by kernel_rfl)) ?_
          refine Det.seqA (by kernel_rfl) ?_
          refine Det.opsA (by kernel_rfl) hX ?_
          refine OD.run 2 (by kernel_rfl) ?_
          refine OD.done (of_decide_eq_true (by kernel_rfl)) ?_
          refine then_n (by kernel_rfl) ?_
          refine Det.seqA (by kernel_rfl) ?_
          refine Det.seqA (by kernel_rfl) ?_
          refine Det.drawA (by kernel_rfl) hmix hX (by kernel_rfl) (by kernel_rfl) ?_
          refine OD.run 3 (by kernel_rfl) ?_
          refine OD.callEv 100 21 ([Value.pointer (some { block := 9, off := 0 }), Value.int IntKind.i64 1]) (Value.bool true) ({ next := 20, tree := Tree.node (Tree.node (Tree.node (Tree.node (Tree.node Tree.leaf (some (Thing.row [Value.slice (some { block := 10, off := 0 }) 1 1, Value.slice (some { block := 13, off := 0 }) 1 1] 38)) Tree.leaf) (some (Thing.row [Value.slice (some { block := 2, off := 0 }) 1 1, Value.slice (some { block := 5, off := 0 }) 1 1] 38)) Tree.leaf) (some (Thing.row [Value.slice (some { block := 2, off := 0 }) 1 1] 38)) (Tree.node (Tree.node Tree.leaf (some (Thing.row [Value.int IntKind.i64 0, Value.int IntKind.i64 0, Value.int IntKind.i64 1, Value.int IntKind.i64 0, Value.int IntKind.i64 price, Value.int IntKind.i64 qty, Value.int IntKind.i64 0, Value.int IntKind.i64 0] 30)) Tree.leaf) (some (Thing.row [Value.slice (some { block := 10, off := 0 }) 1 1] 38)) Tree.leaf)) (some (Thing.row [Value.slice (some { block := 7, off := 0, spot := some 1 }) 2 2, Value.slice (some { block := 0, off := 0 }) 2 2] 41)) (Tree.node (Tree.node (Tree.node Tree.leaf (some (Thing.row [Value.int IntKind.i64 0, Value.int IntKind.i64 0, Value.int IntKind.i64 1, Value.int IntKind.i64 0, Value.int IntKind.i64 price, Value.int IntKind.i64 qty, Value.int IntKind.i64 0, Value.int IntKind.i64 0] 30)) Tree.leaf) (some (Thing.row [Value.slice (some { block := 15, off := 0, spot := some 1 }) 2 2, Value.slice (some { block := 8, off := 0 }) 2 2] 43)) Tree.leaf) (some (Thing.row [Value.int IntKind.i64 b1] 2)) (Tree.node Tree.leaf (some (Thing.row [Value.int IntKind.i64 b1] 2)) Tree.leaf))) (some (Thing.row [Value.int IntKind.i64 c0, Value.int IntKind.i64 c1] 2)) (Tree.node (Tree.node (Tree.node (Tree.node Tree.leaf (some (Thing.row [Value.int IntKind.i64 0, Value.int IntKind.i64 0, Value.int IntKind.i64 1, Value.int IntKind.i64 0, Value.int IntKind.i64 price, Value.int IntKind.i64 qty, Value.int IntKind.i64 0, Value.int IntKind.i64 0] 30)) Tree.leaf) (some (Thing.row [Value.int IntKind.i64 c0, Value.int IntKind.i64 c1] 2)) Tree.leaf) none (Tree.node Tree.leaf none Tree.leaf)) (some (Thing.row [Value.int IntKind.i64 b0] 2)) (Tree.node (Tree.node (Tree.node Tree.leaf (some (Thing.row [Value.int IntKind.u64 (price * qty / 18446744073709551616), Value.int IntKind.u64 (price * qty % 18446744073709551616)] 47)) Tree.leaf) (some (Thing.row [Value.int IntKind.i64 b0] 2)) Tree.leaf) (some (Thing.row [Value.slice (some { block := 5, off := 0 }) 1 1] 38)) (Tree.node Tree.leaf (some (Thing.row [Value.slice (some { block := 13, off := 0 }) 1 1] 38)) Tree.leaf))) }) hmix hX (by kernel_rfl) (by kernel_rfl) (of_decide_eq_true (by kernel_rfl)) (by kernel_rfl) (by kernel_rfl) (by kernel_rfl) ?_
          refine OD.run 5 (by kernel_rfl) ?_
          refine OD.callEv 100 21 ([Value.pointer (some { block := 9, off := 0 }), Value.int IntKind.i64 0]) (Value.bool true) ({ next := 20, tree := Tree.node (Tree.node (Tree.node (Tree.node (Tree.node Tree.leaf (some (Thing.row [Value.slice (some { block := 10, off := 0 }) 1 1, Value.slice (some { block := 13, off := 0 }) 1 1] 38)) Tree.leaf) (some (Thing.row [Value.slice (some { block := 2, off := 0 }) 1 1, Value.slice (some { block := 5, off := 0 }) 1 1] 38)) Tree.leaf) (some (Thing.row [Value.slice (some { block := 2, off := 0 }) 1 1] 38)) (Tree.node (Tree.node Tree.leaf (some (Thing.row [Value.int IntKind.i64 0, Value.int IntKind.i64 0, Value.int IntKind.i64 1, Value.int IntKind.i64 0, Value.int IntKind.i64 price, Value.int IntKind.i64 qty, Value.int IntKind.i64 0, Value.int IntKind.i64 0] 30)) Tree.leaf) (some (Thing.row [Value.slice (some { block := 10, off := 0 }) 1 1] 38)) Tree.leaf)) (some (Thing.row [Value.slice (some { block := 7, off := 0, spot := some 1 }) 2 2, Value.slice (some { block := 0, off := 0 }) 2 2] 41)) (Tree.node (Tree.node (Tree.node Tree.leaf (some (Thing.row [Value.int IntKind.i64 0, Value.int IntKind.i64 0, Value.int IntKind.i64 1, Value.int IntKind.i64 0, Value.int IntKind.i64 price, Value.int IntKind.i64 qty, Value.int IntKind.i64 0, Value.int IntKind.i64 0] 30)) Tree.leaf) (some (Thing.row [Value.slice (some { block := 15, off := 0, spot := some 1 }) 2 2, Value.slice (some { block := 8, off := 0 }) 2 2] 43)) Tree.leaf) (some (Thing.row [Value.int IntKind.i64 b1] 2)) (Tree.node Tree.leaf (some (Thing.row [Value.int IntKind.i64 b1] 2)) Tree.leaf))) (some (Thing.row [Value.int IntKind.i64 c0, Value.int IntKind.i64 c1] 2)) (Tree.node (Tree.node (Tree.node (Tree.node Tree.leaf (some (Thing.row [Value.int IntKind.i64 0, Value.int IntKind.i64 0, Value.int IntKind.i64 1, Value.int IntKind.i64 0, Value.int IntKind.i64 price, Value.int IntKind.i64 qty, Value.int IntKind.i64 0, Value.int IntKind.i64 0] 30)) Tree.leaf) (some (Thing.row [Value.int IntKind.i64 c0, Value.int IntKind.i64 c1] 2)) Tree.leaf) none (Tree.node Tree.leaf none Tree.leaf)) (some (Thing.row [Value.int IntKind.i64 b0] 2)) (Tree.node (Tree.node (Tree.node Tree.leaf (some (Thing.row [Value.int IntKind.u64 (price * qty / 18446744073709551616), Value.int IntKind.u64 (price * qty % 18446744073709551616)] 47)) Tree.leaf) (some (Thing.row [Value.int IntKind.i64 b0] 2)) Tree.leaf) (some (Thing.row [Value.slice (some { block := 5, off := 0 }) 1 1] 38)) (Tree.node Tree.leaf (some (Thing.row [Value.slice (some { block := 13, off := 0 }) 1 1] 38)) Tree.leaf))) }) hmix hX (by kernel_rfl) (by kernel_rfl) (of_decide_eq_true (by kernel_rfl)) (by kernel_rfl) (by kernel_rfl) (by kernel_rfl) ?_
          refine OD.run 29 (by kernel_rfl) ?_
          refine OD.as (Value.bool (decide (price < 1))) (Value.bool false) (by kernel_rfl) (of_decide_eq_true (by kernel_rfl)) (by kernel_rfl) (congrArg Value.bool (decide_eq_false (by exact h1))) ?_
          refine OD.run 4 (by kernel_rfl) ?_
          refine OD.as (Value.bool (decide (qty < 1))) (Value.bool false) (by kernel_rfl) (of_decide_eq_true (by kernel_rfl)) (by kernel_rfl) (congrArg Value.bool (decide_eq_false (by exact h2))) ?_
          refine OD.run 1 (by kernel_rfl) ?_
          refine OD.done (of_decide_eq_true (by kernel_rfl)) ?_
          refine then_n (by kernel_rfl) ?_
          refine Det.condF (by kernel_rfl) (false) (by kernel_rfl) rfl ?_
          refine Det.skipA (by kernel_rfl) ?_
          refine then_n (by kernel_rfl) ?_
          refine Det.seqA (by kernel_rfl) ?_
          refine Det.opsA (by kernel_rfl) hX ?_
          refine OD.run 4 (by kernel_rfl) ?_
          refine OD.callEq 22 ([Value.int IntKind.i64 price, Value.int IntKind.i64 qty]) (ref_Times _ _ (by omega) hA (by omega) hB _) (by kernel_rfl) (of_decide_eq_true (by kernel_rfl)) (by kernel_rfl) (by kernel_rfl) (by kernel_rfl) ?_
          refine OD.run 6 (by kernel_rfl) ?_
          refine OD.done (of_decide_eq_true (by kernel_rfl)) ?_
          refine then_n (by kernel_rfl) ?_
          refine Det.seqA (by kernel_rfl) ?_
          refine Det.opsA (by kernel_rfl) hX ?_
          refine OD.run 1 (by kernel_rfl) ?_
          refine OD.callEq 23 ([Value.agg #[Value.int IntKind.u64 (price * qty / 18446744073709551616), Value.int IntKind.u64 (price * qty % 18446744073709551616)]]) (ref_Narrow _ hp _) (by kernel_rfl) (of_decide_eq_true (by kernel_rfl)) (by kernel_rfl) (by kernel_rfl) (by kernel_rfl) ?_
          refine OD.run 2 (by kernel_rfl) ?_
          refine OD.as (Value.bool (inR (price * qty))) (Value.bool false) (by kernel_rfl) (of_decide_eq_true (by kernel_rfl)) (by kernel_rfl) (congrArg Value.bool (by exact c100)) ?_
          refine OD.run 2 (by kernel_rfl) ?_
          refine OD.done (of_decide_eq_true (by kernel_rfl)) ?_
          refine then_n (by kernel_rfl) ?_
          refine Det.seqA (by kernel_rfl) ?_
          refine Det.drawA (by kernel_rfl) hmix hX (by kernel_rfl) (by kernel_rfl) ?_
          refine OD.run 14 (by kernel_rfl) ?_
          refine OD.callEq 24 ([Value.int IntKind.i64 b1, Value.int IntKind.i64 qty]) (ref_Add _ _ (by omega) (by omega) (by omega) (by omega) _) (by kernel_rfl) (of_decide_eq_true (by kernel_rfl)) (by kernel_rfl) (by kernel_rfl) (by kernel_rfl) ?_
          refine OD.run 5 (by kernel_rfl) ?_
          refine OD.done (of_decide_eq_true (by kernel_rfl)) ?_
          refine then_n (by kernel_rfl) ?_
          refine Det.seqA (by kernel_rfl) ?_
          refine Det.drawA (by kernel_rfl) hmix hX (by kernel_rfl) (by kernel_rfl) ?_
          refine OD.run 14 (by kernel_rfl) ?_
          refine OD.callEq 25 ([Value.int IntKind.i64 b0, Value.int IntKind.i64 qty]) (ref_Sub _ _ (by omega) (by omega) (by omega) (by omega) _) (by kernel_rfl) (of_decide_eq_true (by kernel_rfl)) (by kernel_rfl) (by kernel_rfl) (by kernel_rfl) ?_
          refine OD.run 5 (by kernel_rfl) ?_
          refine OD.done (of_decide_eq_true (by kernel_rfl)) ?_
          refine then_n (by kernel_rfl) ?_
          refine Det.seqA (by kernel_rfl) ?_
          refine Det.drawA (by kernel_rfl) hmix hX (by kernel_rfl) (by kernel_rfl) ?_
          refine OD.run 9 (by kernel_rfl) ?_
          refine OD.callEq 25 ([Value.int IntKind.i64 c1, Value.int IntKind.i64 (keep (price * qty))]) (ref_Sub _ _ (by omega) (by omega) (by omega) (by omega) _) (by kernel_rfl) (of_decide_eq_true (by kernel_rfl)) (by kernel_rfl) (by kernel_rfl) (by kernel_rfl) ?_
          refine OD.run 5 (by kernel_rfl) ?_
          refine OD.done (of_decide_eq_true (by kernel_rfl)) ?_
          refine then_n (by kernel_rfl) ?_
          refine Det.seqA (by kernel_rfl) ?_
          refine Det.drawA (by kernel_rfl) hmix hX (by kernel_rfl) (by kernel_rfl) ?_
          refine OD.run 9 (by kernel_rfl) ?_
          refine OD.callEq 24 ([Value.int IntKind.i64 c0, Value.int IntKind.i64 (keep (price * qty))]) (ref_Add _ _ (by omega) (by omega) (by omega) (by omega) _) (by kernel_rfl) (of_decide_eq_true (by kernel_rfl)) (by kernel_rfl) (by kernel_rfl) (by kernel_rfl) ?_
          refine OD.run 5 (by kernel_rfl) ?_
          refine OD.done (of_decide_eq_true (by kernel_rfl)) ?_
          refine then_n (by kernel_rfl) ?_
          refine Det.seqA (by kernel_rfl) ?_
          refine Det.seqA (by kernel_rfl) ?_
          refine Det.opsA (by kernel_rfl) hX ?_
          refine OD.run 18 (by kernel_rfl) ?_
          refine OD.done (of_decide_eq_true (by kernel_rfl)) ?_
          refine then_n (by kernel_rfl) ?_
          refine Det.condT (by kernel_rfl) (true) (by kernel_rfl) rfl ?_
          refine Det.seqA (by kernel_rfl) ?_
          refine Det.opsA (by kernel_rfl) hX ?_
          refine OD.run 1 (by kernel_rfl) ?_
          refine OD.done (of_decide_eq_true (by kernel_rfl)) ?_
          refine then_n (by kernel_rfl) ?_
          refine Det.retA (by kernel_rfl) ?_
          refine then_r (by kernel_rfl) ?_
          refine fin_r (Value.int IntKind.i64 15) (by kernel_rfl) (by kernel_rfl) ?_
          refine OD.run 3 (by kernel_rfl) ?_
          refine OD.callEv 100 13 ([Value.pointer (some { block := 1, off := 0 }), Value.int IntKind.i64 0]) (Value.int IntKind.i64 c0) ({ next := 21, tree := Tree.node (Tree.node (Tree.node (Tree.node (Tree.node Tree.leaf (some (Thing.row [Value.slice (some { block := 10, off := 0 }) 1 1, Value.slice (some { block := 13, off := 0 }) 1 1] 38)) Tree.leaf) (some (Thing.row [Value.slice (some { block := 2, off := 0 }) 1 1, Value.slice (some { block := 5, off := 0 }) 1 1] 38)) Tree.leaf) (some (Thing.row [Value.slice (some { block := 2, off := 0 }) 1 1] 38)) (Tree.node (Tree.node Tree.leaf (some (Thing.row [Value.int IntKind.i64 0, Value.int IntKind.i64 0, Value.int IntKind.i64 1, Value.int IntKind.i64 0, Value.int IntKind.i64 price, Value.int IntKind.i64 qty, Value.int IntKind.i64 0, Value.int IntKind.i64 0] 30)) Tree.leaf) (some (Thing.row [Value.slice (some { block := 10, off := 0 }) 1 1] 38)) Tree.leaf)) (some (Thing.row [Value.slice (some { block := 7, off := 0, spot := some 1 }) 2 2, Value.slice (some { block := 0, off := 0 }) 2 2] 41)) (Tree.node (Tree.node (Tree.node Tree.leaf (some (Thing.row [Value.int IntKind.i64 0, Value.int IntKind.i64 0, Value.int IntKind.i64 1, Value.int IntKind.i64 0, Value.int IntKind.i64 price, Value.int IntKind.i64 qty, Value.int IntKind.i64 0, Value.int IntKind.i64 0] 30)) Tree.leaf) (some (Thing.row [Value.slice (some { block := 15, off := 0, spot := some 1 }) 2 2, Value.slice (some { block := 8, off := 0 }) 2 2] 43)) Tree.leaf) (some (Thing.row [Value.int IntKind.i64 b1] 2)) (Tree.node Tree.leaf (some (Thing.row [Value.int IntKind.i64 b1] 2)) Tree.leaf))) (some (Thing.row [Value.int IntKind.i64 c0, Value.int IntKind.i64 c1] 2)) (Tree.node (Tree.node (Tree.node (Tree.node Tree.leaf (some (Thing.row [Value.int IntKind.i64 0, Value.int IntKind.i64 0, Value.int IntKind.i64 1, Value.int IntKind.i64 0, Value.int IntKind.i64 price, Value.int IntKind.i64 qty, Value.int IntKind.i64 0, Value.int IntKind.i64 0] 30)) Tree.leaf) (some (Thing.row [Value.int IntKind.i64 c0, Value.int IntKind.i64 c1] 2)) Tree.leaf) none (Tree.node (Tree.node Tree.leaf (some (Thing.row [Value.int IntKind.u64 (price * qty / 18446744073709551616), Value.int IntKind.u64 (price * qty % 18446744073709551616)] 47)) Tree.leaf) none Tree.leaf)) (some (Thing.row [Value.int IntKind.i64 b0] 2)) (Tree.node (Tree.node (Tree.node Tree.leaf (some (Thing.row [Value.int IntKind.u64 (price * qty / 18446744073709551616), Value.int IntKind.u64 (price * qty % 18446744073709551616)] 47)) Tree.leaf) (some (Thing.row [Value.int IntKind.i64 b0] 2)) Tree.leaf) (some (Thing.row [Value.slice (some { block := 5, off := 0 }) 1 1] 38)) (Tree.node Tree.leaf (some (Thing.row [Value.slice (some { block := 13, off := 0 }) 1 1] 38)) Tree.leaf))) }) hmix hX (by kernel_rfl) (by kernel_rfl) (of_decide_eq_true (by kernel_rfl)) (by kernel_rfl) (by kernel_rfl) (by kernel_rfl) ?_
          refine OD.run 1 (by kernel_rfl) ?_
          refine OD.callEv 100 14 ([Value.pointer (some { block := 9, off := 0 }), Value.int IntKind.i64 0]) (Value.int IntKind.i64 c0) ({ next := 21, tree := Tree.node (Tree.node (Tree.node (Tree.node (Tree.node Tree.leaf (some (Thing.row [Value.slice (some { block := 10, off := 0 }) 1 1, Value.slice (some { block := 13, off := 0 }) 1 1] 38)) Tree.leaf) (some (Thing.row [Value.slice (some { block := 2, off := 0 }) 1 1, Value.slice (some { block := 5, off := 0 }) 1 1] 38)) Tree.leaf) (some (Thing.row [Value.slice (some { block := 2, off := 0 }) 1 1] 38)) (Tree.node (Tree.node Tree.leaf (some (Thing.row [Value.int IntKind.i64 0, Value.int IntKind.i64 0, Value.int IntKind.i64 1, Value.int IntKind.i64 0, Value.int IntKind.i64 price, Value.int IntKind.i64 qty, Value.int IntKind.i64 0, Value.int IntKind.i64 0] 30)) Tree.leaf) (some (Thing.row [Value.slice (some { block := 10, off := 0 }) 1 1] 38)) Tree.leaf)) (some (Thing.row [Value.slice (some { block := 7, off := 0, spot := some 1 }) 2 2, Value.slice (some { block := 0, off := 0 }) 2 2] 41)) (Tree.node (Tree.node (Tree.node Tree.leaf (some (Thing.row [Value.int IntKind.i64 0, Value.int IntKind.i64 0, Value.int IntKind.i64 1, Value.int IntKind.i64 0, Value.int IntKind.i64 price, Value.int IntKind.i64 qty, Value.int IntKind.i64 0, Value.int IntKind.i64 0] 30)) Tree.leaf) (some (Thing.row [Value.slice (some { block := 15, off := 0, spot := some 1 }) 2 2, Value.slice (some { block := 8, off := 0 }) 2 2] 43)) Tree.leaf) (some (Thing.row [Value.int IntKind.i64 b1] 2)) (Tree.node Tree.leaf (some (Thing.row [Value.int IntKind.i64 b1] 2)) Tree.leaf))) (some (Thing.row [Value.int IntKind.i64 c0, Value.int IntKind.i64 c1] 2)) (Tree.node (Tree.node (Tree.node (Tree.node Tree.leaf (some (Thing.row [Value.int IntKind.i64 0, Value.int IntKind.i64 0, Value.int IntKind.i64 1, Value.int IntKind.i64 0, Value.int IntKind.i64 price, Value.int IntKind.i64 qty, Value.int IntKind.i64 0, Value.int IntKind.i64 0] 30)) Tree.leaf) (some (Thing.row [Value.int IntKind.i64 c0, Value.int IntKind.i64 c1] 2)) Tree.leaf) none (Tree.node (Tree.node Tree.leaf (some (Thing.row [Value.int IntKind.u64 (price * qty / 18446744073709551616), Value.int IntKind.u64 (price * qty % 18446744073709551616)] 47)) Tree.leaf) none Tree.leaf)) (some (Thing.row [Value.int IntKind.i64 b0] 2)) (Tree.node (Tree.node (Tree.node Tree.leaf (some (Thing.row [Value.int IntKind.u64 (price * qty / 18446744073709551616), Value.int IntKind.u64 (price * qty % 18446744073709551616)] 47)) Tree.leaf) (some (Thing.row [Value.int IntKind.i64 b0] 2)) Tree.leaf) (some (Thing.row [Value.slice (some { block := 5, off := 0 }) 1 1] 38)) (Tree.node Tree.leaf (some (Thing.row [Value.slice (some { block := 13, off := 0 }) 1 1] 38)) Tree.leaf))) }) hmix hX (by kernel_rfl) (by kernel_rfl) (of_decide_eq_true (by kernel_rfl)) (by kernel_rfl) (by kernel_rfl) (by kernel_rfl) ?_
          refine OD.as (Value.bool (c0 != c0)) (Value.bool false) (by kernel_rfl) (of_decide_eq_true (by kernel_rfl)) (by kernel_rfl) (congrArg Value.bool (bne_eq_false_iff_eq.2 rfl)) ?_
          refine OD.run 3 (by kernel_rfl) ?_
          refine OD.callEv 100 11 ([Value.pointer (some { block := 1, off := 0 }), Value.int IntKind.i64 1, Value.int IntKind.i64 0]) (Value.int IntKind.i64 b1) ({ next := 21, tree := Tree.node (Tree.node (Tree.node (Tree.node (Tree.node Tree.leaf (some (Thing.row [Value.slice (some { block := 10, off := 0 }) 1 1, Value.slice (some { block := 13, off := 0 }) 1 1] 38)) Tree.leaf) (some (Thing.row [Value.slice (some { block := 2, off := 0 }) 1 1, Value.slice (some { block := 5, off := 0 }) 1 1] 38)) Tree.leaf) (some (Thing.row [Value.slice (some { block := 2, off := 0 }) 1 1] 38)) (Tree.node (Tree.node Tree.leaf (some (Thing.row [Value.int IntKind.i64 0, Value.int IntKind.i64 0, Value.int IntKind.i64 1, Value.int IntKind.i64 0, Value.int IntKind.i64 price, Value.int IntKind.i64 qty, Value.int IntKind.i64 0, Value.int IntKind.i64 0] 30)) Tree.leaf) (some (Thing.row [Value.slice (some { block := 10, off := 0 }) 1 1] 38)) Tree.leaf)) (some (Thing.row [Value.slice (some { block := 7, off := 0, spot := some 1 }) 2 2, Value.slice (some { block := 0, off := 0 }) 2 2] 41)) (Tree.node (Tree.node (Tree.node Tree.leaf (some (Thing.row [Value.int IntKind.i64 0, Value.int IntKind.i64 0, Value.int IntKind.i64 1, Value.int IntKind.i64 0, Value.int IntKind.i64 price, Value.int IntKind.i64 qty, Value.int IntKind.i64 0, Value.int IntKind.i64 0] 30)) Tree.leaf) (some (Thing.row [Value.slice (some { block := 15, off := 0, spot := some 1 }) 2 2, Value.slice (some { block := 8, off := 0 }) 2 2] 43)) Tree.leaf) (some (Thing.row [Value.int IntKind.i64 b1] 2)) (Tree.node Tree.leaf (some (Thing.row [Value.int IntKind.i64 b1] 2)) Tree.leaf))) (some (Thing.row [Value.int IntKind.i64 c0, Value.int IntKind.i64 c1] 2)) (Tree.node (Tree.node (Tree.node (Tree.node Tree.leaf (some (Thing.row [Value.int IntKind.i64 0, Value.int IntKind.i64 0, Value.int IntKind.i64 1, Value.int IntKind.i64 0, Value.int IntKind.i64 price, Value.int IntKind.i64 qty, Value.int IntKind.i64 0, Value.int IntKind.i64 0] 30)) Tree.leaf) (some (Thing.row [Value.int IntKind.i64 c0, Value.int IntKind.i64 c1] 2)) Tree.leaf) none (Tree.node (Tree.node Tree.leaf (some (Thing.row [Value.int IntKind.u64 (price * qty / 18446744073709551616), Value.int IntKind.u64 (price * qty % 18446744073709551616)] 47)) Tree.leaf) none Tree.leaf)) (some (Thing.row [Value.int IntKind.i64 b0] 2)) (Tree.node (Tree.node (Tree.node Tree.leaf (some (Thing.row [Value.int IntKind.u64 (price * qty / 18446744073709551616), Value.int IntKind.u64 (price * qty % 18446744073709551616)] 47)) Tree.leaf) (some (Thing.row [Value.int IntKind.i64 b0] 2)) Tree.leaf) (some (Thing.row [Value.slice (some { block := 5, off := 0 }) 1 1] 38)) (Tree.node Tree.leaf (some (Thing.row [Value.slice (some { block := 13, off := 0 }) 1 1] 38)) Tree.leaf))) }) hmix hX (by kernel_rfl) (by kernel_rfl) (of_decide_eq_true (by kernel_rfl)) (by kernel_rfl) (by kernel_rfl) (by kernel_rfl) ?_
          refine OD.run 1 (by kernel_rfl) ?_
          refine OD.callEv 100 12 ([Value.pointer (some { block := 9, off := 0 }), Value.int IntKind.i64 1, Value.int IntKind.i64 0]) (Value.int IntKind.i64 b1) ({ next := 21, tree := Tree.node (Tree.node (Tree.node (Tree.node (Tree.node Tree.leaf (some (Thing.row [Value.slice (some { block := 10, off := 0 }) 1 1, Value.slice (some { block := 13, off := 0 }) 1 1] 38)) Tree.leaf) (some (Thing.row [Value.slice (some { block := 2, off := 0 }) 1 1, Value.slice (some { block := 5, off := 0 }) 1 1] 38)) Tree.leaf) (some (Thing.row [Value.slice (some { block := 2, off := 0 }) 1 1] 38)) (Tree.node (Tree.node Tree.leaf (some (Thing.row [Value.int IntKind.i64 0, Value.int IntKind.i64 0, Value.int IntKind.i64 1, Value.int IntKind.i64 0, Value.int IntKind.i64 price, Value.int IntKind.i64 qty, Value.int IntKind.i64 0, Value.int IntKind.i64 0] 30)) Tree.leaf) (some (Thing.row [Value.slice (some { block := 10, off := 0 }) 1 1] 38)) Tree.leaf)) (some (Thing.row [Value.slice (some { block := 7, off := 0, spot := some 1 }) 2 2, Value.slice (some { block := 0, off := 0 }) 2 2] 41)) (Tree.node (Tree.node (Tree.node Tree.leaf (some (Thing.row [Value.int IntKind.i64 0, Value.int IntKind.i64 0, Value.int IntKind.i64 1, Value.int IntKind.i64 0, Value.int IntKind.i64 price, Value.int IntKind.i64 qty, Value.int IntKind.i64 0, Value.int IntKind.i64 0] 30)) Tree.leaf) (some (Thing.row [Value.slice (some { block := 15, off := 0, spot := some 1 }) 2 2, Value.slice (some { block := 8, off := 0 }) 2 2] 43)) Tree.leaf) (some (Thing.row [Value.int IntKind.i64 b1] 2)) (Tree.node Tree.leaf (some (Thing.row [Value.int IntKind.i64 b1] 2)) Tree.leaf))) (some (Thing.row [Value.int IntKind.i64 c0, Value.int IntKind.i64 c1] 2)) (Tree.node (Tree.node (Tree.node (Tree.node Tree.leaf (some (Thing.row [Value.int IntKind.i64 0, Value.int IntKind.i64 0, Value.int IntKind.i64 1, Value.int IntKind.i64 0, Value.int IntKind.i64 price, Value.int IntKind.i64 qty, Value.int IntKind.i64 0, Value.int IntKind.i64 0] 30)) Tree.leaf) (some (Thing.row [Value.int IntKind.i64 c0, Value.int IntKind.i64 c1] 2)) Tree.leaf) none (Tree.node (Tree.node Tree.leaf (some (Thing.row [Value.int IntKind.u64 (price * qty / 18446744073709551616), Value.int IntKind.u64 (price * qty % 18446744073709551616)] 47)) Tree.leaf) none Tree.leaf)) (some (Thing.row [Value.int IntKind.i64 b0] 2)) (Tree.node (Tree.node (Tree.node Tree.leaf (some (Thing.row [Value.int IntKind.u64 (price * qty / 18446744073709551616), Value.int IntKind.u64 (price * qty % 18446744073709551616)] 47)) Tree.leaf) (some (Thing.row [Value.int IntKind.i64 b0] 2)) Tree.leaf) (some (Thing.row [Value.slice (some { block := 5, off := 0 }) 1 1] 38)) (Tree.node Tree.leaf (some (Thing.row [Value.slice (some { block := 13, off := 0 }) 1 1] 38)) Tree.leaf))) }) hmix hX (by kernel_rfl) (by kernel_rfl) (of_decide_eq_true (by kernel_rfl)) (by kernel_rfl) (by kernel_rfl) (by kernel_rfl) ?_
          refine OD.as (Value.bool (b1 != b1)) (Value.bool false) (by kernel_rfl) (of_decide_eq_true (by kernel_rfl)) (by kernel_rfl) (congrArg Value.bool (bne_eq_false_iff_eq.2 rfl)) ?_
          refine OD.run 9 (by kernel_rfl) ?_
          refine OD.callEv 100 13 ([Value.pointer (some { block := 1, off := 0 }), Value.int IntKind.i64 0]) (Value.int IntKind.i64 c0) ({ next := 21, tree := Tree.node (Tree.node (Tree.node (Tree.node (Tree.node Tree.leaf (some (Thing.row [Value.slice (some { block := 10, off := 0 }) 1 1, Value.slice (some { block := 13, off := 0 }) 1 1] 38)) Tree.leaf) (some (Thing.row [Value.slice (some { block := 2, off := 0 }) 1 1, Value.slice (some { block := 5, off := 0 }) 1 1] 38)) Tree.leaf) (some (Thing.row [Value.slice (some { block := 2, off := 0 }) 1 1] 38)) (Tree.node (Tree.node Tree.leaf (some (Thing.row [Value.int IntKind.i64 0, Value.int IntKind.i64 0, Value.int IntKind.i64 1, Value.int IntKind.i64 0, Value.int IntKind.i64 price, Value.int IntKind.i64 qty, Value.int IntKind.i64 0, Value.int IntKind.i64 0] 30)) Tree.leaf) (some (Thing.row [Value.slice (some { block := 10, off := 0 }) 1 1] 38)) Tree.leaf)) (some (Thing.row [Value.slice (some { block := 7, off := 0, spot := some 1 }) 2 2, Value.slice (some { block := 0, off := 0 }) 2 2] 41)) (Tree.node (Tree.node (Tree.node Tree.leaf (some (Thing.row [Value.int IntKind.i64 0, Value.int IntKind.i64 0, Value.int IntKind.i64 1, Value.int IntKind.i64 0, Value.int IntKind.i64 price, Value.int IntKind.i64 qty, Value.int IntKind.i64 0, Value.int IntKind.i64 0] 30)) Tree.leaf) (some (Thing.row [Value.slice (some { block := 15, off := 0, spot := some 1 }) 2 2, Value.slice (some { block := 8, off := 0 }) 2 2] 43)) Tree.leaf) (some (Thing.row [Value.int IntKind.i64 b1] 2)) (Tree.node Tree.leaf (some (Thing.row [Value.int IntKind.i64 b1] 2)) Tree.leaf))) (some (Thing.row [Value.int IntKind.i64 c0, Value.int IntKind.i64 c1] 2)) (Tree.node (Tree.node (Tree.node (Tree.node Tree.leaf (some (Thing.row [Value.int IntKind.i64 0, Value.int IntKind.i64 0, Value.int IntKind.i64 1, Value.int IntKind.i64 0, Value.int IntKind.i64 price, Value.int IntKind.i64 qty, Value.int IntKind.i64 0, Value.int IntKind.i64 0] 30)) Tree.leaf) (some (Thing.row [Value.int IntKind.i64 c0, Value.int IntKind.i64 c1] 2)) Tree.leaf) none (Tree.node (Tree.node Tree.leaf (some (Thing.row [Value.int IntKind.u64 (price * qty / 18446744073709551616), Value.int IntKind.u64 (price * qty % 18446744073709551616)] 47)) Tree.leaf) none Tree.leaf)) (some (Thing.row [Value.int IntKind.i64 b0] 2)) (Tree.node (Tree.node (Tree.node Tree.leaf (some (Thing.row [Value.int IntKind.u64 (price * qty / 18446744073709551616), Value.int IntKind.u64 (price * qty % 18446744073709551616)] 47)) Tree.leaf) (some (Thing.row [Value.int IntKind.i64 b0] 2)) Tree.leaf) (some (Thing.row [Value.slice (some { block := 5, off := 0 }) 1 1] 38)) (Tree.node Tree.leaf (some (Thing.row [Value.slice (some { block := 13, off := 0 }) 1 1] 38)) Tree.leaf))) }) hmix hX (by kernel_rfl) (by kernel_rfl) (of_decide_eq_true (by kernel_rfl)) (by kernel_rfl) (by kernel_rfl) (by kernel_rfl) ?_
          refine OD.run 1 (by kernel_rfl) ?_
          refine OD.as (Value.bool (c0 != c0)) (Value.bool false) (by kernel_rfl) (of_decide_eq_true (by kernel_rfl)) (by kernel_rfl) (congrArg Value.bool (bne_eq_false_iff_eq.2 rfl)) ?_
          refine OD.run 3 (by kernel_rfl) ?_
          refine OD.done (of_decide_eq_true (by kernel_rfl)) ?_
          refine then_n (by kernel_rfl) ?_
          refine Det.condF (by kernel_rfl) (false) (by kernel_rfl) rfl ?_
          refine Det.skipA (by kernel_rfl) ?_
          refine then_n (by kernel_rfl) ?_
          refine Det.opsA (by kernel_rfl) hX ?_
          refine OD.run 1 (by kernel_rfl) ?_
          refine OD.as (Value.int IntKind.i64 (IntKind.wrap IntKind.i64 ((↑j : Int) + 1))) (Value.int IntKind.i64 ((↑j : Int) + 1)) (by kernel_rfl) (of_decide_eq_true (by kernel_rfl)) (by kernel_rfl) (congrArg _ (by (rw [IntKind.wrap_i64]; omega))) ?_
          refine OD.run 1 (by kernel_rfl) ?_
          refine OD.done (of_decide_eq_true (by kernel_rfl)) ?_
          refine then_n (by kernel_rfl) ?_
          exact ⟨(j + 1, c0, c1, b0, b1), ⟨(show j + 1 ≤ 5 by omega), ⟨p1, p2⟩, ⟨p3, p4⟩, ⟨p5, p6⟩, ⟨p7, p8⟩⟩, (show 5 - (j + 1) < 5 - j by omega), by kernel_rfl, by kernel_rfl⟩
      · refine Det.condF (by kernel_rfl) (decide ((↑j : Int) < 5)) (by kernel_rfl) (decide_eq_false (by exact c36)) ?_
        refine Det.exitA (by kernel_rfl) ?_
        refine then_x 0 (by kernel_rfl) ?_
        refine then_x 0 (by kernel_rfl) ?_
        refine then_n (by kernel_rfl) ?_
        refine Det.seqA (by kernel_rfl) ?_
        refine Det.opsA (by kernel_rfl) hX ?_
        refine OD.run 3 (by kernel_rfl) ?_
        refine OD.callEq 15 ([]) (known_ok _) (by kernel_rfl) (of_decide_eq_true (by kernel_rfl)) (by kernel_rfl) (by kernel_rfl) (by kernel_rfl) ?_
        refine OD.run 2 (by kernel_rfl) ?_
        refine OD.done (of_decide_eq_true (by kernel_rfl)) ?_
        refine then_n (by kernel_rfl) ?_
        refine Det.retA (by kernel_rfl) ?_
        refine fin_r (Value.bool true) (by kernel_rfl) (by kernel_rfl) ?_
        rfl
end Go.Proofs.Ytpaaglcchlnnoaa.Eng
