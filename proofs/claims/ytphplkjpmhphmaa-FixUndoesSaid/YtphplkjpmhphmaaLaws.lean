/- The laws of chapter 1, over the engine's memory. The numbers are int64s. -/
import Derived.Test.YtphplkjpmhphmaaEngEq
import Derived.Test.YtphplkjpmhphmaaFix
namespace Go.Proofs.Ytphplkjpmhphmaa.Eng
open Go Go.Proofs Go.Proofs.Ytphplkjpmhphmaa.FixMath
set_option maxRecDepth 100000
set_option maxHeartbeats 4000000
set_option linter.unusedVariables false
theorem known_ok (h : Heap) : DetFn Try.prog 10 [] h fun v h' => v = .bool true ∧ h' = h :=
  DetFn.bare (by kernel_rfl) (by kernel_rfl) (DetFn.of_evFst (k := 100) hmix hX (by kernel_rfl)) h
theorem wf_i64 {n : Int} (h : (Lit.int .i64 n).wf = true) : -9223372036854775808 ≤ n ∧ n ≤ 9223372036854775807 := by
  simpa [Lit.wf, IntKind.min, IntKind.max, IntKind.signed, IntKind.bits] using h
theorem law_FixTells (a b : Int) (wa : (Lit.int .i64 a).wf = true) (wb : (Lit.int .i64 b).wf = true) : DetFn Try.prog 4 [.int .i64 a, .int .i64 b] Heap.empty fun v _ => v = .bool true := by
  obtain ⟨ha, hA⟩ := wf_i64 wa
  obtain ⟨hb, hB⟩ := wf_i64 wb
  refine Det.enter Try.func4 (by kernel_rfl) (of_decide_eq_true (by kernel_rfl)) ?_
  by_cases hn : a < 0 ∨ b < 0
  · skip
    refine Det.seqA (by kernel_rfl) ?_
    refine Det.opsA (by kernel_rfl) hX ?_
    refine OD.run 1 (by kernel_rfl) ?_
    refine OD.done (of_decide_eq_true (by kernel_rfl)) ?_
    refine then_n (by kernel_rfl) ?_
    refine Det.seqA (by kernel_rfl) ?_
    refine Det.opsA (by kernel_rfl) hX ?_
    refine OD.run 2 (by kernel_rfl) ?_
    refine OD.callEq 12 ([Value.int IntKind.i64 a, Value.int IntKind.i64 b]) (fix_Add _ _ ha hA hb hB _) (by kernel_rfl) (of_decide_eq_true (by kernel_rfl)) (by kernel_rfl) (by kernel_rfl) (by kernel_rfl) ?_
    refine OD.run 5 (by kernel_rfl) ?_
    refine OD.done (of_decide_eq_true (by kernel_rfl)) ?_
    refine then_n (by kernel_rfl) ?_
    refine Det.seqA (by kernel_rfl) ?_
    refine Det.opsA (by kernel_rfl) hX ?_
    refine OD.run 2 (by kernel_rfl) ?_
    refine OD.callEq 13 ([Value.int IntKind.i64 a, Value.int IntKind.i64 b]) (fix_Sub _ _ ha hA hb hB _) (by kernel_rfl) (of_decide_eq_true (by kernel_rfl)) (by kernel_rfl) (by kernel_rfl) (by kernel_rfl) ?_
    refine OD.run 5 (by kernel_rfl) ?_
    refine OD.done (of_decide_eq_true (by kernel_rfl)) ?_
    refine then_n (by kernel_rfl) ?_
    refine Det.seqA (by kernel_rfl) ?_
    refine Det.opsA (by kernel_rfl) hX ?_
    refine OD.run 2 (by kernel_rfl) ?_
    refine OD.callEq 9 ([Value.int IntKind.i64 a, Value.int IntKind.i64 b]) (fix_Times_no _ _ hn _) (by kernel_rfl) (of_decide_eq_true (by kernel_rfl)) (by kernel_rfl) (by kernel_rfl) (by kernel_rfl) ?_
    refine OD.run 6 (by kernel_rfl) ?_
    refine OD.done (of_decide_eq_true (by kernel_rfl)) ?_
    refine then_n (by kernel_rfl) ?_
    refine Det.seqA (by kernel_rfl) ?_
    refine Det.opsA (by kernel_rfl) hX ?_
    refine OD.run 2 (by kernel_rfl) ?_
    refine OD.callEq 14 ([Value.int IntKind.i64 a, Value.int IntKind.i64 b]) (ref_Add _ _ ha hA hb hB _) (by kernel_rfl) (of_decide_eq_true (by kernel_rfl)) (by kernel_rfl) (by kernel_rfl) (by kernel_rfl) ?_
    refine OD.run 5 (by kernel_rfl) ?_
    refine OD.done (of_decide_eq_true (by kernel_rfl)) ?_
    refine then_n (by kernel_rfl) ?_
    refine Det.seqA (by kernel_rfl) ?_
    refine Det.opsA (by kernel_rfl) hX ?_
    refine OD.run 2 (by kernel_rfl) ?_
    refine OD.callEq 15 ([Value.int IntKind.i64 a, Value.int IntKind.i64 b]) (ref_Sub _ _ ha hA hb hB _) (by kernel_rfl) (of_decide_eq_true (by kernel_rfl)) (by kernel_rfl) (by kernel_rfl) (by kernel_rfl) ?_
    refine OD.run 5 (by kernel_rfl) ?_
    refine OD.done (of_decide_eq_true (by kernel_rfl)) ?_
    refine then_n (by kernel_rfl) ?_
    refine Det.seqA (by kernel_rfl) ?_
    refine Det.opsA (by kernel_rfl) hX ?_
    refine OD.run 2 (by kernel_rfl) ?_
    refine OD.callEq 16 ([Value.int IntKind.i64 a, Value.int IntKind.i64 b]) (ref_Times_no _ _ hn _) (by kernel_rfl) (of_decide_eq_true (by kernel_rfl)) (by kernel_rfl) (by kernel_rfl) (by kernel_rfl) ?_
    refine OD.run 6 (by kernel_rfl) ?_
    refine OD.done (of_decide_eq_true (by kernel_rfl)) ?_
    refine then_n (by kernel_rfl) ?_
    refine Det.seqA (by kernel_rfl) ?_
    refine Det.opsA (by kernel_rfl) hX ?_
    refine OD.run 2 (by kernel_rfl) ?_
    refine OD.as (Value.bool (keep (a + b) == keep (a + b))) (Value.bool true) (by kernel_rfl) (of_decide_eq_true (by kernel_rfl)) (by kernel_rfl) (congrArg Value.bool (beq_iff_eq.2 rfl)) ?_
    refine OD.run 3 (by kernel_rfl) ?_
    refine OD.as (Value.bool (inR (a + b) == inR (a + b))) (Value.bool true) (by kernel_rfl) (of_decide_eq_true (by kernel_rfl)) (by kernel_rfl) (congrArg Value.bool (beq_iff_eq.2 rfl)) ?_
    refine OD.run 4 (by kernel_rfl) ?_
    refine OD.as (Value.bool (keep (a - b) == keep (a - b))) (Value.bool true) (by kernel_rfl) (of_decide_eq_true (by kernel_rfl)) (by kernel_rfl) (congrArg Value.bool (beq_iff_eq.2 rfl)) ?_
    refine OD.run 4 (by kernel_rfl) ?_
    refine OD.as (Value.bool (inR (a - b) == inR (a - b))) (Value.bool true) (by kernel_rfl) (of_decide_eq_true (by kernel_rfl)) (by kernel_rfl) (congrArg Value.bool (beq_iff_eq.2 rfl)) ?_
    refine OD.run 12 (by kernel_rfl) ?_
    refine OD.callEq 10 ([]) (known_ok _) (by kernel_rfl) (of_decide_eq_true (by kernel_rfl)) (by kernel_rfl) (by kernel_rfl) (by kernel_rfl) ?_
    refine OD.run 2 (by kernel_rfl) ?_
    refine OD.done (of_decide_eq_true (by kernel_rfl)) ?_
    refine then_n (by kernel_rfl) ?_
    refine Det.retA (by kernel_rfl) ?_
    refine fin_r (Value.bool true) (by kernel_rfl) (by kernel_rfl) ?_
    rfl
  · have ha0 : 0 ≤ a := by omega
    have hb0 : 0 ≤ b := by omega
    refine Det.seqA (by kernel_rfl) ?_
    refine Det.opsA (by kernel_rfl) hX ?_
    refine OD.run 1 (by kernel_rfl) ?_
    refine OD.done (of_decide_eq_true (by kernel_rfl)) ?_
    refine then_n (by kernel_rfl) ?_
    refine Det.seqA (by kernel_rfl) ?_
    refine Det.opsA (by kernel_rfl) hX ?_
    refine OD.run 2 (by kernel_rfl) ?_
    refine OD.callEq 12 ([Value.int IntKind.i64 a, Value.int IntKind.i64 b]) (fix_Add _ _ ha hA hb hB _) (by kernel_rfl) (of_decide_eq_true (by kernel_rfl)) (by kernel_rfl) (by kernel_rfl) (by kernel_rfl) ?_
    refine OD.run 5 (by kernel_rfl) ?_
    refine OD.done (of_decide_eq_true (by kernel_rfl)) ?_
    refine then_n (by kernel_rfl) ?_
    refine Det.seqA (by kernel_rfl) ?_
    refine Det.opsA (by kernel_rfl) hX ?_
    refine OD.run 2 (by kernel_rfl) ?_
    refine OD.callEq 13 ([Value.int IntKind.i64 a, Value.int IntKind.i64 b]) (fix_Sub _ _ ha hA hb hB _) (by kernel_rfl) (of_decide_eq_true (by kernel_rfl)) (by kernel_rfl) (by kernel_rfl) (by kernel_rfl) ?_
    refine OD.run 5 (by kernel_rfl) ?_
    refine OD.done (of_decide_eq_true (by kernel_rfl)) ?_
    refine then_n (by kernel_rfl) ?_
    refine Det.seqA (by kernel_rfl) ?_
    refine Det.opsA (by kernel_rfl) hX ?_
    refine OD.run 2 (by kernel_rfl) ?_
    refine OD.callEq 9 ([Value.int IntKind.i64 a, Value.int IntKind.i64 b]) (fix_Times _ _ ha0 hA hb0 hB _) (by kernel_rfl) (of_decide_eq_true (by kernel_rfl)) (by kernel_rfl) (by kernel_rfl) (by kernel_rfl) ?_
    refine OD.run 6 (by kernel_rfl) ?_
    refine OD.done (of_decide_eq_true (by kernel_rfl)) ?_
    refine then_n (by kernel_rfl) ?_
    refine Det.seqA (by kernel_rfl) ?_
    refine Det.opsA (by kernel_rfl) hX ?_
    refine OD.run 2 (by kernel_rfl) ?_
    refine OD.callEq 14 ([Value.int IntKind.i64 a, Value.int IntKind.i64 b]) (ref_Add _ _ ha hA hb hB _) (by kernel_rfl) (of_decide_eq_true (by kernel_rfl)) (by kernel_rfl) (by kernel_rfl) (by kernel_rfl) ?_
    refine OD.run 5 (by kernel_rfl) ?_
    refine OD.done (of_decide_eq_true (by kernel_rfl)) ?_
    refine then_n (by kernel_rfl) ?_
    refine Det.seqA (by kernel_rfl) ?_
    refine Det.opsA (by kernel_rfl) hX ?_
    refine OD.run 2 (by kernel_rfl) ?_
    refine OD.callEq 15 ([Value.int IntKind.i64 a, Value.int IntKind.i64 b]) (ref_Sub _ _ ha hA hb hB _) (by kernel_rfl) (of_decide_eq_true (by kernel_rfl)) (by kernel_rfl) (by kernel_rfl) (by kernel_rfl) ?_
    refine OD.run 5 (by kernel_rfl) ?_
    refine OD.done (of_decide_eq_true (by kernel_rfl)) ?_
    refine then_n (by kernel_rfl) ?_
    refine Det.seqA (by kernel_rfl) ?_
    refine Det.opsA (by kernel_rfl) hX ?_
    refine OD.run 2 (by kernel_rfl) ?_
    refine OD.callEq 16 ([Value.int IntKind.i64 a, Value.int IntKind.i64 b]) (ref_Times _ _ ha0 hA hb0 hB _) (by kernel_rfl) (of_decide_eq_true (by kernel_rfl)) (by kernel_rfl) (by kernel_rfl) (by kernel_rfl) ?_
    refine OD.run 6 (by kernel_rfl) ?_
    refine OD.done (of_decide_eq_true (by kernel_rfl)) ?_
    refine then_n (by kernel_rfl) ?_
    refine Det.seqA (by kernel_rfl) ?_
    refine Det.opsA (by kernel_rfl) hX ?_
    refine OD.run 2 (by kernel_rfl) ?_
    refine OD.as (Value.bool (keep (a + b) == keep (a + b))) (Value.bool true) (by kernel_rfl) (of_decide_eq_true (by kernel_rfl)) (by kernel_rfl) (congrArg Value.bool (beq_iff_eq.2 rfl)) ?_
    refine OD.run 3 (by kernel_rfl) ?_
    refine OD.as (Value.bool (inR (a + b) == inR (a + b))) (Value.bool true) (by kernel_rfl) (of_decide_eq_true (by kernel_rfl)) (by kernel_rfl) (congrArg Value.bool (beq_iff_eq.2 rfl)) ?_
    refine OD.run 4 (by kernel_rfl) ?_
    refine OD.as (Value.bool (keep (a - b) == keep (a - b))) (Value.bool true) (by kernel_rfl) (of_decide_eq_true (by kernel_rfl)) (by kernel_rfl) (congrArg Value.bool (beq_iff_eq.2 rfl)) ?_
    refine OD.run 4 (by kernel_rfl) ?_
    refine OD.as (Value.bool (inR (a - b) == inR (a - b))) (Value.bool true) (by kernel_rfl) (of_decide_eq_true (by kernel_rfl)) (by kernel_rfl) (congrArg Value.bool (beq_iff_eq.2 rfl)) ?_
    refine OD.run 4 (by kernel_rfl) ?_
    refine OD.bin BinOp.eql 24 (Value.agg #[Value.int IntKind.u64 (a * b / 18446744073709551616), Value.int IntKind.u64 (a * b % 18446744073709551616)]) (Value.agg #[Value.int IntKind.u64 (a * b / 18446744073709551616), Value.int IntKind.u64 (a * b % 18446744073709551616)]) (Value.bool (a * b / 18446744073709551616 == a * b / 18446744073709551616 && (a * b % 18446744073709551616 == a * b % 18446744073709551616 && true))) (by kernel_rfl) (by kernel_rfl) (of_decide_eq_true (by kernel_rfl)) (by kernel_rfl) ((abin_eqlB (by kernel_rfl)).trans (by kernel_rfl)) ?_
    refine OD.as (Value.bool (a * b / 18446744073709551616 == a * b / 18446744073709551616 && (a * b % 18446744073709551616 == a * b % 18446744073709551616 && true))) (Value.bool true) (by kernel_rfl) (of_decide_eq_true (by kernel_rfl)) (by kernel_rfl) (congrArg Value.bool (andB (a := true) (b := true) (beq_iff_eq.2 rfl) (andB (a := true) (b := true) (beq_iff_eq.2 rfl) rfl rfl) rfl)) ?_
    refine OD.run 6 (by kernel_rfl) ?_
    refine OD.callEq 10 ([]) (known_ok _) (by kernel_rfl) (of_decide_eq_true (by kernel_rfl)) (by kernel_rfl) (by kernel_rfl) (by kernel_rfl) ?_
    refine OD.run 2 (by kernel_rfl) ?_
    refine OD.done (of_decide_eq_true (by kernel_rfl)) ?_
    refine then_n (by kernel_rfl) ?_
    refine Det.retA (by kernel_rfl) ?_
    refine fin_r (Value.bool true) (by kernel_rfl) (by kernel_rfl) ?_
    rfl
theorem known_all : allTo 9 (fun j => evIs Try.prog noExt 300 5 [.int .i64 (j : Int)]) = true := by kernel_rfl
theorem law_FixKnown (way : Int) : DetFn Try.prog 5 [.int .i64 way] Heap.empty fun v _ => v = .bool true := by
  by_cases h1 : way < 0
  · refine Det.enter Try.func5 (by kernel_rfl) (of_decide_eq_true (by kernel_rfl)) ?_
    refine Det.seqA (by kernel_rfl) ?_
    refine Det.opsA (by kernel_rfl) hX ?_
    refine OD.run 1 (by kernel_rfl) ?_
    refine OD.done (of_decide_eq_true (by kernel_rfl)) ?_
    refine then_n (by kernel_rfl) ?_
    refine Det.seqA (by kernel_rfl) ?_
    refine Det.opsA (by kernel_rfl) hX ?_
    refine OD.run 2 (by kernel_rfl) ?_
    refine OD.done (of_decide_eq_true (by kernel_rfl)) ?_
    refine then_n (by kernel_rfl) ?_
    refine Det.seqA (by kernel_rfl) ?_
    refine Det.opsA (by kernel_rfl) hX ?_
    refine OD.run 2 (by kernel_rfl) ?_
    refine OD.done (of_decide_eq_true (by kernel_rfl)) ?_
    refine then_n (by kernel_rfl) ?_
    refine Det.seqA (by kernel_rfl) ?_
    refine Det.opsA (by kernel_rfl) hX ?_
    refine OD.run 2 (by kernel_rfl) ?_
    refine OD.done (of_decide_eq_true (by kernel_rfl)) ?_
    refine then_n (by kernel_rfl) ?_
    refine Det.seqA (by kernel_rfl) ?_
    refine Det.opsA (by kernel_rfl) hX ?_
    refine OD.run 2 (by kernel_rfl) ?_
    refine OD.done (of_decide_eq_true (by kernel_rfl)) ?_
    refine then_n (by kernel_rfl) ?_
    refine Det.seqA (by kernel_rfl) ?_
    refine Det.seqA (by kernel_rfl) ?_
    refine Det.opsA (by kernel_rfl) hX ?_
    refine OD.run 1 (by kernel_rfl) ?_
    refine OD.as (Value.bool (decide (way < 0))) (Value.bool true) (by kernel_rfl) (of_decide_eq_true (by kernel_rfl)) (by kernel_rfl) (congrArg Value.bool (decide_eq_true (by exact h1))) ?_
    refine OD.run 6 (by kernel_rfl) ?_
    refine OD.done (of_decide_eq_true (by kernel_rfl)) ?_
    refine then_n (by kernel_rfl) ?_
    refine Det.condT (by kernel_rfl) (true) (by kernel_rfl) rfl ?_
    refine Det.seqA (by kernel_rfl) ?_
    refine Det.opsA (by kernel_rfl) hX ?_
    refine OD.run 1 (by kernel_rfl) ?_
    refine OD.done (of_decide_eq_true (by kernel_rfl)) ?_
    refine then_n (by kernel_rfl) ?_
    refine Det.retA (by kernel_rfl) ?_
    refine then_r (by kernel_rfl) ?_
    refine fin_r (Value.bool true) (by kernel_rfl) (by kernel_rfl) ?_
    rfl
  · by_cases h2 : way ≥ 9
    · refine Det.enter Try.func5 (by kernel_rfl) (of_decide_eq_true (by kernel_rfl)) ?_
      refine Det.seqA (by kernel_rfl) ?_
      refine Det.opsA (by kernel_rfl) hX ?_
      refine OD.run 1 (by kernel_rfl) ?_
      refine OD.done (of_decide_eq_true (by kernel_rfl)) ?_
      refine then_n (by kernel_rfl) ?_
      refine Det.seqA (by kernel_rfl) ?_
      refine Det.opsA (by kernel_rfl) hX ?_
      refine OD.run 2 (by kernel_rfl) ?_
      refine OD.done (of_decide_eq_true (by kernel_rfl)) ?_
      refine then_n (by kernel_rfl) ?_
      refine Det.seqA (by kernel_rfl) ?_
      refine Det.opsA (by kernel_rfl) hX ?_
      refine OD.run 2 (by kernel_rfl) ?_
      refine OD.done (of_decide_eq_true (by kernel_rfl)) ?_
      refine then_n (by kernel_rfl) ?_
      refine Det.seqA (by kernel_rfl) ?_
      refine Det.opsA (by kernel_rfl) hX ?_
      refine OD.run 2 (by kernel_rfl) ?_
      refine OD.done (of_decide_eq_true (by kernel_rfl)) ?_
      refine then_n (by kernel_rfl) ?_
      refine Det.seqA (by kernel_rfl) ?_
      refine Det.opsA (by kernel_rfl) hX ?_
      refine OD.run 2 (by kernel_rfl) ?_
      refine OD.done (of_decide_eq_true (by kernel_rfl)) ?_
      refine then_n (by kernel_rfl) ?_
      refine Det.seqA (by kernel_rfl) ?_
      refine Det.seqA (by kernel_rfl) ?_
      refine Det.opsA (by kernel_rfl) hX ?_
      refine OD.run 1 (by kernel_rfl) ?_
      refine OD.as (Value.bool (decide (way < 0))) (Value.bool false) (by kernel_rfl) (of_decide_eq_true (by kernel_rfl)) (by kernel_rfl) (congrArg Value.bool (decide_eq_false (by exact h1))) ?_
      refine OD.run 4 (by kernel_rfl) ?_
      refine OD.as (Value.bool (decide (9 ≤ way))) (Value.bool true) (by kernel_rfl) (of_decide_eq_true (by kernel_rfl)) (by kernel_rfl) (congrArg Value.bool (decide_eq_true (by omega))) ?_
      refine OD.run 1 (by kernel_rfl) ?_
      refine OD.done (of_decide_eq_true (by kernel_rfl)) ?_
      refine then_n (by kernel_rfl) ?_
      refine Det.condT (by kernel_rfl) (true) (by kernel_rfl) rfl ?_
      refine Det.seqA (by kernel_rfl) ?_
      refine Det.opsA (by kernel_rfl) hX ?_
      refine OD.run 1 (by kernel_rfl) ?_
      refine OD.done (of_decide_eq_true (by kernel_rfl)) ?_
      refine then_n (by kernel_rfl) ?_
      refine Det.retA (by kernel_rfl) ?_
      refine then_r (by kernel_rfl) ?_
      refine fin_r (Value.bool true) (by kernel_rfl) (by kernel_rfl) ?_
      rfl
    · have := allTo_spec known_all way.toNat (by omega)
      rw [show ((way.toNat : Nat) : Int) = way by omega] at this
      exact DetFn.of_evIs hmix hX this
theorem law_FixNarrows (a b : Int) (wa : (Lit.int .i64 a).wf = true) (wb : (Lit.int .i64 b).wf = true) : DetFn Try.prog 6 [.int .i64 a, .int .i64 b] Heap.empty fun v _ => v = .bool true := by
  obtain ⟨ha, hA⟩ := wf_i64 wa
  obtain ⟨hb, hB⟩ := wf_i64 wb
  refine Det.enter Try.func6 (by kernel_rfl) (of_decide_eq_true (by kernel_rfl)) ?_
  by_cases hn : a < 0 ∨ b < 0
  · have h0 : (0 : Int) ≤ 0 := by decide
    have k0 : keep 0 = 0 := rfl
    have k1 : inR 0 = true := rfl
    by_cases hn1 : a < 0
    · skip
      refine Det.seqA (by kernel_rfl) ?_
      refine Det.opsA (by kernel_rfl) hX ?_
      refine OD.run 1 (by kernel_rfl) ?_
      refine OD.done (of_decide_eq_true (by kernel_rfl)) ?_
      refine then_n (by kernel_rfl) ?_
      refine Det.seqA (by kernel_rfl) ?_
      refine Det.opsA (by kernel_rfl) hX ?_
      refine OD.run 2 (by kernel_rfl) ?_
      refine OD.callEq 9 ([Value.int IntKind.i64 a, Value.int IntKind.i64 b]) (fix_Times_no _ _ hn _) (by kernel_rfl) (of_decide_eq_true (by kernel_rfl)) (by kernel_rfl) (by kernel_rfl) (by kernel_rfl) ?_
      refine OD.run 6 (by kernel_rfl) ?_
      refine OD.done (of_decide_eq_true (by kernel_rfl)) ?_
      refine then_n (by kernel_rfl) ?_
      refine Det.seqA (by kernel_rfl) ?_
      refine Det.opsA (by kernel_rfl) hX ?_
      refine OD.run 1 (by kernel_rfl) ?_
      refine OD.callEq 17 ([Value.agg #[Value.int IntKind.u64 0, Value.int IntKind.u64 0]]) (fix_Narrow _ h0 _) (by kernel_rfl) (of_decide_eq_true (by kernel_rfl)) (by kernel_rfl) (by kernel_rfl) (by kernel_rfl) ?_
      refine OD.run 5 (by kernel_rfl) ?_
      refine OD.done (of_decide_eq_true (by kernel_rfl)) ?_
      refine then_n (by kernel_rfl) ?_
      refine Det.seqA (by kernel_rfl) ?_
      refine Det.seqA (by kernel_rfl) ?_
      refine Det.opsA (by kernel_rfl) hX ?_
      refine OD.run 2 (by kernel_rfl) ?_
      refine OD.done (of_decide_eq_true (by kernel_rfl)) ?_
      refine then_n (by kernel_rfl) ?_
      refine Det.condT (by kernel_rfl) (true) (by kernel_rfl) rfl ?_
      refine Det.seqA (by kernel_rfl) ?_
      refine Det.opsA (by kernel_rfl) hX ?_
      refine OD.run 1 (by kernel_rfl) ?_
      refine OD.as (Value.bool (decide (a < 0))) (Value.bool true) (by kernel_rfl) (of_decide_eq_true (by kernel_rfl)) (by kernel_rfl) (congrArg Value.bool (decide_eq_true (by exact hn1))) ?_
      refine OD.run 10 (by kernel_rfl) ?_
      refine OD.callEq 10 ([]) (known_ok _) (by kernel_rfl) (of_decide_eq_true (by kernel_rfl)) (by kernel_rfl) (by kernel_rfl) (by kernel_rfl) ?_
      refine OD.run 2 (by kernel_rfl) ?_
      refine OD.done (of_decide_eq_true (by kernel_rfl)) ?_
      refine then_n (by kernel_rfl) ?_
      refine Det.retA (by kernel_rfl) ?_
      refine then_r (by kernel_rfl) ?_
      refine fin_r (Value.bool true) (by kernel_rfl) (by kernel_rfl) ?_
      rfl
    · skip
      refine Det.seqA (by kernel_rfl) ?_
      refine Det.opsA (by kernel_rfl) hX ?_
      refine OD.run 1 (by kernel_rfl) ?_
      refine OD.done (of_decide_eq_true (by kernel_rfl)) ?_
      refine then_n (by kernel_rfl) ?_
      refine Det.seqA (by kernel_rfl) ?_
      refine Det.opsA (by kernel_rfl) hX ?_
      refine OD.run 2 (by kernel_rfl) ?_
      refine OD.callEq 9 ([Value.int IntKind.i64 a, Value.int IntKind.i64 b]) (fix_Times_no _ _ hn _) (by kernel_rfl) (of_decide_eq_true (by kernel_rfl)) (by kernel_rfl) (by kernel_rfl) (by kernel_rfl) ?_
      refine OD.run 6 (by kernel_rfl) ?_
      refine OD.done (of_decide_eq_true (by kernel_rfl)) ?_
      refine then_n (by kernel_rfl) ?_
      refine Det.seqA (by kernel_rfl) ?_
      refine Det.opsA (by kernel_rfl) hX ?_
      refine OD.run 1 (by kernel_rfl) ?_
      refine OD.callEq 17 ([Value.agg #[Value.int IntKind.u64 0, Value.int IntKind.u64 0]]) (fix_Narrow _ h0 _) (by kernel_rfl) (of_decide_eq_true (by kernel_rfl)) (by kernel_rfl) (by kernel_rfl) (by kernel_rfl) ?_
      refine OD.run 5 (by kernel_rfl) ?_
      refine OD.done (of_decide_eq_true (by kernel_rfl)) ?_
      refine then_n (by kernel_rfl) ?_
      refine Det.seqA (by kernel_rfl) ?_
      refine Det.seqA (by kernel_rfl) ?_
      refine Det.opsA (by kernel_rfl) hX ?_
      refine OD.run 2 (by kernel_rfl) ?_
      refine OD.done (of_decide_eq_true (by kernel_rfl)) ?_
      refine then_n (by kernel_rfl) ?_
      refine Det.condT (by kernel_rfl) (true) (by kernel_rfl) rfl ?_
      refine Det.seqA (by kernel_rfl) ?_
      refine Det.opsA (by kernel_rfl) hX ?_
      refine OD.run 1 (by kernel_rfl) ?_
      refine OD.as (Value.bool (decide (a < 0))) (Value.bool false) (by kernel_rfl) (of_decide_eq_true (by kernel_rfl)) (by kernel_rfl) (congrArg Value.bool (decide_eq_false (by exact hn1))) ?_
      refine OD.run 2 (by kernel_rfl) ?_
      refine OD.as (Value.bool (decide (b < 0))) (Value.bool true) (by kernel_rfl) (of_decide_eq_true (by kernel_rfl)) (by kernel_rfl) (congrArg Value.bool (decide_eq_true (by omega))) ?_
      refine OD.run 7 (by kernel_rfl) ?_
      refine OD.callEq 10 ([]) (known_ok _) (by kernel_rfl) (of_decide_eq_true (by kernel_rfl)) (by kernel_rfl) (by kernel_rfl) (by kernel_rfl) ?_
      refine OD.run 2 (by kernel_rfl) ?_
      refine OD.done (of_decide_eq_true (by kernel_rfl)) ?_
      refine then_n (by kernel_rfl) ?_
      refine Det.retA (by kernel_rfl) ?_
      refine then_r (by kernel_rfl) ?_
      refine fin_r (Value.bool true) (by kernel_rfl) (by kernel_rfl) ?_
      rfl
  · have ha0 : 0 ≤ a := by omega
    have hb0 : 0 ≤ b := by omega
    have hp : 0 ≤ a * b := Int.mul_nonneg ha0 hb0
    by_cases hz : a = 0 ∨ b = 0
    · have e : a * b = 0 := by rcases hz with rfl | rfl <;> simp
      have k0 : keep (a * b) = 0 := by rw [e]; rfl
      have k1 : inR (a * b) = true := by rw [e]; rfl
      by_cases hz1 : a = 0
      · skip
        refine Det.seqA (by kernel_rfl) ?_
        refine Det.opsA (by kernel_rfl) hX ?_
        refine OD.run 1 (by kernel_rfl) ?_
        refine OD.done (of_decide_eq_true (by kernel_rfl)) ?_
        refine then_n (by kernel_rfl) ?_
        refine Det.seqA (by kernel_rfl) ?_
        refine Det.opsA (by kernel_rfl) hX ?_
        refine OD.run 2 (by kernel_rfl) ?_
        refine OD.callEq 9 ([Value.int IntKind.i64 a, Value.int IntKind.i64 b]) (fix_Times _ _ ha0 hA hb0 hB _) (by kernel_rfl) (of_decide_eq_true (by kernel_rfl)) (by kernel_rfl) (by kernel_rfl) (by kernel_rfl) ?_
        refine OD.run 6 (by kernel_rfl) ?_
        refine OD.done (of_decide_eq_true (by kernel_rfl)) ?_
        refine then_n (by kernel_rfl) ?_
        refine Det.seqA (by kernel_rfl) ?_
        refine Det.opsA (by kernel_rfl) hX ?_
        refine OD.run 1 (by kernel_rfl) ?_
        refine OD.callEq 17 ([Value.agg #[Value.int IntKind.u64 (a * b / 18446744073709551616), Value.int IntKind.u64 (a * b % 18446744073709551616)]]) (fix_Narrow _ hp _) (by kernel_rfl) (of_decide_eq_true (by kernel_rfl)) (by kernel_rfl) (by kernel_rfl) (by kernel_rfl) ?_
        refine OD.run 2 (by kernel_rfl) ?_
        refine OD.as (Value.bool (inR (a * b))) (Value.bool true) (by kernel_rfl) (of_decide_eq_true (by kernel_rfl)) (by kernel_rfl) (congrArg Value.bool (by exact k1)) ?_
        refine OD.run 2 (by kernel_rfl) ?_
        refine OD.done (of_decide_eq_true (by kernel_rfl)) ?_
        refine then_n (by kernel_rfl) ?_
        refine Det.seqA (by kernel_rfl) ?_
        refine Det.seqA (by kernel_rfl) ?_
        refine Det.opsA (by kernel_rfl) hX ?_
        refine OD.run 2 (by kernel_rfl) ?_
        refine OD.done (of_decide_eq_true (by kernel_rfl)) ?_
        refine then_n (by kernel_rfl) ?_
        refine Det.condF (by kernel_rfl) (false) (by kernel_rfl) rfl ?_
        refine Det.skipA (by kernel_rfl) ?_
        refine then_n (by kernel_rfl) ?_
        refine Det.seqA (by kernel_rfl) ?_
        refine Det.seqA (by kernel_rfl) ?_
        refine Det.opsA (by kernel_rfl) hX ?_
        refine OD.run 1 (by kernel_rfl) ?_
        refine OD.as (Value.bool (a == 0)) (Value.bool true) (by kernel_rfl) (of_decide_eq_true (by kernel_rfl)) (by kernel_rfl) (congrArg Value.bool (beq_iff_eq.2 (by exact hz1))) ?_
        refine OD.run 4 (by kernel_rfl) ?_
        refine OD.done (of_decide_eq_true (by kernel_rfl)) ?_
        refine then_n (by kernel_rfl) ?_
        refine Det.condT (by kernel_rfl) (true) (by kernel_rfl) rfl ?_
        refine Det.seqA (by kernel_rfl) ?_
        refine Det.opsA (by kernel_rfl) hX ?_
        refine OD.run 3 (by kernel_rfl) ?_
        refine OD.as (Value.bool (keep (a * b) == 0)) (Value.bool true) (by kernel_rfl) (of_decide_eq_true (by kernel_rfl)) (by kernel_rfl) (congrArg Value.bool (beq_iff_eq.2 (by exact k0))) ?_
        refine OD.run 2 (by kernel_rfl) ?_
        refine OD.callEq 10 ([]) (known_ok _) (by kernel_rfl) (of_decide_eq_true (by kernel_rfl)) (by kernel_rfl) (by kernel_rfl) (by kernel_rfl) ?_
        refine OD.run 2 (by kernel_rfl) ?_
        refine OD.done (of_decide_eq_true (by kernel_rfl)) ?_
        refine then_n (by kernel_rfl) ?_
        refine Det.retA (by kernel_rfl) ?_
        refine then_r (by kernel_rfl) ?_
        refine fin_r (Value.bool true) (by kernel_rfl) (by kernel_rfl) ?_
        rfl
      · skip
        refine Det.seqA (by kernel_rfl) ?_
        refine Det.opsA (by kernel_rfl) hX ?_
        refine OD.run 1 (by kernel_rfl) ?_
        refine OD.done (of_decide_eq_true (by kernel_rfl)) ?_
        refine then_n (by kernel_rfl) ?_
        refine Det.seqA (by kernel_rfl) ?_
        refine Det.opsA (by kernel_rfl) hX ?_
        refine OD.run 2 (by kernel_rfl) ?_
        refine OD.callEq 9 ([Value.int IntKind.i64 a, Value.int IntKind.i64 b]) (fix_Times _ _ ha0 hA hb0 hB _) (by kernel_rfl) (of_decide_eq_true (by kernel_rfl)) (by kernel_rfl) (by kernel_rfl) (by kernel_rfl) ?_
        refine OD.run 6 (by kernel_rfl) ?_
        refine OD.done (of_decide_eq_true (by kernel_rfl)) ?_
        refine then_n (by kernel_rfl) ?_
        refine Det.seqA (by kernel_rfl) ?_
        refine Det.opsA (by kernel_rfl) hX ?_
        refine OD.run 1 (by kernel_rfl) ?_
        refine OD.callEq 17 ([Value.agg #[Value.int IntKind.u64 (a * b / 18446744073709551616), Value.int IntKind.u64 (a * b % 18446744073709551616)]]) (fix_Narrow _ hp _) (by kernel_rfl) (of_decide_eq_true (by kernel_rfl)) (by kernel_rfl) (by kernel_rfl) (by kernel_rfl) ?_
        refine OD.run 2 (by kernel_rfl) ?_
        refine OD.as (Value.bool (inR (a * b))) (Value.bool true) (by kernel_rfl) (of_decide_eq_true (by kernel_rfl)) (by kernel_rfl) (congrArg Value.bool (by exact k1)) ?_
        refine OD.run 2 (by kernel_rfl) ?_
        refine OD.done (of_decide_eq_true (by kernel_rfl)) ?_
        refine then_n (by kernel_rfl) ?_
        refine Det.seqA (by kernel_rfl) ?_
        refine Det.seqA (by kernel_rfl) ?_
        refine Det.opsA (by kernel_rfl) hX ?_
        refine OD.run 2 (by kernel_rfl) ?_
        refine OD.done (of_decide_eq_true (by kernel_rfl)) ?_
        refine then_n (by kernel_rfl) ?_
        refine Det.condF (by kernel_rfl) (false) (by kernel_rfl) rfl ?_
        refine Det.skipA (by kernel_rfl) ?_
        refine then_n (by kernel_rfl) ?_
        refine Det.seqA (by kernel_rfl) ?_
        refine Det.seqA (by kernel_rfl) ?_
        refine Det.opsA (by kernel_rfl) hX ?_
        refine OD.run 1 (by kernel_rfl) ?_
        refine OD.as (Value.bool (a == 0)) (Value.bool false) (by kernel_rfl) (of_decide_eq_true (by kernel_rfl)) (by kernel_rfl) (congrArg Value.bool (beq_eq_false_iff_ne.2 (by exact hz1))) ?_
        refine OD.run 2 (by kernel_rfl) ?_
        refine OD.as (Value.bool (b == 0)) (Value.bool true) (by kernel_rfl) (of_decide_eq_true (by kernel_rfl)) (by kernel_rfl) (congrArg Value.bool (beq_iff_eq.2 (by omega))) ?_
        refine OD.run 1 (by kernel_rfl) ?_
        refine OD.done (of_decide_eq_true (by kernel_rfl)) ?_
        refine then_n (by kernel_rfl) ?_
        refine Det.condT (by kernel_rfl) (true) (by kernel_rfl) rfl ?_
        refine Det.seqA (by kernel_rfl) ?_
        refine Det.opsA (by kernel_rfl) hX ?_
        refine OD.run 3 (by kernel_rfl) ?_
        refine OD.as (Value.bool (keep (a * b) == 0)) (Value.bool true) (by kernel_rfl) (of_decide_eq_true (by kernel_rfl)) (by kernel_rfl) (congrArg Value.bool (beq_iff_eq.2 (by exact k0))) ?_
        refine OD.run 2 (by kernel_rfl) ?_
        refine OD.callEq 10 ([]) (known_ok _) (by kernel_rfl) (of_decide_eq_true (by kernel_rfl)) (by kernel_rfl) (by kernel_rfl) (by kernel_rfl) ?_
        refine OD.run 2 (by kernel_rfl) ?_
        refine OD.done (of_decide_eq_true (by kernel_rfl)) ?_
        refine then_n (by kernel_rfl) ?_
        refine Det.retA (by kernel_rfl) ?_
        refine then_r (by kernel_rfl) ?_
        refine fin_r (Value.bool true) (by kernel_rfl) (by kernel_rfl) ?_
        rfl
    · have hb1 : 0 < b := by omega
      have q0 : 0 ≤ (9223372036854775807 : Int) / b := Int.ediv_nonneg (by decide) hb0
      have q1 : (9223372036854775807 : Int) / b ≤ 9223372036854775807 := Int.ediv_le_self _ (by decide)
      have iff : a ≤ 9223372036854775807 / b ↔ a * b ≤ 9223372036854775807 := Int.le_ediv_iff_mul_le hb1
      have qe : IntKind.i64.wrap (Int.tdiv 9223372036854775807 b) = 9223372036854775807 / b := by
        rw [Int.tdiv_eq_ediv_of_nonneg (by decide), wrap_i _ (by omega) (by omega)]
      by_cases h2 : a * b ≤ 9223372036854775807
      · have i1 : inR (a * b) = true := inR_iff.2 ⟨by omega, h2⟩
        have i2 : a ≤ IntKind.i64.wrap (Int.tdiv 9223372036854775807 b) := by rw [qe]; exact iff.2 h2
        have i3 : keep (a * b) = a * b := keep_in (by omega) h2
        refine Det.seqA (by kernel_rfl) ?_
        refine Det.opsA (by kernel_rfl) hX ?_
        refine OD.run 1 (by kernel_rfl) ?_
        refine OD.done (of_decide_eq_true (by kernel_rfl)) ?_
        refine then_n (by kernel_rfl) ?_
        refine Det.seqA (by kernel_rfl) ?_
        refine Det.opsA (by kernel_rfl) hX ?_
        refine OD.run 2 (by kernel_rfl) ?_
        refine OD.callEq 9 ([Value.int IntKind.i64 a, Value.int IntKind.i64 b]) (fix_Times _ _ ha0 hA hb0 hB _) (by kernel_rfl) (of_decide_eq_true (by kernel_rfl)) (by kernel_rfl) (by kernel_rfl) (by kernel_rfl) ?_
        refine OD.run 6 (by kernel_rfl) ?_
        refine OD.done (of_decide_eq_true (by kernel_rfl)) ?_
        refine then_n (by kernel_rfl) ?_
        refine Det.seqA (by kernel_rfl) ?_
        refine Det.opsA (by kernel_rfl) hX ?_
        refine OD.run 1 (by kernel_rfl) ?_
        refine OD.callEq 17 ([Value.agg #[Value.int IntKind.u64 (a * b / 18446744073709551616), Value.int IntKind.u64 (a * b % 18446744073709551616)]]) (fix_Narrow _ hp _) (by kernel_rfl) (of_decide_eq_true (by kernel_rfl)) (by kernel_rfl) (by kernel_rfl) (by kernel_rfl) ?_
        refine OD.run 2 (by kernel_rfl) ?_
        refine OD.as (Value.bool (inR (a * b))) (Value.bool true) (by kernel_rfl) (of_decide_eq_true (by kernel_rfl)) (by kernel_rfl) (congrArg Value.bool (by exact i1)) ?_
        refine OD.run 2 (by kernel_rfl) ?_
        refine OD.done (of_decide_eq_true (by kernel_rfl)) ?_
        refine then_n (by kernel_rfl) ?_
        refine Det.seqA (by kernel_rfl) ?_
        refine Det.seqA (by kernel_rfl) ?_
        refine Det.opsA (by kernel_rfl) hX ?_
        refine OD.run 2 (by kernel_rfl) ?_
        refine OD.done (of_decide_eq_true (by kernel_rfl)) ?_
        refine then_n (by kernel_rfl) ?_
        refine Det.condF (by kernel_rfl) (false) (by kernel_rfl) rfl ?_
        refine Det.skipA (by kernel_rfl) ?_
        refine then_n (by kernel_rfl) ?_
        refine Det.seqA (by kernel_rfl) ?_
        refine Det.seqA (by kernel_rfl) ?_
        refine Det.opsA (by kernel_rfl) hX ?_
        refine OD.run 1 (by kernel_rfl) ?_
        refine OD.as (Value.bool (a == 0)) (Value.bool false) (by kernel_rfl) (of_decide_eq_true (by kernel_rfl)) (by kernel_rfl) (congrArg Value.bool (beq_eq_false_iff_ne.2 (by omega))) ?_
        refine OD.run 2 (by kernel_rfl) ?_
        refine OD.as (Value.bool (b == 0)) (Value.bool false) (by kernel_rfl) (of_decide_eq_true (by kernel_rfl)) (by kernel_rfl) (congrArg Value.bool (beq_eq_false_iff_ne.2 (by omega))) ?_
        refine OD.run 1 (by kernel_rfl) ?_
        refine OD.done (of_decide_eq_true (by kernel_rfl)) ?_
        refine then_n (by kernel_rfl) ?_
        refine Det.condF (by kernel_rfl) (false) (by kernel_rfl) rfl ?_
        refine Det.skipA (by kernel_rfl) ?_
        refine then_n (by kernel_rfl) ?_
        refine Det.seqA (by kernel_rfl) ?_
        refine Det.opsA (by kernel_rfl) hX ?_
        refine OD.run 3 (by kernel_rfl) ?_
        refine OD.bin BinOp.quo 2 (Value.int IntKind.i64 9223372036854775807) (Value.int IntKind.i64 b) (Value.int IntKind.i64 (IntKind.wrap IntKind.i64 (Int.tdiv 9223372036854775807 b))) (by kernel_rfl) (by kernel_rfl) (of_decide_eq_true (by kernel_rfl)) (by kernel_rfl) (abin_quo (by omega)) ?_
        refine OD.as (Value.bool (decide (a ≤ IntKind.wrap IntKind.i64 (Int.tdiv 9223372036854775807 b)))) (Value.bool true) (by kernel_rfl) (of_decide_eq_true (by kernel_rfl)) (by kernel_rfl) (congrArg Value.bool (decide_eq_true (by omega))) ?_
        refine OD.run 8 (by kernel_rfl) ?_
        refine OD.as (Value.int IntKind.i64 (IntKind.wrap IntKind.i64 (a * b))) (Value.int IntKind.i64 (a * b)) (by kernel_rfl) (of_decide_eq_true (by kernel_rfl)) (by kernel_rfl) (congrArg _ (by (rw [IntKind.wrap_i64]; omega))) ?_
        refine OD.as (Value.bool (keep (a * b) == a * b)) (Value.bool true) (by kernel_rfl) (of_decide_eq_true (by kernel_rfl)) (by kernel_rfl) (congrArg Value.bool (beq_iff_eq.2 (by exact i3))) ?_
        refine OD.run 3 (by kernel_rfl) ?_
        refine OD.callEq 10 ([]) (known_ok _) (by kernel_rfl) (of_decide_eq_true (by kernel_rfl)) (by kernel_rfl) (by kernel_rfl) (by kernel_rfl) ?_
        refine OD.run 2 (by kernel_rfl) ?_
        refine OD.done (of_decide_eq_true (by kernel_rfl)) ?_
        refine then_n (by kernel_rfl) ?_
        refine Det.retA (by kernel_rfl) ?_
        refine fin_r (Value.bool true) (by kernel_rfl) (by kernel_rfl) ?_
        rfl
      · have i1 : inR (a * b) = false := inR_no.2 (by omega)
        have i2 : ¬ a ≤ IntKind.i64.wrap (Int.tdiv 9223372036854775807 b) := by rw [qe]; exact fun h => h2 (iff.1 h)
        refine Det.seqA (by kernel_rfl) ?_
        refine Det.opsA (by kernel_rfl) hX ?_
        refine OD.run 1 (by kernel_rfl) ?_
        refine OD.done (of_decide_eq_true (by kernel_rfl)) ?_
        refine then_n (by kernel_rfl) ?_
        refine Det.seqA (by kernel_rfl) ?_
        refine Det.opsA (by kernel_rfl) hX ?_
        refine OD.run 2 (by kernel_rfl) ?_
        refine OD.callEq 9 ([Value.int IntKind.i64 a, Value.int IntKind.i64 b]) (fix_Times _ _ ha0 hA hb0 hB _) (by kernel_rfl) (of_decide_eq_true (by kernel_rfl)) (by kernel_rfl) (by kernel_rfl) (by kernel_rfl) ?_
        refine OD.run 6 (by kernel_rfl) ?_
        refine OD.done (of_decide_eq_true (by kernel_rfl)) ?_
        refine then_n (by kernel_rfl) ?_
        refine Det.seqA (by kernel_rfl) ?_
        refine Det.opsA (by kernel_rfl) hX ?_
        refine OD.run 1 (by kernel_rfl) ?_
        refine OD.callEq 17 ([Value.agg #[Value.int IntKind.u64 (a * b / 18446744073709551616), Value.int IntKind.u64 (a * b % 18446744073709551616)]]) (fix_Narrow _ hp _) (by kernel_rfl) (of_decide_eq_true (by kernel_rfl)) (by kernel_rfl) (by kernel_rfl) (by kernel_rfl) ?_
        refine OD.run 2 (by kernel_rfl) ?_
        refine OD.as (Value.bool (inR (a * b))) (Value.bool false) (by kernel_rfl) (of_decide_eq_true (by kernel_rfl)) (by kernel_rfl) (congrArg Value.bool (by exact i1)) ?_
        refine OD.run 2 (by kernel_rfl) ?_
        refine OD.done (of_decide_eq_true (by kernel_rfl)) ?_
        refine then_n (by kernel_rfl) ?_
        refine Det.seqA (by kernel_rfl) ?_
        refine Det.seqA (by kernel_rfl) ?_
        refine Det.opsA (by kernel_rfl) hX ?_
        refine OD.run 2 (by kernel_rfl) ?_
        refine OD.done (of_decide_eq_true (by kernel_rfl)) ?_
        refine then_n (by kernel_rfl) ?_
        refine Det.condF (by kernel_rfl) (false) (by kernel_rfl) rfl ?_
        refine Det.skipA (by kernel_rfl) ?_
        refine then_n (by kernel_rfl) ?_
        refine Det.seqA (by kernel_rfl) ?_
        refine Det.seqA (by kernel_rfl) ?_
        refine Det.opsA (by kernel_rfl) hX ?_
        refine OD.run 1 (by kernel_rfl) ?_
        refine OD.as (Value.bool (a == 0)) (Value.bool false) (by kernel_rfl) (of_decide_eq_true (by kernel_rfl)) (by kernel_rfl) (congrArg Value.bool (beq_eq_false_iff_ne.2 (by omega))) ?_
        refine OD.run 2 (by kernel_rfl) ?_
        refine OD.as (Value.bool (b == 0)) (Value.bool false) (by kernel_rfl) (of_decide_eq_true (by kernel_rfl)) (by kernel_rfl) (congrArg Value.bool (beq_eq_false_iff_ne.2 (by omega))) ?_
        refine OD.run 1 (by kernel_rfl) ?_
        refine OD.done (of_decide_eq_true (by kernel_rfl)) ?_
        refine then_n (by kernel_rfl) ?_
        refine Det.condF (by kernel_rfl) (false) (by kernel_rfl) rfl ?_
        refine Det.skipA (by kernel_rfl) ?_
        refine then_n (by kernel_rfl) ?_
        refine Det.seqA (by kernel_rfl) ?_
        refine Det.opsA (by kernel_rfl) hX ?_
        refine OD.run 3 (by kernel_rfl) ?_
        refine OD.bin BinOp.quo 2 (Value.int IntKind.i64 9223372036854775807) (Value.int IntKind.i64 b) (Value.int IntKind.i64 (IntKind.wrap IntKind.i64 (Int.tdiv 9223372036854775807 b))) (by kernel_rfl) (by kernel_rfl) (of_decide_eq_true (by kernel_rfl)) (by kernel_rfl) (abin_quo (by omega)) ?_
        refine OD.as (Value.bool (decide (a ≤ IntKind.wrap IntKind.i64 (Int.tdiv 9223372036854775807 b)))) (Value.bool false) (by kernel_rfl) (of_decide_eq_true (by kernel_rfl)) (by kernel_rfl) (congrArg Value.bool (decide_eq_false (by omega))) ?_
        refine OD.run 13 (by kernel_rfl) ?_
        refine OD.callEq 10 ([]) (known_ok _) (by kernel_rfl) (of_decide_eq_true (by kernel_rfl)) (by kernel_rfl) (by kernel_rfl) (by kernel_rfl) ?_
        refine OD.run 2 (by kernel_rfl) ?_
        refine OD.done (of_decide_eq_true (by kernel_rfl)) ?_
        refine then_n (by kernel_rfl) ?_
        refine Det.retA (by kernel_rfl) ?_
        refine fin_r (Value.bool true) (by kernel_rfl) (by kernel_rfl) ?_
        rfl
end Go.Proofs.Ytphplkjpmhphmaa.Eng
