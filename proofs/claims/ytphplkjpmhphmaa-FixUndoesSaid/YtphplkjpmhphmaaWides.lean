/- The laws of chapter 1 on wide numbers, over the engine's memory. The numbers are int64s and uint64s. -/
import Derived.Test.YtphplkjpmhphmaaLaws
import Derived.Test.YtphplkjpmhphmaaEngLoop
import Derived.Laws.Externs
namespace Go.Proofs.Ytphplkjpmhphmaa.Eng
open Go Go.Proofs Go.Proofs.Ytphplkjpmhphmaa.FixMath
set_option maxRecDepth 100000
set_option maxHeartbeats 4000000
set_option linter.unusedVariables false
/-- what Add64 answers -/
def add64V (x y c : Int) : Value := .tuple #[.int .u64 ((x + y + c) % 18446744073709551616), .int .u64 ((x + y + c) / 18446744073709551616)]
def extA : Ext := fun f args => if f = 25 then match args with
  | [.int .u64 x, .int .u64 y, .int .u64 c] => if 0 ≤ x ∧ 0 ≤ y ∧ 0 ≤ c ∧ c ≤ 1 then some (add64V x y c) else none
  | _ => none else none
theorem extA_add {x y c : Int} (hx : 0 ≤ x) (hy : 0 ≤ y) (hc : 0 ≤ c) (hc1 : c ≤ 1) : extA 25 [.int .u64 x, .int .u64 y, .int .u64 c] = some (add64V x y c) := by
  simp only [extA, if_true]; rw [if_pos ⟨hx, hy, hc, hc1⟩]
theorem hXA : ExtOk Try.prog extA := by
  intro f args v h ρ args' ha w
  unfold extA at h
  split at h
  · rename_i hf
    subst hf
    split at h
    · rename_i x y c
      split at h
      · rename_i hb
        obtain rfl := Option.some.inj h
        have e : args' = [.int .u64 x, .int .u64 y, .int .u64 c] := grounds_eq (by rfl) ha
        subst e
        refine ⟨add64V x y c, ?_, ground_rel ρ rfl⟩
        rw [run_callFunc_extern Try.func25 (by kernel_rfl) (by kernel_rfl) (by kernel_rfl) (show Extern.find Try.f25 = some add64Entry by kernel_rfl)]
        rw [run_add64 x y c hb.1 hb.2.1 hb.2.2.1 hb.2.2.2]
        rfl
      · cases h
    · cases h
  · cases h
theorem fix_Plus (p q : Int) (hp : 0 ≤ p) (hq : 0 ≤ q) (hs : p + q < 340282366920938463463374607431768211456) (h : Heap) :
    DetFn Try.prog 18 [wideV p, wideV q] h fun v h' => v = .tuple #[wideV (p + q), .bool true] ∧ h' = h := by
  refine DetFn.bare (by kernel_rfl) (by kernel_rfl) ?_ h
  refine Det.enter Try.func18 (by kernel_rfl) (of_decide_eq_true (by kernel_rfl)) ?_
  have hX := hXA
  refine Det.seqA (by kernel_rfl) ?_
  refine Det.opsA (by kernel_rfl) hX ?_
  refine OD.run 4 (by kernel_rfl) ?_
  refine OD.done (of_decide_eq_true (by kernel_rfl)) ?_
  refine then_n (by kernel_rfl) ?_
  refine Det.seqA (by kernel_rfl) ?_
  refine Det.opsA (by kernel_rfl) hX ?_
  refine OD.run 4 (by kernel_rfl) ?_
  refine OD.ext 25 ([Value.int IntKind.u64 (p % 18446744073709551616), Value.int IntKind.u64 (q % 18446744073709551616), Value.int IntKind.u64 0]) (extA_add (by omega) (by omega) (by omega) (by omega)) (by kernel_rfl) (of_decide_eq_true (by kernel_rfl)) (by kernel_rfl) (by kernel_rfl) (by kernel_rfl) ?_
  refine OD.run 5 (by kernel_rfl) ?_
  refine OD.done (of_decide_eq_true (by kernel_rfl)) ?_
  refine then_n (by kernel_rfl) ?_
  refine Det.seqA (by kernel_rfl) ?_
  refine Det.opsA (by kernel_rfl) hX ?_
  refine OD.run 5 (by kernel_rfl) ?_
  refine OD.ext 25 ([Value.int IntKind.u64 (p / 18446744073709551616), Value.int IntKind.u64 (q / 18446744073709551616), Value.int IntKind.u64 ((p % 18446744073709551616 + q % 18446744073709551616 + 0) / 18446744073709551616)]) (extA_add (by omega) (by omega) (by omega) (by omega)) (by kernel_rfl) (of_decide_eq_true (by kernel_rfl)) (by kernel_rfl) (by kernel_rfl) (by kernel_rfl) ?_
  refine OD.run 5 (by kernel_rfl) ?_
  refine OD.done (of_decide_eq_true (by kernel_rfl)) ?_
  refine then_n (by kernel_rfl) ?_
  refine Det.seqA (by kernel_rfl) ?_
  refine Det.seqA (by kernel_rfl) ?_
  refine Det.opsA (by kernel_rfl) hX ?_
  refine OD.run 1 (by kernel_rfl) ?_
  refine OD.as (Value.bool (decide (0 < (p / 18446744073709551616 + q / 18446744073709551616 + (p % 18446744073709551616 + q % 18446744073709551616 + 0) / 18446744073709551616) / 18446744073709551616))) (Value.bool false) (by kernel_rfl) (of_decide_eq_true (by kernel_rfl)) (by kernel_rfl) (congrArg Value.bool (decide_eq_false (by omega))) ?_
  refine OD.done (of_decide_eq_true (by kernel_rfl)) ?_
  refine then_n (by kernel_rfl) ?_
  refine Det.condF (by kernel_rfl) (false) (by kernel_rfl) rfl ?_
  refine Det.skipA (by kernel_rfl) ?_
  refine then_n (by kernel_rfl) ?_
  refine Det.seqA (by kernel_rfl) ?_
  refine Det.opsA (by kernel_rfl) hX ?_
  refine OD.run 5 (by kernel_rfl) ?_
  refine OD.done (of_decide_eq_true (by kernel_rfl)) ?_
  refine then_n (by kernel_rfl) ?_
  refine Det.retA (by kernel_rfl) ?_
  refine fin_r (Value.tuple #[Value.agg #[Value.int IntKind.u64 ((p / 18446744073709551616 + q / 18446744073709551616 + (p % 18446744073709551616 + q % 18446744073709551616 + 0) / 18446744073709551616) % 18446744073709551616), Value.int IntKind.u64 ((p % 18446744073709551616 + q % 18446744073709551616 + 0) % 18446744073709551616)], Value.bool true]) (by kernel_rfl) (by kernel_rfl) ?_
  exact wideV_eq (by omega) (by omega)
theorem fix_Plus_no (p q : Int) (hp : 0 ≤ p) (hP : p < 340282366920938463463374607431768211456) (hq : 0 ≤ q) (hQ : q < 340282366920938463463374607431768211456) (hs : 340282366920938463463374607431768211456 ≤ p + q) (h : Heap) :
    DetFn Try.prog 18 [wideV p, wideV q] h fun v h' => v = .tuple #[wideV 0, .bool false] ∧ h' = h := by
  refine DetFn.bare (by kernel_rfl) (by kernel_rfl) ?_ h
  refine Det.enter Try.func18 (by kernel_rfl) (of_decide_eq_true (by kernel_rfl)) ?_
  have hX := hXA
  refine Det.seqA (by kernel_rfl) ?_
  refine Det.opsA (by kernel_rfl) hX ?_
  refine OD.run 4 (by kernel_rfl) ?_
  refine OD.done (of_decide_eq_true (by kernel_rfl)) ?_
  refine then_n (by kernel_rfl) ?_
  refine Det.seqA (by kernel_rfl) ?_
  refine Det.opsA (by kernel_rfl) hX ?_
  refine OD.run 4 (by kernel_rfl) ?_
  refine OD.ext 25 ([Value.int IntKind.u64 (p % 18446744073709551616), Value.int IntKind.u64 (q % 18446744073709551616), Value.int IntKind.u64 0]) (extA_add (by omega) (by omega) (by omega) (by omega)) (by kernel_rfl) (of_decide_eq_true (by kernel_rfl)) (by kernel_rfl) (by kernel_rfl) (by kernel_rfl) ?_
  refine OD.run 5 (by kernel_rfl) ?_
  refine OD.done (of_decide_eq_true (by kernel_rfl)) ?_
  refine then_n (by kernel_rfl) ?_
  refine Det.seqA (by kernel_rfl) ?_
  refine Det.opsA (by kernel_rfl) hX ?_
  refine OD.run 5 (by kernel_rfl) ?_
  refine OD.ext 25 ([Value.int IntKind.u64 (p / 18446744073709551616), Value.int IntKind.u64 (q / 18446744073709551616), Value.int IntKind.u64 ((p % 18446744073709551616 + q % 18446744073709551616 + 0) / 18446744073709551616)]) (extA_add (by omega) (by omega) (by omega) (by omega)) (by kernel_rfl) (of_decide_eq_true (by kernel_rfl)) (by kernel_rfl) (by kernel_rfl) (by kernel_rfl) ?_
  refine OD.run 5 (by kernel_rfl) ?_
  refine OD.done (of_decide_eq_true (by kernel_rfl)) ?_
  refine then_n (by kernel_rfl) ?_
  refine Det.seqA (by kernel_rfl) ?_
  refine Det.seqA (by kernel_rfl) ?_
  refine Det.opsA (by kernel_rfl) hX ?_
  refine OD.run 1 (by kernel_rfl) ?_
  refine OD.as (Value.bool (decide (0 < (p / 18446744073709551616 + q / 18446744073709551616 + (p % 18446744073709551616 + q % 18446744073709551616 + 0) / 18446744073709551616) / 18446744073709551616))) (Value.bool true) (by kernel_rfl) (of_decide_eq_true (by kernel_rfl)) (by kernel_rfl) (congrArg Value.bool (decide_eq_true (by omega))) ?_
  refine OD.done (of_decide_eq_true (by kernel_rfl)) ?_
  refine then_n (by kernel_rfl) ?_
  refine Det.condT (by kernel_rfl) (true) (by kernel_rfl) rfl ?_
  refine Det.seqA (by kernel_rfl) ?_
  refine Det.opsA (by kernel_rfl) hX ?_
  refine OD.run 3 (by kernel_rfl) ?_
  refine OD.done (of_decide_eq_true (by kernel_rfl)) ?_
  refine then_n (by kernel_rfl) ?_
  refine Det.retA (by kernel_rfl) ?_
  refine then_r (by kernel_rfl) ?_
  refine fin_r (Value.tuple #[Value.agg #[Value.int IntKind.u64 0, Value.int IntKind.u64 0], Value.bool false]) (by kernel_rfl) (by kernel_rfl) ?_
  rfl
/-- which number is more -/
def cmpF (p q : Int) : Int := if p < q then -1 else if q < p then 1 else 0
theorem cmp_lt {p q : Int} (h : p < q) : Value.int .i64 (-1) = .int .i64 (cmpF p q) := by rw [cmpF, if_pos h]
theorem cmp_gt {p q : Int} (h : q < p) : Value.int .i64 1 = .int .i64 (cmpF p q) := by rw [cmpF, if_neg (by omega), if_pos h]
theorem cmp_eq {p q : Int} (h : p = q) : Value.int .i64 0 = .int .i64 (cmpF p q) := by rw [cmpF, if_neg (by omega), if_neg (by omega)]
theorem fix_Cmp (p q : Int) (h : Heap) : DetFn Try.prog 11 [wideV p, wideV q] h fun v h' => v = .int .i64 (cmpF p q) ∧ h' = h := by
  refine DetFn.bare (by kernel_rfl) (by kernel_rfl) ?_ h
  refine Det.enter Try.func11 (by kernel_rfl) (of_decide_eq_true (by kernel_rfl)) ?_
  refine Det.seqA (by kernel_rfl) ?_
  refine Det.opsA (by kernel_rfl) hX ?_
  refine OD.run 3 (by kernel_rfl) ?_
  refine OD.done (of_decide_eq_true (by kernel_rfl)) ?_
  refine then_n (by kernel_rfl) ?_
  refine Det.seqA (by kernel_rfl) ?_
  refine Det.drawB (by kernel_rfl) hmix hX (by kernel_rfl) ?_
  refine OD.run 4 (by kernel_rfl) ?_
  refine OD.callIn 24 ([Value.int IntKind.u64 (p / 18446744073709551616), Value.int IntKind.u64 (q / 18446744073709551616)]) (by kernel_rfl) (of_decide_eq_true (by kernel_rfl)) (by kernel_rfl) (by kernel_rfl) (by kernel_rfl) ?_
  refine Det.enter Try.func24 (by kernel_rfl) (of_decide_eq_true (by kernel_rfl)) ?_
  refine Det.seqA (by kernel_rfl) ?_
  refine Det.opsA (by kernel_rfl) hX ?_
  refine OD.run 1 (by kernel_rfl) ?_
  refine OD.done (of_decide_eq_true (by kernel_rfl)) ?_
  refine then_n (by kernel_rfl) ?_
  refine Det.seqA (by kernel_rfl) ?_
  refine Det.opsA (by kernel_rfl) hX ?_
  refine OD.run 1 (by kernel_rfl) ?_
  refine OD.callEv 100 26 ([Value.int IntKind.u64 (p / 18446744073709551616)]) (Value.bool (p / 18446744073709551616 != p / 18446744073709551616)) ({ next := 2, tree := Tree.node (Tree.node Tree.leaf (some (Thing.row [Value.int IntKind.u64 (q / 18446744073709551616), Value.int IntKind.u64 (q % 18446744073709551616)] 24)) Tree.leaf) (some (Thing.row [Value.int IntKind.u64 (p / 18446744073709551616), Value.int IntKind.u64 (p % 18446744073709551616)] 24)) Tree.leaf }) hmix hX (by kernel_rfl) (by kernel_rfl) (of_decide_eq_true (by kernel_rfl)) (by kernel_rfl) (by kernel_rfl) (by kernel_rfl) ?_
  refine OD.as (Value.bool (p / 18446744073709551616 != p / 18446744073709551616)) (Value.bool false) (by kernel_rfl) (of_decide_eq_true (by kernel_rfl)) (by kernel_rfl) (congrArg Value.bool (bne_eq_false_iff_eq.2 rfl)) ?_
  refine OD.done (of_decide_eq_true (by kernel_rfl)) ?_
  refine then_n (by kernel_rfl) ?_
  refine Det.seqA (by kernel_rfl) ?_
  refine Det.opsA (by kernel_rfl) hX ?_
  refine OD.run 1 (by kernel_rfl) ?_
  refine OD.callEv 100 26 ([Value.int IntKind.u64 (q / 18446744073709551616)]) (Value.bool (q / 18446744073709551616 != q / 18446744073709551616)) ({ next := 2, tree := Tree.node (Tree.node Tree.leaf (some (Thing.row [Value.int IntKind.u64 (q / 18446744073709551616), Value.int IntKind.u64 (q % 18446744073709551616)] 24)) Tree.leaf) (some (Thing.row [Value.int IntKind.u64 (p / 18446744073709551616), Value.int IntKind.u64 (p % 18446744073709551616)] 24)) Tree.leaf }) hmix hX (by kernel_rfl) (by kernel_rfl) (of_decide_eq_true (by kernel_rfl)) (by kernel_rfl) (by kernel_rfl) (by kernel_rfl) ?_
  refine OD.as (Value.bool (q / 18446744073709551616 != q / 18446744073709551616)) (Value.bool false) (by kernel_rfl) (of_decide_eq_true (by kernel_rfl)) (by kernel_rfl) (congrArg Value.bool (bne_eq_false_iff_eq.2 rfl)) ?_
  refine OD.done (of_decide_eq_true (by kernel_rfl)) ?_
  refine then_n (by kernel_rfl) ?_
  refine Det.seqA (by kernel_rfl) ?_
  refine Det.seqA (by kernel_rfl) ?_
  refine Det.opsA (by kernel_rfl) hX ?_
  refine OD.run 1 (by kernel_rfl) ?_
  refine OD.done (of_decide_eq_true (by kernel_rfl)) ?_
  refine then_n (by kernel_rfl) ?_
  refine Det.condF (by kernel_rfl) (false) (by kernel_rfl) rfl ?_
  refine Det.skipA (by kernel_rfl) ?_
  refine then_n (by kernel_rfl) ?_
  refine Det.seqA (by kernel_rfl) ?_
  refine Det.seqA (by kernel_rfl) ?_
  refine Det.opsA (by kernel_rfl) hX ?_
  refine OD.run 1 (by kernel_rfl) ?_
  refine OD.done (of_decide_eq_true (by kernel_rfl)) ?_
  refine then_n (by kernel_rfl) ?_
  refine Det.condF (by kernel_rfl) (false) (by kernel_rfl) rfl ?_
  refine Det.skipA (by kernel_rfl) ?_
  refine then_n (by kernel_rfl) ?_
  refine Det.seqA (by kernel_rfl) ?_
  refine Det.seqA (by kernel_rfl) ?_
  refine Det.opsA (by kernel_rfl) hX ?_
  refine OD.run 3 (by kernel_rfl) ?_
  refine OD.done (of_decide_eq_true (by kernel_rfl)) ?_
  refine then_n (by kernel_rfl) ?_
  by_cases c44 : p / 18446744073709551616 < q / 18446744073709551616
  · refine Det.condT (by kernel_rfl) (decide (p / 18446744073709551616 < q / 18446744073709551616)) (by kernel_rfl) (decide_eq_true (by exact c44)) ?_
    refine Det.seqA (by kernel_rfl) ?_
    refine Det.opsA (by kernel_rfl) hX ?_
    refine OD.run 1 (by kernel_rfl) ?_
    refine OD.done (of_decide_eq_true (by kernel_rfl)) ?_
    refine then_n (by kernel_rfl) ?_
    refine Det.retA (by kernel_rfl) ?_
    refine then_r (by kernel_rfl) ?_
    refine fin_r (Value.int IntKind.i64 (-1)) (by kernel_rfl) (by kernel_rfl) ?_
    refine OD.run 4 (by kernel_rfl) ?_
    refine OD.callIn 24 ([Value.int IntKind.u64 (p % 18446744073709551616), Value.int IntKind.u64 (q % 18446744073709551616)]) (by kernel_rfl) (of_decide_eq_true (by kernel_rfl)) (by kernel_rfl) (by kernel_rfl) (by kernel_rfl) ?_
    refine Det.enter Try.func24 (by kernel_rfl) (of_decide_eq_true (by kernel_rfl)) ?_
    refine Det.seqA (by kernel_rfl) ?_
    refine Det.opsA (by kernel_rfl) hX ?_
    refine OD.run 1 (by kernel_rfl) ?_
    refine OD.done (of_decide_eq_true (by kernel_rfl)) ?_
    refine then_n (by kernel_rfl) ?_
    refine Det.seqA (by kernel_rfl) ?_
    refine Det.opsA (by kernel_rfl) hX ?_
    refine OD.run 1 (by kernel_rfl) ?_
    refine OD.callEv 100 26 ([Value.int IntKind.u64 (p % 18446744073709551616)]) (Value.bool (p % 18446744073709551616 != p % 18446744073709551616)) ({ next := 2, tree := Tree.node (Tree.node Tree.leaf (some (Thing.row [Value.int IntKind.u64 (q / 18446744073709551616), Value.int IntKind.u64 (q % 18446744073709551616)] 24)) Tree.leaf) (some (Thing.row [Value.int IntKind.u64 (p / 18446744073709551616), Value.int IntKind.u64 (p % 18446744073709551616)] 24)) Tree.leaf }) hmix hX (by kernel_rfl) (by kernel_rfl) (of_decide_eq_true (by kernel_rfl)) (by kernel_rfl) (by kernel_rfl) (by kernel_rfl) ?_
    refine OD.as (Value.bool (p % 18446744073709551616 != p % 18446744073709551616)) (Value.bool false) (by kernel_rfl) (of_decide_eq_true (by kernel_rfl)) (by kernel_rfl) (congrArg Value.bool (bne_eq_false_iff_eq.2 rfl)) ?_
    refine OD.done (of_decide_eq_true (by kernel_rfl)) ?_
    refine then_n (by kernel_rfl) ?_
    refine Det.seqA (by kernel_rfl) ?_
    refine Det.opsA (by kernel_rfl) hX ?_
    refine OD.run 1 (by kernel_rfl) ?_
    refine OD.callEv 100 26 ([Value.int IntKind.u64 (q % 18446744073709551616)]) (Value.bool (q % 18446744073709551616 != q % 18446744073709551616)) ({ next := 2, tree := Tree.node (Tree.node Tree.leaf (some (Thing.row [Value.int IntKind.u64 (q / 18446744073709551616), Value.int IntKind.u64 (q % 18446744073709551616)] 24)) Tree.leaf) (some (Thing.row [Value.int IntKind.u64 (p / 18446744073709551616), Value.int IntKind.u64 (p % 18446744073709551616)] 24)) Tree.leaf }) hmix hX (by kernel_rfl) (by kernel_rfl) (of_decide_eq_true (by kernel_rfl)) (by kernel_rfl) (by kernel_rfl) (by kernel_rfl) ?_
    refine OD.as (Value.bool (q % 18446744073709551616 != q % 18446744073709551616)) (Value.bool false) (by kernel_rfl) (of_decide_eq_true (by kernel_rfl)) (by kernel_rfl) (congrArg Value.bool (bne_eq_false_iff_eq.2 rfl)) ?_
    refine OD.done (of_decide_eq_true (by kernel_rfl)) ?_
    refine then_n (by kernel_rfl) ?_
    refine Det.seqA (by kernel_rfl) ?_
    refine Det.seqA (by kernel_rfl) ?_
    refine Det.opsA (by kernel_rfl) hX ?_
    refine OD.run 1 (by kernel_rfl) ?_
    refine OD.done (of_decide_eq_true (by kernel_rfl)) ?_
    refine then_n (by kernel_rfl) ?_
    refine Det.condF (by kernel_rfl) (false) (by kernel_rfl) rfl ?_
    refine Det.skipA (by kernel_rfl) ?_
    refine then_n (by kernel_rfl) ?_
    refine Det.seqA (by kernel_rfl) ?_
    refine Det.seqA (by kernel_rfl) ?_
    refine Det.opsA (by kernel_rfl) hX ?_
    refine OD.run 1 (by kernel_rfl) ?_
    refine OD.done (of_decide_eq_true (by kernel_rfl)) ?_
    refine then_n (by kernel_rfl) ?_
    refine Det.condF (by kernel_rfl) (false) (by kernel_rfl) rfl ?_
    refine Det.skipA (by kernel_rfl) ?_
    refine then_n (by kernel_rfl) ?_
    refine Det.seqA (by kernel_rfl) ?_
    refine Det.seqA (by kernel_rfl) ?_
    refine Det.opsA (by kernel_rfl) hX ?_
    refine OD.run 3 (by kernel_rfl) ?_
    refine OD.done (of_decide_eq_true (by kernel_rfl)) ?_
    refine then_n (by kernel_rfl) ?_
    by_cases c91 : p % 18446744073709551616 < q % 18446744073709551616
    · refine Det.condT (by kernel_rfl) (decide (p % 18446744073709551616 < q % 18446744073709551616)) (by kernel_rfl) (decide_eq_true (by exact c91)) ?_
      refine Det.seqA (by kernel_rfl) ?_
      refine Det.opsA (by kernel_rfl) hX ?_
      refine OD.run 1 (by kernel_rfl) ?_
      refine OD.done (of_decide_eq_true (by kernel_rfl)) ?_
      refine then_n (by kernel_rfl) ?_
      refine Det.retA (by kernel_rfl) ?_
      refine then_r (by kernel_rfl) ?_
      refine fin_r (Value.int IntKind.i64 (-1)) (by kernel_rfl) (by kernel_rfl) ?_
      refine OD.run 1 (by kernel_rfl) ?_
      refine OD.callEv 100 23 ([Value.slice (some { block := 2, off := 0 }) 2 2]) (Value.int IntKind.i64 (-1)) ({ next := 3, tree := Tree.node (Tree.node Tree.leaf (some (Thing.row [Value.int IntKind.u64 (q / 18446744073709551616), Value.int IntKind.u64 (q % 18446744073709551616)] 24)) Tree.leaf) (some (Thing.row [Value.int IntKind.u64 (p / 18446744073709551616), Value.int IntKind.u64 (p % 18446744073709551616)] 24)) (Tree.node Tree.leaf (some (Thing.row [Value.int IntKind.i64 (-1), Value.int IntKind.i64 (-1)] 3)) Tree.leaf) }) hmix hX (by kernel_rfl) (by kernel_rfl) (of_decide_eq_true (by kernel_rfl)) (by kernel_rfl) (by kernel_rfl) (by kernel_rfl) ?_
      refine OD.run 1 (by kernel_rfl) ?_
      refine OD.done (of_decide_eq_true (by kernel_rfl)) ?_
      refine ⟨by kernel_rfl, ?_⟩
      refine then_n (by kernel_rfl) ?_
      refine Det.retA (by kernel_rfl) ?_
      refine fin_r (Value.int IntKind.i64 (-1)) (by kernel_rfl) (by kernel_rfl) ?_
      first | exact cmp_lt (by omega) | exact cmp_gt (by omega) | exact cmp_eq (by omega) | (exfalso; omega)
    · refine Det.condF (by kernel_rfl) (decide (p % 18446744073709551616 < q % 18446744073709551616)) (by kernel_rfl) (decide_eq_false (by exact c91)) ?_
      refine Det.skipA (by kernel_rfl) ?_
      refine then_n (by kernel_rfl) ?_
      refine Det.seqA (by kernel_rfl) ?_
      refine Det.seqA (by kernel_rfl) ?_
      refine Det.opsA (by kernel_rfl) hX ?_
      refine OD.run 3 (by kernel_rfl) ?_
      refine OD.done (of_decide_eq_true (by kernel_rfl)) ?_
      refine then_n (by kernel_rfl) ?_
      by_cases c100 : q % 18446744073709551616 < p % 18446744073709551616
      · refine Det.condT (by kernel_rfl) (decide (q % 18446744073709551616 < p % 18446744073709551616)) (by kernel_rfl) (decide_eq_true (by exact c100)) ?_
        refine Det.seqA (by kernel_rfl) ?_
        refine Det.opsA (by kernel_rfl) hX ?_
        refine OD.run 1 (by kernel_rfl) ?_
        refine OD.done (of_decide_eq_true (by kernel_rfl)) ?_
        refine then_n (by kernel_rfl) ?_
        refine Det.retA (by kernel_rfl) ?_
        refine then_r (by kernel_rfl) ?_
        refine fin_r (Value.int IntKind.i64 1) (by kernel_rfl) (by kernel_rfl) ?_
        refine OD.run 1 (by kernel_rfl) ?_
        refine OD.callEv 100 23 ([Value.slice (some { block := 2, off := 0 }) 2 2]) (Value.int IntKind.i64 (-1)) ({ next := 3, tree := Tree.node (Tree.node Tree.leaf (some (Thing.row [Value.int IntKind.u64 (q / 18446744073709551616), Value.int IntKind.u64 (q % 18446744073709551616)] 24)) Tree.leaf) (some (Thing.row [Value.int IntKind.u64 (p / 18446744073709551616), Value.int IntKind.u64 (p % 18446744073709551616)] 24)) (Tree.node Tree.leaf (some (Thing.row [Value.int IntKind.i64 (-1), Value.int IntKind.i64 1] 3)) Tree.leaf) }) hmix hX (by kernel_rfl) (by kernel_rfl) (of_decide_eq_true (by kernel_rfl)) (by kernel_rfl) (by kernel_rfl) (by kernel_rfl) ?_
        refine OD.run 1 (by kernel_rfl) ?_
        refine OD.done (of_decide_eq_true (by kernel_rfl)) ?_
        refine ⟨by kernel_rfl, ?_⟩
        refine then_n (by kernel_rfl) ?_
        refine Det.retA (by kernel_rfl) ?_
        refine fin_r (Value.int IntKind.i64 (-1)) (by kernel_rfl) (by kernel_rfl) ?_
        first | exact cmp_lt (by omega) | exact cmp_gt (by omega) | exact cmp_eq (by omega) | (exfalso; omega)
      · refine Det.condF (by kernel_rfl) (decide (q % 18446744073709551616 < p % 18446744073709551616)) (by kernel_rfl) (decide_eq_false (by exact c100)) ?_
        refine Det.skipA (by kernel_rfl) ?_
        refine then_n (by kernel_rfl) ?_
        refine Det.seqA (by kernel_rfl) ?_
        refine Det.opsA (by kernel_rfl) hX ?_
        refine OD.run 1 (by kernel_rfl) ?_
        refine OD.done (of_decide_eq_true (by kernel_rfl)) ?_
        refine then_n (by kernel_rfl) ?_
        refine Det.retA (by kernel_rfl) ?_
        refine fin_r (Value.int IntKind.i64 0) (by kernel_rfl) (by kernel_rfl) ?_
        refine OD.run 1 (by kernel_rfl) ?_
        refine OD.callEv 100 23 ([Value.slice (some { block := 2, off := 0 }) 2 2]) (Value.int IntKind.i64 (-1)) ({ next := 3, tree := Tree.node (Tree.node Tree.leaf (some (Thing.row [Value.int IntKind.u64 (q / 18446744073709551616), Value.int IntKind.u64 (q % 18446744073709551616)] 24)) Tree.leaf) (some (Thing.row [Value.int IntKind.u64 (p / 18446744073709551616), Value.int IntKind.u64 (p % 18446744073709551616)] 24)) (Tree.node Tree.leaf (some (Thing.row [Value.int IntKind.i64 (-1), Value.int IntKind.i64 0] 3)) Tree.leaf) }) hmix hX (by kernel_rfl) (by kernel_rfl) (of_decide_eq_true (by kernel_rfl)) (by kernel_rfl) (by kernel_rfl) (by kernel_rfl) ?_
        refine OD.run 1 (by kernel_rfl) ?_
        refine OD.done (of_decide_eq_true (by kernel_rfl)) ?_
        refine ⟨by kernel_rfl, ?_⟩
        refine then_n (by kernel_rfl) ?_
        refine Det.retA (by kernel_rfl) ?_
        refine fin_r (Value.int IntKind.i64 (-1)) (by kernel_rfl) (by kernel_rfl) ?_
        first | exact cmp_lt (by omega) | exact cmp_gt (by omega) | exact cmp_eq (by omega) | (exfalso; omega)
  · refine Det.condF (by kernel_rfl) (decide (p / 18446744073709551616 < q / 18446744073709551616)) (by kernel_rfl) (decide_eq_false (by exact c44)) ?_
    refine Det.skipA (by kernel_rfl) ?_
    refine then_n (by kernel_rfl) ?_
    refine Det.seqA (by kernel_rfl) ?_
    refine Det.seqA (by kernel_rfl) ?_
    refine Det.opsA (by kernel_rfl) hX ?_
    refine OD.run 3 (by kernel_rfl) ?_
    refine OD.done (of_decide_eq_true (by kernel_rfl)) ?_
    refine then_n (by kernel_rfl) ?_
    by_cases c53 : q / 18446744073709551616 < p / 18446744073709551616
    · refine Det.condT (by kernel_rfl) (decide (q / 18446744073709551616 < p / 18446744073709551616)) (by kernel_rfl) (decide_eq_true (by exact c53)) ?_
      refine Det.seqA (by kernel_rfl) ?_
      refine Det.opsA (by kernel_rfl) hX ?_
      refine OD.run 1 (by kernel_rfl) ?_
      refine OD.done (of_decide_eq_true (by kernel_rfl)) ?_
      refine then_n (by kernel_rfl) ?_
      refine Det.retA (by kernel_rfl) ?_
      refine then_r (by kernel_rfl) ?_
      refine fin_r (Value.int IntKind.i64 1) (by kernel_rfl) (by kernel_rfl) ?_
      refine OD.run 4 (by kernel_rfl) ?_
      refine OD.callIn 24 ([Value.int IntKind.u64 (p % 18446744073709551616), Value.int IntKind.u64 (q % 18446744073709551616)]) (by kernel_rfl) (of_decide_eq_true (by kernel_rfl)) (by kernel_rfl) (by kernel_rfl) (by kernel_rfl) ?_
      refine Det.enter Try.func24 (by kernel_rfl) (of_decide_eq_true (by kernel_rfl)) ?_
      refine Det.seqA (by kernel_rfl) ?_
      refine Det.opsA (by kernel_rfl) hX ?_
      refine OD.run 1 (by kernel_rfl) ?_
      refine OD.done (of_decide_eq_true (by kernel_rfl)) ?_
      refine then_n (by kernel_rfl) ?_
      refine Det.seqA (by kernel_rfl) ?_
      refine Det.opsA (by kernel_rfl) hX ?_
      refine OD.run 1 (by kernel_rfl) ?_
      refine OD.callEv 100 26 ([Value.int IntKind.u64 (p % 18446744073709551616)]) (Value.bool (p % 18446744073709551616 != p % 18446744073709551616)) ({ next := 2, tree := Tree.node (Tree.node Tree.leaf (some (Thing.row [Value.int IntKind.u64 (q / 18446744073709551616), Value.int IntKind.u64 (q % 18446744073709551616)] 24)) Tree.leaf) (some (Thing.row [Value.int IntKind.u64 (p / 18446744073709551616), Value.int IntKind.u64 (p % 18446744073709551616)] 24)) Tree.leaf }) hmix hX (by kernel_rfl) (by kernel_rfl) (of_decide_eq_true (by kernel_rfl)) (by kernel_rfl) (by kernel_rfl) (by kernel_rfl) ?_
      refine OD.as (Value.bool (p % 18446744073709551616 != p % 18446744073709551616)) (Value.bool false) (by kernel_rfl) (of_decide_eq_true (by kernel_rfl)) (by kernel_rfl) (congrArg Value.bool (bne_eq_false_iff_eq.2 rfl)) ?_
      refine OD.done (of_decide_eq_true (by kernel_rfl)) ?_
      refine then_n (by kernel_rfl) ?_
      refine Det.seqA (by kernel_rfl) ?_
      refine Det.opsA (by kernel_rfl) hX ?_
      refine OD.run 1 (by kernel_rfl) ?_
      refine OD.callEv 100 26 ([Value.int IntKind.u64 (q % 18446744073709551616)]) (Value.bool (q % 18446744073709551616 != q % 18446744073709551616)) ({ next := 2, tree := Tree.node (Tree.node Tree.leaf (some (Thing.row [Value.int IntKind.u64 (q / 18446744073709551616), Value.int IntKind.u64 (q % 18446744073709551616)] 24)) Tree.leaf) (some (Thing.row [Value.int IntKind.u64 (p / 18446744073709551616), Value.int IntKind.u64 (p % 18446744073709551616)] 24)) Tree.leaf }) hmix hX (by kernel_rfl) (by kernel_rfl) (of_decide_eq_true (by kernel_rfl)) (by kernel_rfl) (by kernel_rfl) (by kernel_rfl) ?_
      refine OD.as (Value.bool (q % 18446744073709551616 != q % 18446744073709551616)) (Value.bool false) (by kernel_rfl) (of_decide_eq_true (by kernel_rfl)) (by kernel_rfl) (congrArg Value.bool (bne_eq_false_iff_eq.2 rfl)) ?_
      refine OD.done (of_decide_eq_true (by kernel_rfl)) ?_
      refine then_n (by kernel_rfl) ?_
      refine Det.seqA (by kernel_rfl) ?_
      refine Det.seqA (by kernel_rfl) ?_
      refine Det.opsA (by kernel_rfl) hX ?_
      refine OD.run 1 (by kernel_rfl) ?_
      refine OD.done (of_decide_eq_true (by kernel_rfl)) ?_
      refine then_n (by kernel_rfl) ?_
      refine Det.condF (by kernel_rfl) (false) (by kernel_rfl) rfl ?_
      refine Det.skipA (by kernel_rfl) ?_
      refine then_n (by kernel_rfl) ?_
      refine Det.seqA (by kernel_rfl) ?_
      refine Det.seqA (by kernel_rfl) ?_
      refine Det.opsA (by kernel_rfl) hX ?_
      refine OD.run 1 (by kernel_rfl) ?_
      refine OD.done (of_decide_eq_true (by kernel_rfl)) ?_
      refine then_n (by kernel_rfl) ?_
      refine Det.condF (by kernel_rfl) (false) (by kernel_rfl) rfl ?_
      refine Det.skipA (by kernel_rfl) ?_
      refine then_n (by kernel_rfl) ?_
      refine Det.seqA (by kernel_rfl) ?_
      refine Det.seqA (by kernel_rfl) ?_
      refine Det.opsA (by kernel_rfl) hX ?_
      refine OD.run 3 (by kernel_rfl) ?_
      refine OD.done (of_decide_eq_true (by kernel_rfl)) ?_
      refine then_n (by kernel_rfl) ?_
      by_cases c100 : p % 18446744073709551616 < q % 18446744073709551616
      · refine Det.condT (by kernel_rfl) (decide (p % 18446744073709551616 < q % 18446744073709551616)) (by kernel_rfl) (decide_eq_true (by exact c100)) ?_
        refine Det.seqA (by kernel_rfl) ?_
        refine Det.opsA (by kernel_rfl) hX ?_
        refine OD.run 1 (by kernel_rfl) ?_
        refine OD.done (of_decide_eq_true (by kernel_rfl)) ?_
        refine then_n (by kernel_rfl) ?_
        refine Det.retA (by kernel_rfl) ?_
        refine then_r (by kernel_rfl) ?_
        refine fin_r (Value.int IntKind.i64 (-1)) (by kernel_rfl) (by kernel_rfl) ?_
        refine OD.run 1 (by kernel_rfl) ?_
        refine OD.callEv 100 23 ([Value.slice (some { block := 2, off := 0 }) 2 2]) (Value.int IntKind.i64 1) ({ next := 3, tree := Tree.node (Tree.node Tree.leaf (some (Thing.row [Value.int IntKind.u64 (q / 18446744073709551616), Value.int IntKind.u64 (q % 18446744073709551616)] 24)) Tree.leaf) (some (Thing.row [Value.int IntKind.u64 (p / 18446744073709551616), Value.int IntKind.u64 (p % 18446744073709551616)] 24)) (Tree.node Tree.leaf (some (Thing.row [Value.int IntKind.i64 1, Value.int IntKind.i64 (-1)] 3)) Tree.leaf) }) hmix hX (by kernel_rfl) (by kernel_rfl) (of_decide_eq_true (by kernel_rfl)) (by kernel_rfl) (by kernel_rfl) (by kernel_rfl) ?_
        refine OD.run 1 (by kernel_rfl) ?_
        refine OD.done (of_decide_eq_true (by kernel_rfl)) ?_
        refine ⟨by kernel_rfl, ?_⟩
        refine then_n (by kernel_rfl) ?_
        refine Det.retA (by kernel_rfl) ?_
        refine fin_r (Value.int IntKind.i64 1) (by kernel_rfl) (by kernel_rfl) ?_
        first | exact cmp_lt (by omega) | exact cmp_gt (by omega) | exact cmp_eq (by omega) | (exfalso; omega)
      · refine Det.condF (by kernel_rfl) (decide (p % 18446744073709551616 < q % 18446744073709551616)) (by kernel_rfl) (decide_eq_false (by exact c100)) ?_
        refine Det.skipA (by kernel_rfl) ?_
        refine then_n (by kernel_rfl) ?_
        refine Det.seqA (by kernel_rfl) ?_
        refine Det.seqA (by kernel_rfl) ?_
        refine Det.opsA (by kernel_rfl) hX ?_
        refine OD.run 3 (by kernel_rfl) ?_
        refine OD.done (of_decide_eq_true (by kernel_rfl)) ?_
        refine then_n (by kernel_rfl) ?_
        by_cases c109 : q % 18446744073709551616 < p % 18446744073709551616
        · refine Det.condT (by kernel_rfl) (decide (q % 18446744073709551616 < p % 18446744073709551616)) (by kernel_rfl) (decide_eq_true (by exact c109)) ?_
          refine Det.seqA (by kernel_rfl) ?_
          refine Det.opsA (by kernel_rfl) hX ?_
          refine OD.run 1 (by kernel_rfl) ?_
          refine OD.done (of_decide_eq_true (by kernel_rfl)) ?_
          refine then_n (by kernel_rfl) ?_
          refine Det.retA (by kernel_rfl) ?_
          refine then_r (by kernel_rfl) ?_
          refine fin_r (Value.int IntKind.i64 1) (by kernel_rfl) (by kernel_rfl) ?_
          refine OD.run 1 (by kernel_rfl) ?_
          refine OD.callEv 100 23 ([Value.slice (some { block := 2, off := 0 }) 2 2]) (Value.int IntKind.i64 1) ({ next := 3, tree := Tree.node (Tree.node Tree.leaf (some (Thing.row [Value.int IntKind.u64 (q / 18446744073709551616), Value.int IntKind.u64 (q % 18446744073709551616)] 24)) Tree.leaf) (some (Thing.row [Value.int IntKind.u64 (p / 18446744073709551616), Value.int IntKind.u64 (p % 18446744073709551616)] 24)) (Tree.node Tree.leaf (some (Thing.row [Value.int IntKind.i64 1, Value.int IntKind.i64 1] 3)) Tree.leaf) }) hmix hX (by kernel_rfl) (by kernel_rfl) (of_decide_eq_true (by kernel_rfl)) (by kernel_rfl) (by kernel_rfl) (by kernel_rfl) ?_
          refine OD.run 1 (by kernel_rfl) ?_
          refine OD.done (of_decide_eq_true (by kernel_rfl)) ?_
          refine ⟨by kernel_rfl, ?_⟩
          refine then_n (by kernel_rfl) ?_
          refine Det.retA (by kernel_rfl) ?_
          refine fin_r (Value.int IntKind.i64 1) (by kernel_rfl) (by kernel_rfl) ?_
          first | exact cmp_lt (by omega) | exact cmp_gt (by omega) | exact cmp_eq (by omega) | (exfalso; omega)
        · refine Det.condF (by kernel_rfl) (decide (q % 18446744073709551616 < p % 18446744073709551616)) (by kernel_rfl) (decide_eq_false (by exact c109)) ?_
          refine Det.skipA (by kernel_rfl) ?_
          refine then_n (by kernel_rfl) ?_
          refine Det.seqA (by kernel_rfl) ?_
          refine Det.opsA (by kernel_rfl) hX ?_
          refine OD.run 1 (by kernel_rfl) ?_
          refine OD.done (of_decide_eq_true (by kernel_rfl)) ?_
          refine then_n (by kernel_rfl) ?_
          refine Det.retA (by kernel_rfl) ?_
          refine fin_r (Value.int IntKind.i64 0) (by kernel_rfl) (by kernel_rfl) ?_
          refine OD.run 1 (by kernel_rfl) ?_
          refine OD.callEv 100 23 ([Value.slice (some { block := 2, off := 0 }) 2 2]) (Value.int IntKind.i64 1) ({ next := 3, tree := Tree.node (Tree.node Tree.leaf (some (Thing.row [Value.int IntKind.u64 (q / 18446744073709551616), Value.int IntKind.u64 (q % 18446744073709551616)] 24)) Tree.leaf) (some (Thing.row [Value.int IntKind.u64 (p / 18446744073709551616), Value.int IntKind.u64 (p % 18446744073709551616)] 24)) (Tree.node Tree.leaf (some (Thing.row [Value.int IntKind.i64 1, Value.int IntKind.i64 0] 3)) Tree.leaf) }) hmix hX (by kernel_rfl) (by kernel_rfl) (of_decide_eq_true (by kernel_rfl)) (by kernel_rfl) (by kernel_rfl) (by kernel_rfl) ?_
          refine OD.run 1 (by kernel_rfl) ?_
          refine OD.done (of_decide_eq_true (by kernel_rfl)) ?_
          refine ⟨by kernel_rfl, ?_⟩
          refine then_n (by kernel_rfl) ?_
          refine Det.retA (by kernel_rfl) ?_
          refine fin_r (Value.int IntKind.i64 1) (by kernel_rfl) (by kernel_rfl) ?_
          first | exact cmp_lt (by omega) | exact cmp_gt (by omega) | exact cmp_eq (by omega) | (exfalso; omega)
    · refine Det.condF (by kernel_rfl) (decide (q / 18446744073709551616 < p / 18446744073709551616)) (by kernel_rfl) (decide_eq_false (by exact c53)) ?_
      refine Det.skipA (by kernel_rfl) ?_
      refine then_n (by kernel_rfl) ?_
      refine Det.seqA (by kernel_rfl) ?_
      refine Det.opsA (by kernel_rfl) hX ?_
      refine OD.run 1 (by kernel_rfl) ?_
      refine OD.done (of_decide_eq_true (by kernel_rfl)) ?_
      refine then_n (by kernel_rfl) ?_
      refine Det.retA (by kernel_rfl) ?_
      refine fin_r (Value.int IntKind.i64 0) (by kernel_rfl) (by kernel_rfl) ?_
      refine OD.run 4 (by kernel_rfl) ?_
      refine OD.callIn 24 ([Value.int IntKind.u64 (p % 18446744073709551616), Value.int IntKind.u64 (q % 18446744073709551616)]) (by kernel_rfl) (of_decide_eq_true (by kernel_rfl)) (by kernel_rfl) (by kernel_rfl) (by kernel_rfl) ?_
      refine Det.enter Try.func24 (by kernel_rfl) (of_decide_eq_true (by kernel_rfl)) ?_
      refine Det.seqA (by kernel_rfl) ?_
      refine Det.opsA (by kernel_rfl) hX ?_
      refine OD.run 1 (by kernel_rfl) ?_
      refine OD.done (of_decide_eq_true (by kernel_rfl)) ?_
      refine then_n (by kernel_rfl) ?_
      refine Det.seqA (by kernel_rfl) ?_
      refine Det.opsA (by kernel_rfl) hX ?_
      refine OD.run 1 (by kernel_rfl) ?_
      refine OD.callEv 100 26 ([Value.int IntKind.u64 (p % 18446744073709551616)]) (Value.bool (p % 18446744073709551616 != p % 18446744073709551616)) ({ next := 2, tree := Tree.node (Tree.node Tree.leaf (some (Thing.row [Value.int IntKind.u64 (q / 18446744073709551616), Value.int IntKind.u64 (q % 18446744073709551616)] 24)) Tree.leaf) (some (Thing.row [Value.int IntKind.u64 (p / 18446744073709551616), Value.int IntKind.u64 (p % 18446744073709551616)] 24)) Tree.leaf }) hmix hX (by kernel_rfl) (by kernel_rfl) (of_decide_eq_true (by kernel_rfl)) (by kernel_rfl) (by kernel_rfl) (by kernel_rfl) ?_
      refine OD.as (Value.bool (p % 18446744073709551616 != p % 18446744073709551616)) (Value.bool false) (by kernel_rfl) (of_decide_eq_true (by kernel_rfl)) (by kernel_rfl) (congrArg Value.bool (bne_eq_false_iff_eq.2 rfl)) ?_
      refine OD.done (of_decide_eq_true (by kernel_rfl)) ?_
      refine then_n (by kernel_rfl) ?_
      refine Det.seqA (by kernel_rfl) ?_
      refine Det.opsA (by kernel_rfl) hX ?_
      refine OD.run 1 (by kernel_rfl) ?_
      refine OD.callEv 100 26 ([Value.int IntKind.u64 (q % 18446744073709551616)]) (Value.bool (q % 18446744073709551616 != q % 18446744073709551616)) ({ next := 2, tree := Tree.node (Tree.node Tree.leaf (some (Thing.row [Value.int IntKind.u64 (q / 18446744073709551616), Value.int IntKind.u64 (q % 18446744073709551616)] 24)) Tree.leaf) (some (Thing.row [Value.int IntKind.u64 (p / 18446744073709551616), Value.int IntKind.u64 (p % 18446744073709551616)] 24)) Tree.leaf }) hmix hX (by kernel_rfl) (by kernel_rfl) (of_decide_eq_true (by kernel_rfl)) (by kernel_rfl) (by kernel_rfl) (by kernel_rfl) ?_
      refine OD.as (Value.bool (q % 18446744073709551616 != q % 18446744073709551616)) (Value.bool false) (by kernel_rfl) (of_decide_eq_true (by kernel_rfl)) (by kernel_rfl) (congrArg Value.bool (bne_eq_false_iff_eq.2 rfl)) ?_
      refine OD.done (of_decide_eq_true (by kernel_rfl)) ?_
      refine then_n (by kernel_rfl) ?_
      refine Det.seqA (by kernel_rfl) ?_
      refine Det.seqA (by kernel_rfl) ?_
      refine Det.opsA (by kernel_rfl) hX ?_
      refine OD.run 1 (by kernel_rfl) ?_
      refine OD.done (of_decide_eq_true (by kernel_rfl)) ?_
      refine then_n (by kernel_rfl) ?_
      refine Det.condF (by kernel_rfl) (false) (by kernel_rfl) rfl ?_
      refine Det.skipA (by kernel_rfl) ?_
      refine then_n (by kernel_rfl) ?_
      refine Det.seqA (by kernel_rfl) ?_
      refine Det.seqA (by kernel_rfl) ?_
      refine Det.opsA (by kernel_rfl) hX ?_
      refine OD.run 1 (by kernel_rfl) ?_
      refine OD.done (of_decide_eq_true (by kernel_rfl)) ?_
      refine then_n (by kernel_rfl) ?_
      refine Det.condF (by kernel_rfl) (false) (by kernel_rfl) rfl ?_
      refine Det.skipA (by kernel_rfl) ?_
      refine then_n (by kernel_rfl) ?_
      refine Det.seqA (by kernel_rfl) ?_
      refine Det.seqA (by kernel_rfl) ?_
      refine Det.opsA (by kernel_rfl) hX ?_
      refine OD.run 3 (by kernel_rfl) ?_
      refine OD.done (of_decide_eq_true (by kernel_rfl)) ?_
      refine then_n (by kernel_rfl) ?_
      by_cases c101 : p % 18446744073709551616 < q % 18446744073709551616
      · refine Det.condT (by kernel_rfl) (decide (p % 18446744073709551616 < q % 18446744073709551616)) (by kernel_rfl) (decide_eq_true (by exact c101)) ?_
        refine Det.seqA (by kernel_rfl) ?_
        refine Det.opsA (by kernel_rfl) hX ?_
        refine OD.run 1 (by kernel_rfl) ?_
        refine OD.done (of_decide_eq_true (by kernel_rfl)) ?_
        refine then_n (by kernel_rfl) ?_
        refine Det.retA (by kernel_rfl) ?_
        refine then_r (by kernel_rfl) ?_
        refine fin_r (Value.int IntKind.i64 (-1)) (by kernel_rfl) (by kernel_rfl) ?_
        refine OD.run 1 (by kernel_rfl) ?_
        refine OD.callEv 100 23 ([Value.slice (some { block := 2, off := 0 }) 2 2]) (Value.int IntKind.i64 (-1)) ({ next := 3, tree := Tree.node (Tree.node Tree.leaf (some (Thing.row [Value.int IntKind.u64 (q / 18446744073709551616), Value.int IntKind.u64 (q % 18446744073709551616)] 24)) Tree.leaf) (some (Thing.row [Value.int IntKind.u64 (p / 18446744073709551616), Value.int IntKind.u64 (p % 18446744073709551616)] 24)) (Tree.node Tree.leaf (some (Thing.row [Value.int IntKind.i64 0, Value.int IntKind.i64 (-1)] 3)) Tree.leaf) }) hmix hX (by kernel_rfl) (by kernel_rfl) (of_decide_eq_true (by kernel_rfl)) (by kernel_rfl) (by kernel_rfl) (by kernel_rfl) ?_
        refine OD.run 1 (by kernel_rfl) ?_
        refine OD.done (of_decide_eq_true (by kernel_rfl)) ?_
        refine ⟨by kernel_rfl, ?_⟩
        refine then_n (by kernel_rfl) ?_
        refine Det.retA (by kernel_rfl) ?_
        refine fin_r (Value.int IntKind.i64 (-1)) (by kernel_rfl) (by kernel_rfl) ?_
        first | exact cmp_lt (by omega) | exact cmp_gt (by omega) | exact cmp_eq (by omega) | (exfalso; omega)
      · refine Det.condF (by kernel_rfl) (decide (p % 18446744073709551616 < q % 18446744073709551616)) (by kernel_rfl) (decide_eq_false (by exact c101)) ?_
        refine Det.skipA (by kernel_rfl) ?_
        refine then_n (by kernel_rfl) ?_
        refine Det.seqA (by kernel_rfl) ?_
        refine Det.seqA (by kernel_rfl) ?_
        refine Det.opsA (by kernel_rfl) hX ?_
        refine OD.run 3 (by kernel_rfl) ?_
        refine OD.done (of_decide_eq_true (by kernel_rfl)) ?_
        refine then_n (by kernel_rfl) ?_
        by_cases c110 : q % 18446744073709551616 < p % 18446744073709551616
        · refine Det.condT (by kernel_rfl) (decide (q % 18446744073709551616 < p % 18446744073709551616)) (by kernel_rfl) (decide_eq_true (by exact c110)) ?_
          refine Det.seqA (by kernel_rfl) ?_
          refine Det.opsA (by kernel_rfl) hX ?_
          refine OD.run 1 (by kernel_rfl) ?_
          refine OD.done (of_decide_eq_true (by kernel_rfl)) ?_
          refine then_n (by kernel_rfl) ?_
          refine Det.retA (by kernel_rfl) ?_
          refine then_r (by kernel_rfl) ?_
          refine fin_r (Value.int IntKind.i64 1) (by kernel_rfl) (by kernel_rfl) ?_
          refine OD.run 1 (by kernel_rfl) ?_
          refine OD.callEv 100 23 ([Value.slice (some { block := 2, off := 0 }) 2 2]) (Value.int IntKind.i64 1) ({ next := 3, tree := Tree.node (Tree.node Tree.leaf (some (Thing.row [Value.int IntKind.u64 (q / 18446744073709551616), Value.int IntKind.u64 (q % 18446744073709551616)] 24)) Tree.leaf) (some (Thing.row [Value.int IntKind.u64 (p / 18446744073709551616), Value.int IntKind.u64 (p % 18446744073709551616)] 24)) (Tree.node Tree.leaf (some (Thing.row [Value.int IntKind.i64 0, Value.int IntKind.i64 1] 3)) Tree.leaf) }) hmix hX (by kernel_rfl) (by kernel_rfl) (of_decide_eq_true (by kernel_rfl)) (by kernel_rfl) (by kernel_rfl) (by kernel_rfl) ?_
          refine OD.run 1 (by kernel_rfl) ?_
          refine OD.done (of_decide_eq_true (by kernel_rfl)) ?_
          refine ⟨by kernel_rfl, ?_⟩
          refine then_n (by kernel_rfl) ?_
          refine Det.retA (by kernel_rfl) ?_
          refine fin_r (Value.int IntKind.i64 1) (by kernel_rfl) (by kernel_rfl) ?_
          first | exact cmp_lt (by omega) | exact cmp_gt (by omega) | exact cmp_eq (by omega) | (exfalso; omega)
        · refine Det.condF (by kernel_rfl) (decide (q % 18446744073709551616 < p % 18446744073709551616)) (by kernel_rfl) (decide_eq_false (by exact c110)) ?_
          refine Det.skipA (by kernel_rfl) ?_
          refine then_n (by kernel_rfl) ?_
          refine Det.seqA (by kernel_rfl) ?_
          refine Det.opsA (by kernel_rfl) hX ?_
          refine OD.run 1 (by kernel_rfl) ?_
          refine OD.done (of_decide_eq_true (by kernel_rfl)) ?_
          refine then_n (by kernel_rfl) ?_
          refine Det.retA (by kernel_rfl) ?_
          refine fin_r (Value.int IntKind.i64 0) (by kernel_rfl) (by kernel_rfl) ?_
          refine OD.run 1 (by kernel_rfl) ?_
          refine OD.callEv 100 23 ([Value.slice (some { block := 2, off := 0 }) 2 2]) (Value.int IntKind.i64 0) ({ next := 3, tree := Tree.node (Tree.node Tree.leaf (some (Thing.row [Value.int IntKind.u64 (q / 18446744073709551616), Value.int IntKind.u64 (q % 18446744073709551616)] 24)) Tree.leaf) (some (Thing.row [Value.int IntKind.u64 (p / 18446744073709551616), Value.int IntKind.u64 (p % 18446744073709551616)] 24)) (Tree.node Tree.leaf (some (Thing.row [Value.int IntKind.i64 0, Value.int IntKind.i64 0] 3)) Tree.leaf) }) hmix hX (by kernel_rfl) (by kernel_rfl) (of_decide_eq_true (by kernel_rfl)) (by kernel_rfl) (by kernel_rfl) (by kernel_rfl) ?_
          refine OD.run 1 (by kernel_rfl) ?_
          refine OD.done (of_decide_eq_true (by kernel_rfl)) ?_
          refine ⟨by kernel_rfl, ?_⟩
          refine then_n (by kernel_rfl) ?_
          refine Det.retA (by kernel_rfl) ?_
          refine fin_r (Value.int IntKind.i64 0) (by kernel_rfl) (by kernel_rfl) ?_
          first | exact cmp_lt (by omega) | exact cmp_gt (by omega) | exact cmp_eq (by omega) | (exfalso; omega)
theorem ref_Cmp (p q : Int) (h : Heap) : DetFn Try.prog 21 [wideV p, wideV q] h fun v h' => v = .int .i64 (cmpF p q) ∧ h' = h := by
  refine DetFn.bare (by kernel_rfl) (by kernel_rfl) ?_ h
  refine Det.enter Try.func21 (by kernel_rfl) (of_decide_eq_true (by kernel_rfl)) ?_
  refine Det.seqA (by kernel_rfl) ?_
  refine Det.opsA (by kernel_rfl) hX ?_
  refine OD.run 3 (by kernel_rfl) ?_
  refine OD.done (of_decide_eq_true (by kernel_rfl)) ?_
  refine then_n (by kernel_rfl) ?_
  refine Det.seqA (by kernel_rfl) ?_
  refine Det.blockA (by kernel_rfl) ?_
  refine Det.seqA (by kernel_rfl) ?_
  refine Det.opsA (by kernel_rfl) hX ?_
  refine OD.run 2 (by kernel_rfl) ?_
  refine OD.bin BinOp.eql 24 (Value.agg #[Value.int IntKind.u64 (p / 18446744073709551616), Value.int IntKind.u64 (p % 18446744073709551616)]) (Value.agg #[Value.int IntKind.u64 (q / 18446744073709551616), Value.int IntKind.u64 (q % 18446744073709551616)]) (Value.bool (p / 18446744073709551616 == q / 18446744073709551616 && (p % 18446744073709551616 == q % 18446744073709551616 && true))) (by kernel_rfl) (by kernel_rfl) (of_decide_eq_true (by kernel_rfl)) (by kernel_rfl) ((abin_eqlB (by kernel_rfl)).trans (by kernel_rfl)) ?_
  refine OD.run 1 (by kernel_rfl) ?_
  refine OD.done (of_decide_eq_true (by kernel_rfl)) ?_
  refine then_n (by kernel_rfl) ?_
  by_cases c11 : p / 18446744073709551616 = q / 18446744073709551616
  · by_cases c12 : p % 18446744073709551616 = q % 18446744073709551616
    · refine Det.condT (by kernel_rfl) (p / 18446744073709551616 == q / 18446744073709551616 && (p % 18446744073709551616 == q % 18446744073709551616 && true)) (by kernel_rfl) (andB (a := true) (b := true) (beq_iff_eq.2 (by exact c11)) (andB (a := true) (b := true) (beq_iff_eq.2 (by exact c12)) rfl rfl) rfl) ?_
      refine Det.seqA (by kernel_rfl) ?_
      refine Det.opsA (by kernel_rfl) hX ?_
      refine OD.run 1 (by kernel_rfl) ?_
      refine OD.done (of_decide_eq_true (by kernel_rfl)) ?_
      refine then_n (by kernel_rfl) ?_
      refine Det.retA (by kernel_rfl) ?_
      refine then_r (by kernel_rfl) ?_
      refine fin_r (Value.int IntKind.i64 0) (by kernel_rfl) (by kernel_rfl) ?_
      first | exact cmp_lt (by omega) | exact cmp_gt (by omega) | exact cmp_eq (by omega) | (exfalso; omega)
    · refine Det.condF (by kernel_rfl) (p / 18446744073709551616 == q / 18446744073709551616 && (p % 18446744073709551616 == q % 18446744073709551616 && true)) (by kernel_rfl) (andB (a := true) (b := false) (beq_iff_eq.2 (by exact c11)) (andB (a := false) (b := true) (beq_eq_false_iff_ne.2 (by exact c12)) rfl rfl) rfl) ?_
      refine Det.seqA (by kernel_rfl) ?_
      refine Det.opsA (by kernel_rfl) hX ?_
      refine OD.run 4 (by kernel_rfl) ?_
      refine OD.as (Value.bool (decide (p / 18446744073709551616 < q / 18446744073709551616))) (Value.bool false) (by kernel_rfl) (of_decide_eq_true (by kernel_rfl)) (by kernel_rfl) (congrArg Value.bool (decide_eq_false (by omega))) ?_
      refine OD.run 5 (by kernel_rfl) ?_
      refine OD.as (Value.bool (p / 18446744073709551616 == q / 18446744073709551616)) (Value.bool true) (by kernel_rfl) (of_decide_eq_true (by kernel_rfl)) (by kernel_rfl) (congrArg Value.bool (beq_iff_eq.2 (by exact c11))) ?_
      refine OD.run 9 (by kernel_rfl) ?_
      refine OD.done (of_decide_eq_true (by kernel_rfl)) ?_
      refine then_n (by kernel_rfl) ?_
      by_cases c20 : p % 18446744073709551616 < q % 18446744073709551616
      · refine Det.condT (by kernel_rfl) (decide (p % 18446744073709551616 < q % 18446744073709551616)) (by kernel_rfl) (decide_eq_true (by exact c20)) ?_
        refine Det.seqA (by kernel_rfl) ?_
        refine Det.opsA (by kernel_rfl) hX ?_
        refine OD.run 1 (by kernel_rfl) ?_
        refine OD.done (of_decide_eq_true (by kernel_rfl)) ?_
        refine then_n (by kernel_rfl) ?_
        refine Det.retA (by kernel_rfl) ?_
        refine then_r (by kernel_rfl) ?_
        refine fin_r (Value.int IntKind.i64 (-1)) (by kernel_rfl) (by kernel_rfl) ?_
        first | exact cmp_lt (by omega) | exact cmp_gt (by omega) | exact cmp_eq (by omega) | (exfalso; omega)
      · refine Det.condF (by kernel_rfl) (decide (p % 18446744073709551616 < q % 18446744073709551616)) (by kernel_rfl) (decide_eq_false (by exact c20)) ?_
        refine Det.skipA (by kernel_rfl) ?_
        refine then_n (by kernel_rfl) ?_
        refine Det.seqA (by kernel_rfl) ?_
        refine Det.opsA (by kernel_rfl) hX ?_
        refine OD.run 1 (by kernel_rfl) ?_
        refine OD.done (of_decide_eq_true (by kernel_rfl)) ?_
        refine then_n (by kernel_rfl) ?_
        refine Det.retA (by kernel_rfl) ?_
        refine fin_r (Value.int IntKind.i64 1) (by kernel_rfl) (by kernel_rfl) ?_
        first | exact cmp_lt (by omega) | exact cmp_gt (by omega) | exact cmp_eq (by omega) | (exfalso; omega)
  · by_cases c12 : p % 18446744073709551616 = q % 18446744073709551616
    · refine Det.condF (by kernel_rfl) (p / 18446744073709551616 == q / 18446744073709551616 && (p % 18446744073709551616 == q % 18446744073709551616 && true)) (by kernel_rfl) (andB (a := false) (b := true) (beq_eq_false_iff_ne.2 (by exact c11)) (andB (a := true) (b := true) (beq_iff_eq.2 (by exact c12)) rfl rfl) rfl) ?_
      refine Det.seqA (by kernel_rfl) ?_
      refine Det.opsA (by kernel_rfl) hX ?_
      refine OD.run 5 (by kernel_rfl) ?_
      by_cases c17 : p / 18446744073709551616 < q / 18446744073709551616
      · refine OD.as (Value.bool (decide (p / 18446744073709551616 < q / 18446744073709551616))) (Value.bool true) (by kernel_rfl) (of_decide_eq_true (by kernel_rfl)) (by kernel_rfl) (congrArg Value.bool (decide_eq_true (by exact c17))) ?_
        refine OD.run 14 (by kernel_rfl) ?_
        refine OD.done (of_decide_eq_true (by kernel_rfl)) ?_
        refine then_n (by kernel_rfl) ?_
        refine Det.condT (by kernel_rfl) (true) (by kernel_rfl) rfl ?_
        refine Det.seqA (by kernel_rfl) ?_
        refine Det.opsA (by kernel_rfl) hX ?_
        refine OD.run 1 (by kernel_rfl) ?_
        refine OD.done (of_decide_eq_true (by kernel_rfl)) ?_
        refine then_n (by kernel_rfl) ?_
        refine Det.retA (by kernel_rfl) ?_
        refine then_r (by kernel_rfl) ?_
        refine fin_r (Value.int IntKind.i64 (-1)) (by kernel_rfl) (by kernel_rfl) ?_
        first | exact cmp_lt (by omega) | exact cmp_gt (by omega) | exact cmp_eq (by omega) | (exfalso; omega)
      · refine OD.as (Value.bool (decide (p / 18446744073709551616 < q / 18446744073709551616))) (Value.bool false) (by kernel_rfl) (of_decide_eq_true (by kernel_rfl)) (by kernel_rfl) (congrArg Value.bool (decide_eq_false (by exact c17))) ?_
        refine OD.run 4 (by kernel_rfl) ?_
        refine OD.as (Value.bool (p / 18446744073709551616 == q / 18446744073709551616)) (Value.bool false) (by kernel_rfl) (of_decide_eq_true (by kernel_rfl)) (by kernel_rfl) (congrArg Value.bool (beq_eq_false_iff_ne.2 (by exact c11))) ?_
        refine OD.run 9 (by kernel_rfl) ?_
        refine OD.done (of_decide_eq_true (by kernel_rfl)) ?_
        refine then_n (by kernel_rfl) ?_
        refine Det.condF (by kernel_rfl) (false) (by kernel_rfl) rfl ?_
        refine Det.skipA (by kernel_rfl) ?_
        refine then_n (by kernel_rfl) ?_
        refine Det.seqA (by kernel_rfl) ?_
        refine Det.opsA (by kernel_rfl) hX ?_
        refine OD.run 1 (by kernel_rfl) ?_
        refine OD.done (of_decide_eq_true (by kernel_rfl)) ?_
        refine then_n (by kernel_rfl) ?_
        refine Det.retA (by kernel_rfl) ?_
        refine fin_r (Value.int IntKind.i64 1) (by kernel_rfl) (by kernel_rfl) ?_
        first | exact cmp_lt (by omega) | exact cmp_gt (by omega) | exact cmp_eq (by omega) | (exfalso; omega)
    · refine Det.condF (by kernel_rfl) (p / 18446744073709551616 == q / 18446744073709551616 && (p % 18446744073709551616 == q % 18446744073709551616 && true)) (by kernel_rfl) (andB (a := false) (b := false) (beq_eq_false_iff_ne.2 (by exact c11)) (andB (a := false) (b := true) (beq_eq_false_iff_ne.2 (by exact c12)) rfl rfl) rfl) ?_
      refine Det.seqA (by kernel_rfl) ?_
      refine Det.opsA (by kernel_rfl) hX ?_
      refine OD.run 5 (by kernel_rfl) ?_
      by_cases c17 : p / 18446744073709551616 < q / 18446744073709551616
      · refine OD.as (Value.bool (decide (p / 18446744073709551616 < q / 18446744073709551616))) (Value.bool true) (by kernel_rfl) (of_decide_eq_true (by kernel_rfl)) (by kernel_rfl) (congrArg Value.bool (decide_eq_true (by exact c17))) ?_
        refine OD.run 14 (by kernel_rfl) ?_
        refine OD.done (of_decide_eq_true (by kernel_rfl)) ?_
        refine then_n (by kernel_rfl) ?_
        refine Det.condT (by kernel_rfl) (true) (by kernel_rfl) rfl ?_
        refine Det.seqA (by kernel_rfl) ?_
        refine Det.opsA (by kernel_rfl) hX ?_
        refine OD.run 1 (by kernel_rfl) ?_
        refine OD.done (of_decide_eq_true (by kernel_rfl)) ?_
        refine then_n (by kernel_rfl) ?_
        refine Det.retA (by kernel_rfl) ?_
        refine then_r (by kernel_rfl) ?_
        refine fin_r (Value.int IntKind.i64 (-1)) (by kernel_rfl) (by kernel_rfl) ?_
        first | exact cmp_lt (by omega) | exact cmp_gt (by omega) | exact cmp_eq (by omega) | (exfalso; omega)
      · refine OD.as (Value.bool (decide (p / 18446744073709551616 < q / 18446744073709551616))) (Value.bool false) (by kernel_rfl) (of_decide_eq_true (by kernel_rfl)) (by kernel_rfl) (congrArg Value.bool (decide_eq_false (by exact c17))) ?_
        refine OD.run 4 (by kernel_rfl) ?_
        refine OD.as (Value.bool (p / 18446744073709551616 == q / 18446744073709551616)) (Value.bool false) (by kernel_rfl) (of_decide_eq_true (by kernel_rfl)) (by kernel_rfl) (congrArg Value.bool (beq_eq_false_iff_ne.2 (by exact c11))) ?_
        refine OD.run 9 (by kernel_rfl) ?_
        refine OD.done (of_decide_eq_true (by kernel_rfl)) ?_
        refine then_n (by kernel_rfl) ?_
        refine Det.condF (by kernel_rfl) (false) (by kernel_rfl) rfl ?_
        refine Det.skipA (by kernel_rfl) ?_
        refine then_n (by kernel_rfl) ?_
        refine Det.seqA (by kernel_rfl) ?_
        refine Det.opsA (by kernel_rfl) hX ?_
        refine OD.run 1 (by kernel_rfl) ?_
        refine OD.done (of_decide_eq_true (by kernel_rfl)) ?_
        refine then_n (by kernel_rfl) ?_
        refine Det.retA (by kernel_rfl) ?_
        refine fin_r (Value.int IntKind.i64 1) (by kernel_rfl) (by kernel_rfl) ?_
        first | exact cmp_lt (by omega) | exact cmp_gt (by omega) | exact cmp_eq (by omega) | (exfalso; omega)
theorem wf_u64 {n : Int} (h : (Lit.int .u64 n).wf = true) : 0 ≤ n ∧ n < 18446744073709551616 := by
  have : 0 ≤ n ∧ n ≤ 18446744073709551615 := by simpa [Lit.wf, IntKind.min, IntKind.max, IntKind.signed, IntKind.bits] using h
  omega
theorem wide_eq {x y : Int} (hy : 0 ≤ y) (hY : y < 18446744073709551616) : Value.agg #[.int .u64 x, .int .u64 y] = wideV (x * 18446744073709551616 + y) := by
  unfold wideV
  rw [show (x * 18446744073709551616 + y) / 18446744073709551616 = x by omega, show (x * 18446744073709551616 + y) % 18446744073709551616 = y by omega]
theorem wides (p q : Int) (hp : 0 ≤ p) (hP : p < 340282366920938463463374607431768211456) (hq : 0 ≤ q) (hQ : q < 340282366920938463463374607431768211456) : DetFn Try.prog 7 [wideV p, wideV q] Heap.empty fun v _ => v = .bool true := by
  refine Det.enter Try.func7 (by kernel_rfl) (of_decide_eq_true (by kernel_rfl)) ?_
  have hc : cmpF p p = 0 := by simp [cmpF]
  by_cases hs : p + q < 340282366920938463463374607431768211456
  · skip
    refine Det.seqA (by kernel_rfl) ?_
    refine Det.opsA (by kernel_rfl) hX ?_
    refine OD.run 3 (by kernel_rfl) ?_
    refine OD.done (of_decide_eq_true (by kernel_rfl)) ?_
    refine then_n (by kernel_rfl) ?_
    refine Det.seqA (by kernel_rfl) ?_
    refine Det.opsA (by kernel_rfl) hX ?_
    refine OD.run 2 (by kernel_rfl) ?_
    refine OD.callEq 18 ([Value.agg #[Value.int IntKind.u64 (p / 18446744073709551616), Value.int IntKind.u64 (p % 18446744073709551616)], Value.agg #[Value.int IntKind.u64 (q / 18446744073709551616), Value.int IntKind.u64 (q % 18446744073709551616)]]) (fix_Plus _ _ hp hq hs _) (by kernel_rfl) (of_decide_eq_true (by kernel_rfl)) (by kernel_rfl) (by kernel_rfl) (by kernel_rfl) ?_
    refine OD.run 6 (by kernel_rfl) ?_
    refine OD.done (of_decide_eq_true (by kernel_rfl)) ?_
    refine then_n (by kernel_rfl) ?_
    refine Det.seqA (by kernel_rfl) ?_
    refine Det.opsA (by kernel_rfl) hX ?_
    refine OD.run 2 (by kernel_rfl) ?_
    refine OD.callEq 19 ([Value.agg #[Value.int IntKind.u64 (p / 18446744073709551616), Value.int IntKind.u64 (p % 18446744073709551616)], Value.agg #[Value.int IntKind.u64 (q / 18446744073709551616), Value.int IntKind.u64 (q % 18446744073709551616)]]) (ref_Plus _ _ hp hq hs _) (by kernel_rfl) (of_decide_eq_true (by kernel_rfl)) (by kernel_rfl) (by kernel_rfl) (by kernel_rfl) ?_
    refine OD.run 6 (by kernel_rfl) ?_
    refine OD.done (of_decide_eq_true (by kernel_rfl)) ?_
    refine then_n (by kernel_rfl) ?_
    refine Det.seqA (by kernel_rfl) ?_
    refine Det.opsA (by kernel_rfl) hX ?_
    refine OD.run 1 (by kernel_rfl) ?_
    refine OD.callEq 17 ([Value.agg #[Value.int IntKind.u64 (p / 18446744073709551616), Value.int IntKind.u64 (p % 18446744073709551616)]]) (fix_Narrow _ hp _) (by kernel_rfl) (of_decide_eq_true (by kernel_rfl)) (by kernel_rfl) (by kernel_rfl) (by kernel_rfl) ?_
    refine OD.run 5 (by kernel_rfl) ?_
    refine OD.done (of_decide_eq_true (by kernel_rfl)) ?_
    refine then_n (by kernel_rfl) ?_
    refine Det.seqA (by kernel_rfl) ?_
    refine Det.opsA (by kernel_rfl) hX ?_
    refine OD.run 1 (by kernel_rfl) ?_
    refine OD.callEq 20 ([Value.agg #[Value.int IntKind.u64 (p / 18446744073709551616), Value.int IntKind.u64 (p % 18446744073709551616)]]) (ref_Narrow _ hp _) (by kernel_rfl) (of_decide_eq_true (by kernel_rfl)) (by kernel_rfl) (by kernel_rfl) (by kernel_rfl) ?_
    refine OD.run 5 (by kernel_rfl) ?_
    refine OD.done (of_decide_eq_true (by kernel_rfl)) ?_
    refine then_n (by kernel_rfl) ?_
    refine Det.seqA (by kernel_rfl) ?_
    refine Det.drawB (by kernel_rfl) hmix hX (by kernel_rfl) ?_
    refine OD.run 2 (by kernel_rfl) ?_
    refine OD.bin BinOp.eql 24 (Value.agg #[Value.int IntKind.u64 ((p + q) / 18446744073709551616), Value.int IntKind.u64 ((p + q) % 18446744073709551616)]) (Value.agg #[Value.int IntKind.u64 ((p + q) / 18446744073709551616), Value.int IntKind.u64 ((p + q) % 18446744073709551616)]) (Value.bool ((p + q) / 18446744073709551616 == (p + q) / 18446744073709551616 && ((p + q) % 18446744073709551616 == (p + q) % 18446744073709551616 && true))) (by kernel_rfl) (by kernel_rfl) (of_decide_eq_true (by kernel_rfl)) (by kernel_rfl) ((abin_eqlB (by kernel_rfl)).trans (by kernel_rfl)) ?_
    refine OD.as (Value.bool ((p + q) / 18446744073709551616 == (p + q) / 18446744073709551616 && ((p + q) % 18446744073709551616 == (p + q) % 18446744073709551616 && true))) (Value.bool true) (by kernel_rfl) (of_decide_eq_true (by kernel_rfl)) (by kernel_rfl) (congrArg Value.bool (andB (a := true) (b := true) (beq_iff_eq.2 rfl) (andB (a := true) (b := true) (beq_iff_eq.2 rfl) rfl rfl) rfl)) ?_
    refine OD.run 7 (by kernel_rfl) ?_
    refine OD.as (Value.bool (keep p == keep p)) (Value.bool true) (by kernel_rfl) (of_decide_eq_true (by kernel_rfl)) (by kernel_rfl) (congrArg Value.bool (beq_iff_eq.2 rfl)) ?_
    refine OD.run 4 (by kernel_rfl) ?_
    refine OD.as (Value.bool (inR p == inR p)) (Value.bool true) (by kernel_rfl) (of_decide_eq_true (by kernel_rfl)) (by kernel_rfl) (congrArg Value.bool (beq_iff_eq.2 rfl)) ?_
    refine OD.run 4 (by kernel_rfl) ?_
    refine OD.callEq 11 ([Value.agg #[Value.int IntKind.u64 (p / 18446744073709551616), Value.int IntKind.u64 (p % 18446744073709551616)], Value.agg #[Value.int IntKind.u64 (q / 18446744073709551616), Value.int IntKind.u64 (q % 18446744073709551616)]]) (fix_Cmp _ _ _) (by kernel_rfl) (of_decide_eq_true (by kernel_rfl)) (by kernel_rfl) (by kernel_rfl) (by kernel_rfl) ?_
    refine OD.run 2 (by kernel_rfl) ?_
    refine OD.callEq 21 ([Value.agg #[Value.int IntKind.u64 (p / 18446744073709551616), Value.int IntKind.u64 (p % 18446744073709551616)], Value.agg #[Value.int IntKind.u64 (q / 18446744073709551616), Value.int IntKind.u64 (q % 18446744073709551616)]]) (ref_Cmp _ _ _) (by kernel_rfl) (of_decide_eq_true (by kernel_rfl)) (by kernel_rfl) (by kernel_rfl) (by kernel_rfl) ?_
    refine OD.as (Value.bool (cmpF p q == cmpF p q)) (Value.bool true) (by kernel_rfl) (of_decide_eq_true (by kernel_rfl)) (by kernel_rfl) (congrArg Value.bool (beq_iff_eq.2 rfl)) ?_
    refine OD.run 4 (by kernel_rfl) ?_
    refine OD.callEq 11 ([Value.agg #[Value.int IntKind.u64 (p / 18446744073709551616), Value.int IntKind.u64 (p % 18446744073709551616)], Value.agg #[Value.int IntKind.u64 (p / 18446744073709551616), Value.int IntKind.u64 (p % 18446744073709551616)]]) (fix_Cmp _ _ _) (by kernel_rfl) (of_decide_eq_true (by kernel_rfl)) (by kernel_rfl) (by kernel_rfl) (by kernel_rfl) ?_
    refine OD.as (Value.bool (cmpF p p == 0)) (Value.bool true) (by kernel_rfl) (of_decide_eq_true (by kernel_rfl)) (by kernel_rfl) (congrArg Value.bool (beq_iff_eq.2 (by exact hc))) ?_
    refine OD.run 2 (by kernel_rfl) ?_
    refine OD.callEq 10 ([]) (known_ok _) (by kernel_rfl) (of_decide_eq_true (by kernel_rfl)) (by kernel_rfl) (by kernel_rfl) (by kernel_rfl) ?_
    refine OD.run 2 (by kernel_rfl) ?_
    refine OD.done (of_decide_eq_true (by kernel_rfl)) ?_
    refine ⟨by kernel_rfl, ?_⟩
    refine then_n (by kernel_rfl) ?_
    refine Det.retA (by kernel_rfl) ?_
    refine fin_r (Value.bool true) (by kernel_rfl) (by kernel_rfl) ?_
    rfl
  · have hs2 : 340282366920938463463374607431768211456 ≤ p + q := by omega
    refine Det.seqA (by kernel_rfl) ?_
    refine Det.opsA (by kernel_rfl) hX ?_
    refine OD.run 3 (by kernel_rfl) ?_
    refine OD.done (of_decide_eq_true (by kernel_rfl)) ?_
    refine then_n (by kernel_rfl) ?_
    refine Det.seqA (by kernel_rfl) ?_
    refine Det.opsA (by kernel_rfl) hX ?_
    refine OD.run 2 (by kernel_rfl) ?_
    refine OD.callEq 18 ([Value.agg #[Value.int IntKind.u64 (p / 18446744073709551616), Value.int IntKind.u64 (p % 18446744073709551616)], Value.agg #[Value.int IntKind.u64 (q / 18446744073709551616), Value.int IntKind.u64 (q % 18446744073709551616)]]) (fix_Plus_no _ _ hp hP hq hQ hs2 _) (by kernel_rfl) (of_decide_eq_true (by kernel_rfl)) (by kernel_rfl) (by kernel_rfl) (by kernel_rfl) ?_
    refine OD.run 6 (by kernel_rfl) ?_
    refine OD.done (of_decide_eq_true (by kernel_rfl)) ?_
    refine then_n (by kernel_rfl) ?_
    refine Det.seqA (by kernel_rfl) ?_
    refine Det.opsA (by kernel_rfl) hX ?_
    refine OD.run 2 (by kernel_rfl) ?_
    refine OD.callEq 19 ([Value.agg #[Value.int IntKind.u64 (p / 18446744073709551616), Value.int IntKind.u64 (p % 18446744073709551616)], Value.agg #[Value.int IntKind.u64 (q / 18446744073709551616), Value.int IntKind.u64 (q % 18446744073709551616)]]) (ref_Plus_no _ _ hp hP hq hQ hs2 _) (by kernel_rfl) (of_decide_eq_true (by kernel_rfl)) (by kernel_rfl) (by kernel_rfl) (by kernel_rfl) ?_
    refine OD.run 6 (by kernel_rfl) ?_
    refine OD.done (of_decide_eq_true (by kernel_rfl)) ?_
    refine then_n (by kernel_rfl) ?_
    refine Det.seqA (by kernel_rfl) ?_
    refine Det.opsA (by kernel_rfl) hX ?_
    refine OD.run 1 (by kernel_rfl) ?_
    refine OD.callEq 17 ([Value.agg #[Value.int IntKind.u64 (p / 18446744073709551616), Value.int IntKind.u64 (p % 18446744073709551616)]]) (fix_Narrow _ hp _) (by kernel_rfl) (of_decide_eq_true (by kernel_rfl)) (by kernel_rfl) (by kernel_rfl) (by kernel_rfl) ?_
    refine OD.run 5 (by kernel_rfl) ?_
    refine OD.done (of_decide_eq_true (by kernel_rfl)) ?_
    refine then_n (by kernel_rfl) ?_
    refine Det.seqA (by kernel_rfl) ?_
    refine Det.opsA (by kernel_rfl) hX ?_
    refine OD.run 1 (by kernel_rfl) ?_
    refine OD.callEq 20 ([Value.agg #[Value.int IntKind.u64 (p / 18446744073709551616), Value.int IntKind.u64 (p % 18446744073709551616)]]) (ref_Narrow _ hp _) (by kernel_rfl) (of_decide_eq_true (by kernel_rfl)) (by kernel_rfl) (by kernel_rfl) (by kernel_rfl) ?_
    refine OD.run 5 (by kernel_rfl) ?_
    refine OD.done (of_decide_eq_true (by kernel_rfl)) ?_
    refine then_n (by kernel_rfl) ?_
    refine Det.seqA (by kernel_rfl) ?_
    refine Det.drawB (by kernel_rfl) hmix hX (by kernel_rfl) ?_
    refine OD.run 11 (by kernel_rfl) ?_
    refine OD.as (Value.bool (keep p == keep p)) (Value.bool true) (by kernel_rfl) (of_decide_eq_true (by kernel_rfl)) (by kernel_rfl) (congrArg Value.bool (beq_iff_eq.2 rfl)) ?_
    refine OD.run 4 (by kernel_rfl) ?_
    refine OD.as (Value.bool (inR p == inR p)) (Value.bool true) (by kernel_rfl) (of_decide_eq_true (by kernel_rfl)) (by kernel_rfl) (congrArg Value.bool (beq_iff_eq.2 rfl)) ?_
    refine OD.run 4 (by kernel_rfl) ?_
    refine OD.callEq 11 ([Value.agg #[Value.int IntKind.u64 (p / 18446744073709551616), Value.int IntKind.u64 (p % 18446744073709551616)], Value.agg #[Value.int IntKind.u64 (q / 18446744073709551616), Value.int IntKind.u64 (q % 18446744073709551616)]]) (fix_Cmp _ _ _) (by kernel_rfl) (of_decide_eq_true (by kernel_rfl)) (by kernel_rfl) (by kernel_rfl) (by kernel_rfl) ?_
    refine OD.run 2 (by kernel_rfl) ?_
    refine OD.callEq 21 ([Value.agg #[Value.int IntKind.u64 (p / 18446744073709551616), Value.int IntKind.u64 (p % 18446744073709551616)], Value.agg #[Value.int IntKind.u64 (q / 18446744073709551616), Value.int IntKind.u64 (q % 18446744073709551616)]]) (ref_Cmp _ _ _) (by kernel_rfl) (of_decide_eq_true (by kernel_rfl)) (by kernel_rfl) (by kernel_rfl) (by kernel_rfl) ?_
    refine OD.as (Value.bool (cmpF p q == cmpF p q)) (Value.bool true) (by kernel_rfl) (of_decide_eq_true (by kernel_rfl)) (by kernel_rfl) (congrArg Value.bool (beq_iff_eq.2 rfl)) ?_
    refine OD.run 4 (by kernel_rfl) ?_
    refine OD.callEq 11 ([Value.agg #[Value.int IntKind.u64 (p / 18446744073709551616), Value.int IntKind.u64 (p % 18446744073709551616)], Value.agg #[Value.int IntKind.u64 (p / 18446744073709551616), Value.int IntKind.u64 (p % 18446744073709551616)]]) (fix_Cmp _ _ _) (by kernel_rfl) (of_decide_eq_true (by kernel_rfl)) (by kernel_rfl) (by kernel_rfl) (by kernel_rfl) ?_
    refine OD.as (Value.bool (cmpF p p == 0)) (Value.bool true) (by kernel_rfl) (of_decide_eq_true (by kernel_rfl)) (by kernel_rfl) (congrArg Value.bool (beq_iff_eq.2 (by exact hc))) ?_
    refine OD.run 2 (by kernel_rfl) ?_
    refine OD.callEq 10 ([]) (known_ok _) (by kernel_rfl) (of_decide_eq_true (by kernel_rfl)) (by kernel_rfl) (by kernel_rfl) (by kernel_rfl) ?_
    refine OD.run 2 (by kernel_rfl) ?_
    refine OD.done (of_decide_eq_true (by kernel_rfl)) ?_
    refine ⟨by kernel_rfl, ?_⟩
    refine then_n (by kernel_rfl) ?_
    refine Det.retA (by kernel_rfl) ?_
    refine fin_r (Value.bool true) (by kernel_rfl) (by kernel_rfl) ?_
    rfl
theorem law_FixWides (x0 x1 y0 y1 : Int) (w0 : (Lit.int .u64 x0).wf = true) (w1 : (Lit.int .u64 x1).wf = true) (u0 : (Lit.int .u64 y0).wf = true) (u1 : (Lit.int .u64 y1).wf = true) :
    DetFn Try.prog 7 [.agg #[.int .u64 x0, .int .u64 x1], .agg #[.int .u64 y0, .int .u64 y1]] Heap.empty fun v _ => v = .bool true := by
  obtain ⟨a, b⟩ := wf_u64 w0
  obtain ⟨c, d⟩ := wf_u64 w1
  obtain ⟨e, f⟩ := wf_u64 u0
  obtain ⟨g, i⟩ := wf_u64 u1
  rw [wide_eq c d, wide_eq g i]
  exact wides _ _ (by omega) (by omega) (by omega) (by omega)
def rowsU (p q r : Int) : List (Option Thing) := [rw' [.int .u64 (p / 18446744073709551616), .int .u64 (p % 18446744073709551616)] 24, rw' [.int .u64 (q / 18446744073709551616), .int .u64 (q % 18446744073709551616)] 24, rw' [.int .u64 (r / 18446744073709551616), .int .u64 (r % 18446744073709551616)] 24]
theorem undo_bounds {a j : Int} (ha : 0 ≤ a) (hA : a ≤ 9223372036854775807) (hj : 0 ≤ j) (hJ : j ≤ 60) : 0 ≤ a * j ∧ a * j ≤ 553402322211286548420 := by
  refine ⟨Int.mul_nonneg ha hj, ?_⟩
  have := Int.mul_le_mul hA hJ hj (by decide)
  omega
theorem law_FixUndoes (a b n : Int) (wa : (Lit.int .i64 a).wf = true) (wb : (Lit.int .i64 b).wf = true) (wn : (Lit.int .i64 n).wf = true) : DetFn Try.prog 8 [.int .i64 a, .int .i64 b, .int .i64 n] Heap.empty fun v _ => v = .bool true := by
  obtain ⟨ha, hA⟩ := wf_i64 wa
  obtain ⟨hb, hB⟩ := wf_i64 wb
  obtain ⟨hn, hN⟩ := wf_i64 wn
  refine Det.enter Try.func8 (by kernel_rfl) (of_decide_eq_true (by kernel_rfl)) ?_
  have kb := keep_bounds (a + b)
  have u1 : (1 : Int) ≥ -9223372036854775808 := by decide
  rcases Bool.eq_false_or_eq_true (inR (a + b)) with hk | hk
  · have hi := inR_iff.1 hk
    have k0 := keep_in hi.1 hi.2
    have k1 : inR (keep (a + b) - b) = true := inR_iff.2 (by omega)
    have k2 : keep (keep (a + b) - b) = a := by rw [keep_in (by omega) (by omega)]; omega
    refine Det.seqA (by kernel_rfl) ?_
    refine Det.opsA (by kernel_rfl) hX ?_
    refine OD.run 1 (by kernel_rfl) ?_
    refine OD.done (of_decide_eq_true (by kernel_rfl)) ?_
    refine then_n (by kernel_rfl) ?_
    refine Det.seqA (by kernel_rfl) ?_
    refine Det.opsA (by kernel_rfl) hX ?_
    refine OD.run 2 (by kernel_rfl) ?_
    refine OD.callEq 12 ([Value.int IntKind.i64 a, Value.int IntKind.i64 b]) (fix_Add _ _ ha hA hb hB _) (by kernel_rfl) (of_decide_eq_true (by kernel_rfl)) (by kernel_rfl) (by kernel_rfl) (by kernel_rfl) ?_
    refine OD.run 2 (by kernel_rfl) ?_
    refine OD.as (Value.bool (inR (a + b))) (Value.bool true) (by kernel_rfl) (of_decide_eq_true (by kernel_rfl)) (by kernel_rfl) (congrArg Value.bool (by exact hk)) ?_
    refine OD.run 2 (by kernel_rfl) ?_
    refine OD.done (of_decide_eq_true (by kernel_rfl)) ?_
    refine then_n (by kernel_rfl) ?_
    refine Det.seqA (by kernel_rfl) ?_
    refine Det.seqA (by kernel_rfl) ?_
    refine Det.opsA (by kernel_rfl) hX ?_
    refine OD.run 1 (by kernel_rfl) ?_
    refine OD.done (of_decide_eq_true (by kernel_rfl)) ?_
    refine then_n (by kernel_rfl) ?_
    refine Det.condT (by kernel_rfl) (true) (by kernel_rfl) rfl ?_
    refine Det.seqA (by kernel_rfl) ?_
    refine Det.opsA (by kernel_rfl) hX ?_
    refine OD.run 2 (by kernel_rfl) ?_
    refine OD.callEq 13 ([Value.int IntKind.i64 (keep (a + b)), Value.int IntKind.i64 b]) (fix_Sub _ _ kb.1 kb.2 hb hB _) (by kernel_rfl) (of_decide_eq_true (by kernel_rfl)) (by kernel_rfl) (by kernel_rfl) (by kernel_rfl) ?_
    refine OD.run 2 (by kernel_rfl) ?_
    refine OD.as (Value.bool (inR (keep (a + b) - b))) (Value.bool true) (by kernel_rfl) (of_decide_eq_true (by kernel_rfl)) (by kernel_rfl) (congrArg Value.bool (by exact k1)) ?_
    refine OD.run 2 (by kernel_rfl) ?_
    refine OD.done (of_decide_eq_true (by kernel_rfl)) ?_
    refine then_n (by kernel_rfl) ?_
    refine Det.seqA (by kernel_rfl) ?_
    refine Det.opsA (by kernel_rfl) hX ?_
    refine OD.run 5 (by kernel_rfl) ?_
    refine OD.as (Value.bool (keep (keep (a + b) - b) != a)) (Value.bool false) (by kernel_rfl) (of_decide_eq_true (by kernel_rfl)) (by kernel_rfl) (congrArg Value.bool (bne_eq_false_iff_eq.2 (by exact k2))) ?_
    refine OD.run 1 (by kernel_rfl) ?_
    refine OD.done (of_decide_eq_true (by kernel_rfl)) ?_
    refine then_n (by kernel_rfl) ?_
    refine Det.condF (by kernel_rfl) (false) (by kernel_rfl) rfl ?_
    refine Det.skipA (by kernel_rfl) ?_
    refine then_n (by kernel_rfl) ?_
    refine Det.seqA (by kernel_rfl) ?_
    refine Det.seqA (by kernel_rfl) ?_
    refine Det.opsA (by kernel_rfl) hX ?_
    refine OD.run 2 (by kernel_rfl) ?_
    by_cases c34 : a < 0
    · refine OD.as (Value.bool (decide (a < 0))) (Value.bool true) (by kernel_rfl) (of_decide_eq_true (by kernel_rfl)) (by kernel_rfl) (congrArg Value.bool (decide_eq_true (by exact c34))) ?_
      refine OD.run 7 (by kernel_rfl) ?_
      refine OD.done (of_decide_eq_true (by kernel_rfl)) ?_
      refine then_n (by kernel_rfl) ?_
      refine Det.condT (by kernel_rfl) (true) (by kernel_rfl) rfl ?_
      refine Det.seqA (by kernel_rfl) ?_
      refine Det.opsA (by kernel_rfl) hX ?_
      refine OD.callEq 10 ([]) (known_ok _) (by kernel_rfl) (of_decide_eq_true (by kernel_rfl)) (by kernel_rfl) (by kernel_rfl) (by kernel_rfl) ?_
      refine OD.run 1 (by kernel_rfl) ?_
      refine OD.done (of_decide_eq_true (by kernel_rfl)) ?_
      refine then_n (by kernel_rfl) ?_
      refine Det.retA (by kernel_rfl) ?_
      refine then_r (by kernel_rfl) ?_
      refine fin_r (Value.bool true) (by kernel_rfl) (by kernel_rfl) ?_
      rfl
    · refine OD.as (Value.bool (decide (a < 0))) (Value.bool false) (by kernel_rfl) (of_decide_eq_true (by kernel_rfl)) (by kernel_rfl) (congrArg Value.bool (decide_eq_false (by exact c34))) ?_
      refine OD.run 3 (by kernel_rfl) ?_
      by_cases c37 : n < 0
      · refine OD.as (Value.bool (decide (n < 0))) (Value.bool true) (by kernel_rfl) (of_decide_eq_true (by kernel_rfl)) (by kernel_rfl) (congrArg Value.bool (decide_eq_true (by exact c37))) ?_
        refine OD.run 3 (by kernel_rfl) ?_
        refine OD.done (of_decide_eq_true (by kernel_rfl)) ?_
        refine then_n (by kernel_rfl) ?_
        refine Det.condT (by kernel_rfl) (true) (by kernel_rfl) rfl ?_
        refine Det.seqA (by kernel_rfl) ?_
        refine Det.opsA (by kernel_rfl) hX ?_
        refine OD.callEq 10 ([]) (known_ok _) (by kernel_rfl) (of_decide_eq_true (by kernel_rfl)) (by kernel_rfl) (by kernel_rfl) (by kernel_rfl) ?_
        refine OD.run 1 (by kernel_rfl) ?_
        refine OD.done (of_decide_eq_true (by kernel_rfl)) ?_
        refine then_n (by kernel_rfl) ?_
        refine Det.retA (by kernel_rfl) ?_
        refine then_r (by kernel_rfl) ?_
        refine fin_r (Value.bool true) (by kernel_rfl) (by kernel_rfl) ?_
        rfl
      · refine OD.as (Value.bool (decide (n < 0))) (Value.bool false) (by kernel_rfl) (of_decide_eq_true (by kernel_rfl)) (by kernel_rfl) (congrArg Value.bool (decide_eq_false (by exact c37))) ?_
        refine OD.run 3 (by kernel_rfl) ?_
        refine OD.done (of_decide_eq_true (by kernel_rfl)) ?_
        refine then_n (by kernel_rfl) ?_
        by_cases c41 : 60 < n
        · refine Det.condT (by kernel_rfl) (decide (60 < n)) (by kernel_rfl) (decide_eq_true (by exact c41)) ?_
          refine Det.seqA (by kernel_rfl) ?_
          refine Det.opsA (by kernel_rfl) hX ?_
          refine OD.callEq 10 ([]) (known_ok _) (by kernel_rfl) (of_decide_eq_true (by kernel_rfl)) (by kernel_rfl) (by kernel_rfl) (by kernel_rfl) ?_
          refine OD.run 1 (by kernel_rfl) ?_
          refine OD.done (of_decide_eq_true (by kernel_rfl)) ?_
          refine then_n (by kernel_rfl) ?_
          refine Det.retA (by kernel_rfl) ?_
          refine then_r (by kernel_rfl) ?_
          refine fin_r (Value.bool true) (by kernel_rfl) (by kernel_rfl) ?_
          rfl
        · refine Det.condF (by kernel_rfl) (decide (60 < n)) (by kernel_rfl) (decide_eq_false (by exact c41)) ?_
          refine Det.skipA (by kernel_rfl) ?_
          refine then_n (by kernel_rfl) ?_
          refine Det.seqA (by kernel_rfl) ?_
          refine Det.opsA (by kernel_rfl) hX ?_
          refine OD.run 2 (by kernel_rfl) ?_
          refine OD.callEq 9 ([Value.int IntKind.i64 a, Value.int IntKind.i64 n]) (fix_Times _ _ (by omega) (by omega) (by omega) (by omega) _) (by kernel_rfl) (of_decide_eq_true (by kernel_rfl)) (by kernel_rfl) (by kernel_rfl) (by kernel_rfl) ?_
          refine OD.run 6 (by kernel_rfl) ?_
          refine OD.done (of_decide_eq_true (by kernel_rfl)) ?_
          refine then_n (by kernel_rfl) ?_
          refine Det.seqA (by kernel_rfl) ?_
          refine Det.opsA (by kernel_rfl) hX ?_
          refine OD.run 1 (by kernel_rfl) ?_
          refine OD.done (of_decide_eq_true (by kernel_rfl)) ?_
          refine then_n (by kernel_rfl) ?_
          refine Det.seqA (by kernel_rfl) ?_
          refine Det.opsA (by kernel_rfl) hX ?_
          refine OD.run 1 (by kernel_rfl) ?_
          refine OD.callEq 9 ([Value.int IntKind.i64 a, Value.int IntKind.i64 1]) (fix_Times _ _ (by omega) (by omega) (by omega) (by omega) _) (by kernel_rfl) (of_decide_eq_true (by kernel_rfl)) (by kernel_rfl) (by kernel_rfl) (by kernel_rfl) ?_
          refine OD.run 6 (by kernel_rfl) ?_
          refine OD.done (of_decide_eq_true (by kernel_rfl)) ?_
          refine then_n (by kernel_rfl) ?_
          refine Det.seqA (by kernel_rfl) ?_
          refine Det.seqA (by kernel_rfl) ?_
          refine Det.opsA (by kernel_rfl) hX ?_
          refine OD.run 1 (by kernel_rfl) ?_
          refine OD.done (of_decide_eq_true (by kernel_rfl)) ?_
          refine then_n (by kernel_rfl) ?_
          refine Det.blockA (by kernel_rfl) ?_
          refine Det.loopD 3 (fun j : Nat => n.toNat - j) (fun j => (j : Int) ≤ n) (fun j => [(2, .int .i64 n), (11, .pointer (some ⟨0, 0, none⟩)), (12, .bool true), (13, .pointer (some ⟨1, 0, none⟩)), (14, .pointer (some ⟨2, 0, none⟩)), (16, .int .i64 (j : Int))]) (fun j => rowsU (a * n) (a * (j : Int)) (a * 1)) (by kernel_rfl) (fun _ => rfl) (fun j _ => List.all_eq_true.1 (by kernel_rfl)) (fun j _ => by kernel_rfl) 0 (by omega) (by kernel_rfl) (by kernel_rfl) (by show rowsTo _ 3 = rowsU (a * n) (a * ((0 : Nat) : Int)) (a * 1); rw [show a * ((0 : Nat) : Int) = 0 by simp]; kernel_rfl) ?_
          (intro j hj; have hs := undo_bounds (a := a) (j := (j : Int)) (by omega) hA (by omega) (by omega))
          refine Det.seqA (by kernel_rfl) ?_
          refine Det.seqA (by kernel_rfl) ?_
          refine Det.opsA (by kernel_rfl) hX ?_
          refine OD.run 3 (by kernel_rfl) ?_
          refine OD.done (of_decide_eq_true (by kernel_rfl)) ?_
          refine then_n (by kernel_rfl) ?_
          by_cases c71 : (↑j : Int) < n
          · refine Det.condT (by kernel_rfl) (decide ((↑j : Int) < n)) (by kernel_rfl) (decide_eq_true (by exact c71)) ?_
            refine Det.skipA (by kernel_rfl) ?_
            refine then_n (by kernel_rfl) ?_
            refine Det.seqA (by kernel_rfl) ?_
            refine Det.blockA (by kernel_rfl) ?_
            refine Det.seqA (by kernel_rfl) ?_
            refine Det.opsA (by kernel_rfl) hX ?_
            refine OD.run 2 (by kernel_rfl) ?_
            refine OD.callEq 18 ([Value.agg #[Value.int IntKind.u64 (a * (↑j : Int) / 18446744073709551616), Value.int IntKind.u64 (a * (↑j : Int) % 18446744073709551616)], Value.agg #[Value.int IntKind.u64 (a * 1 / 18446744073709551616), Value.int IntKind.u64 (a * 1 % 18446744073709551616)]]) (fix_Plus _ _ (by omega) (by omega) (by omega) _) (by kernel_rfl) (of_decide_eq_true (by kernel_rfl)) (by kernel_rfl) (by kernel_rfl) (by kernel_rfl) ?_
            refine OD.run 6 (by kernel_rfl) ?_
            refine OD.done (of_decide_eq_true (by kernel_rfl)) ?_
            refine then_n (by kernel_rfl) ?_
            refine Det.seqA (by kernel_rfl) ?_
            refine Det.seqA (by kernel_rfl) ?_
            refine Det.opsA (by kernel_rfl) hX ?_
            refine OD.run 2 (by kernel_rfl) ?_
            refine OD.done (of_decide_eq_true (by kernel_rfl)) ?_
            refine then_n (by kernel_rfl) ?_
            refine Det.condF (by kernel_rfl) (false) (by kernel_rfl) rfl ?_
            refine Det.skipA (by kernel_rfl) ?_
            refine then_n (by kernel_rfl) ?_
            refine Det.opsA (by kernel_rfl) hX ?_
            refine OD.run 2 (by kernel_rfl) ?_
            refine OD.done (of_decide_eq_true (by kernel_rfl)) ?_
            refine then_n (by kernel_rfl) ?_
            refine Det.opsA (by kernel_rfl) hX ?_
            refine OD.run 1 (by kernel_rfl) ?_
            refine OD.as (Value.int IntKind.i64 (IntKind.wrap IntKind.i64 ((↑j : Int) + 1))) (Value.int IntKind.i64 ((↑j : Int) + 1)) (by kernel_rfl) (of_decide_eq_true (by kernel_rfl)) (by kernel_rfl) (congrArg _ (by (rw [IntKind.wrap_i64]; omega))) ?_
            refine OD.run 1 (by kernel_rfl) ?_
            refine OD.done (of_decide_eq_true (by kernel_rfl)) ?_
            refine then_n (by kernel_rfl) ?_
            (refine ⟨j + 1, by omega, by omega, by kernel_rfl, ?_⟩; show rowsTo _ 3 = rowsU (a * n) (a * ((j + 1 : Nat) : Int)) (a * 1); rw [show a * ((j + 1 : Nat) : Int) = a * (j : Int) + a * 1 by rw [Int.natCast_succ, Int.mul_add]]; kernel_rfl)
          · refine Det.condF (by kernel_rfl) (decide ((↑j : Int) < n)) (by kernel_rfl) (decide_eq_false (by exact c71)) ?_
            refine Det.exitA (by kernel_rfl) ?_
            refine then_x 0 (by kernel_rfl) ?_
            refine then_x 0 (by kernel_rfl) ?_
            refine then_n (by kernel_rfl) ?_
            refine Det.seqA (by kernel_rfl) ?_
            refine Det.opsA (by kernel_rfl) hX ?_
            refine OD.run 4 (by kernel_rfl) ?_
            refine OD.bin BinOp.eql 24 (Value.agg #[Value.int IntKind.u64 (a * n / 18446744073709551616), Value.int IntKind.u64 (a * n % 18446744073709551616)]) (Value.agg #[Value.int IntKind.u64 (a * (↑j : Int) / 18446744073709551616), Value.int IntKind.u64 (a * (↑j : Int) % 18446744073709551616)]) (Value.bool (a * n / 18446744073709551616 == a * (↑j : Int) / 18446744073709551616 && (a * n % 18446744073709551616 == a * (↑j : Int) % 18446744073709551616 && true))) (by kernel_rfl) (by kernel_rfl) (of_decide_eq_true (by kernel_rfl)) (by kernel_rfl) ((abin_eqlB (by kernel_rfl)).trans (by kernel_rfl)) ?_
            refine OD.as (Value.bool (a * n / 18446744073709551616 == a * (↑j : Int) / 18446744073709551616 && (a * n % 18446744073709551616 == a * (↑j : Int) % 18446744073709551616 && true))) (Value.bool true) (by kernel_rfl) (of_decide_eq_true (by kernel_rfl)) (by kernel_rfl) (congrArg Value.bool (andB (a := true) (b := true) (beq_iff_eq.2 (by (rw [show (j : Int) = n by omega]))) (andB (a := true) (b := true) (beq_iff_eq.2 (by (rw [show (j : Int) = n by omega]))) rfl rfl) rfl)) ?_
            refine OD.run 1 (by kernel_rfl) ?_
            refine OD.callEq 10 ([]) (known_ok _) (by kernel_rfl) (of_decide_eq_true (by kernel_rfl)) (by kernel_rfl) (by kernel_rfl) (by kernel_rfl) ?_
            refine OD.run 2 (by kernel_rfl) ?_
            refine OD.done (of_decide_eq_true (by kernel_rfl)) ?_
            refine then_n (by kernel_rfl) ?_
            refine Det.retA (by kernel_rfl) ?_
            refine fin_r (Value.bool true) (by kernel_rfl) (by kernel_rfl) ?_
            rfl
  · skip
    refine Det.seqA (by kernel_rfl) ?_
    refine Det.opsA (by kernel_rfl) hX ?_
    refine OD.run 1 (by kernel_rfl) ?_
    refine OD.done (of_decide_eq_true (by kernel_rfl)) ?_
    refine then_n (by kernel_rfl) ?_
    refine Det.seqA (by kernel_rfl) ?_
    refine Det.opsA (by kernel_rfl) hX ?_
    refine OD.run 2 (by kernel_rfl) ?_
    refine OD.callEq 12 ([Value.int IntKind.i64 a, Value.int IntKind.i64 b]) (fix_Add _ _ ha hA hb hB _) (by kernel_rfl) (of_decide_eq_true (by kernel_rfl)) (by kernel_rfl) (by kernel_rfl) (by kernel_rfl) ?_
    refine OD.run 2 (by kernel_rfl) ?_
    refine OD.as (Value.bool (inR (a + b))) (Value.bool false) (by kernel_rfl) (of_decide_eq_true (by kernel_rfl)) (by kernel_rfl) (congrArg Value.bool (by exact hk)) ?_
    refine OD.run 2 (by kernel_rfl) ?_
    refine OD.done (of_decide_eq_true (by kernel_rfl)) ?_
    refine then_n (by kernel_rfl) ?_
    refine Det.seqA (by kernel_rfl) ?_
    refine Det.seqA (by kernel_rfl) ?_
    refine Det.opsA (by kernel_rfl) hX ?_
    refine OD.run 1 (by kernel_rfl) ?_
    refine OD.done (of_decide_eq_true (by kernel_rfl)) ?_
    refine then_n (by kernel_rfl) ?_
    refine Det.condF (by kernel_rfl) (false) (by kernel_rfl) rfl ?_
    refine Det.skipA (by kernel_rfl) ?_
    refine then_n (by kernel_rfl) ?_
    refine Det.seqA (by kernel_rfl) ?_
    refine Det.seqA (by kernel_rfl) ?_
    refine Det.opsA (by kernel_rfl) hX ?_
    refine OD.run 2 (by kernel_rfl) ?_
    by_cases c22 : a < 0
    · refine OD.as (Value.bool (decide (a < 0))) (Value.bool true) (by kernel_rfl) (of_decide_eq_true (by kernel_rfl)) (by kernel_rfl) (congrArg Value.bool (decide_eq_true (by exact c22))) ?_
      refine OD.run 7 (by kernel_rfl) ?_
      refine OD.done (of_decide_eq_true (by kernel_rfl)) ?_
      refine then_n (by kernel_rfl) ?_
      refine Det.condT (by kernel_rfl) (true) (by kernel_rfl) rfl ?_
      refine Det.seqA (by kernel_rfl) ?_
      refine Det.opsA (by kernel_rfl) hX ?_
      refine OD.callEq 10 ([]) (known_ok _) (by kernel_rfl) (of_decide_eq_true (by kernel_rfl)) (by kernel_rfl) (by kernel_rfl) (by kernel_rfl) ?_
      refine OD.run 1 (by kernel_rfl) ?_
      refine OD.done (of_decide_eq_true (by kernel_rfl)) ?_
      refine then_n (by kernel_rfl) ?_
      refine Det.retA (by kernel_rfl) ?_
      refine then_r (by kernel_rfl) ?_
      refine fin_r (Value.bool true) (by kernel_rfl) (by kernel_rfl) ?_
      rfl
    · refine OD.as (Value.bool (decide (a < 0))) (Value.bool false) (by kernel_rfl) (of_decide_eq_true (by kernel_rfl)) (by kernel_rfl) (congrArg Value.bool (decide_eq_false (by exact c22))) ?_
      refine OD.run 3 (by kernel_rfl) ?_
      by_cases c25 : n < 0
      · refine OD.as (Value.bool (decide (n < 0))) (Value.bool true) (by kernel_rfl) (of_decide_eq_true (by kernel_rfl)) (by kernel_rfl) (congrArg Value.bool (decide_eq_true (by exact c25))) ?_
        refine OD.run 3 (by kernel_rfl) ?_
        refine OD.done (of_decide_eq_true (by kernel_rfl)) ?_
        refine then_n (by kernel_rfl) ?_
        refine Det.condT (by kernel_rfl) (true) (by kernel_rfl) rfl ?_
        refine Det.seqA (by kernel_rfl) ?_
        refine Det.opsA (by kernel_rfl) hX ?_
        refine OD.callEq 10 ([]) (known_ok _) (by kernel_rfl) (of_decide_eq_true (by kernel_rfl)) (by kernel_rfl) (by kernel_rfl) (by kernel_rfl) ?_
        refine OD.run 1 (by kernel_rfl) ?_
        refine OD.done (of_decide_eq_true (by kernel_rfl)) ?_
        refine then_n (by kernel_rfl) ?_
        refine Det.retA (by kernel_rfl) ?_
        refine then_r (by kernel_rfl) ?_
        refine fin_r (Value.bool true) (by kernel_rfl) (by kernel_rfl) ?_
        rfl
      · refine OD.as (Value.bool (decide (n < 0))) (Value.bool false) (by kernel_rfl) (of_decide_eq_true (by kernel_rfl)) (by kernel_rfl) (congrArg Value.bool (decide_eq_false (by exact c25))) ?_
        refine OD.run 3 (by kernel_rfl) ?_
        refine OD.done (of_decide_eq_true (by kernel_rfl)) ?_
        refine then_n (by kernel_rfl) ?_
        by_cases c29 : 60 < n
        · refine Det.condT (by kernel_rfl) (decide (60 < n)) (by kernel_rfl) (decide_eq_true (by exact c29)) ?_
          refine Det.seqA (by kernel_rfl) ?_
          refine Det.opsA (by kernel_rfl) hX ?_
          refine OD.callEq 10 ([]) (known_ok _) (by kernel_rfl) (of_decide_eq_true (by kernel_rfl)) (by kernel_rfl) (by kernel_rfl) (by kernel_rfl) ?_
          refine OD.run 1 (by kernel_rfl) ?_
          refine OD.done (of_decide_eq_true (by kernel_rfl)) ?_
          refine then_n (by kernel_rfl) ?_
          refine Det.retA (by kernel_rfl) ?_
          refine then_r (by kernel_rfl) ?_
          refine fin_r (Value.bool true) (by kernel_rfl) (by kernel_rfl) ?_
          rfl
        · refine Det.condF (by kernel_rfl) (decide (60 < n)) (by kernel_rfl) (decide_eq_false (by exact c29)) ?_
          refine Det.skipA (by kernel_rfl) ?_
          refine then_n (by kernel_rfl) ?_
          refine Det.seqA (by kernel_rfl) ?_
          refine Det.opsA (by kernel_rfl) hX ?_
          refine OD.run 2 (by kernel_rfl) ?_
          refine OD.callEq 9 ([Value.int IntKind.i64 a, Value.int IntKind.i64 n]) (fix_Times _ _ (by omega) (by omega) (by omega) (by omega) _) (by kernel_rfl) (of_decide_eq_true (by kernel_rfl)) (by kernel_rfl) (by kernel_rfl) (by kernel_rfl) ?_
          refine OD.run 6 (by kernel_rfl) ?_
          refine OD.done (of_decide_eq_true (by kernel_rfl)) ?_
          refine then_n (by kernel_rfl) ?_
          refine Det.seqA (by kernel_rfl) ?_
          refine Det.opsA (by kernel_rfl) hX ?_
          refine OD.run 1 (by kernel_rfl) ?_
          refine OD.done (of_decide_eq_true (by kernel_rfl)) ?_
          refine then_n (by kernel_rfl) ?_
          refine Det.seqA (by kernel_rfl) ?_
          refine Det.opsA (by kernel_rfl) hX ?_
          refine OD.run 1 (by kernel_rfl) ?_
          refine OD.callEq 9 ([Value.int IntKind.i64 a, Value.int IntKind.i64 1]) (fix_Times _ _ (by omega) (by omega) (by omega) (by omega) _) (by kernel_rfl) (of_decide_eq_true (by kernel_rfl)) (by kernel_rfl) (by kernel_rfl) (by kernel_rfl) ?_
          refine OD.run 6 (by kernel_rfl) ?_
          refine OD.done (of_decide_eq_true (by kernel_rfl)) ?_
          refine then_n (by kernel_rfl) ?_
          refine Det.seqA (by kernel_rfl) ?_
          refine Det.seqA (by kernel_rfl) ?_
          refine Det.opsA (by kernel_rfl) hX ?_
          refine OD.run 1 (by kernel_rfl) ?_
          refine OD.done (of_decide_eq_true (by kernel_rfl)) ?_
          refine then_n (by kernel_rfl) ?_
          refine Det.blockA (by kernel_rfl) ?_
          refine Det.loopD 3 (fun j : Nat => n.toNat - j) (fun j => (j : Int) ≤ n) (fun j => [(2, .int .i64 n), (11, .pointer (some ⟨0, 0, none⟩)), (12, .bool true), (13, .pointer (some ⟨1, 0, none⟩)), (14, .pointer (some ⟨2, 0, none⟩)), (16, .int .i64 (j : Int))]) (fun j => rowsU (a * n) (a * (j : Int)) (a * 1)) (by kernel_rfl) (fun _ => rfl) (fun j _ => List.all_eq_true.1 (by kernel_rfl)) (fun j _ => by kernel_rfl) 0 (by omega) (by kernel_rfl) (by kernel_rfl) (by show rowsTo _ 3 = rowsU (a * n) (a * ((0 : Nat) : Int)) (a * 1); rw [show a * ((0 : Nat) : Int) = 0 by simp]; kernel_rfl) ?_
          (intro j hj; have hs := undo_bounds (a := a) (j := (j : Int)) (by omega) hA (by omega) (by omega))
          refine Det.seqA (by kernel_rfl) ?_
          refine Det.seqA (by kernel_rfl) ?_
          refine Det.opsA (by kernel_rfl) hX ?_
          refine OD.run 3 (by kernel_rfl) ?_
          refine OD.done (of_decide_eq_true (by kernel_rfl)) ?_
          refine then_n (by kernel_rfl) ?_
          by_cases c59 : (↑j : Int) < n
          · refine Det.condT (by kernel_rfl) (decide ((↑j : Int) < n)) (by kernel_rfl) (decide_eq_true (by exact c59)) ?_
            refine Det.skipA (by kernel_rfl) ?_
            refine then_n (by kernel_rfl) ?_
            refine Det.seqA (by kernel_rfl) ?_
            refine Det.blockA (by kernel_rfl) ?_
            refine Det.seqA (by kernel_rfl) ?_
            refine Det.opsA (by kernel_rfl) hX ?_
            refine OD.run 2 (by kernel_rfl) ?_
            refine OD.callEq 18 ([Value.agg #[Value.int IntKind.u64 (a * (↑j : Int) / 18446744073709551616), Value.int IntKind.u64 (a * (↑j : Int) % 18446744073709551616)], Value.agg #[Value.int IntKind.u64 (a * 1 / 18446744073709551616), Value.int IntKind.u64 (a * 1 % 18446744073709551616)]]) (fix_Plus _ _ (by omega) (by omega) (by omega) _) (by kernel_rfl) (of_decide_eq_true (by kernel_rfl)) (by kernel_rfl) (by kernel_rfl) (by kernel_rfl) ?_
            refine OD.run 6 (by kernel_rfl) ?_
            refine OD.done (of_decide_eq_true (by kernel_rfl)) ?_
            refine then_n (by kernel_rfl) ?_
            refine Det.seqA (by kernel_rfl) ?_
            refine Det.seqA (by kernel_rfl) ?_
            refine Det.opsA (by kernel_rfl) hX ?_
            refine OD.run 2 (by kernel_rfl) ?_
            refine OD.done (of_decide_eq_true (by kernel_rfl)) ?_
            refine then_n (by kernel_rfl) ?_
            refine Det.condF (by kernel_rfl) (false) (by kernel_rfl) rfl ?_
            refine Det.skipA (by kernel_rfl) ?_
            refine then_n (by kernel_rfl) ?_
            refine Det.opsA (by kernel_rfl) hX ?_
            refine OD.run 2 (by kernel_rfl) ?_
            refine OD.done (of_decide_eq_true (by kernel_rfl)) ?_
            refine then_n (by kernel_rfl) ?_
            refine Det.opsA (by kernel_rfl) hX ?_
            refine OD.run 1 (by kernel_rfl) ?_
            refine OD.as (Value.int IntKind.i64 (IntKind.wrap IntKind.i64 ((↑j : Int) + 1))) (Value.int IntKind.i64 ((↑j : Int) + 1)) (by kernel_rfl) (of_decide_eq_true (by kernel_rfl)) (by kernel_rfl) (congrArg _ (by (rw [IntKind.wrap_i64]; omega))) ?_
            refine OD.run 1 (by kernel_rfl) ?_
            refine OD.done (of_decide_eq_true (by kernel_rfl)) ?_
            refine then_n (by kernel_rfl) ?_
            (refine ⟨j + 1, by omega, by omega, by kernel_rfl, ?_⟩; show rowsTo _ 3 = rowsU (a * n) (a * ((j + 1 : Nat) : Int)) (a * 1); rw [show a * ((j + 1 : Nat) : Int) = a * (j : Int) + a * 1 by rw [Int.natCast_succ, Int.mul_add]]; kernel_rfl)
          · refine Det.condF (by kernel_rfl) (decide ((↑j : Int) < n)) (by kernel_rfl) (decide_eq_false (by exact c59)) ?_
            refine Det.exitA (by kernel_rfl) ?_
            refine then_x 0 (by kernel_rfl) ?_
            refine then_x 0 (by kernel_rfl) ?_
            refine then_n (by kernel_rfl) ?_
            refine Det.seqA (by kernel_rfl) ?_
            refine Det.opsA (by kernel_rfl) hX ?_
            refine OD.run 4 (by kernel_rfl) ?_
            refine OD.bin BinOp.eql 24 (Value.agg #[Value.int IntKind.u64 (a * n / 18446744073709551616), Value.int IntKind.u64 (a * n % 18446744073709551616)]) (Value.agg #[Value.int IntKind.u64 (a * (↑j : Int) / 18446744073709551616), Value.int IntKind.u64 (a * (↑j : Int) % 18446744073709551616)]) (Value.bool (a * n / 18446744073709551616 == a * (↑j : Int) / 18446744073709551616 && (a * n % 18446744073709551616 == a * (↑j : Int) % 18446744073709551616 && true))) (by kernel_rfl) (by kernel_rfl) (of_decide_eq_true (by kernel_rfl)) (by kernel_rfl) ((abin_eqlB (by kernel_rfl)).trans (by kernel_rfl)) ?_
            refine OD.as (Value.bool (a * n / 18446744073709551616 == a * (↑j : Int) / 18446744073709551616 && (a * n % 18446744073709551616 == a * (↑j : Int) % 18446744073709551616 && true))) (Value.bool true) (by kernel_rfl) (of_decide_eq_true (by kernel_rfl)) (by kernel_rfl) (congrArg Value.bool (andB (a := true) (b := true) (beq_iff_eq.2 (by (rw [show (j : Int) = n by omega]))) (andB (a := true) (b := true) (beq_iff_eq.2 (by (rw [show (j : Int) = n by omega]))) rfl rfl) rfl)) ?_
            refine OD.run 1 (by kernel_rfl) ?_
            refine OD.callEq 10 ([]) (known_ok _) (by kernel_rfl) (of_decide_eq_true (by kernel_rfl)) (by kernel_rfl) (by kernel_rfl) (by kernel_rfl) ?_
            refine OD.run 2 (by kernel_rfl) ?_
            refine OD.done (of_decide_eq_true (by kernel_rfl)) ?_
            refine then_n (by kernel_rfl) ?_
            refine Det.retA (by kernel_rfl) ?_
            refine fin_r (Value.bool true) (by kernel_rfl) (by kernel_rfl) ?_
            rfl
end Go.Proofs.Ytphplkjpmhphmaa.Eng
