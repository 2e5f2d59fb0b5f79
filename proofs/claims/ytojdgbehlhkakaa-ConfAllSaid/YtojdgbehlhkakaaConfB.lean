/- What slices.Equal of outs comes to, over the engine's memory; rows of outs. -/
import Derived.Test.YtojdgbehlhkakaaConfA
namespace Go.Proofs.Ytojdgbehlhkakaa.Eng
open Go Go.Proofs
set_option maxRecDepth 100000
set_option maxHeartbeats 4000000
set_option linter.unusedVariables false
def outK : List SK := [.int .i64, .int .i64, .int .i64, .int .i64, .int .i64, .int .i64, .int .i64, .int .i64]
/-- are two outs one? -/
def eqE (c1 : List Value) (i : Nat) (c2 : List Value) (k : Nat) : Bool :=
  (nAt c1 (i * 8) == nAt c2 (k * 8)) && ((nAt c1 (i * 8 + 1) == nAt c2 (k * 8 + 1)) && ((nAt c1 (i * 8 + 2) == nAt c2 (k * 8 + 2)) && ((nAt c1 (i * 8 + 3) == nAt c2 (k * 8 + 3)) && ((nAt c1 (i * 8 + 4) == nAt c2 (k * 8 + 4)) && ((nAt c1 (i * 8 + 5) == nAt c2 (k * 8 + 5)) && ((nAt c1 (i * 8 + 6) == nAt c2 (k * 8 + 6)) && ((nAt c1 (i * 8 + 7) == nAt c2 (k * 8 + 7)) && true)))))))
def outV (c : List Value) (i : Nat) : Value := .agg #[.int .i64 (nAt c (i * 8)), .int .i64 (nAt c (i * 8 + 1)), .int .i64 (nAt c (i * 8 + 2)), .int .i64 (nAt c (i * 8 + 3)), .int .i64 (nAt c (i * 8 + 4)), .int .i64 (nAt c (i * 8 + 5)), .int .i64 (nAt c (i * 8 + 6)), .int .i64 (nAt c (i * 8 + 7))]
theorem out_neq (c1 : List Value) (i : Nat) (c2 : List Value) (k : Nat) : abin Try.prog .neq 36 (outV c1 i) (outV c2 k) = some (.bool (!eqE c1 i c2 k)) := (abin_neqB (by kernel_rfl)).trans (by kernel_rfl)
theorem out_load {h : Heap} {a : Option Addr} {n c r o j q : Nat} {cells : List Value} (v : View h outK a n c r o cells) (hj : j < n) (hq : q = o + j * 8) : aload Try.prog h 36 (.pointer (some ⟨r, q, none⟩)) = some (outV cells j) :=
  v.load (by kernel_rfl) (by kernel_rfl) hj hq
theorem slices_Equal (h : Heap) {a1 a2 : Option Addr} {n1 p1 r1 o1 n2 p2 r2 o2 : Nat} {c1 c2 : List Value} (v1 : View h outK a1 n1 p1 r1 o1 c1) (v2 : View h outK a2 n2 p2 r2 o2 c2) (hb : n1 ≤ 1000000) (hb2 : n2 ≤ 1000000) :
    DetFn Try.prog 16 [.slice a1 n1 p1, .slice a2 n2 p2] h fun u g => (∃ b, u = .bool b ∧ (b = true ↔ n1 = n2 ∧ ∀ i, i < n1 → eqE c1 i c2 i = true)) ∧ g = h := by
  refine Det.enterS Try.f16 [(0, .slice a1 n1 p1), (1, .slice a2 n2 p2)] Try.func16 (by kernel_rfl) (of_decide_eq_true (by kernel_rfl)) (by kernel_rfl) ?_
  refine Det.sreg [] [(1, Value.slice a2 n2 p2), (0, Value.slice a1 n1 p1), (4, Value.bool false)] (h) [] (by kernel_rfl) (by kernel_rfl) hX (by kernel_rfl) allp0 ?_
  refine Det.seqA (by kernel_rfl) ?_
  refine Det.sreg [] [(4, Value.bool false), (0, Value.slice a1 n1 p1), (1, Value.slice a2 n2 p2), (10, Value.bool ((↑n1 : Int) != (↑n2 : Int)))] (h) [] (by kernel_rfl) (by kernel_rfl) hX (by kernel_rfl) allp0 ?_
  by_cases c3 : (↑n1 : Int) = (↑n2 : Int)
  · refine Det.condF (by kernel_rfl) ((↑n1 : Int) != (↑n2 : Int)) (by kernel_rfl) (bne_eq_false_iff_eq.2 (by exact c3)) ?_
    refine Det.skipA (by kernel_rfl) ?_
    refine then_n (by kernel_rfl) ?_
    refine Det.seqA (by kernel_rfl) ?_
    refine Det.sreg [] [(10, Value.bool ((↑n1 : Int) != (↑n2 : Int))), (1, Value.slice a2 n2 p2), (0, Value.slice a1 n1 p1), (4, Value.bool false), (12, Value.int IntKind.i64 (↑n1 : Int)), (13, Value.int IntKind.i64 0)] (h) [] (by kernel_rfl) (by kernel_rfl) hX (by kernel_rfl) allp0 ?_
    refine Det.blockA (by kernel_rfl) ?_
    refine Det.loopA (by kernel_rfl) (fun x : Nat => n1 - x) (fun x => slots [(0, .slice a1 n1 p1), (1, .slice a2 n2 p2), (4, .bool false), (12, .int .i64 (n1 : Int)), (13, .int .i64 (x : Int))]) (fun x g => x ≤ n1 ∧ (∀ i, i < x → eqE c1 i c2 i = true) ∧ h = g) 0 (slots_sub (by kernel_rfl)) ⟨Nat.zero_le _, (fun i hi => absurd hi (Nat.not_lt_zero _)), rfl⟩ ?_
    rintro i _ ⟨hi, he, rfl⟩
    refine Det.sreg [] [(12, Value.int IntKind.i64 (↑n1 : Int)), (4, Value.bool false), (13, Value.int IntKind.i64 (↑i : Int)), (1, Value.slice a2 n2 p2), (0, Value.slice a1 n1 p1), (14, Value.bool (decide ((↑i : Int) < (↑n1 : Int))))] (h) [] (by kernel_rfl) (by kernel_rfl) hX (by kernel_rfl) allp0 ?_
    refine Det.seqA (by kernel_rfl) ?_
    by_cases c13 : (↑i : Int) < (↑n1 : Int)
    · refine Det.condT (by kernel_rfl) (decide ((↑i : Int) < (↑n1 : Int))) (by kernel_rfl) (decide_eq_true (by exact c13)) ?_
      refine Det.skipA (by kernel_rfl) ?_
      refine then_n (by kernel_rfl) ?_
      refine Det.seqA (by kernel_rfl) ?_
      refine Det.blockA (by kernel_rfl) ?_
      refine Det.sreg [] [(14, Value.bool (decide ((↑i : Int) < (↑n1 : Int)))), (0, Value.slice a1 n1 p1), (1, Value.slice a2 n2 p2), (13, Value.int IntKind.i64 (↑i : Int)), (4, Value.bool false), (12, Value.int IntKind.i64 (↑n1 : Int)), (5, Value.int IntKind.i64 (↑i : Int))] (h) [] (by kernel_rfl) (by kernel_rfl) hX (by kernel_rfl) allp0 ?_
      refine Det.sregD [(2, .v (Value.pointer (some { block := r1, off := o1 + i * 8 }))), (0, .v (Value.agg #[Value.int IntKind.i64 (nAt c1 (i * 8)), Value.int IntKind.i64 (nAt c1 (i * 8 + 1)), Value.int IntKind.i64 (nAt c1 (i * 8 + 2)), Value.int IntKind.i64 (nAt c1 (i * 8 + 3)), Value.int IntKind.i64 (nAt c1 (i * 8 + 4)), Value.int IntKind.i64 (nAt c1 (i * 8 + 5)), Value.int IntKind.i64 (nAt c1 (i * 8 + 6)), Value.int IntKind.i64 (nAt c1 (i * 8 + 7))])), (2, .v (Value.pointer (some { block := r2, off := o2 + i * 8 }))), (0, .v (Value.agg #[Value.int IntKind.i64 (nAt c2 (i * 8)), Value.int IntKind.i64 (nAt c2 (i * 8 + 1)), Value.int IntKind.i64 (nAt c2 (i * 8 + 2)), Value.int IntKind.i64 (nAt c2 (i * 8 + 3)), Value.int IntKind.i64 (nAt c2 (i * 8 + 4)), Value.int IntKind.i64 (nAt c2 (i * 8 + 5)), Value.int IntKind.i64 (nAt c2 (i * 8 + 6)), Value.int IntKind.i64 (nAt c2 (i * 8 + 7))])), (0, .v (Value.bool !eqE c1 i c2 i))] [(5, Value.int IntKind.i64 (↑i : Int)), (12, Value.int IntKind.i64 (↑n1 : Int)), (4, Value.bool false), (13, Value.int IntKind.i64 (↑i : Int)), (1, Value.slice a2 n2 p2), (0, Value.slice a1 n1 p1), (14, Value.bool (decide ((↑i : Int) < (↑n1 : Int)))), (24, Value.bool !eqE c1 i c2 i)] (h) [aindexAddr Try.prog 25 (Value.slice a1 n1 p1) (Value.int IntKind.i64 (↑i : Int)) = some (Value.pointer (some { block := r1, off := o1 + i * 8 })), aload Try.prog (h) 36 (Value.pointer (some { block := r1, off := o1 + i * 8 })) = some (Value.agg #[Value.int IntKind.i64 (nAt c1 (i * 8)), Value.int IntKind.i64 (nAt c1 (i * 8 + 1)), Value.int IntKind.i64 (nAt c1 (i * 8 + 2)), Value.int IntKind.i64 (nAt c1 (i * 8 + 3)), Value.int IntKind.i64 (nAt c1 (i * 8 + 4)), Value.int IntKind.i64 (nAt c1 (i * 8 + 5)), Value.int IntKind.i64 (nAt c1 (i * 8 + 6)), Value.int IntKind.i64 (nAt c1 (i * 8 + 7))]), aindexAddr Try.prog 25 (Value.slice a2 n2 p2) (Value.int IntKind.i64 (↑i : Int)) = some (Value.pointer (some { block := r2, off := o2 + i * 8 })), aload Try.prog (h) 36 (Value.pointer (some { block := r2, off := o2 + i * 8 })) = some (Value.agg #[Value.int IntKind.i64 (nAt c2 (i * 8)), Value.int IntKind.i64 (nAt c2 (i * 8 + 1)), Value.int IntKind.i64 (nAt c2 (i * 8 + 2)), Value.int IntKind.i64 (nAt c2 (i * 8 + 3)), Value.int IntKind.i64 (nAt c2 (i * 8 + 4)), Value.int IntKind.i64 (nAt c2 (i * 8 + 5)), Value.int IntKind.i64 (nAt c2 (i * 8 + 6)), Value.int IntKind.i64 (nAt c2 (i * 8 + 7))]), abin Try.prog BinOp.neq 36 (Value.agg #[Value.int IntKind.i64 (nAt c1 (i * 8)), Value.int IntKind.i64 (nAt c1 (i * 8 + 1)), Value.int IntKind.i64 (nAt c1 (i * 8 + 2)), Value.int IntKind.i64 (nAt c1 (i * 8 + 3)), Value.int IntKind.i64 (nAt c1 (i * 8 + 4)), Value.int IntKind.i64 (nAt c1 (i * 8 + 5)), Value.int IntKind.i64 (nAt c1 (i * 8 + 6)), Value.int IntKind.i64 (nAt c1 (i * 8 + 7))]) (Value.agg #[Value.int IntKind.i64 (nAt c2 (i * 8)), Value.int IntKind.i64 (nAt c2 (i * 8 + 1)), Value.int IntKind.i64 (nAt c2 (i * 8 + 2)), Value.int IntKind.i64 (nAt c2 (i * 8 + 3)), Value.int IntKind.i64 (nAt c2 (i * 8 + 4)), Value.int IntKind.i64 (nAt c2 (i * 8 + 5)), Value.int IntKind.i64 (nAt c2 (i * 8 + 6)), Value.int IntKind.i64 (nAt c2 (i * 8 + 7))]) = some (Value.bool !eqE c1 i c2 i)] [] (by kernel_rfl) (by kernel_rfl) hmix hX (by kernel_rfl) (by kernel_rfl) (allp (v1.index Try.underlying25 (w := 8) (by kernel_rfl) (by omega) (by omega) rfl) (allp (out_load v1 (j := i) (by omega) rfl) (allp (v2.index Try.underlying25 (w := 8) (by kernel_rfl) (by omega) (by omega) rfl) (allp (out_load v2 (j := i) (by omega) rfl) (allp (out_neq c1 i c2 i) allp0))))) allp0 ?_
      rcases Bool.eq_false_or_eq_true (eqE c1 i c2 i) with c21 | c21
      · refine Det.condF (by kernel_rfl) (!eqE c1 i c2 i) (by kernel_rfl) (not_f (by exact c21)) ?_
        refine Det.skipA (by kernel_rfl) ?_
        refine then_n (by kernel_rfl) ?_
        refine Det.reg [(0, .s (Value.int IntKind.i64 ((↑i : Int) + 1)))] [(24, Value.bool !eqE c1 i c2 i), (14, Value.bool (decide ((↑i : Int) < (↑n1 : Int)))), (0, Value.slice a1 n1 p1), (1, Value.slice a2 n2 p2), (4, Value.bool false), (12, Value.int IntKind.i64 (↑n1 : Int)), (5, Value.int IntKind.i64 (↑i : Int)), (13, Value.int IntKind.i64 ((↑i : Int) + 1))] (h) [(Value.int IntKind.i64 (IntKind.wrap IntKind.i64 ((↑i : Int) + 1))) = (Value.int IntKind.i64 ((↑i : Int) + 1))] (by kernel_rfl) hX (by kernel_rfl) (allp (congrArg _ (by (rw [IntKind.wrap_i64]; omega))) allp0) ?_
        refine then_n (by kernel_rfl) ?_
        exact ⟨i + 1, (show n1 - (i + 1) < n1 - i by omega), slots_sub (by kernel_rfl), (show i + 1 ≤ n1 by omega), (fun j hj => by by_cases e : j = i; (subst e; assumption); exact he j (by omega)), rfl⟩
      · refine Det.condT (by kernel_rfl) (!eqE c1 i c2 i) (by kernel_rfl) (not_t (by exact c21)) ?_
        refine Det.sreg [] [(24, Value.bool !eqE c1 i c2 i), (14, Value.bool (decide ((↑i : Int) < (↑n1 : Int)))), (0, Value.slice a1 n1 p1), (1, Value.slice a2 n2 p2), (13, Value.int IntKind.i64 (↑i : Int)), (12, Value.int IntKind.i64 (↑n1 : Int)), (5, Value.int IntKind.i64 (↑i : Int)), (4, Value.bool false)] (h) [] (by kernel_rfl) (by kernel_rfl) hX (by kernel_rfl) allp0 ?_
        refine Det.retA (by kernel_rfl) ?_
        refine then_r (by kernel_rfl) ?_
        refine then_r (by kernel_rfl) ?_
        refine then_r (by kernel_rfl) ?_
        refine fin_r (Value.bool false) (by kernel_rfl) (by kernel_rfl) ?_
        exact ⟨⟨false, rfl, ⟨fun x => (by cases x), fun x => absurd (x.2 i (by omega)) (by rw [show eqE c1 i c2 i = false by assumption]; exact Bool.noConfusion)⟩⟩, rfl⟩
    · refine Det.condF (by kernel_rfl) (decide ((↑i : Int) < (↑n1 : Int))) (by kernel_rfl) (decide_eq_false (by exact c13)) ?_
      refine Det.exitA (by kernel_rfl) ?_
      refine then_x 0 (by kernel_rfl) ?_
      refine then_x 0 (by kernel_rfl) ?_
      refine then_n (by kernel_rfl) ?_
      refine Det.sreg [] [(14, Value.bool (decide ((↑i : Int) < (↑n1 : Int)))), (0, Value.slice a1 n1 p1), (1, Value.slice a2 n2 p2), (13, Value.int IntKind.i64 (↑i : Int)), (12, Value.int IntKind.i64 (↑n1 : Int)), (4, Value.bool true)] (h) [] (by kernel_rfl) (by kernel_rfl) hX (by kernel_rfl) allp0 ?_
      refine Det.retA (by kernel_rfl) ?_
      refine fin_r (Value.bool true) (by kernel_rfl) (by kernel_rfl) ?_
      exact ⟨⟨true, rfl, ⟨fun _ => ⟨by omega, fun j hj => he j (by omega)⟩, fun _ => rfl⟩⟩, rfl⟩
  · refine Det.condT (by kernel_rfl) ((↑n1 : Int) != (↑n2 : Int)) (by kernel_rfl) (bne_iff_ne.2 (by exact c3)) ?_
    refine Det.sreg [] [(10, Value.bool ((↑n1 : Int) != (↑n2 : Int))), (1, Value.slice a2 n2 p2), (0, Value.slice a1 n1 p1), (4, Value.bool false)] (h) [] (by kernel_rfl) (by kernel_rfl) hX (by kernel_rfl) allp0 ?_
    refine Det.retA (by kernel_rfl) ?_
    refine then_r (by kernel_rfl) ?_
    refine fin_r (Value.bool false) (by kernel_rfl) (by kernel_rfl) ?_
    exact ⟨⟨false, rfl, ⟨fun x => (by cases x), fun x => absurd x.1 (by omega)⟩⟩, rfl⟩
end Go.Proofs.Ytojdgbehlhkakaa.Eng
