/- What a book tells: roles, who may what, whom a client reaches; over the engine's memory. -/
import Derived.Test.YtmpendenaflonaaFirmE
namespace Go.Proofs.Ytmpendenaflonaa.Eng
open Go Go.Proofs Go.Proofs.Ytmpendenaflonaa.FixMath
set_option maxRecDepth 100000
set_option maxHeartbeats 4000000
set_option linter.unusedVariables false
theorem BookIn.ptr {h : Heap} {t : TypeId} {q s u n : Nat} {c U : List Value} (B : BookIn h t q s u n c U) : View h partyK (some ⟨s, 0, some 3⟩) n n s 0 c := View.of_row B.ps B.els
theorem BookIn.uses {h : Heap} {t : TypeId} {q s u n : Nat} {c U : List Value} (B : BookIn h t q s u n c U) : View h [.int .i64] (some ⟨u, 0, none⟩) n n u 0 U := View.of_row B.us B.uels
def roleOf (c : List Value) (n : Nat) (who : Int) : Int := if 0 ≤ who ∧ who < (n : Int) then nAt c (who.toNat * 3) else 0
theorem roleOf_in {c : List Value} {n : Nat} {who : Int} (h0 : 0 ≤ who) (h1 : who < (n : Int)) : roleOf c n who = nAt c (who.toNat * 3) := if_pos ⟨h0, h1⟩
theorem roleOf_out {c : List Value} {n : Nat} {who : Int} (h : ¬(0 ≤ who ∧ who < (n : Int))) : roleOf c n who = 0 := if_neg h
def mayOf (r kind : Int) : Bool := if kind = 6 ∨ kind = 7 ∨ kind = 8 then (r == 1) || (r == 2) else if kind = 9 ∨ kind = 12 ∨ kind = 13 ∨ kind = 16 then r == 1 else if kind = 10 ∨ kind = 11 ∨ kind = 14 ∨ kind = 15 then r == 2 else if kind = 17 then r == 3 else false
def reachOf (c : List Value) (n : Nat) (who dealers : Int) : Int := if roleOf c n who = 1 then (if dealers = 0 ∨ Go.bits .andNot .u64 dealers (nAt c (who.toNat * 3 + 1)) ≠ 0 then 1 else 0) else 5
theorem asks_load {h : Heap} {a : Option Addr} {n c r o j q : Nat} {cells : List Value} (v : View h partyK a n c r o cells) (hj : j < n) (hq : q = o + j * 3 + 1) :
    aload Try.prog h 37 (.pointer (some ⟨r, q, none⟩)) = some (.int .u64 (nAt cells (j * 3 + 1))) :=
  v.cell (p := 1) (k := .u64) (by kernel_rfl) hj rfl hq
theorem cap_load {h : Heap} {a : Option Addr} {n c r o j q : Nat} {cells : List Value} (v : View h partyK a n c r o cells) (hj : j < n) (hq : q = o + j * 3 + 2) :
    aload Try.prog h 2 (.pointer (some ⟨r, q, none⟩)) = some (.int .i64 (nAt cells (j * 3 + 2))) :=
  v.cell (p := 2) (k := .i64) (by kernel_rfl) hj rfl hq
theorem firm_role (h : Heap) {q s u n : Nat} {c U : List Value} (B : BookIn h 65 q s u n c U) (who : Int) : DetFn Try.prog 35 [.pointer (some ⟨q, 0, none⟩), .int .i64 who] h fun v h' => v = .int .i64 (roleOf c n who) ∧ h' = h := by
  refine Det.enterS Try.f35 [(0, .pointer (some ⟨q, 0, none⟩)), (1, .int .i64 who)] Try.func35 (by kernel_rfl) (of_decide_eq_true (by kernel_rfl)) (by kernel_rfl) ?_
  refine Det.sreg [] [(1, Value.int IntKind.i64 who), (0, Value.pointer (some { block := q, off := 0 })), (4, Value.int IntKind.i64 0)] (h) [] (by kernel_rfl) (by kernel_rfl) hX (by kernel_rfl) allp0 ?_
  refine Det.seqA (by kernel_rfl) ?_
  by_cases c2 : who < 0
  · refine Det.sreg [(4, .s (Value.bool true))] [(4, Value.int IntKind.i64 0), (0, Value.pointer (some { block := q, off := 0 })), (1, Value.int IntKind.i64 who), (19, Value.bool true)] (h) [(Value.bool (decide (who < 0))) = (Value.bool true)] (by kernel_rfl) (by kernel_rfl) hX (by kernel_rfl) (allp (congrArg Value.bool (decide_eq_true (by exact c2))) allp0) ?_
    refine Det.condT (by kernel_rfl) (true) (by kernel_rfl) rfl ?_
    refine Det.sreg [] [(19, Value.bool true), (1, Value.int IntKind.i64 who), (0, Value.pointer (some { block := q, off := 0 })), (4, Value.int IntKind.i64 0)] (h) [] (by kernel_rfl) (by kernel_rfl) hX (by kernel_rfl) allp0 ?_
    refine Det.retA (by kernel_rfl) ?_
    refine then_r (by kernel_rfl) ?_
    refine fin_r (Value.int IntKind.i64 0) (by kernel_rfl) (by kernel_rfl) ?_
    exact ⟨by rw [roleOf_out (by omega)], rfl⟩
  · refine Det.sreg [(4, .s (Value.bool false)), (6, .v (Value.slice (some { block := s, off := 0, spot := some 3 }) n n))] [(4, Value.int IntKind.i64 0), (0, Value.pointer (some { block := q, off := 0 })), (1, Value.int IntKind.i64 who), (19, Value.bool (decide ((↑n : Int) ≤ who)))] (h) [(Value.bool (decide (who < 0))) = (Value.bool false), aload Try.prog (h) 23 (Value.pointer (some { block := q, off := 0 })) = some (Value.slice (some { block := s, off := 0, spot := some 3 }) n n)] (by kernel_rfl) (by kernel_rfl) hX (by kernel_rfl) (allp (congrArg Value.bool (decide_eq_false (by exact c2))) (allp (aload_cell B.row (by kernel_rfl) (by kernel_rfl)) allp0)) ?_
    by_cases c4 : (↑n : Int) ≤ who
    · refine Det.condT (by kernel_rfl) (decide ((↑n : Int) ≤ who)) (by kernel_rfl) (decide_eq_true (by exact c4)) ?_
      refine Det.sreg [] [(19, Value.bool (decide ((↑n : Int) ≤ who))), (1, Value.int IntKind.i64 who), (0, Value.pointer (some { block := q, off := 0 })), (4, Value.int IntKind.i64 0)] (h) [] (by kernel_rfl) (by kernel_rfl) hX (by kernel_rfl) allp0 ?_
      refine Det.retA (by kernel_rfl) ?_
      refine then_r (by kernel_rfl) ?_
      refine fin_r (Value.int IntKind.i64 0) (by kernel_rfl) (by kernel_rfl) ?_
      exact ⟨by rw [roleOf_out (by omega)], rfl⟩
    · refine Det.condF (by kernel_rfl) (decide ((↑n : Int) ≤ who)) (by kernel_rfl) (decide_eq_false (by exact c4)) ?_
      refine Det.skipA (by kernel_rfl) ?_
      refine then_n (by kernel_rfl) ?_
      refine Det.sreg [(3, .v (Value.slice (some { block := s, off := 0, spot := some 3 }) n n)), (1, .v (Value.pointer (some { block := s, off := Int.toNat who * 3 }))), (1, .v (Value.int IntKind.i64 (nAt c (Int.toNat who * 3))))] [(19, Value.bool (decide ((↑n : Int) ≤ who))), (1, Value.int IntKind.i64 who), (0, Value.pointer (some { block := q, off := 0 })), (4, Value.int IntKind.i64 (nAt c (Int.toNat who * 3)))] (h) [aload Try.prog (h) 23 (Value.pointer (some { block := q, off := 0 })) = some (Value.slice (some { block := s, off := 0, spot := some 3 }) n n), aindexAddr Try.prog 23 (Value.slice (some { block := s, off := 0, spot := some 3 }) n n) (Value.int IntKind.i64 who) = some (Value.pointer (some { block := s, off := Int.toNat who * 3 })), aload Try.prog (h) 3 (Value.pointer (some { block := s, off := Int.toNat who * 3 })) = some (Value.int IntKind.i64 (nAt c (Int.toNat who * 3)))] (by kernel_rfl) (by kernel_rfl) hX (by kernel_rfl) (allp (aload_cell B.row (by kernel_rfl) (by kernel_rfl)) (allp (B.ptr.index Try.underlying23 (w := 3) (by kernel_rfl) (by omega) (by omega) (by first | rfl | omega)) (allp (role_load B.ptr (j := who.toNat) (by omega) (by omega)) allp0))) ?_
      refine Det.retA (by kernel_rfl) ?_
      refine fin_r (Value.int IntKind.i64 (nAt c (Int.toNat who * 3))) (by kernel_rfl) (by kernel_rfl) ?_
      exact ⟨by rw [roleOf_in (by omega) (by omega)], rfl⟩
theorem ref_role (h : Heap) {q s u n : Nat} {c U : List Value} (B : BookIn h 49 q s u n c U) (who : Int) : DetFn Try.prog 37 [.pointer (some ⟨q, 0, none⟩), .int .i64 who] h fun v h' => v = .int .i64 (roleOf c n who) ∧ h' = h := by
  refine Det.enterS Try.f37 [(0, .pointer (some ⟨q, 0, none⟩)), (1, .int .i64 who)] Try.func37 (by kernel_rfl) (of_decide_eq_true (by kernel_rfl)) (by kernel_rfl) ?_
  refine Det.sreg [] [(1, Value.int IntKind.i64 who), (0, Value.pointer (some { block := q, off := 0 })), (4, Value.int IntKind.i64 0)] (h) [] (by kernel_rfl) (by kernel_rfl) hX (by kernel_rfl) allp0 ?_
  refine Det.seqA (by kernel_rfl) ?_
  by_cases c2 : who < 0
  · refine Det.sreg [(1, .s (Value.bool true))] [(4, Value.int IntKind.i64 0), (0, Value.pointer (some { block := q, off := 0 })), (1, Value.int IntKind.i64 who), (15, Value.bool true)] (h) [(Value.bool (decide (who < 0))) = (Value.bool true)] (by kernel_rfl) (by kernel_rfl) hX (by kernel_rfl) (allp (congrArg Value.bool (decide_eq_true (by exact c2))) allp0) ?_
    refine Det.condT (by kernel_rfl) (true) (by kernel_rfl) rfl ?_
    refine Det.sreg [] [(15, Value.bool true), (1, Value.int IntKind.i64 who), (0, Value.pointer (some { block := q, off := 0 })), (4, Value.int IntKind.i64 0)] (h) [] (by kernel_rfl) (by kernel_rfl) hX (by kernel_rfl) allp0 ?_
    refine Det.retA (by kernel_rfl) ?_
    refine then_r (by kernel_rfl) ?_
    refine fin_r (Value.int IntKind.i64 0) (by kernel_rfl) (by kernel_rfl) ?_
    exact ⟨by rw [roleOf_out (by omega)], rfl⟩
  · refine Det.sreg [(1, .s (Value.bool false)), (5, .v (Value.slice (some { block := s, off := 0, spot := some 3 }) n n))] [(4, Value.int IntKind.i64 0), (0, Value.pointer (some { block := q, off := 0 })), (1, Value.int IntKind.i64 who), (15, Value.bool (decide ((↑n : Int) ≤ who)))] (h) [(Value.bool (decide (who < 0))) = (Value.bool false), aload Try.prog (h) 23 (Value.pointer (some { block := q, off := 0 })) = some (Value.slice (some { block := s, off := 0, spot := some 3 }) n n)] (by kernel_rfl) (by kernel_rfl) hX (by kernel_rfl) (allp (congrArg Value.bool (decide_eq_false (by exact c2))) (allp (aload_cell B.row (by kernel_rfl) (by kernel_rfl)) allp0)) ?_
    by_cases c4 : (↑n : Int) ≤ who
    · refine Det.condT (by kernel_rfl) (decide ((↑n : Int) ≤ who)) (by kernel_rfl) (decide_eq_true (by exact c4)) ?_
      refine Det.sreg [] [(15, Value.bool (decide ((↑n : Int) ≤ who))), (1, Value.int IntKind.i64 who), (0, Value.pointer (some { block := q, off := 0 })), (4, Value.int IntKind.i64 0)] (h) [] (by kernel_rfl) (by kernel_rfl) hX (by kernel_rfl) allp0 ?_
      refine Det.retA (by kernel_rfl) ?_
      refine then_r (by kernel_rfl) ?_
      refine fin_r (Value.int IntKind.i64 0) (by kernel_rfl) (by kernel_rfl) ?_
      exact ⟨by rw [roleOf_out (by omega)], rfl⟩
    · refine Det.condF (by kernel_rfl) (decide ((↑n : Int) ≤ who)) (by kernel_rfl) (decide_eq_false (by exact c4)) ?_
      refine Det.skipA (by kernel_rfl) ?_
      refine then_n (by kernel_rfl) ?_
      refine Det.sreg [(3, .v (Value.slice (some { block := s, off := 0, spot := some 3 }) n n)), (1, .v (Value.pointer (some { block := s, off := Int.toNat who * 3 }))), (1, .v (Value.int IntKind.i64 (nAt c (Int.toNat who * 3))))] [(15, Value.bool (decide ((↑n : Int) ≤ who))), (1, Value.int IntKind.i64 who), (0, Value.pointer (some { block := q, off := 0 })), (4, Value.int IntKind.i64 (nAt c (Int.toNat who * 3)))] (h) [aload Try.prog (h) 23 (Value.pointer (some { block := q, off := 0 })) = some (Value.slice (some { block := s, off := 0, spot := some 3 }) n n), aindexAddr Try.prog 23 (Value.slice (some { block := s, off := 0, spot := some 3 }) n n) (Value.int IntKind.i64 who) = some (Value.pointer (some { block := s, off := Int.toNat who * 3 })), aload Try.prog (h) 3 (Value.pointer (some { block := s, off := Int.toNat who * 3 })) = some (Value.int IntKind.i64 (nAt c (Int.toNat who * 3)))] (by kernel_rfl) (by kernel_rfl) hX (by kernel_rfl) (allp (aload_cell B.row (by kernel_rfl) (by kernel_rfl)) (allp (B.ptr.index Try.underlying23 (w := 3) (by kernel_rfl) (by omega) (by omega) (by first | rfl | omega)) (allp (role_load B.ptr (j := who.toNat) (by omega) (by omega)) allp0))) ?_
      refine Det.retA (by kernel_rfl) ?_
      refine fin_r (Value.int IntKind.i64 (nAt c (Int.toNat who * 3))) (by kernel_rfl) (by kernel_rfl) ?_
      exact ⟨by rw [roleOf_in (by omega) (by omega)], rfl⟩
theorem firm_May (h : Heap) {q s u n : Nat} {c U : List Value} (B : BookIn h 65 q s u n c U) (who kind : Int) : DetFn Try.prog 13 [.pointer (some ⟨q, 0, none⟩), .int .i64 who, .int .i64 kind] h fun v h' => v = .bool (mayOf (roleOf c n who) kind) ∧ h' = h := by
  refine Det.enterS Try.f13 [(0, .pointer (some ⟨q, 0, none⟩)), (1, .int .i64 who), (2, .int .i64 kind)] Try.func13 (by kernel_rfl) (of_decide_eq_true (by kernel_rfl)) (by kernel_rfl) ?_
  refine Det.sreg [] [(2, Value.int IntKind.i64 kind), (1, Value.int IntKind.i64 who), (0, Value.pointer (some { block := q, off := 0 })), (6, Value.bool false)] (h) [] (by kernel_rfl) (by kernel_rfl) hX (by kernel_rfl) allp0 ?_
  refine Det.sreg [(2, .m (Value.int IntKind.i64 (roleOf c n who)) (h))] [(6, Value.bool false), (0, Value.pointer (some { block := q, off := 0 })), (1, Value.int IntKind.i64 who), (2, Value.int IntKind.i64 kind), (7, Value.int IntKind.i64 (roleOf c n who))] (h) [DoesOk Try.prog 35 [Value.pointer (some { block := q, off := 0 }), Value.int IntKind.i64 who] (h) (Value.int IntKind.i64 (roleOf c n who)) (h)] (by kernel_rfl) (by kernel_rfl) hX (by kernel_rfl) (allp (DetFn.known (firm_role _ B _)) allp0) ?_
  refine Det.seqA (by kernel_rfl) ?_
  refine Det.sreg [] [(7, Value.int IntKind.i64 (roleOf c n who)), (2, Value.int IntKind.i64 kind), (1, Value.int IntKind.i64 who), (0, Value.pointer (some { block := q, off := 0 })), (6, Value.bool false), (11, Value.int IntKind.i64 kind)] (h) [] (by kernel_rfl) (by kernel_rfl) hX (by kernel_rfl) allp0 ?_
  refine Det.blockA (by kernel_rfl) ?_
  refine Det.seqA (by kernel_rfl) ?_
  refine Det.sreg [] [(11, Value.int IntKind.i64 kind), (6, Value.bool false), (0, Value.pointer (some { block := q, off := 0 })), (1, Value.int IntKind.i64 who), (2, Value.int IntKind.i64 kind), (7, Value.int IntKind.i64 (roleOf c n who)), (12, Value.bool (kind == 6))] (h) [] (by kernel_rfl) (by kernel_rfl) hX (by kernel_rfl) allp0 ?_
  by_cases c7 : kind = 6
  · refine Det.condT (by kernel_rfl) (kind == 6) (by kernel_rfl) (beq_iff_eq.2 (by exact c7)) ?_
    refine Det.skipA (by kernel_rfl) ?_
    refine then_n (by kernel_rfl) ?_
    refine Det.condT (by kernel_rfl) (kind == 6) (by kernel_rfl) (beq_iff_eq.2 (by exact c7)) ?_
    by_cases c12 : roleOf c n who = 1
    · refine Det.sreg [(1, .s (Value.bool true))] [(12, Value.bool (kind == 6)), (7, Value.int IntKind.i64 (roleOf c n who)), (2, Value.int IntKind.i64 kind), (1, Value.int IntKind.i64 who), (0, Value.pointer (some { block := q, off := 0 })), (11, Value.int IntKind.i64 kind), (6, Value.bool true)] (h) [(Value.bool (roleOf c n who == 1)) = (Value.bool true)] (by kernel_rfl) (by kernel_rfl) hX (by kernel_rfl) (allp (congrArg Value.bool (beq_iff_eq.2 (by exact c12))) allp0) ?_
      refine Det.retA (by kernel_rfl) ?_
      refine then_r (by kernel_rfl) ?_
      refine fin_r (Value.bool true) (by kernel_rfl) (by kernel_rfl) ?_
      exact ⟨by simp [mayOf, *], rfl⟩
    · refine Det.sreg [(1, .s (Value.bool false))] [(12, Value.bool (kind == 6)), (7, Value.int IntKind.i64 (roleOf c n who)), (2, Value.int IntKind.i64 kind), (1, Value.int IntKind.i64 who), (0, Value.pointer (some { block := q, off := 0 })), (11, Value.int IntKind.i64 kind), (6, Value.bool (roleOf c n who == 2))] (h) [(Value.bool (roleOf c n who == 1)) = (Value.bool false)] (by kernel_rfl) (by kernel_rfl) hX (by kernel_rfl) (allp (congrArg Value.bool (beq_eq_false_iff_ne.2 (by exact c12))) allp0) ?_
      refine Det.retA (by kernel_rfl) ?_
      refine then_r (by kernel_rfl) ?_
      refine fin_r (Value.bool (roleOf c n who == 2)) (by kernel_rfl) (by kernel_rfl) ?_
      exact ⟨by simp [mayOf, *], rfl⟩
  · refine Det.condF (by kernel_rfl) (kind == 6) (by kernel_rfl) (beq_eq_false_iff_ne.2 (by exact c7)) ?_
    refine Det.sreg [] [(7, Value.int IntKind.i64 (roleOf c n who)), (2, Value.int IntKind.i64 kind), (1, Value.int IntKind.i64 who), (0, Value.pointer (some { block := q, off := 0 })), (6, Value.bool false), (11, Value.int IntKind.i64 kind), (12, Value.bool (kind == 7))] (h) [] (by kernel_rfl) (by kernel_rfl) hX (by kernel_rfl) allp0 ?_
    by_cases c10 : kind = 7
    · refine Det.condT (by kernel_rfl) (kind == 7) (by kernel_rfl) (beq_iff_eq.2 (by exact c10)) ?_
      refine Det.skipA (by kernel_rfl) ?_
      refine then_n (by kernel_rfl) ?_
      refine Det.condT (by kernel_rfl) (kind == 7) (by kernel_rfl) (beq_iff_eq.2 (by exact c10)) ?_
      by_cases c15 : roleOf c n who = 1
      · refine Det.sreg [(1, .s (Value.bool true))] [(12, Value.bool (kind == 7)), (11, Value.int IntKind.i64 kind), (0, Value.pointer (some { block := q, off := 0 })), (1, Value.int IntKind.i64 who), (2, Value.int IntKind.i64 kind), (7, Value.int IntKind.i64 (roleOf c n who)), (6, Value.bool true)] (h) [(Value.bool (roleOf c n who == 1)) = (Value.bool true)] (by kernel_rfl) (by kernel_rfl) hX (by kernel_rfl) (allp (congrArg Value.bool (beq_iff_eq.2 (by exact c15))) allp0) ?_
        refine Det.retA (by kernel_rfl) ?_
        refine then_r (by kernel_rfl) ?_
        refine fin_r (Value.bool true) (by kernel_rfl) (by kernel_rfl) ?_
        exact ⟨by simp [mayOf, *], rfl⟩
      · refine Det.sreg [(1, .s (Value.bool false))] [(12, Value.bool (kind == 7)), (11, Value.int IntKind.i64 kind), (0, Value.pointer (some { block := q, off := 0 })), (1, Value.int IntKind.i64 who), (2, Value.int IntKind.i64 kind), (7, Value.int IntKind.i64 (roleOf c n who)), (6, Value.bool (roleOf c n who == 2))] (h) [(Value.bool (roleOf c n who == 1)) = (Value.bool false)] (by kernel_rfl) (by kernel_rfl) hX (by kernel_rfl) (allp (congrArg Value.bool (beq_eq_false_iff_ne.2 (by exact c15))) allp0) ?_
        refine Det.retA (by kernel_rfl) ?_
        refine then_r (by kernel_rfl) ?_
        refine fin_r (Value.bool (roleOf c n who == 2)) (by kernel_rfl) (by kernel_rfl) ?_
        exact ⟨by simp [mayOf, *], rfl⟩
    · refine Det.condF (by kernel_rfl) (kind == 7) (by kernel_rfl) (beq_eq_false_iff_ne.2 (by exact c10)) ?_
      refine Det.reg [] [(11, Value.int IntKind.i64 kind), (6, Value.bool false), (0, Value.pointer (some { block := q, off := 0 })), (1, Value.int IntKind.i64 who), (2, Value.int IntKind.i64 kind), (7, Value.int IntKind.i64 (roleOf c n who)), (12, Value.bool (kind == 8))] (h) [] (by kernel_rfl) hX (by kernel_rfl) allp0 ?_
      refine then_n (by kernel_rfl) ?_
      by_cases c14 : kind = 8
      · refine Det.condT (by kernel_rfl) (kind == 8) (by kernel_rfl) (beq_iff_eq.2 (by exact c14)) ?_
        by_cases c16 : roleOf c n who = 1
        · refine Det.sreg [(1, .s (Value.bool true))] [(12, Value.bool (kind == 8)), (7, Value.int IntKind.i64 (roleOf c n who)), (2, Value.int IntKind.i64 kind), (1, Value.int IntKind.i64 who), (0, Value.pointer (some { block := q, off := 0 })), (11, Value.int IntKind.i64 kind), (6, Value.bool true)] (h) [(Value.bool (roleOf c n who == 1)) = (Value.bool true)] (by kernel_rfl) (by kernel_rfl) hX (by kernel_rfl) (allp (congrArg Value.bool (beq_iff_eq.2 (by exact c16))) allp0) ?_
          refine Det.retA (by kernel_rfl) ?_
          refine then_r (by kernel_rfl) ?_
          refine fin_r (Value.bool true) (by kernel_rfl) (by kernel_rfl) ?_
          exact ⟨by simp [mayOf, *], rfl⟩
        · refine Det.sreg [(1, .s (Value.bool false))] [(12, Value.bool (kind == 8)), (7, Value.int IntKind.i64 (roleOf c n who)), (2, Value.int IntKind.i64 kind), (1, Value.int IntKind.i64 who), (0, Value.pointer (some { block := q, off := 0 })), (11, Value.int IntKind.i64 kind), (6, Value.bool (roleOf c n who == 2))] (h) [(Value.bool (roleOf c n who == 1)) = (Value.bool false)] (by kernel_rfl) (by kernel_rfl) hX (by kernel_rfl) (allp (congrArg Value.bool (beq_eq_false_iff_ne.2 (by exact c16))) allp0) ?_
          refine Det.retA (by kernel_rfl) ?_
          refine then_r (by kernel_rfl) ?_
          refine fin_r (Value.bool (roleOf c n who == 2)) (by kernel_rfl) (by kernel_rfl) ?_
          exact ⟨by simp [mayOf, *], rfl⟩
      · refine Det.condF (by kernel_rfl) (kind == 8) (by kernel_rfl) (beq_eq_false_iff_ne.2 (by exact c14)) ?_
        refine Det.seqA (by kernel_rfl) ?_
        refine Det.sreg [] [(12, Value.bool (kind == 8)), (7, Value.int IntKind.i64 (roleOf c n who)), (2, Value.int IntKind.i64 kind), (1, Value.int IntKind.i64 who), (0, Value.pointer (some { block := q, off := 0 })), (6, Value.bool false), (11, Value.int IntKind.i64 kind), (22, Value.bool (kind == 9))] (h) [] (by kernel_rfl) (by kernel_rfl) hX (by kernel_rfl) allp0 ?_
        by_cases c18 : kind = 9
        · refine Det.condT (by kernel_rfl) (kind == 9) (by kernel_rfl) (beq_iff_eq.2 (by exact c18)) ?_
          refine Det.skipA (by kernel_rfl) ?_
          refine then_n (by kernel_rfl) ?_
          refine Det.condT (by kernel_rfl) (kind == 9) (by kernel_rfl) (beq_iff_eq.2 (by exact c18)) ?_
          refine Det.sreg [] [(22, Value.bool (kind == 9)), (11, Value.int IntKind.i64 kind), (0, Value.pointer (some { block := q, off := 0 })), (1, Value.int IntKind.i64 who), (2, Value.int IntKind.i64 kind), (7, Value.int IntKind.i64 (roleOf c n who)), (12, Value.bool (kind == 8)), (6, Value.bool (roleOf c n who == 1))] (h) [] (by kernel_rfl) (by kernel_rfl) hX (by kernel_rfl) allp0 ?_
          refine Det.retA (by kernel_rfl) ?_
          refine then_r (by kernel_rfl) ?_
          refine fin_r (Value.bool (roleOf c n who == 1)) (by kernel_rfl) (by kernel_rfl) ?_
          exact ⟨by simp [mayOf, *], rfl⟩
        · refine Det.condF (by kernel_rfl) (kind == 9) (by kernel_rfl) (beq_eq_false_iff_ne.2 (by exact c18)) ?_
          refine Det.sreg [] [(11, Value.int IntKind.i64 kind), (6, Value.bool false), (0, Value.pointer (some { block := q, off := 0 })), (1, Value.int IntKind.i64 who), (2, Value.int IntKind.i64 kind), (7, Value.int IntKind.i64 (roleOf c n who)), (12, Value.bool (kind == 8)), (22, Value.bool (kind == 12))] (h) [] (by kernel_rfl) (by kernel_rfl) hX (by kernel_rfl) allp0 ?_
          by_cases c21 : kind = 12
          · refine Det.condT (by kernel_rfl) (kind == 12) (by kernel_rfl) (beq_iff_eq.2 (by exact c21)) ?_
            refine Det.skipA (by kernel_rfl) ?_
            refine then_n (by kernel_rfl) ?_
            refine Det.condT (by kernel_rfl) (kind == 12) (by kernel_rfl) (beq_iff_eq.2 (by exact c21)) ?_
            refine Det.sreg [] [(22, Value.bool (kind == 12)), (12, Value.bool (kind == 8)), (7, Value.int IntKind.i64 (roleOf c n who)), (2, Value.int IntKind.i64 kind), (1, Value.int IntKind.i64 who), (0, Value.pointer (some { block := q, off := 0 })), (11, Value.int IntKind.i64 kind), (6, Value.bool (roleOf c n who == 1))] (h) [] (by kernel_rfl) (by kernel_rfl) hX (by kernel_rfl) allp0 ?_
            refine Det.retA (by kernel_rfl) ?_
            refine then_r (by kernel_rfl) ?_
            refine fin_r (Value.bool (roleOf c n who == 1)) (by kernel_rfl) (by kernel_rfl) ?_
            exact ⟨by simp [mayOf, *], rfl⟩
          · refine Det.condF (by kernel_rfl) (kind == 12) (by kernel_rfl) (beq_eq_false_iff_ne.2 (by exact c21)) ?_
            refine Det.sreg [] [(12, Value.bool (kind == 8)), (7, Value.int IntKind.i64 (roleOf c n who)), (2, Value.int IntKind.i64 kind), (1, Value.int IntKind.i64 who), (0, Value.pointer (some { block := q, off := 0 })), (6, Value.bool false), (11, Value.int IntKind.i64 kind), (22, Value.bool (kind == 13))] (h) [] (by kernel_rfl) (by kernel_rfl) hX (by kernel_rfl) allp0 ?_
            by_cases c24 : kind = 13
            · refine Det.condT (by kernel_rfl) (kind == 13) (by kernel_rfl) (beq_iff_eq.2 (by exact c24)) ?_
              refine Det.skipA (by kernel_rfl) ?_
              refine then_n (by kernel_rfl) ?_
              refine Det.condT (by kernel_rfl) (kind == 13) (by kernel_rfl) (beq_iff_eq.2 (by exact c24)) ?_
              refine Det.sreg [] [(22, Value.bool (kind == 13)), (11, Value.int IntKind.i64 kind), (0, Value.pointer (some { block := q, off := 0 })), (1, Value.int IntKind.i64 who), (2, Value.int IntKind.i64 kind), (7, Value.int IntKind.i64 (roleOf c n who)), (12, Value.bool (kind == 8)), (6, Value.bool (roleOf c n who == 1))] (h) [] (by kernel_rfl) (by kernel_rfl) hX (by kernel_rfl) allp0 ?_
              refine Det.retA (by kernel_rfl) ?_
              refine then_r (by kernel_rfl) ?_
              refine fin_r (Value.bool (roleOf c n who == 1)) (by kernel_rfl) (by kernel_rfl) ?_
              exact ⟨by simp [mayOf, *], rfl⟩
            · refine Det.condF (by kernel_rfl) (kind == 13) (by kernel_rfl) (beq_eq_false_iff_ne.2 (by exact c24)) ?_
              refine Det.reg [] [(11, Value.int IntKind.i64 kind), (6, Value.bool false), (0, Value.pointer (some { block := q, off := 0 })), (1, Value.int IntKind.i64 who), (2, Value.int IntKind.i64 kind), (7, Value.int IntKind.i64 (roleOf c n who)), (12, Value.bool (kind == 8)), (22, Value.bool (kind == 16))] (h) [] (by kernel_rfl) hX (by kernel_rfl) allp0 ?_
              refine then_n (by kernel_rfl) ?_
              by_cases c28 : kind = 16
              · refine Det.condT (by kernel_rfl) (kind == 16) (by kernel_rfl) (beq_iff_eq.2 (by exact c28)) ?_
                refine Det.sreg [] [(22, Value.bool (kind == 16)), (12, Value.bool (kind == 8)), (7, Value.int IntKind.i64 (roleOf c n who)), (2, Value.int IntKind.i64 kind), (1, Value.int IntKind.i64 who), (0, Value.pointer (some { block := q, off := 0 })), (11, Value.int IntKind.i64 kind), (6, Value.bool (roleOf c n who == 1))] (h) [] (by kernel_rfl) (by kernel_rfl) hX (by kernel_rfl) allp0 ?_
                refine Det.retA (by kernel_rfl) ?_
                refine then_r (by kernel_rfl) ?_
                refine fin_r (Value.bool (roleOf c n who == 1)) (by kernel_rfl) (by kernel_rfl) ?_
                exact ⟨by simp [mayOf, *], rfl⟩
              · refine Det.condF (by kernel_rfl) (kind == 16) (by kernel_rfl) (beq_eq_false_iff_ne.2 (by exact c28)) ?_
                refine Det.seqA (by kernel_rfl) ?_
                refine Det.sreg [] [(22, Value.bool (kind == 16)), (12, Value.bool (kind == 8)), (7, Value.int IntKind.i64 (roleOf c n who)), (2, Value.int IntKind.i64 kind), (1, Value.int IntKind.i64 who), (0, Value.pointer (some { block := q, off := 0 })), (6, Value.bool false), (11, Value.int IntKind.i64 kind), (29, Value.bool (kind == 10))] (h) [] (by kernel_rfl) (by kernel_rfl) hX (by kernel_rfl) allp0 ?_
                by_cases c32 : kind = 10
                · refine Det.condT (by kernel_rfl) (kind == 10) (by kernel_rfl) (beq_iff_eq.2 (by exact c32)) ?_
                  refine Det.skipA (by kernel_rfl) ?_
                  refine then_n (by kernel_rfl) ?_
                  refine Det.condT (by kernel_rfl) (kind == 10) (by kernel_rfl) (beq_iff_eq.2 (by exact c32)) ?_
                  refine Det.sreg [] [(29, Value.bool (kind == 10)), (11, Value.int IntKind.i64 kind), (0, Value.pointer (some { block := q, off := 0 })), (1, Value.int IntKind.i64 who), (2, Value.int IntKind.i64 kind), (7, Value.int IntKind.i64 (roleOf c n who)), (12, Value.bool (kind == 8)), (22, Value.bool (kind == 16)), (6, Value.bool (roleOf c n who == 2))] (h) [] (by kernel_rfl) (by kernel_rfl) hX (by kernel_rfl) allp0 ?_
                  refine Det.retA (by kernel_rfl) ?_
                  refine then_r (by kernel_rfl) ?_
                  refine fin_r (Value.bool (roleOf c n who == 2)) (by kernel_rfl) (by kernel_rfl) ?_
                  exact ⟨by simp [mayOf, *], rfl⟩
                · refine Det.condF (by kernel_rfl) (kind == 10) (by kernel_rfl) (beq_eq_false_iff_ne.2 (by exact c32)) ?_
                  refine Det.sreg [] [(11, Value.int IntKind.i64 kind), (6, Value.bool false), (0, Value.pointer (some { block := q, off := 0 })), (1, Value.int IntKind.i64 who), (2, Value.int IntKind.i64 kind), (7, Value.int IntKind.i64 (roleOf c n who)), (12, Value.bool (kind == 8)), (22, Value.bool (kind == 16)), (29, Value.bool (kind == 11))] (h) [] (by kernel_rfl) (by kernel_rfl) hX (by kernel_rfl) allp0 ?_
                  by_cases c35 : kind = 11
                  · refine Det.condT (by kernel_rfl) (kind == 11) (by kernel_rfl) (beq_iff_eq.2 (by exact c35)) ?_
                    refine Det.skipA (by kernel_rfl) ?_
                    refine then_n (by kernel_rfl) ?_
                    refine Det.condT (by kernel_rfl) (kind == 11) (by kernel_rfl) (beq_iff_eq.2 (by exact c35)) ?_
                    refine Det.sreg [] [(29, Value.bool (kind == 11)), (22, Value.bool (kind == 16)), (12, Value.bool (kind == 8)), (7, Value.int IntKind.i64 (roleOf c n who)), (2, Value.int IntKind.i64 kind), (1, Value.int IntKind.i64 who), (0, Value.pointer (some { block := q, off := 0 })), (11, Value.int IntKind.i64 kind), (6, Value.bool (roleOf c n who == 2))] (h) [] (by kernel_rfl) (by kernel_rfl) hX (by kernel_rfl) allp0 ?_
                    refine Det.retA (by kernel_rfl) ?_
                    refine then_r (by kernel_rfl) ?_
                    refine fin_r (Value.bool (roleOf c n who == 2)) (by kernel_rfl) (by kernel_rfl) ?_
                    exact ⟨by simp [mayOf, *], rfl⟩
                  · refine Det.condF (by kernel_rfl) (kind == 11) (by kernel_rfl) (beq_eq_false_iff_ne.2 (by exact c35)) ?_
                    refine Det.sreg [] [(22, Value.bool (kind == 16)), (12, Value.bool (kind == 8)), (7, Value.int IntKind.i64 (roleOf c n who)), (2, Value.int IntKind.i64 kind), (1, Value.int IntKind.i64 who), (0, Value.pointer (some { block := q, off := 0 })), (6, Value.bool false), (11, Value.int IntKind.i64 kind), (29, Value.bool (kind == 14))] (h) [] (by kernel_rfl) (by kernel_rfl) hX (by kernel_rfl) allp0 ?_
                    by_cases c38 : kind = 14
                    · refine Det.condT (by kernel_rfl) (kind == 14) (by kernel_rfl) (beq_iff_eq.2 (by exact c38)) ?_
                      refine Det.skipA (by kernel_rfl) ?_
                      refine then_n (by kernel_rfl) ?_
                      refine Det.condT (by kernel_rfl) (kind == 14) (by kernel_rfl) (beq_iff_eq.2 (by exact c38)) ?_
                      refine Det.sreg [] [(29, Value.bool (kind == 14)), (11, Value.int IntKind.i64 kind), (0, Value.pointer (some { block := q, off := 0 })), (1, Value.int IntKind.i64 who), (2, Value.int IntKind.i64 kind), (7, Value.int IntKind.i64 (roleOf c n who)), (12, Value.bool (kind == 8)), (22, Value.bool (kind == 16)), (6, Value.bool (roleOf c n who == 2))] (h) [] (by kernel_rfl) (by kernel_rfl) hX (by kernel_rfl) allp0 ?_
                      refine Det.retA (by kernel_rfl) ?_
                      refine then_r (by kernel_rfl) ?_
                      refine fin_r (Value.bool (roleOf c n who == 2)) (by kernel_rfl) (by kernel_rfl) ?_
                      exact ⟨by simp [mayOf, *], rfl⟩
                    · refine Det.condF (by kernel_rfl) (kind == 14) (by kernel_rfl) (beq_eq_false_iff_ne.2 (by exact c38)) ?_
                      refine Det.reg [] [(11, Value.int IntKind.i64 kind), (6, Value.bool false), (0, Value.pointer (some { block := q, off := 0 })), (1, Value.int IntKind.i64 who), (2, Value.int IntKind.i64 kind), (7, Value.int IntKind.i64 (roleOf c n who)), (12, Value.bool (kind == 8)), (22, Value.bool (kind == 16)), (29, Value.bool (kind == 15))] (h) [] (by kernel_rfl) hX (by kernel_rfl) allp0 ?_
                      refine then_n (by kernel_rfl) ?_
                      by_cases c42 : kind = 15
                      · refine Det.condT (by kernel_rfl) (kind == 15) (by kernel_rfl) (beq_iff_eq.2 (by exact c42)) ?_
                        refine Det.sreg [] [(29, Value.bool (kind == 15)), (22, Value.bool (kind == 16)), (12, Value.bool (kind == 8)), (7, Value.int IntKind.i64 (roleOf c n who)), (2, Value.int IntKind.i64 kind), (1, Value.int IntKind.i64 who), (0, Value.pointer (some { block := q, off := 0 })), (11, Value.int IntKind.i64 kind), (6, Value.bool (roleOf c n who == 2))] (h) [] (by kernel_rfl) (by kernel_rfl) hX (by kernel_rfl) allp0 ?_
                        refine Det.retA (by kernel_rfl) ?_
                        refine then_r (by kernel_rfl) ?_
                        refine fin_r (Value.bool (roleOf c n who == 2)) (by kernel_rfl) (by kernel_rfl) ?_
                        exact ⟨by simp [mayOf, *], rfl⟩
                      · refine Det.condF (by kernel_rfl) (kind == 15) (by kernel_rfl) (beq_eq_false_iff_ne.2 (by exact c42)) ?_
                        refine Det.sreg [] [(29, Value.bool (kind == 15)), (22, Value.bool (kind == 16)), (12, Value.bool (kind == 8)), (7, Value.int IntKind.i64 (roleOf c n who)), (2, Value.int IntKind.i64 kind), (1, Value.int IntKind.i64 who), (0, Value.pointer (some { block := q, off := 0 })), (6, Value.bool false), (11, Value.int IntKind.i64 kind), (36, Value.bool (kind == 17))] (h) [] (by kernel_rfl) (by kernel_rfl) hX (by kernel_rfl) allp0 ?_
                        by_cases c45 : kind = 17
                        · refine Det.condT (by kernel_rfl) (kind == 17) (by kernel_rfl) (beq_iff_eq.2 (by exact c45)) ?_
                          refine Det.sreg [] [(36, Value.bool (kind == 17)), (11, Value.int IntKind.i64 kind), (0, Value.pointer (some { block := q, off := 0 })), (1, Value.int IntKind.i64 who), (2, Value.int IntKind.i64 kind), (7, Value.int IntKind.i64 (roleOf c n who)), (12, Value.bool (kind == 8)), (22, Value.bool (kind == 16)), (29, Value.bool (kind == 15)), (6, Value.bool (roleOf c n who == 3))] (h) [] (by kernel_rfl) (by kernel_rfl) hX (by kernel_rfl) allp0 ?_
                          refine Det.retA (by kernel_rfl) ?_
                          refine then_r (by kernel_rfl) ?_
                          refine fin_r (Value.bool (roleOf c n who == 3)) (by kernel_rfl) (by kernel_rfl) ?_
                          exact ⟨by simp [mayOf, *], rfl⟩
                        · refine Det.condF (by kernel_rfl) (kind == 17) (by kernel_rfl) (beq_eq_false_iff_ne.2 (by exact c45)) ?_
                          refine Det.skipA (by kernel_rfl) ?_
                          refine then_n (by kernel_rfl) ?_
                          refine Det.sreg [] [(36, Value.bool (kind == 17)), (11, Value.int IntKind.i64 kind), (0, Value.pointer (some { block := q, off := 0 })), (1, Value.int IntKind.i64 who), (2, Value.int IntKind.i64 kind), (7, Value.int IntKind.i64 (roleOf c n who)), (12, Value.bool (kind == 8)), (22, Value.bool (kind == 16)), (29, Value.bool (kind == 15)), (6, Value.bool false)] (h) [] (by kernel_rfl) (by kernel_rfl) hX (by kernel_rfl) allp0 ?_
                          refine Det.retA (by kernel_rfl) ?_
                          refine fin_r (Value.bool false) (by kernel_rfl) (by kernel_rfl) ?_
                          exact ⟨by simp [mayOf, *], rfl⟩
theorem ref_May (h : Heap) {q s u n : Nat} {c U : List Value} (B : BookIn h 49 q s u n c U) (who kind : Int) : DetFn Try.prog 17 [.pointer (some ⟨q, 0, none⟩), .int .i64 who, .int .i64 kind] h fun v h' => v = .bool (mayOf (roleOf c n who) kind) ∧ h' = h := by
  refine Det.enterS Try.f17 [(0, .pointer (some ⟨q, 0, none⟩)), (1, .int .i64 who), (2, .int .i64 kind)] Try.func17 (by kernel_rfl) (of_decide_eq_true (by kernel_rfl)) (by kernel_rfl) ?_
  refine Det.sreg [] [(2, Value.int IntKind.i64 kind), (1, Value.int IntKind.i64 who), (0, Value.pointer (some { block := q, off := 0 })), (6, Value.bool false)] (h) [] (by kernel_rfl) (by kernel_rfl) hX (by kernel_rfl) allp0 ?_
  refine Det.seqA (by kernel_rfl) ?_
  refine Det.sreg [] [(6, Value.bool false), (0, Value.pointer (some { block := q, off := 0 })), (1, Value.int IntKind.i64 who), (2, Value.int IntKind.i64 kind), (7, Value.int IntKind.i64 kind)] (h) [] (by kernel_rfl) (by kernel_rfl) hX (by kernel_rfl) allp0 ?_
  refine Det.blockA (by kernel_rfl) ?_
  refine Det.seqA (by kernel_rfl) ?_
  refine Det.sreg [] [(7, Value.int IntKind.i64 kind), (2, Value.int IntKind.i64 kind), (1, Value.int IntKind.i64 who), (0, Value.pointer (some { block := q, off := 0 })), (6, Value.bool false), (8, Value.bool (kind == 6))] (h) [] (by kernel_rfl) (by kernel_rfl) hX (by kernel_rfl) allp0 ?_
  by_cases c6 : kind = 6
  · refine Det.condT (by kernel_rfl) (kind == 6) (by kernel_rfl) (beq_iff_eq.2 (by exact c6)) ?_
    refine Det.skipA (by kernel_rfl) ?_
    refine then_n (by kernel_rfl) ?_
    refine Det.condT (by kernel_rfl) (kind == 6) (by kernel_rfl) (beq_iff_eq.2 (by exact c6)) ?_
    by_cases c11 : roleOf c n who = 1
    · refine Det.sreg [(2, .m (Value.int IntKind.i64 (roleOf c n who)) (h)), (0, .s (Value.bool true))] [(8, Value.bool (kind == 6)), (0, Value.pointer (some { block := q, off := 0 })), (1, Value.int IntKind.i64 who), (2, Value.int IntKind.i64 kind), (7, Value.int IntKind.i64 kind), (6, Value.bool true)] (h) [DoesOk Try.prog 37 [Value.pointer (some { block := q, off := 0 }), Value.int IntKind.i64 who] (h) (Value.int IntKind.i64 (roleOf c n who)) (h), (Value.bool (roleOf c n who == 1)) = (Value.bool true)] (by kernel_rfl) (by kernel_rfl) hX (by kernel_rfl) (allp (DetFn.known (ref_role _ B _)) (allp (congrArg Value.bool (beq_iff_eq.2 (by exact c11))) allp0)) ?_
      refine Det.retA (by kernel_rfl) ?_
      refine then_r (by kernel_rfl) ?_
      refine fin_r (Value.bool true) (by kernel_rfl) (by kernel_rfl) ?_
      exact ⟨by simp [mayOf, *], rfl⟩
    · refine Det.sreg [(2, .m (Value.int IntKind.i64 (roleOf c n who)) (h)), (0, .s (Value.bool false)), (3, .m (Value.int IntKind.i64 (roleOf c n who)) (h))] [(8, Value.bool (kind == 6)), (0, Value.pointer (some { block := q, off := 0 })), (1, Value.int IntKind.i64 who), (2, Value.int IntKind.i64 kind), (7, Value.int IntKind.i64 kind), (6, Value.bool (roleOf c n who == 2))] (h) [DoesOk Try.prog 37 [Value.pointer (some { block := q, off := 0 }), Value.int IntKind.i64 who] (h) (Value.int IntKind.i64 (roleOf c n who)) (h), (Value.bool (roleOf c n who == 1)) = (Value.bool false), DoesOk Try.prog 37 [Value.pointer (some { block := q, off := 0 }), Value.int IntKind.i64 who] (h) (Value.int IntKind.i64 (roleOf c n who)) (h)] (by kernel_rfl) (by kernel_rfl) hX (by kernel_rfl) (allp (DetFn.known (ref_role _ B _)) (allp (congrArg Value.bool (beq_eq_false_iff_ne.2 (by exact c11))) (allp (DetFn.known (ref_role _ B _)) allp0))) ?_
      refine Det.retA (by kernel_rfl) ?_
      refine then_r (by kernel_rfl) ?_
      refine fin_r (Value.bool (roleOf c n who == 2)) (by kernel_rfl) (by kernel_rfl) ?_
      exact ⟨by simp [mayOf, *], rfl⟩
  · refine Det.condF (by kernel_rfl) (kind == 6) (by kernel_rfl) (beq_eq_false_iff_ne.2 (by exact c6)) ?_
    refine Det.sreg [] [(6, Value.bool false), (0, Value.pointer (some { block := q, off := 0 })), (1, Value.int IntKind.i64 who), (2, Value.int IntKind.i64 kind), (7, Value.int IntKind.i64 kind), (8, Value.bool (kind == 7))] (h) [] (by kernel_rfl) (by kernel_rfl) hX (by kernel_rfl) allp0 ?_
    by_cases c9 : kind = 7
    · refine Det.condT (by kernel_rfl) (kind == 7) (by kernel_rfl) (beq_iff_eq.2 (by exact c9)) ?_
      refine Det.skipA (by kernel_rfl) ?_
      refine then_n (by kernel_rfl) ?_
      refine Det.condT (by kernel_rfl) (kind == 7) (by kernel_rfl) (beq_iff_eq.2 (by exact c9)) ?_
      by_cases c14 : roleOf c n who = 1
      · refine Det.sreg [(2, .m (Value.int IntKind.i64 (roleOf c n who)) (h)), (0, .s (Value.bool true))] [(8, Value.bool (kind == 7)), (7, Value.int IntKind.i64 kind), (2, Value.int IntKind.i64 kind), (1, Value.int IntKind.i64 who), (0, Value.pointer (some { block := q, off := 0 })), (6, Value.bool true)] (h) [DoesOk Try.prog 37 [Value.pointer (some { block := q, off := 0 }), Value.int IntKind.i64 who] (h) (Value.int IntKind.i64 (roleOf c n who)) (h), (Value.bool (roleOf c n who == 1)) = (Value.bool true)] (by kernel_rfl) (by kernel_rfl) hX (by kernel_rfl) (allp (DetFn.known (ref_role _ B _)) (allp (congrArg Value.bool (beq_iff_eq.2 (by exact c14))) allp0)) ?_
        refine Det.retA (by kernel_rfl) ?_
        refine then_r (by kernel_rfl) ?_
        refine fin_r (Value.bool true) (by kernel_rfl) (by kernel_rfl) ?_
        exact ⟨by simp [mayOf, *], rfl⟩
      · refine Det.sreg [(2, .m (Value.int IntKind.i64 (roleOf c n who)) (h)), (0, .s (Value.bool false)), (3, .m (Value.int IntKind.i64 (roleOf c n who)) (h))] [(8, Value.bool (kind == 7)), (7, Value.int IntKind.i64 kind), (2, Value.int IntKind.i64 kind), (1, Value.int IntKind.i64 who), (0, Value.pointer (some { block := q, off := 0 })), (6, Value.bool (roleOf c n who == 2))] (h) [DoesOk Try.prog 37 [Value.pointer (some { block := q, off := 0 }), Value.int IntKind.i64 who] (h) (Value.int IntKind.i64 (roleOf c n who)) (h), (Value.bool (roleOf c n who == 1)) = (Value.bool false), DoesOk Try.prog 37 [Value.pointer (some { block := q, off := 0 }), Value.int IntKind.i64 who] (h) (Value.int IntKind.i64 (roleOf c n who)) (h)] (by kernel_rfl) (by kernel_rfl) hX (by kernel_rfl) (allp (DetFn.known (ref_role _ B _)) (allp (congrArg Value.bool (beq_eq_false_iff_ne.2 (by exact c14))) (allp (DetFn.known (ref_role _ B _)) allp0))) ?_
        refine Det.retA (by kernel_rfl) ?_
        refine then_r (by kernel_rfl) ?_
        refine fin_r (Value.bool (roleOf c n who == 2)) (by kernel_rfl) (by kernel_rfl) ?_
        exact ⟨by simp [mayOf, *], rfl⟩
    · refine Det.condF (by kernel_rfl) (kind == 7) (by kernel_rfl) (beq_eq_false_iff_ne.2 (by exact c9)) ?_
      refine Det.reg [] [(7, Value.int IntKind.i64 kind), (2, Value.int IntKind.i64 kind), (1, Value.int IntKind.i64 who), (0, Value.pointer (some { block := q, off := 0 })), (6, Value.bool false), (8, Value.bool (kind == 8))] (h) [] (by kernel_rfl) hX (by kernel_rfl) allp0 ?_
      refine then_n (by kernel_rfl) ?_
      by_cases c13 : kind = 8
      · refine Det.condT (by kernel_rfl) (kind == 8) (by kernel_rfl) (beq_iff_eq.2 (by exact c13)) ?_
        by_cases c15 : roleOf c n who = 1
        · refine Det.sreg [(2, .m (Value.int IntKind.i64 (roleOf c n who)) (h)), (0, .s (Value.bool true))] [(8, Value.bool (kind == 8)), (0, Value.pointer (some { block := q, off := 0 })), (1, Value.int IntKind.i64 who), (2, Value.int IntKind.i64 kind), (7, Value.int IntKind.i64 kind), (6, Value.bool true)] (h) [DoesOk Try.prog 37 [Value.pointer (some { block := q, off := 0 }), Value.int IntKind.i64 who] (h) (Value.int IntKind.i64 (roleOf c n who)) (h), (Value.bool (roleOf c n who == 1)) = (Value.bool true)] (by kernel_rfl) (by kernel_rfl) hX (by kernel_rfl) (allp (DetFn.known (ref_role _ B _)) (allp (congrArg Value.bool (beq_iff_eq.2 (by exact c15))) allp0)) ?_
          refine Det.retA (by kernel_rfl) ?_
          refine then_r (by kernel_rfl) ?_
          refine fin_r (Value.bool true) (by kernel_rfl) (by kernel_rfl) ?_
          exact ⟨by simp [mayOf, *], rfl⟩
        · refine Det.sreg [(2, .m (Value.int IntKind.i64 (roleOf c n who)) (h)), (0, .s (Value.bool false)), (3, .m (Value.int IntKind.i64 (roleOf c n who)) (h))] [(8, Value.bool (kind == 8)), (0, Value.pointer (some { block := q, off := 0 })), (1, Value.int IntKind.i64 who), (2, Value.int IntKind.i64 kind), (7, Value.int IntKind.i64 kind), (6, Value.bool (roleOf c n who == 2))] (h) [DoesOk Try.prog 37 [Value.pointer (some { block := q, off := 0 }), Value.int IntKind.i64 who] (h) (Value.int IntKind.i64 (roleOf c n who)) (h), (Value.bool (roleOf c n who == 1)) = (Value.bool false), DoesOk Try.prog 37 [Value.pointer (some { block := q, off := 0 }), Value.int IntKind.i64 who] (h) (Value.int IntKind.i64 (roleOf c n who)) (h)] (by kernel_rfl) (by kernel_rfl) hX (by kernel_rfl) (allp (DetFn.known (ref_role _ B _)) (allp (congrArg Value.bool (beq_eq_false_iff_ne.2 (by exact c15))) (allp (DetFn.known (ref_role _ B _)) allp0))) ?_
          refine Det.retA (by kernel_rfl) ?_
          refine then_r (by kernel_rfl) ?_
          refine fin_r (Value.bool (roleOf c n who == 2)) (by kernel_rfl) (by kernel_rfl) ?_
          exact ⟨by simp [mayOf, *], rfl⟩
      · refine Det.condF (by kernel_rfl) (kind == 8) (by kernel_rfl) (beq_eq_false_iff_ne.2 (by exact c13)) ?_
        refine Det.seqA (by kernel_rfl) ?_
        refine Det.sreg [] [(8, Value.bool (kind == 8)), (6, Value.bool false), (0, Value.pointer (some { block := q, off := 0 })), (1, Value.int IntKind.i64 who), (2, Value.int IntKind.i64 kind), (7, Value.int IntKind.i64 kind), (22, Value.bool (kind == 9))] (h) [] (by kernel_rfl) (by kernel_rfl) hX (by kernel_rfl) allp0 ?_
        by_cases c17 : kind = 9
        · refine Det.condT (by kernel_rfl) (kind == 9) (by kernel_rfl) (beq_iff_eq.2 (by exact c17)) ?_
          refine Det.skipA (by kernel_rfl) ?_
          refine then_n (by kernel_rfl) ?_
          refine Det.condT (by kernel_rfl) (kind == 9) (by kernel_rfl) (beq_iff_eq.2 (by exact c17)) ?_
          refine Det.sreg [(2, .m (Value.int IntKind.i64 (roleOf c n who)) (h))] [(22, Value.bool (kind == 9)), (7, Value.int IntKind.i64 kind), (2, Value.int IntKind.i64 kind), (1, Value.int IntKind.i64 who), (0, Value.pointer (some { block := q, off := 0 })), (8, Value.bool (kind == 8)), (6, Value.bool (roleOf c n who == 1))] (h) [DoesOk Try.prog 37 [Value.pointer (some { block := q, off := 0 }), Value.int IntKind.i64 who] (h) (Value.int IntKind.i64 (roleOf c n who)) (h)] (by kernel_rfl) (by kernel_rfl) hX (by kernel_rfl) (allp (DetFn.known (ref_role _ B _)) allp0) ?_
          refine Det.retA (by kernel_rfl) ?_
          refine then_r (by kernel_rfl) ?_
          refine fin_r (Value.bool (roleOf c n who == 1)) (by kernel_rfl) (by kernel_rfl) ?_
          exact ⟨by simp [mayOf, *], rfl⟩
        · refine Det.condF (by kernel_rfl) (kind == 9) (by kernel_rfl) (beq_eq_false_iff_ne.2 (by exact c17)) ?_
          refine Det.sreg [] [(7, Value.int IntKind.i64 kind), (2, Value.int IntKind.i64 kind), (1, Value.int IntKind.i64 who), (0, Value.pointer (some { block := q, off := 0 })), (6, Value.bool false), (8, Value.bool (kind == 8)), (22, Value.bool (kind == 12))] (h) [] (by kernel_rfl) (by kernel_rfl) hX (by kernel_rfl) allp0 ?_
          by_cases c20 : kind = 12
          · refine Det.condT (by kernel_rfl) (kind == 12) (by kernel_rfl) (beq_iff_eq.2 (by exact c20)) ?_
            refine Det.skipA (by kernel_rfl) ?_
            refine then_n (by kernel_rfl) ?_
            refine Det.condT (by kernel_rfl) (kind == 12) (by kernel_rfl) (beq_iff_eq.2 (by exact c20)) ?_
            refine Det.sreg [(2, .m (Value.int IntKind.i64 (roleOf c n who)) (h))] [(22, Value.bool (kind == 12)), (8, Value.bool (kind == 8)), (0, Value.pointer (some { block := q, off := 0 })), (1, Value.int IntKind.i64 who), (2, Value.int IntKind.i64 kind), (7, Value.int IntKind.i64 kind), (6, Value.bool (roleOf c n who == 1))] (h) [DoesOk Try.prog 37 [Value.pointer (some { block := q, off := 0 }), Value.int IntKind.i64 who] (h) (Value.int IntKind.i64 (roleOf c n who)) (h)] (by kernel_rfl) (by kernel_rfl) hX (by kernel_rfl) (allp (DetFn.known (ref_role _ B _)) allp0) ?_
            refine Det.retA (by kernel_rfl) ?_
            refine then_r (by kernel_rfl) ?_
            refine fin_r (Value.bool (roleOf c n who == 1)) (by kernel_rfl) (by kernel_rfl) ?_
            exact ⟨by simp [mayOf, *], rfl⟩
          · refine Det.condF (by kernel_rfl) (kind == 12) (by kernel_rfl) (beq_eq_false_iff_ne.2 (by exact c20)) ?_
            refine Det.sreg [] [(8, Value.bool (kind == 8)), (6, Value.bool false), (0, Value.pointer (some { block := q, off := 0 })), (1, Value.int IntKind.i64 who), (2, Value.int IntKind.i64 kind), (7, Value.int IntKind.i64 kind), (22, Value.bool (kind == 13))] (h) [] (by kernel_rfl) (by kernel_rfl) hX (by kernel_rfl) allp0 ?_
            by_cases c23 : kind = 13
            · refine Det.condT (by kernel_rfl) (kind == 13) (by kernel_rfl) (beq_iff_eq.2 (by exact c23)) ?_
              refine Det.skipA (by kernel_rfl) ?_
              refine then_n (by kernel_rfl) ?_
              refine Det.condT (by kernel_rfl) (kind == 13) (by kernel_rfl) (beq_iff_eq.2 (by exact c23)) ?_
              refine Det.sreg [(2, .m (Value.int IntKind.i64 (roleOf c n who)) (h))] [(22, Value.bool (kind == 13)), (7, Value.int IntKind.i64 kind), (2, Value.int IntKind.i64 kind), (1, Value.int IntKind.i64 who), (0, Value.pointer (some { block := q, off := 0 })), (8, Value.bool (kind == 8)), (6, Value.bool (roleOf c n who == 1))] (h) [DoesOk Try.prog 37 [Value.pointer (some { block := q, off := 0 }), Value.int IntKind.i64 who] (h) (Value.int IntKind.i64 (roleOf c n who)) (h)] (by kernel_rfl) (by kernel_rfl) hX (by kernel_rfl) (allp (DetFn.known (ref_role _ B _)) allp0) ?_
              refine Det.retA (by kernel_rfl) ?_
              refine then_r (by kernel_rfl) ?_
              refine fin_r (Value.bool (roleOf c n who == 1)) (by kernel_rfl) (by kernel_rfl) ?_
              exact ⟨by simp [mayOf, *], rfl⟩
            · refine Det.condF (by kernel_rfl) (kind == 13) (by kernel_rfl) (beq_eq_false_iff_ne.2 (by exact c23)) ?_
              refine Det.reg [] [(7, Value.int IntKind.i64 kind), (2, Value.int IntKind.i64 kind), (1, Value.int IntKind.i64 who), (0, Value.pointer (some { block := q, off := 0 })), (6, Value.bool false), (8, Value.bool (kind == 8)), (22, Value.bool (kind == 16))] (h) [] (by kernel_rfl) hX (by kernel_rfl) allp0 ?_
              refine then_n (by kernel_rfl) ?_
              by_cases c27 : kind = 16
              · refine Det.condT (by kernel_rfl) (kind == 16) (by kernel_rfl) (beq_iff_eq.2 (by exact c27)) ?_
                refine Det.sreg [(2, .m (Value.int IntKind.i64 (roleOf c n who)) (h))] [(22, Value.bool (kind == 16)), (8, Value.bool (kind == 8)), (0, Value.pointer (some { block := q, off := 0 })), (1, Value.int IntKind.i64 who), (2, Value.int IntKind.i64 kind), (7, Value.int IntKind.i64 kind), (6, Value.bool (roleOf c n who == 1))] (h) [DoesOk Try.prog 37 [Value.pointer (some { block := q, off := 0 }), Value.int IntKind.i64 who] (h) (Value.int IntKind.i64 (roleOf c n who)) (h)] (by kernel_rfl) (by kernel_rfl) hX (by kernel_rfl) (allp (DetFn.known (ref_role _ B _)) allp0) ?_
                refine Det.retA (by kernel_rfl) ?_
                refine then_r (by kernel_rfl) ?_
                refine fin_r (Value.bool (roleOf c n who == 1)) (by kernel_rfl) (by kernel_rfl) ?_
                exact ⟨by simp [mayOf, *], rfl⟩
              · refine Det.condF (by kernel_rfl) (kind == 16) (by kernel_rfl) (beq_eq_false_iff_ne.2 (by exact c27)) ?_
                refine Det.seqA (by kernel_rfl) ?_
                refine Det.sreg [] [(22, Value.bool (kind == 16)), (8, Value.bool (kind == 8)), (6, Value.bool false), (0, Value.pointer (some { block := q, off := 0 })), (1, Value.int IntKind.i64 who), (2, Value.int IntKind.i64 kind), (7, Value.int IntKind.i64 kind), (31, Value.bool (kind == 10))] (h) [] (by kernel_rfl) (by kernel_rfl) hX (by kernel_rfl) allp0 ?_
                by_cases c31 : kind = 10
                · refine Det.condT (by kernel_rfl) (kind == 10) (by kernel_rfl) (beq_iff_eq.2 (by exact c31)) ?_
                  refine Det.skipA (by kernel_rfl) ?_
                  refine then_n (by kernel_rfl) ?_
                  refine Det.condT (by kernel_rfl) (kind == 10) (by kernel_rfl) (beq_iff_eq.2 (by exact c31)) ?_
                  refine Det.sreg [(2, .m (Value.int IntKind.i64 (roleOf c n who)) (h))] [(31, Value.bool (kind == 10)), (7, Value.int IntKind.i64 kind), (2, Value.int IntKind.i64 kind), (1, Value.int IntKind.i64 who), (0, Value.pointer (some { block := q, off := 0 })), (8, Value.bool (kind == 8)), (22, Value.bool (kind == 16)), (6, Value.bool (roleOf c n who == 2))] (h) [DoesOk Try.prog 37 [Value.pointer (some { block := q, off := 0 }), Value.int IntKind.i64 who] (h) (Value.int IntKind.i64 (roleOf c n who)) (h)] (by kernel_rfl) (by kernel_rfl) hX (by kernel_rfl) (allp (DetFn.known (ref_role _ B _)) allp0) ?_
                  refine Det.retA (by kernel_rfl) ?_
                  refine then_r (by kernel_rfl) ?_
                  refine fin_r (Value.bool (roleOf c n who == 2)) (by kernel_rfl) (by kernel_rfl) ?_
                  exact ⟨by simp [mayOf, *], rfl⟩
                · refine Det.condF (by kernel_rfl) (kind == 10) (by kernel_rfl) (beq_eq_false_iff_ne.2 (by exact c31)) ?_
                  refine Det.sreg [] [(7, Value.int IntKind.i64 kind), (2, Value.int IntKind.i64 kind), (1, Value.int IntKind.i64 who), (0, Value.pointer (some { block := q, off := 0 })), (6, Value.bool false), (8, Value.bool (kind == 8)), (22, Value.bool (kind == 16)), (31, Value.bool (kind == 11))] (h) [] (by kernel_rfl) (by kernel_rfl) hX (by kernel_rfl) allp0 ?_
                  by_cases c34 : kind = 11
                  · refine Det.condT (by kernel_rfl) (kind == 11) (by kernel_rfl) (beq_iff_eq.2 (by exact c34)) ?_
                    refine Det.skipA (by kernel_rfl) ?_
                    refine then_n (by kernel_rfl) ?_
                    refine Det.condT (by kernel_rfl) (kind == 11) (by kernel_rfl) (beq_iff_eq.2 (by exact c34)) ?_
                    refine Det.sreg [(2, .m (Value.int IntKind.i64 (roleOf c n who)) (h))] [(31, Value.bool (kind == 11)), (22, Value.bool (kind == 16)), (8, Value.bool (kind == 8)), (0, Value.pointer (some { block := q, off := 0 })), (1, Value.int IntKind.i64 who), (2, Value.int IntKind.i64 kind), (7, Value.int IntKind.i64 kind), (6, Value.bool (roleOf c n who == 2))] (h) [DoesOk Try.prog 37 [Value.pointer (some { block := q, off := 0 }), Value.int IntKind.i64 who] (h) (Value.int IntKind.i64 (roleOf c n who)) (h)] (by kernel_rfl) (by kernel_rfl) hX (by kernel_rfl) (allp (DetFn.known (ref_role _ B _)) allp0) ?_
                    refine Det.retA (by kernel_rfl) ?_
                    refine then_r (by kernel_rfl) ?_
                    refine fin_r (Value.bool (roleOf c n who == 2)) (by kernel_rfl) (by kernel_rfl) ?_
                    exact ⟨by simp [mayOf, *], rfl⟩
                  · refine Det.condF (by kernel_rfl) (kind == 11) (by kernel_rfl) (beq_eq_false_iff_ne.2 (by exact c34)) ?_
                    refine Det.sreg [] [(22, Value.bool (kind == 16)), (8, Value.bool (kind == 8)), (6, Value.bool false), (0, Value.pointer (some { block := q, off := 0 })), (1, Value.int IntKind.i64 who), (2, Value.int IntKind.i64 kind), (7, Value.int IntKind.i64 kind), (31, Value.bool (kind == 14))] (h) [] (by kernel_rfl) (by kernel_rfl) hX (by kernel_rfl) allp0 ?_
                    by_cases c37 : kind = 14
                    · refine Det.condT (by kernel_rfl) (kind == 14) (by kernel_rfl) (beq_iff_eq.2 (by exact c37)) ?_
                      refine Det.skipA (by kernel_rfl) ?_
                      refine then_n (by kernel_rfl) ?_
                      refine Det.condT (by kernel_rfl) (kind == 14) (by kernel_rfl) (beq_iff_eq.2 (by exact c37)) ?_
                      refine Det.sreg [(2, .m (Value.int IntKind.i64 (roleOf c n who)) (h))] [(31, Value.bool (kind == 14)), (7, Value.int IntKind.i64 kind), (2, Value.int IntKind.i64 kind), (1, Value.int IntKind.i64 who), (0, Value.pointer (some { block := q, off := 0 })), (8, Value.bool (kind == 8)), (22, Value.bool (kind == 16)), (6, Value.bool (roleOf c n who == 2))] (h) [DoesOk Try.prog 37 [Value.pointer (some { block := q, off := 0 }), Value.int IntKind.i64 who] (h) (Value.int IntKind.i64 (roleOf c n who)) (h)] (by kernel_rfl) (by kernel_rfl) hX (by kernel_rfl) (allp (DetFn.known (ref_role _ B _)) allp0) ?_
                      refine Det.retA (by kernel_rfl) ?_
                      refine then_r (by kernel_rfl) ?_
                      refine fin_r (Value.bool (roleOf c n who == 2)) (by kernel_rfl) (by kernel_rfl) ?_
                      exact ⟨by simp [mayOf, *], rfl⟩
                    · refine Det.condF (by kernel_rfl) (kind == 14) (by kernel_rfl) (beq_eq_false_iff_ne.2 (by exact c37)) ?_
                      refine Det.reg [] [(7, Value.int IntKind.i64 kind), (2, Value.int IntKind.i64 kind), (1, Value.int IntKind.i64 who), (0, Value.pointer (some { block := q, off := 0 })), (6, Value.bool false), (8, Value.bool (kind == 8)), (22, Value.bool (kind == 16)), (31, Value.bool (kind == 15))] (h) [] (by kernel_rfl) hX (by kernel_rfl) allp0 ?_
                      refine then_n (by kernel_rfl) ?_
                      by_cases c41 : kind = 15
                      · refine Det.condT (by kernel_rfl) (kind == 15) (by kernel_rfl) (beq_iff_eq.2 (by exact c41)) ?_
                        refine Det.sreg [(2, .m (Value.int IntKind.i64 (roleOf c n who)) (h))] [(31, Value.bool (kind == 15)), (22, Value.bool (kind == 16)), (8, Value.bool (kind == 8)), (0, Value.pointer (some { block := q, off := 0 })), (1, Value.int IntKind.i64 who), (2, Value.int IntKind.i64 kind), (7, Value.int IntKind.i64 kind), (6, Value.bool (roleOf c n who == 2))] (h) [DoesOk Try.prog 37 [Value.pointer (some { block := q, off := 0 }), Value.int IntKind.i64 who] (h) (Value.int IntKind.i64 (roleOf c n who)) (h)] (by kernel_rfl) (by kernel_rfl) hX (by kernel_rfl) (allp (DetFn.known (ref_role _ B _)) allp0) ?_
                        refine Det.retA (by kernel_rfl) ?_
                        refine then_r (by kernel_rfl) ?_
                        refine fin_r (Value.bool (roleOf c n who == 2)) (by kernel_rfl) (by kernel_rfl) ?_
                        exact ⟨by simp [mayOf, *], rfl⟩
                      · refine Det.condF (by kernel_rfl) (kind == 15) (by kernel_rfl) (beq_eq_false_iff_ne.2 (by exact c41)) ?_
                        refine Det.sreg [] [(31, Value.bool (kind == 15)), (22, Value.bool (kind == 16)), (8, Value.bool (kind == 8)), (6, Value.bool false), (0, Value.pointer (some { block := q, off := 0 })), (1, Value.int IntKind.i64 who), (2, Value.int IntKind.i64 kind), (7, Value.int IntKind.i64 kind), (40, Value.bool (kind == 17))] (h) [] (by kernel_rfl) (by kernel_rfl) hX (by kernel_rfl) allp0 ?_
                        by_cases c44 : kind = 17
                        · refine Det.condT (by kernel_rfl) (kind == 17) (by kernel_rfl) (beq_iff_eq.2 (by exact c44)) ?_
                          refine Det.sreg [(2, .m (Value.int IntKind.i64 (roleOf c n who)) (h))] [(40, Value.bool (kind == 17)), (7, Value.int IntKind.i64 kind), (2, Value.int IntKind.i64 kind), (1, Value.int IntKind.i64 who), (0, Value.pointer (some { block := q, off := 0 })), (8, Value.bool (kind == 8)), (22, Value.bool (kind == 16)), (31, Value.bool (kind == 15)), (6, Value.bool (roleOf c n who == 3))] (h) [DoesOk Try.prog 37 [Value.pointer (some { block := q, off := 0 }), Value.int IntKind.i64 who] (h) (Value.int IntKind.i64 (roleOf c n who)) (h)] (by kernel_rfl) (by kernel_rfl) hX (by kernel_rfl) (allp (DetFn.known (ref_role _ B _)) allp0) ?_
                          refine Det.retA (by kernel_rfl) ?_
                          refine then_r (by kernel_rfl) ?_
                          refine fin_r (Value.bool (roleOf c n who == 3)) (by kernel_rfl) (by kernel_rfl) ?_
                          exact ⟨by simp [mayOf, *], rfl⟩
                        · refine Det.condF (by kernel_rfl) (kind == 17) (by kernel_rfl) (beq_eq_false_iff_ne.2 (by exact c44)) ?_
                          refine Det.skipA (by kernel_rfl) ?_
                          refine then_n (by kernel_rfl) ?_
                          refine Det.sreg [] [(40, Value.bool (kind == 17)), (7, Value.int IntKind.i64 kind), (2, Value.int IntKind.i64 kind), (1, Value.int IntKind.i64 who), (0, Value.pointer (some { block := q, off := 0 })), (8, Value.bool (kind == 8)), (22, Value.bool (kind == 16)), (31, Value.bool (kind == 15)), (6, Value.bool false)] (h) [] (by kernel_rfl) (by kernel_rfl) hX (by kernel_rfl) allp0 ?_
                          refine Det.retA (by kernel_rfl) ?_
                          refine fin_r (Value.bool false) (by kernel_rfl) (by kernel_rfl) ?_
                          exact ⟨by simp [mayOf, *], rfl⟩
theorem roleOf_ne {c : List Value} {n : Nat} {who r : Int} (h : roleOf c n who = r) (hr : r ≠ 0) : 0 ≤ who ∧ who < (n : Int) := by
  rcases Decidable.em (0 ≤ who ∧ who < (n : Int)) with h1 | h1
  · exact h1
  · rw [roleOf_out h1] at h; exact absurd h.symm hr
theorem firm_Reach (h : Heap) {q s u n : Nat} {c U : List Value} (B : BookIn h 65 q s u n c U) (who dealers : Int) : DetFn Try.prog 18 [.pointer (some ⟨q, 0, none⟩), .int .i64 who, .int .u64 dealers] h fun v h' => v = .int .i64 (reachOf c n who dealers) ∧ h' = h := by
  refine Det.enterS Try.f18 [(0, .pointer (some ⟨q, 0, none⟩)), (1, .int .i64 who), (2, .int .u64 dealers)] Try.func18 (by kernel_rfl) (of_decide_eq_true (by kernel_rfl)) (by kernel_rfl) ?_
  refine Det.sreg [] [(2, Value.int IntKind.u64 dealers), (1, Value.int IntKind.i64 who), (0, Value.pointer (some { block := q, off := 0 })), (6, Value.int IntKind.i64 0)] (h) [] (by kernel_rfl) (by kernel_rfl) hX (by kernel_rfl) allp0 ?_
  refine Det.seqA (by kernel_rfl) ?_
  refine Det.blockA (by kernel_rfl) ?_
  refine Det.sreg [] [(6, Value.int IntKind.i64 0), (0, Value.pointer (some { block := q, off := 0 })), (1, Value.int IntKind.i64 who), (2, Value.int IntKind.u64 dealers), (7, Value.bool false)] (h) [] (by kernel_rfl) (by kernel_rfl) hX (by kernel_rfl) allp0 ?_
  refine Det.condF (by kernel_rfl) (false) (by kernel_rfl) rfl ?_
  refine Det.sreg [(2, .m (Value.int IntKind.i64 (roleOf c n who)) (h))] [(7, Value.bool false), (2, Value.int IntKind.u64 dealers), (1, Value.int IntKind.i64 who), (0, Value.pointer (some { block := q, off := 0 })), (6, Value.int IntKind.i64 0), (10, Value.bool (roleOf c n who != 1))] (h) [DoesOk Try.prog 35 [Value.pointer (some { block := q, off := 0 }), Value.int IntKind.i64 who] (h) (Value.int IntKind.i64 (roleOf c n who)) (h)] (by kernel_rfl) (by kernel_rfl) hX (by kernel_rfl) (allp (DetFn.known (firm_role _ B _)) allp0) ?_
  by_cases c6 : roleOf c n who = 1
  · refine Det.condF (by kernel_rfl) (roleOf c n who != 1) (by kernel_rfl) (bne_eq_false_iff_eq.2 (by exact c6)) ?_
    by_cases c8 : dealers = 0
    · refine Det.sreg [(1, .s (Value.bool true))] [(10, Value.bool (roleOf c n who != 1)), (6, Value.int IntKind.i64 0), (0, Value.pointer (some { block := q, off := 0 })), (1, Value.int IntKind.i64 who), (2, Value.int IntKind.u64 dealers), (7, Value.bool false), (15, Value.bool true)] (h) [(Value.bool (dealers == 0)) = (Value.bool true)] (by kernel_rfl) (by kernel_rfl) hX (by kernel_rfl) (allp (congrArg Value.bool (beq_iff_eq.2 (by exact c8))) allp0) ?_
      refine Det.condT (by kernel_rfl) (true) (by kernel_rfl) rfl ?_
      refine Det.sreg [] [(15, Value.bool true), (7, Value.bool false), (2, Value.int IntKind.u64 dealers), (1, Value.int IntKind.i64 who), (0, Value.pointer (some { block := q, off := 0 })), (10, Value.bool (roleOf c n who != 1)), (6, Value.int IntKind.i64 1)] (h) [] (by kernel_rfl) (by kernel_rfl) hX (by kernel_rfl) allp0 ?_
      refine Det.retA (by kernel_rfl) ?_
      refine then_r (by kernel_rfl) ?_
      refine fin_r (Value.int IntKind.i64 1) (by kernel_rfl) (by kernel_rfl) ?_
      exact ⟨by simp [reachOf, *], rfl⟩
    · refine Det.sreg [(1, .s (Value.bool false)), (5, .v (Value.slice (some { block := s, off := 0, spot := some 3 }) n n)), (1, .v (Value.pointer (some { block := s, off := Int.toNat who * 3 }))), (1, .v (Value.int IntKind.u64 (nAt c (Int.toNat who * 3 + 1))))] [(10, Value.bool (roleOf c n who != 1)), (6, Value.int IntKind.i64 0), (0, Value.pointer (some { block := q, off := 0 })), (1, Value.int IntKind.i64 who), (2, Value.int IntKind.u64 dealers), (7, Value.bool false), (15, Value.bool (bits BinOp.andNot IntKind.u64 dealers (nAt c (Int.toNat who * 3 + 1)) != 0))] (h) [(Value.bool (dealers == 0)) = (Value.bool false), aload Try.prog (h) 23 (Value.pointer (some { block := q, off := 0 })) = some (Value.slice (some { block := s, off := 0, spot := some 3 }) n n), aindexAddr Try.prog 23 (Value.slice (some { block := s, off := 0, spot := some 3 }) n n) (Value.int IntKind.i64 who) = some (Value.pointer (some { block := s, off := Int.toNat who * 3 })), aload Try.prog (h) 37 (Value.pointer (some { block := s, off := Int.toNat who * 3 + 1 })) = some (Value.int IntKind.u64 (nAt c (Int.toNat who * 3 + 1)))] (by kernel_rfl) (by kernel_rfl) hX (by kernel_rfl) (allp (congrArg Value.bool (beq_eq_false_iff_ne.2 (by exact c8))) (allp (aload_cell B.row (by kernel_rfl) (by kernel_rfl)) (allp (B.ptr.index Try.underlying23 (w := 3) (by kernel_rfl) (roleOf_ne (show roleOf c n who = 1 by assumption) (by omega)).1 (roleOf_ne (show roleOf c n who = 1 by assumption) (by omega)).2 (by first | rfl | omega)) (allp (asks_load B.ptr (j := who.toNat) (by have hw := roleOf_ne (show roleOf c n who = 1 by assumption) (by omega); omega) (by omega)) allp0)))) ?_
      by_cases c10 : bits BinOp.andNot IntKind.u64 dealers (nAt c (Int.toNat who * 3 + 1)) = 0
      · refine Det.condF (by kernel_rfl) (bits BinOp.andNot IntKind.u64 dealers (nAt c (Int.toNat who * 3 + 1)) != 0) (by kernel_rfl) (bne_eq_false_iff_eq.2 (by exact c10)) ?_
        refine Det.skipA (by kernel_rfl) ?_
        refine then_n (by kernel_rfl) ?_
        refine Det.sreg [] [(15, Value.bool (bits BinOp.andNot IntKind.u64 dealers (nAt c (Int.toNat who * 3 + 1)) != 0)), (7, Value.bool false), (2, Value.int IntKind.u64 dealers), (1, Value.int IntKind.i64 who), (0, Value.pointer (some { block := q, off := 0 })), (10, Value.bool (roleOf c n who != 1)), (6, Value.int IntKind.i64 0)] (h) [] (by kernel_rfl) (by kernel_rfl) hX (by kernel_rfl) allp0 ?_
        refine Det.retA (by kernel_rfl) ?_
        refine fin_r (Value.int IntKind.i64 0) (by kernel_rfl) (by kernel_rfl) ?_
        exact ⟨by simp [reachOf, *], rfl⟩
      · refine Det.condT (by kernel_rfl) (bits BinOp.andNot IntKind.u64 dealers (nAt c (Int.toNat who * 3 + 1)) != 0) (by kernel_rfl) (bne_iff_ne.2 (by exact c10)) ?_
        refine Det.sreg [] [(15, Value.bool (bits BinOp.andNot IntKind.u64 dealers (nAt c (Int.toNat who * 3 + 1)) != 0)), (7, Value.bool false), (2, Value.int IntKind.u64 dealers), (1, Value.int IntKind.i64 who), (0, Value.pointer (some { block := q, off := 0 })), (10, Value.bool (roleOf c n who != 1)), (6, Value.int IntKind.i64 1)] (h) [] (by kernel_rfl) (by kernel_rfl) hX (by kernel_rfl) allp0 ?_
        refine Det.retA (by kernel_rfl) ?_
        refine then_r (by kernel_rfl) ?_
        refine fin_r (Value.int IntKind.i64 1) (by kernel_rfl) (by kernel_rfl) ?_
        exact ⟨by simp [reachOf, *], rfl⟩
  · refine Det.condT (by kernel_rfl) (roleOf c n who != 1) (by kernel_rfl) (bne_iff_ne.2 (by exact c6)) ?_
    refine Det.sreg [] [(10, Value.bool (roleOf c n who != 1)), (0, Value.pointer (some { block := q, off := 0 })), (1, Value.int IntKind.i64 who), (2, Value.int IntKind.u64 dealers), (7, Value.bool false), (6, Value.int IntKind.i64 5)] (h) [] (by kernel_rfl) (by kernel_rfl) hX (by kernel_rfl) allp0 ?_
    refine Det.retA (by kernel_rfl) ?_
    refine then_r (by kernel_rfl) ?_
    refine fin_r (Value.int IntKind.i64 5) (by kernel_rfl) (by kernel_rfl) ?_
    exact ⟨by simp [reachOf, *], rfl⟩
theorem ref_Reach (h : Heap) {q s u n : Nat} {c U : List Value} (B : BookIn h 49 q s u n c U) (who dealers : Int) : DetFn Try.prog 19 [.pointer (some ⟨q, 0, none⟩), .int .i64 who, .int .u64 dealers] h fun v h' => v = .int .i64 (reachOf c n who dealers) ∧ h' = h := by
  refine Det.enterS Try.f19 [(0, .pointer (some ⟨q, 0, none⟩)), (1, .int .i64 who), (2, .int .u64 dealers)] Try.func19 (by kernel_rfl) (of_decide_eq_true (by kernel_rfl)) (by kernel_rfl) ?_
  refine Det.sreg [] [(2, Value.int IntKind.u64 dealers), (1, Value.int IntKind.i64 who), (0, Value.pointer (some { block := q, off := 0 })), (6, Value.int IntKind.i64 0)] (h) [] (by kernel_rfl) (by kernel_rfl) hX (by kernel_rfl) allp0 ?_
  refine Det.seqA (by kernel_rfl) ?_
  refine Det.sreg [(2, .m (Value.int IntKind.i64 (roleOf c n who)) (h))] [(6, Value.int IntKind.i64 0), (0, Value.pointer (some { block := q, off := 0 })), (1, Value.int IntKind.i64 who), (2, Value.int IntKind.u64 dealers), (10, Value.bool (roleOf c n who != 1))] (h) [DoesOk Try.prog 37 [Value.pointer (some { block := q, off := 0 }), Value.int IntKind.i64 who] (h) (Value.int IntKind.i64 (roleOf c n who)) (h)] (by kernel_rfl) (by kernel_rfl) hX (by kernel_rfl) (allp (DetFn.known (ref_role _ B _)) allp0) ?_
  by_cases c3 : roleOf c n who = 1
  · refine Det.condF (by kernel_rfl) (roleOf c n who != 1) (by kernel_rfl) (bne_eq_false_iff_eq.2 (by exact c3)) ?_
    refine Det.skipA (by kernel_rfl) ?_
    refine then_n (by kernel_rfl) ?_
    refine Det.seqA (by kernel_rfl) ?_
    by_cases c8 : dealers = 0
    · refine Det.sreg [(1, .s (Value.bool true))] [(10, Value.bool (roleOf c n who != 1)), (2, Value.int IntKind.u64 dealers), (1, Value.int IntKind.i64 who), (0, Value.pointer (some { block := q, off := 0 })), (6, Value.int IntKind.i64 0), (25, Value.bool true)] (h) [(Value.bool (dealers == 0)) = (Value.bool true)] (by kernel_rfl) (by kernel_rfl) hX (by kernel_rfl) (allp (congrArg Value.bool (beq_iff_eq.2 (by exact c8))) allp0) ?_
      refine Det.condT (by kernel_rfl) (true) (by kernel_rfl) rfl ?_
      refine Det.sreg [] [(25, Value.bool true), (0, Value.pointer (some { block := q, off := 0 })), (1, Value.int IntKind.i64 who), (2, Value.int IntKind.u64 dealers), (10, Value.bool (roleOf c n who != 1)), (6, Value.int IntKind.i64 1)] (h) [] (by kernel_rfl) (by kernel_rfl) hX (by kernel_rfl) allp0 ?_
      refine Det.retA (by kernel_rfl) ?_
      refine then_r (by kernel_rfl) ?_
      refine fin_r (Value.int IntKind.i64 1) (by kernel_rfl) (by kernel_rfl) ?_
      exact ⟨by simp [reachOf, *], rfl⟩
    · refine Det.sreg [(1, .s (Value.bool false)), (5, .v (Value.slice (some { block := s, off := 0, spot := some 3 }) n n)), (1, .v (Value.pointer (some { block := s, off := Int.toNat who * 3 }))), (1, .v (Value.int IntKind.u64 (nAt c (Int.toNat who * 3 + 1))))] [(10, Value.bool (roleOf c n who != 1)), (2, Value.int IntKind.u64 dealers), (1, Value.int IntKind.i64 who), (0, Value.pointer (some { block := q, off := 0 })), (6, Value.int IntKind.i64 0), (25, Value.bool (bits BinOp.andNot IntKind.u64 dealers (nAt c (Int.toNat who * 3 + 1)) != 0))] (h) [(Value.bool (dealers == 0)) = (Value.bool false), aload Try.prog (h) 23 (Value.pointer (some { block := q, off := 0 })) = some (Value.slice (some { block := s, off := 0, spot := some 3 }) n n), aindexAddr Try.prog 23 (Value.slice (some { block := s, off := 0, spot := some 3 }) n n) (Value.int IntKind.i64 who) = some (Value.pointer (some { block := s, off := Int.toNat who * 3 })), aload Try.prog (h) 37 (Value.pointer (some { block := s, off := Int.toNat who * 3 + 1 })) = some (Value.int IntKind.u64 (nAt c (Int.toNat who * 3 + 1)))] (by kernel_rfl) (by kernel_rfl) hX (by kernel_rfl) (allp (congrArg Value.bool (beq_eq_false_iff_ne.2 (by exact c8))) (allp (aload_cell B.row (by kernel_rfl) (by kernel_rfl)) (allp (B.ptr.index Try.underlying23 (w := 3) (by kernel_rfl) (roleOf_ne (show roleOf c n who = 1 by assumption) (by omega)).1 (roleOf_ne (show roleOf c n who = 1 by assumption) (by omega)).2 (by first | rfl | omega)) (allp (asks_load B.ptr (j := who.toNat) (by have hw := roleOf_ne (show roleOf c n who = 1 by assumption) (by omega); omega) (by omega)) allp0)))) ?_
      by_cases c10 : bits BinOp.andNot IntKind.u64 dealers (nAt c (Int.toNat who * 3 + 1)) = 0
      · refine Det.condF (by kernel_rfl) (bits BinOp.andNot IntKind.u64 dealers (nAt c (Int.toNat who * 3 + 1)) != 0) (by kernel_rfl) (bne_eq_false_iff_eq.2 (by exact c10)) ?_
        refine Det.skipA (by kernel_rfl) ?_
        refine then_n (by kernel_rfl) ?_
        refine Det.sreg [] [(25, Value.bool (bits BinOp.andNot IntKind.u64 dealers (nAt c (Int.toNat who * 3 + 1)) != 0)), (0, Value.pointer (some { block := q, off := 0 })), (1, Value.int IntKind.i64 who), (2, Value.int IntKind.u64 dealers), (10, Value.bool (roleOf c n who != 1)), (6, Value.int IntKind.i64 0)] (h) [] (by kernel_rfl) (by kernel_rfl) hX (by kernel_rfl) allp0 ?_
        refine Det.retA (by kernel_rfl) ?_
        refine fin_r (Value.int IntKind.i64 0) (by kernel_rfl) (by kernel_rfl) ?_
        exact ⟨by simp [reachOf, *], rfl⟩
      · refine Det.condT (by kernel_rfl) (bits BinOp.andNot IntKind.u64 dealers (nAt c (Int.toNat who * 3 + 1)) != 0) (by kernel_rfl) (bne_iff_ne.2 (by exact c10)) ?_
        refine Det.sreg [] [(25, Value.bool (bits BinOp.andNot IntKind.u64 dealers (nAt c (Int.toNat who * 3 + 1)) != 0)), (0, Value.pointer (some { block := q, off := 0 })), (1, Value.int IntKind.i64 who), (2, Value.int IntKind.u64 dealers), (10, Value.bool (roleOf c n who != 1)), (6, Value.int IntKind.i64 1)] (h) [] (by kernel_rfl) (by kernel_rfl) hX (by kernel_rfl) allp0 ?_
        refine Det.retA (by kernel_rfl) ?_
        refine then_r (by kernel_rfl) ?_
        refine fin_r (Value.int IntKind.i64 1) (by kernel_rfl) (by kernel_rfl) ?_
        exact ⟨by simp [reachOf, *], rfl⟩
  · refine Det.condT (by kernel_rfl) (roleOf c n who != 1) (by kernel_rfl) (bne_iff_ne.2 (by exact c3)) ?_
    refine Det.sreg [] [(10, Value.bool (roleOf c n who != 1)), (2, Value.int IntKind.u64 dealers), (1, Value.int IntKind.i64 who), (0, Value.pointer (some { block := q, off := 0 })), (6, Value.int IntKind.i64 5)] (h) [] (by kernel_rfl) (by kernel_rfl) hX (by kernel_rfl) allp0 ?_
    refine Det.retA (by kernel_rfl) ?_
    refine then_r (by kernel_rfl) ?_
    refine fin_r (Value.int IntKind.i64 5) (by kernel_rfl) (by kernel_rfl) ?_
    exact ⟨by simp [reachOf, *], rfl⟩
end Go.Proofs.Ytmpendenaflonaa.Eng
