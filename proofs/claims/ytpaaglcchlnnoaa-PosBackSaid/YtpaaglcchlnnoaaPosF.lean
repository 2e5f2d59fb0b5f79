/- What Bonds and Cash come to, the program's and the reference's. -/
import Derived.Test.YtpaaglcchlnnoaaPosE
namespace Go.Proofs.Ytpaaglcchlnnoaa.Eng
open Go Go.Proofs Go.Proofs.Ytpaaglcchlnnoaa.FixMath
set_option maxRecDepth 100000
set_option maxHeartbeats 4000000
set_option linter.unusedVariables false
theorem pos_bonds_yes (te : TypeId) (h : Heap) (k : PK) (n m : Nat) (B : Nat → List Int) (C : List Int) (R : PosAt te 41 h k n m B C) (who bond : Int) (h1 : 0 ≤ who) (h2 : who < n) (h3 : 0 ≤ bond) (h4 : bond < m) :
    DetFn Try.prog 11 [.pointer (some ⟨k.p, 0, none⟩), .int .i64 who, .int .i64 bond] h fun v h' => v = .int .i64 ((B who.toNat).getD bond.toNat 0) ∧ h' = h := by
  have lb := R.lb who.toNat (by omega)
  have gr := R.gr who.toNat (by omega)
  refine Det.enterS Try.f11 [(0, .pointer (some ⟨k.p, 0, none⟩)), (1, .int .i64 who), (2, .int .i64 bond)] Try.func11 (by kernel_rfl) (of_decide_eq_true (by kernel_rfl)) (by kernel_rfl) ?_
  refine Det.sreg [] [(2, Value.int IntKind.i64 bond), (1, Value.int IntKind.i64 who), (0, Value.pointer (some { block := PK.p k, off := 0 })), (6, Value.int IntKind.i64 0)] (h) [] (by kernel_rfl) (by kernel_rfl) hX (by kernel_rfl) allp0 ?_
  refine Det.seqA (by kernel_rfl) ?_
  refine Det.sreg [(3, .m (Value.bool true) (h))] [(6, Value.int IntKind.i64 0), (0, Value.pointer (some { block := PK.p k, off := 0 })), (1, Value.int IntKind.i64 who), (2, Value.int IntKind.i64 bond), (11, Value.bool false)] (h) [DoesOk Try.prog 16 [Value.pointer (some { block := PK.p k, off := 0 }), Value.int IntKind.i64 who, Value.int IntKind.i64 bond] (h) (Value.bool true) (h)] (by kernel_rfl) (by kernel_rfl) hX (by kernel_rfl) (allp (DetFn.known (pos_is_yes te _ k n m B C R _ _ (by omega) (by omega) (by omega) (by omega))) allp0) ?_
  refine Det.condF (by kernel_rfl) (false) (by kernel_rfl) rfl ?_
  refine Det.skipA (by kernel_rfl) ?_
  refine then_n (by kernel_rfl) ?_
  refine Det.sreg [(3, .v (Value.slice (some { block := PK.rb k, off := 0, spot := PK.sp k }) n (PK.cb k))), (1, .v (Value.pointer (some { block := PK.rb k, off := Int.toNat who }))), (0, .v (Value.slice (some { block := PK.rr k (Int.toNat who), off := 0 }) m m)), (1, .v (Value.pointer (some { block := PK.rr k (Int.toNat who), off := Int.toNat bond }))), (0, .v (Value.int IntKind.i64 (List.getD (B (Int.toNat who)) (Int.toNat bond) 0)))] [(11, Value.bool false), (2, Value.int IntKind.i64 bond), (1, Value.int IntKind.i64 who), (0, Value.pointer (some { block := PK.p k, off := 0 })), (6, Value.int IntKind.i64 (List.getD (B (Int.toNat who)) (Int.toNat bond) 0))] (h) [aload Try.prog (h) 39 (Value.pointer (some { block := PK.p k, off := 0 })) = some (Value.slice (some { block := PK.rb k, off := 0, spot := PK.sp k }) n (PK.cb k)), aindexAddr Try.prog 39 (Value.slice (some { block := PK.rb k, off := 0, spot := PK.sp k }) n (PK.cb k)) (Value.int IntKind.i64 who) = some (Value.pointer (some { block := PK.rb k, off := Int.toNat who })), aload Try.prog (h) 38 (Value.pointer (some { block := PK.rb k, off := Int.toNat who })) = some (Value.slice (some { block := PK.rr k (Int.toNat who), off := 0 }) m m), aindexAddr Try.prog 38 (Value.slice (some { block := PK.rr k (Int.toNat who), off := 0 }) m m) (Value.int IntKind.i64 bond) = some (Value.pointer (some { block := PK.rr k (Int.toNat who), off := Int.toNat bond })), aload Try.prog (h) 2 (Value.pointer (some { block := PK.rr k (Int.toNat who), off := Int.toNat bond })) = some (Value.int IntKind.i64 (List.getD (B (Int.toNat who)) (Int.toNat bond) 0))] (by kernel_rfl) (by kernel_rfl) hX (by kernel_rfl) (allp (aload_cell R.gp (by kernel_rfl) (by kernel_rfl)) (allp (aindex_at (w := 1) Try.underlying39 (by kernel_rfl) (by omega) (by omega) (by omega)) (allp (aload_cell R.gb (by kernel_rfl) (hdr_get (by omega) (by omega))) (allp (aindex_at (w := 1) Try.underlying38 (by kernel_rfl) (by omega) (by omega) (by omega)) (allp (aload_cell gr (by kernel_rfl) (ints_get (by omega))) allp0))))) ?_
  refine Det.retA (by kernel_rfl) ?_
  refine fin_r (Value.int IntKind.i64 (List.getD (B (Int.toNat who)) (Int.toNat bond) 0)) (by kernel_rfl) (by kernel_rfl) ?_
  exact ⟨rfl, rfl⟩
theorem pos_bonds_no (te : TypeId) (h : Heap) (k : PK) (n m : Nat) (B : Nat → List Int) (C : List Int) (R : PosAt te 41 h k n m B C) (who bond : Int) (hn : ¬ (0 ≤ who ∧ who < n ∧ 0 ≤ bond ∧ bond < m)) :
    DetFn Try.prog 11 [.pointer (some ⟨k.p, 0, none⟩), .int .i64 who, .int .i64 bond] h fun v h' => v = .int .i64 0 ∧ h' = h := by
  refine Det.enterS Try.f11 [(0, .pointer (some ⟨k.p, 0, none⟩)), (1, .int .i64 who), (2, .int .i64 bond)] Try.func11 (by kernel_rfl) (of_decide_eq_true (by kernel_rfl)) (by kernel_rfl) ?_
  by_cases hw : 0 ≤ who ∧ who < n
  · skip
    refine Det.sreg [] [(2, Value.int IntKind.i64 bond), (1, Value.int IntKind.i64 who), (0, Value.pointer (some { block := PK.p k, off := 0 })), (6, Value.int IntKind.i64 0)] (h) [] (by kernel_rfl) (by kernel_rfl) hX (by kernel_rfl) allp0 ?_
    refine Det.seqA (by kernel_rfl) ?_
    refine Det.sreg [(3, .m (Value.bool false) (h))] [(6, Value.int IntKind.i64 0), (0, Value.pointer (some { block := PK.p k, off := 0 })), (1, Value.int IntKind.i64 who), (2, Value.int IntKind.i64 bond), (11, Value.bool true)] (h) [DoesOk Try.prog 16 [Value.pointer (some { block := PK.p k, off := 0 }), Value.int IntKind.i64 who, Value.int IntKind.i64 bond] (h) (Value.bool false) (h)] (by kernel_rfl) (by kernel_rfl) hX (by kernel_rfl) (allp (DetFn.known (pos_is_no te _ k n m B C R _ _ (by omega))) allp0) ?_
    refine Det.condT (by kernel_rfl) (true) (by kernel_rfl) rfl ?_
    refine Det.sreg [] [(11, Value.bool true), (2, Value.int IntKind.i64 bond), (1, Value.int IntKind.i64 who), (0, Value.pointer (some { block := PK.p k, off := 0 })), (6, Value.int IntKind.i64 0)] (h) [] (by kernel_rfl) (by kernel_rfl) hX (by kernel_rfl) allp0 ?_
    refine Det.retA (by kernel_rfl) ?_
    refine then_r (by kernel_rfl) ?_
    refine fin_r (Value.int IntKind.i64 0) (by kernel_rfl) (by kernel_rfl) ?_
    exact ⟨rfl, rfl⟩
  · skip
    refine Det.sreg [] [(2, Value.int IntKind.i64 bond), (1, Value.int IntKind.i64 who), (0, Value.pointer (some { block := PK.p k, off := 0 })), (6, Value.int IntKind.i64 0)] (h) [] (by kernel_rfl) (by kernel_rfl) hX (by kernel_rfl) allp0 ?_
    refine Det.seqA (by kernel_rfl) ?_
    refine Det.sreg [(3, .m (Value.bool false) (h))] [(6, Value.int IntKind.i64 0), (0, Value.pointer (some { block := PK.p k, off := 0 })), (1, Value.int IntKind.i64 who), (2, Value.int IntKind.i64 bond), (11, Value.bool true)] (h) [DoesOk Try.prog 16 [Value.pointer (some { block := PK.p k, off := 0 }), Value.int IntKind.i64 who, Value.int IntKind.i64 bond] (h) (Value.bool false) (h)] (by kernel_rfl) (by kernel_rfl) hX (by kernel_rfl) (allp (DetFn.known (pos_is_no te _ k n m B C R _ _ (by omega))) allp0) ?_
    refine Det.condT (by kernel_rfl) (true) (by kernel_rfl) rfl ?_
    refine Det.sreg [] [(11, Value.bool true), (2, Value.int IntKind.i64 bond), (1, Value.int IntKind.i64 who), (0, Value.pointer (some { block := PK.p k, off := 0 })), (6, Value.int IntKind.i64 0)] (h) [] (by kernel_rfl) (by kernel_rfl) hX (by kernel_rfl) allp0 ?_
    refine Det.retA (by kernel_rfl) ?_
    refine then_r (by kernel_rfl) ?_
    refine fin_r (Value.int IntKind.i64 0) (by kernel_rfl) (by kernel_rfl) ?_
    exact ⟨rfl, rfl⟩
theorem pos_cash_yes (te : TypeId) (h : Heap) (k : PK) (n m : Nat) (B : Nat → List Int) (C : List Int) (R : PosAt te 41 h k n m B C) (hm : 0 < m) (who : Int) (h1 : 0 ≤ who) (h2 : who < n) :
    DetFn Try.prog 13 [.pointer (some ⟨k.p, 0, none⟩), .int .i64 who] h fun v h' => v = .int .i64 (C.getD who.toNat 0) ∧ h' = h := by
  have lc := R.lc
  refine Det.enterS Try.f13 [(0, .pointer (some ⟨k.p, 0, none⟩)), (1, .int .i64 who)] Try.func13 (by kernel_rfl) (of_decide_eq_true (by kernel_rfl)) (by kernel_rfl) ?_
  refine Det.sreg [] [(1, Value.int IntKind.i64 who), (0, Value.pointer (some { block := PK.p k, off := 0 })), (4, Value.int IntKind.i64 0)] (h) [] (by kernel_rfl) (by kernel_rfl) hX (by kernel_rfl) allp0 ?_
  refine Det.seqA (by kernel_rfl) ?_
  refine Det.sreg [(2, .m (Value.bool true) (h))] [(4, Value.int IntKind.i64 0), (0, Value.pointer (some { block := PK.p k, off := 0 })), (1, Value.int IntKind.i64 who), (8, Value.bool false)] (h) [DoesOk Try.prog 16 [Value.pointer (some { block := PK.p k, off := 0 }), Value.int IntKind.i64 who, Value.int IntKind.i64 0] (h) (Value.bool true) (h)] (by kernel_rfl) (by kernel_rfl) hX (by kernel_rfl) (allp (DetFn.known (pos_is_yes te _ k n m B C R _ _ (by omega) (by omega) (by omega) (by omega))) allp0) ?_
  refine Det.condF (by kernel_rfl) (false) (by kernel_rfl) rfl ?_
  refine Det.skipA (by kernel_rfl) ?_
  refine then_n (by kernel_rfl) ?_
  refine Det.sreg [(3, .v (Value.slice (some { block := PK.rc k, off := 0 }) n n)), (1, .v (Value.pointer (some { block := PK.rc k, off := Int.toNat who }))), (0, .v (Value.int IntKind.i64 (List.getD C (Int.toNat who) 0)))] [(8, Value.bool false), (1, Value.int IntKind.i64 who), (0, Value.pointer (some { block := PK.p k, off := 0 })), (4, Value.int IntKind.i64 (List.getD C (Int.toNat who) 0))] (h) [aload Try.prog (h) 38 (Value.pointer (some { block := PK.p k, off := 1 })) = some (Value.slice (some { block := PK.rc k, off := 0 }) n n), aindexAddr Try.prog 38 (Value.slice (some { block := PK.rc k, off := 0 }) n n) (Value.int IntKind.i64 who) = some (Value.pointer (some { block := PK.rc k, off := Int.toNat who })), aload Try.prog (h) 2 (Value.pointer (some { block := PK.rc k, off := Int.toNat who })) = some (Value.int IntKind.i64 (List.getD C (Int.toNat who) 0))] (by kernel_rfl) (by kernel_rfl) hX (by kernel_rfl) (allp (aload_cell R.gp (by kernel_rfl) (by kernel_rfl)) (allp (aindex_at (w := 1) Try.underlying38 (by kernel_rfl) (by omega) (by omega) (by omega)) (allp (aload_cell R.gc (by kernel_rfl) (ints_get (by omega))) allp0))) ?_
  refine Det.retA (by kernel_rfl) ?_
  refine fin_r (Value.int IntKind.i64 (List.getD C (Int.toNat who) 0)) (by kernel_rfl) (by kernel_rfl) ?_
  exact ⟨rfl, rfl⟩
theorem pos_cash_no (te : TypeId) (h : Heap) (k : PK) (n m : Nat) (B : Nat → List Int) (C : List Int) (R : PosAt te 41 h k n m B C) (who : Int) (hn : ¬ (0 ≤ who ∧ who < n)) :
    DetFn Try.prog 13 [.pointer (some ⟨k.p, 0, none⟩), .int .i64 who] h fun v h' => v = .int .i64 0 ∧ h' = h := by
  refine Det.enterS Try.f13 [(0, .pointer (some ⟨k.p, 0, none⟩)), (1, .int .i64 who)] Try.func13 (by kernel_rfl) (of_decide_eq_true (by kernel_rfl)) (by kernel_rfl) ?_
  refine Det.sreg [] [(1, Value.int IntKind.i64 who), (0, Value.pointer (some { block := PK.p k, off := 0 })), (4, Value.int IntKind.i64 0)] (h) [] (by kernel_rfl) (by kernel_rfl) hX (by kernel_rfl) allp0 ?_
  refine Det.seqA (by kernel_rfl) ?_
  refine Det.sreg [(2, .m (Value.bool false) (h))] [(4, Value.int IntKind.i64 0), (0, Value.pointer (some { block := PK.p k, off := 0 })), (1, Value.int IntKind.i64 who), (8, Value.bool true)] (h) [DoesOk Try.prog 16 [Value.pointer (some { block := PK.p k, off := 0 }), Value.int IntKind.i64 who, Value.int IntKind.i64 0] (h) (Value.bool false) (h)] (by kernel_rfl) (by kernel_rfl) hX (by kernel_rfl) (allp (DetFn.known (pos_is_no te _ k n m B C R _ _ (by omega))) allp0) ?_
  refine Det.condT (by kernel_rfl) (true) (by kernel_rfl) rfl ?_
  refine Det.sreg [] [(8, Value.bool true), (1, Value.int IntKind.i64 who), (0, Value.pointer (some { block := PK.p k, off := 0 })), (4, Value.int IntKind.i64 0)] (h) [] (by kernel_rfl) (by kernel_rfl) hX (by kernel_rfl) allp0 ?_
  refine Det.retA (by kernel_rfl) ?_
  refine then_r (by kernel_rfl) ?_
  refine fin_r (Value.int IntKind.i64 0) (by kernel_rfl) (by kernel_rfl) ?_
  exact ⟨rfl, rfl⟩
theorem ref_bonds_yes (te : TypeId) (h : Heap) (k : PK) (n m : Nat) (B : Nat → List Int) (C : List Int) (R : PosAt te 43 h k n m B C) (who bond : Int) (h1 : 0 ≤ who) (h2 : who < n) (h3 : 0 ≤ bond) (h4 : bond < m) :
    DetFn Try.prog 12 [.pointer (some ⟨k.p, 0, none⟩), .int .i64 who, .int .i64 bond] h fun v h' => v = .int .i64 ((B who.toNat).getD bond.toNat 0) ∧ h' = h := by
  have lb := R.lb who.toNat (by omega)
  have gr := R.gr who.toNat (by omega)
  refine Det.enterS Try.f12 [(0, .pointer (some ⟨k.p, 0, none⟩)), (1, .int .i64 who), (2, .int .i64 bond)] Try.func12 (by kernel_rfl) (of_decide_eq_true (by kernel_rfl)) (by kernel_rfl) ?_
  refine Det.sreg [] [(2, Value.int IntKind.i64 bond), (1, Value.int IntKind.i64 who), (0, Value.pointer (some { block := PK.p k, off := 0 })), (6, Value.int IntKind.i64 0)] (h) [] (by kernel_rfl) (by kernel_rfl) hX (by kernel_rfl) allp0 ?_
  refine Det.seqA (by kernel_rfl) ?_
  refine Det.sreg [(2, .m (Value.bool true) (h)), (3, .s (Value.bool false)), (6, .v (Value.slice (some { block := PK.rb k, off := 0, spot := PK.sp k }) n (PK.cb k))), (0, .v (Value.pointer (some { block := PK.rb k, off := 0 }))), (0, .v (Value.slice (some { block := PK.rr k 0, off := 0 }) m m)), (1, .s (Value.bool false))] [(6, Value.int IntKind.i64 0), (0, Value.pointer (some { block := PK.p k, off := 0 })), (1, Value.int IntKind.i64 who), (2, Value.int IntKind.i64 bond), (25, Value.bool false)] (h) [DoesOk Try.prog 21 [Value.pointer (some { block := PK.p k, off := 0 }), Value.int IntKind.i64 who] (h) (Value.bool true) (h), (Value.bool (decide (bond < 0))) = (Value.bool false), aload Try.prog (h) 39 (Value.pointer (some { block := PK.p k, off := 0 })) = some (Value.slice (some { block := PK.rb k, off := 0, spot := PK.sp k }) n (PK.cb k)), aindexAddr Try.prog 39 (Value.slice (some { block := PK.rb k, off := 0, spot := PK.sp k }) n (PK.cb k)) (Value.int IntKind.i64 0) = some (Value.pointer (some { block := PK.rb k, off := 0 })), aload Try.prog (h) 38 (Value.pointer (some { block := PK.rb k, off := 0 })) = some (Value.slice (some { block := PK.rr k 0, off := 0 }) m m), (Value.bool (decide ((↑m : Int) ≤ bond))) = (Value.bool false)] (by kernel_rfl) (by kernel_rfl) hX (by kernel_rfl) (allp (DetFn.known (ref_is_yes te _ k n m B C R _ (by omega) (by omega))) (allp (congrArg Value.bool (decide_eq_false (by omega))) (allp (aload_cell R.gp (by kernel_rfl) (by kernel_rfl)) (allp (aindex_at (w := 1) Try.underlying39 (by kernel_rfl) (by omega) (by omega) (by omega)) (allp (aload_cell R.gb (by kernel_rfl) (hdr_zero (by omega))) (allp (congrArg Value.bool (decide_eq_false (by omega))) allp0)))))) ?_
  refine Det.condF (by kernel_rfl) (false) (by kernel_rfl) rfl ?_
  refine Det.skipA (by kernel_rfl) ?_
  refine then_n (by kernel_rfl) ?_
  refine Det.sreg [(3, .v (Value.slice (some { block := PK.rb k, off := 0, spot := PK.sp k }) n (PK.cb k))), (1, .v (Value.pointer (some { block := PK.rb k, off := Int.toNat who }))), (0, .v (Value.slice (some { block := PK.rr k (Int.toNat who), off := 0 }) m m)), (1, .v (Value.pointer (some { block := PK.rr k (Int.toNat who), off := Int.toNat bond }))), (0, .v (Value.int IntKind.i64 (List.getD (B (Int.toNat who)) (Int.toNat bond) 0)))] [(25, Value.bool false), (2, Value.int IntKind.i64 bond), (1, Value.int IntKind.i64 who), (0, Value.pointer (some { block := PK.p k, off := 0 })), (6, Value.int IntKind.i64 (List.getD (B (Int.toNat who)) (Int.toNat bond) 0))] (h) [aload Try.prog (h) 39 (Value.pointer (some { block := PK.p k, off := 0 })) = some (Value.slice (some { block := PK.rb k, off := 0, spot := PK.sp k }) n (PK.cb k)), aindexAddr Try.prog 39 (Value.slice (some { block := PK.rb k, off := 0, spot := PK.sp k }) n (PK.cb k)) (Value.int IntKind.i64 who) = some (Value.pointer (some { block := PK.rb k, off := Int.toNat who })), aload Try.prog (h) 38 (Value.pointer (some { block := PK.rb k, off := Int.toNat who })) = some (Value.slice (some { block := PK.rr k (Int.toNat who), off := 0 }) m m), aindexAddr Try.prog 38 (Value.slice (some { block := PK.rr k (Int.toNat who), off := 0 }) m m) (Value.int IntKind.i64 bond) = some (Value.pointer (some { block := PK.rr k (Int.toNat who), off := Int.toNat bond })), aload Try.prog (h) 2 (Value.pointer (some { block := PK.rr k (Int.toNat who), off := Int.toNat bond })) = some (Value.int IntKind.i64 (List.getD (B (Int.toNat who)) (Int.toNat bond) 0))] (by kernel_rfl) (by kernel_rfl) hX (by kernel_rfl) (allp (aload_cell R.gp (by kernel_rfl) (by kernel_rfl)) (allp (aindex_at (w := 1) Try.underlying39 (by kernel_rfl) (by omega) (by omega) (by omega)) (allp (aload_cell R.gb (by kernel_rfl) (hdr_get (by omega) (by omega))) (allp (aindex_at (w := 1) Try.underlying38 (by kernel_rfl) (by omega) (by omega) (by omega)) (allp (aload_cell gr (by kernel_rfl) (ints_get (by omega))) allp0))))) ?_
  refine Det.retA (by kernel_rfl) ?_
  refine fin_r (Value.int IntKind.i64 (List.getD (B (Int.toNat who)) (Int.toNat bond) 0)) (by kernel_rfl) (by kernel_rfl) ?_
  exact ⟨rfl, rfl⟩
theorem ref_bonds_no (te : TypeId) (h : Heap) (k : PK) (n m : Nat) (B : Nat → List Int) (C : List Int) (R : PosAt te 43 h k n m B C) (who bond : Int) (hn : ¬ (0 ≤ who ∧ who < n ∧ 0 ≤ bond ∧ bond < m)) :
    DetFn Try.prog 12 [.pointer (some ⟨k.p, 0, none⟩), .int .i64 who, .int .i64 bond] h fun v h' => v = .int .i64 0 ∧ h' = h := by
  refine Det.enterS Try.f12 [(0, .pointer (some ⟨k.p, 0, none⟩)), (1, .int .i64 who), (2, .int .i64 bond)] Try.func12 (by kernel_rfl) (of_decide_eq_true (by kernel_rfl)) (by kernel_rfl) ?_
  by_cases hw : 0 ≤ who ∧ who < n
  · skip
    refine Det.sreg [] [(2, Value.int IntKind.i64 bond), (1, Value.int IntKind.i64 who), (0, Value.pointer (some { block := PK.p k, off := 0 })), (6, Value.int IntKind.i64 0)] (h) [] (by kernel_rfl) (by kernel_rfl) hX (by kernel_rfl) allp0 ?_
    refine Det.seqA (by kernel_rfl) ?_
    by_cases c2 : bond < 0
    · refine Det.sreg [(2, .m (Value.bool true) (h)), (3, .s (Value.bool true))] [(6, Value.int IntKind.i64 0), (0, Value.pointer (some { block := PK.p k, off := 0 })), (1, Value.int IntKind.i64 who), (2, Value.int IntKind.i64 bond), (25, Value.bool true)] (h) [DoesOk Try.prog 21 [Value.pointer (some { block := PK.p k, off := 0 }), Value.int IntKind.i64 who] (h) (Value.bool true) (h), (Value.bool (decide (bond < 0))) = (Value.bool true)] (by kernel_rfl) (by kernel_rfl) hX (by kernel_rfl) (allp (DetFn.known (ref_is_yes te _ k n m B C R _ (by omega) (by omega))) (allp (congrArg Value.bool (decide_eq_true (by exact c2))) allp0)) ?_
      refine Det.condT (by kernel_rfl) (true) (by kernel_rfl) rfl ?_
      refine Det.sreg [] [(25, Value.bool true), (2, Value.int IntKind.i64 bond), (1, Value.int IntKind.i64 who), (0, Value.pointer (some { block := PK.p k, off := 0 })), (6, Value.int IntKind.i64 0)] (h) [] (by kernel_rfl) (by kernel_rfl) hX (by kernel_rfl) allp0 ?_
      refine Det.retA (by kernel_rfl) ?_
      refine then_r (by kernel_rfl) ?_
      refine fin_r (Value.int IntKind.i64 0) (by kernel_rfl) (by kernel_rfl) ?_
      exact ⟨rfl, rfl⟩
    · refine Det.sreg [(2, .m (Value.bool true) (h)), (3, .s (Value.bool false)), (6, .v (Value.slice (some { block := PK.rb k, off := 0, spot := PK.sp k }) n (PK.cb k))), (0, .v (Value.pointer (some { block := PK.rb k, off := 0 }))), (0, .v (Value.slice (some { block := PK.rr k 0, off := 0 }) m m)), (1, .s (Value.bool true))] [(6, Value.int IntKind.i64 0), (0, Value.pointer (some { block := PK.p k, off := 0 })), (1, Value.int IntKind.i64 who), (2, Value.int IntKind.i64 bond), (25, Value.bool true)] (h) [DoesOk Try.prog 21 [Value.pointer (some { block := PK.p k, off := 0 }), Value.int IntKind.i64 who] (h) (Value.bool true) (h), (Value.bool (decide (bond < 0))) = (Value.bool false), aload Try.prog (h) 39 (Value.pointer (some { block := PK.p k, off := 0 })) = some (Value.slice (some { block := PK.rb k, off := 0, spot := PK.sp k }) n (PK.cb k)), aindexAddr Try.prog 39 (Value.slice (some { block := PK.rb k, off := 0, spot := PK.sp k }) n (PK.cb k)) (Value.int IntKind.i64 0) = some (Value.pointer (some { block := PK.rb k, off := 0 })), aload Try.prog (h) 38 (Value.pointer (some { block := PK.rb k, off := 0 })) = some (Value.slice (some { block := PK.rr k 0, off := 0 }) m m), (Value.bool (decide ((↑m : Int) ≤ bond))) = (Value.bool true)] (by kernel_rfl) (by kernel_rfl) hX (by kernel_rfl) (allp (DetFn.known (ref_is_yes te _ k n m B C R _ (by omega) (by omega))) (allp (congrArg Value.bool (decide_eq_false (by exact c2))) (allp (aload_cell R.gp (by kernel_rfl) (by kernel_rfl)) (allp (aindex_at (w := 1) Try.underlying39 (by kernel_rfl) (by omega) (by omega) (by omega)) (allp (aload_cell R.gb (by kernel_rfl) (hdr_zero (by omega))) (allp (congrArg Value.bool (decide_eq_true (by omega))) allp0)))))) ?_
      refine Det.condT (by kernel_rfl) (true) (by kernel_rfl) rfl ?_
      refine Det.sreg [] [(25, Value.bool true), (2, Value.int IntKind.i64 bond), (1, Value.int IntKind.i64 who), (0, Value.pointer (some { block := PK.p k, off := 0 })), (6, Value.int IntKind.i64 0)] (h) [] (by kernel_rfl) (by kernel_rfl) hX (by kernel_rfl) allp0 ?_
      refine Det.retA (by kernel_rfl) ?_
      refine then_r (by kernel_rfl) ?_
      refine fin_r (Value.int IntKind.i64 0) (by kernel_rfl) (by kernel_rfl) ?_
      exact ⟨rfl, rfl⟩
  · skip
    refine Det.sreg [] [(2, Value.int IntKind.i64 bond), (1, Value.int IntKind.i64 who), (0, Value.pointer (some { block := PK.p k, off := 0 })), (6, Value.int IntKind.i64 0)] (h) [] (by kernel_rfl) (by kernel_rfl) hX (by kernel_rfl) allp0 ?_
    refine Det.seqA (by kernel_rfl) ?_
    refine Det.sreg [(2, .m (Value.bool false) (h))] [(6, Value.int IntKind.i64 0), (0, Value.pointer (some { block := PK.p k, off := 0 })), (1, Value.int IntKind.i64 who), (2, Value.int IntKind.i64 bond), (25, Value.bool true)] (h) [DoesOk Try.prog 21 [Value.pointer (some { block := PK.p k, off := 0 }), Value.int IntKind.i64 who] (h) (Value.bool false) (h)] (by kernel_rfl) (by kernel_rfl) hX (by kernel_rfl) (allp (DetFn.known (ref_is_no te _ k n m B C R _ (by omega))) allp0) ?_
    refine Det.condT (by kernel_rfl) (true) (by kernel_rfl) rfl ?_
    refine Det.sreg [] [(25, Value.bool true), (2, Value.int IntKind.i64 bond), (1, Value.int IntKind.i64 who), (0, Value.pointer (some { block := PK.p k, off := 0 })), (6, Value.int IntKind.i64 0)] (h) [] (by kernel_rfl) (by kernel_rfl) hX (by kernel_rfl) allp0 ?_
    refine Det.retA (by kernel_rfl) ?_
    refine then_r (by kernel_rfl) ?_
    refine fin_r (Value.int IntKind.i64 0) (by kernel_rfl) (by kernel_rfl) ?_
    exact ⟨rfl, rfl⟩
theorem ref_cash_yes (te : TypeId) (h : Heap) (k : PK) (n m : Nat) (B : Nat → List Int) (C : List Int) (R : PosAt te 43 h k n m B C) (hm : 0 < m) (who : Int) (h1 : 0 ≤ who) (h2 : who < n) :
    DetFn Try.prog 14 [.pointer (some ⟨k.p, 0, none⟩), .int .i64 who] h fun v h' => v = .int .i64 (C.getD who.toNat 0) ∧ h' = h := by
  have lc := R.lc
  refine Det.enterS Try.f14 [(0, .pointer (some ⟨k.p, 0, none⟩)), (1, .int .i64 who)] Try.func14 (by kernel_rfl) (of_decide_eq_true (by kernel_rfl)) (by kernel_rfl) ?_
  refine Det.sreg [] [(1, Value.int IntKind.i64 who), (0, Value.pointer (some { block := PK.p k, off := 0 })), (4, Value.int IntKind.i64 0)] (h) [] (by kernel_rfl) (by kernel_rfl) hX (by kernel_rfl) allp0 ?_
  refine Det.seqA (by kernel_rfl) ?_
  refine Det.sreg [(2, .m (Value.bool true) (h))] [(4, Value.int IntKind.i64 0), (0, Value.pointer (some { block := PK.p k, off := 0 })), (1, Value.int IntKind.i64 who), (8, Value.bool false)] (h) [DoesOk Try.prog 21 [Value.pointer (some { block := PK.p k, off := 0 }), Value.int IntKind.i64 who] (h) (Value.bool true) (h)] (by kernel_rfl) (by kernel_rfl) hX (by kernel_rfl) (allp (DetFn.known (ref_is_yes te _ k n m B C R _ (by omega) (by omega))) allp0) ?_
  refine Det.condF (by kernel_rfl) (false) (by kernel_rfl) rfl ?_
  refine Det.skipA (by kernel_rfl) ?_
  refine then_n (by kernel_rfl) ?_
  refine Det.sreg [(3, .v (Value.slice (some { block := PK.rc k, off := 0 }) n n)), (1, .v (Value.pointer (some { block := PK.rc k, off := Int.toNat who }))), (0, .v (Value.int IntKind.i64 (List.getD C (Int.toNat who) 0)))] [(8, Value.bool false), (1, Value.int IntKind.i64 who), (0, Value.pointer (some { block := PK.p k, off := 0 })), (4, Value.int IntKind.i64 (List.getD C (Int.toNat who) 0))] (h) [aload Try.prog (h) 38 (Value.pointer (some { block := PK.p k, off := 1 })) = some (Value.slice (some { block := PK.rc k, off := 0 }) n n), aindexAddr Try.prog 38 (Value.slice (some { block := PK.rc k, off := 0 }) n n) (Value.int IntKind.i64 who) = some (Value.pointer (some { block := PK.rc k, off := Int.toNat who })), aload Try.prog (h) 2 (Value.pointer (some { block := PK.rc k, off := Int.toNat who })) = some (Value.int IntKind.i64 (List.getD C (Int.toNat who) 0))] (by kernel_rfl) (by kernel_rfl) hX (by kernel_rfl) (allp (aload_cell R.gp (by kernel_rfl) (by kernel_rfl)) (allp (aindex_at (w := 1) Try.underlying38 (by kernel_rfl) (by omega) (by omega) (by omega)) (allp (aload_cell R.gc (by kernel_rfl) (ints_get (by omega))) allp0))) ?_
  refine Det.retA (by kernel_rfl) ?_
  refine fin_r (Value.int IntKind.i64 (List.getD C (Int.toNat who) 0)) (by kernel_rfl) (by kernel_rfl) ?_
  exact ⟨rfl, rfl⟩
theorem ref_cash_no (te : TypeId) (h : Heap) (k : PK) (n m : Nat) (B : Nat → List Int) (C : List Int) (R : PosAt te 43 h k n m B C) (who : Int) (hn : ¬ (0 ≤ who ∧ who < n)) :
    DetFn Try.prog 14 [.pointer (some ⟨k.p, 0, none⟩), .int .i64 who] h fun v h' => v = .int .i64 0 ∧ h' = h := by
  refine Det.enterS Try.f14 [(0, .pointer (some ⟨k.p, 0, none⟩)), (1, .int .i64 who)] Try.func14 (by kernel_rfl) (of_decide_eq_true (by kernel_rfl)) (by kernel_rfl) ?_
  refine Det.sreg [] [(1, Value.int IntKind.i64 who), (0, Value.pointer (some { block := PK.p k, off := 0 })), (4, Value.int IntKind.i64 0)] (h) [] (by kernel_rfl) (by kernel_rfl) hX (by kernel_rfl) allp0 ?_
  refine Det.seqA (by kernel_rfl) ?_
  refine Det.sreg [(2, .m (Value.bool false) (h))] [(4, Value.int IntKind.i64 0), (0, Value.pointer (some { block := PK.p k, off := 0 })), (1, Value.int IntKind.i64 who), (8, Value.bool true)] (h) [DoesOk Try.prog 21 [Value.pointer (some { block := PK.p k, off := 0 }), Value.int IntKind.i64 who] (h) (Value.bool false) (h)] (by kernel_rfl) (by kernel_rfl) hX (by kernel_rfl) (allp (DetFn.known (ref_is_no te _ k n m B C R _ (by omega))) allp0) ?_
  refine Det.condT (by kernel_rfl) (true) (by kernel_rfl) rfl ?_
  refine Det.sreg [] [(8, Value.bool true), (1, Value.int IntKind.i64 who), (0, Value.pointer (some { block := PK.p k, off := 0 })), (4, Value.int IntKind.i64 0)] (h) [] (by kernel_rfl) (by kernel_rfl) hX (by kernel_rfl) allp0 ?_
  refine Det.retA (by kernel_rfl) ?_
  refine then_r (by kernel_rfl) ?_
  refine fin_r (Value.int IntKind.i64 0) (by kernel_rfl) (by kernel_rfl) ?_
  exact ⟨rfl, rfl⟩
end Go.Proofs.Ytpaaglcchlnnoaa.Eng
