/- What the functions of chapter 20 come to, over the engine's memory: parties and bonds of whatever number. -/
import Derived.Test.YtpaaglcchlnnoaaEngReg
import Derived.Test.YtpaaglcchlnnoaaFix
namespace Go.Proofs.Ytpaaglcchlnnoaa.Eng
open Go Go.Proofs Go.Proofs.Ytpaaglcchlnnoaa.FixMath
set_option maxRecDepth 100000
set_option maxHeartbeats 4000000
set_option linter.unusedVariables false
/-- where parties lie: the struct, the row of slices, the row of cash, of each party the row of its bonds -/
structure PK where
  p : Nat
  rb : Nat
  rc : Nat
  sp : Option Nat
  cb : Nat
  rr : Nat → Nat
def hdrs (k : PK) (n m : Nat) : List Value := (List.range n).map fun i => .slice (some ⟨k.rr i, 0, none⟩) m m
structure PosAt (te ts : TypeId) (h : Heap) (k : PK) (n m : Nat) (B : Nat → List Int) (C : List Int) : Prop where
  gp : h.get k.p = some (.row [.slice (some ⟨k.rb, 0, k.sp⟩) n k.cb, .slice (some ⟨k.rc, 0, none⟩) n n] ts)
  gb : h.get k.rb = some (.row (hdrs k n m) te)
  gc : h.get k.rc = some (.row (ints .i64 C) 2)
  gr : ∀ i, i < n → h.get (k.rr i) = some (.row (ints .i64 (B i)) 2)
  lc : C.length = n
  lb : ∀ i, i < n → (B i).length = m
  lp : k.p < h.next
  lrb : k.rb < h.next
  lrc : k.rc < h.next
  lr : ∀ i, i < n → k.rr i < h.next
theorem PosAt.new {te ts : TypeId} {h : Heap} {k : PK} {n m : Nat} {B : Nat → List Int} {C : List Int} (R : PosAt te ts h k n m B C) (t : Thing) : PosAt te ts (h.new t) k n m B C where
  gp := Heap.look_skip R.lp R.gp
  gb := Heap.look_skip R.lrb R.gb
  gc := Heap.look_skip R.lrc R.gc
  gr := fun i hi => Heap.look_skip (R.lr i hi) (R.gr i hi)
  lc := R.lc
  lb := R.lb
  lp := Nat.lt_succ_of_lt R.lp
  lrb := Nat.lt_succ_of_lt R.lrb
  lrc := Nat.lt_succ_of_lt R.lrc
  lr := fun i hi => Nat.lt_succ_of_lt (R.lr i hi)
theorem hdr_get {k : PK} {n m : Nat} {x : Int} (h0 : 0 ≤ x) (h1 : x < n) : (hdrs k n m)[x.toNat]? = some (.slice (some ⟨k.rr x.toNat, 0, none⟩) m m) := by
  have : x.toNat < n := by omega
  simp [hdrs, this]
theorem pos_is_nil (te ts : TypeId) (h : Heap) (who bond : Int) : DetFn Try.prog 16 [.pointer none, .int .i64 who, .int .i64 bond] h fun v h' => v = .bool false ∧ h' = h := by
  refine Det.enterS Try.f16 [(0, .pointer none), (1, .int .i64 who), (2, .int .i64 bond)] Try.func16 (by kernel_rfl) (of_decide_eq_true (by kernel_rfl)) (by kernel_rfl) ?_
  refine Det.sreg [] [(2, Value.int IntKind.i64 bond), (1, Value.int IntKind.i64 who), (0, Value.pointer none), (6, Value.bool false)] (h) [] (by kernel_rfl) (by kernel_rfl) hX (by kernel_rfl) allp0 ?_
  refine Det.sreg [] [(0, Value.pointer none), (1, Value.int IntKind.i64 who), (2, Value.int IntKind.i64 bond), (6, Value.bool false)] (h) [] (by kernel_rfl) (by kernel_rfl) hX (by kernel_rfl) allp0 ?_
  refine Det.retA (by kernel_rfl) ?_
  refine fin_r (Value.bool false) (by kernel_rfl) (by kernel_rfl) ?_
  exact ⟨rfl, rfl⟩
theorem pos_is_yes (te : TypeId) (h : Heap) (k : PK) (n m : Nat) (B : Nat → List Int) (C : List Int) (R : PosAt te 41 h k n m B C) (who bond : Int) (h1 : 0 ≤ who) (h2 : who < n) (h3 : 0 ≤ bond) (h4 : bond < m) :
    DetFn Try.prog 16 [.pointer (some ⟨k.p, 0, none⟩), .int .i64 who, .int .i64 bond] h fun v h' => v = .bool true ∧ h' = h := by
  refine Det.enterS Try.f16 [(0, .pointer (some ⟨k.p, 0, none⟩)), (1, .int .i64 who), (2, .int .i64 bond)] Try.func16 (by kernel_rfl) (of_decide_eq_true (by kernel_rfl)) (by kernel_rfl) ?_
  refine Det.sreg [] [(2, Value.int IntKind.i64 bond), (1, Value.int IntKind.i64 who), (0, Value.pointer (some { block := PK.p k, off := 0 })), (6, Value.bool false)] (h) [] (by kernel_rfl) (by kernel_rfl) hX (by kernel_rfl) allp0 ?_
  refine Det.sreg [(4, .s (Value.bool true)), (6, .v (Value.slice (some { block := PK.rc k, off := 0 }) n n)), (1, .s (Value.bool true)), (3, .s (Value.bool true)), (6, .v (Value.slice (some { block := PK.rb k, off := 0, spot := PK.sp k }) n (PK.cb k))), (1, .v (Value.pointer (some { block := PK.rb k, off := Int.toNat who }))), (0, .v (Value.slice (some { block := PK.rr k (Int.toNat who), off := 0 }) m m)), (1, .s (Value.bool true))] [(0, Value.pointer (some { block := PK.p k, off := 0 })), (1, Value.int IntKind.i64 who), (2, Value.int IntKind.i64 bond), (6, Value.bool true)] (h) [(Value.bool (decide (0 ≤ who))) = (Value.bool true), aload Try.prog (h) 38 (Value.pointer (some { block := PK.p k, off := 1 })) = some (Value.slice (some { block := PK.rc k, off := 0 }) n n), (Value.bool (decide (who < (↑n : Int)))) = (Value.bool true), (Value.bool (decide (0 ≤ bond))) = (Value.bool true), aload Try.prog (h) 39 (Value.pointer (some { block := PK.p k, off := 0 })) = some (Value.slice (some { block := PK.rb k, off := 0, spot := PK.sp k }) n (PK.cb k)), aindexAddr Try.prog 39 (Value.slice (some { block := PK.rb k, off := 0, spot := PK.sp k }) n (PK.cb k)) (Value.int IntKind.i64 who) = some (Value.pointer (some { block := PK.rb k, off := Int.toNat who })), aload Try.prog (h) 38 (Value.pointer (some { block := PK.rb k, off := Int.toNat who })) = some (Value.slice (some { block := PK.rr k (Int.toNat who), off := 0 }) m m), (Value.bool (decide (bond < (↑m : Int)))) = (Value.bool true)] (by kernel_rfl) (by kernel_rfl) hX (by kernel_rfl) (allp (congrArg Value.bool (decide_eq_true (by exact h1))) (allp (aload_cell R.gp (by kernel_rfl) (by kernel_rfl)) (allp (congrArg Value.bool (decide_eq_true (by exact h2))) (allp (congrArg Value.bool (decide_eq_true (by exact h3))) (allp (aload_cell R.gp (by kernel_rfl) (by kernel_rfl)) (allp (aindex_at (w := 1) Try.underlying39 (by kernel_rfl) (by omega) (by omega) (by omega)) (allp (aload_cell R.gb (by kernel_rfl) (hdr_get (by omega) (by omega))) (allp (congrArg Value.bool (decide_eq_true (by exact h4))) allp0)))))))) ?_
  refine Det.retA (by kernel_rfl) ?_
  refine fin_r (Value.bool true) (by kernel_rfl) (by kernel_rfl) ?_
  exact ⟨rfl, rfl⟩
theorem pos_is_no (te : TypeId) (h : Heap) (k : PK) (n m : Nat) (B : Nat → List Int) (C : List Int) (R : PosAt te 41 h k n m B C) (who bond : Int) (hn : who < 0 ∨ (n : Int) ≤ who ∨ bond < 0 ∨ (m : Int) ≤ bond) :
    DetFn Try.prog 16 [.pointer (some ⟨k.p, 0, none⟩), .int .i64 who, .int .i64 bond] h fun v h' => v = .bool false ∧ h' = h := by
  refine Det.enterS Try.f16 [(0, .pointer (some ⟨k.p, 0, none⟩)), (1, .int .i64 who), (2, .int .i64 bond)] Try.func16 (by kernel_rfl) (of_decide_eq_true (by kernel_rfl)) (by kernel_rfl) ?_
  refine Det.sreg [] [(2, Value.int IntKind.i64 bond), (1, Value.int IntKind.i64 who), (0, Value.pointer (some { block := PK.p k, off := 0 })), (6, Value.bool false)] (h) [] (by kernel_rfl) (by kernel_rfl) hX (by kernel_rfl) allp0 ?_
  by_cases c1 : 0 ≤ who
  · by_cases c2 : who < (↑n : Int)
    · by_cases c3 : 0 ≤ bond
      · refine Det.sreg [(4, .s (Value.bool true)), (6, .v (Value.slice (some { block := PK.rc k, off := 0 }) n n)), (1, .s (Value.bool true)), (3, .s (Value.bool true)), (6, .v (Value.slice (some { block := PK.rb k, off := 0, spot := PK.sp k }) n (PK.cb k))), (1, .v (Value.pointer (some { block := PK.rb k, off := Int.toNat who }))), (0, .v (Value.slice (some { block := PK.rr k (Int.toNat who), off := 0 }) m m)), (1, .s (Value.bool false))] [(0, Value.pointer (some { block := PK.p k, off := 0 })), (1, Value.int IntKind.i64 who), (2, Value.int IntKind.i64 bond), (6, Value.bool false)] (h) [(Value.bool (decide (0 ≤ who))) = (Value.bool true), aload Try.prog (h) 38 (Value.pointer (some { block := PK.p k, off := 1 })) = some (Value.slice (some { block := PK.rc k, off := 0 }) n n), (Value.bool (decide (who < (↑n : Int)))) = (Value.bool true), (Value.bool (decide (0 ≤ bond))) = (Value.bool true), aload Try.prog (h) 39 (Value.pointer (some { block := PK.p k, off := 0 })) = some (Value.slice (some { block := PK.rb k, off := 0, spot := PK.sp k }) n (PK.cb k)), aindexAddr Try.prog 39 (Value.slice (some { block := PK.rb k, off := 0, spot := PK.sp k }) n (PK.cb k)) (Value.int IntKind.i64 who) = some (Value.pointer (some { block := PK.rb k, off := Int.toNat who })), aload Try.prog (h) 38 (Value.pointer (some { block := PK.rb k, off := Int.toNat who })) = some (Value.slice (some { block := PK.rr k (Int.toNat who), off := 0 }) m m), (Value.bool (decide (bond < (↑m : Int)))) = (Value.bool false)] (by kernel_rfl) (by kernel_rfl) hX (by kernel_rfl) (allp (congrArg Value.bool (decide_eq_true (by exact c1))) (allp (aload_cell R.gp (by kernel_rfl) (by kernel_rfl)) (allp (congrArg Value.bool (decide_eq_true (by exact c2))) (allp (congrArg Value.bool (decide_eq_true (by exact c3))) (allp (aload_cell R.gp (by kernel_rfl) (by kernel_rfl)) (allp (aindex_at (w := 1) Try.underlying39 (by kernel_rfl) (by omega) (by omega) (by omega)) (allp (aload_cell R.gb (by kernel_rfl) (hdr_get (by omega) (by omega))) (allp (congrArg Value.bool (decide_eq_false (by omega))) allp0)))))))) ?_
        refine Det.retA (by kernel_rfl) ?_
        refine fin_r (Value.bool false) (by kernel_rfl) (by kernel_rfl) ?_
        exact ⟨rfl, rfl⟩
      · refine Det.sreg [(4, .s (Value.bool true)), (6, .v (Value.slice (some { block := PK.rc k, off := 0 }) n n)), (1, .s (Value.bool true)), (3, .s (Value.bool false))] [(0, Value.pointer (some { block := PK.p k, off := 0 })), (1, Value.int IntKind.i64 who), (2, Value.int IntKind.i64 bond), (6, Value.bool false)] (h) [(Value.bool (decide (0 ≤ who))) = (Value.bool true), aload Try.prog (h) 38 (Value.pointer (some { block := PK.p k, off := 1 })) = some (Value.slice (some { block := PK.rc k, off := 0 }) n n), (Value.bool (decide (who < (↑n : Int)))) = (Value.bool true), (Value.bool (decide (0 ≤ bond))) = (Value.bool false)] (by kernel_rfl) (by kernel_rfl) hX (by kernel_rfl) (allp (congrArg Value.bool (decide_eq_true (by exact c1))) (allp (aload_cell R.gp (by kernel_rfl) (by kernel_rfl)) (allp (congrArg Value.bool (decide_eq_true (by exact c2))) (allp (congrArg Value.bool (decide_eq_false (by exact c3))) allp0)))) ?_
        refine Det.retA (by kernel_rfl) ?_
        refine fin_r (Value.bool false) (by kernel_rfl) (by kernel_rfl) ?_
        exact ⟨rfl, rfl⟩
    · refine Det.sreg [(4, .s (Value.bool true)), (6, .v (Value.slice (some { block := PK.rc k, off := 0 }) n n)), (1, .s (Value.bool false))] [(0, Value.pointer (some { block := PK.p k, off := 0 })), (1, Value.int IntKind.i64 who), (2, Value.int IntKind.i64 bond), (6, Value.bool false)] (h) [(Value.bool (decide (0 ≤ who))) = (Value.bool true), aload Try.prog (h) 38 (Value.pointer (some { block := PK.p k, off := 1 })) = some (Value.slice (some { block := PK.rc k, off := 0 }) n n), (Value.bool (decide (who < (↑n : Int)))) = (Value.bool false)] (by kernel_rfl) (by kernel_rfl) hX (by kernel_rfl) (allp (congrArg Value.bool (decide_eq_true (by exact c1))) (allp (aload_cell R.gp (by kernel_rfl) (by kernel_rfl)) (allp (congrArg Value.bool (decide_eq_false (by exact c2))) allp0))) ?_
      refine Det.retA (by kernel_rfl) ?_
      refine fin_r (Value.bool false) (by kernel_rfl) (by kernel_rfl) ?_
      exact ⟨rfl, rfl⟩
  · refine Det.sreg [(4, .s (Value.bool false))] [(0, Value.pointer (some { block := PK.p k, off := 0 })), (1, Value.int IntKind.i64 who), (2, Value.int IntKind.i64 bond), (6, Value.bool false)] (h) [(Value.bool (decide (0 ≤ who))) = (Value.bool false)] (by kernel_rfl) (by kernel_rfl) hX (by kernel_rfl) (allp (congrArg Value.bool (decide_eq_false (by exact c1))) allp0) ?_
    refine Det.retA (by kernel_rfl) ?_
    refine fin_r (Value.bool false) (by kernel_rfl) (by kernel_rfl) ?_
    exact ⟨rfl, rfl⟩
/-- .. and apart -/
structure PosIn (h : Heap) (k : PK) (n m : Nat) (B : Nat → List Int) (C : List Int) (te ts : TypeId) : Prop extends PosAt te ts h k n m B C where
  dp : k.p ≠ k.rc ∧ k.p ≠ k.rb ∧ k.rb ≠ k.rc
  dr : ∀ i, i < n → k.rr i ≠ k.p ∧ k.rr i ≠ k.rb ∧ k.rr i ≠ k.rc
  dd : ∀ i j, i < n → j < n → i ≠ j → k.rr i ≠ k.rr j
def I64 (n : Int) : Prop := -9223372036854775808 ≤ n ∧ n ≤ 9223372036854775807
/-- may a trade be put? -/
def mayPut (n m : Nat) (bond buyer seller price qty : Int) : Prop := 0 ≤ buyer ∧ buyer < n ∧ 0 ≤ seller ∧ seller < n ∧ 0 ≤ bond ∧ bond < m ∧ buyer ≠ seller ∧ 1 ≤ price ∧ 1 ≤ qty
end Go.Proofs.Ytpaaglcchlnnoaa.Eng
