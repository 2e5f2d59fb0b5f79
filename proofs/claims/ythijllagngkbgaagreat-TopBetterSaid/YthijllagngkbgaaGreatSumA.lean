/- The sum of bytes, over the engine's memory. -/
import Derived.Test.YthijllagngkbgaaGreatEngView
import Derived.Test.YthijllagngkbgaaGreatProg
import Derived.Test.YthijllagngkbgaaGreatChecked
import Derived.IntWalk
namespace Go.Proofs.YthijllagngkbgaaGreat.Eng
open Go Go.Proofs
set_option maxRecDepth 100000
set_option maxHeartbeats 4000000
set_option linter.unusedVariables false
theorem hmix : Tryz.prog.follows .mixedOrders = true := by kernel_rfl
theorem hX : ExtOk Tryz.prog noExt := noExt_ok
def lowI (s b : Int) : Int := Int.tmod (IntKind.wrap IntKind.u32 (IntKind.wrap IntKind.u32 (bits BinOp.and IntKind.u32 s 65535 + b) + 1)) 65521
def nextI (s b : Int) : Int := bits BinOp.or IntKind.u32 (IntKind.wrap IntKind.u32 (Int.tmod (IntKind.wrap IntKind.u32 (Int.fdiv s 65536 + lowI s b)) 65521 * 65536)) (lowI s b)
theorem nextI_range (s b : Int) : 0 ≤ nextI s b ∧ nextI s b < 4294967296 := by
  show 0 ≤ IntKind.u32.wrap _ ∧ IntKind.u32.wrap _ < 4294967296
  rw [wrapU32]; omega
theorem sum_next (s b : Int) (hs : 0 ≤ s) (hs2 : s < 4294967296) (hb : 0 ≤ b) (hb2 : b < 256) (h : Heap) : DetFn Tryz.prog 208 [.int .u32 s, .int .u8 b] h
    fun v h' => v = .int .u32 (nextI s b) ∧ h' = h := by
  refine DetFn.quiet (bare_any (d := 4) (by kernel_rfl)) ?_
  refine Det.enterS Tryz.f208 [(0, .int .u32 s), (1, .int .u8 b)] Tryz.func208 (by kernel_rfl) (of_decide_eq_true (by kernel_rfl)) (by kernel_rfl) ?_
  refine Det.sreg [] [(1, Value.int IntKind.u8 b), (0, Value.int IntKind.u32 s), (4, Value.int IntKind.u32 0)] (h) [] (by kernel_rfl) (by kernel_rfl) hX (by kernel_rfl) allp0 ?_
  refine Det.sreg [(3, .s (Value.int IntKind.u32 b))] [(4, Value.int IntKind.u32 0), (0, Value.int IntKind.u32 s), (1, Value.int IntKind.u8 b), (5, Value.int IntKind.u32 (Int.tmod (IntKind.wrap IntKind.u32 (IntKind.wrap IntKind.u32 (bits BinOp.and IntKind.u32 s 65535 + b) + 1)) 65521))] (h) [(Value.int IntKind.u32 (IntKind.wrap IntKind.u32 b)) = (Value.int IntKind.u32 b)] (by kernel_rfl) (by kernel_rfl) hX (by kernel_rfl) (allp (congrArg _ (by (rw [wrapU32]; omega))) allp0) ?_
  refine Det.sreg [] [(5, Value.int IntKind.u32 (Int.tmod (IntKind.wrap IntKind.u32 (IntKind.wrap IntKind.u32 (bits BinOp.and IntKind.u32 s 65535 + b) + 1)) 65521)), (1, Value.int IntKind.u8 b), (0, Value.int IntKind.u32 s), (4, Value.int IntKind.u32 0), (6, Value.int IntKind.u32 (Int.tmod (IntKind.wrap IntKind.u32 (Int.fdiv s 65536 + Int.tmod (IntKind.wrap IntKind.u32 (IntKind.wrap IntKind.u32 (bits BinOp.and IntKind.u32 s 65535 + b) + 1)) 65521)) 65521))] (h) [] (by kernel_rfl) (by kernel_rfl) hX (by kernel_rfl) allp0 ?_
  refine Det.sreg [] [(6, Value.int IntKind.u32 (Int.tmod (IntKind.wrap IntKind.u32 (Int.fdiv s 65536 + Int.tmod (IntKind.wrap IntKind.u32 (IntKind.wrap IntKind.u32 (bits BinOp.and IntKind.u32 s 65535 + b) + 1)) 65521)) 65521)), (0, Value.int IntKind.u32 s), (1, Value.int IntKind.u8 b), (5, Value.int IntKind.u32 (Int.tmod (IntKind.wrap IntKind.u32 (IntKind.wrap IntKind.u32 (bits BinOp.and IntKind.u32 s 65535 + b) + 1)) 65521)), (4, Value.int IntKind.u32 (bits BinOp.or IntKind.u32 (IntKind.wrap IntKind.u32 (Int.tmod (IntKind.wrap IntKind.u32 (Int.fdiv s 65536 + Int.tmod (IntKind.wrap IntKind.u32 (IntKind.wrap IntKind.u32 (bits BinOp.and IntKind.u32 s 65535 + b) + 1)) 65521)) 65521 * 65536)) (Int.tmod (IntKind.wrap IntKind.u32 (IntKind.wrap IntKind.u32 (bits BinOp.and IntKind.u32 s 65535 + b) + 1)) 65521)))] (h) [] (by kernel_rfl) (by kernel_rfl) hX (by kernel_rfl) allp0 ?_
  refine Det.retA (by kernel_rfl) ?_
  refine fin_r (Value.int IntKind.u32 (bits BinOp.or IntKind.u32 (IntKind.wrap IntKind.u32 (Int.tmod (IntKind.wrap IntKind.u32 (Int.fdiv s 65536 + Int.tmod (IntKind.wrap IntKind.u32 (IntKind.wrap IntKind.u32 (bits BinOp.and IntKind.u32 s 65535 + b) + 1)) 65521)) 65521 * 65536)) (Int.tmod (IntKind.wrap IntKind.u32 (IntKind.wrap IntKind.u32 (bits BinOp.and IntKind.u32 s 65535 + b) + 1)) 65521))) (by kernel_rfl) (by kernel_rfl) ?_
  exact ⟨rfl, by repeat (first | exact Keep.refl _ | assumption | (refine Keep.new ?_) | (refine Keep.own (by first | omega | ((repeat (first | simp only [Heap.next_new] | simp only [Heap.next_put] | simp only [Heap.next_kill] | simp only [ownH_next])); omega)) ?_) | (refine Keep.dead (by first | omega | ((repeat (first | simp only [Heap.next_new] | simp only [Heap.next_put] | simp only [Heap.next_kill] | simp only [ownH_next])); omega)) ?_) | (refine Keep.app ?_) | (refine Keep.ownH (fun _ => (by first | omega | ((repeat (first | simp only [Heap.next_new] | simp only [Heap.next_put] | simp only [Heap.next_kill] | simp only [ownH_next])); omega))) ?_) | (refine Keep.twice (by first | exact trel_ints | exact trel_flat rfl | assumption) ?_) | (refine Keep.put (by first | exact trel_ints | exact trel_flat rfl | assumption) ?_))⟩
theorem ref_next (s b : Int) (hs : 0 ≤ s) (hs2 : s < 4294967296) (hb : 0 ≤ b) (hb2 : b < 256) (h : Heap) : DetFn Tryz.prog 147 [.int .u32 s, .int .u8 b] h
    fun v h' => v = .int .u32 (nextI s b) ∧ h' = h := by
  refine DetFn.quiet (bare_any (d := 4) (by kernel_rfl)) ?_
  refine Det.enterS Tryz.f147 [(0, .int .u32 s), (1, .int .u8 b)] Tryz.func147 (by kernel_rfl) (of_decide_eq_true (by kernel_rfl)) (by kernel_rfl) ?_
  refine Det.sreg [] [(1, Value.int IntKind.u8 b), (0, Value.int IntKind.u32 s), (4, Value.int IntKind.u32 0)] (h) [] (by kernel_rfl) (by kernel_rfl) hX (by kernel_rfl) allp0 ?_
  refine Det.sreg [(3, .s (Value.int IntKind.u32 b))] [(4, Value.int IntKind.u32 0), (0, Value.int IntKind.u32 s), (1, Value.int IntKind.u8 b), (5, Value.int IntKind.u32 (Int.tmod (IntKind.wrap IntKind.u32 (IntKind.wrap IntKind.u32 (bits BinOp.and IntKind.u32 s 65535 + b) + 1)) 65521))] (h) [(Value.int IntKind.u32 (IntKind.wrap IntKind.u32 b)) = (Value.int IntKind.u32 b)] (by kernel_rfl) (by kernel_rfl) hX (by kernel_rfl) (allp (congrArg _ (by (rw [wrapU32]; omega))) allp0) ?_
  refine Det.sreg [] [(5, Value.int IntKind.u32 (Int.tmod (IntKind.wrap IntKind.u32 (IntKind.wrap IntKind.u32 (bits BinOp.and IntKind.u32 s 65535 + b) + 1)) 65521)), (1, Value.int IntKind.u8 b), (0, Value.int IntKind.u32 s), (4, Value.int IntKind.u32 0), (6, Value.int IntKind.u32 (Int.tmod (IntKind.wrap IntKind.u32 (Int.fdiv s 65536 + Int.tmod (IntKind.wrap IntKind.u32 (IntKind.wrap IntKind.u32 (bits BinOp.and IntKind.u32 s 65535 + b) + 1)) 65521)) 65521))] (h) [] (by kernel_rfl) (by kernel_rfl) hX (by kernel_rfl) allp0 ?_
  refine Det.sreg [] [(6, Value.int IntKind.u32 (Int.tmod (IntKind.wrap IntKind.u32 (Int.fdiv s 65536 + Int.tmod (IntKind.wrap IntKind.u32 (IntKind.wrap IntKind.u32 (bits BinOp.and IntKind.u32 s 65535 + b) + 1)) 65521)) 65521)), (0, Value.int IntKind.u32 s), (1, Value.int IntKind.u8 b), (5, Value.int IntKind.u32 (Int.tmod (IntKind.wrap IntKind.u32 (IntKind.wrap IntKind.u32 (bits BinOp.and IntKind.u32 s 65535 + b) + 1)) 65521)), (4, Value.int IntKind.u32 (bits BinOp.or IntKind.u32 (IntKind.wrap IntKind.u32 (Int.tmod (IntKind.wrap IntKind.u32 (Int.fdiv s 65536 + Int.tmod (IntKind.wrap IntKind.u32 (IntKind.wrap IntKind.u32 (bits BinOp.and IntKind.u32 s 65535 + b) + 1)) 65521)) 65521 * 65536)) (Int.tmod (IntKind.wrap IntKind.u32 (IntKind.wrap IntKind.u32 (bits BinOp.and IntKind.u32 s 65535 + b) + 1)) 65521)))] (h) [] (by kernel_rfl) (by kernel_rfl) hX (by kernel_rfl) allp0 ?_
  refine Det.retA (by kernel_rfl) ?_
  refine fin_r (Value.int IntKind.u32 (bits BinOp.or IntKind.u32 (IntKind.wrap IntKind.u32 (Int.tmod (IntKind.wrap IntKind.u32 (Int.fdiv s 65536 + Int.tmod (IntKind.wrap IntKind.u32 (IntKind.wrap IntKind.u32 (bits BinOp.and IntKind.u32 s 65535 + b) + 1)) 65521)) 65521 * 65536)) (Int.tmod (IntKind.wrap IntKind.u32 (IntKind.wrap IntKind.u32 (bits BinOp.and IntKind.u32 s 65535 + b) + 1)) 65521))) (by kernel_rfl) (by kernel_rfl) ?_
  exact ⟨rfl, by repeat (first | exact Keep.refl _ | assumption | (refine Keep.new ?_) | (refine Keep.own (by first | omega | ((repeat (first | simp only [Heap.next_new] | simp only [Heap.next_put] | simp only [Heap.next_kill] | simp only [ownH_next])); omega)) ?_) | (refine Keep.dead (by first | omega | ((repeat (first | simp only [Heap.next_new] | simp only [Heap.next_put] | simp only [Heap.next_kill] | simp only [ownH_next])); omega)) ?_) | (refine Keep.app ?_) | (refine Keep.ownH (fun _ => (by first | omega | ((repeat (first | simp only [Heap.next_new] | simp only [Heap.next_put] | simp only [Heap.next_kill] | simp only [ownH_next])); omega))) ?_) | (refine Keep.twice (by first | exact trel_ints | exact trel_flat rfl | assumption) ?_) | (refine Keep.put (by first | exact trel_ints | exact trel_flat rfl | assumption) ?_))⟩
def sumTo (c : List Value) (s : Int) : Nat → Int
  | 0 => s
  | i + 1 => nextI (sumTo c s i) (nAt c i)
theorem sumTo_range (c : List Value) {s : Int} (h0 : 0 ≤ s) (h1 : s < 4294967296) : ∀ n, 0 ≤ sumTo c s n ∧ sumTo c s n < 4294967296
  | 0 => ⟨h0, h1⟩
  | n + 1 => nextI_range _ _
def byteK : List SK := [.int .u8]
theorem byte_load {h : Heap} {a : Option Addr} {n c r o j q : Nat} {cells : List Value} (v : View h byteK a n c r o cells) (hj : j < n) (hq : q = o + j) :
    aload Tryz.prog h 5 (.pointer (some ⟨r, q, none⟩)) = some (.int .u8 (nAt cells j)) := by
  have := v.cell (P := Tryz.prog) (t := 5) (j := j) (p := 0) (q := q) (k := .u8) (by kernel_rfl) hj rfl (by rw [hq]; simp [byteK])
  simpa [byteK] using this
theorem byte_range {h : Heap} {a : Option Addr} {n c r o j : Nat} {cells : List Value} (v : View h byteK a n c r o cells) (hj : j < n) : 0 ≤ nAt cells j ∧ nAt cells j < 256 := by
  have h1 := v.els.wf (j := j) (q := 0) (k := .u8) hj rfl
  simp only [byteK, List.length_cons, List.length_nil, Nat.zero_add, Nat.mul_one, Nat.add_zero] at h1
  have h2 : IntKind.u8.min ≤ nAt cells j ∧ nAt cells j ≤ IntKind.u8.max := by simpa [Lit.wf] using h1
  have e1 : IntKind.u8.min = 0 := by kernel_rfl
  have e2 : IntKind.u8.max = 255 := by kernel_rfl
  omega
/-- the sum of one row -/
theorem ref_sum (h : Heap) {a : Option Addr} {n c r o : Nat} {cells : List Value} (v : View h byteK a n c r o cells) (hn : n ≤ 4000) : DetFn Tryz.prog 89 [.slice a n c] h fun u h' => u = .int .u32 (sumTo cells 0 n) ∧ h' = h := by
  refine DetFn.quiet (bare_any (d := 4) (by kernel_rfl)) ?_
  refine Det.enterS Tryz.f89 [(0, .slice a n c)] Tryz.func89 (by kernel_rfl) (of_decide_eq_true (by kernel_rfl)) (by kernel_rfl) ?_
  refine Det.sreg [] [(0, Value.slice a n c), (2, Value.int IntKind.u32 0)] (h) [] (by kernel_rfl) (by kernel_rfl) hX (by kernel_rfl) allp0 ?_
  refine Det.sreg [] [(2, Value.int IntKind.u32 0), (0, Value.slice a n c), (3, Value.int IntKind.u32 0)] (h) [] (by kernel_rfl) (by kernel_rfl) hX (by kernel_rfl) allp0 ?_
  refine Det.seqA (by kernel_rfl) ?_
  refine Det.sreg [] [(3, Value.int IntKind.u32 0), (0, Value.slice a n c), (2, Value.int IntKind.u32 0), (4, Value.int IntKind.i64 0)] (h) [] (by kernel_rfl) (by kernel_rfl) hX (by kernel_rfl) allp0 ?_
  refine Det.blockA (by kernel_rfl) ?_
  refine Det.loopA (by kernel_rfl) (fun x : Nat => n - x) (fun x => slots [(3, .int .u32 (sumTo cells 0 x)), (0, .slice a n c), (2, .int .u32 0), (4, .int .i64 (x : Int))]) (fun x g => x ≤ n ∧ h = g) 0 (slots_sub (by kernel_rfl)) ⟨Nat.zero_le _, rfl⟩ ?_
  (rintro i g ⟨hi, hg⟩; subst hg; have rg := sumTo_range cells (s := 0) (by omega) (by omega) i)
  refine Det.seqA (by kernel_rfl) ?_
  refine Det.sreg [] [(4, Value.int IntKind.i64 (↑i : Int)), (2, Value.int IntKind.u32 0), (3, Value.int IntKind.u32 (sumTo cells 0 i)), (0, Value.slice a n c), (8, Value.bool (decide ((↑i : Int) < (↑n : Int))))] (h) [] (by kernel_rfl) (by kernel_rfl) hX (by kernel_rfl) allp0 ?_
  by_cases c8 : (↑i : Int) < (↑n : Int)
  · refine Det.condT (by kernel_rfl) (decide ((↑i : Int) < (↑n : Int))) (by kernel_rfl) (decide_eq_true (by exact c8)) ?_
    refine Det.skipA (by kernel_rfl) ?_
    refine then_n (by kernel_rfl) ?_
    refine Det.seqA (by kernel_rfl) ?_
    refine Det.blockA (by kernel_rfl) ?_
    refine Det.reg [(3, .v (Value.pointer (some { block := r, off := o + i }))), (0, .v (Value.int IntKind.u8 (nAt cells i))), (0, .m (Value.int IntKind.u32 (nextI (sumTo cells 0 i) (nAt cells i))) (h))] [(8, Value.bool (decide ((↑i : Int) < (↑n : Int)))), (0, Value.slice a n c), (2, Value.int IntKind.u32 0), (4, Value.int IntKind.i64 (↑i : Int)), (3, Value.int IntKind.u32 (nextI (sumTo cells 0 i) (nAt cells i)))] (h) [aindexAddr Tryz.prog 24 (Value.slice a n c) (Value.int IntKind.i64 (↑i : Int)) = some (Value.pointer (some { block := r, off := o + i })), aload Tryz.prog (h) 5 (Value.pointer (some { block := r, off := o + i })) = some (Value.int IntKind.u8 (nAt cells i)), DoesOk Tryz.prog 147 [Value.int IntKind.u32 (sumTo cells 0 i), Value.int IntKind.u8 (nAt cells i)] (h) (Value.int IntKind.u32 (nextI (sumTo cells 0 i) (nAt cells i))) (h)] (by kernel_rfl) hX (by kernel_rfl) (allp (v.index Tryz.underlying24 (w := 1) (by kernel_rfl) (by omega) (by omega) (by first | rfl | omega)) (allp (byte_load v (j := i) (by omega) (by omega)) (allp (DetFn.known (ref_next _ _ rg.1 rg.2 (byte_range v (j := i) (by omega)).1 (byte_range v (j := i) (by omega)).2 _)) allp0))) ?_
    refine then_n (by kernel_rfl) ?_
    refine Det.reg [(1, .s (Value.int IntKind.i64 ((↑i : Int) + 1)))] [(3, Value.int IntKind.u32 (nextI (sumTo cells 0 i) (nAt cells i))), (2, Value.int IntKind.u32 0), (0, Value.slice a n c), (8, Value.bool (decide ((↑i : Int) < (↑n : Int)))), (4, Value.int IntKind.i64 ((↑i : Int) + 1))] (h) [(Value.int IntKind.i64 (IntKind.wrap IntKind.i64 ((↑i : Int) + 1))) = (Value.int IntKind.i64 ((↑i : Int) + 1))] (by kernel_rfl) hX (by kernel_rfl) (allp (congrArg _ (by (rw [IntKind.wrap_i64]; omega))) allp0) ?_
    refine then_n (by kernel_rfl) ?_
    exact ⟨i + 1, (show n - (i + 1) < n - i by omega), slots_sub (by kernel_rfl), (show i + 1 ≤ n by omega), rfl⟩
  · refine Det.condF (by kernel_rfl) (decide ((↑i : Int) < (↑n : Int))) (by kernel_rfl) (decide_eq_false (by exact c8)) ?_
    refine Det.exitA (by kernel_rfl) ?_
    refine then_x 0 (by kernel_rfl) ?_
    refine then_x 0 (by kernel_rfl) ?_
    refine then_n (by kernel_rfl) ?_
    refine Det.sreg [] [(8, Value.bool (decide ((↑i : Int) < (↑n : Int)))), (0, Value.slice a n c), (3, Value.int IntKind.u32 (sumTo cells 0 i)), (4, Value.int IntKind.i64 (↑i : Int)), (2, Value.int IntKind.u32 (sumTo cells 0 i))] (h) [] (by kernel_rfl) (by kernel_rfl) hX (by kernel_rfl) allp0 ?_
    refine Det.retA (by kernel_rfl) ?_
    refine fin_r (Value.int IntKind.u32 (sumTo cells 0 i)) (by kernel_rfl) (by kernel_rfl) ?_
    exact ⟨by rw [show i = n by omega], (by repeat (first | exact Keep.refl _ | assumption | (refine Keep.new ?_) | (refine Keep.own (by first | omega | ((repeat (first | simp only [Heap.next_new] | simp only [Heap.next_put] | simp only [Heap.next_kill] | simp only [ownH_next])); omega)) ?_) | (refine Keep.dead (by first | omega | ((repeat (first | simp only [Heap.next_new] | simp only [Heap.next_put] | simp only [Heap.next_kill] | simp only [ownH_next])); omega)) ?_) | (refine Keep.app ?_) | (refine Keep.ownH (fun _ => (by first | omega | ((repeat (first | simp only [Heap.next_new] | simp only [Heap.next_put] | simp only [Heap.next_kill] | simp only [ownH_next])); omega))) ?_) | (refine Keep.twice (by first | exact trel_ints | exact trel_flat rfl | assumption) ?_) | (refine Keep.put (by first | exact trel_ints | exact trel_flat rfl | assumption) ?_)))⟩
/-- the sum of rows -/
def sumRows (A : Nat → List Value) (M : Nat → Nat) : Nat → Int
  | 0 => 0
  | k + 1 => sumTo (A k) (sumRows A M k) (M k)
theorem sumRows_range (A : Nat → List Value) (M : Nat → Nat) : ∀ n, 0 ≤ sumRows A M n ∧ sumRows A M n < 4294967296
  | 0 => ⟨by unfold sumRows; omega, by unfold sumRows; omega⟩
  | n + 1 => sumTo_range _ (sumRows_range A M n).1 (sumRows_range A M n).2 _
theorem hdr_load {h : Heap} {r e k q : Nat} {hd : List Value} {v : Value} (hr : h.get r = some (.row hd e)) (hk : hd[k]? = some v) (hq : q = k) : aload Tryz.prog h 24 (.pointer (some ⟨r, q, none⟩)) = some v := by
  subst hq
  exact aload_cell hr (by kernel_rfl) hk
theorem sum_Of (h : Heap) {r e n c : Nat} {sp : Option Nat} {hd : List Value} {A : Nat → Option Addr} {M C R O : Nat → Nat} {L : Nat → List Value} (hr : h.get r = some (.row hd e)) (hn : n ≤ 4000) (hhd : ∀ k, k < n → hd[k]? = some (.slice (A k) (M k) (C k)))
    (v : ∀ k, k < n → View h byteK (A k) (M k) (C k) (R k) (O k) (L k)) (hm : ∀ k, k < n → M k ≤ 4000) : DetFn Tryz.prog 157 [.slice (some ⟨r, 0, sp⟩) n c] h fun u h' => u = .int .u32 (sumRows L M n) ∧ h' = h := by
  refine DetFn.quiet (bare_any (d := 4) (by kernel_rfl)) ?_
  refine Det.enterS Tryz.f157 [(0, .slice (some ⟨r, 0, sp⟩) n c)] Tryz.func157 (by kernel_rfl) (of_decide_eq_true (by kernel_rfl)) (by kernel_rfl) ?_
  refine Det.sreg [] [(0, Value.slice (some { block := r, off := 0, spot := sp }) n c), (2, Value.int IntKind.u32 0)] (h) [] (by kernel_rfl) (by kernel_rfl) hX (by kernel_rfl) allp0 ?_
  refine Det.sreg [] [(2, Value.int IntKind.u32 0), (0, Value.slice (some { block := r, off := 0, spot := sp }) n c), (3, Value.int IntKind.u32 0)] (h) [] (by kernel_rfl) (by kernel_rfl) hX (by kernel_rfl) allp0 ?_
  refine Det.seqA (by kernel_rfl) ?_
  refine Det.sreg [] [(3, Value.int IntKind.u32 0), (0, Value.slice (some { block := r, off := 0, spot := sp }) n c), (2, Value.int IntKind.u32 0), (8, Value.slice (some { block := r, off := 0, spot := sp }) n c), (9, Value.int IntKind.i64 (↑n : Int)), (10, Value.int IntKind.i64 0)] (h) [] (by kernel_rfl) (by kernel_rfl) hX (by kernel_rfl) allp0 ?_
  refine Det.blockA (by kernel_rfl) ?_
  refine Det.loopA (by kernel_rfl) (fun x : Nat => n - x) (fun x => slots [(3, .int .u32 (sumRows L M x)), (0, .slice (some ⟨r, 0, sp⟩) n c), (2, .int .u32 0), (8, .slice (some ⟨r, 0, sp⟩) n c), (9, .int .i64 (n : Int)), (10, .int .i64 (x : Int))]) (fun x g => x ≤ n ∧ h = g) 0 (slots_sub (by kernel_rfl)) ⟨Nat.zero_le _, rfl⟩ ?_
  (rintro k g ⟨hk, hg⟩; subst hg; have rg := sumRows_range L M k)
  refine Det.sreg [] [(10, Value.int IntKind.i64 (↑k : Int)), (8, Value.slice (some { block := r, off := 0, spot := sp }) n c), (2, Value.int IntKind.u32 0), (9, Value.int IntKind.i64 (↑n : Int)), (3, Value.int IntKind.u32 (sumRows L M k)), (0, Value.slice (some { block := r, off := 0, spot := sp }) n c), (11, Value.bool (decide ((↑k : Int) < (↑n : Int))))] (h) [] (by kernel_rfl) (by kernel_rfl) hX (by kernel_rfl) allp0 ?_
  refine Det.seqA (by kernel_rfl) ?_
  by_cases c8 : (↑k : Int) < (↑n : Int)
  · refine Det.condT (by kernel_rfl) (decide ((↑k : Int) < (↑n : Int))) (by kernel_rfl) (decide_eq_true (by exact c8)) ?_
    refine Det.skipA (by kernel_rfl) ?_
    refine then_n (by kernel_rfl) ?_
    refine Det.seqA (by kernel_rfl) ?_
    refine Det.blockA (by kernel_rfl) ?_
    refine Det.sreg [(0, .v (Value.pointer (some { block := r, off := k }))), (0, .v (Value.slice (A k) (M k) (C k)))] [(11, Value.bool (decide ((↑k : Int) < (↑n : Int)))), (0, Value.slice (some { block := r, off := 0, spot := sp }) n c), (3, Value.int IntKind.u32 (sumRows L M k)), (9, Value.int IntKind.i64 (↑n : Int)), (2, Value.int IntKind.u32 0), (8, Value.slice (some { block := r, off := 0, spot := sp }) n c), (10, Value.int IntKind.i64 (↑k : Int)), (5, Value.slice (A k) (M k) (C k))] (h) [aindexAddr Tryz.prog 83 (Value.slice (some { block := r, off := 0, spot := sp }) n c) (Value.int IntKind.i64 (↑k : Int)) = some (Value.pointer (some { block := r, off := k })), aload Tryz.prog (h) 24 (Value.pointer (some { block := r, off := k })) = some (Value.slice (A k) (M k) (C k))] (by kernel_rfl) (by kernel_rfl) hX (by kernel_rfl) (allp (aindex_at (w := 1) Tryz.underlying83 (by kernel_rfl) (by omega) (by omega) (by omega)) (allp (hdr_load hr (hhd k (by omega)) (by omega)) allp0)) ?_
    refine Det.sreg [] [(5, Value.slice (A k) (M k) (C k)), (10, Value.int IntKind.i64 (↑k : Int)), (8, Value.slice (some { block := r, off := 0, spot := sp }) n c), (2, Value.int IntKind.u32 0), (9, Value.int IntKind.i64 (↑n : Int)), (3, Value.int IntKind.u32 (sumRows L M k)), (0, Value.slice (some { block := r, off := 0, spot := sp }) n c), (11, Value.bool (decide ((↑k : Int) < (↑n : Int)))), (14, Value.slice (A k) (M k) (C k)), (15, Value.int IntKind.i64 (↑(M k) : Int)), (16, Value.int IntKind.i64 0)] (h) [] (by kernel_rfl) (by kernel_rfl) hX (by kernel_rfl) allp0 ?_
    refine Det.blockA (by kernel_rfl) ?_
    refine Det.loopA (by kernel_rfl) (fun x : Nat => M k - x) (fun x => slots [(10, .int .i64 (k : Int)), (8, .slice (some ⟨r, 0, sp⟩) n c), (2, .int .u32 0), (9, .int .i64 (n : Int)), (3, .int .u32 (sumTo (L k) (sumRows L M k) x)), (0, .slice (some ⟨r, 0, sp⟩) n c), (14, .slice (A k) (M k) (C k)), (15, .int .i64 (M k : Int)), (16, .int .i64 (x : Int))]) (fun x g => x ≤ M k ∧ h = g) 0 (slots_sub (by kernel_rfl)) ⟨Nat.zero_le _, rfl⟩ ?_
    (rintro i g ⟨hi, hg⟩; subst hg; have rg2 := sumTo_range (L k) rg.1 rg.2 i; have hMk := hm k (by omega))
    refine Det.sreg [] [(14, Value.slice (A k) (M k) (C k)), (10, Value.int IntKind.i64 (↑k : Int)), (16, Value.int IntKind.i64 (↑i : Int)), (8, Value.slice (some { block := r, off := 0, spot := sp }) n c), (2, Value.int IntKind.u32 0), (9, Value.int IntKind.i64 (↑n : Int)), (15, Value.int IntKind.i64 (↑(M k) : Int)), (3, Value.int IntKind.u32 (sumTo (L k) (sumRows L M k) i)), (0, Value.slice (some { block := r, off := 0, spot := sp }) n c), (17, Value.bool (decide ((↑i : Int) < (↑(M k) : Int))))] (h) [] (by kernel_rfl) (by kernel_rfl) hX (by kernel_rfl) allp0 ?_
    refine Det.seqA (by kernel_rfl) ?_
    by_cases c20 : (↑i : Int) < (↑(M k) : Int)
    · refine Det.condT (by kernel_rfl) (decide ((↑i : Int) < (↑(M k) : Int))) (by kernel_rfl) (decide_eq_true (by exact c20)) ?_
      refine Det.skipA (by kernel_rfl) ?_
      refine then_n (by kernel_rfl) ?_
      refine Det.seqA (by kernel_rfl) ?_
      refine Det.blockA (by kernel_rfl) ?_
      refine Det.sreg [(0, .v (Value.pointer (some { block := R k, off := O k + i }))), (0, .v (Value.int IntKind.u8 (nAt (L k) i)))] [(17, Value.bool (decide ((↑i : Int) < (↑(M k) : Int)))), (0, Value.slice (some { block := r, off := 0, spot := sp }) n c), (3, Value.int IntKind.u32 (sumTo (L k) (sumRows L M k) i)), (15, Value.int IntKind.i64 (↑(M k) : Int)), (9, Value.int IntKind.i64 (↑n : Int)), (2, Value.int IntKind.u32 0), (8, Value.slice (some { block := r, off := 0, spot := sp }) n c), (16, Value.int IntKind.i64 (↑i : Int)), (10, Value.int IntKind.i64 (↑k : Int)), (14, Value.slice (A k) (M k) (C k)), (7, Value.int IntKind.u8 (nAt (L k) i))] (h) [aindexAddr Tryz.prog 24 (Value.slice (A k) (M k) (C k)) (Value.int IntKind.i64 (↑i : Int)) = some (Value.pointer (some { block := R k, off := O k + i })), aload Tryz.prog (h) 5 (Value.pointer (some { block := R k, off := O k + i })) = some (Value.int IntKind.u8 (nAt (L k) i))] (by kernel_rfl) (by kernel_rfl) hX (by kernel_rfl) (allp ((v k (by omega)).index Tryz.underlying24 (w := 1) (by kernel_rfl) (by omega) (by omega) (by first | rfl | omega)) (allp (byte_load (v k (by omega)) (j := i) (by omega) (by omega)) allp0)) ?_
      refine Det.reg [(2, .m (Value.int IntKind.u32 (nextI (sumTo (L k) (sumRows L M k) i) (nAt (L k) i))) (h))] [(7, Value.int IntKind.u8 (nAt (L k) i)), (14, Value.slice (A k) (M k) (C k)), (10, Value.int IntKind.i64 (↑k : Int)), (16, Value.int IntKind.i64 (↑i : Int)), (8, Value.slice (some { block := r, off := 0, spot := sp }) n c), (2, Value.int IntKind.u32 0), (9, Value.int IntKind.i64 (↑n : Int)), (15, Value.int IntKind.i64 (↑(M k) : Int)), (0, Value.slice (some { block := r, off := 0, spot := sp }) n c), (17, Value.bool (decide ((↑i : Int) < (↑(M k) : Int)))), (3, Value.int IntKind.u32 (nextI (sumTo (L k) (sumRows L M k) i) (nAt (L k) i)))] (h) [DoesOk Tryz.prog 208 [Value.int IntKind.u32 (sumTo (L k) (sumRows L M k) i), Value.int IntKind.u8 (nAt (L k) i)] (h) (Value.int IntKind.u32 (nextI (sumTo (L k) (sumRows L M k) i) (nAt (L k) i))) (h)] (by kernel_rfl) hX (by kernel_rfl) (allp (DetFn.known (sum_next _ _ rg2.1 rg2.2 (byte_range (v k (by omega)) (j := i) (by omega)).1 (byte_range (v k (by omega)) (j := i) (by omega)).2 _)) allp0) ?_
      refine then_n (by kernel_rfl) ?_
      refine Det.reg [(0, .s (Value.int IntKind.i64 ((↑i : Int) + 1)))] [(3, Value.int IntKind.u32 (nextI (sumTo (L k) (sumRows L M k) i) (nAt (L k) i))), (17, Value.bool (decide ((↑i : Int) < (↑(M k) : Int)))), (0, Value.slice (some { block := r, off := 0, spot := sp }) n c), (15, Value.int IntKind.i64 (↑(M k) : Int)), (9, Value.int IntKind.i64 (↑n : Int)), (2, Value.int IntKind.u32 0), (8, Value.slice (some { block := r, off := 0, spot := sp }) n c), (10, Value.int IntKind.i64 (↑k : Int)), (14, Value.slice (A k) (M k) (C k)), (7, Value.int IntKind.u8 (nAt (L k) i)), (16, Value.int IntKind.i64 ((↑i : Int) + 1))] (h) [(Value.int IntKind.i64 (IntKind.wrap IntKind.i64 ((↑i : Int) + 1))) = (Value.int IntKind.i64 ((↑i : Int) + 1))] (by kernel_rfl) hX (by kernel_rfl) (allp (congrArg _ (by (rw [IntKind.wrap_i64]; omega))) allp0) ?_
      refine then_n (by kernel_rfl) ?_
      exact ⟨i + 1, (show M k - (i + 1) < M k - i by omega), slots_sub (by kernel_rfl), (show i + 1 ≤ M k by omega), rfl⟩
    · refine Det.condF (by kernel_rfl) (decide ((↑i : Int) < (↑(M k) : Int))) (by kernel_rfl) (decide_eq_false (by exact c20)) ?_
      refine Det.exitA (by kernel_rfl) ?_
      refine then_x 2 (by kernel_rfl) ?_
      refine then_x 2 (by kernel_rfl) ?_
      refine then_n (by kernel_rfl) ?_
      refine Det.reg [(0, .s (Value.int IntKind.i64 ((↑k : Int) + 1)))] [(17, Value.bool (decide ((↑i : Int) < (↑(M k) : Int)))), (0, Value.slice (some { block := r, off := 0, spot := sp }) n c), (3, Value.int IntKind.u32 (sumTo (L k) (sumRows L M k) i)), (15, Value.int IntKind.i64 (↑(M k) : Int)), (9, Value.int IntKind.i64 (↑n : Int)), (2, Value.int IntKind.u32 0), (8, Value.slice (some { block := r, off := 0, spot := sp }) n c), (16, Value.int IntKind.i64 (↑i : Int)), (14, Value.slice (A k) (M k) (C k)), (10, Value.int IntKind.i64 ((↑k : Int) + 1))] (h) [(Value.int IntKind.i64 (IntKind.wrap IntKind.i64 ((↑k : Int) + 1))) = (Value.int IntKind.i64 ((↑k : Int) + 1))] (by kernel_rfl) hX (by kernel_rfl) (allp (congrArg _ (by (rw [IntKind.wrap_i64]; omega))) allp0) ?_
      refine then_n (by kernel_rfl) ?_
      exact ⟨k + 1, (show n - (k + 1) < n - k by omega), (by have e : sumRows L M (k + 1) = sumTo (L k) (sumRows L M k) i := (by rw [show i = M k by omega]; rfl); rw [e]; exact slots_sub (by kernel_rfl)), (show k + 1 ≤ n by omega), rfl⟩
  · refine Det.condF (by kernel_rfl) (decide ((↑k : Int) < (↑n : Int))) (by kernel_rfl) (decide_eq_false (by exact c8)) ?_
    refine Det.exitA (by kernel_rfl) ?_
    refine then_x 0 (by kernel_rfl) ?_
    refine then_x 0 (by kernel_rfl) ?_
    refine then_n (by kernel_rfl) ?_
    refine Det.sreg [] [(11, Value.bool (decide ((↑k : Int) < (↑n : Int)))), (0, Value.slice (some { block := r, off := 0, spot := sp }) n c), (3, Value.int IntKind.u32 (sumRows L M k)), (9, Value.int IntKind.i64 (↑n : Int)), (8, Value.slice (some { block := r, off := 0, spot := sp }) n c), (10, Value.int IntKind.i64 (↑k : Int)), (2, Value.int IntKind.u32 (sumRows L M k))] (h) [] (by kernel_rfl) (by kernel_rfl) hX (by kernel_rfl) allp0 ?_
    refine Det.retA (by kernel_rfl) ?_
    refine fin_r (Value.int IntKind.u32 (sumRows L M k)) (by kernel_rfl) (by kernel_rfl) ?_
    exact ⟨by rw [show k = n by omega], (by repeat (first | exact Keep.refl _ | assumption | (refine Keep.new ?_) | (refine Keep.own (by first | omega | ((repeat (first | simp only [Heap.next_new] | simp only [Heap.next_put] | simp only [Heap.next_kill] | simp only [ownH_next])); omega)) ?_) | (refine Keep.dead (by first | omega | ((repeat (first | simp only [Heap.next_new] | simp only [Heap.next_put] | simp only [Heap.next_kill] | simp only [ownH_next])); omega)) ?_) | (refine Keep.app ?_) | (refine Keep.ownH (fun _ => (by first | omega | ((repeat (first | simp only [Heap.next_new] | simp only [Heap.next_put] | simp only [Heap.next_kill] | simp only [ownH_next])); omega))) ?_) | (refine Keep.twice (by first | exact trel_ints | exact trel_flat rfl | assumption) ?_) | (refine Keep.put (by first | exact trel_ints | exact trel_flat rfl | assumption) ?_)))⟩
end Go.Proofs.YthijllagngkbgaaGreat.Eng
