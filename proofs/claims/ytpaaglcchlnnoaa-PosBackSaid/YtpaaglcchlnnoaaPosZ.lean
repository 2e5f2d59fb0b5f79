/- The law PosZero of chapter 20, over the engine's memory: all together have nothing. -/
import Derived.Test.YtpaaglcchlnnoaaPosH
namespace Go.Proofs.Ytpaaglcchlnnoaa.Eng
open Go Go.Proofs Go.Proofs.Ytpaaglcchlnnoaa.FixMath
set_option maxRecDepth 100000
set_option maxHeartbeats 4000000
set_option linter.unusedVariables false
theorem getD_set (l : List Int) (i k : Nat) (x : Int) (hi : i < l.length) : (l.set i x).getD k 0 = if i = k then x else l.getD k 0 := by
  rw [List.getD_eq_getElem?_getD, List.getD_eq_getElem?_getD, List.getElem?_set]
  by_cases e : i = k
  · subst e; simp [hi]
  · rw [if_neg e, if_neg e]
/-- together they have nothing -/
def Zeros (B : Nat → List Int) (C : List Int) : Prop := (∀ k, k < 3 → (B 0).getD k 0 + (B 1).getD k 0 + (B 2).getD k 0 + (B 3).getD k 0 = 0) ∧ C.getD 0 0 + C.getD 1 0 + C.getD 2 0 + C.getD 3 0 = 0
/-- what a trade adds to what a party has of a bond, of cash -/
def dB (bond buyer seller : Nat) (qty : Int) (i k : Nat) : Int := if k = bond then if i = buyer then qty else if i = seller then -qty else 0 else 0
def dC (buyer seller : Nat) (cost : Int) (i : Nat) : Int := if i = buyer then -cost else if i = seller then cost else 0
theorem put_vals {n m : Nat} {B : Nat → List Int} {C : List Int} (hB : ∀ i, i < n → (B i).length = m) (hC : C.length = n) {bond buyer seller price qty : Int} (hm : mayPut n m bond buyer seller price qty) (hc : canPut B C bond buyer seller price qty) :
    (∀ i k, i < n → k < m → (putB n m B C bond buyer seller price qty i).getD k 0 = (B i).getD k 0 + dB bond.toNat buyer.toNat seller.toNat qty i k) ∧
    (∀ i, i < n → (putC n m B C bond buyer seller price qty).getD i 0 = C.getD i 0 + dC buyer.toNat seller.toNat (price * qty) i) := by
  unfold putB putC
  rw [if_pos ⟨hm, hc⟩, if_pos ⟨hm, hc⟩]
  obtain ⟨m1, m2, m3, m4, m5, m6, m7, m8, m9⟩ := hm
  obtain ⟨i0, i1, i2, i3, i4⟩ := hc
  rw [inR_iff] at i0 i1 i2
  have k0 := keep_in i0.1 i0.2
  rw [k0] at i3 i4
  rw [inR_iff] at i3 i4
  have k1 := keep_in i1.1 i1.2
  have k2 := keep_in i2.1 i2.2
  have k3 := keep_in i3.1 i3.2
  have k4 := keep_in i4.1 i4.2
  have lb := hB buyer.toNat (by omega)
  have ls := hB seller.toNat (by omega)
  unfold bondsS cashS
  rw [k0, k1, k2, k3, k4]
  constructor
  · intro i k hi hk
    unfold dB
    by_cases e1 : i = seller.toNat
    · subst e1
      rw [if_pos rfl, getD_set _ _ _ _ (by omega), if_pos rfl, if_neg (show ¬ seller.toNat = buyer.toNat by omega)]
      by_cases e2 : bond.toNat = k
      · rw [if_pos e2, if_pos e2.symm, e2]; omega
      · rw [if_neg e2, if_neg (Ne.symm e2)]; omega
    · rw [if_neg e1, if_neg e1]
      by_cases e3 : i = buyer.toNat
      · subst e3
        rw [if_pos rfl, getD_set _ _ _ _ (by omega), if_pos rfl]
        by_cases e2 : bond.toNat = k
        · rw [if_pos e2, if_pos e2.symm, e2]
        · rw [if_neg e2, if_neg (Ne.symm e2)]; omega
      · rw [if_neg e3, if_neg e3]
        split <;> omega
  · intro i hi
    unfold dC
    rw [getD_set _ _ _ _ (by rw [List.length_set]; omega), getD_set _ _ _ _ (by omega)]
    by_cases e1 : seller.toNat = i
    · rw [if_pos e1, if_neg (show ¬ i = buyer.toNat by omega), if_pos e1.symm, e1]
    · rw [if_neg e1]
      by_cases e3 : buyer.toNat = i
      · rw [if_pos e3, if_pos e3.symm, e3]; omega
      · rw [if_neg e3, if_neg (Ne.symm e3), if_neg (Ne.symm e1)]; omega
theorem put_same {n m : Nat} {B : Nat → List Int} {C : List Int} {bond buyer seller price qty : Int} (h : ¬ (mayPut n m bond buyer seller price qty ∧ canPut B C bond buyer seller price qty)) : putB n m B C bond buyer seller price qty = B ∧ putC n m B C bond buyer seller price qty = C := by
  unfold putB putC
  rw [if_neg h, if_neg h]; exact ⟨rfl, rfl⟩
theorem sum_dB (b s q : Nat) (qty : Int) (hb : b < 4) (hs : s < 4) (hne : b ≠ s) (k : Nat) : dB q b s qty 0 k + dB q b s qty 1 k + dB q b s qty 2 k + dB q b s qty 3 k = 0 := by
  unfold dB
  by_cases e : k = q
  · simp only [if_pos e]
    have eb : b = 0 ∨ b = 1 ∨ b = 2 ∨ b = 3 := by omega
    have es : s = 0 ∨ s = 1 ∨ s = 2 ∨ s = 3 := by omega
    rcases eb with rfl | rfl | rfl | rfl <;> rcases es with rfl | rfl | rfl | rfl
    all_goals first
      | exact absurd rfl hne
      | (simp; done)
      | (simp; omega)
  · simp only [if_neg e]; rfl
theorem sum_dC (b s : Nat) (c : Int) (hb : b < 4) (hs : s < 4) (hne : b ≠ s) : dC b s c 0 + dC b s c 1 + dC b s c 2 + dC b s c 3 = 0 := by
  unfold dC
  have eb : b = 0 ∨ b = 1 ∨ b = 2 ∨ b = 3 := by omega
  have es : s = 0 ∨ s = 1 ∨ s = 2 ∨ s = 3 := by omega
  rcases eb with rfl | rfl | rfl | rfl <;> rcases es with rfl | rfl | rfl | rfl
  all_goals first
    | exact absurd rfl hne
    | (simp; done)
    | (simp; omega)
theorem Zeros.put {B : Nat → List Int} {C : List Int} (hB : ∀ i, i < 4 → (B i).length = 3) (hC : C.length = 4) (hz : Zeros B C) (bond buyer seller price qty : Int) : Zeros (putB 4 3 B C bond buyer seller price qty) (putC 4 3 B C bond buyer seller price qty) := by
  by_cases h : mayPut 4 3 bond buyer seller price qty ∧ canPut B C bond buyer seller price qty
  · obtain ⟨v1, v2⟩ := put_vals hB hC h.1 h.2
    obtain ⟨⟨m1, m2, m3, m4, m5, m6, m7, m8, m9⟩, _⟩ := h
    constructor
    · intro k hk
      have := hz.1 k hk
      have s := sum_dB buyer.toNat seller.toNat bond.toNat qty (by omega) (by omega) (by omega) k
      rw [v1 0 k (by omega) hk, v1 1 k (by omega) hk, v1 2 k (by omega) hk, v1 3 k (by omega) hk]
      omega
    · have := hz.2
      have s := sum_dC buyer.toNat seller.toNat (price * qty) (by omega) (by omega) (by omega)
      rw [v2 0 (by omega), v2 1 (by omega), v2 2 (by omega), v2 3 (by omega)]
      omega
  · rw [(put_same h).1, (put_same h).2]; exact hz
/-- a sum that goes round -/
def pw (f : Nat → Int) : Nat → Int
  | 0 => 0
  | n + 1 => IntKind.i64.wrap (pw f n + f n)
theorem pw_zero {f : Nat → Int} (h : f 0 + f 1 + f 2 + f 3 = 0) {i : Nat} (h1 : i ≤ 4) (h2 : ¬ i < 4) : pw f i = 0 := by
  obtain rfl : i = 4 := by omega
  simp only [pw, IntKind.wrap_i64]
  omega
theorem pwB_zero {B : Nat → List Int} {C : List Int} (hz : Zeros B C) {k i : Nat} (hk : k < 3) (h1 : i ≤ 4) (h2 : ¬ i < 4) : pw (fun j => bondsV 4 3 B (j : Int) (k : Int)) i = 0 := by
  refine pw_zero ?_ h1 h2
  have := hz.1 k hk
  have hk' : (k : Int) < 3 := by omega
  simp [bondsV, hk']
  simpa using this
theorem pwC_zero {B : Nat → List Int} {C : List Int} (hz : Zeros B C) {i : Nat} (h1 : i ≤ 4) (h2 : ¬ i < 4) : pw (fun j => cashV 4 C (j : Int)) i = 0 := by
  refine pw_zero ?_ h1 h2
  have := hz.2
  simp [cashV]
  simpa using this
theorem zeros_new : Zeros (fun _ => List.replicate 3 0) (List.replicate 4 0) := by
  refine ⟨fun k hk => ?_, rfl⟩
  have : k = 0 ∨ k = 1 ∨ k = 2 := by omega
  rcases this with rfl | rfl | rfl <;> rfl
theorem law_PosZero (a : Option Addr) (len cap : Nat) (cells : List Value) (hA : SArg 0 tradeK a len cap cells) (h : Heap) (hn : 1 ≤ h.next) (hg : h.get 0 = argRow cells) :
    DetFn Try.prog 4 [.slice a len cap] h fun v _ => v = .bool true := by
  refine Det.enterS Try.f4 [(0, .slice a len cap)] Try.func4 (by kernel_rfl) (of_decide_eq_true (by kernel_rfl)) (by kernel_rfl) ?_
  by_cases h1 : (100 : Int) < (len : Int)
  · skip
    refine Det.sreg [] [(0, Value.slice a len cap), (2, Value.bool false)] (h) [] (by kernel_rfl) (by kernel_rfl) hX (by kernel_rfl) allp0 ?_
    refine Det.seqA (by kernel_rfl) ?_
    refine Det.sreg [(2, .s (Value.bool true))] [(2, Value.bool false), (0, Value.slice a len cap), (13, Value.bool true)] (h) [(Value.bool (decide (100 < (↑len : Int)))) = (Value.bool true)] (by kernel_rfl) (by kernel_rfl) hX (by kernel_rfl) (allp (congrArg Value.bool (decide_eq_true (by exact h1))) allp0) ?_
    refine Det.condT (by kernel_rfl) (true) (by kernel_rfl) rfl ?_
    refine Det.sreg [] [(13, Value.bool true), (0, Value.slice a len cap), (2, Value.bool true)] (h) [] (by kernel_rfl) (by kernel_rfl) hX (by kernel_rfl) allp0 ?_
    refine Det.retA (by kernel_rfl) ?_
    refine then_r (by kernel_rfl) ?_
    refine fin_r (Value.bool true) (by kernel_rfl) (by kernel_rfl) ?_
    rfl
  · obtain ⟨k1, g1, D1, R1, S1, n1, f1⟩ := pos_new_any 4 3 (by omega) (by omega) (by omega) (by omega) h
    refine Det.sreg [] [(0, Value.slice a len cap), (2, Value.bool false)] (h) [] (by kernel_rfl) (by kernel_rfl) hX (by kernel_rfl) allp0 ?_
    refine Det.seqA (by kernel_rfl) ?_
    refine Det.sreg [(2, .s (Value.bool false))] [(2, Value.bool false), (0, Value.slice a len cap), (13, Value.bool false)] (h) [(Value.bool (decide (100 < (↑len : Int)))) = (Value.bool false)] (by kernel_rfl) (by kernel_rfl) hX (by kernel_rfl) (allp (congrArg Value.bool (decide_eq_false (by exact h1))) allp0) ?_
    refine Det.condF (by kernel_rfl) (false) (by kernel_rfl) rfl ?_
    refine Det.skipA (by kernel_rfl) ?_
    refine then_n (by kernel_rfl) ?_
    refine Det.sreg [(0, .m (Value.pointer (some { block := PK.p k1, off := 0 })) (g1))] [(13, Value.bool false), (0, Value.slice a len cap), (2, Value.bool false), (3, Value.pointer (some { block := PK.p k1, off := 0 }))] (g1) [DoesOk Try.prog 7 [Value.int IntKind.i64 4, Value.int IntKind.i64 3] (h) (Value.pointer (some { block := PK.p k1, off := 0 })) (g1)] (by kernel_rfl) (by kernel_rfl) hX (by kernel_rfl) (allp D1 allp0) ?_
    refine Det.seqA (by kernel_rfl) ?_
    refine Det.sreg [] [(3, Value.pointer (some { block := PK.p k1, off := 0 })), (2, Value.bool false), (0, Value.slice a len cap), (13, Value.bool false), (4, Value.int IntKind.i64 0)] (g1) [] (by kernel_rfl) (by kernel_rfl) hX (by kernel_rfl) allp0 ?_
    refine Det.blockA (by kernel_rfl) ?_
    refine Det.loopA (by kernel_rfl) (fun x : Nat × (Nat → List Int) × List Int => len - x.1) (fun x => slots [(0, .slice a len cap), (2, .bool false), (3, .pointer (some ⟨k1.p, 0, none⟩)), (4, .int .i64 (x.1 : Int))]) (fun x g => x.1 ≤ len ∧ PosIn g k1 4 3 x.2.1 x.2.2 38 41 ∧ InAll 4 x.2.1 x.2.2 ∧ Zeros x.2.1 x.2.2 ∧ g.get 0 = argRow cells) (0, fun _ => List.replicate 3 0, List.replicate 4 0) (slots_sub (by kernel_rfl)) ⟨Nat.zero_le _, R1, new_all 4 3, zeros_new, by rw [f1 0 hn, hg]⟩ ?_
    rintro ⟨i, B, C⟩ g ⟨hi, P1, hI, Z, hg⟩
    refine Det.seqA (by kernel_rfl) ?_
    refine Det.sreg [] [(4, Value.int IntKind.i64 (↑i : Int)), (2, Value.bool false), (3, Value.pointer (some { block := PK.p k1, off := 0 })), (0, Value.slice a len cap), (22, Value.bool (decide ((↑i : Int) < (↑len : Int))))] (g) [] (by kernel_rfl) (by kernel_rfl) hX (by kernel_rfl) allp0 ?_
    by_cases c13 : (↑i : Int) < (↑len : Int)
    · refine Det.condT (by kernel_rfl) (decide ((↑i : Int) < (↑len : Int))) (by kernel_rfl) (decide_eq_true (by exact c13)) ?_
      refine Det.skipA (by kernel_rfl) ?_
      refine then_n (by kernel_rfl) ?_
      refine Det.seqA (by kernel_rfl) ?_
      refine Det.blockA (by kernel_rfl) ?_
      obtain ⟨x1, E1, Q1, e1, z1⟩ := pos_put_any _ (g) k1 4 3 B C P1 S1 hI (nAt cells (i * 8)) (nAt cells (i * 8 + 1)) (nAt cells (i * 8 + 2)) (nAt cells (i * 8 + 3)) (nAt cells (i * 8 + 4)) (nAt cells (i * 8 + 5)) (nAt cells (i * 8 + 6)) (nAt cells (i * 8 + 7)) (trade_i64 hA (by omega) 4 (by omega)) (trade_i64 hA (by omega) 5 (by omega))
      refine Det.reg [(3, .v (Value.pointer (some { block := 0, off := i * 8 }))), (0, .v (Value.agg #[Value.int IntKind.i64 (nAt cells (i * 8)), Value.int IntKind.i64 (nAt cells (i * 8 + 1)), Value.int IntKind.i64 (nAt cells (i * 8 + 2)), Value.int IntKind.i64 (nAt cells (i * 8 + 3)), Value.int IntKind.i64 (nAt cells (i * 8 + 4)), Value.int IntKind.i64 (nAt cells (i * 8 + 5)), Value.int IntKind.i64 (nAt cells (i * 8 + 6)), Value.int IntKind.i64 (nAt cells (i * 8 + 7))])), (0, .m (Value.int IntKind.i64 (putCode 4 3 B C (nAt cells (i * 8 + 1)) (nAt cells (i * 8 + 2)) (nAt cells (i * 8 + 3)) (nAt cells (i * 8 + 4)) (nAt cells (i * 8 + 5)))) (x1))] [(22, Value.bool (decide ((↑i : Int) < (↑len : Int)))), (0, Value.slice a len cap), (3, Value.pointer (some { block := PK.p k1, off := 0 })), (2, Value.bool false), (4, Value.int IntKind.i64 (↑i : Int))] (x1) [aindexAddr Try.prog 22 (Value.slice a len cap) (Value.int IntKind.i64 (↑i : Int)) = some (Value.pointer (some { block := 0, off := i * 8 })), aload Try.prog (g) 30 (Value.pointer (some { block := 0, off := i * 8 })) = some (Value.agg #[Value.int IntKind.i64 (nAt cells (i * 8)), Value.int IntKind.i64 (nAt cells (i * 8 + 1)), Value.int IntKind.i64 (nAt cells (i * 8 + 2)), Value.int IntKind.i64 (nAt cells (i * 8 + 3)), Value.int IntKind.i64 (nAt cells (i * 8 + 4)), Value.int IntKind.i64 (nAt cells (i * 8 + 5)), Value.int IntKind.i64 (nAt cells (i * 8 + 6)), Value.int IntKind.i64 (nAt cells (i * 8 + 7))]), DoesOk Try.prog 9 [Value.pointer (some { block := PK.p k1, off := 0 }), Value.agg #[Value.int IntKind.i64 (nAt cells (i * 8)), Value.int IntKind.i64 (nAt cells (i * 8 + 1)), Value.int IntKind.i64 (nAt cells (i * 8 + 2)), Value.int IntKind.i64 (nAt cells (i * 8 + 3)), Value.int IntKind.i64 (nAt cells (i * 8 + 4)), Value.int IntKind.i64 (nAt cells (i * 8 + 5)), Value.int IntKind.i64 (nAt cells (i * 8 + 6)), Value.int IntKind.i64 (nAt cells (i * 8 + 7))]] (g) (Value.int IntKind.i64 (putCode 4 3 B C (nAt cells (i * 8 + 1)) (nAt cells (i * 8 + 2)) (nAt cells (i * 8 + 3)) (nAt cells (i * 8 + 4)) (nAt cells (i * 8 + 5)))) (x1)] (by kernel_rfl) hX (by kernel_rfl) (allp (hA.index Try.underlying22 (w := 8) (by kernel_rfl) (by omega) (by omega)) (allp (trade_load hA hg (by omega)) (allp E1 allp0))) ?_
      refine then_n (by kernel_rfl) ?_
      refine Det.reg [(1, .s (Value.int IntKind.i64 ((↑i : Int) + 1)))] [(2, Value.bool false), (3, Value.pointer (some { block := PK.p k1, off := 0 })), (0, Value.slice a len cap), (22, Value.bool (decide ((↑i : Int) < (↑len : Int)))), (4, Value.int IntKind.i64 ((↑i : Int) + 1))] (x1) [(Value.int IntKind.i64 (IntKind.wrap IntKind.i64 ((↑i : Int) + 1))) = (Value.int IntKind.i64 ((↑i : Int) + 1))] (by kernel_rfl) hX (by kernel_rfl) (allp (congrArg _ (by (rw [IntKind.wrap_i64]; omega))) allp0) ?_
      refine then_n (by kernel_rfl) ?_
      exact ⟨(i + 1, putB 4 3 B C (nAt cells (i * 8 + 1)) (nAt cells (i * 8 + 2)) (nAt cells (i * 8 + 3)) (nAt cells (i * 8 + 4)) (nAt cells (i * 8 + 5)), putC 4 3 B C (nAt cells (i * 8 + 1)) (nAt cells (i * 8 + 2)) (nAt cells (i * 8 + 3)) (nAt cells (i * 8 + 4)) (nAt cells (i * 8 + 5))), (show len - (i + 1) < len - i by omega), slots_sub (by kernel_rfl), (show i + 1 ≤ len by omega), Q1, hI.put _ _ _ _ _, Z.put P1.lb P1.lc _ _ _ _ _, by rw [z1 0 (by omega), hg]⟩
    · refine Det.condF (by kernel_rfl) (decide ((↑i : Int) < (↑len : Int))) (by kernel_rfl) (decide_eq_false (by exact c13)) ?_
      refine Det.exitA (by kernel_rfl) ?_
      refine then_x 0 (by kernel_rfl) ?_
      refine then_x 0 (by kernel_rfl) ?_
      refine then_n (by kernel_rfl) ?_
      refine Det.sreg [] [(22, Value.bool (decide ((↑i : Int) < (↑len : Int)))), (0, Value.slice a len cap), (3, Value.pointer (some { block := PK.p k1, off := 0 })), (2, Value.bool false), (4, Value.int IntKind.i64 (↑i : Int)), (5, Value.int IntKind.i64 0)] (g) [] (by kernel_rfl) (by kernel_rfl) hX (by kernel_rfl) allp0 ?_
      refine Det.seqA (by kernel_rfl) ?_
      refine Det.sreg [] [(5, Value.int IntKind.i64 0), (4, Value.int IntKind.i64 (↑i : Int)), (2, Value.bool false), (3, Value.pointer (some { block := PK.p k1, off := 0 })), (0, Value.slice a len cap), (22, Value.bool (decide ((↑i : Int) < (↑len : Int)))), (6, Value.int IntKind.i64 0)] (g) [] (by kernel_rfl) (by kernel_rfl) hX (by kernel_rfl) allp0 ?_
      refine Det.blockA (by kernel_rfl) ?_
      refine Det.loopA (by kernel_rfl) (fun x : Nat => 3 - x) (fun x => slots [(2, .bool false), (3, .pointer (some ⟨k1.p, 0, none⟩)), (5, .int .i64 0), (6, .int .i64 (x : Int))]) (fun x g' => x ≤ 3 ∧ g = g') 0 (slots_sub (by kernel_rfl)) ⟨Nat.zero_le _, rfl⟩ ?_
      rintro k _ ⟨hk, rfl⟩
      refine Det.seqA (by kernel_rfl) ?_
      refine Det.sreg [] [(6, Value.int IntKind.i64 (↑k : Int)), (2, Value.bool false), (5, Value.int IntKind.i64 0), (3, Value.pointer (some { block := PK.p k1, off := 0 })), (32, Value.bool (decide ((↑k : Int) < 3)))] (g) [] (by kernel_rfl) (by kernel_rfl) hX (by kernel_rfl) allp0 ?_
      by_cases c26 : (↑k : Int) < 3
      · refine Det.condT (by kernel_rfl) (decide ((↑k : Int) < 3)) (by kernel_rfl) (decide_eq_true (by exact c26)) ?_
        refine Det.skipA (by kernel_rfl) ?_
        refine then_n (by kernel_rfl) ?_
        refine Det.seqA (by kernel_rfl) ?_
        refine Det.blockA (by kernel_rfl) ?_
        refine Det.sreg [] [(32, Value.bool (decide ((↑k : Int) < 3))), (3, Value.pointer (some { block := PK.p k1, off := 0 })), (5, Value.int IntKind.i64 0), (2, Value.bool false), (6, Value.int IntKind.i64 (↑k : Int)), (7, Value.int IntKind.i64 0)] (g) [] (by kernel_rfl) (by kernel_rfl) hX (by kernel_rfl) allp0 ?_
        refine Det.seqA (by kernel_rfl) ?_
        refine Det.sreg [] [(7, Value.int IntKind.i64 0), (6, Value.int IntKind.i64 (↑k : Int)), (2, Value.bool false), (5, Value.int IntKind.i64 0), (3, Value.pointer (some { block := PK.p k1, off := 0 })), (32, Value.bool (decide ((↑k : Int) < 3))), (8, Value.int IntKind.i64 0)] (g) [] (by kernel_rfl) (by kernel_rfl) hX (by kernel_rfl) allp0 ?_
        refine Det.blockA (by kernel_rfl) ?_
        refine Det.loopA (by kernel_rfl) (fun x : Nat => 4 - x) (fun x => slots [(2, .bool false), (3, .pointer (some ⟨k1.p, 0, none⟩)), (5, .int .i64 0), (6, .int .i64 (k : Int)), (7, .int .i64 (pw (fun j => bondsV 4 3 B (j : Int) (k : Int)) x)), (8, .int .i64 (x : Int))]) (fun x g' => x ≤ 4 ∧ g = g') 0 (slots_sub (by kernel_rfl)) ⟨Nat.zero_le _, rfl⟩ ?_
        rintro j _ ⟨hj, rfl⟩
        refine Det.seqA (by kernel_rfl) ?_
        refine Det.sreg [] [(6, Value.int IntKind.i64 (↑k : Int)), (8, Value.int IntKind.i64 (↑j : Int)), (2, Value.bool false), (5, Value.int IntKind.i64 0), (7, Value.int IntKind.i64 (pw (fun j => bondsV 4 3 B (↑j : Int) (↑k : Int)) j)), (3, Value.pointer (some { block := PK.p k1, off := 0 })), (36, Value.bool (decide ((↑j : Int) < 4)))] (g) [] (by kernel_rfl) (by kernel_rfl) hX (by kernel_rfl) allp0 ?_
        by_cases c39 : (↑j : Int) < 4
        · refine Det.condT (by kernel_rfl) (decide ((↑j : Int) < 4)) (by kernel_rfl) (decide_eq_true (by exact c39)) ?_
          refine Det.skipA (by kernel_rfl) ?_
          refine then_n (by kernel_rfl) ?_
          refine Det.seqA (by kernel_rfl) ?_
          refine Det.blockA (by kernel_rfl) ?_
          refine Det.reg [(4, .m (Value.int IntKind.i64 (bondsV 4 3 (Prod.fst (Prod.snd (i, B, C))) (↑j : Int) (↑k : Int))) (g))] [(36, Value.bool (decide ((↑j : Int) < 4))), (3, Value.pointer (some { block := PK.p k1, off := 0 })), (5, Value.int IntKind.i64 0), (2, Value.bool false), (8, Value.int IntKind.i64 (↑j : Int)), (6, Value.int IntKind.i64 (↑k : Int)), (7, Value.int IntKind.i64 (IntKind.wrap IntKind.i64 (pw (fun j => bondsV 4 3 B (↑j : Int) (↑k : Int)) j + bondsV 4 3 (Prod.fst (Prod.snd (i, B, C))) (↑j : Int) (↑k : Int))))] (g) [DoesOk Try.prog 11 [Value.pointer (some { block := PK.p k1, off := 0 }), Value.int IntKind.i64 (↑j : Int), Value.int IntKind.i64 (↑k : Int)] (g) (Value.int IntKind.i64 (bondsV 4 3 (Prod.fst (Prod.snd (i, B, C))) (↑j : Int) (↑k : Int))) (g)] (by kernel_rfl) hX (by kernel_rfl) (allp (DetFn.known (pos_bonds 38 _ k1 4 3 _ _ P1.toPosAt _ _)) allp0) ?_
          refine then_n (by kernel_rfl) ?_
          refine Det.reg [(1, .s (Value.int IntKind.i64 ((↑j : Int) + 1)))] [(7, Value.int IntKind.i64 (IntKind.wrap IntKind.i64 (pw (fun j => bondsV 4 3 B (↑j : Int) (↑k : Int)) j + bondsV 4 3 (Prod.fst (Prod.snd (i, B, C))) (↑j : Int) (↑k : Int)))), (6, Value.int IntKind.i64 (↑k : Int)), (2, Value.bool false), (5, Value.int IntKind.i64 0), (3, Value.pointer (some { block := PK.p k1, off := 0 })), (36, Value.bool (decide ((↑j : Int) < 4))), (8, Value.int IntKind.i64 ((↑j : Int) + 1))] (g) [(Value.int IntKind.i64 (IntKind.wrap IntKind.i64 ((↑j : Int) + 1))) = (Value.int IntKind.i64 ((↑j : Int) + 1))] (by kernel_rfl) hX (by kernel_rfl) (allp (congrArg _ (by (rw [IntKind.wrap_i64]; omega))) allp0) ?_
          refine then_n (by kernel_rfl) ?_
          exact ⟨j + 1, (show 4 - (j + 1) < 4 - j by omega), slots_sub (by kernel_rfl), (show j + 1 ≤ 4 by omega), rfl⟩
        · refine Det.condF (by kernel_rfl) (decide ((↑j : Int) < 4)) (by kernel_rfl) (decide_eq_false (by exact c39)) ?_
          refine Det.exitA (by kernel_rfl) ?_
          refine then_x 4 (by kernel_rfl) ?_
          refine then_x 4 (by kernel_rfl) ?_
          refine then_n (by kernel_rfl) ?_
          refine Det.sreg [(1, .s (Value.bool false))] [(36, Value.bool (decide ((↑j : Int) < 4))), (3, Value.pointer (some { block := PK.p k1, off := 0 })), (7, Value.int IntKind.i64 (pw (fun j => bondsV 4 3 B (↑j : Int) (↑k : Int)) j)), (5, Value.int IntKind.i64 0), (2, Value.bool false), (8, Value.int IntKind.i64 (↑j : Int)), (6, Value.int IntKind.i64 (↑k : Int)), (46, Value.bool false)] (g) [(Value.bool (pw (fun j => bondsV 4 3 B (↑j : Int) (↑k : Int)) j != 0)) = (Value.bool false)] (by kernel_rfl) (by kernel_rfl) hX (by kernel_rfl) (allp (congrArg Value.bool (bne_eq_false_iff_eq.2 (by exact pwB_zero Z (by omega) (by omega) (by omega)))) allp0) ?_
          refine Det.condF (by kernel_rfl) (false) (by kernel_rfl) rfl ?_
          refine Det.skipA (by kernel_rfl) ?_
          refine then_n (by kernel_rfl) ?_
          refine Det.reg [(1, .s (Value.int IntKind.i64 ((↑k : Int) + 1)))] [(46, Value.bool false), (8, Value.int IntKind.i64 (↑j : Int)), (2, Value.bool false), (5, Value.int IntKind.i64 0), (7, Value.int IntKind.i64 (pw (fun j => bondsV 4 3 B (↑j : Int) (↑k : Int)) j)), (3, Value.pointer (some { block := PK.p k1, off := 0 })), (36, Value.bool (decide ((↑j : Int) < 4))), (6, Value.int IntKind.i64 ((↑k : Int) + 1))] (g) [(Value.int IntKind.i64 (IntKind.wrap IntKind.i64 ((↑k : Int) + 1))) = (Value.int IntKind.i64 ((↑k : Int) + 1))] (by kernel_rfl) hX (by kernel_rfl) (allp (congrArg _ (by (rw [IntKind.wrap_i64]; omega))) allp0) ?_
          refine then_n (by kernel_rfl) ?_
          exact ⟨k + 1, (show 3 - (k + 1) < 3 - k by omega), slots_sub (by kernel_rfl), (show k + 1 ≤ 3 by omega), rfl⟩
      · refine Det.condF (by kernel_rfl) (decide ((↑k : Int) < 3)) (by kernel_rfl) (decide_eq_false (by exact c26)) ?_
        refine Det.exitA (by kernel_rfl) ?_
        refine then_x 2 (by kernel_rfl) ?_
        refine then_x 2 (by kernel_rfl) ?_
        refine then_n (by kernel_rfl) ?_
        refine Det.seqA (by kernel_rfl) ?_
        refine Det.sreg [] [(32, Value.bool (decide ((↑k : Int) < 3))), (3, Value.pointer (some { block := PK.p k1, off := 0 })), (5, Value.int IntKind.i64 0), (2, Value.bool false), (6, Value.int IntKind.i64 (↑k : Int)), (9, Value.int IntKind.i64 0)] (g) [] (by kernel_rfl) (by kernel_rfl) hX (by kernel_rfl) allp0 ?_
        refine Det.blockA (by kernel_rfl) ?_
        refine Det.loopA (by kernel_rfl) (fun x : Nat => 4 - x) (fun x => slots [(2, .bool false), (3, .pointer (some ⟨k1.p, 0, none⟩)), (5, .int .i64 (pw (fun j => cashV 4 C (j : Int)) x)), (9, .int .i64 (x : Int))]) (fun x g' => x ≤ 4 ∧ g = g') 0 (slots_sub (by kernel_rfl)) ⟨Nat.zero_le _, rfl⟩ ?_
        rintro j _ ⟨hj, rfl⟩
        refine Det.seqA (by kernel_rfl) ?_
        refine Det.sreg [] [(2, Value.bool false), (9, Value.int IntKind.i64 (↑j : Int)), (5, Value.int IntKind.i64 (pw (fun j => cashV 4 C (↑j : Int)) j)), (3, Value.pointer (some { block := PK.p k1, off := 0 })), (48, Value.bool (decide ((↑j : Int) < 4)))] (g) [] (by kernel_rfl) (by kernel_rfl) hX (by kernel_rfl) allp0 ?_
        by_cases c38 : (↑j : Int) < 4
        · refine Det.condT (by kernel_rfl) (decide ((↑j : Int) < 4)) (by kernel_rfl) (decide_eq_true (by exact c38)) ?_
          refine Det.skipA (by kernel_rfl) ?_
          refine then_n (by kernel_rfl) ?_
          refine Det.seqA (by kernel_rfl) ?_
          refine Det.blockA (by kernel_rfl) ?_
          refine Det.reg [(3, .m (Value.int IntKind.i64 (cashV 4 (Prod.snd (Prod.snd (i, B, C))) (↑j : Int))) (g))] [(48, Value.bool (decide ((↑j : Int) < 4))), (3, Value.pointer (some { block := PK.p k1, off := 0 })), (9, Value.int IntKind.i64 (↑j : Int)), (2, Value.bool false), (5, Value.int IntKind.i64 (IntKind.wrap IntKind.i64 (pw (fun j => cashV 4 C (↑j : Int)) j + cashV 4 (Prod.snd (Prod.snd (i, B, C))) (↑j : Int))))] (g) [DoesOk Try.prog 13 [Value.pointer (some { block := PK.p k1, off := 0 }), Value.int IntKind.i64 (↑j : Int)] (g) (Value.int IntKind.i64 (cashV 4 (Prod.snd (Prod.snd (i, B, C))) (↑j : Int))) (g)] (by kernel_rfl) hX (by kernel_rfl) (allp (DetFn.known (pos_cash 38 _ k1 4 3 _ _ P1.toPosAt (by omega) _)) allp0) ?_
          refine then_n (by kernel_rfl) ?_
          refine Det.reg [(1, .s (Value.int IntKind.i64 ((↑j : Int) + 1)))] [(5, Value.int IntKind.i64 (IntKind.wrap IntKind.i64 (pw (fun j => cashV 4 C (↑j : Int)) j + cashV 4 (Prod.snd (Prod.snd (i, B, C))) (↑j : Int)))), (2, Value.bool false), (3, Value.pointer (some { block := PK.p k1, off := 0 })), (48, Value.bool (decide ((↑j : Int) < 4))), (9, Value.int IntKind.i64 ((↑j : Int) + 1))] (g) [(Value.int IntKind.i64 (IntKind.wrap IntKind.i64 ((↑j : Int) + 1))) = (Value.int IntKind.i64 ((↑j : Int) + 1))] (by kernel_rfl) hX (by kernel_rfl) (allp (congrArg _ (by (rw [IntKind.wrap_i64]; omega))) allp0) ?_
          refine then_n (by kernel_rfl) ?_
          exact ⟨j + 1, (show 4 - (j + 1) < 4 - j by omega), slots_sub (by kernel_rfl), (show j + 1 ≤ 4 by omega), rfl⟩
        · refine Det.condF (by kernel_rfl) (decide ((↑j : Int) < 4)) (by kernel_rfl) (decide_eq_false (by exact c38)) ?_
          refine Det.exitA (by kernel_rfl) ?_
          refine then_x 6 (by kernel_rfl) ?_
          refine then_x 6 (by kernel_rfl) ?_
          refine then_n (by kernel_rfl) ?_
          refine Det.sreg [] [(48, Value.bool (decide ((↑j : Int) < 4))), (3, Value.pointer (some { block := PK.p k1, off := 0 })), (5, Value.int IntKind.i64 (pw (fun j => cashV 4 C (↑j : Int)) j)), (9, Value.int IntKind.i64 (↑j : Int)), (2, Value.bool false), (10, Value.pointer none)] (g) [] (by kernel_rfl) (by kernel_rfl) hX (by kernel_rfl) allp0 ?_
          refine Det.sreg [(4, .s (Value.bool true)), (4, .m (Value.int IntKind.i64 1) (g)), (4, .m (Value.int IntKind.i64 0) (g)), (4, .m (Value.int IntKind.i64 0) (g)), (3, .m (Value.bool true) (g))] [(10, Value.pointer none), (9, Value.int IntKind.i64 (↑j : Int)), (5, Value.int IntKind.i64 (pw (fun j => cashV 4 C (↑j : Int)) j)), (3, Value.pointer (some { block := PK.p k1, off := 0 })), (48, Value.bool (decide ((↑j : Int) < 4))), (2, Value.bool true)] (g) [(Value.bool (pw (fun j => cashV 4 C (↑j : Int)) j == 0)) = (Value.bool true), DoesOk Try.prog 9 [Value.pointer none, Value.agg #[Value.int IntKind.i64 0, Value.int IntKind.i64 0, Value.int IntKind.i64 0, Value.int IntKind.i64 0, Value.int IntKind.i64 0, Value.int IntKind.i64 0, Value.int IntKind.i64 0, Value.int IntKind.i64 0]] (g) (Value.int IntKind.i64 1) (g), DoesOk Try.prog 11 [Value.pointer none, Value.int IntKind.i64 0, Value.int IntKind.i64 0] (g) (Value.int IntKind.i64 0) (g), DoesOk Try.prog 13 [Value.pointer none, Value.int IntKind.i64 0] (g) (Value.int IntKind.i64 0) (g), DoesOk Try.prog 15 [] (g) (Value.bool true) (g)] (by kernel_rfl) (by kernel_rfl) hX (by kernel_rfl) (allp (congrArg Value.bool (beq_iff_eq.2 (by exact pwC_zero Z (by omega) (by omega)))) (allp (DetFn.known (DetFn.bare (by kernel_rfl) (by kernel_rfl) (DetFn.of_evFst (k := 3000) hmix hX (by kernel_rfl)) _)) (allp (DetFn.known (DetFn.bare (by kernel_rfl) (by kernel_rfl) (DetFn.of_evFst (k := 3000) hmix hX (by kernel_rfl)) _)) (allp (DetFn.known (DetFn.bare (by kernel_rfl) (by kernel_rfl) (DetFn.of_evFst (k := 3000) hmix hX (by kernel_rfl)) _)) (allp (DetFn.known (DetFn.bare (by kernel_rfl) (by kernel_rfl) (DetFn.of_evFst (k := 3000) hmix hX (by kernel_rfl)) _)) allp0))))) ?_
          refine Det.retA (by kernel_rfl) ?_
          refine fin_r (Value.bool true) (by kernel_rfl) (by kernel_rfl) ?_
          rfl
end Go.Proofs.Ytpaaglcchlnnoaa.Eng
