/- Which dealers there are, as bits: plain numbers. -/
import Derived.Test.YtmpendenaflonaaEngArgs
namespace Go.Proofs.Ytmpendenaflonaa.Eng
open Go
set_option linter.unusedVariables false
theorem wrap64_nat (x : BitVec 64) : IntKind.u64.wrap (x.toNat : Int) = (x.toNat : Int) := by
  rw [wrapU64]; have := x.isLt; omega
theorem bits_or (x y : Int) : Go.bits .or .u64 x y = ((BitVec.ofInt 64 x ||| BitVec.ofInt 64 y).toNat : Int) := wrap64_nat _
theorem bits_and (x y : Int) : Go.bits .and .u64 x y = ((BitVec.ofInt 64 x &&& BitVec.ofInt 64 y).toNat : Int) := wrap64_nat _
theorem bits_andNot (x y : Int) : Go.bits .andNot .u64 x y = ((BitVec.ofInt 64 x &&& ~~~BitVec.ofInt 64 y).toNat : Int) := wrap64_nat _
theorem ofInt_toNat64 (x : BitVec 64) : BitVec.ofInt 64 (x.toNat : Int) = x := by
  apply BitVec.eq_of_toNat_eq
  rw [BitVec.toNat_ofInt]; have := x.isLt; omega
/-- the places of the dealers -/
def dealersM (c : List Value) : Nat → Int
  | 0 => 0
  | i + 1 => if nAt c (i * 3) = 2 then Go.bits .or .u64 (dealersM c i) (IntKind.u64.wrap (1 * 2 ^ (min i 64))) else dealersM c i
theorem dealers_bit (c : List Value) : ∀ n, n ≤ 64 → ∀ k, k < 64 → (BitVec.ofInt 64 (dealersM c n)).getLsbD k = decide (k < n ∧ nAt c (k * 3) = 2)
  | 0, _, k, _ => by simp [dealersM]
  | n + 1, hn, k, hk => by
    have ih := dealers_bit c n (by omega) k hk
    unfold dealersM
    split
    · rename_i hr
      have e : BitVec.ofInt 64 (IntKind.u64.wrap (1 * 2 ^ (min n 64))) = BitVec.twoPow 64 n := by
        apply BitVec.eq_of_toNat_eq
        rw [BitVec.toNat_ofInt, wrapU64, BitVec.toNat_twoPow, Nat.min_eq_left (by omega), Int.one_mul]
        have e1 : ((2 : Int) ^ n) = ((2 ^ n : Nat) : Int) := by simp
        rw [e1]
        omega
      rw [bits_or, ofInt_toNat64, BitVec.getLsbD_or, ih, e, BitVec.getLsbD_twoPow]
      by_cases h1 : k = n
      · subst h1; simp [hr, hk]
      · have : (decide (n = k)) = false := by simp; omega
        rw [this]
        simp only [Bool.and_false, Bool.or_false, decide_eq_decide]
        constructor
        · exact fun x => ⟨by omega, x.2⟩
        · exact fun x => ⟨by omega, x.2⟩
    · rename_i hr
      rw [ih, decide_eq_decide]
      constructor
      · exact fun x => ⟨by omega, x.2⟩
      · rintro ⟨h1, h2⟩
        refine ⟨?_, h2⟩
        rcases Nat.lt_or_ge k n with h3 | h3
        · exact h3
        · obtain rfl : k = n := by omega
          exact absurd h2 hr
/-- a bit of a number -/
theorem bit_of {a : Int} (h0 : 0 ≤ a) (h1 : a < 18446744073709551616) {k : Nat} (hk : k < 64) : Go.bits .and .u64 (a.fdiv (2 ^ k)) 1 = 1 ↔ (BitVec.ofInt 64 a).getLsbD k = true := by
  obtain ⟨A, rfl⟩ := Int.eq_ofNat_of_zero_le h0
  have e : ((A : Int).fdiv (2 ^ k)) = ((A / 2 ^ k : Nat) : Int) := by
    rw [Int.fdiv_eq_ediv_of_nonneg _ (Int.le_of_lt (Int.pow_pos (by decide)))]
    simp
  have hA : A / 2 ^ k ≤ A := Nat.div_le_self _ _
  rw [e, bits_and, BitVec.toNat_and]
  have e1 : (BitVec.ofInt 64 ((A / 2 ^ k : Nat) : Int)).toNat = A / 2 ^ k := by rw [BitVec.toNat_ofInt]; generalize A / 2 ^ k = B at hA; omega
  have e2 : (BitVec.ofInt 64 1).toNat = 1 := rfl
  have e3 : (BitVec.ofInt 64 (A : Int)).getLsbD k = A.testBit k := by
    unfold BitVec.getLsbD; rw [BitVec.toNat_ofInt]; congr 1; omega
  rw [e1, e2, e3, Nat.and_one_is_mod, Nat.testBit_eq_decide_div_mod_eq, decide_eq_true_eq]
  omega
theorem asks_bits {a x : Int} (h0 : 0 ≤ a) (h1 : a < 18446744073709551616) : Go.bits .andNot .u64 a x = 0 ↔ ∀ k, k < 64 → Go.bits .and .u64 (a.fdiv (2 ^ k)) 1 = 1 → (BitVec.ofInt 64 x).getLsbD k = true := by
  rw [bits_andNot]
  constructor
  · intro h k hk hb
    have h2 : BitVec.ofInt 64 a &&& ~~~BitVec.ofInt 64 x = 0#64 := BitVec.eq_of_toNat_eq (by simpa using h)
    have h3 := congrArg (BitVec.getLsbD · k) h2
    simp only [BitVec.getLsbD_and, BitVec.getLsbD_not, (bit_of h0 h1 hk).1 hb, hk, decide_true, Bool.true_and, BitVec.getLsbD_zero] at h3
    simpa using h3
  · intro h
    have : BitVec.ofInt 64 a &&& ~~~BitVec.ofInt 64 x = 0#64 := by
      apply BitVec.eq_of_getLsbD_eq
      intro k hk
      have hb := h k hk
      rw [bit_of h0 h1 hk] at hb
      simp only [BitVec.getLsbD_and, BitVec.getLsbD_not, hk, decide_true, Bool.true_and, BitVec.getLsbD_zero]
      cases hA : (BitVec.ofInt 64 a).getLsbD k
      · rfl
      · rw [hb hA]; rfl
    rw [this]; rfl
/-- those that a client asks are dealers -/
theorem asks_dealers {a : Int} (h0 : 0 ≤ a) (h1 : a < 18446744073709551616) (c : List Value) {n : Nat} (hn : n ≤ 64) : Go.bits .andNot .u64 a (dealersM c n) = 0 ↔ ∀ k, k < 64 → Go.bits .and .u64 (a.fdiv (2 ^ k)) 1 = 1 → k < n ∧ nAt c (k * 3) = 2 := by
  rw [asks_bits h0 h1]
  constructor
  · intro h k hk hb
    have := h k hk hb
    rw [dealers_bit c n hn k hk] at this
    exact of_decide_eq_true this
  · intro h k hk hb
    rw [dealers_bit c n hn k hk]
    exact decide_eq_true (h k hk hb)
end Go.Proofs.Ytmpendenaflonaa.Eng
