/- Plain arithmetic of numbers of 64 and of 128 digits: sums that are kept, products by halves, products digit by digit. No Go in it. -/
import Derived.Test.YtmpendenaflonaaEngLaw
import Derived.Laws.BitsLemmas
namespace Go.Proofs.Ytmpendenaflonaa.FixMath
open Go

/-- an int64 holds it -/
def inR (n : Int) : Bool := decide (-9223372036854775808 ≤ n) && decide (n ≤ 9223372036854775807)
/-- what is kept of it: itself, or 0 -/
def keep (n : Int) : Int := if inR n = true then n else 0
theorem inR_iff {n : Int} : inR n = true ↔ -9223372036854775808 ≤ n ∧ n ≤ 9223372036854775807 := by simp [inR]
theorem inR_no {n : Int} : inR n = false ↔ n < -9223372036854775808 ∨ 9223372036854775807 < n := by
  cases h : inR n with
  | true => have := inR_iff.1 h; simp; omega
  | false =>
    have : ¬ (-9223372036854775808 ≤ n ∧ n ≤ 9223372036854775807) := fun k => by rw [inR_iff.2 k] at h; cases h
    simp; omega
theorem keep_in {n : Int} (h : -9223372036854775808 ≤ n) (k : n ≤ 9223372036854775807) : keep n = n := by rw [keep, if_pos (inR_iff.2 ⟨h, k⟩)]
theorem keep_no {n : Int} (h : n < -9223372036854775808 ∨ 9223372036854775807 < n) : keep n = 0 := by rw [keep, inR_no.2 h]; rfl
theorem keep_bounds (n : Int) : -9223372036854775808 ≤ keep n ∧ keep n ≤ 9223372036854775807 := by
  cases h : inR n with
  | true => have := inR_iff.1 h; rw [keep_in this.1 this.2]; exact this
  | false => rw [keep_no (inR_no.1 h)]; decide

theorem wrap_i (n : Int) (h : -9223372036854775808 ≤ n) (k : n ≤ 9223372036854775807) : IntKind.i64.wrap n = n := by
  simp [IntKind.wrap, IntKind.bits, IntKind.signed]; omega
theorem wrap_u (n : Int) : IntKind.u64.wrap n = n % 18446744073709551616 := by simp [IntKind.wrap, IntKind.bits, IntKind.signed]
theorem wrap_u_in (n : Int) (h0 : 0 ≤ n) (h1 : n < 18446744073709551616) : IntKind.u64.wrap n = n := by rw [wrap_u]; omega

theorem mask32 (x : Int) (h0 : 0 ≤ x) (h1 : x < 18446744073709551616) : Go.bits .and .u64 x 4294967295 = x % 4294967296 := by
  have := bits_mask .u64 64 (by decide) (fun n a b => wrap_u_in n a (by simpa using b)) 32 (by decide) x h0 (by simpa using h1)
  simpa using this
theorem mask32w (n : Int) : Go.bits .and .u64 (IntKind.u64.wrap n) 4294967295 = IntKind.u64.wrap n % 4294967296 := mask32 _ (by rw [wrap_u]; omega) (by rw [wrap_u]; omega)
theorem mask1 (x : Int) (h0 : 0 ≤ x) (h1 : x < 9223372036854775808) : Go.bits .and .i64 x 1 = x % 2 := by
  have := bits_mask .i64 63 (by decide) (fun n a b => wrap_i n (by omega) (by simp at b; omega)) 1 (by decide) x h0 (by simpa using h1)
  simpa using this

theorem half_mul (a b : Int) (ha : 0 ≤ a) (hA : a ≤ 4294967295) (hb : 0 ≤ b) (hB : b ≤ 4294967295) : 0 ≤ a * b ∧ a * b ≤ 18446744065119617025 := by
  refine ⟨Int.mul_nonneg ha hb, ?_⟩
  have h1 := Int.mul_le_mul hA hB hb (by decide)
  omega

theorem shr32 (x : Int) : x.fdiv 4294967296 = x / 4294967296 := Int.fdiv_eq_ediv_of_nonneg x (by decide)

/-- what Mul64 computes by halves: the product's high digits -/
theorem mul_halves (a b : Int) (ha : 0 ≤ a) (hA : a < 18446744073709551616) (hb : 0 ≤ b) (hB : b < 18446744073709551616) :
    IntKind.u64.wrap ((IntKind.u64.wrap ((IntKind.u64.wrap ((a / 4294967296) * (b / 4294967296))) + ((IntKind.u64.wrap ((IntKind.u64.wrap ((a / 4294967296) * (b % 4294967296))) + ((IntKind.u64.wrap ((a % 4294967296) * (b % 4294967296))) / 4294967296))) / 4294967296))) + ((IntKind.u64.wrap (((IntKind.u64.wrap ((IntKind.u64.wrap ((a / 4294967296) * (b % 4294967296))) + ((IntKind.u64.wrap ((a % 4294967296) * (b % 4294967296))) / 4294967296))) % 4294967296) + (IntKind.u64.wrap ((a % 4294967296) * (b / 4294967296))))) / 4294967296))
      = a * b / 18446744073709551616 := by
  have hx1 : a / 4294967296 * 4294967296 + a % 4294967296 = a := by omega
  have hy1 : b / 4294967296 * 4294967296 + b % 4294967296 = b := by omega
  have bx : 0 ≤ a / 4294967296 ∧ a / 4294967296 ≤ 4294967295 := by omega
  have by' : 0 ≤ b / 4294967296 ∧ b / 4294967296 ≤ 4294967295 := by omega
  have bx0 : 0 ≤ a % 4294967296 ∧ a % 4294967296 ≤ 4294967295 := by omega
  have by0 : 0 ≤ b % 4294967296 ∧ b % 4294967296 ≤ 4294967295 := by omega
  generalize a / 4294967296 = x1 at *
  generalize b / 4294967296 = y1 at *
  generalize a % 4294967296 = x0 at *
  generalize b % 4294967296 = y0 at *
  have m11 := half_mul x1 y1 bx.1 bx.2 by'.1 by'.2
  have m10 := half_mul x1 y0 bx.1 bx.2 by0.1 by0.2
  have m01 := half_mul x0 y1 bx0.1 bx0.2 by'.1 by'.2
  have m00 := half_mul x0 y0 bx0.1 bx0.2 by0.1 by0.2
  have hab : a * b = x1 * y1 * 18446744073709551616 + (x1 * y0 + x0 * y1) * 4294967296 + x0 * y0 := by
    rw [← hx1, ← hy1, Int.add_mul, Int.mul_add, Int.mul_add]
    have e1 : x1 * 4294967296 * (y1 * 4294967296) = x1 * y1 * 18446744073709551616 := by
      rw [show x1 * 4294967296 * (y1 * 4294967296) = x1 * y1 * (4294967296 * 4294967296) by ac_rfl]; rfl
    have e2 : x1 * 4294967296 * y0 = x1 * y0 * 4294967296 := by ac_rfl
    have e3 : x0 * (y1 * 4294967296) = x0 * y1 * 4294967296 := by ac_rfl
    rw [e1, e2, e3, Int.add_mul]; omega
  rw [hab]
  generalize x1 * y1 = p at *
  generalize x1 * y0 = q at *
  generalize x0 * y1 = r at *
  generalize x0 * y0 = s at *
  rw [wrap_u_in p (by omega) (by omega), wrap_u_in q (by omega) (by omega), wrap_u_in r (by omega) (by omega), wrap_u_in s (by omega) (by omega)]
  rw [wrap_u_in (q + s / 4294967296) (by omega) (by omega)]
  rw [wrap_u_in ((q + s / 4294967296) % 4294967296 + r) (by omega) (by omega)]
  rw [wrap_u_in (p + (q + s / 4294967296) / 4294967296) (by omega) (by omega)]
  rw [wrap_u_in _ (by omega) (by omega)]
  omega

/-! ### a product, digit by digit -/
/-- the digits of a from place i on -/
def upto (a : Int) (i : Nat) : Int := a / 2 ^ i
theorem upto_step (a : Int) (i : Nat) : upto a i = 2 * upto a (i + 1) + upto a i % 2 := by
  unfold upto
  have e : a / 2 ^ (i + 1) = a / 2 ^ i / 2 := by rw [Int.pow_succ, Int.ediv_ediv_of_nonneg (Int.pow_nonneg (by decide))]
  rw [e]; omega
theorem upto_nonneg {a : Int} (i : Nat) (h : 0 ≤ a) : 0 ≤ upto a i := Int.ediv_nonneg h (Int.pow_nonneg (by decide))
theorem upto_le {a : Int} (i : Nat) (h : 0 ≤ a) : upto a i ≤ a := Int.ediv_le_self _ h
theorem upto_63 {a : Int} (h : 0 ≤ a) (k : a ≤ 9223372036854775807) : upto a 63 = 0 := by
  unfold upto
  exact Int.ediv_eq_zero_of_lt h (by have : (2 : Int) ^ 63 = 9223372036854775808 := by decide
                                     omega)
theorem upto_0 (a : Int) : upto a 0 = a := by simp [upto]
theorem bit_at {a : Int} {j : Nat} (ha : 0 ≤ a) (hA : a ≤ 9223372036854775807) (h1 : 1 ≤ j) (h2 : j ≤ 63) : Go.bits .and .i64 (Int.fdiv a (2 ^ min (Int.toNat ((j : Int) - 1)) 64)) 1 = upto a (j - 1) % 2 := by
  have e : min (Int.toNat ((j : Int) - 1)) 64 = j - 1 := by omega
  rw [e, Int.fdiv_eq_ediv_of_nonneg a (Int.pow_nonneg (by decide))]
  exact mask1 _ (upto_nonneg (j - 1) ha) (by have := upto_le (j - 1) ha; unfold upto at this; omega)
theorem upto_odd {a b : Int} {j : Nat} (h1 : 1 ≤ j) (h : upto a (j - 1) % 2 = 1) : upto a (j - 1) * b = upto a j * b + upto a j * b + b := by
  have := upto_step a (j - 1)
  rw [h, show j - 1 + 1 = j by omega] at this
  rw [this, Int.add_mul, Int.one_mul, Int.mul_assoc, Int.two_mul]
theorem upto_even {a b : Int} {j : Nat} (h1 : 1 ≤ j) (h : upto a (j - 1) % 2 ≠ 1) : upto a (j - 1) * b = upto a j * b + upto a j * b := by
  have := upto_step a (j - 1)
  rw [show upto a (j - 1) % 2 = 0 by omega, show j - 1 + 1 = j by omega] at this
  rw [this, Int.add_mul, Int.zero_mul, Int.mul_assoc, Int.two_mul, Int.add_zero]
theorem prod_bound {a b : Int} (i : Nat) (ha : 0 ≤ a) (hA : a ≤ 9223372036854775807) (hb : 0 ≤ b) (hB : b ≤ 9223372036854775807) : 0 ≤ upto a i * b ∧ upto a i * b ≤ 85070591730234615847396907784232501249 := by
  have h0 := upto_nonneg i ha
  have h1 := upto_le i ha
  refine ⟨Int.mul_nonneg h0 hb, ?_⟩
  have := Int.mul_le_mul (show upto a i ≤ 9223372036854775807 by omega) hB hb (by decide)
  omega
end Go.Proofs.Ytmpendenaflonaa.FixMath
