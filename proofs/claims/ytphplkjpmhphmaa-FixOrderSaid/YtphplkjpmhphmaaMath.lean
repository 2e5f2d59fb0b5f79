/- Plain arithmetic for chapter 1: the product of two numbers of 64 digits by halves, wide numbers as one number, digits of a number. No Go in it. -/
import Derived.Test.YtphplkjpmhphmaaWMore
import Derived.Laws.BitsLemmas
namespace Go.Proofs.Ytphplkjpmhphmaa.Math
open Go.RowKit Go.Proofs.YtphplkjpmhphmaaW.PrintWords Go.Proofs.YtphplkjpmhphmaaW.PrintLast Go.Proofs.YtphplkjpmhphmaaW.PrintMore

theorem wrap_u64 (n : Int) : IntKind.u64.wrap n = n % 18446744073709551616 := by simp [IntKind.wrap, IntKind.bits, IntKind.signed]

theorem wrap_u64_in (n : Int) (h0 : 0 ≤ n) (h1 : n < 18446744073709551616) : IntKind.u64.wrap n = n := by rw [wrap_u64]; omega

theorem mask32 (x : Int) (h0 : 0 ≤ x) (h1 : x < 18446744073709551616) : Go.bits .and .u64 x 4294967295 = x % 4294967296 := by
  have := bits_mask .u64 64 (by decide) (fun n a b => wrap_u64_in n a (by simpa using b)) 32 (by decide) x h0 (by simpa using h1)
  simpa using this

/-- a product of halves lies within 64 digits -/
theorem half_mul (a b : Int) (ha : 0 ≤ a) (hA : a ≤ 4294967295) (hb : 0 ≤ b) (hB : b ≤ 4294967295) : 0 ≤ a * b ∧ a * b ≤ 18446744065119617025 := by
  refine ⟨Int.mul_nonneg ha hb, ?_⟩
  have h1 := Int.mul_le_mul hA hB hb (by decide)
  omega

/-- what Mul64 computes by halves: the product's high and low digits -/
theorem mul_halves (a b : Int) (ha : 0 ≤ a) (hA : a < 18446744073709551616) (hb : 0 ≤ b) (hB : b < 18446744073709551616) :
    IntKind.u64.wrap ((IntKind.u64.wrap ((IntKind.u64.wrap ((a / 4294967296) * (b / 4294967296))) + ((IntKind.u64.wrap ((IntKind.u64.wrap ((a / 4294967296) * (Go.bits .and .u64 b 4294967295))) + ((IntKind.u64.wrap ((Go.bits .and .u64 a 4294967295) * (Go.bits .and .u64 b 4294967295))) / 4294967296))) / 4294967296))) + ((IntKind.u64.wrap ((Go.bits .and .u64 (IntKind.u64.wrap ((IntKind.u64.wrap ((a / 4294967296) * (Go.bits .and .u64 b 4294967295))) + ((IntKind.u64.wrap ((Go.bits .and .u64 a 4294967295) * (Go.bits .and .u64 b 4294967295))) / 4294967296))) 4294967295) + (IntKind.u64.wrap ((Go.bits .and .u64 a 4294967295) * (b / 4294967296))))) / 4294967296))
      = a * b / 18446744073709551616 := by
  rw [mask32 a ha hA, mask32 b hb hB]
  have hx1 : a / 4294967296 * 4294967296 + a % 4294967296 = a := by omega
  have hy1 : b / 4294967296 * 4294967296 + b % 4294967296 = b := by omega
  have bx : 0 ≤ a / 4294967296 ∧ a / 4294967296 ≤ 4294967295 := by omega
  have by' : 0 ≤ b / 4294967296 ∧ b / 4294967296 ≤ 4294967295 := by omega
  have bx0 : 0 ≤ a % 4294967296 ∧ a % 4294967296 ≤ 4294967295 := by omega
  have by0 : 0 ≤ b % 4294967296 ∧ b % 4294967296 ≤ 4294967295 := by omega
  generalize a / 4294967296 = x1 at *
  generalize b / 4294967296 = y1 at *
  generalize a % 4294967296 = x0 at *
  generalize b % 4294967296 = y0 at *
  have m11 := half_mul x1 y1 bx.1 bx.2 by'.1 by'.2
  have m10 := half_mul x1 y0 bx.1 bx.2 by0.1 by0.2
  have m01 := half_mul x0 y1 bx0.1 bx0.2 by'.1 by'.2
  have m00 := half_mul x0 y0 bx0.1 bx0.2 by0.1 by0.2
  have hab : a * b = x1 * y1 * 18446744073709551616 + (x1 * y0 + x0 * y1) * 4294967296 + x0 * y0 := by
    rw [← hx1, ← hy1, Int.add_mul, Int.mul_add, Int.mul_add]
    have e1 : x1 * 4294967296 * (y1 * 4294967296) = x1 * y1 * 18446744073709551616 := by
      rw [show x1 * 4294967296 * (y1 * 4294967296) = x1 * y1 * (4294967296 * 4294967296) by ac_rfl]; rfl
    have e2 : x1 * 4294967296 * y0 = x1 * y0 * 4294967296 := by ac_rfl
    have e3 : x0 * (y1 * 4294967296) = x0 * y1 * 4294967296 := by ac_rfl
    rw [e1, e2, e3, Int.add_mul]; omega
  rw [hab]
  generalize x1 * y1 = p at *
  generalize x1 * y0 = q at *
  generalize x0 * y1 = r at *
  generalize x0 * y0 = s at *
  rw [wrap_u64_in p (by omega) (by omega), wrap_u64_in q (by omega) (by omega), wrap_u64_in r (by omega) (by omega), wrap_u64_in s (by omega) (by omega)]
  rw [wrap_u64_in (q + s / 4294967296) (by omega) (by omega)]
  rw [mask32 (q + s / 4294967296) (by omega) (by omega)]
  rw [wrap_u64_in ((q + s / 4294967296) % 4294967296 + r) (by omega) (by omega)]
  rw [wrap_u64_in (p + (q + s / 4294967296) / 4294967296) (by omega) (by omega)]
  rw [wrap_u64_in _ (by omega) (by omega)]
  omega

end Go.Proofs.Ytphplkjpmhphmaa.Math
