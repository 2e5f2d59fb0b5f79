/- The law FixOrder of chapter 1: products rise as their parts do, whatever three numbers are given. No conditions. -/
import Derived.Test.YtphplkjpmhphmaaPFixOrderx3
import Derived.Test.YtphplkjpmhphmaaMath
namespace Go.Proofs.Ytphplkjpmhphmaa.Pure
open Go.RowKit Go.Proofs.Ytphplkjpmhphmaa.PFixOrder Go.Proofs.YtphplkjpmhphmaaW.PrintWords Go.Proofs.YtphplkjpmhphmaaW.PrintLast
open Go.Proofs.Ytphplkjpmhphmaa.Math

theorem order_mul (a b : Int) (ha : 0 ≤ a) (hA : a < 18446744073709551616) (hb : 0 ≤ b) (hB : b < 18446744073709551616) :
    bits_Mul64.f a b = some (a * b / 18446744073709551616, a * b % 18446744073709551616) := by
  unfold bits_Mul64.f
  rw [mul_halves a b ha hA hb hB, wrap_u64]

theorem order_times (a b : Int) (ha : 0 ≤ a) (hA : a ≤ 9223372036854775807) (hb : 0 ≤ b) (hB : b ≤ 9223372036854775807) :
    fix_Times.f a b = some (a * b / 18446744073709551616, a * b % 18446744073709551616, true) := by
  unfold fix_Times.f
  rw [if_neg (by omega), if_neg (by omega), wrap_u64_in a ha (by omega), wrap_u64_in b hb (by omega), order_mul a b ha (by omega) hb (by omega)]
  rfl

theorem order_times_no (a b : Int) (h : a < 0 ∨ b < 0) : fix_Times.f a b = some (0, 0, false) := by
  unfold fix_Times.f
  by_cases h1 : a < 0
  · rw [if_pos h1]
  · rw [if_neg h1, if_pos (by omega)]

theorem order_compare (a b : Int) : cmp_Compare_uint64.f a b = some (if a < b then -1 else if a > b then 1 else 0) := by
  unfold cmp_Compare_uint64.f cmp_isNaN_uint64.f
  simp
  split
  · rfl
  · split <;> rfl

theorem order_or (k : Nat) (x y : Int) : cmp_Or_int.f (k + 3) [x, y] = some (if x = 0 then y else x) := by
  unfold cmp_Or_int.f
  by_cases h : x = 0
  · subst h
    by_cases h2 : y = 0
    · subst h2; simp [cmp_Or_int.l0, rd, wrap64]
    · simp [cmp_Or_int.l0, rd, wrap64, h2]
  · simp [cmp_Or_int.l0, rd, h]

theorem order_cmp (k : Nat) (a b c d : Int) : fix_Cmp.f (k + 3) a b c d = some (if a < c then -1 else if a > c then 1 else if b < d then -1 else if b > d then 1 else 0) := by
  unfold fix_Cmp.f
  rw [order_compare, order_compare]
  simp only [Option.bind_some]
  rw [order_or]
  simp only [Option.bind_some]
  by_cases h1 : a < c
  · simp [h1]
  · by_cases h2 : a > c
    · simp [h1, h2]
    · simp [h1, h2]

theorem order_cmp_val (k : Nat) (p q : Int) :
    fix_Cmp.f (k + 3) (p / 18446744073709551616) (p % 18446744073709551616) (q / 18446744073709551616) (q % 18446744073709551616) = some (if p < q then -1 else if p > q then 1 else 0) := by
  rw [order_cmp]
  congr 1
  by_cases h1 : p < q
  · rw [if_pos h1]
    by_cases h2 : p / 18446744073709551616 < q / 18446744073709551616
    · rw [if_pos h2]
    · rw [if_neg h2, if_neg (by omega), if_pos (by omega)]
  · rw [if_neg h1]
    by_cases h3 : p > q
    · rw [if_pos h3, if_neg (by omega)]
      by_cases h2 : p / 18446744073709551616 > q / 18446744073709551616
      · rw [if_pos h2]
      · rw [if_neg h2, if_neg (by omega), if_pos (by omega)]
    · rw [if_neg h3, if_neg (by omega), if_neg (by omega), if_neg (by omega), if_neg (by omega)]

theorem known_order (k : Nat) : consolslaw1_known.f (k + 3) = some true := by
  unfold consolslaw1_known.f
  rw [order_times _ _ (by decide) (by decide) (by decide) (by decide)]
  have ha : fix_Add.f 4611686018427387904 4611686018427387904 = some (0, false) := by decide +kernel
  rw [ha]
  simp only [Option.bind_some]
  rw [order_cmp]
  decide

theorem mul_lt (a b c : Int) (hc : 0 < c) (h : a < b) : a * c < b * c := Int.mul_lt_mul_of_pos_right h hc

theorem wf_bounds (n : Int) (h : (Lit.int .i64 n).wf = true) : -9223372036854775808 ≤ n ∧ n ≤ 9223372036854775807 := by
  simpa [Lit.wf, IntKind.min, IntKind.max, IntKind.signed, IntKind.bits] using h

theorem order_end (k : Nat) (a b c want : Int) (ok : Bool) (ha : 0 ≤ a) (hA : a ≤ 9223372036854775807) (hc : 0 ≤ c) (hC : c ≤ 9223372036854775807)
    (hw : (if a * c < b * c then -1 else if a * c > b * c then 1 else 0 : Int) = if ok then 1 else want) :
    consolslaw1_FixOrder.j3 (k + 4) a c want ok (a * c / 18446744073709551616) (a * c % 18446744073709551616) (b * c / 18446744073709551616) (b * c % 18446744073709551616) = some true := by
  have e1 := order_times c a hc hC ha hA
  have e2 := order_cmp_val k (a * c) (b * c)
  rw [show c * a = a * c from Int.mul_comm c a] at e1
  rw [hw] at e2
  simp only [consolslaw1_FixOrder.j3]
  cases ok with
  | true =>
    simp only [if_true] at e2 ⊢
    rw [e1]; simp only [Option.bind_some]; rw [e2]; simp [known_order]
  | false =>
    rw [if_neg (by decide)] at e2 ⊢
    rw [e1]; simp only [Option.bind_some]; rw [e2]; simp [known_order]

theorem FixOrder : consolslaw1_FixOrder.Pure := by
  intro a b c wa wb wc
  have ba := wf_bounds a wa
  have bb := wf_bounds b wb
  have bc := wf_bounds c wc
  refine ⟨10, ?_⟩
  unfold consolslaw1_FixOrder.f
  by_cases hc : c < 0
  · rw [order_times_no a c (Or.inr hc), order_times_no b c (Or.inr hc)]
    simp [consolslaw1_FixOrder.j0, known_order, hc]
  · by_cases ha : a < 0
    · rw [order_times_no a c (Or.inl ha)]
      have : ∃ x y z, fix_Times.f b c = some (x, y, z) := by
        by_cases hb : b < 0
        · exact ⟨_, _, _, order_times_no b c (Or.inl hb)⟩
        · exact ⟨_, _, _, order_times b c (by omega) (by omega) (by omega) (by omega)⟩
      obtain ⟨x, y, z, e⟩ := this
      rw [e]
      simp [consolslaw1_FixOrder.j0, known_order, ha]
    · by_cases hb : b < 0
      · rw [order_times_no b c (Or.inl hb), order_times a c (by omega) (by omega) (by omega) (by omega)]
        simp [consolslaw1_FixOrder.j0, known_order, ha, hb]
      · rw [order_times a c (by omega) (by omega) (by omega) (by omega), order_times b c (by omega) (by omega) (by omega) (by omega)]
        simp only [Option.bind_some, if_true, Bool.not_true, consolslaw1_FixOrder.j0]
        rw [if_neg (by decide)]
        have fin := fun (want : Int) (ok : Bool) hw => order_end 3 a b c want ok (by omega) (by omega) (by omega) (by omega) hw
        by_cases h0 : c > 0
        · rw [if_pos h0]
          simp only [consolslaw1_FixOrder.j1]
          by_cases h1 : a < b
          · have m := mul_lt a b c h0 h1
            rw [decide_eq_true h1, if_pos rfl]
            simp only [consolslaw1_FixOrder.j2]
            rw [if_pos h0, decide_eq_false (by omega : ¬ a > b)]
            exact fin (-1) false (by rw [if_pos m]; rfl)
          · rw [decide_eq_false h1, if_neg (by decide)]
            simp only [consolslaw1_FixOrder.j2]
            rw [if_pos h0]
            by_cases h2 : a > b
            · have m := mul_lt b a c h0 h2
              rw [decide_eq_true h2]
              exact fin 0 true (by rw [if_neg (by omega), if_pos m]; rfl)
            · obtain rfl : a = b := by omega
              rw [decide_eq_false h2]
              exact fin 0 false (by simp)
        · obtain rfl : c = 0 := by omega
          rw [if_neg h0]
          simp only [consolslaw1_FixOrder.j1]
          rw [if_neg (by decide)]
          simp only [consolslaw1_FixOrder.j2]
          rw [if_neg h0]
          exact fin 0 false (by simp)

end Go.Proofs.Ytphplkjpmhphmaa.Pure
