/- The law SideBest of chapter 2: of any prices the best is the reference's, and none is better than it. No conditions. -/
import Derived.Test.YthmmlamenpbgmaaPSideBestx2
import Derived.Test.YthmmlamenpbgmaaWSized
namespace Go.Proofs.Ythmmlamenpbgmaa.PrintWords
/-- the words of the print, under the name by which the printed row calls them -/
abbrev sized_ints := @Go.Proofs.YthmmlamenpbgmaaW.PrintWords.sized_ints
end Go.Proofs.Ythmmlamenpbgmaa.PrintWords
namespace Go.Proofs.Ythmmlamenpbgmaa.Pure
open Go.RowKit Go.Proofs.Ythmmlamenpbgmaa.PSideBest Go.Proofs.YthmmlamenpbgmaaW.PrintWords Go.Proofs.YthmmlamenpbgmaaW.PrintLast

theorem known_best : consolslaw2_known.f = some true := by
  simp [consolslaw2_known.f, side_Better.f, side_Other.f, side_Is.f, wrap64]

/-- which price is better -/
def ahead (s a b : Int) : Bool := if s = 1 then decide (b < a) else if s = 2 then decide (a < b) else false

theorem better_ahead (s a b : Int) : side_Better.f s a b = some (ahead s a b) := by
  unfold side_Better.f ahead
  by_cases h1 : s = 1
  · subst h1; by_cases h : a > b
    · have : b < a := h
      simp [this]
    · have : ¬ b < a := h
      simp [this]
  · rw [if_neg h1, if_neg h1]; split <;> rfl

theorem better_ref (s a b : Int) : consolsref2_Better.f s a b = some (ahead s a b) := by
  rw [← better_ahead]; rfl

theorem ahead_self (s a : Int) : ahead s a a = false := by
  unfold ahead; split <;> simp

theorem ahead_step (s a b c : Int) (h1 : ahead s a b = false) (h2 : ahead s c b = true) : ahead s a c = false := by
  unfold ahead at *
  split at h1
  · simp_all; omega
  · split at h1
    · simp_all; omega
    · rename_i e1 e2; rw [if_neg e1, if_neg e2]

theorem wrap_head {i : Int} {n : Nat} (h0 : 0 ≤ i) (h : i < (n : Int)) (hn : n ≤ 100) : wrap64 (i + 1) = i + 1 := by
  unfold wrap64
  omega

theorem best_loop (s : Int) (l : List Int) (hn : l.length ≤ 100) (d : Nat) : ∀ (k : Nat) (b i : Int), 0 ≤ i → i ≤ l.length → (l.length : Int) - i = d → d < k →
    (∀ j : Int, 0 ≤ j → j < i → ahead s (rd l j) b = false) →
    ∃ r, side_Best.l0 k s b l (l.length : Int) i = some (r, true) ∧ consolsref2_Best.l0 k s l b i = some (r, true) ∧
      (∀ j : Int, 0 ≤ j → j < l.length → ahead s (rd l j) r = false) := by
  induction d with
  | zero =>
    intro k b i h0 h1 hd hk hb
    obtain ⟨k, rfl⟩ : ∃ m, k = m + 1 := ⟨k - 1, by omega⟩
    refine ⟨b, ?_, ?_, fun j a c => hb j a (by omega)⟩
    · simp only [side_Best.l0]; rw [if_neg (by omega)]
    · simp only [consolsref2_Best.l0]; rw [if_neg (by omega)]
  | succ d ih =>
    intro k b i h0 h1 hd hk hb
    obtain ⟨k, rfl⟩ : ∃ m, k = m + 1 := ⟨k - 1, by omega⟩
    have hlt : i < (l.length : Int) := by omega
    cases hc : ahead s (rd l i) b with
    | true =>
      obtain ⟨r, e1, e2, h⟩ := ih k (rd l i) (i + 1) (by omega) (by omega) (by omega) (by omega) (by
        intro j a c
        by_cases e : j = i
        · subst e; exact ahead_self _ _
        · exact ahead_step s _ _ _ (hb j a (by omega)) hc)
      refine ⟨r, ?_, ?_, h⟩
      · simp only [side_Best.l0]; rw [if_pos hlt, if_pos h0, if_pos hlt, better_ahead]; simp only [Option.bind_some, hc, if_true]; rw [wrap_head h0 hlt hn]; exact e1
      · simp only [consolsref2_Best.l0]; rw [if_pos hlt, if_pos h0, better_ref]; simp only [Option.bind_some, hc, if_true]; rw [wrap_head h0 hlt hn]; exact e2
    | false =>
      obtain ⟨r, e1, e2, h⟩ := ih k b (i + 1) (by omega) (by omega) (by omega) (by omega) (by
        intro j a c
        by_cases e : j = i
        · subst e; exact hc
        · exact hb j a (by omega))
      refine ⟨r, ?_, ?_, h⟩
      · simp only [side_Best.l0]; rw [if_pos hlt, if_pos h0, if_pos hlt, better_ahead]; simp only [Option.bind_some, hc]; rw [if_neg (by decide), wrap_head h0 hlt hn]; exact e1
      · simp only [consolsref2_Best.l0]; rw [if_pos hlt, if_pos h0, better_ref]; simp only [Option.bind_some, hc]; rw [if_neg (by decide), wrap_head h0 hlt hn]; exact e2

theorem law_loop (s : Int) (l : List Int) (hn : l.length ≤ 100) (b : Int) (ok : Bool) (hb : ok = true → ∀ j : Int, 0 ≤ j → j < l.length → ahead s (rd l j) b = false)
    (d : Nat) : ∀ (k : Nat) (i : Int), 0 ≤ i → i ≤ l.length → (l.length : Int) - i = d → d < k → consolslaw2_SideBest.l0 k s l b ok i = some true := by
  induction d with
  | zero =>
    intro k i h0 h1 hd hk
    obtain ⟨k, rfl⟩ : ∃ m, k = m + 1 := ⟨k - 1, by omega⟩
    simp only [consolslaw2_SideBest.l0]; rw [if_neg (by omega), known_best]; rfl
  | succ d ih =>
    intro k i h0 h1 hd hk
    obtain ⟨k, rfl⟩ : ∃ m, k = m + 1 := ⟨k - 1, by omega⟩
    have hlt : i < (l.length : Int) := by omega
    have hi := ih k (i + 1) (by omega) (by omega) (by omega) (by omega)
    simp only [consolslaw2_SideBest.l0]; rw [if_pos hlt]
    cases ok with
    | true => rw [if_pos rfl, if_pos h0, better_ahead, hb rfl i h0 hlt]; simp only [Option.bind_some]; rw [if_neg (by decide), wrap_head h0 hlt hn]; exact hi
    | false => rw [if_neg (by decide), wrap_head h0 hlt hn]; exact hi

theorem SideBest : consolslaw2_SideBest.Pure := by
  intro s l _ _ _ _
  by_cases hn : l.length ≤ 100
  · refine ⟨200, ?_⟩
    unfold consolslaw2_SideBest.f
    rw [if_neg (by omega)]
    have fin : ∀ (b : Int) (ok : Bool), (ok = true → ∀ j : Int, 0 ≤ j → j < l.length → ahead s (rd l j) b = false) →
        side_Best.f 200 s l = some (b, ok) → consolsref2_Best.f 200 s l = some (b, ok) →
        ((side_Best.f 200 s l).bind fun bt114 => ((consolsref2_Best.f 200 s l).bind fun bt116 => (if bt114.1 = bt116.1 then (consolslaw2_SideBest.j0 200 s l bt114.1 bt114.2 (bt114.2 != bt116.2)) else (consolslaw2_SideBest.j0 200 s l bt114.1 bt114.2 true)))) = some true := by
      intro b ok hb e1 e2
      rw [e1, e2]; simp only [Option.bind_some]; rw [if_pos trivial]
      simp only [bne_self_eq_false, consolslaw2_SideBest.j0]
      rw [if_neg (by decide)]
      exact law_loop s l hn b ok hb l.length 199 0 (by omega) (by omega) (by omega) (by omega)
    by_cases hs : s = 1 ∨ s = 2
    · by_cases hl : l.length = 0
      · refine fin 0 false (fun h => by cases h) ?_ ?_
        · unfold side_Best.f; rw [if_pos (by omega)]; simp only [side_Best.j0, if_true]
        · have : ((l.length : Int) == 0) = true := by simp; exact List.length_eq_zero_iff.mp hl
          unfold consolsref2_Best.f consolsref2_Is.f
          rcases hs with rfl | rfl <;> simp [this, consolsref2_Best.j0]
      · have hl0 : 0 < (l.length : Int) := by omega
        obtain ⟨r, e1, e2, h⟩ := best_loop s l hn l.length 199 (rd l 0) 0 (by omega) (by omega) (by omega) (by omega) (by intro j a b; omega)
        refine fin r true (fun _ => h) ?_ ?_
        · unfold side_Best.f; rw [if_neg (by omega)]
          have : side_Is.f s = some true := by unfold side_Is.f; rcases hs with rfl | rfl <;> rfl
          rw [this]; simp only [Option.bind_some, side_Best.j0]; rw [if_neg (by decide), if_pos hl0]; exact e1
        · have : consolsref2_Is.f s = some true := by unfold consolsref2_Is.f; rcases hs with rfl | rfl <;> rfl
          unfold consolsref2_Best.f
          rw [this]; simp only [Option.bind_some, if_true, consolsref2_Best.j0]
          have h2 : ((l.length : Int) == 0) = false := by rw [beq_eq_false_iff_ne]; omega
          rw [h2, if_neg (by decide), if_pos hl0]; exact e2
    · have h1 : s ≠ 1 := fun e => hs (Or.inl e)
      have h2 : s ≠ 2 := fun e => hs (Or.inr e)
      refine fin 0 false (fun h => by cases h) ?_ ?_
      · unfold side_Best.f side_Is.f
        by_cases hl : (l.length : Int) = 0
        · rw [if_pos hl]; simp only [side_Best.j0, if_true]
        · rw [if_neg hl, if_neg h1]
          have : (s == 2) = false := by rw [beq_eq_false_iff_ne]; exact h2
          simp only [Option.bind_some, this, Bool.not_false, side_Best.j0, if_true]
      · unfold consolsref2_Best.f consolsref2_Is.f
        have : (s == 2) = false := by rw [beq_eq_false_iff_ne]; exact h2
        rw [if_neg h1, this]; simp only [Option.bind_some]; rw [if_neg (by decide)]; simp only [consolsref2_Best.j0, if_true]
  · refine ⟨0, ?_⟩
    unfold consolslaw2_SideBest.f
    rw [if_pos (by omega)]

end Go.Proofs.Ythmmlamenpbgmaa.Pure
