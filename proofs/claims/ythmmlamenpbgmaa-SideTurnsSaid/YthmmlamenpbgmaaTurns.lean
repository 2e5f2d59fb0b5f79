/- The law SideTurns of chapter 2: what is better to buy is worse to sell; of unlike prices one is better; one that takes a price is taken by it. No conditions. This text: its walk, over the contracts of the functions that it calls. -/
import Derived.Test.YthmmlamenpbgmaaPSideTellsx1
namespace Go.Proofs.Ythmmlamenpbgmaa.Turns
open Go.RowKit Go.Proofs.Ythmmlamenpbgmaa.PSideTells Go.Proofs.YthmmlamenpbgmaaW.PrintWords Go.Proofs.YthmmlamenpbgmaaW.PrintLast

/-- which price is better -/
def ahead (s a b : Int) : Bool := if s = 1 then decide (b < a) else if s = 2 then decide (a < b) else false

theorem better_ahead (s a b : Int) : side_Better.f s a b = some (ahead s a b) := by
  unfold side_Better.f ahead
  by_cases h1 : s = 1
  · subst h1; by_cases h : a > b
    · have : b < a := h
      simp [this]
    · have : ¬ b < a := h
      simp [this]
  · rw [if_neg h1, if_neg h1]; split <;> rfl

theorem takes_ahead (s a b : Int) (h : s = 1 ∨ s = 2) : side_Takes.f s a b = some (!ahead s b a) := by
  unfold side_Takes.f side_Is.f
  rcases h with rfl | rfl <;> simp [better_ahead]

theorem takes_none (s a b : Int) (h1 : s ≠ 1) (h2 : s ≠ 2) : side_Takes.f s a b = some false := by
  unfold side_Takes.f side_Is.f
  simp [h1, h2]

theorem other_side (s : Int) (h : s = 1 ∨ s = 2) : side_Other.f s = some (3 - s) := by
  unfold side_Other.f side_Is.f
  rcases h with rfl | rfl <;> simp [wrap64]

theorem known_turns : consolslaw2_known.f = some true := by
  simp [consolslaw2_known.f, side_Better.f, side_Other.f, side_Is.f, wrap64]

theorem ahead_turned (s a b : Int) (h : s = 1 ∨ s = 2) : ahead (3 - s) b a = ahead s a b := by
  unfold ahead
  rcases h with rfl | rfl <;> simp

theorem ahead_self (s a : Int) : ahead s a a = false := by
  unfold ahead; split <;> simp

/-- who is no side: nothing is better, nothing is taken -/
theorem turns_none (s a b : Int) (w : World) (h1 : s ≠ 1) (h2 : s ≠ 2) :
    Calls Try.prog 4 #[.int .i64 s, .int .i64 a, .int .i64 b] w fun e w' => e = .returned (.bool true) ∧ Drawn0 w w' := by
  have b1 : (s == 1) = false := beq_eq_false_iff_ne.mpr h1
  have b2 : (s != 1) = true := bne_iff_ne.mpr h1
  have b3 : (s == 2) = false := beq_eq_false_iff_ne.mpr h2
  have b4 : (s != 2) = true := bne_iff_ne.mpr h2
  have E1 := Aside0.mk (show side_Better.f s a b = some false by rw [better_ahead]; unfold ahead; rw [if_neg h1, if_neg h2])
  have E2 := Aside0.mk (takes_none s a b h1 h2)
  have E3 := Aside0.mk known_turns
  clear h1 h2
  go_enter Try.func4, Try.ntmps4
  go_wp2_with (first
    | (go_at_call 11; (with_reducible refine (side_Better.calls s a b false _ E1.out).mono ?_); rintro e w' ⟨rfl, ⟨nd, rfl⟩⟩)
    | (go_at_call 13; (with_reducible refine (side_Takes.calls s a b false _ E2.out).mono ?_); rintro e w' ⟨rfl, ⟨nd, rfl⟩⟩)
    | (go_at_call 15; (with_reducible refine (consolslaw2_known.calls true _ E3.out).mono ?_); rintro e w' ⟨rfl, ⟨nd, rfl⟩⟩))
  go_ret
  exact ⟨rfl, by repeat (first | exact Drawn0.refl _ | apply Drawn0.step)⟩

/-- a side, the first price being better -/
theorem turns_first (s o a b : Int) (w : World) (h : s = 1 ∨ s = 2) (ho : o = 3 - s) (hx : ahead s a b = true) :
    Calls Try.prog 4 #[.int .i64 s, .int .i64 a, .int .i64 b] w fun e w' => e = .returned (.bool true) ∧ Drawn0 w w' := by
  have o1 := Aside0.mk (show side_Other.f s = some o by rw [ho]; exact other_side s h)
  have o2 := Aside0.mk (show side_Other.f o = some s by rw [ho, other_side _ (by omega)]; congr 1; omega)
  have e1 := Aside0.mk (show side_Better.f s a b = some true by rw [better_ahead, hx])
  have e2 := Aside0.mk (show side_Better.f o b a = some true by rw [better_ahead, ho, ahead_turned s a b h, hx])
  have t1 := Aside0.mk (takes_ahead s a b h)
  have t2 := Aside0.mk (show side_Takes.f o b a = some (!ahead s b a) by rw [takes_ahead o b a (by omega), ho, ahead_turned s b a h])
  have t3 := Aside0.mk (show side_Takes.f s a a = some true by rw [takes_ahead s a a h, ahead_self]; rfl)
  have E3 := Aside0.mk known_turns
  have hab : (a != b) = true := by
    rw [bne_iff_ne]; intro e; subst e; rw [ahead_self] at hx; cases hx
  generalize (!ahead s b a) = t at *
  have b0 : (s == s) = true := beq_self_eq_true s
  rcases h with rfl | rfl
  all_goals
    clear ho hx b0
    go_enter Try.func4, Try.ntmps4
    go_wp2_with (first
      | (go_at_call 9; (with_reducible refine (side_Other.calls _ _ _ o1.out).mono ?_); rintro e w' ⟨rfl, ⟨nd, rfl⟩⟩)
      | (go_at_call 9; (with_reducible refine (side_Other.calls _ _ _ o2.out).mono ?_); rintro e w' ⟨rfl, ⟨nd, rfl⟩⟩)
      | (go_at_call 11; (with_reducible refine (side_Better.calls _ _ _ _ _ e1.out).mono ?_); rintro e w' ⟨rfl, ⟨nd, rfl⟩⟩)
      | (go_at_call 11; (with_reducible refine (side_Better.calls _ _ _ _ _ e2.out).mono ?_); rintro e w' ⟨rfl, ⟨nd, rfl⟩⟩)
      | (go_at_call 13; (with_reducible refine (side_Takes.calls _ _ _ _ _ t1.out).mono ?_); rintro e w' ⟨rfl, ⟨nd, rfl⟩⟩)
      | (go_at_call 13; (with_reducible refine (side_Takes.calls _ _ _ _ _ t2.out).mono ?_); rintro e w' ⟨rfl, ⟨nd, rfl⟩⟩)
      | (go_at_call 13; (with_reducible refine (side_Takes.calls _ _ _ _ _ t3.out).mono ?_); rintro e w' ⟨rfl, ⟨nd, rfl⟩⟩)
      | (go_at_call 15; (with_reducible refine (consolslaw2_known.calls true _ E3.out).mono ?_); rintro e w' ⟨rfl, ⟨nd, rfl⟩⟩))
    go_ret
    exact ⟨rfl, by repeat (first | exact Drawn0.refl _ | apply Drawn0.step)⟩

/-- a side, the second price being better -/
theorem turns_second (s o a b : Int) (w : World) (h : s = 1 ∨ s = 2) (ho : o = 3 - s) (hx : ahead s a b = false) (hy : ahead s b a = true) :
    Calls Try.prog 4 #[.int .i64 s, .int .i64 a, .int .i64 b] w fun e w' => e = .returned (.bool true) ∧ Drawn0 w w' := by
  have o1 := Aside0.mk (show side_Other.f s = some o by rw [ho]; exact other_side s h)
  have o2 := Aside0.mk (show side_Other.f o = some s by rw [ho, other_side _ (by omega)]; congr 1; omega)
  have e1 := Aside0.mk (show side_Better.f s a b = some false by rw [better_ahead, hx])
  have e2 := Aside0.mk (show side_Better.f o b a = some false by rw [better_ahead, ho, ahead_turned s a b h, hx])
  have e3 := Aside0.mk (show side_Better.f s b a = some true by rw [better_ahead, hy])
  have t1 := Aside0.mk (takes_ahead s a b h)
  have t2 := Aside0.mk (show side_Takes.f o b a = some (!ahead s b a) by rw [takes_ahead o b a (by omega), ho, ahead_turned s b a h])
  have t3 := Aside0.mk (show side_Takes.f s a a = some true by rw [takes_ahead s a a h, ahead_self]; rfl)
  have E3 := Aside0.mk known_turns
  have hab : (a != b) = true := by
    rw [bne_iff_ne]; intro e; subst e; rw [ahead_self] at hy; cases hy
  generalize (!ahead s b a) = t at *
  rcases h with rfl | rfl
  all_goals
    clear ho hx hy
    go_enter Try.func4, Try.ntmps4
    go_wp2_with (first
      | (go_at_call 9; (with_reducible refine (side_Other.calls _ _ _ o1.out).mono ?_); rintro e w' ⟨rfl, ⟨nd, rfl⟩⟩)
      | (go_at_call 9; (with_reducible refine (side_Other.calls _ _ _ o2.out).mono ?_); rintro e w' ⟨rfl, ⟨nd, rfl⟩⟩)
      | (go_at_call 11; (with_reducible refine (side_Better.calls _ _ _ _ _ e1.out).mono ?_); rintro e w' ⟨rfl, ⟨nd, rfl⟩⟩)
      | (go_at_call 11; (with_reducible refine (side_Better.calls _ _ _ _ _ e2.out).mono ?_); rintro e w' ⟨rfl, ⟨nd, rfl⟩⟩)
      | (go_at_call 11; (with_reducible refine (side_Better.calls _ _ _ _ _ e3.out).mono ?_); rintro e w' ⟨rfl, ⟨nd, rfl⟩⟩)
      | (go_at_call 13; (with_reducible refine (side_Takes.calls _ _ _ _ _ t1.out).mono ?_); rintro e w' ⟨rfl, ⟨nd, rfl⟩⟩)
      | (go_at_call 13; (with_reducible refine (side_Takes.calls _ _ _ _ _ t2.out).mono ?_); rintro e w' ⟨rfl, ⟨nd, rfl⟩⟩)
      | (go_at_call 13; (with_reducible refine (side_Takes.calls _ _ _ _ _ t3.out).mono ?_); rintro e w' ⟨rfl, ⟨nd, rfl⟩⟩)
      | (go_at_call 15; (with_reducible refine (consolslaw2_known.calls true _ E3.out).mono ?_); rintro e w' ⟨rfl, ⟨nd, rfl⟩⟩))
    go_ret
    exact ⟨rfl, by repeat (first | exact Drawn0.refl _ | apply Drawn0.step)⟩

/-- a side, the prices being alike -/
theorem turns_alike (s o a : Int) (w : World) (h : s = 1 ∨ s = 2) (ho : o = 3 - s) :
    Calls Try.prog 4 #[.int .i64 s, .int .i64 a, .int .i64 a] w fun e w' => e = .returned (.bool true) ∧ Drawn0 w w' := by
  have o1 := Aside0.mk (show side_Other.f s = some o by rw [ho]; exact other_side s h)
  have o2 := Aside0.mk (show side_Other.f o = some s by rw [ho, other_side _ (by omega)]; congr 1; omega)
  have e1 := Aside0.mk (show side_Better.f s a a = some false by rw [better_ahead, ahead_self])
  have e2 := Aside0.mk (show side_Better.f o a a = some false by rw [better_ahead, ahead_self])
  have e3 := e1
  have t1 := Aside0.mk (show side_Takes.f s a a = some true by rw [takes_ahead s a a h, ahead_self]; rfl)
  have t2 := Aside0.mk (show side_Takes.f o a a = some true by rw [takes_ahead o a a (by omega), ahead_self]; rfl)
  have t3 := t1
  have E3 := Aside0.mk known_turns
  have hab : (a != a) = false := by simp
  rcases h with rfl | rfl
  all_goals
    clear ho
    go_enter Try.func4, Try.ntmps4
    go_wp2_with (first
      | (go_at_call 9; (with_reducible refine (side_Other.calls _ _ _ o1.out).mono ?_); rintro e w' ⟨rfl, ⟨nd, rfl⟩⟩)
      | (go_at_call 9; (with_reducible refine (side_Other.calls _ _ _ o2.out).mono ?_); rintro e w' ⟨rfl, ⟨nd, rfl⟩⟩)
      | (go_at_call 11; (with_reducible refine (side_Better.calls _ _ _ _ _ e1.out).mono ?_); rintro e w' ⟨rfl, ⟨nd, rfl⟩⟩)
      | (go_at_call 11; (with_reducible refine (side_Better.calls _ _ _ _ _ e2.out).mono ?_); rintro e w' ⟨rfl, ⟨nd, rfl⟩⟩)
      | (go_at_call 11; (with_reducible refine (side_Better.calls _ _ _ _ _ e3.out).mono ?_); rintro e w' ⟨rfl, ⟨nd, rfl⟩⟩)
      | (go_at_call 13; (with_reducible refine (side_Takes.calls _ _ _ _ _ t1.out).mono ?_); rintro e w' ⟨rfl, ⟨nd, rfl⟩⟩)
      | (go_at_call 13; (with_reducible refine (side_Takes.calls _ _ _ _ _ t2.out).mono ?_); rintro e w' ⟨rfl, ⟨nd, rfl⟩⟩)
      | (go_at_call 13; (with_reducible refine (side_Takes.calls _ _ _ _ _ t3.out).mono ?_); rintro e w' ⟨rfl, ⟨nd, rfl⟩⟩)
      | (go_at_call 15; (with_reducible refine (consolslaw2_known.calls true _ E3.out).mono ?_); rintro e w' ⟨rfl, ⟨nd, rfl⟩⟩))
    go_ret
    exact ⟨rfl, by repeat (first | exact Drawn0.refl _ | apply Drawn0.step)⟩

theorem ahead_total (s a b : Int) (h : s = 1 ∨ s = 2) (hab : a ≠ b) (hx : ahead s a b = false) : ahead s b a = true := by
  unfold ahead at *
  rcases h with rfl | rfl
  · simp at *; omega
  · simp at *; omega

/-- SideTurns answers true, whatever it is given -/
theorem turns_any (s a b : Int) (w : World) :
    Calls Try.prog 4 #[.int .i64 s, .int .i64 a, .int .i64 b] w fun e w' => e = .returned (.bool true) ∧ Drawn0 w w' := by
  by_cases h : s = 1 ∨ s = 2
  · by_cases hab : a = b
    · subst hab; exact turns_alike s (3 - s) a w h rfl
    · cases hx : ahead s a b with
      | true => exact turns_first s (3 - s) a b w h rfl hx
      | false => exact turns_second s (3 - s) a b w h rfl hx (ahead_total s a b h hab hx)
  · exact turns_none s a b w (fun e => h (Or.inl e)) (fun e => h (Or.inr e))

theorem turns_walk (s a b : Int) (w : World) :
    Calls Try.prog 4 #[.int .i64 s, .int .i64 a, .int .i64 b] w fun e w' => e = .returned (.bool true) ∧ Below w.heap.size w w' :=
  (turns_any s a b w).mono fun _ _ ⟨he, hd⟩ => ⟨he, hd.below⟩

end Go.Proofs.Ythmmlamenpbgmaa.Turns
