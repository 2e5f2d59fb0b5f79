/- The law SideTells of chapter 2: for any side and any two prices the program's four answers are the reference's. No conditions. -/
import Derived.Test.YthmmlamenpbgmaaPSideTellsx1
namespace Go.Proofs.Ythmmlamenpbgmaa.Pure
open Go.RowKit Go.Proofs.Ythmmlamenpbgmaa.PSideTells Go.Proofs.YthmmlamenpbgmaaW.PrintWords Go.Proofs.YthmmlamenpbgmaaW.PrintLast

theorem known_tells : consolslaw2_known.f = some true := by
  simp [consolslaw2_known.f, side_Better.f, side_Other.f, side_Is.f, wrap64]

theorem better_tells (s a b : Int) : ∃ r, side_Better.f s a b = some r ∧ consolsref2_Better.f s a b = some r := by
  unfold side_Better.f consolsref2_Better.f
  repeat' split
  all_goals exact ⟨_, rfl, rfl⟩

theorem is_tells (s : Int) : ∃ r, side_Is.f s = some r ∧ consolsref2_Is.f s = some r := by
  unfold side_Is.f consolsref2_Is.f
  split <;> exact ⟨_, rfl, rfl⟩

theorem other_tells (s : Int) : ∃ r, side_Other.f s = some r ∧ consolsref2_Other.f s = some r := by
  obtain ⟨b, h1, h2⟩ := is_tells s
  unfold side_Other.f consolsref2_Other.f
  rw [h1, h2]
  simp only [Option.bind_some]
  split <;> exact ⟨_, rfl, rfl⟩

theorem takes_tells (s a b : Int) : ∃ r, side_Takes.f s a b = some r ∧ consolsref2_Takes.f s a b = some r := by
  obtain ⟨i, h1, h2⟩ := is_tells s
  obtain ⟨c, h3, h4⟩ := better_tells s b a
  unfold side_Takes.f consolsref2_Takes.f
  rw [h1, h2]
  simp only [Option.bind_some, h3, h4]
  split <;> exact ⟨_, rfl, rfl⟩

theorem SideTells : consolslaw2_SideTells.Pure := by
  intro a0 a1 a2 _ _ _
  obtain ⟨i, h1, h2⟩ := is_tells a0
  obtain ⟨o, h3, h4⟩ := other_tells a0
  obtain ⟨c, h5, h6⟩ := better_tells a0 a1 a2
  obtain ⟨t, h7, h8⟩ := takes_tells a0 a1 a2
  simp [consolslaw2_SideTells.f, h1, h2, h3, h4, h5, h6, h7, h8, known_tells]

end Go.Proofs.Ythmmlamenpbgmaa.Pure
