/- The law SideChain of chapter 2: what is better than a better one is better; what a limit takes, a better limit takes, too. No conditions. -/
import Derived.Test.YthmmlamenpbgmaaPSideChainx1
namespace Go.Proofs.Ythmmlamenpbgmaa.Pure
open Go.RowKit Go.Proofs.Ythmmlamenpbgmaa.PSideChain Go.Proofs.YthmmlamenpbgmaaW.PrintWords Go.Proofs.YthmmlamenpbgmaaW.PrintLast

theorem known_chain : consolslaw2_known.f = some true := by
  simp [consolslaw2_known.f, side_Better.f, side_Other.f, side_Is.f, wrap64]

theorem SideChain : consolslaw2_SideChain.Pure := by
  intro a0 a1 a2 a3 _ _ _
  refine ⟨2, ?_⟩
  cases a0
  all_goals
    by_cases h1 : a1 < a2 <;> by_cases h2 : a2 < a1 <;> by_cases h3 : a2 < a3 <;> by_cases h4 : a3 < a2 <;> by_cases h5 : a1 < a3 <;> by_cases h6 : a3 < a1 <;>
    first
    | (exfalso; omega)
    | simp [consolslaw2_SideChain.f, consolslaw2_SideChain.j0, consolslaw2_SideChain.j1, side_Better.f, side_Is.f, side_Takes.f, known_chain, h1, h2, h3, h4, h5, h6]

end Go.Proofs.Ythmmlamenpbgmaa.Pure
