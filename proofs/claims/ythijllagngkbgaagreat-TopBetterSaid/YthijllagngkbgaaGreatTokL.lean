/- A law of two open numbers, run. -/
import Derived.Test.YthijllagngkbgaaGreatKnown
namespace Go.Proofs.YthijllagngkbgaaGreat.Eng
open Go Go.Proofs
/-- a law of two open numbers, run -/
theorem law_tok {f : FuncId} {args : List Value} {h : Heap} (he : isTrue (goK f args h) = true) : DetFn Tryz.prog f args h fun u _ => u = .bool true := by
  obtain ⟨g, hg⟩ := isTrue_spec he
  exact ⟨.bool true, g, DoesOk.of_fast noGo easyT mixT addExt_ok tabK_next tabK_sim hg, rfl⟩
end Go.Proofs.YthijllagngkbgaaGreat.Eng
