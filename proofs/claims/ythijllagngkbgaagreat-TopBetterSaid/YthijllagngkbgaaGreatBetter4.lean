/- Runs of TopBetter's law, price and quantity left open within a kind: kinds 6 to 7. -/
import Derived.Test.YthijllagngkbgaaGreatTokL
namespace Go.Proofs.YthijllagngkbgaaGreat.Eng
open Go Go.Proofs
theorem better_6 : DetFn Tryz.prog 3 [tokAt 6 0 9, tokAt 6 0 109] ⟨1, .leaf⟩ fun u _ => u = .bool true := law_tok (by kernel_rfl)
theorem better_7 : DetFn Tryz.prog 3 [tokAt 7 0 9, tokAt 7 0 109] ⟨1, .leaf⟩ fun u _ => u = .bool true := law_tok (by kernel_rfl)
end Go.Proofs.YthijllagngkbgaaGreat.Eng
