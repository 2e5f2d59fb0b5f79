/- Runs of TopBetter's law, price and quantity left open within a kind: kinds 0 to 1. -/
import Derived.Test.YthijllagngkbgaaGreatTokL
namespace Go.Proofs.YthijllagngkbgaaGreat.Eng
open Go Go.Proofs
theorem better_0 : DetFn Tryz.prog 3 [tokAt 0 0 9, tokAt 0 0 109] ⟨1, .leaf⟩ fun u _ => u = .bool true := law_tok (by kernel_rfl)
theorem better_1 : DetFn Tryz.prog 3 [tokAt 1 0 9, tokAt 1 0 109] ⟨1, .leaf⟩ fun u _ => u = .bool true := law_tok (by kernel_rfl)
end Go.Proofs.YthijllagngkbgaaGreat.Eng
