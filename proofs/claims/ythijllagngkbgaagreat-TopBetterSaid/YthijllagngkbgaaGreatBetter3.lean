/- Runs of TopBetter's law, price and quantity left open within a kind: kinds 4 to 5. -/
import Derived.Test.YthijllagngkbgaaGreatTokL
namespace Go.Proofs.YthijllagngkbgaaGreat.Eng
open Go Go.Proofs
theorem better_4 : DetFn Tryz.prog 3 [tokAt 4 0 9, tokAt 4 0 109] ⟨1, .leaf⟩ fun u _ => u = .bool true := law_tok (by kernel_rfl)
theorem better_5 : DetFn Tryz.prog 3 [tokAt 5 0 9, tokAt 5 0 109] ⟨1, .leaf⟩ fun u _ => u = .bool true := law_tok (by kernel_rfl)
end Go.Proofs.YthijllagngkbgaaGreat.Eng
