/- Runs of TopBetter's law, price and quantity left open within a kind: kinds 2 to 3. -/
import Derived.Test.YthijllagngkbgaaGreatTokL
namespace Go.Proofs.YthijllagngkbgaaGreat.Eng
open Go Go.Proofs
theorem better_2 : DetFn Tryz.prog 3 [tokAt 2 0 9, tokAt 2 0 109] ⟨1, .leaf⟩ fun u _ => u = .bool true := law_tok (by kernel_rfl)
theorem better_3 : DetFn Tryz.prog 3 [tokAt 3 0 9, tokAt 3 0 109] ⟨1, .leaf⟩ fun u _ => u = .bool true := law_tok (by kernel_rfl)
end Go.Proofs.YthijllagngkbgaaGreat.Eng
