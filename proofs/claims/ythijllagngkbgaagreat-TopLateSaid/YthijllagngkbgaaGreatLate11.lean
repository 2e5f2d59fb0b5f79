/- Runs of TopLate's law: from tick 38 to tick 40. -/
import Derived.Test.YthijllagngkbgaaGreatKnown
namespace Go.Proofs.YthijllagngkbgaaGreat.Eng
open Go Go.Proofs
theorem late_38_false : DetFn Tryz.prog 6 [.int .i64 (.ofNat 38), .bool false] Heap.empty fun u _ => u = .bool true := law_run (by kernel_rfl)
theorem late_38_true : DetFn Tryz.prog 6 [.int .i64 (.ofNat 38), .bool true] Heap.empty fun u _ => u = .bool true := law_run (by kernel_rfl)
theorem late_39_false : DetFn Tryz.prog 6 [.int .i64 (.ofNat 39), .bool false] Heap.empty fun u _ => u = .bool true := law_run (by kernel_rfl)
theorem late_39_true : DetFn Tryz.prog 6 [.int .i64 (.ofNat 39), .bool true] Heap.empty fun u _ => u = .bool true := law_run (by kernel_rfl)
theorem late_40_false : DetFn Tryz.prog 6 [.int .i64 (.ofNat 40), .bool false] Heap.empty fun u _ => u = .bool true := law_run (by kernel_rfl)
theorem late_40_true : DetFn Tryz.prog 6 [.int .i64 (.ofNat 40), .bool true] Heap.empty fun u _ => u = .bool true := law_run (by kernel_rfl)
end Go.Proofs.YthijllagngkbgaaGreat.Eng
