/- Runs of TopLate's law: from tick 32 to tick 34. -/
import Derived.Test.YthijllagngkbgaaGreatKnown
namespace Go.Proofs.YthijllagngkbgaaGreat.Eng
open Go Go.Proofs
theorem late_32_false : DetFn Tryz.prog 6 [.int .i64 (.ofNat 32), .bool false] Heap.empty fun u _ => u = .bool true := law_run (by kernel_rfl)
theorem late_32_true : DetFn Tryz.prog 6 [.int .i64 (.ofNat 32), .bool true] Heap.empty fun u _ => u = .bool true := law_run (by kernel_rfl)
theorem late_33_false : DetFn Tryz.prog 6 [.int .i64 (.ofNat 33), .bool false] Heap.empty fun u _ => u = .bool true := law_run (by kernel_rfl)
theorem late_33_true : DetFn Tryz.prog 6 [.int .i64 (.ofNat 33), .bool true] Heap.empty fun u _ => u = .bool true := law_run (by kernel_rfl)
theorem late_34_false : DetFn Tryz.prog 6 [.int .i64 (.ofNat 34), .bool false] Heap.empty fun u _ => u = .bool true := law_run (by kernel_rfl)
theorem late_34_true : DetFn Tryz.prog 6 [.int .i64 (.ofNat 34), .bool true] Heap.empty fun u _ => u = .bool true := law_run (by kernel_rfl)
end Go.Proofs.YthijllagngkbgaaGreat.Eng
