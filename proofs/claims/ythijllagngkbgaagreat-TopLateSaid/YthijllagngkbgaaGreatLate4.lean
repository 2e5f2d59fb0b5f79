/- Runs of TopLate's law: from tick 12 to tick 15. -/
import Derived.Test.YthijllagngkbgaaGreatKnown
namespace Go.Proofs.YthijllagngkbgaaGreat.Eng
open Go Go.Proofs
theorem late_12_false : DetFn Tryz.prog 6 [.int .i64 (.ofNat 12), .bool false] Heap.empty fun u _ => u = .bool true := law_run (by kernel_rfl)
theorem late_12_true : DetFn Tryz.prog 6 [.int .i64 (.ofNat 12), .bool true] Heap.empty fun u _ => u = .bool true := law_run (by kernel_rfl)
theorem late_13_false : DetFn Tryz.prog 6 [.int .i64 (.ofNat 13), .bool false] Heap.empty fun u _ => u = .bool true := law_run (by kernel_rfl)
theorem late_13_true : DetFn Tryz.prog 6 [.int .i64 (.ofNat 13), .bool true] Heap.empty fun u _ => u = .bool true := law_run (by kernel_rfl)
theorem late_14_false : DetFn Tryz.prog 6 [.int .i64 (.ofNat 14), .bool false] Heap.empty fun u _ => u = .bool true := law_run (by kernel_rfl)
theorem late_14_true : DetFn Tryz.prog 6 [.int .i64 (.ofNat 14), .bool true] Heap.empty fun u _ => u = .bool true := law_run (by kernel_rfl)
theorem late_15_false : DetFn Tryz.prog 6 [.int .i64 (.ofNat 15), .bool false] Heap.empty fun u _ => u = .bool true := law_run (by kernel_rfl)
theorem late_15_true : DetFn Tryz.prog 6 [.int .i64 (.ofNat 15), .bool true] Heap.empty fun u _ => u = .bool true := law_run (by kernel_rfl)
end Go.Proofs.YthijllagngkbgaaGreat.Eng
