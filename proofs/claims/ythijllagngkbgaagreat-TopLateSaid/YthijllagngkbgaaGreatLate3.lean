/- Runs of TopLate's law: from tick 8 to tick 11. -/
import Derived.Test.YthijllagngkbgaaGreatKnown
namespace Go.Proofs.YthijllagngkbgaaGreat.Eng
open Go Go.Proofs
theorem late_8_false : DetFn Tryz.prog 6 [.int .i64 (.ofNat 8), .bool false] Heap.empty fun u _ => u = .bool true := law_run (by kernel_rfl)
theorem late_8_true : DetFn Tryz.prog 6 [.int .i64 (.ofNat 8), .bool true] Heap.empty fun u _ => u = .bool true := law_run (by kernel_rfl)
theorem late_9_false : DetFn Tryz.prog 6 [.int .i64 (.ofNat 9), .bool false] Heap.empty fun u _ => u = .bool true := law_run (by kernel_rfl)
theorem late_9_true : DetFn Tryz.prog 6 [.int .i64 (.ofNat 9), .bool true] Heap.empty fun u _ => u = .bool true := law_run (by kernel_rfl)
theorem late_10_false : DetFn Tryz.prog 6 [.int .i64 (.ofNat 10), .bool false] Heap.empty fun u _ => u = .bool true := law_run (by kernel_rfl)
theorem late_10_true : DetFn Tryz.prog 6 [.int .i64 (.ofNat 10), .bool true] Heap.empty fun u _ => u = .bool true := law_run (by kernel_rfl)
theorem late_11_false : DetFn Tryz.prog 6 [.int .i64 (.ofNat 11), .bool false] Heap.empty fun u _ => u = .bool true := law_run (by kernel_rfl)
theorem late_11_true : DetFn Tryz.prog 6 [.int .i64 (.ofNat 11), .bool true] Heap.empty fun u _ => u = .bool true := law_run (by kernel_rfl)
end Go.Proofs.YthijllagngkbgaaGreat.Eng
