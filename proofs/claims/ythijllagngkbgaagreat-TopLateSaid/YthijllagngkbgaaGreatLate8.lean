/- Runs of TopLate's law: from tick 28 to tick 31. -/
import Derived.Test.YthijllagngkbgaaGreatKnown
namespace Go.Proofs.YthijllagngkbgaaGreat.Eng
open Go Go.Proofs
theorem late_28_false : DetFn Tryz.prog 6 [.int .i64 (.ofNat 28), .bool false] Heap.empty fun u _ => u = .bool true := law_run (by kernel_rfl)
theorem late_28_true : DetFn Tryz.prog 6 [.int .i64 (.ofNat 28), .bool true] Heap.empty fun u _ => u = .bool true := law_run (by kernel_rfl)
theorem late_29_false : DetFn Tryz.prog 6 [.int .i64 (.ofNat 29), .bool false] Heap.empty fun u _ => u = .bool true := law_run (by kernel_rfl)
theorem late_29_true : DetFn Tryz.prog 6 [.int .i64 (.ofNat 29), .bool true] Heap.empty fun u _ => u = .bool true := law_run (by kernel_rfl)
theorem late_30_false : DetFn Tryz.prog 6 [.int .i64 (.ofNat 30), .bool false] Heap.empty fun u _ => u = .bool true := law_run (by kernel_rfl)
theorem late_30_true : DetFn Tryz.prog 6 [.int .i64 (.ofNat 30), .bool true] Heap.empty fun u _ => u = .bool true := law_run (by kernel_rfl)
theorem late_31_false : DetFn Tryz.prog 6 [.int .i64 (.ofNat 31), .bool false] Heap.empty fun u _ => u = .bool true := law_run (by kernel_rfl)
theorem late_31_true : DetFn Tryz.prog 6 [.int .i64 (.ofNat 31), .bool true] Heap.empty fun u _ => u = .bool true := law_run (by kernel_rfl)
end Go.Proofs.YthijllagngkbgaaGreat.Eng
