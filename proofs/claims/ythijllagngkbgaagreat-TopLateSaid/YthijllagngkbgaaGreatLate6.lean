/- Runs of TopLate's law: from tick 20 to tick 23. -/
import Derived.Test.YthijllagngkbgaaGreatKnown
namespace Go.Proofs.YthijllagngkbgaaGreat.Eng
open Go Go.Proofs
theorem late_20_false : DetFn Tryz.prog 6 [.int .i64 (.ofNat 20), .bool false] Heap.empty fun u _ => u = .bool true := law_run (by kernel_rfl)
theorem late_20_true : DetFn Tryz.prog 6 [.int .i64 (.ofNat 20), .bool true] Heap.empty fun u _ => u = .bool true := law_run (by kernel_rfl)
theorem late_21_false : DetFn Tryz.prog 6 [.int .i64 (.ofNat 21), .bool false] Heap.empty fun u _ => u = .bool true := law_run (by kernel_rfl)
theorem late_21_true : DetFn Tryz.prog 6 [.int .i64 (.ofNat 21), .bool true] Heap.empty fun u _ => u = .bool true := law_run (by kernel_rfl)
theorem late_22_false : DetFn Tryz.prog 6 [.int .i64 (.ofNat 22), .bool false] Heap.empty fun u _ => u = .bool true := law_run (by kernel_rfl)
theorem late_22_true : DetFn Tryz.prog 6 [.int .i64 (.ofNat 22), .bool true] Heap.empty fun u _ => u = .bool true := law_run (by kernel_rfl)
theorem late_23_false : DetFn Tryz.prog 6 [.int .i64 (.ofNat 23), .bool false] Heap.empty fun u _ => u = .bool true := law_run (by kernel_rfl)
theorem late_23_true : DetFn Tryz.prog 6 [.int .i64 (.ofNat 23), .bool true] Heap.empty fun u _ => u = .bool true := law_run (by kernel_rfl)
end Go.Proofs.YthijllagngkbgaaGreat.Eng
