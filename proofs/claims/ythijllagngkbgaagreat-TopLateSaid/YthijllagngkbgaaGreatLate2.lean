/- Runs of TopLate's law: from tick 4 to tick 7. -/
import Derived.Test.YthijllagngkbgaaGreatKnown
namespace Go.Proofs.YthijllagngkbgaaGreat.Eng
open Go Go.Proofs
theorem late_4_false : DetFn Tryz.prog 6 [.int .i64 (.ofNat 4), .bool false] Heap.empty fun u _ => u = .bool true := law_run (by kernel_rfl)
theorem late_4_true : DetFn Tryz.prog 6 [.int .i64 (.ofNat 4), .bool true] Heap.empty fun u _ => u = .bool true := law_run (by kernel_rfl)
theorem late_5_false : DetFn Tryz.prog 6 [.int .i64 (.ofNat 5), .bool false] Heap.empty fun u _ => u = .bool true := law_run (by kernel_rfl)
theorem late_5_true : DetFn Tryz.prog 6 [.int .i64 (.ofNat 5), .bool true] Heap.empty fun u _ => u = .bool true := law_run (by kernel_rfl)
theorem late_6_false : DetFn Tryz.prog 6 [.int .i64 (.ofNat 6), .bool false] Heap.empty fun u _ => u = .bool true := law_run (by kernel_rfl)
theorem late_6_true : DetFn Tryz.prog 6 [.int .i64 (.ofNat 6), .bool true] Heap.empty fun u _ => u = .bool true := law_run (by kernel_rfl)
theorem late_7_false : DetFn Tryz.prog 6 [.int .i64 (.ofNat 7), .bool false] Heap.empty fun u _ => u = .bool true := law_run (by kernel_rfl)
theorem late_7_true : DetFn Tryz.prog 6 [.int .i64 (.ofNat 7), .bool true] Heap.empty fun u _ => u = .bool true := law_run (by kernel_rfl)
end Go.Proofs.YthijllagngkbgaaGreat.Eng
