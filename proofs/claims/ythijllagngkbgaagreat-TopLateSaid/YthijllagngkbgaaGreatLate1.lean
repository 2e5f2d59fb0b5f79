/- Runs of TopLate's law: from tick 0 to tick 3. -/
import Derived.Test.YthijllagngkbgaaGreatKnown
namespace Go.Proofs.YthijllagngkbgaaGreat.Eng
open Go Go.Proofs
theorem late_0_false : DetFn Tryz.prog 6 [.int .i64 (.ofNat 0), .bool false] Heap.empty fun u _ => u = .bool true := law_run (by kernel_rfl)
theorem late_0_true : DetFn Tryz.prog 6 [.int .i64 (.ofNat 0), .bool true] Heap.empty fun u _ => u = .bool true := law_run (by kernel_rfl)
theorem late_1_false : DetFn Tryz.prog 6 [.int .i64 (.ofNat 1), .bool false] Heap.empty fun u _ => u = .bool true := law_run (by kernel_rfl)
theorem late_1_true : DetFn Tryz.prog 6 [.int .i64 (.ofNat 1), .bool true] Heap.empty fun u _ => u = .bool true := law_run (by kernel_rfl)
theorem late_2_false : DetFn Tryz.prog 6 [.int .i64 (.ofNat 2), .bool false] Heap.empty fun u _ => u = .bool true := law_run (by kernel_rfl)
theorem late_2_true : DetFn Tryz.prog 6 [.int .i64 (.ofNat 2), .bool true] Heap.empty fun u _ => u = .bool true := law_run (by kernel_rfl)
theorem late_3_false : DetFn Tryz.prog 6 [.int .i64 (.ofNat 3), .bool false] Heap.empty fun u _ => u = .bool true := law_run (by kernel_rfl)
theorem late_3_true : DetFn Tryz.prog 6 [.int .i64 (.ofNat 3), .bool true] Heap.empty fun u _ => u = .bool true := law_run (by kernel_rfl)
end Go.Proofs.YthijllagngkbgaaGreat.Eng
