/- Runs of TopLate's law: from tick 35 to tick 37. -/
import Derived.Test.YthijllagngkbgaaGreatKnown
namespace Go.Proofs.YthijllagngkbgaaGreat.Eng
open Go Go.Proofs
theorem late_35_false : DetFn Tryz.prog 6 [.int .i64 (.ofNat 35), .bool false] Heap.empty fun u _ => u = .bool true := law_run (by kernel_rfl)
theorem late_35_true : DetFn Tryz.prog 6 [.int .i64 (.ofNat 35), .bool true] Heap.empty fun u _ => u = .bool true := law_run (by kernel_rfl)
theorem late_36_false : DetFn Tryz.prog 6 [.int .i64 (.ofNat 36), .bool false] Heap.empty fun u _ => u = .bool true := law_run (by kernel_rfl)
theorem late_36_true : DetFn Tryz.prog 6 [.int .i64 (.ofNat 36), .bool true] Heap.empty fun u _ => u = .bool true := law_run (by kernel_rfl)
theorem late_37_false : DetFn Tryz.prog 6 [.int .i64 (.ofNat 37), .bool false] Heap.empty fun u _ => u = .bool true := law_run (by kernel_rfl)
theorem late_37_true : DetFn Tryz.prog 6 [.int .i64 (.ofNat 37), .bool true] Heap.empty fun u _ => u = .bool true := law_run (by kernel_rfl)
end Go.Proofs.YthijllagngkbgaaGreat.Eng
