/- Runs of TopLate's law: from tick 24 to tick 27. -/
import Derived.Test.YthijllagngkbgaaGreatKnown
namespace Go.Proofs.YthijllagngkbgaaGreat.Eng
open Go Go.Proofs
theorem late_24_false : DetFn Tryz.prog 6 [.int .i64 (.ofNat 24), .bool false] Heap.empty fun u _ => u = .bool true := law_run (by kernel_rfl)
theorem late_24_true : DetFn Tryz.prog 6 [.int .i64 (.ofNat 24), .bool true] Heap.empty fun u _ => u = .bool true := law_run (by kernel_rfl)
theorem late_25_false : DetFn Tryz.prog 6 [.int .i64 (.ofNat 25), .bool false] Heap.empty fun u _ => u = .bool true := law_run (by kernel_rfl)
theorem late_25_true : DetFn Tryz.prog 6 [.int .i64 (.ofNat 25), .bool true] Heap.empty fun u _ => u = .bool true := law_run (by kernel_rfl)
theorem late_26_false : DetFn Tryz.prog 6 [.int .i64 (.ofNat 26), .bool false] Heap.empty fun u _ => u = .bool true := law_run (by kernel_rfl)
theorem late_26_true : DetFn Tryz.prog 6 [.int .i64 (.ofNat 26), .bool true] Heap.empty fun u _ => u = .bool true := law_run (by kernel_rfl)
theorem late_27_false : DetFn Tryz.prog 6 [.int .i64 (.ofNat 27), .bool false] Heap.empty fun u _ => u = .bool true := law_run (by kernel_rfl)
theorem late_27_true : DetFn Tryz.prog 6 [.int .i64 (.ofNat 27), .bool true] Heap.empty fun u _ => u = .bool true := law_run (by kernel_rfl)
end Go.Proofs.YthijllagngkbgaaGreat.Eng
