/- Runs of TopLate's law: from tick 16 to tick 19. -/
import Derived.Test.YthijllagngkbgaaGreatKnown
namespace Go.Proofs.YthijllagngkbgaaGreat.Eng
open Go Go.Proofs
theorem late_16_false : DetFn Tryz.prog 6 [.int .i64 (.ofNat 16), .bool false] Heap.empty fun u _ => u = .bool true := law_run (by kernel_rfl)
theorem late_16_true : DetFn Tryz.prog 6 [.int .i64 (.ofNat 16), .bool true] Heap.empty fun u _ => u = .bool true := law_run (by kernel_rfl)
theorem late_17_false : DetFn Tryz.prog 6 [.int .i64 (.ofNat 17), .bool false] Heap.empty fun u _ => u = .bool true := law_run (by kernel_rfl)
theorem late_17_true : DetFn Tryz.prog 6 [.int .i64 (.ofNat 17), .bool true] Heap.empty fun u _ => u = .bool true := law_run (by kernel_rfl)
theorem late_18_false : DetFn Tryz.prog 6 [.int .i64 (.ofNat 18), .bool false] Heap.empty fun u _ => u = .bool true := law_run (by kernel_rfl)
theorem late_18_true : DetFn Tryz.prog 6 [.int .i64 (.ofNat 18), .bool true] Heap.empty fun u _ => u = .bool true := law_run (by kernel_rfl)
theorem late_19_false : DetFn Tryz.prog 6 [.int .i64 (.ofNat 19), .bool false] Heap.empty fun u _ => u = .bool true := law_run (by kernel_rfl)
theorem late_19_true : DetFn Tryz.prog 6 [.int .i64 (.ofNat 19), .bool true] Heap.empty fun u _ => u = .bool true := law_run (by kernel_rfl)
end Go.Proofs.YthijllagngkbgaaGreat.Eng
