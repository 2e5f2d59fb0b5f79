/- What the closed runs of the whole place stand on: one outside function, one contract, the evaluator for this program. -/
import Derived.Test.YthijllagngkbgaaGreatInsB
import Derived.Test.YthijllagngkbgaaGreatEngFast2
import Derived.Test.YthijllagngkbgaaGreatSumC
import Derived.Laws.Externs
namespace Go.Proofs.YthijllagngkbgaaGreat.Eng
open Go Go.Proofs

/-- math/bits.Add64 -/
def addExt : Ext := fun f args =>
  match f, args with
  | 287, [.int .u64 (.ofNat x), .int .u64 (.ofNat y), .int .u64 (.ofNat c)] =>
    (match Nat.ble c 1 with
      | true => some (.tuple #[.int .u64 (.ofNat ((x + y + c) % 18446744073709551616)), .int .u64 (.ofNat ((x + y + c) / 18446744073709551616))])
      | false => none)
  | _, _ => none
theorem addExt_ok : ExtOk Tryz.prog addExt := by
  intro f args v hv ρ args' ha w
  unfold addExt at hv
  split at hv
  · rename_i x y c
    split at hv
    · rename_i hc
      obtain rfl := Option.some.inj hv
      have hc1 : c ≤ 1 := Nat.le_of_ble_eq_true hc
      cases ha with
      | cons _ _ _ _ h1 ha =>
        cases ha with
        | cons _ _ _ _ h2 ha =>
          cases ha with
          | cons _ _ _ _ h3 ha =>
            cases ha
            cases h1
            cases h2
            cases h3
            refine ⟨_, ?_, .tuple _ _ (.cons _ _ _ _ (.int _ _) (.cons _ _ _ _ (.int _ _) .nil))⟩
            rw [run_callFunc_extern Tryz.func287 (by kernel_rfl) (by kernel_rfl) (by kernel_rfl) (e := add64Entry) (by kernel_rfl)]
            have e := run_add64 (P := Tryz.prog) (Int.ofNat x) (Int.ofNat y) (Int.ofNat c) (Int.natCast_nonneg x) (Int.natCast_nonneg y) (Int.natCast_nonneg c) (by show (c : Int) ≤ 1; omega) w
            show ((add64Entry #[Value.int .u64 (Int.ofNat x), .int .u64 (Int.ofNat y), .int .u64 (Int.ofNat c)]).run Tryz.prog w).andThen _ = _
            rw [e]
            rfl
    · cases hv
  · cases hv

/-- what is known of functions by number -/
def tabAt (f : Nat) : List (Nat × Caller) → Tab
  | [] => .no
  | (k, c) :: r => match Nat.beq f k with
    | true => .yes c
    | false => tabAt f r
def tabI : FuncId → Tab := fun f => tabAt f [(218, insDue), (89, refSum), (157, theSum)]
theorem tabAt_all {p : Caller → Prop} (h0 : p (fun _ _ _ => none)) (f : Nat) : ∀ {l : List (Nat × Caller)}, (∀ x ∈ l, p x.2) → p (tabAt f l).run
  | [], _ => h0
  | (k, c) :: r, h => by
    unfold tabAt
    split
    · exact h (k, c) (by simp)
    · exact tabAt_all h0 f fun x hx => h x (List.mem_cons_of_mem _ hx)
theorem tabI_next (f : FuncId) : NextMono (tabI f).run := by
  refine tabAt_all (p := NextMono) (fun f args h v h' _ hr => by cases hr) f fun x hx => ?_
  simp only [List.mem_cons, List.not_mem_nil, or_false] at hx
  rcases hx with rfl | rfl | rfl
  · exact insDue_next
  · exact NextMono.of_det refSum_det
  · exact NextMono.of_det theSum_det
theorem tabI_sim (B : Nat) (f : FuncId) : Sim Tryz.prog B (tabI f).run := by
  refine tabAt_all (p := Sim Tryz.prog B) (fun f args h v h' hr => by cases hr) f fun x hx => ?_
  simp only [List.mem_cons, List.not_mem_nil, or_false] at hx
  rcases hx with rfl | rfl | rfl
  · exact insDue_sim B
  · exact Sim.of_det refSum_det
  · exact Sim.of_det theSum_det
def hardAt (f : Nat) : List (Nat × List Nat) → Option (List Nat)
  | [] => none
  | (k, l) :: r => match Nat.beq f k with
    | true => some l
    | false => hardAt f r
/-- the drawn regions that are looked at as they run, function by function -/
def hardT : FuncId → List Nat := fun f => match hardAt f [(5, [18]), (6, [10, 14]), (11, [12, 21]), (16, [4, 5, 8]), (27, [7]), (33, [3]), (42, [7]), (72, [0]), (99, [9]), (120, [12]), (183, [1, 5]), (203, [3]), (207, [5]), (217, [1]), (221, [3]), (225, [11, 12]), (226, [1]), (227, [5]), (249, [1]), (263, [7]), (277, [13])] with
  | some l => l
  | none => []
theorem easyT : EasyT Tryz.prog hardT := EasyT.of (by kernel_rfl)
theorem noGo : NoGo Tryz.prog := NoGo.of_all (by kernel_rfl)
theorem mixT : Tryz.prog.follows .mixedOrders = true := by kernel_rfl
/-- functions that defer or select -/
def spines : List FuncId := [66, 106, 100, 204, 155]
noncomputable def go (f : FuncId) (args : List Value) (h : Heap) : Option (Value × Heap) := evS Tryz.prog addExt spines hardT tabI 3000 60 f args h
theorem go_ok {f : FuncId} {args : List Value} {h h' : Heap} {v : Value} (he : go f args h = some (v, h')) : DoesOk Tryz.prog f args h v h' :=
  DoesOk.of_fast noGo easyT mixT addExt_ok tabI_next tabI_sim he
end Go.Proofs.YthijllagngkbgaaGreat.Eng
