/- What the closed runs of the whole place stand on: one outside function, one contract, the evaluator for this program. -/
import Derived.Test.YthijllagngkbgaaGreatInsB
import Derived.Test.YthijllagngkbgaaGreatEngFast2
import Derived.Test.YthijllagngkbgaaGreatTokC
import Derived.Laws.Externs
namespace Go.Proofs.YthijllagngkbgaaGreat.Eng
open Go Go.Proofs

/-- math/bits.Add64 -/
def addExt : Ext := fun f args =>
  match f, args with
  | 287, [.int .u64 (.ofNat x), .int .u64 (.ofNat y), .int .u64 (.ofNat c)] =>
    (match Nat.ble c 1 with
      | true => some (.tuple #[.int .u64 (.ofNat ((x + y + c) % 18446744073709551616)), .int .u64 (.ofNat ((x + y + c) / 18446744073709551616))])
      | false => none)
  | 287, [.int .u64 (.ofNat 0), .complex .f64 r m, .int .u64 (.ofNat 0)] =>
    (match Nat.beq (m % 16) 2 && Nat.beq (m / 16 % 256) 5 with
      | true => some (.tuple #[.complex .f64 r m, .int .u64 (.ofNat 0)])
      | false => none)
  | _, _ => none
theorem addExt_ok : ExtOk Tryz.prog addExt := by
  intro f args v hv ρ args' ha w
  unfold addExt at hv
  split at hv
  · rename_i x y c
    split at hv
    · rename_i hc
      obtain rfl := Option.some.inj hv
      have hc1 : c ≤ 1 := Nat.le_of_ble_eq_true hc
      cases ha with
      | cons _ _ _ _ h1 ha =>
        cases ha with
        | cons _ _ _ _ h2 ha =>
          cases ha with
          | cons _ _ _ _ h3 ha =>
            cases ha
            cases h1
            cases h2
            cases h3
            refine ⟨_, ?_, .tuple _ _ (.cons _ _ _ _ (.int _ _) (.cons _ _ _ _ (.int _ _) .nil))⟩
            rw [run_callFunc_extern Tryz.func287 (by kernel_rfl) (by kernel_rfl) (by kernel_rfl) (e := add64Entry) (by kernel_rfl)]
            have e := run_add64 (P := Tryz.prog) (Int.ofNat x) (Int.ofNat y) (Int.ofNat c) (Int.natCast_nonneg x) (Int.natCast_nonneg y) (Int.natCast_nonneg c) (by show (c : Int) ≤ 1; omega) w
            show ((add64Entry #[Value.int .u64 (Int.ofNat x), .int .u64 (Int.ofNat y), .int .u64 (Int.ofNat c)]).run Tryz.prog w).andThen _ = _
            rw [e]
            rfl
    · cases hv
  · rename_i r m
    split at hv
    · rename_i hm
      obtain rfl := Option.some.inj hv
      simp only [Bool.and_eq_true] at hm
      have m1 := Nat.eq_of_beq_eq_true hm.1
      have m2 := Nat.eq_of_beq_eq_true hm.2
      cases ha with
      | cons _ _ _ _ h1 ha =>
        cases ha with
        | cons _ _ _ _ h2 ha =>
          cases ha with
          | cons _ _ _ _ h3 ha =>
            cases ha
            cases h1
            cases h3
            cases h2 with
            | tok _ _ _ ht =>
              obtain ⟨l, p, q, a1, a2, a3, rfl⟩ := ht
              refine ⟨_, ?_, .tuple _ _ (.cons _ _ _ _ (.tok _ _ _ ⟨l, p, q, a1, a2, a3, rfl⟩) (.cons _ _ _ _ (.int _ _) .nil))⟩
              rw [run_callFunc_extern Tryz.func287 (by kernel_rfl) (by kernel_rfl) (by kernel_rfl) (e := add64Entry) (by kernel_rfl)]
              have hp : p ≤ 100 := a3.2.1
              have e1 : (.int (kOf (m % 16)) (Int.ofNat (valN p q (m / 16 % 256))) : Value) = .int .u64 (Int.ofNat (50 * p)) := by rw [m1, m2]; rfl
              have e := run_add64 (P := Tryz.prog) (Int.ofNat 0) (Int.ofNat (50 * p)) (Int.ofNat 0) (Int.natCast_nonneg 0) (Int.natCast_nonneg (50 * p)) (Int.natCast_nonneg 0) (by show ((0 : Nat) : Int) ≤ 1; omega) w
              have r1 : (Int.ofNat 0 + Int.ofNat (50 * p) + Int.ofNat 0) % 18446744073709551616 = Int.ofNat (50 * p) := by
                show (((0 : Nat) : Int) + ((50 * p : Nat) : Int) + ((0 : Nat) : Int)) % 18446744073709551616 = ((50 * p : Nat) : Int)
                omega
              have r2 : (Int.ofNat 0 + Int.ofNat (50 * p) + Int.ofNat 0) / 18446744073709551616 = Int.ofNat 0 := by
                show (((0 : Nat) : Int) + ((50 * p : Nat) : Int) + ((0 : Nat) : Int)) / 18446744073709551616 = ((0 : Nat) : Int)
                omega
              rw [r1, r2] at e
              show ((add64Entry #[Value.int .u64 (Int.ofNat 0), .int (kOf (m % 16)) (Int.ofNat (valN p q (m / 16 % 256))), .int .u64 (Int.ofNat 0)]).run Tryz.prog w).andThen _ = _
              rw [e1, e]
              rfl
    · cases hv
  · cases hv

/-- what is known of functions by number -/
def tabAt (f : Nat) : List (Nat × Caller) → Tab
  | [] => .no
  | (k, c) :: r => match Nat.beq f k with
    | true => .yes c
    | false => tabAt f r
/-- the one, or else the other -/
def either (a b : Caller) : Caller := fun f args h => match a f args h with
  | some r => some r
  | none => b f args h
theorem either_sim {B : Nat} {a b : Caller} (ha : Sim Tryz.prog B a) (hb : Sim Tryz.prog B b) : Sim Tryz.prog B (either a b) := by
  intro f args h v h' hr
  unfold either at hr
  split at hr
  · rename_i r h1
    obtain rfl := Option.some.inj hr
    exact ha f args h v h' h1
  · exact hb f args h v h' hr
theorem either_next {a b : Caller} (ha : NextMono a) (hb : NextMono b) : NextMono (either a b) := by
  intro f args h v h' hk hr
  unfold either at hr
  split at hr
  · rename_i r h1
    obtain rfl := Option.some.inj hr
    exact ha f args h v h' hk h1
  · exact hb f args h v h' hk hr
def tabI : FuncId → Tab := fun f => tabAt f [(218, insDue), (89, either refSum tokSum), (157, either theSum tokSum), (155, tokEq)]
theorem tabAt_all {p : Caller → Prop} (h0 : p (fun _ _ _ => none)) (f : Nat) : ∀ {l : List (Nat × Caller)}, (∀ x ∈ l, p x.2) → p (tabAt f l).run
  | [], _ => h0
  | (k, c) :: r, h => by
    unfold tabAt
    split
    · exact h (k, c) (by simp)
    · exact tabAt_all h0 f fun x hx => h x (List.mem_cons_of_mem _ hx)
theorem tabI_next (f : FuncId) : NextMono (tabI f).run := by
  refine tabAt_all (p := NextMono) (fun f args h v h' _ hr => by cases hr) f fun x hx => ?_
  simp only [List.mem_cons, List.not_mem_nil, or_false] at hx
  rcases hx with rfl | rfl | rfl | rfl
  · exact insDue_next
  · exact either_next (NextMono.of_det refSum_det) tokSum_next
  · exact either_next (NextMono.of_det theSum_det) tokSum_next
  · exact tokEq_next
theorem tabI_sim (B : Nat) (f : FuncId) : Sim Tryz.prog B (tabI f).run := by
  refine tabAt_all (p := Sim Tryz.prog B) (fun f args h v h' hr => by cases hr) f fun x hx => ?_
  simp only [List.mem_cons, List.not_mem_nil, or_false] at hx
  rcases hx with rfl | rfl | rfl | rfl
  · exact insDue_sim B
  · exact either_sim (Sim.of_det refSum_det) (tokSum_sim B)
  · exact either_sim (Sim.of_det theSum_det) (tokSum_sim B)
  · exact tokEq_sim B
def hardAt (f : Nat) : List (Nat × List Nat) → Option (List Nat)
  | [] => none
  | (k, l) :: r => match Nat.beq f k with
    | true => some l
    | false => hardAt f r
/-- the drawn regions that are looked at as they run, function by function -/
def hardT : FuncId → List Nat := fun f => match hardAt f [(5, [18]), (6, [10, 14]), (11, [12, 21]), (16, [4, 5, 8]), (27, [7]), (33, [3]), (42, [7]), (72, [0]), (99, [9]), (120, [12]), (183, [1, 5]), (203, [3]), (207, [5]), (217, [1]), (221, [3]), (225, [11, 12]), (226, [1]), (227, [5]), (249, [1]), (263, [7]), (277, [13])] with
  | some l => l
  | none => []
theorem easyT : EasyT Tryz.prog hardT := EasyT.of (by kernel_rfl)
theorem noGo : NoGo Tryz.prog := NoGo.of_all (by kernel_rfl)
theorem mixT : Tryz.prog.follows .mixedOrders = true := by kernel_rfl
/-- functions that defer or select -/
def spines : List FuncId := [66, 106, 100, 204, 155]
noncomputable def go (f : FuncId) (args : List Value) (h : Heap) : Option (Value × Heap) := evS Tryz.prog addExt spines hardT tabI 3000 60 f args h
theorem go_ok {f : FuncId} {args : List Value} {h h' : Heap} {v : Value} (he : go f args h = some (v, h')) : DoesOk Tryz.prog f args h v h' :=
  DoesOk.of_fast noGo easyT mixT addExt_ok tabI_next tabI_sim he
end Go.Proofs.YthijllagngkbgaaGreat.Eng
