/- The law ConfMatches of chapter 22, over the engine's memory. -/
import Derived.Test.YtojdgbehlhkakaaConfD
namespace Go.Proofs.Ytojdgbehlhkakaa.Eng
open Go Go.Proofs
set_option maxRecDepth 100000
set_option maxHeartbeats 4000000
set_option linter.unusedVariables false
theorem same_bool {b b' : Bool} {p : Prop} (h : b = true ↔ p) (h' : b' = true ↔ p) : b' = b := by
  cases b <;> cases b' <;> first | rfl | (exfalso; simp at h h'; first | exact h h' | exact h' h)
theorem law_ConfMatches (al : Option Addr) (nl pl : Nat) (cl : List Value) (hA : SArg 0 tradeK al nl pl cl) (ao : Option Addr) (no po : Nat) (co : List Value) (hB : SArg 1 outK ao no po co) (h : Heap) (hn : 2 ≤ h.next) (hg : h.get 0 = argRow cl) (hg1 : h.get 1 = argRow co) :
    DetFn Try.prog 4 [.slice al nl pl, .slice ao no po] h fun v _ => v = .bool true := by
  refine Det.enterS Try.f4 [(0, .slice al nl pl), (1, .slice ao no po)] Try.func4 (by kernel_rfl) (of_decide_eq_true (by kernel_rfl)) (by kernel_rfl) ?_
  by_cases h1 : (40 : Int) < (nl : Int)
  · skip
    refine Det.sreg [] [(1, Value.slice ao no po), (0, Value.slice al nl pl), (4, Value.bool false)] (h) [] (by kernel_rfl) (by kernel_rfl) hX (by kernel_rfl) allp0 ?_
    refine Det.seqA (by kernel_rfl) ?_
    refine Det.sreg [(2, .s (Value.bool true))] [(4, Value.bool false), (0, Value.slice al nl pl), (1, Value.slice ao no po), (12, Value.bool true)] (h) [(Value.bool (decide (40 < (↑nl : Int)))) = (Value.bool true)] (by kernel_rfl) (by kernel_rfl) hX (by kernel_rfl) (allp (congrArg Value.bool (decide_eq_true (by exact h1))) allp0) ?_
    refine Det.condT (by kernel_rfl) (true) (by kernel_rfl) rfl ?_
    refine Det.sreg [] [(12, Value.bool true), (1, Value.slice ao no po), (0, Value.slice al nl pl), (4, Value.bool true)] (h) [] (by kernel_rfl) (by kernel_rfl) hX (by kernel_rfl) allp0 ?_
    refine Det.retA (by kernel_rfl) ?_
    refine then_r (by kernel_rfl) ?_
    refine fin_r (Value.bool true) (by kernel_rfl) (by kernel_rfl) ?_
    rfl
  · by_cases h2 : (100 : Int) < (no : Int)
    · skip
      refine Det.sreg [] [(1, Value.slice ao no po), (0, Value.slice al nl pl), (4, Value.bool false)] (h) [] (by kernel_rfl) (by kernel_rfl) hX (by kernel_rfl) allp0 ?_
      refine Det.seqA (by kernel_rfl) ?_
      refine Det.sreg [(2, .s (Value.bool false)), (3, .s (Value.bool true))] [(4, Value.bool false), (0, Value.slice al nl pl), (1, Value.slice ao no po), (12, Value.bool true)] (h) [(Value.bool (decide (40 < (↑nl : Int)))) = (Value.bool false), (Value.bool (decide (100 < (↑no : Int)))) = (Value.bool true)] (by kernel_rfl) (by kernel_rfl) hX (by kernel_rfl) (allp (congrArg Value.bool (decide_eq_false (by exact h1))) (allp (congrArg Value.bool (decide_eq_true (by exact h2))) allp0)) ?_
      refine Det.condT (by kernel_rfl) (true) (by kernel_rfl) rfl ?_
      refine Det.sreg [] [(12, Value.bool true), (1, Value.slice ao no po), (0, Value.slice al nl pl), (4, Value.bool true)] (h) [] (by kernel_rfl) (by kernel_rfl) hX (by kernel_rfl) allp0 ?_
      refine Det.retA (by kernel_rfl) ?_
      refine then_r (by kernel_rfl) ?_
      refine fin_r (Value.bool true) (by kernel_rfl) (by kernel_rfl) ?_
      rfl
    · have vl := hA.view hg (by decide)
      have vo := hB.view hg1 (by decide)
      obtain ⟨_, D1, b, rfl, hb⟩ := DetFn.same (conf_Match h vl vo (fun _ => by omega) (fun _ => by omega) (by omega) (by omega))
      obtain ⟨_, D2, b', rfl, hb'⟩ := DetFn.same (ref_Match h vl vo (fun _ => by omega) (fun _ => by omega) (by omega) (by omega))
      obtain rfl := same_bool hb hb'
      refine Det.sreg [] [(1, Value.slice ao no po), (0, Value.slice al nl pl), (4, Value.bool false)] (h) [] (by kernel_rfl) (by kernel_rfl) hX (by kernel_rfl) allp0 ?_
      refine Det.seqA (by kernel_rfl) ?_
      refine Det.sreg [(2, .s (Value.bool false)), (3, .s (Value.bool false))] [(4, Value.bool false), (0, Value.slice al nl pl), (1, Value.slice ao no po), (12, Value.bool false)] (h) [(Value.bool (decide (40 < (↑nl : Int)))) = (Value.bool false), (Value.bool (decide (100 < (↑no : Int)))) = (Value.bool false)] (by kernel_rfl) (by kernel_rfl) hX (by kernel_rfl) (allp (congrArg Value.bool (decide_eq_false (by exact h1))) (allp (congrArg Value.bool (decide_eq_false (by exact h2))) allp0)) ?_
      refine Det.condF (by kernel_rfl) (false) (by kernel_rfl) rfl ?_
      refine Det.skipA (by kernel_rfl) ?_
      refine then_n (by kernel_rfl) ?_
      refine Det.sreg [(2, .m (Value.bool b') (h)), (2, .m (Value.bool b') (h)), (0, .s (Value.bool true)), (1, .m (Value.bool true) (h))] [(12, Value.bool false), (1, Value.slice ao no po), (0, Value.slice al nl pl), (4, Value.bool true)] (h) [DoesOk Try.prog 11 [Value.slice al nl pl, Value.slice ao no po] (h) (Value.bool b') (h), DoesOk Try.prog 12 [Value.slice al nl pl, Value.slice ao no po] (h) (Value.bool b') (h), (Value.bool (b' == b')) = (Value.bool true), DoesOk Try.prog 10 [] (h) (Value.bool true) (h)] (by kernel_rfl) (by kernel_rfl) hX (by kernel_rfl) (allp D1 (allp D2 (allp (congrArg Value.bool (beq_iff_eq.2 rfl)) (allp (DetFn.known (DetFn.bare (by kernel_rfl) (by kernel_rfl) (DetFn.of_evFst (k := 3000) hmix hX (by kernel_rfl)) _)) allp0)))) ?_
      refine Det.retA (by kernel_rfl) ?_
      refine fin_r (Value.bool true) (by kernel_rfl) (by kernel_rfl) ?_
      rfl
end Go.Proofs.Ytojdgbehlhkakaa.Eng
