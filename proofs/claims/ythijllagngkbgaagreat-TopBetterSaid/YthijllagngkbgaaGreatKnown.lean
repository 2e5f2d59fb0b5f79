/- A known deal comes about: the whole place run once, as a fact for further runs. -/
import Derived.Test.YthijllagngkbgaaGreatBase
namespace Go.Proofs.YthijllagngkbgaaGreat.Eng
open Go Go.Proofs

def isTrue : Option (Value × Heap) → Bool
  | some (.bool true, _) => true
  | _ => false
theorem isTrue_spec {o : Option (Value × Heap)} (h : isTrue o = true) : ∃ g, o = some (.bool true, g) := by
  unfold isTrue at h
  split at h
  · exact ⟨_, rfl⟩
  · cases h
theorem known_run : isTrue (go 15 [] Heap.empty) = true := by kernel_rfl
theorem known_det (h : Heap) : DetFn Tryz.prog 15 [] h fun u g => u = .bool true ∧ g = h := by
  obtain ⟨g, hg⟩ := isTrue_spec known_run
  exact DetFn.bare rfl rfl ⟨.bool true, g, go_ok hg, rfl⟩ h
/-- the known deal, as a fact -/
def knownC : Caller := fun f args h => match f, args with
  | 15, [] => some (.bool true, h)
  | _, _ => none
theorem knownC_det (f : FuncId) (args : List Value) (h : Heap) (v : Value) (h' : Heap) (hr : knownC f args h = some (v, h')) : DetFn Tryz.prog f args h fun u g => u = v ∧ g = h' := by
  unfold knownC at hr
  split at hr
  · obtain ⟨rfl, rfl⟩ := Prod.mk.inj (Option.some.inj hr)
    exact known_det h
  · cases hr
def tabK : FuncId → Tab := fun f => match Nat.beq f 15 with
  | true => .yes knownC
  | false => tabI f
theorem tabK_next (f : FuncId) : NextMono (tabK f).run := by
  unfold tabK
  split
  · exact NextMono.of_det knownC_det
  · exact tabI_next f
theorem tabK_sim (B : Nat) (f : FuncId) : Sim Tryz.prog B (tabK f).run := by
  unfold tabK
  split
  · exact Sim.of_det knownC_det
  · exact tabI_sim B f
noncomputable def goK (f : FuncId) (args : List Value) (h : Heap) : Option (Value × Heap) := evS Tryz.prog addExt spines hardT tabK 3000 60 f args h
/-- a law of closed arguments, run -/
theorem law_run {f : FuncId} {args : List Value} (he : isTrue (goK f args Heap.empty) = true) : DetFn Tryz.prog f args Heap.empty fun u _ => u = .bool true := by
  obtain ⟨g, hg⟩ := isTrue_spec he
  exact ⟨.bool true, g, DoesOk.of_fast noGo easyT mixT addExt_ok tabK_next tabK_sim hg, rfl⟩
end Go.Proofs.YthijllagngkbgaaGreat.Eng
