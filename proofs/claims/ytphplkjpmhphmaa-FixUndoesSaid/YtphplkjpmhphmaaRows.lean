/-
  No cell of these rows narrows 'for every input' (looked for: loops, veiled, ifaces, maps, wideKeys, modest, calm, conditions, laid).
  DERIVED. THE GIVEN ROWS OF THIS SEAT. 6 by the template 'for every input the law returns true; each argument reads behind the call as it read before'; 0 by the template 'total and deterministic' (their statements: YtphplkjpmhphmaaTotals.lean).
  GIVEN WITH THE SEED: the statements are not yours to turn. If you find one false, say at which input.
  Laid BY PROGRAM, IN A SANDBOX (cutbox-rows.mjs): the forced cells as the released guide's own fill.sh prints them over the translation 8f3b724d50594a46… (all of the seat's roots in one cut). By AI agents, Wed Nov 11 2026. No macro, syntax, notation, axiom, sorry.
-/
import Derived.Test.YtphplkjpmhphmaaChecked
import GoSem.Claim
import GoSem.ClaimJoined
import GoSem.ClaimMapViews
import Derived.JoinedTies
import Derived.KernelRfl
namespace Go.Proofs.Ytphplkjpmhphmaa
/- THE CELL 'sum', in the pinned program and in every row, IS THE sha256 OF THE DUMP (.gsa) THAT YtphplkjpmhphmaaProg.lean LOADS. Nothing in Lean hashes anything: it is a label: what it is worth is what the hold of that sum in a sandbox is worth. -/
noncomputable def Try.pinned : Pinned := { name := "ytphplkjpmhphmaa", sum := "8f3b724d50594a46c21ed16cd4209c20c9094ae1d77a9fe2a9ec617b8a6c9e67", checked := Try.checked }
namespace Rows
def none {H : Type} : Left H := { results := [], args := [] }

/-- 'consolslaw1.FixOrder': WHATEVER THE INPUT: true; the input reads as it did. -/
def fixOrderSpec : ChangeSpec := { name := "fixOrder", fn := fun _ => fun
  | [d1, d2, d3] => { results := [.lit (.bool true)], args := [d1, d2, d3] }
  | _ => none }
def fixOrderRow : OpenClaim := { program := "ytphplkjpmhphmaa", sum := "8f3b724d50594a46c21ed16cd4209c20c9094ae1d77a9fe2a9ec617b8a6c9e67", func := "consols/consolslaw1.FixOrder", spec := "fixOrder", apart := false }
def FixOrderSaid : Prop := fixOrderRow.holds Try.pinned (OpenSpec.ofChange fixOrderSpec)

/-- ITS FALSE NEIGHBOUR: 'it returns false'. Refute it at one input. -/
def fixOrderWrong : ChangeSpec := { name := "fixOrder", fn := fun _ => fun
  | [d1, d2, d3] => { results := [.lit (.bool false)], args := [d1, d2, d3] }
  | _ => none }
def FixOrderWrongFalsely : Prop := fixOrderRow.holds Try.pinned (OpenSpec.ofChange fixOrderWrong)

/-- 'consolslaw1.FixTells': WHATEVER THE INPUT: true; the input reads as it did. -/
def fixTellsSpec : ChangeSpec := { name := "fixTells", fn := fun _ => fun
  | [d1, d2] => { results := [.lit (.bool true)], args := [d1, d2] }
  | _ => none }
def fixTellsRow : OpenClaim := { program := "ytphplkjpmhphmaa", sum := "8f3b724d50594a46c21ed16cd4209c20c9094ae1d77a9fe2a9ec617b8a6c9e67", func := "consols/consolslaw1.FixTells", spec := "fixTells", apart := false }
def FixTellsSaid : Prop := fixTellsRow.holds Try.pinned (OpenSpec.ofChange fixTellsSpec)

/-- ITS FALSE NEIGHBOUR: 'it returns false'. Refute it at one input. -/
def fixTellsWrong : ChangeSpec := { name := "fixTells", fn := fun _ => fun
  | [d1, d2] => { results := [.lit (.bool false)], args := [d1, d2] }
  | _ => none }
def FixTellsWrongFalsely : Prop := fixTellsRow.holds Try.pinned (OpenSpec.ofChange fixTellsWrong)

/-- 'consolslaw1.FixKnown': WHATEVER THE INPUT: true; the input reads as it did. -/
def fixKnownSpec : ChangeSpec := { name := "fixKnown", fn := fun _ => fun
  | [d] => { results := [.lit (.bool true)], args := [d] }
  | _ => none }
def fixKnownRow : OpenClaim := { program := "ytphplkjpmhphmaa", sum := "8f3b724d50594a46c21ed16cd4209c20c9094ae1d77a9fe2a9ec617b8a6c9e67", func := "consols/consolslaw1.FixKnown", spec := "fixKnown", apart := false }
def FixKnownSaid : Prop := fixKnownRow.holds Try.pinned (OpenSpec.ofChange fixKnownSpec)

/-- ITS FALSE NEIGHBOUR: 'it returns false'. Refute it at one input. -/
def fixKnownWrong : ChangeSpec := { name := "fixKnown", fn := fun _ => fun
  | [d] => { results := [.lit (.bool false)], args := [d] }
  | _ => none }
def FixKnownWrongFalsely : Prop := fixKnownRow.holds Try.pinned (OpenSpec.ofChange fixKnownWrong)

/-- 'consolslaw1.FixNarrows': WHATEVER THE INPUT: true; the input reads as it did. -/
def fixNarrowsSpec : ChangeSpec := { name := "fixNarrows", fn := fun _ => fun
  | [d1, d2] => { results := [.lit (.bool true)], args := [d1, d2] }
  | _ => none }
def fixNarrowsRow : OpenClaim := { program := "ytphplkjpmhphmaa", sum := "8f3b724d50594a46c21ed16cd4209c20c9094ae1d77a9fe2a9ec617b8a6c9e67", func := "consols/consolslaw1.FixNarrows", spec := "fixNarrows", apart := false }
def FixNarrowsSaid : Prop := fixNarrowsRow.holds Try.pinned (OpenSpec.ofChange fixNarrowsSpec)

/-- ITS FALSE NEIGHBOUR: 'it returns false'. Refute it at one input. -/
def fixNarrowsWrong : ChangeSpec := { name := "fixNarrows", fn := fun _ => fun
  | [d1, d2] => { results := [.lit (.bool false)], args := [d1, d2] }
  | _ => none }
def FixNarrowsWrongFalsely : Prop := fixNarrowsRow.holds Try.pinned (OpenSpec.ofChange fixNarrowsWrong)

/-- 'consolslaw1.FixWides': WHATEVER THE INPUT: true; the input reads as it did. -/
def fixWidesSpec : ChangeSpec := { name := "fixWides", fn := fun _ => fun
  | [d1, d2] => { results := [.lit (.bool true)], args := [d1, d2] }
  | _ => none }
def fixWidesRow : OpenClaim := { program := "ytphplkjpmhphmaa", sum := "8f3b724d50594a46c21ed16cd4209c20c9094ae1d77a9fe2a9ec617b8a6c9e67", func := "consols/consolslaw1.FixWides", spec := "fixWides", inPlace := ["math/bits.Add64"], apart := false }
def FixWidesSaid : Prop := fixWidesRow.holds Try.pinned (OpenSpec.ofChange fixWidesSpec)

/-- ITS FALSE NEIGHBOUR: 'it returns false'. Refute it at one input. -/
def fixWidesWrong : ChangeSpec := { name := "fixWides", fn := fun _ => fun
  | [d1, d2] => { results := [.lit (.bool false)], args := [d1, d2] }
  | _ => none }
def FixWidesWrongFalsely : Prop := fixWidesRow.holds Try.pinned (OpenSpec.ofChange fixWidesWrong)

/-- 'consolslaw1.FixUndoes': WHATEVER THE INPUT: true; the input reads as it did. -/
def fixUndoesSpec : ChangeSpec := { name := "fixUndoes", fn := fun _ => fun
  | [d1, d2, d3] => { results := [.lit (.bool true)], args := [d1, d2, d3] }
  | _ => none }
def fixUndoesRow : OpenClaim := { program := "ytphplkjpmhphmaa", sum := "8f3b724d50594a46c21ed16cd4209c20c9094ae1d77a9fe2a9ec617b8a6c9e67", func := "consols/consolslaw1.FixUndoes", spec := "fixUndoes", inPlace := ["math/bits.Add64"], apart := false }
def FixUndoesSaid : Prop := fixUndoesRow.holds Try.pinned (OpenSpec.ofChange fixUndoesSpec)

/-- ITS FALSE NEIGHBOUR: 'it returns false'. Refute it at one input. -/
def fixUndoesWrong : ChangeSpec := { name := "fixUndoes", fn := fun _ => fun
  | [d1, d2, d3] => { results := [.lit (.bool false)], args := [d1, d2, d3] }
  | _ => none }
def FixUndoesWrongFalsely : Prop := fixUndoesRow.holds Try.pinned (OpenSpec.ofChange fixUndoesWrong)

/- THE SECOND FORM. 'bulk': how many values and letters a reading holds, each counted each time it is reached (what is shared counts as often as it is met; a slice's spare places count too). A statement '..UptoSaid' is the law's where the arguments, and the package variables that the reading takes, are together of bulk at most 1048576: NARROWER than '..Said'. Prove '..Said' where nothing that the law and all that it calls make is longer than what came in: it says more and counts as full. Else prove '..UptoSaid'. A law counts once. -/
mutual
def uptoBulk {H : Type} : DataW H → Nat
  | .lit (.string bytes) => bytes.length + 1
  | .lit _ => 1
  | .nil => 1
  | .ptr d => uptoBulk d + 1
  | .slice elems spare => uptoBulkAll elems + uptoBulkAll spare + 1
  | .agg parts => uptoBulkAll parts + 1
  | .iface _ d => uptoBulk d + 1
  | .map entries => uptoBulkEntries entries + 1
  | .held _ => 1
def uptoBulkAll {H : Type} : List (DataW H) → Nat
  | [] => 0
  | d :: r => uptoBulk d + uptoBulkAll r
def uptoBulkEntries {H : Type} : List (Lit × DataW H) → Nat
  | [] => 0
  | x :: r => uptoBulkEntry x + uptoBulkEntries r
def uptoBulkEntry {H : Type} : Lit × DataW H → Nat
  | (.string bytes, d) => bytes.length + uptoBulk d + 1
  | (_, d) => uptoBulk d + 1
 end
def uptoSmall : (H : Type) → List (DataW H) → Bool := fun _ ds => decide (uptoBulkAll ds ≤ 1048576)
def OpenSpec.upto (s : _root_.Go.ChangeSpec) : _root_.Go.OpenSpec := { _root_.Go.OpenSpec.ofChange s with cond := some uptoSmall }

/-- 'consolslaw1.FixOrder', WHERE WHAT IT READS IS OF BULK AT MOST 1048576: true; the input reads as it did. -/
def fixOrderUptoRow : OpenClaim := { program := "ytphplkjpmhphmaa", sum := "8f3b724d50594a46c21ed16cd4209c20c9094ae1d77a9fe2a9ec617b8a6c9e67", func := "consols/consolslaw1.FixOrder", spec := "fixOrder", apart := false, narrowed := true }
def FixOrderUptoSaid : Prop := fixOrderUptoRow.holds Try.pinned (OpenSpec.upto fixOrderSpec)

/-- 'consolslaw1.FixTells', WHERE WHAT IT READS IS OF BULK AT MOST 1048576: true; the input reads as it did. -/
def fixTellsUptoRow : OpenClaim := { program := "ytphplkjpmhphmaa", sum := "8f3b724d50594a46c21ed16cd4209c20c9094ae1d77a9fe2a9ec617b8a6c9e67", func := "consols/consolslaw1.FixTells", spec := "fixTells", apart := false, narrowed := true }
def FixTellsUptoSaid : Prop := fixTellsUptoRow.holds Try.pinned (OpenSpec.upto fixTellsSpec)

/-- 'consolslaw1.FixKnown', WHERE WHAT IT READS IS OF BULK AT MOST 1048576: true; the input reads as it did. -/
def fixKnownUptoRow : OpenClaim := { program := "ytphplkjpmhphmaa", sum := "8f3b724d50594a46c21ed16cd4209c20c9094ae1d77a9fe2a9ec617b8a6c9e67", func := "consols/consolslaw1.FixKnown", spec := "fixKnown", apart := false, narrowed := true }
def FixKnownUptoSaid : Prop := fixKnownUptoRow.holds Try.pinned (OpenSpec.upto fixKnownSpec)

/-- 'consolslaw1.FixNarrows', WHERE WHAT IT READS IS OF BULK AT MOST 1048576: true; the input reads as it did. -/
def fixNarrowsUptoRow : OpenClaim := { program := "ytphplkjpmhphmaa", sum := "8f3b724d50594a46c21ed16cd4209c20c9094ae1d77a9fe2a9ec617b8a6c9e67", func := "consols/consolslaw1.FixNarrows", spec := "fixNarrows", apart := false, narrowed := true }
def FixNarrowsUptoSaid : Prop := fixNarrowsUptoRow.holds Try.pinned (OpenSpec.upto fixNarrowsSpec)

/-- 'consolslaw1.FixWides', WHERE WHAT IT READS IS OF BULK AT MOST 1048576: true; the input reads as it did. -/
def fixWidesUptoRow : OpenClaim := { program := "ytphplkjpmhphmaa", sum := "8f3b724d50594a46c21ed16cd4209c20c9094ae1d77a9fe2a9ec617b8a6c9e67", func := "consols/consolslaw1.FixWides", spec := "fixWides", inPlace := ["math/bits.Add64"], apart := false, narrowed := true }
def FixWidesUptoSaid : Prop := fixWidesUptoRow.holds Try.pinned (OpenSpec.upto fixWidesSpec)

/-- 'consolslaw1.FixUndoes', WHERE WHAT IT READS IS OF BULK AT MOST 1048576: true; the input reads as it did. -/
def fixUndoesUptoRow : OpenClaim := { program := "ytphplkjpmhphmaa", sum := "8f3b724d50594a46c21ed16cd4209c20c9094ae1d77a9fe2a9ec617b8a6c9e67", func := "consols/consolslaw1.FixUndoes", spec := "fixUndoes", inPlace := ["math/bits.Add64"], apart := false, narrowed := true }
def FixUndoesUptoSaid : Prop := fixUndoesUptoRow.holds Try.pinned (OpenSpec.upto fixUndoesSpec)

end Rows
end Go.Proofs.Ytphplkjpmhphmaa
