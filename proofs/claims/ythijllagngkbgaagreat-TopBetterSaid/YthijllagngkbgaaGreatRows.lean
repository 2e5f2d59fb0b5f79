/-
  No cell of these rows narrows 'for every input' (looked for: loops, veiled, ifaces, maps, wideKeys, modest, calm, conditions, laid).
  DERIVED. THE GIVEN ROWS OF THIS SEAT. 4 by the template 'for every input the law returns true; each argument reads behind the call as it read before'; 0 by the template 'total and deterministic' (their statements: YthijllagngkbgaaGreatTotals.lean).
  GIVEN WITH THE SEED: the statements are not yours to turn. If you find one false, say at which input.
  Laid BY PROGRAM, IN A SANDBOX (cutbox-rows.mjs): the forced cells as the released guide's own fill.sh prints them over the translation ba09c241c1f9d5db… (all of the seat's roots in one cut). By AI agents, Wed Nov 11 2026. No macro, syntax, notation, axiom, sorry.
-/
import Derived.Test.YthijllagngkbgaaGreatChecked
import GoSem.Claim
import GoSem.ClaimJoined
import GoSem.ClaimMapViews
import Derived.JoinedTies
import Derived.KernelRfl
namespace Go.Proofs.YthijllagngkbgaaGreat
/- THE CELL 'sum', in the pinned program and in every row, IS THE sha256 OF THE DUMP (.gsa) THAT YthijllagngkbgaaGreatProg.lean LOADS. Nothing in Lean hashes anything: it is a label: what it is worth is what the hold of that sum in a sandbox is worth. -/
noncomputable def Tryz.pinned : Pinned := { name := "ythijllagngkbgaagreat", sum := "ba09c241c1f9d5db143f7f888bdfcfb68acfe0790ab73c94873043559710c21b", checked := Tryz.checked }
namespace Rows
def none {H : Type} : Left H := { results := [], args := [] }

/-- 'consolstop.TopBetter': WHATEVER THE INPUT: true; the input reads as it did. -/
def topBetterSpec : ChangeSpec := { name := "topBetter", fn := fun _ => fun
  | [d1, d2] => { results := [.lit (.bool true)], args := [d1, d2] }
  | _ => none }
def topBetterRow : OpenClaim := { program := "ythijllagngkbgaagreat", sum := "ba09c241c1f9d5db143f7f888bdfcfb68acfe0790ab73c94873043559710c21b", func := "consols/consolstop.TopBetter", spec := "topBetter", inPlace := ["slices.overlaps[consols/api.Quote]", "slices.overlaps[consols/api.Due]", "math/bits.Add64", "slices.overlaps[consols/api.Ask]"], unfollowed := true, recurses := true, apart := false }
def TopBetterSaid : Prop := topBetterRow.holds Tryz.pinned (OpenSpec.ofChange topBetterSpec)

/-- ITS FALSE NEIGHBOUR: 'it returns false'. Refute it at one input. -/
def topBetterWrong : ChangeSpec := { name := "topBetter", fn := fun _ => fun
  | [d1, d2] => { results := [.lit (.bool false)], args := [d1, d2] }
  | _ => none }
def TopBetterWrongFalsely : Prop := topBetterRow.holds Tryz.pinned (OpenSpec.ofChange topBetterWrong)

/-- 'consolstop.TopEnds': WHATEVER THE INPUT: true; the input reads as it did. -/
def topEndsSpec : ChangeSpec := { name := "topEnds", fn := fun _ => fun
  | [d1, d2] => { results := [.lit (.bool true)], args := [d1, d2] }
  | _ => none }
def topEndsRow : OpenClaim := { program := "ythijllagngkbgaagreat", sum := "ba09c241c1f9d5db143f7f888bdfcfb68acfe0790ab73c94873043559710c21b", func := "consols/consolstop.TopEnds", spec := "topEnds", inPlace := ["slices.overlaps[consols/api.Quote]", "slices.overlaps[consols/api.Due]", "math/bits.Add64", "slices.overlaps[consols/api.Ask]"], unfollowed := true, recurses := true, apart := false }
def TopEndsSaid : Prop := topEndsRow.holds Tryz.pinned (OpenSpec.ofChange topEndsSpec)

/-- ITS FALSE NEIGHBOUR: 'it returns false'. Refute it at one input. -/
def topEndsWrong : ChangeSpec := { name := "topEnds", fn := fun _ => fun
  | [d1, d2] => { results := [.lit (.bool false)], args := [d1, d2] }
  | _ => none }
def TopEndsWrongFalsely : Prop := topEndsRow.holds Tryz.pinned (OpenSpec.ofChange topEndsWrong)

/-- 'consolstop.TopMissed': WHATEVER THE INPUT: true; the input reads as it did. -/
def topMissedSpec : ChangeSpec := { name := "topMissed", fn := fun _ => fun
  | [d1, d2, d3] => { results := [.lit (.bool true)], args := [d1, d2, d3] }
  | _ => none }
def topMissedRow : OpenClaim := { program := "ythijllagngkbgaagreat", sum := "ba09c241c1f9d5db143f7f888bdfcfb68acfe0790ab73c94873043559710c21b", func := "consols/consolstop.TopMissed", spec := "topMissed", inPlace := ["slices.overlaps[consols/api.Quote]", "slices.overlaps[consols/api.Due]", "math/bits.Add64", "slices.overlaps[consols/api.Ask]"], unfollowed := true, recurses := true, apart := false }
def TopMissedSaid : Prop := topMissedRow.holds Tryz.pinned (OpenSpec.ofChange topMissedSpec)

/-- ITS FALSE NEIGHBOUR: 'it returns false'. Refute it at one input. -/
def topMissedWrong : ChangeSpec := { name := "topMissed", fn := fun _ => fun
  | [d1, d2, d3] => { results := [.lit (.bool false)], args := [d1, d2, d3] }
  | _ => none }
def TopMissedWrongFalsely : Prop := topMissedRow.holds Tryz.pinned (OpenSpec.ofChange topMissedWrong)

/-- 'consolstop.TopLate': WHATEVER THE INPUT: true; the input reads as it did. -/
def topLateSpec : ChangeSpec := { name := "topLate", fn := fun _ => fun
  | [d1, d2] => { results := [.lit (.bool true)], args := [d1, d2] }
  | _ => none }
def topLateRow : OpenClaim := { program := "ythijllagngkbgaagreat", sum := "ba09c241c1f9d5db143f7f888bdfcfb68acfe0790ab73c94873043559710c21b", func := "consols/consolstop.TopLate", spec := "topLate", inPlace := ["slices.overlaps[consols/api.Quote]", "slices.overlaps[consols/api.Due]", "math/bits.Add64", "slices.overlaps[consols/api.Ask]"], unfollowed := true, recurses := true, apart := false }
def TopLateSaid : Prop := topLateRow.holds Tryz.pinned (OpenSpec.ofChange topLateSpec)

/-- ITS FALSE NEIGHBOUR: 'it returns false'. Refute it at one input. -/
def topLateWrong : ChangeSpec := { name := "topLate", fn := fun _ => fun
  | [d1, d2] => { results := [.lit (.bool false)], args := [d1, d2] }
  | _ => none }
def TopLateWrongFalsely : Prop := topLateRow.holds Tryz.pinned (OpenSpec.ofChange topLateWrong)

/- THE SECOND FORM. 'bulk': how many values and letters a reading holds, each counted each time it is reached (what is shared counts as often as it is met; a slice's spare places count too). A statement '..UptoSaid' is the law's where the arguments, and the package variables that the reading takes, are together of bulk at most 1048576: NARROWER than '..Said'. Prove '..Said' where nothing that the law and all that it calls make is longer than what came in: it says more and counts as full. Else prove '..UptoSaid'. A law counts once. -/
mutual
def uptoBulk {H : Type} : DataW H → Nat
  | .lit (.string bytes) => bytes.length + 1
  | .lit _ => 1
  | .nil => 1
  | .ptr d => uptoBulk d + 1
  | .slice elems spare => uptoBulkAll elems + uptoBulkAll spare + 1
  | .agg parts => uptoBulkAll parts + 1
  | .iface _ d => uptoBulk d + 1
  | .map entries => uptoBulkEntries entries + 1
  | .held _ => 1
def uptoBulkAll {H : Type} : List (DataW H) → Nat
  | [] => 0
  | d :: r => uptoBulk d + uptoBulkAll r
def uptoBulkEntries {H : Type} : List (Lit × DataW H) → Nat
  | [] => 0
  | x :: r => uptoBulkEntry x + uptoBulkEntries r
def uptoBulkEntry {H : Type} : Lit × DataW H → Nat
  | (.string bytes, d) => bytes.length + uptoBulk d + 1
  | (_, d) => uptoBulk d + 1
 end
def uptoSmall : (H : Type) → List (DataW H) → Bool := fun _ ds => decide (uptoBulkAll ds ≤ 1048576)
def OpenSpec.upto (s : _root_.Go.ChangeSpec) : _root_.Go.OpenSpec := { _root_.Go.OpenSpec.ofChange s with cond := some uptoSmall }

/-- 'consolstop.TopBetter', WHERE WHAT IT READS IS OF BULK AT MOST 1048576: true; the input reads as it did. -/
def topBetterUptoRow : OpenClaim := { program := "ythijllagngkbgaagreat", sum := "ba09c241c1f9d5db143f7f888bdfcfb68acfe0790ab73c94873043559710c21b", func := "consols/consolstop.TopBetter", spec := "topBetter", inPlace := ["slices.overlaps[consols/api.Quote]", "slices.overlaps[consols/api.Due]", "math/bits.Add64", "slices.overlaps[consols/api.Ask]"], unfollowed := true, recurses := true, apart := false, narrowed := true }
def TopBetterUptoSaid : Prop := topBetterUptoRow.holds Tryz.pinned (OpenSpec.upto topBetterSpec)

/-- 'consolstop.TopEnds', WHERE WHAT IT READS IS OF BULK AT MOST 1048576: true; the input reads as it did. -/
def topEndsUptoRow : OpenClaim := { program := "ythijllagngkbgaagreat", sum := "ba09c241c1f9d5db143f7f888bdfcfb68acfe0790ab73c94873043559710c21b", func := "consols/consolstop.TopEnds", spec := "topEnds", inPlace := ["slices.overlaps[consols/api.Quote]", "slices.overlaps[consols/api.Due]", "math/bits.Add64", "slices.overlaps[consols/api.Ask]"], unfollowed := true, recurses := true, apart := false, narrowed := true }
def TopEndsUptoSaid : Prop := topEndsUptoRow.holds Tryz.pinned (OpenSpec.upto topEndsSpec)

/-- 'consolstop.TopMissed', WHERE WHAT IT READS IS OF BULK AT MOST 1048576: true; the input reads as it did. -/
def topMissedUptoRow : OpenClaim := { program := "ythijllagngkbgaagreat", sum := "ba09c241c1f9d5db143f7f888bdfcfb68acfe0790ab73c94873043559710c21b", func := "consols/consolstop.TopMissed", spec := "topMissed", inPlace := ["slices.overlaps[consols/api.Quote]", "slices.overlaps[consols/api.Due]", "math/bits.Add64", "slices.overlaps[consols/api.Ask]"], unfollowed := true, recurses := true, apart := false, narrowed := true }
def TopMissedUptoSaid : Prop := topMissedUptoRow.holds Tryz.pinned (OpenSpec.upto topMissedSpec)

/-- 'consolstop.TopLate', WHERE WHAT IT READS IS OF BULK AT MOST 1048576: true; the input reads as it did. -/
def topLateUptoRow : OpenClaim := { program := "ythijllagngkbgaagreat", sum := "ba09c241c1f9d5db143f7f888bdfcfb68acfe0790ab73c94873043559710c21b", func := "consols/consolstop.TopLate", spec := "topLate", inPlace := ["slices.overlaps[consols/api.Quote]", "slices.overlaps[consols/api.Due]", "math/bits.Add64", "slices.overlaps[consols/api.Ask]"], unfollowed := true, recurses := true, apart := false, narrowed := true }
def TopLateUptoSaid : Prop := topLateUptoRow.holds Tryz.pinned (OpenSpec.upto topLateSpec)

end Rows
end Go.Proofs.YthijllagngkbgaaGreat
