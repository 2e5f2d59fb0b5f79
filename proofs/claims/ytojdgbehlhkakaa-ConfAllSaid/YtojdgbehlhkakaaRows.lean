/-
  No cell of these rows narrows 'for every input' (looked for: loops, veiled, ifaces, maps, wideKeys, modest, calm, conditions, laid).
  DERIVED. THE GIVEN ROWS OF THIS SEAT. 4 by the template 'for every input the law returns true; each argument reads behind the call as it read before'; 0 by the template 'total and deterministic' (their statements: YtojdgbehlhkakaaTotals.lean).
  GIVEN WITH THE SEED: the statements are not yours to turn. If you find one false, say at which input.
  Laid BY PROGRAM, IN A SANDBOX (cutbox-rows.mjs): the forced cells as the released guide's own fill.sh prints them over the translation 867e855262d39993… (all of the seat's roots in one cut). By AI agents, Wed Nov 11 2026. No macro, syntax, notation, axiom, sorry.
-/
import Derived.Test.YtojdgbehlhkakaaChecked
import GoSem.Claim
import GoSem.ClaimJoined
import GoSem.ClaimMapViews
import Derived.JoinedTies
import Derived.KernelRfl
namespace Go.Proofs.Ytojdgbehlhkakaa
/- THE CELL 'sum', in the pinned program and in every row, IS THE sha256 OF THE DUMP (.gsa) THAT YtojdgbehlhkakaaProg.lean LOADS. Nothing in Lean hashes anything: it is a label: what it is worth is what the hold of that sum in a sandbox is worth. -/
noncomputable def Try.pinned : Pinned := { name := "ytojdgbehlhkakaa", sum := "867e855262d39993053740201f76cb45e7c6c2ed39b3ab52ff61e964211eed9d", checked := Try.checked }
namespace Rows
def none {H : Type} : Left H := { results := [], args := [] }

/-- 'consolslaw22.ConfOf': WHATEVER THE INPUT: true; the input reads as it did. -/
def confOfSpec : ChangeSpec := { name := "confOf", fn := fun _ => fun
  | [d] => { results := [.lit (.bool true)], args := [d] }
  | _ => none }
def confOfRow : OpenClaim := { program := "ytojdgbehlhkakaa", sum := "867e855262d39993053740201f76cb45e7c6c2ed39b3ab52ff61e964211eed9d", func := "consols/consolslaw22.ConfOf", spec := "confOf", apart := false }
def ConfOfSaid : Prop := confOfRow.holds Try.pinned (OpenSpec.ofChange confOfSpec)

/-- ITS FALSE NEIGHBOUR: 'it returns false'. Refute it at one input. -/
def confOfWrong : ChangeSpec := { name := "confOf", fn := fun _ => fun
  | [d] => { results := [.lit (.bool false)], args := [d] }
  | _ => none }
def ConfOfWrongFalsely : Prop := confOfRow.holds Try.pinned (OpenSpec.ofChange confOfWrong)

/-- 'consolslaw22.ConfMatches': WHATEVER THE INPUT: true; the input reads as it did. -/
def confMatchesSpec : ChangeSpec := { name := "confMatches", fn := fun _ => fun
  | [d1, d2] => { results := [.lit (.bool true)], args := [d1, d2] }
  | _ => none }
def confMatchesRow : OpenClaim := { program := "ytojdgbehlhkakaa", sum := "867e855262d39993053740201f76cb45e7c6c2ed39b3ab52ff61e964211eed9d", func := "consols/consolslaw22.ConfMatches", spec := "confMatches", apart := false }
def ConfMatchesSaid : Prop := confMatchesRow.holds Try.pinned (OpenSpec.ofChange confMatchesSpec)

/-- ITS FALSE NEIGHBOUR: 'it returns false'. Refute it at one input. -/
def confMatchesWrong : ChangeSpec := { name := "confMatches", fn := fun _ => fun
  | [d1, d2] => { results := [.lit (.bool false)], args := [d1, d2] }
  | _ => none }
def ConfMatchesWrongFalsely : Prop := confMatchesRow.holds Try.pinned (OpenSpec.ofChange confMatchesWrong)

/-- 'consolslaw22.ConfAll': WHATEVER THE INPUT: true; the input reads as it did. -/
def confAllSpec : ChangeSpec := { name := "confAll", fn := fun _ => fun
  | [d1, d2, d3, d4] => { results := [.lit (.bool true)], args := [d1, d2, d3, d4] }
  | _ => none }
def confAllRow : OpenClaim := { program := "ytojdgbehlhkakaa", sum := "867e855262d39993053740201f76cb45e7c6c2ed39b3ab52ff61e964211eed9d", func := "consols/consolslaw22.ConfAll", spec := "confAll", apart := false }
def ConfAllSaid : Prop := confAllRow.holds Try.pinned (OpenSpec.ofChange confAllSpec)

/-- ITS FALSE NEIGHBOUR: 'it returns false'. Refute it at one input. -/
def confAllWrong : ChangeSpec := { name := "confAll", fn := fun _ => fun
  | [d1, d2, d3, d4] => { results := [.lit (.bool false)], args := [d1, d2, d3, d4] }
  | _ => none }
def ConfAllWrongFalsely : Prop := confAllRow.holds Try.pinned (OpenSpec.ofChange confAllWrong)

/-- 'consolslaw22.ConfSides': WHATEVER THE INPUT: true; the input reads as it did. -/
def confSidesSpec : ChangeSpec := { name := "confSides", fn := fun _ => fun
  | [d] => { results := [.lit (.bool true)], args := [d] }
  | _ => none }
def confSidesRow : OpenClaim := { program := "ytojdgbehlhkakaa", sum := "867e855262d39993053740201f76cb45e7c6c2ed39b3ab52ff61e964211eed9d", func := "consols/consolslaw22.ConfSides", spec := "confSides", apart := false }
def ConfSidesSaid : Prop := confSidesRow.holds Try.pinned (OpenSpec.ofChange confSidesSpec)

/-- ITS FALSE NEIGHBOUR: 'it returns false'. Refute it at one input. -/
def confSidesWrong : ChangeSpec := { name := "confSides", fn := fun _ => fun
  | [d] => { results := [.lit (.bool false)], args := [d] }
  | _ => none }
def ConfSidesWrongFalsely : Prop := confSidesRow.holds Try.pinned (OpenSpec.ofChange confSidesWrong)

/- THE SECOND FORM. 'bulk': how many values and letters a reading holds, each counted each time it is reached (what is shared counts as often as it is met; a slice's spare places count too). A statement '..UptoSaid' is the law's where the arguments, and the package variables that the reading takes, are together of bulk at most 1048576: NARROWER than '..Said'. Prove '..Said' where nothing that the law and all that it calls make is longer than what came in: it says more and counts as full. Else prove '..UptoSaid'. A law counts once. -/
mutual
def uptoBulk {H : Type} : DataW H → Nat
  | .lit (.string bytes) => bytes.length + 1
  | .lit _ => 1
  | .nil => 1
  | .ptr d => uptoBulk d + 1
  | .slice elems spare => uptoBulkAll elems + uptoBulkAll spare + 1
  | .agg parts => uptoBulkAll parts + 1
  | .iface _ d => uptoBulk d + 1
  | .map entries => uptoBulkEntries entries + 1
  | .held _ => 1
def uptoBulkAll {H : Type} : List (DataW H) → Nat
  | [] => 0
  | d :: r => uptoBulk d + uptoBulkAll r
def uptoBulkEntries {H : Type} : List (Lit × DataW H) → Nat
  | [] => 0
  | x :: r => uptoBulkEntry x + uptoBulkEntries r
def uptoBulkEntry {H : Type} : Lit × DataW H → Nat
  | (.string bytes, d) => bytes.length + uptoBulk d + 1
  | (_, d) => uptoBulk d + 1
 end
def uptoSmall : (H : Type) → List (DataW H) → Bool := fun _ ds => decide (uptoBulkAll ds ≤ 1048576)
def OpenSpec.upto (s : _root_.Go.ChangeSpec) : _root_.Go.OpenSpec := { _root_.Go.OpenSpec.ofChange s with cond := some uptoSmall }

/-- 'consolslaw22.ConfOf', WHERE WHAT IT READS IS OF BULK AT MOST 1048576: true; the input reads as it did. -/
def confOfUptoRow : OpenClaim := { program := "ytojdgbehlhkakaa", sum := "867e855262d39993053740201f76cb45e7c6c2ed39b3ab52ff61e964211eed9d", func := "consols/consolslaw22.ConfOf", spec := "confOf", apart := false, narrowed := true }
def ConfOfUptoSaid : Prop := confOfUptoRow.holds Try.pinned (OpenSpec.upto confOfSpec)

/-- 'consolslaw22.ConfMatches', WHERE WHAT IT READS IS OF BULK AT MOST 1048576: true; the input reads as it did. -/
def confMatchesUptoRow : OpenClaim := { program := "ytojdgbehlhkakaa", sum := "867e855262d39993053740201f76cb45e7c6c2ed39b3ab52ff61e964211eed9d", func := "consols/consolslaw22.ConfMatches", spec := "confMatches", apart := false, narrowed := true }
def ConfMatchesUptoSaid : Prop := confMatchesUptoRow.holds Try.pinned (OpenSpec.upto confMatchesSpec)

/-- 'consolslaw22.ConfAll', WHERE WHAT IT READS IS OF BULK AT MOST 1048576: true; the input reads as it did. -/
def confAllUptoRow : OpenClaim := { program := "ytojdgbehlhkakaa", sum := "867e855262d39993053740201f76cb45e7c6c2ed39b3ab52ff61e964211eed9d", func := "consols/consolslaw22.ConfAll", spec := "confAll", apart := false, narrowed := true }
def ConfAllUptoSaid : Prop := confAllUptoRow.holds Try.pinned (OpenSpec.upto confAllSpec)

/-- 'consolslaw22.ConfSides', WHERE WHAT IT READS IS OF BULK AT MOST 1048576: true; the input reads as it did. -/
def confSidesUptoRow : OpenClaim := { program := "ytojdgbehlhkakaa", sum := "867e855262d39993053740201f76cb45e7c6c2ed39b3ab52ff61e964211eed9d", func := "consols/consolslaw22.ConfSides", spec := "confSides", apart := false, narrowed := true }
def ConfSidesUptoSaid : Prop := confSidesUptoRow.holds Try.pinned (OpenSpec.upto confSidesSpec)

end Rows
end Go.Proofs.Ytojdgbehlhkakaa
