/-
  No cell of these rows narrows 'for every input' (looked for: loops, veiled, ifaces, maps, wideKeys, modest, calm, conditions, laid).
  DERIVED. THE GIVEN ROWS OF THIS SEAT. 5 by the template 'for every input the law returns true; each argument reads behind the call as it read before'; 0 by the template 'total and deterministic' (their statements: YtojigodoongdcaaTotals.lean).
  GIVEN WITH THE SEED: the statements are not yours to turn. If you find one false, say at which input.
  Laid BY PROGRAM, IN A SANDBOX (cutbox-rows.mjs): the forced cells as the released guide's own fill.sh prints them over the translation 47c8256705bd38e8… (all of the seat's roots in one cut). By AI agents, Wed Nov 11 2026. No macro, syntax, notation, axiom, sorry.
-/
import Derived.Test.YtojigodoongdcaaChecked
import GoSem.Claim
import GoSem.ClaimJoined
import GoSem.ClaimMapViews
import Derived.JoinedTies
import Derived.KernelRfl
namespace Go.Proofs.Ytojigodoongdcaa
/- THE CELL 'sum', in the pinned program and in every row, IS THE sha256 OF THE DUMP (.gsa) THAT YtojigodoongdcaaProg.lean LOADS. Nothing in Lean hashes anything: it is a label: what it is worth is what the hold of that sum in a sandbox is worth. -/
noncomputable def Try.pinned : Pinned := { name := "ytojigodoongdcaa", sum := "47c8256705bd38e82f023efdd8c9f3a0f066a6993d55ffd741498fdc5f581bc6", checked := Try.checked }
namespace Rows
def none {H : Type} : Left H := { results := [], args := [] }

/-- 'consolslaw12.BondSome': WHATEVER THE INPUT: true; the input reads as it did. -/
def bondSomeSpec : ChangeSpec := { name := "bondSome", fn := fun _ => fun
  | [d] => { results := [.lit (.bool true)], args := [d] }
  | _ => none }
def bondSomeRow : OpenClaim := { program := "ytojigodoongdcaa", sum := "47c8256705bd38e82f023efdd8c9f3a0f066a6993d55ffd741498fdc5f581bc6", func := "consols/consolslaw12.BondSome", spec := "bondSome", apart := false }
def BondSomeSaid : Prop := bondSomeRow.holds Try.pinned (OpenSpec.ofChange bondSomeSpec)

/-- ITS FALSE NEIGHBOUR: 'it returns false'. Refute it at one input. -/
def bondSomeWrong : ChangeSpec := { name := "bondSome", fn := fun _ => fun
  | [d] => { results := [.lit (.bool false)], args := [d] }
  | _ => none }
def BondSomeWrongFalsely : Prop := bondSomeRow.holds Try.pinned (OpenSpec.ofChange bondSomeWrong)

/-- 'consolslaw12.BondKnown': WHATEVER THE INPUT: true; the input reads as it did. -/
def bondKnownSpec : ChangeSpec := { name := "bondKnown", fn := fun _ => fun
  | [d] => { results := [.lit (.bool true)], args := [d] }
  | _ => none }
def bondKnownRow : OpenClaim := { program := "ytojigodoongdcaa", sum := "47c8256705bd38e82f023efdd8c9f3a0f066a6993d55ffd741498fdc5f581bc6", func := "consols/consolslaw12.BondKnown", spec := "bondKnown", apart := false }
def BondKnownSaid : Prop := bondKnownRow.holds Try.pinned (OpenSpec.ofChange bondKnownSpec)

/-- ITS FALSE NEIGHBOUR: 'it returns false'. Refute it at one input. -/
def bondKnownWrong : ChangeSpec := { name := "bondKnown", fn := fun _ => fun
  | [d] => { results := [.lit (.bool false)], args := [d] }
  | _ => none }
def BondKnownWrongFalsely : Prop := bondKnownRow.holds Try.pinned (OpenSpec.ofChange bondKnownWrong)

/-- 'consolslaw12.BondEdges': WHATEVER THE INPUT: true; the input reads as it did. -/
def bondEdgesSpec : ChangeSpec := { name := "bondEdges", fn := fun _ => fun
  | [d] => { results := [.lit (.bool true)], args := [d] }
  | _ => none }
def bondEdgesRow : OpenClaim := { program := "ytojigodoongdcaa", sum := "47c8256705bd38e82f023efdd8c9f3a0f066a6993d55ffd741498fdc5f581bc6", func := "consols/consolslaw12.BondEdges", spec := "bondEdges", apart := false }
def BondEdgesSaid : Prop := bondEdgesRow.holds Try.pinned (OpenSpec.ofChange bondEdgesSpec)

/-- ITS FALSE NEIGHBOUR: 'it returns false'. Refute it at one input. -/
def bondEdgesWrong : ChangeSpec := { name := "bondEdges", fn := fun _ => fun
  | [d] => { results := [.lit (.bool false)], args := [d] }
  | _ => none }
def BondEdgesWrongFalsely : Prop := bondEdgesRow.holds Try.pinned (OpenSpec.ofChange bondEdgesWrong)

/-- 'consolslaw12.BondTells': WHATEVER THE INPUT: true; the input reads as it did. -/
def bondTellsSpec : ChangeSpec := { name := "bondTells", fn := fun _ => fun
  | [d1, d2, d3] => { results := [.lit (.bool true)], args := [d1, d2, d3] }
  | _ => none }
def bondTellsRow : OpenClaim := { program := "ytojigodoongdcaa", sum := "47c8256705bd38e82f023efdd8c9f3a0f066a6993d55ffd741498fdc5f581bc6", func := "consols/consolslaw12.BondTells", spec := "bondTells", apart := false }
def BondTellsSaid : Prop := bondTellsRow.holds Try.pinned (OpenSpec.ofChange bondTellsSpec)

/-- ITS FALSE NEIGHBOUR: 'it returns false'. Refute it at one input. -/
def bondTellsWrong : ChangeSpec := { name := "bondTells", fn := fun _ => fun
  | [d1, d2, d3] => { results := [.lit (.bool false)], args := [d1, d2, d3] }
  | _ => none }
def BondTellsWrongFalsely : Prop := bondTellsRow.holds Try.pinned (OpenSpec.ofChange bondTellsWrong)

/-- 'consolslaw12.BondWell': WHATEVER THE INPUT: true; the input reads as it did. -/
def bondWellSpec : ChangeSpec := { name := "bondWell", fn := fun _ => fun
  | [d1, d2, d3] => { results := [.lit (.bool true)], args := [d1, d2, d3] }
  | _ => none }
def bondWellRow : OpenClaim := { program := "ytojigodoongdcaa", sum := "47c8256705bd38e82f023efdd8c9f3a0f066a6993d55ffd741498fdc5f581bc6", func := "consols/consolslaw12.BondWell", spec := "bondWell", apart := false }
def BondWellSaid : Prop := bondWellRow.holds Try.pinned (OpenSpec.ofChange bondWellSpec)

/-- ITS FALSE NEIGHBOUR: 'it returns false'. Refute it at one input. -/
def bondWellWrong : ChangeSpec := { name := "bondWell", fn := fun _ => fun
  | [d1, d2, d3] => { results := [.lit (.bool false)], args := [d1, d2, d3] }
  | _ => none }
def BondWellWrongFalsely : Prop := bondWellRow.holds Try.pinned (OpenSpec.ofChange bondWellWrong)

/- THE SECOND FORM. 'bulk': how many values and letters a reading holds, each counted each time it is reached (what is shared counts as often as it is met; a slice's spare places count too). A statement '..UptoSaid' is the law's where the arguments, and the package variables that the reading takes, are together of bulk at most 1048576: NARROWER than '..Said'. Prove '..Said' where nothing that the law and all that it calls make is longer than what came in: it says more and counts as full. Else prove '..UptoSaid'. A law counts once. -/
mutual
def uptoBulk {H : Type} : DataW H → Nat
  | .lit (.string bytes) => bytes.length + 1
  | .lit _ => 1
  | .nil => 1
  | .ptr d => uptoBulk d + 1
  | .slice elems spare => uptoBulkAll elems + uptoBulkAll spare + 1
  | .agg parts => uptoBulkAll parts + 1
  | .iface _ d => uptoBulk d + 1
  | .map entries => uptoBulkEntries entries + 1
  | .held _ => 1
def uptoBulkAll {H : Type} : List (DataW H) → Nat
  | [] => 0
  | d :: r => uptoBulk d + uptoBulkAll r
def uptoBulkEntries {H : Type} : List (Lit × DataW H) → Nat
  | [] => 0
  | x :: r => uptoBulkEntry x + uptoBulkEntries r
def uptoBulkEntry {H : Type} : Lit × DataW H → Nat
  | (.string bytes, d) => bytes.length + uptoBulk d + 1
  | (_, d) => uptoBulk d + 1
 end
def uptoSmall : (H : Type) → List (DataW H) → Bool := fun _ ds => decide (uptoBulkAll ds ≤ 1048576)
def OpenSpec.upto (s : _root_.Go.ChangeSpec) : _root_.Go.OpenSpec := { _root_.Go.OpenSpec.ofChange s with cond := some uptoSmall }

/-- 'consolslaw12.BondSome', WHERE WHAT IT READS IS OF BULK AT MOST 1048576: true; the input reads as it did. -/
def bondSomeUptoRow : OpenClaim := { program := "ytojigodoongdcaa", sum := "47c8256705bd38e82f023efdd8c9f3a0f066a6993d55ffd741498fdc5f581bc6", func := "consols/consolslaw12.BondSome", spec := "bondSome", apart := false, narrowed := true }
def BondSomeUptoSaid : Prop := bondSomeUptoRow.holds Try.pinned (OpenSpec.upto bondSomeSpec)

/-- 'consolslaw12.BondKnown', WHERE WHAT IT READS IS OF BULK AT MOST 1048576: true; the input reads as it did. -/
def bondKnownUptoRow : OpenClaim := { program := "ytojigodoongdcaa", sum := "47c8256705bd38e82f023efdd8c9f3a0f066a6993d55ffd741498fdc5f581bc6", func := "consols/consolslaw12.BondKnown", spec := "bondKnown", apart := false, narrowed := true }
def BondKnownUptoSaid : Prop := bondKnownUptoRow.holds Try.pinned (OpenSpec.upto bondKnownSpec)

/-- 'consolslaw12.BondEdges', WHERE WHAT IT READS IS OF BULK AT MOST 1048576: true; the input reads as it did. -/
def bondEdgesUptoRow : OpenClaim := { program := "ytojigodoongdcaa", sum := "47c8256705bd38e82f023efdd8c9f3a0f066a6993d55ffd741498fdc5f581bc6", func := "consols/consolslaw12.BondEdges", spec := "bondEdges", apart := false, narrowed := true }
def BondEdgesUptoSaid : Prop := bondEdgesUptoRow.holds Try.pinned (OpenSpec.upto bondEdgesSpec)

/-- 'consolslaw12.BondTells', WHERE WHAT IT READS IS OF BULK AT MOST 1048576: true; the input reads as it did. -/
def bondTellsUptoRow : OpenClaim := { program := "ytojigodoongdcaa", sum := "47c8256705bd38e82f023efdd8c9f3a0f066a6993d55ffd741498fdc5f581bc6", func := "consols/consolslaw12.BondTells", spec := "bondTells", apart := false, narrowed := true }
def BondTellsUptoSaid : Prop := bondTellsUptoRow.holds Try.pinned (OpenSpec.upto bondTellsSpec)

/-- 'consolslaw12.BondWell', WHERE WHAT IT READS IS OF BULK AT MOST 1048576: true; the input reads as it did. -/
def bondWellUptoRow : OpenClaim := { program := "ytojigodoongdcaa", sum := "47c8256705bd38e82f023efdd8c9f3a0f066a6993d55ffd741498fdc5f581bc6", func := "consols/consolslaw12.BondWell", spec := "bondWell", apart := false, narrowed := true }
def BondWellUptoSaid : Prop := bondWellUptoRow.holds Try.pinned (OpenSpec.upto bondWellSpec)

end Rows
end Go.Proofs.Ytojigodoongdcaa
