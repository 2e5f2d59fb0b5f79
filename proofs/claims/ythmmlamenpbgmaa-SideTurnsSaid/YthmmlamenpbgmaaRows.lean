/-
  No cell of these rows narrows 'for every input' (looked for: loops, veiled, ifaces, maps, wideKeys, modest, calm, conditions, laid).
  DERIVED. THE GIVEN ROWS OF THIS SEAT. 4 by the template 'for every input the law returns true; each argument reads behind the call as it read before'; 0 by the template 'total and deterministic' (their statements: YthmmlamenpbgmaaTotals.lean).
  GIVEN WITH THE SEED: the statements are not yours to turn. If you find one false, say at which input.
  Laid BY PROGRAM, IN A SANDBOX (cutbox-rows.mjs): the forced cells as the released guide's own fill.sh prints them over the translation e23703152d9f6abd… (all of the seat's roots in one cut). By AI agents, Wed Nov 11 2026. No macro, syntax, notation, axiom, sorry.
-/
import Derived.Test.YthmmlamenpbgmaaChecked
import GoSem.Claim
import GoSem.ClaimJoined
import GoSem.ClaimMapViews
import Derived.JoinedTies
import Derived.KernelRfl
namespace Go.Proofs.Ythmmlamenpbgmaa
/- THE CELL 'sum', in the pinned program and in every row, IS THE sha256 OF THE DUMP (.gsa) THAT YthmmlamenpbgmaaProg.lean LOADS. Nothing in Lean hashes anything: it is a label: what it is worth is what the hold of that sum in a sandbox is worth. -/
noncomputable def Try.pinned : Pinned := { name := "ythmmlamenpbgmaa", sum := "e23703152d9f6abdfe29f3427310def7bc1b861800cefe88dd1140344f955e97", checked := Try.checked }
namespace Rows
def none {H : Type} : Left H := { results := [], args := [] }

/-- 'consolslaw2.SideTells': WHATEVER THE INPUT: true; the input reads as it did. -/
def sideTellsSpec : ChangeSpec := { name := "sideTells", fn := fun _ => fun
  | [d1, d2, d3] => { results := [.lit (.bool true)], args := [d1, d2, d3] }
  | _ => none }
def sideTellsRow : OpenClaim := { program := "ythmmlamenpbgmaa", sum := "e23703152d9f6abdfe29f3427310def7bc1b861800cefe88dd1140344f955e97", func := "consols/consolslaw2.SideTells", spec := "sideTells", apart := false }
def SideTellsSaid : Prop := sideTellsRow.holds Try.pinned (OpenSpec.ofChange sideTellsSpec)

/-- ITS FALSE NEIGHBOUR: 'it returns false'. Refute it at one input. -/
def sideTellsWrong : ChangeSpec := { name := "sideTells", fn := fun _ => fun
  | [d1, d2, d3] => { results := [.lit (.bool false)], args := [d1, d2, d3] }
  | _ => none }
def SideTellsWrongFalsely : Prop := sideTellsRow.holds Try.pinned (OpenSpec.ofChange sideTellsWrong)

/-- 'consolslaw2.SideTurns': WHATEVER THE INPUT: true; the input reads as it did. -/
def sideTurnsSpec : ChangeSpec := { name := "sideTurns", fn := fun _ => fun
  | [d1, d2, d3] => { results := [.lit (.bool true)], args := [d1, d2, d3] }
  | _ => none }
def sideTurnsRow : OpenClaim := { program := "ythmmlamenpbgmaa", sum := "e23703152d9f6abdfe29f3427310def7bc1b861800cefe88dd1140344f955e97", func := "consols/consolslaw2.SideTurns", spec := "sideTurns", apart := false }
def SideTurnsSaid : Prop := sideTurnsRow.holds Try.pinned (OpenSpec.ofChange sideTurnsSpec)

/-- ITS FALSE NEIGHBOUR: 'it returns false'. Refute it at one input. -/
def sideTurnsWrong : ChangeSpec := { name := "sideTurns", fn := fun _ => fun
  | [d1, d2, d3] => { results := [.lit (.bool false)], args := [d1, d2, d3] }
  | _ => none }
def SideTurnsWrongFalsely : Prop := sideTurnsRow.holds Try.pinned (OpenSpec.ofChange sideTurnsWrong)

/-- 'consolslaw2.SideChain': WHATEVER THE INPUT: true; the input reads as it did. -/
def sideChainSpec : ChangeSpec := { name := "sideChain", fn := fun _ => fun
  | [d1, d2, d3, d4] => { results := [.lit (.bool true)], args := [d1, d2, d3, d4] }
  | _ => none }
def sideChainRow : OpenClaim := { program := "ythmmlamenpbgmaa", sum := "e23703152d9f6abdfe29f3427310def7bc1b861800cefe88dd1140344f955e97", func := "consols/consolslaw2.SideChain", spec := "sideChain", apart := false }
def SideChainSaid : Prop := sideChainRow.holds Try.pinned (OpenSpec.ofChange sideChainSpec)

/-- ITS FALSE NEIGHBOUR: 'it returns false'. Refute it at one input. -/
def sideChainWrong : ChangeSpec := { name := "sideChain", fn := fun _ => fun
  | [d1, d2, d3, d4] => { results := [.lit (.bool false)], args := [d1, d2, d3, d4] }
  | _ => none }
def SideChainWrongFalsely : Prop := sideChainRow.holds Try.pinned (OpenSpec.ofChange sideChainWrong)

/-- 'consolslaw2.SideBest': WHATEVER THE INPUT: true; the input reads as it did. -/
def sideBestSpec : ChangeSpec := { name := "sideBest", fn := fun _ => fun
  | [d1, d2] => { results := [.lit (.bool true)], args := [d1, d2] }
  | _ => none }
def sideBestRow : OpenClaim := { program := "ythmmlamenpbgmaa", sum := "e23703152d9f6abdfe29f3427310def7bc1b861800cefe88dd1140344f955e97", func := "consols/consolslaw2.SideBest", spec := "sideBest", apart := false }
def SideBestSaid : Prop := sideBestRow.holds Try.pinned (OpenSpec.ofChange sideBestSpec)

/-- ITS FALSE NEIGHBOUR: 'it returns false'. Refute it at one input. -/
def sideBestWrong : ChangeSpec := { name := "sideBest", fn := fun _ => fun
  | [d1, d2] => { results := [.lit (.bool false)], args := [d1, d2] }
  | _ => none }
def SideBestWrongFalsely : Prop := sideBestRow.holds Try.pinned (OpenSpec.ofChange sideBestWrong)

/- THE SECOND FORM. 'bulk': how many values and letters a reading holds, each counted each time it is reached (what is shared counts as often as it is met; a slice's spare places count too). A statement '..UptoSaid' is the law's where the arguments, and the package variables that the reading takes, are together of bulk at most 1048576: NARROWER than '..Said'. Prove '..Said' where nothing that the law and all that it calls make is longer than what came in: it says more and counts as full. Else prove '..UptoSaid'. A law counts once. -/
mutual
def uptoBulk {H : Type} : DataW H → Nat
  | .lit (.string bytes) => bytes.length + 1
  | .lit _ => 1
  | .nil => 1
  | .ptr d => uptoBulk d + 1
  | .slice elems spare => uptoBulkAll elems + uptoBulkAll spare + 1
  | .agg parts => uptoBulkAll parts + 1
  | .iface _ d => uptoBulk d + 1
  | .map entries => uptoBulkEntries entries + 1
  | .held _ => 1
def uptoBulkAll {H : Type} : List (DataW H) → Nat
  | [] => 0
  | d :: r => uptoBulk d + uptoBulkAll r
def uptoBulkEntries {H : Type} : List (Lit × DataW H) → Nat
  | [] => 0
  | x :: r => uptoBulkEntry x + uptoBulkEntries r
def uptoBulkEntry {H : Type} : Lit × DataW H → Nat
  | (.string bytes, d) => bytes.length + uptoBulk d + 1
  | (_, d) => uptoBulk d + 1
 end
def uptoSmall : (H : Type) → List (DataW H) → Bool := fun _ ds => decide (uptoBulkAll ds ≤ 1048576)
def OpenSpec.upto (s : _root_.Go.ChangeSpec) : _root_.Go.OpenSpec := { _root_.Go.OpenSpec.ofChange s with cond := some uptoSmall }

/-- 'consolslaw2.SideTells', WHERE WHAT IT READS IS OF BULK AT MOST 1048576: true; the input reads as it did. -/
def sideTellsUptoRow : OpenClaim := { program := "ythmmlamenpbgmaa", sum := "e23703152d9f6abdfe29f3427310def7bc1b861800cefe88dd1140344f955e97", func := "consols/consolslaw2.SideTells", spec := "sideTells", apart := false, narrowed := true }
def SideTellsUptoSaid : Prop := sideTellsUptoRow.holds Try.pinned (OpenSpec.upto sideTellsSpec)

/-- 'consolslaw2.SideTurns', WHERE WHAT IT READS IS OF BULK AT MOST 1048576: true; the input reads as it did. -/
def sideTurnsUptoRow : OpenClaim := { program := "ythmmlamenpbgmaa", sum := "e23703152d9f6abdfe29f3427310def7bc1b861800cefe88dd1140344f955e97", func := "consols/consolslaw2.SideTurns", spec := "sideTurns", apart := false, narrowed := true }
def SideTurnsUptoSaid : Prop := sideTurnsUptoRow.holds Try.pinned (OpenSpec.upto sideTurnsSpec)

/-- 'consolslaw2.SideChain', WHERE WHAT IT READS IS OF BULK AT MOST 1048576: true; the input reads as it did. -/
def sideChainUptoRow : OpenClaim := { program := "ythmmlamenpbgmaa", sum := "e23703152d9f6abdfe29f3427310def7bc1b861800cefe88dd1140344f955e97", func := "consols/consolslaw2.SideChain", spec := "sideChain", apart := false, narrowed := true }
def SideChainUptoSaid : Prop := sideChainUptoRow.holds Try.pinned (OpenSpec.upto sideChainSpec)

/-- 'consolslaw2.SideBest', WHERE WHAT IT READS IS OF BULK AT MOST 1048576: true; the input reads as it did. -/
def sideBestUptoRow : OpenClaim := { program := "ythmmlamenpbgmaa", sum := "e23703152d9f6abdfe29f3427310def7bc1b861800cefe88dd1140344f955e97", func := "consols/consolslaw2.SideBest", spec := "sideBest", apart := false, narrowed := true }
def SideBestUptoSaid : Prop := sideBestUptoRow.holds Try.pinned (OpenSpec.upto sideBestSpec)

end Rows
end Go.Proofs.Ythmmlamenpbgmaa
