/-
  No cell of these rows narrows 'for every input' (looked for: loops, veiled, ifaces, maps, wideKeys, modest, calm, conditions, laid).
  DERIVED. THE GIVEN ROWS OF THIS SEAT. 4 by the template 'for every input the law returns true; each argument reads behind the call as it read before'; 0 by the template 'total and deterministic' (their statements: YtpaaglcchlnnoaaTotals.lean).
  GIVEN WITH THE SEED: the statements are not yours to turn. If you find one false, say at which input.
  Laid BY PROGRAM, IN A SANDBOX (cutbox-rows.mjs): the forced cells as the released guide's own fill.sh prints them over the translation 98b5d1be73a94a09… (all of the seat's roots in one cut). By AI agents, Wed Nov 11 2026. No macro, syntax, notation, axiom, sorry.
-/
import Derived.Test.YtpaaglcchlnnoaaChecked
import GoSem.Claim
import GoSem.ClaimJoined
import GoSem.ClaimMapViews
import Derived.JoinedTies
import Derived.KernelRfl
namespace Go.Proofs.Ytpaaglcchlnnoaa
/- THE CELL 'sum', in the pinned program and in every row, IS THE sha256 OF THE DUMP (.gsa) THAT YtpaaglcchlnnoaaProg.lean LOADS. Nothing in Lean hashes anything: it is a label: what it is worth is what the hold of that sum in a sandbox is worth. -/
noncomputable def Try.pinned : Pinned := { name := "ytpaaglcchlnnoaa", sum := "98b5d1be73a94a09a2a575216768817b92a6a85642368508f33788debcf80478", checked := Try.checked }
namespace Rows
def none {H : Type} : Left H := { results := [], args := [] }

/-- 'consolslaw20.PosPlays': WHATEVER THE INPUT: true; the input reads as it did. -/
def posPlaysSpec : ChangeSpec := { name := "posPlays", fn := fun _ => fun
  | [d1, d2, d3, d4, d5] => { results := [.lit (.bool true)], args := [d1, d2, d3, d4, d5] }
  | _ => none }
def posPlaysRow : OpenClaim := { program := "ytpaaglcchlnnoaa", sum := "98b5d1be73a94a09a2a575216768817b92a6a85642368508f33788debcf80478", func := "consols/consolslaw20.PosPlays", spec := "posPlays", apart := false }
def PosPlaysSaid : Prop := posPlaysRow.holds Try.pinned (OpenSpec.ofChange posPlaysSpec)

/-- ITS FALSE NEIGHBOUR: 'it returns false'. Refute it at one input. -/
def posPlaysWrong : ChangeSpec := { name := "posPlays", fn := fun _ => fun
  | [d1, d2, d3, d4, d5] => { results := [.lit (.bool false)], args := [d1, d2, d3, d4, d5] }
  | _ => none }
def PosPlaysWrongFalsely : Prop := posPlaysRow.holds Try.pinned (OpenSpec.ofChange posPlaysWrong)

/-- 'consolslaw20.PosZero': WHATEVER THE INPUT: true; the input reads as it did. -/
def posZeroSpec : ChangeSpec := { name := "posZero", fn := fun _ => fun
  | [d] => { results := [.lit (.bool true)], args := [d] }
  | _ => none }
def posZeroRow : OpenClaim := { program := "ytpaaglcchlnnoaa", sum := "98b5d1be73a94a09a2a575216768817b92a6a85642368508f33788debcf80478", func := "consols/consolslaw20.PosZero", spec := "posZero", apart := false }
def PosZeroSaid : Prop := posZeroRow.holds Try.pinned (OpenSpec.ofChange posZeroSpec)

/-- ITS FALSE NEIGHBOUR: 'it returns false'. Refute it at one input. -/
def posZeroWrong : ChangeSpec := { name := "posZero", fn := fun _ => fun
  | [d] => { results := [.lit (.bool false)], args := [d] }
  | _ => none }
def PosZeroWrongFalsely : Prop := posZeroRow.holds Try.pinned (OpenSpec.ofChange posZeroWrong)

/-- 'consolslaw20.PosOver': WHATEVER THE INPUT: true; the input reads as it did. -/
def posOverSpec : ChangeSpec := { name := "posOver", fn := fun _ => fun
  | [d1, d2] => { results := [.lit (.bool true)], args := [d1, d2] }
  | _ => none }
def posOverRow : OpenClaim := { program := "ytpaaglcchlnnoaa", sum := "98b5d1be73a94a09a2a575216768817b92a6a85642368508f33788debcf80478", func := "consols/consolslaw20.PosOver", spec := "posOver", apart := false }
def PosOverSaid : Prop := posOverRow.holds Try.pinned (OpenSpec.ofChange posOverSpec)

/-- ITS FALSE NEIGHBOUR: 'it returns false'. Refute it at one input. -/
def posOverWrong : ChangeSpec := { name := "posOver", fn := fun _ => fun
  | [d1, d2] => { results := [.lit (.bool false)], args := [d1, d2] }
  | _ => none }
def PosOverWrongFalsely : Prop := posOverRow.holds Try.pinned (OpenSpec.ofChange posOverWrong)

/-- 'consolslaw20.PosBack': WHATEVER THE INPUT: true; the input reads as it did. -/
def posBackSpec : ChangeSpec := { name := "posBack", fn := fun _ => fun
  | [d] => { results := [.lit (.bool true)], args := [d] }
  | _ => none }
def posBackRow : OpenClaim := { program := "ytpaaglcchlnnoaa", sum := "98b5d1be73a94a09a2a575216768817b92a6a85642368508f33788debcf80478", func := "consols/consolslaw20.PosBack", spec := "posBack", apart := false }
def PosBackSaid : Prop := posBackRow.holds Try.pinned (OpenSpec.ofChange posBackSpec)

/-- ITS FALSE NEIGHBOUR: 'it returns false'. Refute it at one input. -/
def posBackWrong : ChangeSpec := { name := "posBack", fn := fun _ => fun
  | [d] => { results := [.lit (.bool false)], args := [d] }
  | _ => none }
def PosBackWrongFalsely : Prop := posBackRow.holds Try.pinned (OpenSpec.ofChange posBackWrong)

/- THE SECOND FORM. 'bulk': how many values and letters a reading holds, each counted each time it is reached (what is shared counts as often as it is met; a slice's spare places count too). A statement '..UptoSaid' is the law's where the arguments, and the package variables that the reading takes, are together of bulk at most 1048576: NARROWER than '..Said'. Prove '..Said' where nothing that the law and all that it calls make is longer than what came in: it says more and counts as full. Else prove '..UptoSaid'. A law counts once. -/
mutual
def uptoBulk {H : Type} : DataW H → Nat
  | .lit (.string bytes) => bytes.length + 1
  | .lit _ => 1
  | .nil => 1
  | .ptr d => uptoBulk d + 1
  | .slice elems spare => uptoBulkAll elems + uptoBulkAll spare + 1
  | .agg parts => uptoBulkAll parts + 1
  | .iface _ d => uptoBulk d + 1
  | .map entries => uptoBulkEntries entries + 1
  | .held _ => 1
def uptoBulkAll {H : Type} : List (DataW H) → Nat
  | [] => 0
  | d :: r => uptoBulk d + uptoBulkAll r
def uptoBulkEntries {H : Type} : List (Lit × DataW H) → Nat
  | [] => 0
  | x :: r => uptoBulkEntry x + uptoBulkEntries r
def uptoBulkEntry {H : Type} : Lit × DataW H → Nat
  | (.string bytes, d) => bytes.length + uptoBulk d + 1
  | (_, d) => uptoBulk d + 1
 end
def uptoSmall : (H : Type) → List (DataW H) → Bool := fun _ ds => decide (uptoBulkAll ds ≤ 1048576)
def OpenSpec.upto (s : _root_.Go.ChangeSpec) : _root_.Go.OpenSpec := { _root_.Go.OpenSpec.ofChange s with cond := some uptoSmall }

/-- 'consolslaw20.PosPlays', WHERE WHAT IT READS IS OF BULK AT MOST 1048576: true; the input reads as it did. -/
def posPlaysUptoRow : OpenClaim := { program := "ytpaaglcchlnnoaa", sum := "98b5d1be73a94a09a2a575216768817b92a6a85642368508f33788debcf80478", func := "consols/consolslaw20.PosPlays", spec := "posPlays", apart := false, narrowed := true }
def PosPlaysUptoSaid : Prop := posPlaysUptoRow.holds Try.pinned (OpenSpec.upto posPlaysSpec)

/-- 'consolslaw20.PosZero', WHERE WHAT IT READS IS OF BULK AT MOST 1048576: true; the input reads as it did. -/
def posZeroUptoRow : OpenClaim := { program := "ytpaaglcchlnnoaa", sum := "98b5d1be73a94a09a2a575216768817b92a6a85642368508f33788debcf80478", func := "consols/consolslaw20.PosZero", spec := "posZero", apart := false, narrowed := true }
def PosZeroUptoSaid : Prop := posZeroUptoRow.holds Try.pinned (OpenSpec.upto posZeroSpec)

/-- 'consolslaw20.PosOver', WHERE WHAT IT READS IS OF BULK AT MOST 1048576: true; the input reads as it did. -/
def posOverUptoRow : OpenClaim := { program := "ytpaaglcchlnnoaa", sum := "98b5d1be73a94a09a2a575216768817b92a6a85642368508f33788debcf80478", func := "consols/consolslaw20.PosOver", spec := "posOver", apart := false, narrowed := true }
def PosOverUptoSaid : Prop := posOverUptoRow.holds Try.pinned (OpenSpec.upto posOverSpec)

/-- 'consolslaw20.PosBack', WHERE WHAT IT READS IS OF BULK AT MOST 1048576: true; the input reads as it did. -/
def posBackUptoRow : OpenClaim := { program := "ytpaaglcchlnnoaa", sum := "98b5d1be73a94a09a2a575216768817b92a6a85642368508f33788debcf80478", func := "consols/consolslaw20.PosBack", spec := "posBack", apart := false, narrowed := true }
def PosBackUptoSaid : Prop := posBackUptoRow.holds Try.pinned (OpenSpec.upto posBackSpec)

end Rows
end Go.Proofs.Ytpaaglcchlnnoaa
