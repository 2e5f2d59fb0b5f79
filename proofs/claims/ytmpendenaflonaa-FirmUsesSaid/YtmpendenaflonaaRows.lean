/-
  No cell of these rows narrows 'for every input' (looked for: loops, veiled, ifaces, maps, wideKeys, modest, calm, conditions, laid).
  DERIVED. THE GIVEN ROWS OF THIS SEAT. 5 by the template 'for every input the law returns true; each argument reads behind the call as it read before'; 0 by the template 'total and deterministic' (their statements: YtmpendenaflonaaTotals.lean).
  GIVEN WITH THE SEED: the statements are not yours to turn. If you find one false, say at which input.
  Laid BY PROGRAM, IN A SANDBOX (cutbox-rows.mjs): the forced cells as the released guide's own fill.sh prints them over the translation 392f8ecf9cc1dd59… (all of the seat's roots in one cut). By AI agents, Wed Nov 11 2026. No macro, syntax, notation, axiom, sorry.
-/
import Derived.Test.YtmpendenaflonaaChecked
import GoSem.Claim
import GoSem.ClaimJoined
import GoSem.ClaimMapViews
import Derived.JoinedTies
import Derived.KernelRfl
namespace Go.Proofs.Ytmpendenaflonaa
/- THE CELL 'sum', in the pinned program and in every row, IS THE sha256 OF THE DUMP (.gsa) THAT YtmpendenaflonaaProg.lean LOADS. Nothing in Lean hashes anything: it is a label: what it is worth is what the hold of that sum in a sandbox is worth. -/
noncomputable def Try.pinned : Pinned := { name := "ytmpendenaflonaa", sum := "392f8ecf9cc1dd59e12b593ee280ba83eb83fb0cd3de764bf3b7934ac0737b57", checked := Try.checked }
namespace Rows
def none {H : Type} : Left H := { results := [], args := [] }

/-- 'consolslaw13.FirmIs': WHATEVER THE INPUT: true; the input reads as it did. -/
def firmIsSpec : ChangeSpec := { name := "firmIs", fn := fun _ => fun
  | [d] => { results := [.lit (.bool true)], args := [d] }
  | _ => none }
def firmIsRow : OpenClaim := { program := "ytmpendenaflonaa", sum := "392f8ecf9cc1dd59e12b593ee280ba83eb83fb0cd3de764bf3b7934ac0737b57", func := "consols/consolslaw13.FirmIs", spec := "firmIs", unfollowed := true, recurses := true, apart := false }
def FirmIsSaid : Prop := firmIsRow.holds Try.pinned (OpenSpec.ofChange firmIsSpec)

/-- ITS FALSE NEIGHBOUR: 'it returns false'. Refute it at one input. -/
def firmIsWrong : ChangeSpec := { name := "firmIs", fn := fun _ => fun
  | [d] => { results := [.lit (.bool false)], args := [d] }
  | _ => none }
def FirmIsWrongFalsely : Prop := firmIsRow.holds Try.pinned (OpenSpec.ofChange firmIsWrong)

/-- 'consolslaw13.FirmRoles': WHATEVER THE INPUT: true; the input reads as it did. -/
def firmRolesSpec : ChangeSpec := { name := "firmRoles", fn := fun _ => fun
  | [d] => { results := [.lit (.bool true)], args := [d] }
  | _ => none }
def firmRolesRow : OpenClaim := { program := "ytmpendenaflonaa", sum := "392f8ecf9cc1dd59e12b593ee280ba83eb83fb0cd3de764bf3b7934ac0737b57", func := "consols/consolslaw13.FirmRoles", spec := "firmRoles", unfollowed := true, recurses := true, apart := false }
def FirmRolesSaid : Prop := firmRolesRow.holds Try.pinned (OpenSpec.ofChange firmRolesSpec)

/-- ITS FALSE NEIGHBOUR: 'it returns false'. Refute it at one input. -/
def firmRolesWrong : ChangeSpec := { name := "firmRoles", fn := fun _ => fun
  | [d] => { results := [.lit (.bool false)], args := [d] }
  | _ => none }
def FirmRolesWrongFalsely : Prop := firmRolesRow.holds Try.pinned (OpenSpec.ofChange firmRolesWrong)

/-- 'consolslaw13.FirmCaps': WHATEVER THE INPUT: true; the input reads as it did. -/
def firmCapsSpec : ChangeSpec := { name := "firmCaps", fn := fun _ => fun
  | [d1, d2] => { results := [.lit (.bool true)], args := [d1, d2] }
  | _ => none }
def firmCapsRow : OpenClaim := { program := "ytmpendenaflonaa", sum := "392f8ecf9cc1dd59e12b593ee280ba83eb83fb0cd3de764bf3b7934ac0737b57", func := "consols/consolslaw13.FirmCaps", spec := "firmCaps", unfollowed := true, recurses := true, apart := false }
def FirmCapsSaid : Prop := firmCapsRow.holds Try.pinned (OpenSpec.ofChange firmCapsSpec)

/-- ITS FALSE NEIGHBOUR: 'it returns false'. Refute it at one input. -/
def firmCapsWrong : ChangeSpec := { name := "firmCaps", fn := fun _ => fun
  | [d1, d2] => { results := [.lit (.bool false)], args := [d1, d2] }
  | _ => none }
def FirmCapsWrongFalsely : Prop := firmCapsRow.holds Try.pinned (OpenSpec.ofChange firmCapsWrong)

/-- 'consolslaw13.FirmTells': WHATEVER THE INPUT: true; the input reads as it did. -/
def firmTellsSpec : ChangeSpec := { name := "firmTells", fn := fun _ => fun
  | [d1, d2, d3, d4] => { results := [.lit (.bool true)], args := [d1, d2, d3, d4] }
  | _ => none }
def firmTellsRow : OpenClaim := { program := "ytmpendenaflonaa", sum := "392f8ecf9cc1dd59e12b593ee280ba83eb83fb0cd3de764bf3b7934ac0737b57", func := "consols/consolslaw13.FirmTells", spec := "firmTells", unfollowed := true, recurses := true, apart := false }
def FirmTellsSaid : Prop := firmTellsRow.holds Try.pinned (OpenSpec.ofChange firmTellsSpec)

/-- ITS FALSE NEIGHBOUR: 'it returns false'. Refute it at one input. -/
def firmTellsWrong : ChangeSpec := { name := "firmTells", fn := fun _ => fun
  | [d1, d2, d3, d4] => { results := [.lit (.bool false)], args := [d1, d2, d3, d4] }
  | _ => none }
def FirmTellsWrongFalsely : Prop := firmTellsRow.holds Try.pinned (OpenSpec.ofChange firmTellsWrong)

/-- 'consolslaw13.FirmUses': WHATEVER THE INPUT: true; the input reads as it did. -/
def firmUsesSpec : ChangeSpec := { name := "firmUses", fn := fun _ => fun
  | [d1, d2] => { results := [.lit (.bool true)], args := [d1, d2] }
  | _ => none }
def firmUsesRow : OpenClaim := { program := "ytmpendenaflonaa", sum := "392f8ecf9cc1dd59e12b593ee280ba83eb83fb0cd3de764bf3b7934ac0737b57", func := "consols/consolslaw13.FirmUses", spec := "firmUses", unfollowed := true, recurses := true, apart := false }
def FirmUsesSaid : Prop := firmUsesRow.holds Try.pinned (OpenSpec.ofChange firmUsesSpec)

/-- ITS FALSE NEIGHBOUR: 'it returns false'. Refute it at one input. -/
def firmUsesWrong : ChangeSpec := { name := "firmUses", fn := fun _ => fun
  | [d1, d2] => { results := [.lit (.bool false)], args := [d1, d2] }
  | _ => none }
def FirmUsesWrongFalsely : Prop := firmUsesRow.holds Try.pinned (OpenSpec.ofChange firmUsesWrong)

/- THE SECOND FORM. 'bulk': how many values and letters a reading holds, each counted each time it is reached (what is shared counts as often as it is met; a slice's spare places count too). A statement '..UptoSaid' is the law's where the arguments, and the package variables that the reading takes, are together of bulk at most 1048576: NARROWER than '..Said'. Prove '..Said' where nothing that the law and all that it calls make is longer than what came in: it says more and counts as full. Else prove '..UptoSaid'. A law counts once. -/
mutual
def uptoBulk {H : Type} : DataW H → Nat
  | .lit (.string bytes) => bytes.length + 1
  | .lit _ => 1
  | .nil => 1
  | .ptr d => uptoBulk d + 1
  | .slice elems spare => uptoBulkAll elems + uptoBulkAll spare + 1
  | .agg parts => uptoBulkAll parts + 1
  | .iface _ d => uptoBulk d + 1
  | .map entries => uptoBulkEntries entries + 1
  | .held _ => 1
def uptoBulkAll {H : Type} : List (DataW H) → Nat
  | [] => 0
  | d :: r => uptoBulk d + uptoBulkAll r
def uptoBulkEntries {H : Type} : List (Lit × DataW H) → Nat
  | [] => 0
  | x :: r => uptoBulkEntry x + uptoBulkEntries r
def uptoBulkEntry {H : Type} : Lit × DataW H → Nat
  | (.string bytes, d) => bytes.length + uptoBulk d + 1
  | (_, d) => uptoBulk d + 1
 end
def uptoSmall : (H : Type) → List (DataW H) → Bool := fun _ ds => decide (uptoBulkAll ds ≤ 1048576)
def OpenSpec.upto (s : _root_.Go.ChangeSpec) : _root_.Go.OpenSpec := { _root_.Go.OpenSpec.ofChange s with cond := some uptoSmall }

/-- 'consolslaw13.FirmIs', WHERE WHAT IT READS IS OF BULK AT MOST 1048576: true; the input reads as it did. -/
def firmIsUptoRow : OpenClaim := { program := "ytmpendenaflonaa", sum := "392f8ecf9cc1dd59e12b593ee280ba83eb83fb0cd3de764bf3b7934ac0737b57", func := "consols/consolslaw13.FirmIs", spec := "firmIs", unfollowed := true, recurses := true, apart := false, narrowed := true }
def FirmIsUptoSaid : Prop := firmIsUptoRow.holds Try.pinned (OpenSpec.upto firmIsSpec)

/-- 'consolslaw13.FirmRoles', WHERE WHAT IT READS IS OF BULK AT MOST 1048576: true; the input reads as it did. -/
def firmRolesUptoRow : OpenClaim := { program := "ytmpendenaflonaa", sum := "392f8ecf9cc1dd59e12b593ee280ba83eb83fb0cd3de764bf3b7934ac0737b57", func := "consols/consolslaw13.FirmRoles", spec := "firmRoles", unfollowed := true, recurses := true, apart := false, narrowed := true }
def FirmRolesUptoSaid : Prop := firmRolesUptoRow.holds Try.pinned (OpenSpec.upto firmRolesSpec)

/-- 'consolslaw13.FirmCaps', WHERE WHAT IT READS IS OF BULK AT MOST 1048576: true; the input reads as it did. -/
def firmCapsUptoRow : OpenClaim := { program := "ytmpendenaflonaa", sum := "392f8ecf9cc1dd59e12b593ee280ba83eb83fb0cd3de764bf3b7934ac0737b57", func := "consols/consolslaw13.FirmCaps", spec := "firmCaps", unfollowed := true, recurses := true, apart := false, narrowed := true }
def FirmCapsUptoSaid : Prop := firmCapsUptoRow.holds Try.pinned (OpenSpec.upto firmCapsSpec)

/-- 'consolslaw13.FirmTells', WHERE WHAT IT READS IS OF BULK AT MOST 1048576: true; the input reads as it did. -/
def firmTellsUptoRow : OpenClaim := { program := "ytmpendenaflonaa", sum := "392f8ecf9cc1dd59e12b593ee280ba83eb83fb0cd3de764bf3b7934ac0737b57", func := "consols/consolslaw13.FirmTells", spec := "firmTells", unfollowed := true, recurses := true, apart := false, narrowed := true }
def FirmTellsUptoSaid : Prop := firmTellsUptoRow.holds Try.pinned (OpenSpec.upto firmTellsSpec)

/-- 'consolslaw13.FirmUses', WHERE WHAT IT READS IS OF BULK AT MOST 1048576: true; the input reads as it did. -/
def firmUsesUptoRow : OpenClaim := { program := "ytmpendenaflonaa", sum := "392f8ecf9cc1dd59e12b593ee280ba83eb83fb0cd3de764bf3b7934ac0737b57", func := "consols/consolslaw13.FirmUses", spec := "firmUses", unfollowed := true, recurses := true, apart := false, narrowed := true }
def FirmUsesUptoSaid : Prop := firmUsesUptoRow.holds Try.pinned (OpenSpec.upto firmUsesSpec)

end Rows
end Go.Proofs.Ytmpendenaflonaa
