/-
  No cell of these rows narrows 'for every input' (looked for: loops, veiled, ifaces, maps, wideKeys, modest, calm, conditions, laid).
  DERIVED. THE GIVEN ROWS OF THIS SEAT. 3 by the template 'for every input the law returns true; each argument reads behind the call as it read before'; 0 by the template 'total and deterministic' (their statements: YtgheiadnjnnjfaaTotals.lean).
  GIVEN WITH THE SEED: the statements are not yours to turn. If you find one false, say at which input.
  Laid BY PROGRAM, IN A SANDBOX (cutbox-rows.mjs): the forced cells as the released guide's own fill.sh prints them over the translation 1ffadc4066041f15… (all of the seat's roots in one cut). By AI agents, Wed Nov 11 2026. No macro, syntax, notation, axiom, sorry.
-/
import Derived.Test.YtgheiadnjnnjfaaChecked
import GoSem.Claim
import GoSem.ClaimJoined
import GoSem.ClaimMapViews
import Derived.JoinedTies
import Derived.KernelRfl
namespace Go.Proofs.Ytgheiadnjnnjfaa
/- THE CELL 'sum', in the pinned program and in every row, IS THE sha256 OF THE DUMP (.gsa) THAT YtgheiadnjnnjfaaProg.lean LOADS. Nothing in Lean hashes anything: it is a label: what it is worth is what the hold of that sum in a sandbox is worth. -/
noncomputable def Try.pinned : Pinned := { name := "ytgheiadnjnnjfaa", sum := "1ffadc4066041f15616b07d8099e24c03315617cdb2a6029d6b68f3ea33e04e7", checked := Try.checked }
namespace Rows
def none {H : Type} : Left H := { results := [], args := [] }

/-- 'clewlaw38.CmdSplits': WHATEVER THE INPUT: true; the input reads as it did. -/
def cmdSplitsSpec : ChangeSpec := { name := "cmdSplits", fn := fun _ => fun
  | [d] => { results := [.lit (.bool true)], args := [d] }
  | _ => none }
def cmdSplitsRow : OpenClaim := { program := "ytgheiadnjnnjfaa", sum := "1ffadc4066041f15616b07d8099e24c03315617cdb2a6029d6b68f3ea33e04e7", func := "clew/clewlaw38.CmdSplits", spec := "cmdSplits", unfollowed := true, recurses := true, apart := false }
def CmdSplitsSaid : Prop := cmdSplitsRow.holds Try.pinned (OpenSpec.ofChange cmdSplitsSpec)

/-- ITS FALSE NEIGHBOUR: 'it returns false'. Refute it at one input. -/
def cmdSplitsWrong : ChangeSpec := { name := "cmdSplits", fn := fun _ => fun
  | [d] => { results := [.lit (.bool false)], args := [d] }
  | _ => none }
def CmdSplitsWrongFalsely : Prop := cmdSplitsRow.holds Try.pinned (OpenSpec.ofChange cmdSplitsWrong)

/-- 'clewlaw38.CmdMessages': WHATEVER THE INPUT: true; the input reads as it did. -/
def cmdMessagesSpec : ChangeSpec := { name := "cmdMessages", fn := fun _ => fun
  | [d1, d2] => { results := [.lit (.bool true)], args := [d1, d2] }
  | _ => none }
def cmdMessagesRow : OpenClaim := { program := "ytgheiadnjnnjfaa", sum := "1ffadc4066041f15616b07d8099e24c03315617cdb2a6029d6b68f3ea33e04e7", func := "clew/clewlaw38.CmdMessages", spec := "cmdMessages", unfollowed := true, recurses := true, apart := false }
def CmdMessagesSaid : Prop := cmdMessagesRow.holds Try.pinned (OpenSpec.ofChange cmdMessagesSpec)

/-- ITS FALSE NEIGHBOUR: 'it returns false'. Refute it at one input. -/
def cmdMessagesWrong : ChangeSpec := { name := "cmdMessages", fn := fun _ => fun
  | [d1, d2] => { results := [.lit (.bool false)], args := [d1, d2] }
  | _ => none }
def CmdMessagesWrongFalsely : Prop := cmdMessagesRow.holds Try.pinned (OpenSpec.ofChange cmdMessagesWrong)

/-- 'clewlaw38.CmdJoins': WHATEVER THE INPUT: true; the input reads as it did. -/
def cmdJoinsSpec : ChangeSpec := { name := "cmdJoins", fn := fun _ => fun
  | [d1, d2] => { results := [.lit (.bool true)], args := [d1, d2] }
  | _ => none }
def cmdJoinsRow : OpenClaim := { program := "ytgheiadnjnnjfaa", sum := "1ffadc4066041f15616b07d8099e24c03315617cdb2a6029d6b68f3ea33e04e7", func := "clew/clewlaw38.CmdJoins", spec := "cmdJoins", unfollowed := true, recurses := true, apart := false }
def CmdJoinsSaid : Prop := cmdJoinsRow.holds Try.pinned (OpenSpec.ofChange cmdJoinsSpec)

/-- ITS FALSE NEIGHBOUR: 'it returns false'. Refute it at one input. -/
def cmdJoinsWrong : ChangeSpec := { name := "cmdJoins", fn := fun _ => fun
  | [d1, d2] => { results := [.lit (.bool false)], args := [d1, d2] }
  | _ => none }
def CmdJoinsWrongFalsely : Prop := cmdJoinsRow.holds Try.pinned (OpenSpec.ofChange cmdJoinsWrong)

/- THE SECOND FORM. 'bulk': how many values and letters a reading holds, each counted each time it is reached (what is shared counts as often as it is met; a slice's spare places count too). A statement '..UptoSaid' is the law's where the arguments, and the package variables that the reading takes, are together of bulk at most 1048576: NARROWER than '..Said'. Prove '..Said' where nothing that the law and all that it calls make is longer than what came in: it says more and counts as full. Else prove '..UptoSaid'. A law counts once. -/
mutual
def uptoBulk {H : Type} : DataW H → Nat
  | .lit (.string bytes) => bytes.length + 1
  | .lit _ => 1
  | .nil => 1
  | .ptr d => uptoBulk d + 1
  | .slice elems spare => uptoBulkAll elems + uptoBulkAll spare + 1
  | .agg parts => uptoBulkAll parts + 1
  | .iface _ d => uptoBulk d + 1
  | .map entries => uptoBulkEntries entries + 1
  | .held _ => 1
def uptoBulkAll {H : Type} : List (DataW H) → Nat
  | [] => 0
  | d :: r => uptoBulk d + uptoBulkAll r
def uptoBulkEntries {H : Type} : List (Lit × DataW H) → Nat
  | [] => 0
  | x :: r => uptoBulkEntry x + uptoBulkEntries r
def uptoBulkEntry {H : Type} : Lit × DataW H → Nat
  | (.string bytes, d) => bytes.length + uptoBulk d + 1
  | (_, d) => uptoBulk d + 1
 end
def uptoSmall : (H : Type) → List (DataW H) → Bool := fun _ ds => decide (uptoBulkAll ds ≤ 1048576)
def OpenSpec.upto (s : _root_.Go.ChangeSpec) : _root_.Go.OpenSpec := { _root_.Go.OpenSpec.ofChange s with cond := some uptoSmall }

/-- 'clewlaw38.CmdSplits', WHERE WHAT IT READS IS OF BULK AT MOST 1048576: true; the input reads as it did. -/
def cmdSplitsUptoRow : OpenClaim := { program := "ytgheiadnjnnjfaa", sum := "1ffadc4066041f15616b07d8099e24c03315617cdb2a6029d6b68f3ea33e04e7", func := "clew/clewlaw38.CmdSplits", spec := "cmdSplits", unfollowed := true, recurses := true, apart := false, narrowed := true }
def CmdSplitsUptoSaid : Prop := cmdSplitsUptoRow.holds Try.pinned (OpenSpec.upto cmdSplitsSpec)

/-- 'clewlaw38.CmdMessages', WHERE WHAT IT READS IS OF BULK AT MOST 1048576: true; the input reads as it did. -/
def cmdMessagesUptoRow : OpenClaim := { program := "ytgheiadnjnnjfaa", sum := "1ffadc4066041f15616b07d8099e24c03315617cdb2a6029d6b68f3ea33e04e7", func := "clew/clewlaw38.CmdMessages", spec := "cmdMessages", unfollowed := true, recurses := true, apart := false, narrowed := true }
def CmdMessagesUptoSaid : Prop := cmdMessagesUptoRow.holds Try.pinned (OpenSpec.upto cmdMessagesSpec)

/-- 'clewlaw38.CmdJoins', WHERE WHAT IT READS IS OF BULK AT MOST 1048576: true; the input reads as it did. -/
def cmdJoinsUptoRow : OpenClaim := { program := "ytgheiadnjnnjfaa", sum := "1ffadc4066041f15616b07d8099e24c03315617cdb2a6029d6b68f3ea33e04e7", func := "clew/clewlaw38.CmdJoins", spec := "cmdJoins", unfollowed := true, recurses := true, apart := false, narrowed := true }
def CmdJoinsUptoSaid : Prop := cmdJoinsUptoRow.holds Try.pinned (OpenSpec.upto cmdJoinsSpec)

end Rows
end Go.Proofs.Ytgheiadnjnnjfaa
