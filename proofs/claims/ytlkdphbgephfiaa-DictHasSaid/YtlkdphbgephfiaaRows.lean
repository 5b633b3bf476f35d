/-
  No cell of these rows narrows 'for every input' (looked for: loops, veiled, ifaces, maps, wideKeys, modest, calm, conditions, laid).
  DERIVED. THE GIVEN ROWS OF THIS SEAT. 4 by the template 'for every input the law returns true; each argument reads behind the call as it read before'; 0 by the template 'total and deterministic' (their statements: YtlkdphbgephfiaaTotals.lean).
  GIVEN WITH THE SEED: the statements are not yours to turn. If you find one false, say at which input.
  Laid BY PROGRAM, IN A SANDBOX (cutbox-rows.mjs): the forced cells as the released guide's own fill.sh prints them over the translation 7d78e3374b12f070… (all of the seat's roots in one cut). By AI agents, Wed Nov 11 2026. No macro, syntax, notation, axiom, sorry.
-/
import Derived.Test.YtlkdphbgephfiaaChecked
import GoSem.Claim
import GoSem.ClaimJoined
import GoSem.ClaimMapViews
import Derived.JoinedTies
import Derived.KernelRfl
namespace Go.Proofs.Ytlkdphbgephfiaa
/- THE CELL 'sum', in the pinned program and in every row, IS THE sha256 OF THE DUMP (.gsa) THAT YtlkdphbgephfiaaProg.lean LOADS. Nothing in Lean hashes anything: it is a label: what it is worth is what the hold of that sum in a sandbox is worth. -/
noncomputable def Try.pinned : Pinned := { name := "ytlkdphbgephfiaa", sum := "7d78e3374b12f0706c32a1b6d83d9b161d6f5e4fe22cefbb6870fc885d74ce85", checked := Try.checked }
namespace Rows
def none {H : Type} : Left H := { results := [], args := [] }

/-- 'clewlaw35.DictMakes': WHATEVER THE INPUT: true; the input reads as it did. -/
def dictMakesSpec : ChangeSpec := { name := "dictMakes", fn := fun _ => fun
  | [d] => { results := [.lit (.bool true)], args := [d] }
  | _ => none }
def dictMakesRow : OpenClaim := { program := "ytlkdphbgephfiaa", sum := "7d78e3374b12f0706c32a1b6d83d9b161d6f5e4fe22cefbb6870fc885d74ce85", func := "clew/clewlaw35.DictMakes", spec := "dictMakes", inPlace := ["internal/bytealg.abigen_runtime_cmpstring"], unfollowed := true, recurses := true, apart := false }
def DictMakesSaid : Prop := dictMakesRow.holds Try.pinned (OpenSpec.ofChange dictMakesSpec)

/-- ITS FALSE NEIGHBOUR: 'it returns false'. Refute it at one input. -/
def dictMakesWrong : ChangeSpec := { name := "dictMakes", fn := fun _ => fun
  | [d] => { results := [.lit (.bool false)], args := [d] }
  | _ => none }
def DictMakesWrongFalsely : Prop := dictMakesRow.holds Try.pinned (OpenSpec.ofChange dictMakesWrong)

/-- 'clewlaw35.DictFinds': WHATEVER THE INPUT: true; the input reads as it did. -/
def dictFindsSpec : ChangeSpec := { name := "dictFinds", fn := fun _ => fun
  | [d1, d2] => { results := [.lit (.bool true)], args := [d1, d2] }
  | _ => none }
def dictFindsRow : OpenClaim := { program := "ytlkdphbgephfiaa", sum := "7d78e3374b12f0706c32a1b6d83d9b161d6f5e4fe22cefbb6870fc885d74ce85", func := "clew/clewlaw35.DictFinds", spec := "dictFinds", inPlace := ["internal/bytealg.abigen_runtime_cmpstring"], unfollowed := true, recurses := true, apart := false }
def DictFindsSaid : Prop := dictFindsRow.holds Try.pinned (OpenSpec.ofChange dictFindsSpec)

/-- ITS FALSE NEIGHBOUR: 'it returns false'. Refute it at one input. -/
def dictFindsWrong : ChangeSpec := { name := "dictFinds", fn := fun _ => fun
  | [d1, d2] => { results := [.lit (.bool false)], args := [d1, d2] }
  | _ => none }
def DictFindsWrongFalsely : Prop := dictFindsRow.holds Try.pinned (OpenSpec.ofChange dictFindsWrong)

/-- 'clewlaw35.DictDirs': WHATEVER THE INPUT: true; the input reads as it did. -/
def dictDirsSpec : ChangeSpec := { name := "dictDirs", fn := fun _ => fun
  | [d] => { results := [.lit (.bool true)], args := [d] }
  | _ => none }
def dictDirsRow : OpenClaim := { program := "ytlkdphbgephfiaa", sum := "7d78e3374b12f0706c32a1b6d83d9b161d6f5e4fe22cefbb6870fc885d74ce85", func := "clew/clewlaw35.DictDirs", spec := "dictDirs", inPlace := ["internal/bytealg.abigen_runtime_cmpstring"], unfollowed := true, recurses := true, apart := false }
def DictDirsSaid : Prop := dictDirsRow.holds Try.pinned (OpenSpec.ofChange dictDirsSpec)

/-- ITS FALSE NEIGHBOUR: 'it returns false'. Refute it at one input. -/
def dictDirsWrong : ChangeSpec := { name := "dictDirs", fn := fun _ => fun
  | [d] => { results := [.lit (.bool false)], args := [d] }
  | _ => none }
def DictDirsWrongFalsely : Prop := dictDirsRow.holds Try.pinned (OpenSpec.ofChange dictDirsWrong)

/-- 'clewlaw35.DictHas': WHATEVER THE INPUT: true; the input reads as it did. -/
def dictHasSpec : ChangeSpec := { name := "dictHas", fn := fun _ => fun
  | [d] => { results := [.lit (.bool true)], args := [d] }
  | _ => none }
def dictHasRow : OpenClaim := { program := "ytlkdphbgephfiaa", sum := "7d78e3374b12f0706c32a1b6d83d9b161d6f5e4fe22cefbb6870fc885d74ce85", func := "clew/clewlaw35.DictHas", spec := "dictHas", inPlace := ["internal/bytealg.abigen_runtime_cmpstring"], unfollowed := true, recurses := true, apart := false }
def DictHasSaid : Prop := dictHasRow.holds Try.pinned (OpenSpec.ofChange dictHasSpec)

/-- ITS FALSE NEIGHBOUR: 'it returns false'. Refute it at one input. -/
def dictHasWrong : ChangeSpec := { name := "dictHas", fn := fun _ => fun
  | [d] => { results := [.lit (.bool false)], args := [d] }
  | _ => none }
def DictHasWrongFalsely : Prop := dictHasRow.holds Try.pinned (OpenSpec.ofChange dictHasWrong)

/- THE SECOND FORM. 'bulk': how many values and letters a reading holds, each counted each time it is reached (what is shared counts as often as it is met; a slice's spare places count too). A statement '..UptoSaid' is the law's where the arguments, and the package variables that the reading takes, are together of bulk at most 1048576: NARROWER than '..Said'. Prove '..Said' where nothing that the law and all that it calls make is longer than what came in: it says more and counts as full. Else prove '..UptoSaid'. A law counts once. -/
mutual
def uptoBulk {H : Type} : DataW H → Nat
  | .lit (.string bytes) => bytes.length + 1
  | .lit _ => 1
  | .nil => 1
  | .ptr d => uptoBulk d + 1
  | .slice elems spare => uptoBulkAll elems + uptoBulkAll spare + 1
  | .agg parts => uptoBulkAll parts + 1
  | .iface _ d => uptoBulk d + 1
  | .map entries => uptoBulkEntries entries + 1
  | .held _ => 1
def uptoBulkAll {H : Type} : List (DataW H) → Nat
  | [] => 0
  | d :: r => uptoBulk d + uptoBulkAll r
def uptoBulkEntries {H : Type} : List (Lit × DataW H) → Nat
  | [] => 0
  | x :: r => uptoBulkEntry x + uptoBulkEntries r
def uptoBulkEntry {H : Type} : Lit × DataW H → Nat
  | (.string bytes, d) => bytes.length + uptoBulk d + 1
  | (_, d) => uptoBulk d + 1
 end
def uptoSmall : (H : Type) → List (DataW H) → Bool := fun _ ds => decide (uptoBulkAll ds ≤ 1048576)
def OpenSpec.upto (s : _root_.Go.ChangeSpec) : _root_.Go.OpenSpec := { _root_.Go.OpenSpec.ofChange s with cond := some uptoSmall }

/-- 'clewlaw35.DictMakes', WHERE WHAT IT READS IS OF BULK AT MOST 1048576: true; the input reads as it did. -/
def dictMakesUptoRow : OpenClaim := { program := "ytlkdphbgephfiaa", sum := "7d78e3374b12f0706c32a1b6d83d9b161d6f5e4fe22cefbb6870fc885d74ce85", func := "clew/clewlaw35.DictMakes", spec := "dictMakes", inPlace := ["internal/bytealg.abigen_runtime_cmpstring"], unfollowed := true, recurses := true, apart := false, narrowed := true }
def DictMakesUptoSaid : Prop := dictMakesUptoRow.holds Try.pinned (OpenSpec.upto dictMakesSpec)

/-- 'clewlaw35.DictFinds', WHERE WHAT IT READS IS OF BULK AT MOST 1048576: true; the input reads as it did. -/
def dictFindsUptoRow : OpenClaim := { program := "ytlkdphbgephfiaa", sum := "7d78e3374b12f0706c32a1b6d83d9b161d6f5e4fe22cefbb6870fc885d74ce85", func := "clew/clewlaw35.DictFinds", spec := "dictFinds", inPlace := ["internal/bytealg.abigen_runtime_cmpstring"], unfollowed := true, recurses := true, apart := false, narrowed := true }
def DictFindsUptoSaid : Prop := dictFindsUptoRow.holds Try.pinned (OpenSpec.upto dictFindsSpec)

/-- 'clewlaw35.DictDirs', WHERE WHAT IT READS IS OF BULK AT MOST 1048576: true; the input reads as it did. -/
def dictDirsUptoRow : OpenClaim := { program := "ytlkdphbgephfiaa", sum := "7d78e3374b12f0706c32a1b6d83d9b161d6f5e4fe22cefbb6870fc885d74ce85", func := "clew/clewlaw35.DictDirs", spec := "dictDirs", inPlace := ["internal/bytealg.abigen_runtime_cmpstring"], unfollowed := true, recurses := true, apart := false, narrowed := true }
def DictDirsUptoSaid : Prop := dictDirsUptoRow.holds Try.pinned (OpenSpec.upto dictDirsSpec)

/-- 'clewlaw35.DictHas', WHERE WHAT IT READS IS OF BULK AT MOST 1048576: true; the input reads as it did. -/
def dictHasUptoRow : OpenClaim := { program := "ytlkdphbgephfiaa", sum := "7d78e3374b12f0706c32a1b6d83d9b161d6f5e4fe22cefbb6870fc885d74ce85", func := "clew/clewlaw35.DictHas", spec := "dictHas", inPlace := ["internal/bytealg.abigen_runtime_cmpstring"], unfollowed := true, recurses := true, apart := false, narrowed := true }
def DictHasUptoSaid : Prop := dictHasUptoRow.holds Try.pinned (OpenSpec.upto dictHasSpec)

end Rows
end Go.Proofs.Ytlkdphbgephfiaa
