/-
  No cell of these rows narrows 'for every input' (looked for: loops, veiled, ifaces, maps, wideKeys, modest, calm, conditions, laid).
  DERIVED. THE GIVEN ROWS OF THIS SEAT. 5 by the template 'for every input the law returns true; each argument reads behind the call as it read before'; 0 by the template 'total and deterministic' (their statements: YtdommneciojiaaaTotals.lean).
  GIVEN WITH THE SEED: the statements are not yours to turn. If you find one false, say at which input.
  Laid BY PROGRAM, IN A SANDBOX (cutbox-rows.mjs): the forced cells as the released guide's own fill.sh prints them over the translation 5f312e22a57b77b6… (all of the seat's roots in one cut). By AI agents, Wed Nov 11 2026. No macro, syntax, notation, axiom, sorry.
-/
import Derived.Test.YtdommneciojiaaaChecked
import GoSem.Claim
import GoSem.ClaimJoined
import GoSem.ClaimMapViews
import Derived.JoinedTies
import Derived.KernelRfl
namespace Go.Proofs.Ytdommneciojiaaa
/- THE CELL 'sum', in the pinned program and in every row, IS THE sha256 OF THE DUMP (.gsa) THAT YtdommneciojiaaaProg.lean LOADS. Nothing in Lean hashes anything: it is a label: what it is worth is what the hold of that sum in a sandbox is worth. -/
noncomputable def Try.pinned : Pinned := { name := "ytdommneciojiaaa", sum := "5f312e22a57b77b6da06c4da4b2d24fd12875ff970c4fc4d35f00a909b14c9b8", checked := Try.checked }
namespace Rows
def none {H : Type} : Left H := { results := [], args := [] }

/-- 'clewlaw15.NamesMake': WHATEVER THE INPUT: true; the input reads as it did. -/
def namesMakeSpec : ChangeSpec := { name := "namesMake", fn := fun _ => fun
  | [d] => { results := [.lit (.bool true)], args := [d] }
  | _ => none }
def namesMakeRow : OpenClaim := { program := "ytdommneciojiaaa", sum := "5f312e22a57b77b6da06c4da4b2d24fd12875ff970c4fc4d35f00a909b14c9b8", func := "clew/clewlaw15.NamesMake", spec := "namesMake", inPlace := ["internal/bytealg.IndexByteString", "internal/bytealg.IndexString"], unfollowed := true, recurses := true, named := ["internal/bytealg.MaxLen"], apart := false }
def NamesMakeSaid : Prop := namesMakeRow.holds Try.pinned (OpenSpec.ofChange namesMakeSpec)

/-- ITS FALSE NEIGHBOUR: 'it returns false'. Refute it at one input. -/
def namesMakeWrong : ChangeSpec := { name := "namesMake", fn := fun _ => fun
  | [d] => { results := [.lit (.bool false)], args := [d] }
  | _ => none }
def NamesMakeWrongFalsely : Prop := namesMakeRow.holds Try.pinned (OpenSpec.ofChange namesMakeWrong)

/-- 'clewlaw15.NamesWrong': WHATEVER THE INPUT: true; the input reads as it did. -/
def namesWrongSpec : ChangeSpec := { name := "namesWrong", fn := fun _ => fun
  | [d] => { results := [.lit (.bool true)], args := [d] }
  | _ => none }
def namesWrongRow : OpenClaim := { program := "ytdommneciojiaaa", sum := "5f312e22a57b77b6da06c4da4b2d24fd12875ff970c4fc4d35f00a909b14c9b8", func := "clew/clewlaw15.NamesWrong", spec := "namesWrong", inPlace := ["internal/bytealg.IndexByteString", "internal/bytealg.IndexString"], unfollowed := true, recurses := true, named := ["internal/bytealg.MaxLen"], apart := false }
def NamesWrongSaid : Prop := namesWrongRow.holds Try.pinned (OpenSpec.ofChange namesWrongSpec)

/-- ITS FALSE NEIGHBOUR: 'it returns false'. Refute it at one input. -/
def namesWrongWrong : ChangeSpec := { name := "namesWrong", fn := fun _ => fun
  | [d] => { results := [.lit (.bool false)], args := [d] }
  | _ => none }
def NamesWrongWrongFalsely : Prop := namesWrongRow.holds Try.pinned (OpenSpec.ofChange namesWrongWrong)

/-- 'clewlaw15.NamesGrow': WHATEVER THE INPUT: true; the input reads as it did. -/
def namesGrowSpec : ChangeSpec := { name := "namesGrow", fn := fun _ => fun
  | [d1, d2] => { results := [.lit (.bool true)], args := [d1, d2] }
  | _ => none }
def namesGrowRow : OpenClaim := { program := "ytdommneciojiaaa", sum := "5f312e22a57b77b6da06c4da4b2d24fd12875ff970c4fc4d35f00a909b14c9b8", func := "clew/clewlaw15.NamesGrow", spec := "namesGrow", inPlace := ["internal/bytealg.IndexByteString", "internal/bytealg.IndexString"], unfollowed := true, recurses := true, named := ["internal/bytealg.MaxLen"], apart := false }
def NamesGrowSaid : Prop := namesGrowRow.holds Try.pinned (OpenSpec.ofChange namesGrowSpec)

/-- ITS FALSE NEIGHBOUR: 'it returns false'. Refute it at one input. -/
def namesGrowWrong : ChangeSpec := { name := "namesGrow", fn := fun _ => fun
  | [d1, d2] => { results := [.lit (.bool false)], args := [d1, d2] }
  | _ => none }
def NamesGrowWrongFalsely : Prop := namesGrowRow.holds Try.pinned (OpenSpec.ofChange namesGrowWrong)

/-- 'clewlaw15.NamesFind': WHATEVER THE INPUT: true; the input reads as it did. -/
def namesFindSpec : ChangeSpec := { name := "namesFind", fn := fun _ => fun
  | [d1, d2, d3, d4] => { results := [.lit (.bool true)], args := [d1, d2, d3, d4] }
  | _ => none }
def namesFindRow : OpenClaim := { program := "ytdommneciojiaaa", sum := "5f312e22a57b77b6da06c4da4b2d24fd12875ff970c4fc4d35f00a909b14c9b8", func := "clew/clewlaw15.NamesFind", spec := "namesFind", inPlace := ["internal/bytealg.IndexByteString", "internal/bytealg.IndexString"], unfollowed := true, recurses := true, named := ["internal/bytealg.MaxLen"], apart := false }
def NamesFindSaid : Prop := namesFindRow.holds Try.pinned (OpenSpec.ofChange namesFindSpec)

/-- ITS FALSE NEIGHBOUR: 'it returns false'. Refute it at one input. -/
def namesFindWrong : ChangeSpec := { name := "namesFind", fn := fun _ => fun
  | [d1, d2, d3, d4] => { results := [.lit (.bool false)], args := [d1, d2, d3, d4] }
  | _ => none }
def NamesFindWrongFalsely : Prop := namesFindRow.holds Try.pinned (OpenSpec.ofChange namesFindWrong)

/-- 'clewlaw15.NamesBack': WHATEVER THE INPUT: true; the input reads as it did. -/
def namesBackSpec : ChangeSpec := { name := "namesBack", fn := fun _ => fun
  | [d] => { results := [.lit (.bool true)], args := [d] }
  | _ => none }
def namesBackRow : OpenClaim := { program := "ytdommneciojiaaa", sum := "5f312e22a57b77b6da06c4da4b2d24fd12875ff970c4fc4d35f00a909b14c9b8", func := "clew/clewlaw15.NamesBack", spec := "namesBack", inPlace := ["internal/bytealg.IndexByteString", "internal/bytealg.IndexString"], unfollowed := true, recurses := true, named := ["internal/bytealg.MaxLen"], apart := false }
def NamesBackSaid : Prop := namesBackRow.holds Try.pinned (OpenSpec.ofChange namesBackSpec)

/-- ITS FALSE NEIGHBOUR: 'it returns false'. Refute it at one input. -/
def namesBackWrong : ChangeSpec := { name := "namesBack", fn := fun _ => fun
  | [d] => { results := [.lit (.bool false)], args := [d] }
  | _ => none }
def NamesBackWrongFalsely : Prop := namesBackRow.holds Try.pinned (OpenSpec.ofChange namesBackWrong)

/- THE SECOND FORM. 'bulk': how many values and letters a reading holds, each counted each time it is reached (what is shared counts as often as it is met; a slice's spare places count too). A statement '..UptoSaid' is the law's where the arguments, and the package variables that the reading takes, are together of bulk at most 1048576: NARROWER than '..Said'. Prove '..Said' where nothing that the law and all that it calls make is longer than what came in: it says more and counts as full. Else prove '..UptoSaid'. A law counts once. -/
mutual
def uptoBulk {H : Type} : DataW H → Nat
  | .lit (.string bytes) => bytes.length + 1
  | .lit _ => 1
  | .nil => 1
  | .ptr d => uptoBulk d + 1
  | .slice elems spare => uptoBulkAll elems + uptoBulkAll spare + 1
  | .agg parts => uptoBulkAll parts + 1
  | .iface _ d => uptoBulk d + 1
  | .map entries => uptoBulkEntries entries + 1
  | .held _ => 1
def uptoBulkAll {H : Type} : List (DataW H) → Nat
  | [] => 0
  | d :: r => uptoBulk d + uptoBulkAll r
def uptoBulkEntries {H : Type} : List (Lit × DataW H) → Nat
  | [] => 0
  | x :: r => uptoBulkEntry x + uptoBulkEntries r
def uptoBulkEntry {H : Type} : Lit × DataW H → Nat
  | (.string bytes, d) => bytes.length + uptoBulk d + 1
  | (_, d) => uptoBulk d + 1
 end
def uptoSmall : (H : Type) → List (DataW H) → Bool := fun _ ds => decide (uptoBulkAll ds ≤ 1048576)
def OpenSpec.upto (s : _root_.Go.ChangeSpec) : _root_.Go.OpenSpec := { _root_.Go.OpenSpec.ofChange s with cond := some uptoSmall }

/-- 'clewlaw15.NamesMake', WHERE WHAT IT READS IS OF BULK AT MOST 1048576: true; the input reads as it did. -/
def namesMakeUptoRow : OpenClaim := { program := "ytdommneciojiaaa", sum := "5f312e22a57b77b6da06c4da4b2d24fd12875ff970c4fc4d35f00a909b14c9b8", func := "clew/clewlaw15.NamesMake", spec := "namesMake", inPlace := ["internal/bytealg.IndexByteString", "internal/bytealg.IndexString"], unfollowed := true, recurses := true, named := ["internal/bytealg.MaxLen"], apart := false, narrowed := true }
def NamesMakeUptoSaid : Prop := namesMakeUptoRow.holds Try.pinned (OpenSpec.upto namesMakeSpec)

/-- 'clewlaw15.NamesWrong', WHERE WHAT IT READS IS OF BULK AT MOST 1048576: true; the input reads as it did. -/
def namesWrongUptoRow : OpenClaim := { program := "ytdommneciojiaaa", sum := "5f312e22a57b77b6da06c4da4b2d24fd12875ff970c4fc4d35f00a909b14c9b8", func := "clew/clewlaw15.NamesWrong", spec := "namesWrong", inPlace := ["internal/bytealg.IndexByteString", "internal/bytealg.IndexString"], unfollowed := true, recurses := true, named := ["internal/bytealg.MaxLen"], apart := false, narrowed := true }
def NamesWrongUptoSaid : Prop := namesWrongUptoRow.holds Try.pinned (OpenSpec.upto namesWrongSpec)

/-- 'clewlaw15.NamesGrow', WHERE WHAT IT READS IS OF BULK AT MOST 1048576: true; the input reads as it did. -/
def namesGrowUptoRow : OpenClaim := { program := "ytdommneciojiaaa", sum := "5f312e22a57b77b6da06c4da4b2d24fd12875ff970c4fc4d35f00a909b14c9b8", func := "clew/clewlaw15.NamesGrow", spec := "namesGrow", inPlace := ["internal/bytealg.IndexByteString", "internal/bytealg.IndexString"], unfollowed := true, recurses := true, named := ["internal/bytealg.MaxLen"], apart := false, narrowed := true }
def NamesGrowUptoSaid : Prop := namesGrowUptoRow.holds Try.pinned (OpenSpec.upto namesGrowSpec)

/-- 'clewlaw15.NamesFind', WHERE WHAT IT READS IS OF BULK AT MOST 1048576: true; the input reads as it did. -/
def namesFindUptoRow : OpenClaim := { program := "ytdommneciojiaaa", sum := "5f312e22a57b77b6da06c4da4b2d24fd12875ff970c4fc4d35f00a909b14c9b8", func := "clew/clewlaw15.NamesFind", spec := "namesFind", inPlace := ["internal/bytealg.IndexByteString", "internal/bytealg.IndexString"], unfollowed := true, recurses := true, named := ["internal/bytealg.MaxLen"], apart := false, narrowed := true }
def NamesFindUptoSaid : Prop := namesFindUptoRow.holds Try.pinned (OpenSpec.upto namesFindSpec)

/-- 'clewlaw15.NamesBack', WHERE WHAT IT READS IS OF BULK AT MOST 1048576: true; the input reads as it did. -/
def namesBackUptoRow : OpenClaim := { program := "ytdommneciojiaaa", sum := "5f312e22a57b77b6da06c4da4b2d24fd12875ff970c4fc4d35f00a909b14c9b8", func := "clew/clewlaw15.NamesBack", spec := "namesBack", inPlace := ["internal/bytealg.IndexByteString", "internal/bytealg.IndexString"], unfollowed := true, recurses := true, named := ["internal/bytealg.MaxLen"], apart := false, narrowed := true }
def NamesBackUptoSaid : Prop := namesBackUptoRow.holds Try.pinned (OpenSpec.upto namesBackSpec)

end Rows
end Go.Proofs.Ytdommneciojiaaa
