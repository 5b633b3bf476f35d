/-
  DERIVED. GIVEN WITH THE SEED: THE CARDS: each row of YtbcpopakdlplgaaDoorRows.lean that lists a variable, with what it lists TIED to the program's text (the seventh form; the later family's looks); each row that meets fmt, with fmt's text TOLD by the authors' own Lean function (tested against real Go, not proved from fmt's source: count such statements apart). THE CARD IS WHAT COUNTS. Prove the row's statement (the work); the ties are given (YtbcpopakdlplgaaDoorTie.lean); close each card by the builder's one call (the guide's Derived/Test/ToyasCard.lean, 'card_holds'). Laid BY PROGRAM, IN A SANDBOX (cutbox-door.mjs). By AI agents, Wed Nov 11 2026. No macro, syntax, notation, axiom, sorry.
-/
import Derived.Test.YtbcpopakdlplgaaDoorRows
import GoSem.ClaimSeven
namespace Go.Proofs.YtbcpopakdlplgaaDoor
namespace Rows

/-- THE TIED CARD OF 'clewlaw30.AsmNormal'. -/
def asmNormalCard : Claim7 := { stood := { row := asmNormalRow, standIns := [], harness := (true, "607ebe36792770d243d386608b5fa87c94f69cb163d08630714311f115890e59"), looks := false }, kinds := [], alts := [], laidByText := true, laidKinds := [.data, .data, .data], laidTests := true, laidLooks := .later }
def AsmNormalCardSaid : Prop := Claim7.holds Tryd.pinned (.plain (OpenSpec.ofChange asmNormalSpec)) asmNormalCard

/-- THE TIED CARD OF 'clewlaw30.AsmTells'. -/
def asmTellsCard : Claim7 := { stood := { row := asmTellsRow, standIns := [], harness := (true, "607ebe36792770d243d386608b5fa87c94f69cb163d08630714311f115890e59"), looks := false }, kinds := [], alts := [], laidByText := true, laidKinds := [.data, .data, .data], laidTests := true, laidLooks := .later }
def AsmTellsCardSaid : Prop := Claim7.holds Tryd.pinned (.plain (OpenSpec.ofChange asmTellsSpec)) asmTellsCard

/-- THE TIED CARD OF 'clewlaw30.AsmLists'. -/
def asmListsCard : Claim7 := { stood := { row := asmListsRow, standIns := [], harness := (true, "607ebe36792770d243d386608b5fa87c94f69cb163d08630714311f115890e59"), looks := false }, kinds := [], alts := [], laidByText := true, laidKinds := [.data, .data, .data], laidTests := true, laidLooks := .later }
def AsmListsCardSaid : Prop := Claim7.holds Tryd.pinned (.plain (OpenSpec.ofChange asmListsSpec)) asmListsCard

/-- THE TIED CARD OF 'clewlaw30.AsmBack'. -/
def asmBackCard : Claim7 := { stood := { row := asmBackRow, standIns := [], harness := (true, "607ebe36792770d243d386608b5fa87c94f69cb163d08630714311f115890e59"), looks := false }, kinds := [], alts := [], laidByText := true, laidKinds := [.data, .data, .data], laidTests := true, laidLooks := .later }
def AsmBackCardSaid : Prop := Claim7.holds Tryd.pinned (.plain (OpenSpec.ofChange asmBackSpec)) asmBackCard

/-- THE TIED CARD OF 'clewlaw30.AsmAgain'. -/
def asmAgainCard : Claim7 := { stood := { row := asmAgainRow, standIns := [], harness := (true, "607ebe36792770d243d386608b5fa87c94f69cb163d08630714311f115890e59"), looks := false }, kinds := [], alts := [], laidByText := true, laidKinds := [.data, .data, .data], laidTests := true, laidLooks := .later }
def AsmAgainCardSaid : Prop := Claim7.holds Tryd.pinned (.plain (OpenSpec.ofChange asmAgainSpec)) asmAgainCard

/-- THE TIED CARD OF 'clewlaw30.AsmLeast'. -/
def asmLeastCard : Claim7 := { stood := { row := asmLeastRow, standIns := [], harness := (true, "607ebe36792770d243d386608b5fa87c94f69cb163d08630714311f115890e59"), looks := false }, kinds := [], alts := [], laidByText := true, laidKinds := [.data, .data, .data], laidTests := true, laidLooks := .later }
def AsmLeastCardSaid : Prop := Claim7.holds Tryd.pinned (.plain (OpenSpec.ofChange asmLeastSpec)) asmLeastCard

/-- THE SECOND FORM's CARD OF 'clewlaw30.AsmNormal'. -/
def asmNormalUptoCard : Claim7 := { stood := { row := asmNormalUptoRow, standIns := [], harness := (true, "607ebe36792770d243d386608b5fa87c94f69cb163d08630714311f115890e59"), looks := false }, kinds := [], alts := [], laidByText := true, laidKinds := [.data, .data, .data], laidTests := true, laidLooks := .later }
def AsmNormalUptoCardSaid : Prop := Claim7.holds Tryd.pinned (.plain (OpenSpec.upto asmNormalSpec)) asmNormalUptoCard

/-- THE SECOND FORM's CARD OF 'clewlaw30.AsmTells'. -/
def asmTellsUptoCard : Claim7 := { stood := { row := asmTellsUptoRow, standIns := [], harness := (true, "607ebe36792770d243d386608b5fa87c94f69cb163d08630714311f115890e59"), looks := false }, kinds := [], alts := [], laidByText := true, laidKinds := [.data, .data, .data], laidTests := true, laidLooks := .later }
def AsmTellsUptoCardSaid : Prop := Claim7.holds Tryd.pinned (.plain (OpenSpec.upto asmTellsSpec)) asmTellsUptoCard

/-- THE SECOND FORM's CARD OF 'clewlaw30.AsmLists'. -/
def asmListsUptoCard : Claim7 := { stood := { row := asmListsUptoRow, standIns := [], harness := (true, "607ebe36792770d243d386608b5fa87c94f69cb163d08630714311f115890e59"), looks := false }, kinds := [], alts := [], laidByText := true, laidKinds := [.data, .data, .data], laidTests := true, laidLooks := .later }
def AsmListsUptoCardSaid : Prop := Claim7.holds Tryd.pinned (.plain (OpenSpec.upto asmListsSpec)) asmListsUptoCard

/-- THE SECOND FORM's CARD OF 'clewlaw30.AsmBack'. -/
def asmBackUptoCard : Claim7 := { stood := { row := asmBackUptoRow, standIns := [], harness := (true, "607ebe36792770d243d386608b5fa87c94f69cb163d08630714311f115890e59"), looks := false }, kinds := [], alts := [], laidByText := true, laidKinds := [.data, .data, .data], laidTests := true, laidLooks := .later }
def AsmBackUptoCardSaid : Prop := Claim7.holds Tryd.pinned (.plain (OpenSpec.upto asmBackSpec)) asmBackUptoCard

/-- THE SECOND FORM's CARD OF 'clewlaw30.AsmAgain'. -/
def asmAgainUptoCard : Claim7 := { stood := { row := asmAgainUptoRow, standIns := [], harness := (true, "607ebe36792770d243d386608b5fa87c94f69cb163d08630714311f115890e59"), looks := false }, kinds := [], alts := [], laidByText := true, laidKinds := [.data, .data, .data], laidTests := true, laidLooks := .later }
def AsmAgainUptoCardSaid : Prop := Claim7.holds Tryd.pinned (.plain (OpenSpec.upto asmAgainSpec)) asmAgainUptoCard

/-- THE SECOND FORM's CARD OF 'clewlaw30.AsmLeast'. -/
def asmLeastUptoCard : Claim7 := { stood := { row := asmLeastUptoRow, standIns := [], harness := (true, "607ebe36792770d243d386608b5fa87c94f69cb163d08630714311f115890e59"), looks := false }, kinds := [], alts := [], laidByText := true, laidKinds := [.data, .data, .data], laidTests := true, laidLooks := .later }
def AsmLeastUptoCardSaid : Prop := Claim7.holds Tryd.pinned (.plain (OpenSpec.upto asmLeastSpec)) asmLeastUptoCard
end Rows
end Go.Proofs.YtbcpopakdlplgaaDoor
