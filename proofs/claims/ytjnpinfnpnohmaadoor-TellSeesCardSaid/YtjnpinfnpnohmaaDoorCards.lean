/-
  DERIVED. GIVEN WITH THE SEED: THE CARDS: each row of YtjnpinfnpnohmaaDoorRows.lean that lists a variable, with what it lists TIED to the program's text (the seventh form; the later family's looks); each row that meets fmt, with fmt's text TOLD by the authors' own Lean function (tested against real Go, not proved from fmt's source: count such statements apart). THE CARD IS WHAT COUNTS. Prove the row's statement (the work); the ties are given (YtjnpinfnpnohmaaDoorTie.lean); close each card by the builder's one call (the guide's Derived/Test/ToyasCard.lean, 'card_holds'). Laid BY PROGRAM, IN A SANDBOX (cutbox-door.mjs). By AI agents, Wed Nov 11 2026. No macro, syntax, notation, axiom, sorry.
-/
import Derived.Test.YtjnpinfnpnohmaaDoorRows
import GoSem.ClaimSeven
namespace Go.Proofs.YtjnpinfnpnohmaaDoor
namespace Rows

/-- THE TIED CARD OF 'clewlaw24.TellTitles'. -/
def tellTitlesCard : Claim7 := { stood := { row := tellTitlesRow, standIns := [], harness := (true, "e0caa96ff7bd3c742cd9ef45db11211be078bbb62c6de9518ed1942148b51396"), looks := false }, kinds := [], alts := [], laidByText := true, laidKinds := [.data, .data, .data], laidTests := true, laidLooks := .later }
def TellTitlesCardSaid : Prop := Claim7.holds Tryd.pinned (.plain (OpenSpec.ofChange tellTitlesSpec)) tellTitlesCard

/-- THE TIED CARD OF 'clewlaw24.TellLists'. -/
def tellListsCard : Claim7 := { stood := { row := tellListsRow, standIns := [], harness := (true, "e0caa96ff7bd3c742cd9ef45db11211be078bbb62c6de9518ed1942148b51396"), looks := false }, kinds := [], alts := [], laidByText := true, laidKinds := [.data, .data, .data], laidTests := true, laidLooks := .later }
def TellListsCardSaid : Prop := Claim7.holds Tryd.pinned (.plain (OpenSpec.ofChange tellListsSpec)) tellListsCard

/-- THE TIED CARD OF 'clewlaw24.TellLooks'. -/
def tellLooksCard : Claim7 := { stood := { row := tellLooksRow, standIns := [], harness := (true, "e0caa96ff7bd3c742cd9ef45db11211be078bbb62c6de9518ed1942148b51396"), looks := false }, kinds := [], alts := [], laidByText := true, laidKinds := [.data, .data, .data], laidTests := true, laidLooks := .later }
def TellLooksCardSaid : Prop := Claim7.holds Tryd.pinned (.plain (OpenSpec.ofChange tellLooksSpec)) tellLooksCard

/-- THE TIED CARD OF 'clewlaw24.TellHides'. -/
def tellHidesCard : Claim7 := { stood := { row := tellHidesRow, standIns := [], harness := (true, "e0caa96ff7bd3c742cd9ef45db11211be078bbb62c6de9518ed1942148b51396"), looks := false }, kinds := [], alts := [], laidByText := true, laidKinds := [.data, .data, .data], laidTests := true, laidLooks := .later }
def TellHidesCardSaid : Prop := Claim7.holds Tryd.pinned (.plain (OpenSpec.ofChange tellHidesSpec)) tellHidesCard

/-- THE TIED CARD OF 'clewlaw24.TellSees'. -/
def tellSeesCard : Claim7 := { stood := { row := tellSeesRow, standIns := [], harness := (true, "e0caa96ff7bd3c742cd9ef45db11211be078bbb62c6de9518ed1942148b51396"), looks := false }, kinds := [], alts := [], laidByText := true, laidKinds := [.data, .data, .data], laidTests := true, laidLooks := .later }
def TellSeesCardSaid : Prop := Claim7.holds Tryd.pinned (.plain (OpenSpec.ofChange tellSeesSpec)) tellSeesCard

/-- THE SECOND FORM's CARD OF 'clewlaw24.TellTitles'. -/
def tellTitlesUptoCard : Claim7 := { stood := { row := tellTitlesUptoRow, standIns := [], harness := (true, "e0caa96ff7bd3c742cd9ef45db11211be078bbb62c6de9518ed1942148b51396"), looks := false }, kinds := [], alts := [], laidByText := true, laidKinds := [.data, .data, .data], laidTests := true, laidLooks := .later }
def TellTitlesUptoCardSaid : Prop := Claim7.holds Tryd.pinned (.plain (OpenSpec.upto tellTitlesSpec)) tellTitlesUptoCard

/-- THE SECOND FORM's CARD OF 'clewlaw24.TellLists'. -/
def tellListsUptoCard : Claim7 := { stood := { row := tellListsUptoRow, standIns := [], harness := (true, "e0caa96ff7bd3c742cd9ef45db11211be078bbb62c6de9518ed1942148b51396"), looks := false }, kinds := [], alts := [], laidByText := true, laidKinds := [.data, .data, .data], laidTests := true, laidLooks := .later }
def TellListsUptoCardSaid : Prop := Claim7.holds Tryd.pinned (.plain (OpenSpec.upto tellListsSpec)) tellListsUptoCard

/-- THE SECOND FORM's CARD OF 'clewlaw24.TellLooks'. -/
def tellLooksUptoCard : Claim7 := { stood := { row := tellLooksUptoRow, standIns := [], harness := (true, "e0caa96ff7bd3c742cd9ef45db11211be078bbb62c6de9518ed1942148b51396"), looks := false }, kinds := [], alts := [], laidByText := true, laidKinds := [.data, .data, .data], laidTests := true, laidLooks := .later }
def TellLooksUptoCardSaid : Prop := Claim7.holds Tryd.pinned (.plain (OpenSpec.upto tellLooksSpec)) tellLooksUptoCard

/-- THE SECOND FORM's CARD OF 'clewlaw24.TellHides'. -/
def tellHidesUptoCard : Claim7 := { stood := { row := tellHidesUptoRow, standIns := [], harness := (true, "e0caa96ff7bd3c742cd9ef45db11211be078bbb62c6de9518ed1942148b51396"), looks := false }, kinds := [], alts := [], laidByText := true, laidKinds := [.data, .data, .data], laidTests := true, laidLooks := .later }
def TellHidesUptoCardSaid : Prop := Claim7.holds Tryd.pinned (.plain (OpenSpec.upto tellHidesSpec)) tellHidesUptoCard

/-- THE SECOND FORM's CARD OF 'clewlaw24.TellSees'. -/
def tellSeesUptoCard : Claim7 := { stood := { row := tellSeesUptoRow, standIns := [], harness := (true, "e0caa96ff7bd3c742cd9ef45db11211be078bbb62c6de9518ed1942148b51396"), looks := false }, kinds := [], alts := [], laidByText := true, laidKinds := [.data, .data, .data], laidTests := true, laidLooks := .later }
def TellSeesUptoCardSaid : Prop := Claim7.holds Tryd.pinned (.plain (OpenSpec.upto tellSeesSpec)) tellSeesUptoCard
end Rows
end Go.Proofs.YtjnpinfnpnohmaaDoor
