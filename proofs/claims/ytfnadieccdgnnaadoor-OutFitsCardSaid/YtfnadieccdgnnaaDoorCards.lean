/-
  DERIVED. GIVEN WITH THE SEED: THE CARDS: each row of YtfnadieccdgnnaaDoorRows.lean that lists a variable, with what it lists TIED to the program's text (the seventh form; the later family's looks); each row that meets fmt, with fmt's text TOLD by the authors' own Lean function (tested against real Go, not proved from fmt's source: count such statements apart). THE CARD IS WHAT COUNTS. Prove the row's statement (the work); the ties are given (YtfnadieccdgnnaaDoorTie.lean); close each card by the builder's one call (the guide's Derived/Test/ToyasCard.lean, 'card_holds'). Laid BY PROGRAM, IN A SANDBOX (cutbox-door.mjs). By AI agents, Wed Nov 11 2026. No macro, syntax, notation, axiom, sorry.
-/
import Derived.Test.YtfnadieccdgnnaaDoorRows
import GoSem.ClaimSeven
namespace Go.Proofs.YtfnadieccdgnnaaDoor
namespace Rows

/-- THE TIED CARD OF 'clewlaw44.OutWraps'. -/
def outWrapsCard : Claim7 := { stood := { row := outWrapsRow, standIns := [], harness := (true, "1490a6b496e7242632332298474ccca149ae8666633a875af40692f19a5ab881"), looks := false }, kinds := [], alts := [], laidByText := true, laidKinds := [.data, .pinned], laidTests := true, laidLooks := .later }
def OutWrapsCardSaid : Prop := Claim7.holds Tryd.pinned (.plain (OpenSpec.ofChange outWrapsSpec)) outWrapsCard

/-- THE TIED CARD OF 'clewlaw44.OutPages'. -/
def outPagesCard : Claim7 := { stood := { row := outPagesRow, standIns := [], harness := (true, "1490a6b496e7242632332298474ccca149ae8666633a875af40692f19a5ab881"), looks := false }, kinds := [], alts := [], laidByText := true, laidKinds := [.data, .pinned], laidTests := true, laidLooks := .later }
def OutPagesCardSaid : Prop := Claim7.holds Tryd.pinned (.plain (OpenSpec.ofChange outPagesSpec)) outPagesCard

/-- THE TIED CARD OF 'clewlaw44.OutFits'. -/
def outFitsCard : Claim7 := { stood := { row := outFitsRow, standIns := [], harness := (true, "1490a6b496e7242632332298474ccca149ae8666633a875af40692f19a5ab881"), looks := false }, kinds := [], alts := [], laidByText := true, laidKinds := [.data, .pinned], laidTests := true, laidLooks := .later }
def OutFitsCardSaid : Prop := Claim7.holds Tryd.pinned (.plain (OpenSpec.ofChange outFitsSpec)) outFitsCard

/-- THE TIED CARD OF 'clewlaw44.OutAgain'. -/
def outAgainCard : Claim7 := { stood := { row := outAgainRow, standIns := [], harness := (true, "1490a6b496e7242632332298474ccca149ae8666633a875af40692f19a5ab881"), looks := false }, kinds := [], alts := [], laidByText := true, laidKinds := [.data, .pinned], laidTests := true, laidLooks := .later }
def OutAgainCardSaid : Prop := Claim7.holds Tryd.pinned (.plain (OpenSpec.ofChange outAgainSpec)) outAgainCard

/-- THE SECOND FORM's CARD OF 'clewlaw44.OutWraps'. -/
def outWrapsUptoCard : Claim7 := { stood := { row := outWrapsUptoRow, standIns := [], harness := (true, "1490a6b496e7242632332298474ccca149ae8666633a875af40692f19a5ab881"), looks := false }, kinds := [], alts := [], laidByText := true, laidKinds := [.data, .pinned], laidTests := true, laidLooks := .later }
def OutWrapsUptoCardSaid : Prop := Claim7.holds Tryd.pinned (.plain (OpenSpec.upto outWrapsSpec)) outWrapsUptoCard

/-- THE SECOND FORM's CARD OF 'clewlaw44.OutPages'. -/
def outPagesUptoCard : Claim7 := { stood := { row := outPagesUptoRow, standIns := [], harness := (true, "1490a6b496e7242632332298474ccca149ae8666633a875af40692f19a5ab881"), looks := false }, kinds := [], alts := [], laidByText := true, laidKinds := [.data, .pinned], laidTests := true, laidLooks := .later }
def OutPagesUptoCardSaid : Prop := Claim7.holds Tryd.pinned (.plain (OpenSpec.upto outPagesSpec)) outPagesUptoCard

/-- THE SECOND FORM's CARD OF 'clewlaw44.OutFits'. -/
def outFitsUptoCard : Claim7 := { stood := { row := outFitsUptoRow, standIns := [], harness := (true, "1490a6b496e7242632332298474ccca149ae8666633a875af40692f19a5ab881"), looks := false }, kinds := [], alts := [], laidByText := true, laidKinds := [.data, .pinned], laidTests := true, laidLooks := .later }
def OutFitsUptoCardSaid : Prop := Claim7.holds Tryd.pinned (.plain (OpenSpec.upto outFitsSpec)) outFitsUptoCard

/-- THE SECOND FORM's CARD OF 'clewlaw44.OutAgain'. -/
def outAgainUptoCard : Claim7 := { stood := { row := outAgainUptoRow, standIns := [], harness := (true, "1490a6b496e7242632332298474ccca149ae8666633a875af40692f19a5ab881"), looks := false }, kinds := [], alts := [], laidByText := true, laidKinds := [.data, .pinned], laidTests := true, laidLooks := .later }
def OutAgainUptoCardSaid : Prop := Claim7.holds Tryd.pinned (.plain (OpenSpec.upto outAgainSpec)) outAgainUptoCard
end Rows
end Go.Proofs.YtfnadieccdgnnaaDoor
