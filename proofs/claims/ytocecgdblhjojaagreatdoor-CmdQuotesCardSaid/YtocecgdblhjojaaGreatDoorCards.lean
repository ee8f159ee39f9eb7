/-
  DERIVED. GIVEN WITH THE SEED: THE CARDS: each row of YtocecgdblhjojaaGreatDoorRows.lean that lists a variable, with what it lists TIED to the program's text (the seventh form; the later family's looks); each row that meets fmt, with fmt's text TOLD by the authors' own Lean function (tested against real Go, not proved from fmt's source: count such statements apart). THE CARD IS WHAT COUNTS. Prove the row's statement (the work); the ties are given (YtocecgdblhjojaaGreatDoorTie.lean); close each card by the builder's one call (the guide's Derived/Test/ToyasCard.lean, 'card_holds'). Laid BY PROGRAM, IN A SANDBOX (cutbox-door.mjs). By AI agents, Wed Nov 11 2026. No macro, syntax, notation, axiom, sorry.
-/
import Derived.Test.YtocecgdblhjojaaGreatDoorRows
import GoSem.ClaimSeven
namespace Go.Proofs.YtocecgdblhjojaaGreatDoor
namespace Rows

/-- THE TIED CARD OF 'haversacklaw14.CmdLetters'. -/
def cmdLettersCard : Claim7 := { stood := { row := cmdLettersRow, standIns := [], harness := (true, "768b31fdd5eb17600dfbcea2a424584deb4bb1e614ed4bf72cb5dbe742bcd79f"), looks := true }, kinds := [], alts := [], laidByText := true, laidKinds := [.data, .pinned], laidTests := true, laidLooks := .later }
def CmdLettersCardSaid : Prop := Claim7.holds Tryz.pinned (.plain (OpenSpec.ofChange cmdLettersSpec)) cmdLettersCard

/-- THE TIED CARD OF 'haversacklaw14.CmdEnds'. -/
def cmdEndsCard : Claim7 := { stood := { row := cmdEndsRow, standIns := [], harness := (true, "768b31fdd5eb17600dfbcea2a424584deb4bb1e614ed4bf72cb5dbe742bcd79f"), looks := true }, kinds := [], alts := [], laidByText := true, laidKinds := [.data, .pinned], laidTests := true, laidLooks := .later }
def CmdEndsCardSaid : Prop := Claim7.holds Tryz.pinned (.plain (OpenSpec.ofChange cmdEndsSpec)) cmdEndsCard

/-- THE TIED CARD OF 'haversacklaw14.CmdQuotes'. -/
def cmdQuotesCard : Claim7 := { stood := { row := cmdQuotesRow, standIns := [], harness := (true, "768b31fdd5eb17600dfbcea2a424584deb4bb1e614ed4bf72cb5dbe742bcd79f"), looks := true }, kinds := [], alts := [], laidByText := true, laidKinds := [.data, .pinned], laidTests := true, laidLooks := .later }
def CmdQuotesCardSaid : Prop := Claim7.holds Tryz.pinned (.plain (OpenSpec.ofChange cmdQuotesSpec)) cmdQuotesCard

/-- THE TIED CARD OF 'haversacklaw14.CmdLogins'. -/
def cmdLoginsCard : Claim7 := { stood := { row := cmdLoginsRow, standIns := [], harness := (true, "768b31fdd5eb17600dfbcea2a424584deb4bb1e614ed4bf72cb5dbe742bcd79f"), looks := true }, kinds := [], alts := [], laidByText := true, laidKinds := [.data, .pinned], laidTests := true, laidLooks := .later }
def CmdLoginsCardSaid : Prop := Claim7.holds Tryz.pinned (.plain (OpenSpec.ofChange cmdLoginsSpec)) cmdLoginsCard

/-- THE TIED CARD OF 'haversacklaw14.CmdPrints'. -/
def cmdPrintsCard : Claim7 := { stood := { row := cmdPrintsRow, standIns := [], harness := (true, "768b31fdd5eb17600dfbcea2a424584deb4bb1e614ed4bf72cb5dbe742bcd79f"), looks := true }, kinds := [], alts := [], laidByText := true, laidKinds := [.data, .data, .data, .data, .pinned], laidTests := true, laidLooks := .later }
def CmdPrintsCardSaid : Prop := Claim7.holds Tryz.pinned (.plain (OpenSpec.ofChange cmdPrintsSpec)) cmdPrintsCard

/-- THE TIED CARD OF 'haversacklaw14.CmdAgain'. -/
def cmdAgainCard : Claim7 := { stood := { row := cmdAgainRow, standIns := [], harness := (true, "768b31fdd5eb17600dfbcea2a424584deb4bb1e614ed4bf72cb5dbe742bcd79f"), looks := true }, kinds := [], alts := [], laidByText := true, laidKinds := [.data, .data, .data, .data, .pinned], laidTests := true, laidLooks := .later }
def CmdAgainCardSaid : Prop := Claim7.holds Tryz.pinned (.plain (OpenSpec.ofChange cmdAgainSpec)) cmdAgainCard

/-- THE SECOND FORM's CARD OF 'haversacklaw14.CmdLetters'. -/
def cmdLettersUptoCard : Claim7 := { stood := { row := cmdLettersUptoRow, standIns := [], harness := (true, "768b31fdd5eb17600dfbcea2a424584deb4bb1e614ed4bf72cb5dbe742bcd79f"), looks := true }, kinds := [], alts := [], laidByText := true, laidKinds := [.data, .pinned], laidTests := true, laidLooks := .later }
def CmdLettersUptoCardSaid : Prop := Claim7.holds Tryz.pinned (.plain (OpenSpec.upto cmdLettersSpec)) cmdLettersUptoCard

/-- THE SECOND FORM's CARD OF 'haversacklaw14.CmdEnds'. -/
def cmdEndsUptoCard : Claim7 := { stood := { row := cmdEndsUptoRow, standIns := [], harness := (true, "768b31fdd5eb17600dfbcea2a424584deb4bb1e614ed4bf72cb5dbe742bcd79f"), looks := true }, kinds := [], alts := [], laidByText := true, laidKinds := [.data, .pinned], laidTests := true, laidLooks := .later }
def CmdEndsUptoCardSaid : Prop := Claim7.holds Tryz.pinned (.plain (OpenSpec.upto cmdEndsSpec)) cmdEndsUptoCard

/-- THE SECOND FORM's CARD OF 'haversacklaw14.CmdQuotes'. -/
def cmdQuotesUptoCard : Claim7 := { stood := { row := cmdQuotesUptoRow, standIns := [], harness := (true, "768b31fdd5eb17600dfbcea2a424584deb4bb1e614ed4bf72cb5dbe742bcd79f"), looks := true }, kinds := [], alts := [], laidByText := true, laidKinds := [.data, .pinned], laidTests := true, laidLooks := .later }
def CmdQuotesUptoCardSaid : Prop := Claim7.holds Tryz.pinned (.plain (OpenSpec.upto cmdQuotesSpec)) cmdQuotesUptoCard

/-- THE SECOND FORM's CARD OF 'haversacklaw14.CmdLogins'. -/
def cmdLoginsUptoCard : Claim7 := { stood := { row := cmdLoginsUptoRow, standIns := [], harness := (true, "768b31fdd5eb17600dfbcea2a424584deb4bb1e614ed4bf72cb5dbe742bcd79f"), looks := true }, kinds := [], alts := [], laidByText := true, laidKinds := [.data, .pinned], laidTests := true, laidLooks := .later }
def CmdLoginsUptoCardSaid : Prop := Claim7.holds Tryz.pinned (.plain (OpenSpec.upto cmdLoginsSpec)) cmdLoginsUptoCard

/-- THE SECOND FORM's CARD OF 'haversacklaw14.CmdPrints'. -/
def cmdPrintsUptoCard : Claim7 := { stood := { row := cmdPrintsUptoRow, standIns := [], harness := (true, "768b31fdd5eb17600dfbcea2a424584deb4bb1e614ed4bf72cb5dbe742bcd79f"), looks := true }, kinds := [], alts := [], laidByText := true, laidKinds := [.data, .data, .data, .data, .pinned], laidTests := true, laidLooks := .later }
def CmdPrintsUptoCardSaid : Prop := Claim7.holds Tryz.pinned (.plain (OpenSpec.upto cmdPrintsSpec)) cmdPrintsUptoCard

/-- THE SECOND FORM's CARD OF 'haversacklaw14.CmdAgain'. -/
def cmdAgainUptoCard : Claim7 := { stood := { row := cmdAgainUptoRow, standIns := [], harness := (true, "768b31fdd5eb17600dfbcea2a424584deb4bb1e614ed4bf72cb5dbe742bcd79f"), looks := true }, kinds := [], alts := [], laidByText := true, laidKinds := [.data, .data, .data, .data, .pinned], laidTests := true, laidLooks := .later }
def CmdAgainUptoCardSaid : Prop := Claim7.holds Tryz.pinned (.plain (OpenSpec.upto cmdAgainSpec)) cmdAgainUptoCard
end Rows
end Go.Proofs.YtocecgdblhjojaaGreatDoor
