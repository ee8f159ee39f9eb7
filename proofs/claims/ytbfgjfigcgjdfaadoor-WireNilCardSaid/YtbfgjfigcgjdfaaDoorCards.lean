/-
  DERIVED. GIVEN WITH THE SEED: THE CARDS: each row of YtbfgjfigcgjdfaaDoorRows.lean that lists a variable, with what it lists TIED to the program's text (the seventh form; the later family's looks); each row that meets fmt, with fmt's text TOLD by the authors' own Lean function (tested against real Go, not proved from fmt's source: count such statements apart). THE CARD IS WHAT COUNTS. Prove the row's statement (the work); the ties are given (YtbfgjfigcgjdfaaDoorTie.lean); close each card by the builder's one call (the guide's Derived/Test/ToyasCard.lean, 'card_holds'). Laid BY PROGRAM, IN A SANDBOX (cutbox-door.mjs). By AI agents, Wed Nov 11 2026. No macro, syntax, notation, axiom, sorry.
-/
import Derived.Test.YtbfgjfigcgjdfaaDoorRows
import GoSem.ClaimSeven
namespace Go.Proofs.YtbfgjfigcgjdfaaDoor
namespace Rows

/-- THE TIED CARD OF 'haversacklaw13.WirePieces'. -/
def wirePiecesCard : Claim7 := { stood := { row := wirePiecesRow, standIns := [], harness := (true, "d01de9ef03e311524a3f5b0bbdbfa9136635dfac43b8015341eddde35d8799a1"), looks := true }, kinds := [], alts := [], laidByText := true, laidKinds := [.data, .data, .data, .data, .sentinel, .sentinel, .pinned], laidTests := true, laidLooks := .later }
def WirePiecesCardSaid : Prop := Claim7.holds Tryd.pinned (.plain (OpenSpec.ofChange wirePiecesSpec)) wirePiecesCard

/-- THE TIED CARD OF 'haversacklaw13.WireEnds'. -/
def wireEndsCard : Claim7 := { stood := { row := wireEndsRow, standIns := [], harness := (true, "d01de9ef03e311524a3f5b0bbdbfa9136635dfac43b8015341eddde35d8799a1"), looks := true }, kinds := [], alts := [], laidByText := true, laidKinds := [.data, .data, .data, .data, .sentinel, .sentinel, .pinned], laidTests := true, laidLooks := .later }
def WireEndsCardSaid : Prop := Claim7.holds Tryd.pinned (.plain (OpenSpec.ofChange wireEndsSpec)) wireEndsCard

/-- THE TIED CARD OF 'haversacklaw13.WireNil'. -/
def wireNilCard : Claim7 := { stood := { row := wireNilRow, standIns := [], harness := (true, "d01de9ef03e311524a3f5b0bbdbfa9136635dfac43b8015341eddde35d8799a1"), looks := true }, kinds := [], alts := [], laidByText := true, laidKinds := [.data, .data, .data, .data, .sentinel, .sentinel, .pinned], laidTests := true, laidLooks := .later }
def WireNilCardSaid : Prop := Claim7.holds Tryd.pinned (.plain (OpenSpec.ofChange wireNilSpec)) wireNilCard

/-- THE TIED CARD OF 'haversacklaw13.WireBytes'. -/
def wireBytesCard : Claim7 := { stood := { row := wireBytesRow, standIns := [], harness := (true, "d01de9ef03e311524a3f5b0bbdbfa9136635dfac43b8015341eddde35d8799a1"), looks := true }, kinds := [], alts := [], laidByText := true, laidKinds := [.data, .data, .data, .data, .sentinel, .sentinel, .pinned], laidTests := true, laidLooks := .later }
def WireBytesCardSaid : Prop := Claim7.holds Tryd.pinned (.plain (OpenSpec.ofChange wireBytesSpec)) wireBytesCard

/-- THE TIED CARD OF 'haversacklaw13.WireBack'. -/
def wireBackCard : Claim7 := { stood := { row := wireBackRow, standIns := [], harness := (true, "d01de9ef03e311524a3f5b0bbdbfa9136635dfac43b8015341eddde35d8799a1"), looks := true }, kinds := [], alts := [], laidByText := true, laidKinds := [.data, .data, .data, .data, .sentinel, .sentinel, .pinned], laidTests := true, laidLooks := .later }
def WireBackCardSaid : Prop := Claim7.holds Tryd.pinned (.plain (OpenSpec.ofChange wireBackSpec)) wireBackCard

/-- THE SECOND FORM's CARD OF 'haversacklaw13.WirePieces'. -/
def wirePiecesUptoCard : Claim7 := { stood := { row := wirePiecesUptoRow, standIns := [], harness := (true, "d01de9ef03e311524a3f5b0bbdbfa9136635dfac43b8015341eddde35d8799a1"), looks := true }, kinds := [], alts := [], laidByText := true, laidKinds := [.data, .data, .data, .data, .sentinel, .sentinel, .pinned], laidTests := true, laidLooks := .later }
def WirePiecesUptoCardSaid : Prop := Claim7.holds Tryd.pinned (.plain (OpenSpec.upto wirePiecesSpec)) wirePiecesUptoCard

/-- THE SECOND FORM's CARD OF 'haversacklaw13.WireEnds'. -/
def wireEndsUptoCard : Claim7 := { stood := { row := wireEndsUptoRow, standIns := [], harness := (true, "d01de9ef03e311524a3f5b0bbdbfa9136635dfac43b8015341eddde35d8799a1"), looks := true }, kinds := [], alts := [], laidByText := true, laidKinds := [.data, .data, .data, .data, .sentinel, .sentinel, .pinned], laidTests := true, laidLooks := .later }
def WireEndsUptoCardSaid : Prop := Claim7.holds Tryd.pinned (.plain (OpenSpec.upto wireEndsSpec)) wireEndsUptoCard

/-- THE SECOND FORM's CARD OF 'haversacklaw13.WireNil'. -/
def wireNilUptoCard : Claim7 := { stood := { row := wireNilUptoRow, standIns := [], harness := (true, "d01de9ef03e311524a3f5b0bbdbfa9136635dfac43b8015341eddde35d8799a1"), looks := true }, kinds := [], alts := [], laidByText := true, laidKinds := [.data, .data, .data, .data, .sentinel, .sentinel, .pinned], laidTests := true, laidLooks := .later }
def WireNilUptoCardSaid : Prop := Claim7.holds Tryd.pinned (.plain (OpenSpec.upto wireNilSpec)) wireNilUptoCard

/-- THE SECOND FORM's CARD OF 'haversacklaw13.WireBytes'. -/
def wireBytesUptoCard : Claim7 := { stood := { row := wireBytesUptoRow, standIns := [], harness := (true, "d01de9ef03e311524a3f5b0bbdbfa9136635dfac43b8015341eddde35d8799a1"), looks := true }, kinds := [], alts := [], laidByText := true, laidKinds := [.data, .data, .data, .data, .sentinel, .sentinel, .pinned], laidTests := true, laidLooks := .later }
def WireBytesUptoCardSaid : Prop := Claim7.holds Tryd.pinned (.plain (OpenSpec.upto wireBytesSpec)) wireBytesUptoCard

/-- THE SECOND FORM's CARD OF 'haversacklaw13.WireBack'. -/
def wireBackUptoCard : Claim7 := { stood := { row := wireBackUptoRow, standIns := [], harness := (true, "d01de9ef03e311524a3f5b0bbdbfa9136635dfac43b8015341eddde35d8799a1"), looks := true }, kinds := [], alts := [], laidByText := true, laidKinds := [.data, .data, .data, .data, .sentinel, .sentinel, .pinned], laidTests := true, laidLooks := .later }
def WireBackUptoCardSaid : Prop := Claim7.holds Tryd.pinned (.plain (OpenSpec.upto wireBackSpec)) wireBackUptoCard
end Rows
end Go.Proofs.YtbfgjfigcgjdfaaDoor
