/-
  DERIVED. GIVEN WITH THE SEED: THE CARDS: each row of YtbgiegecfapmlaaGreatDoorRows.lean that lists a variable, with what it lists TIED to the program's text (the seventh form; the later family's looks); each row that meets fmt, with fmt's text TOLD by the authors' own Lean function (tested against real Go, not proved from fmt's source: count such statements apart). THE CARD IS WHAT COUNTS. Prove the row's statement (the work); the ties are given (YtbgiegecfapmlaaGreatDoorTie.lean); close each card by the builder's one call (the guide's Derived/Test/ToyasCard.lean, 'card_holds'). Laid BY PROGRAM, IN A SANDBOX (cutbox-door.mjs). By AI agents, Wed Nov 11 2026. No macro, syntax, notation, axiom, sorry.
-/
import Derived.Test.YtbgiegecfapmlaaGreatDoorRows
import GoSem.ClaimSeven
namespace Go.Proofs.YtbgiegecfapmlaaGreatDoor
namespace Rows

/-- THE TIED CARD OF 'tocsintop.TopPieces'. -/
def topPiecesCard : Claim7 := { stood := { row := topPiecesRow, standIns := [], harness := (true, "81576156c8fcd13a818d491fd851c3d7e08d4dc3bfb4e0ce9dd7c4e20791e67b"), looks := true }, kinds := [], alts := [], laidByText := true, laidKinds := [.data, .data, .data, .data, .data, .pinned, .pinned], laidTests := true, laidLooks := .later }
def TopPiecesCardSaid : Prop := Claim7.holds Tryz.pinned (.plain (OpenSpec.ofChange topPiecesSpec)) topPiecesCard

/-- THE TIED CARD OF 'tocsintop.TopFirm'. -/
def topFirmCard : Claim7 := { stood := { row := topFirmRow, standIns := [], harness := (true, "81576156c8fcd13a818d491fd851c3d7e08d4dc3bfb4e0ce9dd7c4e20791e67b"), looks := true }, kinds := [], alts := [], laidByText := true, laidKinds := [.data, .data, .data, .data, .data, .pinned, .pinned], laidTests := true, laidLooks := .later }
def TopFirmCardSaid : Prop := Claim7.holds Tryz.pinned (.plain (OpenSpec.ofChange topFirmSpec)) topFirmCard

/-- THE TIED CARD OF 'tocsintop.TopWatch'. -/
def topWatchCard : Claim7 := { stood := { row := topWatchRow, standIns := [], harness := (true, "81576156c8fcd13a818d491fd851c3d7e08d4dc3bfb4e0ce9dd7c4e20791e67b"), looks := true }, kinds := [], alts := [], laidByText := true, laidKinds := [.data, .data, .data, .data, .data, .pinned, .pinned], laidTests := true, laidLooks := .later }
def TopWatchCardSaid : Prop := Claim7.holds Tryz.pinned (.plain (OpenSpec.ofChange topWatchSpec)) topWatchCard

/-- THE TIED CARD OF 'tocsintop.TopAny'. -/
def topAnyCard : Claim7 := { stood := { row := topAnyRow, standIns := [], harness := (true, "81576156c8fcd13a818d491fd851c3d7e08d4dc3bfb4e0ce9dd7c4e20791e67b"), looks := true }, kinds := [], alts := [], laidByText := true, laidKinds := [.data, .data, .data, .data, .pinned], laidTests := true, laidLooks := .later }
def TopAnyCardSaid : Prop := Claim7.holds Tryz.pinned (.plain (OpenSpec.ofChange topAnySpec)) topAnyCard

/-- THE SECOND FORM's CARD OF 'tocsintop.TopPieces'. -/
def topPiecesUptoCard : Claim7 := { stood := { row := topPiecesUptoRow, standIns := [], harness := (true, "81576156c8fcd13a818d491fd851c3d7e08d4dc3bfb4e0ce9dd7c4e20791e67b"), looks := true }, kinds := [], alts := [], laidByText := true, laidKinds := [.data, .data, .data, .data, .data, .pinned, .pinned], laidTests := true, laidLooks := .later }
def TopPiecesUptoCardSaid : Prop := Claim7.holds Tryz.pinned (.plain (OpenSpec.upto topPiecesSpec)) topPiecesUptoCard

/-- THE SECOND FORM's CARD OF 'tocsintop.TopFirm'. -/
def topFirmUptoCard : Claim7 := { stood := { row := topFirmUptoRow, standIns := [], harness := (true, "81576156c8fcd13a818d491fd851c3d7e08d4dc3bfb4e0ce9dd7c4e20791e67b"), looks := true }, kinds := [], alts := [], laidByText := true, laidKinds := [.data, .data, .data, .data, .data, .pinned, .pinned], laidTests := true, laidLooks := .later }
def TopFirmUptoCardSaid : Prop := Claim7.holds Tryz.pinned (.plain (OpenSpec.upto topFirmSpec)) topFirmUptoCard

/-- THE SECOND FORM's CARD OF 'tocsintop.TopWatch'. -/
def topWatchUptoCard : Claim7 := { stood := { row := topWatchUptoRow, standIns := [], harness := (true, "81576156c8fcd13a818d491fd851c3d7e08d4dc3bfb4e0ce9dd7c4e20791e67b"), looks := true }, kinds := [], alts := [], laidByText := true, laidKinds := [.data, .data, .data, .data, .data, .pinned, .pinned], laidTests := true, laidLooks := .later }
def TopWatchUptoCardSaid : Prop := Claim7.holds Tryz.pinned (.plain (OpenSpec.upto topWatchSpec)) topWatchUptoCard

/-- THE SECOND FORM's CARD OF 'tocsintop.TopAny'. -/
def topAnyUptoCard : Claim7 := { stood := { row := topAnyUptoRow, standIns := [], harness := (true, "81576156c8fcd13a818d491fd851c3d7e08d4dc3bfb4e0ce9dd7c4e20791e67b"), looks := true }, kinds := [], alts := [], laidByText := true, laidKinds := [.data, .data, .data, .data, .pinned], laidTests := true, laidLooks := .later }
def TopAnyUptoCardSaid : Prop := Claim7.holds Tryz.pinned (.plain (OpenSpec.upto topAnySpec)) topAnyUptoCard
end Rows
end Go.Proofs.YtbgiegecfapmlaaGreatDoor
