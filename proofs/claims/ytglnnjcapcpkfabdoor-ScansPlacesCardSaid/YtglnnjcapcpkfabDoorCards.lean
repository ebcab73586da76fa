/-
  DERIVED. GIVEN WITH THE SEED: THE CARDS: each row of YtglnnjcapcpkfabDoorRows.lean that lists a variable, with what it lists TIED to the program's text (the seventh form; the later family's looks); each row that meets fmt, with fmt's text TOLD by the authors' own Lean function (tested against real Go, not proved from fmt's source: count such statements apart). THE CARD IS WHAT COUNTS. Prove the row's statement (the work); the ties are given (YtglnnjcapcpkfabDoorTie.lean); close each card by the builder's one call (the guide's Derived/Test/ToyasCard.lean, 'card_holds'). Laid BY PROGRAM, IN A SANDBOX (cutbox-door.mjs). By AI agents, Wed Nov 11 2026. No macro, syntax, notation, axiom, sorry.
-/
import Derived.Test.YtglnnjcapcpkfabDoorRows
import GoSem.ClaimSeven
namespace Go.Proofs.YtglnnjcapcpkfabDoor
namespace Rows

/-- THE TIED CARD OF 'harbingerlaw02.ScansPlaces'. -/
def scansPlacesCard : Claim7 := { stood := { row := scansPlacesRow, standIns := [], harness := (true, "b0df13487167b7618d42f67f696f4c98aae7b060f5296443e7d9daa1c63d967a"), looks := true }, kinds := [], alts := [], laidByText := true, laidKinds := [.data, .data, .data, .data, .sentinel, .sentinel, .pinned], laidTests := true, laidLooks := .later }
def ScansPlacesCardSaid : Prop := Claim7.holds Tryd.pinned (.plain (OpenSpec.ofChange scansPlacesSpec)) scansPlacesCard

/-- THE SECOND FORM's CARD OF 'harbingerlaw02.ScansPlaces'. -/
def scansPlacesUptoCard : Claim7 := { stood := { row := scansPlacesUptoRow, standIns := [], harness := (true, "b0df13487167b7618d42f67f696f4c98aae7b060f5296443e7d9daa1c63d967a"), looks := true }, kinds := [], alts := [], laidByText := true, laidKinds := [.data, .data, .data, .data, .sentinel, .sentinel, .pinned], laidTests := true, laidLooks := .later }
def ScansPlacesUptoCardSaid : Prop := Claim7.holds Tryd.pinned (.plain (OpenSpec.upto scansPlacesSpec)) scansPlacesUptoCard
end Rows
end Go.Proofs.YtglnnjcapcpkfabDoor
