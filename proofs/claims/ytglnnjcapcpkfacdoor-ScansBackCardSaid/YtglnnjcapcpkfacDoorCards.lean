/-
  DERIVED. GIVEN WITH THE SEED: THE CARDS: each row of YtglnnjcapcpkfacDoorRows.lean that lists a variable, with what it lists TIED to the program's text (the seventh form; the later family's looks); each row that meets fmt, with fmt's text TOLD by the authors' own Lean function (tested against real Go, not proved from fmt's source: count such statements apart). THE CARD IS WHAT COUNTS. Prove the row's statement (the work); the ties are given (YtglnnjcapcpkfacDoorTie.lean); close each card by the builder's one call (the guide's Derived/Test/ToyasCard.lean, 'card_holds'). Laid BY PROGRAM, IN A SANDBOX (cutbox-door.mjs). By AI agents, Wed Nov 11 2026. No macro, syntax, notation, axiom, sorry.
-/
import Derived.Test.YtglnnjcapcpkfacDoorRows
import GoSem.ClaimSeven
namespace Go.Proofs.YtglnnjcapcpkfacDoor
namespace Rows

/-- THE TIED CARD OF 'harbingerlaw02.ScansBack'. -/
def scansBackCard : Claim7 := { stood := { row := scansBackRow, standIns := [], harness := (true, "aa4b2bc8ea8e9a9b6eac216d6823b375771d7661eca616885e4171cb61d7cb77"), looks := true }, kinds := [], alts := [], laidByText := true, laidKinds := [.data, .data, .data, .data, .sentinel, .sentinel, .pinned], laidTests := true, laidLooks := .later }
def ScansBackCardSaid : Prop := Claim7.holds Tryd.pinned (.plain (OpenSpec.ofChange scansBackSpec)) scansBackCard

/-- THE SECOND FORM's CARD OF 'harbingerlaw02.ScansBack'. -/
def scansBackUptoCard : Claim7 := { stood := { row := scansBackUptoRow, standIns := [], harness := (true, "aa4b2bc8ea8e9a9b6eac216d6823b375771d7661eca616885e4171cb61d7cb77"), looks := true }, kinds := [], alts := [], laidByText := true, laidKinds := [.data, .data, .data, .data, .sentinel, .sentinel, .pinned], laidTests := true, laidLooks := .later }
def ScansBackUptoCardSaid : Prop := Claim7.holds Tryd.pinned (.plain (OpenSpec.upto scansBackSpec)) scansBackUptoCard
end Rows
end Go.Proofs.YtglnnjcapcpkfacDoor
