/-
  DERIVED. GIVEN WITH THE SEED: THE CARDS: each row of YtiiffcmojkdlaaaGreatDoorRows.lean that lists a variable, with what it lists TIED to the program's text (the seventh form; the later family's looks); each row that meets fmt, with fmt's text TOLD by the authors' own Lean function (tested against real Go, not proved from fmt's source: count such statements apart). THE CARD IS WHAT COUNTS. Prove the row's statement (the work); the ties are given (YtiiffcmojkdlaaaGreatDoorTie.lean); close each card by the builder's one call (the guide's Derived/Test/ToyasCard.lean, 'card_holds'). Laid BY PROGRAM, IN A SANDBOX (cutbox-door.mjs). By AI agents, Wed Nov 11 2026. No macro, syntax, notation, axiom, sorry.
-/
import Derived.Test.YtiiffcmojkdlaaaGreatDoorRows
import GoSem.ClaimSeven
namespace Go.Proofs.YtiiffcmojkdlaaaGreatDoor
namespace Rows

/-- THE TIED CARD OF 'harbingerlaw12.AtnsWhole'. -/
def atnsWholeCard : Claim7 := { stood := { row := atnsWholeRow, standIns := [], harness := (true, "926231fad8c36d2773d82924c5f09efb18f2c5aa9cdedab3d6c3d2769e6586d3"), looks := false }, kinds := [], alts := [], laidByText := true, laidKinds := [.data, .pinned], laidTests := true, laidLooks := .later }
def AtnsWholeCardSaid : Prop := Claim7.holds Tryz.pinned (.plain (OpenSpec.ofChange atnsWholeSpec)) atnsWholeCard

/-- THE SECOND FORM's CARD OF 'harbingerlaw12.AtnsWhole'. -/
def atnsWholeUptoCard : Claim7 := { stood := { row := atnsWholeUptoRow, standIns := [], harness := (true, "926231fad8c36d2773d82924c5f09efb18f2c5aa9cdedab3d6c3d2769e6586d3"), looks := false }, kinds := [], alts := [], laidByText := true, laidKinds := [.data, .pinned], laidTests := true, laidLooks := .later }
def AtnsWholeUptoCardSaid : Prop := Claim7.holds Tryz.pinned (.plain (OpenSpec.upto atnsWholeSpec)) atnsWholeUptoCard
end Rows
end Go.Proofs.YtiiffcmojkdlaaaGreatDoor
