/-
  DERIVED. GIVEN WITH THE SEED: THE CARDS: each row of YtoflfkffldpglaaGreatDoorRows.lean that lists a variable, with what it lists TIED to the program's text (the seventh form; the later family's looks); each row that meets fmt, with fmt's text TOLD by the authors' own Lean function (tested against real Go, not proved from fmt's source: count such statements apart). THE CARD IS WHAT COUNTS. Prove the row's statement (the work); the ties are given (YtoflfkffldpglaaGreatDoorTie.lean); close each card by the builder's one call (the guide's Derived/Test/ToyasCard.lean, 'card_holds'). Laid BY PROGRAM, IN A SANDBOX (cutbox-door.mjs). By AI agents, Wed Nov 11 2026. No macro, syntax, notation, axiom, sorry.
-/
import Derived.Test.YtoflfkffldpglaaGreatDoorRows
import GoSem.ClaimSeven
namespace Go.Proofs.YtoflfkffldpglaaGreatDoor
namespace Rows

/-- THE TIED CARD OF 'harbingerlaw27.SamplesMatch'. -/
def samplesMatchCard : Claim7 := { stood := { row := samplesMatchRow, standIns := [], harness := (true, "cae8aab44197560a201a33dc7fb89f25b857abf9389e1452501ba65b48f6ae8e"), looks := false }, kinds := [], alts := [], laidByText := true, laidKinds := [.data, .pinned], laidTests := true, laidLooks := .later }
def SamplesMatchCardSaid : Prop := Claim7.holds Tryz.pinned (.plain (OpenSpec.ofChange samplesMatchSpec)) samplesMatchCard

/-- THE SECOND FORM's CARD OF 'harbingerlaw27.SamplesMatch'. -/
def samplesMatchUptoCard : Claim7 := { stood := { row := samplesMatchUptoRow, standIns := [], harness := (true, "cae8aab44197560a201a33dc7fb89f25b857abf9389e1452501ba65b48f6ae8e"), looks := false }, kinds := [], alts := [], laidByText := true, laidKinds := [.data, .pinned], laidTests := true, laidLooks := .later }
def SamplesMatchUptoCardSaid : Prop := Claim7.holds Tryz.pinned (.plain (OpenSpec.upto samplesMatchSpec)) samplesMatchUptoCard
end Rows
end Go.Proofs.YtoflfkffldpglaaGreatDoor
