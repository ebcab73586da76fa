/-
  DERIVED. GIVEN WITH THE SEED: THE CARDS: each row of YtdgkpmpakkfgbaaGreatDoorRows.lean that lists a variable, with what it lists TIED to the program's text (the seventh form; the later family's looks); each row that meets fmt, with fmt's text TOLD by the authors' own Lean function (tested against real Go, not proved from fmt's source: count such statements apart). THE CARD IS WHAT COUNTS. Prove the row's statement (the work); the ties are given (YtdgkpmpakkfgbaaGreatDoorTie.lean); close each card by the builder's one call (the guide's Derived/Test/ToyasCard.lean, 'card_holds'). Laid BY PROGRAM, IN A SANDBOX (cutbox-door.mjs). By AI agents, Wed Nov 11 2026. No macro, syntax, notation, axiom, sorry.
-/
import Derived.Test.YtdgkpmpakkfgbaaGreatDoorRows
import GoSem.ClaimSeven
namespace Go.Proofs.YtdgkpmpakkfgbaaGreatDoor
namespace Rows

/-- THE TIED CARD OF 'harbingerlaw02.ScansAny'. -/
def scansAnyCard : Claim7 := { stood := { row := scansAnyRow, standIns := [], harness := (true, "b54f8e065f01f5cdf074ab396ddbd906198ffa4872cc60d286cd217708d4b0e2"), looks := true }, kinds := [], alts := [], laidByText := true, laidKinds := [.data, .data, .data, .data, .sentinel, .sentinel, .pinned], laidTests := true, laidLooks := .later }
def ScansAnyCardSaid : Prop := Claim7.holds Tryz.pinned (.plain (OpenSpec.ofChange scansAnySpec)) scansAnyCard

/-- THE SECOND FORM's CARD OF 'harbingerlaw02.ScansAny'. -/
def scansAnyUptoCard : Claim7 := { stood := { row := scansAnyUptoRow, standIns := [], harness := (true, "b54f8e065f01f5cdf074ab396ddbd906198ffa4872cc60d286cd217708d4b0e2"), looks := true }, kinds := [], alts := [], laidByText := true, laidKinds := [.data, .data, .data, .data, .sentinel, .sentinel, .pinned], laidTests := true, laidLooks := .later }
def ScansAnyUptoCardSaid : Prop := Claim7.holds Tryz.pinned (.plain (OpenSpec.upto scansAnySpec)) scansAnyUptoCard
end Rows
end Go.Proofs.YtdgkpmpakkfgbaaGreatDoor
