/-
  DERIVED. GIVEN WITH THE SEED: THE CARDS: each row of YtppjmdanckdobaaGreatDoorRows.lean that lists a variable, with what it lists TIED to the program's text (the seventh form; the later family's looks); each row that meets fmt, with fmt's text TOLD by the authors' own Lean function (tested against real Go, not proved from fmt's source: count such statements apart). THE CARD IS WHAT COUNTS. Prove the row's statement (the work); the ties are given (YtppjmdanckdobaaGreatDoorTie.lean); close each card by the builder's one call (the guide's Derived/Test/ToyasCard.lean, 'card_holds'). Laid BY PROGRAM, IN A SANDBOX (cutbox-door.mjs). By AI agents, Wed Nov 11 2026. No macro, syntax, notation, axiom, sorry.
-/
import Derived.Test.YtppjmdanckdobaaGreatDoorRows
import GoSem.ClaimSeven
namespace Go.Proofs.YtppjmdanckdobaaGreatDoor
namespace Rows

/-- THE TIED CARD OF 'harbingerlaw28.ExpectsVoid'. -/
def expectsVoidCard : Claim7 := { stood := { row := expectsVoidRow, standIns := [], harness := (true, "3a51c2bbd4b6dd0776004e8f0e779d9a2eace153fecd7886c7e098b46fdea0de"), looks := false }, kinds := [], alts := [], laidByText := true, laidKinds := [.data, .pinned], laidTests := true, laidLooks := .later }
def ExpectsVoidCardSaid : Prop := Claim7.holds Tryz.pinned (.plain (OpenSpec.ofChange expectsVoidSpec)) expectsVoidCard

/-- THE TIED CARD OF 'harbingerlaw28.ExpectsRest'. -/
def expectsRestCard : Claim7 := { stood := { row := expectsRestRow, standIns := [], harness := (true, "3a51c2bbd4b6dd0776004e8f0e779d9a2eace153fecd7886c7e098b46fdea0de"), looks := false }, kinds := [], alts := [], laidByText := true, laidKinds := [.data, .pinned], laidTests := true, laidLooks := .later }
def ExpectsRestCardSaid : Prop := Claim7.holds Tryz.pinned (.plain (OpenSpec.ofChange expectsRestSpec)) expectsRestCard

/-- THE SECOND FORM's CARD OF 'harbingerlaw28.ExpectsVoid'. -/
def expectsVoidUptoCard : Claim7 := { stood := { row := expectsVoidUptoRow, standIns := [], harness := (true, "3a51c2bbd4b6dd0776004e8f0e779d9a2eace153fecd7886c7e098b46fdea0de"), looks := false }, kinds := [], alts := [], laidByText := true, laidKinds := [.data, .pinned], laidTests := true, laidLooks := .later }
def ExpectsVoidUptoCardSaid : Prop := Claim7.holds Tryz.pinned (.plain (OpenSpec.upto expectsVoidSpec)) expectsVoidUptoCard

/-- THE SECOND FORM's CARD OF 'harbingerlaw28.ExpectsRest'. -/
def expectsRestUptoCard : Claim7 := { stood := { row := expectsRestUptoRow, standIns := [], harness := (true, "3a51c2bbd4b6dd0776004e8f0e779d9a2eace153fecd7886c7e098b46fdea0de"), looks := false }, kinds := [], alts := [], laidByText := true, laidKinds := [.data, .pinned], laidTests := true, laidLooks := .later }
def ExpectsRestUptoCardSaid : Prop := Claim7.holds Tryz.pinned (.plain (OpenSpec.upto expectsRestSpec)) expectsRestUptoCard
end Rows
end Go.Proofs.YtppjmdanckdobaaGreatDoor
