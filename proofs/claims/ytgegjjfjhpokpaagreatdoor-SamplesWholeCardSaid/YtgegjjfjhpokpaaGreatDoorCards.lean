/-
  DERIVED. GIVEN WITH THE SEED: THE CARDS: each row of YtgegjjfjhpokpaaGreatDoorRows.lean that lists a variable, with what it lists TIED to the program's text (the seventh form; the later family's looks); each row that meets fmt, with fmt's text TOLD by the authors' own Lean function (tested against real Go, not proved from fmt's source: count such statements apart). THE CARD IS WHAT COUNTS. Prove the row's statement (the work); the ties are given (YtgegjjfjhpokpaaGreatDoorTie.lean); close each card by the builder's one call (the guide's Derived/Test/ToyasCard.lean, 'card_holds'). Laid BY PROGRAM, IN A SANDBOX (cutbox-door.mjs). By AI agents, Wed Nov 11 2026. No macro, syntax, notation, axiom, sorry.
-/
import Derived.Test.YtgegjjfjhpokpaaGreatDoorRows
import GoSem.ClaimSeven
namespace Go.Proofs.YtgegjjfjhpokpaaGreatDoor
namespace Rows

/-- THE TIED CARD OF 'harbingerlaw27.SamplesVoid'. -/
def samplesVoidCard : Claim7 := { stood := { row := samplesVoidRow, standIns := [], harness := (true, "8be8462d404b5ebdfdb63f62c1ff7bd7135235374c940db58a471642bad7da6e"), looks := false }, kinds := [], alts := [], laidByText := true, laidKinds := [.data, .pinned], laidTests := true, laidLooks := .later }
def SamplesVoidCardSaid : Prop := Claim7.holds Tryz.pinned (.plain (OpenSpec.ofChange samplesVoidSpec)) samplesVoidCard

/-- THE TIED CARD OF 'harbingerlaw27.SamplesWhole'. -/
def samplesWholeCard : Claim7 := { stood := { row := samplesWholeRow, standIns := [], harness := (true, "8be8462d404b5ebdfdb63f62c1ff7bd7135235374c940db58a471642bad7da6e"), looks := false }, kinds := [], alts := [], laidByText := true, laidKinds := [.data, .pinned], laidTests := true, laidLooks := .later }
def SamplesWholeCardSaid : Prop := Claim7.holds Tryz.pinned (.plain (OpenSpec.ofChange samplesWholeSpec)) samplesWholeCard

/-- THE SECOND FORM's CARD OF 'harbingerlaw27.SamplesVoid'. -/
def samplesVoidUptoCard : Claim7 := { stood := { row := samplesVoidUptoRow, standIns := [], harness := (true, "8be8462d404b5ebdfdb63f62c1ff7bd7135235374c940db58a471642bad7da6e"), looks := false }, kinds := [], alts := [], laidByText := true, laidKinds := [.data, .pinned], laidTests := true, laidLooks := .later }
def SamplesVoidUptoCardSaid : Prop := Claim7.holds Tryz.pinned (.plain (OpenSpec.upto samplesVoidSpec)) samplesVoidUptoCard

/-- THE SECOND FORM's CARD OF 'harbingerlaw27.SamplesWhole'. -/
def samplesWholeUptoCard : Claim7 := { stood := { row := samplesWholeUptoRow, standIns := [], harness := (true, "8be8462d404b5ebdfdb63f62c1ff7bd7135235374c940db58a471642bad7da6e"), looks := false }, kinds := [], alts := [], laidByText := true, laidKinds := [.data, .pinned], laidTests := true, laidLooks := .later }
def SamplesWholeUptoCardSaid : Prop := Claim7.holds Tryz.pinned (.plain (OpenSpec.upto samplesWholeSpec)) samplesWholeUptoCard
end Rows
end Go.Proofs.YtgegjjfjhpokpaaGreatDoor
