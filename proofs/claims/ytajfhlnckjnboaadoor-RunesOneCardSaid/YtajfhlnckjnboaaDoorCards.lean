/-
  DERIVED. GIVEN WITH THE SEED: THE CARDS: each row of YtajfhlnckjnboaaDoorRows.lean that lists a variable, with what it lists TIED to the program's text (the seventh form; the later family's looks); each row that meets fmt, with fmt's text TOLD by the authors' own Lean function (tested against real Go, not proved from fmt's source: count such statements apart). THE CARD IS WHAT COUNTS. Prove the row's statement (the work); the ties are given (YtajfhlnckjnboaaDoorTie.lean); close each card by the builder's one call (the guide's Derived/Test/ToyasCard.lean, 'card_holds'). Laid BY PROGRAM, IN A SANDBOX (cutbox-door.mjs). By AI agents, Wed Nov 11 2026. No macro, syntax, notation, axiom, sorry.
-/
import Derived.Test.YtajfhlnckjnboaaDoorRows
import GoSem.ClaimSeven
namespace Go.Proofs.YtajfhlnckjnboaaDoor
namespace Rows

/-- THE TIED CARD OF 'harbingerlaw01.RunesPlaces'. -/
def runesPlacesCard : Claim7 := { stood := { row := runesPlacesRow, standIns := [], harness := (true, "344dbb59dc4a228e7fdee1ca695879dbca7da8fa92467ee931a3fd89f324215f"), looks := true }, kinds := [], alts := [], laidByText := true, laidKinds := [.data, .data, .data, .data, .sentinel, .sentinel, .pinned], laidTests := true, laidLooks := .later }
def RunesPlacesCardSaid : Prop := Claim7.holds Tryd.pinned (.plain (OpenSpec.ofChange runesPlacesSpec)) runesPlacesCard

/-- THE TIED CARD OF 'harbingerlaw01.RunesOne'. -/
def runesOneCard : Claim7 := { stood := { row := runesOneRow, standIns := [], harness := (true, "344dbb59dc4a228e7fdee1ca695879dbca7da8fa92467ee931a3fd89f324215f"), looks := true }, kinds := [], alts := [], laidByText := true, laidKinds := [.data, .data, .data, .data, .sentinel, .sentinel, .pinned], laidTests := true, laidLooks := .later }
def RunesOneCardSaid : Prop := Claim7.holds Tryd.pinned (.plain (OpenSpec.ofChange runesOneSpec)) runesOneCard

/-- THE TIED CARD OF 'harbingerlaw01.RunesBack'. -/
def runesBackCard : Claim7 := { stood := { row := runesBackRow, standIns := [], harness := (true, "344dbb59dc4a228e7fdee1ca695879dbca7da8fa92467ee931a3fd89f324215f"), looks := true }, kinds := [], alts := [], laidByText := true, laidKinds := [.data, .data, .data, .data, .sentinel, .sentinel, .pinned], laidTests := true, laidLooks := .later }
def RunesBackCardSaid : Prop := Claim7.holds Tryd.pinned (.plain (OpenSpec.ofChange runesBackSpec)) runesBackCard

/-- THE TIED CARD OF 'harbingerlaw01.RunesJoin'. -/
def runesJoinCard : Claim7 := { stood := { row := runesJoinRow, standIns := [], harness := (true, "344dbb59dc4a228e7fdee1ca695879dbca7da8fa92467ee931a3fd89f324215f"), looks := true }, kinds := [], alts := [], laidByText := true, laidKinds := [.data, .data, .data, .data, .sentinel, .sentinel, .pinned], laidTests := true, laidLooks := .later }
def RunesJoinCardSaid : Prop := Claim7.holds Tryd.pinned (.plain (OpenSpec.ofChange runesJoinSpec)) runesJoinCard

/-- THE TIED CARD OF 'harbingerlaw01.RunesWhole'. -/
def runesWholeCard : Claim7 := { stood := { row := runesWholeRow, standIns := [], harness := (true, "344dbb59dc4a228e7fdee1ca695879dbca7da8fa92467ee931a3fd89f324215f"), looks := true }, kinds := [], alts := [], laidByText := true, laidKinds := [.data, .data, .data, .data, .sentinel, .sentinel, .pinned], laidTests := true, laidLooks := .later }
def RunesWholeCardSaid : Prop := Claim7.holds Tryd.pinned (.plain (OpenSpec.ofChange runesWholeSpec)) runesWholeCard

/-- THE SECOND FORM's CARD OF 'harbingerlaw01.RunesPlaces'. -/
def runesPlacesUptoCard : Claim7 := { stood := { row := runesPlacesUptoRow, standIns := [], harness := (true, "344dbb59dc4a228e7fdee1ca695879dbca7da8fa92467ee931a3fd89f324215f"), looks := true }, kinds := [], alts := [], laidByText := true, laidKinds := [.data, .data, .data, .data, .sentinel, .sentinel, .pinned], laidTests := true, laidLooks := .later }
def RunesPlacesUptoCardSaid : Prop := Claim7.holds Tryd.pinned (.plain (OpenSpec.upto runesPlacesSpec)) runesPlacesUptoCard

/-- THE SECOND FORM's CARD OF 'harbingerlaw01.RunesOne'. -/
def runesOneUptoCard : Claim7 := { stood := { row := runesOneUptoRow, standIns := [], harness := (true, "344dbb59dc4a228e7fdee1ca695879dbca7da8fa92467ee931a3fd89f324215f"), looks := true }, kinds := [], alts := [], laidByText := true, laidKinds := [.data, .data, .data, .data, .sentinel, .sentinel, .pinned], laidTests := true, laidLooks := .later }
def RunesOneUptoCardSaid : Prop := Claim7.holds Tryd.pinned (.plain (OpenSpec.upto runesOneSpec)) runesOneUptoCard

/-- THE SECOND FORM's CARD OF 'harbingerlaw01.RunesBack'. -/
def runesBackUptoCard : Claim7 := { stood := { row := runesBackUptoRow, standIns := [], harness := (true, "344dbb59dc4a228e7fdee1ca695879dbca7da8fa92467ee931a3fd89f324215f"), looks := true }, kinds := [], alts := [], laidByText := true, laidKinds := [.data, .data, .data, .data, .sentinel, .sentinel, .pinned], laidTests := true, laidLooks := .later }
def RunesBackUptoCardSaid : Prop := Claim7.holds Tryd.pinned (.plain (OpenSpec.upto runesBackSpec)) runesBackUptoCard

/-- THE SECOND FORM's CARD OF 'harbingerlaw01.RunesJoin'. -/
def runesJoinUptoCard : Claim7 := { stood := { row := runesJoinUptoRow, standIns := [], harness := (true, "344dbb59dc4a228e7fdee1ca695879dbca7da8fa92467ee931a3fd89f324215f"), looks := true }, kinds := [], alts := [], laidByText := true, laidKinds := [.data, .data, .data, .data, .sentinel, .sentinel, .pinned], laidTests := true, laidLooks := .later }
def RunesJoinUptoCardSaid : Prop := Claim7.holds Tryd.pinned (.plain (OpenSpec.upto runesJoinSpec)) runesJoinUptoCard

/-- THE SECOND FORM's CARD OF 'harbingerlaw01.RunesWhole'. -/
def runesWholeUptoCard : Claim7 := { stood := { row := runesWholeUptoRow, standIns := [], harness := (true, "344dbb59dc4a228e7fdee1ca695879dbca7da8fa92467ee931a3fd89f324215f"), looks := true }, kinds := [], alts := [], laidByText := true, laidKinds := [.data, .data, .data, .data, .sentinel, .sentinel, .pinned], laidTests := true, laidLooks := .later }
def RunesWholeUptoCardSaid : Prop := Claim7.holds Tryd.pinned (.plain (OpenSpec.upto runesWholeSpec)) runesWholeUptoCard
end Rows
end Go.Proofs.YtajfhlnckjnboaaDoor
