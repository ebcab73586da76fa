/-
  DERIVED. GIVEN WITH THE SEED: THE CARDS: each row of YtogmlonhciiomaaDoorRows.lean that lists a variable, with what it lists TIED to the program's text (the seventh form; the later family's looks); each row that meets fmt, with fmt's text TOLD by the authors' own Lean function (tested against real Go, not proved from fmt's source: count such statements apart). THE CARD IS WHAT COUNTS. Prove the row's statement (the work); the ties are given (YtogmlonhciiomaaDoorTie.lean); close each card by the builder's one call (the guide's Derived/Test/ToyasCard.lean, 'card_holds'). Laid BY PROGRAM, IN A SANDBOX (cutbox-door.mjs). By AI agents, Wed Nov 11 2026. No macro, syntax, notation, axiom, sorry.
-/
import Derived.Test.YtogmlonhciiomaaDoorRows
import GoSem.ClaimSeven
namespace Go.Proofs.YtogmlonhciiomaaDoor
namespace Rows

/-- THE TIED CARD OF 'harbingerlaw16.PrunesRun'. -/
def prunesRunCard : Claim7 := { stood := { row := prunesRunRow, standIns := [], harness := (true, "ca01ef3768ce9085806cd7ace4da29557ab6efc2a2ab902660f9a35efe999553"), looks := false }, kinds := [], alts := [], laidByText := true, laidKinds := [.data, .data, .data], laidTests := true, laidLooks := .later }
def PrunesRunCardSaid : Prop := Claim7.holds Tryd.pinned (.plain (OpenSpec.ofChange prunesRunSpec)) prunesRunCard

/-- THE TIED CARD OF 'harbingerlaw16.PrunesLeast'. -/
def prunesLeastCard : Claim7 := { stood := { row := prunesLeastRow, standIns := [], harness := (true, "ca01ef3768ce9085806cd7ace4da29557ab6efc2a2ab902660f9a35efe999553"), looks := false }, kinds := [], alts := [], laidByText := true, laidKinds := [.data, .data, .data], laidTests := true, laidLooks := .later }
def PrunesLeastCardSaid : Prop := Claim7.holds Tryd.pinned (.plain (OpenSpec.ofChange prunesLeastSpec)) prunesLeastCard

/-- THE TIED CARD OF 'harbingerlaw16.PrunesSame'. -/
def prunesSameCard : Claim7 := { stood := { row := prunesSameRow, standIns := [], harness := (true, "ca01ef3768ce9085806cd7ace4da29557ab6efc2a2ab902660f9a35efe999553"), looks := false }, kinds := [], alts := [], laidByText := true, laidKinds := [.data, .data, .data], laidTests := true, laidLooks := .later }
def PrunesSameCardSaid : Prop := Claim7.holds Tryd.pinned (.plain (OpenSpec.ofChange prunesSameSpec)) prunesSameCard

/-- THE TIED CARD OF 'harbingerlaw16.PrunesOne'. -/
def prunesOneCard : Claim7 := { stood := { row := prunesOneRow, standIns := [], harness := (true, "ca01ef3768ce9085806cd7ace4da29557ab6efc2a2ab902660f9a35efe999553"), looks := false }, kinds := [], alts := [], laidByText := true, laidKinds := [.data, .data, .data], laidTests := true, laidLooks := .later }
def PrunesOneCardSaid : Prop := Claim7.holds Tryd.pinned (.plain (OpenSpec.ofChange prunesOneSpec)) prunesOneCard

/-- THE SECOND FORM's CARD OF 'harbingerlaw16.PrunesRun'. -/
def prunesRunUptoCard : Claim7 := { stood := { row := prunesRunUptoRow, standIns := [], harness := (true, "ca01ef3768ce9085806cd7ace4da29557ab6efc2a2ab902660f9a35efe999553"), looks := false }, kinds := [], alts := [], laidByText := true, laidKinds := [.data, .data, .data], laidTests := true, laidLooks := .later }
def PrunesRunUptoCardSaid : Prop := Claim7.holds Tryd.pinned (.plain (OpenSpec.upto prunesRunSpec)) prunesRunUptoCard

/-- THE SECOND FORM's CARD OF 'harbingerlaw16.PrunesLeast'. -/
def prunesLeastUptoCard : Claim7 := { stood := { row := prunesLeastUptoRow, standIns := [], harness := (true, "ca01ef3768ce9085806cd7ace4da29557ab6efc2a2ab902660f9a35efe999553"), looks := false }, kinds := [], alts := [], laidByText := true, laidKinds := [.data, .data, .data], laidTests := true, laidLooks := .later }
def PrunesLeastUptoCardSaid : Prop := Claim7.holds Tryd.pinned (.plain (OpenSpec.upto prunesLeastSpec)) prunesLeastUptoCard

/-- THE SECOND FORM's CARD OF 'harbingerlaw16.PrunesSame'. -/
def prunesSameUptoCard : Claim7 := { stood := { row := prunesSameUptoRow, standIns := [], harness := (true, "ca01ef3768ce9085806cd7ace4da29557ab6efc2a2ab902660f9a35efe999553"), looks := false }, kinds := [], alts := [], laidByText := true, laidKinds := [.data, .data, .data], laidTests := true, laidLooks := .later }
def PrunesSameUptoCardSaid : Prop := Claim7.holds Tryd.pinned (.plain (OpenSpec.upto prunesSameSpec)) prunesSameUptoCard

/-- THE SECOND FORM's CARD OF 'harbingerlaw16.PrunesOne'. -/
def prunesOneUptoCard : Claim7 := { stood := { row := prunesOneUptoRow, standIns := [], harness := (true, "ca01ef3768ce9085806cd7ace4da29557ab6efc2a2ab902660f9a35efe999553"), looks := false }, kinds := [], alts := [], laidByText := true, laidKinds := [.data, .data, .data], laidTests := true, laidLooks := .later }
def PrunesOneUptoCardSaid : Prop := Claim7.holds Tryd.pinned (.plain (OpenSpec.upto prunesOneSpec)) prunesOneUptoCard
end Rows
end Go.Proofs.YtogmlonhciiomaaDoor
