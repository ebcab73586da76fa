/-
  DERIVED. GIVEN WITH THE SEED: THE CARDS: each row of YtkinlcichclnkaaDoorRows.lean that lists a variable, with what it lists TIED to the program's text (the seventh form; the later family's looks); each row that meets fmt, with fmt's text TOLD by the authors' own Lean function (tested against real Go, not proved from fmt's source: count such statements apart). THE CARD IS WHAT COUNTS. Prove the row's statement (the work); the ties are given (YtkinlcichclnkaaDoorTie.lean); close each card by the builder's one call (the guide's Derived/Test/ToyasCard.lean, 'card_holds'). Laid BY PROGRAM, IN A SANDBOX (cutbox-door.mjs). By AI agents, Wed Nov 11 2026. No macro, syntax, notation, axiom, sorry.
-/
import Derived.Test.YtkinlcichclnkaaDoorRows
import GoSem.ClaimSeven
namespace Go.Proofs.YtkinlcichclnkaaDoor
namespace Rows

/-- THE TIED CARD OF 'harbingerlaw08.NfasOrder'. -/
def nfasOrderCard : Claim7 := { stood := { row := nfasOrderRow, standIns := [], harness := (true, "e942f0c15876a9f984aba64d319bdf193fc00240855a77a6c5e74f0e08fb4870"), looks := false }, kinds := [], alts := [], laidByText := true, laidKinds := [.data], laidTests := true, laidLooks := .later }
def NfasOrderCardSaid : Prop := Claim7.holds Tryd.pinned (.plain (OpenSpec.ofChange nfasOrderSpec)) nfasOrderCard

/-- THE TIED CARD OF 'harbingerlaw08.NfasTexts'. -/
def nfasTextsCard : Claim7 := { stood := { row := nfasTextsRow, standIns := [], harness := (true, "e942f0c15876a9f984aba64d319bdf193fc00240855a77a6c5e74f0e08fb4870"), looks := false }, kinds := [], alts := [], laidByText := true, laidKinds := [.data], laidTests := true, laidLooks := .later }
def NfasTextsCardSaid : Prop := Claim7.holds Tryd.pinned (.plain (OpenSpec.ofChange nfasTextsSpec)) nfasTextsCard

/-- THE SECOND FORM's CARD OF 'harbingerlaw08.NfasOrder'. -/
def nfasOrderUptoCard : Claim7 := { stood := { row := nfasOrderUptoRow, standIns := [], harness := (true, "e942f0c15876a9f984aba64d319bdf193fc00240855a77a6c5e74f0e08fb4870"), looks := false }, kinds := [], alts := [], laidByText := true, laidKinds := [.data], laidTests := true, laidLooks := .later }
def NfasOrderUptoCardSaid : Prop := Claim7.holds Tryd.pinned (.plain (OpenSpec.upto nfasOrderSpec)) nfasOrderUptoCard

/-- THE SECOND FORM's CARD OF 'harbingerlaw08.NfasTexts'. -/
def nfasTextsUptoCard : Claim7 := { stood := { row := nfasTextsUptoRow, standIns := [], harness := (true, "e942f0c15876a9f984aba64d319bdf193fc00240855a77a6c5e74f0e08fb4870"), looks := false }, kinds := [], alts := [], laidByText := true, laidKinds := [.data], laidTests := true, laidLooks := .later }
def NfasTextsUptoCardSaid : Prop := Claim7.holds Tryd.pinned (.plain (OpenSpec.upto nfasTextsSpec)) nfasTextsUptoCard
end Rows
end Go.Proofs.YtkinlcichclnkaaDoor
