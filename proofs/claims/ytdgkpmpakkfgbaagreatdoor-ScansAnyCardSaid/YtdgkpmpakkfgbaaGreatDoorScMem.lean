/- What the package's variables hold that a scan reads; kept by whatever leaves older memory alone. -/
import Derived.Test.YtdgkpmpakkfgbaaGreatDoorRu1
import Derived.Test.YtdgkpmpakkfgbaaGreatDoorOwn
namespace Go.Proofs.YtdgkpmpakkfgbaaGreatDoor
open Go.RowKit

theorem cell_in {W : World} {b i : Nat} {v : Value} (h : W.cell? ⟨b, i, none⟩ = some v) : b < W.heap.size := by
  apply Classical.byContradiction
  intro hn
  have : W.heap[b]? = none := Array.getElem?_eq_none (by omega)
  simp [World.cell?, this] at h

/-- the package's variables that are read -/
structure LaidS (W : World) : Prop where
  tabs : Lib.Utf8Tabs 1 2 W
  most : ∃ m, W.cell? ⟨0, 0, none⟩ = some (.int .i64 m)
  errS : ∃ v, W.cell? ⟨3, 0, none⟩ = some v ∧ (v = .nilIface ∨ ∃ te pe, v = .iface te pe)
  errR : ∃ v, W.cell? ⟨4, 0, none⟩ = some v ∧ (v = .nilIface ∨ ∃ te pe, v = .iface te pe)
theorem LaidS.below {W W' : World} (h : LaidS W) (hb : Below W.heap.size W W') : LaidS W' := by
  obtain ⟨h1, ⟨m, h2⟩, ⟨v3, h3, g3⟩, ⟨v4, h4, g4⟩⟩ := h
  exact ⟨Go.Proofs.Utf8Tabs_below h1 hb, ⟨m, (hb.cell (cell_in h2)).trans h2⟩, ⟨v3, (hb.cell (cell_in h3)).trans h3, g3⟩, ⟨v4, (hb.cell (cell_in h4)).trans h4, g4⟩⟩
/-- above all of these variables -/
def glim : Nat := max (max 1 2) (max 0 (max 3 4)) + 1
theorem LaidS.low {W W' : World} (h : LaidS W) (hb : Below glim W W') : LaidS W' := by
  obtain ⟨h1, ⟨m, h2⟩, ⟨v3, h3, g3⟩, ⟨v4, h4, g4⟩⟩ := h
  refine ⟨⟨fun c hc => (hb.cell ?_).trans (h1.1 c hc), fun i hi => ⟨(hb.cell ?_).trans (h1.2 i hi).1, (hb.cell ?_).trans (h1.2 i hi).2⟩⟩, ⟨m, (hb.cell ?_).trans h2⟩, ⟨v3, (hb.cell ?_).trans h3, g3⟩, ⟨v4, (hb.cell ?_).trans h4, g4⟩⟩
  all_goals (dsimp only; decide)
theorem LaidS.lim {W : World} (h : LaidS W) : glim ≤ W.heap.size := by
  obtain ⟨h1, ⟨m, h2⟩, ⟨v3, h3, g3⟩, ⟨v4, h4, g4⟩⟩ := h
  have a1 := cell_in h2
  have a2 := cell_in h3
  have a3 := cell_in h4
  have a4 := cell_in (h1.1 0 (by decide))
  have a5 := cell_in (h1.2 0 (by decide)).1
  unfold glim
  omega
end Go.Proofs.YtdgkpmpakkfgbaaGreatDoor
