/- What a row's listed variables give: the tables that are read. -/
import Derived.Test.YtajfhlnckjnboaaDoorRows
import Derived.Test.YtajfhlnckjnboaaDoorCards
import Derived.Test.YtajfhlnckjnboaaDoorTie
import Derived.Test.YtajfhlnckjnboaaDoorRu4
import Derived.Lib.LaidU8
import Derived.PinnedBridge
import Derived.Shelf.Vars
import Derived.WalkKit
import Derived.ProofKit
import Derived.OpenShut
import Derived.Carry
import Derived.ChangeMaps5
import Derived.Deep.DeepHandedRow
import Derived.Lay
import Derived.LaidOnce
import Derived.SevenTiedAt
namespace Go.Proofs.YtajfhlnckjnboaaDoor
open Go.ChangeShapes Go.WideShapes Go.ChangeAt Go.RowKit

theorem own : ownKnob Tryd.prog.godebug = none := by kernel_rfl
theorem laidOut : laidOutB Tryd.prog = true := by kernel_rfl

def bruijnTab : List Int := [0, 1, 56, 2, 57, 49, 28, 3, 61, 58, 42, 50, 38, 29, 17, 4, 62, 47, 59, 36, 45, 43, 51, 22, 53, 39, 33, 30, 24, 18, 12, 5, 63, 55, 48, 27, 60, 41, 37, 16, 46, 35, 44, 21, 52, 32, 23, 11, 54, 26, 40, 15, 34, 20, 31, 10, 25, 14, 19, 9, 13, 8, 7, 6]

set_option maxRecDepth 100000 in
theorem laid_row {W : World} (h : laidMetH Tryd.prog Rows.runesPlacesRow.laid W) (hS : W.ShapedOpen Tryd.prog) : Laid W := by
  rw [MakeChecks.laidMetH_plain Tryd.prog Rows.runesPlacesRow.laid W (by kernel_rfl)] at h
  refine ⟨?_, ?_, ?_⟩
  · exact utf8Tabs_of_reads (ρ := Tryd.lays260_ren) { Tryd.lays260 with } ⟨by kernel_rfl, by kernel_rfl, by kernel_rfl, by kernel_rfl, by kernel_rfl, by kernel_rfl, by kernel_rfl⟩
      (Pinned.utf8First_eq ▸ Lib.laidMet.reads h (by simp [Rows.runesPlacesRow, Rows.laid_unicode_utf8_first])) ((show Rows.laid_unicode_utf8_acceptRanges = Lib.acceptData by kernel_rfl) ▸ Lib.laidMet.reads h (by simp [Rows.runesPlacesRow]))
  · obtain ⟨g, t, cs, fuel, p, hg, hty, hvar, hd⟩ := Lib.laidMet.reads h (n := "math/bits.deBruijn64tab") (d := Rows.laid_math_bits_deBruijn64tab) (by simp [Rows.runesPlacesRow])
    have hgn : Tryd.prog.globalNamed "math/bits.deBruijn64tab" = some 7 := by kernel_rfl
    obtain rfl := Option.some.inj (hgn.symm.trans hg)
    obtain rfl := Option.some.inj ((show (Tryd.prog.globals[7]?).map (·.type) = some 94 by kernel_rfl).symm.trans hty)
    have hcs := Lib.cells_of_tab (k := .u8) (zs := bruijnTab) (n := 64) (e := 5) (by kernel_rfl) (by kernel_rfl) (by kernel_rfl) (by kernel_rfl) ((show Rows.laid_math_bits_deBruijn64tab (H := Unit) = Lib.tabData .u8 bruijnTab by kernel_rfl) ▸ hd)
    have ht : Lib.TabIs Tryd.prog W "math/bits.deBruijn64tab" .u8 bruijnTab := by
      unfold Lib.TabIs
      rw [hvar, ← hcs]
    exact ht.cell hgn 15 (by decide)
  · exact cell_of_shapedOpen_int hS (g := 0) (t := 3) (zero := #[.int .i64 0]) (of_decide_eq_true (by kernel_rfl)) (by kernel_rfl) (by kernel_rfl) (by kernel_rfl) (by kernel_rfl) (by kernel_rfl)
end Go.Proofs.YtajfhlnckjnboaaDoor
