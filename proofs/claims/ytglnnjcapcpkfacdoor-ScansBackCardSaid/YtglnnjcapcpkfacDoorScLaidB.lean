/- What a row's listed variables give where runes are written too. -/
import Derived.Test.YtglnnjcapcpkfacDoorScLaid
import Derived.Test.YtglnnjcapcpkfacDoorScFm
namespace Go.Proofs.YtglnnjcapcpkfacDoor
open Go.ChangeShapes Go.WideShapes Go.ChangeAt Go.RowKit

def bruijnTab : List Int := [0, 1, 56, 2, 57, 49, 28, 3, 61, 58, 42, 50, 38, 29, 17, 4, 62, 47, 59, 36, 45, 43, 51, 22, 53, 39, 33, 30, 24, 18, 12, 5, 63, 55, 48, 27, 60, 41, 37, 16, 46, 35, 44, 21, 52, 32, 23, 11, 54, 26, 40, 15, 34, 20, 31, 10, 25, 14, 19, 9, 13, 8, 7, 6]

set_option maxRecDepth 100000 in
theorem laidB_row {W : World} (h : laidMetH Tryd.prog Rows.scansBackRow.laid W) (hS : W.ShapedOpen Tryd.prog) : LaidB W := by
  refine ⟨laidS_row h hS, ?_⟩
  rw [MakeChecks.laidMetH_plain Tryd.prog Rows.scansBackRow.laid W (by kernel_rfl)] at h
  obtain ⟨g, t, cs, fuel, p, hg, hty, hvar, hd⟩ := Lib.laidMet.reads h (n := "math/bits.deBruijn64tab") (d := Rows.laid_math_bits_deBruijn64tab) (by simp [Rows.scansBackRow])
  have hgn : Tryd.prog.globalNamed "math/bits.deBruijn64tab" = some 5 := by kernel_rfl
  obtain rfl := Option.some.inj (hgn.symm.trans hg)
  obtain rfl := Option.some.inj ((show (Tryd.prog.globals[5]?).map (·.type) = some 122 by kernel_rfl).symm.trans hty)
  have hcs := Lib.cells_of_tab (k := .u8) (zs := bruijnTab) (n := 64) (e := 5) (by kernel_rfl) (by kernel_rfl) (by kernel_rfl) (by kernel_rfl) ((show Rows.laid_math_bits_deBruijn64tab (H := Unit) = Lib.tabData .u8 bruijnTab by kernel_rfl) ▸ hd)
  have ht : Lib.TabIs Tryd.prog W "math/bits.deBruijn64tab" .u8 bruijnTab := by
    unfold Lib.TabIs
    rw [hvar, ← hcs]
  exact ht.cell hgn 15 (by decide)
end Go.Proofs.YtglnnjcapcpkfacDoor
