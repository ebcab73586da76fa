/- What a row's listed variables give: the table that is read. -/
import Derived.Test.YtogmlonhciiomaaDoorPrOpen
import Derived.Test.YtogmlonhciiomaaDoorShut
import Derived.Test.YtogmlonhciiomaaDoorRows
import Derived.Test.YtogmlonhciiomaaDoorCards
import Derived.Test.YtogmlonhciiomaaDoorTie
import Derived.Lib.LaidU8
import Derived.WalkKit
import Derived.ProofKit
import Derived.OpenShut
import Derived.Carry
import Derived.ChangeMaps5
import Derived.Deep.DeepHandedRow
import Derived.Lay
import Derived.LaidOnce
import Derived.SevenTiedAt
namespace Go.Proofs.YtogmlonhciiomaaDoor
open Go.ChangeShapes Go.WideShapes Go.ChangeAt Go.RowKit

theorem pown : ownKnob Tryd.prog.godebug = none := by kernel_rfl
theorem plaidOut : laidOutB Tryd.prog = true := by kernel_rfl

set_option maxRecDepth 100000 in
theorem tab_row {W : World} {laid : List (String × DataW Unit)} (hm : ("internal/strconv.uint64pow10", Rows.laid_internal_strconv_uint64pow10) ∈ laid) (hk : laidMetH Tryd.prog laid W = laidMet Tryd.prog laid W) (h : laidMetH Tryd.prog laid W) : Tab W := by
  rw [hk] at h
  obtain ⟨g, t, cs, fuel, p, hg, hty, hvar, hd⟩ := Lib.laidMet.reads h (n := "internal/strconv.uint64pow10") (d := Rows.laid_internal_strconv_uint64pow10) hm
  have hgn : Tryd.prog.globalNamed "internal/strconv.uint64pow10" = some 0 := by kernel_rfl
  obtain rfl := Option.some.inj (hgn.symm.trans hg)
  obtain rfl := Option.some.inj ((show (Tryd.prog.globals[0]?).map (·.type) = some 106 by kernel_rfl).symm.trans hty)
  have hcs := Lib.cells_of_tab (k := .u64) (zs := Lib.pow10Tab) (n := 20) (e := 96) (by kernel_rfl) (by kernel_rfl) (by kernel_rfl) (by kernel_rfl) ((show Rows.laid_internal_strconv_uint64pow10 (H := Unit) = Lib.tabData .u64 Lib.pow10Tab by kernel_rfl) ▸ hd)
  show Lib.TabIs Tryd.prog W "internal/strconv.uint64pow10" .u64 Lib.pow10Tab
  unfold Lib.TabIs
  rw [hvar, ← hcs]
end Go.Proofs.YtogmlonhciiomaaDoor
