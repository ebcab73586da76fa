/- What a row's listed variables give: the tables and errors that a scan reads. -/
import Derived.Test.YtglnnjcapcpkfacDoorRows
import Derived.Test.YtglnnjcapcpkfacDoorCards
import Derived.Test.YtglnnjcapcpkfacDoorTie
import Derived.Test.YtglnnjcapcpkfacDoorScMem
import Derived.Lib.LaidU8
import Derived.PinnedBridge
import Derived.Shelf.Vars
import Derived.Stop.LaidErr
import Derived.WalkKit
import Derived.ProofKit
import Derived.OpenShut
import Derived.Carry
import Derived.ChangeMaps5
import Derived.Deep.DeepHandedRow
import Derived.Lay
import Derived.LaidOnce
import Derived.SevenTiedAt
namespace Go.Proofs.YtglnnjcapcpkfacDoor
open Go.ChangeShapes Go.WideShapes Go.ChangeAt Go.RowKit

theorem own : ownKnob Tryd.prog.godebug = none := by kernel_rfl
theorem laidOut : laidOutB Tryd.prog = true := by kernel_rfl
theorem starS : "*" ++ "errors.errorString" = "*errors.errorString" := by decide
theorem row_errS (u : TypeId) (h : Tryd.prog.typeName? 3 u = some "*errors.errorString") : u = 132 :=
  typeName_ptr_named (nm := "errors.errorString") (by rw [starS]; kernel_rfl) (by kernel_rfl) (by decide) u (by rw [starS]; exact h)

set_option maxRecDepth 100000 in
theorem laidS_row {W : World} (h : laidMetH Tryd.prog Rows.scansBackRow.laid W) (hS : W.ShapedOpen Tryd.prog) : LaidS W := by
  rw [MakeChecks.laidMetH_plain Tryd.prog Rows.scansBackRow.laid W (by kernel_rfl)] at h
  have h4 := h.tail.tail.tail.tail
  refine ⟨?_, ?_, ?_, ?_⟩
  · exact utf8Tabs_of_reads (ρ := Tryd.lays260_ren) { Tryd.lays260 with } ⟨by kernel_rfl, by kernel_rfl, by kernel_rfl, by kernel_rfl, by kernel_rfl, by kernel_rfl, by kernel_rfl⟩
      (Pinned.utf8First_eq ▸ Lib.laidMet.reads h (by simp [Rows.scansBackRow, Rows.laid_unicode_utf8_first])) ((show Rows.laid_unicode_utf8_acceptRanges = Lib.acceptData by kernel_rfl) ▸ Lib.laidMet.reads h (by simp [Rows.scansBackRow]))
  · exact cell_of_shapedOpen_int hS (g := 0) (t := 3) (zero := #[.int .i64 0]) (of_decide_eq_true (by kernel_rfl)) (by kernel_rfl) (by kernel_rfl) (by kernel_rfl) (by kernel_rfl) (by kernel_rfl)
  · obtain ⟨a, s, hv, _⟩ := laid_sentinel (g := 6) (ti := 77) (tp := 132) (te := 134) (ts := 9) h4.tail (by kernel_rfl) (by kernel_rfl) Tryd.underlying77 row_errS Tryd.underlying132 Tryd.underlying134 rfl rfl Tryd.underlying9 (by kernel_rfl) (by kernel_rfl)
    exact ⟨_, by simpa using World.var?_cell (g := 6) (by kernel_rfl) hv 0, .inr ⟨_, _, rfl⟩⟩
  · obtain ⟨a, s, hv, _⟩ := laid_sentinel (g := 7) (ti := 77) (tp := 132) (te := 134) (ts := 9) h4 (by kernel_rfl) (by kernel_rfl) Tryd.underlying77 row_errS Tryd.underlying132 Tryd.underlying134 rfl rfl Tryd.underlying9 (by kernel_rfl) (by kernel_rfl)
    exact ⟨_, by simpa using World.var?_cell (g := 7) (by kernel_rfl) hv 0, .inr ⟨_, _, rfl⟩⟩
end Go.Proofs.YtglnnjcapcpkfacDoor
