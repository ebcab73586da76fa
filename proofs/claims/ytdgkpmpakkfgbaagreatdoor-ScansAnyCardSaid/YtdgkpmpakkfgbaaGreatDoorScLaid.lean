/- What a row's listed variables give: the tables and errors that a scan reads. -/
import Derived.Test.YtdgkpmpakkfgbaaGreatDoorRows
import Derived.Test.YtdgkpmpakkfgbaaGreatDoorCards
import Derived.Test.YtdgkpmpakkfgbaaGreatDoorTie
import Derived.Test.YtdgkpmpakkfgbaaGreatDoorScMem
import Derived.Lib.LaidU8
import Derived.PinnedBridge
import Derived.Shelf.Vars
import Derived.Stop.LaidErr
import Derived.WalkKit
import Derived.ProofKit
import Derived.OpenShut
import Derived.Carry
import Derived.ChangeMaps5
import Derived.Deep.DeepHandedRow
import Derived.Lay
import Derived.LaidOnce
import Derived.SevenTiedAt
namespace Go.Proofs.YtdgkpmpakkfgbaaGreatDoor
open Go.ChangeShapes Go.WideShapes Go.ChangeAt Go.RowKit

theorem own : ownKnob Tryz.prog.godebug = none := by kernel_rfl
theorem laidOut : laidOutB Tryz.prog = true := by kernel_rfl
theorem starS : "*" ++ "errors.errorString" = "*errors.errorString" := by decide
theorem row_errS (u : TypeId) (h : Tryz.prog.typeName? 3 u = some "*errors.errorString") : u = 129 :=
  typeName_ptr_named (nm := "errors.errorString") (by rw [starS]; kernel_rfl) (by kernel_rfl) (by decide) u (by rw [starS]; exact h)

set_option maxRecDepth 100000 in
theorem laidS_row {W : World} (h : laidMetH Tryz.prog Rows.scansAnyRow.laid W) (hS : W.ShapedOpen Tryz.prog) : LaidS W := by
  rw [MakeChecks.laidMetH_plain Tryz.prog Rows.scansAnyRow.laid W (by kernel_rfl)] at h
  have h4 := h.tail.tail.tail.tail
  refine ⟨?_, ?_, ?_, ?_⟩
  · exact utf8Tabs_of_reads (ρ := Tryz.lays260_ren) { Tryz.lays260 with } ⟨by kernel_rfl, by kernel_rfl, by kernel_rfl, by kernel_rfl, by kernel_rfl, by kernel_rfl, by kernel_rfl⟩
      (Pinned.utf8First_eq ▸ Lib.laidMet.reads h (by simp [Rows.scansAnyRow, Rows.laid_unicode_utf8_first])) ((show Rows.laid_unicode_utf8_acceptRanges = Lib.acceptData by kernel_rfl) ▸ Lib.laidMet.reads h (by simp [Rows.scansAnyRow]))
  · exact cell_of_shapedOpen_int hS (g := 0) (t := 3) (zero := #[.int .i64 0]) (of_decide_eq_true (by kernel_rfl)) (by kernel_rfl) (by kernel_rfl) (by kernel_rfl) (by kernel_rfl) (by kernel_rfl)
  · obtain ⟨a, s, hv, _⟩ := laid_sentinel (g := 3) (ti := 83) (tp := 129) (te := 131) (ts := 9) h4.tail (by kernel_rfl) (by kernel_rfl) Tryz.underlying83 row_errS Tryz.underlying129 Tryz.underlying131 rfl rfl Tryz.underlying9 (by kernel_rfl) (by kernel_rfl)
    exact ⟨_, by simpa using World.var?_cell (g := 3) (by kernel_rfl) hv 0, .inr ⟨_, _, rfl⟩⟩
  · obtain ⟨a, s, hv, _⟩ := laid_sentinel (g := 4) (ti := 83) (tp := 129) (te := 131) (ts := 9) h4 (by kernel_rfl) (by kernel_rfl) Tryz.underlying83 row_errS Tryz.underlying129 Tryz.underlying131 rfl rfl Tryz.underlying9 (by kernel_rfl) (by kernel_rfl)
    exact ⟨_, by simpa using World.var?_cell (g := 4) (by kernel_rfl) hv 0, .inr ⟨_, _, rfl⟩⟩
end Go.Proofs.YtdgkpmpakkfgbaaGreatDoor
