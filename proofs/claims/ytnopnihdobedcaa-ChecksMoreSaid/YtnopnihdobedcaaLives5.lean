/- The chapter's example, as the statements call it. -/
import Derived.Test.YtnopnihdobedcaaLives5a
namespace Go.Proofs.Ytnopnihdobedcaa
open Go.RowKit

theorem g0W_box (W : World) : ((g0W W).cell? ⟨W.heap.size + 1 + 1 + 1 + 1 + 1 + 1 + 1 + 1, 0, none⟩ = some (.string { data := #[] }) ∧ (g0W W).cell? ⟨W.heap.size + 1 + 1 + 1 + 1 + 1 + 1 + 1 + 1, 1, none⟩ = some (.int .i64 0) ∧
    (g0W W).cell? ⟨W.heap.size + 1 + 1 + 1 + 1 + 1 + 1 + 1 + 1, 2, none⟩ = some (.int .i64 0) ∧ (g0W W).cell? ⟨W.heap.size + 1 + 1 + 1 + 1 + 1 + 1 + 1 + 1, 3, none⟩ = some (.slice (some ⟨W.heap.size + 1 + 1 + 1 + 1 + 1 + 1 + 1, 0, none⟩) 2 2)) ∧ W.heap.size + 1 + 1 + 1 + 1 + 1 + 1 + 1 + 1 < (g0W W).heap.size := by
  simp [g0W, go_sem]

set_option maxHeartbeats 8000000 in
set_option maxRecDepth 40000 in
theorem lives5_ok (W : World) : Calls Try.prog 10 #[] W fun e W' => e = .returned (.bool true) ∧ Below W.heap.size W W' := by
  have hE := Lib.hid (empty_ok g0 (g0W W) _ _ _ _ (g0W_at W))
  have hat := Lib.hid (g0W_at W)
  obtain ⟨⟨b0, b1, b2, b3⟩, hlt⟩ := g0W_box W
  have hgr := Lib.hid (g0W_grew W)
  go_enter Try.func10, Try.ntmps10
  go_wp2_with fail
  change Calls _ _ _ (g0W W) _
  generalize g0W W = w5 at *
  refine hE.out.mono ?_
  rintro e w1 ⟨eb, es, rfl, hes, hoe, hle, hb1⟩
  obtain rfl := g0_empty hes
  have hG1 : Grew w5 w1 := hb1
  have c0 : w1.cell? ⟨W.heap.size + 1 + 1 + 1 + 1 + 1 + 1 + 1 + 1, 0, none⟩ = some (.string { data := #[] }) := by rw [hG1.cells _ _ hlt]; exact b0
  have c1 : w1.cell? ⟨W.heap.size + 1 + 1 + 1 + 1 + 1 + 1 + 1 + 1, 1, none⟩ = some (.int .i64 0) := by rw [hG1.cells _ _ hlt]; exact b1
  have c2 : w1.cell? ⟨W.heap.size + 1 + 1 + 1 + 1 + 1 + 1 + 1 + 1, 2, none⟩ = some (.int .i64 0) := by rw [hG1.cells _ _ hlt]; exact b2
  have c3 : w1.cell? ⟨W.heap.size + 1 + 1 + 1 + 1 + 1 + 1 + 1 + 1, 3, none⟩ = some (.slice (some ⟨W.heap.size + 1 + 1 + 1 + 1 + 1 + 1 + 1, 0, none⟩) 2 2) := by rw [hG1.cells _ _ hlt]; exact b3
  have hR := Lib.hid (reach_ok g0 w1 _ _ _ _ (by decide) ((hat.out.keep hG1).mono hG1.size))
  have HG1 := Lib.hid hG1
  have HO1 := Lib.hid hoe
  have hlen : g0.rules.length = 2 := rfl
  rw [hlen]
  clear hes hoe hb1 b0 b1 b2 b3 hG1 hE
  go_wp2_with fail
  refine hR.out.mono ?_
  rintro e w2 ⟨B, ob, rb, f, es', M, rfl, hes, hre, hmat, hB, hrb, hb2⟩
  obtain rfl := g0_empty hes
  rw [hlen] at hre hmat ⊢
  obtain ⟨m00, m01, m10, m11⟩ := g0_reach hre
  have hG2 : Grew w1 w2 := hb2
  have hlt1 : W.heap.size + 1 + 1 + 1 + 1 + 1 + 1 + 1 + 1 < w1.heap.size := by have := HG1.out.size; omega
  have d0 : w2.cell? ⟨W.heap.size + 1 + 1 + 1 + 1 + 1 + 1 + 1 + 1, 0, none⟩ = some (.string { data := #[] }) := by rw [hG2.cells _ _ hlt1]; exact c0
  have d1 : w2.cell? ⟨W.heap.size + 1 + 1 + 1 + 1 + 1 + 1 + 1 + 1, 1, none⟩ = some (.int .i64 0) := by rw [hG2.cells _ _ hlt1]; exact c1
  have d2 : w2.cell? ⟨W.heap.size + 1 + 1 + 1 + 1 + 1 + 1 + 1 + 1, 2, none⟩ = some (.int .i64 0) := by rw [hG2.cells _ _ hlt1]; exact c2
  have d3 : w2.cell? ⟨W.heap.size + 1 + 1 + 1 + 1 + 1 + 1 + 1 + 1, 3, none⟩ = some (.slice (some ⟨W.heap.size + 1 + 1 + 1 + 1 + 1 + 1 + 1, 0, none⟩) 2 2) := by rw [hG2.cells _ _ hlt1]; exact c3
  have hlt2 : W.heap.size + 1 + 1 + 1 + 1 + 1 + 1 + 1 + 1 < w2.heap.size := by have := hG2.size; omega
  have hoe2 := HO1.out.keep hG2
  have x0 : w2.cell? ⟨eb, 0, none⟩ = some (.bool true) := hoe2.cell_at rfl
  have x1 : w2.cell? ⟨eb, 1, none⟩ = some (.bool false) := hoe2.cell_at rfl
  have y0 := hmat.row (i := 0) (by omega)
  have y1 := hmat.row (i := 1) (by omega)
  have z00 := hmat.cell (i := 0) (k := 0) (by omega) (by omega)
  have z01 := hmat.cell (i := 0) (k := 1) (by omega) (by omega)
  have z10 := hmat.cell (i := 1) (k := 0) (by omega) (by omega)
  have z11 := hmat.cell (i := 1) (k := 1) (by omega) (by omega)
  rw [m00] at z00
  rw [m01] at z01
  rw [m10] at z10
  rw [m11] at z11
  have HAT := Lib.hid ((hat.out.keep (HG1.out.trans hG2)).mono (HG1.out.trans hG2).size)
  have hF := Lib.hid (find_ok g0 { data := #[98] } w2 _ _ _ _ HAT.out)
  rw [g0_findb] at hF
  have HG2 := Lib.hid (hgr.out.trans (HG1.out.trans hG2))
  have HM := Lib.hid hmat
  clear hes hre hmat hb2 hG2 hoe2 c0 c1 c2 c3 hR hlen m00 m01 m10 m11
  go_wp2_with fail
  refine hF.out.mono ?_
  rintro e w3 ⟨rfl, hb3⟩
  have hG3 : Grew w2 w3 := hb3
  have c0 : w3.cell? ⟨W.heap.size + 1 + 1 + 1 + 1 + 1 + 1 + 1 + 1, 0, none⟩ = some (.string { data := #[] }) := by rw [hG3.cells _ _ hlt2]; exact d0
  have c1 : w3.cell? ⟨W.heap.size + 1 + 1 + 1 + 1 + 1 + 1 + 1 + 1, 1, none⟩ = some (.int .i64 0) := by rw [hG3.cells _ _ hlt2]; exact d1
  have c2 : w3.cell? ⟨W.heap.size + 1 + 1 + 1 + 1 + 1 + 1 + 1 + 1, 2, none⟩ = some (.int .i64 0) := by rw [hG3.cells _ _ hlt2]; exact d2
  have c3 : w3.cell? ⟨W.heap.size + 1 + 1 + 1 + 1 + 1 + 1 + 1 + 1, 3, none⟩ = some (.slice (some ⟨W.heap.size + 1 + 1 + 1 + 1 + 1 + 1 + 1, 0, none⟩) 2 2) := by rw [hG3.cells _ _ hlt2]; exact d3
  have hF2 := Lib.hid (find_ok g0 { data := #[99] } w3 _ _ _ _ ((HAT.out.keep hG3).mono hG3.size))
  rw [g0_findc] at hF2
  have HG3 := Lib.hid (HG2.out.trans hG3)
  clear hb3 hG3 hF
  go_wp2_with (go_at_call 15; refine hF2.out.mono ?_; rintro e w4 ⟨rfl, hb4⟩)
  go_ret
  exact ⟨rfl, HG3.out.trans hb4⟩
end Go.Proofs.Ytnopnihdobedcaa
