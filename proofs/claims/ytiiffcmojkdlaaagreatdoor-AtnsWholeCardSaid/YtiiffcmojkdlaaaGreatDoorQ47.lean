/- harbingerlaw12.lives: it answers true. -/
import Derived.Test.YtiiffcmojkdlaaaGreatDoorQ46
import Derived.Test.YtiiffcmojkdlaaaGreatDoorQ31
namespace Go.Proofs.YtiiffcmojkdlaaaGreatDoor
open Go.RowKit

theorem n12_may : n12.mayB = true := by kernel_rfl
/-- the cells that the example asks after -/
structure N12At (w : World) (lim : Nat) (n0 n1 n2 n3 n4 : Value) : Prop where
  cells : ∃ sb so nc db ob dc e0b e0o e0c e2b e2o e2c d2b d2o d2c e5b e5o e5c, n0 = .slice (some ⟨sb, so, none⟩) 6 nc ∧ n4 = .slice (some ⟨db, ob, none⟩) 1 dc ∧
    (sb < lim ∧ db < lim ∧ e0b < lim ∧ e2b < lim ∧ d2b < lim ∧ e5b < lim) ∧ w.cell? ⟨db, ob, none⟩ = some (.int .i64 2) ∧
    w.cell? ⟨sb, so + 1, none⟩ = some (.slice (some ⟨e0b, e0o, none⟩) 1 e0c) ∧ w.cell? ⟨sb, so + 6 + 1, none⟩ = some (.slice (some ⟨e2b, e2o, none⟩) 2 e2c) ∧ w.cell? ⟨sb, so + 6 + 2, none⟩ = some (.slice (some ⟨d2b, d2o, none⟩) 2 d2c) ∧
    w.cell? ⟨sb, so + 15 + 1, none⟩ = some (.slice (some ⟨e5b, e5o, none⟩) 1 e5c) ∧
    (w.cell? ⟨e0b, e0o, none⟩ = some (.int .u8 0) ∧ w.cell? ⟨e0b, e0o + 1, none⟩ = some (.int .i64 0) ∧ w.cell? ⟨e0b, e0o + 2, none⟩ = some (.int .i64 2)) ∧
    (w.cell? ⟨e2b, e2o + 3, none⟩ = some (.int .u8 0) ∧ w.cell? ⟨e2b, e2o + 3 + 1, none⟩ = some (.int .i64 0) ∧ w.cell? ⟨e2b, e2o + 3 + 2, none⟩ = some (.int .i64 5)) ∧
    (w.cell? ⟨d2b, d2o + 1, none⟩ = some (.int .i64 3)) ∧
    (w.cell? ⟨e5b, e5o, none⟩ = some (.int .u8 1) ∧ w.cell? ⟨e5b, e5o + 1, none⟩ = some (.int .i64 1) ∧ w.cell? ⟨e5b, e5o + 2, none⟩ = some (.int .i64 3))
  n1 : ∃ a c, n1 = .slice a 1 c
  n2 : ∃ a c, n2 = .slice a 1 c
  n3 : ∃ a c, n3 = .slice a 0 c
theorem n12_at {w : World} {lim : Nat} {n0 n1 n2 n3 n4 : Value} (h : NetAt w lim n0 n1 n2 n3 n4 n12) : N12At w lim n0 n1 n2 n3 n4 := by
  obtain ⟨⟨na, nc, h0, hS⟩, ⟨a1, c1, h1, -⟩, ⟨a2, c2, h2, -⟩, ⟨a3, c3, h3, -⟩, da, dc, h4, hD⟩ := h
  refine ⟨?_, ⟨a1, c1, h1⟩, ⟨a2, c2, h2⟩, ⟨a3, c3, h3⟩⟩
  obtain ⟨sb, so, rfl, hsb, -, ⟨e0a, e0c, k0, E0⟩, -⟩ := hS 0 (by decide)
  obtain ⟨sb', so', e2, -, -, ⟨e2a, e2c, k2, E2⟩, d2a, d2c, k3, D2⟩ := hS 2 (by decide)
  cases e2
  obtain ⟨sb', so', e5, -, -, ⟨e5a, e5c, k5, E5⟩, -⟩ := hS 5 (by decide)
  cases e5
  obtain ⟨db, ob, rfl, hdb, hd⟩ := hD 0 (by decide)
  obtain ⟨e0b, e0o, rfl, hb0, x0, x1, x2⟩ := E0 0 (by decide)
  obtain ⟨e2b, e2o, rfl, hb2, y0, y1, y2⟩ := E2 1 (by decide)
  obtain ⟨d2b, d2o, rfl, hbd, z0⟩ := D2 1 (by decide)
  obtain ⟨e5b, e5o, rfl, hb5, u0, u1, u2⟩ := E5 0 (by decide)
  exact ⟨sb, so, nc, db, ob, dc, e0b, e0o, e0c, e2b, e2o, e2c, d2b, d2o, d2c, e5b, e5o, e5c, h0, h4, ⟨hsb, hdb, hb0, hb2, hbd, hb5⟩, hd, k0, k2, k3, k5, ⟨x0, x1, x2⟩, ⟨y0, y1, y2⟩, z0, u0, u1, u2⟩

set_option maxHeartbeats 4000000 in
set_option maxRecDepth 40000 in
theorem lives12_ok (W : World) : Calls Tryz.prog 6 #[] W fun e W' => e = .returned (.bool true) ∧ Grew W W' := by
  have HB := Lib.hid (build12_ok g12 g12_fair (g12W W) _ _ _ _ (g12W_at W))
  have HG := Lib.hid (g12W_grew W)
  go_enter Tryz.func6, Tryz.ntmps6
  go_wp2_with fail
  refine HB.out.mono ?_
  rintro e w4 ⟨hg4, n0, n1, n2, n3, n4, k, rfl, hcase⟩
  rcases hcase with ⟨rfl, -, E, m, hEr, hEt, hbuilt, hfull, -, -, -, hnet⟩ | ⟨-, hbad, -⟩
  · obtain rfl := g12_built hEr hEt hbuilt
    rw [m12_net] at hnet
    have hM := Lib.hid (fun w (hg : Grew w4 w) => AMay_ok n12 w _ _ _ _ _ ((hnet.keep hg).mono hg.size) (by decide) (by decide) (by decide) (by decide) (by decide) (by decide))
    rw [n12_may] at hM
    obtain ⟨⟨sb, so, nc, db, ob, dc, e0b, e0o, e0c, e2b, e2o, e2c, d2b, d2o, d2c, e5b, e5o, e5c, rfl, rfl, ⟨l1, l2, l3, l4, l5, l6⟩, q1, q2, q3, q4, q5, ⟨x0, x1, x2⟩, ⟨y0, y1, y2⟩, z0, u0, u1, u2⟩, ⟨a1, c1, rfl⟩, ⟨a2, c2, rfl⟩, a3, c3, rfl⟩ := n12_at hnet
    have HW := Lib.hid (HG.out.trans hg4)
    have g5 := grew_alloc w4 (.cells #[.slice (some ⟨sb, so, none⟩) 6 nc, .slice a1 1 c1, .slice a2 1 c2, .slice a3 0 c3, .slice (some ⟨db, ob, none⟩) 1 dc] 32)
    have o5 := Owns.alloc w4 [.slice (some ⟨sb, so, none⟩) 6 nc, .slice a1 1 c1, .slice a2 1 c2, .slice a3 0 c3, .slice (some ⟨db, ob, none⟩) 1 dc] 32
    clear hnet hEr hEt hbuilt hfull hg4 HB HG
    go_wp2_with fail
    refine (hM.out _ g5).mono ?_
    rintro e w6 ⟨rfl, hg6⟩
    have G := g5.trans hg6
    have o6 := o5.keep hg6
    have b0 := o6.cell_at (i := 0) rfl
    have b4 := o6.cell_at (i := 4) rfl
    have bl := o6.lt
    have q1 := (G.cells _ _ l2).trans q1
    have q2 := (G.cells _ _ l1).trans q2
    have q3 := (G.cells _ _ l1).trans q3
    have q4 := (G.cells _ _ l1).trans q4
    have q5 := (G.cells _ _ l1).trans q5
    have x0 := (G.cells _ _ l3).trans x0
    have x1 := (G.cells _ _ l3).trans x1
    have x2 := (G.cells _ _ l3).trans x2
    have y0 := (G.cells _ _ l4).trans y0
    have y1 := (G.cells _ _ l4).trans y1
    have y2 := (G.cells _ _ l4).trans y2
    have z0 := (G.cells _ _ l5).trans z0
    have u0 := (G.cells _ _ l6).trans u0
    have u1 := (G.cells _ _ l6).trans u1
    have u2 := (G.cells _ _ l6).trans u2
    have hsz := G.size
    have l1 := Nat.lt_of_lt_of_le l1 hsz
    have l2 := Nat.lt_of_lt_of_le l2 hsz
    have l3 := Nat.lt_of_lt_of_le l3 hsz
    have l4 := Nat.lt_of_lt_of_le l4 hsz
    have l5 := Nat.lt_of_lt_of_le l5 hsz
    have l6 := Nat.lt_of_lt_of_le l6 hsz
    have HW6 := Lib.hid (HW.out.trans G)
    clear G hM hg6 o5 o6 g5 hsz HW
    clear l1 l2 l3 l4 l5 l6
    go_wp2_with fail
    go_ret
    exact ⟨rfl, HW6.out⟩
  · exact absurd hbad g12_good
end Go.Proofs.YtiiffcmojkdlaaaGreatDoor
