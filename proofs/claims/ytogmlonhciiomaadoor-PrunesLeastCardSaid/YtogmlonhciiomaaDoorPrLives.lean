/- lives: the chapter's example is run. -/
import Derived.Test.YtogmlonhciiomaaDoorPrEqual
import Derived.Test.YtogmlonhciiomaaDoorPrLeast
import Derived.Test.YtogmlonhciiomaaDoorPrEx
namespace Go.Proofs.YtogmlonhciiomaaDoor
open Go.RowKit

theorem row_owned {W : World} {b T size n : Nat} {cs : List Value} (h : Owns W b cs T) (hl : cs.length = n * size) (hn : n ≤ maxLen) : looseRow W b T size (.slice (some ⟨b, 0, none⟩) n n) n cs :=
  ⟨hl, .inr ⟨b, n, _, rfl, Nat.le_refl _, h, Nat.le_refl _, hn, by simp [hl], by rw [← hl]; simp⟩⟩
theorem ints_nil {W : World} {lim : Nat} : IntsV W lim (.slice none 0 0) [] := ⟨none, 0, rfl, Nat.le_refl _, fun _ h => absurd h (by simp)⟩
theorem eds_nil {W : World} {lim : Nat} : EdsV W lim (.slice none 0 0) [] := ⟨none, 0, rfl, Nat.le_refl _, fun _ h => absurd h (by simp)⟩
theorem row_get {W : World} {base e size n : Nat} {v : Value} {xs : List Value} (h : looseRow W base e size v (n + 1) xs) : ∃ g cap, v = .slice (some ⟨g, 0, none⟩) (n + 1) cap ∧ g < W.heap.size ∧ ∀ j u, xs[j]? = some u → W.cell? ⟨g, j, none⟩ = some u := by
  rcases row_cells h with ⟨_, h2⟩ | ⟨g, cap, h1, _, _, h2, h3⟩
  · omega
  · exact ⟨g, cap, h1, h2, h3⟩

/-- the example's row of states -/
def exV (b : Nat) : List (Value × Value × Value) :=
  [(.int .u8 0, .slice none 0 0, .slice (some ⟨b, 0, none⟩) 3 3), (.int .u8 0, .slice none 0 0, .slice (some ⟨b + 1, 0, none⟩) 1 1), (.int .u8 0, .slice none 0 0, .slice (some ⟨b + 1 + 1, 0, none⟩) 1 1),
    (.int .u8 1, .slice (some ⟨b + 1 + 1 + 1, 0, none⟩) 1 1, .slice none 0 0), (.int .u8 0, .slice none 0 0, .slice (some ⟨b + 1 + 1 + 1 + 1, 0, none⟩) 1 1)]
theorem exA_mem {W : World} {b : Nat} (o1 : Owns W b (edVs [⟨1, 1⟩, ⟨2, 2⟩, ⟨3, 4⟩]) 53) (o2 : Owns W (b + 1) (edVs [⟨1, 3⟩]) 53) (o3 : Owns W (b + 1 + 1) (edVs [⟨1, 3⟩]) 53)
    (o4 : Owns W (b + 1 + 1 + 1) (intVs [0]) 3) (o5 : Owns W (b + 1 + 1 + 1 + 1) (edVs [⟨1, 4⟩]) 53) (o6 : Owns W (b + 1 + 1 + 1 + 1 + 1) (triVs (exV b)) 51) :
    AutV .u8 W W.heap.size (.slice (some ⟨b + 1 + 1 + 1 + 1 + 1, 0, none⟩) 5 5) exA := by
  refine sts_of_row (l := exA) (row_owned (n := 5) o6 rfl (by decide)) ⟨rfl, fun k h h' => ?_⟩
  match k, h, h' with
  | 0, _, _ => exact ⟨rfl, ints_nil, eds_of_row (l := [⟨1, 1⟩, ⟨2, 2⟩, ⟨3, 4⟩]) (row_owned (n := 3) o1 rfl (by decide))⟩
  | 1, _, _ => exact ⟨rfl, ints_nil, eds_of_row (l := [⟨1, 3⟩]) (row_owned (n := 1) o2 rfl (by decide))⟩
  | 2, _, _ => exact ⟨rfl, ints_nil, eds_of_row (l := [⟨1, 3⟩]) (row_owned (n := 1) o3 rfl (by decide))⟩
  | 3, _, _ => exact ⟨rfl, ints_of_row (l := [0]) (row_owned (n := 1) o4 rfl (by decide)), eds_nil⟩
  | 4, _, _ => exact ⟨rfl, ints_nil, eds_of_row (l := [⟨1, 4⟩]) (row_owned (n := 1) o5 rfl (by decide))⟩
  | n + 5, h, _ => exact absurd h (by simp [exA])
theorem exA_few : exA.Few := ⟨by decide, fun s hs => by
  simp only [exA, List.mem_cons, List.not_mem_nil, or_false] at hs
  rcases hs with rfl | rfl | rfl | rfl | rfl <;> decide, fun s hs => by
  simp only [exA, List.mem_cons, List.not_mem_nil, or_false] at hs
  rcases hs with rfl | rfl | rfl | rfl | rfl <;> decide⟩
/-- a run of the example -/
theorem exA_run (w : List Int) (hw : w.length ≤ 1000000) {k : Int} {l : List Int} {n : Nat} (h : runR exA 0 0 w = (k, l, n)) (W : World) (v : Value) (b m : Nat) (hm : m = w.length) (hA : AutV .u8 W W.heap.size v exA) (hb : Owns W b (intVs w) 3) :
    Calls Tryd.prog 11 #[.agg #[v], .slice (some ⟨b, 0, none⟩) m m] W fun e W' => ∃ av, e = .returned (.tuple #[.int .u8 k, av, .int .i64 n]) ∧ looseRow W' W.heap.size 3 1 av l.length (intVs l) ∧ Grew W W' := by
  subst hm
  have h2 := pRun_ok exA exA_few w hw W v (.slice (some ⟨b, 0, none⟩) w.length w.length) hA (ints_of_row (row_owned hb (by simp [intVs]) (by unfold maxLen; omega)))
  rw [h] at h2
  exact h2

set_option maxHeartbeats 4000000 in
set_option maxRecDepth 40000 in
theorem plives_ok (W : World) (hT : Tab W) : Calls Tryd.prog 8 #[] W fun e W' => e = .returned (.bool true) ∧ Grew W W' := by
  obtain ⟨w1, hw1⟩ : ∃ w1, W.alloc (.cells #[.int .i64 1, .int .i64 1, .int .i64 2, .int .i64 2, .int .i64 3, .int .i64 4] 53) = w1 := ⟨_, rfl⟩
  obtain ⟨w2, hw2⟩ : ∃ w2, w1.alloc (.cells #[.int .i64 1, .int .i64 3] 53) = w2 := ⟨_, rfl⟩
  obtain ⟨w3, hw3⟩ : ∃ w3, w2.alloc (.cells #[.int .i64 1, .int .i64 3] 53) = w3 := ⟨_, rfl⟩
  obtain ⟨w4, hw4⟩ : ∃ w4, w3.alloc (.cells #[.int .i64 0] 3) = w4 := ⟨_, rfl⟩
  obtain ⟨w5, hw5⟩ : ∃ w5, w4.alloc (.cells #[.int .i64 1, .int .i64 4] 53) = w5 := ⟨_, rfl⟩
  obtain ⟨w6, hw6⟩ : ∃ w6, w5.alloc (.cells (triVs (exV W.heap.size)).toArray 51) = w6 := ⟨_, rfl⟩
  obtain ⟨w7, hw7⟩ : ∃ w7, w6.alloc (.cells #[.slice (some ⟨W.heap.size + 1 + 1 + 1 + 1 + 1, 0, none⟩) 5 5] 24) = w7 := ⟨_, rfl⟩
  have z1 : w1.heap.size = W.heap.size + 1 := by rw [← hw1]; exact World.size_alloc W _
  have z2 : w2.heap.size = W.heap.size + 1 + 1 := by rw [← hw2, World.size_alloc, z1]
  have z3 : w3.heap.size = W.heap.size + 1 + 1 + 1 := by rw [← hw3, World.size_alloc, z2]
  have z4 : w4.heap.size = W.heap.size + 1 + 1 + 1 + 1 := by rw [← hw4, World.size_alloc, z3]
  have z5 : w5.heap.size = W.heap.size + 1 + 1 + 1 + 1 + 1 := by rw [← hw5, World.size_alloc, z4]
  have z6 : w6.heap.size = W.heap.size + 1 + 1 + 1 + 1 + 1 + 1 := by rw [← hw6, World.size_alloc, z5]
  have g1 : Grew W w1 := hw1 ▸ grew_alloc W _
  have g2 : Grew w1 w2 := hw2 ▸ grew_alloc w1 _
  have g3 : Grew w2 w3 := hw3 ▸ grew_alloc w2 _
  have g4 : Grew w3 w4 := hw4 ▸ grew_alloc w3 _
  have g5 : Grew w4 w5 := hw5 ▸ grew_alloc w4 _
  have g6 : Grew w5 w6 := hw6 ▸ grew_alloc w5 _
  have g7 : Grew w6 w7 := hw7 ▸ grew_alloc w6 _
  have o1 : Owns w1 W.heap.size (edVs [⟨1, 1⟩, ⟨2, 2⟩, ⟨3, 4⟩]) 53 := hw1 ▸ Owns.alloc W _ _
  have o2 : Owns w2 (W.heap.size + 1) (edVs [⟨1, 3⟩]) 53 := by rw [← z1, ← hw2]; exact Owns.alloc w1 _ _
  have o3 : Owns w3 (W.heap.size + 1 + 1) (edVs [⟨1, 3⟩]) 53 := by rw [← z2, ← hw3]; exact Owns.alloc w2 _ _
  have o4 : Owns w4 (W.heap.size + 1 + 1 + 1) (intVs [0]) 3 := by rw [← z3, ← hw4]; exact Owns.alloc w3 _ _
  have o5 : Owns w5 (W.heap.size + 1 + 1 + 1 + 1) (edVs [⟨1, 4⟩]) 53 := by rw [← z4, ← hw5]; exact Owns.alloc w4 _ _
  have o6 : Owns w6 (W.heap.size + 1 + 1 + 1 + 1 + 1) (triVs (exV W.heap.size)) 51 := by rw [← z5, ← hw6]; exact Owns.alloc w5 _ _
  have o7 : Owns w7 (W.heap.size + 1 + 1 + 1 + 1 + 1 + 1) [.slice (some ⟨W.heap.size + 1 + 1 + 1 + 1 + 1, 0, none⟩) 5 5] 24 := by rw [← z6, ← hw7]; exact Owns.alloc w6 _ _
  have hA := exA_mem (((((o1.keep g2).keep g3).keep g4).keep g5).keep g6) ((((o2.keep g3).keep g4).keep g5).keep g6) (((o3.keep g4).keep g5).keep g6) ((o4.keep g5).keep g6) (o5.keep g6) o6
  have hA := hA.grew g7
  have HG7 := Lib.hid ((((((g1.trans g2).trans g3).trans g4).trans g5).trans g6).trans g7)
  have HA := Lib.hid hA
  have HO7 := Lib.hid o7
  have HT := Lib.hid hT
  rw [show triVs (exV W.heap.size) = [.int .u8 0, .slice none 0 0, .slice (some ⟨W.heap.size, 0, none⟩) 3 3, .int .u8 0, .slice none 0 0, .slice (some ⟨W.heap.size + 1, 0, none⟩) 1 1, .int .u8 0, .slice none 0 0, .slice (some ⟨W.heap.size + 1 + 1, 0, none⟩) 1 1,
    .int .u8 1, .slice (some ⟨W.heap.size + 1 + 1 + 1, 0, none⟩) 1 1, .slice none 0 0, .int .u8 0, .slice none 0 0, .slice (some ⟨W.heap.size + 1 + 1 + 1 + 1, 0, none⟩) 1 1] from rfl] at hw6
  clear g1 g2 g3 g4 g5 g6 g7 o1 o2 o3 o4 o5 o6 hA hT
  go_enter Tryd.func8, Tryd.ntmps8
  go_upto_region 2 with fail
  have q7 := HO7.out.cell_at (i := 0) rfl
  clear hw1 hw2 hw3 hw4 hw5 hw6 hw7 z1 z2 z3 z4 z5 z6
  generalize W.heap.size + 1 + 1 + 1 + 1 + 1 + 1 = BX at *
  generalize W.heap.size + 1 + 1 + 1 + 1 + 1 = BS at *
  obtain ⟨w8, hw8⟩ : ∃ w8, w7.alloc (.cells #[.int .i64 1, .int .i64 1] 3) = w8 := ⟨_, rfl⟩
  have g8 : Grew w7 w8 := hw8 ▸ grew_alloc w7 _
  have o8 : Owns w8 w7.heap.size (intVs [1, 1]) 3 := hw8 ▸ Owns.alloc w7 _ _
  have HC := Lib.hid (exA_run [1, 1] (by decide) exA_runs.1 w8 _ _ 2 rfl (HA.out.grew g8) o8)
  have HG8 := Lib.hid g8
  clear g8 o8
  go_wp2_with fail
  refine HC.out.mono ?_
  rintro e w9 ⟨av, rfl, hr, hg9⟩
  obtain ⟨ag, ac, rfl, hal, hac⟩ := row_get hr
  have a0 := hac 0 _ rfl
  have q9 := (HO7.out.keep (HG8.out.trans hg9)).cell_at (i := 0) rfl
  have HO9 := Lib.hid (HO7.out.keep (HG8.out.trans hg9))
  have HG9 := Lib.hid (HG7.out.trans (HG8.out.trans hg9))
  have HA9 := Lib.hid (HA.out.grew (HG8.out.trans hg9))
  have HA0 := Lib.hid a0
  clear hr hg9 hac hw8 HG8 HC HO7 HG7 HA q7 a0
  go_upto_region 3 with fail
  obtain ⟨w10, hw10⟩ : ∃ w10, w9.alloc (.cells #[.int .i64 2] 3) = w10 := ⟨_, rfl⟩
  have g10 : Grew w9 w10 := hw10 ▸ grew_alloc w9 _
  have o10 : Owns w10 w9.heap.size (intVs [2]) 3 := hw10 ▸ Owns.alloc w9 _ _
  have HC := Lib.hid (exA_run [2] (by decide) exA_runs.2.1 w10 _ _ 1 rfl (HA9.out.grew g10) o10)
  have HG10 := Lib.hid g10
  clear g10 o10
  go_wp2_with fail
  refine HC.out.mono ?_
  rintro e w11 ⟨bv, rfl, hr, hg11⟩
  have q11 := (HO9.out.keep (HG10.out.trans hg11)).cell_at (i := 0) rfl
  have HO11 := Lib.hid (HO9.out.keep (HG10.out.trans hg11))
  have HG11 := Lib.hid (HG9.out.trans (HG10.out.trans hg11))
  have HGA11 := Lib.hid (HG10.out.trans hg11)
  have HA11 := Lib.hid (HA9.out.grew (HG10.out.trans hg11))
  clear hr hg11 hw10 HG10 HC HO9 HG9 HA9 q9
  go_upto_region 4 with fail
  obtain ⟨w12, hw12⟩ : ∃ w12, w11.alloc (.cells #[.int .i64 3, .int .i64 1, .int .i64 1] 3) = w12 := ⟨_, rfl⟩
  have g12 : Grew w11 w12 := hw12 ▸ grew_alloc w11 _
  have o12 : Owns w12 w11.heap.size (intVs [3, 1, 1]) 3 := hw12 ▸ Owns.alloc w11 _ _
  have HC := Lib.hid (exA_run [3, 1, 1] (by decide) exA_runs.2.2.1 w12 _ _ 3 rfl (HA11.out.grew g12) o12)
  have HG12 := Lib.hid g12
  clear g12 o12
  go_wp2_with fail
  refine HC.out.mono ?_
  rintro e w13 ⟨cv, rfl, hr, hg13⟩
  have q13 := (HO11.out.keep (HG12.out.trans hg13)).cell_at (i := 0) rfl
  have HO13 := Lib.hid (HO11.out.keep (HG12.out.trans hg13))
  have HG13 := Lib.hid (HG11.out.trans (HG12.out.trans hg13))
  have HGA13 := Lib.hid (HGA11.out.trans (HG12.out.trans hg13))
  have HA13 := Lib.hid (HA11.out.grew (HG12.out.trans hg13))
  clear hr hg13 hw12 HG12 HC HO11 HG11 HA11 q11 HGA11
  have HC := Lib.hid (pleast_ok exA exA_few 1 4 (by decide) (by decide) w13 (HT.out.keep HG13.out) _ HA13.out)
  go_upto_region 5 with fail
  go_wp2_with fail
  refine HC.out.mono ?_
  rintro e w14 ⟨xv, kk, rfl, hg14, hx⟩
  rcases hx with ⟨h, _, _⟩ | ⟨_, rfl, x, hx, hX⟩
  · rw [exA_runs.2.2.2.1] at h; cases h
  obtain rfl : x = exX := hx.uniq exA_least
  obtain ⟨xa, xc, hxv, hxc, hX⟩ := hX
  rw [show List.length exX = 3 from rfl] at hxv
  subst hxv
  obtain ⟨w15, hw15⟩ : ∃ w15, w14.alloc (.cells #[.slice xa 3 xc] 24) = w15 := ⟨_, rfl⟩
  have g15 : Grew w14 w15 := hw15 ▸ grew_alloc w14 _
  have o15 : Owns w15 w14.heap.size [.slice xa 3 xc] 24 := hw15 ▸ Owns.alloc w14 _ _
  have hg15 := hg14.trans g15
  have q15 := (HO13.out.keep hg15).cell_at (i := 0) rfl
  have HO15 := Lib.hid (HO13.out.keep hg15)
  have HG15 := Lib.hid (HG13.out.trans hg15)
  have HGA15 := Lib.hid (HGA13.out.trans hg15)
  have hA15 := HA13.out.grew hg15
  have hm4 : exA.mayB 1 4 = true := exA_runs.2.2.2.1
  have hm3 : exA.mayB 1 3 = false := exA_runs.2.2.2.2
  have HM4 : Hid (∀ w, Grew w15 w → Calls Tryd.prog 15 #[.agg #[.slice (some ⟨BS, 0, none⟩) 5 5], .int .i64 1, .int .i64 4] w fun e W' => e = .returned (.bool true) ∧ Grew w W') := Lib.hid fun w hg => by
    have := pMay_ok exA exA_few (by decide) 1 4 (by decide) (by decide) w _ (hA15.grew hg)
    rw [hm4] at this
    exact this
  have HM3 : Hid (∀ w, Grew w15 w → Calls Tryd.prog 15 #[.agg #[.slice (some ⟨BS, 0, none⟩) 5 5], .int .i64 1, .int .i64 3] w fun e W' => e = .returned (.bool false) ∧ Grew w W') := Lib.hid fun w hg => by
    have := pMay_ok exA exA_few (by decide) 1 3 (by decide) (by decide) w _ (hA15.grew hg)
    rw [hm3] at this
    exact this
  obtain ⟨xb, xo, v0, v1, v2, rfl, hxb, c0, c1, c2, rfl, _, hE0⟩ := hX 0 (by decide)
  obtain ⟨ea, ec, hev, _, hE0⟩ := hE0
  rw [show (exX[0]'(by decide)).edges.length = 2 from rfl] at hev
  subst hev
  obtain ⟨eb, eo, rfl, heb, e00, e01⟩ := hE0 0 (by decide)
  obtain ⟨eb', eo', he', _, e10, e11⟩ := hE0 1 (by decide)
  simp only [Option.some.injEq, Addr.mk.injEq, and_true] at he'
  obtain ⟨rfl, rfl⟩ := he'
  obtain ⟨xb', xo', u0, u1, u2, hx', _, d0, d1, d2, rfl, _, hE1⟩ := hX 1 (by decide)
  simp only [Option.some.injEq, Addr.mk.injEq, and_true] at hx'
  obtain ⟨rfl, rfl⟩ := hx'
  obtain ⟨ga, gc, hgv, _, hE1⟩ := hE1
  rw [show (exX[1]'(by decide)).edges.length = 1 from rfl] at hgv
  subst hgv
  obtain ⟨gb, go, rfl, hgb, g00, g01⟩ := hE1 0 (by decide)
  obtain ⟨xb', xo', t0, t1, t2, hx', _, k0, k1, k2, rfl, _, _⟩ := hX 2 (by decide)
  simp only [Option.some.injEq, Addr.mk.injEq, and_true] at hx'
  obtain ⟨rfl, rfl⟩ := hx'
  have HCS : Hid (∀ w, Grew w14 w → (w.cell? ⟨xb, xo + 2, none⟩ = some (.slice (some ⟨eb, eo, none⟩) 2 ec) ∧ w.cell? ⟨eb, eo, none⟩ = some (.int .i64 1) ∧ w.cell? ⟨eb, eo + 1, none⟩ = some (.int .i64 1) ∧ w.cell? ⟨eb, eo + 2, none⟩ = some (.int .i64 2) ∧ w.cell? ⟨eb, eo + 2 + 1, none⟩ = some (.int .i64 1)) ∧
      (w.cell? ⟨xb, xo + 3 + 2, none⟩ = some (.slice (some ⟨gb, go, none⟩) 1 gc) ∧ w.cell? ⟨gb, go, none⟩ = some (.int .i64 1) ∧ w.cell? ⟨gb, go + 1, none⟩ = some (.int .i64 2)) ∧ w.cell? ⟨xb, xo + 6, none⟩ = some (.int .u8 1)) := Lib.hid fun w hg =>
    ⟨⟨(hg.cells _ _ hxb).trans c2, (hg.cells _ _ heb).trans e00, (hg.cells _ _ heb).trans e01, (hg.cells _ _ heb).trans e10, (hg.cells _ _ heb).trans e11⟩, ⟨(hg.cells _ _ hxb).trans d2, (hg.cells _ _ hgb).trans g00, (hg.cells _ _ hgb).trans g01⟩, (hg.cells _ _ hxb).trans k0⟩
  have HO := Lib.hid o15
  have HG1 := Lib.hid g15
  clear hx hX hg14 HC HO13 HG13 HA13 q13 HGA13 c0 c1 c2 d0 d1 d2 k0 k1 k2 e00 e01 e10 e11 g00 g01 hE0 hE1 hA15 hm4 hm3 o15 g15 hg15
  go_upto_region 6 with fail
  clear hw15
  go_wp2_with fail
  refine (HM4.out _ (Grew.refl _)).mono ?_
  rintro e w16 ⟨rfl, hg16⟩
  have q16 := (HO15.out.keep hg16).cell_at (i := 0) rfl
  have HG16 := Lib.hid hg16
  clear hg16 q15 HM4
  go_wp2_with fail
  refine (HM3.out _ HG16.out).mono ?_
  rintro e w17 ⟨rfl, hg17⟩
  have a17 := ((HGA15.out.trans (HG16.out.trans hg17)).cells _ _ hal).trans HA0.out
  have o17 := HO.out.keep (HG16.out.trans hg17)
  have x17 := o17.cell_at (i := 0) rfl
  obtain ⟨⟨s0, s1, s2, s3, s4⟩, ⟨t1, t2, t3⟩, t4⟩ := HCS.out w17 (HG1.out.trans (HG16.out.trans hg17))
  have HGE := Lib.hid (HG15.out.trans (HG16.out.trans hg17))
  clear hg17 q16 HM3 HG16 HCS HGA15 HA0 o17 HO HG1 HG15 hxb heb hgb
  go_wp2_with fail
  go_ret
  exact ⟨rfl, HGE.out⟩
end Go.Proofs.YtogmlonhciiomaaDoor
