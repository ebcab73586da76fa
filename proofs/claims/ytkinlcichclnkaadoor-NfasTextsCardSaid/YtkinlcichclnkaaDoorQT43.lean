/- lives of chapter 8: the example. Printed by gennfliv.py. -/
import Derived.Test.YtkinlcichclnkaaDoorQT42
import Derived.Test.YtkinlcichclnkaaDoorQT37
import Derived.Test.YtkinlcichclnkaaDoorQT38
import Derived.Test.YtkinlcichclnkaaDoorQT41
namespace Go.Proofs.YtkinlcichclnkaaDoor
open Go.RowKit

set_option maxHeartbeats 4000000 in
set_option maxRecDepth 40000 in
theorem gram8_at {w : World} {f : Nat} (h0 : Owns w (f) [.int .u8 8, .string { data := #[] }, .string { data := #[97, 98] }, .slice none 0 0, .slice none 0 0] 34) (h2 : Owns w (f + 1 + 1) [.int .i32 120, .int .i32 120] 58) (h3 : Owns w (f + 1 + 1 + 1) [.int .u8 3, .string { data := #[] }, .string { data := #[] }, .slice none 0 0, .slice (some ⟨f, 0, none⟩) 1 1, .int .u8 9, .string { data := #[] }, .string { data := #[] }, .slice (some ⟨f + 1 + 1, 0, none⟩) 1 1, .slice none 0 0] 34) (h5 : Owns w (f + 1 + 1 + 1 + 1 + 1) [.string { data := #[115] }, .int .u8 0, .int .u8 6, .string { data := #[65] }, .string { data := #[] }, .slice none 0 0, .slice none 0 0, .int .i64 0, .int .i64 0, .int .i64 0, .string { data := #[65] }, .int .u8 1, .int .u8 1, .string { data := #[] }, .string { data := #[] }, .slice none 0 0, .slice (some ⟨f + 1 + 1 + 1, 0, none⟩) 2 2, .int .i64 0, .int .i64 0, .int .i64 0] 38) : GrAt w w.heap.size (some (.string { data := #[] })) (some (.int .i64 0)) (some (.int .i64 0)) (some (.slice (some ⟨f + 1 + 1 + 1 + 1 + 1, 0, none⟩) 2 2)) g8 := by
  have c0_0 := h0.cell_at (i := 0) rfl
  have c0_1 := h0.cell_at (i := 1) rfl
  have c0_2 := h0.cell_at (i := 2) rfl
  have c0_3 := h0.cell_at (i := 3) rfl
  have c0_4 := h0.cell_at (i := 4) rfl
  have l0 := h0.lt
  clear h0
  have c2_0 := h2.cell_at (i := 0) rfl
  have c2_1 := h2.cell_at (i := 1) rfl
  have l2 := h2.lt
  clear h2
  have c3_0 := h3.cell_at (i := 0) rfl
  have c3_1 := h3.cell_at (i := 1) rfl
  have c3_2 := h3.cell_at (i := 2) rfl
  have c3_3 := h3.cell_at (i := 3) rfl
  have c3_4 := h3.cell_at (i := 4) rfl
  have c3_5 := h3.cell_at (i := 5) rfl
  have c3_6 := h3.cell_at (i := 6) rfl
  have c3_7 := h3.cell_at (i := 7) rfl
  have c3_8 := h3.cell_at (i := 8) rfl
  have c3_9 := h3.cell_at (i := 9) rfl
  have l3 := h3.lt
  clear h3
  have c5_0 := h5.cell_at (i := 0) rfl
  have c5_1 := h5.cell_at (i := 1) rfl
  have c5_2 := h5.cell_at (i := 2) rfl
  have c5_3 := h5.cell_at (i := 3) rfl
  have c5_4 := h5.cell_at (i := 4) rfl
  have c5_5 := h5.cell_at (i := 5) rfl
  have c5_6 := h5.cell_at (i := 6) rfl
  have c5_7 := h5.cell_at (i := 7) rfl
  have c5_8 := h5.cell_at (i := 8) rfl
  have c5_9 := h5.cell_at (i := 9) rfl
  have c5_10 := h5.cell_at (i := 10) rfl
  have c5_11 := h5.cell_at (i := 11) rfl
  have c5_12 := h5.cell_at (i := 12) rfl
  have c5_13 := h5.cell_at (i := 13) rfl
  have c5_14 := h5.cell_at (i := 14) rfl
  have c5_15 := h5.cell_at (i := 15) rfl
  have c5_16 := h5.cell_at (i := 16) rfl
  have c5_17 := h5.cell_at (i := 17) rfl
  have c5_18 := h5.cell_at (i := 18) rfl
  have c5_19 := h5.cell_at (i := 19) rfl
  have l5 := h5.lt
  clear h5
  simp [GrAt, g8, lit8, star8, set8, body8, tok8, RulesAt, RuleAt, NodesAt, NodeAt, RangesAt, reachN, InI64, ByteArray.size, and_assoc, *]
theorem owns_ints {w : World} {b : Nat} {l : List Int} (h : Owns w b (intVs l) 3) (hl : l.length ≤ 1000000) : looseRow w 0 3 1 (.slice (some ⟨b, 0, none⟩) l.length l.length) l.length (intVs l) := by
  have hz : (intVs l).length = l.length := by unfold intVs; rw [List.length_map]
  exact ⟨by rw [hz]; omega, .inr ⟨b, l.length, (intVs l).toArray, rfl, Nat.zero_le _, h, Nat.le_refl _, by unfold maxLen; omega, by rw [List.size_toArray, hz]; omega, by simp [hz, List.take_of_length_le]⟩⟩
/-- what the example's automaton is -/
structure Ex8 (W : World) (pg : Nat) (f0 f1 f2 fv : Value) : Prop where
  lt : pg < W.heap.size
  c2 : W.cell? ⟨pg, 2, none⟩ = some (.bool false)
  c3 : W.cell? ⟨pg, 3, none⟩ = some f0
  c6 : W.cell? ⟨pg, 6, none⟩ = some (.bool false)
  c7 : W.cell? ⟨pg, 7, none⟩ = some f1
  c10 : W.cell? ⟨pg, 10, none⟩ = some (.bool true)
  c11 : W.cell? ⟨pg, 11, none⟩ = some f2
  r0 : looseRow W 0 3 1 f0 1 (intVs [1])
  r1 : looseRow W 0 3 1 f1 2 (intVs [0, 2])
  r2 : looseRow W 0 3 1 f2 0 (intVs [])
  rv : looseRow W 0 3 1 fv 2 (intVs [0, 2])
theorem Ex8.of {W : World} {pv fv : Value} {kinds : Int} {sv fl : Nat → Value} (h : AutoAt W pv fv kinds sv fl g8) : kinds = 1 ∧ ∃ pg pc, pv = .slice (some ⟨pg, 0, none⟩) 3 pc ∧ Ex8 W pg (fl 0) (fl 1) (fl 2) fv := by
  have hr := h.row
  have hs := h.fol
  have hf := h.first
  have hk := h.kinds
  rw [g8_of] at hk
  rw [g8_made] at hr hf
  rw [pl_5] at hf
  have e0 := hs 0 (by rw [g8_made]; decide)
  have e1 := hs 1 (by rw [g8_made]; decide)
  have e2 := hs 2 (by rw [g8_made]; decide)
  simp only [g8_made, List.getElem_cons_zero, List.getElem_cons_succ] at e0 e1 e2
  rw [pl_2] at e0
  rw [pl_5] at e1
  rw [pl_0] at e2
  refine ⟨hk, ?_⟩
  rcases hr.2 with ⟨_, h0⟩ | ⟨g, cap, cur, h1, h2, h3, h4⟩
  · cases h0
  · have hc := looseRow_cells hr (g := g) (by rw [h1]; rfl)
    refine ⟨g, cap, h1, (Array.getElem?_eq_some_iff.1 h3).1, ?_, ?_, ?_, ?_, ?_, ?_, e0, e1, e2, hf⟩
    · exact hc 2 _ (by kernel_rfl)
    · exact hc 3 _ (plVs_get sv fl _ _ (i := 0) (n := 3) (by decide) (k := 3) (by decide))
    · exact hc 6 _ (by kernel_rfl)
    · exact hc 7 _ (plVs_get sv fl _ _ (i := 1) (n := 3) (by decide) (k := 3) (by decide))
    · exact hc 10 _ (by kernel_rfl)
    · exact hc 11 _ (plVs_get sv fl _ _ (i := 2) (n := 3) (by decide) (k := 3) (by decide))
theorem Ex8.grew {W W' : World} {pg : Nat} {f0 f1 f2 fv : Value} (h : Ex8 W pg f0 f1 f2 fv) (hg : Grew W W') : Ex8 W' pg f0 f1 f2 fv := by
  have hb := But.of_grew (F := fun _ => False) hg
  have hc := fun o => hg.cells pg o h.lt
  exact ⟨Nat.lt_of_lt_of_le h.lt hg.size, (hc _).trans h.c2, (hc _).trans h.c3, (hc _).trans h.c6, (hc _).trans h.c7, (hc _).trans h.c10, (hc _).trans h.c11, hb.row h.r0 fun _ _ e => e, hb.row h.r1 fun _ _ e => e, hb.row h.r2 fun _ _ e => e, hb.row h.rv fun _ _ e => e⟩
set_option maxHeartbeats 4000000 in
set_option maxRecDepth 40000 in
theorem lives8_ok (W : World) (hT : BruAt W) (hpos : 0 < W.heap.size) : Calls Tryd.prog 6 #[] W fun e W' => e = .returned (.bool true) ∧ Grew W W' := by
  have HT := Lib.hid hT
  have HPOS := Lib.hid hpos
  clear hT hpos
  obtain ⟨f, hf⟩ : ∃ f, W.heap.size = f := ⟨_, rfl⟩
  have HFS := Lib.hid hf
  have hs0 := hf
  go_enter Tryd.func6, Tryd.ntmps6
  obtain ⟨w1, hw1⟩ : ∃ w1, W.alloc (.cells #[.int .u8 8, .string { data := #[] }, .string { data := #[97, 98] }, .slice none 0 0, .slice none 0 0] 34) = w1 := ⟨_, rfl⟩
  have G1 := Lib.hid (show Grew W w1 from hw1 ▸ grew_alloc W _)
  have O0 := Lib.hid (show Owns w1 (f) [.int .u8 8, .string { data := #[] }, .string { data := #[97, 98] }, .slice none 0 0, .slice none 0 0] 34 from hf ▸ hw1 ▸ Owns.alloc W _ _)
  have Y1 := Lib.hid (show w1.heap.size = f + 1 by rw [← hf, ← hw1]; exact World.size_alloc _ _)
  have hs1 := Y1.out
  clear hf
  obtain ⟨w2, hw2⟩ : ∃ w2, w1.alloc (.cells #[.int .u8 3, .string { data := #[] }, .string { data := #[] }, .slice none 0 0, .slice (some ⟨f, 0, none⟩) 1 1] 34) = w2 := ⟨_, rfl⟩
  have G2 := Lib.hid (show Grew w1 w2 from hw2 ▸ grew_alloc w1 _)
  have O1 := Lib.hid (show Owns w2 (f + 1) [.int .u8 3, .string { data := #[] }, .string { data := #[] }, .slice none 0 0, .slice (some ⟨f, 0, none⟩) 1 1] 34 from Y1.out ▸ hw2 ▸ Owns.alloc w1 _ _)
  have Y2 := Lib.hid (show w2.heap.size = f + 1 + 1 by rw [← Y1.out, ← hw2]; exact World.size_alloc _ _)
  have hs2 := Y2.out
  obtain ⟨w3, hw3⟩ : ∃ w3, w2.alloc (.cells #[.int .i32 120, .int .i32 120] 58) = w3 := ⟨_, rfl⟩
  have G3 := Lib.hid (show Grew w2 w3 from hw3 ▸ grew_alloc w2 _)
  have O2 := Lib.hid (show Owns w3 (f + 1 + 1) [.int .i32 120, .int .i32 120] 58 from Y2.out ▸ hw3 ▸ Owns.alloc w2 _ _)
  have Y3 := Lib.hid (show w3.heap.size = f + 1 + 1 + 1 by rw [← Y2.out, ← hw3]; exact World.size_alloc _ _)
  have hs3 := Y3.out
  obtain ⟨w4, hw4⟩ : ∃ w4, w3.alloc (.cells #[.int .u8 3, .string { data := #[] }, .string { data := #[] }, .slice none 0 0, .slice (some ⟨f, 0, none⟩) 1 1, .int .u8 9, .string { data := #[] }, .string { data := #[] }, .slice (some ⟨f + 1 + 1, 0, none⟩) 1 1, .slice none 0 0] 34) = w4 := ⟨_, rfl⟩
  have G4 := Lib.hid (show Grew w3 w4 from hw4 ▸ grew_alloc w3 _)
  have O3 := Lib.hid (show Owns w4 (f + 1 + 1 + 1) [.int .u8 3, .string { data := #[] }, .string { data := #[] }, .slice none 0 0, .slice (some ⟨f, 0, none⟩) 1 1, .int .u8 9, .string { data := #[] }, .string { data := #[] }, .slice (some ⟨f + 1 + 1, 0, none⟩) 1 1, .slice none 0 0] 34 from Y3.out ▸ hw4 ▸ Owns.alloc w3 _ _)
  have Y4 := Lib.hid (show w4.heap.size = f + 1 + 1 + 1 + 1 by rw [← Y3.out, ← hw4]; exact World.size_alloc _ _)
  have hs4 := Y4.out
  obtain ⟨w5, hw5⟩ : ∃ w5, w4.alloc (.cells #[.int .u8 1, .string { data := #[] }, .string { data := #[] }, .slice none 0 0, .slice (some ⟨f + 1 + 1 + 1, 0, none⟩) 2 2] 34) = w5 := ⟨_, rfl⟩
  have G5 := Lib.hid (show Grew w4 w5 from hw5 ▸ grew_alloc w4 _)
  have O4 := Lib.hid (show Owns w5 (f + 1 + 1 + 1 + 1) [.int .u8 1, .string { data := #[] }, .string { data := #[] }, .slice none 0 0, .slice (some ⟨f + 1 + 1 + 1, 0, none⟩) 2 2] 34 from Y4.out ▸ hw5 ▸ Owns.alloc w4 _ _)
  have Y5 := Lib.hid (show w5.heap.size = f + 1 + 1 + 1 + 1 + 1 by rw [← Y4.out, ← hw5]; exact World.size_alloc _ _)
  have hs5 := Y5.out
  obtain ⟨w6, hw6⟩ : ∃ w6, w5.alloc (.cells #[.string { data := #[115] }, .int .u8 0, .int .u8 6, .string { data := #[65] }, .string { data := #[] }, .slice none 0 0, .slice none 0 0, .int .i64 0, .int .i64 0, .int .i64 0, .string { data := #[65] }, .int .u8 1, .int .u8 1, .string { data := #[] }, .string { data := #[] }, .slice none 0 0, .slice (some ⟨f + 1 + 1 + 1, 0, none⟩) 2 2, .int .i64 0, .int .i64 0, .int .i64 0] 38) = w6 := ⟨_, rfl⟩
  have G6 := Lib.hid (show Grew w5 w6 from hw6 ▸ grew_alloc w5 _)
  have O5 := Lib.hid (show Owns w6 (f + 1 + 1 + 1 + 1 + 1) [.string { data := #[115] }, .int .u8 0, .int .u8 6, .string { data := #[65] }, .string { data := #[] }, .slice none 0 0, .slice none 0 0, .int .i64 0, .int .i64 0, .int .i64 0, .string { data := #[65] }, .int .u8 1, .int .u8 1, .string { data := #[] }, .string { data := #[] }, .slice none 0 0, .slice (some ⟨f + 1 + 1 + 1, 0, none⟩) 2 2, .int .i64 0, .int .i64 0, .int .i64 0] 38 from Y5.out ▸ hw6 ▸ Owns.alloc w5 _ _)
  have Y6 := Lib.hid (show w6.heap.size = f + 1 + 1 + 1 + 1 + 1 + 1 by rw [← Y5.out, ← hw6]; exact World.size_alloc _ _)
  have hs6 := Y6.out
  obtain ⟨w7, hw7⟩ : ∃ w7, w6.alloc (.cells #[.string { data := #[] }, .int .i64 0, .int .i64 0, .slice (some ⟨f + 1 + 1 + 1 + 1 + 1, 0, none⟩) 2 2] 26) = w7 := ⟨_, rfl⟩
  have G7 := Lib.hid (show Grew w6 w7 from hw7 ▸ grew_alloc w6 _)
  have O6 := Lib.hid (show Owns w7 (f + 1 + 1 + 1 + 1 + 1 + 1) [.string { data := #[] }, .int .i64 0, .int .i64 0, .slice (some ⟨f + 1 + 1 + 1 + 1 + 1, 0, none⟩) 2 2] 26 from Y6.out ▸ hw7 ▸ Owns.alloc w6 _ _)
  have Y7 := Lib.hid (show w7.heap.size = f + 1 + 1 + 1 + 1 + 1 + 1 + 1 by rw [← Y6.out, ← hw7]; exact World.size_alloc _ _)
  have hs7 := Y7.out
  have ah := O1.out
  have a0 := ah.cell_at (i := 0) rfl
  have a1 := ah.cell_at (i := 1) rfl
  have a2 := ah.cell_at (i := 2) rfl
  have a3 := ah.cell_at (i := 3) rfl
  have a4 := ah.cell_at (i := 4) rfl
  have al := ah.lt
  clear ah
  have bh := O4.out
  have b0 := bh.cell_at (i := 0) rfl
  have b1 := bh.cell_at (i := 1) rfl
  have b2 := bh.cell_at (i := 2) rfl
  have b3 := bh.cell_at (i := 3) rfl
  have b4 := bh.cell_at (i := 4) rfl
  have bl := bh.lt
  clear bh
  have ch := O6.out
  have c0 := ch.cell_at (i := 0) rfl
  have c1 := ch.cell_at (i := 1) rfl
  have c2 := ch.cell_at (i := 2) rfl
  have c3 := ch.cell_at (i := 3) rfl
  have cl := ch.lt
  clear ch
  go_upto_region 2 with fail
  go_upto_region 3 with fail
  go_upto_region 4 with fail
  clear hs0 hs1 hs2 hs3 hs4 hs5 hs6 hw1 hw2 hw3 hw4 hw5 hw6 hw7
  clear a0 a1 a2 a3 a4 al
  clear b0 b1 b2 b3 b4 bl
  have G07 := Lib.hid (show Grew W w7 from ((((((G1.out.trans G2.out).trans G3.out).trans G4.out).trans G5.out).trans G6.out).trans G7.out))
  have hgr := gram8_at (O0.out.keep (((((G2.out.trans G3.out).trans G4.out).trans G5.out).trans G6.out).trans G7.out)) (O2.out.keep (((G4.out.trans G5.out).trans G6.out).trans G7.out)) (O3.out.keep ((G5.out.trans G6.out).trans G7.out)) (O5.out.keep G7.out)
  have HB := Lib.hid (nbuild_ok g8 g8_slight w7 _ _ _ _ hgr (HT.out.grew G07.out) (Nat.lt_of_lt_of_le HPOS.out G07.out.size))
  clear hgr
  go_wp2_with fail
  refine HB.out.mono ?_
  rintro e w8 ⟨hg8, pv, fv, kinds, er, rfl, hres⟩
  have hres : er = 0 ∧ ∃ sv fl, AutoAt w8 pv fv kinds sv fl g8 := by
    rcases hres with ⟨h1, -, -, h2⟩ | ⟨-, -, h, -⟩ | ⟨-, h, -⟩
    · exact ⟨h1, h2⟩
    · rw [g8_made] at h; cases h
    · exact absurd h g8_tidy
  obtain ⟨rfl, sv, fl, hau⟩ := hres
  obtain ⟨rfl, pg, pc, rfl, hex⟩ := Ex8.of hau
  obtain ⟨f0, hf0⟩ : ∃ v, fl 0 = v := ⟨_, rfl⟩
  obtain ⟨f1, hf1⟩ : ∃ v, fl 1 = v := ⟨_, rfl⟩
  obtain ⟨f2, hf2⟩ : ∃ v, fl 2 = v := ⟨_, rfl⟩
  rw [hf0, hf1, hf2] at hex
  clear hf0 hf1 hf2 hau
  have HG8 := Lib.hid (G07.out.trans hg8)
  have HEX := Lib.hid hex
  obtain ⟨a0, b0, rfl⟩ := loose_form hex.r0
  obtain ⟨a1, b1, rfl⟩ := loose_form hex.r1
  obtain ⟨a2, b2, rfl⟩ := loose_form hex.r2
  obtain ⟨av, bv, rfl⟩ := loose_form hex.rv
  clear hg8 hex c0 c1 c2 c3 cl hs7 HB O0 O1 O2 O3 O4 O5 O6 G1 G2 G3 G4 G5 G6 G7 Y1 Y2 Y3 Y4 Y5 Y6 Y7
  obtain ⟨w9, hw9⟩ : ∃ w9, w8.alloc (.cells #[.slice (some ⟨pg, 0, none⟩) 3 pc, .slice av 2 bv, .int .i64 1] 42) = w9 := ⟨_, rfl⟩
  have g9 : Grew w8 w9 := hw9 ▸ grew_alloc w8 _
  have o9 : Owns w9 w8.heap.size [.slice (some ⟨pg, 0, none⟩) 3 pc, .slice av 2 bv, .int .i64 1] 42 := hw9 ▸ Owns.alloc w8 _ _
  obtain ⟨w10, hw10⟩ : ∃ w10, w9.alloc (.cells #[.int .i64 0, .int .i64 2] 3) = w10 := ⟨_, rfl⟩
  have g10 : Grew w9 w10 := hw10 ▸ grew_alloc w9 _
  have r10 : looseRow w10 0 3 1 (.slice (some ⟨w9.heap.size, 0, none⟩) 2 2) 2 (intVs [0, 2]) := hw10 ▸ owns_ints (l := [0, 2]) (Owns.alloc w9 _ _) (by decide)
  have HS1 := Lib.hid (nsameNums_ok [0, 2] w10 _ _ ((HEX.out.grew (g9.trans g10)).rv) r10)
  have k0 := o9.cell_at (i := 0) rfl
  have k1 := o9.cell_at (i := 1) rfl
  have k2 := o9.cell_at (i := 2) rfl
  have kl := o9.lt
  have HO9 := Lib.hid o9
  have HG9 := Lib.hid g9
  have HG10 := Lib.hid g10
  clear g9 g10 o9 r10
  go_wp2_with fail
  refine HS1.out.mono ?_
  rintro e w11 ⟨rfl, hg11⟩
  have G11 := Lib.hid ((HG9.out.trans HG10.out).trans hg11)
  have o11 := HO9.out.keep (HG10.out.trans hg11)
  have j0 := o11.cell_at (i := 0) rfl
  have jl := o11.lt
  have e11 := HEX.out.grew G11.out
  have p3 := e11.c3
  have pl := e11.lt
  obtain ⟨w12, hw12⟩ : ∃ w12, w11.alloc (.cells #[.int .i64 1] 3) = w12 := ⟨_, rfl⟩
  have g12 : Grew w11 w12 := hw12 ▸ grew_alloc w11 _
  have r12 : looseRow w12 0 3 1 (.slice (some ⟨w11.heap.size, 0, none⟩) 1 1) 1 (intVs [1]) := hw12 ▸ owns_ints (l := [1]) (Owns.alloc w11 _ _) (by decide)
  have HS2 := Lib.hid (nsameNums_ok [1] w12 _ _ ((e11.grew g12).r0) r12)
  have G12 := Lib.hid (G11.out.trans g12)
  clear hg11 o11 e11 g12 r12 k0 k1 k2 kl hw9 hw10 HS1 HG9 HG10 HO9
  go_wp2_with fail
  refine HS2.out.mono ?_
  rintro e w13 ⟨rfl, hg13⟩
  have G13 := Lib.hid (G12.out.trans hg13)
  have e13 := HEX.out.grew G13.out
  have p7 := e13.c7
  have pl3 := e13.lt
  obtain ⟨w14, hw14⟩ : ∃ w14, w13.alloc (.cells #[.int .i64 0, .int .i64 2] 3) = w14 := ⟨_, rfl⟩
  have g14 : Grew w13 w14 := hw14 ▸ grew_alloc w13 _
  have r14 : looseRow w14 0 3 1 (.slice (some ⟨w13.heap.size, 0, none⟩) 2 2) 2 (intVs [0, 2]) := hw14 ▸ owns_ints (l := [0, 2]) (Owns.alloc w13 _ _) (by decide)
  have HS3 := Lib.hid (nsameNums_ok [0, 2] w14 _ _ ((e13.grew g14).r1) r14)
  have G14 := Lib.hid (G13.out.trans g14)
  clear hg13 e13 g14 r14 j0 jl p3 pl hw12 HS2 G11 G12
  go_wp2_with fail
  refine HS3.out.mono ?_
  rintro e w15 ⟨rfl, hg15⟩
  have G15 := Lib.hid (G14.out.trans hg15)
  have e15 := HEX.out.grew G15.out
  have q2 := e15.c2
  have q6 := e15.c6
  have q10 := e15.c10
  have q11 := e15.c11
  have ql := e15.lt
  clear hg15 e15 p7 pl3 hw14 HS3 G13 G14
  go_wp2_with fail
  go_ret
  exact ⟨rfl, HG8.out.trans G15.out⟩
end Go.Proofs.YtkinlcichclnkaaDoor

/- Rows of bools that are written; all else stays. -/
namespace Go.Proofs.YtkinlcichclnkaaDoor
open Go.RowKit

structure Kb (s : Nat) (A B : World) : Prop where
  low : Below s A B
  box : ∀ (b : Nat) (cs : Array Value) (T : Nat) (f : Nat × Nat), A.heap[b]? = some (.cells cs T f) → T ≠ 4 → B.heap[b]? = some (.cells cs T f)
section
variable {s : Nat} {A B C : World}
theorem Kb.refl (s : Nat) (A : World) : Kb s A A := ⟨Below.refl _ _, fun _ _ _ _ h _ => h⟩
theorem Kb.trans (h : Kb s A B) (k : Kb s B C) : Kb s A C := ⟨h.low.trans k.low, fun b cs T f hb hT => k.box b cs T f (h.box b cs T f hb hT) hT⟩
theorem Kb.grew (h : Grew A B) (hs : s ≤ A.heap.size) : Kb s A B := ⟨Below.mono h hs, fun b cs T f hb _ => by rw [h.block b (Array.getElem?_eq_some_iff.1 hb).1]; exact hb⟩
theorem Kb.set {q i : Nat} {cs : List Value} {v : Value} (ho : Owns A q cs 4) (hq : s ≤ q) (hs : s ≤ A.heap.size) : Kb s A (A.setCell ⟨q, i, none⟩ v) := by
  have hb : But (fun k => k = q) A (A.setCell ⟨q, i, none⟩ v) := set_but ho
  refine ⟨But.below hb hs fun k e => by rw [e]; exact hq, fun b cs' T f hA hT => ?_⟩
  rw [hb.block b (Array.getElem?_eq_some_iff.1 hA).1 (fun e => by
    subst e
    unfold Owns at ho
    rw [ho] at hA
    simp only [Option.some.injEq, Obj.cells.injEq] at hA
    exact hT hA.2.1.symm)]
  exact hA
theorem Kb.owns (h : Kb s A B) {b T : Nat} {cs : List Value} (ho : Owns A b cs T) (hT : T ≠ 4) : Owns B b cs T := h.box b _ _ _ ho hT
theorem Kb.row (h : Kb s A B) {base e size n : Nat} {v : Value} {xs : List Value} (hr : looseRow A base e size v n xs) (hT : e ≠ 4) : looseRow B base e size v n xs :=
  ⟨hr.1, hr.2.imp id fun ⟨g, cap, cur, h1, h2, h3, h4⟩ => ⟨g, cap, cur, h1, h2, h.box g _ _ _ h3 hT, h4⟩⟩
end
theorem AutoAt.kb {s : Nat} {W W' : World} {pv fv : Value} {kinds : Int} {sv fl : Nat → Value} {g : Gr} (h : AutoAt W pv fv kinds sv fl g) (hk : Kb s W W') : AutoAt W' pv fv kinds sv fl g :=
  ⟨hk.row h.row (by decide), fun i hi => hk.row (h.set i hi) (by decide), fun i hi => hk.row (h.fol i hi) (by decide), hk.row h.first (by decide), h.kinds⟩
/-- a row of bools that may be written -/
def BW (w : World) (q : Nat) (l : List Bool) : Prop := Owns w q (l.map .bool) 4
theorem BW.cell {w : World} {q i : Nat} {l : List Bool} (h : BW w q l) (hi : i < l.length) : w.cell? ⟨q, i, none⟩ = some (.bool (l.getD i false)) := by
  refine Owns.cell_at h ?_
  rw [List.getElem?_map, List.getElem?_eq_getElem hi, List.getD_eq_getElem?_getD, List.getElem?_eq_getElem hi]
  rfl
theorem BW.set {w : World} {q i : Nat} {l : List Bool} (h : BW w q l) (x : Bool) : BW (w.setCell ⟨q, i, none⟩ (.bool x)) q (l.set i x) := by
  have := Owns.set h i (.bool x)
  rw [map_boolN] at this
  exact this
theorem getD_setN {l : List Bool} {i z : Nat} {x : Bool} (hi : i < l.length) : (l.set i x).getD z false = if i = z then x else l.getD z false := by
  rw [List.getD_eq_getElem?_getD, List.getElem?_set]
  by_cases e : i = z
  · subst e
    rw [if_pos rfl, if_pos rfl, if_pos hi]
    rfl
  · rw [if_neg e, if_neg e, List.getD_eq_getElem?_getD]
/-- which ones hold -/
def Bs (M : Nat) (l : List Bool) (Q : Nat → Prop) : Prop := l.length = M ∧ ∀ z, l.getD z false = true ↔ z < M ∧ Q z
theorem Bs.imp {M : Nat} {l : List Bool} {P Q : Nat → Prop} (h : Bs M l P) (hq : ∀ z, z < M → (P z ↔ Q z)) : Bs M l Q := ⟨h.1, fun z => (h.2 z).trans ⟨fun ⟨h1, h2⟩ => ⟨h1, (hq z h1).1 h2⟩, fun ⟨h1, h2⟩ => ⟨h1, (hq z h1).2 h2⟩⟩⟩
theorem Bs.put {M : Nat} {l : List Bool} {P : Nat → Prop} (h : Bs M l P) {i : Nat} (hi : i < M) (x : Bool) : Bs M (l.set i x) fun z => if z = i then x = true else P z := by
  refine ⟨by rw [List.length_set]; exact h.1, fun z => ?_⟩
  rw [getD_setN (by rw [h.1]; exact hi)]
  dsimp only
  by_cases e : i = z
  · subst e
    rw [if_pos rfl]
    simp [hi]
  · rw [if_neg e, h.2 z, if_neg (fun e2 : z = i => e e2.symm)]
theorem Bs.false (M : Nat) : Bs M (List.replicate M false) fun _ => False := by
  refine ⟨List.length_replicate, fun z => ⟨fun h => ?_, fun h => h.2.elim⟩⟩
  rw [List.getD_eq_getElem?_getD, List.getElem?_replicate] at h
  split at h <;> cases h
theorem pl_mem {s : Nat} {x : Nat} : (x : Int) ∈ placesL s ↔ x < 4096 ∧ s.testBit x = true := by
  unfold placesL
  rw [List.mem_map]
  constructor
  · rintro ⟨y, hy, e⟩
    obtain rfl : y = x := by omega
    exact bits_mem.1 hy
  · intro h
    exact ⟨x, bits_mem.2 h, rfl⟩
theorem pl_nat {s : Nat} {i : Nat} (h : i < (placesL s).length) : ∃ x : Nat, (placesL s)[i] = (x : Int) ∧ x < 4096 ∧ s.testBit x = true := by
  have hm := List.getElem_mem h
  obtain ⟨x, hx, e⟩ : ∃ x ∈ bitsN 4096 s, ((x : Nat) : Int) = (placesL s)[i] := by
    have h2 := hm
    unfold placesL at h2
    obtain ⟨x, hx, e⟩ := List.mem_map.1 h2
    exact ⟨x, hx, e⟩
  exact ⟨x, e.symm, (bits_mem.1 hx).1, (bits_mem.1 hx).2⟩
end Go.Proofs.YtkinlcichclnkaaDoor
