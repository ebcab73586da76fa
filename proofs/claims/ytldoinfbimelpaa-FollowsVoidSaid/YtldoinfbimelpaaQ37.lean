/- lives of chapter 22: it answers true. Printed by genfoliv.py. -/
import Derived.Test.YtldoinfbimelpaaQ35
import Derived.Test.YtldoinfbimelpaaQ36
namespace Go.Proofs.Ytldoinfbimelpaa
open Go.RowKit

set_option maxHeartbeats 8000000 in
set_option maxRecDepth 40000 in
theorem lives22_ok (W : World) : Calls Try.prog 5 #[] W fun e W' => e = .returned (.bool true) ∧ Grew W W' := by
  go_enter Try.func5, Try.ntmps5
  go_wp2_with fail
  refine (mk_ref _ _).mono ?_
  rintro e w1 ⟨rfl, g1⟩
  have G1 := Lib.hid g1
  clear g1
  obtain ⟨w2, hw2⟩ : ∃ w2, w1.alloc (.cells #[.int .u8 5, .string { data := #[98] }, .string { data := #[] }, .slice none 0 0, .slice none 0 0] 26) = w2 := ⟨_, rfl⟩
  have G2 := Lib.hid (show Grew w1 w2 from hw2 ▸ grew_alloc w1 _)
  have op1 : Owns w2 w1.heap.size [.int .u8 5, .string { data := #[98] }, .string { data := #[] }, .slice none 0 0, .slice none 0 0] 26 := hw2 ▸ Owns.alloc w1 _ _
  obtain ⟨p1, hp1⟩ : ∃ p1, w1.heap.size = p1 := ⟨_, rfl⟩
  rw [hp1] at op1
  have Op1 := Lib.hid op1
  clear op1
  go_wp2_with fail
  refine (mk_of _ _ _ _ _).mono ?_
  rintro e w3 ⟨rfl, g3⟩
  have G3 := Lib.hid g3
  clear g3
  clear hw2 hp1
  go_wp2_with fail
  refine (mk_tok _ _).mono ?_
  rintro e w4 ⟨rfl, g4⟩
  have G4 := Lib.hid g4
  clear g4
  obtain ⟨w5, hw5⟩ : ∃ w5, w4.alloc (.cells #[.int .u8 2, .string { data := #[] }, .string { data := #[] }, .slice none 0 0, .slice (some ⟨p1, 0, none⟩) 1 1, .int .u8 6, .string { data := #[67] }, .string { data := #[] }, .slice none 0 0, .slice none 0 0] 26) = w5 := ⟨_, rfl⟩
  have G5 := Lib.hid (show Grew w4 w5 from hw5 ▸ grew_alloc w4 _)
  have op2 : Owns w5 w4.heap.size [.int .u8 2, .string { data := #[] }, .string { data := #[] }, .slice none 0 0, .slice (some ⟨p1, 0, none⟩) 1 1, .int .u8 6, .string { data := #[67] }, .string { data := #[] }, .slice none 0 0, .slice none 0 0] 26 := hw5 ▸ Owns.alloc w4 _ _
  obtain ⟨p2, hp2⟩ : ∃ p2, w4.heap.size = p2 := ⟨_, rfl⟩
  rw [hp2] at op2
  have Op2 := Lib.hid op2
  clear op2
  go_wp2_with fail
  refine (mk_of _ _ _ _ _).mono ?_
  rintro e w6 ⟨rfl, g6⟩
  have G6 := Lib.hid g6
  clear g6
  clear hw5 hp2
  go_wp2_with fail
  refine (mk_tok _ _).mono ?_
  rintro e w7 ⟨rfl, g7⟩
  have G7 := Lib.hid g7
  clear g7
  obtain ⟨w8, hw8⟩ : ∃ w8, w7.alloc (.cells #[.int .u8 1, .string { data := #[] }, .string { data := #[] }, .slice none 0 0, .slice (some ⟨p2, 0, none⟩) 2 2, .int .u8 6, .string { data := #[68] }, .string { data := #[] }, .slice none 0 0, .slice none 0 0] 26) = w8 := ⟨_, rfl⟩
  have G8 := Lib.hid (show Grew w7 w8 from hw8 ▸ grew_alloc w7 _)
  have op3 : Owns w8 w7.heap.size [.int .u8 1, .string { data := #[] }, .string { data := #[] }, .slice none 0 0, .slice (some ⟨p2, 0, none⟩) 2 2, .int .u8 6, .string { data := #[68] }, .string { data := #[] }, .slice none 0 0, .slice none 0 0] 26 := hw8 ▸ Owns.alloc w7 _ _
  obtain ⟨p3, hp3⟩ : ∃ p3, w7.heap.size = p3 := ⟨_, rfl⟩
  rw [hp3] at op3
  have Op3 := Lib.hid op3
  clear op3
  go_wp2_with fail
  refine (mk_of _ _ _ _ _).mono ?_
  rintro e w9 ⟨rfl, g9⟩
  have G9 := Lib.hid g9
  clear g9
  clear hw8 hp3
  go_wp2_with fail
  refine (mk_rule _ _ _ _ _ _ _ _ _ _ _).mono ?_
  rintro e w10 ⟨rfl, g10⟩
  have G10 := Lib.hid g10
  clear g10
  go_wp2_with fail
  refine (mk_tok _ _).mono ?_
  rintro e w11 ⟨rfl, g11⟩
  have G11 := Lib.hid g11
  clear g11
  go_wp2_with fail
  refine (mk_ref _ _).mono ?_
  rintro e w12 ⟨rfl, g12⟩
  have G12 := Lib.hid g12
  clear g12
  obtain ⟨w13, hw13⟩ : ∃ w13, w12.alloc (.cells #[.int .u8 6, .string { data := #[69] }, .string { data := #[] }, .slice none 0 0, .slice none 0 0, .int .u8 5, .string { data := #[97] }, .string { data := #[] }, .slice none 0 0, .slice none 0 0] 26) = w13 := ⟨_, rfl⟩
  have G13 := Lib.hid (show Grew w12 w13 from hw13 ▸ grew_alloc w12 _)
  have op4 : Owns w13 w12.heap.size [.int .u8 6, .string { data := #[69] }, .string { data := #[] }, .slice none 0 0, .slice none 0 0, .int .u8 5, .string { data := #[97] }, .string { data := #[] }, .slice none 0 0, .slice none 0 0] 26 := hw13 ▸ Owns.alloc w12 _ _
  obtain ⟨p4, hp4⟩ : ∃ p4, w12.heap.size = p4 := ⟨_, rfl⟩
  rw [hp4] at op4
  have Op4 := Lib.hid op4
  clear op4
  go_wp2_with fail
  refine (mk_of _ _ _ _ _).mono ?_
  rintro e w14 ⟨rfl, g14⟩
  have G14 := Lib.hid g14
  clear g14
  clear hw13 hp4
  go_wp2_with fail
  refine (mk_rule _ _ _ _ _ _ _ _ _ _ _).mono ?_
  rintro e w15 ⟨rfl, g15⟩
  have G15 := Lib.hid g15
  clear g15
  go_wp2_with fail
  refine (mk_token _ _).mono ?_
  rintro e w16 ⟨rfl, g16⟩
  have G16 := Lib.hid g16
  clear g16
  go_wp2_with fail
  refine (mk_token _ _).mono ?_
  rintro e w17 ⟨rfl, g17⟩
  have G17 := Lib.hid g17
  clear g17
  go_wp2_with fail
  refine (mk_token _ _).mono ?_
  rintro e w18 ⟨rfl, g18⟩
  have G18 := Lib.hid g18
  clear g18
  obtain ⟨w19, hw19⟩ : ∃ w19, w18.alloc (.cells #[.string { data := #[97] }, .int .u8 0, .int .u8 0, .string { data := #[] }, .string { data := #[] }, .slice none 0 0, .slice (some ⟨p3, 0, none⟩) 2 2, .int .i64 0, .int .i64 0, .int .i64 0, .string { data := #[98] }, .int .u8 0, .int .u8 1, .string { data := #[] }, .string { data := #[] }, .slice none 0 0, .slice (some ⟨p4, 0, none⟩) 2 2, .int .i64 0, .int .i64 0, .int .i64 0, .string { data := #[67] }, .int .u8 1, .int .u8 8, .string { data := #[] }, .string { data := #[67] }, .slice none 0 0, .slice none 0 0, .int .i64 0, .int .i64 0, .int .i64 0, .string { data := #[68] }, .int .u8 1, .int .u8 8, .string { data := #[] }, .string { data := #[68] }, .slice none 0 0, .slice none 0 0, .int .i64 0, .int .i64 0, .int .i64 0, .string { data := #[69] }, .int .u8 1, .int .u8 8, .string { data := #[] }, .string { data := #[69] }, .slice none 0 0, .slice none 0 0, .int .i64 0, .int .i64 0, .int .i64 0] 47) = w19 := ⟨_, rfl⟩
  have G19 := Lib.hid (show Grew w18 w19 from hw19 ▸ grew_alloc w18 _)
  have op5 : Owns w19 w18.heap.size [.string { data := #[97] }, .int .u8 0, .int .u8 0, .string { data := #[] }, .string { data := #[] }, .slice none 0 0, .slice (some ⟨p3, 0, none⟩) 2 2, .int .i64 0, .int .i64 0, .int .i64 0, .string { data := #[98] }, .int .u8 0, .int .u8 1, .string { data := #[] }, .string { data := #[] }, .slice none 0 0, .slice (some ⟨p4, 0, none⟩) 2 2, .int .i64 0, .int .i64 0, .int .i64 0, .string { data := #[67] }, .int .u8 1, .int .u8 8, .string { data := #[] }, .string { data := #[67] }, .slice none 0 0, .slice none 0 0, .int .i64 0, .int .i64 0, .int .i64 0, .string { data := #[68] }, .int .u8 1, .int .u8 8, .string { data := #[] }, .string { data := #[68] }, .slice none 0 0, .slice none 0 0, .int .i64 0, .int .i64 0, .int .i64 0, .string { data := #[69] }, .int .u8 1, .int .u8 8, .string { data := #[] }, .string { data := #[69] }, .slice none 0 0, .slice none 0 0, .int .i64 0, .int .i64 0, .int .i64 0] 47 := hw19 ▸ Owns.alloc w18 _ _
  obtain ⟨p5, hp5⟩ : ∃ p5, w18.heap.size = p5 := ⟨_, rfl⟩
  rw [hp5] at op5
  have Op5 := Lib.hid op5
  clear op5
  have HP5 := Lib.hid (show W.heap.size ≤ p5 from hp5 ▸ (((((((((((((((((((Grew.refl W).trans G1.out).trans G2.out).trans G3.out).trans G4.out).trans G5.out).trans G6.out).trans G7.out).trans G8.out).trans G9.out).trans G10.out).trans G11.out).trans G12.out).trans G13.out).trans G14.out).trans G15.out).trans G16.out).trans G17.out).trans G18.out).size)
  obtain ⟨w20, hw20⟩ : ∃ w20, w19.alloc (.cells #[.string { data := #[71] }, .int .i64 1, .int .i64 9, .slice (some ⟨p5, 0, none⟩) 5 5] 54) = w20 := ⟨_, rfl⟩
  have G20 := Lib.hid (show Grew w19 w20 from hw20 ▸ grew_alloc w19 _)
  have op6 : Owns w20 w19.heap.size [.string { data := #[71] }, .int .i64 1, .int .i64 9, .slice (some ⟨p5, 0, none⟩) 5 5] 54 := hw20 ▸ Owns.alloc w19 _ _
  obtain ⟨p6, hp6⟩ : ∃ p6, w19.heap.size = p6 := ⟨_, rfl⟩
  rw [hp6] at op6
  have Op6 := Lib.hid op6
  clear op6
  have Kp1 := Lib.hid (Op1.out.keep (((((((((((((((((((Grew.refl w2).trans G3.out).trans G4.out).trans G5.out).trans G6.out).trans G7.out).trans G8.out).trans G9.out).trans G10.out).trans G11.out).trans G12.out).trans G13.out).trans G14.out).trans G15.out).trans G16.out).trans G17.out).trans G18.out).trans G19.out).trans G20.out))
  have Kp2 := Lib.hid (Op2.out.keep ((((((((((((((((Grew.refl w5).trans G6.out).trans G7.out).trans G8.out).trans G9.out).trans G10.out).trans G11.out).trans G12.out).trans G13.out).trans G14.out).trans G15.out).trans G16.out).trans G17.out).trans G18.out).trans G19.out).trans G20.out))
  have Kp3 := Lib.hid (Op3.out.keep (((((((((((((Grew.refl w8).trans G9.out).trans G10.out).trans G11.out).trans G12.out).trans G13.out).trans G14.out).trans G15.out).trans G16.out).trans G17.out).trans G18.out).trans G19.out).trans G20.out))
  have Kp4 := Lib.hid (Op4.out.keep ((((((((Grew.refl w13).trans G14.out).trans G15.out).trans G16.out).trans G17.out).trans G18.out).trans G19.out).trans G20.out))
  have Kp5 := Lib.hid (Op5.out.keep ((Grew.refl w19).trans G20.out))
  have Kp6 := Lib.hid (Op6.out.keep (Grew.refl w20))
  have HGW := Lib.hid (((((((((((((((((((((Grew.refl W).trans G1.out).trans G2.out).trans G3.out).trans G4.out).trans G5.out).trans G6.out).trans G7.out).trans G8.out).trans G9.out).trans G10.out).trans G11.out).trans G12.out).trans G13.out).trans G14.out).trans G15.out).trans G16.out).trans G17.out).trans G18.out).trans G19.out).trans G20.out)
  have hat := fg1_at Kp1.out Kp2.out Kp3.out Kp4.out Kp5.out
  have HOF := Lib.hid (fsOf_ok (fgr fa1) f5 0 fa1_pre K1 (by rw [fg_begun]; exact fa1_ends) w20 _ _ _ _ hat.1 hat.2)
  have c0 := Kp6.out.cell_at (i := 0) rfl
  have c1 := Kp6.out.cell_at (i := 1) rfl
  have c2 := Kp6.out.cell_at (i := 2) rfl
  have c3 := Kp6.out.cell_at (i := 3) rfl
  have cl := Kp6.out.lt
  clear hat Op1 Op2 Op3 Op4 Op5 Op6 G1 G2 G3 G4 G5 G6 G7 G8 G9 G10 G11 G12 G13 G14 G15 G16 G17 G18 G19 G20
  go_wp2_with fail
  clear hw19 hp5 hw20 hp6 c0 c1 c2 c3 cl
  refine HOF.out.mono ?_
  rintro e w21 ⟨V, rfl, hsv, hbl⟩
  obtain ⟨hs0, hwf⟩ := ex1_wf hsv
  have HWF := Lib.hid hwf
  have HS := Lib.hid hs0
  have GA := Lib.hid (show Grew w20 w21 from hbl)
  have HGW := Lib.hid (HGW.out.trans GA.out)
  have Kp4 := Lib.hid (Kp4.out.keep GA.out)
  have Kp5 := Lib.hid (Kp5.out.keep GA.out)
  have Kp6 := Lib.hid (Kp6.out.keep GA.out)
  clear hsv hbl hs0 hwf HOF GA Kp1 Kp2 Kp3
  go_wp2_with fail
  refine (mk_ref _ _).mono ?_
  rintro e w22 ⟨rfl, g22⟩
  have G22 := Lib.hid g22
  clear g22
  obtain ⟨w23, hw23⟩ : ∃ w23, w22.alloc (.cells #[.int .u8 5, .string { data := #[98] }, .string { data := #[] }, .slice none 0 0, .slice none 0 0] 26) = w23 := ⟨_, rfl⟩
  have G23 := Lib.hid (show Grew w22 w23 from hw23 ▸ grew_alloc w22 _)
  have op8 : Owns w23 w22.heap.size [.int .u8 5, .string { data := #[98] }, .string { data := #[] }, .slice none 0 0, .slice none 0 0] 26 := hw23 ▸ Owns.alloc w22 _ _
  obtain ⟨p8, hp8⟩ : ∃ p8, w22.heap.size = p8 := ⟨_, rfl⟩
  rw [hp8] at op8
  have Op8 := Lib.hid op8
  clear op8
  go_wp2_with fail
  refine (mk_of _ _ _ _ _).mono ?_
  rintro e w24 ⟨rfl, g24⟩
  have G24 := Lib.hid g24
  clear g24
  clear hw23 hp8
  have GB := Lib.hid ((G22.out.trans G23.out).trans G24.out)
  have HL5 := Lib.hid (Nat.lt_of_lt_of_le Kp5.out.lt GB.out.size)
  have HBG := Lib.hid (begin_b (HS.out.keep GB.out) HWF.out (Op8.out.keep G24.out))
  go_wp2_with fail
  refine HBG.out.mono ?_
  rintro e w25 ⟨lv, rfl, hrow, hg⟩
  have GC := Lib.hid (GB.out.trans hg)
  have HLV := Lib.hid hrow
  have HS := Lib.hid (HS.out.keep GC.out)
  have HGW := Lib.hid (HGW.out.trans GC.out)
  have Kp4 := Lib.hid (Kp4.out.keep GC.out)
  have Kp5 := Lib.hid (Kp5.out.keep GC.out)
  have Kp6 := Lib.hid (Kp6.out.keep GC.out)
  have c3 := Kp6.out.cell_at (i := 3) rfl
  have cl := Kp6.out.lt
  clear hrow hg HBG GB GC Op8 G22 G23 G24
  go_upto_region 4 with fail
  refine wp_region_hav_lit follows (by kernel_rfl) ?_
  iterate 2 (first
    | (refine HavG.skip (fun _ => rfl) ?_; simp only [Act.put, List.setIfInBounds_toArray, List.set_cons_zero, List.set_cons_succ])
    | (refine HavG.val (fun _ => rfl) ?_ (fun x w hw _ => ?_) ?_; rotate_left; (focus (have hc := hw.cells; clear hw; go_simp; first | done | rfl)); simp only [Act.put, List.setIfInBounds_toArray, List.set_cons_zero, List.set_cons_succ]))
  refine HavG.det (fun _ => rfl) (.agg #[.int .u8 6, .string { data := #[69] }, .string { data := #[] }, .slice none 0 0, .slice none 0 0]) (fun x w hw hd => ?_) ?_
  · clear hd hw
    go_simp
    refine (mk_tok _ _).mono ?_
    rintro e w' ⟨rfl, hg⟩
    exact ⟨rfl, hg⟩
  simp only [Act.put, List.setIfInBounds_toArray, List.set_cons_zero, List.set_cons_succ]
  refine HavG.det (fun _ => rfl) (.agg #[.int .u8 5, .string { data := #[97] }, .string { data := #[] }, .slice none 0 0, .slice none 0 0]) (fun x w hw hd => ?_) ?_
  · clear hd hw
    go_simp
    refine (mk_ref _ _).mono ?_
    rintro e w' ⟨rfl, hg⟩
    exact ⟨rfl, hg⟩
  simp only [Act.put, List.setIfInBounds_toArray, List.set_cons_zero, List.set_cons_succ]
  refine HavG.any (fun _ => rfl) (fun v w => ∃ t, v = .slice (some ⟨t, 0, none⟩) 2 2 ∧ w25.heap.size ≤ t ∧ Owns w t [.int .u8 6, .string { data := #[69] }, .string { data := #[] }, .slice none 0 0, .slice none 0 0, .int .u8 5, .string { data := #[97] }, .string { data := #[] }, .slice none 0 0, .slice none 0 0] 26) (fun v w w' hg ⟨t, h1, h2, h3⟩ => ⟨t, h1, h2, h3.keep hg⟩) (fun x w hw hd => ?_) ?_
  · clear hd
    have HW := Lib.hid hw
    clear hw
    go_simp
    exact ⟨grew_alloc w _, HW.out.size, Owns.alloc w _ _⟩
  simp only [Act.put, List.setIfInBounds_toArray, List.set_cons_zero, List.set_cons_succ]
  refine HavG.any (fun _ => rfl) (fun v w => ∃ t, v = .agg #[.int .u8 1, .string { data := #[] }, .string { data := #[] }, .slice none 0 0, .slice (some ⟨t, 0, none⟩) 2 2] ∧ w25.heap.size ≤ t ∧ Owns w t [.int .u8 6, .string { data := #[69] }, .string { data := #[] }, .slice none 0 0, .slice none 0 0, .int .u8 5, .string { data := #[97] }, .string { data := #[] }, .slice none 0 0, .slice none 0 0] 26) (fun v w w' hg ⟨t, h1, h2, h3⟩ => ⟨t, h1, h2, h3.keep hg⟩) (fun x w hw hd => ?_) ?_
  · obtain ⟨t, ht1, ht2, ht3⟩ := hd _ (List.mem_append_right _ (List.mem_singleton.2 rfl)) (by kernel_rfl)
    dsimp only at ht1
    clear hd
    have HT := Lib.hid ht3
    clear ht3 hw
    simp only [ht1]
    go_simp
    refine (mk_of _ _ _ _ _).mono ?_
    rintro e w' ⟨rfl, hg⟩
    exact ⟨hg, t, rfl, ht2, HT.out.keep hg⟩
  simp only [Act.put, List.setIfInBounds_toArray, List.set_cons_zero, List.set_cons_succ]
  iterate 2 (first
    | (refine HavG.skip (fun _ => rfl) ?_; simp only [Act.put, List.setIfInBounds_toArray, List.set_cons_zero, List.set_cons_succ])
    | (refine HavG.val (fun _ => rfl) ?_ (fun x w hw _ => ?_) ?_; rotate_left; (focus (have hc := hw.cells; clear hw; go_simp; first | done | rfl)); simp only [Act.put, List.setIfInBounds_toArray, List.set_cons_zero, List.set_cons_succ]))
  refine HavG.tail (by kernel_rfl) (by kernel_rfl) (fun x w hw hd => ?_)
  obtain ⟨p7, hx, hp7, ho7⟩ := hd _ (List.mem_append_right _ (List.mem_singleton.2 rfl))
  dsimp only at hx
  clear hd
  simp only [hx]
  clear hx
  have h5 := Kp5.out.keep hw
  have x2 := h5.cell_at (i := 2) rfl
  have f2 := h5.free 2
  have x3 := h5.cell_at (i := 3) rfl
  have f3 := h5.free 3
  have x4 := h5.cell_at (i := 4) rfl
  have f4 := h5.free 4
  have x5 := h5.cell_at (i := 5) rfl
  have f5 := h5.free 5
  have x6 := h5.cell_at (i := 6) rfl
  have f6 := h5.free 6
  have hl := h5.lt
  obtain ⟨hb5, ho5⟩ := set_five h5 (.int .u8 1) (.string { data := #[] }) (.string { data := #[] }) (.slice none 0 0) (.slice (some ⟨p7, 0, none⟩) 2 2)
  have hp57 : p7 ≠ p5 := fun e => by have h1 := HL5.out; have h2 := Kp5.out.lt; omega
  have HS := Lib.hid ((HS.out.keep hw).other h5 hb5)
  have Kp4 := Lib.hid (hb5.owns (Kp4.out.keep hw) (owns_ne (Kp4.out.keep hw) h5 (by decide)))
  have Kp6 := Lib.hid (hb5.owns (Kp6.out.keep hw) (owns_ne (Kp6.out.keep hw) h5 (by decide)))
  have Kp7 := Lib.hid (hb5.owns ho7 hp57)
  have Kp5 := Lib.hid (show Owns (((((w.setCell ⟨p5, 2, none⟩ (.int .u8 1)).setCell ⟨p5, 3, none⟩ (.string { data := #[] })).setCell ⟨p5, 4, none⟩ (.string { data := #[] })).setCell ⟨p5, 5, none⟩ (.slice none 0 0)).setCell ⟨p5, 6, none⟩ (.slice (some ⟨p7, 0, none⟩) 2 2)) p5 [.string { data := #[97] }, .int .u8 0, .int .u8 1, .string { data := #[] }, .string { data := #[] }, .slice none 0 0, .slice (some ⟨p7, 0, none⟩) 2 2, .int .i64 0, .int .i64 0, .int .i64 0, .string { data := #[98] }, .int .u8 0, .int .u8 1, .string { data := #[] }, .string { data := #[] }, .slice none 0 0, .slice (some ⟨p4, 0, none⟩) 2 2, .int .i64 0, .int .i64 0, .int .i64 0, .string { data := #[67] }, .int .u8 1, .int .u8 8, .string { data := #[] }, .string { data := #[67] }, .slice none 0 0, .slice none 0 0, .int .i64 0, .int .i64 0, .int .i64 0, .string { data := #[68] }, .int .u8 1, .int .u8 8, .string { data := #[] }, .string { data := #[68] }, .slice none 0 0, .slice none 0 0, .int .i64 0, .int .i64 0, .int .i64 0, .string { data := #[69] }, .int .u8 1, .int .u8 8, .string { data := #[] }, .string { data := #[69] }, .slice none 0 0, .slice none 0 0, .int .i64 0, .int .i64 0, .int .i64 0] 47 from ho5)
  have HGW := Lib.hid (show Grew W (((((w.setCell ⟨p5, 2, none⟩ (.int .u8 1)).setCell ⟨p5, 3, none⟩ (.string { data := #[] })).setCell ⟨p5, 4, none⟩ (.string { data := #[] })).setCell ⟨p5, 5, none⟩ (.slice none 0 0)).setCell ⟨p5, 6, none⟩ (.slice (some ⟨p7, 0, none⟩) 2 2)) from Below.trans (HGW.out.trans hw) (hb5.below (HGW.out.trans hw).size (fun q e => by have := HP5.out; omega)))
  have HLV := Lib.hid (row_but HLV.out (But.trans (F := fun q => q = p5) (But.of_grew hw) hb5 (fun _ _ e => e)) (fun q hq e => by have h1 := (row_own HLV.out hq).1; have h2 := HL5.out; omega))
  clear h5 hb5 ho5 hp57 ho7 hp7 hw c3 cl
  go_upto_region 5 with fail
  clear x2 f2 x3 f3 x4 f4 x5 f5 x6 f6 hl
  generalize ((((w.setCell ⟨p5, 2, none⟩ (.int .u8 1)).setCell ⟨p5, 3, none⟩ (.string { data := #[] })).setCell ⟨p5, 4, none⟩ (.string { data := #[] })).setCell ⟨p5, 5, none⟩ (.slice none 0 0)).setCell ⟨p5, 6, none⟩ (.slice (some ⟨p7, 0, none⟩) 2 2) = w26 at *
  have hat := fg2_at Kp7.out Kp4.out Kp5.out
  have HOF := Lib.hid (fsOf_ok (fgr fa2) f5 0 fa2_pre K2 (by rw [fg_begun]; exact fa2_ends) w26 _ _ _ _ hat.1 hat.2)
  have c0 := Kp6.out.cell_at (i := 0) rfl
  have c1 := Kp6.out.cell_at (i := 1) rfl
  have c2 := Kp6.out.cell_at (i := 2) rfl
  have c3 := Kp6.out.cell_at (i := 3) rfl
  have cl := Kp6.out.lt
  clear hat
  go_wp2_with fail
  clear c0 c1 c2 c3 cl Kp4 Kp5 Kp6 Kp7
  refine HOF.out.mono ?_
  rintro e w27 ⟨V2, rfl, hsv, hbl⟩
  obtain ⟨hs0, hwf⟩ := ex2_wf hsv
  have HWF2 := Lib.hid hwf
  have HS2 := Lib.hid hs0
  have GA := Lib.hid (show Grew w26 w27 from hbl)
  have HGW := Lib.hid (HGW.out.trans GA.out)
  have HS := Lib.hid (HS.out.keep GA.out)
  have HLV := Lib.hid (loose_keep HLV.out GA.out)
  clear hsv hbl hs0 hwf HOF GA
  go_wp2_with fail
  refine (first0 HS.out HWF.out).mono ?_
  rintro e w28 ⟨v1, rfl, hr, hg⟩
  have HR := Lib.hid hr
  have GA := Lib.hid hg
  clear hr hg
  have HGW := Lib.hid (HGW.out.trans GA.out)
  have HS := Lib.hid (HS.out.keep GA.out)
  have HS2 := Lib.hid (HS2.out.keep GA.out)
  have HLV := Lib.hid (loose_keep HLV.out GA.out)
  obtain ⟨w29, hw29⟩ : ∃ w29, w28.alloc (.cells #[.int .i64 0, .int .i64 1, .int .i64 2] 3) = w29 := ⟨_, rfl⟩
  have GB := Lib.hid (show Grew w28 w29 from hw29 ▸ grew_alloc w28 _)
  have oq : Owns w29 w28.heap.size [.int .i64 0, .int .i64 1, .int .i64 2] 3 := hw29 ▸ Owns.alloc w28 _ _
  have HSM := Lib.hid (same_yes [0, 1, 2] (by decide) w29 v1 _ (loose_ints (loose_keep HR.out GB.out)) (ints_owns oq))
  clear oq
  go_wp2_with fail
  refine HSM.out.mono ?_
  rintro e w30 ⟨rfl, hg⟩
  have GC := Lib.hid (GB.out.trans hg)
  have HGW := Lib.hid (HGW.out.trans GC.out)
  have HS := Lib.hid (HS.out.keep GC.out)
  have HS2 := Lib.hid (HS2.out.keep GC.out)
  have HLV := Lib.hid (loose_keep HLV.out GC.out)
  clear hw29 hg HSM GB GC
  clear HR GA
  go_wp2_with fail
  refine (first1 HS.out HWF.out).mono ?_
  rintro e w31 ⟨v2, rfl, hr, hg⟩
  have HR := Lib.hid hr
  have GA := Lib.hid hg
  clear hr hg
  have HGW := Lib.hid (HGW.out.trans GA.out)
  have HS := Lib.hid (HS.out.keep GA.out)
  have HS2 := Lib.hid (HS2.out.keep GA.out)
  have HLV := Lib.hid (loose_keep HLV.out GA.out)
  obtain ⟨w32, hw32⟩ : ∃ w32, w31.alloc (.cells #[.int .i64 2] 3) = w32 := ⟨_, rfl⟩
  have GB := Lib.hid (show Grew w31 w32 from hw32 ▸ grew_alloc w31 _)
  have oq : Owns w32 w31.heap.size [.int .i64 2] 3 := hw32 ▸ Owns.alloc w31 _ _
  have HSM := Lib.hid (same_yes [2] (by decide) w32 v2 _ (loose_ints (loose_keep HR.out GB.out)) (ints_owns oq))
  clear oq
  go_wp2_with fail
  refine HSM.out.mono ?_
  rintro e w33 ⟨rfl, hg⟩
  have GC := Lib.hid (GB.out.trans hg)
  have HGW := Lib.hid (HGW.out.trans GC.out)
  have HS := Lib.hid (HS.out.keep GC.out)
  have HS2 := Lib.hid (HS2.out.keep GC.out)
  have HLV := Lib.hid (loose_keep HLV.out GC.out)
  clear hw32 hg HSM GB GC
  clear HR GA
  go_wp2_with fail
  refine (follow0 HS.out HWF.out).mono ?_
  rintro e w34 ⟨v3, rfl, hr, hg⟩
  have HR := Lib.hid hr
  have GA := Lib.hid hg
  clear hr hg
  have HGW := Lib.hid (HGW.out.trans GA.out)
  have HS := Lib.hid (HS.out.keep GA.out)
  have HS2 := Lib.hid (HS2.out.keep GA.out)
  have HLV := Lib.hid (loose_keep HLV.out GA.out)
  obtain ⟨w35, hw35⟩ : ∃ w35, w34.alloc (.cells #[.int .i64 (-1), .int .i64 0] 3) = w35 := ⟨_, rfl⟩
  have GB := Lib.hid (show Grew w34 w35 from hw35 ▸ grew_alloc w34 _)
  have oq : Owns w35 w34.heap.size [.int .i64 (-1), .int .i64 0] 3 := hw35 ▸ Owns.alloc w34 _ _
  have HSM := Lib.hid (same_yes [-1, 0] (by decide) w35 v3 _ (loose_ints (loose_keep HR.out GB.out)) (ints_owns oq))
  clear oq
  go_wp2_with fail
  refine HSM.out.mono ?_
  rintro e w36 ⟨rfl, hg⟩
  have GC := Lib.hid (GB.out.trans hg)
  have HGW := Lib.hid (HGW.out.trans GC.out)
  have HS := Lib.hid (HS.out.keep GC.out)
  have HS2 := Lib.hid (HS2.out.keep GC.out)
  have HLV := Lib.hid (loose_keep HLV.out GC.out)
  clear hw35 hg HSM GB GC
  clear HR GA
  go_wp2_with fail
  refine (follow1 HS.out HWF.out).mono ?_
  rintro e w37 ⟨v4, rfl, hr, hg⟩
  have HR := Lib.hid hr
  have GA := Lib.hid hg
  clear hr hg
  have HGW := Lib.hid (HGW.out.trans GA.out)
  have HS := Lib.hid (HS.out.keep GA.out)
  have HS2 := Lib.hid (HS2.out.keep GA.out)
  have HLV := Lib.hid (loose_keep HLV.out GA.out)
  obtain ⟨w38, hw38⟩ : ∃ w38, w37.alloc (.cells #[.int .i64 0] 3) = w38 := ⟨_, rfl⟩
  have GB := Lib.hid (show Grew w37 w38 from hw38 ▸ grew_alloc w37 _)
  have oq : Owns w38 w37.heap.size [.int .i64 0] 3 := hw38 ▸ Owns.alloc w37 _ _
  have HSM := Lib.hid (same_yes [0] (by decide) w38 v4 _ (loose_ints (loose_keep HR.out GB.out)) (ints_owns oq))
  clear oq
  go_wp2_with fail
  refine HSM.out.mono ?_
  rintro e w39 ⟨rfl, hg⟩
  have GC := Lib.hid (GB.out.trans hg)
  have HGW := Lib.hid (HGW.out.trans GC.out)
  have HS := Lib.hid (HS.out.keep GC.out)
  have HS2 := Lib.hid (HS2.out.keep GC.out)
  have HLV := Lib.hid (loose_keep HLV.out GC.out)
  clear hw38 hg HSM GB GC
  clear HR GA
  obtain ⟨w40, hw40⟩ : ∃ w40, w39.alloc (.cells #[.int .i64 2] 3) = w40 := ⟨_, rfl⟩
  have GB := Lib.hid (show Grew w39 w40 from hw40 ▸ grew_alloc w39 _)
  have oq : Owns w40 w39.heap.size [.int .i64 2] 3 := hw40 ▸ Owns.alloc w39 _ _
  have HSM := Lib.hid (same_yes [2] (by decide) w40 lv _ (loose_ints (loose_keep HLV.out GB.out)) (ints_owns oq))
  clear oq
  go_wp2_with fail
  refine HSM.out.mono ?_
  rintro e w41 ⟨rfl, hg⟩
  have GC := Lib.hid (GB.out.trans hg)
  have HGW := Lib.hid (HGW.out.trans GC.out)
  have HS := Lib.hid (HS.out.keep GC.out)
  have HS2 := Lib.hid (HS2.out.keep GC.out)
  have HLV := Lib.hid (loose_keep HLV.out GC.out)
  clear hw40 hg HSM GB GC
  go_wp2_with fail
  refine (mk_ref _ _).mono ?_
  rintro e w42 ⟨rfl, hg⟩
  have GA := Lib.hid hg
  clear hg
  have HGW := Lib.hid (HGW.out.trans GA.out)
  have HS := Lib.hid (HS.out.keep GA.out)
  have HS2 := Lib.hid (HS2.out.keep GA.out)
  have HLV := Lib.hid (loose_keep HLV.out GA.out)
  go_wp2_with fail
  refine (low_b HS.out HWF.out).mono ?_
  rintro e w43 ⟨rfl, hg⟩
  have GC := Lib.hid hg
  have HGW := Lib.hid (HGW.out.trans GC.out)
  have HS := Lib.hid (HS.out.keep GC.out)
  have HS2 := Lib.hid (HS2.out.keep GC.out)
  have HLV := Lib.hid (loose_keep HLV.out GC.out)
  clear hg GA GC
  go_wp2_with fail
  refine (mk_ref _ _).mono ?_
  rintro e w44 ⟨rfl, hg⟩
  have GA := Lib.hid hg
  clear hg
  have HGW := Lib.hid (HGW.out.trans GA.out)
  have HS := Lib.hid (HS.out.keep GA.out)
  have HS2 := Lib.hid (HS2.out.keep GA.out)
  have HLV := Lib.hid (loose_keep HLV.out GA.out)
  go_wp2_with fail
  refine (low_a HS2.out HWF2.out).mono ?_
  rintro e w45 ⟨rfl, hg⟩
  have GC := Lib.hid hg
  have HGW := Lib.hid (HGW.out.trans GC.out)
  have HS := Lib.hid (HS.out.keep GC.out)
  have HS2 := Lib.hid (HS2.out.keep GC.out)
  have HLV := Lib.hid (loose_keep HLV.out GC.out)
  clear hg GA GC
  go_wp2_with fail
  go_ret
  exact ⟨rfl, HGW.out⟩
end Go.Proofs.Ytldoinfbimelpaa
