/- SamplesVoid: a book that is not there derives nothing. -/
import Derived.Test.YtgegjjfjhpokpaaGreatDoorQ49
namespace Go.Proofs.YtgegjjfjhpokpaaGreatDoor
open Go.RowKit

set_option maxHeartbeats 4000000 in
set_option maxRecDepth 40000 in
theorem void27_ok (r long many : Int) (ya : Option Addr) (yn yc : Nat) (W : World) (hT : Lib.Utf8Tabs 1 2 W) :
    Calls Tryz.prog 3 #[.agg #[.int .i64 r, .int .i64 long, .int .i64 many, .slice ya yn yc]] W fun e W' => e = .returned (.bool true) ∧ Grew W W' := by
  have HT := Lib.hid hT
  obtain ⟨w1, hw1⟩ : ∃ w1, W.alloc (.cells #[.int .i64 r, .int .i64 long, .int .i64 many, .slice ya yn yc] 24) = w1 := ⟨_, rfl⟩
  have G1 := Lib.hid (show Grew W w1 from hw1 ▸ grew_alloc W _)
  have o1 : Owns w1 W.heap.size [.int .i64 r, .int .i64 long, .int .i64 many, .slice ya yn yc] 24 := hw1 ▸ Owns.alloc W _ _
  have HO := Lib.hid o1
  obtain ⟨w3, hw3⟩ : ∃ w3, w1.alloc (.cells #[.map none, .map none, .slice none 0 0, .slice none 0 0, .slice none 0 0] 29) = w3 := ⟨_, rfl⟩
  have G3 := Lib.hid (show Grew w1 w3 from hw3 ▸ grew_alloc w1 _)
  have o3 : Owns w3 w1.heap.size [.map none, .map none, .slice none 0 0, .slice none 0 0, .slice none 0 0] 29 := hw3 ▸ Owns.alloc w1 _ _
  obtain ⟨b, hb⟩ : ∃ b, w1.heap.size = b := ⟨_, rfl⟩
  rw [hb] at o3
  obtain ⟨w4, hw4⟩ : ∃ w4, w3.alloc (.cells #[.pointer none, .pointer (some ⟨b, 0, none⟩)] 30) = w4 := ⟨_, rfl⟩
  have G4 := Lib.hid (show Grew w3 w4 from hw4 ▸ grew_alloc w3 _)
  have o4 : Owns w4 w3.heap.size [.pointer none, .pointer (some ⟨b, 0, none⟩)] 30 := hw4 ▸ Owns.alloc w3 _ _
  obtain ⟨l, hl⟩ : ∃ l, w3.heap.size = l := ⟨_, rfl⟩
  rw [hl] at o4
  have HN := Lib.hid (o3.keep G4.out)
  have HLL := Lib.hid o4
  have HO := Lib.hid (HO.out.keep (G3.out.trans G4.out))
  have G5 := Lib.hid (G1.out.trans (G3.out.trans G4.out))
  clear o1 o3 o4 G3 G4 G1 hT
  go_enter Tryz.func3, Tryz.ntmps3
  go_wp2_with fail
  clear hw1 hw3 hw4 hb hl
  go_loopw [5] (fun i wr => ∃ j : Nat, i = .int .i64 j ∧ j ≤ 2 ∧ Hid (Grew w4 wr)) (fun i _ => 2 - (intOf i).toNat)
  case atStart => exact ⟨0, rfl, by omega, Grew.refl _⟩
  case round =>
    obtain ⟨j, rfl, hj, hg⟩ := hrel
    by_cases hlt : j < 2
    · obtain ⟨v, hv, hns⟩ : ∃ v, wr.cell? ⟨l, j, none⟩ = some v ∧ NoBook wr v := by
        have h1 := HLL.out.keep hg.out
        obtain rfl | rfl : j = 0 ∨ j = 1 := by omega
        · exact ⟨_, h1.cell_at (i := 0) rfl, .inl rfl⟩
        · exact ⟨_, h1.cell_at (i := 1) rfl, .inr ⟨b, rfl, HN.out.keep hg.out⟩⟩
      have hll := (HLL.out.keep hg.out).lt
      have hjl : (j : Int) < 2 := by omega
      have hj0 : (0 : Int) ≤ (j : Int) := by omega
      have ho := HO.out.keep hg.out
      have c0 := ho.cell_at (i := 0) rfl
      have c1 := ho.cell_at (i := 1) rfl
      have c2 := ho.cell_at (i := 2) rfl
      have c3 := ho.cell_at (i := 3) rfl
      have cl := ho.lt
      have d2 : decide ((j : Int) < 2) = true := decide_eq_true (by omega)
      have HNS := Lib.hid hns
      have HAL := Lib.hid (fun w' (hw : Grew wr w') => sAll_none w' v r long many (HNS.out.keep hw))
      have HLE := Lib.hid (fun w' (hw : Grew wr w') => sLeast_none w' v r (HNS.out.keep hw))
      have HHA := Lib.hid (fun w' (hw : Grew wr w') => sHas_none w' v r (.slice ya yn yc) (HNS.out.keep hw))
      have HLO := Lib.hid (fun w' (hw : Grew wr w') => sLong_none w' v r (HNS.out.keep hw))
      have HLL5 := Lib.hid (HLL.out.keep hg.out)
      have HO5 := Lib.hid (HO.out.keep hg.out)
      have HV5 := Lib.hid hv
      clear ho hns
      go_upto_region 6 with fail
      refine wp_region_hav_lit follows (by kernel_rfl) ?_
      iterate 10 (first
        | (refine HavG.skip (fun _ => rfl) ?_; simp only [Act.put, List.setIfInBounds_toArray, List.set_cons_zero, List.set_cons_succ])
        | (refine HavG.val (fun _ => rfl) ?_ (fun x w hw _ => ?_) ?_; rotate_left; (focus (have hc := hw.cells; clear hw; go_simp; first | done | rfl)); simp only [Act.put, List.setIfInBounds_toArray, List.set_cons_zero, List.set_cons_succ]))
      refine HavG.det (fun _ => rfl) (.tuple #[.slice none 0 0, .int .i64 2]) (fun x w hw hd => ?_) ?_
      · clear hd
        have HW := Lib.hid hw
        clear hw
        go_simp
        refine (HAL.out _ HW.out).mono ?_
        rintro e w' ⟨rfl, hg⟩
        exact ⟨rfl, hg⟩
      simp only [Act.put, List.setIfInBounds_toArray, List.set_cons_zero, List.set_cons_succ]
      repeat (first
        | (refine HavG.skip (fun _ => rfl) ?_; simp only [Act.put, List.setIfInBounds_toArray, List.set_cons_zero, List.set_cons_succ])
        | (refine HavG.val (fun _ => rfl) ?_ (fun x w hw _ => ?_) ?_; rotate_left; (focus (have hc := hw.cells; clear hw; go_simp; first | done | rfl)); simp only [Act.put, List.setIfInBounds_toArray, List.set_cons_zero, List.set_cons_succ]))
      refine HavG.tail (by kernel_rfl) (by kernel_rfl) (fun x w hw _ => ?_)
      have HW := Lib.hid hw
      have hv := (hw.cells _ j hll).trans HV5.out
      have hll := (HLL5.out.keep hw).lt
      have ho := HO5.out.keep hw
      have c0 := ho.cell_at (i := 0) rfl
      have c1 := ho.cell_at (i := 1) rfl
      have c2 := ho.cell_at (i := 2) rfl
      have c3 := ho.cell_at (i := 3) rfl
      have cl := ho.lt
      clear ho hw
      go_upto_region 7 with fail
      refine wp_region_hav_lit follows (by kernel_rfl) ?_
      iterate 6 (first
        | (refine HavG.skip (fun _ => rfl) ?_; simp only [Act.put, List.setIfInBounds_toArray, List.set_cons_zero, List.set_cons_succ])
        | (refine HavG.val (fun _ => rfl) ?_ (fun x w hw _ => ?_) ?_; rotate_left; (focus (have hc := hw.cells; clear hw; go_simp; first | done | rfl)); simp only [Act.put, List.setIfInBounds_toArray, List.set_cons_zero, List.set_cons_succ]))
      refine HavG.det (fun _ => rfl) (.tuple #[.slice none 0 0, .bool false]) (fun x w' hw hd => ?_) ?_
      · clear hd
        have HW2 := Lib.hid hw
        clear hw
        go_simp
        refine (HLE.out _ (HW.out.trans HW2.out)).mono ?_
        rintro e w6 ⟨rfl, hg6⟩
        exact ⟨rfl, hg6⟩
      simp only [Act.put, List.setIfInBounds_toArray, List.set_cons_zero, List.set_cons_succ]
      repeat (first
        | (refine HavG.skip (fun _ => rfl) ?_; simp only [Act.put, List.setIfInBounds_toArray, List.set_cons_zero, List.set_cons_succ])
        | (refine HavG.val (fun _ => rfl) ?_ (fun x w hw _ => ?_) ?_; rotate_left; (focus (have hc := hw.cells; clear hw; go_simp; first | done | rfl)); simp only [Act.put, List.setIfInBounds_toArray, List.set_cons_zero, List.set_cons_succ]))
      refine HavG.tail (by kernel_rfl) (by kernel_rfl) (fun x w7 hw7 _ => ?_)
      have HW7 := Lib.hid (HW.out.trans hw7)
      have hv := (HW7.out.cells _ j (Nat.lt_of_lt_of_le HLL5.out.lt (Nat.le_refl _))).trans HV5.out
      have hll := (HLL5.out.keep HW7.out).lt
      have ho := HO5.out.keep HW7.out
      have c0 := ho.cell_at (i := 0) rfl
      have c1 := ho.cell_at (i := 1) rfl
      have c2 := ho.cell_at (i := 2) rfl
      have c3 := ho.cell_at (i := 3) rfl
      have cl := ho.lt
      clear ho hw7
      go_upto_region 8 with fail
      refine wp_region_hav_lit follows (by kernel_rfl) ?_
      iterate 24 (first
        | (refine HavG.skip (fun _ => rfl) ?_; simp only [Act.put, List.setIfInBounds_toArray, List.set_cons_zero, List.set_cons_succ])
        | (refine HavG.val (fun _ => rfl) ?_ (fun x w hw _ => ?_) ?_; rotate_left; (focus (have hc := hw.cells; clear hw; go_simp; first | done | rfl)); simp only [Act.put, List.setIfInBounds_toArray, List.set_cons_zero, List.set_cons_succ]))
      refine HavG.det (fun _ => rfl) (.bool false) (fun x w' hw hd => ?_) ?_
      · clear hd
        have HW2 := Lib.hid hw
        clear hw
        go_simp
        refine (HHA.out _ (HW7.out.trans HW2.out)).mono ?_
        rintro e w6 ⟨rfl, hg6⟩
        exact ⟨rfl, hg6⟩
      simp only [Act.put, List.setIfInBounds_toArray, List.set_cons_zero, List.set_cons_succ]
      iterate 8 (first
        | (refine HavG.skip (fun _ => rfl) ?_; simp only [Act.put, List.setIfInBounds_toArray, List.set_cons_zero, List.set_cons_succ])
        | (refine HavG.val (fun _ => rfl) ?_ (fun x w hw _ => ?_) ?_; rotate_left; (focus (have hc := hw.cells; clear hw; go_simp; first | done | rfl)); simp only [Act.put, List.setIfInBounds_toArray, List.set_cons_zero, List.set_cons_succ]))
      refine HavG.det (fun _ => rfl) (.int .i64 (-1)) (fun x w' hw hd => ?_) ?_
      · clear hd
        have HW2 := Lib.hid hw
        clear hw
        go_simp
        refine (HLO.out _ (HW7.out.trans HW2.out)).mono ?_
        rintro e w6 ⟨rfl, rfl⟩
        exact ⟨rfl, Grew.refl _⟩
      simp only [Act.put, List.setIfInBounds_toArray, List.set_cons_zero, List.set_cons_succ]
      repeat (first
        | (refine HavG.skip (fun _ => rfl) ?_; simp only [Act.put, List.setIfInBounds_toArray, List.set_cons_zero, List.set_cons_succ])
        | (refine HavG.val (fun _ => rfl) ?_ (fun x w hw _ => ?_) ?_; rotate_left; (focus (have hc := hw.cells; clear hw; go_simp; first | done | rfl)); simp only [Act.put, List.setIfInBounds_toArray, List.set_cons_zero, List.set_cons_succ]))
      refine HavG.tail (by kernel_rfl) (by kernel_rfl) (fun x w9 hw9 _ => ?_)
      have HW9 := Lib.hid (HW7.out.trans hw9)
      clear hw9 hv hll c0 c1 c2 c3 cl
      go_wp2_with fail
      exact ⟨⟨j + 1, by go_num, by omega, hg.out.trans HW9.out⟩, by simp [intOf]; omega⟩
    · obtain rfl : j = 2 := by omega
      have HL := Lib.hid (lives27_ok wr (tabs_grew HT.out (G5.out.trans hg.out)))
      go_wp2_with fail
      refine HL.out.mono ?_
      rintro e w9 ⟨rfl, hg9⟩
      have HG := Lib.hid hg9
      clear hg9
      go_wp2_with fail
      go_ret
      exact ⟨rfl, (G5.out.trans hg.out).trans HG.out⟩
end Go.Proofs.YtgegjjfjhpokpaaGreatDoor
