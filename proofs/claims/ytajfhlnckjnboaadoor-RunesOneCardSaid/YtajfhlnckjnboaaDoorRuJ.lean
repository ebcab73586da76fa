/- RunesJoin: it answers true, for every two texts and every place. -/
import Derived.Test.YtajfhlnckjnboaaDoorRuP
namespace Go.Proofs.YtajfhlnckjnboaaDoor
open Go.RowKit

/-- where the first rune is that is none, by the text's bytes -/
theorem badFrom_L (s : ByteArray) : ∀ (f p : Nat), badFrom s f p = badL f (s.data.toList.drop p) p
  | 0, _ => rfl
  | f + 1, p => by
    rw [badFrom, badL]
    by_cases h : p < s.size
    · have hne : s.data.toList.drop p ≠ [] := by
        intro h0
        have := congrArg List.length h0
        rw [List.length_drop, ← Lib.size_eq] at this
        simp at this
        omega
      rw [if_pos h, if_neg hne]
      have hr : runeAt s p = if Utf8.decode s p = (65533, 1) then (0, 1, false) else ((Utf8.decode s p).1, (Utf8.decode s p).2, true) := by
        unfold runeAt
        rw [if_neg (by omega)]
        rfl
      rw [hr]
      by_cases hb : Utf8.decode s p = (65533, 1)
      · have hba : badAt (s.data.toList.drop p) := by
          unfold badAt
          rw [Lib.decodeL_drop, hb]
          exact ⟨rfl, rfl⟩
        rw [if_pos hb, if_pos hba]
        rfl
      · have hba : ¬ badAt (s.data.toList.drop p) := by
          unfold badAt
          rw [Lib.decodeL_drop]
          exact fun h => hb (Prod.ext h.1 h.2)
        rw [if_neg hb, if_neg hba]
        simp only [if_true]
        rw [badFrom_L s f, Lib.decodeL_drop, List.drop_drop]
    · rw [if_neg h, if_pos (List.drop_eq_nil_of_le (by rw [← Lib.size_eq]; omega))]
theorem bad_L (s : ByteArray) : bad s = badOf s.data.toList 0 := by
  unfold bad badOf
  rw [badFrom_L, List.drop_zero, Lib.size_eq]
theorem badL_ge : ∀ (f : Nat) (l : List UInt8) (p : Nat), -1 ≤ badL f l p
  | 0, _, _ => by simp [badL]
  | f + 1, l, p => by
    rw [badL]
    split
    · omega
    · split
      · omega
      · exact badL_ge f _ _
theorem bad_ge (s : ByteArray) : -1 ≤ bad s := by
  rw [bad_L]
  exact badL_ge _ _ _

theorem join_law (a b : ByteArray) (i : Nat) (hb : bad a = -1) (hi : i ≤ b.size) :
    1 ≤ (place b i).1 ∧ (place (a ++ b) ((a.size + i : Nat) : Int)).1 = (place a (a.size : Int)).1 + (place b i).1 - 1 ∧
    (place (a ++ b) ((a.size + i : Nat) : Int)).2 = if (place b i).1 = 1 then (place a (a.size : Int)).2 + (place b i).2 - 1 else (place b i).2 := by
  have hsz : (a ++ b).size = a.size + b.size := ByteArray.size_append
  rw [place_L (a ++ b), place_L a, place_L b, within_nat (a ++ b) (a.size + i) (by omega), within_nat a a.size (Nat.le_refl _), within_nat b i hi]
  have hl : (a ++ b).data.toList = a.data.toList ++ b.data.toList := by simp [ByteArray.data_append]
  have ht : (a ++ b).data.toList.take (a.size + i) = a.data.toList ++ b.data.toList.take i := by
    rw [hl, Lib.size_eq, List.take_append, List.take_of_length_le (by omega)]
    congr 2
    omega
  have hta : a.data.toList.take a.size = a.data.toList := List.take_of_length_le (by rw [← Lib.size_eq]; exact Nat.le_refl _)
  rw [bad_L] at hb
  rw [ht, hta, placeOf_app _ _ _ _ _ 0 (Nat.le_refl _) hb]
  obtain ⟨k, m, d, hk⟩ := placeOf_shift _ (b.data.toList.take i) (Nat.le_refl _)
  rw [hk 1 1, hk]
  by_cases h0 : k = 0
  · subst h0
    simp
    omega
  · rw [if_neg h0, if_neg h0]
    simp only
    refine ⟨by omega, by omega, ?_⟩
    rw [if_neg (by omega)]
theorem place_pos (s : ByteArray) (at_ : Int) : 1 ≤ (place s at_).1 := by
  rw [place_L, placeOf_line _ _ _ _ (Nat.le_refl _)]
  omega

theorem placeL_pos : ∀ (f : Nat) (x : List UInt8) (l c : Nat), 1 ≤ c → 1 ≤ (placeL f x l c).2
  | 0, _, _, _, h => h
  | f + 1, x, l, c, h => by
    rw [placeL]
    split
    · exact h
    · split
      · exact placeL_pos f _ _ _ (Nat.le_refl _)
      · exact placeL_pos f _ _ _ (by omega)
theorem place_col (s : ByteArray) (at_ : Int) : 1 ≤ (place s at_).2 := by
  rw [place_L]
  exact placeL_pos _ _ _ _ (Nat.le_refl _)

set_option maxHeartbeats 8000000 in
set_option maxRecDepth 20000 in
theorem join_ok (a b : ByteArray) (x : Nat) (_hx : x ≤ 65535) (W : World) (hW : Laid W) : Calls Tryd.prog 6 #[.string a, .string b, .int .u16 x] W fun e W' => e = .returned (.bool true) ∧ Below W.heap.size W W' := by
  have HW := Lib.hid hW
  have HLV := Lib.hid (lives_ok)
  clear hW
  by_cases h1 : 2000 < a.size
  · go_enter Tryd.func6, Tryd.ntmps6
    go_wp2_with fail
    refine (HLV.out _ HW.out).mono ?_
    rintro e w1 ⟨rfl, hb1⟩
    go_wp2_with fail
    go_ret
    exact ⟨rfl, hb1⟩
  by_cases h2 : 2000 < b.size
  · go_enter Tryd.func6, Tryd.ntmps6
    go_wp2_with fail
    refine (HLV.out _ HW.out).mono ?_
    rintro e w1 ⟨rfl, hb1⟩
    go_wp2_with fail
    go_ret
    exact ⟨rfl, hb1⟩
  have ha : a.size ≤ 140737488355328 := by omega
  have hbz : b.size ≤ 140737488355328 := by omega
  have HBA := Lib.hid (fun w hw => bad_ok a w ha (Laid.tabs hw))
  have HBB := Lib.hid (fun w hw => bad_ok b w hbz (Laid.tabs hw))
  have ga := bad_ge a
  have gb := bad_ge b
  have hjl := join_law a b
  generalize hba : bad a = ba at *
  generalize hbb : bad b = bb at *
  by_cases h3 : 0 ≤ ba
  · go_enter Tryd.func6, Tryd.ntmps6
    go_wp2_with fail
    refine (HBA.out _ HW.out).mono ?_
    rintro e w1 ⟨rfl, hb1⟩
    go_wp2_with fail
    refine (HLV.out _ (HW.out.below hb1)).mono ?_
    rintro e w2 ⟨rfl, hb2⟩
    go_wp2_with fail
    go_ret
    exact ⟨rfl, hb1.trans (hb2.mono hb1.size)⟩
  by_cases h4 : 0 ≤ bb
  · go_enter Tryd.func6, Tryd.ntmps6
    go_wp2_with fail
    refine (HBA.out _ HW.out).mono ?_
    rintro e w1 ⟨rfl, hb1⟩
    go_wp2_with fail
    refine (HBB.out _ (HW.out.below hb1)).mono ?_
    rintro e w2 ⟨rfl, hb2⟩
    go_wp2_with fail
    refine (HLV.out _ ((HW.out.below hb1).below hb2)).mono ?_
    rintro e w3 ⟨rfl, hb3⟩
    go_wp2_with fail
    go_ret
    exact ⟨rfl, (hb1.trans (hb2.mono hb1.size)).trans (hb3.mono (Nat.le_trans hb1.size hb2.size))⟩
  have hba1 : ba = -1 := by omega
  have hbb1 : bb = -1 := by omega
  have hi := Nat.mod_lt x (show 0 < b.size + 1 by omega)
  have hrem : Int.tmod (x : Int) ((b.size : Int) + 1) = ((x % (b.size + 1) : Nat) : Int) := by
    rw [show ((b.size : Int) + 1) = ((b.size + 1 : Nat) : Int) from rfl]
    rfl
  generalize x % (b.size + 1) = i at *
  obtain ⟨j1, j2, j3⟩ := hjl i hba1 (by omega)
  have hPa := fun w => place_ok a (a.size : Int) w ha (by omega) (by omega)
  have hPb := fun w => place_ok b (i : Int) w hbz (by omega) (by omega)
  have hsz : (a ++ b).size = a.size + b.size := ByteArray.size_append
  have hPj := fun w => place_ok (a ++ b) ((a.size + i : Nat) : Int) w (by omega) (by omega) (by omega)
  unfold PlaceIs at hPa hPb hPj
  rw [within_nat a _ (Nat.le_refl _)] at hPa
  rw [within_nat b i (by omega)] at hPb
  rw [within_nat (a ++ b) _ (by omega)] at hPj
  have le1 := place_le a (a.size : Int)
  have le2 := place_le b (i : Int)
  have lp := place_pos a (a.size : Int)
  have lc1 := place_col a (a.size : Int)
  have lc2 := place_col b (i : Int)
  generalize place a (a.size : Int) = pe at *
  generalize place b (i : Int) = pp at *
  generalize place (a ++ b) ((a.size + i : Nat) : Int) = pj at *
  obtain ⟨el, ec⟩ := pe
  obtain ⟨pl, pc⟩ := pp
  obtain ⟨jl, jc⟩ := pj
  simp only at j1 j2 j3 hPa hPb hPj le1 le2 lp lc1 lc2
  subst j2
  have hjl2 : ((el + pl - 1 : Nat) : Int) = (el : Int) + pl - 1 := by omega
  rw [hjl2, show ((a.size + i : Nat) : Int) = (a.size : Int) + i from rfl] at hPj
  have HPA := Lib.hid hPa
  have HPB := Lib.hid hPb
  clear hPa hPb hjl
  subst hba1 hbb1
  by_cases h5 : pl = 1
  · subst h5
    rw [if_pos rfl] at j3
    subst j3
    rw [show (((ec + pc - 1 : Nat) : Int)) = (ec : Int) + pc - 1 by omega, show (el : Int) + ((1 : Nat) : Int) - 1 = el by omega] at hPj
    have HPJ := Lib.hid hPj
    clear hPj
    go_enter Tryd.func6, Tryd.ntmps6
    go_wp2_with fail
    refine (HBA.out _ HW.out).mono ?_
    rintro e w1 ⟨rfl, hb1⟩
    have HW1 := Lib.hid (HW.out.below hb1)
    go_wp2_with fail
    refine (HBB.out _ HW1.out).mono ?_
    rintro e w2 ⟨rfl, hb2⟩
    have HW2 := Lib.hid (HW1.out.below hb2)
    go_wp2_with fail
    refine (HPA.out _).mono ?_
    rintro e w3 ⟨rfl, hb3⟩
    have HW3 := Lib.hid (HW2.out.below hb3)
    go_wp2_with fail
    refine (HPB.out _).mono ?_
    rintro e w4 ⟨rfl, hb4⟩
    have o1 := Owns.alloc w3 [.int .i64 a.size, .int .i64 el, .int .i64 ec] 24
    have O1 := o1.below hb4 o1.lt
    have e0 := O1.cell_at (i := 0) rfl
    have e1 := O1.cell_at (i := 1) rfl
    have e2 := O1.cell_at (i := 2) rfl
    have hq1 := O1.lt
    have hne : w3.heap.size ≠ w4.heap.size := by omega
    have HW4 := Lib.hid ((HW3.out.below (Below.alloc (Below.refl _ _) (Nat.le_refl _) (.cells #[.int .i64 a.size, .int .i64 el, .int .i64 ec] 24))).below hb4)
    have HB4 := Lib.hid (((hb1.trans (hb2.mono hb1.size)).trans (hb3.mono (Nat.le_trans hb1.size hb2.size))).trans (((Below.alloc (Below.refl w3.heap.size w3) (Nat.le_refl _) (.cells #[.int .i64 a.size, .int .i64 el, .int .i64 ec] 24)).trans (hb4.mono (by simp))).mono (Nat.le_trans (Nat.le_trans hb1.size hb2.size) hb3.size)))
    clear o1 O1
    go_wp2_with fail
    have hs4 : (w4.alloc (.cells #[.int .i64 i, .int .i64 1, .int .i64 pc] 24)).heap.size = w4.heap.size + 1 := by simp
    have oz := Owns.alloc (w4.alloc (.cells #[.int .i64 i, .int .i64 1, .int .i64 pc] 24)) [.int .i64 ((a.size : Int) + i), .int .i64 el, .int .i64 ((ec : Int) + pc - 1)] 24
    rw [hs4] at oz
    have hgz : Below w4.heap.size w4 ((w4.alloc (.cells #[.int .i64 i, .int .i64 1, .int .i64 pc] 24)).alloc (.cells #[.int .i64 ((a.size : Int) + i), .int .i64 el, .int .i64 ((ec : Int) + pc - 1)] 24)) := (Below.alloc (Below.refl _ _) (Nat.le_refl _) _).alloc (by simp) _
    have HWz := Lib.hid (HW4.out.below hgz)
    have HBz := Lib.hid (HB4.out.trans (hgz.mono HB4.out.size))
    generalize (w4.alloc (.cells #[.int .i64 i, .int .i64 1, .int .i64 pc] 24)).alloc (.cells #[.int .i64 ((a.size : Int) + i), .int .i64 el, .int .i64 ((ec : Int) + pc - 1)] 24) = wz at *
    have z0 := oz.cell_at (i := 0) rfl
    have z1 := oz.cell_at (i := 1) rfl
    have z2 := oz.cell_at (i := 2) rfl
    have hzl := oz.lt
    clear oz hgz e0 e1 e2
    refine wp_region_hav_lit follows (by kernel_rfl) ?_
    repeat (first
      | (refine HavG.skip (fun _ => rfl) ?_; simp only [Act.put, List.setIfInBounds_toArray, List.set_cons_zero, List.set_cons_succ])
      | (refine HavG.val (fun _ => rfl) ?_ (fun x w hw _ => ?_) ?_; rotate_left; (focus (have hc := hw.cells; clear hw; go_simp; first | done | rfl)); simp only [Act.put, List.setIfInBounds_toArray, List.set_cons_zero, List.set_cons_succ]))
    refine HavG.val (fun _ => rfl) (.string (a ++ b)) (fun x w hw _ => ?_) ?_
    · clear hw
      go_simp
      omega
    simp only [Act.put, List.setIfInBounds_toArray, List.set_cons_zero, List.set_cons_succ]
    repeat (first
      | (refine HavG.skip (fun _ => rfl) ?_; simp only [Act.put, List.setIfInBounds_toArray, List.set_cons_zero, List.set_cons_succ])
      | (refine HavG.val (fun _ => rfl) ?_ (fun x w hw _ => ?_) ?_; rotate_left; (focus (have hc := hw.cells; clear hw; go_simp; first | done | rfl)); simp only [Act.put, List.setIfInBounds_toArray, List.set_cons_zero, List.set_cons_succ]))
    refine HavG.det (fun _ => rfl) (.agg #[.int .i64 ((a.size : Int) + i), .int .i64 el, .int .i64 ((ec : Int) + pc - 1)]) (fun x w hw _ => ?_) ?_
    · have HG := Lib.hid hw
      clear hw
      go_simp
      try rw [wrap_small _ (by omega) (by omega)]
      refine (HPJ.out w).mono ?_
      rintro e w' ⟨rfl, hb⟩
      exact ⟨rfl, hb⟩
    simp only [Act.put, List.setIfInBounds_toArray, List.set_cons_zero, List.set_cons_succ]
    repeat (first
      | (refine HavG.skip (fun _ => rfl) ?_; simp only [Act.put, List.setIfInBounds_toArray, List.set_cons_zero, List.set_cons_succ])
      | (refine HavG.val (fun _ => rfl) ?_ (fun x w hw _ => ?_) ?_; rotate_left; (focus (have hc := hw.cells; clear hw; go_simp; first | done | rfl)); simp only [Act.put, List.setIfInBounds_toArray, List.set_cons_zero, List.set_cons_succ]))
    refine HavG.det (fun _ => rfl) (.bool true) (fun x w hw _ => ?_) ?_
    · have HG := Lib.hid hw
      clear hw
      go_simp
      refine (HLV.out w (HWz.out.below HG.out)).mono ?_
      rintro e w' ⟨rfl, hb⟩
      exact ⟨rfl, hb⟩
    simp only [Act.put, List.setIfInBounds_toArray, List.set_cons_zero, List.set_cons_succ]
    repeat (first
      | (refine HavG.skip (fun _ => rfl) ?_; simp only [Act.put, List.setIfInBounds_toArray, List.set_cons_zero, List.set_cons_succ])
      | (refine HavG.val (fun _ => rfl) ?_ (fun x w hw _ => ?_) ?_; rotate_left; (focus (have hc := hw.cells; clear hw; go_simp; first | done | rfl)); simp only [Act.put, List.setIfInBounds_toArray, List.set_cons_zero, List.set_cons_succ]))
    refine HavG.tail (by kernel_rfl) (by kernel_rfl) (fun x w hw _ => ?_)
    have HG := Lib.hid hw
    clear hw
    go_wp2_with fail
    go_ret
    exact ⟨rfl, HBz.out.trans (HG.out.mono HBz.out.size)⟩
  · rw [if_neg h5] at j3
    subst j3
    have h5' : ¬ ((pl : Int) = 1) := by omega
    have HPJ := Lib.hid hPj
    clear hPj
    go_enter Tryd.func6, Tryd.ntmps6
    go_wp2_with fail
    refine (HBA.out _ HW.out).mono ?_
    rintro e w1 ⟨rfl, hb1⟩
    have HW1 := Lib.hid (HW.out.below hb1)
    go_wp2_with fail
    refine (HBB.out _ HW1.out).mono ?_
    rintro e w2 ⟨rfl, hb2⟩
    have HW2 := Lib.hid (HW1.out.below hb2)
    go_wp2_with fail
    refine (HPA.out _).mono ?_
    rintro e w3 ⟨rfl, hb3⟩
    have HW3 := Lib.hid (HW2.out.below hb3)
    go_wp2_with fail
    refine (HPB.out _).mono ?_
    rintro e w4 ⟨rfl, hb4⟩
    have o1 := Owns.alloc w3 [.int .i64 a.size, .int .i64 el, .int .i64 ec] 24
    have O1 := o1.below hb4 o1.lt
    have e0 := O1.cell_at (i := 0) rfl
    have e1 := O1.cell_at (i := 1) rfl
    have e2 := O1.cell_at (i := 2) rfl
    have hq1 := O1.lt
    have hne : w3.heap.size ≠ w4.heap.size := by omega
    have HW4 := Lib.hid ((HW3.out.below (Below.alloc (Below.refl _ _) (Nat.le_refl _) (.cells #[.int .i64 a.size, .int .i64 el, .int .i64 ec] 24))).below hb4)
    have HB4 := Lib.hid (((hb1.trans (hb2.mono hb1.size)).trans (hb3.mono (Nat.le_trans hb1.size hb2.size))).trans (((Below.alloc (Below.refl w3.heap.size w3) (Nat.le_refl _) (.cells #[.int .i64 a.size, .int .i64 el, .int .i64 ec] 24)).trans (hb4.mono (by simp))).mono (Nat.le_trans (Nat.le_trans hb1.size hb2.size) hb3.size)))
    clear o1 O1
    go_wp2_with fail
    have hs4 : (w4.alloc (.cells #[.int .i64 i, .int .i64 pl, .int .i64 jc] 24)).heap.size = w4.heap.size + 1 := by simp
    have oz := Owns.alloc (w4.alloc (.cells #[.int .i64 i, .int .i64 pl, .int .i64 jc] 24)) [.int .i64 ((a.size : Int) + i), .int .i64 ((el : Int) + pl - 1), .int .i64 jc] 24
    rw [hs4] at oz
    have hgz : Below w4.heap.size w4 ((w4.alloc (.cells #[.int .i64 i, .int .i64 pl, .int .i64 jc] 24)).alloc (.cells #[.int .i64 ((a.size : Int) + i), .int .i64 ((el : Int) + pl - 1), .int .i64 jc] 24)) := (Below.alloc (Below.refl _ _) (Nat.le_refl _) _).alloc (by simp) _
    have HWz := Lib.hid (HW4.out.below hgz)
    have HBz := Lib.hid (HB4.out.trans (hgz.mono HB4.out.size))
    generalize (w4.alloc (.cells #[.int .i64 i, .int .i64 pl, .int .i64 jc] 24)).alloc (.cells #[.int .i64 ((a.size : Int) + i), .int .i64 ((el : Int) + pl - 1), .int .i64 jc] 24) = wz at *
    have z0 := oz.cell_at (i := 0) rfl
    have z1 := oz.cell_at (i := 1) rfl
    have z2 := oz.cell_at (i := 2) rfl
    have hzl := oz.lt
    clear oz hgz e0 e1 e2
    refine wp_region_hav_lit follows (by kernel_rfl) ?_
    repeat (first
      | (refine HavG.skip (fun _ => rfl) ?_; simp only [Act.put, List.setIfInBounds_toArray, List.set_cons_zero, List.set_cons_succ])
      | (refine HavG.val (fun _ => rfl) ?_ (fun x w hw _ => ?_) ?_; rotate_left; (focus (have hc := hw.cells; clear hw; go_simp; first | done | rfl)); simp only [Act.put, List.setIfInBounds_toArray, List.set_cons_zero, List.set_cons_succ]))
    refine HavG.val (fun _ => rfl) (.string (a ++ b)) (fun x w hw _ => ?_) ?_
    · clear hw
      go_simp
      omega
    simp only [Act.put, List.setIfInBounds_toArray, List.set_cons_zero, List.set_cons_succ]
    repeat (first
      | (refine HavG.skip (fun _ => rfl) ?_; simp only [Act.put, List.setIfInBounds_toArray, List.set_cons_zero, List.set_cons_succ])
      | (refine HavG.val (fun _ => rfl) ?_ (fun x w hw _ => ?_) ?_; rotate_left; (focus (have hc := hw.cells; clear hw; go_simp; first | done | rfl)); simp only [Act.put, List.setIfInBounds_toArray, List.set_cons_zero, List.set_cons_succ]))
    refine HavG.det (fun _ => rfl) (.agg #[.int .i64 ((a.size : Int) + i), .int .i64 ((el : Int) + pl - 1), .int .i64 jc]) (fun x w hw _ => ?_) ?_
    · have HG := Lib.hid hw
      clear hw
      go_simp
      try rw [wrap_small _ (by omega) (by omega)]
      refine (HPJ.out w).mono ?_
      rintro e w' ⟨rfl, hb⟩
      exact ⟨rfl, hb⟩
    simp only [Act.put, List.setIfInBounds_toArray, List.set_cons_zero, List.set_cons_succ]
    repeat (first
      | (refine HavG.skip (fun _ => rfl) ?_; simp only [Act.put, List.setIfInBounds_toArray, List.set_cons_zero, List.set_cons_succ])
      | (refine HavG.val (fun _ => rfl) ?_ (fun x w hw _ => ?_) ?_; rotate_left; (focus (have hc := hw.cells; clear hw; go_simp; first | done | rfl)); simp only [Act.put, List.setIfInBounds_toArray, List.set_cons_zero, List.set_cons_succ]))
    refine HavG.det (fun _ => rfl) (.bool true) (fun x w hw _ => ?_) ?_
    · have HG := Lib.hid hw
      clear hw
      go_simp
      refine (HLV.out w (HWz.out.below HG.out)).mono ?_
      rintro e w' ⟨rfl, hb⟩
      exact ⟨rfl, hb⟩
    simp only [Act.put, List.setIfInBounds_toArray, List.set_cons_zero, List.set_cons_succ]
    repeat (first
      | (refine HavG.skip (fun _ => rfl) ?_; simp only [Act.put, List.setIfInBounds_toArray, List.set_cons_zero, List.set_cons_succ])
      | (refine HavG.val (fun _ => rfl) ?_ (fun x w hw _ => ?_) ?_; rotate_left; (focus (have hc := hw.cells; clear hw; go_simp; first | done | rfl)); simp only [Act.put, List.setIfInBounds_toArray, List.set_cons_zero, List.set_cons_succ]))
    refine HavG.tail (by kernel_rfl) (by kernel_rfl) (fun x w hw _ => ?_)
    have HG := Lib.hid hw
    clear hw
    go_wp2_with fail
    go_ret
    exact ⟨rfl, HBz.out.trans (HG.out.mono HBz.out.size)⟩
end Go.Proofs.YtajfhlnckjnboaaDoor
