/- RunesPlaces: it answers true, for every text. -/
import Derived.Test.YtajfhlnckjnboaaDoorRu9
import Derived.Test.YtajfhlnckjnboaaDoorOwn
namespace Go.Proofs.YtajfhlnckjnboaaDoor
open Go.RowKit

theorem placeFrom_L (t : ByteArray) : ∀ (f pos l c : Nat), placeFrom t f pos l c = placeL f (t.data.toList.drop pos) l c
  | 0, _, _, _ => rfl
  | f + 1, pos, l, c => by
    rw [placeFrom, placeL]
    by_cases h : pos < t.size
    · have hne : t.data.toList.drop pos ≠ [] := by
        intro h0
        have := congrArg List.length h0
        rw [List.length_drop, ← Lib.size_eq] at this
        simp at this
        omega
      rw [if_pos h, if_neg hne, Lib.decodeL_drop, List.drop_drop, placeFrom_L t f, placeFrom_L t f]
    · rw [if_neg h, if_pos (List.drop_eq_nil_of_le (by rw [← Lib.size_eq]; omega))]
/-- a place, by the text's bytes -/
theorem place_L (s : ByteArray) (at_ : Int) : place s at_ = placeOf (s.data.toList.take (within s at_)) 1 1 := by
  have hk : within s at_ ≤ s.size := by
    unfold within
    omega
  unfold place placeOf
  rw [placeFrom_L, List.drop_zero, Lib.extract_data, List.drop_zero, Nat.sub_zero, List.length_take, ← Lib.size_eq, Nat.min_eq_left hk]

theorem within_nat (s : ByteArray) (k : Nat) (h : k ≤ s.size) : within s (k : Int) = k := by
  unfold within
  omega
/-- one byte further -/
theorem place_step (s : ByteArray) (k : Nat) (h : k < s.size) :
    (s[k]'h = 10 → place s ((k + 1 : Nat) : Int) = ((place s (k : Int)).1 + 1, 1)) ∧ (s[k]'h ≠ 10 → (place s ((k + 1 : Nat) : Int)).1 = (place s (k : Int)).1) := by
  rw [place_L, place_L, within_nat s k (by omega), within_nat s (k + 1) (by omega)]
  have hl : k < s.data.toList.length := by rw [← Lib.size_eq]; exact h
  have ht : s.data.toList.take (k + 1) = s.data.toList.take k ++ [s[k]'h] := by
    rw [List.take_succ_eq_append_getElem hl]
    rfl
  rw [ht]
  refine ⟨fun h10 => ?_, fun h10 => ?_⟩
  · apply Prod.ext
    · rw [placeOf_line _ _ _ _ (Nat.le_refl _), placeOf_line _ _ _ _ (Nat.le_refl _), List.count_append, h10]
      simp
      omega
    · exact placeOf_one _ _ _ _ (Nat.le_refl _) (by rw [h10]; simp)
  · rw [placeOf_line _ _ _ _ (Nat.le_refl _), placeOf_line _ _ _ _ (Nat.le_refl _), List.count_append]
    simp [h10]
/-- a line is not beyond the bytes -/
theorem placeL_le : ∀ (f : Nat) (x : List UInt8) (l c : Nat), (placeL f x l c).1 ≤ l + x.length ∧ (placeL f x l c).2 ≤ c + x.length + 1
  | 0, _, _, _ => by simp [placeL]; omega
  | f + 1, x, l, c => by
    rw [placeL]
    split
    · simp
      omega
    · next hne =>
      have hd := drop_lt x hne
      split
      · have := placeL_le f (x.drop (Lib.decodeL x).2) (l + 1) 1
        omega
      · have := placeL_le f (x.drop (Lib.decodeL x).2) l (c + 1)
        omega
theorem place_le (s : ByteArray) (at_ : Int) : (place s at_).1 ≤ 1 + s.size ∧ (place s at_).2 ≤ 2 + s.size := by
  rw [place_L]
  have := placeL_le (s.data.toList.take (within s at_)).length (s.data.toList.take (within s at_)) 1 1
  rw [List.length_take, ← Lib.size_eq] at this
  unfold placeOf
  rw [List.length_take, ← Lib.size_eq]
  omega

theorem follows : Tryd.prog.follows .mixedOrders = true := by kernel_rfl
set_option maxHeartbeats 8000000 in
set_option maxRecDepth 20000 in
theorem places_ok (s : ByteArray) (W : World) (hW : Laid W) : Calls Tryd.prog 3 #[.string s] W fun e W' => e = .returned (.bool true) ∧ Below W.heap.size W W' := by
  have HW := Lib.hid hW
  have HLV := Lib.hid (lives_ok)
  clear hW
  by_cases hs : ¬ s.size ≤ 500
  · go_enter Tryd.func3, Tryd.ntmps3
    go_wp2_with fail
    refine (HLV.out _ HW.out).mono ?_
    rintro e w1 ⟨rfl, hb1⟩
    go_wp2_with fail
    go_ret
    exact ⟨rfl, hb1⟩
  go_enter Tryd.func3, Tryd.ntmps3
  go_wp2_with fail
  refine (place_ok s (-1) W (by omega) (by decide) (by decide)).mono ?_
  rintro e w1 ⟨rfl, hb1⟩
  have h00 : place s (-1) = (1, 1) := by
    rw [place_L, show within s (-1) = 0 by unfold within; omega]
    rfl
  rw [h00, show within s (-1) = 0 by unfold within; omega]
  have o1 := Owns.alloc w1 [.int .i64 0, .int .i64 1, .int .i64 1] 24
  have HB1 := Lib.hid (hb1.alloc hb1.size (.cells #[.int .i64 0, .int .i64 1, .int .i64 1] 24))
  have e0 := o1.cell_at (i := 0) rfl
  have e1 := o1.cell_at (i := 1) rfl
  have e2 := o1.cell_at (i := 2) rfl
  have hsz1 := hb1.size
  obtain ⟨b, hb⟩ : ∃ b, w1.heap.size = b := ⟨_, rfl⟩
  have HO1 := Lib.hid o1
  clear o1
  go_wp2_with fail
  rw [hb] at HO1
  have hbW : W.heap.size ≤ b := by omega
  go_loopw [4] (fun vi wr => ∃ (k : Nat), vi = .int .i64 ((k : Int) + 1) ∧ k ≤ s.size ∧ Hid (Owns wr b [.int .i64 k, .int .i64 (place s k).1, .int .i64 (place s k).2] 24) ∧ Hid (Below W.heap.size W wr)) (fun vi _ => s.size + 3 - (intOf vi).toNat)
  case atStart =>
    refine ⟨0, rfl, Nat.zero_le _, ?_, HB1.out⟩
    have : place s ((0 : Nat) : Int) = (1, 1) := by
      rw [place_L, within_nat s 0 (Nat.zero_le _)]
      rfl
    rw [this]
    exact HO1.out
  case round =>
    obtain ⟨k, rfl, hk, hown, hbw⟩ := hrel
    by_cases hlt : k < s.size
    · have hst := place_step s k hlt
      have hle := place_le s k
      have hle2 := place_le s ((k + 1 : Nat) : Int)
      have hwn := within_nat s (k + 1) (by omega)
      have hP := place_ok s ((k + 1 : Nat) : Int) wr (by omega) (by omega) (by omega)
      unfold PlaceIs at hP
      rw [hwn] at hP
      generalize place s (k : Int) = p0 at *
      generalize hp1 : place s ((k + 1 : Nat) : Int) = p1 at *
      obtain ⟨l0, c0⟩ := p0
      obtain ⟨l1, c1⟩ := p1
      simp only at hst hle hle2 hP
      have HP := Lib.hid hP
      have HPP := Lib.hid hp1
      have HST := Lib.hid hst
      clear hP hwn hp1 hst
      go_wp2_with fail
      refine HP.out.mono ?_
      rintro e w2 ⟨rfl, hb2⟩
      have o2 := hown.out.below hb2 (hown.out.lt)
      have hlt2 := o2.lt
      have o3 := o2.keep (W' := w2.alloc (.cells #[.int .i64 ((k + 1 : Nat) : Int), .int .i64 l1, .int .i64 c1] 24)) (Below.alloc (Below.refl _ _) (Nat.le_refl _) _)
      have o4 := Owns.alloc w2 [.int .i64 ((k + 1 : Nat) : Int), .int .i64 l1, .int .i64 c1] 24
      have HB3 := Lib.hid ((hbw.out.trans (hb2.mono (by have := hbw.out.size; omega))).alloc (B := W.heap.size) (by have := hbw.out.size; have := hb2.size; omega) (.cells #[.int .i64 ((k + 1 : Nat) : Int), .int .i64 l1, .int .i64 c1] 24))
      have e0' := o2.cell_at (i := 0) rfl
      have e1' := o2.cell_at (i := 1) rfl
      have e2' := o2.cell_at (i := 2) rfl
      have f0' := o2.free 0
      have f1' := o2.free 1
      have f2' := o2.free 2
      have hne : b ≠ w2.heap.size := by omega
      have hq := ((o2.set 0 (.int .i64 ((k + 1 : Nat) : Int))).set 1 (.int .i64 l1)).set 2 (.int .i64 c1)
      have HB4 := Lib.hid ((((hbw.out.trans (hb2.mono (by have := hbw.out.size; omega))).setCell (p := ⟨b, 0, none⟩) hbW (.int .i64 ((k + 1 : Nat) : Int))).setCell (p := ⟨b, 1, none⟩) hbW (.int .i64 l1)).setCell (p := ⟨b, 2, none⟩) hbW (.int .i64 c1))
      have hsw : W.heap.size ≤ w2.heap.size := by omega
      have HQ := Lib.hid hq
      by_cases h10 : s[k]'hlt = 10
      · have hx := HST.out.1 h10
        have hl1 : l1 = l0 + 1 := (Prod.mk.inj hx).1
        have hc1 : c1 = 1 := (Prod.mk.inj hx).2
        clear hx hq o2 o3 o4
        subst hl1 hc1
        go_wp2_with fail
        refine ⟨⟨k + 1, rfl, by omega, ?_, ?_⟩, by simp only [intOf]; omega⟩
        · unfold Hid
          rw [HPP.out]
          exact HQ.out.keep (Below.alloc (Below.refl _ _) (Nat.le_refl _) _)
        · exact HB4.out.alloc HB4.out.size _
      · have hx := HST.out.2 h10
        have h10' : ¬ (((s[k]'hlt).toNat : Int) = 10) := fun h => h10 (UInt8.toNat_inj.1 (by simpa using Int.ofNat.inj h))
        clear hq o2 o3 o4
        subst hx
        go_wp2_with fail
        refine ⟨⟨k + 1, rfl, by omega, ?_, ?_⟩, by simp only [intOf]; omega⟩
        · unfold Hid
          rw [HPP.out]
          exact HQ.out.keep (Below.alloc (Below.refl _ _) (Nat.le_refl _) _)
        · exact HB4.out.alloc HB4.out.size _
    · have hkk : k = s.size := by omega
      subst hkk
      have hw9 : within s ((s.size : Int) + 9) = s.size := by unfold within; omega
      have hP9 : place s ((s.size : Int) + 9) = place s (s.size : Int) := by
        rw [place_L, place_L, hw9, within_nat s s.size (Nat.le_refl _)]
      have hP := fun w => place_ok s ((s.size : Int) + 9) w (by omega) (by omega) (by omega)
      unfold PlaceIs at hP
      rw [hw9, hP9] at hP
      generalize place s (s.size : Int) = p0 at *
      obtain ⟨l0, c0⟩ := p0
      simp only at hP
      have HP := Lib.hid hP
      clear hP hw9 hP9
      have HWr := Lib.hid (HW.out.below hbw.out)
      have e0' := hown.out.cell_at (i := 0) rfl
      have e1' := hown.out.cell_at (i := 1) rfl
      have e2' := hown.out.cell_at (i := 2) rfl
      have hblt := hown.out.lt
      go_wp2_with fail
      refine wp_region_hav_lit follows (by kernel_rfl) ?_
      repeat (first
        | (refine HavG.skip (fun _ => rfl) ?_; simp only [Act.put, List.setIfInBounds_toArray, List.set_cons_zero, List.set_cons_succ])
        | (refine HavG.val (fun _ => rfl) ?_ (fun x w hw _ => ?_) ?_; rotate_left; (focus (have hc := hw.cells; clear hw; go_simp; first | done | rfl)); simp only [Act.put, List.setIfInBounds_toArray, List.set_cons_zero, List.set_cons_succ]))
      refine HavG.det (fun _ => rfl) (.agg #[.int .i64 s.size, .int .i64 l0, .int .i64 c0]) (fun x w hw _ => ?_) ?_
      · have HG := Lib.hid hw
        clear hw
        go_simp
        rw [wrap_small _ (by omega) (by omega)]
        refine (HP.out w).mono ?_
        rintro e w' ⟨rfl, hb⟩
        exact ⟨rfl, hb⟩
      simp only [Act.put, List.setIfInBounds_toArray, List.set_cons_zero, List.set_cons_succ]
      repeat (first
        | (refine HavG.skip (fun _ => rfl) ?_; simp only [Act.put, List.setIfInBounds_toArray, List.set_cons_zero, List.set_cons_succ])
        | (refine HavG.val (fun _ => rfl) ?_ (fun x w hw _ => ?_) ?_; rotate_left; (focus (have hc := hw.cells; clear hw; go_simp; first | done | rfl)); simp only [Act.put, List.setIfInBounds_toArray, List.set_cons_zero, List.set_cons_succ]))
      refine HavG.det (fun _ => rfl) (.bool true) (fun x w hw _ => ?_) ?_
      · have HG := Lib.hid hw
        clear hw
        go_simp
        refine (HLV.out w (HWr.out.below HG.out)).mono ?_
        rintro e w' ⟨rfl, hb⟩
        exact ⟨rfl, hb⟩
      simp only [Act.put, List.setIfInBounds_toArray, List.set_cons_zero, List.set_cons_succ]
      repeat (first
        | (refine HavG.skip (fun _ => rfl) ?_; simp only [Act.put, List.setIfInBounds_toArray, List.set_cons_zero, List.set_cons_succ])
        | (refine HavG.val (fun _ => rfl) ?_ (fun x w hw _ => ?_) ?_; rotate_left; (focus (have hc := hw.cells; clear hw; go_simp; first | done | rfl)); simp only [Act.put, List.setIfInBounds_toArray, List.set_cons_zero, List.set_cons_succ]))
      refine HavG.tail (by kernel_rfl) (by kernel_rfl) (fun x w hw _ => ?_)
      have HG := Lib.hid hw
      clear hw
      go_wp2_with fail
      go_ret
      exact ⟨rfl, hbw.out.trans (HG.out.mono hbw.out.size)⟩
end Go.Proofs.YtajfhlnckjnboaaDoor
