/- The gap between words. -/
import Derived.Test.YtdgkpmpakkfgbaaGreatDoorScBox
import Derived.Test.YtdgkpmpakkfgbaaGreatDoorScMem
namespace Go.Proofs.YtdgkpmpakkfgbaaGreatDoor
open Go.RowKit

/-- the box of a scan under way: above the package's variables -/
structure ScanAt (W : World) (cb : Nat) (s : ByteArray) (p e : Nat) : Prop where
  box : BoxAt W cb s p e
  laid : LaidS W
  above : glim ≤ cb
theorem ScanAt.upd {W W' : World} {cb p e q f : Nat} {s : ByteArray} (h : ScanAt W cb s p e) (hg : Upd cb W W') (hb : BoxAt W' cb s q f) : ScanAt W' cb s q f :=
  ⟨hb, h.laid.low (hg.below h.above (Nat.le_trans h.above (Nat.le_of_lt h.box.owns.lt))), h.above⟩
theorem ScanAt.keep {W W' : World} {cb p e : Nat} {s : ByteArray} (h : ScanAt W cb s p e) (hg : Grew W W') : ScanAt W' cb s p e := h.upd (hg.upd cb) (h.box.keep hg)

/-- a call that moves the scan on -/
def GoesTo (W : World) (cb : Nat) (s : ByteArray) (q f : Nat) (v : Value) (r : Ending) (W' : World) : Prop := r = .returned v ∧ Upd cb W W' ∧ ScanAt W' cb s q f

/-- where the scan stands -/
def boxPos (w : World) (cb : Nat) : Nat := match w.cell? ⟨cb, 1, none⟩ with
  | some (.int _ i) => i.toNat
  | _ => 0
theorem BoxAt.pos {W : World} {cb p e : Nat} {s : ByteArray} (h : BoxAt W cb s p e) : boxPos W cb = p := by
  unfold boxPos
  rw [h.c1]
  simp
theorem BoxAt.posSet {W : World} {cb p e : Nat} {s : ByteArray} (h : BoxAt W cb s p e) (i : Int) : boxPos (W.setCell ⟨cb, 1, none⟩ (.int .i64 i)) cb = i.toNat := by
  unfold boxPos
  rw [(h.owns.set 1 (.int .i64 i)).cell_at rfl]
theorem ScanAt.put {W0 W : World} {cb p e : Nat} {s : ByteArray} (h : ScanAt W cb s p e) (hu : Upd cb W0 W) (v : Nat) (i : Int) (hi : i = v) (hv : v ≤ s.size) :
    Upd cb W0 (W.setCell ⟨cb, 1, none⟩ (.int .i64 i)) ∧ ScanAt (W.setCell ⟨cb, 1, none⟩ (.int .i64 i)) cb s v e := by
  subst hi
  have u := (Upd.refl cb W).setCell 1 (.int .i64 (v : Int))
  exact ⟨hu.trans u, h.upd u (h.box.go v hv)⟩

set_option maxHeartbeats 2000000 in
theorem gap_still (W : World) (cb : Nat) (s : ByteArray) (p e : Nat) (h : ScanAt W cb s p e) (he : e ≠ 0) :
    Calls Tryz.prog 12 #[.pointer (some ⟨cb, 0, none⟩)] W (GoesTo W cb s p e (.tuple #[])) := by
  have c2 := h.box.c2
  have hne : ((e : Int) == 0) = false := by rw [beq_eq_false_iff_ne]; omega
  have H := Lib.hid h
  clear h
  go_enter Tryz.func12, Tryz.ntmps12
  go_wp2_with fail
  refine wp_scope_calm 0 (by kernel_rfl) (wp_seq (wp_label ?_))
  go_wp2_with fail
  go_loopw [2] (fun _ wr => wr = W) (fun _ _ => 0)
  case atStart => rfl
  case round =>
    subst hrel
    go_wp2_with fail
    go_end0
    exact ⟨rfl, Upd.refl _ _, H.out⟩

theorem toU8 (c : UInt8) : ((c.toNat : Int).toNat.toUInt8) = c := by
  rw [Int.toNat_natCast]
  exact UInt8.ofNat_toNat

set_option maxHeartbeats 16000000 in
set_option maxRecDepth 20000 in
theorem gap_ok (W : World) (cb : Nat) (s : ByteArray) (p : Nat) (h : ScanAt W cb s p 0) :
    Calls Tryz.prog 12 #[.pointer (some ⟨cb, 0, none⟩)] W (GoesTo W cb s (gapF s.data.toList (s.data.toList.length + 1) p).1 (gapF s.data.toList (s.data.toList.length + 1) p).2 (.tuple #[])) := by
  have H := Lib.hid h
  have hfew := h.box.few
  have hLs : s.data.toList.length = s.size := (Lib.size_eq s).symm
  have hle := h.box.le
  clear h
  obtain ⟨P0, hP0⟩ : ∃ x, gapF s.data.toList (s.data.toList.length + 1) p = x := ⟨_, rfl⟩
  rw [hP0]
  go_enter Tryz.func12, Tryz.ntmps12
  go_wp2_with fail
  refine wp_scope_calm 0 (by kernel_rfl) (wp_seq (wp_label ?_))
  go_wp2_with fail
  go_loopw [2] (fun _ wr => ∃ q k : Nat, Hid (ScanAt wr cb s q 0) ∧ Hid (Upd cb W wr) ∧ q ≤ s.size ∧ s.size < q + k ∧ gapF s.data.toList k q = P0) (fun _ wr => s.size - boxPos wr cb)
  case atStart => exact ⟨p, _, H, Upd.refl _ _, hle, by omega, hP0⟩
  case round =>
    obtain ⟨q, k, HS, HU, hq, hk, hP⟩ := hrel
    clear hle hP0 H
    have hmu := HS.out.box.pos
    obtain ⟨k, rfl⟩ : ∃ k', k = k' + 1 := ⟨k - 1, by omega⟩
    rw [gapF] at hP
    have hL := Lib.hid (left_ok wr cb s q 0 HS.out.box)
    unfold LeftIs at hL
    have hr := rest_facts s q
    have hz : (s.extract q s.size).size = s.size - q := by rw [Lib.size_eq, hr, List.length_drop, ← Lib.size_eq]
    have hnil : s.data.toList.drop q = [] → q = s.size := fun e => by
      have := congrArg List.length e
      rw [List.length_drop] at this
      simp at this
      omega
    have c2 := HS.out.box.c2
    obtain ⟨t, ht⟩ : ∃ t, s.extract q s.size = t := ⟨_, rfl⟩
    obtain ⟨l, hl⟩ : ∃ l, s.data.toList.drop q = l := ⟨_, rfl⟩
    rw [ht] at hL hr hz
    rw [hl] at hr hP hnil
    clear ht
    have he := empty_iff t
    rw [hr] at he
    have hI10 := fun w => Tryz.strings_IndexByte t 10 w
    have hP1 := fun w => Tryz.strings_HasPrefix t { data := #[47, 47] } w
    have hP2 := fun w => Tryz.strings_HasPrefix t { data := #[47, 42] } w
    rw [hr] at hI10 hP1 hP2
    rw [show ((10 : Int).toNat.toUInt8) = 10 from rfl] at hI10
    rw [show (({ data := #[47, 47] } : ByteArray).data.toList) = [47, 47] from rfl] at hP1
    rw [show (({ data := #[47, 42] } : ByteArray).data.toList) = [47, 42] from rfl] at hP2
    have hlen : l.length = s.size - q := by rw [← hz, Lib.size_eq, hr]
    clear hl
    go_wp2_with (go_at_call 25; refine hL.out.mono ?_)
    rintro r w ⟨rfl, hg, hb⟩
    have S := Lib.hid (HS.out.upd (hg.upd cb) hb)
    have U := Lib.hid (HU.out.trans (hg.upd cb))
    have d0 := hb.c0
    have d1 := hb.c1
    have df := hb.fr
    have HB := Lib.hid hb
    clear hL hg hb HS HU c2
    cases l with
    | nil =>
      have hq2 := hnil rfl
      rw [decide_eq_true rfl] at he
      rw [if_neg (by simp), show Lib.hasPrefix ([] : List UInt8) [47, 47] = false from rfl, show Lib.hasPrefix ([] : List UInt8) [47, 42] = false from rfl] at hP
      rw [show Lib.hasPrefix ([] : List UInt8) [47, 47] = false from rfl] at hP1
      rw [show Lib.hasPrefix ([] : List UInt8) [47, 42] = false from rfl] at hP2
      simp only [Bool.false_eq_true, if_false] at hP
      have HP1 := Lib.hid hP1
      have HP2 := Lib.hid hP2
      clear hP1 hP2 hI10 hnil
      subst hP
      go_wp2_with (go_at_call 27; first | (refine (HP1.out _).mono ?_; rintro e w' ⟨rfl, rfl⟩) | (refine (HP2.out _).mono ?_; rintro e w' ⟨rfl, rfl⟩))
      go_end0
      exact ⟨rfl, U.out, by rw [← hq2]; exact S.out⟩
    | cons c0 tl =>
      clear hnil
      rw [decide_eq_false (by simp)] at he
      obtain ⟨h0, hv⟩ := head_get t c0 tl hr
      have hI := fun w => Tryz.strings_IndexByte { data := #[32, 9, 10, 13] } (c0.toNat : Int) w
      rw [toU8, show (({ data := #[32, 9, 10, 13] } : ByteArray).data.toList) = blanksL from rfl] at hI
      have hpos : 1 ≤ s.size - q := by rw [← hlen]; simp
      rw [show (c0 :: tl).getD 0 0 = c0 from rfl] at hP
      by_cases hA : 0 ≤ Lib.indexByte blanksL c0
      · rw [if_pos ⟨by simp, decide_eq_true hA⟩] at hP
        generalize Lib.indexByte blanksL c0 = ib at hI hA
        have HI := Lib.hid hI
        have HP := Lib.hid hP
        clear hI10 hP1 hP2 hI hP hr
        go_wp2_with (go_at_call 26; refine (HI.out _).mono ?_; rintro e w' ⟨rfl, rfl⟩)
        have hg1 := S.out.put U.out (q + 1) ((q : Int) + 1) (by omega) (by omega)
        exact ⟨⟨q + 1, k, hg1.2, hg1.1, by omega, by omega, HP.out⟩, by rw [HB.out.posSet, hmu]; omega⟩
      · rw [if_neg (fun h => hA (of_decide_eq_true h.2))] at hP
        generalize Lib.indexByte blanksL c0 = ib at hI hA
        have HI := Lib.hid hI
        clear hI
        cases hb1 : Lib.hasPrefix (c0 :: tl) [47, 47] with
        | true =>
          rw [hb1] at hP hP1
          simp only [if_true] at hP
          have HP1 := Lib.hid hP1
          have hi := Lib.hid (indexByte_in (c0 :: tl) 10)
          have hc0 : c0 = 47 := by
            simp [Lib.hasPrefix] at hb1
            exact hb1.1.symm
          generalize Lib.indexByte (c0 :: tl) 10 = i10 at *
          have HI10 := Lib.hid hI10
          have e1 := (HB.out.go s.size (Nat.le_refl _)).c0
          have e2 := (HB.out.go s.size (Nat.le_refl _)).c1
          have e3 := (HB.out.go s.size (Nat.le_refl _)).fr
          have P1 := Lib.hid (S.out.put U.out s.size (s.size : Int) rfl (Nat.le_refl _))
          by_cases hi0 : 0 ≤ i10
          · obtain ⟨j, rfl⟩ := Int.eq_ofNat_of_zero_le hi0
            rw [if_pos hi0] at hP
            have hj : j < s.size - q := by
              have := (hi.out hi0).1
              rw [hlen] at this
              simpa using this
            have hj1 : 1 ≤ j := by
              rcases Nat.eq_zero_or_pos j with rfl | h
              · have := (hi.out hi0).2
                rw [hc0] at this
                simp at this
              · exact h
            rw [show ((j : Int)).toNat = j from rfl] at hP
            have HP := Lib.hid hP
            clear hI10 hP1 hP2 hP hr hi hc0
            go_wp2_with (go_at_call 26; refine (HI.out _).mono ?_)
            rintro e w' ⟨rfl, rfl⟩
            go_wp2_with (go_at_call 27; refine (HP1.out _).mono ?_; rintro e w' ⟨rfl, rfl⟩)
            refine (HI10.out _).mono ?_
            rintro e w' ⟨rfl, rfl⟩
            go_wp2_with fail
            have hg1 := P1.out.2.put P1.out.1 (q + j) ((s.size : Int) - (s.size - q : Nat) + j) (by omega) (by omega)
            exact ⟨⟨q + j, k, hg1.2, hg1.1, by omega, by omega, HP.out⟩, by rw [P1.out.2.box.posSet, hmu]; omega⟩
          · rw [if_neg hi0, hLs] at hP
            have HP := Lib.hid hP
            clear hI10 hP1 hP2 hP hr hi hc0
            go_wp2_with (go_at_call 26; refine (HI.out _).mono ?_)
            rintro e w' ⟨rfl, rfl⟩
            go_wp2_with (go_at_call 27; refine (HP1.out _).mono ?_; rintro e w' ⟨rfl, rfl⟩)
            refine (HI10.out _).mono ?_
            rintro e w' ⟨rfl, rfl⟩
            go_wp2_with fail
            exact ⟨⟨s.size, k, P1.out.2, P1.out.1, by omega, by omega, HP.out⟩, by rw [HB.out.posSet, hmu]; omega⟩
        | false =>
          rw [hb1] at hP hP1
          simp only [Bool.false_eq_true, if_false] at hP
          have HP1 := Lib.hid hP1
          clear hI10 hP1
          cases hb2 : Lib.hasPrefix (c0 :: tl) [47, 42] with
          | false =>
            rw [hb2] at hP hP2
            simp only [Bool.false_eq_true, if_false] at hP
            subst hP
            have HP2 := Lib.hid hP2
            clear hP2 hr
            go_wp2_with (go_at_call 26; refine (HI.out _).mono ?_)
            rintro e w' ⟨rfl, rfl⟩
            go_wp2_with (go_at_call 27; refine (HP1.out _).mono ?_)
            rintro e w' ⟨rfl, rfl⟩
            go_wp2_with (go_at_call 27; refine (HP2.out _).mono ?_; rintro e w' ⟨rfl, rfl⟩)
            go_end0
            exact ⟨rfl, U.out, S.out⟩
          | true =>
            rw [hb2] at hP hP2
            simp only [if_true] at hP
            have HP2 := Lib.hid hP2
            clear hP2
            obtain ⟨m, hm⟩ := S.out.laid.most
            have h2 : 2 ≤ s.size - q := by
              have := Lib.hasPrefix_le hb2
              rw [hlen] at this
              exact this
            have hX := Tryz.strings_Index (t.extract 2 t.size) { data := #[42, 47] } m w (by rw [Lib.size_eq, rest_facts, List.length_drop, ← Lib.size_eq]; omega) hm
            rw [rest_facts, hr, show (({ data := #[42, 47] } : ByteArray).data.toList) = [42, 47] from rfl, hz] at hX
            have hix := Lib.hid (Lib.index_room (List.drop 2 (c0 :: tl)) [42, 47])
            have hl2 : (List.drop 2 (c0 :: tl)).length = s.size - q - 2 := by rw [List.length_drop, hlen]
            generalize Lib.index (List.drop 2 (c0 :: tl)) [42, 47] = ix at *
            have HX := Lib.hid hX
            clear hX hr hm
            by_cases hx0 : ix < 0
            · rw [if_pos hx0] at hP
              subst hP
              have HW := Lib.hid (wrong_ok w cb s q q 4 HB.out hq)
              clear hix
              go_wp2_with (go_at_call 26; refine (HI.out _).mono ?_)
              rintro e w' ⟨rfl, rfl⟩
              go_wp2_with (go_at_call 27; refine (HP1.out _).mono ?_)
              rintro e w' ⟨rfl, rfl⟩
              go_wp2_with (go_at_call 27; refine (HP2.out _).mono ?_)
              rintro e w' ⟨rfl, rfl⟩
              go_wp2_with first | (go_at_call 28; refine HX.out.mono ?_; rintro e w' ⟨rfl, rfl⟩) | (go_at_call 29; refine HW.out.mono ?_; rintro e w2 ⟨rfl, hu, hb⟩)
              go_end0
              exact ⟨rfl, U.out.trans hu, S.out.upd hu hb⟩
            · rw [if_neg hx0] at hP
              obtain ⟨j, rfl⟩ := Int.eq_ofNat_of_zero_le (show 0 ≤ ix by omega)
              rw [show ((j : Int)).toNat = j from rfl] at hP
              have hj := hix.out (by omega)
              rw [hl2] at hj
              simp only [List.length_cons, List.length_nil] at hj
              have HP := Lib.hid hP
              clear hix hP
              go_wp2_with (go_at_call 26; refine (HI.out _).mono ?_)
              rintro e w' ⟨rfl, rfl⟩
              go_wp2_with (go_at_call 27; refine (HP1.out _).mono ?_)
              rintro e w' ⟨rfl, rfl⟩
              go_wp2_with (go_at_call 27; refine (HP2.out _).mono ?_)
              rintro e w' ⟨rfl, rfl⟩
              go_wp2_with (go_at_call 28; refine HX.out.mono ?_; rintro e w' ⟨rfl, rfl⟩)
              have hg1 := S.out.put U.out (q + (j + 4)) ((q : Int) + (j + 4)) (by omega) (by omega)
              exact ⟨⟨q + (j + 4), k, hg1.2, hg1.1, by omega, by omega, HP.out⟩, by rw [HB.out.posSet, hmu]; omega⟩
end Go.Proofs.YtdgkpmpakkfgbaaGreatDoor
