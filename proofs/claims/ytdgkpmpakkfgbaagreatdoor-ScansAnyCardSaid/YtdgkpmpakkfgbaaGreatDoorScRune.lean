/- A rune of a text or a set. -/
import Derived.Test.YtdgkpmpakkfgbaaGreatDoorScEsc
import Derived.Test.YtdgkpmpakkfgbaaGreatDoorScCon
namespace Go.Proofs.YtdgkpmpakkfgbaaGreatDoor
open Go.RowKit

set_option maxRecDepth 20000 in
/-- whether a rune is among some of ASCII -/
theorem contains_ok (but : ByteArray) (hb : but.size ≤ 9) (ha : ∀ b ∈ but.data.toList, b.toNat < 128) (r : Nat) (hv : Lib.validRune (r : Int) = true) (W : World) :
    Calls Tryz.prog 60 #[.string but, .int .i32 (r : Int)] W fun e W' => e = .returned (.bool (decide (r < 128 ∧ amongB but.data.toList (UInt8.ofNat r) = true))) ∧ Grew W W' := by
  by_cases h : r < 128
  · have := Tryz.strings_ContainsRune_ascii but (r : Int) W (by omega) (by omega)
    refine this.mono ?_
    rintro e w ⟨rfl, rfl⟩
    refine ⟨?_, Grew.refl _⟩
    have e : decide (r < 128 ∧ amongB but.data.toList (UInt8.ofNat r) = true) = decide (0 ≤ Lib.indexByte but.data.toList (r : Int).toNat.toUInt8) := by
      rw [Int.toNat_natCast]
      have e1 : amongB but.data.toList (UInt8.ofNat r) = decide (0 ≤ Lib.indexByte but.data.toList r.toUInt8) := rfl
      rw [e1]
      simp [h]
    rw [e]
  · refine (containsRune_none but (r : Int) W hb ha (by omega) hv).mono ?_
    rintro e w ⟨rfl, hb⟩
    exact ⟨by simp [h], hb⟩

def RuneIs (W : World) (cb : Nat) (s : ByteArray) (p : Nat) (o : Option (Nat × Nat)) (r : Ending) (W' : World) : Prop :=
  r = .returned (.tuple #[.int .i32 ((o.getD (0, 0)).1 : Nat), .bool o.isSome]) ∧ Upd cb W W' ∧ ScanAt W' cb s (p + (o.getD (0, 0)).2) 0

theorem runeAt_L (s : ByteArray) (p : Nat) (hp : p ≤ s.size) : runeAt s (p : Int) = if s.data.toList.drop p = [] then (0, 0, false) else if badAt (s.data.toList.drop p) then (0, 1, false) else ((Lib.decodeL (s.data.toList.drop p)).1, (Lib.decodeL (s.data.toList.drop p)).2, true) := by
  unfold runeAt
  have hl : (s.data.toList.drop p).length = s.size - p := by rw [List.length_drop, ← Lib.size_eq]
  by_cases h : p < s.size
  · have hne : s.data.toList.drop p ≠ [] := fun e => by rw [e] at hl; simp at hl; omega
    rw [if_neg (by omega), if_neg hne, Int.toNat_natCast, ← Lib.decodeL_drop]
    have hiff : (Lib.decodeL (s.data.toList.drop p) = (65533, 1)) ↔ badAt (s.data.toList.drop p) := by
      unfold badAt
      rw [Prod.ext_iff]
    by_cases hb : badAt (s.data.toList.drop p)
    · rw [if_pos (hiff.2 hb), if_pos hb]
    · rw [if_neg (fun e => hb (hiff.1 e)), if_neg hb]
  · have hnil : s.data.toList.drop p = [] := List.drop_eq_nil_of_le (by rw [← Lib.size_eq]; omega)
    rw [if_pos (by omega), if_pos hnil]

set_option maxHeartbeats 8000000 in
set_option maxRecDepth 20000 in
theorem rune_ok (W : World) (cb : Nat) (s but : ByteArray) (p : Nat) (h : ScanAt W cb s p 0) (hb : but.size ≤ 9) (ha : ∀ b ∈ but.data.toList, b.toNat < 128) :
    Calls Tryz.prog 43 #[.pointer (some ⟨cb, 0, none⟩), .string but] W (RuneIs W cb s p (runeF but.data.toList (s.data.toList.drop p))) := by
  have hle := h.box.le
  have hfew := h.box.few
  have hE := fun w (hg : Grew W w) => escAny_ok s p w hfew hle (h.laid.below hg)
  have hin := runeF_in but.data.toList (s.data.toList.drop p)
  rw [List.length_drop, ← Lib.size_eq] at hin
  have c0 := h.box.c0
  have c1 := h.box.c1
  have hcb := h.box.owns.lt
  have fr := h.box.fr
  have H := Lib.hid h
  have hD := fun w (hg : Grew W w) => decode_ok s (p : Int) w (by omega) (by omega) (by omega) (h.laid.below hg).tabs
  unfold DecodeIs at hD
  rw [runeAt_L s p hle] at hD
  have hdv := decode_valid (s.data.toList.drop p)
  have hdr : (Lib.decodeL (s.data.toList.drop p)).1 ≤ 1114111 := by
    have hv : (0 ≤ ((Lib.decodeL (s.data.toList.drop p)).1 : Int) ∧ ((Lib.decodeL (s.data.toList.drop p)).1 : Int) < 0xD800) ∨ (0xDFFF < ((Lib.decodeL (s.data.toList.drop p)).1 : Int) ∧ ((Lib.decodeL (s.data.toList.drop p)).1 : Int) ≤ 0x10FFFF) := of_decide_eq_true hdv
    omega
  have hC := fun w => contains_ok but hb ha (Lib.decodeL (s.data.toList.drop p)).1 hdv w
  have HPUT : Hid (∀ (w : World) (n : Nat), Grew W w → p + n ≤ s.size → Upd cb W (w.setCell ⟨cb, 1, none⟩ (.int .i64 ((p : Int) + n))) ∧ ScanAt (w.setCell ⟨cb, 1, none⟩ (.int .i64 ((p : Int) + n))) cb s (p + n) 0) := fun w n hg hn =>
    (H.out.keep hg).put (hg.upd cb) (p + n) ((p : Int) + n) (by omega) hn
  have HSTAY : Hid (∀ w, Grew W w → Upd cb W w ∧ ScanAt w cb s (p + 0) 0) := fun w hg => ⟨hg.upd cb, H.out.keep hg⟩
  unfold RuneIs
  obtain ⟨o, ho⟩ : ∃ o, runeF but.data.toList (s.data.toList.drop p) = o := ⟨_, rfl⟩
  rw [ho] at hin ⊢
  unfold runeF at ho
  have hll : (s.data.toList.drop p).length = s.size - p := by rw [List.length_drop, ← Lib.size_eq]
  generalize s.data.toList.drop p = l at *
  obtain ⟨oe, hoe⟩ : ∃ oe, escF l = oe := ⟨_, rfl⟩
  rw [hoe] at hE ho
  have HE := Lib.hid hE
  have HD := Lib.hid hD
  have HC := Lib.hid hC
  have HO := Lib.hid ho
  have HIN := Lib.hid hin
  clear hE hD hC ho hin hoe h ha hb hdv
  rcases oe with _ | ⟨r, n⟩
  · have hN : (Option.getD (none : Option (Nat × Nat)) (0, 0)) = (0, 0) := rfl
    unfold EscIs at HE
    simp only [hN, Option.isSome_none] at HE
    have ho := HO.out
    simp only at ho
    have hll2 := hll
    by_cases hnil : l = []
    · rw [if_pos (.inl hnil)] at ho
      subst ho
      simp only [if_pos hnil] at HD
      clear HO HIN HC hnil hll hll2
      go_enter Tryz.func43, Tryz.ntmps43
      go_wp2_with fail
      refine wp_region_hav_lit follows (by kernel_rfl) ?_
      iterate 8 (first
        | (refine HavG.skip (fun _ => rfl) ?_; simp only [Act.put, List.setIfInBounds_toArray, List.set_cons_zero, List.set_cons_succ])
        | (refine HavG.val (fun _ => rfl) ?_ (fun x w hw _ => ?_) ?_; rotate_left; (focus (have hc := hw.cells; clear hw; go_simp; first | done | rfl)); simp only [Act.put, List.setIfInBounds_toArray, List.set_cons_zero, List.set_cons_succ]))
      refine HavG.det (fun _ => rfl) (.tuple #[.int .i32 ((0 : Nat) : Int), .int .i64 ((0 : Nat) : Int), .bool false]) (fun x w hw hd => ?_) ?_
      · clear hd
        have HW := Lib.hid hw
        clear hw
        go_simp
        refine (HE.out w HW.out).mono ?_
        rintro e w' ⟨rfl, hg⟩
        exact ⟨rfl, hg⟩
      simp only [Act.put, List.setIfInBounds_toArray, List.set_cons_zero, List.set_cons_succ]
      repeat (first
        | (refine HavG.skip (fun _ => rfl) ?_; simp only [Act.put, List.setIfInBounds_toArray, List.set_cons_zero, List.set_cons_succ])
        | (refine HavG.val (fun _ => rfl) ?_ (fun x w hw _ => ?_) ?_; rotate_left; (focus (have hc := hw.cells; clear hw; go_simp; first | done | rfl)); simp only [Act.put, List.setIfInBounds_toArray, List.set_cons_zero, List.set_cons_succ]))
      refine HavG.tail (by kernel_rfl) (by kernel_rfl) (fun x w hw _ => ?_)
      have G1 := Lib.hid hw
      have e0 := (H.out.box.keep hw).c0
      have e1 := (H.out.box.keep hw).c1
      have hcb1 := (H.out.box.keep hw).owns.lt
      clear hw c0 c1 hcb
      go_wp2_with fail
      refine wp_region_hav_lit follows (by kernel_rfl) ?_
      iterate 8 (first
        | (refine HavG.skip (fun _ => rfl) ?_; simp only [Act.put, List.setIfInBounds_toArray, List.set_cons_zero, List.set_cons_succ])
        | (refine HavG.val (fun _ => rfl) ?_ (fun x w hw _ => ?_) ?_; rotate_left; (focus (have hc := hw.cells; clear hw; go_simp; first | done | rfl)); simp only [Act.put, List.setIfInBounds_toArray, List.set_cons_zero, List.set_cons_succ]))
      refine HavG.det (fun _ => rfl) (.tuple #[.int .i32 ((0 : Nat) : Int), .int .i64 ((0 : Nat) : Int), .bool false]) (fun x w hw hd => ?_) ?_
      · clear hd
        have HW := Lib.hid hw
        clear hw
        go_simp
        refine (HD.out w (G1.out.trans HW.out)).mono ?_
        rintro e w' ⟨rfl, hg⟩
        exact ⟨rfl, hg⟩
      simp only [Act.put, List.setIfInBounds_toArray, List.set_cons_zero, List.set_cons_succ]
      repeat (first
        | (refine HavG.skip (fun _ => rfl) ?_; simp only [Act.put, List.setIfInBounds_toArray, List.set_cons_zero, List.set_cons_succ])
        | (refine HavG.val (fun _ => rfl) ?_ (fun x w hw _ => ?_) ?_; rotate_left; (focus (have hc := hw.cells; clear hw; go_simp; first | done | rfl)); simp only [Act.put, List.setIfInBounds_toArray, List.set_cons_zero, List.set_cons_succ]))
      refine HavG.tail (by kernel_rfl) (by kernel_rfl) (fun x w hw _ => ?_)
      have G2 := Lib.hid (G1.out.trans hw)
      clear hw
      go_wp2_with fail
      go_ret2
      exact ⟨rfl, HSTAY.out _ G2.out⟩
    by_cases hbad : badAt l
    · rw [if_pos (.inr (.inl hbad))] at ho
      subst ho
      simp only [if_neg hnil, if_pos hbad] at HD
      clear HO HIN HC hnil hbad hll hll2
      go_enter Tryz.func43, Tryz.ntmps43
      go_wp2_with fail
      refine wp_region_hav_lit follows (by kernel_rfl) ?_
      iterate 8 (first
        | (refine HavG.skip (fun _ => rfl) ?_; simp only [Act.put, List.setIfInBounds_toArray, List.set_cons_zero, List.set_cons_succ])
        | (refine HavG.val (fun _ => rfl) ?_ (fun x w hw _ => ?_) ?_; rotate_left; (focus (have hc := hw.cells; clear hw; go_simp; first | done | rfl)); simp only [Act.put, List.setIfInBounds_toArray, List.set_cons_zero, List.set_cons_succ]))
      refine HavG.det (fun _ => rfl) (.tuple #[.int .i32 ((0 : Nat) : Int), .int .i64 ((0 : Nat) : Int), .bool false]) (fun x w hw hd => ?_) ?_
      · clear hd
        have HW := Lib.hid hw
        clear hw
        go_simp
        refine (HE.out w HW.out).mono ?_
        rintro e w' ⟨rfl, hg⟩
        exact ⟨rfl, hg⟩
      simp only [Act.put, List.setIfInBounds_toArray, List.set_cons_zero, List.set_cons_succ]
      repeat (first
        | (refine HavG.skip (fun _ => rfl) ?_; simp only [Act.put, List.setIfInBounds_toArray, List.set_cons_zero, List.set_cons_succ])
        | (refine HavG.val (fun _ => rfl) ?_ (fun x w hw _ => ?_) ?_; rotate_left; (focus (have hc := hw.cells; clear hw; go_simp; first | done | rfl)); simp only [Act.put, List.setIfInBounds_toArray, List.set_cons_zero, List.set_cons_succ]))
      refine HavG.tail (by kernel_rfl) (by kernel_rfl) (fun x w hw _ => ?_)
      have G1 := Lib.hid hw
      have e0 := (H.out.box.keep hw).c0
      have e1 := (H.out.box.keep hw).c1
      have hcb1 := (H.out.box.keep hw).owns.lt
      clear hw c0 c1 hcb
      go_wp2_with fail
      refine wp_region_hav_lit follows (by kernel_rfl) ?_
      iterate 8 (first
        | (refine HavG.skip (fun _ => rfl) ?_; simp only [Act.put, List.setIfInBounds_toArray, List.set_cons_zero, List.set_cons_succ])
        | (refine HavG.val (fun _ => rfl) ?_ (fun x w hw _ => ?_) ?_; rotate_left; (focus (have hc := hw.cells; clear hw; go_simp; first | done | rfl)); simp only [Act.put, List.setIfInBounds_toArray, List.set_cons_zero, List.set_cons_succ]))
      refine HavG.det (fun _ => rfl) (.tuple #[.int .i32 ((0 : Nat) : Int), .int .i64 ((1 : Nat) : Int), .bool false]) (fun x w hw hd => ?_) ?_
      · clear hd
        have HW := Lib.hid hw
        clear hw
        go_simp
        refine (HD.out w (G1.out.trans HW.out)).mono ?_
        rintro e w' ⟨rfl, hg⟩
        exact ⟨rfl, hg⟩
      simp only [Act.put, List.setIfInBounds_toArray, List.set_cons_zero, List.set_cons_succ]
      repeat (first
        | (refine HavG.skip (fun _ => rfl) ?_; simp only [Act.put, List.setIfInBounds_toArray, List.set_cons_zero, List.set_cons_succ])
        | (refine HavG.val (fun _ => rfl) ?_ (fun x w hw _ => ?_) ?_; rotate_left; (focus (have hc := hw.cells; clear hw; go_simp; first | done | rfl)); simp only [Act.put, List.setIfInBounds_toArray, List.set_cons_zero, List.set_cons_succ]))
      refine HavG.tail (by kernel_rfl) (by kernel_rfl) (fun x w hw _ => ?_)
      have G2 := Lib.hid (G1.out.trans hw)
      clear hw
      go_wp2_with fail
      go_ret2
      exact ⟨rfl, HSTAY.out _ G2.out⟩
    have hdl := decodeL_le l hnil hbad
    simp only [if_neg hnil, if_neg hbad] at HD
    generalize Lib.decodeL l = dd at *
    obtain ⟨dr, dz⟩ := dd
    simp only at HD HC hdr hdl ho
    by_cases h10 : dr = 10
    · rw [if_pos (.inr (.inr (.inl h10)))] at ho
      subst ho h10
      clear HO HIN HC hnil hbad hll hll2
      go_enter Tryz.func43, Tryz.ntmps43
      go_wp2_with fail
      refine wp_region_hav_lit follows (by kernel_rfl) ?_
      iterate 8 (first
        | (refine HavG.skip (fun _ => rfl) ?_; simp only [Act.put, List.setIfInBounds_toArray, List.set_cons_zero, List.set_cons_succ])
        | (refine HavG.val (fun _ => rfl) ?_ (fun x w hw _ => ?_) ?_; rotate_left; (focus (have hc := hw.cells; clear hw; go_simp; first | done | rfl)); simp only [Act.put, List.setIfInBounds_toArray, List.set_cons_zero, List.set_cons_succ]))
      refine HavG.det (fun _ => rfl) (.tuple #[.int .i32 ((0 : Nat) : Int), .int .i64 ((0 : Nat) : Int), .bool false]) (fun x w hw hd => ?_) ?_
      · clear hd
        have HW := Lib.hid hw
        clear hw
        go_simp
        refine (HE.out w HW.out).mono ?_
        rintro e w' ⟨rfl, hg⟩
        exact ⟨rfl, hg⟩
      simp only [Act.put, List.setIfInBounds_toArray, List.set_cons_zero, List.set_cons_succ]
      repeat (first
        | (refine HavG.skip (fun _ => rfl) ?_; simp only [Act.put, List.setIfInBounds_toArray, List.set_cons_zero, List.set_cons_succ])
        | (refine HavG.val (fun _ => rfl) ?_ (fun x w hw _ => ?_) ?_; rotate_left; (focus (have hc := hw.cells; clear hw; go_simp; first | done | rfl)); simp only [Act.put, List.setIfInBounds_toArray, List.set_cons_zero, List.set_cons_succ]))
      refine HavG.tail (by kernel_rfl) (by kernel_rfl) (fun x w hw _ => ?_)
      have G1 := Lib.hid hw
      have e0 := (H.out.box.keep hw).c0
      have e1 := (H.out.box.keep hw).c1
      have hcb1 := (H.out.box.keep hw).owns.lt
      clear hw c0 c1 hcb
      go_wp2_with fail
      refine wp_region_hav_lit follows (by kernel_rfl) ?_
      iterate 8 (first
        | (refine HavG.skip (fun _ => rfl) ?_; simp only [Act.put, List.setIfInBounds_toArray, List.set_cons_zero, List.set_cons_succ])
        | (refine HavG.val (fun _ => rfl) ?_ (fun x w hw _ => ?_) ?_; rotate_left; (focus (have hc := hw.cells; clear hw; go_simp; first | done | rfl)); simp only [Act.put, List.setIfInBounds_toArray, List.set_cons_zero, List.set_cons_succ]))
      refine HavG.det (fun _ => rfl) (.tuple #[.int .i32 ((10 : Nat) : Int), .int .i64 ((dz : Nat) : Int), .bool true]) (fun x w hw hd => ?_) ?_
      · clear hd
        have HW := Lib.hid hw
        clear hw
        go_simp
        refine (HD.out w (G1.out.trans HW.out)).mono ?_
        rintro e w' ⟨rfl, hg⟩
        exact ⟨rfl, hg⟩
      simp only [Act.put, List.setIfInBounds_toArray, List.set_cons_zero, List.set_cons_succ]
      repeat (first
        | (refine HavG.skip (fun _ => rfl) ?_; simp only [Act.put, List.setIfInBounds_toArray, List.set_cons_zero, List.set_cons_succ])
        | (refine HavG.val (fun _ => rfl) ?_ (fun x w hw _ => ?_) ?_; rotate_left; (focus (have hc := hw.cells; clear hw; go_simp; first | done | rfl)); simp only [Act.put, List.setIfInBounds_toArray, List.set_cons_zero, List.set_cons_succ]))
      refine HavG.tail (by kernel_rfl) (by kernel_rfl) (fun x w hw _ => ?_)
      have G2 := Lib.hid (G1.out.trans hw)
      clear hw
      go_wp2_with fail
      go_ret2
      exact ⟨rfl, HSTAY.out _ G2.out⟩
    by_cases h92 : dr = 92
    · rw [if_pos (.inr (.inr (.inr (.inl h92))))] at ho
      subst ho h92
      clear HO HIN HC hnil hbad hll hll2 h10
      go_enter Tryz.func43, Tryz.ntmps43
      go_wp2_with fail
      refine wp_region_hav_lit follows (by kernel_rfl) ?_
      iterate 8 (first
        | (refine HavG.skip (fun _ => rfl) ?_; simp only [Act.put, List.setIfInBounds_toArray, List.set_cons_zero, List.set_cons_succ])
        | (refine HavG.val (fun _ => rfl) ?_ (fun x w hw _ => ?_) ?_; rotate_left; (focus (have hc := hw.cells; clear hw; go_simp; first | done | rfl)); simp only [Act.put, List.setIfInBounds_toArray, List.set_cons_zero, List.set_cons_succ]))
      refine HavG.det (fun _ => rfl) (.tuple #[.int .i32 ((0 : Nat) : Int), .int .i64 ((0 : Nat) : Int), .bool false]) (fun x w hw hd => ?_) ?_
      · clear hd
        have HW := Lib.hid hw
        clear hw
        go_simp
        refine (HE.out w HW.out).mono ?_
        rintro e w' ⟨rfl, hg⟩
        exact ⟨rfl, hg⟩
      simp only [Act.put, List.setIfInBounds_toArray, List.set_cons_zero, List.set_cons_succ]
      repeat (first
        | (refine HavG.skip (fun _ => rfl) ?_; simp only [Act.put, List.setIfInBounds_toArray, List.set_cons_zero, List.set_cons_succ])
        | (refine HavG.val (fun _ => rfl) ?_ (fun x w hw _ => ?_) ?_; rotate_left; (focus (have hc := hw.cells; clear hw; go_simp; first | done | rfl)); simp only [Act.put, List.setIfInBounds_toArray, List.set_cons_zero, List.set_cons_succ]))
      refine HavG.tail (by kernel_rfl) (by kernel_rfl) (fun x w hw _ => ?_)
      have G1 := Lib.hid hw
      have e0 := (H.out.box.keep hw).c0
      have e1 := (H.out.box.keep hw).c1
      have hcb1 := (H.out.box.keep hw).owns.lt
      clear hw c0 c1 hcb
      go_wp2_with fail
      refine wp_region_hav_lit follows (by kernel_rfl) ?_
      iterate 8 (first
        | (refine HavG.skip (fun _ => rfl) ?_; simp only [Act.put, List.setIfInBounds_toArray, List.set_cons_zero, List.set_cons_succ])
        | (refine HavG.val (fun _ => rfl) ?_ (fun x w hw _ => ?_) ?_; rotate_left; (focus (have hc := hw.cells; clear hw; go_simp; first | done | rfl)); simp only [Act.put, List.setIfInBounds_toArray, List.set_cons_zero, List.set_cons_succ]))
      refine HavG.det (fun _ => rfl) (.tuple #[.int .i32 ((92 : Nat) : Int), .int .i64 ((dz : Nat) : Int), .bool true]) (fun x w hw hd => ?_) ?_
      · clear hd
        have HW := Lib.hid hw
        clear hw
        go_simp
        refine (HD.out w (G1.out.trans HW.out)).mono ?_
        rintro e w' ⟨rfl, hg⟩
        exact ⟨rfl, hg⟩
      simp only [Act.put, List.setIfInBounds_toArray, List.set_cons_zero, List.set_cons_succ]
      repeat (first
        | (refine HavG.skip (fun _ => rfl) ?_; simp only [Act.put, List.setIfInBounds_toArray, List.set_cons_zero, List.set_cons_succ])
        | (refine HavG.val (fun _ => rfl) ?_ (fun x w hw _ => ?_) ?_; rotate_left; (focus (have hc := hw.cells; clear hw; go_simp; first | done | rfl)); simp only [Act.put, List.setIfInBounds_toArray, List.set_cons_zero, List.set_cons_succ]))
      refine HavG.tail (by kernel_rfl) (by kernel_rfl) (fun x w hw _ => ?_)
      have G2 := Lib.hid (G1.out.trans hw)
      clear hw
      go_wp2_with fail
      go_ret2
      exact ⟨rfl, HSTAY.out _ G2.out⟩
    have e10 : ((dr : Int) == 10) = false := by rw [beq_eq_false_iff_ne]; omega
    have e92 : ((dr : Int) == 92) = false := by rw [beq_eq_false_iff_ne]; omega
    by_cases hbut : dr < 128 ∧ amongB but.data.toList (UInt8.ofNat dr) = true
    · rw [if_pos (.inr (.inr (.inr (.inr hbut))))] at ho
      subst ho
      simp only [decide_eq_true hbut] at HC
      clear HO HIN hnil hbad hll hll2 h10 h92 hbut
      go_enter Tryz.func43, Tryz.ntmps43
      go_wp2_with fail
      refine wp_region_hav_lit follows (by kernel_rfl) ?_
      iterate 8 (first
        | (refine HavG.skip (fun _ => rfl) ?_; simp only [Act.put, List.setIfInBounds_toArray, List.set_cons_zero, List.set_cons_succ])
        | (refine HavG.val (fun _ => rfl) ?_ (fun x w hw _ => ?_) ?_; rotate_left; (focus (have hc := hw.cells; clear hw; go_simp; first | done | rfl)); simp only [Act.put, List.setIfInBounds_toArray, List.set_cons_zero, List.set_cons_succ]))
      refine HavG.det (fun _ => rfl) (.tuple #[.int .i32 ((0 : Nat) : Int), .int .i64 ((0 : Nat) : Int), .bool false]) (fun x w hw hd => ?_) ?_
      · clear hd
        have HW := Lib.hid hw
        clear hw
        go_simp
        refine (HE.out w HW.out).mono ?_
        rintro e w' ⟨rfl, hg⟩
        exact ⟨rfl, hg⟩
      simp only [Act.put, List.setIfInBounds_toArray, List.set_cons_zero, List.set_cons_succ]
      repeat (first
        | (refine HavG.skip (fun _ => rfl) ?_; simp only [Act.put, List.setIfInBounds_toArray, List.set_cons_zero, List.set_cons_succ])
        | (refine HavG.val (fun _ => rfl) ?_ (fun x w hw _ => ?_) ?_; rotate_left; (focus (have hc := hw.cells; clear hw; go_simp; first | done | rfl)); simp only [Act.put, List.setIfInBounds_toArray, List.set_cons_zero, List.set_cons_succ]))
      refine HavG.tail (by kernel_rfl) (by kernel_rfl) (fun x w hw _ => ?_)
      have G1 := Lib.hid hw
      have e0 := (H.out.box.keep hw).c0
      have e1 := (H.out.box.keep hw).c1
      have hcb1 := (H.out.box.keep hw).owns.lt
      clear hw c0 c1 hcb
      go_wp2_with fail
      refine wp_region_hav_lit follows (by kernel_rfl) ?_
      iterate 8 (first
        | (refine HavG.skip (fun _ => rfl) ?_; simp only [Act.put, List.setIfInBounds_toArray, List.set_cons_zero, List.set_cons_succ])
        | (refine HavG.val (fun _ => rfl) ?_ (fun x w hw _ => ?_) ?_; rotate_left; (focus (have hc := hw.cells; clear hw; go_simp; first | done | rfl)); simp only [Act.put, List.setIfInBounds_toArray, List.set_cons_zero, List.set_cons_succ]))
      refine HavG.det (fun _ => rfl) (.tuple #[.int .i32 ((dr : Nat) : Int), .int .i64 ((dz : Nat) : Int), .bool true]) (fun x w hw hd => ?_) ?_
      · clear hd
        have HW := Lib.hid hw
        clear hw
        go_simp
        refine (HD.out w (G1.out.trans HW.out)).mono ?_
        rintro e w' ⟨rfl, hg⟩
        exact ⟨rfl, hg⟩
      simp only [Act.put, List.setIfInBounds_toArray, List.set_cons_zero, List.set_cons_succ]
      repeat (first
        | (refine HavG.skip (fun _ => rfl) ?_; simp only [Act.put, List.setIfInBounds_toArray, List.set_cons_zero, List.set_cons_succ])
        | (refine HavG.val (fun _ => rfl) ?_ (fun x w hw _ => ?_) ?_; rotate_left; (focus (have hc := hw.cells; clear hw; go_simp; first | done | rfl)); simp only [Act.put, List.setIfInBounds_toArray, List.set_cons_zero, List.set_cons_succ]))
      refine HavG.tail (by kernel_rfl) (by kernel_rfl) (fun x w hw _ => ?_)
      have G2 := Lib.hid (G1.out.trans hw)
      clear hw
      go_wp2_with fail
      refine (HC.out _).mono ?_
      rintro e w3 ⟨rfl, hg3⟩
      have G3 := Lib.hid (G2.out.trans hg3)
      clear hg3
      go_wp2_with fail
      go_ret2
      exact ⟨rfl, HSTAY.out _ G3.out⟩
    · rw [if_neg (by rintro (e | e | e | e | e) <;> first | exact hnil e | exact hbad e | exact h10 e | exact h92 e | exact hbut e)] at ho
      subst ho
      simp only [decide_eq_false hbut] at HC
      have hpn : p + dz ≤ s.size := by omega
      clear HO HIN hnil hbad hll hll2 h10 h92 hbut
      go_enter Tryz.func43, Tryz.ntmps43
      go_wp2_with fail
      refine wp_region_hav_lit follows (by kernel_rfl) ?_
      iterate 8 (first
        | (refine HavG.skip (fun _ => rfl) ?_; simp only [Act.put, List.setIfInBounds_toArray, List.set_cons_zero, List.set_cons_succ])
        | (refine HavG.val (fun _ => rfl) ?_ (fun x w hw _ => ?_) ?_; rotate_left; (focus (have hc := hw.cells; clear hw; go_simp; first | done | rfl)); simp only [Act.put, List.setIfInBounds_toArray, List.set_cons_zero, List.set_cons_succ]))
      refine HavG.det (fun _ => rfl) (.tuple #[.int .i32 ((0 : Nat) : Int), .int .i64 ((0 : Nat) : Int), .bool false]) (fun x w hw hd => ?_) ?_
      · clear hd
        have HW := Lib.hid hw
        clear hw
        go_simp
        refine (HE.out w HW.out).mono ?_
        rintro e w' ⟨rfl, hg⟩
        exact ⟨rfl, hg⟩
      simp only [Act.put, List.setIfInBounds_toArray, List.set_cons_zero, List.set_cons_succ]
      repeat (first
        | (refine HavG.skip (fun _ => rfl) ?_; simp only [Act.put, List.setIfInBounds_toArray, List.set_cons_zero, List.set_cons_succ])
        | (refine HavG.val (fun _ => rfl) ?_ (fun x w hw _ => ?_) ?_; rotate_left; (focus (have hc := hw.cells; clear hw; go_simp; first | done | rfl)); simp only [Act.put, List.setIfInBounds_toArray, List.set_cons_zero, List.set_cons_succ]))
      refine HavG.tail (by kernel_rfl) (by kernel_rfl) (fun x w hw _ => ?_)
      have G1 := Lib.hid hw
      have e0 := (H.out.box.keep hw).c0
      have e1 := (H.out.box.keep hw).c1
      have hcb1 := (H.out.box.keep hw).owns.lt
      clear hw c0 c1 hcb
      go_wp2_with fail
      refine wp_region_hav_lit follows (by kernel_rfl) ?_
      iterate 8 (first
        | (refine HavG.skip (fun _ => rfl) ?_; simp only [Act.put, List.setIfInBounds_toArray, List.set_cons_zero, List.set_cons_succ])
        | (refine HavG.val (fun _ => rfl) ?_ (fun x w hw _ => ?_) ?_; rotate_left; (focus (have hc := hw.cells; clear hw; go_simp; first | done | rfl)); simp only [Act.put, List.setIfInBounds_toArray, List.set_cons_zero, List.set_cons_succ]))
      refine HavG.det (fun _ => rfl) (.tuple #[.int .i32 ((dr : Nat) : Int), .int .i64 ((dz : Nat) : Int), .bool true]) (fun x w hw hd => ?_) ?_
      · clear hd
        have HW := Lib.hid hw
        clear hw
        go_simp
        refine (HD.out w (G1.out.trans HW.out)).mono ?_
        rintro e w' ⟨rfl, hg⟩
        exact ⟨rfl, hg⟩
      simp only [Act.put, List.setIfInBounds_toArray, List.set_cons_zero, List.set_cons_succ]
      repeat (first
        | (refine HavG.skip (fun _ => rfl) ?_; simp only [Act.put, List.setIfInBounds_toArray, List.set_cons_zero, List.set_cons_succ])
        | (refine HavG.val (fun _ => rfl) ?_ (fun x w hw _ => ?_) ?_; rotate_left; (focus (have hc := hw.cells; clear hw; go_simp; first | done | rfl)); simp only [Act.put, List.setIfInBounds_toArray, List.set_cons_zero, List.set_cons_succ]))
      refine HavG.tail (by kernel_rfl) (by kernel_rfl) (fun x w hw _ => ?_)
      have G2 := Lib.hid (G1.out.trans hw)
      clear hw
      go_wp2_with fail
      refine (HC.out _).mono ?_
      rintro e w3 ⟨rfl, hg3⟩
      have G3 := Lib.hid (G2.out.trans hg3)
      clear hg3
      have k1 := (H.out.box.keep G3.out).c1
      have kf := (H.out.box.keep G3.out).fr
      have P3 := Lib.hid (HPUT.out _ dz G3.out hpn)
      go_wp2_with fail
      go_ret2
      exact ⟨rfl, P3.out⟩
  · unfold EscIs at HE
    simp only [Option.getD_some, Option.isSome_some] at HE
    have ho := HO.out
    simp only at ho
    subst ho
    obtain ⟨hn1, hn2, hn3⟩ := HIN.out r n rfl
    have hpn : p + n ≤ s.size := by omega
    have hr2 : r ≤ 1114111 := by
      have hv : (0 ≤ (r : Int) ∧ (r : Int) < 0xD800) ∨ (0xDFFF < (r : Int) ∧ (r : Int) ≤ 0x10FFFF) := of_decide_eq_true hn3
      omega
    clear HO HIN hn3 HD HC
    go_enter Tryz.func43, Tryz.ntmps43
    go_wp2_with fail
    refine wp_region_hav_lit follows (by kernel_rfl) ?_
    iterate 8 (first
      | (refine HavG.skip (fun _ => rfl) ?_; simp only [Act.put, List.setIfInBounds_toArray, List.set_cons_zero, List.set_cons_succ])
      | (refine HavG.val (fun _ => rfl) ?_ (fun x w hw _ => ?_) ?_; rotate_left; (focus (have hc := hw.cells; clear hw; go_simp; first | done | rfl)); simp only [Act.put, List.setIfInBounds_toArray, List.set_cons_zero, List.set_cons_succ]))
    refine HavG.det (fun _ => rfl) (.tuple #[.int .i32 ((r : Nat) : Int), .int .i64 ((n : Nat) : Int), .bool true]) (fun x w hw hd => ?_) ?_
    · clear hd
      have HW := Lib.hid hw
      clear hw
      go_simp
      refine (HE.out w HW.out).mono ?_
      rintro e w' ⟨rfl, hg⟩
      exact ⟨rfl, hg⟩
    simp only [Act.put, List.setIfInBounds_toArray, List.set_cons_zero, List.set_cons_succ]
    repeat (first
      | (refine HavG.skip (fun _ => rfl) ?_; simp only [Act.put, List.setIfInBounds_toArray, List.set_cons_zero, List.set_cons_succ])
      | (refine HavG.val (fun _ => rfl) ?_ (fun x w hw _ => ?_) ?_; rotate_left; (focus (have hc := hw.cells; clear hw; go_simp; first | done | rfl)); simp only [Act.put, List.setIfInBounds_toArray, List.set_cons_zero, List.set_cons_succ]))
    refine HavG.tail (by kernel_rfl) (by kernel_rfl) (fun x w hw _ => ?_)
    have G1 := Lib.hid hw
    have k1 := (H.out.box.keep hw).c1
    have kf := (H.out.box.keep hw).fr
    have P3 := Lib.hid (HPUT.out _ n hw hpn)
    clear hw
    go_wp2_with fail
    go_ret2
    exact ⟨rfl, P3.out⟩
end Go.Proofs.YtdgkpmpakkfgbaaGreatDoor
