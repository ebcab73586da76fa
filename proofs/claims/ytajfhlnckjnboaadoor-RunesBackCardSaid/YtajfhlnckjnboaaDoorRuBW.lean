/- RunesBack's walk: it answers true, for every two numbers and every two texts. -/
import Derived.Test.YtajfhlnckjnboaaDoorRuB
namespace Go.Proofs.YtajfhlnckjnboaaDoor
open Go.RowKit

theorem toList_ne (x y : ByteArray) (h : ¬ x = y) : (x.toList == y.toList) = false := by
  rw [Lib.toList_data, Lib.toList_data]
  exact beq_eq_false_iff_ne.2 (fun e => h (ByteArray.ext (Array.toList_inj.1 e)))
def BackIs (r q : Int) (a b : ByteArray) (W : World) : Prop :=
  Calls Tryd.prog 5 #[.agg #[.int .i32 r, .int .i32 q], .string a, .string b] W fun e W' => e = .returned (.bool true) ∧ Below W.heap.size W W'

set_option maxHeartbeats 8000000 in
set_option maxRecDepth 20000 in
theorem back_long1 (r q : Int) (a b : ByteArray) (W : World) (hW : Laid W) (h : 1000 < a.size) : BackIs r q a b W := by
  unfold BackIs
  have hg1 : Below W.heap.size W (W.alloc (.cells #[.int .i32 r, .int .i32 q] 29)) := Below.alloc (Below.refl _ _) (Nat.le_refl _) _
  have HL := Lib.hid (hW.below hg1)
  have HG := Lib.hid hg1
  have HLV := Lib.hid lives_ok
  clear hW hg1
  go_enter Tryd.func5, Tryd.ntmps5
  go_wp2_with fail
  refine (HLV.out _ HL.out).mono ?_
  rintro e w1 ⟨rfl, hb1⟩
  go_wp2_with fail
  go_ret
  exact ⟨rfl, HG.out.trans (hb1.mono HG.out.size)⟩
set_option maxHeartbeats 8000000 in
set_option maxRecDepth 20000 in
theorem back_long2 (r q : Int) (a b : ByteArray) (W : World) (hW : Laid W) (h0 : ¬ 1000 < a.size) (h : 1000 < b.size) : BackIs r q a b W := by
  unfold BackIs
  have hg1 : Below W.heap.size W (W.alloc (.cells #[.int .i32 r, .int .i32 q] 29)) := Below.alloc (Below.refl _ _) (Nat.le_refl _) _
  have HL := Lib.hid (hW.below hg1)
  have HG := Lib.hid hg1
  have HLV := Lib.hid lives_ok
  clear hW hg1
  go_enter Tryd.func5, Tryd.ntmps5
  go_wp2_with fail
  refine (HLV.out _ HL.out).mono ?_
  rintro e w1 ⟨rfl, hb1⟩
  go_wp2_with fail
  go_ret
  exact ⟨rfl, HG.out.trans (hb1.mono HG.out.size)⟩
set_option maxHeartbeats 8000000 in
set_option maxRecDepth 20000 in
theorem back_neg (r q : Int) (a b : ByteArray) (W : World) (hW : Laid W) (ha : ¬ 1000 < a.size) (hb : ¬ 1000 < b.size) (hv : Lib.validRune r = false) (h1 : r < 0) : BackIs r q a b W := by
  unfold BackIs
  have hg1 : Below W.heap.size W (W.alloc (.cells #[.int .i32 r, .int .i32 q] 29)) := Below.alloc (Below.refl _ _) (Nat.le_refl _) _
  have HL := Lib.hid (hW.below hg1)
  have HG := Lib.hid hg1
  have HLV := Lib.hid lives_ok
  clear hW hg1
  have hE := fun w => encode_ok r w
  rw [hv] at hE
  have hT := fun w hw => text_ok r w hw
  unfold TextIs at hT
  rw [textL_none r hv] at hT
  have HE := Lib.hid hE
  have HT := Lib.hid hT
  clear hE hT hv
  go_enter Tryd.func5, Tryd.ntmps5
  go_wp2_with fail
  refine (HE.out _).mono ?_
  rintro e w1 ⟨rfl, rfl⟩
  go_wp2_with fail
  refine (HT.out _ HL.out).mono ?_
  rintro e w2 ⟨rfl, hb2⟩
  go_wp2_with fail
  refine (HLV.out _ (HL.out.below hb2)).mono ?_
  rintro e w3 ⟨rfl, hb3⟩
  go_wp2_with fail
  go_ret
  exact ⟨rfl, (HG.out.trans (hb2.mono HG.out.size)).trans (hb3.mono (Nat.le_trans HG.out.size hb2.size))⟩
set_option maxHeartbeats 8000000 in
set_option maxRecDepth 20000 in
theorem back_mid (r q : Int) (a b : ByteArray) (W : World) (hW : Laid W) (ha : ¬ 1000 < a.size) (hb : ¬ 1000 < b.size) (hv : Lib.validRune r = false) (h1 : 55296 ≤ r) (h2 : r ≤ 57343) : BackIs r q a b W := by
  unfold BackIs
  have hg1 : Below W.heap.size W (W.alloc (.cells #[.int .i32 r, .int .i32 q] 29)) := Below.alloc (Below.refl _ _) (Nat.le_refl _) _
  have HL := Lib.hid (hW.below hg1)
  have HG := Lib.hid hg1
  have HLV := Lib.hid lives_ok
  clear hW hg1
  have d1 : decide (r < 55296) = false := decide_eq_false (by omega)
  have hE := fun w => encode_ok r w
  rw [hv] at hE
  have hT := fun w hw => text_ok r w hw
  unfold TextIs at hT
  rw [textL_none r hv] at hT
  have HE := Lib.hid hE
  have HT := Lib.hid hT
  clear hE hT hv
  go_enter Tryd.func5, Tryd.ntmps5
  go_wp2_with fail
  refine (HE.out _).mono ?_
  rintro e w1 ⟨rfl, rfl⟩
  go_wp2_with fail
  refine (HT.out _ HL.out).mono ?_
  rintro e w2 ⟨rfl, hb2⟩
  go_wp2_with fail
  refine (HLV.out _ (HL.out.below hb2)).mono ?_
  rintro e w3 ⟨rfl, hb3⟩
  go_wp2_with fail
  go_ret
  exact ⟨rfl, (HG.out.trans (hb2.mono HG.out.size)).trans (hb3.mono (Nat.le_trans HG.out.size hb2.size))⟩
set_option maxHeartbeats 8000000 in
set_option maxRecDepth 20000 in
theorem back_far (r q : Int) (a b : ByteArray) (W : World) (hW : Laid W) (ha : ¬ 1000 < a.size) (hb : ¬ 1000 < b.size) (hv : Lib.validRune r = false) (h1 : 1114111 < r) : BackIs r q a b W := by
  unfold BackIs
  have hg1 : Below W.heap.size W (W.alloc (.cells #[.int .i32 r, .int .i32 q] 29)) := Below.alloc (Below.refl _ _) (Nat.le_refl _) _
  have HL := Lib.hid (hW.below hg1)
  have HG := Lib.hid hg1
  have HLV := Lib.hid lives_ok
  clear hW hg1
  have d1 : decide (r < 55296) = false := decide_eq_false (by omega)
  have d2 : decide (r ≤ 1114111) = false := decide_eq_false (by omega)
  have hE := fun w => encode_ok r w
  rw [hv] at hE
  have hT := fun w hw => text_ok r w hw
  unfold TextIs at hT
  rw [textL_none r hv] at hT
  have HE := Lib.hid hE
  have HT := Lib.hid hT
  clear hE hT hv
  go_enter Tryd.func5, Tryd.ntmps5
  go_wp2_with fail
  refine (HE.out _).mono ?_
  rintro e w1 ⟨rfl, rfl⟩
  go_wp2_with fail
  refine (HT.out _ HL.out).mono ?_
  rintro e w2 ⟨rfl, hb2⟩
  go_wp2_with fail
  refine (HLV.out _ (HL.out.below hb2)).mono ?_
  rintro e w3 ⟨rfl, hb3⟩
  go_wp2_with fail
  go_ret
  exact ⟨rfl, (HG.out.trans (hb2.mono HG.out.size)).trans (hb3.mono (Nat.le_trans HG.out.size hb2.size))⟩
set_option maxHeartbeats 8000000 in
set_option maxRecDepth 20000 in
theorem back_low (r q : Int) (a b : ByteArray) (W : World) (hW : Laid W) (ha : ¬ 1000 < a.size) (hb : ¬ 1000 < b.size) (hv : Lib.validRune r = true) (h1 : 0 ≤ r) (h2 : r < 55296) : BackIs r q a b W := by
  unfold BackIs
  have hg1 : Below W.heap.size W (W.alloc (.cells #[.int .i32 r, .int .i32 q] 29)) := Below.alloc (Below.refl _ _) (Nat.le_refl _) _
  have HL := Lib.hid (hW.below hg1)
  have HG := Lib.hid hg1
  have HLV := Lib.hid lives_ok
  clear hW hg1
  have hE := fun w => encode_ok r w
  obtain ⟨en, hen, henl, hen4⟩ := encode_bytes r
  rw [hen] at hE
  have hT := fun w hw => text_ok r w hw
  unfold TextIs at hT
  have hQ := fun w hw => text_ok q w hw
  unfold TextIs at hQ
  have hne1 : en.toList.isEmpty = false := by
    rw [← decide_eq_emptyBytes]
    exact decide_eq_false (fun h => bytes_ne r hv (by rw [← henl, h]; rfl))
  obtain ⟨t, ht⟩ : ∃ t : ByteArray, t = ⟨(textL r).toArray⟩ := ⟨_, rfl⟩
  have htl : t.data.toList = textL r := by rw [ht]
  have hne2 : t.toList.isEmpty = false := by
    rw [← decide_eq_emptyBytes]
    exact decide_eq_false (fun h => textL_ne r hv (by rw [← htl, h]; rfl))
  obtain ⟨tq, htq⟩ : ∃ t : ByteArray, t = ⟨(textL q).toArray⟩ := ⟨_, rfl⟩
  have htql : tq.data.toList = textL q := by rw [htq]
  rw [← ht] at hT
  rw [← htq] at hQ
  have hiff : tq = t ↔ q = r := by
    rw [← textL_inj q r hv, ← htl, ← htql]
    exact ⟨fun h => by rw [h], fun h => by rw [htq, ht, ← htl, ← htql, h]⟩
  have hsz : (a ++ en ++ b).size = a.size + en.size + b.size := by rw [ByteArray.size_append, ByteArray.size_append]
  have hsz0 : (a ++ en).size = a.size + en.size := by rw [ByteArray.size_append]
  have htz : t.size ≤ 10 := by
    rw [Lib.size_eq, htl]
    rcases textL_shape r hv with ⟨c, hx, _⟩ | ⟨_, _, hx, _⟩ | hx
    · rw [hx]; simp
    · rw [hx]; simp
    · have := hexL_len r.toNat
      rw [hx]
      simp
      omega
  have hsz2 : (a ++ t ++ b).size = a.size + t.size + b.size := by rw [ByteArray.size_append, ByteArray.size_append]
  have hsz3 : (a ++ t).size = a.size + t.size := by rw [ByteArray.size_append]
  have hD := fun w (hw : Laid w) => decode_ok (a ++ en ++ b) (a.size : Int) w (by omega) (by omega) (by omega) hw.tabs
  unfold DecodeIs at hD
  rw [rune_mid a en b r hv henl] at hD
  have hrn : ((r.toNat : Nat) : Int) = r := by have := valid_range r hv; omega
  simp only [hrn] at hD
  have hX := fun (h : textL r ≠ bytesOf r) w hw => escape_mid a t b r hv htl h (by omega) w hw
  have hown := text_own r hv
  rw [← htl, ← henl] at hX hown
  have HX := Lib.hid hX
  have HE := Lib.hid hE
  have HT := Lib.hid hT
  have HQ := Lib.hid hQ
  have HD := Lib.hid hD
  have hte : t.data.toList = en.data.toList → t = en := fun h => by
    apply ByteArray.ext
    exact Array.toList_inj.1 h
  clear hE hT hQ hD hX hv hen henl htl htql ht htq
  by_cases hq : q = r
  · have htt : tq = t := hiff.2 hq
    subst htt
    subst hq
    clear hiff
    by_cases he : tq = en
    · obtain ⟨o1, o2⟩ := hown (by rw [he])
      subst he
      go_enter Tryd.func5, Tryd.ntmps5
      go_wp2_with fail
      refine (HE.out _).mono ?_
      rintro e w1 ⟨rfl, rfl⟩
      go_wp2_with fail
      refine (HT.out _ HL.out).mono ?_
      rintro e w2 ⟨rfl, hb2⟩
      have HL2 := Lib.hid (HL.out.below hb2)
      go_wp2_with fail
      refine (HD.out _ HL2.out).mono ?_
      rintro e w3 ⟨rfl, hb3⟩
      have HL3 := Lib.hid (HL2.out.below hb3)
      go_wp2_with fail
      refine (HQ.out _ HL3.out).mono ?_
      rintro e w4 ⟨rfl, hb4⟩
      have HL4 := Lib.hid (HL3.out.below hb4)
      have HB4 := Lib.hid (((HG.out.trans (hb2.mono HG.out.size)).trans (hb3.mono (Nat.le_trans HG.out.size hb2.size))).trans (hb4.mono (Nat.le_trans (Nat.le_trans HG.out.size hb2.size) hb3.size)))
      go_wp2_with fail
      refine (HLV.out _ HL4.out).mono ?_
      rintro e w5 ⟨rfl, hb5⟩
      go_wp2_with fail
      go_ret
      exact ⟨rfl, HB4.out.trans (hb5.mono HB4.out.size)⟩
    · have HXX := Lib.hid (HX.out (fun h => he (hte h)))
      have heb := toList_ne _ _ he
      go_enter Tryd.func5, Tryd.ntmps5
      go_wp2_with fail
      refine (HE.out _).mono ?_
      rintro e w1 ⟨rfl, rfl⟩
      go_wp2_with fail
      refine (HT.out _ HL.out).mono ?_
      rintro e w2 ⟨rfl, hb2⟩
      have HL2 := Lib.hid (HL.out.below hb2)
      go_wp2_with fail
      refine (HD.out _ HL2.out).mono ?_
      rintro e w3 ⟨rfl, hb3⟩
      have HL3 := Lib.hid (HL2.out.below hb3)
      go_wp2_with fail
      refine (HQ.out _ HL3.out).mono ?_
      rintro e w4 ⟨rfl, hb4⟩
      have HL4 := Lib.hid (HL3.out.below hb4)
      have HB4 := Lib.hid (((HG.out.trans (hb2.mono HG.out.size)).trans (hb3.mono (Nat.le_trans HG.out.size hb2.size))).trans (hb4.mono (Nat.le_trans (Nat.le_trans HG.out.size hb2.size) hb3.size)))
      go_wp2_with fail
      refine (HXX.out _ HL4.out).mono ?_
      rintro e w5 ⟨rfl, hb5⟩
      go_wp2_with fail
      refine (HLV.out _ (HL4.out.below hb5)).mono ?_
      rintro e w6 ⟨rfl, hb6⟩
      go_wp2_with fail
      go_ret
      exact ⟨rfl, (HB4.out.trans (hb5.mono HB4.out.size)).trans (hb6.mono (Nat.le_trans HB4.out.size hb5.size))⟩
  · have htt : ¬ tq = t := fun h => hq (hiff.1 h)
    clear hiff
    have hqb := toList_ne _ _ htt
    by_cases he : t = en
    · obtain ⟨o1, o2⟩ := hown (by rw [he])
      subst he
      go_enter Tryd.func5, Tryd.ntmps5
      go_wp2_with fail
      refine (HE.out _).mono ?_
      rintro e w1 ⟨rfl, rfl⟩
      go_wp2_with fail
      refine (HT.out _ HL.out).mono ?_
      rintro e w2 ⟨rfl, hb2⟩
      have HL2 := Lib.hid (HL.out.below hb2)
      go_wp2_with fail
      refine (HD.out _ HL2.out).mono ?_
      rintro e w3 ⟨rfl, hb3⟩
      have HL3 := Lib.hid (HL2.out.below hb3)
      go_wp2_with fail
      refine (HQ.out _ HL3.out).mono ?_
      rintro e w4 ⟨rfl, hb4⟩
      have HL4 := Lib.hid (HL3.out.below hb4)
      have HB4 := Lib.hid (((HG.out.trans (hb2.mono HG.out.size)).trans (hb3.mono (Nat.le_trans HG.out.size hb2.size))).trans (hb4.mono (Nat.le_trans (Nat.le_trans HG.out.size hb2.size) hb3.size)))
      go_wp2_with fail
      refine (HLV.out _ HL4.out).mono ?_
      rintro e w5 ⟨rfl, hb5⟩
      go_wp2_with fail
      go_ret
      exact ⟨rfl, HB4.out.trans (hb5.mono HB4.out.size)⟩
    · have HXX := Lib.hid (HX.out (fun h => he (hte h)))
      have heb := toList_ne _ _ he
      go_enter Tryd.func5, Tryd.ntmps5
      go_wp2_with fail
      refine (HE.out _).mono ?_
      rintro e w1 ⟨rfl, rfl⟩
      go_wp2_with fail
      refine (HT.out _ HL.out).mono ?_
      rintro e w2 ⟨rfl, hb2⟩
      have HL2 := Lib.hid (HL.out.below hb2)
      go_wp2_with fail
      refine (HD.out _ HL2.out).mono ?_
      rintro e w3 ⟨rfl, hb3⟩
      have HL3 := Lib.hid (HL2.out.below hb3)
      go_wp2_with fail
      refine (HQ.out _ HL3.out).mono ?_
      rintro e w4 ⟨rfl, hb4⟩
      have HL4 := Lib.hid (HL3.out.below hb4)
      have HB4 := Lib.hid (((HG.out.trans (hb2.mono HG.out.size)).trans (hb3.mono (Nat.le_trans HG.out.size hb2.size))).trans (hb4.mono (Nat.le_trans (Nat.le_trans HG.out.size hb2.size) hb3.size)))
      go_wp2_with fail
      refine (HXX.out _ HL4.out).mono ?_
      rintro e w5 ⟨rfl, hb5⟩
      go_wp2_with fail
      refine (HLV.out _ (HL4.out.below hb5)).mono ?_
      rintro e w6 ⟨rfl, hb6⟩
      go_wp2_with fail
      go_ret
      exact ⟨rfl, (HB4.out.trans (hb5.mono HB4.out.size)).trans (hb6.mono (Nat.le_trans HB4.out.size hb5.size))⟩
set_option maxHeartbeats 8000000 in
set_option maxRecDepth 20000 in
theorem back_high (r q : Int) (a b : ByteArray) (W : World) (hW : Laid W) (ha : ¬ 1000 < a.size) (hb : ¬ 1000 < b.size) (hv : Lib.validRune r = true) (h0 : ¬ r < 55296) (h1 : 57343 < r) (h2 : r ≤ 1114111) : BackIs r q a b W := by
  unfold BackIs
  have hg1 : Below W.heap.size W (W.alloc (.cells #[.int .i32 r, .int .i32 q] 29)) := Below.alloc (Below.refl _ _) (Nat.le_refl _) _
  have HL := Lib.hid (hW.below hg1)
  have HG := Lib.hid hg1
  have HLV := Lib.hid lives_ok
  clear hW hg1
  have d1 : decide (r < 55296) = false := decide_eq_false (by omega)
  have hE := fun w => encode_ok r w
  obtain ⟨en, hen, henl, hen4⟩ := encode_bytes r
  rw [hen] at hE
  have hT := fun w hw => text_ok r w hw
  unfold TextIs at hT
  have hQ := fun w hw => text_ok q w hw
  unfold TextIs at hQ
  have hne1 : en.toList.isEmpty = false := by
    rw [← decide_eq_emptyBytes]
    exact decide_eq_false (fun h => bytes_ne r hv (by rw [← henl, h]; rfl))
  obtain ⟨t, ht⟩ : ∃ t : ByteArray, t = ⟨(textL r).toArray⟩ := ⟨_, rfl⟩
  have htl : t.data.toList = textL r := by rw [ht]
  have hne2 : t.toList.isEmpty = false := by
    rw [← decide_eq_emptyBytes]
    exact decide_eq_false (fun h => textL_ne r hv (by rw [← htl, h]; rfl))
  obtain ⟨tq, htq⟩ : ∃ t : ByteArray, t = ⟨(textL q).toArray⟩ := ⟨_, rfl⟩
  have htql : tq.data.toList = textL q := by rw [htq]
  rw [← ht] at hT
  rw [← htq] at hQ
  have hiff : tq = t ↔ q = r := by
    rw [← textL_inj q r hv, ← htl, ← htql]
    exact ⟨fun h => by rw [h], fun h => by rw [htq, ht, ← htl, ← htql, h]⟩
  have hsz : (a ++ en ++ b).size = a.size + en.size + b.size := by rw [ByteArray.size_append, ByteArray.size_append]
  have hsz0 : (a ++ en).size = a.size + en.size := by rw [ByteArray.size_append]
  have htz : t.size ≤ 10 := by
    rw [Lib.size_eq, htl]
    rcases textL_shape r hv with ⟨c, hx, _⟩ | ⟨_, _, hx, _⟩ | hx
    · rw [hx]; simp
    · rw [hx]; simp
    · have := hexL_len r.toNat
      rw [hx]
      simp
      omega
  have hsz2 : (a ++ t ++ b).size = a.size + t.size + b.size := by rw [ByteArray.size_append, ByteArray.size_append]
  have hsz3 : (a ++ t).size = a.size + t.size := by rw [ByteArray.size_append]
  have hD := fun w (hw : Laid w) => decode_ok (a ++ en ++ b) (a.size : Int) w (by omega) (by omega) (by omega) hw.tabs
  unfold DecodeIs at hD
  rw [rune_mid a en b r hv henl] at hD
  have hrn : ((r.toNat : Nat) : Int) = r := by have := valid_range r hv; omega
  simp only [hrn] at hD
  have hX := fun (h : textL r ≠ bytesOf r) w hw => escape_mid a t b r hv htl h (by omega) w hw
  have hown := text_own r hv
  rw [← htl, ← henl] at hX hown
  have HX := Lib.hid hX
  have HE := Lib.hid hE
  have HT := Lib.hid hT
  have HQ := Lib.hid hQ
  have HD := Lib.hid hD
  have hte : t.data.toList = en.data.toList → t = en := fun h => by
    apply ByteArray.ext
    exact Array.toList_inj.1 h
  clear hE hT hQ hD hX hv hen henl htl htql ht htq
  by_cases hq : q = r
  · have htt : tq = t := hiff.2 hq
    subst htt
    subst hq
    clear hiff
    by_cases he : tq = en
    · obtain ⟨o1, o2⟩ := hown (by rw [he])
      exact absurd o2 (by omega)
    · have HXX := Lib.hid (HX.out (fun h => he (hte h)))
      have heb := toList_ne _ _ he
      go_enter Tryd.func5, Tryd.ntmps5
      go_wp2_with fail
      refine (HE.out _).mono ?_
      rintro e w1 ⟨rfl, rfl⟩
      go_wp2_with fail
      refine (HT.out _ HL.out).mono ?_
      rintro e w2 ⟨rfl, hb2⟩
      have HL2 := Lib.hid (HL.out.below hb2)
      go_wp2_with fail
      refine (HD.out _ HL2.out).mono ?_
      rintro e w3 ⟨rfl, hb3⟩
      have HL3 := Lib.hid (HL2.out.below hb3)
      go_wp2_with fail
      refine (HQ.out _ HL3.out).mono ?_
      rintro e w4 ⟨rfl, hb4⟩
      have HL4 := Lib.hid (HL3.out.below hb4)
      have HB4 := Lib.hid (((HG.out.trans (hb2.mono HG.out.size)).trans (hb3.mono (Nat.le_trans HG.out.size hb2.size))).trans (hb4.mono (Nat.le_trans (Nat.le_trans HG.out.size hb2.size) hb3.size)))
      go_wp2_with fail
      refine (HXX.out _ HL4.out).mono ?_
      rintro e w5 ⟨rfl, hb5⟩
      go_wp2_with fail
      refine (HLV.out _ (HL4.out.below hb5)).mono ?_
      rintro e w6 ⟨rfl, hb6⟩
      go_wp2_with fail
      go_ret
      exact ⟨rfl, (HB4.out.trans (hb5.mono HB4.out.size)).trans (hb6.mono (Nat.le_trans HB4.out.size hb5.size))⟩
  · have htt : ¬ tq = t := fun h => hq (hiff.1 h)
    clear hiff
    have hqb := toList_ne _ _ htt
    by_cases he : t = en
    · obtain ⟨o1, o2⟩ := hown (by rw [he])
      exact absurd o2 (by omega)
    · have HXX := Lib.hid (HX.out (fun h => he (hte h)))
      have heb := toList_ne _ _ he
      go_enter Tryd.func5, Tryd.ntmps5
      go_wp2_with fail
      refine (HE.out _).mono ?_
      rintro e w1 ⟨rfl, rfl⟩
      go_wp2_with fail
      refine (HT.out _ HL.out).mono ?_
      rintro e w2 ⟨rfl, hb2⟩
      have HL2 := Lib.hid (HL.out.below hb2)
      go_wp2_with fail
      refine (HD.out _ HL2.out).mono ?_
      rintro e w3 ⟨rfl, hb3⟩
      have HL3 := Lib.hid (HL2.out.below hb3)
      go_wp2_with fail
      refine (HQ.out _ HL3.out).mono ?_
      rintro e w4 ⟨rfl, hb4⟩
      have HL4 := Lib.hid (HL3.out.below hb4)
      have HB4 := Lib.hid (((HG.out.trans (hb2.mono HG.out.size)).trans (hb3.mono (Nat.le_trans HG.out.size hb2.size))).trans (hb4.mono (Nat.le_trans (Nat.le_trans HG.out.size hb2.size) hb3.size)))
      go_wp2_with fail
      refine (HXX.out _ HL4.out).mono ?_
      rintro e w5 ⟨rfl, hb5⟩
      go_wp2_with fail
      refine (HLV.out _ (HL4.out.below hb5)).mono ?_
      rintro e w6 ⟨rfl, hb6⟩
      go_wp2_with fail
      go_ret
      exact ⟨rfl, (HB4.out.trans (hb5.mono HB4.out.size)).trans (hb6.mono (Nat.le_trans HB4.out.size hb5.size))⟩
theorem back_ok (r q : Int) (a b : ByteArray) (W : World) (hW : Laid W) : BackIs r q a b W := by
  by_cases ha : 1000 < a.size
  · exact back_long1 r q a b W hW ha
  by_cases hb : 1000 < b.size
  · exact back_long2 r q a b W hW ha hb
  cases hv : Lib.validRune r
  · have hn : ¬ ((0 ≤ r ∧ r < 0xD800) ∨ (0xDFFF < r ∧ r ≤ 0x10FFFF)) := of_decide_eq_false hv
    by_cases h1 : r < 0
    · exact back_neg r q a b W hW ha hb hv h1
    · by_cases h2 : r ≤ 57343
      · exact back_mid r q a b W hW ha hb hv (by omega) h2
      · exact back_far r q a b W hW ha hb hv (by omega)
  · have hn : (0 ≤ r ∧ r < 0xD800) ∨ (0xDFFF < r ∧ r ≤ 0x10FFFF) := of_decide_eq_true hv
    by_cases h1 : r < 55296
    · exact back_low r q a b W hW ha hb hv (by omega) h1
    · exact back_high r q a b W hW ha hb hv h1 (by omega) (by omega)
end Go.Proofs.YtajfhlnckjnboaaDoor
