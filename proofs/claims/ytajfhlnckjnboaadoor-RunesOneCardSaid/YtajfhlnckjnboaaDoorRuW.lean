/- RunesWhole: it answers true, for all numbers. -/
import Derived.Test.YtajfhlnckjnboaaDoorRuJ
namespace Go.Proofs.YtajfhlnckjnboaaDoor
open Go.RowKit

theorem bytesOf_len (r : Int) : (bytesOf r).length ≤ 4 := by
  cases h : Lib.validRune r
  · rw [badOf_none r h]
    simp
  · rcases bytesOf_shape r h with ⟨_, e⟩ | ⟨_, _, e⟩ | ⟨_, _, e⟩ | ⟨_, e⟩ <;> rw [e] <;> simp
/-- the text with the byte that is none -/
def tBytes (l : List Int) (a k : Nat) : List UInt8 := if a < k then allBytes (l.take a) ++ 255 :: allBytes ((l.take k).drop a) else allBytes (l.take k)
def bdOf (l : List Int) (a k : Nat) : Int := if a < k then (allBytes (l.take a)).length else -1
theorem all_step (l : List Int) (k : Nat) (h : k < l.length) : allBytes (l.take (k + 1)) = allBytes (l.take k) ++ bytesOf l[k] := by
  rw [List.take_succ_eq_append_getElem h, allBytes_append, allBytes, allBytes, List.append_nil]
theorem t_step (l : List Int) (a k : Nat) (h : k < l.length) : tBytes l a (k + 1) = (if k = a then tBytes l a k ++ [255] else tBytes l a k) ++ bytesOf l[k] := by
  unfold tBytes
  by_cases h1 : k = a
  · subst h1
    rw [if_pos (Nat.lt_succ_self _), if_pos rfl, if_neg (Nat.lt_irrefl _), List.take_succ_eq_append_getElem h, List.drop_append_of_le_length (by simp; omega), List.drop_of_length_le (by simp; omega), List.nil_append, allBytes, allBytes, List.append_nil]
    simp
  · by_cases h2 : a < k
    · rw [if_pos (by omega), if_neg h1, if_pos h2, List.take_succ_eq_append_getElem h, List.drop_append_of_le_length (by simp; omega), allBytes_append, allBytes, allBytes, List.append_nil]
      simp
    · rw [if_neg (by omega), if_neg h1, if_neg h2, all_step l k h]
theorem bd_step (l : List Int) (a k : Nat) : bdOf l a (k + 1) = if k = a then ((tBytes l a k).length : Int) else bdOf l a k := by
  unfold bdOf tBytes
  by_cases h1 : k = a
  · subst h1
    rw [if_pos (Nat.lt_succ_self _), if_pos rfl, if_neg (Nat.lt_irrefl _)]
  · rw [if_neg h1]
    by_cases h2 : a < k
    · rw [if_pos (by omega), if_pos h2]
    · rw [if_neg (by omega), if_neg h2]
theorem bad_all (l : List Int) (a : Nat) : badOf (allBytes l) 0 = -1 ∧ badOf (tBytes l a l.length) 0 = bdOf l a l.length := by
  have h0 : badOf (allBytes l) 0 = -1 := by
    have := badOf_all l [] 0
    rw [List.append_nil] at this
    rw [this]
    rfl
  refine ⟨h0, ?_⟩
  unfold tBytes bdOf
  by_cases h : a < l.length
  · rw [if_pos h, if_pos h, badOf_all, badOf_ff]
    simp
  · rw [if_neg h, if_neg h, List.take_length]
    exact h0
theorem encode_bytes (r : Int) : ∃ en : ByteArray, (if Lib.validRune r then Utf8.encode r else { data := #[] }) = en ∧ en.data.toList = bytesOf r ∧ en.size ≤ 4 := by
  refine ⟨_, rfl, ?_⟩
  have h : (if Lib.validRune r then Utf8.encode r else { data := #[] }).data.toList = bytesOf r := by
    unfold bytesOf
    split <;> rfl
  refine ⟨h, ?_⟩
  rw [Lib.size_eq, h]
  exact bytesOf_len r
theorem app_list (a b : ByteArray) : (a ++ b).data.toList = a.data.toList ++ b.data.toList := by simp [ByteArray.data_append]

set_option maxHeartbeats 8000000 in
set_option maxRecDepth 20000 in
theorem whole_ok (l : List Int) (x : Option Addr) (c a : Nat) (ha : a ≤ 255) (W : World) (hW : Laid W)
    (hx : ∀ (j : Nat) (h : j < l.length), ∃ b off, x = some ⟨b, off, none⟩ ∧ W.cell? ⟨b, off + j, none⟩ = some (.int .i32 l[j])) :
    Calls Tryd.prog 7 #[.slice x l.length c, .int .u8 a] W fun e W' => e = .returned (.bool true) ∧ Below W.heap.size W W' := by
  have HW := Lib.hid hW
  have HLV := Lib.hid (lives_ok)
  have HX := Lib.hid hx
  clear hW hx
  by_cases h1 : 200 < l.length
  · go_enter Tryd.func7, Tryd.ntmps7
    go_wp2_with fail
    refine (HLV.out _ HW.out).mono ?_
    rintro e w1 ⟨rfl, hb1⟩
    go_wp2_with fail
    go_ret
    exact ⟨rfl, hb1⟩
  go_enter Tryd.func7, Tryd.ntmps7
  go_wp2_with fail
  go_loop [5, 6, 7, 8] (fun vs vt vb vi => ∃ (k : Nat) (s t : ByteArray) (bd : Int), vs = .string s ∧ vt = .string t ∧ vb = .int .i64 bd ∧ vi = .int .i64 k ∧ k ≤ l.length ∧ s.size ≤ 4 * k ∧ t.size ≤ 5 * k ∧ Hid (s.data.toList = allBytes (l.take k) ∧ t.data.toList = tBytes l a k ∧ bd = bdOf l a k))
    (fun _ _ _ vi => l.length + 1 - (intOf vi).toNat)
  case atStart =>
    refine ⟨0, { data := #[] }, { data := #[] }, -1, rfl, rfl, rfl, rfl, Nat.zero_le _, Nat.le_refl _, Nat.zero_le _, ?_⟩
    refine ⟨by simp [allBytes], ?_, ?_⟩
    · unfold tBytes
      rw [if_neg (by omega)]
      simp [allBytes]
    · unfold bdOf
      rw [if_neg (by omega)]
  case round =>
    obtain ⟨k, s, t, bd, rfl, rfl, rfl, rfl, hk, hs4, ht4, hh⟩ := hrel
    by_cases hlt : k < l.length
    · obtain ⟨b, off, hxe, hcell⟩ := HX.out k hlt
      subst hxe
      have hE := fun w => encode_ok l[k] w
      obtain ⟨en, hen, henl, hen4⟩ := encode_bytes l[k]
      rw [hen] at hE
      have hst := t_step l a k hlt
      have hbs := bd_step l a k
      have has := all_step l k hlt
      obtain ⟨q1, q2, q3⟩ := hh.out
      have HQ : Hid ((s ++ en).data.toList = allBytes (l.take (k + 1)) ∧ ((if k = a then t ++ { data := #[255] } else t) ++ en).data.toList = tBytes l a (k + 1) ∧ (if k = a then (t.size : Int) else bd) = bdOf l a (k + 1)) := by
        refine ⟨?_, ?_, ?_⟩
        · rw [app_list, q1, henl, has]
        · rw [app_list, hst, henl]
          congr 1
          split
          · rw [app_list, q2]
          · exact q2
        · rw [hbs]
          split
          · rw [Lib.size_eq, q2]
          · exact q3
      have hz1 : (s ++ en).size = s.size + en.size := ByteArray.size_append
      have hz2 : (t ++ en).size = t.size + en.size := ByteArray.size_append
      have hz3 : (t ++ { data := #[255] }).size = t.size + 1 := ByteArray.size_append
      have hz4 : (t ++ { data := #[255] } ++ en).size = t.size + 1 + en.size := by rw [ByteArray.size_append, hz3]
      have HE := Lib.hid hE
      generalize l[k] = r at *
      clear hE hst hbs has q1 q2 q3 hh hen henl
      by_cases h : k = a
      · rw [if_pos h, if_pos h] at HQ
        subst h
        go_wp2_with (go_at_call 10; refine (HE.out _).mono ?_; rintro e w ⟨rfl, rfl⟩)
        refine ⟨⟨k + 1, _, _, _, rfl, rfl, rfl, rfl, by omega, by omega, by omega, HQ⟩, by simp only [intOf]; omega⟩
      · rw [if_neg h, if_neg h] at HQ
        go_wp2_with (go_at_call 10; refine (HE.out _).mono ?_; rintro e w ⟨rfl, rfl⟩)
        refine ⟨⟨k + 1, _, _, _, rfl, rfl, rfl, rfl, by omega, by omega, by omega, HQ⟩, by simp only [intOf]; omega⟩
    · have hkk : k = l.length := by omega
      subst hkk
      obtain ⟨q1, q2, q3⟩ := hh.out
      have hB := bad_all l a
      have hbs := bad_L s
      have hbt := bad_L t
      rw [q1, List.take_length, hB.1] at hbs
      rw [q2, hB.2, ← q3] at hbt
      have hBS := fun w hw => bad_ok s w (by omega) (Laid.tabs hw)
      have hBT := fun w hw => bad_ok t w (by omega) (Laid.tabs hw)
      rw [hbs] at hBS
      rw [hbt] at hBT
      have HBS := Lib.hid hBS
      have HBT := Lib.hid hBT
      clear hBS hBT hB hbs hbt q1 q2 q3 hh
      go_wp2_with fail
      refine (HBS.out _ HW.out).mono ?_
      rintro e w1 ⟨rfl, hb1⟩
      have HW1 := Lib.hid (HW.out.below hb1)
      go_wp2_with fail
      refine (HBT.out _ HW1.out).mono ?_
      rintro e w2 ⟨rfl, hb2⟩
      go_wp2_with fail
      refine (HLV.out _ (HW1.out.below hb2)).mono ?_
      rintro e w3 ⟨rfl, hb3⟩
      go_wp2_with fail
      go_ret
      exact ⟨rfl, (hb1.trans (hb2.mono hb1.size)).trans (hb3.mono (Nat.le_trans hb1.size hb2.size))⟩
end Go.Proofs.YtajfhlnckjnboaaDoor
