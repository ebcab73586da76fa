/- The document's own text of one number; RunesOne's walk. -/
import Derived.Test.YtajfhlnckjnboaaDoorRuO1
namespace Go.Proofs.YtajfhlnckjnboaaDoor
open Go.RowKit

theorem refOwn_ok (c : Int) (W : World) : Calls Tryd.prog 22 #[.int .u8 c] W fun e W' => e = .returned (.bool (decide (c = 92 ∨ c = 39 ∨ c = 93 ∨ c = 91 ∨ c = 45))) ∧ W' = W := by
  by_cases h1 : c = 92
  · subst h1
    go_enter Tryd.func22, Tryd.ntmps22
    go_wp2
    go_ret
    exact ⟨rfl, rfl⟩
  by_cases h2 : c = 39
  · subst h2
    go_enter Tryd.func22, Tryd.ntmps22
    go_wp2
    go_ret
    exact ⟨rfl, rfl⟩
  by_cases h3 : c = 93
  · subst h3
    go_enter Tryd.func22, Tryd.ntmps22
    go_wp2
    go_ret
    exact ⟨rfl, rfl⟩
  by_cases h4 : c = 91
  · subst h4
    go_enter Tryd.func22, Tryd.ntmps22
    go_wp2
    go_ret
    exact ⟨rfl, rfl⟩
  by_cases h5 : c = 45
  · subst h5
    go_enter Tryd.func22, Tryd.ntmps22
    go_wp2
    go_ret
    exact ⟨rfl, rfl⟩
  rw [decide_eq_false (show ¬ (c = 92 ∨ c = 39 ∨ c = 93 ∨ c = 91 ∨ c = 45) by omega)]
  go_enter Tryd.func22, Tryd.ntmps22
  go_wp2
  go_ret
  refine ⟨?_, rfl⟩
  show Ending.returned (.bool (c == 92 || c == 39 || c == 93 || c == 91 || c == 45)) = _
  rw [beq_eq_false_iff_ne.2 h1, beq_eq_false_iff_ne.2 h2, beq_eq_false_iff_ne.2 h3, beq_eq_false_iff_ne.2 h4, beq_eq_false_iff_ne.2 h5]
  rfl

def RefTextIs (r : Int) (W : World) : Prop := Calls Tryd.prog 13 #[.int .i32 r] W fun e W' => e = .returned (.string ⟨(textL r).toArray⟩) ∧ Below W.heap.size W W'

set_option maxHeartbeats 4000000 in
set_option maxRecDepth 20000 in
theorem refText_three (r : Int) (W : World) (h : r = 10 ∨ r = 13 ∨ r = 9) : RefTextIs r W := by
  unfold RefTextIs
  have hv : Lib.validRune r = true := decide_eq_true (by omega)
  have hI := fun w => refIs_ok r w
  rw [hv] at hI
  have HI := Lib.hid hI
  clear hI hv
  rcases h with rfl | rfl | rfl
  · rw [show textL 10 = [92, 110] from by decide +kernel]
    go_enter Tryd.func13, Tryd.ntmps13
    go_wp2_with fail
    refine (HI.out _).mono ?_
    rintro e w ⟨rfl, rfl⟩
    go_wp2_with fail
    go_ret
    exact ⟨rfl, Below.refl _ _⟩
  · rw [show textL 13 = [92, 114] from by decide +kernel]
    go_enter Tryd.func13, Tryd.ntmps13
    go_wp2_with fail
    refine (HI.out _).mono ?_
    rintro e w ⟨rfl, rfl⟩
    go_wp2_with fail
    go_ret
    exact ⟨rfl, Below.refl _ _⟩
  · rw [show textL 9 = [92, 116] from by decide +kernel]
    go_enter Tryd.func13, Tryd.ntmps13
    go_wp2_with fail
    refine (HI.out _).mono ?_
    rintro e w ⟨rfl, rfl⟩
    go_wp2_with fail
    go_ret
    exact ⟨rfl, Below.refl _ _⟩

set_option maxHeartbeats 4000000 in
set_option maxRecDepth 20000 in
theorem refText_ok (r : Int) (W : World) : RefTextIs r W := by
  by_cases h3 : r = 10 ∨ r = 13 ∨ r = 9
  · exact refText_three r W h3
  unfold RefTextIs
  have hI := fun w => refIs_ok r w
  have hE := fun w => refEncode_ok r w
  cases hv : Lib.validRune r
  · rw [hv] at hI
    rw [textL_none r hv]
    have HI := Lib.hid hI
    clear hI hE hv
    go_enter Tryd.func13, Tryd.ntmps13
    go_wp2_with fail
    refine (HI.out _).mono ?_
    rintro e w ⟨rfl, rfl⟩
    go_wp2_with fail
    go_ret
    exact ⟨rfl, Below.refl _ _⟩
  rw [hv] at hI
  have hr := valid_range r hv
  have n1 : r ≠ 10 := fun h => h3 (.inl h)
  have n2 : r ≠ 13 := fun h => h3 (.inr (.inl h))
  have n3 : r ≠ 9 := fun h => h3 (.inr (.inr h))
  have hO := fun w => refOwn_ok r w
  have ht : textL r = if r = 92 ∨ r = 39 ∨ r = 93 ∨ r = 91 ∨ r = 45 then [92, UInt8.ofNat r.toNat] else if 32 ≤ r ∧ r ≤ 126 then [UInt8.ofNat r.toNat] else [92, 117, 123] ++ hexL r.toNat ++ [125] := by
    unfold textL
    rw [if_neg (by rw [hv]; decide), if_neg n1, if_neg n2, if_neg n3]
  obtain ⟨eb, heb⟩ : ∃ eb : ByteArray, eb = ⟨(bytesOf r).toArray⟩ := ⟨_, rfl⟩
  have hbl := bytesOf_len r
  have hbz : eb.size ≤ 4 := by rw [heb, Lib.size_eq]; exact hbl
  have hb1 : r < 128 → bytesOf r = [UInt8.ofNat r.toNat] := fun h => by
    rcases bytesOf_shape r hv with ⟨_, e⟩ | ⟨_, _, e⟩ | ⟨_, _, e⟩ | ⟨_, e⟩
    · exact e
    all_goals omega
  rw [← heb] at hE
  have hJ : ({ data := #[92] } : ByteArray) ++ eb = ⟨(92 :: bytesOf r).toArray⟩ := by
    rw [heb]
    apply ByteArray.ext
    simp [ByteArray.data_append]
  have hH := fun w => refHex_ok 6 r.toNat w (by omega) (by omega) (by omega) (by omega)
  rw [show ((r.toNat : Nat) : Int) = r by omega] at hH
  obtain ⟨hx, hhx⟩ : ∃ hx : ByteArray, hx = ⟨(hexF 6 r.toNat).toArray⟩ := ⟨_, rfl⟩
  have hjx := hex_join (hexF 6 r.toNat)
  have hxz : hx.size ≤ 6 := by
    rw [hhx, Lib.size_eq]
    exact (hexL_len r.toNat).2
  rw [← hhx] at hH hjx
  by_cases hp : r = 92 ∨ r = 39 ∨ r = 93 ∨ r = 91 ∨ r = 45
  · have hlt : r < 128 := by omega
    rw [ht, if_pos hp, ← hb1 hlt, ← hJ]
    rw [decide_eq_true hp] at hO
    have HI := Lib.hid hI
    have HO := Lib.hid hO
    have HE := Lib.hid hE
    clear hI hE hO hH ht hb1 hJ heb hhx hjx hv h3 hp hbl
    go_enter Tryd.func13, Tryd.ntmps13
    go_wp2_with fail
    refine (HI.out _).mono ?_
    rintro e w ⟨rfl, rfl⟩
    go_wp2_with fail
    refine (HO.out _).mono ?_
    rintro e w2 ⟨rfl, rfl⟩
    go_wp2_with fail
    refine (HE.out _).mono ?_
    rintro e w3 ⟨rfl, hb3⟩
    go_wp2_with fail
    go_ret
    exact ⟨rfl, hb3⟩
  rw [decide_eq_false hp] at hO
  rw [if_neg hp] at ht
  by_cases hin : 32 ≤ r ∧ r ≤ 126
  · have hlt : r < 128 := by omega
    obtain ⟨i1, i2⟩ := hin
    rw [ht, if_pos ⟨i1, i2⟩, ← hb1 hlt, ← heb]
    have HI := Lib.hid hI
    have HO := Lib.hid hO
    have HE := Lib.hid hE
    clear hI hE hO hH ht hb1 hJ heb hhx hjx hv h3 hp hbl
    go_enter Tryd.func13, Tryd.ntmps13
    go_wp2_with fail
    refine (HI.out _).mono ?_
    rintro e w ⟨rfl, rfl⟩
    go_wp2_with fail
    refine (HO.out _).mono ?_
    rintro e w2 ⟨rfl, rfl⟩
    go_wp2_with fail
    refine (HE.out _).mono ?_
    rintro e w3 ⟨rfl, hb3⟩
    go_wp2_with fail
    go_ret
    exact ⟨rfl, hb3⟩
  rw [ht, if_neg hin, show hexL r.toNat = hexF 6 r.toNat from rfl, ← hjx]
  have hno : 32 ≤ r → ¬ r ≤ 126 := fun a b => hin ⟨a, b⟩
  have HI := Lib.hid hI
  have HO := Lib.hid hO
  have HH := Lib.hid hH
  clear hI hE hO hH ht hb1 hJ heb hhx hjx hv h3 hp hbl hin
  by_cases hlt : r < 128
  · by_cases h32 : 32 ≤ r
    · have h126 := hno h32
      clear hno
      go_enter Tryd.func13, Tryd.ntmps13
      go_wp2_with fail
      refine (HI.out _).mono ?_
      rintro e w ⟨rfl, rfl⟩
      go_wp2_with fail
      refine (HO.out _).mono ?_
      rintro e w2 ⟨rfl, rfl⟩
      go_wp2_with fail
      refine (HH.out _).mono ?_
      rintro e w3 ⟨rfl, hb3⟩
      go_wp2_with fail
      go_ret
      exact ⟨rfl, hb3⟩
    · clear hno
      go_enter Tryd.func13, Tryd.ntmps13
      go_wp2_with fail
      refine (HI.out _).mono ?_
      rintro e w ⟨rfl, rfl⟩
      go_wp2_with fail
      refine (HO.out _).mono ?_
      rintro e w2 ⟨rfl, rfl⟩
      go_wp2_with fail
      refine (HH.out _).mono ?_
      rintro e w3 ⟨rfl, hb3⟩
      go_wp2_with fail
      go_ret
      exact ⟨rfl, hb3⟩
  · have h126 : ¬ r ≤ 126 := by omega
    clear hno
    go_enter Tryd.func13, Tryd.ntmps13
    go_wp2_with fail
    refine (HI.out _).mono ?_
    rintro e w ⟨rfl, rfl⟩
    go_wp2_with fail
    refine (HH.out _).mono ?_
    rintro e w3 ⟨rfl, hb3⟩
    go_wp2_with fail
    go_ret
    exact ⟨rfl, hb3⟩

set_option maxHeartbeats 4000000 in
set_option maxRecDepth 20000 in
theorem one_ok (r : Int) (W : World) (hW : Laid W) : Calls Tryd.prog 4 #[.int .i32 r] W fun e W' => e = .returned (.bool true) ∧ Below W.heap.size W W' := by
  have hE := fun w => encode_ok r w
  have hR := fun w => refEncode_ok r w
  have hT := fun w hw => text_ok r w hw
  unfold TextIs at hT
  have hX := fun w => refText_ok r w
  unfold RefTextIs at hX
  have heq : (if Lib.validRune r then Utf8.encode r else { data := #[] }) = (⟨(bytesOf r).toArray⟩ : ByteArray) := by
    obtain ⟨en, hen, henl, _⟩ := encode_bytes r
    rw [hen]
    apply ByteArray.ext
    apply Array.toList_inj.1
    rw [henl]
  rw [heq] at hE
  generalize (⟨(bytesOf r).toArray⟩ : ByteArray) = eb at *
  generalize (⟨(textL r).toArray⟩ : ByteArray) = tb at *
  have HE := Lib.hid hE
  have HR := Lib.hid hR
  have HT := Lib.hid hT
  have HX := Lib.hid hX
  have HW := Lib.hid hW
  have HLV := Lib.hid lives_ok
  clear hE hR hT hX heq hW
  go_enter Tryd.func4, Tryd.ntmps4
  go_wp2_with fail
  refine (HE.out _).mono ?_
  rintro e w1 ⟨rfl, rfl⟩
  go_wp2_with fail
  refine (HR.out _).mono ?_
  rintro e w2 ⟨rfl, hb2⟩
  have HW2 := Lib.hid (HW.out.below hb2)
  go_wp2_with fail
  refine (HT.out _ HW2.out).mono ?_
  rintro e w3 ⟨rfl, hb3⟩
  have HW3 := Lib.hid (HW2.out.below hb3)
  go_wp2_with fail
  refine (HX.out _).mono ?_
  rintro e w4 ⟨rfl, hb4⟩
  have HW4 := Lib.hid (HW3.out.below hb4)
  go_wp2_with fail
  refine (HLV.out _ HW4.out).mono ?_
  rintro e w5 ⟨rfl, hb5⟩
  go_wp2_with fail
  go_ret
  exact ⟨rfl, ((hb2.trans (hb3.mono hb2.size)).trans (hb4.mono (Nat.le_trans hb2.size hb3.size))).trans (hb5.mono (Nat.le_trans (Nat.le_trans hb2.size hb3.size) hb4.size))⟩
end Go.Proofs.YtajfhlnckjnboaaDoor
