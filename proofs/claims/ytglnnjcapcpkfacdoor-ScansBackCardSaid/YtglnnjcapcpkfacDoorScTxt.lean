/- runes.Text: what it answers. -/
import Derived.Test.YtglnnjcapcpkfacDoorScCon
import Derived.Test.YtglnnjcapcpkfacDoorScFm
import Derived.Test.YtglnnjcapcpkfacDoorScTx
namespace Go.Proofs.YtglnnjcapcpkfacDoor
open Go.RowKit

theorem indexByte_not : ∀ (l : List UInt8) (c : UInt8), (∀ b ∈ l, b ≠ c) → Lib.indexByte l c = -1
  | [], _, _ => rfl
  | b :: l, c, h => by
    have h1 : (b == c) = false := beq_eq_false_iff_ne.2 (h b (by simp))
    rw [Lib.indexByte, h1, indexByte_not l c fun x hx => h x (by simp [hx])]
    rfl
theorem toNat_u8 (r : Int) (h0 : 0 ≤ r) (h1 : r < 128) : ((r.toNat.toUInt8).toNat : Int) = r := by
  have : r.toNat.toUInt8.toNat = r.toNat := by simp; omega
  omega
theorem new_not (r : Int) (h0 : 0 ≤ r) (h1 : r < 128) (hn : r ≠ 10 ∧ r ≠ 13 ∧ r ≠ 9) : decide (0 ≤ Lib.indexByte (({ data := #[10, 13, 9] } : ByteArray).data.toList) r.toNat.toUInt8) = false := by
  rw [indexByte_not _ _ fun b hb e => ?_]
  · rfl
  · have he := toNat_u8 r h0 h1
    rw [← e] at he
    have hb' : b = 10 ∨ b = 13 ∨ b = 9 := by simpa using hb
    rcases hb' with rfl | rfl | rfl <;> simp at he <;> omega
theorem plain_not (r : Int) (h0 : 0 ≤ r) (h1 : r < 128) (hn : ¬ (r = 92 ∨ r = 39 ∨ r = 93 ∨ r = 91 ∨ r = 45)) : decide (0 ≤ Lib.indexByte (({ data := #[92, 39, 93, 91, 45] } : ByteArray).data.toList) r.toNat.toUInt8) = false := by
  rw [indexByte_not _ _ fun b hb e => ?_]
  · rfl
  · have he := toNat_u8 r h0 h1
    rw [← e] at he
    have hb' : b = 92 ∨ b = 39 ∨ b = 93 ∨ b = 91 ∨ b = 45 := by simpa using hb
    rcases hb' with rfl | rfl | rfl | rfl | rfl <;> simp at he <;> omega

def TextIs (r : Int) (W : World) (e : Ending) (W' : World) : Prop := e = .returned (.string ⟨(textL r).toArray⟩) ∧ Below W.heap.size W W'

theorem hex_join (l : List UInt8) : ({ data := #[92, 117, 123] } : ByteArray) ++ { data := l.toArray } ++ { data := #[125] } = { data := ([92, 117, 123] ++ l ++ [125]).toArray } := by
  apply ByteArray.ext
  simp [ByteArray.data_append]

set_option maxHeartbeats 2000000 in
set_option maxRecDepth 20000 in
theorem text_10 (W : World) : Calls Tryd.prog 15 #[.int .i32 10] W fun e W' => TextIs 10 W e W' := by
  have hv : ∀ w, Calls Tryd.prog 27 #[.int .i32 10] w fun e w' => e = .returned (.bool true) ∧ w' = w := fun w => Tryd.utf8_ValidRune 10 w
  have HV := Lib.hid hv
  clear hv
  have hc : ∀ w, Calls Tryd.prog 28 #[.string { data := #[10, 13, 9] }, .int .i32 10] w fun e w' => e = .returned (.bool true) ∧ w' = w := fun w => Tryd.strings_ContainsRune_ascii { data := #[10, 13, 9] } 10 w (by omega) (by omega)
  have HC := Lib.hid hc
  clear hc
  have hi : ∀ w, Calls Tryd.prog 29 #[.string { data := #[10, 13, 9] }, .int .i32 10] w fun e w' => e = .returned (.int .i64 0) ∧ w' = w := fun w => Tryd.strings_IndexRune_ascii { data := #[10, 13, 9] } 10 w (by omega) (by omega)
  have HI := Lib.hid hi
  clear hi
  have hx : ∀ h : 0 < ByteArray.size { data := #[110, 114, 116] }, ({ data := #[110, 114, 116] } : ByteArray)[0]'h = 110 := fun _ => rfl
  go_enter Tryd.func15, Tryd.ntmps15
  go_wp2_with first | (go_at_call 27; refine (HV.out _).mono ?_; rintro e w ⟨rfl, rfl⟩) | (go_at_call 28; refine (HC.out _).mono ?_; rintro e w ⟨rfl, rfl⟩) | (go_at_call 29; refine (HI.out _).mono ?_; rintro e w ⟨rfl, rfl⟩)
  go_ret
  exact ⟨by first | rfl | kernel_rfl, Below.refl _ _⟩
set_option maxHeartbeats 2000000 in
set_option maxRecDepth 20000 in
theorem text_13 (W : World) : Calls Tryd.prog 15 #[.int .i32 13] W fun e W' => TextIs 13 W e W' := by
  have hv : ∀ w, Calls Tryd.prog 27 #[.int .i32 13] w fun e w' => e = .returned (.bool true) ∧ w' = w := fun w => Tryd.utf8_ValidRune 13 w
  have HV := Lib.hid hv
  clear hv
  have hc : ∀ w, Calls Tryd.prog 28 #[.string { data := #[10, 13, 9] }, .int .i32 13] w fun e w' => e = .returned (.bool true) ∧ w' = w := fun w => Tryd.strings_ContainsRune_ascii { data := #[10, 13, 9] } 13 w (by omega) (by omega)
  have HC := Lib.hid hc
  clear hc
  have hi : ∀ w, Calls Tryd.prog 29 #[.string { data := #[10, 13, 9] }, .int .i32 13] w fun e w' => e = .returned (.int .i64 1) ∧ w' = w := fun w => Tryd.strings_IndexRune_ascii { data := #[10, 13, 9] } 13 w (by omega) (by omega)
  have HI := Lib.hid hi
  clear hi
  have hx : ∀ h : 1 < ByteArray.size { data := #[110, 114, 116] }, ({ data := #[110, 114, 116] } : ByteArray)[1]'h = 114 := fun _ => rfl
  go_enter Tryd.func15, Tryd.ntmps15
  go_wp2_with first | (go_at_call 27; refine (HV.out _).mono ?_; rintro e w ⟨rfl, rfl⟩) | (go_at_call 28; refine (HC.out _).mono ?_; rintro e w ⟨rfl, rfl⟩) | (go_at_call 29; refine (HI.out _).mono ?_; rintro e w ⟨rfl, rfl⟩)
  go_ret
  exact ⟨by first | rfl | kernel_rfl, Below.refl _ _⟩
set_option maxHeartbeats 2000000 in
set_option maxRecDepth 20000 in
theorem text_9 (W : World) : Calls Tryd.prog 15 #[.int .i32 9] W fun e W' => TextIs 9 W e W' := by
  have hv : ∀ w, Calls Tryd.prog 27 #[.int .i32 9] w fun e w' => e = .returned (.bool true) ∧ w' = w := fun w => Tryd.utf8_ValidRune 9 w
  have HV := Lib.hid hv
  clear hv
  have hc : ∀ w, Calls Tryd.prog 28 #[.string { data := #[10, 13, 9] }, .int .i32 9] w fun e w' => e = .returned (.bool true) ∧ w' = w := fun w => Tryd.strings_ContainsRune_ascii { data := #[10, 13, 9] } 9 w (by omega) (by omega)
  have HC := Lib.hid hc
  clear hc
  have hi : ∀ w, Calls Tryd.prog 29 #[.string { data := #[10, 13, 9] }, .int .i32 9] w fun e w' => e = .returned (.int .i64 2) ∧ w' = w := fun w => Tryd.strings_IndexRune_ascii { data := #[10, 13, 9] } 9 w (by omega) (by omega)
  have HI := Lib.hid hi
  clear hi
  have hx : ∀ h : 2 < ByteArray.size { data := #[110, 114, 116] }, ({ data := #[110, 114, 116] } : ByteArray)[2]'h = 116 := fun _ => rfl
  go_enter Tryd.func15, Tryd.ntmps15
  go_wp2_with first | (go_at_call 27; refine (HV.out _).mono ?_; rintro e w ⟨rfl, rfl⟩) | (go_at_call 28; refine (HC.out _).mono ?_; rintro e w ⟨rfl, rfl⟩) | (go_at_call 29; refine (HI.out _).mono ?_; rintro e w ⟨rfl, rfl⟩)
  go_ret
  exact ⟨by first | rfl | kernel_rfl, Below.refl _ _⟩
set_option maxHeartbeats 2000000 in
set_option maxRecDepth 20000 in
theorem text_92 (W : World) : Calls Tryd.prog 15 #[.int .i32 92] W fun e W' => TextIs 92 W e W' := by
  have hv : ∀ w, Calls Tryd.prog 27 #[.int .i32 92] w fun e w' => e = .returned (.bool true) ∧ w' = w := fun w => Tryd.utf8_ValidRune 92 w
  have HV := Lib.hid hv
  clear hv
  have hc : ∀ w, Calls Tryd.prog 28 #[.string { data := #[10, 13, 9] }, .int .i32 92] w fun e w' => e = .returned (.bool false) ∧ w' = w := fun w => Tryd.strings_ContainsRune_ascii { data := #[10, 13, 9] } 92 w (by omega) (by omega)
  have HC := Lib.hid hc
  clear hc
  have hp : ∀ w, Calls Tryd.prog 28 #[.string { data := #[92, 39, 93, 91, 45] }, .int .i32 92] w fun e w' => e = .returned (.bool true) ∧ w' = w := fun w => Tryd.strings_ContainsRune_ascii { data := #[92, 39, 93, 91, 45] } 92 w (by omega) (by omega)
  have HP := Lib.hid hp
  clear hp
  go_enter Tryd.func15, Tryd.ntmps15
  go_wp2_with first | (go_at_call 27; refine (HV.out _).mono ?_; rintro e w ⟨rfl, rfl⟩) | (go_at_call 28; (first | refine (HC.out _).mono ?_ | refine (HP.out _).mono ?_); rintro e w ⟨rfl, rfl⟩)
  go_ret
  exact ⟨by first | rfl | kernel_rfl, Below.refl _ _⟩
set_option maxHeartbeats 2000000 in
set_option maxRecDepth 20000 in
theorem text_39 (W : World) : Calls Tryd.prog 15 #[.int .i32 39] W fun e W' => TextIs 39 W e W' := by
  have hv : ∀ w, Calls Tryd.prog 27 #[.int .i32 39] w fun e w' => e = .returned (.bool true) ∧ w' = w := fun w => Tryd.utf8_ValidRune 39 w
  have HV := Lib.hid hv
  clear hv
  have hc : ∀ w, Calls Tryd.prog 28 #[.string { data := #[10, 13, 9] }, .int .i32 39] w fun e w' => e = .returned (.bool false) ∧ w' = w := fun w => Tryd.strings_ContainsRune_ascii { data := #[10, 13, 9] } 39 w (by omega) (by omega)
  have HC := Lib.hid hc
  clear hc
  have hp : ∀ w, Calls Tryd.prog 28 #[.string { data := #[92, 39, 93, 91, 45] }, .int .i32 39] w fun e w' => e = .returned (.bool true) ∧ w' = w := fun w => Tryd.strings_ContainsRune_ascii { data := #[92, 39, 93, 91, 45] } 39 w (by omega) (by omega)
  have HP := Lib.hid hp
  clear hp
  go_enter Tryd.func15, Tryd.ntmps15
  go_wp2_with first | (go_at_call 27; refine (HV.out _).mono ?_; rintro e w ⟨rfl, rfl⟩) | (go_at_call 28; (first | refine (HC.out _).mono ?_ | refine (HP.out _).mono ?_); rintro e w ⟨rfl, rfl⟩)
  go_ret
  exact ⟨by first | rfl | kernel_rfl, Below.refl _ _⟩
set_option maxHeartbeats 2000000 in
set_option maxRecDepth 20000 in
theorem text_93 (W : World) : Calls Tryd.prog 15 #[.int .i32 93] W fun e W' => TextIs 93 W e W' := by
  have hv : ∀ w, Calls Tryd.prog 27 #[.int .i32 93] w fun e w' => e = .returned (.bool true) ∧ w' = w := fun w => Tryd.utf8_ValidRune 93 w
  have HV := Lib.hid hv
  clear hv
  have hc : ∀ w, Calls Tryd.prog 28 #[.string { data := #[10, 13, 9] }, .int .i32 93] w fun e w' => e = .returned (.bool false) ∧ w' = w := fun w => Tryd.strings_ContainsRune_ascii { data := #[10, 13, 9] } 93 w (by omega) (by omega)
  have HC := Lib.hid hc
  clear hc
  have hp : ∀ w, Calls Tryd.prog 28 #[.string { data := #[92, 39, 93, 91, 45] }, .int .i32 93] w fun e w' => e = .returned (.bool true) ∧ w' = w := fun w => Tryd.strings_ContainsRune_ascii { data := #[92, 39, 93, 91, 45] } 93 w (by omega) (by omega)
  have HP := Lib.hid hp
  clear hp
  go_enter Tryd.func15, Tryd.ntmps15
  go_wp2_with first | (go_at_call 27; refine (HV.out _).mono ?_; rintro e w ⟨rfl, rfl⟩) | (go_at_call 28; (first | refine (HC.out _).mono ?_ | refine (HP.out _).mono ?_); rintro e w ⟨rfl, rfl⟩)
  go_ret
  exact ⟨by first | rfl | kernel_rfl, Below.refl _ _⟩
set_option maxHeartbeats 2000000 in
set_option maxRecDepth 20000 in
theorem text_91 (W : World) : Calls Tryd.prog 15 #[.int .i32 91] W fun e W' => TextIs 91 W e W' := by
  have hv : ∀ w, Calls Tryd.prog 27 #[.int .i32 91] w fun e w' => e = .returned (.bool true) ∧ w' = w := fun w => Tryd.utf8_ValidRune 91 w
  have HV := Lib.hid hv
  clear hv
  have hc : ∀ w, Calls Tryd.prog 28 #[.string { data := #[10, 13, 9] }, .int .i32 91] w fun e w' => e = .returned (.bool false) ∧ w' = w := fun w => Tryd.strings_ContainsRune_ascii { data := #[10, 13, 9] } 91 w (by omega) (by omega)
  have HC := Lib.hid hc
  clear hc
  have hp : ∀ w, Calls Tryd.prog 28 #[.string { data := #[92, 39, 93, 91, 45] }, .int .i32 91] w fun e w' => e = .returned (.bool true) ∧ w' = w := fun w => Tryd.strings_ContainsRune_ascii { data := #[92, 39, 93, 91, 45] } 91 w (by omega) (by omega)
  have HP := Lib.hid hp
  clear hp
  go_enter Tryd.func15, Tryd.ntmps15
  go_wp2_with first | (go_at_call 27; refine (HV.out _).mono ?_; rintro e w ⟨rfl, rfl⟩) | (go_at_call 28; (first | refine (HC.out _).mono ?_ | refine (HP.out _).mono ?_); rintro e w ⟨rfl, rfl⟩)
  go_ret
  exact ⟨by first | rfl | kernel_rfl, Below.refl _ _⟩
set_option maxHeartbeats 2000000 in
set_option maxRecDepth 20000 in
theorem text_45 (W : World) : Calls Tryd.prog 15 #[.int .i32 45] W fun e W' => TextIs 45 W e W' := by
  have hv : ∀ w, Calls Tryd.prog 27 #[.int .i32 45] w fun e w' => e = .returned (.bool true) ∧ w' = w := fun w => Tryd.utf8_ValidRune 45 w
  have HV := Lib.hid hv
  clear hv
  have hc : ∀ w, Calls Tryd.prog 28 #[.string { data := #[10, 13, 9] }, .int .i32 45] w fun e w' => e = .returned (.bool false) ∧ w' = w := fun w => Tryd.strings_ContainsRune_ascii { data := #[10, 13, 9] } 45 w (by omega) (by omega)
  have HC := Lib.hid hc
  clear hc
  have hp : ∀ w, Calls Tryd.prog 28 #[.string { data := #[92, 39, 93, 91, 45] }, .int .i32 45] w fun e w' => e = .returned (.bool true) ∧ w' = w := fun w => Tryd.strings_ContainsRune_ascii { data := #[92, 39, 93, 91, 45] } 45 w (by omega) (by omega)
  have HP := Lib.hid hp
  clear hp
  go_enter Tryd.func15, Tryd.ntmps15
  go_wp2_with first | (go_at_call 27; refine (HV.out _).mono ?_; rintro e w ⟨rfl, rfl⟩) | (go_at_call 28; (first | refine (HC.out _).mono ?_ | refine (HP.out _).mono ?_); rintro e w ⟨rfl, rfl⟩)
  go_ret
  exact ⟨by first | rfl | kernel_rfl, Below.refl _ _⟩

set_option maxHeartbeats 4000000 in
set_option maxRecDepth 20000 in
theorem rtext_ok (r : Int) (W : World) (hW : LaidB W) : Calls Tryd.prog 15 #[.int .i32 r] W fun e W' => TextIs r W e W' := by
  by_cases hs : r = 10 ∨ r = 13 ∨ r = 9 ∨ r = 92 ∨ r = 39 ∨ r = 93 ∨ r = 91 ∨ r = 45
  · rcases hs with rfl | rfl | rfl | rfl | rfl | rfl | rfl | rfl
    · exact text_10 W
    · exact text_13 W
    · exact text_9 W
    · exact text_92 W
    · exact text_39 W
    · exact text_93 W
    · exact text_91 W
    · exact text_45 W
  have hV := fun w => Tryd.utf8_ValidRune r w
  unfold TextIs
  cases hv : Lib.validRune r
  · rw [hv] at hV
    have ht : textL r = [] := by
      unfold textL
      rw [if_pos hv]
    rw [ht]
    have HV := Lib.hid hV
    clear hV hv ht hs hW
    go_enter Tryd.func15, Tryd.ntmps15
    go_wp2_with (go_at_call 27; refine (HV.out _).mono ?_; rintro e w ⟨rfl, rfl⟩)
    go_ret
    exact ⟨rfl, Below.refl _ _⟩
  rw [hv] at hV
  have hvv : (0 ≤ r ∧ r < 0xD800) ∨ (0xDFFF < r ∧ r ≤ 0x10FFFF) := of_decide_eq_true hv
  have hr0 : 0 ≤ r := by omega
  have hr1 : r ≤ 1114111 := by omega
  have hC : ∀ w, Calls Tryd.prog 28 #[.string { data := #[10, 13, 9] }, .int .i32 r] w fun e w' => e = .returned (.bool false) ∧ Below w.heap.size w w' := by
    intro w
    by_cases h128 : r < 128
    · have := Tryd.strings_ContainsRune_ascii { data := #[10, 13, 9] } r w hr0 h128
      rw [new_not r hr0 h128 (by omega)] at this
      exact this.mono fun e w' ⟨h1, h2⟩ => ⟨h1, h2 ▸ Below.refl _ _⟩
    · exact containsRune_none _ r w (by decide) (by decide) (by omega) hv
  have hP : ∀ w, Calls Tryd.prog 28 #[.string { data := #[92, 39, 93, 91, 45] }, .int .i32 r] w fun e w' => e = .returned (.bool false) ∧ Below w.heap.size w w' := by
    intro w
    by_cases h128 : r < 128
    · have := Tryd.strings_ContainsRune_ascii { data := #[92, 39, 93, 91, 45] } r w hr0 h128
      rw [plain_not r hr0 h128 (by omega)] at this
      exact this.mono fun e w' ⟨h1, h2⟩ => ⟨h1, h2 ▸ Below.refl _ _⟩
    · exact containsRune_none _ r w (by decide) (by decide) (by omega) hv
  by_cases hin : 32 ≤ r ∧ r ≤ 126
  · have ht : Utf8.encode r = ⟨(textL r).toArray⟩ := by
      unfold textL
      rw [if_neg (by rw [hv]; decide), if_neg (by omega), if_neg (by omega), if_neg (by omega), if_neg (by omega), if_pos hin]
      have hu : Utf8.valid r = true := by
        unfold Utf8.valid
        simp only [Bool.or_eq_true, Bool.and_eq_true, decide_eq_true_eq]
        omega
      unfold Utf8.encode
      simp only [hu, if_true]
      rw [if_pos (by omega)]
    generalize textL r = tl at *
    obtain ⟨hn1, hn2⟩ := hin
    have HV := Lib.hid hV
    have HC := Lib.hid hC
    have HP := Lib.hid hP
    clear hV hv hs hW hC hP hvv
    go_enter Tryd.func15, Tryd.ntmps15
    go_wp2_with first | (go_at_call 27; refine (HV.out _).mono ?_; rintro e w ⟨rfl, rfl⟩) | (go_at_call 28; (first | (refine (HC.out _).mono ?_; rintro e wC ⟨rfl, hbC⟩) | (refine (HP.out _).mono ?_; rintro e wP ⟨rfl, hbP⟩)))
    go_ret
    exact ⟨rfl, hbC.trans (hbP.mono hbC.size)⟩
  · have ht : textL r = [92, 117, 123] ++ hexL r.toNat ++ [125] := by
      unfold textL
      rw [if_neg (by rw [hv]; decide), if_neg (by omega), if_neg (by omega), if_neg (by omega), if_neg (by omega), if_neg hin]
    rw [ht, ← hex_join]
    have hF : ∀ w, LaidB w → Calls Tryd.prog 30 #[.int .i64 r, .int .i64 16] w fun e W' => e = .returned (.string ⟨(hexL r.toNat).toArray⟩) ∧ Below w.heap.size w W' := by
      intro w hw
      have := fmt_ok r.toNat (by omega) w hw.brui
      rw [show ((r.toNat : Nat) : Int) = r by omega] at this
      exact this
    have HF := Lib.hid hF
    have hlen := (hexL_len r.toNat).2
    have hsz : ({ data := (hexL r.toNat).toArray } : ByteArray).size ≤ 6 := by
      show (hexL r.toNat).toArray.size ≤ 6
      simpa using hlen
    generalize ({ data := (hexL r.toNat).toArray } : ByteArray) = hx at *
    have HV := Lib.hid hV
    have HC := Lib.hid hC
    have HP := Lib.hid hP
    have HW := Lib.hid hW
    have hno : 32 ≤ r → ¬ r ≤ 126 := fun a b => hin ⟨a, b⟩
    clear hV hv hs hW hC hP hvv hF ht hin hlen
    by_cases h32 : 32 ≤ r
    · have hn2 := hno h32
      clear hno
      go_enter Tryd.func15, Tryd.ntmps15
      go_wp2_with first | (go_at_call 27; refine (HV.out _).mono ?_; rintro e w ⟨rfl, rfl⟩) | (go_at_call 28; (first | (refine (HC.out _).mono ?_; rintro e wC ⟨rfl, hbC⟩) | (refine (HP.out _).mono ?_; rintro e wP ⟨rfl, hbP⟩))) | (go_at_call 30; refine (HF.out _ ((HW.out.below hbC).below hbP)).mono ?_; rintro e wF ⟨rfl, hbF⟩)
      go_ret
      exact ⟨rfl, (hbC.trans (hbP.mono hbC.size)).trans (hbF.mono (by have := hbC.size; have := hbP.size; omega))⟩
    · clear hno
      go_enter Tryd.func15, Tryd.ntmps15
      go_wp2_with first | (go_at_call 27; refine (HV.out _).mono ?_; rintro e w ⟨rfl, rfl⟩) | (go_at_call 28; (first | (refine (HC.out _).mono ?_; rintro e wC ⟨rfl, hbC⟩) | (refine (HP.out _).mono ?_; rintro e wP ⟨rfl, hbP⟩))) | (go_at_call 30; refine (HF.out _ ((HW.out.below hbC).below hbP)).mono ?_; rintro e wF ⟨rfl, hbF⟩)
      go_ret
      exact ⟨rfl, (hbC.trans (hbP.mono hbC.size)).trans (hbF.mono (by have := hbC.size; have := hbP.size; omega))⟩
end Go.Proofs.YtglnnjcapcpkfacDoor
