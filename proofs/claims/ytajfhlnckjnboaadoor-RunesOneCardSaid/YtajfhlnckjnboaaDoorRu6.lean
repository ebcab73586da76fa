/- An escape, where a rune's own text stands there. -/
import Derived.Test.YtajfhlnckjnboaaDoorRu5
namespace Go.Proofs.YtajfhlnckjnboaaDoor
open Go.RowKit

theorem ext_list (s : ByteArray) (k : Nat) : (s.extract k s.size).data.toList = s.data.toList.drop k := by
  rw [Lib.extract_data, List.take_of_length_le (by rw [List.length_drop, ← Lib.size_eq]; omega)]
theorem get_list (s : ByteArray) (k : Nat) (c : UInt8) (l : List UInt8) (h : s.data.toList.drop k = c :: l) : k < s.size ∧ ∀ hk : k < s.size, s[k]'hk = c := by
  have hlt : k < s.data.toList.length := by
    apply Classical.byContradiction
    intro hn
    rw [List.drop_eq_nil_of_le (by omega)] at h
    exact absurd h (by simp)
  refine ⟨by rw [Lib.size_eq]; exact hlt, fun hk => ?_⟩
  have := List.drop_eq_getElem_cons hlt
  rw [h] at this
  have e := (List.cons.inj this).1
  rw [e]
  rfl

set_option maxHeartbeats 8000000 in
set_option maxRecDepth 20000 in
theorem escape2_ok (s : ByteArray) (k : Nat) (c : UInt8) (r : Nat) (l : List UInt8) (hl : s.data.toList.drop k = 92 :: c :: l) (hs : s.size < 4294967281) (W : World)
    (hc : (c = 110 ∧ r = 10) ∨ (c = 114 ∧ r = 13) ∨ (c = 116 ∧ r = 9) ∨ (c = 92 ∧ r = 92) ∨ (c = 39 ∧ r = 39) ∨ (c = 93 ∧ r = 93) ∨ (c = 91 ∧ r = 91) ∨ (c = 45 ∧ r = 45)) :
    Calls Tryd.prog 15 #[.string s, .int .i64 k] W fun e W' => e = .returned (.tuple #[.int .i32 r, .int .i64 2, .bool true]) ∧ W' = W := by
  have h0 := get_list s k _ _ hl
  have h1 := get_list s (k + 1) c l (by rw [← List.drop_drop, hl]; rfl)
  obtain ⟨hk0, hv0⟩ := h0
  obtain ⟨hk1, hv1⟩ := h1
  clear hl
  rcases hc with ⟨rfl, rfl⟩ | ⟨rfl, rfl⟩ | ⟨rfl, rfl⟩ | ⟨rfl, rfl⟩ | ⟨rfl, rfl⟩ | ⟨rfl, rfl⟩ | ⟨rfl, rfl⟩ | ⟨rfl, rfl⟩
  · have hI1 : ∀ w, Calls Tryd.prog 25 #[.string { data := #[110, 114, 116] }, .int .u8 110] w fun e w' => e = .returned (.int .i64 (0)) ∧ w' = w := fun w => Tryd.strings_IndexByte { data := #[110, 114, 116] } 110 w
    have HI1 := Lib.hid hI1
    clear hI1
    go_enter Tryd.func15, Tryd.ntmps15
    go_wp2_with (go_at_call 25; (refine (HI1.out _).mono ?_); rintro e w ⟨rfl, rfl⟩)
    go_ret3
    exact ⟨by first | rfl | kernel_rfl, rfl⟩
  · have hI1 : ∀ w, Calls Tryd.prog 25 #[.string { data := #[110, 114, 116] }, .int .u8 114] w fun e w' => e = .returned (.int .i64 (1)) ∧ w' = w := fun w => Tryd.strings_IndexByte { data := #[110, 114, 116] } 114 w
    have HI1 := Lib.hid hI1
    clear hI1
    go_enter Tryd.func15, Tryd.ntmps15
    go_wp2_with (go_at_call 25; (refine (HI1.out _).mono ?_); rintro e w ⟨rfl, rfl⟩)
    go_ret3
    exact ⟨by first | rfl | kernel_rfl, rfl⟩
  · have hI1 : ∀ w, Calls Tryd.prog 25 #[.string { data := #[110, 114, 116] }, .int .u8 116] w fun e w' => e = .returned (.int .i64 (2)) ∧ w' = w := fun w => Tryd.strings_IndexByte { data := #[110, 114, 116] } 116 w
    have HI1 := Lib.hid hI1
    clear hI1
    go_enter Tryd.func15, Tryd.ntmps15
    go_wp2_with (go_at_call 25; (refine (HI1.out _).mono ?_); rintro e w ⟨rfl, rfl⟩)
    go_ret3
    exact ⟨by first | rfl | kernel_rfl, rfl⟩
  · have hI1 : ∀ w, Calls Tryd.prog 25 #[.string { data := #[110, 114, 116] }, .int .u8 92] w fun e w' => e = .returned (.int .i64 (-1)) ∧ w' = w := fun w => Tryd.strings_IndexByte { data := #[110, 114, 116] } 92 w
    have HI1 := Lib.hid hI1
    have hI2 : ∀ w, Calls Tryd.prog 25 #[.string { data := #[92, 39, 93, 91, 45] }, .int .u8 92] w fun e w' => e = .returned (.int .i64 0) ∧ w' = w := fun w => Tryd.strings_IndexByte { data := #[92, 39, 93, 91, 45] } 92 w
    have HI2 := Lib.hid hI2
    clear hI2
    clear hI1
    go_enter Tryd.func15, Tryd.ntmps15
    go_wp2_with (go_at_call 25; (first | refine (HI1.out _).mono ?_ | refine (HI2.out _).mono ?_); rintro e w ⟨rfl, rfl⟩)
    go_ret3
    exact ⟨by first | rfl | kernel_rfl, rfl⟩
  · have hI1 : ∀ w, Calls Tryd.prog 25 #[.string { data := #[110, 114, 116] }, .int .u8 39] w fun e w' => e = .returned (.int .i64 (-1)) ∧ w' = w := fun w => Tryd.strings_IndexByte { data := #[110, 114, 116] } 39 w
    have HI1 := Lib.hid hI1
    have hI2 : ∀ w, Calls Tryd.prog 25 #[.string { data := #[92, 39, 93, 91, 45] }, .int .u8 39] w fun e w' => e = .returned (.int .i64 1) ∧ w' = w := fun w => Tryd.strings_IndexByte { data := #[92, 39, 93, 91, 45] } 39 w
    have HI2 := Lib.hid hI2
    clear hI2
    clear hI1
    go_enter Tryd.func15, Tryd.ntmps15
    go_wp2_with (go_at_call 25; (first | refine (HI1.out _).mono ?_ | refine (HI2.out _).mono ?_); rintro e w ⟨rfl, rfl⟩)
    go_ret3
    exact ⟨by first | rfl | kernel_rfl, rfl⟩
  · have hI1 : ∀ w, Calls Tryd.prog 25 #[.string { data := #[110, 114, 116] }, .int .u8 93] w fun e w' => e = .returned (.int .i64 (-1)) ∧ w' = w := fun w => Tryd.strings_IndexByte { data := #[110, 114, 116] } 93 w
    have HI1 := Lib.hid hI1
    have hI2 : ∀ w, Calls Tryd.prog 25 #[.string { data := #[92, 39, 93, 91, 45] }, .int .u8 93] w fun e w' => e = .returned (.int .i64 2) ∧ w' = w := fun w => Tryd.strings_IndexByte { data := #[92, 39, 93, 91, 45] } 93 w
    have HI2 := Lib.hid hI2
    clear hI2
    clear hI1
    go_enter Tryd.func15, Tryd.ntmps15
    go_wp2_with (go_at_call 25; (first | refine (HI1.out _).mono ?_ | refine (HI2.out _).mono ?_); rintro e w ⟨rfl, rfl⟩)
    go_ret3
    exact ⟨by first | rfl | kernel_rfl, rfl⟩
  · have hI1 : ∀ w, Calls Tryd.prog 25 #[.string { data := #[110, 114, 116] }, .int .u8 91] w fun e w' => e = .returned (.int .i64 (-1)) ∧ w' = w := fun w => Tryd.strings_IndexByte { data := #[110, 114, 116] } 91 w
    have HI1 := Lib.hid hI1
    have hI2 : ∀ w, Calls Tryd.prog 25 #[.string { data := #[92, 39, 93, 91, 45] }, .int .u8 91] w fun e w' => e = .returned (.int .i64 3) ∧ w' = w := fun w => Tryd.strings_IndexByte { data := #[92, 39, 93, 91, 45] } 91 w
    have HI2 := Lib.hid hI2
    clear hI2
    clear hI1
    go_enter Tryd.func15, Tryd.ntmps15
    go_wp2_with (go_at_call 25; (first | refine (HI1.out _).mono ?_ | refine (HI2.out _).mono ?_); rintro e w ⟨rfl, rfl⟩)
    go_ret3
    exact ⟨by first | rfl | kernel_rfl, rfl⟩
  · have hI1 : ∀ w, Calls Tryd.prog 25 #[.string { data := #[110, 114, 116] }, .int .u8 45] w fun e w' => e = .returned (.int .i64 (-1)) ∧ w' = w := fun w => Tryd.strings_IndexByte { data := #[110, 114, 116] } 45 w
    have HI1 := Lib.hid hI1
    have hI2 : ∀ w, Calls Tryd.prog 25 #[.string { data := #[92, 39, 93, 91, 45] }, .int .u8 45] w fun e w' => e = .returned (.int .i64 4) ∧ w' = w := fun w => Tryd.strings_IndexByte { data := #[92, 39, 93, 91, 45] } 45 w
    have HI2 := Lib.hid hI2
    clear hI2
    clear hI1
    go_enter Tryd.func15, Tryd.ntmps15
    go_wp2_with (go_at_call 25; (first | refine (HI1.out _).mono ?_ | refine (HI2.out _).mono ?_); rintro e w ⟨rfl, rfl⟩)
    go_ret3
    exact ⟨by first | rfl | kernel_rfl, rfl⟩

set_option maxHeartbeats 8000000 in
set_option maxRecDepth 20000 in
theorem escape3_ok (s : ByteArray) (k r : Nat) (b : List UInt8) (hl : s.data.toList.drop k = 92 :: 117 :: 123 :: (hexL r ++ 125 :: b)) (hr : Lib.validRune r = true) (hs : s.size < 4294967281) (W : World) (hW : Laid W) :
    Calls Tryd.prog 15 #[.string s, .int .i64 k] W fun e W' => e = .returned (.tuple #[.int .i32 r, .int .i64 ((hexL r).length + 4 : Nat), .bool true]) ∧ Below W.heap.size W W' := by
  have h0 := get_list s k _ _ hl
  have hl1 : s.data.toList.drop (k + 1) = 117 :: 123 :: (hexL r ++ 125 :: b) := by rw [← List.drop_drop, hl]; rfl
  have hl3 : s.data.toList.drop (k + 3) = hexL r ++ 125 :: b := by rw [← List.drop_drop, hl]; rfl
  have h1 := get_list s (k + 1) _ _ hl1
  obtain ⟨hk0, hv0⟩ := h0
  obtain ⟨hk1, hv1⟩ := h1
  have hlen := congrArg List.length hl
  have hh := hexL_len r
  rw [List.length_drop, ← Lib.size_eq] at hlen
  simp only [List.length_cons, List.length_append] at hlen
  have hk3 : k + 3 < s.size := by omega
  have hI1 : ∀ w, Calls Tryd.prog 25 #[.string { data := #[110, 114, 116] }, .int .u8 117] w fun e w' => e = .returned (.int .i64 (-1)) ∧ w' = w := fun w => Tryd.strings_IndexByte { data := #[110, 114, 116] } 117 w
  have hI2 : ∀ w, Calls Tryd.prog 25 #[.string { data := #[92, 39, 93, 91, 45] }, .int .u8 117] w fun e w' => e = .returned (.int .i64 (-1)) ∧ w' = w := fun w => Tryd.strings_IndexByte { data := #[92, 39, 93, 91, 45] } 117 w
  have hP := Tryd.strings_HasPrefix (s.extract (k + 1) s.size) { data := #[117, 123] } W
  rw [ext_list, hl1, show Lib.hasPrefix (117 :: 123 :: (hexL r ++ 125 :: b)) (({ data := #[117, 123] } : ByteArray).data.toList) = true from by simp [Lib.hasPrefix]] at hP
  have hN := number_ok (s.extract (k + 3) s.size) r b (by rw [ext_list, hl3]) hr (by
    rw [Lib.size_eq, ext_list, List.length_drop, ← Lib.size_eq]
    omega) W hW
  have HI1 := Lib.hid hI1
  have HI2 := Lib.hid hI2
  have HP := Lib.hid hP
  have HN := Lib.hid hN
  obtain ⟨z, hz⟩ : ∃ z, (hexL r).length = z := ⟨_, rfl⟩
  rw [hz] at HN hlen hh ⊢
  clear hI1 hI2 hP hN hl hl1 hl3 hz hr hW hlen
  go_enter Tryd.func15, Tryd.ntmps15
  go_wp2_with first | (go_at_call 25; (first | refine (HI1.out _).mono ?_ | refine (HI2.out _).mono ?_); rintro e w ⟨rfl, rfl⟩) | (go_at_call 26; refine HP.out.mono ?_; rintro e w ⟨rfl, rfl⟩) | (go_at_call 27; refine HN.out.mono ?_; rintro e w ⟨rfl, hb⟩)
  go_ret3
  exact ⟨rfl, hb⟩
end Go.Proofs.YtajfhlnckjnboaaDoor
