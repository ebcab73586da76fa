/- The document's own answers for one number and one byte. -/
import Derived.Test.YtdgkpmpakkfgbaaGreatDoorScScan
import Derived.Laws.IdiomStrings
namespace Go.Proofs.YtdgkpmpakkfgbaaGreatDoor
open Go.RowKit

theorem valid_range (r : Int) (h : Lib.validRune r = true) : 0 ≤ r ∧ r ≤ 1114111 := by
  have : (0 ≤ r ∧ r < 0xD800) ∨ (0xDFFF < r ∧ r ≤ 0x10FFFF) := of_decide_eq_true h
  omega

theorem refIs_ok (r : Int) (W : World) : Calls Tryz.prog 49 #[.int .i32 r] W fun e W' => e = .returned (.bool (Lib.validRune r)) ∧ W' = W := by
  by_cases h1 : r < 0
  · have hv : Lib.validRune r = false := decide_eq_false (by omega)
    rw [hv]
    clear hv
    go_enter Tryz.func49, Tryz.ntmps49
    go_wp2
    go_ret
    exact ⟨rfl, rfl⟩
  by_cases h2 : r < 55296
  · have hv : Lib.validRune r = true := decide_eq_true (by omega)
    rw [hv]
    clear hv
    go_enter Tryz.func49, Tryz.ntmps49
    go_wp2
    go_ret
    exact ⟨rfl, rfl⟩
  have d1 : decide (r < 55296) = false := decide_eq_false h2
  by_cases h3 : r < 57344
  · have hv : Lib.validRune r = false := decide_eq_false (by omega)
    rw [hv]
    clear hv
    go_enter Tryz.func49, Tryz.ntmps49
    go_wp2
    go_ret
    exact ⟨rfl, rfl⟩
  by_cases h4 : r ≤ 1114111
  · have hv : Lib.validRune r = true := decide_eq_true (by omega)
    rw [hv]
    clear hv
    go_enter Tryz.func49, Tryz.ntmps49
    go_wp2
    go_ret
    exact ⟨rfl, rfl⟩
  · have hv : Lib.validRune r = false := decide_eq_false (by omega)
    have d2 : decide (r ≤ 1114111) = false := decide_eq_false h4
    rw [hv]
    clear hv
    go_enter Tryz.func49, Tryz.ntmps49
    go_wp2
    go_ret
    exact ⟨rfl, rfl⟩

theorem conv_new (W : World) (l : List UInt8) : (convert 77 9 (.slice (some ⟨W.heap.size, 0, none⟩) l.length l.length)).run Tryz.prog (W.alloc (.cells (l.map fun b => .int .u8 (b.toNat : Int)).toArray 5)) = .ok (.string ⟨l.toArray⟩) (W.alloc (.cells (l.map fun b => .int .u8 (b.toNat : Int)).toArray 5)) := by
  refine run_convert_bytes_back _ _ _ 5 _ _ _ (by kernel_rfl) (by kernel_rfl) (by kernel_rfl) fun j hj => ?_
  rw [show (⟨W.heap.size, 0, none⟩ : Addr).add j = ⟨W.heap.size, j, none⟩ by unfold Addr.add; split <;> simp_all]
  refine (Owns.alloc W (l.map fun b => .int .u8 (b.toNat : Int)) 5).cell_at (i := j) ?_
  rw [List.getElem?_map, List.getElem?_eq_getElem hj]
  rfl

set_option maxHeartbeats 4000000 in
set_option maxRecDepth 20000 in
theorem refEncode_ok (r : Int) (W : World) : Calls Tryz.prog 36 #[.int .i32 r] W fun e W' => e = .returned (.string ⟨(bytesOf r).toArray⟩) ∧ Below W.heap.size W W' := by
  have hI := fun w => refIs_ok r w
  cases hv : Lib.validRune r
  · rw [hv] at hI
    rw [badOf_none r hv]
    have HI := Lib.hid hI
    clear hI hv
    go_enter Tryz.func36, Tryz.ntmps36
    go_wp2_with fail
    refine (HI.out _).mono ?_
    rintro e w ⟨rfl, rfl⟩
    go_wp2_with fail
    go_ret
    exact ⟨rfl, Below.refl _ _⟩
  rw [hv] at hI
  have hr := valid_range r hv
  have HI := Lib.hid hI
  obtain ⟨res, hres⟩ : ∃ res : ByteArray, res = ⟨(bytesOf r).toArray⟩ := ⟨_, rfl⟩
  rw [← hres]
  rcases bytesOf_shape r hv with ⟨c1, e⟩ | ⟨c1, c2, e⟩ | ⟨c1, c2, e⟩ | ⟨c1, e⟩
  · rw [e] at hres
    have q0 : ((UInt8.ofNat (r.toNat)).toNat : Int) = r := by
      rw [ofNat_n _ (by omega)]
      omega
    have hcv : ∀ w : World, (convert 77 9 (.slice (some ⟨w.heap.size, 0, none⟩) 1 1)).run Tryz.prog (w.alloc (.cells #[.int .u8 (r)] 5)) = .ok (.string res) (w.alloc (.cells #[.int .u8 (r)] 5)) := fun w => by
      have h := conv_new w [UInt8.ofNat (r.toNat)]
      simp only [List.map_cons, List.map_nil, q0] at h
      rw [hres]
      exact h
    have HCV := Lib.hid hcv
    clear hI hv e hcv hres q0
    go_enter Tryz.func36, Tryz.ntmps36
    go_wp2_with fail
    refine (HI.out _).mono ?_
    rintro e w ⟨rfl, rfl⟩
    go_wp2_with fail
    rw [HCV.out]
    simp only [Result.andThen]
    go_wp2_with fail
    go_ret
    exact ⟨rfl, Below.alloc (Below.refl _ _) (Nat.le_refl _) _⟩
  · rw [e] at hres
    have q0 : ((UInt8.ofNat (192 + r.toNat / 64)).toNat : Int) = 192 + r / 64 := by
      rw [ofNat_n _ (by omega)]
      omega
    have q1 : ((UInt8.ofNat (128 + r.toNat % 64)).toNat : Int) = 128 + r % 64 := by
      rw [ofNat_n _ (by omega)]
      omega
    have hcv : ∀ w : World, (convert 77 9 (.slice (some ⟨w.heap.size, 0, none⟩) 2 2)).run Tryz.prog (w.alloc (.cells #[.int .u8 (192 + r / 64), .int .u8 (128 + r % 64)] 5)) = .ok (.string res) (w.alloc (.cells #[.int .u8 (192 + r / 64), .int .u8 (128 + r % 64)] 5)) := fun w => by
      have h := conv_new w [UInt8.ofNat (192 + r.toNat / 64), UInt8.ofNat (128 + r.toNat % 64)]
      simp only [List.map_cons, List.map_nil, q0, q1] at h
      rw [hres]
      exact h
    have HCV := Lib.hid hcv
    clear hI hv e hcv hres q0 q1
    go_enter Tryz.func36, Tryz.ntmps36
    go_wp2_with fail
    refine (HI.out _).mono ?_
    rintro e w ⟨rfl, rfl⟩
    go_wp2_with fail
    rw [HCV.out]
    simp only [Result.andThen]
    go_wp2_with fail
    go_ret
    exact ⟨rfl, Below.alloc (Below.refl _ _) (Nat.le_refl _) _⟩
  · rw [e] at hres
    have q0 : ((UInt8.ofNat (224 + r.toNat / 4096)).toNat : Int) = 224 + r / 4096 := by
      rw [ofNat_n _ (by omega)]
      omega
    have q1 : ((UInt8.ofNat (128 + r.toNat / 64 % 64)).toNat : Int) = 128 + r / 64 % 64 := by
      rw [ofNat_n _ (by omega)]
      omega
    have q2 : ((UInt8.ofNat (128 + r.toNat % 64)).toNat : Int) = 128 + r % 64 := by
      rw [ofNat_n _ (by omega)]
      omega
    have hcv : ∀ w : World, (convert 77 9 (.slice (some ⟨w.heap.size, 0, none⟩) 3 3)).run Tryz.prog (w.alloc (.cells #[.int .u8 (224 + r / 4096), .int .u8 (128 + r / 64 % 64), .int .u8 (128 + r % 64)] 5)) = .ok (.string res) (w.alloc (.cells #[.int .u8 (224 + r / 4096), .int .u8 (128 + r / 64 % 64), .int .u8 (128 + r % 64)] 5)) := fun w => by
      have h := conv_new w [UInt8.ofNat (224 + r.toNat / 4096), UInt8.ofNat (128 + r.toNat / 64 % 64), UInt8.ofNat (128 + r.toNat % 64)]
      simp only [List.map_cons, List.map_nil, q0, q1, q2] at h
      rw [hres]
      exact h
    have HCV := Lib.hid hcv
    clear hI hv e hcv hres q0 q1 q2
    go_enter Tryz.func36, Tryz.ntmps36
    go_wp2_with fail
    refine (HI.out _).mono ?_
    rintro e w ⟨rfl, rfl⟩
    go_wp2_with fail
    rw [HCV.out]
    simp only [Result.andThen]
    go_wp2_with fail
    go_ret
    exact ⟨rfl, Below.alloc (Below.refl _ _) (Nat.le_refl _) _⟩
  · rw [e] at hres
    have q0 : ((UInt8.ofNat (240 + r.toNat / 262144)).toNat : Int) = 240 + r / 262144 := by
      rw [ofNat_n _ (by omega)]
      omega
    have q1 : ((UInt8.ofNat (128 + r.toNat / 4096 % 64)).toNat : Int) = 128 + r / 4096 % 64 := by
      rw [ofNat_n _ (by omega)]
      omega
    have q2 : ((UInt8.ofNat (128 + r.toNat / 64 % 64)).toNat : Int) = 128 + r / 64 % 64 := by
      rw [ofNat_n _ (by omega)]
      omega
    have q3 : ((UInt8.ofNat (128 + r.toNat % 64)).toNat : Int) = 128 + r % 64 := by
      rw [ofNat_n _ (by omega)]
      omega
    have hcv : ∀ w : World, (convert 77 9 (.slice (some ⟨w.heap.size, 0, none⟩) 4 4)).run Tryz.prog (w.alloc (.cells #[.int .u8 (240 + r / 262144), .int .u8 (128 + r / 4096 % 64), .int .u8 (128 + r / 64 % 64), .int .u8 (128 + r % 64)] 5)) = .ok (.string res) (w.alloc (.cells #[.int .u8 (240 + r / 262144), .int .u8 (128 + r / 4096 % 64), .int .u8 (128 + r / 64 % 64), .int .u8 (128 + r % 64)] 5)) := fun w => by
      have h := conv_new w [UInt8.ofNat (240 + r.toNat / 262144), UInt8.ofNat (128 + r.toNat / 4096 % 64), UInt8.ofNat (128 + r.toNat / 64 % 64), UInt8.ofNat (128 + r.toNat % 64)]
      simp only [List.map_cons, List.map_nil, q0, q1, q2, q3] at h
      rw [hres]
      exact h
    have HCV := Lib.hid hcv
    clear hI hv e hcv hres q0 q1 q2 q3
    go_enter Tryz.func36, Tryz.ntmps36
    go_wp2_with fail
    refine (HI.out _).mono ?_
    rintro e w ⟨rfl, rfl⟩
    go_wp2_with fail
    rw [HCV.out]
    simp only [Result.andThen]
    go_wp2_with fail
    go_ret
    exact ⟨rfl, Below.alloc (Below.refl _ _) (Nat.le_refl _) _⟩


/-! ### bytes -/
theorem all256 {P : UInt8 → Prop} (h : ∀ n < 256, P (UInt8.ofNat n)) (c : UInt8) : P c := by
  have := h c.toNat c.toNat_lt
  rwa [show UInt8.ofNat c.toNat = c from UInt8.ofNat_toNat] at this
theorem letter_is : ∀ c : UInt8, amongB lettersL c = (decide (97 ≤ c.toNat ∧ c.toNat ≤ 122) || decide (65 ≤ c.toNat ∧ c.toNat ≤ 90)) := all256 (by decide +kernel)
theorem digit_is : ∀ c : UInt8, amongB digitsL c = decide (48 ≤ c.toNat ∧ c.toNat ≤ 57) := all256 (by decide +kernel)
theorem own_is : ∀ c : UInt8, amongB [92, 39, 93, 91, 45] c = decide (c.toNat = 92 ∨ c.toNat = 39 ∨ c.toNat = 93 ∨ c.toNat = 91 ∨ c.toNat = 45) := all256 (by decide +kernel)
theorem name_is : ∀ c : UInt8, amongB nameL c = (amongB lettersL c || amongB digitsL c || decide (c.toNat = 95)) := all256 (by decide +kernel)
theorem blank_is : ∀ c : UInt8, amongB blanksL c = decide (c.toNat = 32 ∨ c.toNat = 9 ∨ c.toNat = 10 ∨ c.toNat = 13) := all256 (by decide +kernel)
theorem mark_is : ∀ c : UInt8, amongB marksL c = decide (c.toNat = 58 ∨ c.toNat = 59 ∨ c.toNat = 124 ∨ c.toNat = 40 ∨ c.toNat = 41 ∨ c.toNat = 63 ∨ c.toNat = 42 ∨ c.toNat = 43 ∨ c.toNat = 61 ∨ c.toNat = 123 ∨ c.toNat = 125 ∨ c.toNat = 46 ∨ c.toNat = 126) := all256 (by decide +kernel)

set_option maxHeartbeats 2000000 in
theorem r2Letter_ok (c : UInt8) (W : World) : Calls Tryz.prog 18 #[.int .u8 c.toNat] W fun e W' => e = .returned (.bool (amongB lettersL c)) ∧ W' = W := by
  rw [letter_is]
  have ht := c.toNat_lt
  generalize c.toNat = n at *
  by_cases h1 : 97 ≤ n
  · by_cases h2 : n ≤ 122
    · have hv : (decide (97 ≤ n ∧ n ≤ 122) || decide (65 ≤ n ∧ n ≤ 90)) = true := by simp; omega
      rw [hv]
      clear hv
      go_enter Tryz.func18, Tryz.ntmps18
      go_wp2
      go_ret
      first | exact ⟨rfl, rfl⟩ | (refine ⟨?_, rfl⟩; simp; omega)
    · have hv : (decide (97 ≤ n ∧ n ≤ 122) || decide (65 ≤ n ∧ n ≤ 90)) = false := by simp; omega
      rw [hv]
      clear hv
      go_enter Tryz.func18, Tryz.ntmps18
      go_wp2
      go_ret
      first | exact ⟨rfl, rfl⟩ | (refine ⟨?_, rfl⟩; simp; omega)
  · by_cases h2 : 65 ≤ n
    · by_cases h3 : n ≤ 90
      · have hv : (decide (97 ≤ n ∧ n ≤ 122) || decide (65 ≤ n ∧ n ≤ 90)) = true := by simp; omega
        rw [hv]
        clear hv
        go_enter Tryz.func18, Tryz.ntmps18
        go_wp2
        go_ret
        first | exact ⟨rfl, rfl⟩ | (refine ⟨?_, rfl⟩; simp; omega)
      · have hv : (decide (97 ≤ n ∧ n ≤ 122) || decide (65 ≤ n ∧ n ≤ 90)) = false := by simp; omega
        rw [hv]
        clear hv
        go_enter Tryz.func18, Tryz.ntmps18
        go_wp2
        go_ret
        first | exact ⟨rfl, rfl⟩ | (refine ⟨?_, rfl⟩; simp; omega)
    · have hv : (decide (97 ≤ n ∧ n ≤ 122) || decide (65 ≤ n ∧ n ≤ 90)) = false := by simp; omega
      rw [hv]
      clear hv
      go_enter Tryz.func18, Tryz.ntmps18
      go_wp2
      go_ret
      first | exact ⟨rfl, rfl⟩ | (refine ⟨?_, rfl⟩; simp; omega)

set_option maxHeartbeats 2000000 in
theorem r2Digit_ok (c : UInt8) (W : World) : Calls Tryz.prog 19 #[.int .u8 c.toNat] W fun e W' => e = .returned (.bool (amongB digitsL c)) ∧ W' = W := by
  rw [digit_is]
  have ht := c.toNat_lt
  generalize c.toNat = n at *
  by_cases h1 : 48 ≤ n
  · by_cases h2 : n ≤ 57
    · have hv : decide (48 ≤ n ∧ n ≤ 57) = true := by simp; omega
      rw [hv]
      clear hv
      go_enter Tryz.func19, Tryz.ntmps19
      go_wp2
      go_ret
      first | exact ⟨rfl, rfl⟩ | (refine ⟨?_, rfl⟩; simp; omega)
    · have hv : decide (48 ≤ n ∧ n ≤ 57) = false := by simp; omega
      rw [hv]
      clear hv
      go_enter Tryz.func19, Tryz.ntmps19
      go_wp2
      go_ret
      first | exact ⟨rfl, rfl⟩ | (refine ⟨?_, rfl⟩; simp; omega)
  · have hv : decide (48 ≤ n ∧ n ≤ 57) = false := by simp; omega
    rw [hv]
    clear hv
    go_enter Tryz.func19, Tryz.ntmps19
    go_wp2
    go_ret
    first | exact ⟨rfl, rfl⟩ | (refine ⟨?_, rfl⟩; simp; omega)

set_option maxHeartbeats 4000000 in
theorem refOwn_ok (c : UInt8) (W : World) : Calls Tryz.prog 63 #[.int .u8 c.toNat] W fun e W' => e = .returned (.bool (amongB [92, 39, 93, 91, 45] c)) ∧ W' = W := by
  rw [own_is]
  have ht := c.toNat_lt
  generalize c.toNat = n at *
  by_cases hh : n = 92 ∨ n = 39 ∨ n = 93 ∨ n = 91 ∨ n = 45
  · rw [decide_eq_true hh]
    rcases hh with rfl | rfl | rfl | rfl | rfl
    all_goals (go_enter Tryz.func63, Tryz.ntmps63; go_wp2; go_ret; exact ⟨rfl, rfl⟩)
  · rw [decide_eq_false hh]
    have e1 : ¬ ((n : Int) = 92) := by omega
    have e2 : ¬ ((n : Int) = 39) := by omega
    have e3 : ¬ ((n : Int) = 93) := by omega
    have e4 : ¬ ((n : Int) = 91) := by omega
    have e5 : ¬ ((n : Int) = 45) := by omega
    clear hh
    go_enter Tryz.func63, Tryz.ntmps63
    go_wp2
    go_ret
    first | exact ⟨rfl, rfl⟩ | (refine ⟨?_, rfl⟩; simp; omega)

def digZ (c : UInt8) : Int := if isHexA c = true then (undigA c : Int) else -1
set_option maxHeartbeats 4000000 in
theorem digit16_ok (c : UInt8) (W : World) : Calls Tryz.prog 64 #[.int .u8 c.toNat] W fun e W' => e = .returned (.int .i64 (digZ c)) ∧ W' = W := by
  have ht := c.toNat_lt
  unfold digZ isHexA undigA
  generalize c.toNat = n at *
  simp only [Bool.or_eq_true, Bool.and_eq_true, decide_eq_true_eq]
  rcases (by omega : n < 48 ∨ (48 ≤ n ∧ n ≤ 57) ∨ (58 ≤ n ∧ n < 65) ∨ (65 ≤ n ∧ n ≤ 70) ∨ (71 ≤ n ∧ n < 97) ∨ (97 ≤ n ∧ n ≤ 102) ∨ 103 ≤ n) with h | h | h | h | h | h | h
  · rw [if_neg (by omega)]
    go_enter Tryz.func64, Tryz.ntmps64
    go_wp2
    go_ret
    first | exact ⟨rfl, rfl⟩ | (refine ⟨?_, rfl⟩; simp; omega)
  · rw [if_pos (by omega), if_pos (by omega)]
    obtain ⟨m, rfl⟩ : ∃ m, n = 48 + m := ⟨n - 48, by omega⟩
    go_enter Tryz.func64, Tryz.ntmps64
    go_wp2
    go_ret
    first | exact ⟨rfl, rfl⟩ | (refine ⟨?_, rfl⟩; simp; omega)
  · rw [if_neg (by omega)]
    go_enter Tryz.func64, Tryz.ntmps64
    go_wp2
    go_ret
    first | exact ⟨rfl, rfl⟩ | (refine ⟨?_, rfl⟩; simp; omega)
  · rw [if_pos (by omega), if_neg (by omega), if_pos (by omega)]
    go_enter Tryz.func64, Tryz.ntmps64
    go_wp2
    go_ret
    first | exact ⟨rfl, rfl⟩ | (refine ⟨?_, rfl⟩; simp; omega)
  · rw [if_neg (by omega)]
    go_enter Tryz.func64, Tryz.ntmps64
    go_wp2
    go_ret
    first | exact ⟨rfl, rfl⟩ | (refine ⟨?_, rfl⟩; simp; omega)
  · rw [if_pos (by omega), if_neg (by omega), if_neg (by omega)]
    go_enter Tryz.func64, Tryz.ntmps64
    go_wp2
    go_ret
    first | exact ⟨rfl, rfl⟩ | (refine ⟨?_, rfl⟩; simp; omega)
  · rw [if_neg (by omega)]
    go_enter Tryz.func64, Tryz.ntmps64
    go_wp2
    go_ret
    first | exact ⟨rfl, rfl⟩ | (refine ⟨?_, rfl⟩; simp; omega)
end Go.Proofs.YtdgkpmpakkfgbaaGreatDoor
