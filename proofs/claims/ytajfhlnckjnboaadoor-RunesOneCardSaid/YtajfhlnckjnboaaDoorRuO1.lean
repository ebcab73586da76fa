/- The document's own answers for one number: whether it is a rune's, its bytes, its digits of 16, its text. -/
import Derived.Test.YtajfhlnckjnboaaDoorRuB
import Derived.Laws.IdiomStrings
namespace Go.Proofs.YtajfhlnckjnboaaDoor
open Go.RowKit

theorem refIs_ok (r : Int) (W : World) : Calls Tryd.prog 18 #[.int .i32 r] W fun e W' => e = .returned (.bool (Lib.validRune r)) ∧ W' = W := by
  by_cases h1 : r < 0
  · have hv : Lib.validRune r = false := decide_eq_false (by omega)
    rw [hv]
    clear hv
    go_enter Tryd.func18, Tryd.ntmps18
    go_wp2
    go_ret
    exact ⟨rfl, rfl⟩
  by_cases h2 : r < 55296
  · have hv : Lib.validRune r = true := decide_eq_true (by omega)
    rw [hv]
    clear hv
    go_enter Tryd.func18, Tryd.ntmps18
    go_wp2
    go_ret
    exact ⟨rfl, rfl⟩
  have d1 : decide (r < 55296) = false := decide_eq_false h2
  by_cases h3 : r < 57344
  · have hv : Lib.validRune r = false := decide_eq_false (by omega)
    rw [hv]
    clear hv
    go_enter Tryd.func18, Tryd.ntmps18
    go_wp2
    go_ret
    exact ⟨rfl, rfl⟩
  by_cases h4 : r ≤ 1114111
  · have hv : Lib.validRune r = true := decide_eq_true (by omega)
    rw [hv]
    clear hv
    go_enter Tryd.func18, Tryd.ntmps18
    go_wp2
    go_ret
    exact ⟨rfl, rfl⟩
  · have hv : Lib.validRune r = false := decide_eq_false (by omega)
    have d2 : decide (r ≤ 1114111) = false := decide_eq_false h4
    rw [hv]
    clear hv
    go_enter Tryd.func18, Tryd.ntmps18
    go_wp2
    go_ret
    exact ⟨rfl, rfl⟩

theorem conv_new (W : World) (l : List UInt8) : (convert 38 9 (.slice (some ⟨W.heap.size, 0, none⟩) l.length l.length)).run Tryd.prog (W.alloc (.cells (l.map fun b => .int .u8 (b.toNat : Int)).toArray 5)) = .ok (.string ⟨l.toArray⟩) (W.alloc (.cells (l.map fun b => .int .u8 (b.toNat : Int)).toArray 5)) := by
  refine run_convert_bytes_back _ _ _ 5 _ _ _ (by kernel_rfl) (by kernel_rfl) (by kernel_rfl) fun j hj => ?_
  rw [show (⟨W.heap.size, 0, none⟩ : Addr).add j = ⟨W.heap.size, j, none⟩ by unfold Addr.add; split <;> simp_all]
  refine (Owns.alloc W (l.map fun b => .int .u8 (b.toNat : Int)) 5).cell_at (i := j) ?_
  rw [List.getElem?_map, List.getElem?_eq_getElem hj]
  rfl

set_option maxHeartbeats 4000000 in
set_option maxRecDepth 20000 in
theorem refEncode_ok (r : Int) (W : World) : Calls Tryd.prog 11 #[.int .i32 r] W fun e W' => e = .returned (.string ⟨(bytesOf r).toArray⟩) ∧ Below W.heap.size W W' := by
  have hI := fun w => refIs_ok r w
  cases hv : Lib.validRune r
  · rw [hv] at hI
    rw [badOf_none r hv]
    have HI := Lib.hid hI
    clear hI hv
    go_enter Tryd.func11, Tryd.ntmps11
    go_wp2_with fail
    refine (HI.out _).mono ?_
    rintro e w ⟨rfl, rfl⟩
    go_wp2_with fail
    go_ret
    exact ⟨rfl, Below.refl _ _⟩
  rw [hv] at hI
  have hr := valid_range r hv
  have HI := Lib.hid hI
  obtain ⟨res, hres⟩ : ∃ res : ByteArray, res = ⟨(bytesOf r).toArray⟩ := ⟨_, rfl⟩
  rw [← hres]
  rcases bytesOf_shape r hv with ⟨c1, e⟩ | ⟨c1, c2, e⟩ | ⟨c1, c2, e⟩ | ⟨c1, e⟩
  · rw [e] at hres
    have q0 : ((UInt8.ofNat (r.toNat)).toNat : Int) = r := by
      rw [ofNat_n _ (by omega)]
      omega
    have hcv : ∀ w : World, (convert 38 9 (.slice (some ⟨w.heap.size, 0, none⟩) 1 1)).run Tryd.prog (w.alloc (.cells #[.int .u8 (r)] 5)) = .ok (.string res) (w.alloc (.cells #[.int .u8 (r)] 5)) := fun w => by
      have h := conv_new w [UInt8.ofNat (r.toNat)]
      simp only [List.map_cons, List.map_nil, q0] at h
      rw [hres]
      exact h
    have HCV := Lib.hid hcv
    clear hI hv e hcv hres q0
    go_enter Tryd.func11, Tryd.ntmps11
    go_wp2_with fail
    refine (HI.out _).mono ?_
    rintro e w ⟨rfl, rfl⟩
    go_wp2_with fail
    rw [HCV.out]
    simp only [Result.andThen]
    go_wp2_with fail
    go_ret
    exact ⟨rfl, Below.alloc (Below.refl _ _) (Nat.le_refl _) _⟩
  · rw [e] at hres
    have q0 : ((UInt8.ofNat (192 + r.toNat / 64)).toNat : Int) = 192 + r / 64 := by
      rw [ofNat_n _ (by omega)]
      omega
    have q1 : ((UInt8.ofNat (128 + r.toNat % 64)).toNat : Int) = 128 + r % 64 := by
      rw [ofNat_n _ (by omega)]
      omega
    have hcv : ∀ w : World, (convert 38 9 (.slice (some ⟨w.heap.size, 0, none⟩) 2 2)).run Tryd.prog (w.alloc (.cells #[.int .u8 (192 + r / 64), .int .u8 (128 + r % 64)] 5)) = .ok (.string res) (w.alloc (.cells #[.int .u8 (192 + r / 64), .int .u8 (128 + r % 64)] 5)) := fun w => by
      have h := conv_new w [UInt8.ofNat (192 + r.toNat / 64), UInt8.ofNat (128 + r.toNat % 64)]
      simp only [List.map_cons, List.map_nil, q0, q1] at h
      rw [hres]
      exact h
    have HCV := Lib.hid hcv
    clear hI hv e hcv hres q0 q1
    go_enter Tryd.func11, Tryd.ntmps11
    go_wp2_with fail
    refine (HI.out _).mono ?_
    rintro e w ⟨rfl, rfl⟩
    go_wp2_with fail
    rw [HCV.out]
    simp only [Result.andThen]
    go_wp2_with fail
    go_ret
    exact ⟨rfl, Below.alloc (Below.refl _ _) (Nat.le_refl _) _⟩
  · rw [e] at hres
    have q0 : ((UInt8.ofNat (224 + r.toNat / 4096)).toNat : Int) = 224 + r / 4096 := by
      rw [ofNat_n _ (by omega)]
      omega
    have q1 : ((UInt8.ofNat (128 + r.toNat / 64 % 64)).toNat : Int) = 128 + r / 64 % 64 := by
      rw [ofNat_n _ (by omega)]
      omega
    have q2 : ((UInt8.ofNat (128 + r.toNat % 64)).toNat : Int) = 128 + r % 64 := by
      rw [ofNat_n _ (by omega)]
      omega
    have hcv : ∀ w : World, (convert 38 9 (.slice (some ⟨w.heap.size, 0, none⟩) 3 3)).run Tryd.prog (w.alloc (.cells #[.int .u8 (224 + r / 4096), .int .u8 (128 + r / 64 % 64), .int .u8 (128 + r % 64)] 5)) = .ok (.string res) (w.alloc (.cells #[.int .u8 (224 + r / 4096), .int .u8 (128 + r / 64 % 64), .int .u8 (128 + r % 64)] 5)) := fun w => by
      have h := conv_new w [UInt8.ofNat (224 + r.toNat / 4096), UInt8.ofNat (128 + r.toNat / 64 % 64), UInt8.ofNat (128 + r.toNat % 64)]
      simp only [List.map_cons, List.map_nil, q0, q1, q2] at h
      rw [hres]
      exact h
    have HCV := Lib.hid hcv
    clear hI hv e hcv hres q0 q1 q2
    go_enter Tryd.func11, Tryd.ntmps11
    go_wp2_with fail
    refine (HI.out _).mono ?_
    rintro e w ⟨rfl, rfl⟩
    go_wp2_with fail
    rw [HCV.out]
    simp only [Result.andThen]
    go_wp2_with fail
    go_ret
    exact ⟨rfl, Below.alloc (Below.refl _ _) (Nat.le_refl _) _⟩
  · rw [e] at hres
    have q0 : ((UInt8.ofNat (240 + r.toNat / 262144)).toNat : Int) = 240 + r / 262144 := by
      rw [ofNat_n _ (by omega)]
      omega
    have q1 : ((UInt8.ofNat (128 + r.toNat / 4096 % 64)).toNat : Int) = 128 + r / 4096 % 64 := by
      rw [ofNat_n _ (by omega)]
      omega
    have q2 : ((UInt8.ofNat (128 + r.toNat / 64 % 64)).toNat : Int) = 128 + r / 64 % 64 := by
      rw [ofNat_n _ (by omega)]
      omega
    have q3 : ((UInt8.ofNat (128 + r.toNat % 64)).toNat : Int) = 128 + r % 64 := by
      rw [ofNat_n _ (by omega)]
      omega
    have hcv : ∀ w : World, (convert 38 9 (.slice (some ⟨w.heap.size, 0, none⟩) 4 4)).run Tryd.prog (w.alloc (.cells #[.int .u8 (240 + r / 262144), .int .u8 (128 + r / 4096 % 64), .int .u8 (128 + r / 64 % 64), .int .u8 (128 + r % 64)] 5)) = .ok (.string res) (w.alloc (.cells #[.int .u8 (240 + r / 262144), .int .u8 (128 + r / 4096 % 64), .int .u8 (128 + r / 64 % 64), .int .u8 (128 + r % 64)] 5)) := fun w => by
      have h := conv_new w [UInt8.ofNat (240 + r.toNat / 262144), UInt8.ofNat (128 + r.toNat / 4096 % 64), UInt8.ofNat (128 + r.toNat / 64 % 64), UInt8.ofNat (128 + r.toNat % 64)]
      simp only [List.map_cons, List.map_nil, q0, q1, q2, q3] at h
      rw [hres]
      exact h
    have HCV := Lib.hid hcv
    clear hI hv e hcv hres q0 q1 q2 q3
    go_enter Tryd.func11, Tryd.ntmps11
    go_wp2_with fail
    refine (HI.out _).mono ?_
    rintro e w ⟨rfl, rfl⟩
    go_wp2_with fail
    rw [HCV.out]
    simp only [Result.andThen]
    go_wp2_with fail
    go_ret
    exact ⟨rfl, Below.alloc (Below.refl _ _) (Nat.le_refl _) _⟩

/-! ### digits of 16 -/
theorem cut16 (d : Nat) (h : d < 16) : ({ data := #[48, 49, 50, 51, 52, 53, 54, 55, 56, 57, 97, 98, 99, 100, 101, 102] } : ByteArray).extract d (d + 1) = ⟨([dig d] : List UInt8).toArray⟩ := by
  have : d = 0 ∨ d = 1 ∨ d = 2 ∨ d = 3 ∨ d = 4 ∨ d = 5 ∨ d = 6 ∨ d = 7 ∨ d = 8 ∨ d = 9 ∨ d = 10 ∨ d = 11 ∨ d = 12 ∨ d = 13 ∨ d = 14 ∨ d = 15 := by omega
  rcases this with rfl | rfl | rfl | rfl | rfl | rfl | rfl | rfl | rfl | rfl | rfl | rfl | rfl | rfl | rfl | rfl <;> decide

theorem slice16 (d : Nat) (h : d < 16) (W : World) : (Instr.slice 9 (.string { data := #[48, 49, 50, 51, 52, 53, 54, 55, 56, 57, 97, 98, 99, 100, 101, 102] }) (some (.int .i64 d)) (some (.int .i64 ((d : Int) + 1))) none).run Tryd.prog W = .ok (.string ⟨([dig d] : List UInt8).toArray⟩) W := by
  have hs : ByteArray.size { data := #[48, 49, 50, 51, 52, 53, 54, 55, 56, 57, 97, 98, 99, 100, 101, 102] } = 16 := rfl
  rw [← cut16 d h]
  generalize ({ data := #[48, 49, 50, 51, 52, 53, 54, 55, 56, 57, 97, 98, 99, 100, 101, 102] } : ByteArray) = D at *
  rw [run_slice_string W 9 D .i64 .i64 (d : Int) ((d : Int) + 1) (by kernel_rfl) (by omega) (by omega) (by omega)]
  rfl

set_option maxHeartbeats 4000000 in
set_option maxRecDepth 20000 in
theorem refHex_ok : ∀ (f n : Nat) (W : World), n < 16 ^ f → 0 < f → f ≤ 6 → n < 16777216 → Calls Tryd.prog 23 #[.int .i64 n] W fun e W' => e = .returned (.string ⟨(hexF f n).toArray⟩) ∧ Below W.heap.size W W'
  | 0, _, _, _, h, _, _ => absurd h (by omega)
  | f + 1, n, W, hn, _, hf6, hb => by
    rw [hexF]
    by_cases h16 : n < 16
    · rw [if_pos h16]
      have HS := Lib.hid (slice16 n h16)
      clear hn
      go_enter Tryd.func23, Tryd.ntmps23
      go_wp2_with fail
      rw [HS.out]
      simp only [Result.andThen]
      go_wp2_with fail
      go_ret
      exact ⟨rfl, Below.refl _ _⟩
    · rw [if_neg h16]
      rw [Nat.pow_succ] at hn
      have hf : 0 < f := by
        cases f with
        | zero => omega
        | succ f => omega
      have ih := fun w => refHex_ok f (n / 16) w (by omega) hf (by omega) (by omega)
      have hl := hexF_len f (n / 16) hf
      have hl6 : (hexF f (n / 16)).length ≤ f := hl.2
      obtain ⟨hx, hhx⟩ : ∃ hx : ByteArray, hx = ⟨(hexF f (n / 16)).toArray⟩ := ⟨_, rfl⟩
      obtain ⟨d1, hd1⟩ : ∃ d1 : ByteArray, d1 = ⟨([dig (n % 16)] : List UInt8).toArray⟩ := ⟨_, rfl⟩
      have hsl := slice16 (n % 16) (by omega)
      rw [← hd1] at hsl
      rw [← hhx] at ih
      have hjoin : (⟨(hexF f (n / 16) ++ [dig (n % 16)]).toArray⟩ : ByteArray) = hx ++ d1 := by
        rw [hhx, hd1]
        apply ByteArray.ext
        simp [ByteArray.data_append]
      have hz1 : hx.size = (hexF f (n / 16)).length := by rw [hhx, Lib.size_eq]
      have hz2 : d1.size = 1 := by rw [hd1]; rfl
      rw [hjoin]
      have hq : (n : Int).tdiv 16 = ((n / 16 : Nat) : Int) := rfl
      have hm : (n : Int).tmod 16 = ((n % 16 : Nat) : Int) := rfl
      have HI := Lib.hid ih
      have hsl' : ∀ V : World, (Instr.slice 9 (.string { data := #[48, 49, 50, 51, 52, 53, 54, 55, 56, 57, 97, 98, 99, 100, 101, 102] }) (some (.int .i64 ((n : Int) % 16))) (some (.int .i64 ((n : Int) % 16 + 1))) none).run Tryd.prog V = .ok (.string d1) V := hsl
      have HSL := Lib.hid hsl'
      clear hsl'
      clear ih hn hsl hd1 hhx hjoin hl
      go_enter Tryd.func23, Tryd.ntmps23
      go_wp2_with fail
      refine wp_region_hav_lit follows (by kernel_rfl) ?_
      repeat (first
        | (refine HavG.skip (fun _ => rfl) ?_; simp only [Act.put, List.setIfInBounds_toArray, List.set_cons_zero, List.set_cons_succ])
        | (refine HavG.val (fun _ => rfl) ?_ (fun x w hw _ => ?_) ?_; rotate_left; (focus (have hc := hw.cells; clear hw; go_simp; first | done | rfl)); simp only [Act.put, List.setIfInBounds_toArray, List.set_cons_zero, List.set_cons_succ]))
      refine HavG.det (fun _ => rfl) (.string hx) (fun x w hw _ => ?_) ?_
      · have HG := Lib.hid hw
        clear hw
        go_simp
        rw [wrap_small _ (by omega) (by omega), show (n : Int) / 16 = ((n / 16 : Nat) : Int) from rfl]
        refine (HI.out w).mono ?_
        rintro e w' ⟨rfl, hb⟩
        exact ⟨rfl, hb⟩
      simp only [Act.put, List.setIfInBounds_toArray, List.set_cons_zero, List.set_cons_succ]
      repeat (first
        | (refine HavG.skip (fun _ => rfl) ?_; simp only [Act.put, List.setIfInBounds_toArray, List.set_cons_zero, List.set_cons_succ])
        | (refine HavG.val (fun _ => rfl) ?_ (fun x w hw _ => ?_) ?_; rotate_left; (focus (have hc := hw.cells; clear hw; go_simp; first | done | rfl)); simp only [Act.put, List.setIfInBounds_toArray, List.set_cons_zero, List.set_cons_succ]))
      refine HavG.val (fun _ => rfl) (.string d1) (fun x w hw _ => ?_) ?_
      · clear hw
        go_simp
        rw [wrap_small _ (by omega) (by omega), HSL.out]
        rfl
      simp only [Act.put, List.setIfInBounds_toArray, List.set_cons_zero, List.set_cons_succ]
      repeat (first
        | (refine HavG.skip (fun _ => rfl) ?_; simp only [Act.put, List.setIfInBounds_toArray, List.set_cons_zero, List.set_cons_succ])
        | (refine HavG.val (fun _ => rfl) ?_ (fun x w hw _ => ?_) ?_; rotate_left; (focus (have hc := hw.cells; clear hw; go_simp; first | done | rfl)); simp only [Act.put, List.setIfInBounds_toArray, List.set_cons_zero, List.set_cons_succ]))
      refine HavG.val (fun _ => rfl) (.string (hx ++ d1)) (fun x w hw _ => ?_) ?_
      · clear hw
        go_simp
        omega
      simp only [Act.put, List.setIfInBounds_toArray, List.set_cons_zero, List.set_cons_succ]
      repeat (first
        | (refine HavG.skip (fun _ => rfl) ?_; simp only [Act.put, List.setIfInBounds_toArray, List.set_cons_zero, List.set_cons_succ])
        | (refine HavG.val (fun _ => rfl) ?_ (fun x w hw _ => ?_) ?_; rotate_left; (focus (have hc := hw.cells; clear hw; go_simp; first | done | rfl)); simp only [Act.put, List.setIfInBounds_toArray, List.set_cons_zero, List.set_cons_succ]))
      refine HavG.tail (by kernel_rfl) (by kernel_rfl) (fun x w hw _ => ?_)
      have HG := Lib.hid hw
      clear hw
      go_wp2_with fail
      go_ret
      exact ⟨rfl, HG.out⟩
end Go.Proofs.YtajfhlnckjnboaaDoor
