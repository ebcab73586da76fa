/- The number of an escape, where digits of 16 and a closing brace stand there. -/
import Derived.Test.YtajfhlnckjnboaaDoorRu3
import Derived.Test.YtajfhlnckjnboaaDoorRu4
import Derived.Shelf.Strings.SlTrimAscii
namespace Go.Proofs.YtajfhlnckjnboaaDoor
open Go.RowKit

theorem indexByte_app : ∀ (a b : List UInt8) (c : UInt8), (∀ x ∈ a, x ≠ c) → Lib.indexByte (a ++ c :: b) c = a.length
  | [], b, c, _ => by simp [Lib.indexByte]
  | x :: a, b, c, h => by
    have h1 : (x == c) = false := beq_eq_false_iff_ne.2 (h x (by simp))
    have h2 := indexByte_app a b c fun y hy => h y (by simp [hy])
    rw [List.cons_append, Lib.indexByte, h1, h2]
    simp only [List.length_cons]
    rw [if_neg (by simp), if_neg (by simp)]
    omega
theorem cut_brace (a b : List UInt8) (h : ∀ x ∈ a, isHex x) : Lib.cut (a ++ 125 :: b) [125] = (a, b, true) := by
  have hi := indexByte_app a b 125 fun x hx he => by
    have := h x hx
    subst he
    unfold isHex at this
    simp at this
  unfold Lib.cut
  rw [Lib.index_one, hi, if_pos (by omega)]
  simp

/-- the digits of 16, small and great -/
def digits22 : ByteArray := { data := #[48, 49, 50, 51, 52, 53, 54, 55, 56, 57, 97, 98, 99, 100, 101, 102, 65, 66, 67, 68, 69, 70] }
theorem digits22_all (x : UInt8) (h : isHex x) : digits22.data.toList.contains x = true := by
  have h2 : ∀ n : Fin 256, ((48 ≤ n.val ∧ n.val ≤ 57) ∨ (97 ≤ n.val ∧ n.val ≤ 102)) → digits22.data.toList.contains (UInt8.ofNat n.val) = true := by decide +kernel
  have h3 := h2 ⟨x.toNat, x.toNat_lt⟩ h
  simpa using h3
theorem dropWhile_all {p : UInt8 → Bool} : ∀ (l : List UInt8), (∀ x ∈ l, p x = true) → l.dropWhile p = []
  | [], _ => rfl
  | x :: l, h => by
    rw [List.dropWhile_cons, if_pos (h x (by simp))]
    exact dropWhile_all l fun y hy => h y (by simp [hy])
theorem trim_hex (a : List UInt8) (h : ∀ x ∈ a, isHex x) : Lib.trimS a digits22.data.toList = [] := by
  unfold Lib.trimS Lib.trimRightS Lib.trimLeftS
  rw [dropWhile_all a.reverse fun x hx => digits22_all x (h x (List.mem_reverse.1 hx))]
  rfl
theorem trim_ok (s : ByteArray) (W : World) (hs : s.size ≤ 9223372036854775807) (h : ∀ x ∈ s.data.toList, isHex x) :
    Calls Tryd.prog 36 #[.string s, .string digits22] W fun e W' => e = .returned (.string { data := #[] }) ∧ Below W.heap.size W W' := by
  have := Any.strings_Trim_ascii Tryd.lays160 (fun w => by kernel_rfl) (by kernel_rfl) s digits22 W hs (by decide) (by
    intro j b hj
    have hm := List.mem_of_getElem? hj
    have : ∀ x ∈ digits22.data.toList, x.toNat < 128 := by decide
    exact this b hm)
  rw [trim_hex _ h] at this
  exact this

theorem drewN_below (W : World) (n : Nat) : Below W.heap.size W (W.drewN n) := by
  induction n with
  | zero => exact Below.refl _ _
  | succ n ih => exact ih.trans ⟨rfl, rfl, rfl, Nat.le_refl _, fun _ _ => rfl⟩

set_option maxHeartbeats 4000000 in
set_option maxRecDepth 20000 in
theorem number_ok (s : ByteArray) (r : Nat) (b : List UInt8) (hl : s.data.toList = hexL r ++ 125 :: b) (hr : Lib.validRune r = true) (hs : s.size < 4294967281) (W : World) (hW : Laid W) :
    Calls Tryd.prog 27 #[.string s] W fun e W' => e = .returned (.tuple #[.int .i32 r, .int .i64 ((hexL r).length + 1 : Nat), .bool true]) ∧ Below W.heap.size W W' := by
  obtain ⟨m, hm⟩ := hW.most
  have hv : (0 ≤ (r : Int) ∧ (r : Int) < 0xD800) ∨ (0xDFFF < (r : Int) ∧ (r : Int) ≤ 0x10FFFF) := of_decide_eq_true hr
  have hlen := hexL_len r
  have hC := Tryd.strings_Cut s { data := #[125] } m W hs hm
  rw [hl, show (({ data := #[125] } : ByteArray).data.toList) = [125] from rfl, cut_brace _ _ (hexL_hex r)] at hC
  obtain ⟨d, hd⟩ : ∃ d : ByteArray, d = ⟨(hexL r).toArray⟩ := ⟨_, rfl⟩
  have hdl : d.data.toList = hexL r := by rw [hd]
  have hds : d.size = (hexL r).length := by rw [Lib.size_eq, hdl]
  rw [← hd] at hC
  rw [← hds]
  rw [← hds] at hlen
  have hx := hexL_hex r
  rw [← hdl] at hx
  have hP := fun w => parse_ok d w (by omega) (by omega) hx
  rw [hdl, hexL_val r (by omega)] at hP
  have hV := fun w => Tryd.utf8_ValidRune (r : Int) w
  rw [hr] at hV
  have hT := fun w => trim_ok d w (by omega) hx
  unfold digits22 at hT
  have HC := Lib.hid hC
  have HP := Lib.hid hP
  have HV := Lib.hid hV
  have HT := Lib.hid hT
  have hr2 : r ≤ 1114111 := by omega
  clear hC hP hV hT hx hd hdl hl hm hr hW hv
  go_enter Tryd.func27, Tryd.ntmps27
  go_wp2_with first | (go_at_call 34; refine HC.out.mono ?_; rintro e w ⟨rfl, nd, rfl⟩) | (go_at_call 35; refine (HP.out _).mono ?_; rintro e w1 ⟨rfl, hb1⟩) | (go_at_call 17; refine (HV.out _).mono ?_; rintro e w2 ⟨rfl, rfl⟩) | (go_at_call 36; refine (HT.out _).mono ?_; rintro e w3 ⟨rfl, hb3⟩)
  go_ret3
  refine ⟨by rw [hds]; rfl, ?_⟩
  have e0 : (W.drewN nd).heap.size = W.heap.size := rfl
  have hd0 := drewN_below W nd
  have s1 := hb1.size
  exact (hd0.trans (hb1.mono (by omega))).trans (hb3.mono (by omega))
end Go.Proofs.YtajfhlnckjnboaaDoor
