/- strconv.ParseUint of digits of 16. -/
import Derived.Test.YtajfhlnckjnboaaDoorRuHex
import Derived.Test.YtajfhlnckjnboaaDoorRu1
import Derived.Lib.ConvBytes
import Derived.Lib.SmallJoins
import Derived.Laws.Strings3
import Derived.Laws.Closers25
import Derived.Laws.Closers25b
import Derived.BigCall
import Derived.BigGuard
namespace Go.Proofs.YtajfhlnckjnboaaDoor
open Go.RowKit

set_option maxHeartbeats 32000000 in
set_option maxRecDepth 100000 in
theorem parseIn_ok (t : ByteArray) (W : World) (h1 : 1 ≤ t.size) (h6 : t.size ≤ 6) (hx : ∀ b ∈ t.data.toList, isHex b) :
    Calls Tryd.prog 43 #[.string t, .int .i64 16, .int .i64 32] W fun e W' => e = .returned (.tuple #[.int .u64 (hexV 0 t.data.toList), .nilIface]) ∧ W' = Lib.bytesWorld W 5 t := by
  have hemp : t.toList.isEmpty = false := by
    rw [← decide_eq_emptyBytes]
    exact decide_eq_false (fun h => by rw [h] at h1; exact absurd h1 (by decide))
  have hcv := Lib.run_convert_string_bytes (P := Tryd.prog) W 9 38 5 t (u := .string) (by kernel_rfl) (by kernel_rfl) (by kernel_rfl)
  have hB : ∀ j, j < t.size → (Lib.bytesWorld W 5 t).cell? ⟨W.heap.size, j, none⟩ = some (.int .u8 (t.data.toList.getD j 0).toNat) := fun j hj => Lib.bytesWorld_cell W 5 t j hj
  obtain ⟨W1, hW1⟩ : ∃ W1, W1 = Lib.bytesWorld W 5 t := ⟨_, rfl⟩
  rw [← hW1] at hcv hB ⊢
  clear hW1
  obtain ⟨bs, hL⟩ : ∃ bs, bs = t.data.toList := ⟨_, rfl⟩
  have hLn : bs.length = t.size := by rw [hL, Lib.size_eq]
  rw [← hL] at hB hx ⊢
  clear hL
  have HX := Lib.hid hx
  clear hx
  go_enter Tryd.func43, Tryd.ntmps43
  go_wp2
  go_loop [12, 13, 101] (fun vu vn vi => ∃ (k acc : Nat) (a : Int), vu = .bool false ∧ vn = .int .u64 a ∧ vi = .int .i64 k ∧ k ≤ t.size ∧ Hid (a = (acc : Int) ∧ acc < 16 ^ k ∧ hexV 0 bs = hexV acc (bs.drop k)))
    (fun _ _ vi => t.size - (intOf vi).toNat)
  case atStart => exact ⟨0, 0, 0, rfl, rfl, rfl, by omega, rfl, by decide, rfl⟩
  case round =>
    obtain ⟨k, acc, a, rfl, rfl, rfl, hk, hh⟩ := hrel
    obtain ⟨ha, hacc, hdec⟩ := hh.out
    clear hh
    by_cases hkn : k < t.size
    · have hc := hB k hkn
      have hdrop : bs.drop k = bs[k]'(by omega) :: bs.drop (k + 1) := List.drop_eq_getElem_cons (by omega)
      have hget : bs.getD k 0 = bs[k]'(by omega) := by simp [List.getD, List.getElem?_eq_getElem (show k < bs.length by omega)]
      have hxc := HX.out _ (List.getElem_mem (show k < bs.length by omega))
      rw [hdrop] at hdec
      rw [hget] at hc
      generalize bs[k]'(by omega) = c at hc hdec hxc
      have hpow : 16 ^ k ≤ 16 ^ 5 := Nat.pow_le_pow_right (by omega) (by omega)
      have h5 : 16 ^ 5 = 1048576 := by decide
      have hs1 : 16 ^ (k + 1) = 16 ^ k * 16 := Nat.pow_succ ..
      have hu := undig_lt c hxc
      have a0 : 0 ≤ a := by omega
      have a1 : a < 1048576 := by omega
      have icut : a < 1152921504606846976 := by omega
      clear hB hdrop hget
      by_cases hdig : c.toNat ≤ 57
      · have hd0 : 48 ≤ c.toNat := by unfold isHex at hxc; omega
        have hud : undig c = c.toNat - 48 := by unfold undig; rw [if_pos (by omega)]
        have HN : Hid (a * 16 + ((c.toNat : Int) - 48) = ((acc * 16 + undig c : Nat) : Int) ∧ acc * 16 + undig c < 16 ^ (k + 1) ∧ hexV 0 bs = hexV (acc * 16 + undig c) (bs.drop (k + 1))) := Lib.hid ⟨by omega, by omega, hdec⟩
        clear hpow h5 hs1 hu hud hdec ha hxc hacc
        go_wp2
        refine ⟨⟨k + 1, acc * 16 + undig c, a * 16 + ((c.toNat : Int) - 48), rfl, (by first | rfl | (congr 1; omega)), (by first | rfl | (congr 1; omega)), by omega, HN⟩, by simp [intOf]; omega⟩
      · have hd0 : 97 ≤ c.toNat ∧ c.toNat ≤ 102 := by unfold isHex at hxc; omega
        have hud : undig c = c.toNat - 87 := by unfold undig; rw [if_neg (by omega)]
        have HN : Hid (a * 16 + ((c.toNat : Int) - 87) = ((acc * 16 + undig c : Nat) : Int) ∧ acc * 16 + undig c < 16 ^ (k + 1) ∧ hexV 0 bs = hexV (acc * 16 + undig c) (bs.drop (k + 1))) := Lib.hid ⟨by omega, by omega, hdec⟩
        have hlow : bits .or .u8 (c.toNat : Int) 32 = c.toNat := by
          have : c.toNat = 97 ∨ c.toNat = 98 ∨ c.toNat = 99 ∨ c.toNat = 100 ∨ c.toNat = 101 ∨ c.toNat = 102 := by omega
          rcases this with h | h | h | h | h | h <;> rw [h] <;> decide
        obtain ⟨hd1, hd2⟩ := hd0
        have hL := Tryd.internal_strconv_lower (c.toNat : Int) W1
        rw [hlow] at hL
        have HL := Lib.hid hL
        clear hpow h5 hs1 hu hud hdec ha hxc hacc hlow hL
        go_wp2_with (go_at_call 58; refine HL.out.mono ?_; rintro e w' ⟨rfl, rfl⟩)
        refine ⟨⟨k + 1, acc * 16 + undig c, a * 16 + ((c.toNat : Int) - 87), rfl, (by first | rfl | (congr 1; omega)), (by first | rfl | (congr 1; omega)), by omega, HN⟩, by simp [intOf]; omega⟩
    · have hkk : k = t.size := by omega
      subst hkk
      rw [List.drop_eq_nil_of_le (by omega)] at hdec
      subst ha
      rw [hdec]
      clear hacc hB
      go_wp2
      go_ret2
      exact ⟨rfl, rfl⟩

set_option maxHeartbeats 2000000 in
set_option maxRecDepth 20000 in
theorem parse_ok (t : ByteArray) (W : World) (h1 : 1 ≤ t.size) (h6 : t.size ≤ 6) (hx : ∀ b ∈ t.data.toList, isHex b) :
    Calls Tryd.prog 35 #[.string t, .int .i64 16, .int .i64 32] W fun e W' => e = .returned (.tuple #[.int .u64 (hexV 0 t.data.toList), .nilIface]) ∧ Below W.heap.size W W' := by
  have hP := parseIn_ok t W h1 h6 hx
  generalize hexV 0 t.data.toList = n at *
  have HP := Lib.hid hP
  clear hP hx
  go_enter Tryd.func35, Tryd.ntmps35
  go_wp2_with (go_at_call 43; refine HP.out.mono ?_; rintro e w ⟨rfl, rfl⟩)
  go_ret2
  exact ⟨rfl, Go.Joins.below_bytesWorld _ _ _ _ (Nat.le_refl _)⟩
end Go.Proofs.YtajfhlnckjnboaaDoor
