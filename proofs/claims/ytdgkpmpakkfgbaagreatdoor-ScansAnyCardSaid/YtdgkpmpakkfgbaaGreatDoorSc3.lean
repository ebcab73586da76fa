/- strconv.ParseUint of whatever text, to the base 16, of 32 bits. -/
import Derived.Test.YtdgkpmpakkfgbaaGreatDoorRuHex
import Derived.Test.YtdgkpmpakkfgbaaGreatDoorRu1
import Derived.Test.YtdgkpmpakkfgbaaGreatDoorScMem
import Derived.Test.YtdgkpmpakkfgbaaGreatDoorScLaw
import Derived.Lib.ConvBytes
import Derived.Lib.SmallJoins
import Derived.Laws.Strings3
import Derived.Laws.Closers25
import Derived.Laws.Closers25b
import Derived.BigCall
import Derived.BigGuard
namespace Go.Proofs.YtdgkpmpakkfgbaaGreatDoor
open Go.RowKit

theorem undigA_lt (b : UInt8) (h : isHexA b = true) : undigA b < 16 := by
  unfold isHexA at h
  simp only [Bool.or_eq_true, Bool.and_eq_true, decide_eq_true_eq] at h
  unfold undigA
  split
  · omega
  · split <;> omega
/-- what strconv's lower makes of a byte -/
def lowB (c : UInt8) : Int := bits .or .u8 (c.toNat : Int) 32
theorem lowB_all : ∀ n : Fin 256, (0 ≤ bits .or .u8 (n.val : Int) 32 ∧ bits .or .u8 (n.val : Int) 32 < 256) ∧ ((58 ≤ n.val ∧ isHexA (UInt8.ofNat n.val) = true) → 97 ≤ bits .or .u8 (n.val : Int) 32 ∧ bits .or .u8 (n.val : Int) 32 ≤ 102 ∧ bits .or .u8 (n.val : Int) 32 = 87 + (undigA (UInt8.ofNat n.val) : Int)) ∧
    (isHexA (UInt8.ofNat n.val) = false → (48 ≤ n.val ∧ n.val ≤ 57) = False ∧ (97 ≤ bits .or .u8 (n.val : Int) 32 → 102 < bits .or .u8 (n.val : Int) 32)) := by decide +kernel
theorem lowB_cases (c : UInt8) : (isHexA c = true ∧ 48 ≤ c.toNat ∧ c.toNat ≤ 57 ∧ undigA c = c.toNat - 48) ∨
    (isHexA c = true ∧ (58 ≤ c.toNat ∧ c.toNat ≠ 95) ∧ 97 ≤ lowB c ∧ lowB c ≤ 102 ∧ lowB c = 87 + (undigA c : Int)) ∨
    (isHexA c = false ∧ (c.toNat < 48 ∨ 57 < c.toNat) ∧ 0 ≤ lowB c ∧ (lowB c < 97 ∨ (102 < lowB c ∧ lowB c ≤ 122) ∨ (122 < lowB c ∧ lowB c < 256))) := by
  obtain ⟨h0, h1, h2⟩ := lowB_all ⟨c.toNat, c.toNat_lt⟩
  simp only [UInt8.ofNat_toNat] at h0 h1 h2
  unfold lowB
  cases hx : isHexA c
  · obtain ⟨h3, h4⟩ := h2 hx
    have h5 : ¬ (48 ≤ c.toNat ∧ c.toNat ≤ 57) := fun h => by rw [h3] at h; exact h
    refine .inr (.inr ⟨rfl, by omega, h0.1, ?_⟩)
    omega
  · by_cases h : c.toNat < 58
    · refine .inl ⟨rfl, ?_, by omega, by unfold undigA; rw [if_pos h]⟩
      unfold isHexA at hx
      simp only [Bool.or_eq_true, Bool.and_eq_true, decide_eq_true_eq] at hx
      omega
    · refine .inr (.inl ⟨rfl, ⟨by omega, ?_⟩, (h1 ⟨by omega, hx⟩).1, (h1 ⟨by omega, hx⟩).2⟩)
      unfold isHexA at hx
      simp only [Bool.or_eq_true, Bool.and_eq_true, decide_eq_true_eq] at hx
      omega

/-- what is told of the number of a text -/
def NumIs (l : List UInt8) (n : Int) (v : Value) : Prop :=
  0 ≤ n ∧ n ≤ 4294967295 ∧ (v = .nilIface ∨ v = .iface 120 (.int .i64 2) ∨ v = .iface 120 (.int .i64 1)) ∧
    (l.length ≤ 6 → (l ≠ [] ∧ l.all isHexA = true → v = .nilIface ∧ n = hexVA 0 l) ∧ (¬ (l ≠ [] ∧ l.all isHexA = true) → v = .iface 120 (.int .i64 2)))

theorem pow16 : 16 ^ 6 = 16777216 := by decide

set_option maxHeartbeats 32000000 in
set_option maxRecDepth 100000 in
theorem parseInA_ok (t : ByteArray) (W : World) (h1 : 1 ≤ t.size) (hmax : t.size ≤ 4294967296) :
    Calls Tryz.prog 76 #[.string t, .int .i64 16, .int .i64 32] W fun e W' => (∃ n v, e = .returned (.tuple #[.int .u64 n, v]) ∧ NumIs t.data.toList n v) ∧ W' = Lib.bytesWorld W 5 t := by
  have hemp : t.toList.isEmpty = false := by
    rw [← decide_eq_emptyBytes]
    exact decide_eq_false (fun h => by rw [h] at h1; exact absurd h1 (by decide))
  have hcv := Lib.run_convert_string_bytes (P := Tryz.prog) W 9 77 5 t (u := .string) (by kernel_rfl) (by kernel_rfl) (by kernel_rfl)
  have hB : ∀ j, j < t.size → (Lib.bytesWorld W 5 t).cell? ⟨W.heap.size, j, none⟩ = some (.int .u8 (t.data.toList.getD j 0).toNat) := fun j hj => Lib.bytesWorld_cell W 5 t j hj
  obtain ⟨W1, hW1⟩ : ∃ W1, W1 = Lib.bytesWorld W 5 t := ⟨_, rfl⟩
  rw [← hW1] at hcv hB ⊢
  clear hW1
  obtain ⟨bs, hL⟩ : ∃ bs, bs = t.data.toList := ⟨_, rfl⟩
  have hLn : bs.length = t.size := by rw [hL, Lib.size_eq]
  rw [← hL] at hB ⊢
  have hne : bs ≠ [] := fun h => by rw [h] at hLn; simp at hLn; omega
  clear hL
  have HE := Lib.hid hne
  clear hne
  go_enter Tryz.func76, Tryz.ntmps76
  go_wp2
  go_loop [12, 13, 101] (fun vu vn vi => ∃ (k : Nat) (a : Int), vu = .bool false ∧ vn = .int .u64 a ∧ vi = .int .i64 k ∧ k ≤ t.size ∧ 0 ≤ a ∧ a ≤ 4294967295 ∧ Hid (t.size ≤ 6 → ∃ acc : Nat, a = (acc : Int) ∧ acc < 16 ^ k ∧ (bs.take k).all isHexA = true ∧ hexVA 0 bs = hexVA acc (bs.drop k)))
    (fun _ _ vi => t.size - (intOf vi).toNat)
  case atStart => exact ⟨0, 0, rfl, rfl, rfl, by omega, by omega, by omega, Lib.hid fun _ => ⟨0, rfl, by decide, by simp, by simp⟩⟩
  case round =>
    obtain ⟨k, a, rfl, rfl, rfl, hk, ha0, ha1, hh⟩ := hrel
    by_cases hkn : k < t.size
    · have hc := hB k hkn
      have hdrop : bs.drop k = bs[k]'(by omega) :: bs.drop (k + 1) := List.drop_eq_getElem_cons (by omega)
      have htake : bs.take (k + 1) = bs.take k ++ [bs[k]'(by omega)] := by rw [List.take_add_one, List.getElem?_eq_getElem (by omega)]; rfl
      have hget : bs.getD k 0 = bs[k]'(by omega) := by simp [List.getD, List.getElem?_eq_getElem (show k < bs.length by omega)]
      have hmem : bs[k]'(by omega) ∈ bs := List.getElem_mem _
      rw [hget] at hc
      generalize bs[k]'(by omega) = c at hc hdrop htake hmem
      have hL := fun w => Tryz.internal_strconv_lower (c.toNat : Int) w
      rw [show bits .or .u8 (c.toNat : Int) 32 = lowB c from rfl] at hL
      have HL := Lib.hid hL
      have icut : a < 1152921504606846976 := by omega
      have hc8 := c.toNat_lt
      -- what a digit does
      have NEXT : isHexA c = true → a * 16 + (undigA c : Int) ≤ 4294967295 → Hid (t.size ≤ 6 → ∃ acc : Nat, a * 16 + (undigA c : Int) = (acc : Int) ∧ acc < 16 ^ (k + 1) ∧ (bs.take (k + 1)).all isHexA = true ∧ hexVA 0 bs = hexVA acc (bs.drop (k + 1))) := fun hx _ => Lib.hid fun h6 => by
        obtain ⟨acc, e1, e2, e3, e4⟩ := hh.out h6
        have := undigA_lt c hx
        refine ⟨acc * 16 + undigA c, by omega, by rw [Nat.pow_succ]; omega, by rw [htake, List.all_append, e3]; simp [hx], ?_⟩
        rw [e4, hdrop, hexVA]
      have OVER : isHexA c = true → 4294967295 < a * 16 + (undigA c : Int) → NumIs bs 4294967295 (.iface 120 (.int .i64 1)) := fun hx hov => by
        refine ⟨by omega, by omega, .inr (.inr rfl), fun h6 => ?_⟩
        obtain ⟨acc, e1, e2, _, _⟩ := hh.out (by omega)
        have := undigA_lt c hx
        have h5 : 16 ^ k ≤ 16 ^ 5 := Nat.pow_le_pow_right (by omega) (by omega)
        have h5' : 16 ^ 5 = 1048576 := by decide
        omega
      have FAIL : isHexA c = false → NumIs bs 0 (.iface 120 (.int .i64 2)) := fun hx => by
        refine ⟨by omega, by omega, .inr (.inl rfl), fun _ => ⟨fun h => ?_, fun _ => rfl⟩⟩
        have := List.all_eq_true.1 h.2 c hmem
        rw [hx] at this
        exact absurd this (by decide)
      have HNEXT := Lib.hid NEXT
      have HOVER := Lib.hid OVER
      have HFAIL := Lib.hid FAIL
      clear NEXT OVER FAIL hB hdrop hget htake hmem hL hh
      have hcs := lowB_cases c
      generalize lowB c = lo at *
      generalize undigA c = u at *
      obtain ⟨ci, hci⟩ : ∃ ci : Int, (c.toNat : Int) = ci := ⟨_, rfl⟩
      rw [hci] at hc HL
      rcases hcs with ⟨hx, hd0, hdig, hu⟩ | ⟨hx, hd0, hlo1, hlo2, hlo3⟩ | ⟨hx, hd0, hlo0, hlo⟩
      · have c0 : 48 ≤ ci := by omega
        have c1 : ci ≤ 57 := by omega
        have hu' : (u : Int) = ci - 48 := by omega
        rw [hu'] at HNEXT HOVER
        have HX := Lib.hid hx
        clear hx hci hd0 hdig hu hu' hc8 HFAIL
        by_cases hov : a * 16 + (ci - 48) ≤ 4294967295
        · have HN := HNEXT.out HX.out hov
          clear HNEXT HOVER
          go_wp2
          refine ⟨⟨k + 1, a * 16 + (ci - 48), rfl, rfl, (by first | rfl | (congr 1; omega)), by omega, by omega, hov, HN⟩, by simp [intOf]; omega⟩
        · have hov : 4294967295 < a * 16 + (ci - 48) := by omega
          have HN := Lib.hid (HOVER.out HX.out hov)
          clear HNEXT HOVER
          go_wp2
          go_ret2
          exact ⟨⟨_, _, rfl, HN.out⟩, rfl⟩
      · have c0 : 58 ≤ ci := by omega
        have c1 : ¬ ci = 95 := by omega
        have c2 : ci < 256 := by omega
        have hu' : (u : Int) = lo - 97 + 10 := by omega
        rw [hu'] at HNEXT HOVER
        have HX := Lib.hid hx
        clear hx hci hd0 hlo3 hu' hc8 HFAIL
        by_cases hov : a * 16 + (lo - 97 + 10) ≤ 4294967295
        · have HN := HNEXT.out HX.out hov
          clear HNEXT HOVER
          go_wp2_with (go_at_call 81; refine (HL.out _).mono ?_; rintro e w' ⟨rfl, rfl⟩)
          refine ⟨⟨k + 1, a * 16 + (lo - 97 + 10), rfl, rfl, (by first | rfl | (congr 1; omega)), by omega, by omega, hov, HN⟩, by simp [intOf]; omega⟩
        · have hov : 4294967295 < a * 16 + (lo - 97 + 10) := by omega
          have HN := Lib.hid (HOVER.out HX.out hov)
          clear HNEXT HOVER
          go_wp2_with (go_at_call 81; refine (HL.out _).mono ?_; rintro e w' ⟨rfl, rfl⟩)
          go_ret2
          exact ⟨⟨_, _, rfl, HN.out⟩, rfl⟩
      · have HN := Lib.hid (HFAIL.out hx)
        have c2 : ci < 256 := by omega
        have c3 : 0 ≤ ci := by omega
        clear hx HNEXT HOVER HFAIL
        rcases Classical.em (ci < 48) with hs | hs
        · have c1 : ¬ ci = 95 := by omega
          clear hd0 hci hc8
          rcases hlo with hlo | ⟨hlo, hlo2⟩ | ⟨hlo, hlo2⟩
          · go_wp2_with (go_at_call 81; refine (HL.out _).mono ?_; rintro e w' ⟨rfl, rfl⟩)
            go_ret2
            exact ⟨⟨_, _, rfl, HN.out⟩, rfl⟩
          · go_wp2_with (go_at_call 81; refine (HL.out _).mono ?_; rintro e w' ⟨rfl, rfl⟩)
            go_ret2
            exact ⟨⟨_, _, rfl, HN.out⟩, rfl⟩
          · go_wp2_with (go_at_call 81; refine (HL.out _).mono ?_; rintro e w' ⟨rfl, rfl⟩)
            go_ret2
            exact ⟨⟨_, _, rfl, HN.out⟩, rfl⟩
        · have c0 : 57 < ci := by omega
          clear hs hd0 hci hc8
          rcases Classical.em (ci = 95) with hs | hs
          · subst hs
            rcases hlo with hlo | ⟨hlo, hlo2⟩ | ⟨hlo, hlo2⟩
            · go_wp2_with (go_at_call 81; refine (HL.out _).mono ?_; rintro e w' ⟨rfl, rfl⟩)
              go_ret2
              exact ⟨⟨_, _, rfl, HN.out⟩, rfl⟩
            · go_wp2_with (go_at_call 81; refine (HL.out _).mono ?_; rintro e w' ⟨rfl, rfl⟩)
              go_ret2
              exact ⟨⟨_, _, rfl, HN.out⟩, rfl⟩
            · go_wp2_with (go_at_call 81; refine (HL.out _).mono ?_; rintro e w' ⟨rfl, rfl⟩)
              go_ret2
              exact ⟨⟨_, _, rfl, HN.out⟩, rfl⟩
          · rcases hlo with hlo | ⟨hlo, hlo2⟩ | ⟨hlo, hlo2⟩
            · go_wp2_with (go_at_call 81; refine (HL.out _).mono ?_; rintro e w' ⟨rfl, rfl⟩)
              go_ret2
              exact ⟨⟨_, _, rfl, HN.out⟩, rfl⟩
            · go_wp2_with (go_at_call 81; refine (HL.out _).mono ?_; rintro e w' ⟨rfl, rfl⟩)
              go_ret2
              exact ⟨⟨_, _, rfl, HN.out⟩, rfl⟩
            · go_wp2_with (go_at_call 81; refine (HL.out _).mono ?_; rintro e w' ⟨rfl, rfl⟩)
              go_ret2
              exact ⟨⟨_, _, rfl, HN.out⟩, rfl⟩
    · have hkk : k = t.size := by omega
      subst hkk
      have HN : NumIs bs a .nilIface := ⟨ha0, ha1, .inl rfl, fun h6 => by
        obtain ⟨acc, e1, _, e3, e4⟩ := hh.out (by omega)
        rw [List.take_of_length_le (by omega)] at e3
        rw [List.drop_eq_nil_of_le (by omega), hexVA] at e4
        exact ⟨fun _ => ⟨rfl, by omega⟩, fun h => absurd ⟨HE.out, e3⟩ h⟩⟩
      have HN' := Lib.hid HN
      clear HN hh hB
      go_wp2
      go_ret2
      exact ⟨⟨_, _, rfl, HN'.out⟩, rfl⟩

/-- a number's text, and the reason where it is none -/
def ParseIs (l : List UInt8) (n : Int) (v : Value) : Prop :=
  0 ≤ n ∧ n ≤ 4294967295 ∧ (v = .nilIface ∨ ∃ N, v = .iface 122 (.pointer (some ⟨N, 0, none⟩))) ∧
    (l.length ≤ 6 → (l ≠ [] ∧ l.all isHexA = true → v = .nilIface ∧ n = hexVA 0 l) ∧ (¬ (l ≠ [] ∧ l.all isHexA = true) → ∃ N, v = .iface 122 (.pointer (some ⟨N, 0, none⟩))))

set_option maxHeartbeats 4000000 in
set_option maxRecDepth 20000 in
theorem parseA_ok (t : ByteArray) (W : World) (hmax : t.size ≤ 4294967296) (e2 e1 : Value) (h2 : W.cell? ⟨3, 0, none⟩ = some e2) (h1 : W.cell? ⟨4, 0, none⟩ = some e1)
    (he2 : e2 = .nilIface ∨ ∃ te pe, e2 = .iface te pe) (he1 : e1 = .nilIface ∨ ∃ te pe, e1 = .iface te pe) :
    Calls Tryz.prog 72 #[.string t, .int .i64 16, .int .i64 32] W fun e W' => (∃ n v, e = .returned (.tuple #[.int .u64 n, v]) ∧ ParseIs t.data.toList n v) ∧ Below W.heap.size W W' := by
  have hP : Calls Tryz.prog 76 #[.string t, .int .i64 16, .int .i64 32] W fun e W' => (∃ n v, e = .returned (.tuple #[.int .u64 n, v]) ∧ NumIs t.data.toList n v) ∧ Below W.heap.size W W' := by
    rcases Nat.eq_zero_or_pos t.size with h0 | h0
    · have ht : t = { data := #[] } := by
        have := Lib.size_eq t
        rw [h0] at this
        have h3 : t.data.toList = [] := List.eq_nil_of_length_eq_zero this.symm
        cases t with
        | mk d => simpa using h3
      subst ht
      refine (Tryz.internal_strconv_ParseUint_empty 16 32 W).mono ?_
      rintro e w ⟨rfl, rfl⟩
      exact ⟨⟨_, _, rfl, by omega, by omega, .inr (.inl rfl), fun _ => ⟨fun h => absurd rfl h.1, fun _ => rfl⟩⟩, Below.refl _ _⟩
    · refine (parseInA_ok t W h0 hmax).mono ?_
      rintro e w ⟨h, rfl⟩
      exact ⟨h, Go.Joins.below_bytesWorld _ _ _ _ (Nat.le_refl _)⟩
  have HP := Lib.hid hP
  have hS := fun w (hw : Below W.heap.size W w) => Tryz.strconv_toError_syntax { data := #[80, 97, 114, 115, 101, 85, 105, 110, 116] } t 16 32 e2 w (by omega) ((hw.cell (cell_in h2)).trans h2) he2
  have hR := fun w (hw : Below W.heap.size W w) => Tryz.strconv_toError_range { data := #[80, 97, 114, 115, 101, 85, 105, 110, 116] } t 16 32 e1 w (by omega) ((hw.cell (cell_in h1)).trans h1) he1
  have HS := Lib.hid hS
  have HR := Lib.hid hR
  clear hP hS hR h1 h2 he1 he2
  go_enter Tryz.func72, Tryz.ntmps72
  go_wp2_with (go_at_call 76; refine HP.out.mono ?_)
  rintro e w ⟨⟨n, v, rfl, hn0, hn1, hv, h6⟩, hb⟩
  have H6 := Lib.hid h6
  have HB := Lib.hid hb
  clear h6 hb
  rcases hv with rfl | rfl | rfl
  · go_wp2_with fail
    go_ret2
    exact ⟨⟨n, .nilIface, rfl, hn0, hn1, .inl rfl, fun h => ⟨fun hy => ⟨rfl, ((H6.out h).1 hy).2⟩, fun hn => absurd ((H6.out h).2 hn) (by simp)⟩⟩, HB.out⟩
  · go_wp2_with (go_at_call 77; refine (HS.out _ HB.out).mono ?_; rintro e w' ⟨N, rfl, _, _, hb'⟩)
    go_ret2
    exact ⟨⟨_, _, rfl, hn0, hn1, .inr ⟨N, rfl⟩, fun h => ⟨fun hy => absurd ((H6.out h).1 hy).1 (by simp), fun _ => ⟨N, rfl⟩⟩⟩, HB.out.trans (hb'.mono HB.out.size)⟩
  · go_wp2_with (go_at_call 77; refine (HR.out _ HB.out).mono ?_; rintro e w' ⟨N, rfl, _, _, hb'⟩)
    go_ret2
    exact ⟨⟨_, _, rfl, hn0, hn1, .inr ⟨N, rfl⟩, fun h => ⟨fun hy => absurd ((H6.out h).1 hy).1 (by simp), fun hn => absurd ((H6.out h).2 hn) (by simp)⟩⟩, HB.out.trans (hb'.mono HB.out.size)⟩
end Go.Proofs.YtdgkpmpakkfgbaaGreatDoor
