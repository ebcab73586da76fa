/- The number of an escape, of whatever text. -/
import Derived.Test.YtdgkpmpakkfgbaaGreatDoorScMany
import Derived.Test.YtdgkpmpakkfgbaaGreatDoorSc3
import Derived.Shelf.Strings.SlTrimAscii
namespace Go.Proofs.YtdgkpmpakkfgbaaGreatDoor
open Go.RowKit

theorem hexVA_lt : ∀ (l : List UInt8) (acc : Nat), l.all isHexA = true → hexVA acc l + 1 ≤ (acc + 1) * 16 ^ l.length
  | [], acc, _ => by simp [hexVA]
  | b :: l, acc, h => by
    rw [List.all_cons, Bool.and_eq_true] at h
    have h1 := undigA_lt b h.1
    have h2 := hexVA_lt l (acc * 16 + undigA b) h.2
    rw [hexVA, List.length_cons, Nat.pow_succ]
    refine Nat.le_trans h2 ?_
    have h3 : acc * 16 + undigA b + 1 ≤ (acc + 1) * 16 := by omega
    calc (acc * 16 + undigA b + 1) * 16 ^ l.length ≤ ((acc + 1) * 16) * 16 ^ l.length := Nat.mul_le_mul_right _ h3
      _ = (acc + 1) * (16 ^ l.length * 16) := by rw [Nat.mul_assoc, Nat.mul_comm 16]
theorem hexVA_small (l : List UInt8) (h : l.all isHexA = true) (hl : l.length ≤ 6) : hexVA 0 l < 16777216 := by
  have h1 := hexVA_lt l 0 h
  have h2 : 16 ^ l.length ≤ 16 ^ 6 := Nat.pow_le_pow_right (by decide) hl
  rw [pow16] at h2
  omega

/-- the digits of 16, small and great -/
def digitsA : ByteArray := { data := #[48, 49, 50, 51, 52, 53, 54, 55, 56, 57, 97, 98, 99, 100, 101, 102, 65, 66, 67, 68, 69, 70] }
theorem digitsA_all (x : UInt8) (h : isHexA x = true) : digitsA.data.toList.contains x = true := by
  have h2 : ∀ n : Fin 256, isHexA (UInt8.ofNat n.val) = true → digitsA.data.toList.contains (UInt8.ofNat n.val) = true := by decide +kernel
  have h3 := h2 ⟨x.toNat, x.toNat_lt⟩
  simp only [UInt8.ofNat_toNat] at h3
  exact h3 h
theorem dropWhile_every {p : UInt8 → Bool} : ∀ (l : List UInt8), (∀ x ∈ l, p x = true) → l.dropWhile p = []
  | [], _ => rfl
  | x :: l, h => by
    rw [List.dropWhile_cons, if_pos (h x (by simp))]
    exact dropWhile_every l fun y hy => h y (by simp [hy])
theorem trimA (a : List UInt8) (h : a.all isHexA = true) : Lib.trimS a digitsA.data.toList = [] := by
  rw [List.all_eq_true] at h
  unfold Lib.trimS Lib.trimRightS Lib.trimLeftS
  rw [dropWhile_every a.reverse fun x hx => digitsA_all x (h x (List.mem_reverse.1 hx))]
  rfl
theorem trimA_ok (s : ByteArray) (W : World) (hs : s.size ≤ 9223372036854775807) (h : s.data.toList.all isHexA = true) :
    Calls Tryz.prog 74 #[.string s, .string digitsA] W fun e W' => e = .returned (.string { data := #[] }) ∧ Below W.heap.size W W' := by
  have := Any.strings_Trim_ascii Tryz.lays160 (fun w => by kernel_rfl) (by kernel_rfl) s digitsA W hs (by decide) (by
    intro j b hj
    have hm := List.mem_of_getElem? hj
    have : ∀ x ∈ digitsA.data.toList, x.toNat < 128 := by decide
    exact this b hm)
  rw [trimA _ h] at this
  exact this

/-- what an escape, or its number, tells -/
def EscIs (o : Option (Nat × Nat)) (W : World) (e : Ending) (W' : World) : Prop :=
  e = .returned (.tuple #[.int .i32 ((o.getD (0, 0)).1 : Nat), .int .i64 ((o.getD (0, 0)).2 : Nat), .bool o.isSome]) ∧ Grew W W'

set_option maxHeartbeats 8000000 in
set_option maxRecDepth 20000 in
theorem numAny_ok (s : ByteArray) (W : World) (hs : s.size ≤ 65536) (hW : LaidS W) : Calls Tryz.prog 67 #[.string s] W (EscIs (numF s.data.toList) W) := by
  obtain ⟨m, hm⟩ := hW.most
  have hC := Tryz.strings_Cut s { data := #[125] } m W (by omega) hm
  rw [show (({ data := #[125] } : ByteArray).data.toList) = [125] from rfl] at hC
  have hlen := fun h => cut_len s.data.toList 125 h
  have hF : numF s.data.toList = if (Lib.cut s.data.toList [125]).2.2 = true ∧ (Lib.cut s.data.toList [125]).1 ≠ [] ∧ (Lib.cut s.data.toList [125]).1.length ≤ 6 ∧ (Lib.cut s.data.toList [125]).1.all isHexA = true ∧ Lib.validRune (hexVA 0 (Lib.cut s.data.toList [125]).1) = true then some (hexVA 0 (Lib.cut s.data.toList [125]).1, (Lib.cut s.data.toList [125]).1.length + 1) else none := rfl
  have hdl : (Lib.cut s.data.toList [125]).1.length ≤ s.size := by
    unfold Lib.cut
    split
    · simp only [List.length_take, ← Lib.size_eq]; omega
    · rw [Lib.size_eq]; exact Nat.le_refl _
  obtain ⟨o, ho⟩ : ∃ o, numF s.data.toList = o := ⟨_, rfl⟩
  rw [ho]
  rw [hF] at ho
  generalize Lib.cut s.data.toList [125] = ct at *
  obtain ⟨dl, el, is⟩ := ct
  simp only at hC hlen hdl ho
  obtain ⟨d, hd⟩ : ∃ d : ByteArray, d = ⟨dl.toArray⟩ := ⟨_, rfl⟩
  have hdd : d.data.toList = dl := by rw [hd]
  have hds : d.size = dl.length := by rw [Lib.size_eq, hdd]
  rw [← hd] at hC
  obtain ⟨v3, h3, g3⟩ := hW.errS
  obtain ⟨v4, h4, g4⟩ := hW.errR
  have hP : Hid (∀ w, Below W.heap.size W w → Calls Tryz.prog 72 #[.string d, .int .i64 16, .int .i64 32] w fun e W' => (∃ n v, e = .returned (.tuple #[.int .u64 n, v]) ∧ ParseIs dl n v) ∧ Below w.heap.size w W') := fun w hb => by
    have := parseA_ok d w (by omega) v3 v4 ((hb.cell (cell_in h3)).trans h3) ((hb.cell (cell_in h4)).trans h4) g3 g4
    rw [hdd] at this
    exact this
  have HC := Lib.hid hC
  have hT : Hid (dl.all isHexA = true → ∀ w, Calls Tryz.prog 74 #[.string d, .string { data := #[48, 49, 50, 51, 52, 53, 54, 55, 56, 57, 97, 98, 99, 100, 101, 102, 65, 66, 67, 68, 69, 70] }] w fun e W' => e = .returned (.string { data := #[] }) ∧ Below w.heap.size w W') := fun h w => trimA_ok d w (by omega) (by rw [hdd]; exact h)
  rw [← hds] at hdl hlen ho
  have hsmall := hexVA_small dl
  rw [← hds] at hsmall
  have HO := Lib.hid ho
  clear hC hm hd hdd h3 h4 g3 g4 hW hF ho
  unfold EscIs
  have HS := Lib.hid hsmall
  clear hsmall
  cases is with
  | false =>
    have ho : o = none := by rw [← HO.out, if_neg (by simp)]
    subst ho
    clear HO
    go_enter Tryz.func67, Tryz.ntmps67
    go_wp2_with (go_at_call 71; refine HC.out.mono ?_; rintro e w ⟨rfl, nd, rfl⟩)
    have G0 := Lib.hid (grew_drewN W nd)
    refine (hP.out _ G0.out).mono ?_
    rintro e w1 ⟨⟨n, v, rfl, hn0, hn1, hv, h6⟩, hb1⟩
    have G1 := Lib.hid (G0.out.trans hb1)
    clear hb1 hv h6
    go_wp2_with fail
    go_ret3
    exact ⟨rfl, G1.out⟩
  | true =>
    go_enter Tryz.func67, Tryz.ntmps67
    go_wp2_with (go_at_call 71; refine HC.out.mono ?_; rintro e w ⟨rfl, nd, rfl⟩)
    have G0 := Lib.hid (grew_drewN W nd)
    refine (hP.out _ G0.out).mono ?_
    rintro e w1 ⟨⟨n, v, rfl, hn0, hn1, hv, h6⟩, hb1⟩
    have G1 := Lib.hid (G0.out.trans hb1)
    have H6 := Lib.hid h6
    clear hb1 h6
    rcases hv with rfl | ⟨N, rfl⟩
    · by_cases h6 : d.size ≤ 6
      · have hx : (dl ≠ [] ∧ dl.all isHexA = true) ∧ n = hexVA 0 dl := by
          by_cases hy : dl ≠ [] ∧ dl.all isHexA = true
          · exact ⟨hy, ((H6.out (by omega)).1 hy).2⟩
          · obtain ⟨N, hN⟩ := (H6.out (by omega)).2 hy
            exact absurd hN (by simp)
        obtain ⟨⟨hx1, hx2⟩, rfl⟩ := hx
        have hs2 := HS.out hx2 h6
        have HT := Lib.hid (hT.out hx2)
        have HV := Lib.hid (fun w => Tryz.utf8_ValidRune ((hexVA 0 dl : Nat) : Int) w)
        have HX := Lib.hid (And.intro hx1 hx2)
        clear hx1 hx2 H6 hP HC hT HS
        generalize hexVA 0 dl = m at *
        cases hvr : Lib.validRune (m : Int) with
        | false =>
          rw [hvr] at HV
          have ho : o = none := by rw [← HO.out, hvr, if_neg (by simp)]
          clear hvr HX
          subst ho
          go_wp2_with (go_at_call 73; refine (HV.out _).mono ?_; rintro e w2 ⟨rfl, rfl⟩)
          go_ret3
          exact ⟨rfl, G1.out⟩
        | true =>
          rw [hvr] at HV
          have ho : o = some (m, d.size + 1) := by rw [← HO.out, hvr, if_pos ⟨by simp, HX.out.1, h6, HX.out.2, by simp⟩]
          subst ho
          have hv2 : (0 ≤ (m : Int) ∧ (m : Int) < 0xD800) ∨ (0xDFFF < (m : Int) ∧ (m : Int) ≤ 0x10FFFF) := of_decide_eq_true hvr
          have hm2 : m ≤ 1114111 := by omega
          clear hvr hv2 HX
          go_wp2_with (go_at_call 73; refine (HV.out _).mono ?_; rintro e w2 ⟨rfl, rfl⟩)
          refine (HT.out _).mono ?_
          rintro e w3 ⟨rfl, hb3⟩
          have G3 := Lib.hid (G1.out.trans hb3)
          clear hb3
          go_wp2_with fail
          go_ret3
          refine ⟨?_, G3.out⟩
          rw [hds]
          rfl
      · have ho : o = none := by rw [← HO.out, if_neg (by rintro ⟨_, _, h, _⟩; omega)]
        subst ho
        have h7 : 6 < d.size := by omega
        clear H6 hP HC hT HS
        go_wp2_with fail
        go_ret3
        exact ⟨rfl, G1.out⟩
    · have hno : Hid (¬ (true = true ∧ dl ≠ [] ∧ d.size ≤ 6 ∧ dl.all isHexA = true ∧ Lib.validRune (hexVA 0 dl) = true)) := by
        rintro ⟨_, h1, h2, h3, _⟩
        have := ((H6.out (by omega)).1 ⟨h1, h3⟩).1
        exact absurd this (by simp)
      clear H6 hP HC hT HS
      have ho : o = none := by rw [← HO.out, if_neg (by simpa using hno.out)]
      subst ho
      generalize Value.pointer (some ⟨N, 0, none⟩) = pv
      have hne := fun w => run_neq_held_nil (P := Tryz.prog) w 83 122 pv (by kernel_rfl)
      go_wp2_with fail
      go_ret3
      exact ⟨rfl, G1.out⟩
end Go.Proofs.YtdgkpmpakkfgbaaGreatDoor
