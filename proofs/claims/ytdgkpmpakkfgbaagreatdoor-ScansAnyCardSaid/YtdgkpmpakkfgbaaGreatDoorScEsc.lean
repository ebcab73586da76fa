/- An escape, whatever stands there. -/
import Derived.Test.YtdgkpmpakkfgbaaGreatDoorScNum
namespace Go.Proofs.YtdgkpmpakkfgbaaGreatDoor
open Go.RowKit

theorem get_drop (s : ByteArray) (k : Nat) (c : UInt8) (l : List UInt8) (h : s.data.toList.drop k = c :: l) : k < s.size ∧ ∀ hk : k < s.size, s[k]'hk = c := by
  have hlt : k < s.data.toList.length := by
    apply Classical.byContradiction
    intro hn
    rw [List.drop_eq_nil_of_le (by omega)] at h
    exact absurd h (by simp)
  refine ⟨by rw [Lib.size_eq]; exact hlt, fun hk => ?_⟩
  have := List.drop_eq_getElem_cons hlt
  rw [h] at this
  have e := (List.cons.inj this).1
  rw [e]
  rfl

set_option maxHeartbeats 8000000 in
set_option maxRecDepth 20000 in
theorem escAny_ok (s : ByteArray) (k : Nat) (W : World) (hs : s.size ≤ 65536) (hk : k ≤ s.size) (hW : LaidS W) : Calls Tryz.prog 59 #[.string s, .int .i64 k] W (EscIs (escF (s.data.toList.drop k)) W) := by
  unfold EscIs
  have hlen : (s.data.toList.drop k).length = s.size - k := by rw [List.length_drop, ← Lib.size_eq]
  rcases hl : s.data.toList.drop k with _ | ⟨x, _ | ⟨c, l⟩⟩
  · rw [hl] at hlen
    simp only [List.length_nil] at hlen
    have : k = s.size := by omega
    subst this
    have he : escF [] = none := rfl
    rw [he]
    clear hl hlen
    go_enter Tryz.func59, Tryz.ntmps59
    go_wp2_with fail
    go_ret3
    exact ⟨rfl, Grew.refl _⟩
  · rw [hl] at hlen
    simp only [List.length_cons, List.length_nil] at hlen
    have he : escF [x] = none := by
      unfold escF
      split
      · next e => simp at e
      · rfl
    rw [he]
    have hz : s.size = k + 1 := by omega
    clear hl hlen
    go_enter Tryz.func59, Tryz.ntmps59
    go_wp2_with fail
    go_ret3
    exact ⟨rfl, Grew.refl _⟩
  · rw [hl] at hlen
    simp only [List.length_cons] at hlen
    obtain ⟨hk0, hv0⟩ := get_drop s k _ _ hl
    have hl1 : s.data.toList.drop (k + 1) = c :: l := by rw [← List.drop_drop, hl]; rfl
    obtain ⟨hk1, hv1⟩ := get_drop s (k + 1) _ _ hl1
    by_cases hx : x = 92
    · subst hx
      have hP := Tryz.strings_HasPrefix (s.extract (k + 1) s.size) { data := #[117, 123] } W
      rw [rest_facts, hl1, show (({ data := #[117, 123] } : ByteArray).data.toList) = [117, 123] from rfl] at hP
      have hl3 : s.data.toList.drop (k + 3) = l.drop 1 := by rw [show k + 3 = (k + 1) + 2 by omega, ← List.drop_drop, hl1]; rfl
      have hN := fun (_ : k + 3 ≤ s.size) => numAny_ok (s.extract (k + 3) s.size) W (by rw [Lib.size_eq, rest_facts, List.length_drop, ← Lib.size_eq]; omega) hW
      rw [rest_facts, hl3] at hN
      unfold EscIs at hN
      have HP := Lib.hid hP
      have HN := Lib.hid hN
      clear hP hN hl hl1 hl3 hW
      by_cases c1 : c = 110
      · subst c1
        have hI1 : ∀ w, Calls Tryz.prog 26 #[.string { data := #[110, 114, 116] }, .int .u8 110] w fun e w' => e = .returned (.int .i64 (0)) ∧ w' = w := fun w => Tryz.strings_IndexByte { data := #[110, 114, 116] } 110 w
        have HI1 := Lib.hid hI1
        clear hI1
        go_enter Tryz.func59, Tryz.ntmps59
        go_wp2_with (go_at_call 26; (refine (HI1.out _).mono ?_); rintro e w ⟨rfl, rfl⟩)
        go_ret3
        exact ⟨by first | rfl | kernel_rfl, Grew.refl _⟩
      by_cases c2 : c = 114
      · subst c2
        have hI1 : ∀ w, Calls Tryz.prog 26 #[.string { data := #[110, 114, 116] }, .int .u8 114] w fun e w' => e = .returned (.int .i64 (1)) ∧ w' = w := fun w => Tryz.strings_IndexByte { data := #[110, 114, 116] } 114 w
        have HI1 := Lib.hid hI1
        clear hI1
        go_enter Tryz.func59, Tryz.ntmps59
        go_wp2_with (go_at_call 26; (refine (HI1.out _).mono ?_); rintro e w ⟨rfl, rfl⟩)
        go_ret3
        exact ⟨by first | rfl | kernel_rfl, Grew.refl _⟩
      by_cases c3 : c = 116
      · subst c3
        have hI1 : ∀ w, Calls Tryz.prog 26 #[.string { data := #[110, 114, 116] }, .int .u8 116] w fun e w' => e = .returned (.int .i64 (2)) ∧ w' = w := fun w => Tryz.strings_IndexByte { data := #[110, 114, 116] } 116 w
        have HI1 := Lib.hid hI1
        clear hI1
        go_enter Tryz.func59, Tryz.ntmps59
        go_wp2_with (go_at_call 26; (refine (HI1.out _).mono ?_); rintro e w ⟨rfl, rfl⟩)
        go_ret3
        exact ⟨by first | rfl | kernel_rfl, Grew.refl _⟩
      have hI1 : ∀ w, Calls Tryz.prog 26 #[.string { data := #[110, 114, 116] }, .int .u8 (c.toNat : Int)] w fun e w' => e = .returned (.int .i64 (-1)) ∧ w' = w := fun w => by
        have := Tryz.strings_IndexByte { data := #[110, 114, 116] } (c.toNat : Int) w
        rw [toU8, show (({ data := #[110, 114, 116] } : ByteArray).data.toList) = [110, 114, 116] from rfl] at this
        have e : Lib.indexByte [110, 114, 116] c = -1 := by
          simp [Lib.indexByte, Ne.symm c1, Ne.symm c2, Ne.symm c3]
        rw [e] at this
        exact this
      have hI2 := fun w => Tryz.strings_IndexByte { data := #[92, 39, 93, 91, 45] } (c.toNat : Int) w
      rw [toU8, show (({ data := #[92, 39, 93, 91, 45] } : ByteArray).data.toList) = [92, 39, 93, 91, 45] from rfl] at hI2
      have hE : escF (92 :: c :: l) = (if c = 110 then some (10, 2) else if c = 114 then some (13, 2) else if c = 116 then some (9, 2)
          else if amongB [92, 39, 93, 91, 45] c = true then some (c.toNat, 2)
          else if c = 117 then (match l with
            | 123 :: u => (numF u).map fun (r, n) => (r, n + 3)
            | _ => none) else none) := rfl
      rw [if_neg c1, if_neg c2, if_neg c3, show amongB [92, 39, 93, 91, 45] c = decide (0 ≤ Lib.indexByte [92, 39, 93, 91, 45] c) from rfl] at hE
      have hc8 := c.toNat_lt
      generalize Lib.indexByte [92, 39, 93, 91, 45] c = ib at *
      have HI1 := Lib.hid hI1
      have HI2 := Lib.hid hI2
      clear hI1 hI2
      by_cases h0 : 0 ≤ ib
      · rw [if_pos (decide_eq_true h0)] at hE
        rw [hE]
        clear c1 c2 c3 hE
        go_enter Tryz.func59, Tryz.ntmps59
        go_wp2_with fail
        refine (HI1.out _).mono ?_
        rintro e w ⟨rfl, rfl⟩
        go_wp2_with fail
        refine (HI2.out _).mono ?_
        rintro e w ⟨rfl, rfl⟩
        go_wp2_with fail
        go_ret3
        exact ⟨rfl, Grew.refl _⟩
      · rw [if_neg (by simpa using h0)] at hE
        clear c1 c2 c3
        by_cases hp : c = 117 ∧ ∃ u, l = 123 :: u
        · obtain ⟨rfl, u, rfl⟩ := hp
          have hE2 : escF (92 :: 117 :: 123 :: u) = (numF u).map fun (r, n) => (r, n + 3) := rfl
          rw [hE2]
          clear hE hE2
          rw [show Lib.hasPrefix (117 :: 123 :: u) [117, 123] = true from by simp [Lib.hasPrefix, List.isPrefixOf]] at HP
          simp only [List.length_cons] at hlen
          have HN2 := Lib.hid (HN.out (by omega))
          rw [show List.drop 1 (123 :: u) = u from rfl] at HN2
          clear HN
          have h3 : k + 3 ≤ s.size := by omega
          have hnb := numF_in u
          generalize numF u = o at *
          cases o with
          | none =>
            clear hnb
            go_enter Tryz.func59, Tryz.ntmps59
            go_wp2_with fail
            refine (HI1.out _).mono ?_
            rintro e w ⟨rfl, rfl⟩
            go_wp2_with fail
            refine (HI2.out _).mono ?_
            rintro e w ⟨rfl, rfl⟩
            go_wp2_with first | (go_at_call 27; refine HP.out.mono ?_; rintro e w ⟨rfl, rfl⟩) | (go_at_call 67; refine HN2.out.mono ?_; rintro e w ⟨rfl, hb⟩)
            go_ret3
            exact ⟨rfl, hb⟩
          | some x =>
            obtain ⟨r, n⟩ := x
            have hn4 : n ≤ 65536 := by
              have := (hnb r n rfl).2.1
              omega
            clear hnb
            go_enter Tryz.func59, Tryz.ntmps59
            go_wp2_with fail
            refine (HI1.out _).mono ?_
            rintro e w ⟨rfl, rfl⟩
            go_wp2_with fail
            refine (HI2.out _).mono ?_
            rintro e w ⟨rfl, rfl⟩
            go_wp2_with first | (go_at_call 27; refine HP.out.mono ?_; rintro e w ⟨rfl, rfl⟩) | (go_at_call 67; refine HN2.out.mono ?_; rintro e w ⟨rfl, hb⟩)
            go_ret3
            exact ⟨rfl, hb⟩
        · have he : ∀ l : List UInt8, ¬ (c = 117 ∧ ∃ u, l = 123 :: u) → (if c = 117 then (match l with
              | 123 :: u => (numF u).map fun (r, n) => (r, n + 3)
              | _ => none) else none : Option (Nat × Nat)) = none := by
            intro l hp
            by_cases h117 : c = 117
            · rw [if_pos h117]
              split <;> simp_all
            · rw [if_neg h117]
          have he2 := hE.trans (he l hp)
          have hpf : Lib.hasPrefix (c :: l) [117, 123] = false := by
            apply Classical.byContradiction
            intro hn
            apply hp
            have hn : Lib.hasPrefix (c :: l) [117, 123] = true := by simpa using hn
            unfold Lib.hasPrefix at hn
            cases l with
            | nil => simp [List.isPrefixOf] at hn
            | cons d u =>
              simp [List.isPrefixOf] at hn
              exact ⟨hn.1.symm, u, by rw [hn.2]⟩
          rw [he2]
          rw [hpf] at HP
          clear HN hp he hpf he2 hE
          go_enter Tryz.func59, Tryz.ntmps59
          go_wp2_with fail
          refine (HI1.out _).mono ?_
          rintro e w ⟨rfl, rfl⟩
          go_wp2_with fail
          refine (HI2.out _).mono ?_
          rintro e w ⟨rfl, rfl⟩
          go_wp2_with first | (go_at_call 27; refine HP.out.mono ?_; rintro e w ⟨rfl, rfl⟩)
          go_ret3
          exact ⟨rfl, Grew.refl _⟩
    · have he : escF (x :: c :: l) = none := by
        unfold escF
        split
        · next e => simp at e; exact absurd e.1 hx
        · rfl
      rw [he]
      have hne : ((x.toNat : Int) == 92) = false := by
        rw [beq_eq_false_iff_ne]
        intro h
        exact hx (UInt8.toNat_inj.1 (show x.toNat = 92 by omega))
      have hne2 : ¬ (x.toNat : Int) = 92 := by rw [← beq_iff_eq, hne]; simp
      have hne3 : ((x.toNat : Int) != 92) = true := by rw [bne, hne]; rfl
      clear hl hl1 he hx
      go_enter Tryz.func59, Tryz.ntmps59
      go_wp2_with fail
      go_ret3
      exact ⟨rfl, Grew.refl _⟩
end Go.Proofs.YtdgkpmpakkfgbaaGreatDoor
