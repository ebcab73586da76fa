/- mark: the mark that begins here. -/
import Derived.Test.YtdgkpmpakkfgbaaGreatDoorScMany
namespace Go.Proofs.YtdgkpmpakkfgbaaGreatDoor
open Go.RowKit

set_option maxHeartbeats 8000000 in
set_option maxRecDepth 20000 in
theorem mark_ok (t : ByteArray) (W : World) (h0 : 0 < t.size) (hmax : t.size ≤ 65536) :
    Calls Tryz.prog 33 #[.string t] W fun r W' => ∃ u : ByteArray, u.data.toList = t.data.toList.take (markF t.data.toList) ∧ r = .returned (.string u) ∧ Grew W W' := by
  obtain ⟨l, hl⟩ : ∃ l, t.data.toList = l := ⟨_, rfl⟩
  have hsz : t.size = l.length := by rw [Lib.size_eq, hl]
  obtain ⟨c0, tl, rfl⟩ : ∃ c tl, l = c :: tl := by
    cases l with
    | nil => rw [hsz] at h0; exact absurd h0 (by simp)
    | cons c tl => exact ⟨c, tl, rfl⟩
  obtain ⟨_, hv⟩ := head_get t c0 tl hl
  have hP1 := fun w => Tryz.strings_HasPrefix t { data := #[61, 62] } w
  have hP2 := fun w => Tryz.strings_HasPrefix t { data := #[46, 46] } w
  have hI := fun w => Tryz.strings_IndexByte { data := #[58, 59, 124, 40, 41, 63, 42, 43, 61, 123, 125, 46, 126] } (c0.toNat : Int) w
  rw [hl, show (({ data := #[61, 62] } : ByteArray).data.toList) = [61, 62] from rfl] at hP1
  rw [hl, show (({ data := #[46, 46] } : ByteArray).data.toList) = [46, 46] from rfl] at hP2
  rw [toU8, show (({ data := #[58, 59, 124, 40, 41, 63, 42, 43, 61, 123, 125, 46, 126] } : ByteArray).data.toList) = marksL from rfl] at hI
  have htk : (t.extract 0 1).data.toList = (c0 :: tl).take 1 := by rw [Lib.extract_data, hl]; rfl
  have hle1 : Lib.hasPrefix (c0 :: tl) [61, 62] = true → ([61, 62] : List UInt8) = (c0 :: tl).take 2 := fun h => by
    unfold Lib.hasPrefix at h
    simpa using (List.prefix_iff_eq_take.1 (List.isPrefixOf_iff_prefix.1 h))
  have hle2 : Lib.hasPrefix (c0 :: tl) [46, 46] = true → ([46, 46] : List UInt8) = (c0 :: tl).take 2 := fun h => by
    unfold Lib.hasPrefix at h
    simpa using (List.prefix_iff_eq_take.1 (List.isPrefixOf_iff_prefix.1 h))
  have hcs : amongB marksL ((c0 :: tl).getD 0 0) = decide (0 ≤ Lib.indexByte marksL c0) := rfl
  rw [hl]
  unfold markF
  rw [hcs]
  obtain ⟨b1, hb1⟩ : ∃ b, Lib.hasPrefix (c0 :: tl) [61, 62] = b := ⟨_, rfl⟩
  obtain ⟨b2, hb2⟩ : ∃ b, Lib.hasPrefix (c0 :: tl) [46, 46] = b := ⟨_, rfl⟩
  rw [hb1] at hP1 hle1 ⊢
  rw [hb2] at hP2 hle2 ⊢
  generalize Lib.indexByte marksL c0 = ib at *
  have HP1 := Lib.hid hP1
  have HP2 := Lib.hid hP2
  have HI := Lib.hid hI
  have HTK := Lib.hid htk
  have HL1 := Lib.hid hle1
  have HL2 := Lib.hid hle2
  have o1 := Lib.hid (Owns.alloc W [.string { data := #[61, 62] }, .string { data := #[46, 46] }] 9)
  have g1 : Hid (Grew W (W.alloc (.cells [Value.string { data := #[61, 62] }, .string { data := #[46, 46] }].toArray 9))) := Below.alloc (Below.refl _ _) (Nat.le_refl _) _
  clear hP1 hP2 hI htk hle1 hle2 hb1 hb2 hl hcs
  go_enter Tryz.func33, Tryz.ntmps33
  go_wp2_with fail
  go_loopw [7] (fun v wr => ∃ i : Nat, v = .int .i64 i ∧ i ≤ 2 ∧ Hid (Owns wr W.heap.size [.string { data := #[61, 62] }, .string { data := #[46, 46] }] 9) ∧ Hid (Grew W wr) ∧ (0 < i → b1 = false) ∧ (1 < i → b2 = false)) (fun v _ => 2 - (intOf v).toNat)
  case atStart => exact ⟨0, rfl, by omega, o1, g1, fun h => absurd h (by omega), fun h => absurd h (by omega)⟩
  case round =>
    obtain ⟨i, rfl, hi, HO, HG, hx1, hx2⟩ := hrel
    have d0 := HO.out.cell_at (i := 0) rfl
    have d1 := HO.out.cell_at (i := 1) rfl
    obtain rfl | rfl | rfl : i = 0 ∨ i = 1 ∨ i = 2 := by omega
    · cases b1 with
      | true =>
        clear hx1 hx2
        go_wp2_with (go_at_call 27; refine (HP1.out _).mono ?_; rintro e w ⟨rfl, rfl⟩)
        go_ret
        exact ⟨_, HL1.out (by simp), rfl, HG.out⟩
      | false =>
        clear hx1 hx2
        go_wp2_with (go_at_call 27; refine (HP1.out _).mono ?_; rintro e w ⟨rfl, rfl⟩)
        exact ⟨⟨1, rfl, by omega, HO, HG, fun _ => by simp, fun h => absurd h (by omega)⟩, by simp [intOf]⟩
    · have hb := hx1 (by omega)
      subst hb
      cases b2 with
      | true =>
        clear hx1 hx2
        go_wp2_with (go_at_call 27; refine (HP2.out _).mono ?_; rintro e w ⟨rfl, rfl⟩)
        go_ret
        exact ⟨_, HL2.out (by simp), rfl, HG.out⟩
      | false =>
        clear hx1 hx2
        go_wp2_with (go_at_call 27; refine (HP2.out _).mono ?_; rintro e w ⟨rfl, rfl⟩)
        exact ⟨⟨2, rfl, by omega, HO, HG, fun _ => by simp, fun _ => by simp⟩, by simp [intOf]⟩
    · have hb := hx1 (by omega)
      have hb2 := hx2 (by omega)
      subst hb hb2
      clear hx1 hx2
      by_cases h0b : 0 ≤ ib
      · go_wp2_with (go_at_call 26; refine (HI.out _).mono ?_; rintro e w ⟨rfl, rfl⟩)
        go_ret
        exact ⟨_, HTK.out, rfl, HG.out⟩
      · go_wp2_with (go_at_call 26; refine (HI.out _).mono ?_; rintro e w ⟨rfl, rfl⟩)
        go_ret
        exact ⟨{ data := #[] }, rfl, rfl, HG.out⟩
end Go.Proofs.YtdgkpmpakkfgbaaGreatDoor
