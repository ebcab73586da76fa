/- The document's text. -/
import Derived.Test.YtdgkpmpakkfgbaaGreatDoorScR7
namespace Go.Proofs.YtdgkpmpakkfgbaaGreatDoor
open Go.RowKit

/-- what the document's text answers -/
def RTextIs (t : Nat × Nat × List UInt8) (W : World) (e : Ending) (W' : World) : Prop :=
  e = .returned (.tuple #[.string ⟨(if t.2.1 = 0 then t.2.2 else []).toArray⟩, .int .i64 (if t.2.1 = 0 then (t.1 : Int) else -1)]) ∧ Below W.heap.size W W'

set_option maxHeartbeats 8000000 in
set_option maxRecDepth 20000 in
theorem r2text_ok (s : ByteArray) (q : Nat) (W : World) (hs : s.size ≤ 65536) (hq : q < s.size) : Calls Tryz.prog 20 #[.string s, .int .i64 q] W (RTextIs (textF s.data.toList q (s.size + 1) (q + 1) []) W) := by
  obtain ⟨T, hT⟩ : ∃ T, textF s.data.toList q (s.size + 1) (q + 1) [] = T := ⟨_, rfl⟩
  rw [hT]
  have HT := Lib.hid hT
  clear hT
  unfold RTextIs
  go_enter Tryz.func20, Tryz.ntmps20
  go_wp2_with fail
  go_loopw [1, 6] (fun vp vo wr => ∃ (p k : Nat) (acc : List UInt8), vp = .int .i64 p ∧ vo = .string ⟨acc.toArray⟩ ∧ p ≤ s.size ∧ s.size < p + k ∧ acc.length ≤ 4 * p ∧ Hid (textF s.data.toList q k p acc = T) ∧ Hid (Below W.heap.size W wr)) (fun vp _ _ => s.size - (intOf vp).toNat)
  case atStart => exact ⟨q + 1, s.size + 1, [], by go_num, rfl, by omega, by omega, by simp, HT, Lib.hid (Below.refl _ _)⟩
  case round =>
    obtain ⟨p, k, acc, rfl, rfl, hp, hk, hacc, HF, HB⟩ := hrel
    obtain ⟨k, rfl⟩ : ∃ j, k = j + 1 := ⟨k - 1, by omega⟩
    have hB := fun w => begins_ok s { data := #[39] } p w hp hs (by decide)
    rw [show (({ data := #[39] } : ByteArray).data.toList) = [39] from rfl] at hB
    have hf := HF.out
    rw [textF] at hf
    have hhd : Lib.hasPrefix (s.data.toList.drop p) [39] = decide ((s.data.toList.drop p).head? = some 39) := by
      unfold Lib.hasPrefix
      cases s.data.toList.drop p with
      | nil => rfl
      | cons c t =>
        by_cases hc : c = 39
        · subst hc; rfl
        · rw [List.isPrefixOf, beq_eq_false_iff_ne.2 (Ne.symm hc), Bool.false_and]
          exact (decide_eq_false (by simpa using hc)).symm
    by_cases h39 : (s.data.toList.drop p).head? = some 39
    · rw [if_pos h39] at hf
      rw [hhd, decide_eq_true h39] at hB
      have HBG := Lib.hid hB
      clear hB hhd h39
      by_cases ha : acc = []
      · subst ha
        rw [if_pos rfl] at hf
        subst hf
        go_wp2_with fail
        refine (HBG.out _).mono ?_
        rintro e w ⟨rfl, rfl⟩
        go_wp2_with fail
        go_ret2
        exact ⟨rfl, HB.out⟩
      · rw [if_neg ha] at hf
        subst hf
        obtain ⟨A, hA⟩ : ∃ A : ByteArray, A = ⟨acc.toArray⟩ := ⟨_, rfl⟩
        have hem : A.toList.isEmpty = false := by
          rw [Lib.toList_data, hA]
          cases acc with
          | nil => exact absurd rfl ha
          | cons c t => rfl
        rw [← hA]
        have HA := Lib.hid hA
        clear hA ha
        go_wp2_with fail
        refine (HBG.out _).mono ?_
        rintro e w ⟨rfl, rfl⟩
        go_wp2_with fail
        go_ret2
        rw [HA.out]
        exact ⟨rfl, HB.out⟩
    · rw [if_neg h39] at hf
      rw [hhd, decide_eq_false h39] at hB
      have hO := fun w => r2one_ok s p false w hs hp
      have HBG := Lib.hid hB
      rw [show butOf false = [39] from rfl] at hO
      clear hB hhd h39
      cases hr : runeF [39] (s.data.toList.drop p) with
      | none =>
        rw [hr] at hO hf
        simp only at hf
        subst hf
        have HO := Lib.hid hO
        clear hO hr
        go_wp2_with fail
        refine (HBG.out _).mono ?_
        rintro e w ⟨rfl, rfl⟩
        go_wp2_with fail
        refine (HO.out _).mono ?_
        rintro e w2 ⟨rfl, hb⟩
        go_wp2_with fail
        go_ret2
        exact ⟨rfl, HB.out.trans (hb.mono (by have := HB.out.size; omega))⟩
      | some x =>
        obtain ⟨r, n⟩ := x
        have hin := runeF_in _ _ _ _ hr
        rw [List.length_drop, ← Lib.size_eq] at hin
        rw [hr] at hO hf
        simp only at hf
        have hE := fun w => refEncode_ok (r : Int) w
        have hbl : (bytesOf (r : Int)).length ≤ 4 := by
          rw [← bytes_rune r hin.2.2]
          have := Lib.runeCells_le (r : Int)
          rw [Lib.runeCells_length] at this
          exact this.2
        obtain ⟨A, hA⟩ : ∃ A : ByteArray, A = ⟨acc.toArray⟩ := ⟨_, rfl⟩
        obtain ⟨R, hR⟩ : ∃ R : ByteArray, R = ⟨(bytesOf (r : Int)).toArray⟩ := ⟨_, rfl⟩
        have hjoin : (⟨(acc ++ bytesOf (r : Int)).toArray⟩ : ByteArray) = A ++ R := by
          rw [hA, hR]
          apply ByteArray.ext
          simp [ByteArray.data_append]
        have hz1 : A.size = acc.length := by rw [hA, Lib.size_eq]
        have hz2 : R.size = (bytesOf (r : Int)).length := by rw [hR, Lib.size_eq]
        rw [← hR] at hE
        rw [← hA]
        obtain ⟨bl, hble⟩ : ∃ bl, (bytesOf (r : Int)).length = bl := ⟨_, rfl⟩
        rw [hble] at hbl hz2
        obtain ⟨hi1, hi2, hi3⟩ := hin
        have HI3 := Lib.hid hi3
        have HBL := Lib.hid hble
        clear hi3 hble
        have HO := Lib.hid hO
        have HE := Lib.hid hE
        have HJ := Lib.hid hjoin
        have HF2 := Lib.hid hf
        clear hO hE hjoin hA hR hr hf
        go_wp2_with fail
        refine (HBG.out _).mono ?_
        rintro e w ⟨rfl, rfl⟩
        go_wp2_with fail
        refine (HO.out _).mono ?_
        rintro e w2 ⟨rfl, hb⟩
        simp only [Option.getD]
        have d1 : ¬ ((p : Int) + n < 0) := by omega
        have hsz : ¬ (9223372036854775807 < A.size + R.size) := by omega
        have HACC := Lib.hid (show acc.length + bl ≤ 4 * (p + n) by omega)
        have HK := Lib.hid (show s.size < p + n + k by omega)
        clear hbl hz1 hz2 hacc hk hq
        go_wp2_with fail
        refine (HE.out _).mono ?_
        rintro e w3 ⟨rfl, hb3⟩
        go_wp2_with fail
        refine ⟨⟨p + n, k, acc ++ bytesOf (r : Int), by go_num, by rw [HJ.out], by omega, HK.out, by rw [List.length_append, HBL.out]; exact HACC.out, HF2.out, ?_⟩, ?_⟩
        · have hb0 := HB.out
          exact (hb0.trans (hb.mono (by have := hb0.size; omega))).trans (hb3.mono (by have := hb0.size; have := hb.size; omega))
        · rw [show ((p : Int) + n) = ((p + n : Nat) : Int) from by go_num]
          simp only [intOf]
          omega
end Go.Proofs.YtdgkpmpakkfgbaaGreatDoor
