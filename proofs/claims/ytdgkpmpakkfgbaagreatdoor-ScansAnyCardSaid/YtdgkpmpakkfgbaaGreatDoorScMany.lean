/- many: as many bytes of some kind as there are; mark: the mark that begins here. -/
import Derived.Test.YtdgkpmpakkfgbaaGreatDoorScGap
import Derived.Shelf.Strings.SlTrimAscii
namespace Go.Proofs.YtdgkpmpakkfgbaaGreatDoor
open Go.RowKit

theorem trimLeft_ok (s cs : ByteArray) (W : World) (hc : cs.size < 4294967281) (ha : ∀ x ∈ cs.data.toList, x.toNat < 128) :
    Calls Tryz.prog 41 #[.string s, .string cs] W fun e W' => e = .returned (.string ⟨(Lib.trimLeftS s.data.toList cs.data.toList).toArray⟩) ∧ Grew W W' :=
  Any.strings_TrimLeft_ascii Tryz.lays161 (fun w => by kernel_rfl) (by kernel_rfl) s cs W hc fun j b hj => ha b (List.mem_of_getElem? hj)

set_option maxHeartbeats 4000000 in
theorem many_ok (W : World) (cb : Nat) (s cs : ByteArray) (p : Nat) (most : Nat) (hm : most ≤ 64) (h : ScanAt W cb s p 0) (hc : cs.size < 4294967281) (ha : ∀ x ∈ cs.data.toList, x.toNat < 128) :
    Calls Tryz.prog 30 #[.pointer (some ⟨cb, 0, none⟩), .string cs, .int .i64 most] W fun r W' => ∃ t : ByteArray,
      (t.data.toList = if most < manyN (s.data.toList.drop p) cs.data.toList then [] else (s.data.toList.drop p).take (manyN (s.data.toList.drop p) cs.data.toList)) ∧
      GoesTo W cb s (if most < manyN (s.data.toList.drop p) cs.data.toList then p else p + manyN (s.data.toList.drop p) cs.data.toList) (if most < manyN (s.data.toList.drop p) cs.data.toList then 3 else 0) (.string t) r W' := by
  have hL := Lib.hid (left_ok W cb s p 0 h.box)
  unfold LeftIs at hL
  have H := Lib.hid h
  have hle := h.box.le
  have hfew := h.box.few
  have hr := rest_facts s p
  have hz : (s.extract p s.size).size = s.size - p := by rw [Lib.size_eq, hr, List.length_drop, ← Lib.size_eq]
  clear h
  obtain ⟨t, ht⟩ : ∃ t, s.extract p s.size = t := ⟨_, rfl⟩
  rw [ht] at hL hr hz
  obtain ⟨l, hl⟩ : ∃ l, s.data.toList.drop p = l := ⟨_, rfl⟩
  rw [hl] at hr ⊢
  have hT : Hid (∀ w, Calls Tryz.prog 41 #[.string t, .string cs] w fun e W' => e = .returned (.string ⟨(Lib.trimLeftS l cs.data.toList).toArray⟩) ∧ Grew w W') := fun w => by
    have := trimLeft_ok t cs w hc ha
    rw [hr] at this
    exact this
  have hle2 := trimLeftS_le l cs.data.toList
  have hlen : l.length = s.size - p := by rw [← hz, Lib.size_eq, hr]
  have hmn : manyN l cs.data.toList = l.length - (Lib.trimLeftS l cs.data.toList).length := rfl
  obtain ⟨u, hu⟩ : ∃ u : ByteArray, (⟨(Lib.trimLeftS l cs.data.toList).toArray⟩ : ByteArray) = u := ⟨_, rfl⟩
  have hus : u.size = (Lib.trimLeftS l cs.data.toList).length := by rw [← hu]; simp [ByteArray.size]
  rw [hu] at hT
  generalize manyN l cs.data.toList = n at *
  have hun : (s.size - p : Nat) - (u.size : Int) = n := by omega
  have hnle : n ≤ s.size - p := by omega
  have htk : (t.extract 0 n).data.toList = l.take n := by
    rw [Lib.extract_data, hr, List.drop_zero, Nat.sub_zero]
  clear hu hus hmn hl ht hle2
  by_cases hgt : most < n
  · have hgt2 : (most : Int) < (n : Int) := by omega
    simp only [if_pos hgt]
    go_enter Tryz.func30, Tryz.ntmps30
    go_wp2_with (go_at_call 25; refine hL.out.mono ?_)
    rintro r w ⟨rfl, hg, hb⟩
    have S := Lib.hid (H.out.upd (hg.upd cb) hb)
    have U := Lib.hid (hg.upd cb)
    clear hg hb
    go_wp2_with (go_at_call 41; refine (hT.out _).mono ?_)
    rintro e w2 ⟨rfl, hg2⟩
    have S2 := Lib.hid (S.out.keep hg2)
    have U2 := Lib.hid (U.out.trans (hg2.upd cb))
    have hb2 := S2.out.box
    have c1 := hb2.c1
    have fr := hb2.fr
    clear hg2 hb2
    have HW := Lib.hid (wrong_ok w2 cb s p p 3 S2.out.box hle)
    go_wp2_with (go_at_call 29; refine HW.out.mono ?_; rintro e w' ⟨rfl, hu, hb⟩)
    go_ret
    exact ⟨{ data := #[] }, rfl, rfl, U2.out.trans hu, S2.out.upd hu hb⟩
  · have hgt2 : (n : Int) ≤ (most : Int) := by omega
    simp only [if_neg hgt]
    go_enter Tryz.func30, Tryz.ntmps30
    go_wp2_with (go_at_call 25; refine hL.out.mono ?_)
    rintro r w ⟨rfl, hg, hb⟩
    have S := Lib.hid (H.out.upd (hg.upd cb) hb)
    have U := Lib.hid (hg.upd cb)
    clear hg hb
    go_wp2_with (go_at_call 41; refine (hT.out _).mono ?_)
    rintro e w2 ⟨rfl, hg2⟩
    have S2 := Lib.hid (S.out.keep hg2)
    have U2 := Lib.hid (U.out.trans (hg2.upd cb))
    have hb2 := S2.out.box
    have c1 := hb2.c1
    have fr := hb2.fr
    clear hg2 hb2
    have hg1 := Lib.hid (S2.out.put U2.out (p + n) ((p : Int) + n) (by omega) (by omega))
    go_wp2_with fail
    go_ret
    exact ⟨t.extract 0 n, htk, rfl, hg1.out.1, hg1.out.2⟩
end Go.Proofs.YtdgkpmpakkfgbaaGreatDoor
