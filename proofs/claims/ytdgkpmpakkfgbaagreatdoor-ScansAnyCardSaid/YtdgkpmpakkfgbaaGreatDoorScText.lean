/- A text between marks. -/
import Derived.Test.YtdgkpmpakkfgbaaGreatDoorScRune
import Derived.Test.YtdgkpmpakkfgbaaGreatDoorScWr
namespace Go.Proofs.YtdgkpmpakkfgbaaGreatDoor
open Go.RowKit

theorem bLen_ok (B b : Nat) (bs : List Value) (w : World) (h : Lib.IsBuilderF 79 5 B b bs w) :
    Calls Tryz.prog 45 #[.pointer (some ⟨b, 0, none⟩)] w fun e w' => e = .returned (.int .i64 bs.length) ∧ w' = w := Tryz.Builder_Len_f B b bs w h
theorem bString_ok (B b : Nat) (l : List UInt8) (w : World) (h : Lib.IsBuilderF 79 5 B b (Lib.byteCells l) w) (hBw : B ≤ w.heap.size) :
    Calls Tryz.prog 46 #[.pointer (some ⟨b, 0, none⟩)] w fun e w' => e = .returned (.string ⟨l.toArray⟩) ∧ (Lib.IsBuilderF 79 5 B b (Lib.byteCells l) w' ∧ Below B w w' ∧ Lib.OthersKept 5 (some b) w w') := Tryz.Builder_String_any_k B b l w h hBw

set_option maxHeartbeats 8000000 in
set_option maxRecDepth 20000 in
theorem text_ok (W : World) (cb : Nat) (s : ByteArray) (p : Nat) (h : ScanAt W cb s p 0) (hp : p < s.size) :
    Calls Tryz.prog 31 #[.pointer (some ⟨cb, 0, none⟩)] W fun r W' => ∃ t : ByteArray, t.data.toList = (textF s.data.toList p (s.data.toList.length + 1) (p + 1) []).2.2 ∧
      GoesTo W cb s (textF s.data.toList p (s.data.toList.length + 1) (p + 1) []).1 (textF s.data.toList p (s.data.toList.length + 1) (p + 1) []).2.1 (.string t) r W' := by
  have hle := h.box.le
  have hfew := h.box.few
  have hLs : s.data.toList.length = s.size := (Lib.size_eq s).symm
  have c1 := h.box.c1
  have fr := h.box.fr
  have hcb := h.box.owns.lt
  have H := Lib.hid h
  obtain ⟨P0, hP0⟩ : ∃ x, textF s.data.toList p (s.data.toList.length + 1) (p + 1) [] = x := ⟨_, rfl⟩
  rw [hP0]
  have HB := Lib.hid (Lib.IsBuilderF.of (Lib.fresh_isBuilder 79 5 W))
  have H1 := H.out.keep (grew_alloc W (.cells #[.pointer none, .slice none 0 0] 79))
  obtain ⟨w1, hw1⟩ : ∃ w1, W.alloc (.cells #[.pointer none, .slice none 0 0] 79) = w1 := ⟨_, rfl⟩
  rw [hw1] at HB H1
  have HH1 := Lib.hid H1
  have d1 := H1.box.c1
  have df := H1.box.fr
  clear h H1
  go_enter Tryz.func31, Tryz.ntmps31
  go_wp2_with fail
  have P1 := Lib.hid (HH1.out.put ((grew_alloc W (.cells #[.pointer none, .slice none 0 0] 79)).upd cb |> fun u => by rw [hw1] at u; exact u) (p + 1) ((p : Int) + 1) (by omega) (by omega))
  have B1 : Hid (Lib.IsBuilderF 79 5 W.heap.size W.heap.size (Lib.byteCells []) (w1.setCell ⟨cb, 1, none⟩ (.int .i64 ((p : Int) + 1)))) := isBuilder_upd HB.out ((Upd.refl cb w1).setCell 1 _) hcb
  have hsz1 : W.heap.size ≤ (w1.setCell ⟨cb, 1, none⟩ (.int .i64 ((p : Int) + 1))).heap.size := P1.out.1.size
  clear c1 fr d1 df
  generalize w1.setCell ⟨cb, 1, none⟩ (.int .i64 ((p : Int) + 1)) = w2 at *
  go_loopw [5, 6] (fun vr vo wr => ∃ (q k : Nat) (acc : List UInt8), Hid (ScanAt wr cb s q 0) ∧ Hid (Upd cb W wr) ∧ Hid (Lib.IsBuilderF 79 5 W.heap.size W.heap.size (Lib.byteCells acc) wr) ∧ q ≤ s.size ∧ s.size < q + k ∧ acc.length ≤ 4 * q ∧ Hid (textF s.data.toList p k q acc = P0)) (fun _ _ wr => s.size - boxPos wr cb)
  case atStart =>
    exact ⟨p + 1, _, [], P1.out.2, P1.out.1, B1.out, by omega, by omega, by simp, hP0⟩
  case round =>
    obtain ⟨q, k, acc, HS, HU, HI, hq, hk, hac, HP⟩ := hrel
    clear P1 B1 hsz1 HB HH1 H hw1
    have hmu := HS.out.box.pos
    obtain ⟨k, rfl⟩ : ∃ k', k = k' + 1 := ⟨k - 1, by omega⟩
    have hP := HP.out
    rw [textF] at hP
    have hsz := HU.out.size
    have HN : Hid (Calls Tryz.prog 42 #[.pointer (some ⟨cb, 0, none⟩), .int .u8 39] wr (NextIs wr cb s q 0 39)) := next_ok wr cb s q 0 39 HS.out.box
    by_cases h39 : (s.data.toList.drop q).head? = some 39
    · rw [if_pos h39] at hP
      have hq1 := drop_head _ _ _ h39
      rw [hLs] at hq1
      have hN : ∀ r W', NextIs wr cb s q 0 39 r W' → r = .returned (.bool true) ∧ Upd cb wr W' ∧ BoxAt W' cb s (q + 1) 0 := fun r W' hx => by
        unfold NextIs nextP at hx
        rw [if_pos h39, decide_eq_true h39] at hx
        exact hx
      have HNN := Lib.hid hN
      clear h39 hN
      go_wp2_with fail
      refine HN.out.mono ?_
      intro r w3 hx
      obtain ⟨rfl, hu3, hb3⟩ := HNN.out _ _ hx
      have S3 := Lib.hid (HS.out.upd hu3 hb3)
      have U3 := Lib.hid (HU.out.trans hu3)
      have I3 := Lib.hid (isBuilder_upd HI.out hu3 hcb)
      have HL := Lib.hid (bLen_ok W.heap.size W.heap.size _ w3 I3.out)
      rw [Lib.byteCells_length] at HL
      clear hx hu3 hb3
      by_cases hacc : acc = []
      · rw [if_pos hacc] at hP
        subst hacc hP
        have HW := Lib.hid (wrong_ok w3 cb s (q + 1) p 4 S3.out.box hle)
        rw [List.length_nil] at HL
        go_wp2_with fail
        refine HL.out.mono ?_
        rintro e w' ⟨rfl, rfl⟩
        go_wp2_with fail
        refine HW.out.mono ?_
        rintro e w4 ⟨rfl, hu4, hb4⟩
        have S4 := Lib.hid (S3.out.upd hu4 hb4)
        have U4 := Lib.hid (U3.out.trans hu4)
        have I4 := Lib.hid (isBuilder_upd I3.out hu4 hcb)
        have hs4 := U4.out.size
        clear hu4 hb4
        go_wp2_with fail
        refine (bString_ok W.heap.size W.heap.size [] w4 I4.out hs4).mono ?_
        rintro e w5 ⟨rfl, _, hb5, _⟩
        go_wp2_with fail
        go_ret
        exact ⟨⟨#[]⟩, rfl, rfl, U4.out.more hb5 (Nat.le_refl _), S4.out.below hb5 hcb⟩
      · rw [if_neg hacc] at hP
        subst hP
        have hal : acc.length ≠ 0 := fun e => hacc (List.length_eq_zero_iff.1 e)
        have hs3 := U3.out.size
        clear hacc
        go_wp2_with fail
        refine HL.out.mono ?_
        rintro e w' ⟨rfl, rfl⟩
        go_wp2_with fail
        refine (bString_ok W.heap.size W.heap.size acc _ I3.out hs3).mono ?_
        rintro e w5 ⟨rfl, _, hb5, _⟩
        go_wp2_with fail
        go_ret
        exact ⟨⟨acc.toArray⟩, rfl, rfl, U3.out.more hb5 (Nat.le_refl _), S3.out.below hb5 hcb⟩
    · rw [if_neg h39] at hP
      have hN : ∀ r W', NextIs wr cb s q 0 39 r W' → r = .returned (.bool false) ∧ Upd cb wr W' ∧ BoxAt W' cb s q 0 := fun r W' hx => by
        unfold NextIs nextP at hx
        rw [if_neg h39, decide_eq_false h39] at hx
        exact hx
      have HNN := Lib.hid hN
      clear h39 hN
      go_wp2_with fail
      refine HN.out.mono ?_
      intro r w3 hx
      obtain ⟨rfl, hu3, hb3⟩ := HNN.out _ _ hx
      have S3 := Lib.hid (HS.out.upd hu3 hb3)
      have U3 := Lib.hid (HU.out.trans hu3)
      have I3 := Lib.hid (isBuilder_upd HI.out hu3 hcb)
      clear hx hu3 hb3
      have hR := rune_ok w3 cb s { data := #[39] } q S3.out (by decide) (by decide)
      rw [show ({ data := #[39] } : ByteArray).data.toList = [39] from rfl] at hR
      have hin := runeF_in [39] (s.data.toList.drop q)
      rw [List.length_drop, hLs] at hin
      generalize runeF [39] (s.data.toList.drop q) = o at *
      have HR := Lib.hid hR
      clear hR
      go_wp2_with fail
      refine HR.out.mono ?_
      rintro e w4 ⟨rfl, hu4, hS4⟩
      have U4 := Lib.hid (U3.out.trans hu4)
      have I4 := Lib.hid (isBuilder_upd I3.out hu4 hcb)
      have S4 := Lib.hid hS4
      clear hu4 hS4
      rcases o with _ | ⟨r, n⟩
      · simp only at hP
        subst hP
        simp only [Option.getD_none, Nat.add_zero] at S4
        have HW := Lib.hid (wrong_ok w4 cb s q p 4 S4.out.box hle)
        clear hin
        go_wp2_with fail
        refine HW.out.mono ?_
        rintro e w5 ⟨rfl, hu5, hb5⟩
        go_wp2_with fail
        go_ret
        exact ⟨⟨#[]⟩, rfl, rfl, U4.out.trans hu5, S4.out.upd hu5 hb5⟩
      · simp only at hP
        simp only [Option.getD_some] at S4
        obtain ⟨hn1, hn2, hn3⟩ := hin r n rfl
        have hr2 : r ≤ 1114111 := by
          have hv : (0 ≤ (r : Int) ∧ (r : Int) < 0xD800) ∨ (0xDFFF < (r : Int) ∧ (r : Int) ≤ 0x10FFFF) := of_decide_eq_true hn3
          omega
        have hbl : (bytesOf (r : Int)).length ≤ 4 := by
          rw [← bytes_rune r hn3]
          have := Lib.runeCells_le (r : Int)
          rw [Lib.runeCells_length] at this
          exact this.2
        have hs4 := U4.out.size
        have HW := Lib.hid (writeRune_ok W.heap.size W.heap.size (Lib.byteCells acc) (r : Int) (by omega) (by omega) w4 I4.out (by rw [Lib.byteCells_length]; omega) hs4)
        rw [← Lib.byteCells_encodeRune, bytes_rune r hn3, ← Lib.byteCells_append] at HW
        have HP := Lib.hid hP
        clear hin hn3 hP
        go_wp2_with fail
        refine HW.out.mono ?_
        rintro e w5 ⟨rfl, hb5, hlo5, _⟩
        have S5 := Lib.hid (S4.out.below hlo5 hcb)
        have U5 := Lib.hid (U4.out.more hlo5 (Nat.le_refl _))
        have I5 := Lib.hid hb5
        clear hb5 hlo5
        go_wp2_with fail
        have hmu5 := S5.out.box.pos
        exact ⟨⟨q + n, k, acc ++ bytesOf (r : Int), S5, U5, .inr I5.out, by omega, by omega, by rw [List.length_append]; omega, HP.out⟩, by rw [hmu5, hmu]; omega⟩
end Go.Proofs.YtdgkpmpakkfgbaaGreatDoor
