/- The document's set. -/
import Derived.Test.YtdgkpmpakkfgbaaGreatDoorScR8
namespace Go.Proofs.YtdgkpmpakkfgbaaGreatDoor
open Go.RowKit

/-- what the document's set answers -/
def RSetIs (t : Nat × Nat × List (Nat × Nat)) (W : World) (e : Ending) (W' : World) : Prop :=
  ∃ v, (t.2.1 = 0 → RangesV W' W.heap.size v t.2.2) ∧ (∃ a n c, v = .slice a n c) ∧ e = .returned (.tuple #[v, .int .i64 (if t.2.1 = 0 then (t.1 : Int) else -1)]) ∧ Below W.heap.size W W'

theorem has_head (l : List UInt8) (c : UInt8) : Lib.hasPrefix l [c] = decide (l.head? = some c) := by
  unfold Lib.hasPrefix
  cases l with
  | nil => rfl
  | cons d t =>
    by_cases hc : d = c
    · subst hc
      rw [List.isPrefixOf]
      simp
    · rw [List.isPrefixOf, beq_eq_false_iff_ne.2 (Ne.symm hc), Bool.false_and]
      exact (decide_eq_false (by simpa using hc)).symm
theorem loose_below {W W' : World} {base e size n : Nat} {v : Value} {xs : List Value} (h : looseRow W base e size v n xs) (hg : Below W.heap.size W W') : looseRow W' base e size v n xs := by
  refine ⟨h.1, h.2.imp id ?_⟩
  rintro ⟨g, cap, cur, h1, h2, h3, h4, h5, h6, h7⟩
  have hlt : g < W.heap.size := (Array.getElem?_eq_some_iff.1 h3).1
  exact ⟨g, cap, cur, h1, h2, (hg.block g hlt).trans h3, h4, h5, h6, h7⟩

set_option maxHeartbeats 8000000 in
set_option maxRecDepth 20000 in
theorem r2set_ok (s : ByteArray) (q : Nat) (W : World) (hs : s.size ≤ 65536) (hq : q < s.size) : Calls Tryz.prog 21 #[.string s, .int .i64 q] W (RSetIs (setF s.data.toList q (s.size + 1) (q + 1) []) W) := by
  obtain ⟨T, hT⟩ : ∃ T, setF s.data.toList q (s.size + 1) (q + 1) [] = T := ⟨_, rfl⟩
  rw [hT]
  have HT := Lib.hid hT
  clear hT
  go_enter Tryz.func21, Tryz.ntmps21
  go_wp2_with fail
  go_loopw [1, 6] (fun vp vo wr => ∃ (p k : Nat) (acc : List (Nat × Nat)), vp = .int .i64 p ∧ Hid (RangesV wr W.heap.size vo acc) ∧ p ≤ s.size ∧ s.size < p + k ∧ acc.length ≤ p ∧ Hid (setF s.data.toList q k p acc = T) ∧ Hid (Below W.heap.size W wr)) (fun vp _ _ => s.size - (intOf vp).toNat)
  case atStart => exact ⟨q + 1, s.size + 1, [], by go_num, ⟨rfl, .inl ⟨rfl, rfl⟩⟩, by omega, by omega, by simp, HT, Lib.hid (Below.refl _ _)⟩
  case round =>
    obtain ⟨p, k, acc, rfl, HR, hp, hk, hacc, HF, HB⟩ := hrel
    obtain ⟨k, rfl⟩ : ∃ j, k = j + 1 := ⟨k - 1, by omega⟩
    have hB := fun w => begins_ok s { data := #[93] } p w hp hs (by decide)
    rw [show (({ data := #[93] } : ByteArray).data.toList) = [93] from rfl] at hB
    have hf := HF.out
    rw [setF] at hf
    have hhd := has_head (s.data.toList.drop p) 93
    obtain ⟨va, vc, hv⟩ : ∃ a c, u6 = .slice a acc.length c := by
      rcases HR.out.2 with ⟨rfl, hn⟩ | ⟨g, cap, cur, hv, _⟩
      · exact ⟨none, 0, by rw [hn]⟩
      · exact ⟨_, _, hv⟩
    subst hv
    by_cases h93 : (s.data.toList.drop p).head? = some 93
    · rw [if_pos h93] at hf
      rw [hhd, decide_eq_true h93] at hB
      have HBG := Lib.hid hB
      clear hB hhd h93
      by_cases ha : acc = []
      · subst ha
        rw [if_pos rfl] at hf
        subst hf
        go_wp2_with fail
        refine (HBG.out _).mono ?_
        rintro e w ⟨rfl, rfl⟩
        go_wp2_with fail
        go_ret2
        exact ⟨_, fun h => absurd h (by simp), ⟨_, _, _, rfl⟩, rfl, HB.out⟩
      · rw [if_neg ha] at hf
        subst hf
        have hal : acc.length ≠ 0 := fun e => ha (List.length_eq_zero_iff.1 e)
        have hal2 : ((acc.length : Int) == 0) = false := by rw [beq_eq_false_iff_ne]; omega
        clear ha
        go_wp2_with fail
        refine (HBG.out _).mono ?_
        rintro e w ⟨rfl, rfl⟩
        go_wp2_with fail
        go_ret2
        exact ⟨_, fun _ => HR.out, ⟨_, _, _, rfl⟩, rfl, HB.out⟩
    · rw [if_neg h93] at hf
      rw [hhd, decide_eq_false h93] at hB
      have hO := fun w => r2one_ok s p true w hs hp
      rw [show butOf true = [91, 93, 45] from rfl] at hO
      have HBG := Lib.hid hB
      clear hB hhd h93
      unfold rangeF at hf
      cases hr : runeF [91, 93, 45] (s.data.toList.drop p) with
      | none =>
        rw [hr] at hO hf
        simp only at hf
        subst hf
        have HO := Lib.hid hO
        clear hO hr
        go_wp2_with fail
        refine (HBG.out _).mono ?_
        rintro e w ⟨rfl, rfl⟩
        go_wp2_with fail
        refine (HO.out _).mono ?_
        rintro e w2 ⟨rfl, hb⟩
        go_wp2_with fail
        go_ret2
        exact ⟨_, fun h => absurd h (by simp), ⟨_, _, _, rfl⟩, rfl, HB.out.trans (hb.mono (by have := HB.out.size; omega))⟩
      | some x =>
        obtain ⟨r, n⟩ := x
        have hin := runeF_in _ _ _ _ hr
        rw [List.length_drop, ← Lib.size_eq] at hin
        rw [hr] at hO hf
        simp only at hf
        obtain ⟨hi1, hi2, hi3⟩ := hin
        have hr2 := valid_small r hi3
        have hpn : p + n ≤ s.size := by omega
        have hB2 := fun w => begins_ok s { data := #[45] } (p + n) w hpn hs (by decide)
        rw [show (({ data := #[45] } : ByteArray).data.toList) = [45] from rfl, has_head] at hB2
        have HO := Lib.hid hO
        clear hO hr hi3
        have d1 : ¬ ((p : Int) + n < 0) := by omega
        by_cases h45 : (s.data.toList.drop (p + n)).head? = some 45
        · rw [if_pos h45] at hf
          rw [decide_eq_true h45] at hB2
          have hq1 := drop_head _ _ _ h45
          rw [← Lib.size_eq] at hq1
          have hO2 := fun w => r2one_ok s (p + n + 1) true w hs (by omega)
          rw [show butOf true = [91, 93, 45] from rfl] at hO2
          have hB2 : ∀ w, Calls Tryz.prog 22 #[.string s, .int .i64 ((p : Int) + n), .string { data := #[45] }] w (fun e W' => e = .returned (.bool true) ∧ W' = w) := hB2
          have hO2 : ∀ w, Calls Tryz.prog 35 #[.string s, .int .i64 ((p : Int) + n + 1), .bool true] w (ROneIs (runeF [91, 93, 45] (s.data.toList.drop (p + n + 1))) (p + n + 1) w) := hO2
          have HB2 := Lib.hid hB2
          clear hB2 h45
          cases hr3 : runeF [91, 93, 45] (s.data.toList.drop (p + n + 1)) with
          | none =>
            rw [hr3] at hO2 hf
            simp only at hf
            subst hf
            have HO2 := Lib.hid hO2
            clear hO2 hr3
            go_wp2_with fail
            refine (HBG.out _).mono ?_
            rintro e w ⟨rfl, rfl⟩
            go_wp2_with fail
            refine (HO.out _).mono ?_
            rintro e w2 ⟨rfl, hb⟩
            simp only [Option.getD]
            go_wp2_with fail
            refine (HB2.out _).mono ?_
            rintro e w3 ⟨rfl, rfl⟩
            go_wp2_with fail
            refine (HO2.out _).mono ?_
            rintro e w4 ⟨rfl, hb4⟩
            simp only [Option.getD]
            go_wp2_with fail
            go_ret2
            exact ⟨_, fun h => absurd h (by simp), ⟨_, _, _, rfl⟩, rfl, (HB.out.trans (hb.mono (by have := HB.out.size; omega))).trans (hb4.mono (by have := HB.out.size; have := hb.size; omega))⟩
          | some y =>
            obtain ⟨r2, m⟩ := y
            have hin2 := runeF_in _ _ _ _ hr3
            rw [List.length_drop, ← Lib.size_eq] at hin2
            rw [hr3] at hO2 hf
            simp only at hf
            obtain ⟨hj1, hj2, hj3⟩ := hin2
            have hr4 := valid_small r2 hj3
            have d2 : ¬ ((p : Int) + n + 1 + m < 0) := by omega
            have HO2 := Lib.hid hO2
            clear hO2 hr3 hj3
            by_cases hlt : r2 < r
            · rw [if_pos hlt] at hf
              simp only at hf
              subst hf
              have hlt2 : (r2 : Int) < (r : Int) := by omega
              clear hlt
              go_wp2_with fail
              refine (HBG.out _).mono ?_
              rintro e w ⟨rfl, rfl⟩
              go_wp2_with fail
              refine (HO.out _).mono ?_
              rintro e w2 ⟨rfl, hb⟩
              simp only [Option.getD]
              go_wp2_with fail
              refine (HB2.out _).mono ?_
              rintro e w3 ⟨rfl, rfl⟩
              go_wp2_with fail
              refine (HO2.out _).mono ?_
              rintro e w4 ⟨rfl, hb4⟩
              simp only [Option.getD]
              go_wp2_with fail
              go_ret2
              exact ⟨_, fun h => absurd h (by simp), ⟨_, _, _, rfl⟩, rfl, (HB.out.trans (hb.mono (by have := HB.out.size; omega))).trans (hb4.mono (by have := HB.out.size; have := hb.size; omega))⟩
            · rw [if_neg hlt] at hf
              simp only at hf
              have HPP := Lib.hid hf
              have hlt2 : (r : Int) ≤ (r2 : Int) := by omega
              clear hlt hf
              go_wp2_with fail
              refine (HBG.out _).mono ?_
              rintro e w ⟨rfl, rfl⟩
              go_wp2_with fail
              refine (HO.out _).mono ?_
              rintro e w2 ⟨rfl, hb⟩
              simp only [Option.getD]
              go_wp2_with fail
              refine (HB2.out _).mono ?_
              rintro e w3 ⟨rfl, rfl⟩
              go_wp2_with fail
              refine (HO2.out _).mono ?_
              rintro e w4 ⟨rfl, hb4⟩
              simp only [Option.getD]
              have B4 := Lib.hid ((HB.out.trans (hb.mono (by have := HB.out.size; omega))).trans (hb4.mono (by have := HB.out.size; have := hb.size; omega)))
              have R4 := Lib.hid (loose_below (loose_below HR.out hb) hb4)
              clear hb hb4
              obtain ⟨w5, hw5⟩ : ∃ w5, w4.alloc (.cells #[.int .i32 (r : Nat), .int .i32 (r2 : Nat)] 40) = w5 := ⟨_, rfl⟩
              have g5 : Grew w4 w5 := hw5 ▸ grew_alloc w4 _
              have o5 : Owns w5 w4.heap.size [.int .i32 (r : Nat), .int .i32 (r2 : Nat)] 40 := hw5 ▸ Owns.alloc w4 _ _
              have B5 := Lib.hid (B4.out.trans (g5.mono (by have := B4.out.size; omega)))
              have R5 : Hid (RangesV w5 W.heap.size (.slice va acc.length vc) acc) := loose_below R4.out g5
              have HNS := Lib.hid (owns_two o5)
              have H63 := Lib.hid (show acc.length + 1 ≤ maxLen by unfold maxLen; omega)
              have H64 := Lib.hid (show (acc.length + 1) * 8 ≤ 140737488355328 by omega)
              have HLIM := Lib.hid B5.out.size
              have HOWN5 := Lib.hid (loose_own R5.out)
              obtain ⟨i0, hi0, hz0, hz1, hz2⟩ := info_parts info_range
              have HI0 := Lib.hid hi0
              have HZ0 := Lib.hid hz0
              have HZ1 := Lib.hid hz1
              have HZ2 := Lib.hid hz2
              clear g5 o5 hi0 hz0 hz1 hz2
              go_wp2_with (at_builtin; refine wpList_append_loose w5 rfl _ _ 36 rfl W.heap.size 40 i0 _ 2 8 Tryz.underlying36 HI0.out HZ0.out HZ1.out HZ2.out rfl (by decide) _ acc.length (rangeCells acc) rfl R5.out ⟨w4.heap.size, 0, none⟩ 1 1 [.int .i32 (r : Nat), .int .i32 (r2 : Nat)] rfl rfl HNS.out (fun u hu => by simp only [List.mem_cons, List.not_mem_nil, or_false] at hu; rcases hu with rfl | rfl <;> rfl) (by decide) H63.out H64.out HLIM.out _ rfl ?_; intro gb cap w6 hown hgrow _ _; have HOWN := Lib.hid hown; have HGROW := Lib.hid hgrow; clear hown hgrow)
              have hb6 := below_grown HGROW.out HOWN5.out HLIM.out
              have R6 : Hid (RangesV w6 W.heap.size (.slice (some ⟨gb, 0, none⟩) (acc.length + 1) cap) (acc ++ [(r, r2)])) := by
                unfold RangesV Hid
                rw [rangeCells_snoc, List.length_append, List.length_singleton]
                exact HOWN.out
              refine ⟨⟨p + n + 1 + m, k, acc ++ [(r, r2)], by go_num, R6, by omega, by omega, by rw [List.length_append, List.length_singleton]; omega, HPP, Below.trans B5.out hb6⟩, ?_⟩
              rw [show ((p : Int) + n + 1 + m) = ((p + n + 1 + m : Nat) : Int) from by go_num]
              simp only [intOf]
              omega
        · rw [if_neg h45] at hf
          rw [decide_eq_false h45] at hB2
          have hB2 : ∀ w, Calls Tryz.prog 22 #[.string s, .int .i64 ((p : Int) + n), .string { data := #[45] }] w (fun e W' => e = .returned (.bool false) ∧ W' = w) := hB2
          simp only at hf
          have HPP := Lib.hid hf
          have HB2 := Lib.hid hB2
          clear hB2 h45 hf
          go_wp2_with fail
          refine (HBG.out _).mono ?_
          rintro e w ⟨rfl, rfl⟩
          go_wp2_with fail
          refine (HO.out _).mono ?_
          rintro e w2 ⟨rfl, hb⟩
          simp only [Option.getD]
          have B4 := Lib.hid (HB.out.trans (hb.mono (by have := HB.out.size; omega)))
          have R4 := Lib.hid (loose_below HR.out hb)
          clear hb
          go_wp2_with fail
          refine (HB2.out _).mono ?_
          rintro e w3 ⟨rfl, rfl⟩
          obtain ⟨w5, hw5⟩ : ∃ w5, w3.alloc (.cells #[.int .i32 (r : Nat), .int .i32 (r : Nat)] 40) = w5 := ⟨_, rfl⟩
          have g5 : Grew w3 w5 := hw5 ▸ grew_alloc w3 _
          have o5 : Owns w5 w3.heap.size [.int .i32 (r : Nat), .int .i32 (r : Nat)] 40 := hw5 ▸ Owns.alloc w3 _ _
          have B5 := Lib.hid (B4.out.trans (g5.mono (by have := B4.out.size; omega)))
          have R5 : Hid (RangesV w5 W.heap.size (.slice va acc.length vc) acc) := loose_below R4.out g5
          have HNS := Lib.hid (owns_two o5)
          have H63 := Lib.hid (show acc.length + 1 ≤ maxLen by unfold maxLen; omega)
          have H64 := Lib.hid (show (acc.length + 1) * 8 ≤ 140737488355328 by omega)
          have HLIM := Lib.hid B5.out.size
          have HOWN5 := Lib.hid (loose_own R5.out)
          obtain ⟨i0, hi0, hz0, hz1, hz2⟩ := info_parts info_range
          have HI0 := Lib.hid hi0
          have HZ0 := Lib.hid hz0
          have HZ1 := Lib.hid hz1
          have HZ2 := Lib.hid hz2
          clear g5 o5 hi0 hz0 hz1 hz2
          go_wp2_with (at_builtin; refine wpList_append_loose w5 rfl _ _ 36 rfl W.heap.size 40 i0 _ 2 8 Tryz.underlying36 HI0.out HZ0.out HZ1.out HZ2.out rfl (by decide) _ acc.length (rangeCells acc) rfl R5.out ⟨w3.heap.size, 0, none⟩ 1 1 [.int .i32 (r : Nat), .int .i32 (r : Nat)] rfl rfl HNS.out (fun u hu => by simp only [List.mem_cons, List.not_mem_nil, or_false] at hu; rcases hu with rfl | rfl <;> rfl) (by decide) H63.out H64.out HLIM.out _ rfl ?_; intro gb cap w6 hown hgrow _ _; have HOWN := Lib.hid hown; have HGROW := Lib.hid hgrow; clear hown hgrow)
          have hb6 := below_grown HGROW.out HOWN5.out HLIM.out
          have R6 : Hid (RangesV w6 W.heap.size (.slice (some ⟨gb, 0, none⟩) (acc.length + 1) cap) (acc ++ [(r, r)])) := by
            unfold RangesV Hid
            rw [rangeCells_snoc, List.length_append, List.length_singleton]
            exact HOWN.out
          refine ⟨⟨p + n, k, acc ++ [(r, r)], by go_num, R6, by omega, by omega, by rw [List.length_append, List.length_singleton]; omega, HPP, Below.trans B5.out hb6⟩, ?_⟩
          rw [show ((p : Int) + n) = ((p + n : Nat) : Int) from by go_num]
          simp only [intOf]
          omega
end Go.Proofs.YtdgkpmpakkfgbaaGreatDoor
