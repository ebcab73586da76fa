/- A set between brackets. -/
import Derived.Test.YtdgkpmpakkfgbaaGreatDoorScText
import Derived.Test.YtdgkpmpakkfgbaaGreatDoorPRow
import Derived.Lib.SliceRun
namespace Go.Proofs.YtdgkpmpakkfgbaaGreatDoor
open Go.RowKit

def rangeCells : List (Nat × Nat) → List Value
  | [] => []
  | (a, b) :: l => .int .i32 (a : Nat) :: .int .i32 (b : Nat) :: rangeCells l
theorem rangeCells_snoc (l : List (Nat × Nat)) (a b : Nat) : rangeCells (l ++ [(a, b)]) = rangeCells l ++ [.int .i32 (a : Nat), .int .i32 (b : Nat)] := by
  induction l with
  | nil => rfl
  | cons x l ih =>
    obtain ⟨c, d⟩ := x
    simp [rangeCells, ih]
theorem info_range : (Tryz.prog.info? 40).map (fun i => (i.zero, i.size, i.bytes)) = some (some (.agg #[.int .i32 0, .int .i32 0]), 2, 8) := by kernel_rfl
/-- a row of ranges -/
def RangesV (W : World) (base : Nat) (v : Value) (l : List (Nat × Nat)) : Prop := looseRow W base 40 2 v l.length (rangeCells l)
theorem loose_upd {W W' : World} {base e size n t : Nat} {v : Value} {xs : List Value} (h : looseRow W base e size v n xs) (hg : Upd t W W') (ht : t < base) : looseRow W' base e size v n xs := by
  refine ⟨h.1, h.2.imp id ?_⟩
  rintro ⟨g, cap, cur, h1, h2, h3, h4, h5, h6, h7⟩
  have hlt : g < W.heap.size := (Array.getElem?_eq_some_iff.1 h3).1
  exact ⟨g, cap, cur, h1, h2, (hg.block g hlt (by omega)).trans h3, h4, h5, h6, h7⟩
theorem loose_own {W : World} {base e size n : Nat} {v : Value} {xs : List Value} (h : looseRow W base e size v n xs) : ∀ k, v.ownBlock = some k → base ≤ k := by
  intro k hk
  rcases h.2 with ⟨rfl, _⟩ | ⟨g, cap, cur, rfl, h2, _⟩
  · simp [Value.ownBlock] at hk
  · simp only [Value.ownBlock, Option.some.injEq] at hk
    omega
theorem below_grown {B : Nat} {w w' : World} {row : Option Nat} (hg : w.grownBy w' row) (h : ∀ k, row = some k → B ≤ k) (hB : B ≤ w.heap.size) : Below B w w' :=
  ⟨hg.os, hg.tape, hg.output, hg.size, fun k hk => hg.block k (by omega) (fun e => by
    have := h k e.symm
    omega)⟩
theorem next_yes {W W' : World} {cb p e : Nat} {s : ByteArray} {c : UInt8} {r : Ending} (hx : NextIs W cb s p e c r W') (h : (s.data.toList.drop p).head? = some c) : r = .returned (.bool true) ∧ Upd cb W W' ∧ BoxAt W' cb s (p + 1) e := by
  unfold NextIs nextP at hx
  rw [if_pos h, decide_eq_true h] at hx
  exact hx
theorem next_no {W W' : World} {cb p e : Nat} {s : ByteArray} {c : UInt8} {r : Ending} (hx : NextIs W cb s p e c r W') (h : ¬ (s.data.toList.drop p).head? = some c) : r = .returned (.bool false) ∧ Upd cb W W' ∧ BoxAt W' cb s p e := by
  unfold NextIs nextP at hx
  rw [if_neg h, decide_eq_false h] at hx
  exact hx
theorem valid_small (r : Nat) (h : Lib.validRune (r : Int) = true) : r ≤ 1114111 := by
  have hv : (0 ≤ (r : Int) ∧ (r : Int) < 0xD800) ∨ (0xDFFF < (r : Int) ∧ (r : Int) ≤ 0x10FFFF) := of_decide_eq_true h
  omega
theorem owns_two {W : World} {b T : Nat} {x y : Value} (h : Owns W b [x, y] T) : ∀ (j : Nat) u, [x, y][j]? = some u → W.cell? ((⟨b, 0, none⟩ : Addr).add j) = some u := by
  intro j u hj
  have := h.cell_at hj
  rw [show (⟨b, 0, none⟩ : Addr).add j = ⟨b, j, none⟩ by unfold Addr.add; split <;> simp_all]
  exact this

set_option maxHeartbeats 2000000 in
theorem clipR_ok (W : World) (base n : Nat) (v : Value) (cs : List Value) (hn : n ≤ 1048576) (h : looseRow W base 40 2 v n cs) :
    Calls Tryz.prog 47 #[v] W (fun e W' => (∃ u, e = .returned u ∧ looseRow W base 40 2 u n cs) ∧ W = W') := by
  rcases h.2 with ⟨rfl, rfl⟩ | ⟨b, cap, cur, rfl, h1, h2, h3, h4, h5, h6⟩
  · have HL : Hid (looseRow W base 40 2 (.slice none 0 0) 0 cs) := Lib.hid h
    clear h
    go_enter Tryz.func47, Tryz.ntmps47
    go_wp2
    go_ret
    exact ⟨⟨_, rfl, HL.out⟩, rfl⟩
  · have HL : Hid (looseRow W base 40 2 (.slice (some ⟨b, 0, none⟩) n n) n cs) := ⟨h.1, .inr ⟨b, _, cur, rfl, h1, h2, Nat.le_refl _, Nat.le_trans h3 h4, Nat.le_trans (Nat.mul_le_mul_right _ h3) h5, h6⟩⟩
    unfold maxLen at h4
    clear h h2 h5 h6
    go_enter Tryz.func47, Tryz.ntmps47
    go_wp2
    go_ret
    exact ⟨⟨_, rfl, HL.out⟩, rfl⟩

/-- what the set tells -/
def SetIs (W : World) (cb : Nat) (s : ByteArray) (P : Nat × Nat × List (Nat × Nat)) (r : Ending) (W' : World) : Prop :=
  ∃ v, (P.2.1 = 0 → RangesV W' W.heap.size v P.2.2) ∧ (∃ a n c, v = .slice a n c) ∧ GoesTo W cb s P.1 P.2.1 v r W'

set_option maxHeartbeats 8000000 in
set_option maxRecDepth 20000 in
theorem set_ok (W : World) (cb : Nat) (s : ByteArray) (p : Nat) (h : ScanAt W cb s p 0) (hp : p < s.size) :
    Calls Tryz.prog 32 #[.pointer (some ⟨cb, 0, none⟩)] W (SetIs W cb s (setF s.data.toList p (s.data.toList.length + 1) (p + 1) [])) := by
  have hle := h.box.le
  have hfew := h.box.few
  have hLs : s.data.toList.length = s.size := (Lib.size_eq s).symm
  have c1 := h.box.c1
  have fr := h.box.fr
  have hcb := h.box.owns.lt
  have H := Lib.hid h
  obtain ⟨P0, hP0⟩ : ∃ x, setF s.data.toList p (s.data.toList.length + 1) (p + 1) [] = x := ⟨_, rfl⟩
  rw [hP0]
  have P1 := Lib.hid (H.out.put (Upd.refl cb W) (p + 1) ((p : Int) + 1) (by omega) (by omega))
  clear h
  go_enter Tryz.func32, Tryz.ntmps32
  go_wp2_with fail
  clear c1 fr
  generalize W.setCell ⟨cb, 1, none⟩ (.int .i64 ((p : Int) + 1)) = w2 at *
  go_loopw [2] (fun vo wr => ∃ (q k : Nat) (acc : List (Nat × Nat)), Hid (ScanAt wr cb s q 0) ∧ Hid (Upd cb W wr) ∧ Hid (RangesV wr W.heap.size vo acc) ∧ q ≤ s.size ∧ s.size < q + k ∧ acc.length ≤ q ∧ Hid (setF s.data.toList p k q acc = P0)) (fun _ wr => s.size - boxPos wr cb)
  case atStart =>
    exact ⟨p + 1, _, [], P1.out.2, P1.out.1, ⟨rfl, .inl ⟨rfl, rfl⟩⟩, by omega, by omega, by simp, hP0⟩
  case round =>
    obtain ⟨q, k, acc, HS, HU, HR, hq, hk, hac, HP⟩ := hrel
    clear P1 H hP0
    have hmu := HS.out.box.pos
    obtain ⟨k, rfl⟩ : ∃ k', k = k' + 1 := ⟨k - 1, by omega⟩
    have hP := HP.out
    rw [setF] at hP
    clear HP
    have hsz := HU.out.size
    have HN : Hid (Calls Tryz.prog 42 #[.pointer (some ⟨cb, 0, none⟩), .int .u8 93] wr (NextIs wr cb s q 0 93)) := next_ok wr cb s q 0 93 HS.out.box
    by_cases h93 : (s.data.toList.drop q).head? = some 93
    · rw [if_pos h93] at hP
      have H93 := Lib.hid h93
      have HPP := Lib.hid hP
      clear h93 hP
      go_wp2_with fail
      refine HN.out.mono ?_
      intro r w3 hx
      obtain ⟨rfl, hu3, hb3⟩ := next_yes hx H93.out
      have S3 := Lib.hid (HS.out.upd hu3 hb3)
      have U3 := Lib.hid (HU.out.trans hu3)
      have R3 := Lib.hid (loose_upd HR.out hu3 hcb)
      obtain ⟨va, vc, hv⟩ : ∃ a c, u2 = .slice a acc.length c := by
        rcases HR.out.2 with ⟨rfl, hn⟩ | ⟨g, cap, cur, hv, _⟩
        · exact ⟨none, 0, by rw [hn]⟩
        · exact ⟨_, _, hv⟩
      subst hv
      clear hx hu3 hb3
      by_cases hacc : acc = []
      · have hP := HPP.out
        rw [if_pos hacc] at hP
        subst hacc
        subst hP
        have HW := Lib.hid (wrong_ok w3 cb s (q + 1) p 4 S3.out.box hle)
        clear HPP
        go_wp2_with fail
        refine HW.out.mono ?_
        rintro e w4 ⟨rfl, hu4, hb4⟩
        have S4 := Lib.hid (S3.out.upd hu4 hb4)
        have U4 := Lib.hid (U3.out.trans hu4)
        have R4 := loose_upd R3.out hu4 hcb
        have HC := Lib.hid (clipR_ok w4 W.heap.size 0 _ _ (by omega) R4)
        clear hu4 hb4 R4
        go_wp2_with fail
        refine HC.out.mono ?_
        rintro e w5 ⟨⟨u, rfl, hu⟩, rfl⟩
        obtain ⟨ua, uc, rfl⟩ : ∃ a c, u = .slice a 0 c := by
          rcases hu.2 with ⟨rfl, hn⟩ | ⟨g, cap, cur, hv, _⟩
          · exact ⟨none, 0, rfl⟩
          · exact ⟨_, _, hv⟩
        clear hu
        go_wp2_with fail
        go_ret
        exact ⟨_, fun h => absurd h (by simp), ⟨_, _, _, rfl⟩, rfl, U4.out, S4.out⟩
      · have hP := HPP.out
        rw [if_neg hacc] at hP
        subst hP
        have hal : acc.length ≠ 0 := fun e => hacc (List.length_eq_zero_iff.1 e)
        have HC := Lib.hid (clipR_ok w3 W.heap.size acc.length _ _ (by omega) R3.out)
        clear HPP hacc
        go_wp2_with fail
        refine HC.out.mono ?_
        rintro e w5 ⟨⟨u, rfl, hu⟩, rfl⟩
        have HUU := Lib.hid hu
        obtain ⟨ua, uc, rfl⟩ : ∃ a c, u = .slice a acc.length c := by
          rcases hu.2 with ⟨rfl, hn⟩ | ⟨g, cap, cur, hv, _⟩
          · exact ⟨none, 0, by rw [hn]⟩
          · exact ⟨_, _, hv⟩
        clear hu
        go_wp2_with fail
        go_ret
        exact ⟨_, fun _ => HUU.out, ⟨_, _, _, rfl⟩, rfl, U3.out, S3.out⟩
    · rw [if_neg h93] at hP
      have H93 := Lib.hid h93
      have hin := runeF_in [91, 93, 45] (s.data.toList.drop q)
      rw [List.length_drop, hLs] at hin
      have hP2 := hP
      unfold rangeF at hP2
      clear h93 hP
      go_wp2_with fail
      refine HN.out.mono ?_
      intro r w3 hx
      obtain ⟨rfl, hu3, hb3⟩ := next_no hx H93.out
      have S3 := Lib.hid (HS.out.upd hu3 hb3)
      have U3 := Lib.hid (HU.out.trans hu3)
      have R3 := Lib.hid (loose_upd HR.out hu3 hcb)
      clear hx hu3 hb3
      have hR := rune_ok w3 cb s { data := #[91, 93, 45] } q S3.out (by decide) (by decide)
      rw [show ({ data := #[91, 93, 45] } : ByteArray).data.toList = [91, 93, 45] from rfl] at hR
      generalize runeF [91, 93, 45] (s.data.toList.drop q) = o at *
      have HRU := Lib.hid hR
      have HPP := Lib.hid hP2
      have HIN := Lib.hid hin
      clear hR hP2 hin
      go_wp2_with fail
      refine HRU.out.mono ?_
      rintro e w4 ⟨rfl, hu4, hS4⟩
      have U4 := Lib.hid (U3.out.trans hu4)
      have R4 := Lib.hid (loose_upd R3.out hu4 hcb)
      have S4 := Lib.hid hS4
      clear hu4 hS4
      rcases o with _ | ⟨r, n⟩
      · have hP := HPP.out
        simp only at hP
        subst hP
        simp only [Option.getD_none, Nat.add_zero] at S4
        have HW := Lib.hid (wrong_ok w4 cb s q p 4 S4.out.box hle)
        clear HPP HIN
        go_wp2_with fail
        refine HW.out.mono ?_
        rintro e w5 ⟨rfl, hu5, hb5⟩
        go_wp2_with fail
        go_ret
        exact ⟨_, fun h => absurd h (by simp), ⟨_, _, _, rfl⟩, rfl, U4.out.trans hu5, S4.out.upd hu5 hb5⟩
      · obtain ⟨hn1, hn2, hn3⟩ := HIN.out r n rfl
        have hr2 := valid_small r hn3
        simp only [Option.getD_some] at S4
        have hP := HPP.out
        simp only at hP
        have HN4 : Hid (Calls Tryz.prog 42 #[.pointer (some ⟨cb, 0, none⟩), .int .u8 45] w4 (NextIs w4 cb s (q + n) 0 45)) := next_ok w4 cb s (q + n) 0 45 S4.out.box
        have hqn : q + n ≤ s.size := by omega
        have hin2 := runeF_in [91, 93, 45] (s.data.toList.drop (q + n + 1))
        rw [List.length_drop, hLs] at hin2
        have HIN2 := Lib.hid hin2
        clear HPP HIN hn3 hin2
        by_cases h45 : (s.data.toList.drop (q + n)).head? = some 45
        · rw [if_pos h45] at hP
          have hq1 := drop_head _ _ _ h45
          rw [hLs] at hq1
          have H45 := Lib.hid h45
          have HPP := Lib.hid hP
          clear h45 hP
          go_wp2_with fail
          refine HN4.out.mono ?_
          intro r5 w5 hx
          obtain ⟨rfl, hu5, hb5⟩ := next_yes hx H45.out
          have S5 := Lib.hid (S4.out.upd hu5 hb5)
          have U5 := Lib.hid (U4.out.trans hu5)
          have R5 := Lib.hid (loose_upd R4.out hu5 hcb)
          clear hx hu5 hb5
          have hR := rune_ok w5 cb s { data := #[91, 93, 45] } (q + n + 1) S5.out (by decide) (by decide)
          rw [show ({ data := #[91, 93, 45] } : ByteArray).data.toList = [91, 93, 45] from rfl] at hR
          generalize runeF [91, 93, 45] (s.data.toList.drop (q + n + 1)) = o2 at *
          have HR2 := Lib.hid hR
          clear hR
          go_wp2_with fail
          refine HR2.out.mono ?_
          rintro e w6 ⟨rfl, hu6, hS6⟩
          have U6 := Lib.hid (U5.out.trans hu6)
          have R6 := Lib.hid (loose_upd R5.out hu6 hcb)
          have S6 := Lib.hid hS6
          clear hu6 hS6
          rcases o2 with _ | ⟨r2, n2⟩
          · have hP := HPP.out
            simp only at hP
            subst hP
            simp only [Option.getD_none, Nat.add_zero] at S6
            have HW := Lib.hid (wrong_ok w6 cb s (q + n + 1) p 4 S6.out.box hle)
            clear HPP HIN2
            go_wp2_with fail
            refine HW.out.mono ?_
            rintro e w7 ⟨rfl, hu7, hb7⟩
            go_wp2_with fail
            go_ret
            exact ⟨_, fun h => absurd h (by simp), ⟨_, _, _, rfl⟩, rfl, U6.out.trans hu7, S6.out.upd hu7 hb7⟩
          · obtain ⟨hm1, hm2, hm3⟩ := HIN2.out r2 n2 rfl
            have hr3 := valid_small r2 hm3
            simp only [Option.getD_some] at S6
            have hP := HPP.out
            simp only at hP
            clear HPP HIN2 hm3
            by_cases hlt : r2 < r
            · rw [if_pos hlt] at hP
              simp only at hP
              subst hP
              have HW := Lib.hid (wrong_ok w6 cb s (q + n + 1 + n2) p 4 S6.out.box hle)
              have hlt2 : (r2 : Int) < (r : Int) := by omega
              clear hlt
              go_wp2_with fail
              refine HW.out.mono ?_
              rintro e w7 ⟨rfl, hu7, hb7⟩
              go_wp2_with fail
              go_ret
              exact ⟨_, fun h => absurd h (by simp), ⟨_, _, _, rfl⟩, rfl, U6.out.trans hu7, S6.out.upd hu7 hb7⟩
            · rw [if_neg hlt] at hP
              simp only at hP
              have HPP := Lib.hid hP
              have hlt2 : (r : Int) ≤ (r2 : Int) := by omega
              clear hlt hP
              obtain ⟨w8, hw8⟩ : ∃ w8, w6.alloc (.cells #[.int .i32 (r : Nat), .int .i32 (r2 : Nat)] 40) = w8 := ⟨_, rfl⟩
              have g6 : Grew w6 w8 := hw8 ▸ grew_alloc w6 _
              have o6 : Owns w8 w6.heap.size [.int .i32 (r : Nat), .int .i32 (r2 : Nat)] 40 := hw8 ▸ Owns.alloc w6 _ _
              have S8 := Lib.hid (S6.out.keep g6)
              have U8 := Lib.hid (U6.out.trans (g6.upd cb))
              have R8 : Hid (RangesV w8 W.heap.size u2 acc) := loose_upd R6.out (g6.upd cb) hcb
              have HNS := Lib.hid (owns_two o6)
              have H63 := Lib.hid (show acc.length + 1 ≤ maxLen by unfold maxLen; omega)
              have H64 := Lib.hid (show (acc.length + 1) * 8 ≤ 140737488355328 by omega)
              have HLIM := Lib.hid U8.out.size
              have HOWN6 := Lib.hid (loose_own R8.out)
              obtain ⟨i0, hi0, hz0, hz1, hz2⟩ := info_parts info_range
              have HI0 := Lib.hid hi0
              have HZ0 := Lib.hid hz0
              have HZ1 := Lib.hid hz1
              have HZ2 := Lib.hid hz2
              clear g6 o6 hi0 hz0 hz1 hz2
              go_wp2_with (at_builtin; refine wpList_append_loose w8 rfl _ _ 36 rfl W.heap.size 40 i0 _ 2 8 Tryz.underlying36 HI0.out HZ0.out HZ1.out HZ2.out rfl (by decide) _ acc.length (rangeCells acc) rfl R8.out ⟨w6.heap.size, 0, none⟩ 1 1 [.int .i32 (r : Nat), .int .i32 (r2 : Nat)] rfl rfl HNS.out (fun u hu => by simp only [List.mem_cons, List.not_mem_nil, or_false] at hu; rcases hu with rfl | rfl <;> rfl) (by decide) H63.out H64.out HLIM.out _ rfl ?_; intro gb cap w9 hown hgrow _ _; have HOWN := Lib.hid hown; have HGROW := Lib.hid hgrow; clear hown hgrow)
              have hb7 := below_grown HGROW.out HOWN6.out HLIM.out
              have S7 := Lib.hid (S8.out.below hb7 hcb)
              have U7 := Lib.hid (U8.out.more hb7 (Nat.le_refl _))
              have hmu7 := S7.out.box.pos
              have R7 : Hid (RangesV w9 W.heap.size (.slice (some ⟨gb, 0, none⟩) (acc.length + 1) cap) (acc ++ [(r, r2)])) := by
                unfold RangesV Hid
                rw [rangeCells_snoc, List.length_append, List.length_singleton]
                exact HOWN.out
              exact ⟨⟨q + n + 1 + n2, k, acc ++ [(r, r2)], S7, U7, R7, by omega, by omega, by rw [List.length_append, List.length_singleton]; omega, HPP⟩, by rw [hmu7, hmu]; omega⟩
        · rw [if_neg h45] at hP
          simp only at hP
          have H45 := Lib.hid h45
          have HPP := Lib.hid hP
          clear h45 hP
          go_wp2_with fail
          refine HN4.out.mono ?_
          intro r5 w5 hx
          obtain ⟨rfl, hu5, hb5⟩ := next_no hx H45.out
          have S5 := Lib.hid (S4.out.upd hu5 hb5)
          have U5 := Lib.hid (U4.out.trans hu5)
          have R5 := Lib.hid (loose_upd R4.out hu5 hcb)
          clear hx hu5 hb5 HIN2
          obtain ⟨w6, hw6⟩ : ∃ w6, w5.alloc (.cells #[.int .i32 (r : Nat), .int .i32 (r : Nat)] 40) = w6 := ⟨_, rfl⟩
          have g6 : Grew w5 w6 := hw6 ▸ grew_alloc w5 _
          have o6 : Owns w6 w5.heap.size [.int .i32 (r : Nat), .int .i32 (r : Nat)] 40 := hw6 ▸ Owns.alloc w5 _ _
          have S6 := Lib.hid (S5.out.keep g6)
          have U6 := Lib.hid (U5.out.trans (g6.upd cb))
          have R6 : Hid (RangesV w6 W.heap.size u2 acc) := loose_upd R5.out (g6.upd cb) hcb
          have HNS := Lib.hid (owns_two o6)
          have H63 := Lib.hid (show acc.length + 1 ≤ maxLen by unfold maxLen; omega)
          have H64 := Lib.hid (show (acc.length + 1) * 8 ≤ 140737488355328 by omega)
          have HLIM := Lib.hid U6.out.size
          have HOWN6 := Lib.hid (loose_own R6.out)
          obtain ⟨i0, hi0, hz0, hz1, hz2⟩ := info_parts info_range
          have HI0 := Lib.hid hi0
          have HZ0 := Lib.hid hz0
          have HZ1 := Lib.hid hz1
          have HZ2 := Lib.hid hz2
          clear g6 o6 hi0 hz0 hz1 hz2
          go_wp2_with (at_builtin; refine wpList_append_loose w6 rfl _ _ 36 rfl W.heap.size 40 i0 _ 2 8 Tryz.underlying36 HI0.out HZ0.out HZ1.out HZ2.out rfl (by decide) _ acc.length (rangeCells acc) rfl R6.out ⟨w5.heap.size, 0, none⟩ 1 1 [.int .i32 (r : Nat), .int .i32 (r : Nat)] rfl rfl HNS.out (fun u hu => by simp only [List.mem_cons, List.not_mem_nil, or_false] at hu; rcases hu with rfl | rfl <;> rfl) (by decide) H63.out H64.out HLIM.out _ rfl ?_; intro gb cap w7 hown hgrow _ _; have HOWN := Lib.hid hown; have HGROW := Lib.hid hgrow; clear hown hgrow)
          have hb7 := below_grown HGROW.out HOWN6.out HLIM.out
          have S7 := Lib.hid (S6.out.below hb7 hcb)
          have U7 := Lib.hid (U6.out.more hb7 (Nat.le_refl _))
          have hmu7 := S7.out.box.pos
          have R7 : Hid (RangesV w7 W.heap.size (.slice (some ⟨gb, 0, none⟩) (acc.length + 1) cap) (acc ++ [(r, r)])) := by
            unfold RangesV Hid
            rw [rangeCells_snoc, List.length_append, List.length_singleton]
            exact HOWN.out
          exact ⟨⟨q + n, k, acc ++ [(r, r)], S7, U7, R7, by omega, by omega, by rw [List.length_append, List.length_singleton]; omega, HPP⟩, by rw [hmu7, hmu]; omega⟩
end Go.Proofs.YtdgkpmpakkfgbaaGreatDoor
