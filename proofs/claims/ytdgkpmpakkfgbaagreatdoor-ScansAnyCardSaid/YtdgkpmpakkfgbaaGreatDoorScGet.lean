/- Words and ranges, cell by cell; are two sets the same? -/
import Derived.Test.YtdgkpmpakkfgbaaGreatDoorScScan
import Derived.Laws.StructEq
namespace Go.Proofs.YtdgkpmpakkfgbaaGreatDoor
open Go.RowKit

theorem text_det {t : ByteArray} {l : List UInt8} (h : t.data.toList = l) : t = ⟨l.toArray⟩ := by
  cases t with
  | mk d => subst h; rfl
theorem WCells.get {W : World} {base : Nat} {l : List UInt8} : ∀ {ws : List Wd} {cs : List Value}, WCells W base l ws cs → ∀ (i : Nat) (h : i < ws.length),
    cs[i * 6]? = some (.int .u8 (ws[i].kind : Nat)) ∧ cs[i * 6 + 1]? = some (.string ⟨ws[i].text.toArray⟩) ∧ (∃ sv, cs[i * 6 + 2]? = some sv ∧ RangesV W base sv ws[i].set) ∧
    cs[i * 6 + 3]? = some (.int .i64 (ws[i].at_ : Nat)) ∧ cs[i * 6 + 4]? = some (.int .i64 ((placeOf (l.take ws[i].at_) 1 1).1 : Nat)) ∧ cs[i * 6 + 5]? = some (.int .i64 ((placeOf (l.take ws[i].at_) 1 1).2 : Nat))
  | [], _, _, i, h => absurd h (by simp)
  | w :: ws, _, h, 0, _ => by
    obtain ⟨t, sv, rest, rfl, h1, h2, h3, h4⟩ := h
    rw [text_det h1]
    exact ⟨rfl, rfl, ⟨sv, rfl, h2⟩, rfl, rfl, rfl⟩
  | w :: ws, _, h, i + 1, hi => by
    obtain ⟨t, sv, rest, rfl, h1, h2, h3, h4⟩ := h
    have := WCells.get h4 i (by simpa using hi)
    simpa [Nat.add_mul, Nat.add_assoc] using this
/-- what stands in a row of words -/
structure WordCell (W : World) (base g i : Nat) (l : List UInt8) (w : Wd) : Prop where
  kind : W.cell? ⟨g, i * 6, none⟩ = some (.int .u8 (w.kind : Nat))
  text : W.cell? ⟨g, i * 6 + 1, none⟩ = some (.string ⟨w.text.toArray⟩)
  set : ∃ sv, W.cell? ⟨g, i * 6 + 2, none⟩ = some sv ∧ RangesV W base sv w.set
  at_ : W.cell? ⟨g, i * 6 + 3, none⟩ = some (.int .i64 (w.at_ : Nat))
  line : W.cell? ⟨g, i * 6 + 4, none⟩ = some (.int .i64 ((placeOf (l.take w.at_) 1 1).1 : Nat))
  col : W.cell? ⟨g, i * 6 + 5, none⟩ = some (.int .i64 ((placeOf (l.take w.at_) 1 1).2 : Nat))
theorem WordsV.get {W : World} {base : Nat} {l : List UInt8} {v : Value} {ws : List Wd} (h : WordsV W base l v ws) (hne : ws ≠ []) : ∃ g c, v = .slice (some ⟨g, 0, none⟩) ws.length c ∧ base ≤ g ∧ g < W.heap.size ∧ ws.length ≤ c ∧ ∀ (i : Nat) (hi : i < ws.length), WordCell W base g i l ws[i] := by
  obtain ⟨cs, h1, h2⟩ := h
  have hpos := List.length_pos_iff.2 hne
  rcases h1.2 with ⟨_, h0⟩ | ⟨g, cap, cur, rfl, hb, hg, hc, hm, hsz, htk⟩
  · omega
  · refine ⟨g, cap, rfl, hb, (Array.getElem?_eq_some_iff.1 hg).1, hc, fun i hi => ?_⟩
    have hl := looseRow_cells h1 (g := g) rfl
    obtain ⟨a1, a2, ⟨sv, a3, a3'⟩, a4, a5, a6⟩ := h2.get i hi
    exact ⟨hl _ _ a1, hl _ _ a2, ⟨sv, hl _ _ a3, a3'⟩, hl _ _ a4, hl _ _ a5, hl _ _ a6⟩
theorem WordCell.grew {W W' : World} {base g i : Nat} {l : List UInt8} {w : Wd} (h : WordCell W base g i l w) (hg : Grew W W') (hlt : g < W.heap.size) : WordCell W' base g i l w := by
  obtain ⟨h1, h2, ⟨sv, h3, h3'⟩, h4, h5, h6⟩ := h
  exact ⟨(hg.cells _ _ hlt).trans h1, (hg.cells _ _ hlt).trans h2, ⟨sv, (hg.cells _ _ hlt).trans h3, loose_grew h3' hg⟩, (hg.cells _ _ hlt).trans h4, (hg.cells _ _ hlt).trans h5, (hg.cells _ _ hlt).trans h6⟩

theorem rangeCells_get : ∀ (l : List (Nat × Nat)) (i : Nat) (h : i < l.length), (rangeCells l)[i * 2]? = some (.int .i32 (l[i].1 : Nat)) ∧ (rangeCells l)[i * 2 + 1]? = some (.int .i32 (l[i].2 : Nat))
  | [], i, h => absurd h (by simp)
  | (a, b) :: l, 0, _ => ⟨rfl, rfl⟩
  | (a, b) :: l, i + 1, h => by
    have := rangeCells_get l i (by simpa using h)
    simpa [rangeCells, Nat.add_mul] using this
theorem RangesV.get {W : World} {base : Nat} {v : Value} {l : List (Nat × Nat)} (h : RangesV W base v l) : ∃ a c, v = .slice a l.length c ∧ l.length ≤ c ∧ ∀ (i : Nat) (_ : i < l.length), ∃ g, a = some ⟨g, 0, none⟩ ∧ g < W.heap.size ∧ W.cell? ⟨g, i * 2, none⟩ = some (.int .i32 (l[i].1 : Nat)) ∧ W.cell? ⟨g, i * 2 + 1, none⟩ = some (.int .i32 (l[i].2 : Nat)) := by
  rcases h.2 with ⟨rfl, h0⟩ | ⟨g, cap, cur, rfl, hb, hg, hc, hm, hsz, htk⟩
  · exact ⟨none, 0, by rw [h0], by omega, fun i hi => by omega⟩
  · have hl := looseRow_cells h (g := g) rfl
    exact ⟨_, _, rfl, hc, fun i hi => ⟨g, rfl, (Array.getElem?_eq_some_iff.1 hg).1, hl _ _ (rangeCells_get l i hi).1, hl _ _ (rangeCells_get l i hi).2⟩⟩

set_option maxHeartbeats 4000000 in
set_option maxRecDepth 20000 in
theorem sameSet_ok (la lb : List (Nat × Nat)) (W : World) (ba bb : Nat) (va vb : Value) (ha : RangesV W ba va la) (hb : RangesV W bb vb lb) (hla : la.length ≤ 1048576) (hlb : lb.length ≤ 1048576) :
    Calls Tryz.prog 8 #[va, vb] W fun e W' => e = .returned (.bool (decide (la = lb))) ∧ Grew W W' := by
  obtain ⟨aa, ca, rfl, hca, hga⟩ := ha.get
  obtain ⟨ab, cb, rfl, hcb, hgb⟩ := hb.get
  obtain ⟨o, ho⟩ : ∃ o, decide (la = lb) = o := ⟨_, rfl⟩
  rw [ho]
  have HO := Lib.hid ho
  have HGA := Lib.hid hga
  have HGB := Lib.hid hgb
  clear ha hb ho hga hgb
  by_cases hl : la.length = lb.length
  · obtain ⟨n, hn⟩ : ∃ n, lb.length = n := ⟨_, rfl⟩
    have hna : la.length = n := hl.trans hn
    rw [hn] at hcb hlb
    rw [hna] at hca hla
    have HL := Lib.hid (And.intro hna hn)
    rw [hn, hna]
    clear hl hn hna
    go_enter Tryz.func8, Tryz.ntmps8
    go_wp2_with fail
    go_loopw [5] (fun v wr => ∃ j : Nat, v = .int .i64 j ∧ j ≤ n ∧ Hid (la.take j = lb.take j) ∧ Hid (Grew W wr)) (fun v _ => n - (intOf v).toNat)
    case atStart => exact ⟨0, rfl, Nat.zero_le _, rfl, Grew.refl _⟩
    case round =>
      obtain ⟨j, rfl, hj, HT, HG⟩ := hrel
      by_cases hlt : j < n
      · obtain ⟨hna, hnb⟩ := HL.out
        have hja : j < la.length := by omega
        have hjb : j < lb.length := by omega
        obtain ⟨ga, rfl, hga, ca0, ca1⟩ := HGA.out j hja
        obtain ⟨gb, rfl, hgb, cb0, cb1⟩ := HGB.out j hjb
        have d0 := (HG.out.cells _ _ hga).trans ca0
        have d1 := (HG.out.cells _ _ hga).trans ca1
        have d2 := (HG.out.cells _ _ hgb).trans cb0
        have d3 := (HG.out.cells _ _ hgb).trans cb1
        have NEXT : la[j] = lb[j] → Hid (la.take (j + 1) = lb.take (j + 1)) := fun h => by
          show la.take (j + 1) = lb.take (j + 1)
          rw [List.take_succ_eq_append_getElem hja, List.take_succ_eq_append_getElem hjb, HT.out, h]
        have STOP : la[j] ≠ lb[j] → o = false := fun h => by
          rw [← HO.out]
          apply decide_eq_false
          rintro rfl
          exact h rfl
        have HN := Lib.hid NEXT
        have HS := Lib.hid STOP
        generalize la[j] = x at *
        generalize lb[j] = y at *
        obtain ⟨x1, x2⟩ := x
        obtain ⟨y1, y2⟩ := y
        simp only at d0 d1 d2 d3
        clear ca0 ca1 cb0 cb1 NEXT STOP hna hnb hja hjb hga hgb
        by_cases h1 : x1 = y1
        · subst h1
          by_cases h2 : x2 = y2
          · subst h2
            have HN2 := HN.out rfl
            have q1 : ((x1 : Int) == (x1 : Int)) = true := beq_self_eq_true _
            have q2 : ((x2 : Int) == (x2 : Int)) = true := beq_self_eq_true _
            clear HN HS
            go_wp2_with fail
            go_quiet (fail)
            go_wp2_with fail
            exact ⟨⟨j + 1, by go_num, by omega, HN2, HG.out.trans (grew_drewN _ _)⟩, by simp [intOf]; omega⟩
          · have ho := HS.out (by simp [h2])
            subst ho
            have q1 : ((x1 : Int) == (x1 : Int)) = true := beq_self_eq_true _
            have q2 : ((x2 : Int) == (y2 : Int)) = false := by rw [beq_eq_false_iff_ne]; omega
            clear HN HS h2
            go_wp2_with fail
            go_quiet (fail)
            go_wp2_with fail
            go_ret
            exact ⟨rfl, HG.out.trans (grew_drewN _ _)⟩
        · have ho := HS.out (by simp [h1])
          subst ho
          have q1 : ((x1 : Int) == (y1 : Int)) = false := by rw [beq_eq_false_iff_ne]; omega
          clear HN HS h1
          go_wp2_with fail
          go_quiet (fail)
          go_wp2_with fail
          go_ret
          exact ⟨rfl, HG.out.trans (grew_drewN _ _)⟩
      · have ho : o = true := by
          rw [← HO.out]
          apply decide_eq_true
          have := HT.out
          obtain ⟨hna, hnb⟩ := HL.out
          rw [List.take_of_length_le (by omega), List.take_of_length_le (by omega)] at this
          exact this
        subst ho
        go_wp2_with fail
        go_ret
        exact ⟨rfl, HG.out⟩
  · have ho : o = false := by
      rw [← HO.out]
      apply decide_eq_false
      rintro rfl
      exact hl rfl
    subst ho
    have hne : ((la.length : Int) == (lb.length : Int)) = false := by rw [beq_eq_false_iff_ne]; omega
    go_enter Tryz.func8, Tryz.ntmps8
    go_wp2_with fail
    go_ret
    exact ⟨rfl, Grew.refl _⟩
end Go.Proofs.YtdgkpmpakkfgbaaGreatDoor
