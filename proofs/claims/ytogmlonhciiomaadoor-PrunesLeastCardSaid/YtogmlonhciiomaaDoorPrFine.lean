/- prunes.fine, prunes.May. -/
import Derived.Test.YtogmlonhciiomaaDoorPrFun
namespace Go.Proofs.YtogmlonhciiomaaDoor
open Go.RowKit

theorem info_pint : (Tryd.prog.info? 3).map (fun i => (i.zero, i.size, i.bytes)) = some (some (.int .i64 0), 1, 8) := by kernel_rfl
theorem pmade_ones (z : Value) (n : Nat) : madeCells #[z] n = (List.replicate n z).toArray := by
  apply Array.toList_inj.1
  rw [toList_madeCells_one]
theorem pmake_ints (n : Nat) (hn : n ≤ 1048576) (u : World) : (Instr.makeSlice 26 (.int .i64 (n : Int)) (.int .i64 (n : Int))).run Tryd.prog u =
    .ok (.slice (some ⟨u.heap.size, 0, none⟩) n n) (u.alloc (.cells (List.replicate n (.int .i64 0)).toArray 3)) := by
  obtain ⟨i0, hi, hz0, hz1, hz2⟩ := info_parts info_pint
  have h := run_make (P := Tryd.prog) u 26 3 i0 (.int .i64 0) Tryd.underlying26 hi hz0 .i64 .i64 (n : Int) (n : Int) (by omega) (Int.le_refl _) (by rw [hz2]; omega) (by omega)
  rw [Int.toNat_natCast, hz1, Nat.mul_one] at h
  rw [h, ← pmade_ones]
  rfl
/-- numbers, the first j of them laid -/
def laidTo (l : List Int) (j : Nat) : List Value := (l.take j).map (Value.int .i64) ++ List.replicate (l.length - j) (.int .i64 0)
theorem laidTo_zero (l : List Int) : laidTo l 0 = List.replicate l.length (.int .i64 0) := by simp [laidTo]
theorem laidTo_all (l : List Int) : laidTo l l.length = l.map (Value.int .i64) := by simp [laidTo]
theorem laidTo_set (l : List Int) (j : Nat) (hj : j < l.length) : (laidTo l j).set j (.int .i64 l[j]) = laidTo l (j + 1) := by
  unfold laidTo
  have h1 : ((l.take j).map (Value.int .i64)).length = j := by simp; omega
  rw [List.set_append_right _ _ (by omega), h1, Nat.sub_self]
  obtain ⟨m, hm⟩ : ∃ m, l.length - j = m + 1 := ⟨l.length - j - 1, by omega⟩
  rw [hm, List.replicate_succ, List.set_cons_zero, List.take_succ_eq_append_getElem hj, List.map_append, List.append_assoc, show l.length - (j + 1) = m by omega]
  rfl
theorem laidTo_len (l : List Int) (j : Nat) (hj : j ≤ l.length) : (laidTo l j).length = l.length := by simp [laidTo]; omega
theorem ints_of_owns {W : World} {b : Nat} {l : List Int} {T : Nat} (h : Owns W b (l.map (Value.int .i64)) T) {c : Nat} (hc : l.length ≤ c) : IntsV W W.heap.size (.slice (some ⟨b, 0, none⟩) l.length c) l :=
  ⟨_, _, rfl, hc, fun k hk => ⟨b, 0, rfl, h.lt, by rw [Nat.zero_add]; exact h.cell_at (by simp [hk])⟩⟩

theorem lenz {α : Type} (l : List α) : ((l.length : Int) == 0) = decide (l.length = 0) := by
  rw [Bool.eq_iff_iff, beq_iff_eq, decide_eq_true_iff]; omega
theorem fineB_edge {s : Stt} {n al tk : Int} {j : Nat} (hj : j < s.edges.length) (h : s.edges[j].tgt < 0 ∨ n ≤ s.edges[j].tgt) : s.fineB n al tk = false := by
  have : s.edges.all (fun e => decide (0 ≤ e.tgt) && decide (e.tgt < n)) = false := by
    rw [List.all_eq_false]
    refine ⟨_, List.getElem_mem hj, ?_⟩
    simp only [Bool.and_eq_true, decide_eq_true_eq]
    omega
  simp [Stt.fineB, this]
theorem fineB_rest {s : Stt} {n al tk : Int} (h : ∀ j (hj : j < s.edges.length), 0 ≤ s.edges[j].tgt ∧ s.edges[j].tgt < n) : s.fineB n al tk = (riseB s.alts 0 al && riseB (s.edges.map (·.tok)) (-1) tk &&
    (if s.kind = 0 then s.alts.isEmpty else if s.kind = 1 then s.alts.length == 1 && s.edges.isEmpty else if s.kind = 3 then decide (1 < s.alts.length) && s.edges.isEmpty else s.kind == 2 && s.alts.isEmpty && s.edges.isEmpty)) := by
  have : s.edges.all (fun e => decide (0 ≤ e.tgt) && decide (e.tgt < n)) = true := by
    rw [List.all_eq_true]
    intro e he
    obtain ⟨j, hj, rfl⟩ := List.mem_iff_getElem.1 he
    simpa using h j hj
  simp only [Stt.fineB, this, Bool.true_and]

set_option maxHeartbeats 2000000 in
set_option maxRecDepth 20000 in
theorem pfine_ok (s : Stt) (n al tk : Int) (hal : al ≤ 1000000) (htk : tk ≤ 1000000) (W : World) (v0 v1 v2 : Value) (hS : SttV .u8 W W.heap.size v0 v1 v2 s) (hl1 : s.alts.length ≤ 1048576) (hl2 : s.edges.length ≤ 1048576) :
    Calls Tryd.prog 31 #[.agg #[v0, v1, v2], .int .i64 n, .int .i64 al, .int .i64 tk] W fun e W' => e = .returned (.bool (s.fineB n al tk)) ∧ Grew W W' := by
  obtain ⟨rfl, hA, hE⟩ := hS
  have hA2 := hA
  obtain ⟨a1, c1, hv1, hc1, hA⟩ := hA
  obtain ⟨a2, c2, rfl, hc2, hE⟩ := hE
  obtain ⟨w1, hw1⟩ : ∃ w1, W.alloc (.cells #[.int .u8 s.kind, .slice a1 s.alts.length c1, .slice a2 s.edges.length c2] 51) = w1 := ⟨_, rfl⟩
  obtain ⟨w2, hw2⟩ : ∃ w2, w1.alloc (.cells (List.replicate s.edges.length (.int .i64 0)).toArray 3) = w2 := ⟨_, rfl⟩
  have g1 : Grew W w1 := hw1 ▸ grew_alloc W _
  have z1 : w1.heap.size = W.heap.size + 1 := by rw [← hw1]; simp
  have o1 : Owns w1 W.heap.size [.int .u8 s.kind, .slice a1 s.alts.length c1, .slice a2 s.edges.length c2] 51 := hw1 ▸ Owns.alloc W _ _
  have g2 : Grew w1 w2 := hw2 ▸ grew_alloc w1 _
  have o2 : Owns w2 (W.heap.size + 1) (laidTo (s.edges.map (·.tok)) 0) 3 := by rw [laidTo_zero, List.length_map, ← z1, ← hw2]; exact Owns.alloc w1 _ _
  have hmk := pmake_ints s.edges.length hl2 w1
  rw [hw2, z1] at hmk
  have d0 := (o1.keep g2).cell_at (i := 0) rfl
  have d1 := (o1.keep g2).cell_at (i := 1) rfl
  have d2 := (o1.keep g2).cell_at (i := 2) rfl
  have c00 := o1.cell_at (i := 0) rfl
  have c01 := o1.cell_at (i := 1) rfl
  have c02 := o1.cell_at (i := 2) rfl
  have HA2 := Lib.hid hA2
  have HG := Lib.hid (g1.trans g2)
  have HO := Lib.hid o2
  have z2 : W.heap.size + 1 < w2.heap.size := o2.lt
  have HL := Lib.hid o1
  clear g1 g2 o1 o2 hA hA2
  subst hv1
  go_enter Tryd.func31, Tryd.ntmps31
  go_wp2_with fail
  go_loopw [19] (fun i wr => ∃ j : Nat, i = .int .i64 j ∧ j ≤ s.edges.length ∧ Hid (Owns wr (W.heap.size + 1) (laidTo (s.edges.map (·.tok)) j) 3) ∧ Hid (Below (W.heap.size + 1) w2 wr) ∧ Hid (∀ i (hi : i < s.edges.length), i < j → 0 ≤ s.edges[i].tgt ∧ s.edges[i].tgt < n)) (fun i _ => s.edges.length - (intOf i).toNat)
  case atStart => exact ⟨0, rfl, by omega, HO.out, Below.refl _ _, fun i hi h => absurd h (by omega)⟩
  case round =>
    obtain ⟨j, rfl, hj, HO, HB, HT⟩ := hrel
    have hgw : Grew W wr := Below.trans (B := W.heap.size) HG.out (HB.out.mono (Nat.le_succ _))
    by_cases hlt : j < s.edges.length
    · obtain ⟨b, off, rfl, hb, e0, e1⟩ := hE j hlt
      have f0 : wr.cell? ⟨b, off + j * 2, none⟩ = some (.int .i64 s.edges[j].tok) := by rw [hgw.cells _ _ hb]; exact e0
      have f1 : wr.cell? ⟨b, off + j * 2 + 1, none⟩ = some (.int .i64 s.edges[j].tgt) := by rw [hgw.cells _ _ hb]; exact e1
      obtain ⟨w3, hw3⟩ : ∃ w3, wr.alloc (.cells #[.int .i64 s.edges[j].tok, .int .i64 s.edges[j].tgt] 53) = w3 := ⟨_, rfl⟩
      have g3 : Grew wr w3 := hw3 ▸ grew_alloc wr _
      have o3 : Owns w3 wr.heap.size [.int .i64 s.edges[j].tok, .int .i64 s.edges[j].tgt] 53 := hw3 ▸ Owns.alloc wr _ _
      have hB3 := HO.out.keep g3
      have hjl : j < (laidTo (s.edges.map (·.tok)) j).length := by rw [laidTo_len _ _ (by simpa using hj)]; simpa using hlt
      obtain ⟨x, hx⟩ : ∃ x, (laidTo (s.edges.map (·.tok)) j)[j]? = some x := ⟨_, List.getElem?_eq_getElem hjl⟩
      have p1 := hB3.cell_at hx
      have p2 := hB3.free j
      have hne : wr.heap.size ≠ W.heap.size + 1 := by have := HO.out.lt; omega
      obtain ⟨w4, hw4⟩ : ∃ w4, w3.setCell ⟨W.heap.size + 1, j, none⟩ (.int .i64 s.edges[j].tok) = w4 := ⟨_, rfl⟩
      have o4 : Owns w4 (W.heap.size + 1) (laidTo (s.edges.map (·.tok)) (j + 1)) 3 := by
        rw [← hw4]
        have := hB3.set j (.int .i64 s.edges[j].tok)
        have e := laidTo_set (s.edges.map (·.tok)) j (by simpa using hlt)
        rw [List.getElem_map] at e
        rw [e] at this
        exact this
      have o5 : Owns w4 wr.heap.size [.int .i64 s.edges[j].tok, .int .i64 s.edges[j].tgt] 53 := by
        rw [← hw4]; exact o3.other (fun e => hne e.symm) _
      have q0 := o3.cell_at (i := 0) rfl
      have q1 := o5.cell_at (i := 1) rfl
      have hB4 : Below (W.heap.size + 1) w2 w4 := by
        rw [← hw4]
        exact (HB.out.trans (g3.mono (by have := HO.out.lt; omega))).setCell (Nat.le_refl _) _
      have HG4 := Lib.hid (show Grew W w4 from Below.trans (B := W.heap.size) HG.out (hB4.mono (Nat.le_succ _)))
      have HO4 := Lib.hid o4
      have HB4 := Lib.hid hB4
      clear o4 o5 hB4 g3 o3 hB3 hx hjl e0 e1 hE hgw HO HB hne d0 d1 d2 c00 c01 c02 hmk
      generalize hk0 : s.edges[j].tok = tok at *
      generalize hk1 : s.edges[j].tgt = tgt at *
      have HK1 := Lib.hid hk1
      clear hk0 hk1
      by_cases t0 : tgt < 0
      · have t0' : decide (tgt < 0) = true := by simpa using t0
        go_wp2_with fail
        go_ret
        exact ⟨ret_bool (fineB_edge hlt (by rw [HK1.out]; exact .inl t0)).symm, HG4.out⟩
      · have t0' : decide (tgt < 0) = false := by simpa using t0
        by_cases t1 : n ≤ tgt
        · have t1' : decide (n ≤ tgt) = true := by simpa using t1
          go_wp2_with fail
          go_ret
          exact ⟨ret_bool (fineB_edge hlt (by rw [HK1.out]; exact .inr t1)).symm, HG4.out⟩
        · have t1' : decide (n ≤ tgt) = false := by simpa using t1
          go_wp2_with fail
          go_round
          case rel =>
            exact ⟨j + 1, by go_num, by omega, HO4.out, HB4.out, fun i hi h => by
              by_cases e : i = j
              · subst e; rw [HK1.out]; omega
              · exact HT.out i hi (by omega)⟩
          case measure => simp [intOf]; omega
    · have hje : j = s.edges.length := by omega
      subst hje
      have HF := Lib.hid (fineB_rest (s := s) (al := al) (tk := tk) fun j hj => HT.out j hj hj)
      have k0 : wr.cell? ⟨W.heap.size, 0, none⟩ = some (.int .u8 s.kind) := by rw [HB.out.cell (p := ⟨W.heap.size, 0, none⟩) (Nat.lt_succ_self _)]; exact d0
      have k1 : wr.cell? ⟨W.heap.size, 1, none⟩ = some (.slice a1 s.alts.length c1) := by rw [HB.out.cell (p := ⟨W.heap.size, 1, none⟩) (Nat.lt_succ_self _)]; exact d1
      have k2 : wr.cell? ⟨W.heap.size, 2, none⟩ = some (.slice a2 s.edges.length c2) := by rw [HB.out.cell (p := ⟨W.heap.size, 2, none⟩) (Nat.lt_succ_self _)]; exact d2
      have HC1 := Lib.hid (prising_ok s.alts 0 al (by omega) (by omega) (by omega) wr _ (by unfold reachN; omega) (HA2.out.grew hgw))
      have HC2 := Lib.hid (prising_ok (s.edges.map (·.tok)) (-1) tk (by omega) (by omega) (by omega) wr (.slice (some ⟨W.heap.size + 1, 0, none⟩) s.edges.length s.edges.length) (by unfold reachN; simp; omega) (by
        have h := HO.out
        have e := laidTo_all (s.edges.map (·.tok))
        rw [List.length_map] at e
        rw [e] at h
        have := ints_of_owns h (c := s.edges.length) (by simp)
        rwa [List.length_map] at this))
      have HGW := Lib.hid hgw
      clear d0 d1 d2 c00 c01 c02 hmk hE HO HB HT HA2 HG HL hgw z1 z2 hw1 hw2 hlt hj
      generalize riseB (s.edges.map (·.tok)) (-1) tk = r2 at *
      generalize riseB s.alts 0 al = r1 at *
      obtain ⟨kd, hkd⟩ : ∃ kd, s.kind = kd := ⟨_, rfl⟩
      have ia : s.alts.isEmpty = decide (s.alts.length = 0) := by cases s.alts <;> simp
      have ie : s.edges.isEmpty = decide (s.edges.length = 0) := by cases s.edges <;> simp
      have HFF : Hid (s.fineB n al tk = (r1 && r2 && (if kd = 0 then decide (s.alts.length = 0) else if kd = 1 then s.alts.length == 1 && decide (s.edges.length = 0) else if kd = 3 then decide (1 < s.alts.length) && decide (s.edges.length = 0) else kd == 2 && decide (s.alts.length = 0) && decide (s.edges.length = 0)))) := Lib.hid (by
        rw [HF.out, hkd, ia, ie])
      clear HF ia ie
      rw [hkd] at k0
      clear hkd
      cases r1
      · go_wp2_with fail
        refine HC1.out.mono ?_
        rintro e w' ⟨rfl, rfl⟩
        go_wp2_with fail
        go_ret
        exact ⟨ret_bool (by rw [HFF.out]; rfl), HGW.out⟩
      · go_wp2_with fail
        refine HC1.out.mono ?_
        rintro e w' ⟨rfl, rfl⟩
        go_wp2_with fail
        refine HC2.out.mono ?_
        rintro e w' ⟨rfl, rfl⟩
        clear HC1 HC2
        cases r2
        · go_wp2_with fail
          go_ret
          exact ⟨ret_bool (by rw [HFF.out]; rfl), HGW.out⟩
        · rw [Bool.true_and, Bool.true_and] at HFF
          by_cases h0 : kd = 0
          · subst h0
            rw [if_pos rfl] at HFF
            have t0 : ((0 : Int) == 0) = true := rfl
            go_wp2_with fail
            go_ret
            exact ⟨ret_bool (by rw [HFF.out, lenz]), HGW.out⟩
          · rw [if_neg h0] at HFF
            have t0 : (kd == 0) = false := by simpa using h0
            clear h0
            by_cases h1 : kd = 1
            · subst h1
              rw [if_pos rfl] at HFF
              by_cases n1 : s.alts.length = 1
              · have n1' : ((s.alts.length : Int) == 1) = true := beq_iff_eq.2 (by omega)
                have N1 := Lib.hid n1
                clear n1
                go_wp2_with fail
                go_ret
                exact ⟨ret_bool (by rw [HFF.out]; simp [N1.out, lenz]), HGW.out⟩
              · have n1' : ((s.alts.length : Int) == 1) = false := beq_eq_false_iff_ne.2 (by omega)
                have N1 := Lib.hid n1
                clear n1
                go_wp2_with fail
                go_ret
                exact ⟨ret_bool (by rw [HFF.out]; simp [N1.out]), HGW.out⟩
            · rw [if_neg h1] at HFF
              have t1 : (kd == 1) = false := by simpa using h1
              clear h1
              by_cases h3 : kd = 3
              · subst h3
                rw [if_pos rfl] at HFF
                by_cases n1 : 1 < s.alts.length
                · have n1' : (1 : Int) < s.alts.length := by omega
                  go_wp2_with fail
                  go_ret
                  exact ⟨ret_bool (by rw [HFF.out]; simp [n1, lenz]), HGW.out⟩
                · have n1' : decide ((1 : Int) < s.alts.length) = false := by simp; omega
                  have N1 := Lib.hid n1
                  clear n1
                  go_wp2_with fail
                  go_ret
                  exact ⟨ret_bool (by rw [HFF.out]; simp [N1.out]), HGW.out⟩
              · rw [if_neg h3] at HFF
                have t3 : (kd == 3) = false := by simpa using h3
                clear h3
                by_cases h2 : kd = 2
                · subst h2
                  by_cases n1 : s.alts.length = 0
                  · have n1' : ((s.alts.length : Int) == 0) = true := beq_iff_eq.2 (by omega)
                    have N1 := Lib.hid n1
                    clear n1
                    go_wp2_with fail
                    go_ret
                    exact ⟨ret_bool (by rw [HFF.out]; simp [N1.out, lenz]), HGW.out⟩
                  · have n1' : ((s.alts.length : Int) == 0) = false := beq_eq_false_iff_ne.2 (by omega)
                    have N1 := Lib.hid n1
                    clear n1
                    go_wp2_with fail
                    go_ret
                    exact ⟨ret_bool (by rw [HFF.out]; simp [N1.out]), HGW.out⟩
                · have t2 : (kd == 2) = false := by simpa using h2
                  clear h2
                  have T2 := Lib.hid t2
                  go_wp2_with fail
                  go_ret
                  exact ⟨ret_bool (by rw [HFF.out, T2.out]; rfl), HGW.out⟩

theorem pMay1_ok (s : Stt) (n al tk : Int) (hal : al ≤ 1000000) (htk : tk ≤ 1000000) (W : World) (v0 v1 v2 : Value) (b0 b1 b2 : Nat) (h0 : W.cell? ⟨b0, 0, none⟩ = some (.int .i64 n)) (h1 : W.cell? ⟨b1, 0, none⟩ = some (.int .i64 al)) (h2 : W.cell? ⟨b2, 0, none⟩ = some (.int .i64 tk))
    (hS : SttV .u8 W W.heap.size v0 v1 v2 s) (hl1 : s.alts.length ≤ 1048576) (hl2 : s.edges.length ≤ 1048576) :
    Calls Tryd.prog 30 (#[.agg #[v0, v1, v2]] ++ #[.pointer (some ⟨b0, 0, none⟩), .pointer (some ⟨b1, 0, none⟩), .pointer (some ⟨b2, 0, none⟩)]) W fun e W' => e = .returned (.bool (!s.fineB n al tk)) ∧ Grew W W' := by
  obtain ⟨w1, hw1⟩ : ∃ w1, W.alloc (.cells #[v0, v1, v2] 51) = w1 := ⟨_, rfl⟩
  have g1 : Grew W w1 := hw1 ▸ grew_alloc W _
  have o1 : Owns w1 W.heap.size [v0, v1, v2] 51 := hw1 ▸ Owns.alloc W _ _
  have hb : ∀ {b v}, W.cell? ⟨b, 0, none⟩ = some v → b < W.heap.size := by
    intro b v h
    rcases Nat.lt_or_ge b W.heap.size with g | g
    · exact g
    · simp [World.cell?, Array.getElem?_eq_none g] at h
  have k0 : w1.cell? ⟨b0, 0, none⟩ = some (.int .i64 n) := by rw [g1.cells _ _ (hb h0)]; exact h0
  have k1 : w1.cell? ⟨b1, 0, none⟩ = some (.int .i64 al) := by rw [g1.cells _ _ (hb h1)]; exact h1
  have k2 : w1.cell? ⟨b2, 0, none⟩ = some (.int .i64 tk) := by rw [g1.cells _ _ (hb h2)]; exact h2
  have HC := Lib.hid (pfine_ok s n al tk hal htk w1 v0 v1 v2 (hS.grew g1) hl1 hl2)
  have d0 := o1.cell_at (i := 0) rfl
  have d1 := o1.cell_at (i := 1) rfl
  have d2 := o1.cell_at (i := 2) rfl
  obtain ⟨k, rfl⟩ : ∃ k, v0 = .int .u8 k := ⟨_, hS.1⟩
  obtain ⟨a1, n1, c1, rfl⟩ : ∃ a1 n1 c1, v1 = .slice a1 n1 c1 := by obtain ⟨a, c, h, _⟩ := hS.2.1; exact ⟨_, _, _, h⟩
  obtain ⟨a2, n2, c2, rfl⟩ : ∃ a2 n2 c2, v2 = .slice a2 n2 c2 := by obtain ⟨a, c, h, _⟩ := hS.2.2; exact ⟨_, _, _, h⟩
  have HG := Lib.hid g1
  clear g1 o1 hS h0 h1 h2
  simp only [List.append_toArray, List.cons_append, List.nil_append]
  go_enter Tryd.func30, Tryd.ntmps30
  go_wp2_with fail
  refine HC.out.mono ?_
  rintro e w' ⟨rfl, hb⟩
  go_wp2_with fail
  go_ret
  exact ⟨rfl, HG.out.trans hb⟩

theorem enters30 : Enters 30 := fun _ _ => by kernel_rfl
theorem anyB_not {l : Aut} {p : Stt → Bool} : (!l.any fun s => !p s) = l.all p := by
  induction l with
  | nil => rfl
  | cons x r ih => simp only [List.any_cons, List.all_cons, ← ih]; cases p x <;> simp

set_option maxHeartbeats 1000000 in
theorem pMay_ok (a : Aut) (ha : a.Few) (hn : a.length ≤ reachN) (al tk : Int) (hal : al ≤ 1000000) (htk : tk ≤ 1000000) (W : World) (v : Value) (hA : AutV .u8 W W.heap.size v a) :
    Calls Tryd.prog 15 #[.agg #[v], .int .i64 al, .int .i64 tk] W fun e W' => e = .returned (.bool (a.mayB al tk)) ∧ Grew W W' := by
  have hA2 := hA
  obtain ⟨ad, cap, rfl, hcap, hA⟩ := hA
  obtain ⟨w1, hw1⟩ : ∃ w1, W.alloc (.cells #[.slice ad a.length cap] 24) = w1 := ⟨_, rfl⟩
  obtain ⟨w2, hw2⟩ : ∃ w2, w1.alloc (.cells #[.int .i64 al] 3) = w2 := ⟨_, rfl⟩
  obtain ⟨w3, hw3⟩ : ∃ w3, w2.alloc (.cells #[.int .i64 tk] 3) = w3 := ⟨_, rfl⟩
  obtain ⟨w4, hw4⟩ : ∃ w4, w3.alloc (.cells #[.int .i64 a.length] 3) = w4 := ⟨_, rfl⟩
  have z1 : w1.heap.size = W.heap.size + 1 := by rw [← hw1]; simp
  have z2 : w2.heap.size = W.heap.size + 2 := by rw [← hw2]; simp; omega
  have z3 : w3.heap.size = W.heap.size + 3 := by rw [← hw3]; simp; omega
  have g1 : Grew W w1 := hw1 ▸ grew_alloc W _
  have g2 : Grew w1 w2 := hw2 ▸ grew_alloc w1 _
  have g3 : Grew w2 w3 := hw3 ▸ grew_alloc w2 _
  have g4 : Grew w3 w4 := hw4 ▸ grew_alloc w3 _
  have o1 : Owns w4 W.heap.size [.slice ad a.length cap] 24 := ((hw1 ▸ Owns.alloc W _ _ : Owns w1 W.heap.size [.slice ad a.length cap] 24).keep g2).keep (g3.trans g4)
  have o2 : Owns w4 (W.heap.size + 1) [.int .i64 al] 3 := (z1 ▸ hw2 ▸ Owns.alloc w1 _ _ : Owns w2 (W.heap.size + 1) [.int .i64 al] 3).keep (g3.trans g4)
  have o3 : Owns w4 (W.heap.size + 2) [.int .i64 tk] 3 := (z2 ▸ hw3 ▸ Owns.alloc w2 _ _ : Owns w3 (W.heap.size + 2) [.int .i64 tk] 3).keep g4
  have o4 : Owns w4 (W.heap.size + 3) [.int .i64 a.length] 3 := z3 ▸ hw4 ▸ Owns.alloc w3 _ _
  have hG := ((g1.trans g2).trans (g3.trans g4))
  have HC := Lib.hid (pcontS_ok a (fun s => !s.fineB a.length al tk) 30 #[.pointer (some ⟨W.heap.size + 3, 0, none⟩), .pointer (some ⟨W.heap.size + 1, 0, none⟩), .pointer (some ⟨W.heap.size + 2, 0, none⟩)] enters30 w4 _ hn (hA2.grew hG) (fun i hi W' v0 v1 v2 hg hs =>
    pMay1_ok a[i] a.length al tk hal htk W' v0 v1 v2 _ _ _ ((o4.keep hg).cell_at (i := 0) rfl) ((o2.keep hg).cell_at (i := 0) rfl) ((o3.keep hg).cell_at (i := 0) rfl) hs (by have := ha.alts _ (List.getElem_mem hi); omega) (by have := ha.edges _ (List.getElem_mem hi); omega)))
  have c1 := o1.cell_at (i := 0) rfl
  have c4 := o4.cell_at (i := 0) rfl
  have d1 : w3.cell? ⟨W.heap.size, 0, none⟩ = some (.slice ad a.length cap) := ((hw1 ▸ Owns.alloc W _ _ : Owns w1 W.heap.size [.slice ad a.length cap] 24).keep (g2.trans g3)).cell_at (i := 0) rfl
  have HG := Lib.hid hG
  clear g1 g2 g3 g4 o1 o2 o3 o4 hA hA2 hG
  unfold reachN at hn
  have hst := ha.states
  by_cases h0 : a.length = 0
  · have HM : Hid (a.mayB al tk = false) := Lib.hid (by simp [Aut.mayB, h0])
    have t0 : decide ((a.length : Int) < 1) = true := by simp; omega
    have H0 := Lib.hid h0
    clear h0
    go_enter Tryd.func15, Tryd.ntmps15
    go_wp2_with fail
    go_ret
    exact ⟨ret_bool HM.out.symm, HG.out⟩
  · have HM : Hid (a.mayB al tk = (!a.any fun s => !s.fineB a.length al tk)) := Lib.hid (by
      rw [anyB_not, Aut.mayB, decide_eq_true (show 1 ≤ a.length by omega), decide_eq_true hst]; rfl)
    have t0 : decide ((a.length : Int) < 1) = false := by simp; omega
    have t1 : decide ((4096 : Int) < a.length) = false := by simp; omega
    go_enter Tryd.func15, Tryd.ntmps15
    go_wp2_with fail
    refine HC.out.mono ?_
    rintro e w' ⟨rfl, hb⟩
    go_wp2_with fail
    go_ret
    exact ⟨ret_bool HM.out.symm, HG.out.trans hb⟩
end Go.Proofs.YtogmlonhciiomaaDoor
