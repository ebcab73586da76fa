/- follows: low. -/
import Derived.Test.YtldoinfbimelpaaQ11
namespace Go.Proofs.Ytldoinfbimelpaa
open Go.RowKit

def LowOk (V : FV) (S : FS) (n : Nd) : Prop := ∀ (w : World) (v0 v1 v2 v3 v4 : Value), SetsAt w V S → NodeAt w w.heap.size (some v0) (some v1) (some v2) (some v3) (some v4) n →
  Calls Try.prog 21 #[.pointer (some ⟨V.sb, 0, none⟩), .agg #[v0, v1, v2, v3, v4]] w fun e w' => e = .returned (.int .i64 (S.lowN n)) ∧ Grew w w'
theorem max_if (a b : Int) : (if a < b then b else a) = max a b := by
  rw [Int.max_def]
  split <;> split <;> omega

set_option maxHeartbeats 4000000 in
set_option maxRecDepth 20000 in
theorem flow_ok (V : FV) (S : FS) (hw : S.Wf) : ∀ n, LowOk V S n := by
  refine Nd.ind ?_
  intro k nm tx set subs ih wz v0 v1 v2 v3 v4 h hN
  rw [NodeAt] at hN
  obtain ⟨hk, h1, h2, h3, h4, h5, ⟨sa, sc, h6, h6', h7⟩, na, nc, h8, h8', h9⟩ := hN
  obtain rfl := Option.some.inj h3
  obtain rfl := Option.some.inj h4
  obtain rfl := Option.some.inj h5
  obtain rfl := Option.some.inj h6
  obtain rfl := Option.some.inj h8
  clear h3 h4 h5 h6 h7 h8
  obtain ⟨w2, hw1⟩ : ∃ w1, wz.alloc (.cells #[.int .u8 k, .string nm, .string tx, .slice sa set.length sc, .slice na subs.length nc] 26) = w1 := ⟨_, rfl⟩
  have g1 : Grew wz w2 := hw1 ▸ grew_alloc wz _
  have hon : Owns w2 wz.heap.size [.int .u8 k, .string nm, .string tx, .slice sa set.length sc, .slice na subs.length nc] 26 := hw1 ▸ Owns.alloc wz _ _
  have HS := Lib.hid h
  have HS2 := Lib.hid (h.keep g1)
  have HW := Lib.hid hw
  have HG2 := Lib.hid g1
  have H9 := Lib.hid h9
  have HIH : Hid (∀ j (h : j < subs.length), LowOk V S subs[j]) := ih
  have n0 := hon.cell_at (i := 0) rfl
  have n1 := hon.cell_at (i := 1) rfl
  have n4 := hon.cell_at (i := 4) rfl
  have nl := hon.lt
  have HON := Lib.hid hon
  clear h hw g1 h9 ih hon
  unfold reachN at h1 h2 h6' h8'
  obtain ⟨R, hR⟩ : ∃ R, S.lowN (.mk k nm tx set subs) = R := ⟨_, rfl⟩
  have HRR := Lib.hid hR
  have HFIN : Hid (∀ (x : Int) w', x = R → Grew wz w' → Ending.returned (.int .i64 x) = .returned (.int .i64 (S.lowN (.mk k nm tx set subs))) ∧ Grew wz w') := fun x w' hx hg => ⟨by rw [hx, HRR.out], hg⟩
  rw [FS.lowN] at hR
  go_enter Try.func21, Try.ntmps21
  by_cases k6 : k = 6
  · subst k6
    simp only [if_true] at hR
    have HLK := Lib.hid (fun w' (hg : Grew w2 w') => run_str_look (P := Try.prog) (w := w') (t := 29) (nm := nm) (l := S.tokens) Try.underlying29 Try.underlying9 (HS2.out.keep hg).tokens (by kernel_rfl))
    have b1 := HS2.out.box.cell_at (i := 1) rfl
    have bl := HS2.out.box.lt
    go_wp2_with fail
    refine wp_region_hav_lit follows (by kernel_rfl) ?_
    iterate 6 (first
      | (refine HavG.skip (fun _ => rfl) ?_; simp only [Act.put, List.setIfInBounds_toArray, List.set_cons_zero, List.set_cons_succ])
      | (refine HavG.val (fun _ => rfl) ?_ (fun x w hw _ => ?_) ?_; rotate_left; (focus (have hc := hw.cells; clear hw; go_simp; first | done | rfl)); simp only [Act.put, List.setIfInBounds_toArray, List.set_cons_zero, List.set_cons_succ]))
    refine HavG.det (fun _ => rfl) (.tuple #[.int .i64 ((lookB S.tokens nm).getD 0 : Nat), .bool (lookB S.tokens nm).isSome]) (fun x w hw hd => ?_) ?_
    · clear hd
      have HW := Lib.hid hw
      clear hw
      go_simp
      rw [HLK.out w HW.out]
      exact ⟨rfl, Grew.refl _⟩
    simp only [Act.put, List.setIfInBounds_toArray, List.set_cons_zero, List.set_cons_succ]
    repeat (first
      | (refine HavG.skip (fun _ => rfl) ?_; simp only [Act.put, List.setIfInBounds_toArray, List.set_cons_zero, List.set_cons_succ])
      | (refine HavG.val (fun _ => rfl) ?_ (fun x w hw _ => ?_) ?_; rotate_left; (focus (have hc := hw.cells; clear hw; go_simp; first | done | rfl)); simp only [Act.put, List.setIfInBounds_toArray, List.set_cons_zero, List.set_cons_succ]))
    refine HavG.tail (by kernel_rfl) (by kernel_rfl) (fun x w hw _ => ?_)
    have HG3 := Lib.hid (HG2.out.trans hw)
    clear hw HLK b1 bl n0 n1 n4 nl
    cases hq : (lookB S.tokens nm).isSome
    · rw [hq] at hR
      have HR := Lib.hid hR
      clear hR hq
      go_wp2_with fail
      go_ret
      exact HFIN.out _ _ (by rw [← HR.out]; rfl) HG3.out
    · rw [hq] at hR
      have HR := Lib.hid hR
      clear hR hq
      go_wp2_with fail
      go_ret
      exact HFIN.out _ _ (by rw [← HR.out]; rfl) HG3.out
  simp only [if_neg k6] at hR
  have q6 : (k == 6) = false := beq_eq_false_iff_ne.2 k6
  by_cases k2 : k = 2
  · subst k2
    have HR := Lib.hid (show (0 : Int) = R by rw [← hR]; rfl)
    clear hR
    go_wp2_with fail
    go_ret
    exact HFIN.out _ _ HR.out HG2.out
  have q2 : (k == 2) = false := beq_eq_false_iff_ne.2 k2
  by_cases k3 : k = 3
  · subst k3
    have HR := Lib.hid (show (0 : Int) = R by rw [← hR]; rfl)
    clear hR
    go_wp2_with fail
    go_ret
    exact HFIN.out _ _ HR.out HG2.out
  have q3 : (k == 3) = false := beq_eq_false_iff_ne.2 k3
  by_cases k7 : k = 7
  · subst k7
    have HR := Lib.hid (show (0 : Int) = R by rw [← hR]; rfl)
    clear hR
    go_wp2_with fail
    go_ret
    exact HFIN.out _ _ HR.out HG2.out
  have q7 : (k == 7) = false := beq_eq_false_iff_ne.2 k7
  rw [if_neg (by omega)] at hR
  by_cases k5 : k = 5
  · subst k5
    simp only [if_true] at hR
    have HNM := Lib.hid (fnamed_ok nm w2 V S HW.out HS2.out)
    rcases ix_cases S nm with ⟨hi, hn⟩ | ⟨i, r, hi, ha, hn⟩
    · rw [hi] at HNM
      rw [hn] at hR
      have HR := Lib.hid hR
      clear hR hi hn
      go_wp2_with fail
      refine HNM.out.mono ?_
      rintro e w3 ⟨rfl, rfl⟩
      simp only [Option.map_none]
      go_wp2_with fail
      go_ret
      exact HFIN.out _ _ HR.out HG2.out
    · rw [hi] at HNM
      rw [hn] at hR
      obtain ⟨r1, r2, r3, r4⟩ := HS2.out.rule i r ha
      obtain ⟨l1, l2⟩ := HW.out.low i r ha
      have hbv : ∃ b0 b1 b2 b3 b4, V.bv i = [b0, b1, b2, b3, b4] := by
        match V.bv i, r4 with
        | [b0, b1, b2, b3, b4], _ => exact ⟨_, _, _, _, _, rfl⟩
      obtain ⟨b0, b1, b2, b3, b4, hb⟩ := hbv
      unfold FV.rcs at r1
      rw [hb] at r1
      have f8 := r1.cell_at (i := 8) rfl
      have fl := r1.lt
      have hR2 : (if r.low = -1 then -1 else r.low + 1) = R := hR
      have HR := Lib.hid hR2
      clear hR2
      generalize r.low = lw at *
      clear hR hi hn r1 r2 r3 r4 hb ha
      by_cases hl : lw = -1
      · subst hl
        go_wp2_with fail
        refine HNM.out.mono ?_
        rintro e w3 ⟨rfl, rfl⟩
        simp only [Option.map_some]
        go_wp2_with fail
        go_ret
        exact HFIN.out _ _ (by rw [← HR.out]; simp) HG2.out
      · have hlb : (lw == -1) = false := beq_eq_false_iff_ne.2 hl
        have hlc : (lw != -1) = true := by simp [hl]
        go_wp2_with fail
        refine HNM.out.mono ?_
        rintro e w3 ⟨rfl, rfl⟩
        simp only [Option.map_some]
        go_wp2_with fail
        go_ret
        exact HFIN.out _ _ (by rw [← HR.out, if_neg hl]) HG2.out
  simp only [if_neg k5] at hR
  have q5 : (k == 5) = false := beq_eq_false_iff_ne.2 k5
  by_cases k1 : k = 1
  · subst k1
    have HR := Lib.hid (show S.lowAll subs 0 = R by rw [← hR]; rfl)
    clear hR
    obtain ⟨L, hL⟩ : ∃ L, subs.length = L := ⟨_, rfl⟩
    have HL := Lib.hid hL
    rw [hL] at n4 h8'
    clear hL
    go_wp2_with fail
    clear n0 n1 n4 nl
    go_loopw [8, 61] (fun v c wr => ∃ (j : Nat) (hh : Int), v = .int .i64 hh ∧ c = .int .i64 j ∧ j ≤ L ∧ Hid (Grew wz wr) ∧ Hid (S.lowAll (subs.drop j) hh = R)) (fun _ c _ => L - (intOf c).toNat)
    case atStart => exact ⟨0, 0, rfl, rfl, by omega, HG2.out, HR.out⟩
    case round =>
      obtain ⟨j, hh, rfl, rfl, hj, HG, HE⟩ := hrel
      by_cases hlt : j < L
      · as_aux_lemma =>
        have hlt' : j < subs.length := by rw [HL.out]; exact hlt
        obtain ⟨b, off, rfl, hb, hnode⟩ := (H9.out.keep HG.out).get hlt'
        simp only [Nat.zero_add] at hnode
        obtain ⟨u0, u1, u2, u3, u4, e0, e1, e2, e3, e4, hnode⟩ := hnode.vals
        obtain ⟨m0, m1, m2, m3, m4, m5, m6, m7, m8, rfl, rfl, rfl, rfl, rfl⟩ := hnode.forms
        have hb' := Nat.lt_of_lt_of_le hb HG.out.size
        obtain ⟨wa, hwa⟩ : ∃ wa, wr.alloc (.cells #[.int .u8 m0, .string m1, .string m2, .slice m3 m4 m5, .slice m6 m7 m8] 26) = wa := ⟨_, rfl⟩
        have ga : Grew wr wa := hwa ▸ grew_alloc wr _
        have HGA := Lib.hid (HG.out.trans ga)
        have oa : Owns wa wr.heap.size [.int .u8 m0, .string m1, .string m2, .slice m3 m4 m5, .slice m6 m7 m8] 26 := hwa ▸ Owns.alloc wr _ _
        have HC := Lib.hid (HIH.out j hlt' wa _ _ _ _ _ (HS.out.keep HGA.out) (((hnode.mono HG.out.size).keep ga).mono ga.size))
        have HDR := Lib.hid (show subs.drop j = subs[j] :: subs.drop (j + 1) from List.drop_eq_getElem_cons hlt')
        have p0 := oa.cell_at (i := 0) rfl
        have p1 := oa.cell_at (i := 1) rfl
        have p2 := oa.cell_at (i := 2) rfl
        have p3 := oa.cell_at (i := 3) rfl
        have p4 := oa.cell_at (i := 4) rfl
        have pl := oa.lt
        have hE2 := HE.out
        rw [HDR.out, FS.lowAll] at hE2
        clear hnode ga oa hb HDR
        generalize S.lowN subs[j] = z at *
        have HE2 := Lib.hid hE2
        clear hE2
        go_wp2_with fail
        refine HC.out.mono ?_
        rintro e w3 ⟨rfl, hg3⟩
        have HG3 := Lib.hid (HGA.out.trans hg3)
        clear hg3 HC hwa p0 p1 p2 p3 p4 pl
        by_cases hz : z = -1
        · subst hz
          go_wp2_with fail
          go_ret
          exact HFIN.out _ _ (by rw [← HE2.out]; simp) HG3.out
        · have hzb : (z == -1) = false := beq_eq_false_iff_ne.2 hz
          have hzc : (z != -1) = true := by simp [hz]
          have HE3 := Lib.hid (show S.lowAll (subs.drop (j + 1)) (max hh z) = R by rw [← HE2.out, if_neg hz])
          go_wp2_with fail
          refine ⟨⟨j + 1, max hh z, by rw [max_if], by go_num, by omega, HG3.out, HE3.out⟩, by simp [intOf]; omega⟩
      · obtain rfl : j = L := by omega
        have := HE.out
        rw [← HL.out, List.drop_length, FS.lowAll] at this
        have HE2 := Lib.hid this
        clear this
        go_wp2_with fail
        go_ret
        exact HFIN.out _ _ HE2.out HG.out
  have q1 : (k == 1) = false := beq_eq_false_iff_ne.2 k1
  by_cases k4 : k = 4
  · subst k4
    have HR := Lib.hid (show S.lowAll subs 0 = R by rw [← hR]; rfl)
    clear hR
    obtain ⟨L, hL⟩ : ∃ L, subs.length = L := ⟨_, rfl⟩
    have HL := Lib.hid hL
    rw [hL] at n4 h8'
    clear hL
    go_wp2_with fail
    clear n0 n1 n4 nl
    go_loopw [8, 61] (fun v c wr => ∃ (j : Nat) (hh : Int), v = .int .i64 hh ∧ c = .int .i64 j ∧ j ≤ L ∧ Hid (Grew wz wr) ∧ Hid (S.lowAll (subs.drop j) hh = R)) (fun _ c _ => L - (intOf c).toNat)
    case atStart => exact ⟨0, 0, rfl, rfl, by omega, HG2.out, HR.out⟩
    case round =>
      obtain ⟨j, hh, rfl, rfl, hj, HG, HE⟩ := hrel
      by_cases hlt : j < L
      · as_aux_lemma =>
        have hlt' : j < subs.length := by rw [HL.out]; exact hlt
        obtain ⟨b, off, rfl, hb, hnode⟩ := (H9.out.keep HG.out).get hlt'
        simp only [Nat.zero_add] at hnode
        obtain ⟨u0, u1, u2, u3, u4, e0, e1, e2, e3, e4, hnode⟩ := hnode.vals
        obtain ⟨m0, m1, m2, m3, m4, m5, m6, m7, m8, rfl, rfl, rfl, rfl, rfl⟩ := hnode.forms
        have hb' := Nat.lt_of_lt_of_le hb HG.out.size
        obtain ⟨wa, hwa⟩ : ∃ wa, wr.alloc (.cells #[.int .u8 m0, .string m1, .string m2, .slice m3 m4 m5, .slice m6 m7 m8] 26) = wa := ⟨_, rfl⟩
        have ga : Grew wr wa := hwa ▸ grew_alloc wr _
        have HGA := Lib.hid (HG.out.trans ga)
        have oa : Owns wa wr.heap.size [.int .u8 m0, .string m1, .string m2, .slice m3 m4 m5, .slice m6 m7 m8] 26 := hwa ▸ Owns.alloc wr _ _
        have HC := Lib.hid (HIH.out j hlt' wa _ _ _ _ _ (HS.out.keep HGA.out) (((hnode.mono HG.out.size).keep ga).mono ga.size))
        have HDR := Lib.hid (show subs.drop j = subs[j] :: subs.drop (j + 1) from List.drop_eq_getElem_cons hlt')
        have p0 := oa.cell_at (i := 0) rfl
        have p1 := oa.cell_at (i := 1) rfl
        have p2 := oa.cell_at (i := 2) rfl
        have p3 := oa.cell_at (i := 3) rfl
        have p4 := oa.cell_at (i := 4) rfl
        have pl := oa.lt
        have hE2 := HE.out
        rw [HDR.out, FS.lowAll] at hE2
        clear hnode ga oa hb HDR
        generalize S.lowN subs[j] = z at *
        have HE2 := Lib.hid hE2
        clear hE2
        go_wp2_with fail
        refine HC.out.mono ?_
        rintro e w3 ⟨rfl, hg3⟩
        have HG3 := Lib.hid (HGA.out.trans hg3)
        clear hg3 HC hwa p0 p1 p2 p3 p4 pl
        by_cases hz : z = -1
        · subst hz
          go_wp2_with fail
          go_ret
          exact HFIN.out _ _ (by rw [← HE2.out]; simp) HG3.out
        · have hzb : (z == -1) = false := beq_eq_false_iff_ne.2 hz
          have hzc : (z != -1) = true := by simp [hz]
          have HE3 := Lib.hid (show S.lowAll (subs.drop (j + 1)) (max hh z) = R by rw [← HE2.out, if_neg hz])
          go_wp2_with fail
          refine ⟨⟨j + 1, max hh z, by rw [max_if], by go_num, by omega, HG3.out, HE3.out⟩, by simp [intOf]; omega⟩
      · obtain rfl : j = L := by omega
        have := HE.out
        rw [← HL.out, List.drop_length, FS.lowAll] at this
        have HE2 := Lib.hid this
        clear this
        go_wp2_with fail
        go_ret
        exact HFIN.out _ _ HE2.out HG.out
  have q4 : (k == 4) = false := beq_eq_false_iff_ne.2 k4
  rw [if_neg (by omega)] at hR
  by_cases k0 : k = 0
  · subst k0
    have HR := Lib.hid (show S.lowOne subs (-1) = R by rw [← hR]; rfl)
    clear hR
    obtain ⟨L, hL⟩ : ∃ L, subs.length = L := ⟨_, rfl⟩
    have HL := Lib.hid hL
    rw [hL] at n4 h8'
    clear hL
    go_wp2_with fail
    clear n0 n1 n4 nl
    go_loopw [12, 80] (fun v c wr => ∃ (j : Nat) (hh : Int), v = .int .i64 hh ∧ c = .int .i64 j ∧ j ≤ L ∧ Hid (Grew wz wr) ∧ Hid (S.lowOne (subs.drop j) hh = R)) (fun _ c _ => L - (intOf c).toNat)
    case atStart => exact ⟨0, (-1), rfl, rfl, by omega, HG2.out, HR.out⟩
    case round =>
      obtain ⟨j, hh, rfl, rfl, hj, HG, HE⟩ := hrel
      by_cases hlt : j < L
      · as_aux_lemma =>
        have hlt' : j < subs.length := by rw [HL.out]; exact hlt
        obtain ⟨b, off, rfl, hb, hnode⟩ := (H9.out.keep HG.out).get hlt'
        simp only [Nat.zero_add] at hnode
        obtain ⟨u0, u1, u2, u3, u4, e0, e1, e2, e3, e4, hnode⟩ := hnode.vals
        obtain ⟨m0, m1, m2, m3, m4, m5, m6, m7, m8, rfl, rfl, rfl, rfl, rfl⟩ := hnode.forms
        have hb' := Nat.lt_of_lt_of_le hb HG.out.size
        obtain ⟨wa, hwa⟩ : ∃ wa, wr.alloc (.cells #[.int .u8 m0, .string m1, .string m2, .slice m3 m4 m5, .slice m6 m7 m8] 26) = wa := ⟨_, rfl⟩
        have ga : Grew wr wa := hwa ▸ grew_alloc wr _
        have HGA := Lib.hid (HG.out.trans ga)
        have oa : Owns wa wr.heap.size [.int .u8 m0, .string m1, .string m2, .slice m3 m4 m5, .slice m6 m7 m8] 26 := hwa ▸ Owns.alloc wr _ _
        have HC := Lib.hid (HIH.out j hlt' wa _ _ _ _ _ (HS.out.keep HGA.out) (((hnode.mono HG.out.size).keep ga).mono ga.size))
        have HDR := Lib.hid (show subs.drop j = subs[j] :: subs.drop (j + 1) from List.drop_eq_getElem_cons hlt')
        have p0 := oa.cell_at (i := 0) rfl
        have p1 := oa.cell_at (i := 1) rfl
        have p2 := oa.cell_at (i := 2) rfl
        have p3 := oa.cell_at (i := 3) rfl
        have p4 := oa.cell_at (i := 4) rfl
        have pl := oa.lt
        have hE2 := HE.out
        rw [HDR.out, FS.lowOne] at hE2
        clear hnode ga oa hb HDR
        generalize S.lowN subs[j] = z at *
        have HE2 := Lib.hid hE2
        clear hE2
        go_wp2_with fail
        refine HC.out.mono ?_
        rintro e w3 ⟨rfl, hg3⟩
        have HG3 := Lib.hid (HGA.out.trans hg3)
        clear hg3 HC hwa p0 p1 p2 p3 p4 pl
        by_cases hz : z = -1
        · subst hz
          have HE3 := Lib.hid (show S.lowOne (subs.drop (j + 1)) hh = R by rw [← HE2.out, if_neg (by simp)])
          go_wp2_with fail
          refine ⟨⟨j + 1, hh, rfl, by go_num, by omega, HG3.out, HE3.out⟩, by simp [intOf]; omega⟩
        · have hzb : (z == -1) = false := beq_eq_false_iff_ne.2 hz
          have hzc : (z != -1) = true := by simp [hz]
          by_cases hl : hh = -1
          · subst hl
            have HE3 := Lib.hid (show S.lowOne (subs.drop (j + 1)) z = R by rw [← HE2.out, if_pos ⟨hz, .inl rfl⟩])
            go_wp2_with fail
            refine ⟨⟨j + 1, z, rfl, by go_num, by omega, HG3.out, HE3.out⟩, by simp [intOf]; omega⟩
          · have hlb : (hh == -1) = false := beq_eq_false_iff_ne.2 hl
            by_cases hc : z < hh
            · have HE3 := Lib.hid (show S.lowOne (subs.drop (j + 1)) z = R by rw [← HE2.out, if_pos ⟨hz, .inr hc⟩])
              go_wp2_with fail
              refine ⟨⟨j + 1, z, rfl, by go_num, by omega, HG3.out, HE3.out⟩, by simp [intOf]; omega⟩
            · have HE3 := Lib.hid (show S.lowOne (subs.drop (j + 1)) hh = R by rw [← HE2.out, if_neg (by rintro ⟨-, h | h⟩ <;> contradiction)])
              go_wp2_with fail
              refine ⟨⟨j + 1, hh, rfl, by go_num, by omega, HG3.out, HE3.out⟩, by simp [intOf]; omega⟩
      · obtain rfl : j = L := by omega
        have := HE.out
        rw [← HL.out, List.drop_length, FS.lowOne] at this
        have HE2 := Lib.hid this
        clear this
        go_wp2_with fail
        go_ret
        exact HFIN.out _ _ HE2.out HG.out
  have q0 : (k == 0) = false := beq_eq_false_iff_ne.2 k0
  rw [if_neg k0] at hR
  have HR := Lib.hid hR
  clear hR k1 k5 k6 k7 k0 k2 k3 k4
  go_wp2_with fail
  go_ret
  exact HFIN.out _ _ HR.out HG2.out
end Go.Proofs.Ytldoinfbimelpaa

/- Nodes whose slices are no longer than they may be; sets of which one row has turned. -/
namespace Go.Proofs.Ytldoinfbimelpaa
open Go.RowKit

mutual
/-- each slice of Subs has room for what it holds -/
def FitAt (W : World) (lim : Nat) (c4 : Option Value) : Nd → Prop
  | .mk _ _ _ _ subs => ∃ a cap, c4 = some (.slice a subs.length cap) ∧ subs.length ≤ cap ∧ FitsAt W lim a 0 subs
def FitsAt (W : World) (lim : Nat) (a : Option Addr) (i : Nat) : List Nd → Prop
  | [] => True
  | n :: r => (∃ b off, a = some ⟨b, off, none⟩ ∧ b < lim ∧ FitAt W lim (W.cell? ⟨b, off + i * 5 + 4, none⟩) n) ∧ FitsAt W lim a (i + 1) r
end
mutual
theorem FitAt.keep {W W' : World} {lim : Nat} (hb : Below lim W W') {c4 : Option Value} : ∀ {n : Nd}, FitAt W lim c4 n → FitAt W' lim c4 n
  | .mk _ _ _ _ subs, h => by
    rw [FitAt] at h ⊢
    obtain ⟨a, cap, h1, h2, h3⟩ := h
    exact ⟨a, cap, h1, h2, FitsAt.keep hb h3⟩
theorem FitsAt.keep {W W' : World} {lim : Nat} (hb : Below lim W W') {a : Option Addr} : ∀ {l : List Nd} {i : Nat}, FitsAt W lim a i l → FitsAt W' lim a i l
  | [], _, _ => by rw [FitsAt]; trivial
  | n :: r, i, h => by
    rw [FitsAt] at h ⊢
    obtain ⟨⟨b, off, h1, h2, h3⟩, h4⟩ := h
    refine ⟨⟨b, off, h1, h2, ?_⟩, FitsAt.keep hb h4⟩
    rw [hb.cell (p := ⟨b, off + i * 5 + 4, none⟩) h2]
    exact FitAt.keep hb h3
end
theorem FitsAt.get {W : World} {lim : Nat} {a : Option Addr} : ∀ {l : List Nd} {i k : Nat} (_ : FitsAt W lim a i l) (hk : k < l.length),
    ∃ b off, a = some ⟨b, off, none⟩ ∧ FitAt W lim (W.cell? ⟨b, off + (i + k) * 5 + 4, none⟩) l[k]
  | [], _, _, _, hk => absurd hk (by simp)
  | n :: r, i, 0, h, _ => by
    rw [FitsAt] at h
    obtain ⟨⟨b, off, h1, h2, h3⟩, h4⟩ := h
    exact ⟨b, off, h1, by simpa using h3⟩
  | n :: r, i, k + 1, h, hk => by
    rw [FitsAt] at h
    obtain ⟨b, off, h1, h2⟩ := FitsAt.get (k := k) h.2 (by simpa using hk)
    refine ⟨b, off, h1, ?_⟩
    have e : i + 1 + k = i + (k + 1) := by omega
    rw [e] at h2
    simpa using h2
theorem NodesAt.stepF {W : World} {lim b off : Nat} : ∀ {l : List Nd} {i : Nat}, NodesAt W lim (some ⟨b, off, none⟩) (i + 1) l → NodesAt W lim (some ⟨b, off + 5, none⟩) i l
  | [], _, _ => by rw [NodesAt]; trivial
  | x :: r, i, h => by
    rw [NodesAt] at h ⊢
    obtain ⟨⟨b', o', h1, h2, h3⟩, h4⟩ := h
    simp only [Option.some.injEq, Addr.mk.injEq, and_true] at h1
    obtain ⟨rfl, rfl⟩ := h1
    refine ⟨⟨b, off + 5, rfl, h2, ?_⟩, h4.stepF⟩
    have e : off + (i + 1) * 5 = off + 5 + i * 5 := by omega
    rw [e] at h3
    exact h3
theorem NodesAt.dropF {W : World} {lim b : Nat} : ∀ (j : Nat) {off : Nat} {l : List Nd}, NodesAt W lim (some ⟨b, off, none⟩) 0 l → NodesAt W lim (some ⟨b, off + j * 5, none⟩) 0 (l.drop j)
  | 0, off, l, h => by simpa using h
  | j + 1, off, [], _ => by rw [List.drop_nil, NodesAt]; trivial
  | j + 1, off, x :: r, h => by
    rw [NodesAt] at h
    have := NodesAt.dropF j h.2.stepF
    rw [List.drop_succ_cons, show off + (j + 1) * 5 = off + 5 + j * 5 by omega]
    exact this

theorem owns_ne {w : World} {b b' T T' : Nat} {cs cs' : List Value} (h : Owns w b cs T) (h' : Owns w b' cs' T') (hT : T ≠ T') : b ≠ b' := by
  rintro rfl
  unfold Owns at h h'
  rw [h] at h'
  have h3 := Option.some.inj h'
  injection h3 with _ ht _
  exact hT ht
theorem owns_map {w : World} {b b' T : Nat} {cs : List Value} {L : List (Value × Value)} (h : Owns w b cs T) (h' : w.heap[b']? = some (mapObj L)) : b ≠ b' := by
  rintro rfl
  unfold Owns at h
  rw [h] at h'
  have h3 := Option.some.inj h'
  unfold mapObj at h3
  cases h3
/-- no block is two rules' -/
def FV.Inj (V : FV) (S : FS) : Prop := ∀ i j r q, S.at i = some r → S.at j = some q → (i ≠ j → V.gk i ≠ V.gk j ∧ V.fk i ≠ V.fk j ∧ V.rk i ≠ V.rk j) ∧ V.gk i ≠ V.fk j
theorem FV.Inj.kin {V : FV} {S S' : FS} (h : V.Inj S) (k : Kin S S') : V.Inj S' := fun i j r q hi hj => by
  obtain ⟨r0, h0, -⟩ := k.some hi
  obtain ⟨q0, h1, -⟩ := k.some hj
  exact h i j r0 q0 h0 h1
/-- one rule has turned, in block t -/
theorem SetsAt.mod {w w' : World} {V : FV} {S : FS} (h : SetsAt w V S) {i t : Nat} {f : FR → FR} (hb : But (fun k => k = t) w w') (h1 : t ≠ V.sb) (h2 : t ≠ V.pm) (h3 : t ≠ V.tm) (h4 : t ≠ V.rb)
    (hr : ∀ j r, S.at j = some r → Owns w' (V.rk j) (V.rcs S.n j (if i = j then f r else r)) 67 ∧ Owns w' (V.fk j) (fbs (if i = j then f r else r).first) 4 ∧ Owns w' (V.gk j) (fbs (if i = j then f r else r).follow) 4) : SetsAt w' V (S.mod i f) := by
  have hm : ∀ {b : Nat} {o : Obj}, w.heap[b]? = some o → t ≠ b → w'.heap[b]? = some o := fun {b o} hb' hn => by rw [hb.block b (Array.getElem?_eq_some_iff.1 hb').1 (fun e => hn e.symm)]; exact hb'
  have hl := S.mod_len i f
  refine ⟨by rw [hl]; exact hb.owns h.box (fun e => h1 e.symm), hm h.places h2, hm h.tokens h3, ?_, ?_⟩
  · have hp : V.ptrs (S.mod i f) = V.ptrs S := by
      unfold FV.ptrs
      rw [hl]
      refine List.map_congr_left fun j _ => ?_
      unfold FV.ptr
      rw [FS.mod_at]
      split <;> simp
    rw [hp]
    exact hb.owns h.row (fun e => h4 e.symm)
  · intro j r hj
    rw [FS.mod_at] at hj
    by_cases e : i = j
    · rw [if_pos e] at hj
      cases hq : S.at j with
      | none => rw [hq] at hj; cases hj
      | some r0 =>
        rw [hq] at hj
        have hrr : f r0 = r := Option.some.inj hj
        obtain ⟨a1, a2, a3⟩ := hr j r0 hq
        rw [if_pos e, hrr] at a1 a2 a3
        exact ⟨a1, a2, a3, (h.rule j r0 hq).2.2.2⟩
    · rw [if_neg e] at hj
      obtain ⟨a1, a2, a3⟩ := hr j r hj
      rw [if_neg e] at a1 a2 a3
      exact ⟨a1, a2, a3, (h.rule j r hj).2.2.2⟩
theorem SetsAt.setFol {w w' : World} {V : FV} {S : FS} (h : SetsAt w V S) (hI : V.Inj S) {i : Nat} {r : FR} (hi : S.at i = some r) {l : List Bool} (hb : But (fun k => k = V.gk i) w w') (ho : Owns w' (V.gk i) (fbs l) 4) : SetsAt w' V (S.setFol i l) := by
  obtain ⟨-, -, hg, -⟩ := h.rule i r hi
  rw [FS.setFol_eq]
  refine h.mod hb (owns_ne hg h.box (by decide)) (owns_map hg h.places) (owns_map hg h.tokens) (owns_ne hg h.row (by decide)) fun j q hj => ?_
  obtain ⟨a1, a2, a3, -⟩ := h.rule j q hj
  obtain ⟨b1, b2⟩ := hI i j r q hi hj
  have c1 := hb.owns a1 (fun e => owns_ne hg a1 (by decide) e.symm)
  have c2 := hb.owns a2 (fun e => b2 e.symm)
  by_cases e : i = j
  · subst e
    simp only [if_true]
    exact ⟨c1, c2, ho⟩
  · simp only [if_neg e]
    exact ⟨c1, c2, hb.owns a3 (fun e' => (b1 e).1 e'.symm)⟩
theorem SetsAt.setFst {w w' : World} {V : FV} {S : FS} (h : SetsAt w V S) (hI : V.Inj S) {i : Nat} {r : FR} (hi : S.at i = some r) {l : List Bool} (hb : But (fun k => k = V.fk i) w w') (ho : Owns w' (V.fk i) (fbs l) 4) : SetsAt w' V (S.setFst i l) := by
  obtain ⟨-, hg, -, -⟩ := h.rule i r hi
  rw [FS.setFst_eq]
  refine h.mod hb (owns_ne hg h.box (by decide)) (owns_map hg h.places) (owns_map hg h.tokens) (owns_ne hg h.row (by decide)) fun j q hj => ?_
  obtain ⟨a1, a2, a3, -⟩ := h.rule j q hj
  obtain ⟨b1, -⟩ := hI i j r q hi hj
  obtain ⟨-, b2⟩ := hI j i q r hj hi
  have c1 := hb.owns a1 (fun e => owns_ne hg a1 (by decide) e.symm)
  have c2 := hb.owns a3 b2
  by_cases e : i = j
  · subst e
    simp only [if_true]
    exact ⟨c1, ho, c2⟩
  · simp only [if_neg e]
    exact ⟨c1, hb.owns a2 (fun e' => (b1 e).2.1 e'.symm), c2⟩
theorem SetsAt.setLow {w w' : World} {V : FV} {S : FS} (h : SetsAt w V S) (hI : V.Inj S) {i : Nat} {r : FR} (hi : S.at i = some r) {l : Int} (hb : But (fun k => k = V.rk i) w w') (ho : Owns w' (V.rk i) (V.rcs S.n i { r with low := l }) 67) : SetsAt w' V (S.setLow i l) := by
  obtain ⟨hg, -, -, -⟩ := h.rule i r hi
  rw [FS.setLow_eq]
  refine h.mod hb (owns_ne hg h.box (by decide)) (owns_map hg h.places) (owns_map hg h.tokens) (owns_ne hg h.row (by decide)) fun j q hj => ?_
  obtain ⟨a1, a2, a3, -⟩ := h.rule j q hj
  obtain ⟨b1, -⟩ := hI i j r q hi hj
  have c2 := hb.owns a2 (fun e => owns_ne hg a2 (by decide) e.symm)
  have c3 := hb.owns a3 (fun e => owns_ne hg a3 (by decide) e.symm)
  by_cases e : i = j
  · subst e
    rw [hi] at hj
    obtain rfl := Option.some.inj hj
    simp only [if_true]
    exact ⟨ho, c2, c3⟩
  · simp only [if_neg e]
    exact ⟨hb.owns a1 (fun e' => (b1 e).2.2 e'.symm), c2, c3⟩
end Go.Proofs.Ytldoinfbimelpaa
