/- ChecksMore: with any grammar and any number it answers true. -/
import Derived.Test.YtnopnihdobedcaaMoreMem
import Derived.Test.YtnopnihdobedcaaLives6
import Derived.Test.YtnopnihdobedcaaGreat2
namespace Go.Proofs.Ytnopnihdobedcaa
open Go.RowKit

set_option maxHeartbeats 16000000 in
set_option maxRecDepth 100000 in
theorem checksMore_ok (g : Gr) (x : Int) (W : World) (v0 v1 v2 v3 : Value) (hx0 : 0 ≤ x) (hx1 : x ≤ 255) (hG : GrAt W W.heap.size (some v0) (some v1) (some v2) (some v3) g) :
    Calls Try.prog 6 #[.agg #[v0, v1, v2, v3], .int .u8 x] W fun e W' => e = .returned (.bool true) ∧ Below W.heap.size W W' := by
  have hG' := hG
  obtain ⟨q1, q2, q3, q4, q5, q6, ra, rc, q7, q8, q9⟩ := hG'
  obtain rfl := Option.some.inj q1
  obtain rfl := Option.some.inj q3
  obtain rfl := Option.some.inj q4
  obtain rfl := Option.some.inj q7
  clear q1 q3 q4 q5 q6 q7
  have hg1 := grew_alloc W (.cells #[.string g.name, .int .i64 g.bound, .int .i64 g.states, .slice ra g.rules.length rc] 26)
  have ho1 := Owns.alloc W [.string g.name, .int .i64 g.bound, .int .i64 g.states, .slice ra g.rules.length rc] 26
  have HG1 := Lib.hid hg1
  have HO1 := Lib.hid ho1
  have HG := Lib.hid ((hG.keep hg1).mono hg1.size)
  have HQ9 := Lib.hid q9
  have HG0 := Lib.hid hG
  have HGt := Lib.hid (great5_ok g _ _ _ _ _ HG.out)
  unfold reachN at q8 q2
  have b0 := ho1.cell_at (i := 0) rfl
  have b1 := ho1.cell_at (i := 1) rfl
  have b2 := ho1.cell_at (i := 2) rfl
  have b3 := ho1.cell_at (i := 3) rfl
  have bl := ho1.lt
  clear hG hg1 ho1 q9
  go_enter Try.func6, Try.ntmps6
  go_wp2_with fail
  generalize W.alloc (.cells #[.string g.name, .int .i64 g.bound, .int .i64 g.states, .slice ra g.rules.length rc] 26) = w1 at *
  refine HGt.out.mono ?_
  rintro e w2 ⟨(rfl | ⟨rfl, hfair⟩), hb2⟩
  · have HW2 := Lib.hid (HG1.out.trans hb2)
    clear hb2
    go_wp2_with fail
    refine (lives6_ok _).mono ?_
    rintro e w3 ⟨rfl, hb3⟩
    go_wp2_with fail
    go_ret
    exact ⟨rfl, HW2.out.trans hb3⟩
  · have hw2 : Grew w1 w2 := hb2
    have hc2 := hw2.cells
    have HW2 := Lib.hid hw2
    have HFi := Lib.hid (cfine_ok g hfair.few6 w2 _ _ _ _ ((HG.out.keep hw2).mono hw2.size))
    have hlen := hfair.len
    have HFAIR := Lib.hid hfair
    have c3 := (hc2 _ 3 bl).trans b3
    clear hb2 hfair hw2
    by_cases hn0 : g.rules.length = 0
    · rw [hn0] at c3
      clear hlen hc2 b3
      go_wp2_with fail
      refine (lives6_ok _).mono ?_
      rintro e w3 ⟨rfl, hb3⟩
      go_wp2_with fail
      go_ret
      exact ⟨rfl, (HG1.out.trans HW2.out).trans hb3⟩
    · have hn1 : 1 ≤ g.rules.length := by omega
      have hne0 : ((g.rules.length : Int) == 0) = false := beq_eq_false_iff_ne.2 (by omega)
      clear c3 hn0
      go_wp2_with fail
      refine HFi.out.mono ?_
      rintro e w3 ⟨es, M, N, rfl, h1, h2, h3, hb3⟩
      have hw3 : Grew w1 w3 := HW2.out.trans hb3
      have HW3 := Lib.hid hw3
      have hc3 := hw3.cells
      have hz3 := hw3.size
      clear hc2 hb3 hw3
      cases ht : g.told es (at2 M) (at2 N) with
      | cons t ts =>
        clear ht h1 h2 h3
        go_wp2_with fail
        refine (lives6_ok _).mono ?_
        rintro e w4 ⟨rfl, hb4⟩
        go_wp2_with fail
        go_ret
        exact ⟨rfl, (HG1.out.trans HW3.out).trans hb4⟩
      | nil =>
        have HES := Lib.hid h1
        have HMM := Lib.hid h2
        have HNN := Lib.hid h3
        have HTT := Lib.hid ht
        have HB3 := Lib.hid (HG1.out.trans HW3.out)
        have d0 := (hc3 _ 0 bl).trans b0
        have d1 := (hc3 _ 1 bl).trans b1
        have d2 := (hc3 _ 2 bl).trans b2
        have d3 := (hc3 _ 3 bl).trans b3
        have hl3 : W.heap.size < w3.heap.size := by omega
        clear h1 h2 h3 ht hc3 b0 b1 b2 b3 HFi HGt
        have hy0 : 0 ≤ x % (g.rules.length : Int) := Int.emod_nonneg _ (by omega)
        have hy1 : x % (g.rules.length : Int) < (g.rules.length : Int) := Int.emod_lt_of_pos _ (by omega)
        obtain ⟨i, hi0⟩ := Int.eq_ofNat_of_zero_le hy0
        have hi : i < g.rules.length := by omega
        clear hy0 hy1
        have HOG3 := Lib.hid (HO1.out.keep HW3.out)
        obtain ⟨rb, ro, rfl, hrb, hrule⟩ := HQ9.out.get hi
        simp only [Nat.zero_add] at hrule
        obtain ⟨u2, u3, u4, u5, u6, s0, s1, s2, s3, s4, s5, s6, s7, s8, s9, hrule, hnode⟩ := hrule.vals
        obtain ⟨bk, bnm, btx, bsa, bsl, bsc, bna, bnl, bnc, rfl, rfl, rfl, rfl, rfl⟩ := hnode.forms
        have hcw : ∀ o, w3.cell? ⟨rb, o, none⟩ = W.cell? ⟨rb, o, none⟩ := fun o => HB3.out.cells _ _ hrb
        rw [← hcw] at s0 s1 s2 s3 s4 s5 s6 s7 s8 s9
        have HRULE := Lib.hid hrule
        have HN := Lib.hid hnode
        have hrb3 : rb < w3.heap.size := by omega
        obtain ⟨cs, hcs, hnews, hone⟩ := HQ9.out.cells
        have HCS := Lib.hid hcs
        have HNW := Lib.hid (rules_news6 hrb hnews)
        have HON := Lib.hid hone
        have hcl := Lib.hid hcs.1
        have hmax : 0 + g.rules.length ≤ maxLen := by unfold maxLen; omega
        have HMAX := Lib.hid hmax
        obtain ⟨i0, hi1, hz0, hz1, hz2⟩ := info_parts info_rule6
        have HI0 := Lib.hid hi1
        have HZ0 := Lib.hid hz0
        have HZ1 := Lib.hid hz1
        have HZ2 := Lib.hid hz2
        clear hrule hnode hcw hcs hnews hone hmax hi1 hz0 hz1 hz2
        go_wp2_with fail
        rw [hi0]
        have hat := more_start (g := g) (ra := some ⟨rb, ro, none⟩) (rc := rc) [.string g.rules[i].name, .int .u8 g.rules[i].sort, .int .u8 bk, .string bnm, .string btx, .slice bsa bsl bsc, .slice bna bnl bnc, .int .i64 g.rules[i].p0, .int .i64 g.rules[i].p1, .int .i64 g.rules[i].p2] HB3.out HOG3.out
        have hzz : ((w3.alloc (.cells #[.string g.rules[i].name, .int .u8 g.rules[i].sort, .int .u8 bk, .string bnm, .string btx, .slice bsa bsl bsc, .slice bna bnl bnc, .int .i64 g.rules[i].p0, .int .i64 g.rules[i].p1, .int .i64 g.rules[i].p2] 40)).alloc (.cells #[.string g.name, .int .i64 g.bound, .int .i64 g.states, .slice (some ⟨rb, ro, none⟩) g.rules.length rc] 26)).heap.size = w3.heap.size + 2 := by simp
        have HAT := Lib.hid hat
        have e3 := hat.bg.cell_at (i := 3) rfl
        have r0 := hat.br.cell_at (i := 0) rfl
        have r1 := hat.br.cell_at (i := 1) rfl
        have r2 := hat.br.cell_at (i := 2) rfl
        have r3 := hat.br.cell_at (i := 3) rfl
        have r4 := hat.br.cell_at (i := 4) rfl
        have r5 := hat.br.cell_at (i := 5) rfl
        have r6 := hat.br.cell_at (i := 6) rfl
        have r7 := hat.br.cell_at (i := 7) rfl
        have r8 := hat.br.cell_at (i := 8) rfl
        have r9 := hat.br.cell_at (i := 9) rfl
        clear s0 s1 s2 s3 s4 s5 s6 s7 s8 s9 d0 d1 d2 d3 hat
        generalize ((w3.alloc (.cells #[.string g.rules[i].name, .int .u8 g.rules[i].sort, .int .u8 bk, .string bnm, .string btx, .slice bsa bsl bsc, .slice bna bnl bnc, .int .i64 g.rules[i].p0, .int .i64 g.rules[i].p1, .int .i64 g.rules[i].p2] 40)).alloc (.cells #[.string g.name, .int .i64 g.bound, .int .i64 g.states, .slice (some ⟨rb, ro, none⟩) g.rules.length rc] 26)) = w5 at *
        have l0 : W.heap.size < w5.heap.size := by omega
        have l1 : w3.heap.size < w5.heap.size := by omega
        have l2 : w3.heap.size + 1 < w5.heap.size := by omega
        have hrl : W.heap.size < w3.heap.size := hl3
        clear HOG3 HW3 HB3 hl3 hz3 hrb3
        generalize w3.heap.size = rx at *
        have HZZ := Lib.hid hzz
        clear hzz
        refine wp_region_hav_lit follows (by kernel_rfl) ?_
        repeat (first
          | (refine HavG.skip (fun _ => rfl) ?_; simp only [Act.put, List.setIfInBounds_toArray, List.set_cons_zero, List.set_cons_succ])
          | (refine HavG.val (fun _ => rfl) ?_ (fun x w hw _ => ?_) ?_; rotate_left; (focus (have hc := hw.cells; clear hw; go_simp; first | done | rfl)); simp only [Act.put, List.setIfInBounds_toArray, List.set_cons_zero, List.set_cons_succ]))
        refine HavG.any (fun _ => rfl) (fun v w => ∃ b cap, v = .slice (some ⟨b, 0, none⟩) g.rules.length cap ∧ w.ownsRow w5.heap.size 40 10 (.slice (some ⟨b, 0, none⟩) g.rules.length cap) g.rules.length cs) ?_ (fun x w hw _ => ?_) ?_
        · rintro v w w' hg ⟨b, cap, h1, h2⟩
          exact ⟨b, cap, h1, ownsRow_keep6 h2 hg⟩
        · obtain ⟨b, cap, w', hr, hown, hgrow, -, -⟩ := run_append_lies (P := Try.prog) w 24 24 w5.heap.size 40 i0 _ 10 136 Try.underlying24 HI0.out HZ0.out HZ1.out HZ2.out rfl (by omega) (.slice none 0 0) 0 [] ⟨rfl, .inl ⟨rfl, rfl⟩⟩ ⟨rb, ro, none⟩ g.rules.length rc cs hcl.out (HNW.out _ (HAT.out.low.trans hw)) HON.out (by omega) HMAX.out (by omega) hw.size _ rfl
          refine upon_append _ _ 24 rfl rfl rfl hr ?_
          rw [Nat.zero_add, List.nil_append] at hown
          exact ⟨grew_grown6 hgrow, b, cap, by rw [Nat.zero_add], hown⟩
        simp only [Act.put, List.setIfInBounds_toArray, List.set_cons_zero, List.set_cons_succ]
        repeat (first
          | (refine HavG.skip (fun _ => rfl) ?_; simp only [Act.put, List.setIfInBounds_toArray, List.set_cons_zero, List.set_cons_succ])
          | (refine HavG.val (fun _ => rfl) ?_ (fun x w hw _ => ?_) ?_; rotate_left; (focus (have hc := hw.cells; clear hw; go_simp; first | done | rfl)); simp only [Act.put, List.setIfInBounds_toArray, List.set_cons_zero, List.set_cons_succ]))
        refine HavG.any (fun _ => rfl) (fun v w => ∃ sb, v = .slice (some ⟨sb, 0, none⟩) 1 1 ∧ Owns w sb [.string g.rules[i].name, .int .u8 g.rules[i].sort, .int .u8 bk, .string bnm, .string btx, .slice bsa bsl bsc, .slice bna bnl bnc, .int .i64 g.rules[i].p0, .int .i64 g.rules[i].p1, .int .i64 g.rules[i].p2] 40) ?_ (fun x w hw _ => ?_) ?_
        · rintro v w w' hg ⟨sb, h1, h2⟩
          exact ⟨sb, h1, h2.keep hg⟩
        · have HW := Lib.hid hw
          clear hw
          go_simp
          exact ⟨grew_alloc _ _, Owns.alloc _ _ _⟩
        simp only [Act.put, List.setIfInBounds_toArray, List.set_cons_zero, List.set_cons_succ]
        refine HavG.tail (by kernel_rfl) (by kernel_rfl) (fun x w6 hw hx => ?_)
        have hx2 := hx _ (List.mem_append_left _ (List.mem_append_right _ (List.mem_singleton.2 rfl)))
        have hx4 := hx _ (List.mem_append_right _ (List.mem_singleton.2 rfl))
        clear hx
        dsimp only at hx2 hx4
        generalize x (0 + 1 + 1) = y2 at *
        generalize x (0 + 1 + 1 + 1 + 1) = y4 at *
        obtain ⟨b6, cap6, rfl, hown6⟩ := hx2
        obtain ⟨sb, rfl, hosb⟩ := hx4
        have HW6 := Lib.hid hw
        have HAT6 := Lib.hid (HAT.out.keep hw)
        have HOW6 := Lib.hid hown6
        have HNS := Lib.hid (owns_news hosb)
        have hz6 : w5.heap.size ≤ w6.heap.size := hw.size
        have h63 : g.rules.length + 1 ≤ maxLen := by unfold maxLen; omega
        have H63 := Lib.hid h63
        clear hw hown6 hosb h63 e3 r0 r1 r2 r3 r4 r5 r6 r7 r8 r9
        go_wp2_with (at_builtin; refine wpList_append_lies w6 rfl _ _ 24 rfl w5.heap.size 40 i0 _ 10 136 Try.underlying24 HI0.out HZ0.out HZ1.out HZ2.out rfl (by omega) (.slice (some ⟨b6, 0, none⟩) g.rules.length cap6) g.rules.length cs rfl HOW6.out ⟨sb, 0, none⟩ 1 1 [.string g.rules[i].name, .int .u8 g.rules[i].sort, .int .u8 bk, .string bnm, .string btx, .slice bsa bsl bsc, .slice bna bnl bnc, .int .i64 g.rules[i].p0, .int .i64 g.rules[i].p1, .int .i64 g.rules[i].p2] rfl rfl HNS.out (ten_one _ _ _ _ _ _ _ _ _ _ _ _ _ _) (by omega) H63.out (by omega) hz6 _ rfl ?_; intro g7 cap7 w7 hown7 hgrow7 hat7 hlt7; obtain ⟨t7, ht7, hut7⟩ := own_upd6 HOW6.out hgrow7; have HAT7 := Lib.hid (HAT6.out.upd hut7 (by omega)); have HROW7 := Lib.hid (OwnsPre.of_row hown7); have b3 := HAT7.out.bh.cell_at (i := 3) rfl; have f3 := HAT7.out.bh.free 3; have l27 := HAT7.out.bh.lt; have HAT8 := Lib.hid (HAT7.out.put (.slice (some ⟨g7, 0, none⟩) (g.rules.length + 1) cap7)); have k0 := HAT8.out.bh.cell_at (i := 0) rfl; have k1 := HAT8.out.bh.cell_at (i := 1) rfl; have k2 := HAT8.out.bh.cell_at (i := 2) rfl; have k3 := HAT8.out.bh.cell_at (i := 3) rfl; have l28 := HAT8.out.bh.lt; clear hown7 hgrow7 hat7 ht7 hut7)
        have hu8 : Upd (rx + 1) w7 (w7.setCell ⟨rx + 1, 3, none⟩ (.slice (some ⟨g7, 0, none⟩) (g.rules.length + 1) cap7)) := (Upd.refl _ _).setCell _ _
        have hg7 := HROW7.out.2
        have og8 := HROW7.out.1.upd hu8 (show g7 ≠ rx + 1 by omega)
        clear hu8 b3 f3 l27 HAT7 HROW7 HAT6 HAT HOW6 HNS
        generalize w7.setCell ⟨rx + 1, 3, none⟩ (.slice (some ⟨g7, 0, none⟩) (g.rules.length + 1) cap7) = w8 at *
        have hrows := ((HCS.out.keep HAT8.out.low).mono HAT8.out.low.size).more ((HRULE.out.keep HAT8.out.low).mono HAT8.out.low.size)
        have hrat := hrows.at og8 og8.lt
        have HGH : GrAt w8 w8.heap.size (some (.string g.name)) (some (.int .i64 g.bound)) (some (.int .i64 g.states)) (some (.slice (some ⟨g7, 0, none⟩) (g.rules.length + 1) cap7)) (g.twice g.rules[i]) := by
          have hgg := HG.out
          exact ⟨rfl, hgg.2.1, rfl, rfl, hgg.2.2.2.2.1, hgg.2.2.2.2.2.1, some ⟨g7, 0, none⟩, cap7, by rw [twice_len], by rw [twice_len]; unfold reachN; omega, hrat⟩
        refine (check_ok _ (HFAIR.out.few_twice i hi) w8 _ _ _ _ HGH).mono ?_
        rintro e w9 ⟨u, es', M', N', rfl, h1, h2, h3, hp, hb9⟩
        rw [twice_len] at h2 h3
        rw [told_twice HES.out HMM.out HNN.out HTT.out hi h1 h2 h3] at hp
        obtain ⟨pb, rfl, hpb, hcells⟩ := hp.cells (by simp)
        have hcl0 := hcells 0 (by simp)
        obtain ⟨p0, p1, p2⟩ := hcl0
        simp only [Nat.zero_mul, Nat.zero_add, List.getElem_cons_zero] at p0 p1 p2
        simp only [List.length_cons, List.length_nil, Nat.zero_add]
        have HAT9 := Lib.hid (HAT8.out.keep hb9)
        have e3 := HAT9.out.bg.cell_at (i := 3) rfl
        have r0 := HAT9.out.br.cell_at (i := 0) rfl
        have l90 := HAT9.out.bg.lt
        have l91 := HAT9.out.br.lt
        have l92 := HAT9.out.bh.lt
        clear h1 h2 h3 hp hb9 hcells HGH hrat hrows og8 k0 k1 k2 k3 l28 HAT8 hg7 hz6
        go_wp2_with fail
        refine wp_region_hav_lit follows (by kernel_rfl) ?_
        repeat (first
          | (refine HavG.skip (fun _ => rfl) ?_; simp only [Act.put, List.setIfInBounds_toArray, List.set_cons_zero, List.set_cons_succ])
          | (refine HavG.val (fun _ => rfl) ?_ (fun x w hw _ => ?_) ?_; rotate_left; (focus (have hc := hw.cells; clear hw; go_simp; first | done | rfl)); simp only [Act.put, List.setIfInBounds_toArray, List.set_cons_zero, List.set_cons_succ]))
        refine HavG.tail (by kernel_rfl) (by kernel_rfl) (fun x w10 hw _ => ?_)
        have HAT10 := Lib.hid (HAT9.out.keep hw)
        have e3 := HAT10.out.bg.cell_at (i := 3) rfl
        have l00 := HAT10.out.bg.lt
        have l01 := HAT10.out.br.lt
        have l02 := HAT10.out.bh.lt
        clear hw p0 p1 p2 r0 HAT9
        clear l90 l91 l92 hpb
        go_upto_if 69 with (at_builtin; refine wpList_append_lies w10 rfl _ _ 24 rfl w10.heap.size 40 i0 _ 10 136 Try.underlying24 HI0.out HZ0.out HZ1.out HZ2.out rfl (by omega) (.slice none 0 0) 0 [] rfl ⟨rfl, .inl ⟨rfl, rfl⟩⟩ ⟨rb, ro, none⟩ g.rules.length rc cs rfl hcl.out (HNW.out _ HAT10.out.low) HON.out (by omega) HMAX.out (by omega) (Nat.le_refl _) _ rfl ?_; intro g11 cap11 w11 hown11 hgrow11 hat11 hlt11; have HAT11 := Lib.hid (HAT10.out.keep (grew_grown6 hgrow11)); have HROW11 := Lib.hid (OwnsPre.of_row hown11); have b3 := HAT11.out.bh.cell_at (i := 3) rfl; have f3 := HAT11.out.bh.free 3; have l12 := HAT11.out.bh.lt; have HAT12 := Lib.hid (HAT11.out.put (.slice (some ⟨g11, 0, none⟩) g.rules.length cap11)); have r1 := HAT12.out.br.cell_at (i := 1) rfl; have l21 := HAT12.out.br.lt; clear hown11 hgrow11 hat11)
        rw [List.nil_append] at HROW11
        have hu12 : Upd (rx + 1) w11 (w11.setCell ⟨rx + 1, 3, none⟩ (.slice (some ⟨g11, 0, none⟩) g.rules.length cap11)) := (Upd.refl _ _).setCell _ _
        have hg11 := HROW11.out.2
        have og12 := HROW11.out.1.upd hu12 (show g11 ≠ rx + 1 by omega)
        have HOG12 := Lib.hid og12
        clear hu12 og12 b3 f3 l12 HAT11 HROW11 HAT10 e3
        generalize w11.setCell ⟨rx + 1, 3, none⟩ (.slice (some ⟨g11, 0, none⟩) g.rules.length cap11) = w12 at *
        go_cut [9] (fun s9 wx => s9 = .int .u8 (nameKind g.rules[i]) ∧ wx = w12)
        case first =>
          by_cases hs : g.rules[i].sort = 0
          · have hb : (g.rules[i].sort == 0) = true := beq_iff_eq.2 hs
            have hk : nameKind g.rules[i] = 5 := by unfold nameKind; rw [if_pos hs]
            have HK := Lib.hid hk
            clear hs hk
            go_wp2_with fail
            go_meet
            exact ⟨by rw [HK.out], rfl⟩
          · have hb : (g.rules[i].sort == 0) = false := beq_eq_false_iff_ne.2 hs
            have hk : nameKind g.rules[i] = 6 := by unfold nameKind; rw [if_neg hs]
            have HK := Lib.hid hk
            clear hs hk
            go_wp2_with fail
            go_meet
            exact ⟨by rw [HK.out], rfl⟩
        case rest =>
          obtain ⟨hkr1, hwc⟩ := hcut
          obtain ⟨k, hk⟩ : ∃ k, nameKind g.rules[i] = k := ⟨_, rfl⟩
          have hk56 := nameKind_or g.rules[i]
          rw [hk] at hk56 hkr1
          subst hkr1
          obtain rfl : w12 = wc := hwc.symm
          have HK := Lib.hid hk
          have HK56 := Lib.hid hk56
          have r2 := HAT12.out.br.cell_at (i := 2) rfl
          have r3 := HAT12.out.br.cell_at (i := 3) rfl
          have r4 := HAT12.out.br.cell_at (i := 4) rfl
          have r5 := HAT12.out.br.cell_at (i := 5) rfl
          have r6 := HAT12.out.br.cell_at (i := 6) rfl
          have k3 := HAT12.out.bh.cell_at (i := 3) rfl
          have hgl := HOG12.out.lt
          have l22 := HAT12.out.bh.lt
          have hlen10 := hcl.out
          have hcx : ∀ j, j < 10 → ∃ v, w12.cell? ⟨g11, i * 10 + j, none⟩ = some v := fun j hj => by
            have hlt : i * 10 + j < (cs).length := by omega
            exact ⟨(cs)[i * 10 + j], by rw [HOG12.out.cell hlt, List.getElem?_eq_getElem hlt]⟩
          obtain ⟨t2, x2⟩ := hcx 2 (by omega)
          obtain ⟨t3, x3⟩ := hcx 3 (by omega)
          obtain ⟨t4, x4⟩ := hcx 4 (by omega)
          obtain ⟨t5, x5⟩ := hcx 5 (by omega)
          obtain ⟨t6, x6⟩ := hcx 6 (by omega)
          rw [show i * 10 + 3 = i * 10 + 2 + 1 by omega] at x3
          rw [show i * 10 + 4 = i * 10 + 2 + 2 by omega] at x4
          rw [show i * 10 + 5 = i * 10 + 2 + 3 by omega] at x5
          rw [show i * 10 + 6 = i * 10 + 2 + 4 by omega] at x6
          have y2 := HOG12.out.free (i * 10 + 2)
          have y3 := HOG12.out.free (i * 10 + 2 + 1)
          have y4 := HOG12.out.free (i * 10 + 2 + 2)
          have y5 := HOG12.out.free (i * 10 + 2 + 3)
          have y6 := HOG12.out.free (i * 10 + 2 + 4)
          have hrh := HAT12.out.rh
          have hrg : rx + 1 < g11 := by omega
          clear hcx hwc hk hk56
          go_upto_region 15 with fail
          obtain ⟨hat14, og14, os14⟩ := body_put [.int .u8 bk, .string bnm, .string btx, .slice bsa bsl bsc, .slice bna bnl bnc, .int .u8 k, .string { data := #[0] }, .string { data := #[] }, .slice none 0 0, .slice none 0 0] HAT12.out HOG12.out (show i * 10 + 2 + 5 ≤ cs.length by omega) hrg (.int .u8 1) (.string { data := #[] }) (.string { data := #[] }) (.slice none 0 0) (.slice (some ⟨w12.heap.size, 0, none⟩) 2 2)
          have HAT14 := Lib.hid hat14
          have HOG14 := Lib.hid og14
          have HOS14 := Lib.hid os14
          have k0 := hat14.bh.cell_at (i := 0) rfl
          have k1 := hat14.bh.cell_at (i := 1) rfl
          have k2 := hat14.bh.cell_at (i := 2) rfl
          have k3 := hat14.bh.cell_at (i := 3) rfl
          have l32 := hat14.bh.lt
          clear hat14 og14 os14 x2 x3 x4 x5 x6 y2 y3 y4 y5 y6 t2 t3 t4 t5 t6 r1 r2 r3 r4 r5 r6 l21 l22 hgl HOG12 HAT12
          generalize ((((((w12.setCell ⟨g11, i * 10 + 2, none⟩ (.int .u8 1)).setCell ⟨g11, i * 10 + 2 + 1, none⟩ (.string { data := #[] })).setCell ⟨g11, i * 10 + 2 + 2, none⟩ (.string { data := #[] })).setCell ⟨g11, i * 10 + 2 + 3, none⟩ (.slice none 0 0)).setCell ⟨g11, i * 10 + 2 + 4, none⟩ (.slice (some ⟨w12.heap.size, 0, none⟩) 2 2)).alloc (.cells #[.int .u8 bk, .string bnm, .string btx, .slice bsa bsl bsc, .slice bna bnl bnc, .int .u8 k, .string { data := #[0] }, .string { data := #[] }, .slice none 0 0, .slice none 0 0] 36)) = w14 at *
          generalize w12.heap.size = sb3 at *
          have HGP := put_grammar (cap := cap11) HG0.out HAT14.out.low HCS.out hi (none_at HK56.out HOS14.out HOS14.out.lt ((HN.out.keep HAT14.out.low).mono HAT14.out.low.size)) HOG14.out (by unfold reachN; omega)
          have HC := Lib.hid (check_ok _ (HFAIR.out.few_put i hi _ (by rw [none_len]; have := HFAIR.out.all6 i hi; omega)) w14 _ _ _ _ HGP)
          clear HGP
          go_wp2_with fail
          refine HC.out.mono ?_
          rintro e w15 ⟨u, es2, M2, N2, rfl, h1, h2, h3, hp, hb15⟩
          rw [put_length] at h2 h3
          have hTn : Hid (g.find nulName < 0 → ∃ T', (g.put i (noneNode k g.rules[i].body)).told es2 (at2 M2) (at2 N2) = ⟨2, i, nulName⟩ :: T') := fun hx => told_none HES.out HMM.out HNN.out HTT.out hi hx HK56.out h1 h2 h3
          have HAT15 := Lib.hid (HAT14.out.keep hb15)
          have HOG15 := Lib.hid (HOG14.out.keep hb15)
          have HP := Lib.hid hp
          clear h1 h2 h3 hp hb15 HC k0 k1 k2 k3 l32 HAT14 HOG14 HOS14
          generalize (g.put i (noneNode k g.rules[i].body)).told es2 (at2 M2) (at2 N2) = T at *
          go_upto_region 16 with fail
          go_cut [93] (fun s93 wx => ∃ b : Bool, s93 = .bool b ∧ Hid (b = true → 0 ≤ g.find nulName) ∧ wx = w15)
          case first =>
            cases T with
            | nil =>
              obtain ⟨a, rfl, -⟩ := HP.out
              simp only [List.length_nil]
              go_wp2_with fail
              go_meet
              have F : Hid (true = true → 0 ≤ g.find nulName) := fun _ => Classical.byContradiction fun hx => Exists.elim (hTn.out (by omega)) fun T' h => by cases h
              first | exact ⟨F, rfl⟩ | exact ⟨true, rfl, F, rfl⟩
            | cons p T' =>
              obtain ⟨pb2, rfl, hpb2, hcells⟩ := HP.out.cells (by simp)
              obtain ⟨p0, p1, p2⟩ := hcells 0 (by simp)
              simp only [Nat.zero_mul, Nat.zero_add, List.getElem_cons_zero] at p0 p1 p2
              obtain ⟨c, r, nm⟩ := p
              have hn0 : (((T'.length : Int) + 1) == 0) = false := beq_eq_false_iff_ne.2 (by omega)
              have HTn2 : Hid (¬ (c = 2 ∧ r = (i : Int) ∧ nm = nulName) → 0 ≤ g.find nulName) := fun hne => Classical.byContradiction fun hx => by
                obtain ⟨T2, h⟩ := hTn.out (by omega)
                simp only [List.cons.injEq, Prob.mk.injEq] at h
                exact hne h.1
              simp only [List.length_cons]
              dsimp only at p0 p1 p2
              clear hcells HP hTn
              by_cases hc : c = 2
              · subst hc
                by_cases hr : r = (i : Int)
                · subst hr
                  by_cases hnm : nm = { data := #[0] }
                  · subst hnm
                    clear HTn2
                    go_wp2_with fail
                    go_meet
                    have F : Hid (false = true → 0 ≤ g.find nulName) := fun h => Bool.noConfusion h
                    first | exact ⟨F, rfl⟩ | exact ⟨false, rfl, F, rfl⟩
                  · have hb : (nm.toList == [0]) = false := beq_eq_false_iff_ne.2 fun h => hnm (ByteArray.ext (Array.ext' (by rw [ByteArray.toList_eq] at h; exact h)))
                    have HNM := Lib.hid hnm
                    clear hnm
                    go_wp2_with fail
                    go_meet
                    have F : Hid (true = true → 0 ≤ g.find nulName) := fun _ => HTn2.out fun h => HNM.out h.2.2
                    first | exact ⟨F, rfl⟩ | exact ⟨true, rfl, F, rfl⟩
                · have hb : (r == (i : Int)) = false := beq_eq_false_iff_ne.2 hr
                  have HR := Lib.hid hr
                  clear hr
                  go_wp2_with fail
                  go_meet
                  have F : Hid (true = true → 0 ≤ g.find nulName) := fun _ => HTn2.out fun h => HR.out h.2.1
                  first | exact ⟨F, rfl⟩ | exact ⟨true, rfl, F, rfl⟩
              · have hb : (c == 2) = false := beq_eq_false_iff_ne.2 hc
                have HR := Lib.hid hc
                clear hc
                go_wp2_with fail
                go_meet
                have F : Hid (true = true → 0 ≤ g.find nulName) := fun _ => HTn2.out fun h => HR.out h.1
                first | exact ⟨F, rfl⟩ | exact ⟨true, rfl, F, rfl⟩
          case rest =>
            obtain ⟨b93, hb93, hfi, hwc⟩ := hcut
            subst hb93
            obtain rfl : w15 = wc := hwc.symm
            clear hwc HP hTn
            have e0 := HAT15.out.bg.cell_at (i := 0) rfl
            have e1 := HAT15.out.bg.cell_at (i := 1) rfl
            have e2 := HAT15.out.bg.cell_at (i := 2) rfl
            have e3 := HAT15.out.bg.cell_at (i := 3) rfl
            have l00 := HAT15.out.bg.lt
            cases b93
            · clear e0 e1 e2 e3 l00 hfi
              have r0 := HAT15.out.br.cell_at (i := 0) rfl
              have r2 := HAT15.out.br.cell_at (i := 2) rfl
              have r3 := HAT15.out.br.cell_at (i := 3) rfl
              have r4 := HAT15.out.br.cell_at (i := 4) rfl
              have r5 := HAT15.out.br.cell_at (i := 5) rfl
              have r6 := HAT15.out.br.cell_at (i := 6) rfl
              have k3 := HAT15.out.bh.cell_at (i := 3) rfl
              have hgl := HOG15.out.lt
              have l21 := HAT15.out.br.lt
              have l22 := HAT15.out.bh.lt
              have hlen10 := hcl.out
              have hcx : ∀ j, j < 10 → ∃ v, w15.cell? ⟨g11, i * 10 + j, none⟩ = some v := fun j hj => by
                have hlt : i * 10 + j < ((((((cs.set (i * 10 + 2) (.int .u8 1)).set (i * 10 + 2 + 1) (.string { data := #[] })).set (i * 10 + 2 + 2) (.string { data := #[] })).set (i * 10 + 2 + 3) (.slice none 0 0)).set (i * 10 + 2 + 4) (.slice (some ⟨sb3, 0, none⟩) 2 2))).length := by simp; omega
                exact ⟨((((((cs.set (i * 10 + 2) (.int .u8 1)).set (i * 10 + 2 + 1) (.string { data := #[] })).set (i * 10 + 2 + 2) (.string { data := #[] })).set (i * 10 + 2 + 3) (.slice none 0 0)).set (i * 10 + 2 + 4) (.slice (some ⟨sb3, 0, none⟩) 2 2)))[i * 10 + j], by rw [HOG15.out.cell hlt, List.getElem?_eq_getElem hlt]⟩
              obtain ⟨t2, x2⟩ := hcx 2 (by omega)
              obtain ⟨t3, x3⟩ := hcx 3 (by omega)
              obtain ⟨t4, x4⟩ := hcx 4 (by omega)
              obtain ⟨t5, x5⟩ := hcx 5 (by omega)
              obtain ⟨t6, x6⟩ := hcx 6 (by omega)
              rw [show i * 10 + 3 = i * 10 + 2 + 1 by omega] at x3
              rw [show i * 10 + 4 = i * 10 + 2 + 2 by omega] at x4
              rw [show i * 10 + 5 = i * 10 + 2 + 3 by omega] at x5
              rw [show i * 10 + 6 = i * 10 + 2 + 4 by omega] at x6
              have y2 := HOG15.out.free (i * 10 + 2)
              have y3 := HOG15.out.free (i * 10 + 2 + 1)
              have y4 := HOG15.out.free (i * 10 + 2 + 2)
              have y5 := HOG15.out.free (i * 10 + 2 + 3)
              have y6 := HOG15.out.free (i * 10 + 2 + 4)
              clear hcx
              go_upto_region 19 with fail
              obtain ⟨hat17, og17, os17⟩ := body_put [.int .u8 k, .string g.rules[i].name, .string { data := #[] }, .slice none 0 0, .slice none 0 0, .int .u8 bk, .string bnm, .string btx, .slice bsa bsl bsc, .slice bna bnl bnc] HAT15.out HOG15.out (show i * 10 + 2 + 5 ≤ ((((((cs.set (i * 10 + 2) (.int .u8 1)).set (i * 10 + 2 + 1) (.string { data := #[] })).set (i * 10 + 2 + 2) (.string { data := #[] })).set (i * 10 + 2 + 3) (.slice none 0 0)).set (i * 10 + 2 + 4) (.slice (some ⟨sb3, 0, none⟩) 2 2))).length by simp; omega) hrg (.int .u8 1) (.string { data := #[] }) (.string { data := #[] }) (.slice none 0 0) (.slice (some ⟨w15.heap.size, 0, none⟩) 2 2)
              rw [five_set] at og17
              have HAT17 := Lib.hid hat17
              have HOG17 := Lib.hid og17
              have HOS17 := Lib.hid os17
              have k0 := hat17.bh.cell_at (i := 0) rfl
              have k1 := hat17.bh.cell_at (i := 1) rfl
              have k2 := hat17.bh.cell_at (i := 2) rfl
              have k3 := hat17.bh.cell_at (i := 3) rfl
              have l32 := hat17.bh.lt
              clear hat17 og17 os17 x2 x3 x4 x5 x6 y2 y3 y4 y5 y6 t2 t3 t4 t5 t6 r0 r2 r3 r4 r5 r6 l21 l22 hgl HOG15 HAT15
              generalize ((((((w15.setCell ⟨g11, i * 10 + 2, none⟩ (.int .u8 1)).setCell ⟨g11, i * 10 + 2 + 1, none⟩ (.string { data := #[] })).setCell ⟨g11, i * 10 + 2 + 2, none⟩ (.string { data := #[] })).setCell ⟨g11, i * 10 + 2 + 3, none⟩ (.slice none 0 0)).setCell ⟨g11, i * 10 + 2 + 4, none⟩ (.slice (some ⟨w15.heap.size, 0, none⟩) 2 2)).alloc (.cells #[.int .u8 k, .string g.rules[i].name, .string { data := #[] }, .slice none 0 0, .slice none 0 0, .int .u8 bk, .string bnm, .string btx, .slice bsa bsl bsc, .slice bna bnl bnc] 36)) = w17 at *
              generalize w15.heap.size = sb5 at *
              have HGP := put_grammar (cap := cap11) HG0.out HAT17.out.low HCS.out hi (self_at HRULE.out.2.1 HK56.out HOS17.out HOS17.out.lt ((HN.out.keep HAT17.out.low).mono HAT17.out.low.size)) HOG17.out (by unfold reachN; omega)
              have hfew := HFAIR.out.few_put i hi (selfNode k g.rules[i].name g.rules[i].body) (by rw [self_len]; have := HFAIR.out.all6 i hi; omega)
              have HC := Lib.hid (check_ok _ hfew w17 _ _ _ _ HGP)
              have HFEW := Lib.hid hfew
              clear HGP hfew
              go_wp2_with fail
              refine HC.out.mono ?_
              rintro e w18 ⟨u2, es3, M3, N3, rfl, h1, h2, h3, hp, hb18⟩
              rw [put_length] at h2 h3
              have hself : ∃ p ∈ (g.put i (selfNode k g.rules[i].name g.rules[i].body)).told es3 (at2 M3) (at2 N3), p.rule = (i : Int) ∧ (p.code = 4 ∨ p.code = 5) := by
                have hk := HK.out
                subst hk
                exact told_self HTT.out hi h2 h3
              have hTl := HFEW.out.toldAll es3 (at2 M3) (at2 N3)
              generalize (g.put i (selfNode k g.rules[i].name g.rules[i].body)).told es3 (at2 M3) (at2 N3) = T2 at *
              obtain ⟨pb3, rfl, hpb3, hcells⟩ := hp.cells (by rintro rfl; obtain ⟨p, hp, _⟩ := hself; cases hp)
              have HCE := Lib.hid hcells
              have HSELF := Lib.hid hself
              have HAT18 := Lib.hid (HAT17.out.keep hb18)
              clear h1 h2 h3 hp hb18 HC k0 k1 k2 k3 l32 HAT17 HOG17 HOS17 hcells hself HFEW
              go_wp2_with fail
              go_loopw [12] (fun c wr => ∃ j : Nat, c = .int .i64 j ∧ j ≤ T2.length ∧ Hid (∀ m (h : m < T2.length), m < j → ¬ (T2[m].rule = (i : Int) ∧ (T2[m].code = 4 ∨ T2[m].code = 5))) ∧ wr = w18) (fun c _ => T2.length - (intOf c).toNat)
              case atStart => exact ⟨0, rfl, by omega, fun m _ h => absurd h (by omega), rfl⟩
              case round =>
                obtain ⟨j, rfl, hj, hno, rfl⟩ := hrel
                by_cases hlt : j < T2.length
                · obtain ⟨p0, p1, -⟩ := HCE.out j hlt
                  have HNX : Hid (¬ (T2[j].rule = (i : Int) ∧ (T2[j].code = 4 ∨ T2[j].code = 5)) → ∀ m (h : m < T2.length), m < j + 1 → ¬ (T2[m].rule = (i : Int) ∧ (T2[m].code = 4 ∨ T2[m].code = 5))) := fun hn m hm hmj => by
                    by_cases e : m = j
                    · subst e; exact hn
                    · exact hno.out m hm (by omega)
                  generalize T2[j].rule = r at *
                  generalize T2[j].code = c at *
                  have HB18 := Lib.hid HAT18.out.low
                  clear hno
                  by_cases hr : r = (i : Int)
                  · subst hr
                    by_cases hc4 : c = 4
                    · subst hc4
                      clear HNX
                      go_wp2_with fail
                      refine (lives6_ok _).mono ?_
                      rintro e w19 ⟨rfl, hb19⟩
                      go_wp2_with fail
                      go_ret
                      exact ⟨rfl, HB18.out.trans hb19⟩
                    · have hb4 : (c == 4) = false := beq_eq_false_iff_ne.2 hc4
                      have HC4 := Lib.hid hc4
                      clear hc4
                      by_cases hc5 : c = 5
                      · subst hc5
                        clear HNX
                        go_wp2_with fail
                        refine (lives6_ok _).mono ?_
                        rintro e w19 ⟨rfl, hb19⟩
                        go_wp2_with fail
                        go_ret
                        exact ⟨rfl, HB18.out.trans hb19⟩
                      · have hb5 : (c == 5) = false := beq_eq_false_iff_ne.2 hc5
                        have HC5 := Lib.hid hc5
                        clear hc5
                        go_wp2_with fail
                        exact ⟨⟨j + 1, by go_num, by omega, HNX.out fun h => h.2.elim HC4.out HC5.out, by first | rfl | trivial⟩, by simp [intOf]; omega⟩
                  · have hbr : (r == (i : Int)) = false := beq_eq_false_iff_ne.2 hr
                    have HR := Lib.hid hr
                    clear hr
                    go_wp2_with fail
                    exact ⟨⟨j + 1, by go_num, by omega, HNX.out fun h => HR.out h.1, by first | rfl | trivial⟩, by simp [intOf]; omega⟩
                · exfalso
                  obtain ⟨p, hp, h1, h2⟩ := HSELF.out
                  obtain ⟨m, hm, rfl⟩ := List.getElem_of_mem hp
                  exact hno.out m hm (by omega) ⟨h1, h2⟩
            · have hf0 := hfi.out rfl
              obtain ⟨f, hf⟩ := Int.eq_ofNat_of_zero_le hf0
              have HF := Lib.hid (find_ok g { data := #[0] } w15 _ _ _ _ ((HG0.out.keep HAT15.out.low).mono HAT15.out.low.size))
              have HFF : Hid (g.find { data := #[0] } = (f : Int)) := hf
              have HB15 := Lib.hid HAT15.out.low
              clear hf hf0 hfi
              go_wp2_with fail
              refine HF.out.mono ?_
              rintro e w16 ⟨rfl, hb16⟩
              rw [HFF.out]
              have HB16 := Lib.hid (HB15.out.trans hb16)
              clear hb16
              go_wp2_with fail
              refine (lives6_ok _).mono ?_
              rintro e w17 ⟨rfl, hb17⟩
              go_wp2_with fail
              go_ret
              exact ⟨rfl, HB16.out.trans hb17⟩
end Go.Proofs.Ytnopnihdobedcaa
