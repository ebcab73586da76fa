/- PathsJoin: the walk. -/
import Derived.Test.YtgdcnndmdgcjlaaPJoinA
namespace Go.Proofs.Ytgdcnndmdgcjlaa
open Go.RowKit

set_option linter.unusedSimpArgs false in
set_option maxHeartbeats 4000000 in
set_option maxRecDepth 40000 in
theorem join_ok (N : Net) (hR : N.Reach) (w : List Int) (hwl : w.length ≤ reachN) (x0 x1 x2 mid : Int) (cut : Nat) (hcut : cut ≤ 255) (W : World) (n0 n1 n2 n3 n4 wv : Value) (hB : NetAt W W.heap.size n0 n1 n2 n3 n4 N) (hWV : IntsV W W.heap.size wv w) (hcap : ∃ a c, wv = .slice a w.length c ∧ w.length ≤ c) :
    Calls Try.prog 4 #[.agg #[n0, n1, n2, n3, n4], .agg #[.int .i64 x0, .int .i64 x1, .int .i64 x2], .agg #[wv, .int .i64 mid, .int .u8 cut]] W fun e W' => e = .returned (.bool true) ∧ Grew W W' := by
  obtain ⟨a0, k0, a1, k1, a2, k2, a3, k3, a4, k4, hn0, hn1, hn2, hn3, hn4⟩ := hB.forms
  obtain ⟨wa, wc, hwv, hwc⟩ := hcap
  have hWA : IntsAt W W.heap.size wa w := by
    obtain ⟨wa', wc', he, h⟩ := hWV
    rw [hwv] at he
    cases he
    exact h
  have HWA := Lib.hid hWA
  have HWC := Lib.hid hwc
  clear hwc
  obtain ⟨w1, hw1⟩ : ∃ w1, W.alloc (.cells #[n0, n1, n2, n3, n4] 25) = w1 := ⟨_, rfl⟩
  have z1 : w1.heap.size = W.heap.size + 1 := by rw [← hw1]; exact World.size_alloc W _
  have g1 : Grew W w1 := hw1 ▸ grew_alloc W _
  have o1 : Owns w1 W.heap.size [n0, n1, n2, n3, n4] 25 := hw1 ▸ Owns.alloc W _ _
  obtain ⟨w2, hw2⟩ : ∃ w2, w1.alloc (.cells #[.int .i64 x0, .int .i64 x1, .int .i64 x2] 27) = w2 := ⟨_, rfl⟩
  have z2 : w2.heap.size = W.heap.size + 1 + 1 := by rw [← hw2, World.size_alloc, z1]
  have g2 : Grew w1 w2 := hw2 ▸ grew_alloc w1 _
  have o2 : Owns w2 (W.heap.size + 1) [.int .i64 x0, .int .i64 x1, .int .i64 x2] 27 := by rw [← z1, ← hw2]; exact Owns.alloc w1 _ _
  obtain ⟨w3, hw3⟩ : ∃ w3, w2.alloc (.cells #[wv, .int .i64 mid, .int .u8 cut] 46) = w3 := ⟨_, rfl⟩
  have g3 : Grew w2 w3 := hw3 ▸ grew_alloc w2 _
  have o3 : Owns w3 (W.heap.size + 1 + 1) [wv, .int .i64 mid, .int .u8 cut] 46 := by rw [← z2, ← hw3]; exact Owns.alloc w2 _ _
  have hJ : JoinAt N w W w3 n0 n1 n2 n3 n4 wv (.int .i64 x0) (.int .i64 x1) (.int .i64 x2) (.int .i64 mid) (.int .u8 cut) := ⟨(g1.trans g2).trans g3, (o1.keep g2).keep g3, o2.keep g3, o3⟩
  have HJ := Lib.hid hJ
  have c0 := hJ.bn.cell_at (i := 0) rfl
  have c1 := hJ.bn.cell_at (i := 1) rfl
  have c2 := hJ.bn.cell_at (i := 2) rfl
  have c3 := hJ.bn.cell_at (i := 3) rfl
  have c4 := hJ.bn.cell_at (i := 4) rfl
  have y0 := hJ.bc.cell_at (i := 0) rfl
  have HNET := Lib.hid fun (w' : World) (hg : Grew W w') => (hB.keep hg).mono hg.size
  have HTOK := Lib.hid fun (w' : World) (hg : Grew W w') => (hWV.keep hg).mono hg.size
  have HGR := Lib.hid (great13_ok N hR w hwl w3 _ _ _ _ _ _ (HNET.out w3 hJ.low) (HTOK.out w3 hJ.low))
  have HBW := Lib.hid hB
  clear hJ g1 g2 g3 o1 o2 o3 hB hWV hWA hR
  subst hn0 hn1 hn2 hn3 hn4 hwv
  go_enter Try.func4, Try.ntmps4
  go_wp2_with fail
  refine HGR.out.mono ?_
  rintro e w4 ⟨gb, rfl, hgb, hg4⟩
  have hJ4 := HJ.out.grew hg4
  have HJ4 := Lib.hid hJ4
  have c0 := hJ4.bn.cell_at (i := 0) rfl
  have c1 := hJ4.bn.cell_at (i := 1) rfl
  have c2 := hJ4.bn.cell_at (i := 2) rfl
  have c3 := hJ4.bn.cell_at (i := 3) rfl
  have c4 := hJ4.bn.cell_at (i := 4) rfl
  have HSM := Lib.hid hgb
  clear hgb hg4 hJ4 HGR HJ y0 z1 z2 hw1 hw2 hw3
  cases gb
  · obtain ⟨hS, hw7⟩ := HSM.out rfl
    have HS := Lib.hid hS
    have HMAY := Lib.hid (AMay_ok N w4 _ _ _ _ _ (HNET.out w4 HJ4.out.low) (by have := hS.states; omega) (by have := hS.starts; have := hS.stops; omega) (by have := hS.preds; omega) (by have := hS.decisions; omega) (fun s hs => by have := hS.edges s hs; omega) (fun s hs => by have := hS.ends s hs; omega))
    clear hS HSM
    go_wp2_with fail
    refine HMAY.out.mono ?_
    rintro e w5 ⟨rfl, hg5⟩
    have hJ5 := HJ4.out.grew hg5
    have HJ5 := Lib.hid hJ5
    have c0 := hJ5.bn.cell_at (i := 0) rfl
    clear hg5 hJ5 HMAY HJ4
    cases hM : N.mayB
    · go_wp2_with fail
      refine (lives13_ok _).mono ?_
      rintro e w6 ⟨rfl, hg6⟩
      have HG := Lib.hid (HJ5.out.low.trans hg6)
      clear hg6
      go_wp2_with fail
      go_ret
      exact ⟨rfl, HG.out⟩
    · by_cases hn : N.states.length = 0
      · have q : ((N.states.length : Int) == 0) = true := by simp [hn]
        have HZ := Lib.hid hn
        clear hn
        go_wp2_with fail
        refine (lives13_ok _).mono ?_
        rintro e w6 ⟨rfl, hg6⟩
        have HG := Lib.hid (HJ5.out.low.trans hg6)
        clear hg6
        go_wp2_with fail
        go_ret
        exact ⟨rfl, HG.out⟩
      · have q : ((N.states.length : Int) == 0) = false := by rw [beq_eq_false_iff_ne]; omega
        have HN0 := Lib.hid (Nat.pos_of_ne_zero hn)
        have HM := Lib.hid hM
        have q0 := HJ5.out.ba.cell_at (i := 0) rfl
        have HP0 := Lib.hid (place_ok x0 N.states.length HN0.out HS.out.states w5)
        clear hn hM
        go_wp2_with fail
        refine HP0.out.mono ?_
        rintro e w6 ⟨rfl, hg6⟩
        have hJ6 := HJ5.out.grew hg6
        have HJ6 := Lib.hid hJ6
        have q1 := hJ6.ba.cell_at (i := 1) rfl
        have HP1 := Lib.hid (place_ok x1 N.states.length HN0.out HS.out.states w6)
        clear hg6 hJ6 HP0 HJ5 q0 q
        go_wp2_with fail
        refine HP1.out.mono ?_
        rintro e w7 ⟨rfl, hg7⟩
        have hJ7 := HJ6.out.grew hg7
        have HJ7 := Lib.hid hJ7
        have q2 := hJ7.bc.cell_at (i := 1) rfl
        have HP2 := Lib.hid (place_ok mid N.states.length HN0.out HS.out.states w7)
        clear hg7 hJ7 HP1 HJ6 q1
        go_wp2_with fail
        refine HP2.out.mono ?_
        rintro e w8 ⟨rfl, hg8⟩
        have hJ8 := HJ7.out.grew hg8
        have HJ8 := Lib.hid hJ8
        have p0 := hJ8.bc.cell_at (i := 0) rfl
        have p2 := hJ8.bc.cell_at (i := 2) rfl
        have c0 := hJ8.bn.cell_at (i := 0) rfl
        have c1 := hJ8.bn.cell_at (i := 1) rfl
        have c2 := hJ8.bn.cell_at (i := 2) rfl
        have c3 := hJ8.bn.cell_at (i := 3) rfl
        have c4 := hJ8.bn.cell_at (i := 4) rfl
        obtain ⟨f, hf⟩ : ∃ f, placeN x0 N.states.length = f := ⟨_, rfl⟩
        obtain ⟨t, ht⟩ : ∃ t, placeN x1 N.states.length = t := ⟨_, rfl⟩
        obtain ⟨m, hm⟩ : ∃ m, placeN mid N.states.length = m := ⟨_, rfl⟩
        have hfl : f < N.states.length := hf ▸ placeN_lt _ _ HN0.out
        have htl : t < N.states.length := ht ▸ placeN_lt _ _ HN0.out
        have hml : m < N.states.length := hm ▸ placeN_lt _ _ HN0.out
        rw [hf, ht, hm]
        have hadd : IntKind.i64.wrap ((w.length : Int) + 1) = (w.length : Int) + 1 := by rw [IntKind.wrap_i64]; omega
        have hne : ((w.length : Int) + 1 = 0) = False := by simp; omega
        obtain ⟨c, hc⟩ : ∃ c, cut % (w.length + 1) = c := ⟨_, rfl⟩
        have hcl : c ≤ w.length := by have := Nat.mod_lt cut (y := w.length + 1) (by omega); omega
        have hrem : Int.tmod (cut : Int) ((w.length : Int) + 1) = (c : Int) := by rw [← hc]; rfl
        have hcv : IntKind.i64.wrap (cut : Int) = cut := by rw [IntKind.wrap_i64]; omega
        have HC := Lib.hid hc
        have HA := Lib.hid (ways_ok N HS.out HM.out w hw7 f m hfl hml w8 _ _ _ _ _ _ (HNET.out w8 HJ8.out.low) (HTOK.out w8 HJ8.out.low))
        clear hg8 hJ8 HP2 HJ7 q2 hf ht hm hc
        go_wp2_with fail
        refine HA.out.mono ?_
        rintro e w9 hres
        obtain ⟨⟨va, rfl, oa, rfl, hoa⟩, hg9⟩ := ways_fix hres
        have hJ9 := HJ8.out.grew hg9
        have HJ9 := Lib.hid hJ9
        have p0 := hJ9.bc.cell_at (i := 0) rfl
        have c0 := hJ9.bn.cell_at (i := 0) rfl
        have c1 := hJ9.bn.cell_at (i := 1) rfl
        have c2 := hJ9.bn.cell_at (i := 2) rfl
        have c3 := hJ9.bn.cell_at (i := 3) rfl
        have c4 := hJ9.bn.cell_at (i := 4) rfl
        have HOA := Lib.hid hoa
        have HB9 := Lib.hid (ways_ok N HS.out HM.out w hw7 f t hfl htl w9 _ _ _ _ _ _ (HNET.out w9 HJ9.out.low) (HTOK.out w9 HJ9.out.low))
        clear hres hg9 hJ9 HJ8 HA hoa p2
        go_wp2_with fail
        refine HB9.out.mono ?_
        rintro e w10 hres
        obtain ⟨⟨vb, rfl, ob, rfl, hob⟩, hg10⟩ := ways_fix hres
        have hJ10 := HJ9.out.grew hg10
        have HJ10 := Lib.hid hJ10
        have p0 := hJ10.bc.cell_at (i := 0) rfl
        have c0 := hJ10.bn.cell_at (i := 0) rfl
        have c1 := hJ10.bn.cell_at (i := 1) rfl
        have c2 := hJ10.bn.cell_at (i := 2) rfl
        have c3 := hJ10.bn.cell_at (i := 3) rfl
        have c4 := hJ10.bn.cell_at (i := 4) rfl
        have HOA := Lib.hid (HOA.out.keep hg10)
        have HOB := Lib.hid hob
        have l0 := hJ10.bc.lt
        have l1 := hJ10.bn.lt
        clear hres hg10 hJ10 HJ9 HB9 hob
        go_wp2_with fail
        refine wp_region_hav_lit follows (by kernel_rfl) ?_
        repeat (first
          | (refine HavG.skip (fun _ => rfl) ?_; simp only [Act.put, List.setIfInBounds_toArray, List.set_cons_zero, List.set_cons_succ])
          | (refine HavG.val (fun _ => rfl) ?_ (fun x w hw _ => ?_) ?_; rotate_left; (focus (have hc := hw.cells; clear hw; go_simp; first | done | rfl)); simp only [Act.put, List.setIfInBounds_toArray, List.set_cons_zero, List.set_cons_succ]))
        obtain ⟨v10, hv10⟩ : ∃ v10, sliced wa 0 c wc 1 = v10 := ⟨_, rfl⟩
        have hsl : ∀ u : World, (Instr.slice 23 (.slice wa w.length wc) none (some (.int .i64 c)) none).run Try.prog u = .ok v10 u := fun u => by
          rw [← hv10]
          exact run_cut (by have := HWC.out; omega) u
        have HV10 := Lib.hid (show ∀ W' : World, Grew W W' → IntsV W' W'.heap.size v10 (w.take c) from fun W' hg => by rw [← hv10]; exact (cut_ints hcl (HWA.out.keep hg)).mono hg.size)
        clear hv10
        refine HavG.val (fun _ => rfl) v10 (fun x w hw _ => ?_) ?_
        · clear hw
          go_simp
        simp only [Act.put, List.setIfInBounds_toArray, List.set_cons_zero, List.set_cons_succ]
        clear hsl
        refine HavG.any (fun _ => rfl) (WayR N (w.take c) f t) (fun _ _ _ hg h => WayR.keep hg h) (fun x u hw _ => ?_) ?_
        · have HW := Lib.hid (HJ10.out.low.trans hw)
          have HC2 := Lib.hid (ways_ok N HS.out HM.out (w.take c) (by rw [List.length_take]; omega) f t hfl htl u _ _ _ _ _ _ (HNET.out u HW.out) (HV10.out u HW.out))
          clear hw
          go_simp
          refine HC2.out.mono ?_
          rintro e u2 hres
          obtain ⟨⟨v, rfl, hr⟩, hg⟩ := ways_fix hres
          exact ⟨hg, hr⟩
        simp only [Act.put, List.setIfInBounds_toArray, List.set_cons_zero, List.set_cons_succ]
        refine HavG.any (fun _ => rfl) (WayR N (w.take c) f t) (fun _ _ _ hg h => WayR.keep hg h) (fun x u hw hd => ?_) ?_
        · have h7 := hd _ (List.mem_append_right _ (List.mem_singleton.2 rfl)) (by kernel_rfl)
          dsimp only at h7
          clear hd hw
          generalize x (0 + 1 + 1 + 1 + 1 + 1 + 1 + 1) = y7 at *
          have H7 := Lib.hid h7
          clear h7
          go_simp
          exact ⟨Grew.refl _, H7.out⟩
        simp only [Act.put, List.setIfInBounds_toArray, List.set_cons_zero, List.set_cons_succ]
        refine HavG.any (fun _ => rfl) (WayS N (w.take c) f t) (fun _ _ _ hg h => WayS.keep hg h) (fun x u hw hd => ?_) ?_
        · have h8 := hd _ (List.mem_append_right _ (List.mem_singleton.2 rfl)) (by kernel_rfl)
          dsimp only at h8
          clear hd hw
          generalize x (0 + 1 + 1 + 1 + 1 + 1 + 1 + 1 + 1) = y8 at *
          obtain ⟨oc, rfl, ho⟩ := h8
          have HO := Lib.hid ho
          clear ho
          go_simp
          exact ⟨Grew.refl _, oc, by first | rfl | simp [hcl] | (simp; omega), HO.out⟩
        simp only [Act.put, List.setIfInBounds_toArray, List.set_cons_zero, List.set_cons_succ]
        refine HavG.det (fun _ => rfl) (.int .i64 0) (fun x u hw hd => ?_) ?_
        · have h8 := hd _ (List.mem_append_left _ (List.mem_append_right _ (List.mem_singleton.2 rfl))) (by kernel_rfl)
          dsimp only at h8
          clear hd hw
          generalize x (0 + 1 + 1 + 1 + 1 + 1 + 1 + 1 + 1) = y8 at *
          obtain ⟨oc, rfl, ho⟩ := h8
          clear ho
          go_simp
          exact Grew.refl _
        simp only [Act.put, List.setIfInBounds_toArray, List.set_cons_zero, List.set_cons_succ]
        refine HavG.any (fun _ => rfl) (WayS N (w.take c) f t) (fun _ _ _ hg h => WayS.keep hg h) (fun x u hw hd => ?_) ?_
        · have h8 := hd _ (List.mem_append_right _ (List.mem_singleton.2 rfl)) (by kernel_rfl)
          dsimp only at h8
          clear hd hw
          generalize x (0 + 1 + 1 + 1 + 1 + 1 + 1 + 1 + 1 + 1) = y9 at *
          have H8 := Lib.hid h8
          clear h8
          go_simp
          exact ⟨Grew.refl _, H8.out⟩
        simp only [Act.put, List.setIfInBounds_toArray, List.set_cons_zero, List.set_cons_succ]
        refine HavG.tail (by kernel_rfl) (by kernel_rfl) (fun x w11 hw hx => ?_)
        have hx8 := hx _ (List.mem_append_right _ (List.mem_singleton.2 rfl))
        clear hx
        dsimp only at hx8
        generalize x (0 + 1 + 1 + 1 + 1 + 1 + 1 + 1 + 1 + 1 + 1 + 1) = y11 at *
        generalize x (0 + 1 + 1 + 1 + 1 + 1 + 1 + 1 + 1 + 1) = y9 at *
        generalize x (0 + 1 + 1 + 1 + 1 + 1 + 1 + 1 + 1) = y8 at *
        generalize x (0 + 1 + 1 + 1 + 1 + 1 + 1 + 1) = y7 at *
        obtain ⟨oc, rfl, hoc⟩ := hx8
        have hJ11 := HJ10.out.grew hw
        have HJ11 := Lib.hid hJ11
        have HOA := Lib.hid (HOA.out.keep hw)
        have HOB := Lib.hid (HOB.out.keep hw)
        have HOC := Lib.hid hoc
        have htk : (w.take c).length = c := by rw [List.length_take]; omega
        rw [htk]
        have p0 := hJ11.bc.cell_at (i := 0) rfl
        clear hw hoc hJ11 HJ10 HV10
        go_wp2_with fail
        clear p0
        go_loopw [18] (fun i wr => ∃ (j : Nat), i = .int .i64 j ∧ j ≤ c + 1 ∧ Hid (Grew w11 wr)) (fun i _ => c + 1 - (intOf i).toNat)
        case atStart => exact ⟨0, rfl, by omega, Grew.refl _⟩
        case round =>
          obtain ⟨j, rfl, hj, hgr⟩ := hrel
          by_cases hlt : j < c + 1
          · as_aux_lemma =>
            have hlti : (j : Int) < (c : Int) + 1 := by omega
            have hlti2 : (j : Int) < (w.length : Int) + 1 := by omega
            have e1 := wayCells_at (HOC.out.keep hgr.out) (i := j) (by rw [htk]; omega)
            have e2 := wayCells_at (HOB.out.keep hgr.out) (i := j) (by omega)
            rw [way_short (by omega)] at e1
            generalize wayB N w f t j = g at *
            clear HOC HOB HOA
            go_wp2_with fail
            go_quiet (fail)
            go_wp2_with fail
            have hb3 := drewN_below wr nq
            exact ⟨⟨j + 1, by go_num, by omega, hgr.out.trans hb3⟩, by simp [intOf]; omega⟩
          · have hlti : ¬ ((j : Int) < (c : Int) + 1) := by omega
            go_wp2_with fail
            obtain ⟨wo, rfl⟩ : ∃ wo : World, wo = wr := ⟨_, rfl⟩
            have HJo := Lib.hid (HJ11.out.grew hgr.out)
            have HOAo := Lib.hid (HOA.out.keep hgr.out)
            have HOBo := Lib.hid (HOB.out.keep hgr.out)
            clear hgr hlt hlti hj HJ11 HOA HOB HOC
            go_loopw [19] (fun i w' => ∃ (j : Nat), i = .int .i64 j ∧ j ≤ w.length + 1 ∧ Hid (Grew wo w')) (fun i _ => w.length + 1 - (intOf i).toNat)
            case atStart => exact ⟨0, rfl, by omega, Grew.refl _⟩
            case round =>
              obtain ⟨j, rfl, hj, hgr⟩ := hrel
              by_cases hlt : j < w.length + 1
              · as_aux_lemma =>
                have hlti : (j : Int) < (w.length : Int) + 1 := by omega
                have hJr := HJo.out.grew hgr.out
                have HJr := Lib.hid hJr
                have HOAr := Lib.hid (HOAo.out.keep hgr.out)
                have HOBr := Lib.hid (HOBo.out.keep hgr.out)
                have HGR := Lib.hid hgr.out
                have p0 := hJr.bc.cell_at (i := 0) rfl
                have c0 := hJr.bn.cell_at (i := 0) rfl
                have c1 := hJr.bn.cell_at (i := 1) rfl
                have c2 := hJr.bn.cell_at (i := 2) rfl
                have c3 := hJr.bn.cell_at (i := 3) rfl
                have c4 := hJr.bn.cell_at (i := 4) rfl
                have l0 := hJr.bc.lt
                have l1 := hJr.bn.lt
                clear hgr hJr
                go_wp2_with fail
                refine wp_region_hav_lit follows (by kernel_rfl) ?_
                repeat (first
                  | (refine HavG.skip (fun _ => rfl) ?_; simp only [Act.put, List.setIfInBounds_toArray, List.set_cons_zero, List.set_cons_succ])
                  | (refine HavG.val (fun _ => rfl) ?_ (fun x w hw _ => ?_) ?_; rotate_left; (focus (have hc := hw.cells; clear hw; go_simp; first | done | rfl)); simp only [Act.put, List.setIfInBounds_toArray, List.set_cons_zero, List.set_cons_succ]))
                obtain ⟨v10, hv10⟩ : ∃ v10, sliced wa j w.length wc 1 = v10 := ⟨_, rfl⟩
                have hsl : ∀ u : World, (Instr.slice 23 (.slice wa w.length wc) (some (.int .i64 j)) none none).run Try.prog u = .ok v10 u := fun u => by
                  rw [← hv10]
                  exact run_drop (by omega) u
                have HV10 := Lib.hid (show ∀ W' : World, Grew W W' → IntsV W' W'.heap.size v10 (w.drop j) from fun W' hg => by rw [← hv10]; exact (drop_ints HWC.out (by omega) (HWA.out.keep hg)).mono hg.size)
                clear hv10
                refine HavG.val (fun _ => rfl) v10 (fun x w hw _ => ?_) ?_
                · clear hw
                  go_simp
                simp only [Act.put, List.setIfInBounds_toArray, List.set_cons_zero, List.set_cons_succ]
                clear hsl
                refine HavG.any (fun _ => rfl) (WayR N (w.drop j) m t) (fun _ _ _ hg h => WayR.keep hg h) (fun x u hw _ => ?_) ?_
                · have HW := Lib.hid (HJr.out.low.trans hw)
                  have HC2 := Lib.hid (ways_ok N HS.out HM.out (w.drop j) (by rw [List.length_drop]; omega) m t hml htl u _ _ _ _ _ _ (HNET.out u HW.out) (HV10.out u HW.out))
                  clear hw
                  go_simp
                  refine HC2.out.mono ?_
                  rintro e u2 hres
                  obtain ⟨⟨v, rfl, hr⟩, hg⟩ := ways_fix hres
                  exact ⟨hg, hr⟩
                simp only [Act.put, List.setIfInBounds_toArray, List.set_cons_zero, List.set_cons_succ]
                refine HavG.any (fun _ => rfl) (WayR N (w.drop j) m t) (fun _ _ _ hg h => WayR.keep hg h) (fun x u hw hd => ?_) ?_
                · have h7 := hd _ (List.mem_append_right _ (List.mem_singleton.2 rfl)) (by kernel_rfl)
                  dsimp only at h7
                  clear hd hw
                  generalize x (0 + 1 + 1 + 1 + 1 + 1 + 1 + 1) = y7 at *
                  have H7 := Lib.hid h7
                  clear h7
                  go_simp
                  exact ⟨Grew.refl _, H7.out⟩
                simp only [Act.put, List.setIfInBounds_toArray, List.set_cons_zero, List.set_cons_succ]
                refine HavG.any (fun _ => rfl) (WayS N (w.drop j) m t) (fun _ _ _ hg h => WayS.keep hg h) (fun x u hw hd => ?_) ?_
                · have h8 := hd _ (List.mem_append_right _ (List.mem_singleton.2 rfl)) (by kernel_rfl)
                  dsimp only at h8
                  clear hd hw
                  generalize x (0 + 1 + 1 + 1 + 1 + 1 + 1 + 1 + 1) = y8 at *
                  obtain ⟨oc, rfl, ho⟩ := h8
                  have HO := Lib.hid ho
                  clear ho
                  go_simp
                  exact ⟨Grew.refl _, oc, by first | rfl | simp [hcl] | (simp; omega), HO.out⟩
                simp only [Act.put, List.setIfInBounds_toArray, List.set_cons_zero, List.set_cons_succ]
                refine HavG.det (fun _ => rfl) (.int .i64 0) (fun x u hw hd => ?_) ?_
                · have h8 := hd _ (List.mem_append_left _ (List.mem_append_right _ (List.mem_singleton.2 rfl))) (by kernel_rfl)
                  dsimp only at h8
                  clear hd hw
                  generalize x (0 + 1 + 1 + 1 + 1 + 1 + 1 + 1 + 1) = y8 at *
                  obtain ⟨oc, rfl, ho⟩ := h8
                  clear ho
                  go_simp
                  exact Grew.refl _
                simp only [Act.put, List.setIfInBounds_toArray, List.set_cons_zero, List.set_cons_succ]
                refine HavG.any (fun _ => rfl) (WayS N (w.drop j) m t) (fun _ _ _ hg h => WayS.keep hg h) (fun x u hw hd => ?_) ?_
                · have h8 := hd _ (List.mem_append_right _ (List.mem_singleton.2 rfl)) (by kernel_rfl)
                  dsimp only at h8
                  clear hd hw
                  generalize x (0 + 1 + 1 + 1 + 1 + 1 + 1 + 1 + 1 + 1) = y9 at *
                  have H8 := Lib.hid h8
                  clear h8
                  go_simp
                  exact ⟨Grew.refl _, H8.out⟩
                simp only [Act.put, List.setIfInBounds_toArray, List.set_cons_zero, List.set_cons_succ]
                refine HavG.tail (by kernel_rfl) (by kernel_rfl) (fun x w12 hw hx => ?_)
                have hx8 := hx _ (List.mem_append_right _ (List.mem_singleton.2 rfl))
                clear hx
                dsimp only at hx8
                generalize x (0 + 1 + 1 + 1 + 1 + 1 + 1 + 1 + 1 + 1 + 1 + 1) = y11 at *
                generalize x (0 + 1 + 1 + 1 + 1 + 1 + 1 + 1 + 1 + 1) = y9 at *
                generalize x (0 + 1 + 1 + 1 + 1 + 1 + 1 + 1 + 1) = y8 at *
                generalize x (0 + 1 + 1 + 1 + 1 + 1 + 1 + 1) = y7 at *
                obtain ⟨od, rfl, hod⟩ := hx8
                have HJs := Lib.hid (HJr.out.grew hw)
                have HOAs := Lib.hid (HOAr.out.keep hw)
                have HOBs := Lib.hid (HOBr.out.keep hw)
                have HGs := Lib.hid (HGR.out.trans hw)
                have HOD := Lib.hid hod
                obtain ⟨L, hL⟩ : ∃ L, (w.drop j).length = L := ⟨_, rfl⟩
                have hLj : L + j = w.length := by rw [← hL, List.length_drop]; omega
                rw [hL]
                have hsub : IntKind.i64.wrap ((w.length : Int) + 1 - (j : Int)) = (L : Int) + 1 := by rw [IntKind.wrap_i64]; omega
                have HL := Lib.hid hL
                clear hw hod HV10 HJr HOAr HOBr HGR hL l0 l1 p0 c0 c1 c2 c3 c4
                go_wp2_with fail
                go_loopw [22] (fun i w' => ∃ (k : Nat), i = .int .i64 k ∧ k ≤ L + 1 ∧ w' = w12) (fun i _ => L + 1 - (intOf i).toNat)
                case atStart => exact ⟨0, rfl, by omega, rfl⟩
                case round =>
                  obtain ⟨k, rfl, hk, rfl⟩ := hrel
                  by_cases hlk : k < L + 1
                  · have hki : (k : Int) < (L : Int) + 1 := by omega
                    have e1 := wayCells_at HOAs.out (i := j) (by omega)
                    have e2 := wayCells_at HOD.out (i := k) (by rw [HL.out]; omega)
                    have e3 := wayCells_at HOBs.out (i := j + k) (by omega)
                    have hjn := Lib.hid (fun h1 h2 => way_join (N := N) (w := w) (f := f) (m := m) (t := t) (i := j) (k := k) h1 h2)
                    have hwr : IntKind.i64.wrap ((j : Int) + (k : Int)) = ((j + k : Nat) : Int) := by rw [IntKind.wrap_i64]; omega
                    have hjk : ((j : Int) + (k : Int)) < (w.length : Int) + 1 := by omega
                    generalize wayB N w f m j = g1 at *
                    generalize wayB N (w.drop j) m t k = g2 at *
                    generalize wayB N w f t (j + k) = g3 at *
                    clear HOAs HOBs HOD
                    cases g1
                    · go_wp2_with fail
                      exact ⟨⟨k + 1, by go_num, by omega, trivial⟩, by simp [intOf]; omega⟩
                    · cases g2
                      · go_wp2_with fail
                        exact ⟨⟨k + 1, by go_num, by omega, trivial⟩, by simp [intOf]; omega⟩
                      · have hg3 : g3 = true := hjn.out rfl rfl
                        subst hg3
                        go_wp2_with fail
                        exact ⟨⟨k + 1, by go_num, by omega, trivial⟩, by simp [intOf]; omega⟩
                  · have hki : ¬ ((k : Int) < (L : Int) + 1) := by omega
                    go_wp2_with fail
                    exact ⟨⟨j + 1, by go_num, by omega, HGs.out⟩, by simp [intOf]; omega⟩
              · have hlti : ¬ ((j : Int) < (w.length : Int) + 1) := by omega
                go_wp2_with fail
                have HJp := Lib.hid (HJo.out.grew hgr.out)
                obtain ⟨wp, rfl⟩ : ∃ wp : World, wp = wr := ⟨_, rfl⟩
                have hOk := Net.ok_of_may HM.out
                have hfe : N.states[f].ends = [] ∨ N.states[f].ends.length = N.states[f].edges.length := by
                  have h1 := hOk.endsE f
                  unfold Net.edges Net.ends at h1
                  rw [List.getElem?_eq_getElem hfl] at h1
                  exact h1
                obtain ⟨q, hq⟩ : ∃ q, N.states[f].ends.length = q := ⟨_, rfl⟩
                have HQ := Lib.hid hq
                have hq4 : q ≤ 4000 := by rw [← hq]; exact HS.out.ends _ (List.getElem_mem hfl)
                have HFE := Lib.hid (show ∀ k, k < N.states[f].ends.length → k < N.states[f].edges.length from fun k hk => by
                  rcases hfe with h0 | h0
                  · rw [h0] at hk; simp at hk
                  · omega)
                obtain ⟨sb, soff, ha0, hsb, zv, zc, hzs⟩ : ∃ sb soff, a0 = some ⟨sb, soff, none⟩ ∧ sb < W.heap.size ∧ ∃ zv zc, Hid (∀ w', Grew W w' → w'.cell? ⟨sb, soff + f * 3 + 2, none⟩ = some (.slice zv q zc)) := by
                  obtain ⟨a', c', he, hS0⟩ := HBW.out.states
                  cases he
                  obtain ⟨sb, soff, h1, h2, h3⟩ := hS0 f hfl
                  obtain ⟨_, _, zv, zc, h4, _⟩ := h3
                  exact ⟨sb, soff, h1, h2, zv, zc, Lib.hid fun w' hg => by rw [hg.cells _ _ h2, ← hq]; exact h4⟩
                subst ha0
                clear hgr hlt hlti hj HJo HOAo HOBo hOk hfe hq
                go_loopw [23] (fun i w' => ∃ (k : Nat), i = .int .i64 k ∧ k ≤ q ∧ Hid (Grew wp w')) (fun i _ => q - (intOf i).toNat)
                case atStart => exact ⟨0, rfl, by omega, Grew.refl _⟩
                case round =>
                  obtain ⟨k, rfl, hk, hgr⟩ := hrel
                  have hJr := HJp.out.grew hgr.out
                  have HJr := Lib.hid hJr
                  have zcell := hzs.out wr hJr.low
                  have p0 := hJr.bc.cell_at (i := 0) rfl
                  have c0 := hJr.bn.cell_at (i := 0) rfl
                  have c1 := hJr.bn.cell_at (i := 1) rfl
                  have c2 := hJr.bn.cell_at (i := 2) rfl
                  have c3 := hJr.bn.cell_at (i := 3) rfl
                  have c4 := hJr.bn.cell_at (i := 4) rfl
                  have l0 := hJr.bc.lt
                  have l1 := hJr.bn.lt
                  have hsl' : sb < wr.heap.size := by have := hJr.low.size; omega
                  by_cases hlk : k < q
                  · have hlt : k < N.states[f].ends.length := by rw [HQ.out]; exact hlk
                    have hkE := HFE.out k hlt
                    have HGR := Lib.hid hgr.out
                    clear hgr hJr
                    obtain ⟨v10, hv10⟩ : ∃ v10, sliced wa 0 c wc 1 = v10 := ⟨_, rfl⟩
                    have hsl : ∀ u : World, (Instr.slice 23 (.slice wa w.length wc) none (some (.int .i64 c)) none).run Try.prog u = .ok v10 u := fun u => by
                      rw [← hv10]
                      exact run_cut (by have := HWC.out; omega) u
                    have HV10 := Lib.hid (show ∀ W' : World, Grew W W' → IntsV W' W'.heap.size v10 (w.take c) from fun W' hg => by rw [← hv10]; exact (cut_ints hcl (HWA.out.keep hg)).mono hg.size)
                    clear hv10
                    obtain ⟨b1, hb1⟩ : ∃ b1, alongB N w (N.states[f].edges[k].to.toNat) N.states[f].ends[k] = b1 := ⟨_, rfl⟩
                    have HA1 := Lib.hid (show ∀ u : World, Grew W u → Calls Try.prog 13 #[.agg #[.slice (some ⟨sb, soff, none⟩) N.states.length k0, .slice a1 N.starts.length k1, .slice a2 N.stops.length k2, .slice a3 N.preds.length k3, .slice a4 N.decisions.length k4], .int .i64 f, .int .i64 k, .slice wa w.length wc] u fun e u' => e = .returned (.bool b1) ∧ Grew u u' from
                      fun u hg => hb1 ▸ (along_ok N HS.out HM.out w hw7 f k hfl hlt hkE u _ _ _ _ _ _ (HNET.out u hg) (HTOK.out u hg)).mono fun _ _ h => along_fix h)
                    have HA2 := Lib.hid (show b1 = true → ∀ u : World, Grew W u → Calls Try.prog 13 #[.agg #[.slice (some ⟨sb, soff, none⟩) N.states.length k0, .slice a1 N.starts.length k1, .slice a2 N.stops.length k2, .slice a3 N.preds.length k3, .slice a4 N.decisions.length k4], .int .i64 f, .int .i64 k, v10] u fun e u' => e = .returned (.bool true) ∧ Grew u u' from
                      fun hbt u hg => (along_ok N HS.out HM.out (w.take c) (by rw [List.length_take]; omega) f k hfl hlt hkE u _ _ _ _ _ _ (HNET.out u hg) (HV10.out u hg)).mono fun _ _ h => by
                        have := along_fix h
                        rw [along_fewer hcl (hb1.trans hbt)] at this
                        exact this)
                    have HA3 := Lib.hid (show ∀ u : World, Grew W u → Calls Try.prog 13 #[.agg #[.slice (some ⟨sb, soff, none⟩) N.states.length k0, .slice a1 N.starts.length k1, .slice a2 N.stops.length k2, .slice a3 N.preds.length k3, .slice a4 N.decisions.length k4], .int .i64 f, .int .i64 k, .slice none 0 0] u fun e u' => e = .returned (.bool true) ∧ Grew u u' from
                      fun u hg => (along_ok N HS.out HM.out [] (by simp) f k hfl hlt hkE u _ _ _ _ _ _ (HNET.out u hg) ⟨none, 0, rfl, ints_none⟩).mono fun _ _ h => by
                        have := along_fix h
                        rw [along_nil] at this
                        exact this)
                    clear hb1 HV10 hlt hkE
                    cases b1
                    · as_aux_lemma =>
                      clear HA2 hsl
                      go_wp2_with fail
                      refine wp_region_hav_lit follows (by kernel_rfl) ?_
                      repeat (first
                        | (refine HavG.skip (fun _ => rfl) ?_; simp only [Act.put, List.setIfInBounds_toArray, List.set_cons_zero, List.set_cons_succ])
                        | (refine HavG.val (fun _ => rfl) ?_ (fun x w hw _ => ?_) ?_; rotate_left; (focus (have hc := hw.cells; clear hw; go_simp; first | done | rfl)); simp only [Act.put, List.setIfInBounds_toArray, List.set_cons_zero, List.set_cons_succ]))
                      refine HavG.det (fun _ => rfl) (.bool false) (fun x w hw _ => ?_) ?_
                      · have HW := Lib.hid (HJr.out.low.trans hw)
                        clear hw
                        go_simp
                        refine (HA1.out _ HW.out).mono ?_
                        rintro e w' ⟨rfl, hb⟩
                        exact ⟨rfl, hb⟩
                      simp only [Act.put, List.setIfInBounds_toArray, List.set_cons_zero, List.set_cons_succ]
                      repeat (first
                        | (refine HavG.skip (fun _ => rfl) ?_; simp only [Act.put, List.setIfInBounds_toArray, List.set_cons_zero, List.set_cons_succ])
                        | (refine HavG.val (fun _ => rfl) ?_ (fun x w hw _ => ?_) ?_; rotate_left; (focus (have hc := hw.cells; clear hw; go_simp; first | done | rfl)); simp only [Act.put, List.setIfInBounds_toArray, List.set_cons_zero, List.set_cons_succ]))
                      refine HavG.det (fun _ => rfl) (.bool true) (fun x w hw _ => ?_) ?_
                      · have HW := Lib.hid (HJr.out.low.trans hw)
                        clear hw
                        go_simp
                        refine (HA3.out _ HW.out).mono ?_
                        rintro e w' ⟨rfl, hb⟩
                        exact ⟨rfl, hb⟩
                      simp only [Act.put, List.setIfInBounds_toArray, List.set_cons_zero, List.set_cons_succ]
                      repeat (first
                        | (refine HavG.skip (fun _ => rfl) ?_; simp only [Act.put, List.setIfInBounds_toArray, List.set_cons_zero, List.set_cons_succ])
                        | (refine HavG.val (fun _ => rfl) ?_ (fun x w hw _ => ?_) ?_; rotate_left; (focus (have hc := hw.cells; clear hw; go_simp; first | done | rfl)); simp only [Act.put, List.setIfInBounds_toArray, List.set_cons_zero, List.set_cons_succ]))
                      refine HavG.tail (by kernel_rfl) (by kernel_rfl) (fun x wz hw _ => ?_)
                      have HZ := Lib.hid (HGR.out.trans hw)
                      clear hw
                      go_wp2_with fail
                      exact ⟨⟨k + 1, by go_num, by omega, HZ.out⟩, by simp [intOf]; omega⟩
                    · as_aux_lemma =>
                      have HA4 := Lib.hid (HA2.out rfl)
                      have HSL := Lib.hid hsl
                      clear hsl HA2
                      go_wp2_with fail
                      refine wp_region_hav_lit follows (by kernel_rfl) ?_
                      repeat (first
                        | (refine HavG.skip (fun _ => rfl) ?_; simp only [Act.put, List.setIfInBounds_toArray, List.set_cons_zero, List.set_cons_succ])
                        | (refine HavG.val (fun _ => rfl) ?_ (fun x w hw _ => ?_) ?_; rotate_left; (focus (have hc := hw.cells; clear hw; go_simp; first | done | rfl)); simp only [Act.put, List.setIfInBounds_toArray, List.set_cons_zero, List.set_cons_succ]))
                      refine HavG.det (fun _ => rfl) (.bool true) (fun x w hw _ => ?_) ?_
                      · have HW := Lib.hid (HJr.out.low.trans hw)
                        clear hw
                        go_simp
                        refine (HA1.out _ HW.out).mono ?_
                        rintro e w' ⟨rfl, hb⟩
                        exact ⟨rfl, hb⟩
                      simp only [Act.put, List.setIfInBounds_toArray, List.set_cons_zero, List.set_cons_succ]
                      repeat (first
                        | (refine HavG.skip (fun _ => rfl) ?_; simp only [Act.put, List.setIfInBounds_toArray, List.set_cons_zero, List.set_cons_succ])
                        | (refine HavG.val (fun _ => rfl) ?_ (fun x w hw _ => ?_) ?_; rotate_left; (focus (have hc := hw.cells; clear hw; go_simp; first | done | rfl)); simp only [Act.put, List.setIfInBounds_toArray, List.set_cons_zero, List.set_cons_succ]))
                      refine HavG.val (fun _ => rfl) v10 (fun x w hw _ => ?_) ?_
                      · have hsl := HSL.out
                        clear hw
                        go_simp
                      simp only [Act.put, List.setIfInBounds_toArray, List.set_cons_zero, List.set_cons_succ]
                      refine HavG.det (fun _ => rfl) (.bool true) (fun x w hw _ => ?_) ?_
                      · have HW := Lib.hid (HJr.out.low.trans hw)
                        clear hw
                        go_simp
                        refine (HA4.out _ HW.out).mono ?_
                        rintro e w' ⟨rfl, hb⟩
                        exact ⟨rfl, hb⟩
                      simp only [Act.put, List.setIfInBounds_toArray, List.set_cons_zero, List.set_cons_succ]
                      repeat (first
                        | (refine HavG.skip (fun _ => rfl) ?_; simp only [Act.put, List.setIfInBounds_toArray, List.set_cons_zero, List.set_cons_succ])
                        | (refine HavG.val (fun _ => rfl) ?_ (fun x w hw _ => ?_) ?_; rotate_left; (focus (have hc := hw.cells; clear hw; go_simp; first | done | rfl)); simp only [Act.put, List.setIfInBounds_toArray, List.set_cons_zero, List.set_cons_succ]))
                      refine HavG.det (fun _ => rfl) (.bool true) (fun x w hw _ => ?_) ?_
                      · have HW := Lib.hid (HJr.out.low.trans hw)
                        clear hw
                        go_simp
                        refine (HA3.out _ HW.out).mono ?_
                        rintro e w' ⟨rfl, hb⟩
                        exact ⟨rfl, hb⟩
                      simp only [Act.put, List.setIfInBounds_toArray, List.set_cons_zero, List.set_cons_succ]
                      repeat (first
                        | (refine HavG.skip (fun _ => rfl) ?_; simp only [Act.put, List.setIfInBounds_toArray, List.set_cons_zero, List.set_cons_succ])
                        | (refine HavG.val (fun _ => rfl) ?_ (fun x w hw _ => ?_) ?_; rotate_left; (focus (have hc := hw.cells; clear hw; go_simp; first | done | rfl)); simp only [Act.put, List.setIfInBounds_toArray, List.set_cons_zero, List.set_cons_succ]))
                      refine HavG.tail (by kernel_rfl) (by kernel_rfl) (fun x wz hw _ => ?_)
                      have HZ := Lib.hid (HGR.out.trans hw)
                      clear hw
                      go_wp2_with fail
                      exact ⟨⟨k + 1, by go_num, by omega, HZ.out⟩, by simp [intOf]; omega⟩
                  · go_wp2_with fail
                    refine (lives13_ok _).mono ?_
                    rintro e w6 ⟨rfl, hg6⟩
                    have HG := Lib.hid (HJr.out.low.trans hg6)
                    clear hg6
                    go_wp2_with fail
                    go_ret
                    exact ⟨rfl, HG.out⟩
  · go_wp2_with fail
    refine (lives13_ok _).mono ?_
    rintro e w6 ⟨rfl, hg6⟩
    have HG := Lib.hid (HJ4.out.low.trans hg6)
    clear hg6
    go_wp2_with fail
    go_ret
    exact ⟨rfl, HG.out⟩
end Go.Proofs.Ytgdcnndmdgcjlaa
