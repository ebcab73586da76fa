/- PrunesSame: the walk. -/
import Derived.Test.YtogmlonhciiomaaDoorPrSmLaw
namespace Go.Proofs.YtogmlonhciiomaaDoor
open Go.RowKit

set_option maxHeartbeats 8000000 in
set_option maxRecDepth 40000 in
theorem pSm_ok (a : Aut) (hal : a.length ≤ reachN) (hae : ∀ s ∈ a, s.edges.length ≤ reachN ∧ s.alts.length ≤ reachN) (hu : a.U8) (z0 z1 : Int) (h0 : 0 ≤ z0 ∧ z0 ≤ 255) (h1 : 0 ≤ z1 ∧ z1 ≤ 255) (lists : List (List Int)) (hll : lists.length ≤ reachN) (hli : ∀ l ∈ lists, l.length ≤ reachN)
    (W : World) (hT : Tab W) (v lv : Value) (hA : AutV .u8 W W.heap.size v a) (hL : ListsV W W.heap.size lv lists) :
    Calls Tryd.prog 5 #[.agg #[v], .agg #[.int .u8 z0, .int .u8 z1], lv] W fun e W' => e = .returned (.bool true) ∧ Grew W W' := by
  have hA2 := hA
  obtain ⟨a1, c1, rfl, _, hA⟩ := hA
  obtain ⟨la, lc, rfl, hlc, hL⟩ := hL
  obtain ⟨w1, hw1⟩ : ∃ w1, W.alloc (.cells #[.slice a1 a.length c1] 24) = w1 := ⟨_, rfl⟩
  obtain ⟨w2, hw2⟩ : ∃ w2, w1.alloc (.cells #[.int .u8 z0, .int .u8 z1] 25) = w2 := ⟨_, rfl⟩
  have z1' : w1.heap.size = W.heap.size + 1 := by rw [← hw1]; simp
  have g1 : Grew W w1 := hw1 ▸ grew_alloc W _
  have g2 : Grew w1 w2 := hw2 ▸ grew_alloc w1 _
  have o1 : Owns w2 W.heap.size [.slice a1 a.length c1] 24 := (hw1 ▸ Owns.alloc W _ _ : Owns w1 W.heap.size [.slice a1 a.length c1] 24).keep g2
  have o2 : Owns w2 (W.heap.size + 1) [.int .u8 z0, .int .u8 z1] 25 := z1' ▸ hw2 ▸ Owns.alloc w1 _ _
  have q0 := o1.cell_at (i := 0) rfl
  have p0 := o2.cell_at (i := 0) rfl
  have p1 := o2.cell_at (i := 1) rfl
  have HA : Hid (∀ w, Grew W w → AutV .u8 w w.heap.size (.slice a1 a.length c1) a) := Lib.hid fun w hg => hA2.grew hg
  have HT : Hid (∀ w, Grew W w → Tab w) := Lib.hid fun w hg => hT.keep hg
  have HV : Hid (∀ w, Grew W w → Calls Tryd.prog 8 #[] w fun e W' => e = .returned (.bool true) ∧ Grew w W') := Lib.hid fun w hg => plives_ok w (hT.keep hg)
  have HGT := Lib.hid (pgreat_ok a hal hae w2 _ (hA2.grew (g1.trans g2)))
  have HG := Lib.hid (g1.trans g2)
  have HO1 := Lib.hid o1
  have HU := Lib.hid hu
  have HL := Lib.hid hL
  have HLI := Lib.hid hli
  have hr0 : IntKind.i64.wrap z0 = z0 := wrap_small _ (by omega) (by omega)
  have hr1 : IntKind.i64.wrap z1 = z1 := wrap_small _ (by omega) (by omega)
  obtain ⟨m, hm⟩ : ∃ m, z1.tmod 21 = m := ⟨_, rfl⟩
  have hm0 : 0 ≤ m ∧ m ≤ 20 := by
    rw [← hm, Int.tmod_eq_emod_of_nonneg (by omega)]
    omega
  have hrm : IntKind.i64.wrap m = m := wrap_small _ (by omega) (by omega)
  clear hA hA2 hT g1 g2 o1 o2 hL hae hli
  unfold reachN at hll hal
  go_enter Tryd.func5, Tryd.ntmps5
  go_upto_region 3 with fail
  clear hw1 hw2 z1' p0 p1 hr0 hr1 hrm hm
  go_wp2_with fail
  refine HGT.out.mono ?_
  rintro e w3 ⟨gr, rfl, hsm, hg3⟩
  have HG3 := Lib.hid (HG.out.trans hg3)
  have HOW := Lib.hid (HO1.out.keep hg3)
  have q0 := (HO1.out.keep hg3).cell_at (i := 0) rfl
  clear hg3 HGT HG HO1
  cases gr with
  | true =>
    clear hsm
    go_wp2_with fail
    refine (HV.out w3 HG3.out).mono ?_
    rintro e w4 ⟨rfl, hg4⟩
    have HG4 := Lib.hid (HG3.out.trans hg4)
    clear hg4
    go_wp2_with fail
    go_ret
    exact ⟨rfl, HG4.out⟩
  | false =>
    have hsm := hsm rfl
    have HSM := Lib.hid hsm
    clear hsm
    by_cases hl20 : 20 < lists.length
    · have hb : decide ((20 : Int) < (lists.length : Int)) = true := by simp; omega
      have HB := Lib.hid hl20
      clear hl20
      go_wp2_with fail
      refine (HV.out w3 HG3.out).mono ?_
      rintro e w4 ⟨rfl, hg4⟩
      have HG4 := Lib.hid (HG3.out.trans hg4)
      clear hg4
      go_wp2_with fail
      go_ret
      exact ⟨rfl, HG4.out⟩
    · have hb : decide ((20 : Int) < (lists.length : Int)) = false := by simp; omega
      have hl20' : lists.length ≤ 20 := by omega
      clear hl20
      have hna : a.length ≤ 60 := HSM.out.1
      have hfew := HSM.out.few
      have HF := Lib.hid hfew
      have HLE := Lib.hid (pleast_ok a hfew z0 m (by omega) (by omega) w3 (HT.out w3 HG3.out) _ (HA.out w3 HG3.out))
      have HMA : Hid (∀ w, Grew W w → Calls Tryd.prog 15 #[.agg #[.slice a1 a.length c1], .int .i64 z0, .int .i64 m] w fun e W' => e = .returned (.bool (a.mayB z0 m)) ∧ Grew w W') := Lib.hid fun w hg => pMay_ok a hfew (by unfold reachN; omega) z0 m (by omega) (by omega) w _ (HA.out w hg)
      clear hfew
      go_upto_region 5 with fail
      clear hb
      go_wp2_with fail
      refine HLE.out.mono ?_
      rintro e w4 ⟨xv, kk, rfl, hg4, hx⟩
      rcases hx with ⟨hmay, rfl, rfl⟩ | ⟨hmay, rfl, x, hx, hX⟩
      · have HM1 := HMA.out
        rw [hmay] at HM1
        have HMA := Lib.hid HM1
        have HG4 := Lib.hid hg4
        clear HM1 hg4 hmay HLE q0
        go_upto_region 6 with fail
        obtain ⟨w5, hw5⟩ : ∃ w5, w4.alloc (.cells #[.slice none 0 0] 24) = w5 := ⟨_, rfl⟩
        have g5 : Grew w4 w5 := hw5 ▸ grew_alloc w4 _
        have HG5 := Lib.hid (HG3.out.trans (HG4.out.trans g5))
        have q5 := (HOW.out.keep (HG4.out.trans g5)).cell_at (i := 0) rfl
        clear g5
        rw [hw5]
        go_wp2_with fail
        refine (HMA.out w5 HG5.out).mono ?_
        rintro e w6 ⟨rfl, hg6⟩
        have HG6 := Lib.hid (HG5.out.trans hg6)
        clear hg6
        go_wp2_with fail
        refine (HV.out w6 HG6.out).mono ?_
        rintro e w7 ⟨rfl, hg7⟩
        have HG7 := Lib.hid (HG6.out.trans hg7)
        clear hg7
        go_wp2_with fail
        go_ret
        exact ⟨rfl, HG7.out⟩
      · have hok := okay_of_may hmay
        have h1l := may_len hmay
        have hB := hx.best hok h1l HF.out.states
        have hxf := hx.few hok h1l HF.out
        have hmx := hB.may _ _ hmay
        have HXU := Lib.hid (okay_u8 (okay_of_may hmx))
        have HBB := Lib.hid hB
        have HXF := Lib.hid hxf
        have hxl : x.length ≤ 60 := Nat.le_trans hB.most hna
        have hxa : decide (a.length < x.length) = false := by have := hB.most; simp; omega
        have HX : Hid (∀ w, Grew w4 w → AutV .u8 w w.heap.size xv x) := Lib.hid fun w hg => hX.grew hg
        obtain ⟨xa, xc, rfl, hxc, hX⟩ := hX
        have HM1 := HMA.out
        rw [hmay] at HM1
        have HMA := Lib.hid HM1
        have HMX : Hid (∀ w, Grew w4 w → Calls Tryd.prog 15 #[.agg #[.slice xa x.length xc], .int .i64 z0, .int .i64 m] w fun e W' => e = .returned (.bool true) ∧ Grew w W') := Lib.hid fun w hg => by
          have := pMay_ok x HXF.out (by unfold reachN; omega) z0 m (by omega) (by omega) w _ (HX.out w hg)
          rw [hmx] at this
          exact this
        have HLX : Hid (∀ w, Grew w4 w → Calls Tryd.prog 18 #[.agg #[.slice xa x.length xc], .int .i64 z0, .int .i64 m] w fun e W' => ∃ v, e = .returned (.tuple #[.agg #[v], .int .i64 0]) ∧ Grew w W' ∧ AutV .u8 W' W'.heap.size v x) := Lib.hid fun w hg => by
          refine (pleast_ok x HXF.out z0 m (by omega) (by omega) w (HT.out w (HG3.out.trans (hg4.trans hg))) _ (HX.out w hg)).mono ?_
          rintro e W' ⟨v, k, rfl, hg', (⟨h, _, _⟩ | ⟨_, rfl, y, hy, hY⟩)⟩
          · rw [hmx] at h; cases h
          · obtain rfl : x = y := hB.own.uniq hy
            exact ⟨v, rfl, hg', hY⟩
        have HSTS := Lib.hid hX
        obtain ⟨w5, hw5⟩ : ∃ w5, w4.alloc (.cells #[.slice xa x.length xc] 24) = w5 := ⟨_, rfl⟩
        have g5 : Grew w4 w5 := hw5 ▸ grew_alloc w4 _
        have o5 : Owns w5 w4.heap.size [.slice xa x.length xc] 24 := hw5 ▸ Owns.alloc w4 _ _
        have HG4 := Lib.hid hg4
        have HG5 := Lib.hid (HG3.out.trans (hg4.trans g5))
        have HG45 := Lib.hid g5
        have q5 := (HOW.out.keep (hg4.trans g5)).cell_at (i := 0) rfl
        have HOW5 := Lib.hid (HOW.out.keep (hg4.trans g5))
        have HOX5 := Lib.hid o5
        clear HM1 hg4 g5 o5 hmay HLE q0 hok h1l hB hxf hmx hx hX
        go_upto_region 8 with fail
        clear hw5
        go_wp2_with fail
        refine (HMA.out w5 HG5.out).mono ?_
        rintro e w6 ⟨rfl, hg6⟩
        have HG6 := Lib.hid (HG5.out.trans hg6)
        have HG46 := Lib.hid (HG45.out.trans hg6)
        have HOX6 := Lib.hid (HOX5.out.keep hg6)
        have HOW6 := Lib.hid (HOW5.out.keep hg6)
        have x6 := HOX6.out.cell_at (i := 0) rfl
        clear hg6 q5 HOX5 HOW5 HMA
        go_wp2_with fail
        refine (HMX.out w6 HG46.out).mono ?_
        rintro e w7 ⟨rfl, hg7⟩
        have HG7 := Lib.hid (HG6.out.trans hg7)
        have HG47 := Lib.hid (HG46.out.trans hg7)
        have HOX := Lib.hid (HOX6.out.keep hg7)
        have HOA := Lib.hid (HOW6.out.keep hg7)
        have x7 := HOX.out.cell_at (i := 0) rfl
        have q7 := HOA.out.cell_at (i := 0) rfl
        clear hg7 x6 HOX6 HOW6 HMX HG5 HG45 HG6 HG46
        go_wp2_with fail
        clear hxa x7 q7
        go_loopw [11] (fun i wr => ∃ n : Nat, i = .int .i64 n ∧ n ≤ lists.length ∧ Hid (Grew w7 wr)) (fun i _ => lists.length - (intOf i).toNat)
        case atStart => exact ⟨0, rfl, by omega, Grew.refl _⟩
        case round =>
          obtain ⟨n, rfl, hn, HGR⟩ := hrel
          by_cases hlt : n < lists.length
          · obtain ⟨lb, lo, c, cc, rfl, hlb, hcell, hcc, hI⟩ := HL.out n hlt
            have hcell' : wr.cell? ⟨lb, lo + n, none⟩ = some (.slice c lists[n].length cc) := by rw [(HG7.out.trans HGR.out).cells _ _ hlb]; exact hcell
            obtain ⟨l, hl⟩ : ∃ l, lists[n] = l := ⟨_, rfl⟩
            rw [hl] at hcell' hcc hI
            have hlr : l.length ≤ 140737488355328 := by
              have := HLI.out l (by rw [← hl]; exact List.getElem_mem hlt)
              unfold reachN at this
              exact this
            have HII := Lib.hid hI
            have lbw : lb < wr.heap.size := Nat.lt_of_lt_of_le hlb (HG7.out.trans HGR.out).size
            clear hcell hl hI
            by_cases h200 : 200 < l.length
            · have hb : decide ((200 : Int) < (l.length : Int)) = true := by simp; omega
              have HB := Lib.hid h200
              clear h200
              go_wp2_with fail
              refine (HV.out wr (HG7.out.trans HGR.out)).mono ?_
              rintro e w8 ⟨rfl, hg8⟩
              have HG8 := Lib.hid ((HG7.out.trans HGR.out).trans hg8)
              clear hg8
              go_wp2_with fail
              go_ret
              exact ⟨rfl, HG8.out⟩
            · have hb : decide ((200 : Int) < (l.length : Int)) = false := by simp; omega
              have hl200 : l.length ≤ 200 := by omega
              clear h200
              have HAL : Hid (∀ w k, Grew wr w → k ≤ l.length → Calls Tryd.prog 20 #[.agg #[.slice a1 a.length c1], .agg #[.slice xa x.length xc], .slice c k cc] w fun e W' => e = .returned (.bool true) ∧ Grew w W') := Lib.hid fun w k hg hk => by
                have h := palike_ok a x HF.out HXF.out (l.take k) (by simp; omega) w _ _ (.slice c k cc) (HA.out w ((HG7.out.trans HGR.out).trans hg)) (HX.out w ((HG47.out.trans HGR.out).trans hg))
                  ⟨c, cc, by simp; omega, by simp; omega, (((HII.out.keep ((HG7.out.trans HGR.out).trans hg)).mono ((HG7.out.trans HGR.out).trans hg).size)).take k⟩
                rw [alikeB_best HBB.out] at h
                exact h
              go_upto_region 15 with fail
              go_wp2_with fail
              go_loopw [12] (fun i wr' => ∃ k : Nat, i = .int .i64 k ∧ k ≤ l.length + 1 ∧ k ≤ 30 ∧ Hid (Grew wr wr')) (fun i _ => 30 - (intOf i).toNat)
              case atStart => exact ⟨0, rfl, by omega, by omega, Grew.refl _⟩
              case round =>
                obtain ⟨k, rfl, hk1, hk2, HGK⟩ := hrel
                have HGA := Lib.hid (HGR.out.trans HGK.out)
                have hcl := HGA.out.size
                have q0 := (HOA.out.keep HGA.out).cell_at (i := 0) rfl
                have x0 := (HOX.out.keep HGA.out).cell_at (i := 0) rfl
                have lA := (HOA.out.keep HGA.out).lt
                have lX := (HOX.out.keep HGA.out).lt
                have cl := (HGK.out.cells lb (lo + n) lbw).trans hcell'
                have lbw2 := Nat.lt_of_lt_of_le lbw HGK.out.size
                clear hcl
                by_cases hkl : k ≤ l.length
                · by_cases hk30 : k < 30
                  · have hd1 : decide (k ≤ l.length) = true := decide_eq_true hkl
                    have hd2 : decide ((k : Int) < 30) = true := decide_eq_true (by omega)
                    go_upto_region 18 with fail
                    have hkc : k ≤ cc := Nat.le_trans hkl hcc
                    have hkc2 : ¬ (cc < k) := by omega
                    have HLK := Lib.hid hkl
                    clear hkl hd1 hd2
                    refine wp_region_hav_lit follows (by kernel_rfl) ?_
                    repeat (first
                      | (refine HavG.skip (fun _ => rfl) ?_; simp only [Act.put, List.setIfInBounds_toArray, List.set_cons_zero, List.set_cons_succ])
                      | (refine HavG.val (fun _ => rfl) ?_ (fun x w hw _ => ?_) ?_; rotate_left; (focus (have hc := hw.cells; clear hw; go_simp; first | done | rfl)); simp only [Act.put, List.setIfInBounds_toArray, List.set_cons_zero, List.set_cons_succ]))
                    refine HavG.det (fun _ => rfl) (.bool true) (fun x' w hw hd => ?_) ?_
                    · clear hd
                      have HW := Lib.hid hw
                      clear hw
                      go_simp
                      refine (HAL.out w k (HGK.out.trans HW.out) HLK.out).mono ?_
                      rintro e w' ⟨rfl, hg⟩
                      exact ⟨rfl, hg⟩
                    simp only [Act.put, List.setIfInBounds_toArray, List.set_cons_zero, List.set_cons_succ]
                    repeat (first
                      | (refine HavG.skip (fun _ => rfl) ?_; simp only [Act.put, List.setIfInBounds_toArray, List.set_cons_zero, List.set_cons_succ])
                      | (refine HavG.val (fun _ => rfl) ?_ (fun x w hw _ => ?_) ?_; rotate_left; (focus (have hc := hw.cells; clear hw; go_simp; first | done | rfl)); simp only [Act.put, List.setIfInBounds_toArray, List.set_cons_zero, List.set_cons_succ]))
                    refine HavG.tail (by kernel_rfl) (by kernel_rfl) (fun x' w8 hw _ => ?_)
                    have HW := Lib.hid hw
                    clear hw
                    go_wp2_with fail
                    go_round
                    case rel => exact ⟨k + 1, by go_num, by have := HLK.out; omega, by omega, HGK.out.trans HW.out⟩
                    case measure => simp [intOf]; omega
                  · have hd1 : decide (k ≤ l.length) = true := decide_eq_true hkl
                    have hd2 : decide ((k : Int) < 30) = false := decide_eq_false (by omega)
                    have HLK := Lib.hid hkl
                    clear hkl
                    go_upto_region 20 with fail
                    refine wp_region_hav_lit follows (by kernel_rfl) ?_
                    repeat (first
                      | (refine HavG.skip (fun _ => rfl) ?_; simp only [Act.put, List.setIfInBounds_toArray, List.set_cons_zero, List.set_cons_succ])
                      | (refine HavG.val (fun _ => rfl) ?_ (fun x w hw _ => ?_) ?_; rotate_left; (focus (have hc := hw.cells; clear hw; go_simp; first | done | rfl)); simp only [Act.put, List.setIfInBounds_toArray, List.set_cons_zero, List.set_cons_succ]))
                    refine HavG.det (fun _ => rfl) (.bool true) (fun x' w hw hd => ?_) ?_
                    · clear hd
                      have HW := Lib.hid hw
                      clear hw
                      go_simp
                      refine (HAL.out w l.length (HGK.out.trans HW.out) (Nat.le_refl _)).mono ?_
                      rintro e w' ⟨rfl, hg⟩
                      exact ⟨rfl, hg⟩
                    simp only [Act.put, List.setIfInBounds_toArray, List.set_cons_zero, List.set_cons_succ]
                    repeat (first
                      | (refine HavG.skip (fun _ => rfl) ?_; simp only [Act.put, List.setIfInBounds_toArray, List.set_cons_zero, List.set_cons_succ])
                      | (refine HavG.val (fun _ => rfl) ?_ (fun x w hw _ => ?_) ?_; rotate_left; (focus (have hc := hw.cells; clear hw; go_simp; first | done | rfl)); simp only [Act.put, List.setIfInBounds_toArray, List.set_cons_zero, List.set_cons_succ]))
                    refine HavG.tail (by kernel_rfl) (by kernel_rfl) (fun x' w8 hw _ => ?_)
                    have HW := Lib.hid hw
                    clear hw
                    go_wp2_with fail
                    go_round
                    case rel => exact ⟨n + 1, by go_num, by omega, HGR.out.trans (HGK.out.trans HW.out)⟩
                    case measure => simp [intOf]; omega
                · have hd1 : decide (k ≤ l.length) = false := decide_eq_false hkl
                  have HLK := Lib.hid hkl
                  clear hkl
                  go_upto_region 20 with fail
                  refine wp_region_hav_lit follows (by kernel_rfl) ?_
                  repeat (first
                    | (refine HavG.skip (fun _ => rfl) ?_; simp only [Act.put, List.setIfInBounds_toArray, List.set_cons_zero, List.set_cons_succ])
                    | (refine HavG.val (fun _ => rfl) ?_ (fun x w hw _ => ?_) ?_; rotate_left; (focus (have hc := hw.cells; clear hw; go_simp; first | done | rfl)); simp only [Act.put, List.setIfInBounds_toArray, List.set_cons_zero, List.set_cons_succ]))
                  refine HavG.det (fun _ => rfl) (.bool true) (fun x' w hw hd => ?_) ?_
                  · clear hd
                    have HW := Lib.hid hw
                    clear hw
                    go_simp
                    refine (HAL.out w l.length (HGK.out.trans HW.out) (Nat.le_refl _)).mono ?_
                    rintro e w' ⟨rfl, hg⟩
                    exact ⟨rfl, hg⟩
                  simp only [Act.put, List.setIfInBounds_toArray, List.set_cons_zero, List.set_cons_succ]
                  repeat (first
                    | (refine HavG.skip (fun _ => rfl) ?_; simp only [Act.put, List.setIfInBounds_toArray, List.set_cons_zero, List.set_cons_succ])
                    | (refine HavG.val (fun _ => rfl) ?_ (fun x w hw _ => ?_) ?_; rotate_left; (focus (have hc := hw.cells; clear hw; go_simp; first | done | rfl)); simp only [Act.put, List.setIfInBounds_toArray, List.set_cons_zero, List.set_cons_succ]))
                  refine HavG.tail (by kernel_rfl) (by kernel_rfl) (fun x' w8 hw _ => ?_)
                  have HW := Lib.hid hw
                  clear hw
                  go_wp2_with fail
                  go_round
                  case rel => exact ⟨n + 1, by go_num, by omega, HGR.out.trans (HGK.out.trans HW.out)⟩
                  case measure => simp [intOf]; omega
          · obtain rfl : n = lists.length := by omega
            have x0 := (HOX.out.keep HGR.out).cell_at (i := 0) rfl
            go_upto_region 22 with fail
            go_wp2_with fail
            refine (HLX.out wr (HG47.out.trans HGR.out)).mono ?_
            rintro e w8 ⟨yv, rfl, hg8, hY⟩
            obtain ⟨ya, yc, rfl, hyc, _⟩ := id hY
            obtain ⟨w9, hw9⟩ : ∃ w9, w8.alloc (.cells #[.slice ya x.length yc] 24) = w9 := ⟨_, rfl⟩
            have g9 : Grew w8 w9 := hw9 ▸ grew_alloc w8 _
            have o9 : Owns w9 w8.heap.size [.slice ya x.length yc] 24 := hw9 ▸ Owns.alloc w8 _ _
            have hg79 := HGR.out.trans (hg8.trans g9)
            have heq := pequal_ok x x HXF.out HXF.out HXU.out HXU.out w9 _ _ (HX.out w9 (HG47.out.trans hg79)) (hY.grew g9)
            rw [decide_eq_true rfl] at heq
            have HEQ := Lib.hid heq
            have x9 := (HOX.out.keep hg79).cell_at (i := 0) rfl
            have y9 := o9.cell_at (i := 0) rfl
            have HG79 := Lib.hid hg79
            clear hg8 hY g9 o9 hg79 heq x0 hyc
            go_upto_region 23 with fail
            clear hw9
            go_wp2_with fail
            refine HEQ.out.mono ?_
            rintro e w10 ⟨rfl, hg10⟩
            have HGA := Lib.hid (HG79.out.trans hg10)
            clear hg10 HG79 HEQ x9 y9
            go_wp2_with fail
            go_loopw [15, 16] (fun nx i wr => ∃ (q : Int) (j : Nat), nx = .int .i64 q ∧ i = .int .i64 j ∧ j ≤ x.length ∧ Hid (bfsL (x.drop j) j q = some (x.length : Int)) ∧ Hid (Grew w10 wr)) (fun _ i _ => x.length - (intOf i).toNat)
            case atStart => exact ⟨1, 0, rfl, rfl, by omega, HBB.out.bfs, Grew.refl _⟩
            case round =>
              obtain ⟨nx, j, rfl, rfl, hj, hbf, HGI⟩ := hrel
              have hnx60 := bfsL_le _ hbf.out
              have HGX := Lib.hid (HGA.out.trans HGI.out)
              have x0 := (HOX.out.keep HGX.out).cell_at (i := 0) rfl
              by_cases hjl : j < x.length
              · have hdr : x.drop j = x[j] :: x.drop (j + 1) := List.drop_eq_getElem_cons hjl
                have hb1 := hbf.out
                rw [hdr] at hb1
                have hd1 : decide (j < x.length) = true := decide_eq_true hjl
                by_cases hjn : (j : Int) < nx
                · have hd2 : decide ((j : Int) < nx) = true := decide_eq_true hjn
                  obtain ⟨mm, hne, hbr⟩ := bfsL_cons hb1 hjn
                  have hmm := bfsL_le _ hbr
                  have hnm := nextE_le _ hne
                  obtain ⟨xb, xo, v0, v1, v2, rfl, hxb, e0, e1, e2, rfl, _, hE⟩ := HSTS.out j hjl
                  obtain ⟨ea, ec, rfl, hec, hE⟩ := hE
                  obtain ⟨s, hs⟩ : ∃ s, x[j] = s := ⟨_, rfl⟩
                  rw [hs] at e2 hE hne
                  have hse := HXF.out.edges s (by rw [← hs]; exact List.getElem_mem hjl)
                  have HE := Lib.hid hE
                  have HE2 := Lib.hid e2
                  have HBR := Lib.hid hbr
                  have HNE := Lib.hid hne
                  have HDN := Lib.hid hjn
                  clear e0 e1 e2 hE hbr hne hs hdr hb1 hjn hec
                  go_upto_region 29 with fail
                  go_wp2_with fail
                  clear x0 hd1 hd2
                  go_loopw [15, 17] (fun nx c wr' => ∃ (q : Int) (k : Nat), nx = .int .i64 q ∧ c = .int .i64 k ∧ k ≤ s.edges.length ∧ Hid (nextE (s.edges.drop k) q = some mm) ∧ (j : Int) < q ∧ Hid (Grew wr wr')) (fun _ c _ => s.edges.length - (intOf c).toNat)
                  case atStart => exact ⟨nx, 0, rfl, rfl, by omega, HNE.out, HDN.out, Grew.refl _⟩
                  case round =>
                    obtain ⟨q, k, rfl, rfl, hk, hnq, hjq, HGK⟩ := hrel
                    have hqm := nextE_le _ hnq.out
                    have HGY := Lib.hid (HGX.out.trans HGK.out)
                    have x0 := (HOX.out.keep HGY.out).cell_at (i := 0) rfl
                    have x2 := ((HG47.out.trans HGY.out).cells _ _ hxb).trans HE2.out
                    by_cases hkl : k < s.edges.length
                    · have hdr : s.edges.drop k = s.edges[k] :: s.edges.drop (k + 1) := List.drop_eq_getElem_cons hkl
                      obtain ⟨eb, eo, rfl, heb, f0, f1⟩ := HE.out k hkl
                      have hn1 := hnq.out
                      rw [hdr] at hn1
                      obtain ⟨ed, hed⟩ : ∃ ed, s.edges[k] = ed := ⟨_, rfl⟩
                      rw [hed] at f1 hn1
                      have y1 := ((HG47.out.trans HGY.out).cells _ _ heb).trans f1
                      have hrq : IntKind.i64.wrap (q + 1) = q + 1 := wrap_small _ (by omega) (by omega)
                      clear f0 f1 hed hdr
                      by_cases het : ed.tgt = q
                      · have hq1 : (ed.tgt == q) = true := by simpa using het
                        have hq2 : decide (q + 1 ≤ ed.tgt) = false := by simp; omega
                        have HNX := Lib.hid (nextE_hit hn1 het)
                        have HET := Lib.hid het
                        clear hn1 het
                        go_wp2_with fail
                        go_round
                        case rel => exact ⟨q + 1, k + 1, rfl, by go_num, by omega, HNX.out, by omega, HGK.out⟩
                        case measure => simp [intOf]; omega
                      · have hq1 : (ed.tgt == q) = false := by simpa using het
                        obtain ⟨hlt', hn2⟩ := nextE_miss hn1 het
                        have hq2 : decide (q ≤ ed.tgt) = false := by simp; omega
                        have HNX := Lib.hid hn2
                        have HET := Lib.hid het
                        clear hn1 het hn2
                        go_wp2_with fail
                        go_round
                        case rel => exact ⟨q, k + 1, rfl, by go_num, by omega, HNX.out, by omega, HGK.out⟩
                        case measure => simp [intOf]; omega
                    · obtain rfl : k = s.edges.length := by omega
                      have hnq' := hnq.out
                      rw [List.drop_length] at hnq'
                      have hqe : q = mm := Option.some.inj hnq'
                      subst hqe
                      clear hnq'
                      go_wp2_with fail
                      go_round
                      case rel => exact ⟨q, j + 1, rfl, by go_num, by omega, HBR.out, HGI.out.trans HGK.out⟩
                      case measure => simp [intOf]; omega
                · have NXE := bfsL_stop hb1 hjn
                  exact absurd hjl (by omega)
              · have hd1 : decide (j < x.length) = false := decide_eq_false hjl
                obtain rfl : j = x.length := by omega
                have NXE : nx = (x.length : Int) := by
                  have := hbf.out
                  rw [List.drop_length] at this
                  exact Option.some.inj this
                clear hjl
                have hnx : nx = (x.length : Int) := NXE
                subst hnx
                have hd0 : ((x.length : Int) == (x.length : Int)) = true := by simp
                go_upto_region 36 with fail
                go_wp2_with fail
                refine (HV.out wr (HG7.out.trans (HGA.out.trans HGI.out))).mono ?_
                rintro e w11 ⟨rfl, hg11⟩
                have HG11 := Lib.hid ((HG7.out.trans (HGA.out.trans HGI.out)).trans hg11)
                clear hg11
                go_wp2_with fail
                go_ret
                exact ⟨rfl, HG11.out⟩
end Go.Proofs.YtogmlonhciiomaaDoor
