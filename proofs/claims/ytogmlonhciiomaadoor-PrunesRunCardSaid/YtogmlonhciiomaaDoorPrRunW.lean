/- PrunesRun: the walk. -/
import Derived.Test.YtogmlonhciiomaaDoorPrRMay
import Derived.Test.YtogmlonhciiomaaDoorPrTwin
import Derived.Test.YtogmlonhciiomaaDoorPrLives
namespace Go.Proofs.YtogmlonhciiomaaDoor
open Go.RowKit

def SmallR (r : Int × List Int × Nat) : Prop := (0 ≤ r.1 ∧ r.1 ≤ 255) ∧ r.2.1.length ≤ 400
theorem smallR_fail (n : Nat) : SmallR (2, [], n) := ⟨by simp, by simp⟩
theorem at_mem {a : Aut} {s : Int} {x : Stt} (h : a.at? s = some x) : x ∈ a := by
  unfold Aut.at? at h
  split at h
  · cases h
  · exact List.mem_of_getElem? h
theorem runEnd_small {a : Aut} (hu : a.U8) (hf : a.Few) (s : Int) (n : Nat) : SmallR (runEnd a s n) := by
  unfold runEnd
  cases h : a.at? s with
  | none => exact smallR_fail n
  | some x =>
    simp only
    split
    · exact smallR_fail n
    · exact ⟨hu x (at_mem h), hf.alts x (at_mem h)⟩
theorem runR_small {a : Aut} (hu : a.U8) (hf : a.Few) : ∀ (w : List Int) (s : Int) (n : Nat), SmallR (runR a s n w) := by
  intro w
  induction w with
  | nil =>
    intro s n
    unfold runR
    cases h : a.at? s with
    | none => exact smallR_fail n
    | some x =>
      simp only
      split
      · cases stepE x.edges (-1) with
        | none => exact smallR_fail n
        | some e => exact runEnd_small hu hf _ _
      · exact ⟨hu x (at_mem h), hf.alts x (at_mem h)⟩
  | cons t r ih =>
    intro s n
    unfold runR
    cases h : a.at? s with
    | none => exact smallR_fail n
    | some x =>
      simp only
      split
      · split
        · exact smallR_fail n
        · cases stepE x.edges t with
          | none => exact smallR_fail n
          | some e => exact ih _ _
      · exact ⟨hu x (at_mem h), hf.alts x (at_mem h)⟩

/-- a row's block, as cells that may be written -/
theorem row_block {w : World} {base e n g cap : Nat} {xs : List Value} (h : looseRow w base e 1 (.slice (some ⟨g, 0, none⟩) n cap) n xs) : base ≤ g ∧ ∃ cs, Owns w g cs e ∧ n ≤ cs.length := by
  rcases h.2 with ⟨h1, _⟩ | ⟨g', cap', cur, h1, h2, h3, h4, h5, h6, h7⟩
  · cases h1
  · cases h1
    refine ⟨h2, cur.toList, h3, ?_⟩
    rw [Array.length_toList]
    omega

set_option maxHeartbeats 8000000 in
set_option maxRecDepth 40000 in
theorem pRunW_ok (a : Aut) (hal : a.length ≤ reachN) (hae : ∀ s ∈ a, s.edges.length ≤ reachN ∧ s.alts.length ≤ reachN) (hu : a.U8) (z0 z1 : Int) (h0 : 0 ≤ z0 ∧ z0 ≤ 255) (h1 : 0 ≤ z1 ∧ z1 ≤ 255) (w : List Int)
    (W : World) (hT : Tab W) (v wv : Value) (hA : AutV .u8 W W.heap.size v a) (hWV : IntsV W W.heap.size wv w) :
    Calls Tryd.prog 3 #[.agg #[v], .agg #[.int .u8 z0, .int .u8 z1], wv] W fun e W' => e = .returned (.bool true) ∧ Grew W W' := by
  have hA2 := hA
  obtain ⟨a1, c1, rfl, _, hA⟩ := hA
  have hWV2 := hWV
  obtain ⟨wa, wc, rfl, _, hWV⟩ := hWV
  obtain ⟨w1, hw1⟩ : ∃ w1, W.alloc (.cells #[.slice a1 a.length c1] 24) = w1 := ⟨_, rfl⟩
  obtain ⟨w2, hw2⟩ : ∃ w2, w1.alloc (.cells #[.int .u8 z0, .int .u8 z1] 25) = w2 := ⟨_, rfl⟩
  have z1' : w1.heap.size = W.heap.size + 1 := by rw [← hw1]; simp
  have g1 : Grew W w1 := hw1 ▸ grew_alloc W _
  have g2 : Grew w1 w2 := hw2 ▸ grew_alloc w1 _
  have o1 : Owns w2 W.heap.size [.slice a1 a.length c1] 24 := (hw1 ▸ Owns.alloc W _ _ : Owns w1 W.heap.size [.slice a1 a.length c1] 24).keep g2
  have o2 : Owns w2 (W.heap.size + 1) [.int .u8 z0, .int .u8 z1] 25 := z1' ▸ hw2 ▸ Owns.alloc w1 _ _
  have q0 := o1.cell_at (i := 0) rfl
  have HA : Hid (∀ w, Grew W w → AutV .u8 w w.heap.size (.slice a1 a.length c1) a) := Lib.hid fun w hg => hA2.grew hg
  have HWV : Hid (∀ u, Grew W u → IntsV u u.heap.size (.slice wa w.length wc) w) := Lib.hid fun u hg => hWV2.grew hg
  have HT : Hid (∀ w, Grew W w → Tab w) := Lib.hid fun w hg => hT.keep hg
  have HV : Hid (∀ w, Grew W w → Calls Tryd.prog 8 #[] w fun e W' => e = .returned (.bool true) ∧ Grew w W') := Lib.hid fun w hg => plives_ok w (hT.keep hg)
  have HGT := Lib.hid (pgreat_ok a hal hae w2 _ (hA2.grew (g1.trans g2)))
  have HG := Lib.hid (g1.trans g2)
  have HO1 := Lib.hid o1
  have HO2 := Lib.hid o2
  have HU := Lib.hid hu
  obtain ⟨L, hL⟩ : ∃ L, w.length = L := ⟨_, rfl⟩
  have HL := Lib.hid hL
  rw [hL] at HWV ⊢
  clear hA hA2 hWV hWV2 hT g1 g2 o1 o2 hae hu hL
  unfold reachN at hal
  go_enter Tryd.func3, Tryd.ntmps3
  go_wp2_with fail
  clear hw1 hw2 z1'
  refine HGT.out.mono ?_
  rintro e w3 ⟨gr, rfl, hsm, hg3⟩
  have HG3 := Lib.hid (HG.out.trans hg3)
  have HO13 := Lib.hid (HO1.out.keep hg3)
  have HO23 := Lib.hid (HO2.out.keep hg3)
  have q0 := HO13.out.cell_at (i := 0) rfl
  clear hg3 HGT HG HO1 HO2
  cases gr with
  | true =>
    clear hsm
    go_wp2_with fail
    refine (HV.out w3 HG3.out).mono ?_
    rintro e w9 ⟨rfl, hg9⟩
    have HG9 := Lib.hid (Grew.trans HG3.out hg9)
    clear hg9
    go_wp2_with fail
    go_ret
    exact ⟨rfl, HG9.out⟩
  | false =>
    have hsm := hsm rfl
    have HF := Lib.hid hsm.few
    clear hsm
    by_cases hl300 : 300 < L
    · have hb : decide ((300 : Int) < (L : Int)) = true := decide_eq_true (by omega)
      go_wp2_with fail
      refine (HV.out w3 HG3.out).mono ?_
      rintro e w9 ⟨rfl, hg9⟩
      have HG9 := Lib.hid (Grew.trans HG3.out hg9)
      clear hg9
      go_wp2_with fail
      go_ret
      exact ⟨rfl, HG9.out⟩
    · have hb : decide ((300 : Int) < (L : Int)) = false := decide_eq_false (by omega)
      have HOT := Lib.hid (potherA_ok a HF.out HU.out w3 _ (HA.out w3 HG3.out))
      have HL3 := Lib.hid (show w.length ≤ 300 by rw [HL.out]; omega)
      clear hl300
      go_upto_region 3 with fail
      clear hb
      go_wp2_with fail
      refine HOT.out.mono ?_
      rintro e w4 ⟨mv, rfl, hm, hg4⟩
      have HM := Lib.hid hm
      obtain ⟨m1, mc, rfl, _, _⟩ := hm
      obtain ⟨w5, hw5⟩ : ∃ w5, w4.alloc (.cells #[.slice m1 a.length mc] 31) = w5 := ⟨_, rfl⟩
      have g5 : Grew w4 w5 := hw5 ▸ grew_alloc w4 _
      have o5 : Owns w5 w4.heap.size [.slice m1 a.length mc] 31 := hw5 ▸ Owns.alloc w4 _ _
      have HG5 := Lib.hid (HG3.out.trans (hg4.trans g5))
      have HM5 := Lib.hid (HM.out.grew g5)
      have HO5 := Lib.hid o5
      have HO15 := Lib.hid (HO13.out.keep (hg4.trans g5))
      have HO25 := Lib.hid (HO23.out.keep (hg4.trans g5))
      have HTW := Lib.hid (TwinNums_ok w HL3.out w5 _ (HWV.out w5 HG5.out))
      clear hg4 g5 o5 q0 HM HOT HO13 HO23
      go_upto_region 4 with fail
      clear hw5
      go_wp2_with fail
      refine HTW.out.mono ?_
      rintro e w6 ⟨t, rfl, ht, hg6⟩
      have HTT := Lib.hid ht
      obtain ⟨tg, tc, rfl, _⟩ := id ht
      have HG6 := Lib.hid (HG5.out.trans hg6)
      have HM6 := Lib.hid (HM5.out.grew hg6)
      have HO6 := Lib.hid (HO5.out.keep hg6)
      have HO16 := Lib.hid (HO15.out.keep hg6)
      have HO26 := Lib.hid (HO25.out.keep hg6)
      have q0 := HO16.out.cell_at (i := 0) rfl
      have HR := Lib.hid (pRun_ok a HF.out w (by have := HL3.out; omega) w6 _ _ (HA.out w6 HG6.out) ht.ints)
      rw [HL.out] at HR ⊢
      have hk := runR_small HU.out HF.out w 0 0
      obtain ⟨r, hr⟩ : ∃ r, runR a 0 0 w = r := ⟨_, rfl⟩
      have HRR := Lib.hid hr
      rw [hr] at HR hk
      obtain ⟨kd, al, n⟩ := r
      obtain ⟨hk, hkl⟩ := hk
      simp only at hk hkl
      clear ht hg6 hr HTW HM5 HO5 HO15 HO25 HG5
      go_wp2_with fail
      refine HR.out.mono ?_
      rintro e w7 ⟨av, rfl, hav, hg7⟩
      simp only at hav ⊢
      obtain ⟨ava, avc, rfl⟩ := row_slice hav
      have HAV := Lib.hid hav
      have HG67 := Lib.hid hg7
      have q7 := (HO6.out.keep hg7).cell_at (i := 0) rfl
      have HRUN := Lib.hid (rRun_ok a HF.out w (by have := HL3.out; omega) w7 _ _ (HM6.out.grew hg7) (HWV.out w7 (HG6.out.trans hg7)))
      rw [HRR.out] at HRUN
      have hwk : IntKind.i64.wrap kd = kd := wrap_small _ (by omega) (by omega)
      clear hav hg7 HR q0
      go_wp2_with fail
      refine HRUN.out.mono ?_
      rintro e w8 ⟨bv, rfl, hbv, hg8⟩
      simp only at hbv ⊢
      have HSN := Lib.hid (psameNums_ok al al w8 _ _ (by omega) (by omega) ((ints_of_row HAV.out).grew hg8) hbv)
      rw [decide_eq_true (rfl : al = al)] at HSN
      obtain ⟨bva, bvc, rfl, _, _⟩ := hbv
      have HG68 := Lib.hid (HG67.out.trans hg8)
      have HAV8 := Lib.hid (HAV.out.keep hg8)
      clear hg8 HRUN HAV q7
      have hb1 : (kd != kd) = false := by simp
      have hb2 : ((n : Int) != (n : Int)) = false := by simp
      go_wp2_with fail
      refine HSN.out.mono ?_
      rintro e w9 ⟨rfl, hg9⟩
      have HG69 := Lib.hid (HG68.out.trans hg9)
      have HAV9 := Lib.hid (HAV8.out.keep hg9)
      have HLN := Lib.hid (LeftNums_ok w HL3.out w9 _ _ (HTT.out.keep HG69.out) (HWV.out w9 (HG6.out.trans HG69.out)))
      rw [HL.out] at HLN
      clear hg9 HSN HAV8
      go_wp2_with fail
      refine HLN.out.mono ?_
      rintro e w10 ⟨rfl, hg10⟩
      have HG610 := Lib.hid (HG69.out.trans hg10)
      have HAV10 := Lib.hid (HAV9.out.keep hg10)
      clear hg10 HLN HAV9 hb1 hb2 hwk
      obtain ⟨N, hN⟩ : ∃ N, al.length = N := ⟨_, rfl⟩
      have HROW : Hid (0 < N → ∃ g, ava = some ⟨g, 0, none⟩ ∧ w6.heap.size ≤ g ∧ ∃ cs, Owns w10 g cs 3 ∧ N ≤ cs.length) := Lib.hid fun h0 => by
        rcases row_cells HAV10.out with ⟨_, h⟩ | ⟨g, cap, h, _⟩
        · omega
        · obtain ⟨rfl, _, rfl⟩ := Value.slice.inj h
          obtain ⟨h1, cs, h2, h3⟩ := row_block HAV10.out
          exact ⟨g, rfl, h1, cs, h2, by omega⟩
      rw [hN] at hkl ⊢
      have HN := Lib.hid hN
      clear hN
      go_upto_region 9 with fail
      go_wp2_with fail
      go_loopw [15] (fun ci wr => ∃ j : Nat, ci = .int .i64 j ∧ j ≤ N ∧ Hid (Grew w6 wr) ∧ Hid (0 < N → ∃ g, ava = some ⟨g, 0, none⟩ ∧ w6.heap.size ≤ g ∧ ∃ cs, Owns wr g cs 3 ∧ N ≤ cs.length)) (fun ci _ => N - (intOf ci).toNat)
      case atStart => exact ⟨0, rfl, by omega, HG610.out, HROW.out⟩
      case round =>
        clear HROW
        obtain ⟨j, rfl, hj, HGR, HRO⟩ := hrel
        by_cases hjn : j < N
        · have hd : decide ((j : Int) < (N : Int)) = true := decide_eq_true (by omega)
          obtain ⟨g, rfl, hg, cs, ho, hcl⟩ := HRO.out (by omega)
          obtain ⟨cx, hcx⟩ : ∃ cx, cs[j]? = some cx := ⟨_, List.getElem?_eq_getElem (by omega)⟩
          have c0 := ho.cell_at hcx
          have f0 := ho.free j
          have bl := ho.lt
          have HOS := Lib.hid (ho.set j (.int .i64 (-7)))
          have HGS := Lib.hid (show Grew w6 _ from Below.setCell HGR.out (p := ⟨g, j, none⟩) hg (.int .i64 (-7)))
          have HGG := Lib.hid hg
          have HCL := Lib.hid hcl
          clear ho hg hcl hcx
          go_wp2_with fail
          exact ⟨⟨j + 1, by go_num, by omega, HGS.out, fun _ => ⟨g, rfl, HGG.out, _, HOS.out, by rw [List.length_set]; exact HCL.out⟩⟩, by simp [intOf]; omega⟩
        · have hd : decide ((j : Int) < (N : Int)) = false := decide_eq_false (by omega)
          have HGW := Lib.hid (HG6.out.trans HGR.out)
          have q0 := (HO16.out.keep HGR.out).cell_at (i := 0) rfl
          have q1 := (HO26.out.keep HGR.out).cell_at (i := 0) rfl
          have q2 := (HO26.out.keep HGR.out).cell_at (i := 1) rfl
          have q3 := (HO6.out.keep HGR.out).cell_at (i := 0) rfl
          have l0 := (HO16.out.keep HGR.out).lt
          have l1 := (HO26.out.keep HGR.out).lt
          have l3 := (HO6.out.keep HGR.out).lt
          have hr0 : IntKind.i64.wrap z0 = z0 := wrap_small _ (by omega) (by omega)
          have hr1 : IntKind.i64.wrap z1 = z1 := wrap_small _ (by omega) (by omega)
          obtain ⟨wo, rfl⟩ : ∃ z, z = wr := ⟨_, rfl⟩
          have HMY : Hid (∀ u, Grew wo u → Calls Tryd.prog 15 #[.agg #[.slice a1 a.length c1], .int .i64 z0, .int .i64 z1] u fun e W' => e = .returned (.bool (a.mayB z0 z1)) ∧ Grew u W') := Lib.hid fun u hg => pMay_ok a HF.out (by unfold reachN; omega) z0 z1 (by omega) (by omega) u _ (HA.out u (HGW.out.trans hg))
          have HRM : Hid (∀ u, Grew wo u → Calls Tryd.prog 16 #[.agg #[.slice m1 a.length mc], .int .i64 z0, .int .i64 z1] u fun e W' => e = .returned (.bool (a.mayB z0 z1)) ∧ Grew u W') := Lib.hid fun u hg => rMay_ok a HF.out (by unfold reachN; omega) z0 z1 u _ (HM6.out.grew (HGR.out.trans hg))
          have HSA : Hid (∀ u, Grew wo u → Calls Tryd.prog 17 #[.agg #[.slice a1 a.length c1], .agg #[.slice m1 a.length mc]] u fun e W' => e = .returned (.bool true) ∧ Grew u W') := Lib.hid fun u hg => by
            have := psame_ok a a HF.out HF.out HU.out u _ _ (HA.out u (HGW.out.trans hg)) (HM6.out.grew (HGR.out.trans hg))
            rw [decide_eq_true (rfl : a = a)] at this
            exact this
          have HLV : Hid (∀ u, Grew wo u → Calls Tryd.prog 8 #[] u fun e W' => e = .returned (.bool true) ∧ Grew u W') := Lib.hid fun u hg => HV.out u (HGW.out.trans hg)
          generalize a.mayB z0 z1 = mb at *
          have hmm : (mb == mb) = true := by simp
          go_upto_region 13 with fail
          refine wp_region_hav_lit follows (by kernel_rfl) ?_
          repeat (first
            | (refine HavG.skip (fun _ => rfl) ?_; simp only [Act.put, List.setIfInBounds_toArray, List.set_cons_zero, List.set_cons_succ])
            | (refine HavG.val (fun _ => rfl) ?_ (fun x w hw _ => ?_) ?_; rotate_left; (focus (have hc := hw.cells; clear hw; go_simp; first | done | rfl)); simp only [Act.put, List.setIfInBounds_toArray, List.set_cons_zero, List.set_cons_succ]))
          refine HavG.det (fun _ => rfl) (.bool mb) (fun x w hw _ => ?_) ?_
          · have HW := Lib.hid hw
            clear hw
            go_simp
            refine (HMY.out _ HW.out).mono ?_
            rintro e w' ⟨rfl, hb⟩
            exact ⟨rfl, hb⟩
          simp only [Act.put, List.setIfInBounds_toArray, List.set_cons_zero, List.set_cons_succ]
          repeat (first
            | (refine HavG.skip (fun _ => rfl) ?_; simp only [Act.put, List.setIfInBounds_toArray, List.set_cons_zero, List.set_cons_succ])
            | (refine HavG.val (fun _ => rfl) ?_ (fun x w hw _ => ?_) ?_; rotate_left; (focus (have hc := hw.cells; clear hw; go_simp; first | done | rfl)); simp only [Act.put, List.setIfInBounds_toArray, List.set_cons_zero, List.set_cons_succ]))
          refine HavG.det (fun _ => rfl) (.bool mb) (fun x w hw _ => ?_) ?_
          · have HW := Lib.hid hw
            clear hw
            go_simp
            refine (HRM.out _ HW.out).mono ?_
            rintro e w' ⟨rfl, hb⟩
            exact ⟨rfl, hb⟩
          simp only [Act.put, List.setIfInBounds_toArray, List.set_cons_zero, List.set_cons_succ]
          repeat (first
            | (refine HavG.skip (fun _ => rfl) ?_; simp only [Act.put, List.setIfInBounds_toArray, List.set_cons_zero, List.set_cons_succ])
            | (refine HavG.val (fun _ => rfl) ?_ (fun x w hw _ => ?_) ?_; rotate_left; (focus (have hc := hw.cells; clear hw; go_simp; first | done | rfl)); simp only [Act.put, List.setIfInBounds_toArray, List.set_cons_zero, List.set_cons_succ]))
          refine HavG.det (fun _ => rfl) (.bool true) (fun x w hw _ => ?_) ?_
          · have HW := Lib.hid hw
            clear hw
            go_simp
            refine (HSA.out _ HW.out).mono ?_
            rintro e w' ⟨rfl, hb⟩
            exact ⟨rfl, hb⟩
          simp only [Act.put, List.setIfInBounds_toArray, List.set_cons_zero, List.set_cons_succ]
          repeat (first
            | (refine HavG.skip (fun _ => rfl) ?_; simp only [Act.put, List.setIfInBounds_toArray, List.set_cons_zero, List.set_cons_succ])
            | (refine HavG.val (fun _ => rfl) ?_ (fun x w hw _ => ?_) ?_; rotate_left; (focus (have hc := hw.cells; clear hw; go_simp; first | done | rfl)); simp only [Act.put, List.setIfInBounds_toArray, List.set_cons_zero, List.set_cons_succ]))
          refine HavG.det (fun _ => rfl) (.bool true) (fun x w hw _ => ?_) ?_
          · have HW := Lib.hid hw
            clear hw
            go_simp
            refine (HLV.out _ HW.out).mono ?_
            rintro e w' ⟨rfl, hb⟩
            exact ⟨rfl, hb⟩
          simp only [Act.put, List.setIfInBounds_toArray, List.set_cons_zero, List.set_cons_succ]
          repeat (first
            | (refine HavG.skip (fun _ => rfl) ?_; simp only [Act.put, List.setIfInBounds_toArray, List.set_cons_zero, List.set_cons_succ])
            | (refine HavG.val (fun _ => rfl) ?_ (fun x w hw _ => ?_) ?_; rotate_left; (focus (have hc := hw.cells; clear hw; go_simp; first | done | rfl)); simp only [Act.put, List.setIfInBounds_toArray, List.set_cons_zero, List.set_cons_succ]))
          refine HavG.tail (by kernel_rfl) (by kernel_rfl) (fun x wz hw _ => ?_)
          have HW := Lib.hid (show Grew wo wz from hw)
          clear hw
          go_wp2_with fail
          go_ret
          exact ⟨rfl, HGW.out.trans HW.out⟩
end Go.Proofs.YtogmlonhciiomaaDoor
