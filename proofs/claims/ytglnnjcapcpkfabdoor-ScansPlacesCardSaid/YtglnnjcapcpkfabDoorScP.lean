/- ScansPlaces: it answers true, for every text. -/
import Derived.Test.YtglnnjcapcpkfabDoorScLives
namespace Go.Proofs.YtglnnjcapcpkfabDoor
open Go.RowKit

theorem words_few (L : Nat) : ∀ (ws : List Wd) (m : Nat), (∀ w ∈ ws, m ≤ w.at_ ∧ w.at_ < L) → ws.Pairwise (fun a b => a.at_ < b.at_) → ws = [] ∨ m + ws.length ≤ L
  | [], _, _, _ => .inl rfl
  | w :: ws, m, h, hp => by
    have h0 := h w (by simp)
    rw [List.pairwise_cons] at hp
    rcases words_few L ws (m + 1) (fun x hx => ⟨by have := hp.1 x hx; omega, (h x (List.mem_cons_of_mem _ hx)).2⟩) hp.2 with rfl | h2
    · right; simp; omega
    · right; rw [List.length_cons]; omega

set_option maxHeartbeats 8000000 in
set_option maxRecDepth 40000 in
theorem scansPlaces_ok (s : ByteArray) (W : World) (hW : LaidS W) : Calls Tryd.prog 3 #[.string s] W fun e W' => e = .returned (.bool true) ∧ Grew W W' := by
  have hL : Hid (∀ w, Grew W w → Calls Tryd.prog 4 #[] w fun e w' => e = .returned (.bool true) ∧ Grew w w') := fun w hg => lives2_ok w (hW.below hg)
  by_cases hbig : s.size ≤ 2000
  · have hS := scan_ok s W (by omega) hW
    have hok := scanF_ok s.data.toList
    have hLs : s.data.toList.length = s.size := (Lib.size_eq s).symm
    have hPl : Hid (∀ w (q : Nat), q ≤ s.size → Calls Tryd.prog 6 #[.string s, .int .i64 (q : Nat)] w fun e W' => e = .returned (.agg #[.int .i64 (q : Nat), .int .i64 ((placeOf (s.data.toList.take q) 1 1).1 : Nat), .int .i64 ((placeOf (s.data.toList.take q) 1 1).2 : Nat)]) ∧ Grew w W') := fun w q hq => by
      have := place_ok s (q : Int) w (by omega) (by omega) (by omega)
      unfold PlaceIs at this
      rw [place_L, within_nat s q hq] at this
      exact this
    obtain ⟨o, ho⟩ : ∃ o, scanF s.data.toList = o := ⟨_, rfl⟩
    rw [ho] at hS hok
    obtain ⟨ws, q, e⟩ := o
    simp only at hok
    have HS := Lib.hid hS
    have HOK := Lib.hid hok
    clear hS hok ho hW
    go_enter Tryd.func3, Tryd.ntmps3
    go_wp2_with fail
    refine HS.out.mono ?_
    rintro r w1 ⟨hg1, hF, hT⟩
    have G1 := Lib.hid hg1
    by_cases he : e = 0
    · obtain ⟨v, rfl, hv, ⟨va, vc, rfl⟩⟩ := hT he
      subst he
      have HV := Lib.hid hv
      obtain ⟨_, hws, hbm⟩ := HOK.out.1 rfl
      have HROW : Hid (ws.length ≤ vc ∧ ∀ (i : Nat) (hi : i < ws.length), ∃ g, va = some ⟨g, 0, none⟩ ∧ g < w1.heap.size ∧ WordCell w1 W.heap.size g i s.data.toList ws[i]) := by
        by_cases hne : ws = []
        · subst hne
          exact ⟨Nat.zero_le _, fun i hi => absurd hi (by simp)⟩
        · obtain ⟨g, c, hv1, _, hlt, hc, hcell⟩ := hv.get hne
          simp only [Value.slice.injEq] at hv1
          obtain ⟨rfl, _, rfl⟩ := hv1
          exact ⟨hc, fun i hi => ⟨g, rfl, hlt, hcell i hi⟩⟩
      have hvc := HROW.out.1
      have hwl : ws.length ≤ 1048576 := by
        rcases words_few s.data.toList.length ws 0 (fun w hw => ⟨Nat.zero_le _, (hws.1 w hw).1⟩) hws.2 with rfl | h
        · simp
        · omega
      have HWS := Lib.hid hws
      have hg2 := grew_alloc w1 (.cells #[.int .i64 0, .int .i64 0, .int .i64 0, .int .i64 0] 28)
      have hO2 : Owns (w1.alloc (.cells #[.int .i64 0, .int .i64 0, .int .i64 0, .int .i64 0] 28)) w1.heap.size [.int .i64 0, .int .i64 0, .int .i64 0, .int .i64 0] 28 := Owns.alloc w1 _ _
      clear hF hT hg1 hv HS HOK hws hbm HV
      go_wp2_with fail
      generalize hfb : w1.heap.size = fb at *
      generalize w1.alloc (.cells #[.int .i64 0, .int .i64 0, .int .i64 0, .int .i64 0] 28) = w2 at *
      have G2 := Lib.hid (G1.out.trans hg2)
      have O2 := Lib.hid hO2
      have G12 := Lib.hid hg2
      clear hg2 hO2
      go_loopw [5] (fun v wr => ∃ j : Nat, v = .int .i64 j ∧ j ≤ ws.length ∧ Hid (Grew w2 wr)) (fun v _ => ws.length - (intOf v).toNat)
      case atStart => exact ⟨0, rfl, Nat.zero_le _, Grew.refl _⟩
      case round =>
        obtain ⟨j, rfl, hj, HG⟩ := hrel
        by_cases hlt : j < ws.length
        · obtain ⟨g, rfl, hgl, hcell⟩ := HROW.out.2 j hlt
          have hg1r := G12.out.trans HG.out
          have hglr : g < wr.heap.size := by have := HG.out.size; have := G12.out.size; omega
          have d0 := (hg1r.cells _ _ (by omega : g < w1.heap.size)).trans hcell.kind
          have d1 := (hg1r.cells _ _ (by omega : g < w1.heap.size)).trans hcell.text
          have d3 := (hg1r.cells _ _ (by omega : g < w1.heap.size)).trans hcell.at_
          have d4 := (hg1r.cells _ _ (by omega : g < w1.heap.size)).trans hcell.line
          have d5 := (hg1r.cells _ _ (by omega : g < w1.heap.size)).trans hcell.col
          have hwd := HWS.out.1 _ (List.getElem_mem hlt)
          have hpv : 0 < j → ∃ e, wr.cell? ⟨g, (j - 1) * 6 + 3, none⟩ = some (.int .i64 (e : Nat)) ∧ e < ws[j].at_ := fun h => by
            obtain ⟨g', hg', hgl', hcell'⟩ := HROW.out.2 (j - 1) (by omega)
            simp only [Option.some.injEq, Addr.mk.injEq, and_true] at hg'
            subst hg'
            exact ⟨_, (hg1r.cells _ _ (by omega : g < w1.heap.size)).trans hcell'.at_, List.pairwise_iff_getElem.1 HWS.out.2 (j - 1) j (by omega) hlt (by omega)⟩
          generalize hw : ws[j] = wd at *
          obtain ⟨hat, hasc, hk4, htx⟩ := hwd
          have HTX := Lib.hid htx
          have hg3 := grew_alloc wr (.cells #[.int .i64 (wd.at_ : Nat), .int .i64 ((placeOf (s.data.toList.take wd.at_) 1 1).1 : Nat), .int .i64 ((placeOf (s.data.toList.take wd.at_) 1 1).2 : Nat)] 26)
          have hO3 : Owns (wr.alloc (.cells #[.int .i64 (wd.at_ : Nat), .int .i64 ((placeOf (s.data.toList.take wd.at_) 1 1).1 : Nat), .int .i64 ((placeOf (s.data.toList.take wd.at_) 1 1).2 : Nat)] 26)) wr.heap.size [.int .i64 (wd.at_ : Nat), .int .i64 ((placeOf (s.data.toList.take wd.at_) 1 1).1 : Nat), .int .i64 ((placeOf (s.data.toList.take wd.at_) 1 1).2 : Nat)] 26 := Owns.alloc wr _ _
          have hatq : wd.at_ < s.size := by omega
          have HP : Hid (∀ w, Calls Tryd.prog 6 #[.string s, .int .i64 (wd.at_ : Nat)] w fun e W' => e = .returned (.agg #[.int .i64 (wd.at_ : Nat), .int .i64 ((placeOf (s.data.toList.take wd.at_) 1 1).1 : Nat), .int .i64 ((placeOf (s.data.toList.take wd.at_) 1 1).2 : Nat)]) ∧ Grew w W') := fun w => hPl.out w wd.at_ (by omega)
          obtain ⟨pl, hpl⟩ : ∃ x, placeOf (s.data.toList.take wd.at_) 1 1 = x := ⟨_, rfl⟩
          rw [hpl] at hg3 hO3 HP d4 d5
          clear hpl
          obtain ⟨pl, pc⟩ := pl
          simp only at hg3 hO3 HP d4 d5
          have HPV := Lib.hid hpv
          have HHAT := Lib.hid hat
          clear hw hpv hcell htx hasc hat
          obtain ⟨wk, wt, wset, wat⟩ := wd
          simp only at *
          go_upto_region 10 with fail
          generalize hnb : wr.heap.size = nb at *
          generalize wr.alloc (.cells #[.int .i64 (wat : Nat), .int .i64 (pl : Nat), .int .i64 (pc : Nat)] 26) = w3 at *
          have G3 := Lib.hid (HG.out.trans hg3)
          have O3 := Lib.hid hO3
          have e0 := (hg3.cells g (j * 6) (by omega)).trans d0
          have e1 := (hg3.cells g (j * 6 + 1) (by omega)).trans d1
          have k0 := hO3.cell_at (i := 0) rfl
          have k1 := hO3.cell_at (i := 1) rfl
          have k2 := hO3.cell_at (i := 2) rfl
          have klt := hO3.lt
          have hgl3 : g < w3.heap.size := by have := hg3.size; omega
          have HPV3 : Hid (0 < j → ∃ e, w3.cell? ⟨g, (j - 1) * 6 + 3, none⟩ = some (.int .i64 (e : Nat)) ∧ e < wat) := fun h => by
            obtain ⟨e, h1, h2⟩ := HPV.out h
            exact ⟨e, (hg3.cells g _ (by omega)).trans h1, h2⟩
          have q1 : ((wat : Int) == (wat : Int)) = true := beq_self_eq_true _
          have q2 : ((pl : Int) == (pl : Int)) = true := beq_self_eq_true _
          have q3 : ((pc : Int) == (pc : Int)) = true := beq_self_eq_true _
          clear hO3 hg3 d0 d1 d3 d4 d5 HPV hglr hg1r
          have hge : ¬ ((s.size : Int) ≤ (wat : Int)) := by omega
          cases j with
          | zero =>
            refine wp_region_hav_lit follows (by kernel_rfl) ?_
            iterate 4 (first
              | (refine HavG.skip (fun _ => rfl) ?_; simp only [Act.put, List.setIfInBounds_toArray, List.set_cons_zero, List.set_cons_succ])
              | (refine HavG.val (fun _ => rfl) ?_ (fun x w hw _ => ?_) ?_; rotate_left; (focus (have hc := hw.cells; clear hw; go_simp; first | done | rfl)); simp only [Act.put, List.setIfInBounds_toArray, List.set_cons_zero, List.set_cons_succ]))
            refine HavG.det (fun _ => rfl) (.agg #[.int .i64 (wat : Nat), .int .i64 (pl : Nat), .int .i64 (pc : Nat)]) (fun x w hw hd => ?_) ?_
            · clear hd
              have HWW := Lib.hid hw
              clear hw
              go_simp
              refine (HP.out w).mono ?_
              rintro e w' ⟨rfl, hg⟩
              exact ⟨rfl, hg⟩
            simp only [Act.put, List.setIfInBounds_toArray, List.set_cons_zero, List.set_cons_succ]
            repeat (first
              | (refine HavG.skip (fun _ => rfl) ?_; simp only [Act.put, List.setIfInBounds_toArray, List.set_cons_zero, List.set_cons_succ])
              | (refine HavG.val (fun _ => rfl) ?_ (fun x w hw _ => ?_) ?_; rotate_left; (focus (have hc := hw.cells; clear hw; go_simp; first | done | rfl)); simp only [Act.put, List.setIfInBounds_toArray, List.set_cons_zero, List.set_cons_succ]))
            refine HavG.tail (by kernel_rfl) (by kernel_rfl) (fun x w hw _ => ?_)
            have G4 := Lib.hid (G3.out.trans hw)
            have v0 := (hw.cells g _ hgl3).trans e0
            have v1 := (hw.cells g _ hgl3).trans e1
            have v2 := (hw.cells nb _ klt).trans k0
            clear hw e0 e1 k0 k1 k2 klt hgl3 HPV3 q1 q2 q3 HP
            by_cases hkk : wk = 0 ∨ wk = 1 ∨ wk = 4
            · obtain ⟨t1, t2, t3⟩ := HTX.out hkk
              obtain ⟨T, hT⟩ : ∃ T : ByteArray, T = ⟨wt.toArray⟩ := ⟨_, rfl⟩
              have hTl : T.data.toList = wt := by rw [hT]
              have hTs : T.size = wt.length := by rw [Lib.size_eq, hTl]
              have hex : s.extract wat (wat + T.size) = T := by
                have : (s.extract wat (wat + T.size)).data.toList = T.data.toList := by
                  rw [Lib.extract_data, hTl, hTs, Nat.add_sub_cancel_left]
                  exact t3.symm
                have h2 := text_det this
                rw [h2]
              have hemp : T.toList.isEmpty = false := by
                rw [empty_iff]
                apply decide_eq_false
                rw [hTl]
                exact t1
              have hbd : wat + T.size ≤ s.size := by rw [hTs]; omega
              have hbd2 : ¬ ((s.size : Int) < (wat : Int) + T.size) := by omega
              have HSL : ∀ w, (Instr.slice 9 (.string s) (some (.int .i64 (wat : Nat))) (some (.int .i64 ((wat : Int) + T.size))) none).run Tryd.prog w = .ok (.string T) w := fun w => by
                rw [run_slice_string w 9 s .i64 .i64 (wat : Int) ((wat : Int) + T.size) (by kernel_rfl) (by omega) (by omega) (by omega)]
                rw [Int.toNat_natCast, show ((wat : Int) + T.size).toNat = wat + T.size by omega, hex]
              have heq : (T.toList == T.toList) = true := beq_self_eq_true _
              rw [← hT] at v1
              clear hT hTl hTs t1 t2 t3 hex HTX HROW HWS hPl
              rcases hkk with rfl | rfl | rfl
              · go_wp2_with fail
                exact ⟨⟨1, rfl, by omega, G4⟩, by simp [intOf]; omega⟩
              · go_wp2_with fail
                exact ⟨⟨1, rfl, by omega, G4⟩, by simp [intOf]; omega⟩
              · go_wp2_with fail
                exact ⟨⟨1, rfl, by omega, G4⟩, by simp [intOf]; omega⟩
            · have hk23 : wk = 2 ∨ wk = 3 := by omega
              clear HTX HROW HWS hPl hkk
              rcases hk23 with rfl | rfl
              · go_wp2_with fail
                exact ⟨⟨1, rfl, by omega, G4⟩, by simp [intOf]; omega⟩
              · go_wp2_with fail
                exact ⟨⟨1, rfl, by omega, G4⟩, by simp [intOf]; omega⟩
          | succ j =>
            obtain ⟨e, p0, hlt2⟩ := HPV3.out (by omega)
            have p0 : w3.cell? ⟨g, j * 6 + 3, none⟩ = some (.int .i64 (e : Nat)) := p0
            have hlt3 : ¬ ((wat : Int) ≤ (e : Int)) := by omega
            have hwj : IntKind.i64.wrap (j : Int) = (j : Int) := wrap_smallS _ (by omega) (by omega)
            have hjl : (j : Int) < (ws.length : Int) := by omega
            refine wp_region_hav_lit follows (by kernel_rfl) ?_
            iterate 4 (first
              | (refine HavG.skip (fun _ => rfl) ?_; simp only [Act.put, List.setIfInBounds_toArray, List.set_cons_zero, List.set_cons_succ])
              | (refine HavG.val (fun _ => rfl) ?_ (fun x w hw _ => ?_) ?_; rotate_left; (focus (have hc := hw.cells; clear hw; go_simp; first | done | rfl)); simp only [Act.put, List.setIfInBounds_toArray, List.set_cons_zero, List.set_cons_succ]))
            refine HavG.det (fun _ => rfl) (.agg #[.int .i64 (wat : Nat), .int .i64 (pl : Nat), .int .i64 (pc : Nat)]) (fun x w hw hd => ?_) ?_
            · clear hd
              have HWW := Lib.hid hw
              clear hw
              go_simp
              refine (HP.out w).mono ?_
              rintro e w' ⟨rfl, hg⟩
              exact ⟨rfl, hg⟩
            simp only [Act.put, List.setIfInBounds_toArray, List.set_cons_zero, List.set_cons_succ]
            repeat (first
              | (refine HavG.skip (fun _ => rfl) ?_; simp only [Act.put, List.setIfInBounds_toArray, List.set_cons_zero, List.set_cons_succ])
              | (refine HavG.val (fun _ => rfl) ?_ (fun x w hw _ => ?_) ?_; rotate_left; (focus (have hc := hw.cells; clear hw; go_simp; first | done | rfl)); simp only [Act.put, List.setIfInBounds_toArray, List.set_cons_zero, List.set_cons_succ]))
            refine HavG.tail (by kernel_rfl) (by kernel_rfl) (fun x w hw _ => ?_)
            have G4 := Lib.hid (G3.out.trans hw)
            have v0 := (hw.cells g _ hgl3).trans e0
            have v1 := (hw.cells g _ hgl3).trans e1
            have v2 := (hw.cells nb _ klt).trans k0
            clear hw e0 e1 k0 k1 k2 klt hgl3 HPV3 q1 q2 q3 HP
            by_cases hkk : wk = 0 ∨ wk = 1 ∨ wk = 4
            · obtain ⟨t1, t2, t3⟩ := HTX.out hkk
              obtain ⟨T, hT⟩ : ∃ T : ByteArray, T = ⟨wt.toArray⟩ := ⟨_, rfl⟩
              have hTl : T.data.toList = wt := by rw [hT]
              have hTs : T.size = wt.length := by rw [Lib.size_eq, hTl]
              have hex : s.extract wat (wat + T.size) = T := by
                have : (s.extract wat (wat + T.size)).data.toList = T.data.toList := by
                  rw [Lib.extract_data, hTl, hTs, Nat.add_sub_cancel_left]
                  exact t3.symm
                have h2 := text_det this
                rw [h2]
              have hemp : T.toList.isEmpty = false := by
                rw [empty_iff]
                apply decide_eq_false
                rw [hTl]
                exact t1
              have hbd : wat + T.size ≤ s.size := by rw [hTs]; omega
              have hbd2 : ¬ ((s.size : Int) < (wat : Int) + T.size) := by omega
              have HSL : ∀ w, (Instr.slice 9 (.string s) (some (.int .i64 (wat : Nat))) (some (.int .i64 ((wat : Int) + T.size))) none).run Tryd.prog w = .ok (.string T) w := fun w => by
                rw [run_slice_string w 9 s .i64 .i64 (wat : Int) ((wat : Int) + T.size) (by kernel_rfl) (by omega) (by omega) (by omega)]
                rw [Int.toNat_natCast, show ((wat : Int) + T.size).toNat = wat + T.size by omega, hex]
              have heq : (T.toList == T.toList) = true := beq_self_eq_true _
              rw [← hT] at v1
              clear hT hTl hTs t1 t2 t3 hex HTX HROW HWS hPl
              rcases hkk with rfl | rfl | rfl
              · go_wp2_with fail
                exact ⟨⟨j + 1 + 1, by go_num, by omega, G4⟩, by simp [intOf]; omega⟩
              · go_wp2_with fail
                exact ⟨⟨j + 1 + 1, by go_num, by omega, G4⟩, by simp [intOf]; omega⟩
              · go_wp2_with fail
                exact ⟨⟨j + 1 + 1, by go_num, by omega, G4⟩, by simp [intOf]; omega⟩
            · have hk23 : wk = 2 ∨ wk = 3 := by omega
              clear HTX HROW HWS hPl hkk
              rcases hk23 with rfl | rfl
              · go_wp2_with fail
                exact ⟨⟨j + 1 + 1, by go_num, by omega, G4⟩, by simp [intOf]; omega⟩
              · go_wp2_with fail
                exact ⟨⟨j + 1 + 1, by go_num, by omega, G4⟩, by simp [intOf]; omega⟩
        · have hO := O2.out.keep HG.out
          have k0 := hO.cell_at (i := 0) rfl
          have k1 := hO.cell_at (i := 1) rfl
          have k2 := hO.cell_at (i := 2) rfl
          have k3 := hO.cell_at (i := 3) rfl
          clear hO HROW HWS hPl
          go_wp2_with fail
          refine (hL.out wr (G2.out.trans HG.out)).mono ?_
          rintro e w ⟨rfl, hg⟩
          have G5 := Lib.hid ((G2.out.trans HG.out).trans hg)
          clear hg
          go_wp2_with fail
          go_ret
          exact ⟨rfl, G5.out⟩
    · have hr := hF he
      subst hr
      obtain ⟨rfl, hq, he34⟩ := HOK.out.2 he
      clear hF hT hg1
      unfold faultV
      simp only
      have hg2 := grew_alloc w1 (.cells #[.int .i64 (e : Nat), .int .i64 (q : Nat), .int .i64 ((placeOf (s.data.toList.take q) 1 1).1 : Nat), .int .i64 ((placeOf (s.data.toList.take q) 1 1).2 : Nat)] 28)
      have hO2 : Owns (w1.alloc (.cells #[.int .i64 (e : Nat), .int .i64 (q : Nat), .int .i64 ((placeOf (s.data.toList.take q) 1 1).1 : Nat), .int .i64 ((placeOf (s.data.toList.take q) 1 1).2 : Nat)] 28)) w1.heap.size [.int .i64 (e : Nat), .int .i64 (q : Nat), .int .i64 ((placeOf (s.data.toList.take q) 1 1).1 : Nat), .int .i64 ((placeOf (s.data.toList.take q) 1 1).2 : Nat)] 28 := Owns.alloc w1 _ _
      have hP := hPl.out
      have hqs : q ≤ s.size := by omega
      have HP : Hid (∀ w, Calls Tryd.prog 6 #[.string s, .int .i64 (q : Nat)] w fun e W' => e = .returned (.agg #[.int .i64 (q : Nat), .int .i64 ((placeOf (s.data.toList.take q) 1 1).1 : Nat), .int .i64 ((placeOf (s.data.toList.take q) 1 1).2 : Nat)]) ∧ Grew w W') := fun w => hP w q hqs
      have he0 : ¬ ((e : Int) = 0) := by omega
      clear hP
      generalize placeOf (s.data.toList.take q) 1 1 = pl at *
      obtain ⟨pl, pc⟩ := pl
      simp only at hg2 hO2 HP ⊢
      have e1 : ((q : Int) == (q : Int)) = true := beq_self_eq_true _
      have e2 : ((pl : Int) == (pl : Int)) = true := beq_self_eq_true _
      have e3 : ((pc : Int) == (pc : Int)) = true := beq_self_eq_true _
      have e4 : ((e : Int) == 0) = false := by rw [beq_eq_false_iff_ne]; omega
      clear hPl HS HOK
      go_upto_region 5 with fail
      generalize w1.alloc (.cells #[.int .i64 (e : Nat), .int .i64 (q : Nat), .int .i64 (pl : Nat), .int .i64 (pc : Nat)] 28) = w2 at *
      have G2 := Lib.hid (G1.out.trans hg2)
      have k0 := hO2.cell_at (i := 0) rfl
      have k1 := hO2.cell_at (i := 1) rfl
      have k2 := hO2.cell_at (i := 2) rfl
      have k3 := hO2.cell_at (i := 3) rfl
      have klt := hO2.lt
      clear hO2 hg2 he0
      refine wp_region_hav_lit follows (by kernel_rfl) ?_
      iterate 6 (first
        | (refine HavG.skip (fun _ => rfl) ?_; simp only [Act.put, List.setIfInBounds_toArray, List.set_cons_zero, List.set_cons_succ])
        | (refine HavG.val (fun _ => rfl) ?_ (fun x w hw _ => ?_) ?_; rotate_left; (focus (have hc := hw.cells; clear hw; go_simp; first | done | rfl)); simp only [Act.put, List.setIfInBounds_toArray, List.set_cons_zero, List.set_cons_succ]))
      refine HavG.det (fun _ => rfl) (.agg #[.int .i64 (q : Nat), .int .i64 (pl : Nat), .int .i64 (pc : Nat)]) (fun x w hw hd => ?_) ?_
      · clear hd
        have HWW := Lib.hid hw
        clear hw
        go_simp
        refine (HP.out w).mono ?_
        rintro e w' ⟨rfl, hg⟩
        exact ⟨rfl, hg⟩
      simp only [Act.put, List.setIfInBounds_toArray, List.set_cons_zero, List.set_cons_succ]
      iterate 10 (first
        | (refine HavG.skip (fun _ => rfl) ?_; simp only [Act.put, List.setIfInBounds_toArray, List.set_cons_zero, List.set_cons_succ])
        | (refine HavG.val (fun _ => rfl) ?_ (fun x w hw _ => ?_) ?_; rotate_left; (focus (have hc := hw.cells; clear hw; go_simp; first | done | rfl)); simp only [Act.put, List.setIfInBounds_toArray, List.set_cons_zero, List.set_cons_succ]))
      refine HavG.det (fun _ => rfl) (.bool true) (fun x w hw hd => ?_) ?_
      · clear hd
        have HWW := Lib.hid hw
        clear hw
        go_simp
        refine (hL.out w (G2.out.trans HWW.out)).mono ?_
        rintro e w' ⟨rfl, hg⟩
        exact ⟨rfl, hg⟩
      simp only [Act.put, List.setIfInBounds_toArray, List.set_cons_zero, List.set_cons_succ]
      repeat (first
        | (refine HavG.skip (fun _ => rfl) ?_; simp only [Act.put, List.setIfInBounds_toArray, List.set_cons_zero, List.set_cons_succ])
        | (refine HavG.val (fun _ => rfl) ?_ (fun x w hw _ => ?_) ?_; rotate_left; (focus (have hc := hw.cells; clear hw; go_simp; first | done | rfl)); simp only [Act.put, List.setIfInBounds_toArray, List.set_cons_zero, List.set_cons_succ]))
      refine HavG.tail (by kernel_rfl) (by kernel_rfl) (fun x w hw _ => ?_)
      have G3 := Lib.hid (G2.out.trans hw)
      clear hw
      go_wp2_with fail
      go_ret
      exact ⟨rfl, G3.out⟩
  · have hbig2 : (2000 : Int) < (s.size : Int) := by omega
    go_enter Tryd.func3, Tryd.ntmps3
    go_wp2_with fail
    refine (hL.out _ (Grew.refl _)).mono ?_
    rintro e w ⟨rfl, hg⟩
    go_wp2_with fail
    go_ret
    exact ⟨rfl, hg⟩
end Go.Proofs.YtglnnjcapcpkfabDoor
