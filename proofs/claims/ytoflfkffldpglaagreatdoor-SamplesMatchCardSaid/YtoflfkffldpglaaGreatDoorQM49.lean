/- SamplesMatch of chapter 27, walked. Printed by gensamw.py. -/
import Derived.Test.YtoflfkffldpglaaGreatDoorQM32
import Derived.Test.YtoflfkffldpglaaGreatDoorQM39
import Derived.Test.YtoflfkffldpglaaGreatDoorQM45
import Derived.Test.YtoflfkffldpglaaGreatDoorQM48
namespace Go.Proofs.YtoflfkffldpglaaGreatDoor
open Go.RowKit
theorem firsts27_le (g : Gr) : ∀ f ∈ (bookOf g).firsts, f.w.length ≤ 1000 := fun f hf => by
  have h : f.Ok := (book0 g (g.of [1, 3]) (g.of [0])).iter_ok (book0_ok g (g.of [1, 3]) (g.of [0])) _ f hf
  unfold Fst.Ok at h
  rcases h with ⟨_, h⟩ | ⟨_, _, h3, h4⟩
  · rw [h]; simp
  · by_cases h5 : f.long ≤ 256
    · have := h3 h5
      omega
    · rw [h4 (by omega)]; simp
mutual
theorem all_cnt27 : ∀ n : Nd, n.all.length = n.cnt
  | .mk k nm tx set subs => by rw [Nd.all, Nd.cnt, List.length_cons, allL_cnt27 subs]; omega
theorem allL_cnt27 : ∀ l : List Nd, (Nd.allL l).length = Nd.cnts l
  | [] => by rw [Nd.allL, Nd.cnts]; rfl
  | n :: r => by rw [Nd.allL, Nd.cnts, List.length_append, all_cnt27 n, allL_cnt27 r]
end
theorem few_of {g : Gr} (h : g.Fair) : g.Few :=
  ⟨by have := h.len; omega, fun i hi => by
    have h1 := (h.rule i hi).1
    have h2 := Nd.cnt_le_total g.rules[i].body
    rw [all_cnt27]
    omega⟩
def BoxR (lo : Nat) (v : Value) (w : World) : Prop := ∃ t, v = .pointer (some ⟨t, 0, none⟩) ∧ lo ≤ t ∧ Owns w t [.int .u8 0, .string { data := #[] }, .string { data := #[] }, .slice none 0 0, .slice none 0 0] 42
theorem BoxR.keep {lo : Nat} {v : Value} {w w' : World} (hg : Grew w w') (h : BoxR lo v w) : BoxR lo v w' := by
  obtain ⟨t, h1, h2, h3⟩ := h
  exact ⟨t, h1, h2, h3.keep hg⟩
theorem grew_of_r {E : ME} {a b c : World} (h : Grew a b) (k : E.R b c) (hm : a.heap.size ≤ E.mb) : Grew a c :=
  Below.trans h (But.below k h.size fun q e => by subst e; exact hm)
set_option maxHeartbeats 8000000 in
set_option maxRecDepth 40000 in
theorem match27_ok (g : Gr) (ya : Option Addr) (yc : Nat) (wl : List Int) (W : World) (hT : Lib.Utf8Tabs 1 2 W) (v0 v1 v2 v3 : Value) (hG : GrAt W W.heap.size (some v0) (some v1) (some v2) (some v3) g) (hY : IntsAt W W.heap.size ya wl) :
    Calls Tryz.prog 3 #[.agg #[v0, v1, v2, v3], .slice ya wl.length yc] W fun e W' => e = .returned (.bool true) ∧ Grew W W' := by
  have HG := Lib.hid hG
  obtain ⟨h1, hs, h2, h3, h4, h5, ra, rc, h6, h7, h8⟩ := hG
  obtain rfl := Option.some.inj h1
  obtain rfl := Option.some.inj h2
  obtain rfl := Option.some.inj h3
  obtain rfl := Option.some.inj h6
  clear h1 h2 h3 h4 h5 h6
  unfold reachN at hs h7
  have HT := Lib.hid hT
  have HRU := Lib.hid h8
  have HYY := Lib.hid hY
  obtain ⟨Q, hQ⟩ : ∃ Q : Ending → World → Prop, (fun e W' => e = .returned (.bool true) ∧ Grew W W') = Q := ⟨_, rfl⟩
  rw [hQ]
  obtain ⟨w2, hw2⟩ : ∃ w2, W.alloc (.cells #[.string g.name, .int .i64 g.bound, .int .i64 g.states, .slice ra g.rules.length rc] 26) = w2 := ⟨_, rfl⟩
  have g2 : Grew W w2 := hw2 ▸ grew_alloc W _
  have o2 : Owns w2 W.heap.size [.string g.name, .int .i64 g.bound, .int .i64 g.states, .slice ra g.rules.length rc] 26 := hw2 ▸ Owns.alloc W _ _
  obtain ⟨a, ha⟩ : ∃ a, W.heap.size = a := ⟨_, rfl⟩
  have HX := Lib.hid o2
  rw [ha] at HX
  have G2 := Lib.hid g2
  have HEND : Hid (∀ w', Grew w2 w' → Q (.returned (.bool true)) w') := Lib.hid fun w' hw => by rw [← hQ]; exact ⟨rfl, G2.out.trans hw⟩
  have HLV : Hid (∀ w', Grew w2 w' → Calls Tryz.prog 5 #[] w' fun e W' => e = .returned (.bool true) ∧ Grew w' W') := Lib.hid fun w' hw => lives27_ok w' (tabs_grew HT.out (G2.out.trans hw))
  have HGR : Hid (∀ w', Grew w2 w' → GrAt w' w'.heap.size (some (.string g.name)) (some (.int .i64 g.bound)) (some (.int .i64 g.states)) (some (.slice ra g.rules.length rc)) g) := Lib.hid fun w' hw => (HG.out.keep (G2.out.trans hw)).mono (G2.out.trans hw).size
  have HGA : Hid (∀ w', Grew w2 w' → GrAt w' a (some (.string g.name)) (some (.int .i64 g.bound)) (some (.int .i64 g.states)) (some (.slice ra g.rules.length rc)) g) := Lib.hid fun w' hw => ha ▸ HG.out.keep (G2.out.trans hw)
  have HRA : Hid (∀ w', Grew w2 w' → RulesAt w' a ra 0 g.rules) := Lib.hid fun w' hw => ha ▸ HRU.out.keep (G2.out.trans hw)
  have HIA : Hid (∀ w', Grew w2 w' → IntsAt w' a ya wl) := Lib.hid fun w' hw => ha ▸ IntsAt.keep (G2.out.trans hw) HYY.out
  have HTB : Hid (∀ w', Grew w2 w' → Lib.Utf8Tabs 1 2 w') := Lib.hid fun w' hw => tabs_grew HT.out (G2.out.trans hw)
  have HAL : Hid (a < w2.heap.size) := Lib.hid HX.out.lt
  have HQ := Lib.hid hQ
  clear o2 g2 hT hY hQ h8
  have ho := HX.out.keep (Grew.refl _)
  have k0 := ho.cell_at (i := 0) rfl
  have k1 := ho.cell_at (i := 1) rfl
  have k2 := ho.cell_at (i := 2) rfl
  have k3 := ho.cell_at (i := 3) rfl
  have kl := ho.lt
  clear ho
  go_enter Tryz.func3, Tryz.ntmps3
  go_wp2_with fail
  clear hw2 k0 k1 k2 k3 kl ha
  refine (great27_ok g _ _ _ _ _ (HGR.out _ (Grew.refl _))).mono ?_
  rintro e w3 ⟨hbt, hg3⟩
  have HBT := Lib.hid hbt
  have G3 : Hid (Grew w2 w3) := Lib.hid hg3
  have ho := HX.out.keep G3.out
  have k0 := ho.cell_at (i := 0) rfl
  have k1 := ho.cell_at (i := 1) rfl
  have k2 := ho.cell_at (i := 2) rfl
  have k3 := ho.cell_at (i := 3) rfl
  have kl := ho.lt
  clear ho
  clear hg3
  rcases hbt with rfl | ⟨rfl, -⟩
  · go_wp2_with fail
    refine (HLV.out _ G3.out).mono ?_
    rintro e w9 ⟨rfl, hg9⟩
    have HG9 := Lib.hid (Grew.trans G3.out hg9)
    clear hg9
    go_wp2_with fail
    exact HEND.out _ HG9.out
  have hfair : Hid g.Fair := Lib.hid (by
    rcases HBT.out with h | ⟨_, h⟩
    · cases h
    · exact h)
  clear HBT
  by_cases hlw : (10 : Int) < wl.length
  · go_wp2_with fail
    refine (HLV.out _ G3.out).mono ?_
    rintro e w9 ⟨rfl, hg9⟩
    have HG9 := Lib.hid (Grew.trans G3.out hg9)
    clear hg9
    go_wp2_with fail
    exact HEND.out _ HG9.out
  have hwl10 : Hid (wl.length ≤ 10) := Lib.hid (by omega)
  go_wp2_with fail
  clear k0 k1 k2 k3 kl
  refine (snew_ok g (few_of hfair.out) (fun i hi => (hfair.out.rule i hi).1) w3 (HTB.out _ G3.out) _ _ _ _ (HGR.out _ G3.out)).mono ?_
  rintro e w4 (⟨rfl, hg4, -⟩ | ⟨bk, V, rfl, hsp, hfine, hbf, hg4⟩)
  · have G4 := Lib.hid (G3.out.trans hg4)
    clear hg4
    have ho := HX.out.keep G4.out
    have k0 := ho.cell_at (i := 0) rfl
    have k1 := ho.cell_at (i := 1) rfl
    have k2 := ho.cell_at (i := 2) rfl
    have k3 := ho.cell_at (i := 3) rfl
    have kl := ho.lt
    clear ho
    go_wp2_with fail
    refine (HLV.out _ G4.out).mono ?_
    rintro e w9 ⟨rfl, hg9⟩
    have HG9 := Lib.hid (Grew.trans G4.out hg9)
    clear hg9
    go_wp2_with fail
    exact HEND.out _ HG9.out
  have G4 := Lib.hid (G3.out.trans hg4)
  have HSP := Lib.hid hsp
  have HFINE := Lib.hid hfine
  have HBF := Lib.hid hbf
  clear hg4 hsp hfine hbf hlw
  have ho := HX.out.keep G4.out
  have k0 := ho.cell_at (i := 0) rfl
  have k1 := ho.cell_at (i := 1) rfl
  have k2 := ho.cell_at (i := 2) rfl
  have k3 := ho.cell_at (i := 3) rfl
  have kl := ho.lt
  clear ho
  have HOKB : Hid (∀ n ∈ (bookOf g).bodies, n.Mts g) := Lib.hid (book_mts HSP.out HFINE.out)
  have HGOOD := Lib.hid (book_good HSP.out HFINE.out)
  have HBA : Hid (∀ w', Grew w4 w' → BookAt w' w'.heap.size bk V (bookOf g)) := Lib.hid fun w' hw => (HBF.out.grew hw).at_
  have HBN : Hid (0 < (bookOf g).bodies.length) := Lib.hid (by rw [bookOf_bodies, bodsTo_len]; exact HFINE.out.start)
  obtain ⟨kx, hkx, hst, hb0⟩ := start_first HFINE.out
  have HB0 := Lib.hid hb0
  obtain ⟨mb, hmb⟩ : ∃ m, w4.heap.size = m := ⟨_, rfl⟩
  obtain ⟨w5, hw5⟩ : ∃ w5, w4.alloc (.cells #[.string g.name, .int .i64 g.bound, .int .i64 g.states, .slice ra g.rules.length rc, .slice ya wl.length yc, .int .i64 30000] 36) = w5 := ⟨_, rfl⟩
  have g5 : Grew w4 w5 := hw5 ▸ grew_alloc w4 _
  have om : Owns w5 mb [.string g.name, .int .i64 g.bound, .int .i64 g.states, .slice ra g.rules.length rc, .slice ya wl.length yc, .int .i64 30000] 36 := by rw [← hw5, ← hmb]; exact Owns.alloc w4 _ _
  have OM := Lib.hid om
  have G45 := Lib.hid g5
  have G5 := Lib.hid (G4.out.trans g5)
  have HMB := Lib.hid hmb
  have HST : Hid (∀ w', Grew w5 w' → Calls Tryz.prog 7 #[.agg #[.string g.name, .int .i64 g.bound, .int .i64 g.states, .slice ra g.rules.length rc]] w' fun e W' => e = .returned (.int .i64 (kx : Int)) ∧ Grew w' W') := Lib.hid fun w' hw => by
    rw [← hst]
    exact start_ok g w' _ _ _ _ (HGR.out _ (G5.out.trans hw))
  clear om g5 hb0 hst
  obtain ⟨b, off, rfl, hbl, hrule⟩ := (HRA.out _ (Grew.refl w2)).get hkx
  simp only [Nat.zero_add] at hrule
  obtain ⟨y2, y3, y4, y5, y6, c0, c1, c2, c3, c4, c5, c6, c7, c8, c9, hrule, hnode⟩ := hrule.vals
  obtain ⟨z0, z1, z2, z3, z4, z5, z6, z7, z8, rfl, rfl, rfl, rfl, rfl⟩ := hnode.forms
  have HNA : Hid (∀ w', Grew w2 w' → NodeAt w' a (some (.int .u8 z0)) (some (.string z1)) (some (.string z2)) (some (.slice z3 z4 z5)) (some (.slice z6 z7 z8)) g.rules[kx].body) := Lib.hid fun w' hw => hnode.keep (hw.mono (Nat.le_of_lt HAL.out))
  have hbl2 : b < w2.heap.size := by have := HAL.out; omega
  have hbl5 : b < w5.heap.size := by have := G5.out.size; omega
  have c2 := (G5.out.cells _ _ hbl2).trans c2
  have c3 := (G5.out.cells _ _ hbl2).trans c3
  have c4 := (G5.out.cells _ _ hbl2).trans c4
  have c5 := (G5.out.cells _ _ hbl2).trans c5
  have c6 := (G5.out.cells _ _ hbl2).trans c6
  have hkx2 : (kx : Int) < (g.rules.length : Int) := by omega
  clear hrule hnode
  have ho := HX.out.keep G5.out
  have j0 := ho.cell_at (i := 0) rfl
  have j1 := ho.cell_at (i := 1) rfl
  have j2 := ho.cell_at (i := 2) rfl
  have j3 := ho.cell_at (i := 3) rfl
  have jl := ho.lt
  clear ho
  have G50 := Lib.hid (Grew.refl w5)
  go_wp2_with fail
  refine wp_region_hav_lit follows (by kernel_rfl) ?_
  iterate 3 (first
    | (refine HavG.skip (fun _ => rfl) ?_; simp only [Act.put, List.setIfInBounds_toArray, List.set_cons_zero, List.set_cons_succ])
    | (refine HavG.val (fun _ => rfl) ?_ (fun x w hw _ => ?_) ?_; rotate_left; (focus (have hc := hw.cells; clear hw; go_simp; first | done | rfl)); simp only [Act.put, List.setIfInBounds_toArray, List.set_cons_zero, List.set_cons_succ]))
  refine HavG.det (fun _ => rfl) (.int .i64 (kx : Int)) (fun x w hw hd => ?_) ?_
  · clear hd
    have HW := Lib.hid hw
    clear hw
    go_simp
    refine (HST.out _ HW.out).mono ?_
    rintro e w' ⟨rfl, hg⟩
    exact ⟨rfl, hg⟩
  simp only [Act.put, List.setIfInBounds_toArray, List.set_cons_zero, List.set_cons_succ]
  iterate 3 (first
    | (refine HavG.skip (fun _ => rfl) ?_; simp only [Act.put, List.setIfInBounds_toArray, List.set_cons_zero, List.set_cons_succ])
    | (refine HavG.val (fun _ => rfl) ?_ (fun x w hw _ => ?_) ?_; rotate_left; (focus (have hc := hw.cells; clear hw; go_simp; first | done | rfl)); simp only [Act.put, List.setIfInBounds_toArray, List.set_cons_zero, List.set_cons_succ]))
  refine HavG.any (fun _ => rfl) (BoxR w5.heap.size) (fun _ _ _ hg h => BoxR.keep hg h) (fun x w hw hd => ?_) ?_
  · clear hd
    have HW := Lib.hid hw
    clear hw
    go_simp
    exact ⟨grew_alloc _ _, _, rfl, HW.out.size, Owns.alloc w _ _⟩
  simp only [Act.put, List.setIfInBounds_toArray, List.set_cons_zero, List.set_cons_succ]
  refine HavG.tail (by kernel_rfl) (by kernel_rfl) (fun x w hw hd => ?_)
  have hd2 := hd _ (List.mem_append_right _ (List.mem_singleton.2 rfl))
  dsimp only at hd2
  clear hd
  generalize x (0 + 1 + 1 + 1 + 1 + 1 + 1 + 1) = yb at *
  obtain ⟨bb, rfl, hbb, hob⟩ := hd2
  obtain ⟨w6, hw6⟩ : ∃ w6, (((((w.setCell ⟨bb, 0, none⟩ (.int .u8 z0)).setCell ⟨bb, 1, none⟩ (.string z1)).setCell ⟨bb, 2, none⟩ (.string z2)).setCell ⟨bb, 3, none⟩ (.slice z3 z4 z5)).setCell ⟨bb, 4, none⟩ (.slice z6 z7 z8)) = w6 := ⟨_, rfl⟩
  obtain ⟨hbut6, hob6⟩ := set_five hob (.int .u8 z0) (.string z1) (.string z2) (.slice z3 z4 z5) (.slice z6 z7 z8)
  rw [hw6] at hbut6 hob6
  have G56 : Hid (Grew w5 w6) := Lib.hid (Below.trans hw (But.below hbut6 hw.size fun q e => by subst e; exact hbb))
  have OB := Lib.hid hob6
  have HBB := Lib.hid hbb
  have d0 := hob.cell_at (i := 0) rfl
  have d1 := hob.cell_at (i := 1) rfl
  have d2 := hob.cell_at (i := 2) rfl
  have d3 := hob.cell_at (i := 3) rfl
  have d4 := hob.cell_at (i := 4) rfl
  have f0 := hob.free 0
  have f1 := hob.free 1
  have f2 := hob.free 2
  have f3 := hob.free 3
  have f4 := hob.free 4
  have dl := hob.lt
  have e0 := hob6.cell_at (i := 0) rfl
  have e1 := hob6.cell_at (i := 1) rfl
  have e2 := hob6.cell_at (i := 2) rfl
  have e3 := hob6.cell_at (i := 3) rfl
  have e4 := hob6.cell_at (i := 4) rfl
  have el := hob6.lt
  clear hw hob hob6 hbut6 hbb k0 k1 k2 k3 kl j0 j1 j2 j3 jl c0 c1 c2 c3 c4 c5 c6 c7 c8 c9 hw5 hmb
  go_wp2_with fail
  have HE1 : Hid (ME.Ok ⟨g, wl, some ⟨b, off, none⟩, rc, ya, yc, a, mb⟩) := Lib.hid ⟨by have := hfair.out.len; show g.rules.length ≤ 1000; omega, by have := hwl10.out; show wl.length ≤ 1000; omega, HOKB.out⟩
  have hA6 : ME.At ⟨g, wl, some ⟨b, off, none⟩, rc, ya, yc, a, mb⟩ 30000 w6 := ⟨by
    show a ≤ mb
    have := HAL.out
    have := G4.out.size
    have := HMB.out
    omega, OM.out.keep G56.out, HGA.out _ (G5.out.trans G56.out), HIA.out _ (G5.out.trans G56.out)⟩
  have HN6 : Hid (NodeAt w6 a (some (.int .u8 z0)) (some (.string z1)) (some (.string z2)) (some (.slice z3 z4 z5)) (some (.slice z6 z7 z8)) g.rules[kx].body) := Lib.hid (HNA.out _ (G5.out.trans G56.out))
  have HM := Lib.hid (match_all _ HE1.out 30000 30000 (by omega) (by omega) (by omega) _ (HOKB.out _ (List.mem_of_getElem? HB0.out)) 0 (Nat.zero_le _) w6 _ _ _ _ _ hA6 HN6.out)
  clear hA6 d0 d1 d2 d3 d4 f0 f1 f2 f3 f4 dl e0 e1 e2 e3 e4 el hw6 hbl5 hbl hbl2
  refine HM.out.mono ?_
  rintro e w7 ⟨v, tz, s', m7, rfl, hA7, hR7, hT7, hN7⟩
  obtain ⟨va, vc, rfl⟩ := hT7.form
  have hG47 : Grew w4 w7 := grew_of_r (G45.out.trans G56.out) hR7 (by have := HMB.out; show w4.heap.size ≤ mb; omega)
  have G47 := Lib.hid hG47
  have G27 := Lib.hid (G4.out.trans hG47)
  have OB7 := Lib.hid (hR7.owns OB.out (by
    have h1 := HBB.out
    have h2 := OM.out.lt
    show ¬ bb = mb
    omega))
  have N7 := Lib.hid hN7
  have ms := hA7.own.cell_at (i := 5) rfl
  have mz := hA7.own.lt
  dsimp only at ms mz
  clear hA7 hR7 hT7 HM HN6
  have ho := HX.out.keep G27.out
  have k0 := ho.cell_at (i := 0) rfl
  have k1 := ho.cell_at (i := 1) rfl
  have k2 := ho.cell_at (i := 2) rfl
  have k3 := ho.cell_at (i := 3) rfl
  have kl := ho.lt
  clear ho
  by_cases hs0 : s' < 0
  · have hs1 : decide (s' < 0) = true := decide_eq_true hs0
    clear hN7
    go_wp2_with fail
    refine (HLV.out _ G27.out).mono ?_
    rintro e w9 ⟨rfl, hg9⟩
    have HG9 := Lib.hid (Grew.trans G27.out hg9)
    clear hg9
    go_wp2_with fail
    exact HEND.out _ HG9.out
  have hs1 : decide (s' < 0) = false := decide_eq_false hs0
  have HSAY := Lib.hid (hN7.says (by omega))
  have hplc := hN7.place
  dsimp only at hplc
  have HB7 := Lib.hid (HBA.out _ G47.out)
  clear hN7
  obtain ⟨wn, hwn⟩ : ∃ n, wl.length = n := ⟨_, rfl⟩
  have HWN := Lib.hid hwn
  have hwn10 : wn ≤ 10 := by have := hwl10.out; omega
  have HIW : Hid (IntsV w7 w7.heap.size (.slice ya wl.length yc) wl) := Lib.hid ⟨ya, yc, rfl, IntsAt.mono (by have := HAL.out; have := G27.out.size; omega) (HIA.out _ G27.out)⟩
  rw [hwn] at HIW ⊢
  clear hwn
  go_upto_region 11 with fail
  go_cut [66] (fun s66 wx => s66 = .bool false ∧ Hid (Grew w7 wx))
  case first =>
    rcases hplc with rfl | ⟨j, rfl, hj⟩
    · have hq : ((-1 : Int) == (wn : Int)) = false := beq_eq_false_iff_ne.2 (by omega)
      go_wp2_with fail
      go_meet
      exact ⟨rfl, Lib.hid (Grew.refl _)⟩
    · by_cases hjn : j = wn
      · subst hjn
        have hq : ((j : Int) == (j : Int)) = true := by simp
        have HHS := Lib.hid (sHas_ok (bookOf g) HGOOD.out 0 V bk _ wl (by unfold reachN; rw [HWN.out]; omega) _ w7 HB7.out HIW.out)
        have HTR : Hid (hasR (bookOf g) 0 = true ∧ wl.length ≤ 64 ∧ -2 ∉ wl ∧ (bookOf g).D (0 : Int).toNat wl) := Lib.hid (by
          have h1 := HSAY.out.sound j rfl
          have h2 := HSAY.out.clean j rfl
          rw [← HWN.out] at h1 h2
          refine ⟨?_, by rw [HWN.out]; omega, clean_mem h2, _, HB0.out, h1⟩
          unfold hasR
          rw [Bool.and_eq_true, decide_eq_true_eq, decide_eq_true_eq]
          have := HBN.out
          omega)
        go_wp2_with fail
        refine HHS.out.mono ?_
        rintro e w8 ⟨b8, rfl, h8, hg8⟩
        have hb8 := h8.2 HTR.out
        subst hb8
        have HG8 := Lib.hid hg8
        clear h8 hg8
        go_wp2_with fail
        go_meet
        exact ⟨rfl, HG8⟩
      · have hq : ((j : Int) == (wn : Int)) = false := beq_eq_false_iff_ne.2 (by omega)
        go_wp2_with fail
        go_meet
        exact ⟨rfl, Lib.hid (Grew.refl _)⟩
  case rest =>
  obtain ⟨rfl, hg7c⟩ := hcut
  clear ms mz hplc k0 k1 k2 k3 kl
  obtain ⟨w8, hw8⟩ : ∃ w8, wc = w8 := ⟨_, rfl⟩
  rw [hw8] at hg7c ⊢
  clear hw8
  have G48 := Lib.hid (G47.out.trans hg7c.out)
  have G28 := Lib.hid (G27.out.trans hg7c.out)
  have HLS := Lib.hid (sLeast_ok (bookOf g) 0 V bk _ w8 (HBA.out _ G48.out) (firsts27_le g))
  go_wp2_with fail
  refine HLS.out.mono ?_
  rintro e w9 ⟨hl9, hg9⟩
  have G89 := Lib.hid hg9
  have G29 := Lib.hid (G28.out.trans hg9)
  have G49 := Lib.hid (G48.out.trans hg9)
  clear hg9
  have ho := HX.out.keep G29.out
  have k0 := ho.cell_at (i := 0) rfl
  have k1 := ho.cell_at (i := 1) rfl
  have k2 := ho.cell_at (i := 2) rfl
  have k3 := ho.cell_at (i := 3) rfl
  have kl := ho.lt
  clear ho
  cases hlst : (bookOf g).leastL 0 with
  | none =>
    rw [hlst] at hl9
    obtain rfl := hl9
    go_wp2_with fail
    refine (HLV.out _ G29.out).mono ?_
    rintro e w9 ⟨rfl, hg9⟩
    have HG9 := Lib.hid (Grew.trans G29.out hg9)
    clear hg9
    go_wp2_with fail
    exact HEND.out _ HG9.out
  | some l =>
  rw [hlst] at hl9
  obtain ⟨u, rfl, hrow⟩ := hl9
  have LS := Lib.hid (least_sound HSP.out (r := 0) HBN.out l hlst)
  have HIL := Lib.hid (loose_ints hrow)
  obtain ⟨la, lc, rfl⟩ := loose_form hrow
  clear hrow hlst
  obtain ⟨ln, hln⟩ : ∃ n, l.length = n := ⟨_, rfl⟩
  have HLN := Lib.hid hln
  rw [hln] at HIL ⊢
  clear hln
  by_cases hl12 : (12 : Int) < ln
  · go_wp2_with fail
    refine (HLV.out _ G29.out).mono ?_
    rintro e w9 ⟨rfl, hg9⟩
    have HG9 := Lib.hid (Grew.trans G29.out hg9)
    clear hg9
    go_wp2_with fail
    exact HEND.out _ HG9.out
  go_wp2_with fail
  clear k0 k1 k2 k3 kl
  obtain ⟨P, hP⟩ : ∃ P : Rl → Bool, (fun r => r.sort != 0 || r.body.plainM) = P := ⟨_, rfl⟩
  have HP := Lib.hid hP
  clear hP
  go_loopw [13, 14] (fun f i wr => ∃ (j : Nat), f = .bool ((g.rules.take j).all P) ∧ i = .int .i64 j ∧ j ≤ g.rules.length ∧ Hid (Grew w9 wr)) (fun _ i _ => g.rules.length - (intOf i).toNat)
  case atStart => exact ⟨0, rfl, rfl, by omega, Lib.hid (Grew.refl _)⟩
  case round =>
    obtain ⟨j, rfl, rfl, hj, hgr⟩ := hrel
    have ho := HX.out.keep (G29.out.trans hgr.out)
    have k0 := ho.cell_at (i := 0) rfl
    have k1 := ho.cell_at (i := 1) rfl
    have k2 := ho.cell_at (i := 2) rfl
    have k3 := ho.cell_at (i := 3) rfl
    have kl := ho.lt
    clear ho
    by_cases hlt : j < g.rules.length
    · have hjl : j < g.rules.length := hlt
      obtain ⟨b2, off2, hbe, hb2, hrule⟩ := (HRA.out _ (G29.out.trans hgr.out)).get hjl
      cases Option.some.inj hbe
      simp only [Nat.zero_add] at hrule
      obtain ⟨y2, y3, y4, y5, y6, c0, c1, c2, c3, c4, c5, c6, c7, c8, c9, hrule, hnode⟩ := hrule.vals
      have hbl : b < wr.heap.size := by have := HAL.out; have := (G29.out.trans hgr.out).size; omega
      have HPL := Lib.hid (plain27_ok _ wr _ _ _ _ _ (hnode.mono (show a ≤ wr.heap.size by have := HAL.out; have := (G29.out.trans hgr.out).size; omega)))
      have hnx : (g.rules.take (j + 1)).all P = ((g.rules.take j).all P && (g.rules[j].sort != 0 || g.rules[j].body.plainM)) := by
        rw [List.take_succ_eq_append_getElem hjl, List.all_append, ← HP.out]
        simp
      obtain ⟨so, hso⟩ : ∃ so, g.rules[j].sort = so := ⟨_, rfl⟩
      obtain ⟨pb, hpb⟩ : ∃ pb, g.rules[j].body.plainM = pb := ⟨_, rfl⟩
      obtain ⟨t, ht⟩ : ∃ t, (g.rules.take j).all P = t := ⟨_, rfl⟩
      rw [hso] at c1 hnx
      rw [hpb] at hnx HPL
      rw [ht] at hnx ⊢
      have HNX := Lib.hid hnx
      have hjg.rules.length : (j : Int) < (g.rules.length : Int) := by omega
      clear hrule hnode hso hpb ht hnx hbe hb2
      cases t
      · go_wp2_with fail
        exact ⟨⟨j + 1, by rw [HNX.out]; rfl, by go_num, by omega, hgr⟩, by simp [intOf]; omega⟩
      · by_cases hs0 : so = 0
        · subst hs0
          go_wp2_with fail
          refine HPL.out.mono ?_
          rintro e wp ⟨rfl, hgp⟩
          have HGP := Lib.hid hgp
          clear hgp
          go_wp2_with fail
          exact ⟨⟨j + 1, by rw [HNX.out]; rfl, by go_num, by omega, Lib.hid (hgr.out.trans HGP.out)⟩, by simp [intOf]; omega⟩
        · have hsq : (so != 0) = true := by simp [hs0]
          have HSQ := Lib.hid hsq
          go_wp2_with fail
          exact ⟨⟨j + 1, by rw [HNX.out, HSQ.out]; rfl, by go_num, by omega, hgr⟩, by simp [intOf]; omega⟩
    · have hjl : j = g.rules.length := by omega
      subst hjl
      obtain ⟨bt, hbt⟩ : ∃ bt, g.rules.all P = bt := ⟨_, rfl⟩
      have HBT : Hid ((g.rules.all fun r => r.sort != 0 || r.body.plainM) = bt) := Lib.hid (by rw [← hbt, ← HP.out])
      rw [List.take_length, hbt]
      clear hbt
      obtain ⟨mc, hmc⟩ : ∃ m, wr.heap.size = m := ⟨_, rfl⟩
      obtain ⟨wa, hwa⟩ : ∃ wa, wr.alloc (.cells #[.string g.name, .int .i64 g.bound, .int .i64 g.states, .slice (some ⟨b, off, none⟩) g.rules.length rc, .slice la ln lc, .int .i64 30000] 36) = wa := ⟨_, rfl⟩
      have gA : Grew wr wa := hwa ▸ grew_alloc wr _
      have oA : Owns wa mc [.string g.name, .int .i64 g.bound, .int .i64 g.states, .slice (some ⟨b, off, none⟩) g.rules.length rc, .slice la ln lc, .int .i64 30000] 36 := by rw [← hwa, ← hmc]; exact Owns.alloc wr _ _
      have G2a := (G29.out.trans hgr.out).trans gA
      have hamc : a ≤ mc := by have := HAL.out; have := (G29.out.trans hgr.out).size; omega
      have HE2 : Hid (ME.Ok ⟨g, l, some ⟨b, off, none⟩, rc, la, lc, mc, mc⟩) := Lib.hid ⟨by have := hfair.out.len; show g.rules.length ≤ 1000; omega, by show l.length ≤ 1000; rw [HLN.out]; omega, HOKB.out⟩
      have hAa : ME.At ⟨g, l, some ⟨b, off, none⟩, rc, la, lc, mc, mc⟩ 30000 wa := ⟨Nat.le_refl _, by
        unfold ME.cells
        dsimp only
        rw [HLN.out]
        exact oA, (HGA.out _ G2a).mono hamc, by
        obtain ⟨a1, c1, e1, h1⟩ := HIL.out
        have e2 : la = a1 := by injection e1
        subst e2
        exact IntsAt.mono (by rw [← hmc]; exact hgr.out.size) (IntsAt.keep (hgr.out.trans gA) h1)⟩
      have hob := ((OB7.out.keep hg7c.out).keep G89.out).keep (hgr.out.trans gA)
      have hnd := (HNA.out _ G2a).mono hamc
      have HM2 := Lib.hid (match_all _ HE2.out 30000 30000 (by omega) (by omega) (by omega) _ (HOKB.out _ (List.mem_of_getElem? HB0.out)) 0 (Nat.zero_le _) wa _ _ _ _ _ hAa hnd)
      have e0 := hob.cell_at (i := 0) rfl
      have e1 := hob.cell_at (i := 1) rfl
      have e2 := hob.cell_at (i := 2) rfl
      have e3 := hob.cell_at (i := 3) rfl
      have e4 := hob.cell_at (i := 4) rfl
      have el := hob.lt
      have HGA2 := Lib.hid gA
      have HMC := Lib.hid hmc
      have GRA := Lib.hid ((G29.out.trans hgr.out).trans gA)
      clear gA oA G2a hamc hAa hob hnd
      subst hmc
      go_wp2_with fail
      refine HM2.out.mono ?_
      rintro e wb ⟨v2, t2, s2, m2, rfl, hAb, hRb, hTb, hNb⟩
      obtain ⟨xa, xc, rfl⟩ := hTb.form
      have GB := Lib.hid (grew_of_r GRA.out hRb (by show w2.heap.size ≤ wr.heap.size; exact (G29.out.trans hgr.out).size))
      have ms := hAb.own.cell_at (i := 5) rfl
      have mz := hAb.own.lt
      dsimp only at ms mz
      clear hAb hRb hTb e0 e1 e2 e3 e4 el k0 k1 k2 k3 kl
      cases bt
      · clear hNb
        go_wp2_with fail
        refine (HLV.out _ GB.out).mono ?_
        rintro e w9 ⟨rfl, hg9⟩
        have HG9 := Lib.hid (Grew.trans GB.out hg9)
        clear hg9
        go_wp2_with fail
        exact HEND.out _ HG9.out
      · by_cases hs2 : s2 < 0
        · have hs1 : decide (s2 < 0) = true := decide_eq_true hs2
          clear hNb
          go_wp2_with fail
          refine (HLV.out _ GB.out).mono ?_
          rintro e w9 ⟨rfl, hg9⟩
          have HG9 := Lib.hid (Grew.trans GB.out hg9)
          clear hg9
          go_wp2_with fail
          exact HEND.out _ HG9.out
        · have hs1 : decide (s2 < 0) = false := decide_eq_false hs2
          have hsay := hNb.says (by omega)
          have hstr := straight_of HBT.out LS.out.1
          obtain ⟨n, hn, hd⟩ := LS.out.2
          rw [HB0.out] at hn
          cases hn
          have ht2 := hsay.full hstr (hstr.1 _ (List.mem_of_getElem? HB0.out)) _ hd
          rw [HLN.out] at ht2
          subst ht2
          have hq : ((ln : Int) == (ln : Int)) = true := by simp
          clear hNb hsay hstr hd hs2
          go_wp2_with fail
          refine (HLV.out _ GB.out).mono ?_
          rintro e w9 ⟨rfl, hg9⟩
          have HG9 := Lib.hid (Grew.trans GB.out hg9)
          clear hg9
          go_wp2_with fail
          exact HEND.out _ HG9.out
end Go.Proofs.YtoflfkffldpglaaGreatDoor
