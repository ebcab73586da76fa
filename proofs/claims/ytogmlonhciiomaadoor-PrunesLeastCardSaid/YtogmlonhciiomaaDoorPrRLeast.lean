/- The document's Least, walked whole. -/
import Derived.Test.YtogmlonhciiomaaDoorPrRNumMem
import Derived.Test.YtogmlonhciiomaaDoorPrRNumLaw
import Derived.Test.YtogmlonhciiomaaDoorPrRMay
import Derived.Test.YtogmlonhciiomaaDoorPrLeast
namespace Go.Proofs.YtogmlonhciiomaaDoor
open Go.RowKit

/-- what the document's Least gives -/
def RLeastIs (a : Aut) (al tk : Int) (W : World) (e : Ending) (W' : World) : Prop := ∃ (v : Value) (k : Int), e = .returned (.tuple #[.agg #[v], .int .i64 k]) ∧ Grew W W' ∧
  ((a.mayB al tk = false ∧ k = 1 ∧ v = .slice none 0 0) ∨ (a.mayB al tk = true ∧ k = 0 ∧ ∃ x, IsLeast a x ∧ AutV .i64 W' W'.heap.size v x))

set_option maxHeartbeats 8000000 in
set_option maxRecDepth 40000 in
theorem rLeast_ok (a : Aut) (ha : a.Few) (al tk : Int) (htk : tk ≤ 1000000) (W : World) (v : Value) (hA : AutV .i64 W W.heap.size v a) :
    Calls Tryd.prog 19 #[.agg #[v], .int .i64 al, .int .i64 tk] W (RLeastIs a al tk W) := by
  have hA2 := hA
  obtain ⟨ad, cap, rfl, hcap, hA⟩ := hA
  have hn := ha.states
  obtain ⟨w1, hw1⟩ : ∃ w1, W.alloc (.cells #[.slice ad a.length cap] 31) = w1 := ⟨_, rfl⟩
  obtain ⟨w2, hw2⟩ : ∃ w2, w1.alloc (.cells #[.slice none 0 0] 31) = w2 := ⟨_, rfl⟩
  have z1 : w1.heap.size = W.heap.size + 1 := by rw [← hw1]; simp
  have g1 : Grew W w1 := hw1 ▸ grew_alloc W _
  have g2 : Grew w1 w2 := hw2 ▸ grew_alloc w1 _
  have o1 : Owns w2 W.heap.size [.slice ad a.length cap] 31 := (hw1 ▸ Owns.alloc W _ _ : Owns w1 W.heap.size [.slice ad a.length cap] 31).keep g2
  have o2 : Owns w2 (W.heap.size + 1) [.slice none 0 0] 31 := z1 ▸ hw2 ▸ Owns.alloc w1 _ _
  have hG := g1.trans g2
  have HM := Lib.hid (rMay_ok a ha (by unfold reachN; omega) al tk w2 _ (hA2.grew hG))
  have c1 := o1.cell_at (i := 0) rfl
  have HG := Lib.hid hG
  have HO1 := Lib.hid o1
  have HO2 := Lib.hid o2
  have HA := Lib.hid hA2
  have HSA := Lib.hid hA
  clear g1 g2 o1 o2 hG hA hA2 hcap
  obtain ⟨mb, hmb⟩ : ∃ mb, a.mayB al tk = mb := ⟨_, rfl⟩
  rw [hmb] at HM
  have HMB := Lib.hid hmb
  clear hmb
  go_enter Tryd.func19, Tryd.ntmps19
  go_wp2_with fail
  refine HM.out.mono ?_
  rintro e w3 ⟨rfl, hb3⟩
  have o13 := HO1.out.keep hb3
  have o23 := HO2.out.keep hb3
  have HG3 := Lib.hid (HG.out.trans hb3)
  have d1 := o13.cell_at (i := 0) rfl
  have d2 := o23.cell_at (i := 0) rfl
  have f2 := o23.free 0
  have HO13 := Lib.hid o13
  have HO23 := Lib.hid o23
  clear c1 HM HO1 HO2 HG o13 o23 hb3
  cases mb
  · obtain ⟨w4, hw4⟩ : ∃ w4, w3.setCell ⟨W.heap.size + 1, 0, none⟩ (.slice none 0 0) = w4 := ⟨_, rfl⟩
    have o4 : Owns w4 (W.heap.size + 1) [.slice none 0 0] 31 := hw4 ▸ HO23.out.set 0 _
    have HG4 := Lib.hid (show Grew W w4 by rw [← hw4]; exact Below.setCell HG3.out (by show W.heap.size ≤ W.heap.size + 1; omega) _)
    have HO4 := Lib.hid o4
    clear o4
    go_wp2_with fail
    refine bodyPost_ret (two_ok (d := Tryd.prog.underlying 31 |>.getD default) rfl _ _ (W.heap.size + 1) 31 _ (0, 0) rfl HO4.out rfl rfl rfl) rfl ?_
    exact ⟨_, _, rfl, HG4.out, .inl ⟨HMB.out, rfl, rfl⟩⟩
  · have hok := okay_of_may HMB.out
    have h1 : 1 ≤ a.length := by
      have := HMB.out
      simp only [Aut.mayB, Bool.and_eq_true, decide_eq_true_eq] at this
      exact this.1.1
    have HOK := Lib.hid hok
    have HAP := Lib.hid (rApart_ok a ha hok tk htk w3 _ (HA.out.grew HG3.out))
    have HTK := Lib.hid (may_tok HMB.out)
    go_wp2_with fail
    refine HAP.out.mono ?_
    rintro e w4 ⟨bv, XM, fM, g, rfl, hmat, hfull⟩
    have HMAT := Lib.hid hmat
    have HTE := Lib.hid (tells_of HOK.out HTK.out hfull)
    have HG4 := Lib.hid (HG3.out.trans hmat.low)
    have HO14 := Lib.hid (HO13.out.keep hmat.low)
    have HO24 := Lib.hid (HO23.out.keep hmat.low)
    have r0 := hmat.row (s := 0) (by omega) (Nat.zero_le _)
    have r1 := hmat.cell (s := 0) (i := a.length) (by omega) (Nat.le_refl _)
    obtain ⟨lv, hlv⟩ : ∃ lv, g 0 a.length = lv := ⟨_, rfl⟩
    rw [hlv] at r1
    have HLV := Lib.hid hlv
    have hl0 : (0 : Int) < (a.length : Int) + 1 := by omega
    have hl1 : (a.length : Int) < (a.length : Int) + 1 := by omega
    clear hlv hmat hfull d1 d2 f2 HAP HO13 HO23 hw1 hw2 z1
    cases lv
    · obtain ⟨w5, hw5⟩ : ∃ w5, w4.alloc (.cells #[.int .i64 2, .slice none 0 0, .slice none 0 0] 63) = w5 := ⟨_, rfl⟩
      have g5 : Grew w4 w5 := hw5 ▸ grew_alloc w4 _
      have o5 : Owns w5 w4.heap.size [.int .i64 2, .slice none 0 0, .slice none 0 0] 63 := hw5 ▸ Owns.alloc w4 _ _
      have o2 := HO24.out.keep g5
      have q0 := o2.cell_at (i := 0) rfl
      have q1 := o2.free 0
      obtain ⟨w6, hw6⟩ : ∃ w6, w5.setCell ⟨W.heap.size + 1, 0, none⟩ (.slice (some ⟨w4.heap.size, 0, none⟩) 1 1) = w6 := ⟨_, rfl⟩
      have o6 : Owns w6 (W.heap.size + 1) [.slice (some ⟨w4.heap.size, 0, none⟩) 1 1] 31 := hw6 ▸ o2.set 0 _
      have hlt2 := HO24.out.lt
      have o56 : Owns w6 w4.heap.size [.int .i64 2, .slice none 0 0, .slice none 0 0] 63 := hw6 ▸ o5.other (a := ⟨W.heap.size + 1, 0, none⟩) (by simp; omega) _
      have HG6 := Lib.hid (show Grew W w6 by rw [← hw6]; exact Below.setCell (HG4.out.trans g5) (by show W.heap.size ≤ W.heap.size + 1; omega) _)
      have HA6 : Hid (AutV .i64 w6 w6.heap.size (.slice (some ⟨w4.heap.size, 0, none⟩) 1 1) [⟨2, [], []⟩]) := Lib.hid (by
        refine ⟨_, _, rfl, Nat.le_refl _, fun k hk => ?_⟩
        have hk0 : k = 0 := by simpa using hk
        subst hk0
        exact ⟨_, 0, _, _, _, rfl, o56.lt, o56.cell_at (i := 0) rfl, o56.cell_at (i := 1) rfl, o56.cell_at (i := 2) rfl, rfl, ⟨none, 0, rfl, Nat.le_refl _, fun j hj => absurd hj (by simp)⟩, ⟨none, 0, rfl, Nat.le_refl _, fun j hj => absurd hj (by simp)⟩⟩)
      have HO6 := Lib.hid o6
      have HL := Lib.hid (HTE.out.dead h1 HLV.out)
      clear g5 o5 o2 o6 o56 hlt2
      go_wp2_with fail
      refine bodyPost_ret (two_ok (d := Tryd.prog.underlying 31 |>.getD default) rfl _ _ (W.heap.size + 1) 31 _ (0, 0) rfl HO6.out rfl rfl rfl) rfl ?_
      exact ⟨_, _, rfl, HG6.out, .inr ⟨HMB.out, rfl, _, HL.out, HA6.out⟩⟩
    · have hL0 : a.Live 0 := (HTE.out.live 0 h1).1 HLV.out
      have HL := Lib.hid (HTE.out.least hL0)
      obtain ⟨w5, hw5⟩ : ∃ w5, w4.alloc (.cells #[.slice none 0 0] 31) = w5 := ⟨_, rfl⟩
      obtain ⟨w6, hw6⟩ : ∃ w6, w5.alloc (.cells #[.int .i64 0] 3) = w6 := ⟨_, rfl⟩
      have z5 : w5.heap.size = w4.heap.size + 1 := by rw [← hw5]; simp
      have g5 : Grew w4 w5 := hw5 ▸ grew_alloc w4 _
      have g6 : Grew w5 w6 := hw6 ▸ grew_alloc w5 _
      have hlt2 := HO24.out.lt
      have HR6 : Hid (ROut w4 w4.heap.size w4.heap.size (W.heap.size + 1) [0] [] (.slice (some ⟨w4.heap.size + 1, 0, none⟩) 1 1) (.slice none 0 0) [] w6) := Lib.hid
        ⟨g5.trans g6, ⟨rfl, .inr ⟨_, 1, #[.int .i64 0], rfl, by omega, by rw [← hw6, ← z5]; exact heap_alloc_new w5 _, Nat.le_refl _, by unfold maxLen; omega, Nat.le_refl _, rfl⟩⟩, (hw5 ▸ Owns.alloc w4 _ _ : Owns w5 w4.heap.size [.slice none 0 0] 31).keep g6, ⟨rfl, .inl ⟨rfl, rfl⟩⟩, fun w' _ => ⟨rfl, fun k hk => absurd hk (by simp)⟩, Nat.le_refl _, hlt2, (g5.trans g6).size⟩
      have HC0 := Lib.hid (CIv.start (g := g) hL0)
      obtain ⟨t, ht⟩ : ∃ t, a.trim (liveL a.length g) = t := ⟨_, rfl⟩
      have HTT := Lib.hid ht
      rw [ht] at HL
      have HN0 : Hid (NumA t (fun i j => !g i j) 0 [0] []) := Lib.hid rfl
      clear g5 g6 hlt2 hL0 ht
      go_upto_region 9 with fail
      clear r0 r1 hl0 hl1 z5
      go_wp2_with fail
      clear hw5 hw6
      have HFEW := Lib.hid ha
      clear ha
      go_loopw [11, 12] (fun cv iv wr => ∃ (j : Nat) (come : List Nat) (out : Aut) (ov : Value) (vs : List (Value × Value × Value)), iv = .int .i64 j ∧ j ≤ come.length ∧ (∃ ca cc, cv = .slice ca come.length cc) ∧ Hid (ROut w4 w4.heap.size w4.heap.size (W.heap.size + 1) come out cv ov vs wr) ∧ Hid (CIv a g come) ∧ Hid (NumA t (fun i j => !g i j) j come out) ∧ Hid (out.length = j)) (fun _ iv _ => a.length - (intOf iv).toNat)
      case atStart => exact ⟨0, [0], [], _, [], rfl, by simp, ⟨_, _, rfl⟩, HR6.out, HC0.out, HN0.out, rfl⟩
      case round =>
        clear HR6 HC0 HN0
        obtain ⟨j, come, out, ov, vs, rfl, hj, ⟨ca, cc, rfl⟩, HM, HC, HN, HOL⟩ := hrel
        have hcl := HC.out.most HTE.out
        have HGW := Lib.hid (HG4.out.trans (show Grew w4 wr from HM.out.below))
        by_cases hlt : j < come.length
        · obtain ⟨c, hcc0⟩ : ∃ c, come[j] = c := ⟨_, rfl⟩
          have hcj : c < a.length := by rw [← hcc0]; exact HC.out.lt _ (List.getElem_mem hlt)
          have HCC : Hid (come[j]? = some c) := Lib.hid (by rw [List.getElem?_eq_getElem hlt, hcc0])
          obtain ⟨b, off, v0, v1, v2, rfl, hbl, e0, e1, e2, hs⟩ := HSA.out c hcj
          obtain ⟨s, hss⟩ : ∃ s, a[c] = s := ⟨_, rfl⟩
          have hsm : s ∈ a := by rw [← hss]; exact List.getElem_mem hcj
          have HTC := Lib.hid (Aut.at hcj)
          rw [hss] at hs
          have HTC : Hid (a.kind c = s.kind ∧ a.alts c = s.alts ∧ a.edges c = s.edges) := Lib.hid (by rw [← hss]; exact HTC.out)
          obtain ⟨rfl, hal, hE⟩ := hs
          obtain ⟨a1, n1, rfl, _, _⟩ := id hal
          obtain ⟨a2, c2, rfl, _, hE⟩ := hE
          have r0 := (HGW.out.cells _ _ hbl).trans e0
          have r1 := (HGW.out.cells _ _ hbl).trans e1
          have r2 := (HGW.out.cells _ _ hbl).trans e2
          have lb : b < wr.heap.size := Nat.lt_of_lt_of_le hbl HGW.out.size
          have hB4 : Grew w4 wr := HM.out.below
          have rA := (HO14.out.keep hB4).cell_at (i := 0) rfl
          have lA := (HO14.out.keep hB4).lt
          obtain ⟨gc, rfl, hcc, hgl, hcome⟩ : ∃ gc, ca = some ⟨gc, 0, none⟩ ∧ come.length ≤ cc ∧ gc < wr.heap.size ∧ wr.cell? ⟨gc, j, none⟩ = some (.int .i64 (c : Int)) := by
            rcases row_cells HM.out.come with ⟨_, h⟩ | ⟨gx, cap, h1, h2, _, h3, h4⟩
            · omega
            · simp only [Value.slice.injEq] at h1
              exact ⟨gx, h1.1, by omega, h3, h4 j _ (by simp [intVs, partL, hlt, hcc0])⟩
          have hae := HFEW.out.edges _ hsm
          have haa := HFEW.out.alts _ hsm
          have HIV := Lib.hid hal
          have HEV := Lib.hid hE
          have HINS : Hid (∀ e ∈ s.edges, ∃ i : Nat, e.tgt = i ∧ i < a.length) := Lib.hid fun e he => HOK.out.tgt c e (by rw [HTC.out.2.2]; exact he)
          have HAA := Lib.hid haa
          obtain ⟨m, hm⟩ : ∃ m, s.edges.length = m := ⟨_, rfl⟩
          have HMM := Lib.hid hm
          rw [hm] at r2 hae
          have hcr : Hid (∀ w, Grew wr w → ∃ r w', (Builtin.append_ #[26, 26] 26 #[.slice none 0 0, .slice a1 s.alts.length n1]).run Tryd.prog w = .ok r w' ∧ Grew w w' ∧ AltsR wr.heap.size s.alts r w') :=
            Lib.hid fun w hg => copy_run wr.heap.size s.alts HAA.out w hg.size _ (HIV.out.grew (HGW.out.trans hg))
          obtain ⟨wo, rfl⟩ : ∃ wo : World, wo = wr := ⟨_, rfl⟩
          clear e0 e1 e2 hE hal hB4 hcc0 hss hsm hm hbl
          go_upto_region 12 with fail
          refine wp_region_hav_lit follows (by kernel_rfl) ?_
          repeat (first
            | (refine HavG.skip (fun _ => rfl) ?_; simp only [Act.put, List.setIfInBounds_toArray, List.set_cons_zero, List.set_cons_succ])
            | (refine HavG.val (fun _ => rfl) ?_ (fun x w hw _ => ?_) ?_; rotate_left; (focus (have hc := hw.cells; clear hw; go_simp; first | done | rfl)); simp only [Act.put, List.setIfInBounds_toArray, List.set_cons_zero, List.set_cons_succ]))
          refine HavG.any (fun _ => rfl) (FreshAt wo.heap.size [.int .i64 0, .slice none 0 0, .slice none 0 0] 63) (fun _ _ _ hg h => h.keep hg) (fun x w hw _ => ?_) ?_
          · have HW := Lib.hid hw
            clear hw
            go_simp
            exact ⟨grew_alloc _ _, _, rfl, HW.out.size, Owns.alloc _ _ _⟩
          simp only [Act.put, List.setIfInBounds_toArray, List.set_cons_zero, List.set_cons_succ]
          refine HavG.tail (by kernel_rfl) (by kernel_rfl) (fun x w7 hw hx => ?_)
          have hx8 := hx _ (List.mem_append_right _ (List.mem_singleton.2 rfl))
          clear hx
          dsimp only at hx8
          generalize x (0 + 1 + 1 + 1 + 1 + 1 + 1 + 1 + 1) = y8 at *
          obtain ⟨sb, rfl, hsb, hos⟩ := hx8
          have s0 := hos.cell_at (i := 0) rfl
          have s1 := hos.cell_at (i := 1) rfl
          have s2 := hos.cell_at (i := 2) rfl
          have f0 := hos.free 0
          have f1 := hos.free 1
          have f2 := hos.free 2
          have bl := hos.lt
          have HO8 := Lib.hid (hos.put3 (.int .i64 s.kind) (.slice a1 s.alts.length n1) (.slice a2 m c2))
          have HG8 := Lib.hid (show Grew wo _ from below_put3 (show Grew wo w7 from hw) hsb (.int .i64 s.kind) (.slice a1 s.alts.length n1) (.slice a2 m c2))
          clear hw hos r0 r1 r2 lb rA lA hgl hcome
          go_upto_region 13 with fail
          clear s0 s1 s2 f0 f1 f2 bl
          generalize ((w7.setCell ⟨sb, 0, none⟩ (.int .i64 s.kind)).setCell ⟨sb, 1, none⟩ (.slice a1 s.alts.length n1)).setCell ⟨sb, 2, none⟩ (.slice a2 m c2) = w8 at *
          have t0 := HO8.out.cell_at (i := 0) rfl
          have t1 := HO8.out.cell_at (i := 1) rfl
          have tl := HO8.out.lt
          refine wp_region_hav_lit follows (by kernel_rfl) ?_
          repeat (first
            | (refine HavG.skip (fun _ => rfl) ?_; simp only [Act.put, List.setIfInBounds_toArray, List.set_cons_zero, List.set_cons_succ])
            | (refine HavG.val (fun _ => rfl) ?_ (fun x w hw _ => ?_) ?_; rotate_left; (focus (have hc := hw.cells; clear hw; go_simp; first | done | rfl)); simp only [Act.put, List.setIfInBounds_toArray, List.set_cons_zero, List.set_cons_succ]))
          refine HavG.any (fun _ => rfl) (AltsR wo.heap.size s.alts) (fun _ _ _ hg h => h.keep hg) (fun x w hw _ => ?_) ?_
          · obtain ⟨r, w', hr, hg, hal⟩ := hcr.out w (HG8.out.trans hw)
            exact uponV_append _ _ _ _ rfl rfl rfl hr ⟨hg, hal⟩
          simp only [Act.put, List.setIfInBounds_toArray, List.set_cons_zero, List.set_cons_succ]
          refine HavG.any (fun _ => rfl) (BuiltQ wo.heap.size s.kind s.alts) (fun _ _ _ hg h => h.keep hg) (fun x w hw hd => ?_) ?_
          · have hd5 := hd _ (List.mem_append_right _ (List.mem_singleton.2 rfl)) (by kernel_rfl)
            dsimp only at hd5
            clear hd hw
            generalize x (0 + 1 + 1 + 1 + 1) = y5 at *
            obtain ⟨ya, ym, yc, rfl⟩ := row_form hd5
            have H5 := Lib.hid hd5
            clear hd5
            go_simp
            exact ⟨Grew.refl w, _, _, _, rfl, H5.out⟩
          simp only [Act.put, List.setIfInBounds_toArray, List.set_cons_zero, List.set_cons_succ]
          refine HavG.any (fun _ => rfl) (FreshAt w8.heap.size [.int .i64 0, .slice none 0 0, .slice none 0 0] 63) (fun _ _ _ hg h => h.keep hg) (fun x w hw _ => ?_) ?_
          · have HW := Lib.hid hw
            clear hw
            go_simp
            exact ⟨grew_alloc _ _, _, rfl, HW.out.size, Owns.alloc _ _ _⟩
          simp only [Act.put, List.setIfInBounds_toArray, List.set_cons_zero, List.set_cons_succ]
          refine HavG.tail (by kernel_rfl) (by kernel_rfl) (fun x w9 hw hx => ?_)
          have hx7 := hx _ (List.mem_append_right _ (List.mem_singleton.2 rfl))
          have hx6 := hx _ (List.mem_append_left _ (List.mem_append_right _ (List.mem_singleton.2 rfl)))
          clear hx
          dsimp only at hx7 hx6
          generalize x (0 + 1 + 1 + 1 + 1) = y4 at *
          generalize x (0 + 1 + 1 + 1 + 1 + 1) = y5 at *
          generalize x (0 + 1 + 1 + 1 + 1 + 1 + 1) = y6 at *
          obtain ⟨X, rfl, hX, hoX⟩ := hx7
          obtain ⟨ua, um, uc, rfl, hur⟩ := hx6
          have s0 := hoX.cell_at (i := 0) rfl
          have s1 := hoX.cell_at (i := 1) rfl
          have s2 := hoX.cell_at (i := 2) rfl
          have f0 := hoX.free 0
          have f1 := hoX.free 1
          have f2 := hoX.free 2
          have bl := hoX.lt
          have hne : (Value.slice ua um uc).ownBlock ≠ some X := fun e => type_ne (owns_type hoX) (row_type hur e) (by decide) rfl
          have hu10 := ((looseRow.off hur (a := ⟨X, 0, none⟩) hne (.int .i64 s.kind)).off (a := ⟨X, 1, none⟩) hne (.slice ua um uc)).off (a := ⟨X, 2, none⟩) hne (.slice none 0 0)
          have g10 : Grew w8 _ := below_put3 (show Grew w8 w9 from hw) hX (.int .i64 s.kind) (.slice ua um uc) (.slice none 0 0)
          have HIM := Lib.hid (HM.out.begin (HG8.out.trans g10) (Nat.le_trans HG8.out.size hX) (hoX.put3 (.int .i64 s.kind) (.slice ua um uc) (.slice none 0 0)) hu10)
          have HSB := Lib.hid (HO8.out.keep g10)
          have HXS := Lib.hid (show X ≠ sb by omega)
          clear hw hoX hur hne hu10 g10 t0 t1 tl HO8 HG8 hsb hX
          go_upto_region 14 with fail
          clear s0 s1 s2 f0 f1 f2 bl
          generalize ((w9.setCell ⟨X, 0, none⟩ (.int .i64 s.kind)).setCell ⟨X, 1, none⟩ (.slice ua um uc)).setCell ⟨X, 2, none⟩ (.slice none 0 0) = w10 at *
          go_wp2_with fail
          obtain ⟨P, hP⟩ : ∃ P : Ed → Bool, (fun e => !a.strike (liveL a.length g) e) = P := ⟨_, rfl⟩
          have HPE : Hid (t.kind c = s.kind ∧ t.alts c = s.alts ∧ t.edges c = s.edges.filter P) := Lib.hid (by
            have h1 := trim_at a (liveL a.length g) c
            rw [HTT.out, HTC.out.1, HTC.out.2.1, HTC.out.2.2, hP] at h1
            exact h1)
          have HPP : Hid (∀ (e : Ed) (i : Nat), e.tgt = (i : Int) → i < a.length → (!P e) = (!g i a.length || (e.tok == -1 && a.kind i == 0))) := Lib.hid fun e i h1 h2 => by
            rw [← hP]
            simp only [Bool.not_not]
            exact Tells.strike h1 h2
          clear hP
          go_loopw [11, 15] (fun cv iv wr => ∃ (k : Nat) (come' : List Nat) (es : List Ed) (ev : Value), iv = .int .i64 k ∧ k ≤ m ∧ (∃ ca cc, cv = .slice ca come'.length cc) ∧ Hid (RIn w4 w4.heap.size w4.heap.size (W.heap.size + 1) X come' s.kind s.alts es out cv ov (.slice ua um uc) ev ev vs wr) ∧ Hid (CIv a g come') ∧ Hid (NumF (fun i j => !g i j) P s.edges come come' es k) ∧ Hid (Owns wr sb [.int .i64 s.kind, .slice a1 s.alts.length n1, .slice a2 m c2] 63)) (fun _ iv _ => m - (intOf iv).toNat)
          case atStart => exact ⟨0, come, [], _, rfl, by omega, ⟨_, _, rfl⟩, HIM.out, HC.out, NumF.start, HSB.out⟩
          case round =>
            clear HIM HSB
            obtain ⟨k, come', es, ev, rfl, hk, ⟨ca', cc', rfl⟩, HM2, HC2, HN2, HSB⟩ := hrel
            have hcl2 := HC2.out.most HTE.out
            have hgw4 : Grew w4 wr := HM2.out.below
            have HGW2 := Lib.hid (HG4.out.trans hgw4)
            have t2 := HSB.out.cell_at (i := 2) rfl
            have tl := HSB.out.lt
            by_cases hkm : k < m
            · have hkl : k < s.edges.length := by rw [HMM.out]; exact hkm
              have d1 : decide ((k : Int) < (m : Int)) = true := decide_eq_true (by omega)
              obtain ⟨b4, off4, rfl, hb4, f0', f1'⟩ := HEV.out k hkl
              obtain ⟨ti, hti, htl⟩ := HINS.out _ (List.getElem_mem hkl)
              have f0 := (HGW2.out.cells _ _ hb4).trans f0'
              have f1 := (HGW2.out.cells _ _ hb4).trans f1'
              have fl : b4 < wr.heap.size := Nat.lt_of_lt_of_le hb4 HGW2.out.size
              have hpe := HPP.out _ ti hti htl
              have HSK := Lib.hid (fun h => HN2.out.skip hkl h)
              have HOLD := Lib.hid (fun (c : Nat) (hp : P s.edges[k] = true) hf => HN2.out.old hkl hp (c := c) hf)
              have HNEW := Lib.hid (fun (hp : P s.edges[k] = true) hf => HN2.out.new hkl hp hf)
              have hel := HN2.out.len
              rw [HMM.out] at hel
              rw [hti] at f1 HOLD HNEW
              simp only [Int.toNat_natCast] at HOLD HNEW
              obtain ⟨ed, hed⟩ : ∃ ed, s.edges[k] = ed := ⟨_, rfl⟩
              rw [hed] at f0 hpe HSK HOLD HNEW
              obtain ⟨tok, tt⟩ := ed
              simp only at f0 hpe HOLD HNEW
              generalize hpv : P ⟨tok, tt⟩ = pv at *
              obtain ⟨b5, off5, v05, v15, v25, he5, hb5, g0, _, _, hst5⟩ := HSA.out ti htl
              cases he5
              obtain ⟨rfl, _, _⟩ := hst5
              rw [← (Aut.at htl).1] at g0
              obtain ⟨kt, hkt⟩ : ∃ kt, a.kind ti = kt := ⟨_, rfl⟩
              rw [hkt] at g0 hpe
              obtain ⟨w11, hw11⟩ : ∃ w11, wr.alloc (.cells #[.int .i64 tok, .int .i64 (ti : Int)] 64) = w11 := ⟨_, rfl⟩
              have g11 : Grew wr w11 := hw11 ▸ grew_alloc wr _
              have HE11 := Lib.hid (hw11 ▸ Owns.alloc wr _ _ : Owns w11 wr.heap.size [.int .i64 tok, .int .i64 (ti : Int)] 64)
              have HM11 := Lib.hid (HM2.out.grew g11)
              have HSB11 := Lib.hid (HSB.out.keep g11)
              have HG11 := Lib.hid (hgw4.trans g11)
              have y0 := HE11.out.cell_at (i := 0) rfl
              have y1 := HE11.out.cell_at (i := 1) rfl
              have yl := HE11.out.lt
              have rA := (HO14.out.keep HG11.out).cell_at (i := 0) rfl
              have lA := (HO14.out.keep HG11.out).lt
              have k0 := (HGW2.out.trans g11).cells _ (off + ti * 3) hb5 |>.trans g0
              have kl : b < w11.heap.size := Nat.lt_of_lt_of_le hb5 (HGW2.out.trans g11).size
              have m0 := (HMAT.out.keep HG11.out).row (s := ti) (by omega) (by omega)
              have ml := (HMAT.out.keep HG11.out).tab.lt
              have m1 := (HMAT.out.keep HG11.out).cell (s := ti) (i := a.length) (by omega) (Nat.le_refl _)
              have ml1 := ((HMAT.out.keep HG11.out).cells ti (by omega)).lt
              have hti1 : (ti : Int) < (a.length : Int) + 1 := by omega
              have hti2 : (ti : Int) < (a.length : Int) := by omega
              have hn1 : (a.length : Int) < (a.length : Int) + 1 := by omega
              obtain ⟨gt, hgt⟩ : ∃ gt, g ti a.length = gt := ⟨_, rfl⟩
              rw [hgt] at m1 hpe
              have HLT := Lib.hid (HTE.out.live ti htl)
              rw [hgt] at HLT
              have HPV := Lib.hid hpe
              clear f0' f1' hed hti hkl hgw4 g11 hpe g0 hb4 hb5 hgt hkt
              go_upto_region 18 with fail
              clear t2 tl d1 f0 f1 fl hw11
              go_cut [96] (fun s96 wx => s96 = .bool (!pv) ∧ wx = w11)
              case first =>
                cases gt with
                | false =>
                  go_wp2_with fail
                  go_meet
                  exact ⟨by rw [HPV.out]; rfl, rfl⟩
                | true =>
                  by_cases h1 : tok = -1
                  · have e1 : (tok == -1) = true := beq_iff_eq.2 h1
                    have HP1 := Lib.hid e1
                    clear h1
                    go_wp2_with fail
                    go_meet
                    exact ⟨by rw [HPV.out, HP1.out]; rfl, rfl⟩
                  · have e1 : (tok == -1) = false := beq_eq_false_iff_ne.2 h1
                    have HP1 := Lib.hid e1
                    clear h1
                    go_wp2_with fail
                    go_meet
                    exact ⟨by rw [HPV.out, HP1.out]; rfl, rfl⟩
              case rest =>
                obtain ⟨rfl, rfl⟩ := hcut
                clear m0 m1 ml ml1 k0 kl rA lA
                obtain ⟨w11, rfl⟩ : ∃ z, z = wc := ⟨_, rfl⟩
                cases pv with
                | false =>
                  have HX := Lib.hid (HSK.out rfl)
                  go_wp2_with fail
                  go_round
                  case rel => exact ⟨k + 1, come', es, _, by go_num, by omega, ⟨_, _, rfl⟩, HM11.out, HC2.out, HX.out, HSB11.out⟩
                  case measure => simp [intOf]; omega
                | true =>
                  have HLIVE := Lib.hid (HLT.out.1 (by
                    have := HPV.out
                    cases gt
                    · cases this
                    · rfl))
                  obtain ⟨i0e, hie, hz0e, hz1e, hz2e⟩ := info_parts info_rEdge
                  obtain ⟨i0i, hii, hz0i, hz1i, hz2i⟩ := info_parts info_pint
                  have hie := Lib.hid hie
                  have hz0e := Lib.hid hz0e
                  have hz1e := Lib.hid hz1e
                  have hz2e := Lib.hid hz2e
                  have hii := Lib.hid hii
                  have hz0i := Lib.hid hz0i
                  have hz1i := Lib.hid hz1i
                  have hz2i := Lib.hid hz2i
                  obtain ⟨ea, em, ec, rfl⟩ := row_form HM11.out.erow
                  have H63 := Lib.hid (show es.length + 1 ≤ maxLen by unfold maxLen; omega)
                  have H64 := Lib.hid (show (es.length + 1) * 16 ≤ 140737488355328 by omega)
                  have HROW : Hid (∀ u, Grew w11 u → ∀ q (h : q < come'.length), ∃ gx, ca' = some ⟨gx, 0, none⟩ ∧ gx < u.heap.size ∧ u.cell? ⟨gx, q, none⟩ = some (.int .i64 ((come'[q] : Nat) : Int))) := Lib.hid fun u hg q hq => by
                    rcases row_cells (HM11.out.grew hg).come with ⟨_, h⟩ | ⟨gx, cap, h1, h2, _, h3, h4⟩
                    · omega
                    · simp only [Value.slice.injEq] at h1
                      exact ⟨gx, h1.1, h3, h4 q _ (by simp [intVs, partL, hq])⟩
                  clear y0 y1 yl
                  go_upto_region 19 with fail
                  go_wp2_with fail
                  go_loopw [17] (fun qv wr => ∃ q : Nat, qv = .int .i64 q ∧ q ≤ come'.length ∧ Hid (∀ i (h : i < come'.length), i < q → g come'[i] ti = true) ∧ Hid (Grew w11 wr)) (fun qv _ => come'.length - (intOf qv).toNat)
                  case atStart => exact ⟨0, rfl, by omega, fun _ _ h => absurd h (by omega), Grew.refl _⟩
                  case round =>
                    obtain ⟨q, rfl, hq, HQ, HGR⟩ := hrel
                    have y0 := (HE11.out.keep HGR.out).cell_at (i := 0) rfl
                    have y1 := (HE11.out.keep HGR.out).cell_at (i := 1) rfl
                    have yl := (HE11.out.keep HGR.out).lt
                    have dx := (HM11.out.grew HGR.out).xbox.cell_at (i := 2) rfl
                    have dl := (HM11.out.grew HGR.out).xbox.lt
                    obtain ⟨wr, rfl⟩ : ∃ z, z = wr := ⟨_, rfl⟩
                    by_cases hql : q < come'.length
                    · have e1 : decide ((q : Int) < (come'.length : Int)) = true := decide_eq_true (by omega)
                      obtain ⟨gx, rfl, hgx, hcell⟩ := HROW.out wr HGR.out q hql
                      have hdl : come'[q] < a.length := HC2.out.lt _ (List.getElem_mem hql)
                      have HNX : Hid (g come'[q] ti = true → ∀ i (h : i < come'.length), i < q + 1 → g come'[i] ti = true) := Lib.hid fun h i hi hiq => by
                        rcases Nat.lt_or_ge i q with g1 | g1
                        · exact HQ.out i hi g1
                        · obtain rfl : i = q := by omega
                          exact h
                      have HFD : Hid (g come'[q] ti = false → come'.findIdx? (fun c => !g c ti) = some q) := Lib.hid fun h => find_some hql HQ.out h
                      obtain ⟨d, hd⟩ : ∃ d, come'[q] = d := ⟨_, rfl⟩
                      rw [hd] at hcell hdl HNX HFD
                      have HMZ := Lib.hid (HMAT.out.keep (HG11.out.trans HGR.out))
                      have m0 := HMZ.out.row (s := d) (by omega) (by omega)
                      have ml := HMZ.out.tab.lt
                      have m1 := HMZ.out.cell (s := d) (i := ti) (by omega) (by omega)
                      have ml1 := (HMZ.out.cells d (by omega)).lt
                      have hd1 : (d : Int) < (a.length : Int) + 1 := by omega
                      clear hd
                      cases hgd : g d ti with
                      | true =>
                        rw [hgd] at m1
                        have HQ2 := Lib.hid (HNX.out hgd)
                        clear hgd
                        go_wp2_with fail
                        refine wp_region_hav_lit follows (by kernel_rfl) ?_
                        repeat (first
                          | (refine HavG.skip (fun _ => rfl) ?_; simp only [Act.put, List.setIfInBounds_toArray, List.set_cons_zero, List.set_cons_succ])
                          | (refine HavG.val (fun _ => rfl) ?_ (fun x w hw _ => ?_) ?_; rotate_left; (focus (have hc := hw.cells; clear hw; go_simp; first | done | rfl)); simp only [Act.put, List.setIfInBounds_toArray, List.set_cons_zero, List.set_cons_succ]))
                        refine HavG.tail (by kernel_rfl) (by kernel_rfl) (fun x wz hw _ => ?_)
                        have HW := Lib.hid (show Grew wr wz from hw)
                        clear hw
                        go_wp2_with fail
                        exact ⟨⟨q + 1, by go_num, by omega, HQ2.out, HGR.out.trans HW.out⟩, by simp [intOf]; omega⟩
                      | false =>
                        rw [hgd] at m1
                        have HN3 := Lib.hid (HOLD.out q (by simp) (HFD.out hgd))
                        have hqe : ((q : Int) == (come'.length : Int)) = false := beq_eq_false_iff_ne.2 (by omega)
                        clear hgd
                        go_wp2_with fail
                        refine wp_region_hav_lit follows (by kernel_rfl) ?_
                        repeat (first
                          | (refine HavG.skip (fun _ => rfl) ?_; simp only [Act.put, List.setIfInBounds_toArray, List.set_cons_zero, List.set_cons_succ])
                          | (refine HavG.val (fun _ => rfl) ?_ (fun x w hw _ => ?_) ?_; rotate_left; (focus (have hc := hw.cells; clear hw; go_simp; first | done | rfl)); simp only [Act.put, List.setIfInBounds_toArray, List.set_cons_zero, List.set_cons_succ]))
                        refine HavG.tail (by kernel_rfl) (by kernel_rfl) (fun x wz hw _ => ?_)
                        have HW := Lib.hid (HGR.out.trans (show Grew wr wz from hw))
                        obtain ⟨w12, hw12⟩ : ∃ w12, wz.alloc (.cells #[.int .i64 tok, .int .i64 (q : Int)] 64) = w12 := ⟨_, rfl⟩
                        have g12 : Grew wz w12 := hw12 ▸ grew_alloc wz _
                        have M12 := Lib.hid (HM11.out.grew (HW.out.trans g12))
                        have SB12 := Lib.hid (HSB11.out.keep (HW.out.trans g12))
                        have NS := Lib.hid (news_owns (hw12 ▸ Owns.alloc wz [.int .i64 tok, .int .i64 (q : Int)] 64 : Owns w12 wz.heap.size [.int .i64 tok, .int .i64 (q : Int)] 64))
                        have y0 := (HE11.out.keep HW.out).cell_at (i := 0) rfl
                        have yl := (HE11.out.keep HW.out).lt
                        have dx := (HM11.out.grew HW.out).xbox.cell_at (i := 2) rfl
                        have dl := (HM11.out.grew HW.out).xbox.lt
                        clear hw g12 m0 ml m1 ml1 hcell hgx
                        go_wp2_with (at_builtin; refine wpList_append_loose w12 rfl _ _ 61 rfl w4.heap.size 64 i0e _ 2 16 Tryd.underlying61 hie.out hz0e.out hz1e.out hz2e.out rfl (by decide) (.slice ea em ec) es.length (edVs es) rfl M12.out.erow ⟨wz.heap.size, 0, none⟩ 1 1 [.int .i64 tok, .int .i64 (q : Int)] rfl rfl NS.out (two_ints _ _) (by decide) H63.out H64.out M12.out.size _ rfl ?_; intro gb gcap w16 hown hgrow hat hlt3; have M16 := M12.out.edge (e := ⟨tok, (q : Int)⟩) hown hgrow (own_slice rfl hat rfl); have x2 := M16.xbox.cell_at (i := 2) rfl; have xf := M16.xbox.free 2; have xl := M16.xbox.lt; have MF := Lib.hid (M16.store (.slice (some ⟨gb, 0, none⟩) (es.length + 1) gcap)); have SF := Lib.hid ((SB12.out.apart M12.out.erow hgrow (by decide)).other (a := ⟨X, 2, none⟩) (by exact HXS.out) (.slice (some ⟨gb, 0, none⟩) (es.length + 1) gcap)); clear hown hgrow hat hlt3 M16)
                        go_round
                        case rel => exact ⟨k + 1, come', es ++ [(⟨tok, (q : Int)⟩ : Ed)], .slice (some ⟨gb, 0, none⟩) (es.length + 1) gcap, by go_num, by omega, ⟨_, _, rfl⟩, MF.out, HC2.out, HN3.out, SF.out⟩
                        case measure => simp [intOf]; omega
                    · have hqe' : q = come'.length := by omega
                      subst hqe'
                      have hqe : ((come'.length : Int) == (come'.length : Int)) = true := by simp
                      have e1 : decide ((come'.length : Int) < (come'.length : Int)) = false := decide_eq_false (by omega)
                      have HALL : Hid (∀ i (h : i < come'.length), g come'[i] ti = true) := Lib.hid fun i h => HQ.out i h h
                      have HN3 := Lib.hid (HNEW.out (by simp) (find_none HALL.out))
                      have HC3 := Lib.hid (HC2.out.snoc htl HLIVE.out HALL.out)
                      go_wp2_with fail
                      refine wp_region_hav_lit follows (by kernel_rfl) ?_
                      repeat (first
                        | (refine HavG.skip (fun _ => rfl) ?_; simp only [Act.put, List.setIfInBounds_toArray, List.set_cons_zero, List.set_cons_succ])
                        | (refine HavG.val (fun _ => rfl) ?_ (fun x w hw _ => ?_) ?_; rotate_left; (focus (have hc := hw.cells; clear hw; go_simp; first | done | rfl)); simp only [Act.put, List.setIfInBounds_toArray, List.set_cons_zero, List.set_cons_succ]))
                      refine HavG.tail (by kernel_rfl) (by kernel_rfl) (fun x wz hw _ => ?_)
                      have HW := Lib.hid (HGR.out.trans (show Grew wr wz from hw))
                      clear hw y0 y1 yl dx dl
                      obtain ⟨w13, hw13⟩ : ∃ w13, wz.alloc (.cells #[.int .i64 (ti : Int)] 3) = w13 := ⟨_, rfl⟩
                      have g13 : Grew wz w13 := hw13 ▸ grew_alloc wz _
                      have M13 := Lib.hid (HM11.out.grew (HW.out.trans g13))
                      have SB13 := Lib.hid (HSB11.out.keep (HW.out.trans g13))
                      have HE13 := Lib.hid (HE11.out.keep (HW.out.trans g13))
                      have NS := Lib.hid (news_owns (hw13 ▸ Owns.alloc wz [.int .i64 (ti : Int)] 3 : Owns w13 wz.heap.size [.int .i64 (ti : Int)] 3))
                      have H73 := Lib.hid (show come'.length + 1 ≤ maxLen by unfold maxLen; omega)
                      have H74 := Lib.hid (show (come'.length + 1) * 8 ≤ 140737488355328 by omega)
                      have y1 := (HE11.out.keep HW.out).cell_at (i := 1) rfl
                      have yl := (HE11.out.keep HW.out).lt
                      clear g13
                      go_wp2_with (first
                        | (at_builtin; refine wpList_append_loose w13 rfl _ _ 26 rfl w4.heap.size 3 i0i _ 1 8 Tryd.underlying26 hii.out hz0i.out hz1i.out hz2i.out rfl (by decide) (.slice ca' come'.length cc') come'.length (intVs (partL come')) rfl M13.out.come ⟨wz.heap.size, 0, none⟩ 1 1 [.int .i64 (ti : Int)] rfl rfl NS.out (one_int _) (by decide) H73.out H74.out M13.out.size _ rfl ?_; intro gb0 gcap0 w14 hown hgrow hat hlt3; have M14 := M13.out.comes (c := ti) hown hgrow (own_slice rfl hat rfl); have o14 := HE13.out.apart M13.out.come hgrow (by decide); have y0 := o14.cell_at (i := 0) rfl; have yl := o14.lt; have y2 := M14.xbox.cell_at (i := 2) rfl; have dl := M14.xbox.lt; have SB14 := Lib.hid (SB13.out.apart M13.out.come hgrow (by decide)); have HM14 := Lib.hid M14; have hw15 : ∃ w15, w14.alloc (.cells #[.int .i64 tok, .int .i64 (come'.length : Int)] 64) = w15 := ⟨_, rfl⟩; clear hown hgrow hat hlt3 M14 o14; obtain ⟨w15, hw15⟩ := hw15; have M15 := Lib.hid (HM14.out.grew (hw15 ▸ grew_alloc w14 _ : Grew w14 w15)); have SB15 := Lib.hid (SB14.out.keep (hw15 ▸ grew_alloc w14 _ : Grew w14 w15)); have NS2 := Lib.hid (news_owns (hw15 ▸ Owns.alloc w14 [.int .i64 tok, .int .i64 (come'.length : Int)] 64 : Owns w15 w14.heap.size [.int .i64 tok, .int .i64 (come'.length : Int)] 64)))
                        | (at_builtin; refine wpList_append_loose w15 rfl _ _ 61 rfl w4.heap.size 64 i0e _ 2 16 Tryd.underlying61 hie.out hz0e.out hz1e.out hz2e.out rfl (by decide) (.slice ea em ec) es.length (edVs es) rfl M15.out.erow ⟨w14.heap.size, 0, none⟩ 1 1 [.int .i64 tok, .int .i64 (come'.length : Int)] rfl rfl NS2.out (two_ints _ _) (by decide) H63.out H64.out M15.out.size _ rfl ?_; intro gb gcap w16 hown hgrow hat hlt3; have M16 := M15.out.edge (e := ⟨tok, (come'.length : Int)⟩) hown hgrow (own_slice rfl hat rfl); have x2 := M16.xbox.cell_at (i := 2) rfl; have xf := M16.xbox.free 2; have xl := M16.xbox.lt; have MF := Lib.hid (M16.store (.slice (some ⟨gb, 0, none⟩) (es.length + 1) gcap)); have SF := Lib.hid ((SB15.out.apart M15.out.erow hgrow (by decide)).other (a := ⟨X, 2, none⟩) (by exact HXS.out) (.slice (some ⟨gb, 0, none⟩) (es.length + 1) gcap)); clear hown hgrow hat hlt3 M16))
                      have MF2 : Hid (RIn w4 w4.heap.size w4.heap.size (W.heap.size + 1) X (come' ++ [ti]) s.kind s.alts (es ++ [(⟨tok, (come'.length : Int)⟩ : Ed)]) out (.slice (some ⟨gb0, 0, none⟩) (come' ++ [ti]).length gcap0) ov (.slice ua um uc) (.slice (some ⟨gb, 0, none⟩) (es.length + 1) gcap) (.slice (some ⟨gb, 0, none⟩) (es.length + 1) gcap) vs (w16.setCell ⟨X, 2, none⟩ (.slice (some ⟨gb, 0, none⟩) (es.length + 1) gcap))) :=
                        Lib.hid (by rw [List.length_append]; exact MF.out)
                      have hcl3 : (Value.slice (some ⟨gb0, 0, none⟩) (come'.length + 1) gcap0) = .slice (some ⟨gb0, 0, none⟩) (come' ++ [ti]).length gcap0 := by rw [List.length_append]; rfl
                      rw [hcl3]
                      go_round
                      case rel => exact ⟨k + 1, come' ++ [ti], es ++ [(⟨tok, (come'.length : Int)⟩ : Ed)], .slice (some ⟨gb, 0, none⟩) (es.length + 1) gcap, by go_num, by omega, ⟨_, _, rfl⟩, MF2.out, HC3.out, HN3.out, SF.out⟩
                      case measure => simp [intOf]; omega
            · obtain rfl : m = k := by omega
              have d1 : decide ((m : Int) < (m : Int)) = false := decide_eq_false (by omega)
              have hdone := (show NumF (fun i j => !g i j) P s.edges come come' es s.edges.length by rw [HMM.out]; exact HN2.out).done
              obtain ⟨more, hmore, _⟩ := numE_pre (fun i j => !g i j) (s.edges.filter P) come
              have hmore2 : come' = come ++ more := by rw [hdone] at hmore; exact hmore
              have hcle : come.length ≤ come'.length := by rw [hmore2]; simp
              have hel := HN2.out.len
              rw [HMM.out] at hel
              have hnext := HN.out.next HCC.out (by omega) (show numE (fun i j => !g i j) (t.edges c) come = (es, come') by rw [HPE.out.2.2]; exact hdone)
              rw [HPE.out.1, HPE.out.2.1] at hnext
              have HNX := Lib.hid hnext
              obtain ⟨ea, em, ec, rfl⟩ := row_form HM2.out.erow
              obtain ⟨oa, om, oc, rfl⟩ := row_form HM2.out.orow
              have hol : out.length ≤ 5000 := by have := HOL.out; omega
              have y0 := HM2.out.xbox.cell_at (i := 0) rfl
              have y1 := HM2.out.xbox.cell_at (i := 1) rfl
              have y2 := HM2.out.xbox.cell_at (i := 2) rfl
              have yl := HM2.out.xbox.lt
              have yO := HM2.out.obox.cell_at (i := 0) rfl
              have yOl := HM2.out.obox.lt
              obtain ⟨w12, hw12⟩ : ∃ w12, wr.alloc (.cells #[.int .i64 s.kind, .slice ua um uc, .slice ea em ec] 63) = w12 := ⟨_, rfl⟩
              have M12 := Lib.hid (HM2.out.grew (hw12 ▸ grew_alloc wr _ : Grew wr w12))
              have NS := Lib.hid (news_owns (hw12 ▸ Owns.alloc wr [.int .i64 s.kind, .slice ua um uc, .slice ea em ec] 63 : Owns w12 wr.heap.size [.int .i64 s.kind, .slice ua um uc, .slice ea em ec] 63))
              have hone : ∀ u ∈ [Value.int .i64 s.kind, .slice ua um uc, .slice ea em ec], u.oneCell' = true := by
                intro u hu
                simp only [List.mem_cons, List.not_mem_nil, or_false] at hu
                rcases hu with rfl | rfl | rfl <;> rfl
              have HONE := Lib.hid hone
              obtain ⟨i0s, his, hz0s, hz1s, hz2s⟩ := info_parts info_rState
              have his := Lib.hid his
              have hz0s := Lib.hid hz0s
              have hz1s := Lib.hid hz1s
              have hz2s := Lib.hid hz2s
              have H63 := Lib.hid (show out.length + 1 ≤ maxLen by unfold maxLen; omega)
              have H64 := Lib.hid (show (out.length + 1) * 56 ≤ 140737488355328 by omega)
              clear hone hnext hdone hmore hmore2 hgw4
              go_wp2_with (at_builtin; refine wpList_append_loose w12 rfl _ _ 29 rfl w4.heap.size 63 i0s _ 3 56 Tryd.underlying29 his.out hz0s.out hz1s.out hz2s.out rfl (by decide) (.slice oa om oc) out.length (triVs vs) rfl M12.out.orow ⟨wr.heap.size, 0, none⟩ 1 1 [.int .i64 s.kind, .slice ua um uc, .slice ea em ec] rfl rfl NS.out HONE.out (by decide) H63.out H64.out M12.out.size _ rfl ?_; intro gb gcap w13 hown hgrow hat hlt3; have MF := Lib.hid (M12.out.finish hown hgrow (own_slice rfl hat rfl)); have o13 := M12.out.obox.apart M12.out.orow hgrow (by decide); have z0 := o13.cell_at (i := 0) rfl; have zf := o13.free 0; have zl := o13.lt; clear hown hgrow hat hlt3 o13)
              go_round
              case rel => exact ⟨j + 1, come', out ++ [(⟨s.kind, s.alts, es⟩ : Stt)], .slice (some ⟨gb, 0, none⟩) (out.length + 1) gcap, _, by go_num, by omega, ⟨ca', cc', rfl⟩, MF.out, HC2.out, HNX.out, by show (out ++ _).length = j + 1; rw [List.length_append, HOL.out]; rfl⟩
              case measure => simp [intOf]; omega
        · have hje : j = come.length := by omega
          subst hje
          have hout := HN.out.done (by omega)
          obtain ⟨oa, om, oc, rfl⟩ := row_form HM.out.orow
          have HOUT := Lib.hid hout
          have x0 := HM.out.obox.cell_at (i := 0) rfl
          have xl := HM.out.obox.lt
          have hB4 : Grew w4 wr := HM.out.below
          have oR := HO24.out.keep hB4
          have HRR := Lib.hid oR
          have q1 := oR.cell_at (i := 0) rfl
          have q2 := oR.free 0
          have ql := oR.lt
          obtain ⟨w12, hw12⟩ : ∃ w12, wr.setCell ⟨W.heap.size + 1, 0, none⟩ (.slice oa om oc) = w12 := ⟨_, rfl⟩
          have o12 : Owns w12 (W.heap.size + 1) [.slice oa om oc] 31 := hw12 ▸ HRR.out.set 0 _
          have hu12 : looseRow w12 w4.heap.size 63 3 (.slice oa om oc) out.length (triVs vs) := by
            rw [← hw12]
            refine looseRow.off HM.out.orow (a := ⟨W.heap.size + 1, 0, none⟩) (fun e => ?_) _
            exact type_ne (owns_type HRR.out) (row_type HM.out.orow e) (by decide) rfl
          have hs12 : StsIn .i64 w12 w12.heap.size vs out := by
            refine HM.out.ostay w12 ?_
            rw [← hw12]
            exact But.set (a := ⟨W.heap.size + 1, 0, none⟩) (.inr (.inl (Nat.le_refl _))) _
          have hA12 := sts_of_row hu12 hs12
          rw [← HOUT.out] at hA12
          have HG12 := Lib.hid (show Grew W w12 by rw [← hw12]; exact Below.setCell HGW.out (by show W.heap.size ≤ W.heap.size + 1; omega) _)
          have HA12 := Lib.hid hA12
          have HO12 := Lib.hid o12
          have d1 : decide ((come.length : Int) < (come.length : Int)) = false := decide_eq_false (by omega)
          clear o12 hu12 hs12 hA12 hout hB4 oR
          go_wp2_with fail
          refine bodyPost_ret (two_ok (d := Tryd.prog.underlying 31 |>.getD default) rfl _ _ (W.heap.size + 1) 31 _ (0, 0) rfl HO12.out rfl rfl rfl) rfl ?_
          exact ⟨_, _, rfl, HG12.out, .inr ⟨HMB.out, rfl, _, HL.out, HA12.out⟩⟩
end Go.Proofs.YtogmlonhciiomaaDoor
