/- What holds of the net that Build makes: plain laws. -/
import Derived.Test.YtgdcnndmdgcjlaaRows
import Derived.ProofKit
import Derived.Below
import Derived.OpenShut
import Derived.Carry
import Derived.Test.YtgdcnndmdgcjlaaQ22
import Derived.Test.YtgdcnndmdgcjlaaQ5
import Derived.Test.YtgdcnndmdgcjlaaQ13
namespace Go.Proofs.Ytgdcnndmdgcjlaa
theorem waitStep_starts (P : Nums) (m : Mk) : (m.waitStep P).N.starts = m.N.starts ∧ (m.waitStep P).N.stops = m.N.stops := by
  unfold Mk.waitStep
  cases hw : m.waits with
  | nil => exact ⟨rfl, rfl⟩
  | cons x r =>
    dsimp only
    generalize hm1 : m.dropWait.setRule x.1 = m1
    have h0 : m1.N.starts = m.N.starts ∧ m1.N.stops = m.N.stops := by rw [← hm1]; exact ⟨rfl, rfl⟩
    have h1 := m1.state_le
    have h2 := m1.state.2.state_le
    have h3 := Nd.piece_le P x.2 m1.state.1 m1.state.2.state.1 (m1.state.2.state.2.addPred m1.state.1)
    exact ⟨h3.starts.trans (h2.starts.trans (h1.starts.trans h0.1)), h3.stops.trans (h2.stops.trans (h1.stops.trans h0.2))⟩
theorem wts_starts {P : Nums} {m m' : Mk} (h : Mk.Wts P m m') : m'.N.starts = m.N.starts ∧ m'.N.stops = m.N.stops := by
  induction h with
  | refl => exact ⟨rfl, rfl⟩
  | @step m'' _ _ _ ih => exact ⟨(waitStep_starts P m'').1.trans ih.1, (waitStep_starts P m'').2.trans ih.2⟩
theorem rulesTo_starts (P : Nums) (g : Gr) (l : List Int) : ∀ j, (Mk.rulesTo P g l j).N.starts.length = j ∧ (Mk.rulesTo P g l j).N.stops.length = j
  | 0 => ⟨rfl, rfl⟩
  | j + 1 => by
    have ih := rulesTo_starts P g l j
    rw [Mk.rulesTo]
    unfold Mk.ruleStep
    generalize hm1 : (Mk.rulesTo P g l j).setRule j = m1
    have h0 : m1.N.starts.length = j ∧ m1.N.stops.length = j := by rw [← hm1]; exact ih
    have h1 := m1.state_le
    have h2 := m1.state.2.state_le
    have h3 := Nd.piece_le P (g.body ((l[j]?).getD 0)) m1.state.1 m1.state.2.state.1 (m1.state.2.state.2.addSS m1.state.1 m1.state.2.state.1)
    rw [h3.starts, h3.stops]
    refine ⟨?_, ?_⟩
    · show (m1.state.2.state.2.N.starts ++ [_]).length = _
      rw [List.length_append, h2.starts, h1.starts, h0.1]; rfl
    · show (m1.state.2.state.2.N.stops ++ [_]).length = _
      rw [List.length_append, h2.stops, h1.stops, h0.2]; rfl
theorem decsTo_mem (m : Mk) : ∀ i x, m.N.decisions = [] → x ∈ (m.decsTo i).N.decisions → ∃ k, k < i ∧ x = (k : Int) ∧ 0 < (m.N.ends k).length
  | 0, x, h0, h => by
    have h : x ∈ m.N.decisions := h
    rw [h0] at h; simp at h
  | i + 1, x, h0, h => by
    rw [Mk.decsTo] at h
    split at h
    · rename_i hc
      have h : x ∈ (m.decsTo i).N.decisions ++ [(i : Int)] := h
      rcases List.mem_append.1 h with h | h
      · obtain ⟨k, h1, h2⟩ := decsTo_mem m i x h0 h
        exact ⟨k, by omega, h2⟩
      · exact ⟨i, by omega, by simpa using h, hc⟩
    · obtain ⟨k, h1, h2⟩ := decsTo_mem m i x h0 h
      exact ⟨k, by omega, h2⟩
theorem built_reach {P : Nums} {g : Gr} {rules : List Int} {m : Mk} (hb : Built P g rules m) (hr : rules.length ≤ 1000) (hs : m.Slim 0) (hp : m.N.preds.length ≤ 2050 ∧ m.N.decisions = []) : (m.decsTo m.N.states.length).N.Reach := by
  obtain ⟨h1, h2, h3, h4, h5⟩ := decsTo_N m m.N.states.length
  have hw := wts_starts hb.1
  have hrt := rulesTo_starts P g rules rules.length
  have hcap := hs.cap
  rw [hp.2] at h5
  simp only [List.length_nil, Nat.zero_add] at h5
  refine ⟨by unfold reachN; rw [h1]; omega, by unfold reachN; rw [h2, hw.1, hrt.1]; omega, by unfold reachN; rw [h3, hw.2, hrt.2]; omega, by unfold reachN; rw [h4]; omega, by unfold reachN; omega, fun s hs9 => ?_, fun s hs9 => ?_⟩
  · rw [h1] at hs9
    obtain ⟨q, hq, rfl⟩ := List.mem_iff_getElem.1 hs9
    have := hs.edges q
    unfold Net.edges at this
    rw [List.getElem?_eq_getElem hq] at this
    unfold reachN
    simp only [Option.map_some, Option.getD_some] at this
    omega
  · rw [h1] at hs9
    obtain ⟨q, hq, rfl⟩ := List.mem_iff_getElem.1 hs9
    have := hs.ends q
    unfold Net.ends at this
    rw [List.getElem?_eq_getElem hq] at this
    unfold reachN
    simp only [Option.map_some, Option.getD_some] at this
    omega
end Go.Proofs.Ytgdcnndmdgcjlaa

/- PathsGrammar: the walk. -/
namespace Go.Proofs.Ytgdcnndmdgcjlaa
open Go.RowKit
theorem kinds_of {N : Net} (h : N.Kinds3) : N.Kinds := fun s hs e he => ⟨(h s hs e he).1, by have := (h s hs e he).2; omega⟩
set_option linter.unusedSimpArgs false in
set_option maxHeartbeats 8000000 in
set_option maxRecDepth 40000 in
theorem gram_ok (g : Gr) (w : List Int) (hwl : w.length ≤ reachN) (W : World) (v0 v1 v2 v3 wv : Value) (hG : GrAt W W.heap.size (some v0) (some v1) (some v2) (some v3) g) (hWV : IntsV W W.heap.size wv w) :
    Calls Try.prog 5 #[.agg #[v0, v1, v2, v3], wv] W fun e W' => e = .returned (.bool true) ∧ Grew W W' := by
  obtain ⟨q1, -, q2, q3, q4, q5, ra, rc, q6, -, -⟩ := id hG
  obtain rfl := Option.some.inj q1
  obtain rfl := Option.some.inj q2
  obtain rfl := Option.some.inj q3
  obtain rfl := Option.some.inj q6
  obtain ⟨wa, wc, rfl, -⟩ := id hWV
  clear q1 q2 q3 q4 q5 q6
  obtain ⟨w1, hw1⟩ : ∃ w1, W.alloc (.cells #[.string g.name, .int .i64 g.bound, .int .i64 g.states, .slice ra g.rules.length rc] 57) = w1 := ⟨_, rfl⟩
  have g1 : Grew W w1 := hw1 ▸ grew_alloc W _
  have o1 : Owns w1 W.heap.size [.string g.name, .int .i64 g.bound, .int .i64 g.states, .slice ra g.rules.length rc] 57 := hw1 ▸ Owns.alloc W _ _
  have HGR := Lib.hid fun (w' : World) (hg : Grew W w') => (hG.keep hg).mono hg.size
  have HTOK := Lib.hid fun (w' : World) (hg : Grew W w') => (hWV.keep hg).mono hg.size
  have HG5 := Lib.hid (great5_ok g w1 _ _ _ _ (HGR.out w1 g1))
  have HO1 := Lib.hid o1
  have HB1 := Lib.hid g1
  have c0 := o1.cell_at (i := 0) rfl
  have c1 := o1.cell_at (i := 1) rfl
  have c2 := o1.cell_at (i := 2) rfl
  have c3 := o1.cell_at (i := 3) rfl
  have cl := o1.lt
  clear g1 o1 hG hWV
  go_enter Try.func5, Try.ntmps5
  go_wp2_with fail
  refine HG5.out.mono ?_
  clear HG5
  rintro e w2 ⟨hbt, hb⟩
  obtain ⟨b, rfl, hfair⟩ : ∃ b, e = .returned (.bool b) ∧ (b = false → g.Fair) := by
    rcases hbt with h | ⟨h, hp⟩
    · exact ⟨true, h, fun h => by cases h⟩
    · exact ⟨false, h, fun _ => hp⟩
  clear hbt
  have HF := Lib.hid hfair
  have HB2 := Lib.hid (HB1.out.trans hb)
  have HO2 := Lib.hid (HO1.out.keep hb)
  clear hb hfair c0 c1 c2 c3 cl hw1
  cases b
  · have hfa := HF.out rfl
    have HFA := Lib.hid hfa
    have HC := Lib.hid (build12_ok g hfa w2 _ _ _ _ (HGR.out w2 HB2.out))
    have c0 := HO2.out.cell_at (i := 0) rfl
    have c1 := HO2.out.cell_at (i := 1) rfl
    have c2 := HO2.out.cell_at (i := 2) rfl
    have c3 := HO2.out.cell_at (i := 3) rfl
    have cl := HO2.out.lt
    clear hfa
    go_wp2_with fail
    refine HC.out.mono ?_
    clear HC
    rintro e w3 ⟨hb3, n0, n1, n2, n3, n4, k, rfl, hcase⟩
    clear c0 c1 c2 c3 cl
    rcases hcase with ⟨rfl, E, m, hEr, hEt, hbuilt, hfull, hslim, hpre, hkin, hnet⟩ | ⟨hk, hnil⟩
    · have hrl : (g.of [0]).length ≤ 1000 := by
        have h1 := Gr.ofTo_len g [0] g.rules.length
        have h2 := HFA.out.len
        unfold Gr.of
        omega
      have hreach := built_reach hbuilt hrl hslim hpre
      obtain ⟨k1, k2, k3, k4, k5⟩ := decsTo_N m m.N.states.length
      have hkk : (m.decsTo m.N.states.length).N.Kinds := kinds_of fun s hs => hkin s (by rw [← k1]; exact hs)
      have hdec : ∀ x ∈ (m.decsTo m.N.states.length).N.decisions, ∃ q, q < (m.decsTo m.N.states.length).N.states.length ∧ x = (q : Int) := fun x hx => by
        obtain ⟨q, h1, h2, -⟩ := decsTo_mem m _ x hpre.2 hx
        exact ⟨q, by rw [k1]; exact h1, h2⟩
      have hss : (m.decsTo m.N.states.length).N.stops.length = (m.decsTo m.N.states.length).N.starts.length := by
        have h1 := wts_starts hbuilt.1
        have h2 := rulesTo_starts (E.nums g) g (g.of [0]) (g.of [0]).length
        rw [k2, k3, h1.1, h1.2, h2.1, h2.2]
      generalize (m.decsTo m.N.states.length).N = N at hreach hkk hdec hss hnet
      obtain ⟨a0, k0, a1, k1', a2, k2', a3, k3', a4, k4', rfl, rfl, rfl, rfl, rfl⟩ := hnet.forms
      have HNET3 := Lib.hid hnet
      have HRE := Lib.hid hreach
      have HKK := Lib.hid hkk
      have HDEC := Lib.hid hdec
      have HSS := Lib.hid hss
      have HB3 := Lib.hid (HB2.out.trans hb3)
      clear hb3 hEr hEt hbuilt hfull hslim hpre hkin hnet hrl hreach k1 k2 k3 k4 k5 hkk hdec hss
      obtain ⟨w4, hw4⟩ : ∃ w4, w3.alloc (.cells #[.slice a0 N.states.length k0, .slice a1 N.starts.length k1', .slice a2 N.stops.length k2', .slice a3 N.preds.length k3', .slice a4 N.decisions.length k4'] 25) = w4 := ⟨_, rfl⟩
      have g4 : Grew w3 w4 := hw4 ▸ grew_alloc w3 _
      have o4 : Owns w4 w3.heap.size [.slice a0 N.states.length k0, .slice a1 N.starts.length k1', .slice a2 N.stops.length k2', .slice a3 N.preds.length k3', .slice a4 N.decisions.length k4'] 25 := hw4 ▸ Owns.alloc w3 _ _
      have HB4 := Lib.hid (HB3.out.trans g4)
      have HO4 := Lib.hid o4
      have HNET := Lib.hid fun (w' : World) (hg : Grew w4 w') => (HNET3.out.keep (g4.trans hg)).mono (g4.trans hg).size
      have HGT := Lib.hid (great13_ok N HRE.out w hwl w4 _ _ _ _ _ _ (HNET.out w4 (Grew.refl _)) (HTOK.out w4 HB4.out))
      have d0 := o4.cell_at (i := 0) rfl
      have d1 := o4.cell_at (i := 1) rfl
      have d2 := o4.cell_at (i := 2) rfl
      have d3 := o4.cell_at (i := 3) rfl
      have d4 := o4.cell_at (i := 4) rfl
      have dl := o4.lt
      clear g4 o4
      go_wp2_with fail
      refine HGT.out.mono ?_
      clear HGT
      rintro e w5 ⟨gb, rfl, hgb, hg5⟩
      have HO5 := Lib.hid (HO4.out.keep hg5)
      have HB5 := Lib.hid (HB4.out.trans hg5)
      have HG45 := Lib.hid hg5
      clear hg5 d0 d1 d2 d3 d4 dl hw4
      cases gb
      · obtain ⟨hS, hw7⟩ := hgb rfl
        have HS := Lib.hid hS
        have HC := Lib.hid (other_ok N hS HKK.out w5 _ _ _ _ _ (HNET.out w5 HG45.out))
        have d0 := HO5.out.cell_at (i := 0) rfl
        have d1 := HO5.out.cell_at (i := 1) rfl
        have d2 := HO5.out.cell_at (i := 2) rfl
        have d3 := HO5.out.cell_at (i := 3) rfl
        have d4 := HO5.out.cell_at (i := 4) rfl
        have dl := HO5.out.lt
        have hn12 : N.starts.length ≤ 12 := hS.starts
        have hnd : N.decisions.length ≤ 4000 := hS.decisions
        have hn60 : N.states.length ≤ 60 := hS.states
        clear hgb hS
        go_wp2_with fail
        refine HC.out.mono ?_
        clear HC
        rintro e w6 ⟨rv, rfl, hr, hg6⟩
        obtain ⟨b0, l0, rfl, -⟩ := id hr.states
        obtain ⟨w7, hw77⟩ : ∃ w7, w6.alloc (.cells #[.slice b0 N.states.length l0, .slice a1 N.starts.length k1', .slice a2 N.stops.length k2', .slice a3 N.preds.length k3', .slice a4 N.decisions.length k4'] 38) = w7 := ⟨_, rfl⟩
        have g7 : Grew w6 w7 := hw77 ▸ grew_alloc w6 _
        have o7 : Owns w7 w6.heap.size [.slice b0 N.states.length l0, .slice a1 N.starts.length k1', .slice a2 N.stops.length k2', .slice a3 N.preds.length k3', .slice a4 N.decisions.length k4'] 38 := hw77 ▸ Owns.alloc w6 _ _
        have HR := Lib.hid fun (w' : World) (hg : Grew w7 w') => (hr.keep (g7.trans hg)).mono (g7.trans hg).size
        have HN7 := Lib.hid fun (w' : World) (hg : Grew w7 w') => HNET.out w' (HG45.out.trans (hg6.trans (g7.trans hg)))
        have HB7 := Lib.hid (HB5.out.trans (hg6.trans g7))
        have HT7 := Lib.hid fun (w' : World) (hg : Grew w7 w') => HTOK.out w' (HB7.out.trans hg)
        have HBN := Lib.hid fun (w' : World) (hg : Grew w7 w') => (HO5.out.keep (hg6.trans g7)).keep hg
        have HBR := Lib.hid fun (w' : World) (hg : Grew w7 w') => o7.keep hg
        obtain ⟨nb, hnb⟩ : ∃ nb, w3.heap.size = nb := ⟨_, rfl⟩
        obtain ⟨rb, hrb⟩ : ∃ rb, w6.heap.size = rb := ⟨_, rfl⟩
        rw [hnb] at HBN
        rw [hrb] at HBR
        obtain ⟨S, hS9⟩ : ∃ S, N.starts.length = S := ⟨_, rfl⟩
        have HSN := Lib.hid hS9
        have hst := HSS.out
        rw [hst]
        rw [hst] at HBN HBR HN7 HR
        obtain ⟨D, hD⟩ : ∃ D, N.decisions.length = D := ⟨_, rfl⟩
        have HDN := Lib.hid hD
        rw [hst, hS9, hD] at hw77
        rw [hS9, hD] at HBN HBR HN7 HR
        clear g7 o7 hr hg6 d0 d1 d2 d3 d4 dl HNET HTOK HO4 HO5 hst
        simp only [hnb, hrb]
        go_wp2_with fail
        try simp only [HSS.out, hS9, hD]
        clear hS9 hD
        go_loopw [8] (fun i wr => ∃ (j : Nat), i = .int .i64 j ∧ j ≤ S ∧ Hid (Grew w7 wr)) (fun i _ => S - (intOf i).toNat)
        case atStart => exact ⟨0, rfl, Nat.zero_le _, Grew.refl _⟩
        case round =>
          obtain ⟨j, rfl, hj, HGW⟩ := hrel
          have hbn := HBN.out wr HGW.out
          have d0 := hbn.cell_at (i := 0) rfl
          have d1 := hbn.cell_at (i := 1) rfl
          have d2 := hbn.cell_at (i := 2) rfl
          have d3 := hbn.cell_at (i := 3) rfl
          have d4 := hbn.cell_at (i := 4) rfl
          have dl := hbn.lt
          by_cases hlt : j < S
          · as_aux_lemma =>
            have hnet := HN7.out wr HGW.out
            obtain ⟨z1, z2, hz, hzs⟩ := hnet.starts
            simp only [Value.slice.injEq] at hz
            obtain ⟨rfl, -, -⟩ := hz
            obtain ⟨z3, z4, hz, hzt⟩ := hnet.stops
            simp only [Value.slice.injEq] at hz
            obtain ⟨rfl, -, -⟩ := hz
            have hj1 : j < N.starts.length := by rw [HSN.out]; exact hlt
            have hj2 : j < N.stops.length := by rw [HSS.out, HSN.out]; exact hlt
            obtain ⟨sb1, so1, rfl, hsl1, hsc1⟩ := hzs j hj1
            obtain ⟨sb2, so2, rfl, hsl2, hsc2⟩ := hzt j hj2
            obtain ⟨px, hpx⟩ : ∃ px, N.starts[j] = px := ⟨_, rfl⟩
            obtain ⟨py, hpy⟩ : ∃ py, N.stops[j] = py := ⟨_, rfl⟩
            rw [hpx] at hsc1
            rw [hpy] at hsc2
            obtain ⟨er, her⟩ : ∃ er : Int, (if okW N px py = true then 0 else 1) = er := ⟨_, rfl⟩
            obtain ⟨la, hla⟩ : ∃ la, (if okW N px py = true then w.length + 1 else 0) = la := ⟨_, rfl⟩
            have hla9 : la ≤ 1000 := by rw [← hla]; split <;> omega
            have HER := Lib.hid (And.intro her hla)
            have hbr := HBR.out wr HGW.out
            have r0 := hbr.cell_at (i := 0) rfl
            have r1 := hbr.cell_at (i := 1) rfl
            have r2 := hbr.cell_at (i := 2) rfl
            have r3 := hbr.cell_at (i := 3) rfl
            have r4 := hbr.cell_at (i := 4) rfl
            have rl := hbr.lt
            clear hnet hzs hzt hpx hpy her hla hbn hbr
            go_wp2_with fail
            refine wp_region_hav_lit follows (by kernel_rfl) ?_
            iterate 12 (first
              | (refine HavG.skip (fun _ => rfl) ?_; simp only [Act.put, List.setIfInBounds_toArray, List.set_cons_zero, List.set_cons_succ])
              | (refine HavG.val (fun _ => rfl) ?_ (fun x w hw _ => ?_) ?_; rotate_left; (focus (have hc := hw.cells; clear hw; go_simp; first | done | rfl)); simp only [Act.put, List.setIfInBounds_toArray, List.set_cons_zero, List.set_cons_succ]))
            refine HavG.any (fun _ => rfl) (WayO N w px py er la) (fun _ _ _ hg h => WayO.keep hg h) (fun x u hw hd => ?_) ?_
            · have HC := Lib.hid (Ways_all N HS.out w hw7 px py u _ _ _ _ _ (.slice wa w.length wc) (HN7.out u (HGW.out.trans hw)) (HT7.out u (HGW.out.trans hw)))
              clear hd hw
              go_simp
              refine HC.out.mono ?_
              rintro e u2 ⟨v, rfl, hr, hg⟩
              exact ⟨hg, wayO_of HER.out.1 HER.out.2 hr⟩
            simp only [Act.put, List.setIfInBounds_toArray, List.set_cons_zero, List.set_cons_succ]
            refine HavG.any (fun _ => rfl) (WayO N w px py er la) (fun _ _ _ hg h => WayO.keep hg h) (fun x u hw hd => ?_) ?_
            · have h7 := hd _ (List.mem_append_right _ (List.mem_singleton.2 rfl)) (by kernel_rfl)
              dsimp only at h7
              clear hd hw
              generalize x (0 + 1 + 1 + 1 + 1 + 1 + 1 + 1 + 1 + 1 + 1 + 1 + 1) = y7 at *
              have H7 := Lib.hid h7
              clear h7
              go_simp
              exact ⟨Grew.refl _, H7.out⟩
            simp only [Act.put, List.setIfInBounds_toArray, List.set_cons_zero, List.set_cons_succ]
            refine HavG.any (fun _ => rfl) (WayX N w px py la) (fun _ _ _ hg h => WayX.keep hg h) (fun x u hw hd => ?_) ?_
            · have h8 := hd _ (List.mem_append_right _ (List.mem_singleton.2 rfl)) (by kernel_rfl)
              dsimp only at h8
              clear hd hw
              generalize x (0 + 1 + 1 + 1 + 1 + 1 + 1 + 1 + 1 + 1 + 1 + 1 + 1 + 1) = y8 at *
              obtain ⟨xx, rfl, ho⟩ := h8
              have HO := Lib.hid ho
              clear ho
              go_simp
              exact ⟨Grew.refl _, HO.out⟩
            simp only [Act.put, List.setIfInBounds_toArray, List.set_cons_zero, List.set_cons_succ]
            refine HavG.det (fun _ => rfl) (.int .i64 er) (fun x u hw hd => ?_) ?_
            · have h8 := hd _ (List.mem_append_left _ (List.mem_append_right _ (List.mem_singleton.2 rfl))) (by kernel_rfl)
              dsimp only at h8
              clear hd hw
              generalize x (0 + 1 + 1 + 1 + 1 + 1 + 1 + 1 + 1 + 1 + 1 + 1 + 1 + 1) = y8 at *
              obtain ⟨xx, rfl, ho⟩ := h8
              clear ho
              go_simp
              exact Grew.refl _
            simp only [Act.put, List.setIfInBounds_toArray, List.set_cons_zero, List.set_cons_succ]
            refine HavG.any (fun _ => rfl) (WayX N w px py la) (fun _ _ _ hg h => WayX.keep hg h) (fun x u hw hd => ?_) ?_
            · have h8 := hd _ (List.mem_append_right _ (List.mem_singleton.2 rfl)) (by kernel_rfl)
              dsimp only at h8
              clear hd hw
              generalize x (0 + 1 + 1 + 1 + 1 + 1 + 1 + 1 + 1 + 1 + 1 + 1 + 1 + 1 + 1) = y9 at *
              have H8 := Lib.hid h8
              clear h8
              go_simp
              exact ⟨Grew.refl _, H8.out⟩
            simp only [Act.put, List.setIfInBounds_toArray, List.set_cons_zero, List.set_cons_succ]
            refine HavG.tail (by kernel_rfl) (by kernel_rfl) (fun x wa1 hw hx => ?_)
            have hx8 := hx _ (List.mem_append_right _ (List.mem_singleton.2 rfl))
            clear hx
            dsimp only at hx8
            generalize x (0 + 1 + 1 + 1 + 1 + 1 + 1 + 1 + 1 + 1 + 1 + 1 + 1 + 1 + 1 + 1 + 1) = y11 at *
            generalize x (0 + 1 + 1 + 1 + 1 + 1 + 1 + 1 + 1 + 1 + 1 + 1 + 1 + 1 + 1) = y9 at *
            generalize x (0 + 1 + 1 + 1 + 1 + 1 + 1 + 1 + 1 + 1 + 1 + 1 + 1 + 1) = y8 at *
            generalize x (0 + 1 + 1 + 1 + 1 + 1 + 1 + 1 + 1 + 1 + 1 + 1 + 1) = y7 at *
            obtain ⟨ba, bc, rfl, hbb⟩ := hx8
            have HBA := Lib.hid hbb
            have HGW := Lib.hid (HGW.out.trans hw)
            have HGS := Lib.hid hw
            have d0 := (HBN.out wa1 HGW.out).cell_at (i := 0) rfl
            have d1 := (HBN.out wa1 HGW.out).cell_at (i := 1) rfl
            have d2 := (HBN.out wa1 HGW.out).cell_at (i := 2) rfl
            have dl := (HBN.out wa1 HGW.out).lt
            have hsc1 := (hw.cells _ _ hsl1).trans hsc1
            have hsc2 := (hw.cells _ _ hsl2).trans hsc2
            have hsl1 := Nat.lt_of_lt_of_le hsl1 hw.size
            have hsl2 := Nat.lt_of_lt_of_le hsl2 hw.size
            have r0 := (HBR.out wa1 HGW.out).cell_at (i := 0) rfl
            have r1 := (HBR.out wa1 HGW.out).cell_at (i := 1) rfl
            have r2 := (HBR.out wa1 HGW.out).cell_at (i := 2) rfl
            have r3 := (HBR.out wa1 HGW.out).cell_at (i := 3) rfl
            have r4 := (HBR.out wa1 HGW.out).cell_at (i := 4) rfl
            have rl := (HBR.out wa1 HGW.out).lt
            clear hw hbb
            go_wp2_with fail
            refine wp_region_hav_lit follows (by kernel_rfl) ?_
            iterate 12 (first
              | (refine HavG.skip (fun _ => rfl) ?_; simp only [Act.put, List.setIfInBounds_toArray, List.set_cons_zero, List.set_cons_succ])
              | (refine HavG.val (fun _ => rfl) ?_ (fun x w hw _ => ?_) ?_; rotate_left; (focus (have hc := hw.cells; clear hw; go_simp; first | done | rfl)); simp only [Act.put, List.setIfInBounds_toArray, List.set_cons_zero, List.set_cons_succ]))
            refine HavG.any (fun _ => rfl) (WayO N w px py er la) (fun _ _ _ hg h => WayO.keep hg h) (fun x u hw hd => ?_) ?_
            · have HC := Lib.hid (RWays_all N HS.out HKK.out w hw7 px py u _ _ _ _ _ (.slice wa w.length wc) (HR.out u (HGW.out.trans hw)) (HT7.out u (HGW.out.trans hw)))
              clear hd hw
              go_simp
              refine HC.out.mono ?_
              rintro e u2 ⟨v, rfl, hr, hg⟩
              exact ⟨hg, wayO_of HER.out.1 HER.out.2 hr⟩
            simp only [Act.put, List.setIfInBounds_toArray, List.set_cons_zero, List.set_cons_succ]
            refine HavG.any (fun _ => rfl) (WayO N w px py er la) (fun _ _ _ hg h => WayO.keep hg h) (fun x u hw hd => ?_) ?_
            · have h7 := hd _ (List.mem_append_right _ (List.mem_singleton.2 rfl)) (by kernel_rfl)
              dsimp only at h7
              clear hd hw
              generalize x (0 + 1 + 1 + 1 + 1 + 1 + 1 + 1 + 1 + 1 + 1 + 1 + 1) = y7 at *
              have H7 := Lib.hid h7
              clear h7
              go_simp
              exact ⟨Grew.refl _, H7.out⟩
            simp only [Act.put, List.setIfInBounds_toArray, List.set_cons_zero, List.set_cons_succ]
            refine HavG.any (fun _ => rfl) (WayX N w px py la) (fun _ _ _ hg h => WayX.keep hg h) (fun x u hw hd => ?_) ?_
            · have h8 := hd _ (List.mem_append_right _ (List.mem_singleton.2 rfl)) (by kernel_rfl)
              dsimp only at h8
              clear hd hw
              generalize x (0 + 1 + 1 + 1 + 1 + 1 + 1 + 1 + 1 + 1 + 1 + 1 + 1 + 1) = y8 at *
              obtain ⟨xx, rfl, ho⟩ := h8
              have HO := Lib.hid ho
              clear ho
              go_simp
              exact ⟨Grew.refl _, HO.out⟩
            simp only [Act.put, List.setIfInBounds_toArray, List.set_cons_zero, List.set_cons_succ]
            refine HavG.det (fun _ => rfl) (.int .i64 er) (fun x u hw hd => ?_) ?_
            · have h8 := hd _ (List.mem_append_left _ (List.mem_append_right _ (List.mem_singleton.2 rfl))) (by kernel_rfl)
              dsimp only at h8
              clear hd hw
              generalize x (0 + 1 + 1 + 1 + 1 + 1 + 1 + 1 + 1 + 1 + 1 + 1 + 1 + 1) = y8 at *
              obtain ⟨xx, rfl, ho⟩ := h8
              clear ho
              go_simp
              exact Grew.refl _
            simp only [Act.put, List.setIfInBounds_toArray, List.set_cons_zero, List.set_cons_succ]
            refine HavG.any (fun _ => rfl) (WayX N w px py la) (fun _ _ _ hg h => WayX.keep hg h) (fun x u hw hd => ?_) ?_
            · have h8 := hd _ (List.mem_append_right _ (List.mem_singleton.2 rfl)) (by kernel_rfl)
              dsimp only at h8
              clear hd hw
              generalize x (0 + 1 + 1 + 1 + 1 + 1 + 1 + 1 + 1 + 1 + 1 + 1 + 1 + 1 + 1) = y9 at *
              have H8 := Lib.hid h8
              clear h8
              go_simp
              exact ⟨Grew.refl _, H8.out⟩
            simp only [Act.put, List.setIfInBounds_toArray, List.set_cons_zero, List.set_cons_succ]
            refine HavG.tail (by kernel_rfl) (by kernel_rfl) (fun x wa2 hw hx => ?_)
            have hx8 := hx _ (List.mem_append_right _ (List.mem_singleton.2 rfl))
            clear hx
            dsimp only at hx8
            generalize x (0 + 1 + 1 + 1 + 1 + 1 + 1 + 1 + 1 + 1 + 1 + 1 + 1 + 1 + 1 + 1 + 1) = y11 at *
            generalize x (0 + 1 + 1 + 1 + 1 + 1 + 1 + 1 + 1 + 1 + 1 + 1 + 1 + 1 + 1) = y9 at *
            generalize x (0 + 1 + 1 + 1 + 1 + 1 + 1 + 1 + 1 + 1 + 1 + 1 + 1 + 1) = y8 at *
            generalize x (0 + 1 + 1 + 1 + 1 + 1 + 1 + 1 + 1 + 1 + 1 + 1 + 1) = y7 at *
            obtain ⟨ca, cc, rfl, hcc⟩ := hx8
            have HBB := Lib.hid hcc
            have HBA := Lib.hid (HBA.out.keep hw)
            have HGW := Lib.hid (HGW.out.trans hw)
            have HFL := Lib.hid (Flags13_ok la hla9 _ wa2 _ _ HBA.out HBB.out)
            clear hw hcc
            go_wp2_with fail
            refine HFL.out.mono ?_
            rintro e wf ⟨rfl, hgf⟩
            have HGF := Lib.hid (HGW.out.trans hgf)
            clear hgf
            go_wp2_with fail
            exact ⟨⟨j + 1, by go_num, by omega, HGF.out⟩, by simp [intOf]; omega⟩
          · obtain rfl : j = S := by omega
            go_wp2_with fail
            clear d0 d1 d2 d3 d4 dl hbn
            obtain ⟨wo, rfl⟩ : ∃ wo : World, wo = wr := ⟨_, rfl⟩
            go_loopw [13] (fun i wr => ∃ (q : Nat), i = .int .i64 q ∧ q ≤ D ∧ Hid (Grew w7 wr)) (fun i _ => D - (intOf i).toNat)
            case atStart => exact ⟨0, rfl, Nat.zero_le _, HGW.out⟩
            case round =>
              clear HGW
              obtain ⟨q, rfl, hq, HGW⟩ := hrel
              have hbn := HBN.out wr HGW.out
              have d0 := hbn.cell_at (i := 0) rfl
              have d4 := hbn.cell_at (i := 4) rfl
              have dl := hbn.lt
              by_cases hlt2 : q < D ∧ q < 6
              · as_aux_lemma =>
                obtain ⟨hqD, hq6⟩ := hlt2
                have hq6i : (q : Int) < 6 := by omega
                have hnet := HN7.out wr HGW.out
                obtain ⟨z1, z2, hz, hzd⟩ := hnet.decisions
                simp only [Value.slice.injEq] at hz
                obtain ⟨rfl, -, -⟩ := hz
                have hqd : q < N.decisions.length := by rw [HDN.out]; exact hqD
                obtain ⟨db, dof, rfl, hdl, hdc⟩ := hzd q hqd
                obtain ⟨x, hxs, hxx⟩ := HDEC.out _ (List.getElem_mem hqd)
                rw [hxx] at hdc
                obtain ⟨z3, z4, hz, hzs⟩ := hnet.states
                simp only [Value.slice.injEq] at hz
                obtain ⟨rfl, -, -⟩ := hz
                obtain ⟨tb, tof, rfl, htl, -, ⟨ea, ec, he1, -⟩, -⟩ := hzs x hxs
                obtain ⟨el, hel⟩ : ∃ el, N.states[x].edges.length = el := ⟨_, rfl⟩
                rw [hel] at he1
                obtain ⟨sn, hsn⟩ : ∃ sn, N.states.length = sn := ⟨_, rfl⟩
                rw [hsn] at hxs d0
                have hge : decide ((sn : Int) ≤ (x : Int)) = false := decide_eq_false (by omega)
                have hx0 : decide ((x : Int) < 0) = false := decide_eq_false (by omega)
                have hel9 : el ≤ 4000 := by rw [← hel]; exact HS.out.edges _ (List.getElem_mem _)
                have HSNN := Lib.hid hsn
                have HEL := Lib.hid hel
                have HTL := Lib.hid htl
                have HE1 := Lib.hid he1
                have HD0 := Lib.hid d0
                have HDL := Lib.hid dl
                obtain ⟨wo2, rfl⟩ : ∃ wo2 : World, wo2 = wr := ⟨_, rfl⟩
                clear hnet hzd hxx hzs hqd hel hsn hbn
                go_wp2_with fail
                clear d0 d4 dl hdc hdl he1 htl
                go_loopw [15] (fun i wr => ∃ (kx : Nat), i = .int .i64 kx ∧ kx ≤ el ∧ Hid (Grew w7 wr)) (fun i _ => el - (intOf i).toNat)
                case atStart => exact ⟨0, rfl, Nat.zero_le _, HGW.out⟩
                case round =>
                  clear HGW
                  obtain ⟨kx, rfl, hkx, HGW⟩ := hrel
                  have hbn := HBN.out wr HGW.out
                  have d0 := hbn.cell_at (i := 0) rfl
                  have d1 := hbn.cell_at (i := 1) rfl
                  have d2 := hbn.cell_at (i := 2) rfl
                  have d3 := hbn.cell_at (i := 3) rfl
                  have d4 := hbn.cell_at (i := 4) rfl
                  have dl := hbn.lt
                  have hnet := HN7.out wr HGW.out
                  obtain ⟨z3, z4, hz, hzs⟩ := hnet.states
                  simp only [Value.slice.injEq] at hz
                  obtain ⟨rfl, -, -⟩ := hz
                  have hxs2 : x < N.states.length := by rw [HSNN.out]; exact hxs
                  obtain ⟨tb2, tof2, hta, htl, -, ⟨ea2, ec2, he1, -⟩, -⟩ := hzs x hxs2
                  simp only [Option.some.injEq, Addr.mk.injEq, and_true] at hta
                  obtain ⟨rfl, rfl⟩ := hta
                  rw [HEL.out] at he1
                  have hxsn : x < N.states.length := hxs2
                  by_cases hlt3 : kx < el
                  · as_aux_lemma =>
                    obtain ⟨av, hav⟩ : ∃ av, alongV N w x kx = av := ⟨_, rfl⟩
                    have HAV := Lib.hid hav
                    have hbr := HBR.out wr HGW.out
                    have r0 := hbr.cell_at (i := 0) rfl
                    have r1 := hbr.cell_at (i := 1) rfl
                    have r2 := hbr.cell_at (i := 2) rfl
                    have r3 := hbr.cell_at (i := 3) rfl
                    have r4 := hbr.cell_at (i := 4) rfl
                    have rl := hbr.lt
                    clear hav hbr hbn hnet hzs
                    go_wp2_with fail
                    refine wp_region_hav_lit follows (by kernel_rfl) ?_
                    iterate 4 (first
                      | (refine HavG.skip (fun _ => rfl) ?_; simp only [Act.put, List.setIfInBounds_toArray, List.set_cons_zero, List.set_cons_succ])
                      | (refine HavG.val (fun _ => rfl) ?_ (fun x w hw _ => ?_) ?_; rotate_left; (focus (have hc := hw.cells; clear hw; go_simp; first | done | rfl)); simp only [Act.put, List.setIfInBounds_toArray, List.set_cons_zero, List.set_cons_succ]))
                    refine HavG.det (fun _ => rfl) (.bool av) (fun x9 u hw _ => ?_) ?_
                    · have HC := Lib.hid (Along_all N HS.out w hw7 x kx u _ _ _ _ _ (.slice wa w.length wc) (HN7.out u (HGW.out.trans hw)) (HT7.out u (HGW.out.trans hw)))
                      clear hw
                      go_simp
                      refine HC.out.mono ?_
                      rintro e u2 ⟨rfl, hg⟩
                      rw [HAV.out]
                      exact ⟨rfl, hg⟩
                    simp only [Act.put, List.setIfInBounds_toArray, List.set_cons_zero, List.set_cons_succ]
                    iterate 4 (first
                      | (refine HavG.skip (fun _ => rfl) ?_; simp only [Act.put, List.setIfInBounds_toArray, List.set_cons_zero, List.set_cons_succ])
                      | (refine HavG.val (fun _ => rfl) ?_ (fun x w hw _ => ?_) ?_; rotate_left; (focus (have hc := hw.cells; clear hw; go_simp; first | done | rfl)); simp only [Act.put, List.setIfInBounds_toArray, List.set_cons_zero, List.set_cons_succ]))
                    refine HavG.det (fun _ => rfl) (.bool av) (fun x9 u hw _ => ?_) ?_
                    · have HC := Lib.hid (RAlong_all N HS.out HKK.out w hw7 x kx u _ _ _ _ _ (.slice wa w.length wc) (HR.out u (HGW.out.trans hw)) (HT7.out u (HGW.out.trans hw)))
                      clear hw
                      go_simp
                      refine HC.out.mono ?_
                      rintro e u2 ⟨rfl, hg⟩
                      rw [HAV.out]
                      exact ⟨rfl, hg⟩
                    simp only [Act.put, List.setIfInBounds_toArray, List.set_cons_zero, List.set_cons_succ]
                    refine HavG.tail (by kernel_rfl) (by kernel_rfl) (fun x9 wt hw _ => ?_)
                    have HGF := Lib.hid (HGW.out.trans hw)
                    clear hw d0 d1 d2 d3 d4 dl r0 r1 r2 r3 r4 rl he1 htl
                    have hav2 : (av != av) = false := by cases av <;> rfl
                    go_wp2_with fail
                    exact ⟨⟨kx + 1, by go_num, by omega, HGF.out⟩, by simp [intOf]; omega⟩
                  · obtain rfl : kx = el := by omega
                    clear hbn hnet hzs
                    go_wp2_with fail
                    exact ⟨⟨q + 1, by go_num, by omega, HGW.out⟩, by simp [intOf]; omega⟩
              · have hor : ¬q < D ∨ (q < D ∧ ¬q < 6) := by omega
                rcases hor with h1 | ⟨h1, h2⟩
                · clear hlt2 hbn
                  go_wp2_with fail
                  refine (lives13_ok _).mono ?_
                  rintro e w9 ⟨rfl, hg9⟩
                  have HG9 := Lib.hid (HB7.out.trans (HGW.out.trans hg9))
                  clear hg9
                  go_wp2_with fail
                  go_ret
                  exact ⟨rfl, HG9.out⟩
                · clear hlt2 hbn
                  have h3 : decide ((q : Int) < 6) = false := decide_eq_false (by omega)
                  go_wp2_with fail
                  refine (lives13_ok _).mono ?_
                  rintro e w9 ⟨rfl, hg9⟩
                  have HG9 := Lib.hid (HB7.out.trans (HGW.out.trans hg9))
                  clear hg9
                  go_wp2_with fail
                  go_ret
                  exact ⟨rfl, HG9.out⟩
      · go_wp2_with fail
        refine (lives13_ok _).mono ?_
        rintro e w9 ⟨rfl, hg9⟩
        have HG9 := Lib.hid (HB5.out.trans hg9)
        clear hg9
        go_wp2_with fail
        go_ret
        exact ⟨rfl, HG9.out⟩
    · simp only [Array.mk.injEq, List.cons.injEq, and_true] at hnil
      obtain ⟨rfl, rfl, rfl, rfl, rfl⟩ := hnil
      have hkb : (k != 0) = true := by rcases hk with rfl | rfl <;> rfl
      obtain ⟨w4, hw4⟩ : ∃ w4, w3.alloc (.cells #[.slice none 0 0, .slice none 0 0, .slice none 0 0, .slice none 0 0, .slice none 0 0] 25) = w4 := ⟨_, rfl⟩
      have g4 : Grew w3 w4 := hw4 ▸ grew_alloc w3 _
      have o4 : Owns w4 w3.heap.size [.slice none 0 0, .slice none 0 0, .slice none 0 0, .slice none 0 0, .slice none 0 0] 25 := hw4 ▸ Owns.alloc w3 _ _
      have d0 := o4.cell_at (i := 0) rfl
      have d1 := o4.cell_at (i := 1) rfl
      have d2 := o4.cell_at (i := 2) rfl
      have d3 := o4.cell_at (i := 3) rfl
      have d4 := o4.cell_at (i := 4) rfl
      have dl := o4.lt
      have f0 := o4.free 0
      have f1 := o4.free 1
      have f2 := o4.free 2
      have f3 := o4.free 3
      have f4 := o4.free 4
      have hw3 : W.heap.size ≤ w3.heap.size := (HB2.out.trans hb3).size
      have HB4 := Lib.hid (grew_five ((HB2.out.trans hb3).trans g4) hw3 (.slice none 0 0) (.slice none 0 0) (.slice none 0 0) (.slice none 0 0) (.slice none 0 0))
      clear g4 hb3 hk o4 hw3 HGR HTOK HF HO1 HO2 HFA
      go_wp2_with fail
      refine (lives13_ok _).mono ?_
      rintro e w9 ⟨rfl, hg9⟩
      have HG9 := Lib.hid (HB4.out.trans hg9)
      clear hg9
      go_wp2_with fail
      go_ret
      exact ⟨rfl, HG9.out⟩
  · go_wp2_with (refine (lives13_ok _).mono ?_; rintro e w9 ⟨rfl, hg9⟩; have HG9 := Lib.hid (HB2.out.trans hg9); clear hg9)
    go_ret
    exact ⟨rfl, HG9.out⟩
end Go.Proofs.Ytgdcnndmdgcjlaa

/- The shutting of a row whose function leaves old memory as it was: what it answers, and that its arguments read as they did. -/
namespace Go.Proofs.Ytgdcnndmdgcjlaa
open Go.ChangeShapes Go.WideShapes Go.RowKit
section
variable {H : Type} {enc : TypeId × Value → H} {P : Program}
theorem post_below {f : Func} {s : ChangeSpec} {fresh handsOn again : Bool} {W W' : World} {args : Array Value} {v : Value} {ds gs : List (DataW H)} {before : List MemPlace} (hb : Below W.heap.size W W')
    (hW : DataW.Whole enc P f.params.toList s.vars false W args.toList ds gs before)
    (hres : ∀ (b : Nat) (sp : Nat → Bool) (hd : Bool), DataW.TrodAll enc P W' b sp hd f.resultTypes.toList (v.resultList f.resultTypes.size) (s.fn H (ds ++ gs)).results [])
    (hargs : ∀ sp : Nat → Bool, (∀ p ∈ before, sp p.block = true) → DataW.TrodAll enc P W' 0 sp true f.params.toList args.toList (s.fn H (ds ++ gs)).args before)
    (hvars : ∀ sp : Nat → Bool, DataW.TrodVars enc P W' sp s.vars (s.fn H (ds ++ gs)).vars [])
    (hok : ∀ (j : Nat) (t : TypeId) (r : Value), f.resultTypes[j]? = some t → (v.resultList f.resultTypes.size)[j]? = some r → Value.okWide P W' .any 0 t r) :
    s.post enc P f false fresh handsOn again W args v W' := by
  have hlt := hW.lt
  have hold : ∀ p ∈ before, (fun b => decide (b < W.heap.size)) p.block = true := fun p hp => by simpa using hlt p hp
  refine ⟨ds, gs, before, [], before, [], hW, hres _ _ _, hargs _ hold, hvars _, World.keptBut_mono (fun p hp => ⟨hp, Or.inr (Or.inl hp)⟩) (hb.frame _), fun _ => ?_⟩
  obtain ⟨_, _, _, _, _, hz, hn⟩ := hW
  refine ⟨hok, _, _, ([] ++ before) ++ [], ⟨[] ++ before, [], trodAll_append (hargs _ (fun _ _ => rfl)) (hres _ _ _), hvars _, rfl, ?_, fun h => (Bool.noConfusion h)⟩, ?_⟩
  · intro b off hp
    have hp' : MemPlace.cell b off ∈ before := by simpa using hp
    rw [hb.frozen (p := ⟨b, off, none⟩) (hlt _ hp')]
    exact hz b off hp'
  · intro p hp _
    simpa using hp
end
end Go.Proofs.Ytgdcnndmdgcjlaa

/- PathsGrammar's row: with any grammar and any tokens it answers true, and all read as they did. No conditions. -/
namespace Go.Proofs.Ytgdcnndmdgcjlaa
open Go.ChangeShapes Go.WideShapes Go.ChangeAt Go.RowKit
theorem gnown : ownKnob Try.prog.godebug = none := by kernel_rfl
theorem gnlaidOut : laidOutB Try.prog = true := by kernel_rfl
set_option maxRecDepth 20000 in
theorem toks_open {H : Type} {enc : TypeId × Value → H} {base : Nat} {spare : Nat → Bool} {held : Bool} {W : World} {v : Value} {d : DataW H} {ps : List MemPlace} {b0 : Nat} (hval : Value.okWide Try.prog W .any b0 23 v) (h : DataW.Trod enc Try.prog W base spare held 23 v d ps) (hw : Light Try.prog 23 d) :
    ∃ l : List Int, l.length ≤ reachN ∧ IntsV W W.heap.size v l := by
  obtain ⟨a, n, c, rfl⟩ := okWide_slice Try.underlying23 hval
  obtain ⟨fuel, h⟩ := h
  obtain ⟨a0, k0, l0, e0, n0, q0⟩ := pints_open h hw
  simp [Value.cells] at e0
  obtain ⟨rfl, rfl, rfl⟩ := e0
  exact ⟨l0, n0, _, _, rfl, q0⟩
set_option maxRecDepth 20000 in
theorem gram_contract (H : Type) (enc : TypeId × Value → H) (W : World) (base : Nat) (args : Array Value) (ds gs : List (DataW H)) (before : List MemPlace)
    (hval : ∀ (j : Nat) t v, Try.f5.params[j]? = some t → args[j]? = some v → Value.okWide Try.prog W .any base t v)
    (hW : DataW.Whole enc Try.prog Try.f5.params.toList Rows.pathsGrammarSpec.vars false W args.toList ds gs before)
    (hL : (DataW.weightsEach Try.prog (Try.f5.params.toList ++ Rows.pathsGrammarSpec.plain.varTypes Try.prog) (ds ++ gs)).all (· ≤ reachBytes) = true) :
    Calls Try.prog 5 args W fun e W' => ∃ v, e = .returned v ∧ Rows.pathsGrammarSpec.post enc Try.prog Try.f5 false true false false W args v W' := by
  have hW' := hW
  obtain ⟨p, q, hA0, hV, rfl, hfz, hnd⟩ := hW
  have hA : DataW.TrodAll enc Try.prog W 0 (fun _ => true) true Try.f5.params.toList args.toList ds p := hA0
  rw [Try.params5] at hA hval hL
  obtain ⟨v0, v1, d0, d1, p0, p1, rfl, rfl, rfl, h0, h1⟩ := trodAll_two hA
  obtain ⟨rfl, rfl⟩ := trodVars_none hV
  have hL' : ∀ i t d, (#[57, 23] : Array TypeId).toList[i]? = some t → ([d0, d1] : List _)[i]? = some d → Light Try.prog t d := fun i t d ht hd => by
    simp only [List.all_eq_true, decide_eq_true_eq] at hL
    exact light_each ((#[57, 23] : Array TypeId).toList ++ Rows.pathsGrammarSpec.plain.varTypes Try.prog) ([d0, d1] ++ []) hL i t d (by rw [List.getElem?_append_left (by have := (List.getElem?_eq_some_iff.1 ht).1; exact this)]; exact ht) (by rw [List.append_nil]; exact hd)
  have h0k := h0
  have h1k := h1
  obtain ⟨x0, x1, x2, x3, g, rfl, hG⟩ := gr_open (hval 0 57 v0 rfl rfl) h0 (hL' 0 _ _ rfl rfl)
  obtain ⟨l, hl, hwv⟩ := toks_open (hval 1 23 v1 rfl rfl) h1 (hL' 1 _ _ rfl rfl)
  clear hA0
  simp only [List.append_nil] at hW'
  refine (gram_ok g l hl W x0 x1 x2 x3 v1 hG hwv).mono fun e W' ⟨he, hb⟩ => ?_
  subst he
  have hlt := hW'.lt
  refine ⟨_, rfl, post_below hb hW' (fun _ _ _ => trodAll_cons_mk (shut_bool Try.underlying4 _) trodAll_mk0) (fun sp hsp => ?_) (fun _ => rfl) (ok_one (by kernel_rfl) rfl (okWide_bool_mk Try.underlying4 _))⟩
  have h3 := trodAll_mk2 (WideElems.Trod_stays gnlaidOut (by kernel_rfl) (of_decide_eq_true (by kernel_rfl)) h0k (fun y hy => hb.same (hlt y (by simp [hy]))) (fun y hy => hsp y (by simp [hy])))
    (WideElems.Trod_stays gnlaidOut (by kernel_rfl) (of_decide_eq_true (by kernel_rfl)) h1k (fun y hy => hb.same (hlt y (by simp [hy]))) (fun y hy => hsp y (by simp [hy])))
  first
    | exact h3
    | (simp only [List.append_nil, List.append_assoc] at h3 ⊢; exact h3)
    | (rw [List.append_assoc]; simpa using h3)
set_option maxRecDepth 100000 in
theorem gram_lifted (os : Os) (started : os.Started) (H : Type) (enc : TypeId × Value → H) :
    ReturnsInHanded {} Try.checked os 5 .any (Rows.pathsGrammarSpec.pre6 enc Try.prog Try.f5 Rows.pathsGrammarRow.domain false) (Rows.pathsGrammarSpec.post enc Try.prog Try.f5 false true false false) := by
  refine returnsInHanded_of_change_sized (C := Try.checked) gnown started (by kernel_rfl) Try.func5
    (ChangeSpec.witness6 (enc := enc) (C := Try.checked) false ⟨#[], #[.agg #[.string .empty, .int .i64 0, .int .i64 0, .slice none 0 0], .slice none 0 0], []⟩ 8 (by kernel_rfl) (by kernel_rfl) (by kernel_rfl) (by kernel_rfl)) ?_
  intro W base args ds gs before hval hW _ hL _
  exact gram_contract H enc W base args ds gs before hval hW hL
theorem pathsGrammar_said : Rows.PathsGrammarSaid :=
  OpenClaim.holds_of_wide 5 Try.f5 rfl rfl rfl rfl rfl rfl rfl ⟨rfl, rfl, rfl, rfl, rfl⟩ rfl rfl rfl rfl rfl (by kernel_rfl) Try.func5 (by kernel_rfl)
    (of_decide_eq_true (by kernel_rfl)) (by unfold Func.isWrapper; first | (rw [if_pos (by decide +kernel)]; kernel_rfl) | (rw [if_neg (by decide +kernel)]; exact ⟨rfl, rfl⟩))
    (fun os started H enc _ => gram_lifted os started H enc)
end Go.Proofs.Ytgdcnndmdgcjlaa
