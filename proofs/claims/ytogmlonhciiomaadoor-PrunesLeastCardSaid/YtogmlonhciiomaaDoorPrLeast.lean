/- prunes.Least, walked whole. -/
import Derived.Test.YtogmlonhciiomaaDoorPrNum
namespace Go.Proofs.YtogmlonhciiomaaDoor
open Go.RowKit

theorem wp_scope_still {P : Program} {a : Act} {w : World} {Q : Exit → Act → World → Prop} {c : Code} (l : Nat) (hl : (findLabel c l).isSome = true) (first : c.wp P (Exit.jump l (fun _ _ => False) Q) a w) : (Code.scope c).wp P Q a w := by
  obtain ⟨rest, hf⟩ := Option.isSome_iff_exists.1 hl
  exact wp_scope_jumps l _ (fun _ _ => 0) hf first (fun _ _ h => h.elim)
theorem two_ok {fn : Func} {P : Program} {p u : Tmp} {ty : TypeId} (h : fn.results = #[.cell p ty, .tmp u]) (tmps : Array Value) (w : World) (g : Nat) (t : TypeId) (cs : Array Value) (fr : Nat × Nat) (d : TypeDesc)
    (hp : tmps.getD p undef = .pointer (some ⟨g, 0, none⟩)) (hg : w.heap[g]? = some (.cells cs t fr)) (hu : P.underlying ty = some d) (hd : (match d with | .struct _ | .array _ _ => true | _ => false) = true) (hi : (P.info? ty).map (·.size) = some cs.size) :
    (results fn tmps).run P w = .ok (.tuple #[.agg cs, tmps.getD u undef]) w := by
  rw [results_cell_tmp h, hp]
  simp [asAddr, run_loadVar_row w g t ty cs fr d hg hu hd hi]

theorem mild_of_may {a : Aut} {al tk : Int} (h : a.mayB al tk = true) (hal : al ≤ 1000000) (htk : tk ≤ 1000000) (ha : a.Few) (es : List Bool) : ∀ s ∈ a.trim es, s.Mild (a.trim es).length := by
  intro s hs
  simp only [Aut.trim, List.mem_map] at hs
  obtain ⟨r, hr, rfl⟩ := hs
  have hlen : (a.trim es).length = a.length := by simp [Aut.trim]
  have h2 := h
  simp only [Aut.mayB, Bool.and_eq_true, List.all_eq_true] at h2
  have hf := h2.2 r hr
  simp only [Stt.fineB, Bool.and_eq_true, List.all_eq_true, decide_eq_true_eq] at hf
  obtain ⟨⟨⟨f1, f2⟩, f3⟩, f4⟩ := hf
  have r1 := (riseB_iff _ _ _).1 f2
  have r2 := (riseB_iff _ _ _).1 f3
  refine ⟨?_, fun x hx => ?_, fun e he => ?_, fun e he => ?_, ha.alts r hr, Nat.le_trans (List.length_filter_le _ _) (ha.edges r hr)⟩
  · split at f4
    · rename_i e; simp only [e]; omega
    · split at f4
      · rename_i e; simp only [e]; omega
      · split at f4
        · rename_i e; simp only [e]; omega
        · simp only [Bool.and_eq_true, beq_iff_eq] at f4
          have := f4.1.1
          simp only [this]; omega
  · have := r1.1 x hx; omega
  · have := r2.1 e.tok (List.mem_map_of_mem (List.mem_filter.1 he).1); omega
  · have := f1 e (List.mem_filter.1 he).1
    rw [hlen]
    exact ⟨e.tgt.toNat, by omega, by omega⟩
theorem Aut.Few.trim {a : Aut} (ha : a.Few) (es : List Bool) : (a.trim es).Few := by
  refine ⟨by simpa [Aut.trim] using ha.states, fun s hs => ?_, fun s hs => ?_⟩
  · simp only [Aut.trim, List.mem_map] at hs
    obtain ⟨r, hr, rfl⟩ := hs
    exact ha.alts r hr
  · simp only [Aut.trim, List.mem_map] at hs
    obtain ⟨r, hr, rfl⟩ := hs
    exact Nat.le_trans (List.length_filter_le _ _) (ha.edges r hr)

/-- what Least gives -/
def LeastIs (a : Aut) (al tk : Int) (W : World) (e : Ending) (W' : World) : Prop := ∃ (v : Value) (k : Int), e = .returned (.tuple #[.agg #[v], .int .i64 k]) ∧ Grew W W' ∧
  ((a.mayB al tk = false ∧ k = 1 ∧ v = .slice none 0 0) ∨ (a.mayB al tk = true ∧ k = 0 ∧ ∃ x, IsLeast a x ∧ AutV .u8 W' W'.heap.size v x))
/-- what Least gives, with its rows: they are the call's own -/
def LeastRows (a : Aut) (al tk : Int) (W : World) (e : Ending) (W' : World) : Prop := ∃ (v : Value) (k : Int), e = .returned (.tuple #[.agg #[v], .int .i64 k]) ∧ Grew W W' ∧
  ((a.mayB al tk = false ∧ k = 1 ∧ v = .slice none 0 0) ∨ (a.mayB al tk = true ∧ k = 0 ∧ ∃ x vs, IsLeast a x ∧ looseRow W' W.heap.size 51 3 v x.length (triVs vs) ∧ RowsIn W.heap.size W' vs x))

set_option maxHeartbeats 4000000 in
set_option maxRecDepth 20000 in
theorem pleast_rows (a : Aut) (ha : a.Few) (al tk : Int) (hal : al ≤ 1000000) (htk : tk ≤ 1000000) (W : World) (hT : Tab W) (v : Value) (hA : AutV .u8 W W.heap.size v a) :
    Calls Tryd.prog 18 #[.agg #[v], .int .i64 al, .int .i64 tk] W (LeastRows a al tk W) := by
  have hA2 := hA
  obtain ⟨ad, cap, rfl, hcap, hA⟩ := hA
  have hn := ha.states
  obtain ⟨w1, hw1⟩ : ∃ w1, W.alloc (.cells #[.slice ad a.length cap] 24) = w1 := ⟨_, rfl⟩
  obtain ⟨w2, hw2⟩ : ∃ w2, w1.alloc (.cells #[.slice none 0 0] 24) = w2 := ⟨_, rfl⟩
  have z1 : w1.heap.size = W.heap.size + 1 := by rw [← hw1]; simp
  have g1 : Grew W w1 := hw1 ▸ grew_alloc W _
  have g2 : Grew w1 w2 := hw2 ▸ grew_alloc w1 _
  have o1 : Owns w2 W.heap.size [.slice ad a.length cap] 24 := (hw1 ▸ Owns.alloc W _ _ : Owns w1 W.heap.size [.slice ad a.length cap] 24).keep g2
  have o2 : Owns w2 (W.heap.size + 1) [.slice none 0 0] 24 := z1 ▸ hw2 ▸ Owns.alloc w1 _ _
  have hG := g1.trans g2
  have HM := Lib.hid (pMay_ok a ha (by unfold reachN; omega) al tk hal htk w2 _ (hA2.grew hG))
  have c1 := o1.cell_at (i := 0) rfl
  have HG := Lib.hid hG
  have HO1 := Lib.hid o1
  have HO2 := Lib.hid o2
  have HA := Lib.hid hA2
  have HT := Lib.hid hT
  clear g1 g2 o1 o2 hG hA hA2 hT hcap
  obtain ⟨mb, hmb⟩ : ∃ mb, a.mayB al tk = mb := ⟨_, rfl⟩
  rw [hmb] at HM
  have HMB := Lib.hid hmb
  clear hmb
  go_enter Tryd.func18, Tryd.ntmps18
  go_wp2_with fail
  refine wp_scope_still 0 (by kernel_rfl) ?_
  go_wp2_with fail
  refine HM.out.mono ?_
  rintro e w3 ⟨rfl, hb3⟩
  have o13 := HO1.out.keep hb3
  have o23 := HO2.out.keep hb3
  have HG3 := Lib.hid (HG.out.trans hb3)
  have d1 := o13.cell_at (i := 0) rfl
  have d2 := o23.cell_at (i := 0) rfl
  have f2 := o23.free 0
  have HO13 := Lib.hid o13
  have HO23 := Lib.hid o23
  clear c1 HM HO1 HO2 HG o13 o23 hb3
  cases mb
  · obtain ⟨w4, hw4⟩ : ∃ w4, w3.setCell ⟨W.heap.size + 1, 0, none⟩ (.slice none 0 0) = w4 := ⟨_, rfl⟩
    have o4 : Owns w4 (W.heap.size + 1) [.slice none 0 0] 24 := hw4 ▸ HO23.out.set 0 _
    have HG4 := Lib.hid (show Grew W w4 by rw [← hw4]; exact Below.setCell HG3.out (by show W.heap.size ≤ W.heap.size + 1; omega) _)
    have HO4 := Lib.hid o4
    clear o4
    go_wp2_with fail
    change bodyPost Tryd.prog Tryd.f18 (LeastRows a al tk W) Exit.ret _ _
    refine bodyPost_ret (two_ok (d := Tryd.prog.underlying 24 |>.getD default) rfl _ _ (W.heap.size + 1) 24 _ (0, 0) rfl HO4.out rfl rfl rfl) rfl ?_
    exact ⟨_, _, rfl, HG4.out, .inl ⟨HMB.out, rfl, rfl⟩⟩
  · have hok := okay_of_may HMB.out
    have h1 : 1 ≤ a.length := by
      have := HMB.out
      simp only [Aut.mayB, Bool.and_eq_true, decide_eq_true_eq] at this
      exact this.1.1
    have HOK := Lib.hid hok
    have HAL := Lib.hid (palive_ok a ha hok.tgt w3 _ (HA.out.grew HG3.out))
    go_wp2_with fail
    refine HAL.out.mono ?_
    rintro e w4 ⟨ob, es, rfl, hob, hes, hlive, hge, hb4⟩
    have hne : 0 < es.length := by omega
    have k0 : w4.cell? ⟨ob, 0, none⟩ = some (.bool es[0]) := hob.cell_at (by simp [hne])
    have hx : es.getD 0 false = es[0] := by simp [List.getD, hne]
    obtain ⟨lv, hlv⟩ : ∃ lv, es[0] = lv := ⟨_, rfl⟩
    rw [hlv] at k0 hx
    have HLV := Lib.hid hx
    have HLI := Lib.hid hlive
    have HES := Lib.hid hes
    have HOB := Lib.hid hob
    have HG4 := Lib.hid (HG3.out.trans hb4)
    have HO14 := Lib.hid (HO13.out.keep hb4)
    have HO24 := Lib.hid (HO23.out.keep hb4)
    have h0' : (0 : Int) < (a.length : Int) := by omega
    clear hx hlv hlive hes hob hb4 hne d1 d2 f2 HAL HO13 HO23 hw1 hw2 z1
    cases lv
    · obtain ⟨w5, hw5⟩ : ∃ w5, w4.alloc (.cells #[.int .u8 2, .slice none 0 0, .slice none 0 0] 51) = w5 := ⟨_, rfl⟩
      have g5 : Grew w4 w5 := hw5 ▸ grew_alloc w4 _
      have o5 : Owns w5 w4.heap.size [.int .u8 2, .slice none 0 0, .slice none 0 0] 51 := hw5 ▸ Owns.alloc w4 _ _
      have o2 := HO24.out.keep g5
      have q0 := o2.cell_at (i := 0) rfl
      have q1 := o2.free 0
      obtain ⟨w6, hw6⟩ : ∃ w6, w5.setCell ⟨W.heap.size + 1, 0, none⟩ (.slice (some ⟨w4.heap.size, 0, none⟩) 1 1) = w6 := ⟨_, rfl⟩
      have o6 : Owns w6 (W.heap.size + 1) [.slice (some ⟨w4.heap.size, 0, none⟩) 1 1] 24 := hw6 ▸ o2.set 0 _
      have hlt2 := HO24.out.lt
      have o56 : Owns w6 w4.heap.size [.int .u8 2, .slice none 0 0, .slice none 0 0] 51 := hw6 ▸ o5.other (a := ⟨W.heap.size + 1, 0, none⟩) (by simp; omega) _
      have HG6 := Lib.hid (show Grew W w6 by rw [← hw6]; exact Below.setCell (HG4.out.trans g5) (by show W.heap.size ≤ W.heap.size + 1; omega) _)
      have HA6 : Hid (looseRow w6 W.heap.size 51 3 (.slice (some ⟨w4.heap.size, 0, none⟩) 1 1) 1 (triVs [(.int .u8 2, .slice none 0 0, .slice none 0 0)]) ∧ RowsIn W.heap.size w6 [(.int .u8 2, .slice none 0 0, .slice none 0 0)] [⟨2, [], []⟩]) := Lib.hid (by
        refine ⟨⟨rfl, .inr ⟨_, 1, _, rfl, by have := HG4.out.size; omega, o56, Nat.le_refl _, by unfold maxLen; omega, by simp, by simp [triVs, triF]⟩⟩, rfl, fun k hk hk' => ?_⟩
        have hk0 : k = 0 := by simpa using hk
        subst hk0
        exact ⟨rfl, ⟨rfl, .inl ⟨rfl, rfl⟩⟩, ⟨rfl, .inl ⟨rfl, rfl⟩⟩⟩)
      have HO6 := Lib.hid o6
      clear g5 o5 o2 o6 o56 hlt2
      go_wp2_with fail
      change bodyPost Tryd.prog Tryd.f18 (LeastRows a al tk W) Exit.ret _ _
      refine bodyPost_ret (two_ok (d := Tryd.prog.underlying 24 |>.getD default) rfl _ _ (W.heap.size + 1) 24 _ (0, 0) rfl HO6.out rfl rfl rfl) rfl ?_
      refine ⟨_, _, rfl, HG6.out, .inr ⟨HMB.out, rfl, _, _, .inl ⟨?_, rfl⟩, HA6.out.1, HA6.out.2⟩⟩
      intro hl
      have := (HLI.out 0).2 hl
      rw [HLV.out] at this
      cases this
    · have HL0 : Hid (a.Live 0) := Lib.hid ((HLI.out 0).1 HLV.out)
      have HED := Lib.hid (pedges_ok a ha h1 HOK.out.tgt w4 W.heap.size HG4.out.size _ (HA.out.keep HG4.out) es HES.out ob HOB.out)
      have e1 := HO14.out.cell_at (i := 0) rfl
      go_wp2_with fail
      refine HED.out.mono ?_
      rintro e w5 ⟨tv, rfl, hst, hb5⟩
      obtain ⟨ta, tn, tc, rfl⟩ : ∃ ta tn tc, tv = .slice ta tn tc := by obtain ⟨x, y, h, _⟩ := hst.now; exact ⟨_, _, _, h⟩
      have e15 := (HO14.out.keep hb5).cell_at (i := 0) rfl
      have f15 := (HO14.out.keep hb5).free 0
      obtain ⟨w6, hw6⟩ : ∃ w6, w5.setCell ⟨W.heap.size, 0, none⟩ (.slice ta tn tc) = w6 := ⟨_, rfl⟩
      have hA6 : AutV .u8 w6 w6.heap.size (.slice ta tn tc) (a.trim es) := by
        rw [← hw6]
        exact hst _ (But.set (a := ⟨W.heap.size, 0, none⟩) ⟨Nat.le_refl _, HO14.out.lt⟩ _)
      have o1 : Owns w6 W.heap.size [.slice ta tn tc] 24 := hw6 ▸ (HO14.out.keep hb5).set 0 _
      have o2 : Owns w6 (W.heap.size + 1) [.slice none 0 0] 24 := hw6 ▸ (HO24.out.keep hb5).other (a := ⟨W.heap.size, 0, none⟩) (by simp) _
      have hg6 : Grew W w6 := by rw [← hw6]; exact Below.setCell (HG4.out.trans hb5) (Nat.le_refl _) _
      have htl : (a.trim es).length = a.length := by simp [Aut.trim]
      have htn : tn = a.length := by obtain ⟨x, y, h, _⟩ := hA6; simp only [Value.slice.injEq] at h; omega
      subst htn
      obtain ⟨w7, hw7⟩ : ∃ w7, w6.alloc (.cells (List.replicate a.length (.int .i64 0)).toArray 3) = w7 := ⟨_, rfl⟩
      have g7 : Grew w6 w7 := hw7 ▸ grew_alloc w6 _
      have hms := pmake_part a.length (by omega) w6
      rw [hw7] at hms
      have y0 := o1.cell_at (i := 0) rfl
      have HTR := Lib.hid (trim_of HLI.out)
      have HPT := Lib.hid (Part.start (t := a.trim es) (by omega))
      have HIV : Hid (IntsV w7 w7.heap.size (.slice (some ⟨w6.heap.size, 0, none⟩) a.length a.length) (partL (List.replicate (a.trim es).length 0))) := Lib.hid (by
        have ho : Owns w7 w6.heap.size ((partL (List.replicate (a.trim es).length 0)).map (Value.int .i64)) 3 := by
          have : (partL (List.replicate (a.trim es).length 0)).map (Value.int .i64) = List.replicate a.length (.int .i64 0) := by simp [partL, htl]
          rw [this, ← hw7]
          exact Owns.alloc w6 _ _
        have hl : (partL (List.replicate (a.trim es).length 0)).length = a.length := by simp [partL, htl]
        have := ints_of_owns ho (c := a.length) (by omega)
        rwa [hl] at this)
      have HA7 := Lib.hid (hA6.grew g7)
      have HO17 := Lib.hid (o1.keep g7)
      have HO27 := Lib.hid (o2.keep g7)
      have HG7 := Lib.hid (hg6.trans g7)
      have HTL := Lib.hid htl
      clear hst hb5 hA6 o1 o2 hg6 g7 htl HED HO14 HO24 k0 h0' HG4
      go_wp2_with fail
      refine wp_label ?_
      go_wp2_with fail
      clear hms hw7 hw6 y0 e1 e15 f15
      go_loopw [9, 10] (fun pv m wr => ∃ (k M : Nat) (p : List Nat), m = .int .i64 M ∧ (∃ pa pc, pv = .slice pa a.length pc) ∧ Hid (IntsV wr wr.heap.size pv (partL p)) ∧ Hid (Part (a.trim es) k p M) ∧ Hid (Grew w7 wr)) (fun _ m _ => a.length - (intOf m).toNat)
      case atStart => exact ⟨0, 1, _, rfl, ⟨_, _, rfl⟩, HIV.out, HPT.out, Grew.refl _⟩
      case round =>
        obtain ⟨k, M, p, rfl, ⟨pa, pc, rfl⟩, HP, HPA, HGR⟩ := hrel
        have HAR := Lib.hid (HA7.out.grew HGR.out)
        have HO1R := Lib.hid (HO17.out.keep HGR.out)
        have HO2R := Lib.hid (HO27.out.keep HGR.out)
        have HGWR := Lib.hid (HG7.out.trans HGR.out)
        have hmost := HPA.out.most
        rw [HTL.out] at hmost
        have HPD := Lib.hid (pparted_ok (a.trim es) p HPA.out.len (by rw [HTL.out]; exact hn) (mild_of_may HMB.out hal htk ha es) (fun x hx => by
          obtain ⟨i, hi, rfl⟩ := List.mem_iff_getElem.1 hx
          have := HPA.out.lt i hi
          omega) wr (HT.out.keep HGWR.out) _ _ HP.out HAR.out)
        have q1 := HO1R.out.cell_at (i := 0) rfl
        go_wp2_with fail
        refine HPD.out.mono ?_
        rintro e w8 ⟨qb, qs, M', rfl, hqo, hpd, hqb, hb8⟩
        have hpart := HPA.out.next (HTR.out.inside HOK.out) hpd
        have hgrow := (HPA.out.grow hpart).1
        have hmost' := hpart.most
        rw [HTL.out] at hmost' ⊢
        have hqv : IntsV w8 w8.heap.size (.slice (some ⟨qb, 0, none⟩) a.length a.length) (partL qs) := by
          have hl : (partL qs).length = a.length := by simp [partL]; rw [hpd.len, HTL.out]
          have := ints_of_owns hqo (c := a.length) (by omega)
          rwa [hl] at this
        have HQV := Lib.hid hqv
        have HPT2 := Lib.hid hpart
        have HG8 := Lib.hid (HGR.out.trans hb8)
        by_cases hMM : M' = M
        · subst hMM
          have hL := isLeast_parts HOK.out HTR.out HL0.out HPA.out hpart
          have HL := Lib.hid hL
          have HO18 := HO1R.out.keep hb8
          have HO28 := Lib.hid (HO2R.out.keep hb8)
          have r1 := HO18.cell_at (i := 0) rfl
          have HN := Lib.hid (pnumbered_ok (a.trim es) (ha.trim es) (HTR.out.inside HOK.out) (by rw [HTL.out]; omega) qs hpd.len w8 _ _ HQV.out (HAR.out.grew hb8))
          have HG9 := Lib.hid (HG7.out.trans HG8.out)
          clear hqo hpd hpart hb8 hqv HPD hL HO18
          go_wp2_with fail
          refine HN.out.mono ?_
          rintro e w9 ⟨nv, nvs, rfl, hnv, hb9⟩
          obtain ⟨na, nn, nc, rfl⟩ : ∃ na nn nc, nv = .slice na nn nc := row_form hnv.1
          have o9 := HO28.out.keep hb9
          have r2 := o9.cell_at (i := 0) rfl
          have r3 := o9.free 0
          obtain ⟨w10, hw10⟩ : ∃ w10, w9.setCell ⟨W.heap.size + 1, 0, none⟩ (.slice na nn nc) = w10 := ⟨_, rfl⟩
          have o10 : Owns w10 (W.heap.size + 1) [.slice na nn nc] 24 := hw10 ▸ o9.set 0 _
          have hA10 : looseRow w10 w8.heap.size 51 3 (.slice na nn nc) (numM (a.trim es) (sameQ qs)).length (triVs nvs) ∧ RowsIn w8.heap.size w10 nvs (numM (a.trim es) (sameQ qs)) := by
            have hbut : But (fun k => k = W.heap.size + 1) w9 w10 := hw10 ▸ But.set (F := fun k => k = W.heap.size + 1) (a := ⟨W.heap.size + 1, 0, none⟩) rfl _
            have hlt8 := HO28.out.lt
            exact ⟨hbut.row hnv.1 fun k hk e => by have := (row_lt hnv.1 hk).1; omega, hnv.2.but hbut fun k hk e => by omega⟩
          have hA10 := And.intro (hA10.1.base (show W.heap.size ≤ w8.heap.size from HG9.out.size)) (hA10.2.base (show W.heap.size ≤ w8.heap.size from HG9.out.size))
          have HG10 := Lib.hid (show Grew W w10 by rw [← hw10]; exact Below.setCell (HG9.out.trans hb9) (by show W.heap.size ≤ W.heap.size + 1; omega) _)
          have HA10 := Lib.hid hA10
          have HO10 := Lib.hid o10
          clear hnv hb9 o9 o10 hA10
          go_wp2_with fail
          change bodyPost Tryd.prog Tryd.f18 (LeastRows a al tk W) Exit.ret _ _
          refine bodyPost_ret (two_ok (d := Tryd.prog.underlying 24 |>.getD default) rfl _ _ (W.heap.size + 1) 24 _ (0, 0) rfl HO10.out rfl rfl rfl) rfl ?_
          exact ⟨_, _, rfl, HG10.out, .inr ⟨HMB.out, rfl, _, _, HL.out, HA10.out.1, HA10.out.2⟩⟩
        · have t1 : ((M' : Int) == (M : Int)) = false := by simp; omega
          clear hqo hpd hpart hb8 hqv HPD
          go_wp2_with fail
          go_round
          case rel => exact ⟨k + 1, M', qs, rfl, ⟨_, _, rfl⟩, HQV.out, HPT2.out, HG8.out⟩
          case measure => simp [intOf]; omega
theorem LeastRows.least {a : Aut} {al tk : Int} {W : World} {e : Ending} {W' : World} (h : LeastRows a al tk W e W') : LeastIs a al tk W e W' := by
  obtain ⟨v, k, h1, h2, h3⟩ := h
  refine ⟨v, k, h1, h2, h3.imp id ?_⟩
  rintro ⟨h4, h5, x, vs, h6, h7, h8⟩
  exact ⟨h4, h5, x, h6, sts_of_row h7 h8.sts⟩
theorem pleast_ok (a : Aut) (ha : a.Few) (al tk : Int) (hal : al ≤ 1000000) (htk : tk ≤ 1000000) (W : World) (hT : Tab W) (v : Value) (hA : AutV .u8 W W.heap.size v a) :
    Calls Tryd.prog 18 #[.agg #[v], .int .i64 al, .int .i64 tk] W (LeastIs a al tk W) :=
  (pleast_rows a ha al tk hal htk W hT v hA).mono fun _ _ h => h.least
end Go.Proofs.YtogmlonhciiomaaDoor
