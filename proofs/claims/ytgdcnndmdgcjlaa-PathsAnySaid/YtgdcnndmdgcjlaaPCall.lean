/- paths.call: a rule is called, behind so many tokens, for somebody who waits. -/
import Derived.Test.YtgdcnndmdgcjlaaPCallA
import Derived.Test.YtgdcnndmdgcjlaaPReach
import Derived.Deep.DeepCutAuto
namespace Go.Proofs.Ytgdcnndmdgcjlaa
open Go.RowKit

/-- what is known when the call is there -/
structure CallAt (E : Env) (S : St) (W : World) (c : Nat × Nat) (v0 : Value) (s : Nat) (S3 : St) (wx : World) : Prop where
  rep : Rep E S3 wx
  inv : Inv E S3
  le : Le S S3
  frm : Frm S S3 W wx
  there : c ∈ S3.calls
  begun : Begun E S → Begun E S3
  opn : ∀ d i y, Opn S3 d i y → Opn S d i y
  box : Owns wx W.heap.size [v0, .int .i64 s] 149
  boxn : ¬S3.mine W.heap.size

set_option maxHeartbeats 2000000 in
set_option maxRecDepth 20000 in
theorem pcall_ok (E : Env) (hN : E.N.Ok) (wa : Option Addr) (wc : Nat) (hU : E.univ.length ≤ 1000000000000) (hwv : E.wv = .slice wa E.w.length wc) (S : St) (c : Nat × Nat) (κ : Key) (s : Nat) (W : World) (hR : Rep E S W) (hI : Inv E S) (hk : S.has κ)
    (hr : c.1 < E.N.starts.length ∧ c.2 ≤ E.w.length) (hsn : s < E.N.states.length) (hLc : Lv E.N E.w E.p0 E.over (some c) (E.N.start c.1, c.2))
    (hs : ∃ s' e, Lv E.N E.w E.p0 E.over κ (s', c.2) ∧ (κ = none → (s' : Int) ≠ E.over) ∧ e ∈ E.N.edges s' ∧ e.kind = 2 ∧ e.what.toNat = c.1 ∧ e.to.toNat = s) (hB : Laid E W) :
    Calls Try.prog 68 #[ptrV (S.loc .srch), .int .i64 c.1, .int .i64 c.2, .agg #[ptrV (S.loc (.walk κ)), .int .i64 s]] W fun e W' => (∃ v, e = .returned v) ∧ ∃ S', Rep E S' W' ∧ Frm S S' W W' ∧ Called E S S' c (κ, s) := by
  have hg1 := grew_alloc W (.cells #[ptrV (S.loc (.walk κ)), .int .i64 s] 149)
  have hg2 := grew_alloc (W.alloc (.cells #[ptrV (S.loc (.walk κ)), .int .i64 s] 149)) (.cells #[.int .i64 c.1, .int .i64 c.2] 71)
  have ox := (Owns.alloc W [ptrV (S.loc (.walk κ)), .int .i64 s] 149).keep hg2
  have on := Owns.alloc (W.alloc (.cells #[ptrV (S.loc (.walk κ)), .int .i64 s] 149)) [.int .i64 c.1, .int .i64 c.2] 71
  have hz : (W.alloc (.cells #[ptrV (S.loc (.walk κ)), .int .i64 s] 149)).heap.size = W.heap.size + 1 := by simp
  rw [hz] at on
  have hR1 := hR.grew (hg1.trans hg2)
  have HR1 := Lib.hid hR1
  have HG1 := Lib.hid (hg1.trans hg2)
  have HOX := Lib.hid ox
  have HON := Lib.hid on
  have HI := Lib.hid hI
  have HR := Lib.hid hr
  have HS := Lib.hid hs
  have HLC := Lib.hid hLc
  have HLIM := Lib.hid hR.lim_le
  have HBx := Lib.hid (show ¬S.mine W.heap.size from hR.notmine (Nat.le_refl _))
  have HBn := Lib.hid (show ¬S.mine (W.heap.size + 1) from hR.notmine (by omega))
  have c6 := hR1.srch.cell_at (i := 6) rfl
  have cl := hR1.lt (r := .srch) trivial
  have n0 := on.cell_at (i := 0) rfl
  have n1 := on.cell_at (i := 1) rfl
  have nl := on.lt
  clear hR1 hg1 hg2 ox on hz hI hr hs hLc hR
  unfold ptrV at *
  generalize hw1 : (W.alloc (.cells #[.pointer (some ⟨S.loc (.walk κ), 0, none⟩), .int .i64 s] 149)).alloc (.cells #[.int .i64 c.1, .int .i64 c.2] 71) = w1 at *
  go_enter Try.func68, Try.ntmps68
  go_wp2_with fail
  clear hw1
  by_cases hc : c ∈ S.calls
  case' pos =>
    have HLook : Hid (∀ w, Grew w1 w → (Instr.lookup 90 (.map (some (S.loc .cmap))) (.agg #[.int .i64 c.1, .int .i64 c.2]) false).run Try.prog w = .ok (.pointer (some ⟨S.loc (.call c), 0, none⟩)) w) := Lib.hid (fun w hw => look_some (HR1.out.grew hw) hc)
    refine wp_region_hav_lit follows (by kernel_rfl) ?_
    repeat (first
      | (refine HavG.skip (fun _ => rfl) ?_; simp only [Act.put, List.setIfInBounds_toArray, List.set_cons_zero, List.set_cons_succ])
      | (refine HavG.val (fun _ => rfl) ?_ (fun x w hw _ => ?_) ?_; rotate_left; (focus (have hc := hw.cells; clear hw; go_simp; first | done | rfl)); simp only [Act.put, List.setIfInBounds_toArray, List.set_cons_zero, List.set_cons_succ]))
    refine HavG.val (fun _ => rfl) ?_ (fun x w hw _ => ?_) ?_
    rotate_left
    focus
      have hc' := hw.cells
      have hl' := HLook.out w hw
      clear hw
      go_simp
      first | done | rfl
    simp only [Act.put, List.setIfInBounds_toArray, List.set_cons_zero, List.set_cons_succ]
    repeat (first
      | (refine HavG.skip (fun _ => rfl) ?_; simp only [Act.put, List.setIfInBounds_toArray, List.set_cons_zero, List.set_cons_succ])
      | (refine HavG.val (fun _ => rfl) ?_ (fun x w hw _ => ?_) ?_; rotate_left; (focus (have hc := hw.cells; clear hw; go_simp; first | done | rfl)); simp only [Act.put, List.setIfInBounds_toArray, List.set_cons_zero, List.set_cons_succ]))
    refine HavG.tail (by kernel_rfl) (by kernel_rfl) (fun x w6 hw _ => ?_)
    have hat : CallAt E S W c (.pointer (some ⟨S.loc (.walk κ), 0, none⟩)) s S w6 :=
      ⟨HR1.out.grew hw, HI.out, Le.refl S, Frm.grew (HG1.out.trans hw), hc, id, fun _ _ _ h => h, HOX.out.keep hw, HBx.out⟩
    have HKX := Lib.hid hk
    obtain ⟨q, hq⟩ : ∃ q, S.loc (.call c) = q := ⟨_, rfl⟩
    obtain ⟨S3, HAT, HQ, HWX⟩ : ∃ S3, Hid (CallAt E S W c (.pointer (some ⟨S.loc (.walk κ), 0, none⟩)) s S3 w6) ∧ Hid (S3.loc (.call c) = q) ∧ Hid (S3.loc (.walk κ) = S.loc (.walk κ)) := ⟨S, hat, hq, rfl⟩
    rw [hq]
    clear hw hat hc hk hq HLook HR1 HG1 HOX HON HI c6 cl n0 n1 nl HBx HBn
    go_wp2_with fail
  case' neg =>
    have HNC := Lib.hid hc
    have HLook : Hid (∀ w, Grew w1 w → (Instr.lookup 90 (.map (some (S.loc .cmap))) (.agg #[.int .i64 c.1, .int .i64 c.2]) false).run Try.prog w = .ok (.pointer none) w) := Lib.hid (fun w hw => look_none (HR1.out.grew hw) hc)
    clear hc
    refine wp_region_hav_lit follows (by kernel_rfl) ?_
    repeat (first
      | (refine HavG.skip (fun _ => rfl) ?_; simp only [Act.put, List.setIfInBounds_toArray, List.set_cons_zero, List.set_cons_succ])
      | (refine HavG.val (fun _ => rfl) ?_ (fun x w hw _ => ?_) ?_; rotate_left; (focus (have hc := hw.cells; clear hw; go_simp; first | done | rfl)); simp only [Act.put, List.setIfInBounds_toArray, List.set_cons_zero, List.set_cons_succ]))
    refine HavG.val (fun _ => rfl) ?_ (fun x w hw _ => ?_) ?_
    rotate_left
    focus
      have hc' := hw.cells
      have hl' := HLook.out w hw
      clear hw
      go_simp
      first | done | rfl
    simp only [Act.put, List.setIfInBounds_toArray, List.set_cons_zero, List.set_cons_succ]
    repeat (first
      | (refine HavG.skip (fun _ => rfl) ?_; simp only [Act.put, List.setIfInBounds_toArray, List.set_cons_zero, List.set_cons_succ])
      | (refine HavG.val (fun _ => rfl) ?_ (fun x w hw _ => ?_) ?_; rotate_left; (focus (have hc := hw.cells; clear hw; go_simp; first | done | rfl)); simp only [Act.put, List.setIfInBounds_toArray, List.set_cons_zero, List.set_cons_succ]))
    refine HavG.tail (by kernel_rfl) (by kernel_rfl) (fun x w2 hw _ => ?_)
    obtain ⟨hG3, he3, hx3, hc3⟩ := three_new w2
    have hmk : ∀ (t : TypeId) (w : World), (Instr.makeMap t none).run Try.prog w = .ok (.map (some w.heap.size)) (w.alloc (.map #[] 0)) := fun _ _ => rfl
    generalize hw3 : ((w2.alloc (.map #[] 0)).alloc (.map #[] 0)).alloc (.cells #[.map (some w2.heap.size), .map (some (w2.heap.size + 1))] 147) = w3 at *
    have HG3 := Lib.hid (hw.trans hG3)
    have HE3 := Lib.hid he3
    have HX3 := Lib.hid hx3
    have HC3 := Lib.hid hc3
    have HZ2 := Lib.hid hw.size
    clear hw hG3 he3 hx3 hc3 c6 cl n0 n1 nl HLook
    go_wp2_with fail
    clear hw3 hmk
    -- the map of calls knows it
    have HR3 := Lib.hid (HR1.out.grew HG3.out)
    have c6 := HR3.out.srch.cell_at (i := 6) rfl
    have cl := HR3.out.lt (r := .srch) trivial
    have on3 := HON.out.keep HG3.out
    have n0 := on3.cell_at (i := 0) rfl
    have n1 := on3.cell_at (i := 1) rfl
    have nl := on3.lt
    have HUp : Hid (∀ w, Grew w3 w → (Instr.mapUpdate 90 (.map (some (S.loc .cmap))) (.agg #[.int .i64 c.1, .int .i64 c.2]) (.pointer (some ⟨w2.heap.size + 2, 0, none⟩))).run Try.prog w = .ok () (putObj w (S.loc .cmap) (mapObj (S.callsL ++ [(plV c, ptrV (w2.heap.size + 2))])))) :=
      Lib.hid (fun w hw => upd_calls (HR3.out.grew hw) HNC.out (w2.heap.size + 2))
    clear on3
    refine wp_region_hav_lit follows (by kernel_rfl) ?_
    repeat (first
      | (refine HavG.skip (fun _ => rfl) ?_; simp only [Act.put, List.setIfInBounds_toArray, List.set_cons_zero, List.set_cons_succ])
      | (refine HavG.val (fun _ => rfl) ?_ (fun x w hw _ => ?_) ?_; rotate_left; (focus (have hc := hw.cells; clear hw; go_simp; first | done | rfl)); simp only [Act.put, List.setIfInBounds_toArray, List.set_cons_zero, List.set_cons_succ]))
    refine HavG.tail (by kernel_rfl) (by kernel_rfl) (fun x w hw _ => ?_)
    obtain ⟨w4, hw4⟩ : ∃ w4, putObj w (S.loc .cmap) (mapObj (S.callsL ++ [(plV c, ptrV (w2.heap.size + 2))])) = w4 := ⟨_, rfl⟩
    have hupd := HUp.out w hw
    rw [hw4] at hupd
    have hml : S.loc .cmap < w1.heap.size := HR1.out.lt (r := .cmap) trivial
    have hz2 := HZ2.out
    have hb4 : But (fun b => b = S.loc .cmap) w w4 := by rw [← hw4]; exact But.put rfl
    have hcm4 : w4.heap[S.loc .cmap]? = some (mapObj (S.callsL ++ [(plV c, ptrV (w2.heap.size + 2))])) := by
      rw [← hw4]
      exact putObj_same ((HR3.out.grew hw).lt (r := .cmap) trivial) _
    obtain ⟨p1, p2, p3⟩ := parts_keep hw HE3.out HX3.out HC3.out
    obtain ⟨q1, q2, q3⟩ := parts_but hb4 ⟨by omega, by omega, by omega⟩ p1 p2 p3
    have HP4 := Lib.hid (And.intro q1 (And.intro q2 q3))
    have HCM4 := Lib.hid hcm4
    have hB4 : But (fun b => b = S.loc .cmap) w1 w4 := (But.of_grew (HG3.out.trans hw)).trans hb4 fun _ _ h => h
    have HB4 := Lib.hid hB4
    have hcmne : W.heap.size + 1 ≠ S.loc .cmap := fun e => HBn.out (by rw [e]; exact .inl ⟨.cmap, trivial, rfl⟩)
    have on4 := hB4.owns HON.out hcmne
    have os4 := hB4.owns HR1.out.srch (fun e => by have h1 := HR1.out.inj .srch .cmap trivial trivial e; cases h1)
    have hlay4 : Laid E w4 := hB.keep (((But.of_grew (F := fun b => b = S.loc .cmap) HG1.out).trans hB4 fun _ _ h => h).below HLIM.out fun k hk => by rw [hk]; exact HR1.out.lo .cmap trivial)
    clear hw HUp hw4 hcm4 p1 p2 p3 q1 q2 q3 hb4 c6 cl n0 n1 nl hcmne
    go_wp2_with fail
    clear hupd
    obtain ⟨sa, sc, e2, hst⟩ := hlay4.net.stops
    have hr2 : c.1 < E.N.stops.length := by rw [← hN.len]; exact HR.out.1
    obtain ⟨sb, so, rfl, hsb, hsv⟩ := hst c.1 hr2
    obtain ⟨ta, tc, e1, hta⟩ := hlay4.net.starts
    have hr1 : c.1 < E.N.starts.length := HR.out.1
    obtain ⟨tb, tf, rfl, htb, htv⟩ := hta c.1 hr1
    have htn : E.N.starts[c.1] = (E.N.start c.1 : Int) := by
      have h1 := (hN.start c.1 hr1).1
      have h2 : E.N.starts.getD c.1 0 = E.N.starts[c.1] := by rw [List.getD_eq_getElem?_getD, List.getElem?_eq_getElem hr1]; rfl
      unfold Net.start
      omega
    have hsn2 : E.N.stops[c.1] = E.N.stops.getD c.1 0 := by rw [List.getD_eq_getElem?_getD, List.getElem?_eq_getElem hr2]; rfl
    rw [htn] at htv
    rw [hsn2] at hsv
    have s2 : w4.cell? ⟨S.loc .srch, 2, none⟩ = some (.slice (some ⟨sb, so, none⟩) E.N.stops.length sc) := by rw [← e2]; exact os4.cell_at (i := 2) rfl
    have s1 : w4.cell? ⟨S.loc .srch, 1, none⟩ = some (.slice (some ⟨tb, tf, none⟩) E.N.starts.length tc) := by rw [← e1]; exact os4.cell_at (i := 1) rfl
    have sl := os4.lt
    have hsbl : sb < w4.heap.size := by have := HLIM.out; have := hB4.size; have := HG1.out.size; omega
    have htbl : tb < w4.heap.size := by have := HLIM.out; have := hB4.size; have := HG1.out.size; omega
    have HN4 := Lib.hid on4
    have hz4 : w2.heap.size + 2 < w4.heap.size := HP4.out.2.2.lt
    clear hst hta e1 e2 htn hsn2 hlay4 hB4 os4 on4 hsb htb
    refine wp_region_hav_lit follows (by kernel_rfl) ?_
    repeat (first
      | (refine HavG.skip (fun _ => rfl) ?_; simp only [Act.put, List.setIfInBounds_toArray, List.set_cons_zero, List.set_cons_succ])
      | (refine HavG.val (fun _ => rfl) ?_ (fun x w hw _ => ?_) ?_; rotate_left; (focus (have hc := hw.cells; clear hw; go_simp; first | done | rfl)); simp only [Act.put, List.setIfInBounds_toArray, List.set_cons_zero, List.set_cons_succ]))
    refine HavG.any (fun _ => rfl) (NewMap w4.heap.size) (fun _ _ _ hg h => NewMap.keep hg h) (fun x w hw _ => ?_) ?_
    · have HW := Lib.hid hw
      have hmk : ∀ (t : TypeId) (w : World), (Instr.makeMap t none).run Try.prog w = .ok (.map (some w.heap.size)) (w.alloc (.map #[] 0)) := fun _ _ => rfl
      clear hw
      go_simp
      exact ⟨grew_alloc _ _, NewMap.made HW.out.size⟩
    simp only [Act.put, List.setIfInBounds_toArray, List.set_cons_zero, List.set_cons_succ]
    repeat (first
      | (refine HavG.skip (fun _ => rfl) ?_; simp only [Act.put, List.setIfInBounds_toArray, List.set_cons_zero, List.set_cons_succ])
      | (refine HavG.val (fun _ => rfl) ?_ (fun x w hw _ => ?_) ?_; rotate_left; (focus (have hc := hw.cells; clear hw; go_simp; first | done | rfl)); simp only [Act.put, List.setIfInBounds_toArray, List.set_cons_zero, List.set_cons_succ]))
    refine HavG.any (fun _ => rfl) (NewPart w4.heap.size (w2.heap.size + 2) (E.N.stops.getD c.1 0)) (fun _ _ _ hg h => NewPart.keep hg h) (fun x w hw hd => ?_) ?_
    · obtain ⟨mb, hxe, h1, h2⟩ := hd _ (List.mem_append_right _ (List.mem_singleton.2 rfl)) (by kernel_rfl)
      dsimp only at hxe
      clear hd
      generalize x (0 + 1) = yv at *
      subst hxe
      have H2 := Lib.hid h2
      have H1 := Lib.hid h1
      clear hw h2 h1
      go_simp
      exact ⟨Grew.refl _, mb, rfl, H1.out, H2.out⟩
    simp only [Act.put, List.setIfInBounds_toArray, List.set_cons_zero, List.set_cons_succ]
    refine HavG.any (fun _ => rfl) (NewWalk w4.heap.size (w2.heap.size + 2) (E.N.stops.getD c.1 0)) (fun _ _ _ hg h => NewWalk.keep hg h) (fun x w hw hd => ?_) ?_
    · obtain ⟨mb, hxe, h1, h2⟩ := hd _ (List.mem_append_right _ (List.mem_singleton.2 rfl)) (by kernel_rfl)
      dsimp only at hxe
      clear hd
      generalize x (0 + 1 + 1 + 1 + 1 + 1 + 1 + 1 + 1 + 1 + 1 + 1) = yv at *
      subst hxe
      have H2 := Lib.hid h2
      have H1 := Lib.hid h1
      have HW := Lib.hid hw
      clear hw h2 h1
      go_simp
      exact ⟨grew_alloc _ _, NewWalk.made HW.out.size H1.out H2.out⟩
    simp only [Act.put, List.setIfInBounds_toArray, List.set_cons_zero, List.set_cons_succ]
    repeat (first
      | (refine HavG.skip (fun _ => rfl) ?_; simp only [Act.put, List.setIfInBounds_toArray, List.set_cons_zero, List.set_cons_succ])
      | (refine HavG.val (fun _ => rfl) ?_ (fun x w hw _ => ?_) ?_; rotate_left; (focus (have hc := hw.cells; clear hw; go_simp; first | done | rfl)); simp only [Act.put, List.setIfInBounds_toArray, List.set_cons_zero, List.set_cons_succ]))
    refine HavG.tail (by kernel_rfl) (by kernel_rfl) (fun x w5 hw hx => ?_)
    have hx8 := hx _ (List.mem_append_right _ (List.mem_singleton.2 rfl))
    clear hx
    dsimp only at hx8
    generalize x (0 + 1 + 1 + 1 + 1 + 1 + 1 + 1 + 1 + 1 + 1 + 1 + 1) = y8 at *
    obtain ⟨kb, mb, rfl, hm1, hk1, hkm, hm2, hk2⟩ := hx8
    have hb5 : But (fun b => b = S.loc .cmap) w1 w5 := HB4.out.trans (But.of_grew (F := fun _ => False) hw) fun _ _ h => False.elim h
    obtain ⟨p1, p2, p3⟩ := parts_keep hw HP4.out.1 HP4.out.2.1 HP4.out.2.2
    have hmore := HR1.out.more HI.out HNC.out hb5 (by rw [hw.block _ (Array.getElem?_eq_some_iff.1 HCM4.out).1]; exact HCM4.out) p1 p2 p3 hm2 hk2 ⟨by omega, by omega, by omega, by omega, by omega, by omega, by omega, by omega, by omega, by omega, by omega, hkm⟩
    obtain ⟨hi2, hle2⟩ := HI.out.more HNC.out HR.out (fun r hr => newLoc_old (cb := w2.heap.size + 2) (eb := w2.heap.size) (xb := w2.heap.size + 1) (kb := kb) (sb := mb) HNC.out hr)
    have hcal := reach_ok E hN wa wc hU hwv _ _ (some c) (E.N.start c.1, c.2) w5 rfl hmore.1 hi2 (show c ∈ S.calls ++ [c] by simp) ⟨(hN.start c.1 HR.out.1).2, HR.out.2⟩ HLC.out
    rw [show ((S.more c (newLoc S.loc c (w2.heap.size + 2) w2.heap.size (w2.heap.size + 1) kb mb)).loc (.walk (some c))) = kb from if_pos rfl, show ((S.more c (newLoc S.loc c (w2.heap.size + 2) w2.heap.size (w2.heap.size + 1) kb mb)).loc .srch) = S.loc .srch from rfl] at hcal
    unfold ptrV at hcal
    simp only [plV] at hcal
    have HCal := Lib.hid hcal
    have HMore := Lib.hid hmore.2
    have HLe2 := Lib.hid hle2
    have hox5 := hb5.owns HOX.out (fun e => HBx.out (by rw [e]; exact .inl ⟨.cmap, trivial, rfl⟩))
    have HOX5 := Lib.hid hox5
    have hbx5 : ¬(S.more c (newLoc S.loc c (w2.heap.size + 2) w2.heap.size (w2.heap.size + 1) kb mb)).mine W.heap.size := fun hm => by
      have := HOX.out.lt
      rcases hmore.2.new _ hm with h1 | h1
      · exact HBx.out h1
      · omega
    have HBX5 := Lib.hid hbx5
    clear hw hm1 hk1 hkm hm2 hk2 hb5 p1 p2 p3 hmore hi2 hle2 hcal hox5 hbx5 s1 s2 sl hsv htv hsbl htbl
    go_wp2_with (refine HCal.out.mono ?_; rintro e w6 ⟨⟨_, rfl⟩, S3, hR6, hF6, hRe⟩; have HR6 := Lib.hid hR6; have HF6 := Lib.hid hF6; have HRe := Lib.hid hRe; clear hR6 hF6 hRe)
    have hle3 := HLe2.out.trans HRe.out.le
    have hcx : c ∈ S3.calls := HRe.out.le.calls c (show c ∈ S.calls ++ [c] by simp)
    have hox6 := HF6.out.owns HOX5.out HBX5.out
    have hq : S3.loc (.call c) = w2.heap.size + 2 := (HRe.out.le.loc (.call c) (show c ∈ S.calls ++ [c] by simp)).trans (if_pos rfl)
    have hat : CallAt E S W c (.pointer (some ⟨S.loc (.walk κ), 0, none⟩)) s S3 w6 :=
      ⟨HR6.out, HRe.out.inv, hle3, ((Frm.grew HG1.out).trans HMore.out).trans HF6.out, hcx, fun hB d hd => by
        have hd' : d ∈ S.calls ++ [c] := by rw [HRe.out.calls] at hd; exact hd
        rcases List.mem_append.1 hd' with h1 | h1
        · exact hle3.seen _ _ (hB d h1)
        · simp at h1
          subst h1
          exact HRe.out.got, fun d i y ho => HRe.out.opn d i y ho, hox6.1, hox6.2⟩
    have HAT := Lib.hid hat
    have HKX := Lib.hid hk
    have HQ := Lib.hid hq
    have HWX := Lib.hid (hle3.loc (.walk κ) hk)
    clear hle3 hcx hox6 hq hat hk HR6 HF6 HRe HCal HMore HLe2 HOX5 HBX5 HNC HR1 HG1 HOX HON HI HBx HBn HG3 HE3 HX3 HC3 HZ2 HR3 HP4 HCM4 HB4 HN4 hml hz2 hz4
    generalize w2.heap.size + 2 = q at *
    go_wp2_with fail
  all_goals
    have x0 := HAT.out.box.cell_at (i := 0) rfl
    have x1 := HAT.out.box.cell_at (i := 1) rfl
    have xl := HAT.out.box.lt
    have hoc := HAT.out.rep.call HAT.out.there
    rw [HQ.out] at hoc
    have p1 : w6.cell? ⟨q, 1, none⟩ = some (.map (some (S3.loc (.waits c)))) := hoc.cell_at (i := 1) rfl
    have pl := hoc.lt
    have hkx : S3.has κ := HAT.out.le.has HKX.out
    have HKX3 := Lib.hid hkx
    have hhas : ∀ w, Grew w6 w → Calls Try.prog 81 #[.map (some (S3.loc (.waits c))), .agg #[.pointer (some ⟨S.loc (.walk κ), 0, none⟩), .int .i64 s]] w fun e W' => e = .returned (.bool (decide ((κ, s) ∈ S3.waits c))) ∧ Grew w W' := fun w hw => by
      have := haswait_at (HAT.out.rep.grew hw) HAT.out.inv HAT.out.there (κ, s) hkx
      unfold St.waitV ptrV at this
      rw [HWX.out] at this
      exact this
    by_cases hwt : (κ, s) ∈ S3.waits c
    · rw [decide_eq_true hwt] at hhas
      have HH := Lib.hid hhas
      have HWT := Lib.hid hwt
      clear hhas hwt hoc hkx
      refine wp_region_hav_lit follows (by kernel_rfl) ?_
      repeat (first
        | (refine HavG.skip (fun _ => rfl) ?_; simp only [Act.put, List.setIfInBounds_toArray, List.set_cons_zero, List.set_cons_succ])
        | (refine HavG.val (fun _ => rfl) ?_ (fun x w hw _ => ?_) ?_; rotate_left; (focus (have hc := hw.cells; clear hw; go_simp; first | done | rfl)); simp only [Act.put, List.setIfInBounds_toArray, List.set_cons_zero, List.set_cons_succ]))
      refine HavG.tail (by kernel_rfl) (by kernel_rfl) (fun x w hw _ => ?_)
      have HX := Lib.hid (HH.out w hw)
      have HW := Lib.hid hw
      clear hw x0 x1 xl p1 pl
      go_wp2_with (refine HX.out.mono ?_; rintro e w7 ⟨rfl, hb7⟩; have HG7 := Lib.hid (HW.out.trans hb7); clear hb7)
      refine bodyPost_ret (results_none rfl _ _ _) rfl ?_
      exact ⟨⟨_, rfl⟩, S3, HAT.out.rep.grew HG7.out, HAT.out.frm.trans (Frm.grew HG7.out), HAT.out.inv, HAT.out.le, HAT.out.there, HWT.out, HAT.out.begun, HAT.out.opn⟩
    · rw [decide_eq_false hwt] at hhas
      have HH := Lib.hid hhas
      have HWT := Lib.hid hwt
      clear hhas hwt hoc hkx
      refine wp_region_hav_lit follows (by kernel_rfl) ?_
      repeat (first
        | (refine HavG.skip (fun _ => rfl) ?_; simp only [Act.put, List.setIfInBounds_toArray, List.set_cons_zero, List.set_cons_succ])
        | (refine HavG.val (fun _ => rfl) ?_ (fun x w hw _ => ?_) ?_; rotate_left; (focus (have hc := hw.cells; clear hw; go_simp; first | done | rfl)); simp only [Act.put, List.setIfInBounds_toArray, List.set_cons_zero, List.set_cons_succ]))
      refine HavG.tail (by kernel_rfl) (by kernel_rfl) (fun x w hw _ => ?_)
      have HX := Lib.hid (HH.out w hw)
      have HW := Lib.hid hw
      clear hw x0 x1 xl p1 pl
      go_wp2_with (refine HX.out.mono ?_; rintro e w7 ⟨rfl, hb7⟩; have HG7 := Lib.hid (HW.out.trans hb7); clear hb7)
      have HR7 := Lib.hid (HAT.out.rep.grew HG7.out)
      have HF7 := Lib.hid (HAT.out.frm.trans (Frm.grew HG7.out))
      have ob7 := HAT.out.box.keep HG7.out
      have x0 := ob7.cell_at (i := 0) rfl
      have x1 := ob7.cell_at (i := 1) rfl
      have xl := ob7.lt
      have hoc := HR7.out.call HAT.out.there
      rw [HQ.out] at hoc
      have p1 : w7.cell? ⟨q, 1, none⟩ = some (.map (some (S3.loc (.waits c)))) := hoc.cell_at (i := 1) rfl
      have pl := hoc.lt
      have HO7 := Lib.hid ob7
      clear ob7 hoc HH HX HW
      refine wp_region_hav_lit follows (by kernel_rfl) ?_
      repeat (first
        | (refine HavG.skip (fun _ => rfl) ?_; simp only [Act.put, List.setIfInBounds_toArray, List.set_cons_zero, List.set_cons_succ])
        | (refine HavG.val (fun _ => rfl) ?_ (fun x w hw _ => ?_) ?_; rotate_left; (focus (have hc := hw.cells; clear hw; go_simp; first | done | rfl)); simp only [Act.put, List.setIfInBounds_toArray, List.set_cons_zero, List.set_cons_succ]))
      refine HavG.tail (by kernel_rfl) (by kernel_rfl) (fun x w hw _ => ?_)
      have hI4 := HAT.out.inv.wait HAT.out.there HWT.out (x := (κ, s)) ⟨HKX3.out, hsn⟩ HS.out
      obtain ⟨w8, hw8⟩ : ∃ w8, putObj w (S3.loc (.waits c)) (mapObj (S3.waitsL c ++ [(S3.waitV (κ, s), unitV)])) = w8 := ⟨_, rfl⟩
      have hupd := upd_waits (HR7.out.grew hw) HAT.out.inv HAT.out.there (x := (κ, s)) HKX3.out HWT.out
      rw [hw8] at hupd
      unfold St.waitV ptrV unitV at hupd
      simp only [HWX.out] at hupd
      have hput := put_wait_at (HR7.out.grew hw) HAT.out.there (κ, s) hw8
      have HF8 := Lib.hid ((HF7.out.trans (Frm.grew hw)).trans hput.2)
      have HR8 := Lib.hid hput.1
      have ho8 := hput.2.owns (HO7.out.keep hw) HAT.out.boxn
      have HI4 := Lib.hid hI4.1
      have HLE4 := Lib.hid hI4.2
      have hoc : Owns w8 (S3.loc (.call c)) ((S3.wait c (κ, s)).callL c) 147 := HR8.out.call (c := c) HAT.out.there
      rw [HQ.out] at hoc
      have p0 : w8.cell? ⟨q, 0, none⟩ = some (.map (some (S3.loc (.ends c)))) := hoc.cell_at (i := 0) rfl
      have pl8 := hoc.lt
      have hlen4 : ((S3.wait c (κ, s)).endsL c).length = (S3.ends c).length := by simp [St.endsL, St.wait]
      have hrange := run_range_mapObj (P := Try.prog) (t := 144) (kt := 3) (e := 122) (by kernel_rfl) (HR8.out.endsM (c := c) HAT.out.there)
      rw [hlen4] at hrange
      have hrange2 : (Instr.range 144 (.map (some (S3.loc (.ends c))))).run Try.prog w8 = .ok (.pointer (some ⟨w8.heap.size, 0, none⟩)) (w8.alloc (.mapIter (some (S3.loc (.ends c))) (S3.ends c).length #[] (S3.ends c).length)) := hrange
      have HO8 := Lib.hid ho8
      clear hw hput hw8 hI4 x0 x1 xl p1 pl hoc hlen4 hrange ho8
      go_wp2_with fail
      clear hupd
      have hgA := grew_alloc w8 (.mapIter (some (S3.loc (.ends c))) (S3.ends c).length #[] (S3.ends c).length)
      have hsd : Side (S3.wait c (κ, s)) (w8.alloc (.mapIter (some (S3.loc (.ends c))) (S3.ends c).length #[] (S3.ends c).length)) W.heap.size [.pointer (some ⟨S.loc (.walk κ), 0, none⟩), .int .i64 s] 149 w8.heap.size (S3.loc (.ends c)) (S3.ends c).length [] (S3.ends c).length :=
        ⟨HO8.out.1.keep hgA, HO8.out.2, by unfold IterAt; exact alloc_at _ _, HR8.out.notmine (Nat.le_refl _)⟩
      have HSD := Lib.hid hsd
      have HRA := Lib.hid (HR8.out.grew hgA)
      have HFA := Lib.hid (Frm.grew (S := S3.wait c (κ, s)) hgA)
      clear hsd hgA hrange2 p0 pl8
      obtain ⟨r, hr10⟩ : ∃ r, w8.heap.size = r := ⟨_, rfl⟩
      have HR10 := Lib.hid hr10
      rw [hr10] at HSD
      generalize w8.alloc (.mapIter (some (S3.loc (.ends c))) (S3.ends c).length #[] (S3.ends c).length) = wA at *
      rw [hr10]
      clear hr10
      go_loopg [73] (E.w.length + 1) (fun k _ wr => ∃ (T : St) (seen : List Nat) (last : Nat), Hid (CLoop E S3 c (κ, s) T seen) ∧ Hid (Rep E T wr) ∧ Hid (Frm (S3.wait c (κ, s)) T w8 wr) ∧ Hid (Side T wr W.heap.size [.pointer (some ⟨S.loc (.walk κ), 0, none⟩), .int .i64 s] 149 r (S3.loc (.ends c)) (S3.ends c).length seen last) ∧
        Hid (seen.Nodup ∧ (∀ j ∈ seen, j < (T.ends c).length) ∧ (seen ≠ [] → 1 ≤ last) ∧ k + seen.length = E.w.length + 1))
      case atStart =>
        exact ⟨S3.wait c (κ, s), [], _, CLoop.start HI4.out, HRA.out, HFA.out, HSD.out, ⟨List.nodup_nil, fun j hj => absurd hj (by simp), fun h => absurd rfl h, by simp⟩⟩
      case round =>
        obtain ⟨T, seen, last, hL, hRT, hFT, hSd, hk2⟩ := hrel
        have hTl : T.loc (.ends c) = S3.loc (.ends c) := hL.out.le.loc (.ends c) (show c ∈ S3.calls from HAT.out.there)
        have hTs : T.loc .srch = S.loc .srch := (hL.out.le.loc .srch trivial).trans (HAT.out.le.loc .srch trivial)
        have hTk : T.loc (.walk κ) = S.loc (.walk κ) := (hL.out.le.loc (.walk κ) (show (S3.wait c (κ, s)).has κ from (has_same rfl κ).2 HKX3.out)).trans HWX.out
        have hcT : c ∈ T.calls := by rw [hL.out.calls]; exact HAT.out.there
        have hwm : wr.heap[S3.loc (.ends c)]? = some (mapObj (T.endsL c)) := by rw [← hTl]; exact hRT.out.endsM hcT
        have hlen : (T.endsL c).length = (T.ends c).length := by simp [St.endsL]
        have hpl := hL.out.pre.length_le
        have hnx := run_next_mapObj (P := Try.prog) hSd.out.it hwm hk2.out.2.2.1 (by rw [hlen]; exact hpl) 0
        rcases hnx with ⟨hall, w1', hw1', hrun⟩ | ⟨j, hj, hns, w1', hw1', hrun⟩
        · have HALL := Lib.hid hall
          have HW1 := Lib.hid hw1'
          clear hall hw1' hTl hTs hTk hcT hwm hlen hpl
          go_wp2_with fail
          go_end0
          exact ⟨⟨_, rfl⟩, T, hRT.out.drew0 HW1.out, (HF8.out.trans hFT.out).drew0 HW1.out, hL.out.done HI4.out HAT.out.le HAT.out.there HAT.out.begun HAT.out.opn HLE4.out HALL.out⟩
        · have hjm : j < (T.ends c).length := by rw [← hlen]; exact hj
          have hget : (T.endsL c)[j] = (.int .i64 ((T.ends c)[j] : Int), unitV) := by simp [St.endsL]
          have hlive := hL.out.live hjm
          obtain ⟨w11, hw11⟩ : ∃ w11, putObj w1' r (.mapIter (some (S3.loc (.ends c))) (S3.ends c).length (seen ++ [j]).toArray (T.endsL c).length) = w11 := ⟨_, rfl⟩
          rw [hw11, hget] at hrun
          have hsd1 := hSd.out.step hw1' j (T.endsL c).length
          rw [hw11] at hsd1
          have hR11 := hRT.out.step hw1' hSd.out.itn (.mapIter (some (S3.loc (.ends c))) (S3.ends c).length (seen ++ [j]).toArray (T.endsL c).length)
          rw [hw11] at hR11
          have hF11 := hFT.out.newer (But.step hw1' r (.mapIter (some (S3.loc (.ends c))) (S3.ends c).length (seen ++ [j]).toArray (T.endsL c).length)) (Nat.le_of_eq HR10.out)
          rw [hw11] at hF11
          have hwm1 : w11.heap[S3.loc (.ends c)]? = some (mapObj (T.endsL c)) := by rw [← hTl]; exact hR11.endsM hcT
          have hentry := run_entry_mapObj (P := Try.prog) hj hsd1.it hwm1
          rw [hget] at hentry
          rw [hlen] at hsd1
          have HNX := Lib.hid (fun (T' : St) (h : Reached E T T' κ (s, (T.ends c)[j])) => hL.out.next hjm h)
          generalize (T.ends c)[j] = ej at hrun hentry hlive HNX
          have hcal := reach_ok E hN wa wc hU hwv _ T κ (s, ej) w11 rfl hR11 hL.out.inv hlive.1 ⟨hlive.2.1, hlive.2.2.1⟩ hlive.2.2.2
          rw [hTs, hTk] at hcal
          have x0 := hsd1.box.cell_at (i := 0) rfl
          have x1 := hsd1.box.cell_at (i := 1) rfl
          have xl := hsd1.box.lt
          unfold ptrV at hcal
          simp only [plV] at hcal
          have HCall := Lib.hid hcal
          have HSD1 := Lib.hid hsd1
          have HF12 := Lib.hid hF11
          have HNS := Lib.hid hns
          have HJ := Lib.hid hjm
          have HK := Lib.hid hk2.out
          have HM := Lib.hid (hL.out.inv.ends_le (c := c))
          have HPRE := Lib.hid (fun (T' : St) (h : Le T T') => (h.ends c).length_le)
          clear hTl hTs hTk hcT hwm hlen hpl hns hw1' hj hjm hget hlive hw11 hsd1 hR11 hF11 hwm1 hk2 hL hRT hFT hSd hcal
          unfold unitV at hrun hentry
          go_wp2_with (refine HCall.out.mono ?_; rintro e w13 ⟨⟨_, rfl⟩, T', hR', hF', hRe⟩)
          have H1 := Lib.hid (HNX.out T' hRe)
          have H2 := Lib.hid (HSD1.out.frm hF')
          have H3 := Lib.hid (HF12.out.trans hF')
          have H4 := Lib.hid hR'
          have hmore := seen_more2 HK.out (HPRE.out T' hRe.le) HM.out HNS.out HJ.out
          clear hF' hR' hRe HCall hrun hentry x0 x1 xl
          go_roundg (gk - 1)
          case measure => exact hmore.1
          case rel => exact ⟨T', seen ++ [j], _, H1.out, H4.out, H3.out, H2.out, hmore.2⟩
end Go.Proofs.Ytgdcnndmdgcjlaa
