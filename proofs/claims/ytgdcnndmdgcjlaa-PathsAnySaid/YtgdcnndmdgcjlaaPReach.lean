/- paths.reach: a place more of a walk, and all that comes of it. -/
import Derived.Test.YtgdcnndmdgcjlaaPLoop
import Derived.Deep.LoopGhost
namespace Go.Proofs.Ytgdcnndmdgcjlaa
open Go.RowKit

set_option maxHeartbeats 2000000 in
set_option maxRecDepth 20000 in
theorem reach_ok (E : Env) (hN : E.N.Ok) (wa : Option Addr) (wc : Nat) (hU : E.univ.length ≤ 1000000000000) (hwv : E.wv = .slice wa E.w.length wc) : ∀ (n : Nat) (S : St) (κ : Key) (p : Pl) (W : World), unseen E S = n → Rep E S W → Inv E S → S.has κ →
    p.1 < E.N.states.length ∧ p.2 ≤ E.w.length → Lv E.N E.w E.p0 E.over κ p →
    Calls Try.prog 45 #[ptrV (S.loc .srch), ptrV (S.loc (.walk κ)), plV p] W fun e W' => (∃ v, e = .returned v) ∧ ∃ S', Rep E S' W' ∧ Frm S S' W W' ∧ Reached E S S' κ p := by
  intro n
  induction n using Nat.strongRecOn with
  | _ n ih =>
  intro S κ p W hn hR hI hk hr hL
  have HIH := Lib.hid ih
  have HNn := Lib.hid hn
  clear ih hn
  have hg1 := grew_alloc W (.cells #[.int .i64 p.1, .int .i64 p.2] 71)
  have hR1 := hR.grew hg1
  have ob := Owns.alloc W [.int .i64 p.1, .int .i64 p.2] 71
  have hbl : W.heap.size < (W.alloc (.cells #[.int .i64 p.1, .int .i64 p.2] 71)).heap.size := by simp
  have hbm : ¬S.mine W.heap.size := hR.notmine (Nat.le_refl _)
  have b0 := ob.cell_at (i := 0) rfl
  have b1 := ob.cell_at (i := 1) rfl
  have k0 := (hR1.walk hk).cell_at (i := 0) rfl
  have kl := hR1.lt (r := .walk κ) hk
  have HR1 := Lib.hid hR1
  have HG1 := Lib.hid hg1
  have HI := Lib.hid hI
  have HL := Lib.hid hL
  have HR0 := Lib.hid hR
  have HO := Lib.hid ob
  have HHas := Lib.hid (fun w (hw : Grew (W.alloc (.cells #[.int .i64 p.1, .int .i64 p.2] 71)) w) => hasat_ok w _ (S.seen κ) p ((hR1.grew hw).seenM hk))
  have hTL := hI.todo_le
  have HB := Lib.hid hr
  clear hR1 hg1 hI hL hR ob hr
  unfold ptrV plV
  go_enter Try.func45, Try.ntmps45
  go_wp2_with fail
  generalize W.alloc (.cells #[.int .i64 p.1, .int .i64 p.2] 71) = w1 at *
  by_cases hs : p ∈ S.seen κ
  · rw [decide_eq_true hs] at HHas
    refine wp_region_hav_lit follows (by kernel_rfl) ?_
    repeat (first
      | (refine HavG.skip (fun _ => rfl) ?_; simp only [Act.put, List.setIfInBounds_toArray, List.set_cons_zero, List.set_cons_succ])
      | (refine HavG.val (fun _ => rfl) ?_ (fun x w hw _ => ?_) ?_; rotate_left; (focus (have hc := hw.cells; clear hw; go_simp; first | done | rfl)); simp only [Act.put, List.setIfInBounds_toArray, List.set_cons_zero, List.set_cons_succ]))
    refine HavG.tail (by kernel_rfl) (by kernel_rfl) (fun x w hw _ => ?_)
    have HX := Lib.hid (HHas.out w hw)
    have HW := Lib.hid hw
    clear hw
    go_wp2_with (refine HX.out.mono ?_; rintro e w2 ⟨rfl, hb2⟩; have HB2 := Lib.hid hb2; clear hb2)
    refine bodyPost_ret (results_none rfl _ _ _) rfl ?_
    exact ⟨⟨_, rfl⟩, S, HR1.out.grew (HW.out.trans HB2.out), Frm.grew (HG1.out.trans (HW.out.trans HB2.out)), HI.out, Le.refl S, hs, rfl, fun _ => rfl, fun _ _ _ h => h⟩
  · rw [decide_eq_false hs] at HHas
    have HS := Lib.hid hs
    refine wp_region_hav_lit follows (by kernel_rfl) ?_
    repeat (first
      | (refine HavG.skip (fun _ => rfl) ?_; simp only [Act.put, List.setIfInBounds_toArray, List.set_cons_zero, List.set_cons_succ])
      | (refine HavG.val (fun _ => rfl) ?_ (fun x w hw _ => ?_) ?_; rotate_left; (focus (have hc := hw.cells; clear hw; go_simp; first | done | rfl)); simp only [Act.put, List.setIfInBounds_toArray, List.set_cons_zero, List.set_cons_succ]))
    refine HavG.tail (by kernel_rfl) (by kernel_rfl) (fun x w hw _ => ?_)
    have HX := Lib.hid (HHas.out w hw)
    have HW := Lib.hid hw
    clear hw hs k0
    go_wp2_with (refine HX.out.mono ?_; rintro e w2 ⟨rfl, hb2⟩; have HB2 := Lib.hid hb2; clear hb2)
    -- the world behind the look
    have HG2 := Lib.hid (HW.out.trans HB2.out)
    have HR2 := Lib.hid (HR1.out.grew HG2.out)
    have HO2 := Lib.hid (HO.out.keep HG2.out)
    have k0 := (HR2.out.walk hk).cell_at (i := 0) rfl
    have kl2 := HR2.out.lt (r := .walk κ) hk
    have hbl2 := HO2.out.lt
    have b02 := HO2.out.cell_at (i := 0) rfl
    have b12 := HO2.out.cell_at (i := 1) rfl
    have HUp := Lib.hid (fun w (hw : Grew w2 w) => upd_seen (HR2.out.grew hw) hk HS.out)
    clear b0 b1 hbl kl HX HW HB2 HHas
    refine wp_region_hav_lit follows (by kernel_rfl) ?_
    repeat (first
      | (refine HavG.skip (fun _ => rfl) ?_; simp only [Act.put, List.setIfInBounds_toArray, List.set_cons_zero, List.set_cons_succ])
      | (refine HavG.val (fun _ => rfl) ?_ (fun x w hw _ => ?_) ?_; rotate_left; (focus (have hc := hw.cells; clear hw; go_simp; first | done | rfl)); simp only [Act.put, List.setIfInBounds_toArray, List.set_cons_zero, List.set_cons_succ]))
    refine HavG.tail (by kernel_rfl) (by kernel_rfl) (fun x w hw _ => ?_)
    have hupd := HUp.out w hw
    have HP := Lib.hid (put_seen (HR2.out.grew hw) hk p)
    generalize putObj w (S.loc (.seen κ)) (mapObj (((S.seen κ) ++ [p]).map fun q => (plV q, unitV))) = w3 at hupd HP
    unfold plV unitV at hupd
    have HF := Lib.hid (Frm.grew (S := S) hw)
    have HO3 := Lib.hid ((HO2.out.keep hw))
    clear hw k0 kl2 hbl2 b02 b12
    go_wp2_with fail
    clear hupd HUp
    have HR3 := Lib.hid HP.out.1
    have HF3 := Lib.hid (HF.out.trans HP.out.2)
    have hO3 := HP.out.2.owns HO3.out hbm
    have hlen : (((p.2 : Int) == (E.w.length : Int))) = (p.2 == E.w.length) := by
      rw [Bool.eq_iff_iff]; simp; omega
    -- all: were all taken?
    obtain ⟨i0, hi0, hz0, hz1, hz2⟩ := info_parts info_step
    have HI0 := Lib.hid hi0
    have HZ0 := Lib.hid hz0
    have HZ1 := Lib.hid hz1
    have HZ2 := Lib.hid hz2
    clear hi0 hz0 hz1 hz2
    obtain ⟨bv, hbv⟩ : ∃ bv, (S.all || (p.2 == E.w.length)) = bv := ⟨_, rfl⟩
    cases hal : S.all
    all_goals
      have s5 : w3.cell? ⟨S.loc .srch, 5, none⟩ = some (.slice wa E.w.length wc) := by rw [← hwv]; exact HR3.out.srch.cell_at (i := 5) rfl
      have s8 := HR3.out.srch.cell_at (i := 8) rfl
      have f8 := HR3.out.srch.free 8
      have sl := HR3.out.lt (r := .srch) trivial
      have b13 := hO3.1.cell_at (i := 1) rfl
      have hbl3 := hO3.1.lt
      have hl3 : (S.seenAnd κ p).loc = S.loc := rfl
      have ha3 : (S.seenAnd κ p).all = S.all := rfl
      rw [hl3] at s8 f8 sl
      rw [ha3, hal] at s8
      have HOO := Lib.hid hO3
      clear hO3 hl3 ha3
      refine wp_region_hav_lit follows (by kernel_rfl) ?_
      repeat (first
        | (refine HavG.skip (fun _ => rfl) ?_; simp only [Act.put, List.setIfInBounds_toArray, List.set_cons_zero, List.set_cons_succ])
        | (refine HavG.val (fun _ => rfl) ?_ (fun x w hw _ => ?_) ?_; rotate_left; (focus (have hc := hw.cells; clear hw; go_simp; first | done | rfl)); simp only [Act.put, List.setIfInBounds_toArray, List.set_cons_zero, List.set_cons_succ]))
      refine HavG.tail (by kernel_rfl) (by kernel_rfl) (fun x w hw _ => ?_)
      have c8 := (hw.cells _ 8 sl).trans s8
      have g8 := (hw.frees _ 8 sl).trans f8
      have HR4 := Lib.hid (HR3.out.grew hw)
      have HF4 := Lib.hid (HF3.out.trans (Frm.grew hw))
      have HO4 := Lib.hid (HOO.out.1.keep hw)
      clear hw s5 s8 f8 sl b13 hbl3
      rw [hal] at hbv
      simp only [Bool.true_or, Bool.false_or] at hbv
      have HBV := Lib.hid hbv
      have HBV0 : Hid ((S.all || (p.2 == E.w.length)) = bv) := by unfold Hid; rw [hal]; simpa using hbv
      clear hbv
      go_wp2_with fail
      generalize hw4 : w.setCell ⟨S.loc .srch, 8, none⟩ (.bool _) = w4
      have HP4 := Lib.hid (put_all_at HR4.out hw4 HBV.out)
      clear hw4 c8 g8
      have HF5 := Lib.hid (HF4.out.trans HP4.out.2)
      have HR5 := Lib.hid HP4.out.1
      have hO5 := HP4.out.2.owns HO4.out HOO.out.2
      clear HP4 HO4
      have l5 : ((S.seenAnd κ p).withAll bv).loc = S.loc := rfl
      have t5 : ((S.seenAnd κ p).withAll bv).tv = S.tv := rfl
      have s7 := HR5.out.srch.cell_at (i := 7) rfl
      have f7 := HR5.out.srch.free 7
      have sl := HR5.out.lt (r := .srch) trivial
      rw [l5] at s7 f7 sl
      rw [t5] at s7
      have b05 := hO5.1.cell_at (i := 0) rfl
      have b15 := hO5.1.cell_at (i := 1) rfl
      have hbl5 := hO5.1.lt
      have HO5 := Lib.hid hO5
      clear hO5 l5 t5
      refine wp_region_hav_lit follows (by kernel_rfl) ?_
      repeat (first
        | (refine HavG.skip (fun _ => rfl) ?_; simp only [Act.put, List.setIfInBounds_toArray, List.set_cons_zero, List.set_cons_succ])
        | (refine HavG.val (fun _ => rfl) ?_ (fun x w hw _ => ?_) ?_; rotate_left; (focus (have hc := hw.cells; clear hw; go_simp; first | done | rfl)); simp only [Act.put, List.setIfInBounds_toArray, List.set_cons_zero, List.set_cons_succ]))
      refine HavG.any (fun _ => rfl) (fun v w => ∃ sb, v = .slice (some ⟨sb, 0, none⟩) 1 1 ∧ Owns w sb [ptrV (S.loc (.walk κ)), .int .i64 p.1, .int .i64 p.2] 120) ?_ (fun x w hw _ => ?_) ?_
      · rintro v w w' hg ⟨sb, h1, h2⟩
        exact ⟨sb, h1, h2.keep hg⟩
      · have HW := Lib.hid hw
        clear hw
        go_simp
        exact ⟨grew_alloc _ _, Owns.alloc _ _ _⟩
      simp only [Act.put, List.setIfInBounds_toArray, List.set_cons_zero, List.set_cons_succ]
      refine HavG.tail0 (by kernel_rfl) (by kernel_rfl) (by kernel_rfl) (fun _ _ d _ _ h => by cases d <;> exact h) (by decide) (fun x w6 hw hx => ?_)
      have hx8 := hx _ (List.mem_append_right _ (List.mem_singleton.2 rfl))
      clear hx
      dsimp only at hx8
      generalize x (0 + 1 + 1 + 1 + 1 + 1 + 1 + 1 + 1) = y8 at *
      obtain ⟨sb, rfl, hosb⟩ := hx8
      have HR6 := Lib.hid (HR5.out.grew hw)
      have HF6 := Lib.hid (HF5.out.trans (Frm.grew hw))
      have HO6 := Lib.hid (HO5.out.1.keep hw)
      have HROW := Lib.hid (show looseRow w6 E.lim 120 3 S.tv S.todo.length S.todoCells from HR6.out.row)
      have HNS := Lib.hid (pnews hosb)
      have hlim : E.lim ≤ w6.heap.size := HR6.out.lim_le
      have h63 : S.todo.length + 1 ≤ maxLen := by unfold maxLen; omega
      have H63 := Lib.hid h63
      have h64 : (S.todo.length + 1) * 24 ≤ 140737488355328 := by omega
      have H64 := Lib.hid h64
      clear hw hosb h63 h64 s7 f7 sl b05 b15 hbl5
      go_wp2_with (at_builtin; refine wpList_append_loose w6 rfl _ _ 91 rfl E.lim 120 i0 _ 3 24 Try.underlying91 HI0.out HZ0.out HZ1.out HZ2.out rfl (by decide) S.tv S.todo.length S.todoCells rfl HROW.out ⟨sb, 0, none⟩ 1 1 [ptrV (S.loc (.walk κ)), .int .i64 p.1, .int .i64 p.2] rfl rfl HNS.out (step_one _ _ _) (by decide) H63.out H64.out hlim _ rfl ?_; intro g cap w7 hown hgrow hat hlt; have hs7 := far_srch HR6.out hgrow; have c7 : w7.cell? ⟨S.loc .srch, 7, none⟩ = some S.tv := hs7.cell_at (i := 7) rfl; have g7 : w7.frozen? ⟨S.loc .srch, 7, none⟩ = false := hs7.free 7; have HOWN := Lib.hid hown; have HGROW := Lib.hid hgrow; have HAT := Lib.hid hat; clear hown hgrow hat hs7)
      generalize hw8 : w7.setCell ⟨S.loc .srch, 7, none⟩ (.slice (some ⟨g, 0, none⟩) (S.todo.length + 1) cap) = w8
      have hP8 := put_todo_at HR6.out (κ, p) (HGROW.out) HOWN.out rfl HAT.out hw8
      have hO8 := hP8.2.owns HO6.out HO5.out.2
      have HF8 := Lib.hid (HF6.out.trans hP8.2)
      have HR8 := Lib.hid hP8.1
      clear hP8 hw8 c7 g7 HGROW HOWN HAT HROW HNS H63 H64 hlim HO6 HF6 HR6 HO5 HR5 HF5 hlt
      have b0 := hO8.1.cell_at (i := 0) rfl
      have b1 := hO8.1.cell_at (i := 1) rfl
      have hbl := hO8.1.lt
      have HO8 := Lib.hid hO8
      clear hO8
      rcases κ with _ | c
      · have k1 : w8.cell? ⟨S.loc (.walk none), 1, none⟩ = some (.pointer none) := (HR8.out.walk (κ := none) trivial).cell_at (i := 1) rfl
        have kl : S.loc (.walk none) < w8.heap.size := HR8.out.lt (r := .walk none) trivial
        refine wp_region_hav_lit follows (by kernel_rfl) ?_
        repeat (first
          | (refine HavG.skip (fun _ => rfl) ?_; simp only [Act.put, List.setIfInBounds_toArray, List.set_cons_zero, List.set_cons_succ])
          | (refine HavG.val (fun _ => rfl) ?_ (fun x w hw _ => ?_) ?_; rotate_left; (focus (have hc := hw.cells; clear hw; go_simp; first | done | rfl)); simp only [Act.put, List.setIfInBounds_toArray, List.set_cons_zero, List.set_cons_succ]))
        refine HavG.tail (by kernel_rfl) (by kernel_rfl) (fun x w hw _ => ?_)
        have HFw := Lib.hid (HF8.out.trans (Frm.grew hw))
        have HRw := Lib.hid (HR8.out.grew hw)
        clear hw b0 b1 hbl k1 kl
        go_wp2_with fail
        refine bodyPost_ret (results_none rfl _ _ _) rfl ?_
        have hno : ∀ c, ¬((none : Key) = some c ∧ p.1 = E.N.stop c.1) := fun c h => by cases h.1
        refine ⟨⟨_, rfl⟩, _, HRw.out, (Frm.grew (HG1.out.trans HG2.out)).trans HFw.out, ?_⟩
        rw [see_eq HBV0.out hno]
        exact see_done HI.out hk HS.out HB.out HL.out hno
      · have hc : c ∈ S.calls := hk
        have hst := (hN.stop c.1 (HI.out.callR c hc).1).1
        have hst2 : E.N.stops.getD c.1 0 = (E.N.stop c.1 : Int) := by unfold Net.stop; omega
        clear hst
        have k1 : w8.cell? ⟨S.loc (.walk (some c)), 1, none⟩ = some (.pointer (some ⟨S.loc (.call c), 0, none⟩)) := (HR8.out.walk (κ := some c) hc).cell_at (i := 1) rfl
        have k2 : w8.cell? ⟨S.loc (.walk (some c)), 2, none⟩ = some (.int .i64 (E.N.stop c.1)) := by rw [← hst2]; exact (HR8.out.walk (κ := some c) hc).cell_at (i := 2) rfl
        have kl : S.loc (.walk (some c)) < w8.heap.size := HR8.out.lt (r := .walk (some c)) hc
        clear hst2
        by_cases hq : p.1 = E.N.stop c.1
        · have hne : ((p.1 : Int) != (E.N.stop c.1 : Int)) = false := by simp; omega
          have hnoe : p.2 ∉ S.ends c := fun h => HS.out (by have := (HI.out.endsIff c p.2).1 h; rw [← hq] at this; exact this)
          have q0 : w8.cell? ⟨S.loc (.call c), 0, none⟩ = some (.map (some (S.loc (.ends c)))) := (HR8.out.call hc).cell_at (i := 0) rfl
          have ql : S.loc (.call c) < w8.heap.size := HR8.out.lt (r := .call c) hc
          have HH2 := Lib.hid (fun w (hw : Grew w8 w) => hasint_ok w _ (S.ends c) p.2 ((HR8.out.grew hw).endsM hc))
          rw [decide_eq_false hnoe] at HH2
          have HQ := Lib.hid hq
          have HNE := Lib.hid hnoe
          clear hq hnoe
          refine wp_region_hav_lit follows (by kernel_rfl) ?_
          repeat (first
            | (refine HavG.skip (fun _ => rfl) ?_; simp only [Act.put, List.setIfInBounds_toArray, List.set_cons_zero, List.set_cons_succ])
            | (refine HavG.val (fun _ => rfl) ?_ (fun x w hw _ => ?_) ?_; rotate_left; (focus (have hc := hw.cells; clear hw; go_simp; first | done | rfl)); simp only [Act.put, List.setIfInBounds_toArray, List.set_cons_zero, List.set_cons_succ]))
          refine HavG.tail (by kernel_rfl) (by kernel_rfl) (fun x w hw _ => ?_)
          have HX := Lib.hid (HH2.out w hw)
          have HW := Lib.hid hw
          clear hw b0 b1 hbl k1 k2 kl hne q0 ql
          go_wp2_with (refine HX.out.mono ?_; rintro e w9 ⟨rfl, hb9⟩; have HG9 := Lib.hid (HW.out.trans hb9); clear hb9)
          clear HX HW HH2
          have HR9 := Lib.hid (HR8.out.grew HG9.out)
          have HF9 := Lib.hid (HF8.out.trans (Frm.grew HG9.out))
          have HO9 := Lib.hid (HO8.out.1.keep HG9.out)
          have b1 := HO9.out.cell_at (i := 1) rfl
          have hbl := HO9.out.lt
          have k1 : w9.cell? ⟨S.loc (.walk (some c)), 1, none⟩ = some (.pointer (some ⟨S.loc (.call c), 0, none⟩)) := (HR9.out.walk (κ := some c) hc).cell_at (i := 1) rfl
          have kl : S.loc (.walk (some c)) < w9.heap.size := HR9.out.lt (r := .walk (some c)) hc
          have q0 : w9.cell? ⟨S.loc (.call c), 0, none⟩ = some (.map (some (S.loc (.ends c)))) := (HR9.out.call hc).cell_at (i := 0) rfl
          have ql : S.loc (.call c) < w9.heap.size := HR9.out.lt (r := .call c) hc
          have HUp2 := Lib.hid (fun w (hw : Grew w9 w) => upd_ends (HR9.out.grew hw) (c := c) hc (i := p.2) HNE.out)
          clear HR8 HF8
          refine wp_region_hav_lit follows (by kernel_rfl) ?_
          repeat (first
            | (refine HavG.skip (fun _ => rfl) ?_; simp only [Act.put, List.setIfInBounds_toArray, List.set_cons_zero, List.set_cons_succ])
            | (refine HavG.val (fun _ => rfl) ?_ (fun x w hw _ => ?_) ?_; rotate_left; (focus (have hc := hw.cells; clear hw; go_simp; first | done | rfl)); simp only [Act.put, List.setIfInBounds_toArray, List.set_cons_zero, List.set_cons_succ]))
          refine HavG.tail (by kernel_rfl) (by kernel_rfl) (fun x w hw _ => ?_)
          have hF10 := HF9.out.trans (Frm.grew hw)
          have hO10 := HO9.out.keep hw
          obtain ⟨w10, hw10⟩ : ∃ w10, putObj w (S.loc (.ends c)) (mapObj (((S.ends c) ++ [p.2]).map fun (q : Nat) => (.int .i64 q, unitV))) = w10 := ⟨_, rfl⟩
          have hupd2 : (Instr.mapUpdate 144 (.map (some (S.loc (.ends c)))) (.int .i64 p.2) (.agg #[])).run Try.prog w = .ok () w10 := by rw [← hw10]; exact HUp2.out w hw
          have hP10 := put_ends_at (HR9.out.grew hw) (c := c) hc p.2 hw10
          rw [see_eq2 HBV0.out HQ.out] at hP10
          generalize Value.slice (some ⟨g, 0, none⟩) (S.todo.length + 1) cap = v8 at *
          have hO11 := hP10.2.owns hO10 (fun hm => HO8.out.2 hm)
          have HF11 := Lib.hid (hF10.trans hP10.2)
          have HR11 := Lib.hid hP10.1
          clear hP10 hF10 hO10 hw10 HR9 HF9 HO9 HUp2 hw b1 hbl k1 kl q0 ql
          obtain ⟨S1, hS1⟩ : ∃ S1, S.see E (some c) p v8 = S1 := ⟨_, rfl⟩
          have hST := RLoop.start HI.out hc HS.out HB.out HL.out v8
          have hle1 := (HI.out.see (κ := some c) hc HS.out HB.out HL.out v8).2
          have hl1 : S1.loc = S.loc := by rw [← hS1]; rfl
          have hc1 : c ∈ S1.calls := by rw [← hS1]; exact hc
          have hm1 : (S1.waitsL c).length = (S.waits c).length := by rw [← hS1]; simp [St.waitsL, St.see]
          have hgot1 : p ∈ S1.seen (some c) := by rw [← hS1]; exact (see_seen S E (some c) p v8 _ _).2 (.inr ⟨rfl, rfl⟩)
          have HDone := Lib.hid (fun (T : St) (seen : List Nat) (h : RLoop E S S1 c p.2 T seen) => RLoop.done (v := v8) (by rw [hS1]; exact h) hle1)
          rw [hS1] at hST hle1 hO11
          simp only [hS1] at HF11 HR11
          have hrange := run_range_mapObj (P := Try.prog) (t := 145) (kt := 149) (e := 122) (by kernel_rfl) (HR11.out.waitsM hc1)
          rw [hm1, hl1] at hrange
          have k1 : w10.cell? ⟨S.loc (.walk (some c)), 1, none⟩ = some (.pointer (some ⟨S.loc (.call c), 0, none⟩)) := by rw [← hl1]; exact (HR11.out.walk (κ := some c) hc1).cell_at (i := 1) rfl
          have kl : S.loc (.walk (some c)) < w10.heap.size := by rw [← hl1]; exact HR11.out.lt (r := .walk (some c)) hc1
          have q1 : w10.cell? ⟨S.loc (.call c), 1, none⟩ = some (.map (some (S.loc (.waits c)))) := by rw [← hl1]; exact (HR11.out.call hc1).cell_at (i := 1) rfl
          have ql : S.loc (.call c) < w10.heap.size := by rw [← hl1]; exact HR11.out.lt (r := .call c) hc1
          have HS1 := Lib.hid hS1
          have HST := Lib.hid hST
          have HLE1 := Lib.hid hle1
          have HO11 := Lib.hid hO11
          have HL1 := Lib.hid hl1
          have HGOT1 := Lib.hid hgot1
          have HM1 := Lib.hid hm1
          clear hS1 hST hle1 hO11 hl1 hgot1 hm1
          go_wp2_with fail
          have hgA := grew_alloc w10 (.mapIter (some (S.loc (.waits c))) (S.waits c).length #[] (S.waits c).length)
          have hsd : Side S1 (w10.alloc (.mapIter (some (S.loc (.waits c))) (S.waits c).length #[] (S.waits c).length)) W.heap.size [.int .i64 p.1, .int .i64 p.2] 71 w10.heap.size (S.loc (.waits c)) (S.waits c).length [] (S.waits c).length :=
            ⟨HO11.out.1.keep hgA, HO11.out.2, by unfold IterAt; show (w10.heap.push _)[w10.heap.size]? = _; simp, HR11.out.notmine (Nat.le_refl _)⟩
          have HSD := Lib.hid hsd
          have HRA := Lib.hid (HR11.out.grew hgA)
          have HFA := Lib.hid (Frm.grew (S := S1) hgA)
          clear hsd hgA hrange k1 kl q1 ql hupd2
          obtain ⟨r, hr10⟩ : ∃ r, w10.heap.size = r := ⟨_, rfl⟩
          have HR10 := Lib.hid hr10
          rw [hr10] at HSD
          generalize w10.alloc (.mapIter (some (S.loc (.waits c))) (S.waits c).length #[] (S.waits c).length) = wA at *
          rw [hr10]
          clear hr10
          go_loopg [92] ((S.waits c).length) (fun k _ wr => ∃ (T : St) (seen : List Nat) (last : Nat), Hid (RLoop E S S1 c p.2 T seen) ∧ Hid (Rep E T wr) ∧ Hid (Frm S1 T w10 wr) ∧ Hid (Side T wr W.heap.size [.int .i64 p.1, .int .i64 p.2] 71 r (S.loc (.waits c)) (S.waits c).length seen last) ∧
            Hid (seen.Nodup ∧ (∀ j ∈ seen, j < (S.waits c).length) ∧ (seen ≠ [] → 1 ≤ last) ∧ k + seen.length = (S.waits c).length))
          case atStart =>
            exact ⟨S1, [], _, HST.out, HRA.out, HFA.out, HSD.out, ⟨List.nodup_nil, fun j hj => absurd hj (by simp), fun h => absurd rfl h, by simp⟩⟩
          case round =>
            obtain ⟨T, seen, last, hL, hRT, hFT, hSd, hk⟩ := hrel
            have hTl : T.loc (.waits c) = S.loc (.waits c) := (hL.out.le.loc (.waits c) hc1).trans (by rw [HL1.out])
            have hTs : T.loc .srch = S.loc .srch := (hL.out.le.loc .srch trivial).trans (by rw [HL1.out])
            have hcT : c ∈ T.calls := hL.out.le.calls c hc1
            have hwm : wr.heap[S.loc (.waits c)]? = some (mapObj (T.waitsL c)) := by rw [← hTl]; exact hRT.out.waitsM hcT
            have hlen : (T.waitsL c).length = (S.waits c).length := by simp [St.waitsL, hL.out.waits]
            have hnx := run_next_mapObj (P := Try.prog) hSd.out.it hwm hk.out.2.2.1 (by rw [hlen]; exact Nat.le_refl _) 0
            rcases hnx with ⟨hall, w1', hw1', hrun⟩ | ⟨j, hj, hns, w1', hw1', hrun⟩
            · have HALL := Lib.hid hall
              have HW1 := Lib.hid hw1'
              clear hall hw1' hTl hTs hcT hwm hlen
              go_wp2_with fail
              go_end0
              exact ⟨⟨_, rfl⟩, T, hRT.out.drew0 HW1.out, ((Frm.grew (HG1.out.trans HG2.out)).trans (HF11.out.trans hFT.out)).drew0 HW1.out, HDone.out T seen hL.out fun j hj => HALL.out j hj⟩
            · have hjm : j < (S.waits c).length := by rw [← hlen]; exact hj
              have hget : (T.waitsL c)[j] = (T.waitV (S.waits c)[j], unitV) := by simp [St.waitsL, hL.out.waits]
              have hlive := hL.out.live HI.out HL.out HQ.out hjm
              obtain ⟨w11, hw11⟩ : ∃ w11, putObj w1' r (.mapIter (some (S.loc (.waits c))) (S.waits c).length (seen ++ [j]).toArray (T.waitsL c).length) = w11 := ⟨_, rfl⟩
              rw [hw11, hget] at hrun
              have hsd1 := hSd.out.step hw1' j (T.waitsL c).length
              rw [hw11] at hsd1
              have hR11 := hRT.out.step hw1' hSd.out.itn (.mapIter (some (S.loc (.waits c))) (S.waits c).length (seen ++ [j]).toArray (T.waitsL c).length)
              rw [hw11] at hR11
              have hF11 := hFT.out.newer (But.step hw1' r (.mapIter (some (S.loc (.waits c))) (S.waits c).length (seen ++ [j]).toArray (T.waitsL c).length)) (Nat.le_of_eq HR10.out)
              rw [hw11] at hF11
              have hwm1 : w11.heap[S.loc (.waits c)]? = some (mapObj (T.waitsL c)) := by rw [← hTl]; exact hR11.waitsM hcT
              have hentry := run_entry_mapObj (P := Try.prog) hj hsd1.it hwm1
              rw [hget] at hentry
              have hlastn := hk.out
              rw [hlen] at hsd1
              obtain ⟨κx, sx, hx⟩ : ∃ κx sx, (S.waits c)[j] = (κx, sx) := ⟨_, _, rfl⟩
              have HNX := Lib.hid (fun (T' : St) (h : Reached E T T' (S.waits c)[j].1 ((S.waits c)[j].2, p.2)) => hL.out.next hjm h)
              rw [hx] at hrun hentry hlive HNX
              have hle2 : Le S T := HLE1.out.trans hL.out.le
              have hlt : unseen E T < n := by rw [← HNn.out]; exact unseen_lt hle2 (HI.out.univ (κ := some c) hc HB.out) HS.out (hL.out.le.seen _ _ HGOT1.out)
              have hg12 := grew_alloc w11 (.cells #[ptrV (T.loc (.walk κx)), .int .i64 sx] 149)
              have HCall := Lib.hid (HIH.out (unseen E T) hlt T κx (sx, p.2) _ rfl (hR11.grew hg12) hL.out.inv hlive.1 ⟨hlive.2.1, HB.out.2⟩ hlive.2.2)
              rw [hTs] at HCall
              have b1 := hsd1.box.cell_at (i := 1) rfl
              have hbl := hsd1.box.lt
              have HSD1 := Lib.hid (hsd1.grew hg12)
              have HF12 := Lib.hid (hF11.trans (Frm.grew hg12))
              have HNS := Lib.hid hns
              have HJ := Lib.hid hjm
              have HK := Lib.hid hlastn
              clear hTl hTs hcT hwm hlen hns hw1' hj hjm hget hlive hw11 hsd1 hR11 hF11 hwm1 hlastn hx hle2 hlt hg12 hk hL hRT hFT hSd
              unfold St.waitV unitV ptrV at hrun hentry
              unfold ptrV at HCall HSD1 HF12
              simp only [plV] at HCall
              go_wp2_with (refine HCall.out.mono ?_; rintro e w13 ⟨⟨_, rfl⟩, T', hR', hF', hRe⟩)
              have H1 := Lib.hid (HNX.out T' hRe)
              have H2 := Lib.hid (HSD1.out.frm hF')
              have H3 := Lib.hid (HF12.out.trans hF')
              have H4 := Lib.hid hR'
              have hmore := seen_more HK.out HNS.out HJ.out
              clear hF' hR' hRe HCall hrun hentry b1 hbl
              go_roundg (gk - 1)
              case measure => exact hmore.1
              case rel => exact ⟨T', seen ++ [j], (S.waits c).length, H1.out, H4.out, H3.out, H2.out, hmore.2⟩
        · have hne : ((p.1 : Int) != (E.N.stop c.1 : Int)) = true := by simp; omega
          have hno : ∀ d, ¬(some c = some d ∧ p.1 = E.N.stop d.1) := fun d h => hq (by have h1 := h.1; simp at h1; rw [h1]; exact h.2)
          have HNO := Lib.hid hno
          clear hno hq
          refine wp_region_hav_lit follows (by kernel_rfl) ?_
          repeat (first
            | (refine HavG.skip (fun _ => rfl) ?_; simp only [Act.put, List.setIfInBounds_toArray, List.set_cons_zero, List.set_cons_succ])
            | (refine HavG.val (fun _ => rfl) ?_ (fun x w hw _ => ?_) ?_; rotate_left; (focus (have hc := hw.cells; clear hw; go_simp; first | done | rfl)); simp only [Act.put, List.setIfInBounds_toArray, List.set_cons_zero, List.set_cons_succ]))
          refine HavG.tail (by kernel_rfl) (by kernel_rfl) (fun x w hw _ => ?_)
          have HFw := Lib.hid (HF8.out.trans (Frm.grew hw))
          have HRw := Lib.hid (HR8.out.grew hw)
          clear hw b0 b1 hbl k1 k2 kl hne
          go_wp2_with fail
          refine bodyPost_ret (results_none rfl _ _ _) rfl ?_
          refine ⟨⟨_, rfl⟩, _, HRw.out, (Frm.grew (HG1.out.trans HG2.out)).trans HFw.out, ?_⟩
          rw [see_eq HBV0.out HNO.out]
          exact see_done HI.out hk HS.out HB.out HL.out HNO.out
end Go.Proofs.Ytgdcnndmdgcjlaa
