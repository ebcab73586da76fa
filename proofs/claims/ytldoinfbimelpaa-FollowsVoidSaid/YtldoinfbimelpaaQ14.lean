/- follows: begins, follows, lowers, and each rule once. -/
import Derived.Test.YtldoinfbimelpaaQ13
namespace Go.Proofs.Ytldoinfbimelpaa
open Go.RowKit

/-- sets that grow, in memory: what is not theirs lies below lim -/
structure StAt (w : World) (lim : Nat) (V : FV) (S : FS) : Prop where
  sets : SetsAt w V S
  wf : S.Wf
  inj : V.Inj S
  body : ∀ i r, S.at i = some r → ∃ b0 b1 b2 b3 b4, V.bv i = [b0, b1, b2, b3, b4] ∧ NodeAt w lim (some b0) (some b1) (some b2) (some b3) (some b4) r.body ∧ FitAt w lim (some b4) r.body
  lo : lim ≤ w.heap.size
  lof : ∀ i r, S.at i = some r → lim ≤ V.fk i ∧ lim ≤ V.gk i ∧ lim ≤ V.rk i
theorem StAt.next {w w' : World} {lim : Nat} {V : FV} {S S' : FS} (h : StAt w lim V S) (hs : SetsAt w' V S') (hw : S'.Wf) (hk : Kin S S') (hb : Below lim w w') : StAt w' lim V S' :=
  ⟨hs, hw, h.inj.kin hk, fun i r hi => by
    obtain ⟨r0, h0, h1⟩ := hk.some hi
    obtain ⟨b0, b1, b2, b3, b4, h2, h3, h4⟩ := h.body i r0 h0
    rw [h1] at h3 h4
    exact ⟨b0, b1, b2, b3, b4, h2, h3.keep hb, h4.keep hb⟩, Nat.le_trans h.lo hb.size, fun i r hi => by
    obtain ⟨r0, h0, -⟩ := hk.some hi
    exact h.lof i r0 h0⟩
theorem StAt.keep {w w' : World} {lim : Nat} {V : FV} {S : FS} (h : StAt w lim V S) (hg : Grew w w') : StAt w' lim V S := h.next (h.sets.keep hg) h.wf (Kin.refl S) (hg.mono h.lo)
/-- the sets' own blocks that turn -/
def FV.Own (V : FV) (S : FS) (q : Nat) : Prop := ∃ i r, S.at i = some r ∧ (q = V.fk i ∨ q = V.gk i ∨ q = V.rk i)
theorem FV.Own.kin {V : FV} {S S' : FS} (k : Kin S S') {q : Nat} (h : V.Own S' q) : V.Own S q := by
  obtain ⟨i, r, h1, h2⟩ := h
  obtain ⟨r0, h0, -⟩ := k.some h1
  exact ⟨i, r0, h0, h2⟩
theorem StAt.own_lo {w : World} {lim : Nat} {V : FV} {S : FS} (h : StAt w lim V S) {q : Nat} (hq : V.Own S q) : lim ≤ q := by
  obtain ⟨i, r, h1, h2⟩ := hq
  obtain ⟨a, b, c⟩ := h.lof i r h1
  rcases h2 with rfl | rfl | rfl <;> assumption
def GrIs (V : FV) (lim : Nat) (p : Bool × FS) (S : FS) (w : World) (e : Ending) (w' : World) : Prop := e = .returned (.bool p.1) ∧ StAt w' lim V p.2 ∧ Kin S p.2 ∧ But (V.Own S) w w'

set_option maxHeartbeats 1000000 in
set_option maxRecDepth 20000 in
theorem fbegins_ok (V : FV) (lim : Nat) (S : FS) (w : World) (i : Nat) (r : FR) (h : StAt w lim V S) (hi : S.at i = some r) : Calls Try.prog 26 #[.pointer (some ⟨V.sb, 0, none⟩), .pointer (some ⟨V.rk i, 0, none⟩)] w (GrIs V lim (S.gBegin i) S w) := by
  obtain ⟨r1, r2, r3, r4⟩ := h.sets.rule i r hi
  obtain ⟨b0, b1, b2, b3, b4, hb, hN, -⟩ := h.body i r hi
  obtain ⟨k0, k1, k2, k3, k4, k5, k6, k7, k8, rfl, rfl, rfl, rfl, rfl⟩ := hN.forms
  have HB := Lib.hid (fbegin_ok V S h.wf r.body w _ _ _ _ _ h.sets (hN.mono h.lo))
  have hl := begin_len h.wf r.body
  have hfl := (h.wf.first i r hi).1
  have hn9 := h.wf.n
  unfold FV.rcs at r1
  rw [hb] at r1
  have c0 := r1.cell_at (i := 0) rfl
  have c1 := r1.cell_at (i := 1) rfl
  have c2 := r1.cell_at (i := 2) rfl
  have c3 := r1.cell_at (i := 3) rfl
  have c4 := r1.cell_at (i := 4) rfl
  have cl := r1.lt
  have R1 := Lib.hid r1
  have R2 := Lib.hid r2
  have H := Lib.hid h
  have HI := Lib.hid hi
  have hG : S.gBegin i = (moreB r.first (S.begin r.body).1, S.setFst i (orB r.first (S.begin r.body).1)) := by unfold FS.gBegin; rw [hi]
  rw [hG]
  clear h hi r1 r2 r3 r4 hb hN hG
  obtain ⟨bo, bm, hbe⟩ : ∃ bo bm, S.begin r.body = (bo, bm) := ⟨_, _, rfl⟩
  rw [hbe] at HB hl ⊢
  dsimp only at hl ⊢
  clear hbe
  go_enter Try.func26, Try.ntmps26
  go_wp2_with fail
  refine HB.out.mono ?_
  rintro e w1 ⟨v, rfl, nb, rfl, hn, hlo, hg⟩
  have d6 := (R1.out.keep hg).cell_at (i := 6) rfl
  have dl := (R1.out.keep hg).lt
  have hne : nb ≠ V.fk i := by have := R2.out.lt; omega
  have HA := Lib.hid (fadd_ok w1 (V.fk i) nb S.n S.n S.n r.first bo hfl hl hn9 (R2.out.keep hg) hn hne)
  have H1 := Lib.hid (H.out.keep hg)
  have HG := Lib.hid (show Grew w w1 from hg)
  clear hn hlo hg hne c0 c1 c2 c3 c4 cl
  go_wp2_with fail
  refine HA.out.mono ?_
  rintro e w2 ⟨rfl, ho, hb⟩
  have HO := Lib.hid ho
  have HB2 := Lib.hid hb
  clear ho hb
  go_wp2_with fail
  go_ret
  have hb3 : Below lim w1 w2 := HB2.out.below H1.out.lo (fun q e => by subst e; exact (H1.out.lof i r HI.out).1)
  refine ⟨rfl, H1.out.next (H1.out.sets.setFst H1.out.inj HI.out HB2.out HO.out) (H1.out.wf.setFst i (orB_len hfl hl)) (Kin.mod S i _ fun _ => rfl) hb3, Kin.mod S i _ fun _ => rfl, But.trans (But.of_grew HG.out) HB2.out (fun q _ e => ⟨i, r, HI.out, .inl e⟩)⟩

set_option maxHeartbeats 1000000 in
set_option maxRecDepth 20000 in
theorem ffollows_ok (V : FV) (lim : Nat) (S : FS) (w : World) (i : Nat) (r : FR) (h : StAt w lim V S) (hi : S.at i = some r) : Calls Try.prog 27 #[.pointer (some ⟨V.sb, 0, none⟩), .pointer (some ⟨V.rk i, 0, none⟩)] w (GrIs V lim (S.gFollow i) S w) := by
  obtain ⟨wz, rfl⟩ : ∃ wz, wz = w := ⟨_, rfl⟩
  obtain ⟨r1, r2, r3, r4⟩ := h.sets.rule i r hi
  obtain ⟨b0, b1, b2, b3, b4, hb, hN, hF⟩ := h.body i r hi
  obtain ⟨k0, k1, k2, k3, k4, k5, k6, k7, k8, rfl, rfl, rfl, rfl, rfl⟩ := hN.forms
  have HSP := Lib.hid (fun w' (hg : Grew wz w') => fspread_ok V r.body S (.ref i) w' lim _ _ _ _ _ (.slice (some ⟨V.gk i, 0, none⟩) S.n S.n) h.wf h.inj (h.sets.keep hg) (Nat.le_trans h.lo hg.size) (fun q ⟨j, q', hj, e⟩ => by rw [e]; exact (h.lof j q' hj).2.1) (hN.keep (hg.mono h.lo)) (hF.keep (hg.mono h.lo)) ⟨⟨r, hi⟩, rfl⟩)
  unfold FV.rcs at r1
  rw [hb] at r1
  have c0 := r1.cell_at (i := 0) rfl
  have c1 := r1.cell_at (i := 1) rfl
  have c2 := r1.cell_at (i := 2) rfl
  have c3 := r1.cell_at (i := 3) rfl
  have c4 := r1.cell_at (i := 4) rfl
  have c7 := r1.cell_at (i := 7) rfl
  have cl := r1.lt
  have H := Lib.hid h
  have HI := Lib.hid hi
  have hG : S.gFollow i = FS.spread r.body (.ref i) S := by unfold FS.gFollow; rw [hi]
  rw [hG]
  clear h hi r1 r2 r3 r4 hb hN hF hG
  go_enter Try.func27, Try.ntmps27
  go_wp2_with fail
  refine wp_region_hav_lit follows (by kernel_rfl) ?_
  iterate 9 (first
    | (refine HavG.skip (fun _ => rfl) ?_; simp only [Act.put, List.setIfInBounds_toArray, List.set_cons_zero, List.set_cons_succ])
    | (refine HavG.val (fun _ => rfl) ?_ (fun x w hw _ => ?_) ?_; rotate_left; (focus (have hc := hw.cells; clear hw; go_simp; first | done | rfl)); simp only [Act.put, List.setIfInBounds_toArray, List.set_cons_zero, List.set_cons_succ]))
  refine HavG.tail (by kernel_rfl) (by kernel_rfl) (fun x w hw _ => ?_)
  have HS1 := Lib.hid (HSP.out _ hw)
  have HG := Lib.hid hw
  clear hw c0 c1 c2 c3 c4 c7 cl
  go_wp2_with fail
  refine HS1.out.mono ?_
  rintro e w2 ⟨rfl, q1, q2, q3, q4⟩
  have Q1 := Lib.hid q1
  have Q2 := Lib.hid q2
  have Q3 := Lib.hid q3
  have Q4 := Lib.hid q4
  clear q1 q2 q3 q4
  go_wp2_with fail
  go_ret
  have hb3 : Below lim w w2 := Q4.out.below (Nat.le_trans H.out.lo HG.out.size) (fun q ⟨j, q', hj, e⟩ => by rw [e]; exact (H.out.lof j q' hj).2.1)
  have hb4 : Below lim wz w2 := (HG.out.mono H.out.lo).trans hb3
  exact ⟨rfl, H.out.next Q1.out Q2.out Q3.out hb4, Q3.out, But.trans (But.of_grew HG.out) Q4.out (fun q _ ⟨j, q', hj, e⟩ => ⟨j, q', hj, .inr (.inl e)⟩)⟩

set_option maxHeartbeats 1000000 in
set_option maxRecDepth 20000 in
theorem flowers_ok (V : FV) (lim : Nat) (S : FS) (w : World) (i : Nat) (r : FR) (h : StAt w lim V S) (hi : S.at i = some r) (hlb : -1 ≤ S.lowN r.body ∧ S.lowN r.body ≤ 1000000) : Calls Try.prog 28 #[.pointer (some ⟨V.sb, 0, none⟩), .pointer (some ⟨V.rk i, 0, none⟩)] w (GrIs V lim (S.gLow i) S w) := by
  obtain ⟨r1, r2, r3, r4⟩ := h.sets.rule i r hi
  obtain ⟨b0, b1, b2, b3, b4, hb, hN, -⟩ := h.body i r hi
  obtain ⟨k0, k1, k2, k3, k4, k5, k6, k7, k8, rfl, rfl, rfl, rfl, rfl⟩ := hN.forms
  have HB := Lib.hid (flow_ok V S h.wf r.body w _ _ _ _ _ h.sets (hN.mono h.lo))
  have HR1 := Lib.hid r1
  have HBV := Lib.hid hb
  unfold FV.rcs at r1
  rw [hb] at r1
  have c0 := r1.cell_at (i := 0) rfl
  have c1 := r1.cell_at (i := 1) rfl
  have c2 := r1.cell_at (i := 2) rfl
  have c3 := r1.cell_at (i := 3) rfl
  have c4 := r1.cell_at (i := 4) rfl
  have cl := r1.lt
  have R1 := Lib.hid r1
  have H := Lib.hid h
  have HI := Lib.hid hi
  have hG : S.gLow i = if S.lowN r.body = -1 ∨ (r.low ≠ -1 ∧ r.low ≤ S.lowN r.body) then (false, S) else (true, S.setLow i (S.lowN r.body)) := by unfold FS.gLow; rw [hi]
  rw [hG]
  clear h hi r1 r2 r3 r4 hb hN hG
  generalize S.lowN r.body = z at *
  obtain ⟨lw, hlw⟩ : ∃ lw, r.low = lw := ⟨_, rfl⟩
  rw [hlw] at R1 ⊢
  have HLW := Lib.hid hlw
  have HLB := Lib.hid hlb
  clear hlw hlb
  obtain ⟨P, hP⟩ : ∃ P, (if z = -1 ∨ (lw ≠ -1 ∧ lw ≤ z) then (false, S) else (true, S.setLow i z)) = P := ⟨_, rfl⟩
  rw [hP]
  have HP := Lib.hid hP
  clear hP
  go_enter Try.func28, Try.ntmps28
  go_wp2_with fail
  refine HB.out.mono ?_
  rintro e w1 ⟨rfl, hg⟩
  have rr := R1.out.keep hg
  have d8 := rr.cell_at (i := 8) rfl
  have dl := rr.lt
  have e8 := rr.free 8
  have HRR := Lib.hid rr
  have H1 := Lib.hid (H.out.keep hg)
  have HG := Lib.hid (show Grew w w1 from hg)
  have HK1 := Lib.hid (HR1.out.keep hg)
  clear hg c0 c1 c2 c3 c4 cl rr
  by_cases hz : z = -1
  · have hzb : (z == -1) = true := by rw [hz]; rfl
    have HQ := Lib.hid (show (false, S) = P by rw [← HP.out, if_pos (.inl hz)])
    clear hz
    go_wp2_with fail
    go_ret
    rw [← HQ.out]
    exact ⟨rfl, H1.out, Kin.refl S, But.of_grew HG.out⟩
  · have hzb : (z == -1) = false := beq_eq_false_iff_ne.2 hz
    by_cases hl : lw = -1
    · have hlc : (lw == -1) = true := by rw [hl]; rfl
      have hld : (lw != -1) = false := by simp [hl]
      have HQ := Lib.hid (show (true, S.setLow i z) = P by rw [← HP.out, if_neg (by rintro (h | ⟨h, -⟩) <;> contradiction)])
      clear hl hz
      go_wp2_with fail
      go_ret
      have ho : Owns (w1.setCell ⟨V.rk i, 8, none⟩ (.int .i64 z)) (V.rk i) (V.rcs S.n i { r with low := z }) 67 := by
        have h9 := HRR.out.set 8 (.int .i64 z)
        unfold FV.rcs
        rw [HBV.out]
        exact h9
      have hb : But (fun k => k = V.rk i) w1 (w1.setCell ⟨V.rk i, 8, none⟩ (.int .i64 z)) := by rw [setCell_put HRR.out]; exact But.put (F := fun k => k = V.rk i) rfl
      have hb3 : Below lim w1 (w1.setCell ⟨V.rk i, 8, none⟩ (.int .i64 z)) := hb.below H1.out.lo (fun q e => by subst e; exact (H1.out.lof i r HI.out).2.2)
      rw [← HQ.out]
      exact ⟨rfl, H1.out.next (H1.out.sets.setLow H1.out.inj HI.out hb ho) (H1.out.wf.setLow i HLB.out.1 HLB.out.2) (Kin.mod S i _ fun _ => rfl) hb3, Kin.mod S i _ fun _ => rfl, But.trans (But.of_grew HG.out) hb (fun q _ e => ⟨i, r, HI.out, .inr (.inr e)⟩)⟩
    · have hlc : (lw == -1) = false := beq_eq_false_iff_ne.2 hl
      have hld : (lw != -1) = true := by simp [hl]
      by_cases hle : lw ≤ z
      · have HQ := Lib.hid (show (false, S) = P by rw [← HP.out, if_pos (.inr ⟨hl, hle⟩)])
        go_wp2_with fail
        go_ret
        rw [← HQ.out]
        exact ⟨rfl, H1.out, Kin.refl S, But.of_grew HG.out⟩
      · have HQ := Lib.hid (show (true, S.setLow i z) = P by rw [← HP.out, if_neg (by rintro (h | ⟨-, h⟩) <;> contradiction)])
        go_wp2_with fail
        go_ret
        have ho : Owns (w1.setCell ⟨V.rk i, 8, none⟩ (.int .i64 z)) (V.rk i) (V.rcs S.n i { r with low := z }) 67 := by
          have h9 := HRR.out.set 8 (.int .i64 z)
          unfold FV.rcs
          rw [HBV.out]
          exact h9
        have hb : But (fun k => k = V.rk i) w1 (w1.setCell ⟨V.rk i, 8, none⟩ (.int .i64 z)) := by rw [setCell_put HRR.out]; exact But.put (F := fun k => k = V.rk i) rfl
        have hb3 : Below lim w1 (w1.setCell ⟨V.rk i, 8, none⟩ (.int .i64 z)) := hb.below H1.out.lo (fun q e => by subst e; exact (H1.out.lof i r HI.out).2.2)
        rw [← HQ.out]
        exact ⟨rfl, H1.out.next (H1.out.sets.setLow H1.out.inj HI.out hb ho) (H1.out.wf.setLow i HLB.out.1 HLB.out.2) (Kin.mod S i _ fun _ => rfl) hb3, Kin.mod S i _ fun _ => rfl, But.trans (But.of_grew HG.out) hb (fun q _ e => ⟨i, r, HI.out, .inr (.inr e)⟩)⟩

set_option maxHeartbeats 1000000 in
set_option maxRecDepth 20000 in
theorem grown_gBegin (V : FV) (lim : Nat) (S : FS) (w : World) (h : StAt w lim V S) : Calls Try.prog 29 #[.pointer (some ⟨V.sb, 0, none⟩), .func (.func 26) #[.pointer (some ⟨V.sb, 0, none⟩)] #[]] w (GrIs V lim (FS.grown FS.gBegin S S.rules.length) S w) := by
  have HS := Lib.hid h
  have hlen := h.wf.len
  have b2 := h.sets.box.cell_at (i := 2) rfl
  have bl := h.sets.box.lt
  clear h
  obtain ⟨L, hL⟩ : ∃ L, S.rules.length = L := ⟨_, rfl⟩
  rw [hL] at b2 hlen ⊢
  have HL := Lib.hid hL
  clear hL
  go_enter Try.func29, Try.ntmps29
  go_wp2_with fail
  clear b2 bl
  go_loopw [4, 12] (fun v c wr => ∃ (j : Nat) (m : Bool) (Sj : FS), v = .bool m ∧ c = .int .i64 j ∧ j ≤ L ∧ Hid (FS.grown FS.gBegin S j = (m, Sj)) ∧ Hid (StAt wr lim V Sj) ∧ Hid (Kin S Sj) ∧ Hid (But (V.Own S) w wr)) (fun _ c _ => L - (intOf c).toNat)
  case atStart => exact ⟨0, false, S, rfl, rfl, by omega, rfl, HS.out, Kin.refl S, But.refl _ _⟩
  case round =>
    obtain ⟨j, m, Sj, rfl, rfl, hj, HE, HJ, HK, HB⟩ := hrel
    by_cases hlt : j < L
    · have r0 := HJ.out.sets.row.cell_at (V.ptrs_at Sj (by rw [HK.out.len, HL.out]; exact hlt))
      have rl := HJ.out.sets.row.lt
      unfold FV.ptr at r0
      have hnx : FS.grown FS.gBegin S (j + 1) = (m || (Sj.gBegin j).1, (Sj.gBegin j).2) := by rw [FS.grown, HE.out]
      have HNX := Lib.hid hnx
      clear hnx
      cases hq : Sj.at j with
      | none =>
        rw [hq] at r0
        simp only [Option.isSome_none, Bool.false_eq_true, if_false] at r0
        have HQ := Lib.hid (show Sj.gBegin j = (false, Sj) by unfold FS.gBegin; rw [hq])
        clear hq
        go_wp2_with fail
        refine ⟨⟨j + 1, m, Sj, rfl, by go_num, by omega, by unfold Hid; rw [HNX.out, HQ.out]; simp, HJ.out, HK.out, HB.out⟩, by simp [intOf]; omega⟩
      | some r =>
        rw [hq] at r0
        simp only [Option.isSome_some, if_true] at r0
        have HC := Lib.hid (fbegins_ok V lim Sj wr j r HJ.out hq)
        obtain ⟨y1, y2, hy⟩ : ∃ y1 y2, Sj.gBegin j = (y1, y2) := ⟨_, _, rfl⟩
        rw [hy] at HC HNX
        clear hy hq
        go_wp2_with fail
        refine HC.out.mono ?_
        rintro e w3 ⟨rfl, hs3, hk3, hb3⟩
        have HS3 := Lib.hid hs3
        have HK3 := Lib.hid (HK.out.trans hk3)
        have HB3 := Lib.hid (But.trans HB.out hb3 (fun q _ e => FV.Own.kin HK.out e))
        clear hs3 hk3 hb3 HC
        cases y1
        · go_wp2_with fail
          refine ⟨⟨j + 1, m, y2, rfl, by go_num, by omega, by unfold Hid; rw [HNX.out]; simp, HS3.out, HK3.out, HB3.out⟩, by simp [intOf]; omega⟩
        · go_wp2_with fail
          refine ⟨⟨j + 1, true, y2, rfl, by go_num, by omega, by unfold Hid; rw [HNX.out]; simp, HS3.out, HK3.out, HB3.out⟩, by simp [intOf]; omega⟩
    · obtain rfl : j = L := by omega
      obtain ⟨P, hP⟩ : ∃ P, FS.grown FS.gBegin S j = P := ⟨_, rfl⟩
      have HP := Lib.hid hP
      clear hP
      go_wp2_with fail
      go_ret
      rw [HE.out]
      exact ⟨rfl, HJ.out, HK.out, HB.out⟩

set_option maxHeartbeats 1000000 in
set_option maxRecDepth 20000 in
theorem grown_gFollow (V : FV) (lim : Nat) (S : FS) (w : World) (h : StAt w lim V S) : Calls Try.prog 29 #[.pointer (some ⟨V.sb, 0, none⟩), .func (.func 27) #[.pointer (some ⟨V.sb, 0, none⟩)] #[]] w (GrIs V lim (FS.grown FS.gFollow S S.rules.length) S w) := by
  have HS := Lib.hid h
  have hlen := h.wf.len
  have b2 := h.sets.box.cell_at (i := 2) rfl
  have bl := h.sets.box.lt
  clear h
  obtain ⟨L, hL⟩ : ∃ L, S.rules.length = L := ⟨_, rfl⟩
  rw [hL] at b2 hlen ⊢
  have HL := Lib.hid hL
  clear hL
  go_enter Try.func29, Try.ntmps29
  go_wp2_with fail
  clear b2 bl
  go_loopw [4, 12] (fun v c wr => ∃ (j : Nat) (m : Bool) (Sj : FS), v = .bool m ∧ c = .int .i64 j ∧ j ≤ L ∧ Hid (FS.grown FS.gFollow S j = (m, Sj)) ∧ Hid (StAt wr lim V Sj) ∧ Hid (Kin S Sj) ∧ Hid (But (V.Own S) w wr)) (fun _ c _ => L - (intOf c).toNat)
  case atStart => exact ⟨0, false, S, rfl, rfl, by omega, rfl, HS.out, Kin.refl S, But.refl _ _⟩
  case round =>
    obtain ⟨j, m, Sj, rfl, rfl, hj, HE, HJ, HK, HB⟩ := hrel
    by_cases hlt : j < L
    · have r0 := HJ.out.sets.row.cell_at (V.ptrs_at Sj (by rw [HK.out.len, HL.out]; exact hlt))
      have rl := HJ.out.sets.row.lt
      unfold FV.ptr at r0
      have hnx : FS.grown FS.gFollow S (j + 1) = (m || (Sj.gFollow j).1, (Sj.gFollow j).2) := by rw [FS.grown, HE.out]
      have HNX := Lib.hid hnx
      clear hnx
      cases hq : Sj.at j with
      | none =>
        rw [hq] at r0
        simp only [Option.isSome_none, Bool.false_eq_true, if_false] at r0
        have HQ := Lib.hid (show Sj.gFollow j = (false, Sj) by unfold FS.gFollow; rw [hq])
        clear hq
        go_wp2_with fail
        refine ⟨⟨j + 1, m, Sj, rfl, by go_num, by omega, by unfold Hid; rw [HNX.out, HQ.out]; simp, HJ.out, HK.out, HB.out⟩, by simp [intOf]; omega⟩
      | some r =>
        rw [hq] at r0
        simp only [Option.isSome_some, if_true] at r0
        have HC := Lib.hid (ffollows_ok V lim Sj wr j r HJ.out hq)
        obtain ⟨y1, y2, hy⟩ : ∃ y1 y2, Sj.gFollow j = (y1, y2) := ⟨_, _, rfl⟩
        rw [hy] at HC HNX
        clear hy hq
        go_wp2_with fail
        refine HC.out.mono ?_
        rintro e w3 ⟨rfl, hs3, hk3, hb3⟩
        have HS3 := Lib.hid hs3
        have HK3 := Lib.hid (HK.out.trans hk3)
        have HB3 := Lib.hid (But.trans HB.out hb3 (fun q _ e => FV.Own.kin HK.out e))
        clear hs3 hk3 hb3 HC
        cases y1
        · go_wp2_with fail
          refine ⟨⟨j + 1, m, y2, rfl, by go_num, by omega, by unfold Hid; rw [HNX.out]; simp, HS3.out, HK3.out, HB3.out⟩, by simp [intOf]; omega⟩
        · go_wp2_with fail
          refine ⟨⟨j + 1, true, y2, rfl, by go_num, by omega, by unfold Hid; rw [HNX.out]; simp, HS3.out, HK3.out, HB3.out⟩, by simp [intOf]; omega⟩
    · obtain rfl : j = L := by omega
      obtain ⟨P, hP⟩ : ∃ P, FS.grown FS.gFollow S j = P := ⟨_, rfl⟩
      have HP := Lib.hid hP
      clear hP
      go_wp2_with fail
      go_ret
      rw [HE.out]
      exact ⟨rfl, HJ.out, HK.out, HB.out⟩

set_option maxHeartbeats 1000000 in
set_option maxRecDepth 20000 in
theorem grown_gLow (V : FV) (lim : Nat) (S : FS) (hlb : ∀ j, j < S.rules.length → ∀ r, (FS.grown FS.gLow S j).2.at j = some r → -1 ≤ (FS.grown FS.gLow S j).2.lowN r.body ∧ (FS.grown FS.gLow S j).2.lowN r.body ≤ 1000000) (w : World) (h : StAt w lim V S) : Calls Try.prog 29 #[.pointer (some ⟨V.sb, 0, none⟩), .func (.func 28) #[.pointer (some ⟨V.sb, 0, none⟩)] #[]] w (GrIs V lim (FS.grown FS.gLow S S.rules.length) S w) := by
  have HS := Lib.hid h
  have hlen := h.wf.len
  have b2 := h.sets.box.cell_at (i := 2) rfl
  have bl := h.sets.box.lt
  have HLB := Lib.hid hlb
  clear hlb
  clear h
  obtain ⟨L, hL⟩ : ∃ L, S.rules.length = L := ⟨_, rfl⟩
  rw [hL] at b2 hlen ⊢
  have HL := Lib.hid hL
  rw [hL] at HLB
  clear hL
  go_enter Try.func29, Try.ntmps29
  go_wp2_with fail
  clear b2 bl
  go_loopw [4, 12] (fun v c wr => ∃ (j : Nat) (m : Bool) (Sj : FS), v = .bool m ∧ c = .int .i64 j ∧ j ≤ L ∧ Hid (FS.grown FS.gLow S j = (m, Sj)) ∧ Hid (StAt wr lim V Sj) ∧ Hid (Kin S Sj) ∧ Hid (But (V.Own S) w wr)) (fun _ c _ => L - (intOf c).toNat)
  case atStart => exact ⟨0, false, S, rfl, rfl, by omega, rfl, HS.out, Kin.refl S, But.refl _ _⟩
  case round =>
    obtain ⟨j, m, Sj, rfl, rfl, hj, HE, HJ, HK, HB⟩ := hrel
    by_cases hlt : j < L
    · have r0 := HJ.out.sets.row.cell_at (V.ptrs_at Sj (by rw [HK.out.len, HL.out]; exact hlt))
      have rl := HJ.out.sets.row.lt
      unfold FV.ptr at r0
      have hnx : FS.grown FS.gLow S (j + 1) = (m || (Sj.gLow j).1, (Sj.gLow j).2) := by rw [FS.grown, HE.out]
      have HNX := Lib.hid hnx
      clear hnx
      cases hq : Sj.at j with
      | none =>
        rw [hq] at r0
        simp only [Option.isSome_none, Bool.false_eq_true, if_false] at r0
        have HQ := Lib.hid (show Sj.gLow j = (false, Sj) by unfold FS.gLow; rw [hq])
        clear hq
        go_wp2_with fail
        refine ⟨⟨j + 1, m, Sj, rfl, by go_num, by omega, by unfold Hid; rw [HNX.out, HQ.out]; simp, HJ.out, HK.out, HB.out⟩, by simp [intOf]; omega⟩
      | some r =>
        rw [hq] at r0
        simp only [Option.isSome_some, if_true] at r0
        have HC := Lib.hid (flowers_ok V lim Sj wr j r HJ.out hq (by have := HLB.out j hlt r; rw [HE.out] at this; exact this hq))
        obtain ⟨y1, y2, hy⟩ : ∃ y1 y2, Sj.gLow j = (y1, y2) := ⟨_, _, rfl⟩
        rw [hy] at HC HNX
        clear hy hq
        go_wp2_with fail
        refine HC.out.mono ?_
        rintro e w3 ⟨rfl, hs3, hk3, hb3⟩
        have HS3 := Lib.hid hs3
        have HK3 := Lib.hid (HK.out.trans hk3)
        have HB3 := Lib.hid (But.trans HB.out hb3 (fun q _ e => FV.Own.kin HK.out e))
        clear hs3 hk3 hb3 HC
        cases y1
        · go_wp2_with fail
          refine ⟨⟨j + 1, m, y2, rfl, by go_num, by omega, by unfold Hid; rw [HNX.out]; simp, HS3.out, HK3.out, HB3.out⟩, by simp [intOf]; omega⟩
        · go_wp2_with fail
          refine ⟨⟨j + 1, true, y2, rfl, by go_num, by omega, by unfold Hid; rw [HNX.out]; simp, HS3.out, HK3.out, HB3.out⟩, by simp [intOf]; omega⟩
    · obtain rfl : j = L := by omega
      obtain ⟨P, hP⟩ : ∃ P, FS.grown FS.gLow S j = P := ⟨_, rfl⟩
      have HP := Lib.hid hP
      clear hP
      go_wp2_with fail
      go_ret
      rw [HE.out]
      exact ⟨rfl, HJ.out, HK.out, HB.out⟩

end Go.Proofs.Ytldoinfbimelpaa
