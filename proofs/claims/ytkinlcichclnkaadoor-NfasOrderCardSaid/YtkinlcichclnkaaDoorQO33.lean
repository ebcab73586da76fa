/- node of nfas: a literal. Printed by gennfnode.py. -/
import Derived.Lib.Hide
import Derived.Outline
import Derived.Test.YtkinlcichclnkaaDoorQO30
import Derived.Test.YtkinlcichclnkaaDoorQO27
import Derived.Test.YtkinlcichclnkaaDoorQO28
import Derived.Test.YtkinlcichclnkaaDoorQO29
import Derived.Test.YtkinlcichclnkaaDoorQO31
import Derived.Test.YtkinlcichclnkaaDoorQO32
import Derived.Test.YtkinlcichclnkaaDoorQO6
import Derived.Test.YtkinlcichclnkaaDoorQO4
namespace Go.Proofs.YtkinlcichclnkaaDoor
open Go.RowKit

set_option maxHeartbeats 8000000 in
set_option maxRecDepth 40000 in
theorem nn_lit {lim : Nat} {g0 g1 g2 g3 : Value} {g : Gr} {kind : Int} {k : Nat} (hk : k ≤ 100000) (nm tx : ByteArray) (set : List (Int × Int)) (subs : List Nd) (W : World) (V : NBV) (b : NB) (v0 v1 v2 v3 v4 : Value) (hE : NEnv W lim g0 g1 g2 g3 g) (hN : NBAt W lim g0 g1 g2 g3 kind V b) (hb : b.Ok) (hs : b.steps < ((k + 1 : Nat) : Int)) (hl : -1000000000000 ≤ b.hgt - 1) (hA : NodeAt W lim (some v0) (some v1) (some v2) (some v3) (some v4) (.mk 8 nm tx set subs)) (hf : NdFit g (.mk 8 nm tx set subs)) (ho : ¬ b.steps - 1 < 0) (hfl : b.full = false) :
    Calls Tryd.prog 17 #[.pointer (some ⟨V.bb, 0, none⟩), .agg #[v0, v1, v2, v3, v4]] W (NodeIs W lim g0 g1 g2 g3 kind V.bb (litN kind (runesOf tx) ⟨0, 0, true⟩ ⟨b.out, b.steps - 1, b.full⟩)) := by
  have HND := Lib.hid hA
  rw [NodeAt] at hA
  obtain ⟨hkk, h1, h2, h3, h4, h5, ⟨sa, sc, h6, h6', h7⟩, na, nc, h8, h8', h9⟩ := hA
  obtain rfl := Option.some.inj h3
  obtain rfl := Option.some.inj h4
  obtain rfl := Option.some.inj h5
  obtain rfl := Option.some.inj h6
  obtain rfl := Option.some.inj h8
  clear h3 h4 h5 h6 h8
  unfold reachN at h1 h2 h6' h8'
  have hhg : b.hgt ≤ b.steps := by unfold NB.hgt; omega
  have HL := Lib.hid hN.low
  have HFIT := Lib.hid hf
  have HH := Lib.hid hl
  have HB0 := Lib.hid hb
  obtain ⟨st, hst⟩ : ∃ st, b.steps = st := ⟨_, rfl⟩
  have HST := Lib.hid hst
  obtain ⟨bo, hbo⟩ : ∃ bo, b.out = bo := ⟨_, rfl⟩
  have HBO := Lib.hid hbo
  have hB := boxN3 W [.int .u8 8, .string nm, .string tx, .slice sa set.length sc, .slice na subs.length nc]
  obtain ⟨w1, hw1⟩ : ∃ w1, (W.alloc (.cells #[.int .u8 8, .string nm, .string tx, .slice sa set.length sc, .slice na subs.length nc] 34)).alloc (.cells Tryd.zeroCells70 70) = w1 := ⟨_, rfl⟩
  obtain ⟨w3, hw3⟩ : ∃ w3, w1.alloc (.cells Tryd.zeroCells70 70) = w3 := ⟨_, rfl⟩
  rw [hw1, hw3] at hB
  have z1 : w1.heap.size = W.heap.size + 1 + 1 := by rw [← hw1]; simp only [World.size_alloc]
  have O1 := Lib.hid hB.o1
  have O2 := Lib.hid hB.o2
  have O3 := Lib.hid hB.o3
  have HN := Lib.hid (hN.grew hB.grew)
  have HK := Lib.hid (KpF.grew hB.grew hN.low)
  have HE := Lib.hid hE
  have H7 := Lib.hid h7
  have H9 := Lib.hid h9
  rw [hst] at hs ho hhg
  clear hB hN hE h9 h7 hf hb hst hbo
  have hl2 : -1000000000000 ≤ st - 1 := by have := HH.out; omega
  have HFL := Lib.hid hfl
  rw [hfl]
  go_enter Tryd.func17, Tryd.ntmps17
  go_upto_region 1 with fail
  apply wp_region_lit
  refine wpList_runV rfl (partV ⟨0, 0, true⟩) (exec_build_true rfl rfl) ?_
  simp only [Act.put, List.setIfInBounds_toArray, List.set_cons_zero, List.set_cons_succ]
  refine wpList_runW rfl (.pointer (some ⟨W.heap.size + 1 + 1, 0, none⟩)) (by rw [exec_alloc_part rfl, hw3, z1]) ?_
  simp only [Act.put, List.setIfInBounds_toArray, List.set_cons_zero, List.set_cons_succ]
  refine wpList_store_part O3.out rfl _ _ rfl rfl rfl ?_
  intro w4 o4 b4
  have P3 := Lib.hid o4
  have P1 := Lib.hid (b4.owns O1.out (by omega))
  have P2 := Lib.hid (b4.owns O2.out (by omega))
  have N4 := Lib.hid (HN.out.other O3.out not_part (by decide) b4)
  have K4 := Lib.hid (HK.out.fresh b4 (by omega) HL.out)
  clear o4 b4
  simp only [Act.put]
  clear hw1 hw3 z1 O1 O2 O3 HN HK
  have hbx := N4.out.box
  rw [HST.out, HFL.out] at hbx
  have k6 := hbx.cell_at (i := 6) rfl
  have f6 := hbx.free 6
  have lb := hbx.lt
  obtain ⟨w5, hw5⟩ : ∃ w5, w4.setCell ⟨V.bb, 6, none⟩ (.int .i64 (st - 1)) = w5 := ⟨_, rfl⟩
  have b5 : But (fun k => k = V.bb) w4 w5 := hw5 ▸ set_but hbx
  have o5 : Owns w5 V.bb [g0, g1, g2, g3, .int .i64 kind, V.ov, .int .i64 (st - 1), .bool false] 62 := by
    have := hbx.set 6 (.int .i64 (st - 1))
    rw [hw5] at this
    exact this
  have N5 := Lib.hid (N4.out.boxed b5 o5)
  have K5 := Lib.hid (K4.out.trans (KpF.bld b5 N4.out.low N4.out.blo hbx (.inl rfl)))
  have Q1 := Lib.hid (b5.owns P1.out (owns_ne P1.out hbx (by decide)))
  have Q2 := Lib.hid (b5.owns P2.out (owns_ne P2.out hbx (by decide)))
  have Q3 := Lib.hid (b5.owns P3.out (owns_ne P3.out hbx (by decide)))
  have E5 := Lib.hid (HE.out.kp K5.out)
  have R6 := o5.cell_at (i := 6) rfl
  have R7 := o5.cell_at (i := 7) rfl
  have R8 := o5.free 7
  have lb5 := o5.lt
  have HO5 := Lib.hid o5
  have n0 := Q1.out.cell_at (i := 0) rfl
  have n1 := Q1.out.cell_at (i := 1) rfl
  have n2 := Q1.out.cell_at (i := 2) rfl
  have n3 := Q1.out.cell_at (i := 3) rfl
  have n4 := Q1.out.cell_at (i := 4) rfl
  have nl := Q1.out.lt
  clear hbx b5 o5 P1 P2 P3 N4 K4
  have HB5 : Hid (NB.Ok ⟨b.out, st - 1, false⟩) := Lib.hid ⟨HB0.out.few, HB0.out.fol⟩
  have ho2 : ¬ (st - 1 < 0) := ho
  go_upto_region 3 with fail
  clear k6 f6 lb hw5
  go_upto_region 6 with fail
  clear R6 R7 R8
  obtain ⟨q, hq⟩ : ∃ q, litN kind (runesOf tx) ⟨0, 0, true⟩ ⟨b.out, b.steps - 1, false⟩ = q := ⟨_, rfl⟩
  have HQ := Lib.hid hq
  rw [HST.out, runesOf] at hq
  have HQ2 := Lib.hid hq.symm
  clear hq
  obtain ⟨q1, q2, q3, q4, q5, q6, ra, rc, q7, q8, q9⟩ := HE.out.gr
  obtain rfl := Option.some.inj q1
  obtain rfl := Option.some.inj q3
  obtain rfl := Option.some.inj q4
  obtain rfl := Option.some.inj q7
  clear q1 q2 q3 q4 q5 q6 q7 q9 q8
  obtain ⟨w8, hw8⟩ : ∃ w8, w5.iter tx 0 = w8 := ⟨_, rfl⟩
  have g8 : Grew w5 w8 := hw8 ▸ grew_alloc w5 _
  have I8 := Lib.hid (show w8.heap[w5.heap.size]? = some (.stringIter tx 0) from hw8 ▸ World.iter_heap w5 tx 0)
  have O8 := Lib.hid (Q3.out.keep g8)
  have N8 := Lib.hid (N5.out.grew g8)
  have K8 := Lib.hid (K5.out.trans (KpF.grew g8 N5.out.low))
  have Q8 := Lib.hid (Q2.out.keep g8)
  have KZ := Lib.hid (show W.heap.size ≤ w5.heap.size from K5.out.low.size)
  clear g8
  go_upto_region 22 with fail
  clear n0 n1 n2 n3 n4 nl
  go_loopw [74] (fun _ wr => ∃ (pos f : Nat) (Vj : NBV) (x : NPart) (bj : NB), wr.heap[w5.heap.size]? = some (.stringIter tx pos) ∧ tx.size ≤ pos + f ∧ Vj.bb = V.bb ∧ Hid (KpF lim W wr) ∧ Hid (NBAt wr lim (.string g.name) (.int .i64 g.bound) (.int .i64 g.states) (.slice ra g.rules.length rc) kind Vj bj) ∧ Hid (Owns wr (W.heap.size + 1 + 1) (partL x) 70) ∧ Hid (Owns wr (W.heap.size + 1) (partL ⟨0, 0, false⟩) 70) ∧ Hid bj.Ok ∧ Hid (x.In bj.out.length) ∧ Hid (q = litN kind (runesAt tx f pos) x bj)) (fun _ wr => tx.size + 4 - wr.iterPos w5.heap.size)
  case atStart => exact ⟨0, tx.size, V, ⟨0, 0, true⟩, ⟨b.out, st - 1, false⟩, I8.out, by omega, rfl, K8.out, N8.out, O8.out, Q8.out, HB5.out, NPart.In.zero, HQ2.out⟩
  case round =>
    obtain ⟨pos, f, Vj, x, bj, hit, hf, hVj, KR, NR, XR, TR, OKR, INR, HEQ⟩ := hrel
    by_cases hlt : pos < tx.size
    · as_aux_lemma => -- ok
        have hnx : ∀ ty, (Instr.next (.pointer (some ⟨w5.heap.size, 0, none⟩)) true ty).run Tryd.prog wr = _ := fun ty => Lib.run_next_any_at wr w5.heap.size tx pos ty hit hlt
        obtain ⟨f', hf', hru⟩ := runesAt_step hlt hf
        have hz := width_posN tx pos hlt
        generalize Utf8.decode tx pos = dd at *
        obtain ⟨r, z⟩ := dd
        simp only at hnx hf' hru hz
        have HRU := Lib.hid hru
        have HZ := Lib.hid hz
        clear hru hz
        have bi := iter_but (w := wr) w5.heap.size tx (pos + z)
        have hit1 := Lib.iterAt_heap wr _ tx pos (pos + z) hit
        obtain ⟨wi, hwi⟩ : ∃ wi, wr.iterAt w5.heap.size tx (pos + z) = wi := ⟨_, rfl⟩
        have NI := Lib.hid (hwi ▸ NR.out.iter hit (pos + z))
        rw [hwi] at bi hit1
        have KI := Lib.hid (KR.out.fresh bi KZ.out HL.out)
        have XI := Lib.hid (bi.owns XR.out (iter_ne XR.out hit))
        have RI := Lib.hid (bi.owns TR.out (iter_ne TR.out hit))
        have HIT := Lib.hid hit1
        obtain ⟨y, hy⟩ : ∃ y, bj.place kind [((r : Int), (r : Int))] = y := ⟨_, rfl⟩
        have HSO := Lib.hid (NB.place_to OKR.out kind [((r : Int), (r : Int))])
        have HPL : Hid (∀ w (Vw : NBV) (sb : Nat), Vw.bb = V.bb → NBAt w lim (.string g.name) (.int .i64 g.bound) (.int .i64 g.states) (.slice ra g.rules.length rc) kind Vw bj → Owns w sb [.int .i32 (r : Int), .int .i32 (r : Int)] 58 → Calls Tryd.prog 34 #[.pointer (some ⟨V.bb, 0, none⟩), .slice (some ⟨sb, 0, none⟩) 1 1] w (fun e w' => e = .returned (partV y.1) ∧ KpF lim w w' ∧ ∃ V6, V6.bb = V.bb ∧ NBAt w' lim (.string g.name) (.int .i64 g.bound) (.int .i64 g.states) (.slice ra g.rules.length rc) kind V6 y.2)) := Lib.hid fun w Vw sb hv hn ho => by
          rw [← hv, ← hy]
          exact nplace_ok w lim _ _ _ _ kind Vw bj hn OKR.out [((r : Int), (r : Int))] (by simp) (some ⟨sb, 0, none⟩) 1 (fun w' hk => rg_at (hk.owns ho rg_not))
        rw [hy] at HSO
        have HY := Lib.hid hy
        clear hy bi hit1
        go_upto_region 24 with fail
        clear hnx hwi
        refine wp_region_hav_litJ (p0 := 7) (J := NBJ lim (.string g.name) (.int .i64 g.bound) (.int .i64 g.states) (.slice ra g.rules.length rc) kind V.bb bj y.2) (kpf_rel lim) (NBJ.before hVj NI.out) follows (by kernel_rfl) ?_
        iterate 6 (first
          | (refine HavJ.val (kpf_rel lim) (by decide) (fun _ => rfl) (partV x) (fun u w hw _ => exec_load_part (hw.owns XI.out not_part) rfl rfl) ?_; simp only [Act.put, List.setIfInBounds_toArray, List.set_cons_zero, List.set_cons_succ])
          | (refine HavJ.val (kpf_rel lim) (by decide) (fun _ => rfl) ?_ (fun u w hw _ => ?_) ?_; rotate_left; (focus (clear hw; go_simp; first | done | rfl)); simp only [Act.put, List.setIfInBounds_toArray, List.set_cons_zero, List.set_cons_succ]))
        refine HavJ.any (by decide) (fun _ => rfl) (fun v w => ∃ sb, v = .slice (some ⟨sb, 0, none⟩) 1 1 ∧ Owns w sb [.int .i32 (r : Int), .int .i32 (r : Int)] 58) (fun v w w' hg ⟨t, h1, h2⟩ => ⟨t, h1, hg.owns h2 rg_not⟩) (fun u w b hw hJ _ => ?_) ?_
        · obtain ⟨Vw, hVw, hNw⟩ := hJ
          rw [exec_slice_rg rfl rfl]
          exact ⟨⟨KpF.grew (grew_alloc w _) hNw.low, Vw, hVw, hNw.grew (grew_alloc w _)⟩, _, rfl, Owns.alloc w _ _⟩
        simp only [Act.put, List.setIfInBounds_toArray, List.set_cons_zero, List.set_cons_succ]
        refine HavJ.one rfl (fun _ => rfl) (fun v w => v = partV y.1) (fun _ _ _ _ h => h) (fun u w hw hJ hd => ?_) ?_
        · obtain ⟨sb, hx, ho⟩ := hd _ (List.mem_append_right _ (List.mem_singleton.2 rfl)) (by kernel_rfl)
          dsimp only at hx
          obtain ⟨Vw, hVw, hNw⟩ := hJ
          have HC := Lib.hid (HPL.out w Vw sb hVw hNw ho)
          clear hw hNw hd ho
          simp only [hx]
          go_simp
          refine HC.out.mono ?_
          rintro e w' ⟨rfl, hK6, V6, hV6, hN6⟩
          exact ⟨⟨hK6, V6, hV6, hN6⟩, rfl⟩
        simp only [Act.put, List.setIfInBounds_toArray, List.set_cons_zero, List.set_cons_succ]
        refine HavJ.tail (by decide) (by kernel_rfl) (by kernel_rfl) (fun u w3 hg hJ hd => ?_)
        have hx := hd _ (List.mem_append_right _ (List.mem_singleton.2 rfl))
        dsimp only at hx
        obtain ⟨V3, hV3, hN3⟩ := hJ
        have N3 := Lib.hid (show NBAt w3 _ _ _ _ _ _ V3 y.2 from hN3)
        have K3 := Lib.hid (KI.out.trans hg)
        have X3 := Lib.hid (hg.owns XI.out not_part)
        have R3 := Lib.hid (hg.owns RI.out not_part)
        have IT3 := Lib.hid (hg.itr _ _ _ HIT.out)
        have E3 := Lib.hid (HE.out.kp K3.out)
        clear hd hN3 hg
        simp only [hx]
        clear hx
        have hlen : y.2.out.length = (y.2.follow x.last y.1.first).out.length := (follow_len _ _ _).symm
        have HLEN := Lib.hid hlen
        clear hlen
        have HNJ := Lib.hid (njoined_ok w3 lim _ _ _ _ kind V3 y.2 N3.out HSO.out.1.ok x y.1 (INR.out.mono HSO.out.1.more) HSO.out.2 E3.out.tab E3.out.pos)
        rw [hV3] at HNJ
        go_wp2_with (first
          | (refine HNJ.out.mono ?_; rintro e w4 ⟨rfl, hN4, hK4⟩; have K4 := Lib.hid (K3.out.trans hK4); have N4 := Lib.hid hN4; have X4 := Lib.hid (hK4.owns X3.out not_part); have R4 := Lib.hid (hK4.owns R3.out not_part); have IT4 := Lib.hid (hK4.itr _ _ _ IT3.out); clear hN4 hK4)
          | (refine wpList_store_part X4.out rfl _ _ rfl rfl rfl ?_; intro w9 o9 b9; have O9 := Lib.hid o9; have N9 := Lib.hid (N4.out.other X4.out not_part (by decide) b9); have K9 := Lib.hid (K4.out.fresh b9 (by omega) HL.out); have hi9 := (b9.block w5.heap.size (Array.getElem?_eq_some_iff.1 IT4.out).1 (fun e => iter_ne X4.out IT4.out e.symm)).trans IT4.out; have R9 := Lib.hid (b9.owns R4.out (by omega)); clear o9 b9; simp only [Act.put]))
        refine ⟨⟨pos + z, f', V3, joinP x y.1, y.2.follow x.last y.1.first, hi9, hf', hV3, K9.out, N9.out, O9.out, R9.out, (NB.follow_to HSO.out.1.ok HSO.out.2.1).ok, HLEN.out ▸ joinP_in (INR.out.mono HSO.out.1.more) HSO.out.2, ?_⟩, ?_⟩
        · refine Lib.hid ?_
          rw [HEQ.out, HRU.out, litN, HY.out]
        · unfold World.iterPos
          rw [hi9, hit]
          simp only
          have := HZ.out
          omega
    · have hnx : ∀ ty, (Instr.next (.pointer (some ⟨w5.heap.size, 0, none⟩)) true ty).run Tryd.prog wr = _ := fun ty => Lib.run_next_end_at wr w5.heap.size tx pos ty hit hlt
      rw [runesAt_end hlt, litN] at HEQ
      clear hw8
      go_upto_region 35 with fail
      apply wp_region_lit
      refine wpList_load_part XR.out rfl _ rfl rfl ?_
      simp only [Act.put, List.setIfInBounds_toArray, List.set_cons_zero, List.set_cons_succ]
      refine wpList_store_part TR.out rfl _ _ rfl rfl rfl ?_
      intro w9 o9 b9
      have O9 := Lib.hid o9
      have N9 := Lib.hid (NR.out.other TR.out not_part (by decide) b9)
      have K9 := Lib.hid (KR.out.fresh b9 (by omega) HL.out)
      clear o9 b9
      simp only [Act.put]
      go_wp2_with fail
      refine bodyPost_ret (ret_part rfl _ O9.out rfl) rfl ?_
      rw [HQ.out, HEQ.out]
      exact ⟨rfl, K9.out, Vj, hVj, N9.out⟩

end Go.Proofs.YtkinlcichclnkaaDoor

/- node of nfas, whatever it is of. -/
namespace Go.Proofs.YtkinlcichclnkaaDoor
open Go.RowKit

theorem nnode_ok (lim : Nat) (g0 g1 g2 g3 : Value) (g : Gr) (kind : Int) : ∀ k, k ≤ 100000 → NodeC lim g0 g1 g2 g3 g kind k
  | 0, _ => by
    intro n W V b v0 v1 v2 v3 v4 hE hN hb hs hl hA hf
    obtain ⟨kd, nm, tx, set, subs⟩ := n
    have := nn_closed (k := 0) (by omega) kd nm tx set subs W V b v0 v1 v2 v3 v4 hE hN hb (by omega) hl hA hf (by rw [Bool.or_eq_true, decide_eq_true_eq]; left; omega)
    rw [nodeN]
    exact this
  | k + 1, hk => by
    have hrec := nnode_ok lim g0 g1 g2 g3 g kind k (by omega)
    intro n W V b v0 v1 v2 v3 v4 hE hN hb hs hl hA hf
    obtain ⟨kd, nm, tx, set, subs⟩ := n
    have hk' : k ≤ 100000 := by omega
    by_cases hcl : (decide (b.steps - 1 < 0) || b.full) = true
    · rw [nodeN, if_pos hcl]
      exact nn_closed hk' kd nm tx set subs W V b v0 v1 v2 v3 v4 hE hN hb hs hl hA hf hcl
    · rw [nodeN, if_neg hcl]
      rw [Bool.or_eq_true, decide_eq_true_eq, not_or, Bool.not_eq_true] at hcl
      obtain ⟨ho, hfl⟩ := hcl
      by_cases e0 : kd = 0
      · subst e0; exact nn_alts hrec hk' nm tx set subs W V b v0 v1 v2 v3 v4 hE hN hb hs hl hA hf ho hfl
      rw [if_neg e0]
      by_cases e1 : kd = 1
      · subst e1; exact nn_seq hrec hk' nm tx set subs W V b v0 v1 v2 v3 v4 hE hN hb hs hl hA hf ho hfl
      rw [if_neg e1]
      by_cases e8 : kd = 8
      · subst e8; exact nn_lit hk' nm tx set subs W V b v0 v1 v2 v3 v4 hE hN hb hs hl hA hf ho hfl
      rw [if_neg e8]
      by_cases e9 : kd = 9
      · subst e9; exact nn_set hrec hk' nm tx set subs W V b v0 v1 v2 v3 v4 hE hN hb hs hl hA hf ho hfl
      rw [if_neg e9]
      by_cases e6 : kd = 6
      · subst e6; exact nn_tok hrec hk' nm tx set subs W V b v0 v1 v2 v3 v4 hE hN hb hs hl hA hf ho hfl
      rw [if_neg e6]
      by_cases e2 : kd = 2
      · subst e2; exact nn_opt hrec hk' nm tx set subs W V b v0 v1 v2 v3 v4 hE hN hb hs hl hA hf ho hfl
      rw [if_neg e2]
      by_cases e3 : kd = 3
      · subst e3; exact nn_star hrec hk' nm tx set subs W V b v0 v1 v2 v3 v4 hE hN hb hs hl hA hf ho hfl
      rw [if_neg e3]
      by_cases e4 : kd = 4
      · subst e4; exact nn_plus hrec hk' nm tx set subs W V b v0 v1 v2 v3 v4 hE hN hb hs hl hA hf ho hfl
      rw [if_neg e4]
      exact nn_other hk' kd nm tx set subs e0 e1 e8 e9 e6 e2 e3 e4 W V b v0 v1 v2 v3 v4 hE hN hb hs hl hA hf ho hfl
end Go.Proofs.YtkinlcichclnkaaDoor

/- NfasOrder's plain law: where rules stand makes no difference. -/
namespace Go.Proofs.YtkinlcichclnkaaDoor

def NamesB (l : List Rl) : Prop := l.Pairwise fun a b => sameB a.name b.name = false
theorem sameB_trans' {a b c : ByteArray} (h : sameB a c = true) (k : sameB b c = true) : sameB a b = true :=
  (sameB_iff a b).2 (((sameB_iff a c).1 h).trans ((sameB_iff b c).1 k).symm)
theorem find_mem : ∀ {l : List Rl}, NamesB l → ∀ (nm : ByteArray) (r : Rl), l.find? (fun r => sameB r.name nm) = some r ↔ r ∈ l ∧ sameB r.name nm = true
  | [], _, nm, r => by simp
  | x :: l, h, nm, r => by
    obtain ⟨h1, h2⟩ := List.pairwise_cons.1 h
    rw [List.find?_cons]
    cases hx : sameB x.name nm with
    | true =>
      simp only
      constructor
      · intro e
        cases e
        exact ⟨List.mem_cons_self .., hx⟩
      · rintro ⟨hm, hr⟩
        rcases List.mem_cons.1 hm with rfl | hm
        · rfl
        · have := h1 r hm
          rw [sameB_trans' hx hr] at this
          cases this
    | false =>
      simp only
      rw [find_mem h2 nm r, List.mem_cons]
      constructor
      · rintro ⟨hm, hr⟩
        exact ⟨.inr hm, hr⟩
      · rintro ⟨rfl | hm, hr⟩
        · rw [hx] at hr; cases hr
        · exact ⟨hm, hr⟩
theorem find_same {l l' : List Rl} (h : NamesB l) (h' : NamesB l') (hm : ∀ r, r ∈ l ↔ r ∈ l') (nm : ByteArray) : l.find? (fun r => sameB r.name nm) = l'.find? fun r => sameB r.name nm := by
  apply Option.ext
  intro r
  rw [find_mem h, find_mem h', hm]
theorem lk_same {g h : Gr} (hg : NamesB g.rules) (hh : NamesB h.rules) (hm : ∀ r, r ∈ g.rules ↔ r ∈ h.rules) : g.lk = h.lk := by
  funext nm
  unfold Gr.lk
  rw [find_same hg hh hm nm]
def fragR (r : Rl) : Bool := r.sort == 2
def restR (r : Rl) : Bool := !fragR r && !tokR r
def sortedL (l : List Rl) : List Rl := l.filter fragR ++ l.filter tokR ++ l.filter restR
theorem sorted_mem (l : List Rl) (r : Rl) : r ∈ l ↔ r ∈ sortedL l := by
  unfold sortedL
  simp only [List.mem_append, List.mem_filter]
  constructor
  · intro h
    cases h1 : fragR r
    · cases h2 : tokR r
      · exact .inr ⟨h, by unfold restR; rw [h1, h2]; rfl⟩
      · exact .inl (.inr ⟨h, rfl⟩)
    · exact .inl (.inl ⟨h, rfl⟩)
  · rintro ((h | h) | h) <;> exact h.1
theorem frag_tok (r : Rl) (h : fragR r = true) : tokR r = false := by
  unfold fragR at h
  unfold tokR
  rw [beq_iff_eq] at h
  rw [h]
  rfl
theorem sorted_toks (l : List Rl) : (sortedL l).filter tokR = l.filter tokR := by
  unfold sortedL
  rw [List.filter_append, List.filter_append]
  have h1 : (l.filter fragR).filter tokR = [] := List.filter_eq_nil_iff.2 fun r hr => by
    rw [frag_tok r (List.mem_filter.1 hr).2]
    simp
  have h2 : (l.filter tokR).filter tokR = l.filter tokR := List.filter_eq_self.2 fun r hr => (List.mem_filter.1 hr).2
  have h3 : (l.filter restR).filter tokR = [] := List.filter_eq_nil_iff.2 fun r hr => by
    have := (List.mem_filter.1 hr).2
    unfold restR at this
    rw [Bool.and_eq_true, Bool.not_eq_true', Bool.not_eq_true'] at this
    rw [this.2]
    simp
  rw [h1, h2, h3, List.nil_append, List.append_nil]
theorem made_same {g h : Gr} (hr : h.rules = sortedL g.rules) (hg : NamesB g.rules) (hh : NamesB h.rules) : g.made = h.made := by
  unfold Gr.made
  rw [lk_same hg hh (fun r => by rw [hr]; exact sorted_mem _ _), show h.toks = g.toks by unfold Gr.toks; rw [hr, sorted_toks]]
end Go.Proofs.YtkinlcichclnkaaDoor

/- How much a node is: it is gone through no deeper than 100, and no further than 9000. -/
namespace Go.Proofs.YtkinlcichclnkaaDoor
open Go.RowKit

mutual
def Nd.total : Nd → Nat
  | .mk _ nm tx set subs => 1 + tx.size + nm.size + set.length + Nd.totals subs
def Nd.totals : List Nd → Nat
  | [] => 0
  | n :: r => n.total + Nd.totals r
end

theorem Nd.totals_snoc (l : List Nd) (n : Nd) : Nd.totals (l ++ [n]) = Nd.totals l + n.total := by
  induction l with
  | nil => simp [Nd.totals]
  | cons x r ih => simp only [List.cons_append, Nd.totals, ih]; omega
theorem Nd.totals_take (l : List Nd) (k : Nat) (h : k < l.length) : Nd.totals (l.take (k + 1)) = Nd.totals (l.take k) + l[k].total := by
  rw [List.take_succ_eq_append_getElem h, Nd.totals_snoc]

/-- the sum that is kept in the loop -/
def WtAt (own : Nat) (l : List Nd) (i : Nat) (q : Int) : Prop := 0 ≤ q ∧ (q < 9000 → q = own + Nd.totals (l.take i))
def WtIs (n : Nd) (deep : Int) (e : Ending) : Prop := ∃ r : Int, e = .returned (.int .i64 r) ∧ 0 ≤ r ∧ r ≤ 422212465065985 + 9000 * (102 - deep) ∧ (r < 9000 → r = n.total)

theorem wtAt_next {own : Nat} {l : List Nd} {i : Nat} {q r : Int} (h : WtAt own l i q) (hi : i < l.length) (hq : q < 9000) (hr : 0 ≤ r) (hr' : r < 9000 → r = l[i].total) : WtAt own l (i + 1) (q + r) := by
  obtain ⟨h1, h2⟩ := h
  refine ⟨by omega, fun h3 => ?_⟩
  rw [Nd.totals_take l i hi, h2 hq]
  have := hr' (by omega)
  omega

set_option maxHeartbeats 1000000 in
theorem weight_ok (n : Nd) : ∀ (W : World) (v0 v1 v2 v3 v4 : Value) (deep : Int), 0 ≤ deep → deep ≤ 101 → NodeAt W W.heap.size (some v0) (some v1) (some v2) (some v3) (some v4) n →
    Calls Tryd.prog 42 #[.agg #[v0, v1, v2, v3, v4], .int .i64 deep] W fun e W' => WtIs n deep e ∧ Below W.heap.size W W' := by
  induction n using Nd.ind with
  | h k nm tx set subs ih =>
  intro W v0 v1 v2 v3 v4 deep hd0 hd1 hN
  rw [NodeAt] at hN
  obtain ⟨hk, h1, h2, h3, h4, h5, ⟨sa, sc, h6, h6', h7⟩, na, nc, h8, h8', h9⟩ := hN
  obtain rfl := Option.some.inj h3
  obtain rfl := Option.some.inj h4
  obtain rfl := Option.some.inj h5
  obtain rfl := Option.some.inj h6
  obtain rfl := Option.some.inj h8
  clear h3 h4 h5 h6 h8
  unfold reachN at h1 h2 h6' h8'
  by_cases hdeep : deep ≤ 100
  · go_enter Tryd.func42, Tryd.ntmps42
    go_wp2
    go_loopw [5, 6] (fun v i wr => ∃ (q : Int) (j : Nat), v = .int .i64 q ∧ i = .int .i64 j ∧ j ≤ subs.length ∧ WtAt (1 + tx.size + nm.size + set.length) subs j q ∧ q ≤ 422212465065985 + 9000 * (102 - deep) ∧ Below W.heap.size W wr ∧ W.heap.size < wr.heap.size ∧ wr.cell? ⟨W.heap.size, 4, none⟩ = some (.slice na subs.length nc)) (fun _ i _ => subs.length - (intOf i).toNat)
    case atStart =>
      refine ⟨_, 0, rfl, rfl, by omega, ⟨by omega, fun _ => by simp [Nd.totals]⟩, by omega, ?_, by simp, ?_⟩
      · exact (Below.refl _ _).alloc (Nat.le_refl _) _
      · simp [go_sem]
    case round =>
      obtain ⟨q, j, rfl, rfl, hj, hwt, hq1, hbw, hsz, hbox⟩ := hrel
      have hq0 := hwt.1
      by_cases hlt : j < subs.length
      · by_cases hlq : q < 9000
        · obtain ⟨b, off, rfl, hb, hnode⟩ := (h9.keep hbw).get hlt
          simp only [Nat.zero_add] at hnode
          obtain ⟨u0, u1, u2, u3, u4, e0, e1, e2, e3, e4, hnode⟩ := hnode.vals
          have hsub := ih j hlt wr u0 u1 u2 u3 u4 (deep + 1) (by omega) (by omega) (hnode.mono hbw.size)
          have HS := Lib.hid hsub
          have HW := Lib.hid hwt
          clear hsub hwt hnode ih h7 h9
          go_wp2_with (go_at_call 42; refine HS.out.mono ?_; rintro e w' ⟨⟨r, rfl, hr0, hr1, hr2⟩, hb2⟩)
          exact ⟨⟨q + r, j + 1, rfl, by go_num, by omega, wtAt_next HW.out hlt hlq hr0 hr2, by omega, hbw.trans (hb2.mono (by omega)), by have := hb2.size; omega, by rw [hb2.cell hsz]; exact hbox⟩, by simp [intOf]; omega⟩
        · have HW := Lib.hid hwt
          clear hwt ih h7 h9
          go_wp2_with fail
          go_ret
          exact ⟨⟨q, rfl, hq0, by omega, fun h => by omega⟩, hbw⟩
      · have HW := Lib.hid hwt
        clear hwt ih h7 h9
        go_wp2_with fail
        go_ret
        refine ⟨⟨q, rfl, hq0, by omega, fun h => ?_⟩, hbw⟩
        have := HW.out.2 h
        rw [List.take_of_length_le (by omega)] at this
        rw [this, Nd.total]
        omega
  · clear ih h7 h9
    go_enter Tryd.func42, Tryd.ntmps42
    go_wp2_with fail
    go_ret
    exact ⟨⟨9000, rfl, by omega, by omega, fun h => by omega⟩, (Below.refl _ _).alloc (Nat.le_refl _) _⟩
end Go.Proofs.YtkinlcichclnkaaDoor
