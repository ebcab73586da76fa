/- node of nfas: the subs, one behind the other. Printed by gennfnode.py. -/
import Derived.Test.YtkinlcichclnkaaDoorQT28
namespace Go.Proofs.YtkinlcichclnkaaDoor
open Go.RowKit

set_option maxHeartbeats 8000000 in
set_option maxRecDepth 40000 in
theorem nn_seq {lim : Nat} {g0 g1 g2 g3 : Value} {g : Gr} {kind : Int} {k : Nat} (hrec : NodeC lim g0 g1 g2 g3 g kind k) (hk : k ≤ 100000) (nm tx : ByteArray) (set : List (Int × Int)) (subs : List Nd) (W : World) (V : NBV) (b : NB) (v0 v1 v2 v3 v4 : Value) (hE : NEnv W lim g0 g1 g2 g3 g) (hN : NBAt W lim g0 g1 g2 g3 kind V b) (hb : b.Ok) (hs : b.steps < ((k + 1 : Nat) : Int)) (hl : -1000000000000 ≤ b.hgt - 1) (hA : NodeAt W lim (some v0) (some v1) (some v2) (some v3) (some v4) (.mk 1 nm tx set subs)) (hf : NdFit g (.mk 1 nm tx set subs)) (ho : ¬ b.steps - 1 < 0) (hfl : b.full = false) :
    Calls Tryd.prog 17 #[.pointer (some ⟨V.bb, 0, none⟩), .agg #[v0, v1, v2, v3, v4]] W (NodeIs W lim g0 g1 g2 g3 kind V.bb (seqN (nodeN g.lk kind k) subs ⟨0, 0, true⟩ ⟨b.out, b.steps - 1, b.full⟩)) := by
  have HND := Lib.hid hA
  rw [NodeAt] at hA
  obtain ⟨hkk, h1, h2, h3, h4, h5, ⟨sa, sc, h6, h6', h7⟩, na, nc, h8, h8', h9⟩ := hA
  obtain rfl := Option.some.inj h3
  obtain rfl := Option.some.inj h4
  obtain rfl := Option.some.inj h5
  obtain rfl := Option.some.inj h6
  obtain rfl := Option.some.inj h8
  clear h3 h4 h5 h6 h8
  unfold reachN at h1 h2 h6' h8'
  have hhg : b.hgt ≤ b.steps := by unfold NB.hgt; omega
  have HL := Lib.hid hN.low
  have HFIT := Lib.hid hf
  have HREC := Lib.hid hrec
  have HH := Lib.hid hl
  have HB0 := Lib.hid hb
  obtain ⟨st, hst⟩ : ∃ st, b.steps = st := ⟨_, rfl⟩
  have HST := Lib.hid hst
  obtain ⟨bo, hbo⟩ : ∃ bo, b.out = bo := ⟨_, rfl⟩
  have HBO := Lib.hid hbo
  have hB := boxN3 W [.int .u8 1, .string nm, .string tx, .slice sa set.length sc, .slice na subs.length nc]
  obtain ⟨w1, hw1⟩ : ∃ w1, (W.alloc (.cells #[.int .u8 1, .string nm, .string tx, .slice sa set.length sc, .slice na subs.length nc] 34)).alloc (.cells Tryd.zeroCells70 70) = w1 := ⟨_, rfl⟩
  obtain ⟨w3, hw3⟩ : ∃ w3, w1.alloc (.cells Tryd.zeroCells70 70) = w3 := ⟨_, rfl⟩
  rw [hw1, hw3] at hB
  have z1 : w1.heap.size = W.heap.size + 1 + 1 := by rw [← hw1]; simp only [World.size_alloc]
  have O1 := Lib.hid hB.o1
  have O2 := Lib.hid hB.o2
  have O3 := Lib.hid hB.o3
  have HN := Lib.hid (hN.grew hB.grew)
  have HK := Lib.hid (KpF.grew hB.grew hN.low)
  have HE := Lib.hid hE
  have H7 := Lib.hid h7
  have H9 := Lib.hid h9
  rw [hst] at hs ho hhg
  clear hB hN hE h9 h7 hf hrec hb hst hbo
  have hl2 : -1000000000000 ≤ st - 1 := by have := HH.out; omega
  have HFL := Lib.hid hfl
  rw [hfl]
  go_enter Tryd.func17, Tryd.ntmps17
  go_upto_region 1 with fail
  apply wp_region_lit
  refine wpList_runV rfl (partV ⟨0, 0, true⟩) (exec_build_true rfl rfl) ?_
  simp only [Act.put, List.setIfInBounds_toArray, List.set_cons_zero, List.set_cons_succ]
  refine wpList_runW rfl (.pointer (some ⟨W.heap.size + 1 + 1, 0, none⟩)) (by rw [exec_alloc_part rfl, hw3, z1]) ?_
  simp only [Act.put, List.setIfInBounds_toArray, List.set_cons_zero, List.set_cons_succ]
  refine wpList_store_part O3.out rfl _ _ rfl rfl rfl ?_
  intro w4 o4 b4
  have P3 := Lib.hid o4
  have P1 := Lib.hid (b4.owns O1.out (by omega))
  have P2 := Lib.hid (b4.owns O2.out (by omega))
  have N4 := Lib.hid (HN.out.other O3.out not_part (by decide) b4)
  have K4 := Lib.hid (HK.out.fresh b4 (by omega) HL.out)
  clear o4 b4
  simp only [Act.put]
  clear hw1 hw3 z1 O1 O2 O3 HN HK
  have hbx := N4.out.box
  rw [HST.out, HFL.out] at hbx
  have k6 := hbx.cell_at (i := 6) rfl
  have f6 := hbx.free 6
  have lb := hbx.lt
  obtain ⟨w5, hw5⟩ : ∃ w5, w4.setCell ⟨V.bb, 6, none⟩ (.int .i64 (st - 1)) = w5 := ⟨_, rfl⟩
  have b5 : But (fun k => k = V.bb) w4 w5 := hw5 ▸ set_but hbx
  have o5 : Owns w5 V.bb [g0, g1, g2, g3, .int .i64 kind, V.ov, .int .i64 (st - 1), .bool false] 62 := by
    have := hbx.set 6 (.int .i64 (st - 1))
    rw [hw5] at this
    exact this
  have N5 := Lib.hid (N4.out.boxed b5 o5)
  have K5 := Lib.hid (K4.out.trans (KpF.bld b5 N4.out.low N4.out.blo hbx (.inl rfl)))
  have Q1 := Lib.hid (b5.owns P1.out (owns_ne P1.out hbx (by decide)))
  have Q2 := Lib.hid (b5.owns P2.out (owns_ne P2.out hbx (by decide)))
  have Q3 := Lib.hid (b5.owns P3.out (owns_ne P3.out hbx (by decide)))
  have E5 := Lib.hid (HE.out.kp K5.out)
  have R6 := o5.cell_at (i := 6) rfl
  have R7 := o5.cell_at (i := 7) rfl
  have R8 := o5.free 7
  have lb5 := o5.lt
  have HO5 := Lib.hid o5
  have n0 := Q1.out.cell_at (i := 0) rfl
  have n1 := Q1.out.cell_at (i := 1) rfl
  have n2 := Q1.out.cell_at (i := 2) rfl
  have n3 := Q1.out.cell_at (i := 3) rfl
  have n4 := Q1.out.cell_at (i := 4) rfl
  have nl := Q1.out.lt
  clear hbx b5 o5 P1 P2 P3 N4 K4
  have HB5 : Hid (NB.Ok ⟨b.out, st - 1, false⟩) := Lib.hid ⟨HB0.out.few, HB0.out.fol⟩
  have ho2 : ¬ (st - 1 < 0) := ho
  go_upto_region 3 with fail
  clear k6 f6 lb hw5
  go_upto_region 6 with fail
  clear R6 R7 R8
  have hhd := hgt_dec b
  rw [HFL.out, HST.out] at hhd
  have hhg2 := hgt_open (b := b) (by rw [HST.out]; exact ho2)
  rw [HFL.out, HST.out] at hhg2
  obtain ⟨q, hq⟩ : ∃ q, seqN (nodeN g.lk kind k) subs ⟨0, 0, true⟩ ⟨b.out, b.steps - 1, false⟩ = q := ⟨_, rfl⟩
  have HQ := Lib.hid hq
  rw [HST.out] at hq
  have HQ2 := Lib.hid hq.symm
  have hls : subs.length ≤ 3000 := HFIT.out.subs _ (all_self _)
  have HS5 := Lib.hid hs
  clear hq
  obtain ⟨q1, q2, q3, q4, q5, q6, ra, rc, q7, q8, q9⟩ := HE.out.gr
  obtain rfl := Option.some.inj q1
  obtain rfl := Option.some.inj q3
  obtain rfl := Option.some.inj q4
  obtain rfl := Option.some.inj q7
  clear q1 q2 q3 q4 q5 q6 q7 q9 q8
  have O8 := Q3
  have N8 := N5
  have K8 := K5
  have Q8 := Q2
  have r4 := Q1.out.cell_at (i := 4) rfl
  have rl := Q1.out.lt
  have hw8 : True := trivial
  go_upto_region 15 with fail
  clear n0 n1 n2 n3 n4 nl
  go_wp2_with fail
  go_loopw [58] (fun c wr => ∃ (j : Nat) (Vj : NBV) (x : NPart) (bj : NB), c = .int .i64 j ∧ j ≤ subs.length ∧ Vj.bb = V.bb ∧ Hid (KpF lim W wr) ∧ Hid (NBAt wr lim (.string g.name) (.int .i64 g.bound) (.int .i64 g.states) (.slice ra g.rules.length rc) kind Vj bj) ∧ Hid (Owns wr (W.heap.size + 1 + 1) (partL x) 70) ∧ Hid (Owns wr (W.heap.size + 1) (partL ⟨0, 0, false⟩) 70) ∧ Hid bj.Ok ∧ Hid (x.In bj.out.length) ∧ Hid (bj.steps ≤ st - 1) ∧ Hid (b.hgt + 2999 - (j : Int) ≤ bj.hgt) ∧ Hid (q = seqN (nodeN g.lk kind k) (subs.drop j) x bj)) (fun c _ => subs.length - (intOf c).toNat)
  case atStart => exact ⟨0, V, ⟨0, 0, true⟩, ⟨b.out, st - 1, false⟩, rfl, Nat.zero_le _, rfl, K8.out, N8.out, O8.out, Q8.out, HB5.out, NPart.In.zero, Int.le_refl _, by show _ - (0 : Int) ≤ _; omega, HQ2.out⟩
  case round =>
    obtain ⟨j, Vj, x, bj, rfl, hj, hVj, KR, NR, XR, TR, OKR, INR, SJR, HGJ, HEQ⟩ := hrel
    by_cases hlt : j < subs.length
    · as_aux_lemma => -- ok
        have hbl : Below lim W wr := KR.out.low
        have hlw : lim ≤ wr.heap.size := NR.out.low
        obtain ⟨bq, off, rfl, hb, hnode⟩ := H9.out.get hlt
        have hnode := hnode.keep hbl
        simp only [Nat.zero_add] at hnode
        have ecell : ∀ o, W.cell? ⟨bq, o, none⟩ = wr.cell? ⟨bq, o, none⟩ := fun o => (hbl.cell hb).symm
        simp only [ecell] at hnode
        clear ecell
        have hdr := List.drop_eq_getElem_cons hlt
        have hfs := HFIT.out.sub (List.getElem_mem hlt)
        obtain ⟨s, hs'⟩ : ∃ s, subs[j] = s := ⟨_, rfl⟩
        rw [hs'] at hnode hdr hfs
        obtain ⟨u0, u1, u2, u3, u4, e0, e1, e2, e3, e4, hnode⟩ := hnode.vals
        obtain ⟨m0, m1, m2, m3, m4, m5, m6, m7, m8, rfl, rfl, rfl, rfl, rfl⟩ := hnode.forms
        have hb' := Nat.lt_of_lt_of_le hb hlw
        obtain ⟨y, hy⟩ : ∃ y, nodeN g.lk kind k s bj = y := ⟨_, rfl⟩
        have HSO := Lib.hid (nodeN_to g.lk kind k s bj OKR.out)
        have HLO := Lib.hid (nodeN_low E5.out.fit kind k s hfs bj)
        obtain ⟨wa, hwa⟩ : ∃ wa, wr.alloc (.cells #[.int .u8 m0, .string m1, .string m2, .slice m3 m4 m5, .slice m6 m7 m8] 34) = wa := ⟨_, rfl⟩
        have ga : Grew wr wa := hwa ▸ grew_alloc wr _
        have TA := Lib.hid (show Owns wa wr.heap.size [.int .u8 m0, .string m1, .string m2, .slice m3 m4 m5, .slice m6 m7 m8] 34 from hwa ▸ Owns.alloc wr _ _)
        have ka : KpF lim wr wa := KpF.grew ga hlw
        have KA := Lib.hid (KR.out.trans ka)
        have NA := Lib.hid (NR.out.grew ga)
        have XA := Lib.hid (XR.out.keep ga)
        have RA := Lib.hid (TR.out.keep ga)
        have EA := Lib.hid (HE.out.kp KA.out)
        have HCALL : Hid (∀ w (Vw : NBV), KpF lim wa w → Vw.bb = V.bb → NBAt w lim (.string g.name) (.int .i64 g.bound) (.int .i64 g.states) (.slice ra g.rules.length rc) kind Vw bj → Calls Tryd.prog 17 #[.pointer (some ⟨V.bb, 0, none⟩), .agg #[.int .u8 m0, .string m1, .string m2, .slice m3 m4 m5, .slice m6 m7 m8]] w (NodeIs w lim (.string g.name) (.int .i64 g.bound) (.int .i64 g.states) (.slice ra g.rules.length rc) kind V.bb y)) := Lib.hid fun w Vw hk hv hn => by
          rw [← hv, ← hy]
          exact HREC.out s w Vw bj _ _ _ _ _ (EA.out.kp hk) hn OKR.out (by have := SJR.out; omega) (by have := HH.out; have := HGJ.out; omega) (hnode.keep (ka.trans hk).low) hfs
        rw [hy] at HSO HLO
        have HDR := Lib.hid hdr
        have HY := Lib.hid hy
        clear hs' hdr hfs hnode ka ga hbl hb hy
        go_upto_region 18 with fail
        clear hwa e0 e1 e2 e3 e4 hb' hlw
        refine wp_region_hav_litJ (p0 := 4) (J := NBJ lim (.string g.name) (.int .i64 g.bound) (.int .i64 g.states) (.slice ra g.rules.length rc) kind V.bb bj y.2) (kpf_rel lim) (NBJ.before hVj NA.out) follows (by kernel_rfl) ?_
        refine HavJ.val (kpf_rel lim) (by decide) (fun _ => rfl) ?_ (fun u w hw _ => ?_) ?_; rotate_left; (focus (clear hw; go_simp; first | done | rfl)); simp only [Act.put, List.setIfInBounds_toArray, List.set_cons_zero, List.set_cons_succ]
        refine HavJ.val (kpf_rel lim) (by decide) (fun _ => rfl) (partV x) (fun u w hw _ => exec_load_part (hw.owns XA.out not_part) rfl rfl) ?_
        simp only [Act.put, List.setIfInBounds_toArray, List.set_cons_zero, List.set_cons_succ]
        refine HavJ.val (kpf_rel lim) (by decide) (fun _ => rfl) ?_ (fun u w hw _ => ?_) ?_; rotate_left; (focus (clear hw; go_simp; first | done | rfl)); simp only [Act.put, List.setIfInBounds_toArray, List.set_cons_zero, List.set_cons_succ]
        refine HavJ.val (kpf_rel lim) (by decide) (fun _ => rfl) ?_ (fun u w hw _ => ?_) ?_; rotate_left; (focus (have ho := hw.owns TA.out not_node; have hc0 := ho.cell_at (i := 0) rfl; have hc1 := ho.cell_at (i := 1) rfl; have hc2 := ho.cell_at (i := 2) rfl; have hc3 := ho.cell_at (i := 3) rfl; have hc4 := ho.cell_at (i := 4) rfl; have hcl := ho.lt; clear hw ho; go_simp; first | done | rfl)); simp only [Act.put, List.setIfInBounds_toArray, List.set_cons_zero, List.set_cons_succ]
        refine HavJ.one rfl (fun _ => rfl) (fun v w => v = partV y.1) (fun _ _ _ _ h => h) (fun u w hw hJ _ => ?_) ?_
        · obtain ⟨Vw, hVw, hNw⟩ := hJ
          have HW := Lib.hid hw
          have HNW := Lib.hid (show NBAt w _ _ _ _ _ _ Vw bj from hNw)
          clear hw hNw
          go_simp
          refine (HCALL.out w Vw HW.out hVw HNW.out).mono ?_
          rintro e w' ⟨rfl, hK6, V6, hV6, hN6⟩
          exact ⟨⟨hK6, V6, hV6, hN6⟩, rfl⟩
        simp only [Act.put, List.setIfInBounds_toArray, List.set_cons_zero, List.set_cons_succ]
        refine HavJ.tail (by decide) (by kernel_rfl) (by kernel_rfl) (fun u w3 hg hJ hd => ?_)
        have hx := hd _ (List.mem_append_right _ (List.mem_singleton.2 rfl))
        dsimp only at hx
        obtain ⟨V3, hV3, hN3⟩ := hJ
        have N3 := Lib.hid (show NBAt w3 _ _ _ _ _ _ V3 y.2 from hN3)
        have K3 := Lib.hid (KA.out.trans hg)
        have X3 := Lib.hid (hg.owns XA.out not_part)
        have R3 := Lib.hid (hg.owns RA.out not_part)
        have hLO := HLO.out
        unfold Low1 at hLO
        have E3 := Lib.hid (HE.out.kp K3.out)
        clear hd hN3 hg
        simp only [hx]
        clear hx
        have hlen : y.2.out.length = (y.2.follow x.last y.1.first).out.length := (follow_len _ _ _).symm
        have HLEN := Lib.hid hlen
        clear hlen
        have HNJ := Lib.hid (njoined_ok w3 lim _ _ _ _ kind V3 y.2 N3.out HSO.out.1.ok x y.1 (INR.out.mono HSO.out.1.more) HSO.out.2 E3.out.tab E3.out.pos)
        rw [hV3] at HNJ
        go_wp2_with (first
          | (refine HNJ.out.mono ?_; rintro e w4 ⟨rfl, hN4, hK4⟩; have K4 := Lib.hid (K3.out.trans hK4); have N4 := Lib.hid hN4; have X4 := Lib.hid (hK4.owns X3.out not_part); have R4 := Lib.hid (hK4.owns R3.out not_part); clear hN4 hK4)
          | (refine wpList_store_part X4.out rfl _ _ rfl rfl rfl ?_; intro w9 o9 b9; have O9 := Lib.hid o9; have N9 := Lib.hid (N4.out.other X4.out not_part (by decide) b9); have K9 := Lib.hid (K4.out.fresh b9 (by omega) HL.out); have R9 := Lib.hid (b9.owns R4.out (by omega)); clear o9 b9; simp only [Act.put]))
        refine ⟨⟨j + 1, V3, joinP x y.1, y.2.follow x.last y.1.first, by go_num, by omega, hV3, K9.out, N9.out, O9.out, R9.out, (NB.follow_to HSO.out.1.ok HSO.out.2.1).ok, HLEN.out ▸ joinP_in (INR.out.mono HSO.out.1.more) HSO.out.2, Int.le_trans HSO.out.1.steps SJR.out, by have := HGJ.out; rw [Hid, hgt_follow]; show _ - ((j + 1 : Nat) : Int) ≤ _; omega, ?_⟩, by simp [intOf]; omega⟩
        refine Lib.hid ?_
        rw [HEQ.out, HDR.out, seqN, HY.out]
    · obtain rfl : j = subs.length := by omega
      clear hhd hhg2 hw8
      rw [List.drop_of_length_le (Nat.le_refl _), seqN] at HEQ
      go_upto_region 35 with fail
      apply wp_region_lit
      refine wpList_load_part XR.out rfl _ rfl rfl ?_
      simp only [Act.put, List.setIfInBounds_toArray, List.set_cons_zero, List.set_cons_succ]
      refine wpList_store_part TR.out rfl _ _ rfl rfl rfl ?_
      intro w9 o9 b9
      have O9 := Lib.hid o9
      have N9 := Lib.hid (NR.out.other TR.out not_part (by decide) b9)
      have K9 := Lib.hid (KR.out.fresh b9 (by omega) HL.out)
      clear o9 b9
      simp only [Act.put]
      go_wp2_with fail
      refine bodyPost_ret (ret_part rfl _ O9.out rfl) rfl ?_
      rw [HQ.out, HEQ.out]
      exact ⟨rfl, K9.out, Vj, hVj, N9.out⟩

end Go.Proofs.YtkinlcichclnkaaDoor

/- node of nfas: a literal. Printed by gennfnode.py. -/
namespace Go.Proofs.YtkinlcichclnkaaDoor
open Go.RowKit

set_option maxHeartbeats 8000000 in
set_option maxRecDepth 40000 in
theorem nn_lit {lim : Nat} {g0 g1 g2 g3 : Value} {g : Gr} {kind : Int} {k : Nat} (hk : k ≤ 100000) (nm tx : ByteArray) (set : List (Int × Int)) (subs : List Nd) (W : World) (V : NBV) (b : NB) (v0 v1 v2 v3 v4 : Value) (hE : NEnv W lim g0 g1 g2 g3 g) (hN : NBAt W lim g0 g1 g2 g3 kind V b) (hb : b.Ok) (hs : b.steps < ((k + 1 : Nat) : Int)) (hl : -1000000000000 ≤ b.hgt - 1) (hA : NodeAt W lim (some v0) (some v1) (some v2) (some v3) (some v4) (.mk 8 nm tx set subs)) (hf : NdFit g (.mk 8 nm tx set subs)) (ho : ¬ b.steps - 1 < 0) (hfl : b.full = false) :
    Calls Tryd.prog 17 #[.pointer (some ⟨V.bb, 0, none⟩), .agg #[v0, v1, v2, v3, v4]] W (NodeIs W lim g0 g1 g2 g3 kind V.bb (litN kind (runesOf tx) ⟨0, 0, true⟩ ⟨b.out, b.steps - 1, b.full⟩)) := by
  have HND := Lib.hid hA
  rw [NodeAt] at hA
  obtain ⟨hkk, h1, h2, h3, h4, h5, ⟨sa, sc, h6, h6', h7⟩, na, nc, h8, h8', h9⟩ := hA
  obtain rfl := Option.some.inj h3
  obtain rfl := Option.some.inj h4
  obtain rfl := Option.some.inj h5
  obtain rfl := Option.some.inj h6
  obtain rfl := Option.some.inj h8
  clear h3 h4 h5 h6 h8
  unfold reachN at h1 h2 h6' h8'
  have hhg : b.hgt ≤ b.steps := by unfold NB.hgt; omega
  have HL := Lib.hid hN.low
  have HFIT := Lib.hid hf
  have HH := Lib.hid hl
  have HB0 := Lib.hid hb
  obtain ⟨st, hst⟩ : ∃ st, b.steps = st := ⟨_, rfl⟩
  have HST := Lib.hid hst
  obtain ⟨bo, hbo⟩ : ∃ bo, b.out = bo := ⟨_, rfl⟩
  have HBO := Lib.hid hbo
  have hB := boxN3 W [.int .u8 8, .string nm, .string tx, .slice sa set.length sc, .slice na subs.length nc]
  obtain ⟨w1, hw1⟩ : ∃ w1, (W.alloc (.cells #[.int .u8 8, .string nm, .string tx, .slice sa set.length sc, .slice na subs.length nc] 34)).alloc (.cells Tryd.zeroCells70 70) = w1 := ⟨_, rfl⟩
  obtain ⟨w3, hw3⟩ : ∃ w3, w1.alloc (.cells Tryd.zeroCells70 70) = w3 := ⟨_, rfl⟩
  rw [hw1, hw3] at hB
  have z1 : w1.heap.size = W.heap.size + 1 + 1 := by rw [← hw1]; simp only [World.size_alloc]
  have O1 := Lib.hid hB.o1
  have O2 := Lib.hid hB.o2
  have O3 := Lib.hid hB.o3
  have HN := Lib.hid (hN.grew hB.grew)
  have HK := Lib.hid (KpF.grew hB.grew hN.low)
  have HE := Lib.hid hE
  have H7 := Lib.hid h7
  have H9 := Lib.hid h9
  rw [hst] at hs ho hhg
  clear hB hN hE h9 h7 hf hb hst hbo
  have hl2 : -1000000000000 ≤ st - 1 := by have := HH.out; omega
  have HFL := Lib.hid hfl
  rw [hfl]
  go_enter Tryd.func17, Tryd.ntmps17
  go_upto_region 1 with fail
  apply wp_region_lit
  refine wpList_runV rfl (partV ⟨0, 0, true⟩) (exec_build_true rfl rfl) ?_
  simp only [Act.put, List.setIfInBounds_toArray, List.set_cons_zero, List.set_cons_succ]
  refine wpList_runW rfl (.pointer (some ⟨W.heap.size + 1 + 1, 0, none⟩)) (by rw [exec_alloc_part rfl, hw3, z1]) ?_
  simp only [Act.put, List.setIfInBounds_toArray, List.set_cons_zero, List.set_cons_succ]
  refine wpList_store_part O3.out rfl _ _ rfl rfl rfl ?_
  intro w4 o4 b4
  have P3 := Lib.hid o4
  have P1 := Lib.hid (b4.owns O1.out (by omega))
  have P2 := Lib.hid (b4.owns O2.out (by omega))
  have N4 := Lib.hid (HN.out.other O3.out not_part (by decide) b4)
  have K4 := Lib.hid (HK.out.fresh b4 (by omega) HL.out)
  clear o4 b4
  simp only [Act.put]
  clear hw1 hw3 z1 O1 O2 O3 HN HK
  have hbx := N4.out.box
  rw [HST.out, HFL.out] at hbx
  have k6 := hbx.cell_at (i := 6) rfl
  have f6 := hbx.free 6
  have lb := hbx.lt
  obtain ⟨w5, hw5⟩ : ∃ w5, w4.setCell ⟨V.bb, 6, none⟩ (.int .i64 (st - 1)) = w5 := ⟨_, rfl⟩
  have b5 : But (fun k => k = V.bb) w4 w5 := hw5 ▸ set_but hbx
  have o5 : Owns w5 V.bb [g0, g1, g2, g3, .int .i64 kind, V.ov, .int .i64 (st - 1), .bool false] 62 := by
    have := hbx.set 6 (.int .i64 (st - 1))
    rw [hw5] at this
    exact this
  have N5 := Lib.hid (N4.out.boxed b5 o5)
  have K5 := Lib.hid (K4.out.trans (KpF.bld b5 N4.out.low N4.out.blo hbx (.inl rfl)))
  have Q1 := Lib.hid (b5.owns P1.out (owns_ne P1.out hbx (by decide)))
  have Q2 := Lib.hid (b5.owns P2.out (owns_ne P2.out hbx (by decide)))
  have Q3 := Lib.hid (b5.owns P3.out (owns_ne P3.out hbx (by decide)))
  have E5 := Lib.hid (HE.out.kp K5.out)
  have R6 := o5.cell_at (i := 6) rfl
  have R7 := o5.cell_at (i := 7) rfl
  have R8 := o5.free 7
  have lb5 := o5.lt
  have HO5 := Lib.hid o5
  have n0 := Q1.out.cell_at (i := 0) rfl
  have n1 := Q1.out.cell_at (i := 1) rfl
  have n2 := Q1.out.cell_at (i := 2) rfl
  have n3 := Q1.out.cell_at (i := 3) rfl
  have n4 := Q1.out.cell_at (i := 4) rfl
  have nl := Q1.out.lt
  clear hbx b5 o5 P1 P2 P3 N4 K4
  have HB5 : Hid (NB.Ok ⟨b.out, st - 1, false⟩) := Lib.hid ⟨HB0.out.few, HB0.out.fol⟩
  have ho2 : ¬ (st - 1 < 0) := ho
  go_upto_region 3 with fail
  clear k6 f6 lb hw5
  go_upto_region 6 with fail
  clear R6 R7 R8
  obtain ⟨q, hq⟩ : ∃ q, litN kind (runesOf tx) ⟨0, 0, true⟩ ⟨b.out, b.steps - 1, false⟩ = q := ⟨_, rfl⟩
  have HQ := Lib.hid hq
  rw [HST.out, runesOf] at hq
  have HQ2 := Lib.hid hq.symm
  clear hq
  obtain ⟨q1, q2, q3, q4, q5, q6, ra, rc, q7, q8, q9⟩ := HE.out.gr
  obtain rfl := Option.some.inj q1
  obtain rfl := Option.some.inj q3
  obtain rfl := Option.some.inj q4
  obtain rfl := Option.some.inj q7
  clear q1 q2 q3 q4 q5 q6 q7 q9 q8
  obtain ⟨w8, hw8⟩ : ∃ w8, w5.iter tx 0 = w8 := ⟨_, rfl⟩
  have g8 : Grew w5 w8 := hw8 ▸ grew_alloc w5 _
  have I8 := Lib.hid (show w8.heap[w5.heap.size]? = some (.stringIter tx 0) from hw8 ▸ World.iter_heap w5 tx 0)
  have O8 := Lib.hid (Q3.out.keep g8)
  have N8 := Lib.hid (N5.out.grew g8)
  have K8 := Lib.hid (K5.out.trans (KpF.grew g8 N5.out.low))
  have Q8 := Lib.hid (Q2.out.keep g8)
  have KZ := Lib.hid (show W.heap.size ≤ w5.heap.size from K5.out.low.size)
  clear g8
  go_upto_region 22 with fail
  clear n0 n1 n2 n3 n4 nl
  go_loopw [74] (fun _ wr => ∃ (pos f : Nat) (Vj : NBV) (x : NPart) (bj : NB), wr.heap[w5.heap.size]? = some (.stringIter tx pos) ∧ tx.size ≤ pos + f ∧ Vj.bb = V.bb ∧ Hid (KpF lim W wr) ∧ Hid (NBAt wr lim (.string g.name) (.int .i64 g.bound) (.int .i64 g.states) (.slice ra g.rules.length rc) kind Vj bj) ∧ Hid (Owns wr (W.heap.size + 1 + 1) (partL x) 70) ∧ Hid (Owns wr (W.heap.size + 1) (partL ⟨0, 0, false⟩) 70) ∧ Hid bj.Ok ∧ Hid (x.In bj.out.length) ∧ Hid (q = litN kind (runesAt tx f pos) x bj)) (fun _ wr => tx.size + 4 - wr.iterPos w5.heap.size)
  case atStart => exact ⟨0, tx.size, V, ⟨0, 0, true⟩, ⟨b.out, st - 1, false⟩, I8.out, by omega, rfl, K8.out, N8.out, O8.out, Q8.out, HB5.out, NPart.In.zero, HQ2.out⟩
  case round =>
    obtain ⟨pos, f, Vj, x, bj, hit, hf, hVj, KR, NR, XR, TR, OKR, INR, HEQ⟩ := hrel
    by_cases hlt : pos < tx.size
    · as_aux_lemma => -- ok
        have hnx : ∀ ty, (Instr.next (.pointer (some ⟨w5.heap.size, 0, none⟩)) true ty).run Tryd.prog wr = _ := fun ty => Lib.run_next_any_at wr w5.heap.size tx pos ty hit hlt
        obtain ⟨f', hf', hru⟩ := runesAt_step hlt hf
        have hz := width_posN tx pos hlt
        generalize Utf8.decode tx pos = dd at *
        obtain ⟨r, z⟩ := dd
        simp only at hnx hf' hru hz
        have HRU := Lib.hid hru
        have HZ := Lib.hid hz
        clear hru hz
        have bi := iter_but (w := wr) w5.heap.size tx (pos + z)
        have hit1 := Lib.iterAt_heap wr _ tx pos (pos + z) hit
        obtain ⟨wi, hwi⟩ : ∃ wi, wr.iterAt w5.heap.size tx (pos + z) = wi := ⟨_, rfl⟩
        have NI := Lib.hid (hwi ▸ NR.out.iter hit (pos + z))
        rw [hwi] at bi hit1
        have KI := Lib.hid (KR.out.fresh bi KZ.out HL.out)
        have XI := Lib.hid (bi.owns XR.out (iter_ne XR.out hit))
        have RI := Lib.hid (bi.owns TR.out (iter_ne TR.out hit))
        have HIT := Lib.hid hit1
        obtain ⟨y, hy⟩ : ∃ y, bj.place kind [((r : Int), (r : Int))] = y := ⟨_, rfl⟩
        have HSO := Lib.hid (NB.place_to OKR.out kind [((r : Int), (r : Int))])
        have HPL : Hid (∀ w (Vw : NBV) (sb : Nat), Vw.bb = V.bb → NBAt w lim (.string g.name) (.int .i64 g.bound) (.int .i64 g.states) (.slice ra g.rules.length rc) kind Vw bj → Owns w sb [.int .i32 (r : Int), .int .i32 (r : Int)] 58 → Calls Tryd.prog 34 #[.pointer (some ⟨V.bb, 0, none⟩), .slice (some ⟨sb, 0, none⟩) 1 1] w (fun e w' => e = .returned (partV y.1) ∧ KpF lim w w' ∧ ∃ V6, V6.bb = V.bb ∧ NBAt w' lim (.string g.name) (.int .i64 g.bound) (.int .i64 g.states) (.slice ra g.rules.length rc) kind V6 y.2)) := Lib.hid fun w Vw sb hv hn ho => by
          rw [← hv, ← hy]
          exact nplace_ok w lim _ _ _ _ kind Vw bj hn OKR.out [((r : Int), (r : Int))] (by simp) (some ⟨sb, 0, none⟩) 1 (fun w' hk => rg_at (hk.owns ho rg_not))
        rw [hy] at HSO
        have HY := Lib.hid hy
        clear hy bi hit1
        go_upto_region 24 with fail
        clear hnx hwi
        refine wp_region_hav_litJ (p0 := 7) (J := NBJ lim (.string g.name) (.int .i64 g.bound) (.int .i64 g.states) (.slice ra g.rules.length rc) kind V.bb bj y.2) (kpf_rel lim) (NBJ.before hVj NI.out) follows (by kernel_rfl) ?_
        iterate 6 (first
          | (refine HavJ.val (kpf_rel lim) (by decide) (fun _ => rfl) (partV x) (fun u w hw _ => exec_load_part (hw.owns XI.out not_part) rfl rfl) ?_; simp only [Act.put, List.setIfInBounds_toArray, List.set_cons_zero, List.set_cons_succ])
          | (refine HavJ.val (kpf_rel lim) (by decide) (fun _ => rfl) ?_ (fun u w hw _ => ?_) ?_; rotate_left; (focus (clear hw; go_simp; first | done | rfl)); simp only [Act.put, List.setIfInBounds_toArray, List.set_cons_zero, List.set_cons_succ]))
        refine HavJ.any (by decide) (fun _ => rfl) (fun v w => ∃ sb, v = .slice (some ⟨sb, 0, none⟩) 1 1 ∧ Owns w sb [.int .i32 (r : Int), .int .i32 (r : Int)] 58) (fun v w w' hg ⟨t, h1, h2⟩ => ⟨t, h1, hg.owns h2 rg_not⟩) (fun u w b hw hJ _ => ?_) ?_
        · obtain ⟨Vw, hVw, hNw⟩ := hJ
          rw [exec_slice_rg rfl rfl]
          exact ⟨⟨KpF.grew (grew_alloc w _) hNw.low, Vw, hVw, hNw.grew (grew_alloc w _)⟩, _, rfl, Owns.alloc w _ _⟩
        simp only [Act.put, List.setIfInBounds_toArray, List.set_cons_zero, List.set_cons_succ]
        refine HavJ.one rfl (fun _ => rfl) (fun v w => v = partV y.1) (fun _ _ _ _ h => h) (fun u w hw hJ hd => ?_) ?_
        · obtain ⟨sb, hx, ho⟩ := hd _ (List.mem_append_right _ (List.mem_singleton.2 rfl)) (by kernel_rfl)
          dsimp only at hx
          obtain ⟨Vw, hVw, hNw⟩ := hJ
          have HC := Lib.hid (HPL.out w Vw sb hVw hNw ho)
          clear hw hNw hd ho
          simp only [hx]
          go_simp
          refine HC.out.mono ?_
          rintro e w' ⟨rfl, hK6, V6, hV6, hN6⟩
          exact ⟨⟨hK6, V6, hV6, hN6⟩, rfl⟩
        simp only [Act.put, List.setIfInBounds_toArray, List.set_cons_zero, List.set_cons_succ]
        refine HavJ.tail (by decide) (by kernel_rfl) (by kernel_rfl) (fun u w3 hg hJ hd => ?_)
        have hx := hd _ (List.mem_append_right _ (List.mem_singleton.2 rfl))
        dsimp only at hx
        obtain ⟨V3, hV3, hN3⟩ := hJ
        have N3 := Lib.hid (show NBAt w3 _ _ _ _ _ _ V3 y.2 from hN3)
        have K3 := Lib.hid (KI.out.trans hg)
        have X3 := Lib.hid (hg.owns XI.out not_part)
        have R3 := Lib.hid (hg.owns RI.out not_part)
        have IT3 := Lib.hid (hg.itr _ _ _ HIT.out)
        have E3 := Lib.hid (HE.out.kp K3.out)
        clear hd hN3 hg
        simp only [hx]
        clear hx
        have hlen : y.2.out.length = (y.2.follow x.last y.1.first).out.length := (follow_len _ _ _).symm
        have HLEN := Lib.hid hlen
        clear hlen
        have HNJ := Lib.hid (njoined_ok w3 lim _ _ _ _ kind V3 y.2 N3.out HSO.out.1.ok x y.1 (INR.out.mono HSO.out.1.more) HSO.out.2 E3.out.tab E3.out.pos)
        rw [hV3] at HNJ
        go_wp2_with (first
          | (refine HNJ.out.mono ?_; rintro e w4 ⟨rfl, hN4, hK4⟩; have K4 := Lib.hid (K3.out.trans hK4); have N4 := Lib.hid hN4; have X4 := Lib.hid (hK4.owns X3.out not_part); have R4 := Lib.hid (hK4.owns R3.out not_part); have IT4 := Lib.hid (hK4.itr _ _ _ IT3.out); clear hN4 hK4)
          | (refine wpList_store_part X4.out rfl _ _ rfl rfl rfl ?_; intro w9 o9 b9; have O9 := Lib.hid o9; have N9 := Lib.hid (N4.out.other X4.out not_part (by decide) b9); have K9 := Lib.hid (K4.out.fresh b9 (by omega) HL.out); have hi9 := (b9.block w5.heap.size (Array.getElem?_eq_some_iff.1 IT4.out).1 (fun e => iter_ne X4.out IT4.out e.symm)).trans IT4.out; have R9 := Lib.hid (b9.owns R4.out (by omega)); clear o9 b9; simp only [Act.put]))
        refine ⟨⟨pos + z, f', V3, joinP x y.1, y.2.follow x.last y.1.first, hi9, hf', hV3, K9.out, N9.out, O9.out, R9.out, (NB.follow_to HSO.out.1.ok HSO.out.2.1).ok, HLEN.out ▸ joinP_in (INR.out.mono HSO.out.1.more) HSO.out.2, ?_⟩, ?_⟩
        · refine Lib.hid ?_
          rw [HEQ.out, HRU.out, litN, HY.out]
        · unfold World.iterPos
          rw [hi9, hit]
          simp only
          have := HZ.out
          omega
    · have hnx : ∀ ty, (Instr.next (.pointer (some ⟨w5.heap.size, 0, none⟩)) true ty).run Tryd.prog wr = _ := fun ty => Lib.run_next_end_at wr w5.heap.size tx pos ty hit hlt
      rw [runesAt_end hlt, litN] at HEQ
      clear hw8
      go_upto_region 35 with fail
      apply wp_region_lit
      refine wpList_load_part XR.out rfl _ rfl rfl ?_
      simp only [Act.put, List.setIfInBounds_toArray, List.set_cons_zero, List.set_cons_succ]
      refine wpList_store_part TR.out rfl _ _ rfl rfl rfl ?_
      intro w9 o9 b9
      have O9 := Lib.hid o9
      have N9 := Lib.hid (NR.out.other TR.out not_part (by decide) b9)
      have K9 := Lib.hid (KR.out.fresh b9 (by omega) HL.out)
      clear o9 b9
      simp only [Act.put]
      go_wp2_with fail
      refine bodyPost_ret (ret_part rfl _ O9.out rfl) rfl ?_
      rw [HQ.out, HEQ.out]
      exact ⟨rfl, K9.out, Vj, hVj, N9.out⟩

end Go.Proofs.YtkinlcichclnkaaDoor
