/- node of nfas: at most once; as often as may be. Printed by gennfnode.py. -/
import Derived.Test.YtkinlcichclnkaaDoorQT26
import Derived.Test.YtkinlcichclnkaaDoorQT5
namespace Go.Proofs.YtkinlcichclnkaaDoor
open Go.RowKit

set_option maxHeartbeats 8000000 in
set_option maxRecDepth 40000 in
theorem nn_opt {lim : Nat} {g0 g1 g2 g3 : Value} {g : Gr} {kind : Int} {k : Nat} (hrec : NodeC lim g0 g1 g2 g3 g kind k) (hk : k ≤ 100000) (nm tx : ByteArray) (set : List (Int × Int)) (subs : List Nd) (W : World) (V : NBV) (b : NB) (v0 v1 v2 v3 v4 : Value) (hE : NEnv W lim g0 g1 g2 g3 g) (hN : NBAt W lim g0 g1 g2 g3 kind V b) (hb : b.Ok) (hs : b.steps < ((k + 1 : Nat) : Int)) (hl : -1000000000000 ≤ b.hgt - 1) (hA : NodeAt W lim (some v0) (some v1) (some v2) (some v3) (some v4) (.mk 2 nm tx set subs)) (hf : NdFit g (.mk 2 nm tx set subs)) (ho : ¬ b.steps - 1 < 0) (hfl : b.full = false) :
    Calls Tryd.prog 17 #[.pointer (some ⟨V.bb, 0, none⟩), .agg #[v0, v1, v2, v3, v4]] W (NodeIs W lim g0 g1 g2 g3 kind V.bb ((⟨(subN (nodeN g.lk kind k) subs ⟨b.out, b.steps - 1, b.full⟩).1.first, (subN (nodeN g.lk kind k) subs ⟨b.out, b.steps - 1, b.full⟩).1.last, true⟩, (subN (nodeN g.lk kind k) subs ⟨b.out, b.steps - 1, b.full⟩).2))) := by
  have HND := Lib.hid hA
  rw [NodeAt] at hA
  obtain ⟨hkk, h1, h2, h3, h4, h5, ⟨sa, sc, h6, h6', h7⟩, na, nc, h8, h8', h9⟩ := hA
  obtain rfl := Option.some.inj h3
  obtain rfl := Option.some.inj h4
  obtain rfl := Option.some.inj h5
  obtain rfl := Option.some.inj h6
  obtain rfl := Option.some.inj h8
  clear h3 h4 h5 h6 h8
  unfold reachN at h1 h2 h6' h8'
  have hhg : b.hgt ≤ b.steps := by unfold NB.hgt; omega
  have HL := Lib.hid hN.low
  have HFIT := Lib.hid hf
  have HREC := Lib.hid hrec
  have HH := Lib.hid hl
  have HB0 := Lib.hid hb
  obtain ⟨st, hst⟩ : ∃ st, b.steps = st := ⟨_, rfl⟩
  have HST := Lib.hid hst
  obtain ⟨bo, hbo⟩ : ∃ bo, b.out = bo := ⟨_, rfl⟩
  have HBO := Lib.hid hbo
  have hB := boxN3 W [.int .u8 2, .string nm, .string tx, .slice sa set.length sc, .slice na subs.length nc]
  obtain ⟨w1, hw1⟩ : ∃ w1, (W.alloc (.cells #[.int .u8 2, .string nm, .string tx, .slice sa set.length sc, .slice na subs.length nc] 34)).alloc (.cells Tryd.zeroCells70 70) = w1 := ⟨_, rfl⟩
  obtain ⟨w3, hw3⟩ : ∃ w3, w1.alloc (.cells Tryd.zeroCells70 70) = w3 := ⟨_, rfl⟩
  rw [hw1, hw3] at hB
  have z1 : w1.heap.size = W.heap.size + 1 + 1 := by rw [← hw1]; simp only [World.size_alloc]
  have O1 := Lib.hid hB.o1
  have O2 := Lib.hid hB.o2
  have O3 := Lib.hid hB.o3
  have HN := Lib.hid (hN.grew hB.grew)
  have HK := Lib.hid (KpF.grew hB.grew hN.low)
  have HE := Lib.hid hE
  have H7 := Lib.hid h7
  have H9 := Lib.hid h9
  rw [hst] at hs ho hhg
  clear hB hN hE h9 h7 hf hrec hb hst hbo
  have hl2 : -1000000000000 ≤ st - 1 := by have := HH.out; omega
  have HFL := Lib.hid hfl
  rw [hfl]
  go_enter Tryd.func17, Tryd.ntmps17
  go_upto_region 1 with fail
  apply wp_region_lit
  refine wpList_runV rfl (partV ⟨0, 0, true⟩) (exec_build_true rfl rfl) ?_
  simp only [Act.put, List.setIfInBounds_toArray, List.set_cons_zero, List.set_cons_succ]
  refine wpList_runW rfl (.pointer (some ⟨W.heap.size + 1 + 1, 0, none⟩)) (by rw [exec_alloc_part rfl, hw3, z1]) ?_
  simp only [Act.put, List.setIfInBounds_toArray, List.set_cons_zero, List.set_cons_succ]
  refine wpList_store_part O3.out rfl _ _ rfl rfl rfl ?_
  intro w4 o4 b4
  have P3 := Lib.hid o4
  have P1 := Lib.hid (b4.owns O1.out (by omega))
  have P2 := Lib.hid (b4.owns O2.out (by omega))
  have N4 := Lib.hid (HN.out.other O3.out not_part (by decide) b4)
  have K4 := Lib.hid (HK.out.fresh b4 (by omega) HL.out)
  clear o4 b4
  simp only [Act.put]
  clear hw1 hw3 z1 O1 O2 O3 HN HK
  have hbx := N4.out.box
  rw [HST.out, HFL.out] at hbx
  have k6 := hbx.cell_at (i := 6) rfl
  have f6 := hbx.free 6
  have lb := hbx.lt
  obtain ⟨w5, hw5⟩ : ∃ w5, w4.setCell ⟨V.bb, 6, none⟩ (.int .i64 (st - 1)) = w5 := ⟨_, rfl⟩
  have b5 : But (fun k => k = V.bb) w4 w5 := hw5 ▸ set_but hbx
  have o5 : Owns w5 V.bb [g0, g1, g2, g3, .int .i64 kind, V.ov, .int .i64 (st - 1), .bool false] 62 := by
    have := hbx.set 6 (.int .i64 (st - 1))
    rw [hw5] at this
    exact this
  have N5 := Lib.hid (N4.out.boxed b5 o5)
  have K5 := Lib.hid (K4.out.trans (KpF.bld b5 N4.out.low N4.out.blo hbx (.inl rfl)))
  have Q1 := Lib.hid (b5.owns P1.out (owns_ne P1.out hbx (by decide)))
  have Q2 := Lib.hid (b5.owns P2.out (owns_ne P2.out hbx (by decide)))
  have Q3 := Lib.hid (b5.owns P3.out (owns_ne P3.out hbx (by decide)))
  have E5 := Lib.hid (HE.out.kp K5.out)
  have R6 := o5.cell_at (i := 6) rfl
  have R7 := o5.cell_at (i := 7) rfl
  have R8 := o5.free 7
  have lb5 := o5.lt
  have HO5 := Lib.hid o5
  have n0 := Q1.out.cell_at (i := 0) rfl
  have n1 := Q1.out.cell_at (i := 1) rfl
  have n2 := Q1.out.cell_at (i := 2) rfl
  have n3 := Q1.out.cell_at (i := 3) rfl
  have n4 := Q1.out.cell_at (i := 4) rfl
  have nl := Q1.out.lt
  clear hbx b5 o5 P1 P2 P3 N4 K4
  have HB5 : Hid (NB.Ok ⟨b.out, st - 1, false⟩) := Lib.hid ⟨HB0.out.few, HB0.out.fol⟩
  have ho2 : ¬ (st - 1 < 0) := ho
  go_upto_region 3 with fail
  clear k6 f6 lb hw5
  go_upto_region 6 with fail
  clear R6 R7 R8
  have hhd := hgt_dec b
  rw [HFL.out, HST.out] at hhd
  have hhg2 := hgt_open (b := b) (by rw [HST.out]; exact ho2)
  rw [HFL.out, HST.out] at hhg2
  have HC := Lib.hid (nsub_ok HREC.out 2 nm tx set subs w5 V ⟨b.out, st - 1, false⟩ _ _ _ _ _ E5.out N5.out HB5.out (by dsimp only; omega) (by have := HH.out; omega) (HND.out.keep K5.out.low) HFIT.out)
  have HSO := Lib.hid (subN_to (nodeN_to g.lk kind k) subs ⟨b.out, st - 1, false⟩ HB5.out)
  rw [← HST.out] at HC HSO
  clear hhd hhg2
  obtain ⟨q, hq⟩ : ∃ q, subN (nodeN g.lk kind k) subs ⟨b.out, b.steps - 1, false⟩ = q := ⟨_, rfl⟩
  rw [hq] at HC HSO
  have HQ := Lib.hid hq
  clear hq
  go_upto_region 30 with fail
  go_upto_region 35 with (first
    | (refine HC.out.mono ?_; rintro e w6 ⟨rfl, hK6, V6, hV6, hN6⟩; have K6 := Lib.hid (K5.out.trans hK6); have N6 := Lib.hid hN6; have T2 := Lib.hid (hK6.owns Q2.out not_part); have T3 := Lib.hid (hK6.owns Q3.out not_part); clear hK6 hN6)
    | (refine wpList_runV rfl (endsV q.1.first q.1.last) (exec_field_ends rfl rfl) ?_; simp only [Act.put, List.setIfInBounds_toArray, List.set_cons_zero, List.set_cons_succ])
    | (refine wpList_run_skip rfl (exec_store_ends T3.out rfl rfl rfl) ?_; have hwr := ends_write (a := q.1.first) (c := q.1.last) T3.out; have R3 := Lib.hid hwr.1; have R2 := Lib.hid (hwr.2.owns T2.out (by omega)); have NR := Lib.hid (N6.out.other T3.out not_part (by decide) hwr.2); have KR := Lib.hid (K6.out.fresh hwr.2 (by omega) HL.out); clear hwr; simp only [Act.put]))
  apply wp_region_lit
  refine wpList_load_part R3.out rfl _ rfl rfl ?_
  simp only [Act.put, List.setIfInBounds_toArray, List.set_cons_zero, List.set_cons_succ]
  refine wpList_store_part R2.out rfl _ _ rfl rfl rfl ?_
  intro w9 o9 b9
  have O9 := Lib.hid o9
  have N9 := Lib.hid (NR.out.other R2.out not_part (by decide) b9)
  have K9 := Lib.hid (KR.out.fresh b9 (by omega) HL.out)
  clear o9 b9
  simp only [Act.put]
  go_wp2_with fail
  refine bodyPost_ret (ret_part rfl _ O9.out rfl) rfl ?_
  rw [HQ.out]
  exact ⟨rfl, K9.out, V6, hV6, N9.out⟩

set_option maxHeartbeats 8000000 in
set_option maxRecDepth 40000 in
theorem nn_star {lim : Nat} {g0 g1 g2 g3 : Value} {g : Gr} {kind : Int} {k : Nat} (hrec : NodeC lim g0 g1 g2 g3 g kind k) (hk : k ≤ 100000) (nm tx : ByteArray) (set : List (Int × Int)) (subs : List Nd) (W : World) (V : NBV) (b : NB) (v0 v1 v2 v3 v4 : Value) (hE : NEnv W lim g0 g1 g2 g3 g) (hN : NBAt W lim g0 g1 g2 g3 kind V b) (hb : b.Ok) (hs : b.steps < ((k + 1 : Nat) : Int)) (hl : -1000000000000 ≤ b.hgt - 1) (hA : NodeAt W lim (some v0) (some v1) (some v2) (some v3) (some v4) (.mk 3 nm tx set subs)) (hf : NdFit g (.mk 3 nm tx set subs)) (ho : ¬ b.steps - 1 < 0) (hfl : b.full = false) :
    Calls Tryd.prog 17 #[.pointer (some ⟨V.bb, 0, none⟩), .agg #[v0, v1, v2, v3, v4]] W (NodeIs W lim g0 g1 g2 g3 kind V.bb ((⟨(againN (subN (nodeN g.lk kind k) subs ⟨b.out, b.steps - 1, b.full⟩)).1.first, (againN (subN (nodeN g.lk kind k) subs ⟨b.out, b.steps - 1, b.full⟩)).1.last, true⟩, (againN (subN (nodeN g.lk kind k) subs ⟨b.out, b.steps - 1, b.full⟩)).2))) := by
  have HND := Lib.hid hA
  rw [NodeAt] at hA
  obtain ⟨hkk, h1, h2, h3, h4, h5, ⟨sa, sc, h6, h6', h7⟩, na, nc, h8, h8', h9⟩ := hA
  obtain rfl := Option.some.inj h3
  obtain rfl := Option.some.inj h4
  obtain rfl := Option.some.inj h5
  obtain rfl := Option.some.inj h6
  obtain rfl := Option.some.inj h8
  clear h3 h4 h5 h6 h8
  unfold reachN at h1 h2 h6' h8'
  have hhg : b.hgt ≤ b.steps := by unfold NB.hgt; omega
  have HL := Lib.hid hN.low
  have HFIT := Lib.hid hf
  have HREC := Lib.hid hrec
  have HH := Lib.hid hl
  have HB0 := Lib.hid hb
  obtain ⟨st, hst⟩ : ∃ st, b.steps = st := ⟨_, rfl⟩
  have HST := Lib.hid hst
  obtain ⟨bo, hbo⟩ : ∃ bo, b.out = bo := ⟨_, rfl⟩
  have HBO := Lib.hid hbo
  have hB := boxN3 W [.int .u8 3, .string nm, .string tx, .slice sa set.length sc, .slice na subs.length nc]
  obtain ⟨w1, hw1⟩ : ∃ w1, (W.alloc (.cells #[.int .u8 3, .string nm, .string tx, .slice sa set.length sc, .slice na subs.length nc] 34)).alloc (.cells Tryd.zeroCells70 70) = w1 := ⟨_, rfl⟩
  obtain ⟨w3, hw3⟩ : ∃ w3, w1.alloc (.cells Tryd.zeroCells70 70) = w3 := ⟨_, rfl⟩
  rw [hw1, hw3] at hB
  have z1 : w1.heap.size = W.heap.size + 1 + 1 := by rw [← hw1]; simp only [World.size_alloc]
  have O1 := Lib.hid hB.o1
  have O2 := Lib.hid hB.o2
  have O3 := Lib.hid hB.o3
  have HN := Lib.hid (hN.grew hB.grew)
  have HK := Lib.hid (KpF.grew hB.grew hN.low)
  have HE := Lib.hid hE
  have H7 := Lib.hid h7
  have H9 := Lib.hid h9
  rw [hst] at hs ho hhg
  clear hB hN hE h9 h7 hf hrec hb hst hbo
  have hl2 : -1000000000000 ≤ st - 1 := by have := HH.out; omega
  have HFL := Lib.hid hfl
  rw [hfl]
  go_enter Tryd.func17, Tryd.ntmps17
  go_upto_region 1 with fail
  apply wp_region_lit
  refine wpList_runV rfl (partV ⟨0, 0, true⟩) (exec_build_true rfl rfl) ?_
  simp only [Act.put, List.setIfInBounds_toArray, List.set_cons_zero, List.set_cons_succ]
  refine wpList_runW rfl (.pointer (some ⟨W.heap.size + 1 + 1, 0, none⟩)) (by rw [exec_alloc_part rfl, hw3, z1]) ?_
  simp only [Act.put, List.setIfInBounds_toArray, List.set_cons_zero, List.set_cons_succ]
  refine wpList_store_part O3.out rfl _ _ rfl rfl rfl ?_
  intro w4 o4 b4
  have P3 := Lib.hid o4
  have P1 := Lib.hid (b4.owns O1.out (by omega))
  have P2 := Lib.hid (b4.owns O2.out (by omega))
  have N4 := Lib.hid (HN.out.other O3.out not_part (by decide) b4)
  have K4 := Lib.hid (HK.out.fresh b4 (by omega) HL.out)
  clear o4 b4
  simp only [Act.put]
  clear hw1 hw3 z1 O1 O2 O3 HN HK
  have hbx := N4.out.box
  rw [HST.out, HFL.out] at hbx
  have k6 := hbx.cell_at (i := 6) rfl
  have f6 := hbx.free 6
  have lb := hbx.lt
  obtain ⟨w5, hw5⟩ : ∃ w5, w4.setCell ⟨V.bb, 6, none⟩ (.int .i64 (st - 1)) = w5 := ⟨_, rfl⟩
  have b5 : But (fun k => k = V.bb) w4 w5 := hw5 ▸ set_but hbx
  have o5 : Owns w5 V.bb [g0, g1, g2, g3, .int .i64 kind, V.ov, .int .i64 (st - 1), .bool false] 62 := by
    have := hbx.set 6 (.int .i64 (st - 1))
    rw [hw5] at this
    exact this
  have N5 := Lib.hid (N4.out.boxed b5 o5)
  have K5 := Lib.hid (K4.out.trans (KpF.bld b5 N4.out.low N4.out.blo hbx (.inl rfl)))
  have Q1 := Lib.hid (b5.owns P1.out (owns_ne P1.out hbx (by decide)))
  have Q2 := Lib.hid (b5.owns P2.out (owns_ne P2.out hbx (by decide)))
  have Q3 := Lib.hid (b5.owns P3.out (owns_ne P3.out hbx (by decide)))
  have E5 := Lib.hid (HE.out.kp K5.out)
  have R6 := o5.cell_at (i := 6) rfl
  have R7 := o5.cell_at (i := 7) rfl
  have R8 := o5.free 7
  have lb5 := o5.lt
  have HO5 := Lib.hid o5
  have n0 := Q1.out.cell_at (i := 0) rfl
  have n1 := Q1.out.cell_at (i := 1) rfl
  have n2 := Q1.out.cell_at (i := 2) rfl
  have n3 := Q1.out.cell_at (i := 3) rfl
  have n4 := Q1.out.cell_at (i := 4) rfl
  have nl := Q1.out.lt
  clear hbx b5 o5 P1 P2 P3 N4 K4
  have HB5 : Hid (NB.Ok ⟨b.out, st - 1, false⟩) := Lib.hid ⟨HB0.out.few, HB0.out.fol⟩
  have ho2 : ¬ (st - 1 < 0) := ho
  go_upto_region 3 with fail
  clear k6 f6 lb hw5
  go_upto_region 6 with fail
  clear R6 R7 R8
  have hhd := hgt_dec b
  rw [HFL.out, HST.out] at hhd
  have hhg2 := hgt_open (b := b) (by rw [HST.out]; exact ho2)
  rw [HFL.out, HST.out] at hhg2
  have HC := Lib.hid (nsub_ok HREC.out 3 nm tx set subs w5 V ⟨b.out, st - 1, false⟩ _ _ _ _ _ E5.out N5.out HB5.out (by dsimp only; omega) (by have := HH.out; omega) (HND.out.keep K5.out.low) HFIT.out)
  have HSO := Lib.hid (subN_to (nodeN_to g.lk kind k) subs ⟨b.out, st - 1, false⟩ HB5.out)
  rw [← HST.out] at HC HSO
  clear hhd hhg2
  obtain ⟨q, hq⟩ : ∃ q, subN (nodeN g.lk kind k) subs ⟨b.out, b.steps - 1, false⟩ = q := ⟨_, rfl⟩
  rw [hq] at HC HSO
  have HQ := Lib.hid hq
  clear hq
  go_upto_region 32 with fail
  go_upto_region 35 with (first
    | (refine HC.out.mono ?_; rintro e w6 ⟨rfl, hK6, V6, hV6, hN6⟩; have K6 := Lib.hid (K5.out.trans hK6); have N6 := Lib.hid hN6; have T2 := Lib.hid (hK6.owns Q2.out not_part); have T3 := Lib.hid (hK6.owns Q3.out not_part); have HAG := Lib.hid (nagain_ok w6 lim g0 g1 g2 g3 kind V6 _ hN6 HSO.out.1.ok _ HSO.out.2 (E5.out.kp hK6).tab E5.out.pos); rw [hV6] at HAG; clear hK6 hN6)
    | (refine HAG.out.mono ?_; rintro e w7 ⟨rfl, hN7, -, hK7⟩; have K7 := Lib.hid (K6.out.trans hK7); have N7 := Lib.hid hN7; have U2 := Lib.hid (hK7.owns T2.out not_part); have U3 := Lib.hid (hK7.owns T3.out not_part); clear hK7 hN7)
    | (refine wpList_runV rfl (endsV q.1.first q.1.last) (exec_field_ends rfl rfl) ?_; simp only [Act.put, List.setIfInBounds_toArray, List.set_cons_zero, List.set_cons_succ])
    | (refine wpList_run_skip rfl (exec_store_ends U3.out rfl rfl rfl) ?_; have hwr := ends_write (a := q.1.first) (c := q.1.last) U3.out; have R3 := Lib.hid hwr.1; have R2 := Lib.hid (hwr.2.owns U2.out (by omega)); have NR := Lib.hid (N7.out.other U3.out not_part (by decide) hwr.2); have KR := Lib.hid (K7.out.fresh hwr.2 (by omega) HL.out); clear hwr; simp only [Act.put]))
  apply wp_region_lit
  refine wpList_load_part R3.out rfl _ rfl rfl ?_
  simp only [Act.put, List.setIfInBounds_toArray, List.set_cons_zero, List.set_cons_succ]
  refine wpList_store_part R2.out rfl _ _ rfl rfl rfl ?_
  intro w9 o9 b9
  have O9 := Lib.hid o9
  have N9 := Lib.hid (NR.out.other R2.out not_part (by decide) b9)
  have K9 := Lib.hid (KR.out.fresh b9 (by omega) HL.out)
  clear o9 b9
  simp only [Act.put]
  go_wp2_with fail
  refine bodyPost_ret (ret_part rfl _ O9.out rfl) rfl ?_
  rw [HQ.out]
  exact ⟨rfl, K9.out, V6, hV6, N9.out⟩

set_option maxHeartbeats 8000000 in
set_option maxRecDepth 40000 in
theorem nn_plus {lim : Nat} {g0 g1 g2 g3 : Value} {g : Gr} {kind : Int} {k : Nat} (hrec : NodeC lim g0 g1 g2 g3 g kind k) (hk : k ≤ 100000) (nm tx : ByteArray) (set : List (Int × Int)) (subs : List Nd) (W : World) (V : NBV) (b : NB) (v0 v1 v2 v3 v4 : Value) (hE : NEnv W lim g0 g1 g2 g3 g) (hN : NBAt W lim g0 g1 g2 g3 kind V b) (hb : b.Ok) (hs : b.steps < ((k + 1 : Nat) : Int)) (hl : -1000000000000 ≤ b.hgt - 1) (hA : NodeAt W lim (some v0) (some v1) (some v2) (some v3) (some v4) (.mk 4 nm tx set subs)) (hf : NdFit g (.mk 4 nm tx set subs)) (ho : ¬ b.steps - 1 < 0) (hfl : b.full = false) :
    Calls Tryd.prog 17 #[.pointer (some ⟨V.bb, 0, none⟩), .agg #[v0, v1, v2, v3, v4]] W (NodeIs W lim g0 g1 g2 g3 kind V.bb (againN (subN (nodeN g.lk kind k) subs ⟨b.out, b.steps - 1, b.full⟩))) := by
  have HND := Lib.hid hA
  rw [NodeAt] at hA
  obtain ⟨hkk, h1, h2, h3, h4, h5, ⟨sa, sc, h6, h6', h7⟩, na, nc, h8, h8', h9⟩ := hA
  obtain rfl := Option.some.inj h3
  obtain rfl := Option.some.inj h4
  obtain rfl := Option.some.inj h5
  obtain rfl := Option.some.inj h6
  obtain rfl := Option.some.inj h8
  clear h3 h4 h5 h6 h8
  unfold reachN at h1 h2 h6' h8'
  have hhg : b.hgt ≤ b.steps := by unfold NB.hgt; omega
  have HL := Lib.hid hN.low
  have HFIT := Lib.hid hf
  have HREC := Lib.hid hrec
  have HH := Lib.hid hl
  have HB0 := Lib.hid hb
  obtain ⟨st, hst⟩ : ∃ st, b.steps = st := ⟨_, rfl⟩
  have HST := Lib.hid hst
  obtain ⟨bo, hbo⟩ : ∃ bo, b.out = bo := ⟨_, rfl⟩
  have HBO := Lib.hid hbo
  have hB := boxN3 W [.int .u8 4, .string nm, .string tx, .slice sa set.length sc, .slice na subs.length nc]
  obtain ⟨w1, hw1⟩ : ∃ w1, (W.alloc (.cells #[.int .u8 4, .string nm, .string tx, .slice sa set.length sc, .slice na subs.length nc] 34)).alloc (.cells Tryd.zeroCells70 70) = w1 := ⟨_, rfl⟩
  obtain ⟨w3, hw3⟩ : ∃ w3, w1.alloc (.cells Tryd.zeroCells70 70) = w3 := ⟨_, rfl⟩
  rw [hw1, hw3] at hB
  have z1 : w1.heap.size = W.heap.size + 1 + 1 := by rw [← hw1]; simp only [World.size_alloc]
  have O1 := Lib.hid hB.o1
  have O2 := Lib.hid hB.o2
  have O3 := Lib.hid hB.o3
  have HN := Lib.hid (hN.grew hB.grew)
  have HK := Lib.hid (KpF.grew hB.grew hN.low)
  have HE := Lib.hid hE
  have H7 := Lib.hid h7
  have H9 := Lib.hid h9
  rw [hst] at hs ho hhg
  clear hB hN hE h9 h7 hf hrec hb hst hbo
  have hl2 : -1000000000000 ≤ st - 1 := by have := HH.out; omega
  have HFL := Lib.hid hfl
  rw [hfl]
  go_enter Tryd.func17, Tryd.ntmps17
  go_upto_region 1 with fail
  apply wp_region_lit
  refine wpList_runV rfl (partV ⟨0, 0, true⟩) (exec_build_true rfl rfl) ?_
  simp only [Act.put, List.setIfInBounds_toArray, List.set_cons_zero, List.set_cons_succ]
  refine wpList_runW rfl (.pointer (some ⟨W.heap.size + 1 + 1, 0, none⟩)) (by rw [exec_alloc_part rfl, hw3, z1]) ?_
  simp only [Act.put, List.setIfInBounds_toArray, List.set_cons_zero, List.set_cons_succ]
  refine wpList_store_part O3.out rfl _ _ rfl rfl rfl ?_
  intro w4 o4 b4
  have P3 := Lib.hid o4
  have P1 := Lib.hid (b4.owns O1.out (by omega))
  have P2 := Lib.hid (b4.owns O2.out (by omega))
  have N4 := Lib.hid (HN.out.other O3.out not_part (by decide) b4)
  have K4 := Lib.hid (HK.out.fresh b4 (by omega) HL.out)
  clear o4 b4
  simp only [Act.put]
  clear hw1 hw3 z1 O1 O2 O3 HN HK
  have hbx := N4.out.box
  rw [HST.out, HFL.out] at hbx
  have k6 := hbx.cell_at (i := 6) rfl
  have f6 := hbx.free 6
  have lb := hbx.lt
  obtain ⟨w5, hw5⟩ : ∃ w5, w4.setCell ⟨V.bb, 6, none⟩ (.int .i64 (st - 1)) = w5 := ⟨_, rfl⟩
  have b5 : But (fun k => k = V.bb) w4 w5 := hw5 ▸ set_but hbx
  have o5 : Owns w5 V.bb [g0, g1, g2, g3, .int .i64 kind, V.ov, .int .i64 (st - 1), .bool false] 62 := by
    have := hbx.set 6 (.int .i64 (st - 1))
    rw [hw5] at this
    exact this
  have N5 := Lib.hid (N4.out.boxed b5 o5)
  have K5 := Lib.hid (K4.out.trans (KpF.bld b5 N4.out.low N4.out.blo hbx (.inl rfl)))
  have Q1 := Lib.hid (b5.owns P1.out (owns_ne P1.out hbx (by decide)))
  have Q2 := Lib.hid (b5.owns P2.out (owns_ne P2.out hbx (by decide)))
  have Q3 := Lib.hid (b5.owns P3.out (owns_ne P3.out hbx (by decide)))
  have E5 := Lib.hid (HE.out.kp K5.out)
  have R6 := o5.cell_at (i := 6) rfl
  have R7 := o5.cell_at (i := 7) rfl
  have R8 := o5.free 7
  have lb5 := o5.lt
  have HO5 := Lib.hid o5
  have n0 := Q1.out.cell_at (i := 0) rfl
  have n1 := Q1.out.cell_at (i := 1) rfl
  have n2 := Q1.out.cell_at (i := 2) rfl
  have n3 := Q1.out.cell_at (i := 3) rfl
  have n4 := Q1.out.cell_at (i := 4) rfl
  have nl := Q1.out.lt
  clear hbx b5 o5 P1 P2 P3 N4 K4
  have HB5 : Hid (NB.Ok ⟨b.out, st - 1, false⟩) := Lib.hid ⟨HB0.out.few, HB0.out.fol⟩
  have ho2 : ¬ (st - 1 < 0) := ho
  go_upto_region 3 with fail
  clear k6 f6 lb hw5
  go_upto_region 6 with fail
  clear R6 R7 R8
  have hhd := hgt_dec b
  rw [HFL.out, HST.out] at hhd
  have hhg2 := hgt_open (b := b) (by rw [HST.out]; exact ho2)
  rw [HFL.out, HST.out] at hhg2
  have HC := Lib.hid (nsub_ok HREC.out 4 nm tx set subs w5 V ⟨b.out, st - 1, false⟩ _ _ _ _ _ E5.out N5.out HB5.out (by dsimp only; omega) (by have := HH.out; omega) (HND.out.keep K5.out.low) HFIT.out)
  have HSO := Lib.hid (subN_to (nodeN_to g.lk kind k) subs ⟨b.out, st - 1, false⟩ HB5.out)
  rw [← HST.out] at HC HSO
  clear hhd hhg2
  obtain ⟨q, hq⟩ : ∃ q, subN (nodeN g.lk kind k) subs ⟨b.out, b.steps - 1, false⟩ = q := ⟨_, rfl⟩
  rw [hq] at HC HSO
  have HQ := Lib.hid hq
  clear hq
  go_upto_region 34 with fail
  go_wp2_with (first
    | (refine HC.out.mono ?_; rintro e w6 ⟨rfl, hK6, V6, hV6, hN6⟩; have K6 := Lib.hid (K5.out.trans hK6); have N6 := Lib.hid hN6; have T2 := Lib.hid (hK6.owns Q2.out not_part); have T3 := Lib.hid (hK6.owns Q3.out not_part); have HAG := Lib.hid (nagain_ok w6 lim g0 g1 g2 g3 kind V6 _ hN6 HSO.out.1.ok _ HSO.out.2 (E5.out.kp hK6).tab E5.out.pos); rw [hV6] at HAG; clear hK6 hN6)
    | (refine HAG.out.mono ?_; rintro e w7 ⟨rfl, hN7, -, hK7⟩; have K7 := Lib.hid (K6.out.trans hK7); have N7 := Lib.hid hN7; have U2 := Lib.hid (hK7.owns T2.out not_part); have U3 := Lib.hid (hK7.owns T3.out not_part); clear hK7 hN7)
    | (refine wpList_store_part U2.out rfl _ _ rfl rfl rfl ?_; intro w9 o9 b9; have O9 := Lib.hid o9; have N9 := Lib.hid (N7.out.other U2.out not_part (by decide) b9); have K9 := Lib.hid (K7.out.fresh b9 (by omega) HL.out); clear o9 b9; simp only [Act.put]))
  refine bodyPost_ret (ret_part rfl _ O9.out rfl) rfl ?_
  rw [HQ.out]
  exact ⟨rfl, K9.out, V6, hV6, N9.out⟩
end Go.Proofs.YtkinlcichclnkaaDoor

/- node of nfas: a token. Printed by gennfnode.py. -/
namespace Go.Proofs.YtkinlcichclnkaaDoor
open Go.RowKit

set_option maxHeartbeats 8000000 in
set_option maxRecDepth 40000 in
theorem nn_tok {lim : Nat} {g0 g1 g2 g3 : Value} {g : Gr} {kind : Int} {k : Nat} (hrec : NodeC lim g0 g1 g2 g3 g kind k) (hk : k ≤ 100000) (nm tx : ByteArray) (set : List (Int × Int)) (subs : List Nd) (W : World) (V : NBV) (b : NB) (v0 v1 v2 v3 v4 : Value) (hE : NEnv W lim g0 g1 g2 g3 g) (hN : NBAt W lim g0 g1 g2 g3 kind V b) (hb : b.Ok) (hs : b.steps < ((k + 1 : Nat) : Int)) (hl : -1000000000000 ≤ b.hgt - 1) (hA : NodeAt W lim (some v0) (some v1) (some v2) (some v3) (some v4) (.mk 6 nm tx set subs)) (hf : NdFit g (.mk 6 nm tx set subs)) (ho : ¬ b.steps - 1 < 0) (hfl : b.full = false) :
    Calls Tryd.prog 17 #[.pointer (some ⟨V.bb, 0, none⟩), .agg #[v0, v1, v2, v3, v4]] W (NodeIs W lim g0 g1 g2 g3 kind V.bb (nodeN g.lk kind k (g.lk nm) ⟨b.out, b.steps - 1, b.full⟩)) := by
  have HND := Lib.hid hA
  rw [NodeAt] at hA
  obtain ⟨hkk, h1, h2, h3, h4, h5, ⟨sa, sc, h6, h6', h7⟩, na, nc, h8, h8', h9⟩ := hA
  obtain rfl := Option.some.inj h3
  obtain rfl := Option.some.inj h4
  obtain rfl := Option.some.inj h5
  obtain rfl := Option.some.inj h6
  obtain rfl := Option.some.inj h8
  clear h3 h4 h5 h6 h8
  unfold reachN at h1 h2 h6' h8'
  have hhg : b.hgt ≤ b.steps := by unfold NB.hgt; omega
  have HL := Lib.hid hN.low
  have HFIT := Lib.hid hf
  have HREC := Lib.hid hrec
  have HH := Lib.hid hl
  have HB0 := Lib.hid hb
  obtain ⟨st, hst⟩ : ∃ st, b.steps = st := ⟨_, rfl⟩
  have HST := Lib.hid hst
  obtain ⟨bo, hbo⟩ : ∃ bo, b.out = bo := ⟨_, rfl⟩
  have HBO := Lib.hid hbo
  have hB := boxN3 W [.int .u8 6, .string nm, .string tx, .slice sa set.length sc, .slice na subs.length nc]
  obtain ⟨w1, hw1⟩ : ∃ w1, (W.alloc (.cells #[.int .u8 6, .string nm, .string tx, .slice sa set.length sc, .slice na subs.length nc] 34)).alloc (.cells Tryd.zeroCells70 70) = w1 := ⟨_, rfl⟩
  obtain ⟨w3, hw3⟩ : ∃ w3, w1.alloc (.cells Tryd.zeroCells70 70) = w3 := ⟨_, rfl⟩
  rw [hw1, hw3] at hB
  have z1 : w1.heap.size = W.heap.size + 1 + 1 := by rw [← hw1]; simp only [World.size_alloc]
  have O1 := Lib.hid hB.o1
  have O2 := Lib.hid hB.o2
  have O3 := Lib.hid hB.o3
  have HN := Lib.hid (hN.grew hB.grew)
  have HK := Lib.hid (KpF.grew hB.grew hN.low)
  have HE := Lib.hid hE
  have H7 := Lib.hid h7
  have H9 := Lib.hid h9
  rw [hst] at hs ho hhg
  clear hB hN hE h9 h7 hf hrec hb hst hbo
  have hl2 : -1000000000000 ≤ st - 1 := by have := HH.out; omega
  have HFL := Lib.hid hfl
  rw [hfl]
  go_enter Tryd.func17, Tryd.ntmps17
  go_upto_region 1 with fail
  apply wp_region_lit
  refine wpList_runV rfl (partV ⟨0, 0, true⟩) (exec_build_true rfl rfl) ?_
  simp only [Act.put, List.setIfInBounds_toArray, List.set_cons_zero, List.set_cons_succ]
  refine wpList_runW rfl (.pointer (some ⟨W.heap.size + 1 + 1, 0, none⟩)) (by rw [exec_alloc_part rfl, hw3, z1]) ?_
  simp only [Act.put, List.setIfInBounds_toArray, List.set_cons_zero, List.set_cons_succ]
  refine wpList_store_part O3.out rfl _ _ rfl rfl rfl ?_
  intro w4 o4 b4
  have P3 := Lib.hid o4
  have P1 := Lib.hid (b4.owns O1.out (by omega))
  have P2 := Lib.hid (b4.owns O2.out (by omega))
  have N4 := Lib.hid (HN.out.other O3.out not_part (by decide) b4)
  have K4 := Lib.hid (HK.out.fresh b4 (by omega) HL.out)
  clear o4 b4
  simp only [Act.put]
  clear hw1 hw3 z1 O1 O2 O3 HN HK
  have hbx := N4.out.box
  rw [HST.out, HFL.out] at hbx
  have k6 := hbx.cell_at (i := 6) rfl
  have f6 := hbx.free 6
  have lb := hbx.lt
  obtain ⟨w5, hw5⟩ : ∃ w5, w4.setCell ⟨V.bb, 6, none⟩ (.int .i64 (st - 1)) = w5 := ⟨_, rfl⟩
  have b5 : But (fun k => k = V.bb) w4 w5 := hw5 ▸ set_but hbx
  have o5 : Owns w5 V.bb [g0, g1, g2, g3, .int .i64 kind, V.ov, .int .i64 (st - 1), .bool false] 62 := by
    have := hbx.set 6 (.int .i64 (st - 1))
    rw [hw5] at this
    exact this
  have N5 := Lib.hid (N4.out.boxed b5 o5)
  have K5 := Lib.hid (K4.out.trans (KpF.bld b5 N4.out.low N4.out.blo hbx (.inl rfl)))
  have Q1 := Lib.hid (b5.owns P1.out (owns_ne P1.out hbx (by decide)))
  have Q2 := Lib.hid (b5.owns P2.out (owns_ne P2.out hbx (by decide)))
  have Q3 := Lib.hid (b5.owns P3.out (owns_ne P3.out hbx (by decide)))
  have E5 := Lib.hid (HE.out.kp K5.out)
  have R6 := o5.cell_at (i := 6) rfl
  have R7 := o5.cell_at (i := 7) rfl
  have R8 := o5.free 7
  have lb5 := o5.lt
  have HO5 := Lib.hid o5
  have n0 := Q1.out.cell_at (i := 0) rfl
  have n1 := Q1.out.cell_at (i := 1) rfl
  have n2 := Q1.out.cell_at (i := 2) rfl
  have n3 := Q1.out.cell_at (i := 3) rfl
  have n4 := Q1.out.cell_at (i := 4) rfl
  have nl := Q1.out.lt
  clear hbx b5 o5 P1 P2 P3 N4 K4
  have HB5 : Hid (NB.Ok ⟨b.out, st - 1, false⟩) := Lib.hid ⟨HB0.out.few, HB0.out.fol⟩
  have ho2 : ¬ (st - 1 < 0) := ho
  go_upto_region 3 with fail
  clear k6 f6 lb hw5
  go_upto_region 6 with fail
  clear R6 R7 R8
  have hhd := hgt_dec b
  rw [HFL.out, HST.out] at hhd
  have hhg2 := hgt_open (b := b) (by rw [HST.out]; exact ho2)
  rw [HFL.out, HST.out] at hhg2
  have hfi := HFIT.out.tok _ (all_self _) rfl
  simp only [Nd.name] at hfi
  obtain ⟨j, hj, hfj⟩ := Gr.find_lt hfi
  have hlk := Gr.lk_at hj hfj
  have HFIND := Lib.hid (fun (w : World) (hw : Grew w5 w) => find_ok g nm w g0 g1 g2 g3 ((E5.out.gr.keep ((KpF.grew hw N5.out.low).low)).mono (Nat.le_trans N5.out.low hw.size)))
  have hgr := E5.out.gr
  obtain ⟨q1, q2, q3, q4, q5, q6, ra, rc, q7, q8, q9⟩ := hgr
  obtain rfl := Option.some.inj q1
  obtain rfl := Option.some.inj q3
  obtain rfl := Option.some.inj q4
  obtain rfl := Option.some.inj q7
  obtain ⟨rb, ro, rfl, hrb, hrule⟩ := q9.get hj
  simp only [Nat.zero_add] at hrule
  obtain ⟨y0, y1, y2, y3, y4, -, -, c2, c3, c4, c5, c6, -, -, -, -, hnode⟩ := hrule.vals
  obtain ⟨p0, p1, p2, p3, p4, p5, p6, p7, p8, rfl, rfl, rfl, rfl, rfl⟩ := hnode.forms
  have hrb2 : rb < w5.heap.size := by have := N5.out.low; omega
  unfold reachN at q8
  have HC := Lib.hid (fun (w : World) (hw : Grew w5 w) => HREC.out (g.lk nm) w V ⟨b.out, st - 1, false⟩ _ _ _ _ _ (E5.out.kp (KpF.grew hw N5.out.low)) (N5.out.grew hw) HB5.out (by dsimp only; omega) (by have := HH.out; omega) (hlk.symm ▸ hnode.keep (KpF.grew hw N5.out.low).low) (E5.out.fit.lk nm))
  rw [← HST.out] at HC
  clear hhd hhg2 hfi hnode q1 q2 q3 q4 q5 q6 q7 q9
  rw [hfj] at HFIND
  have e0 := HO5.out.cell_at (i := 0) rfl
  have e1 := HO5.out.cell_at (i := 1) rfl
  have e2 := HO5.out.cell_at (i := 2) rfl
  have e3 := HO5.out.cell_at (i := 3) rfl
  have hjl : (j : Int) < (g.rules.length : Int) := by omega
  clear hlk hfj
  go_upto_region 28 with fail
  refine wp_region_hav_lit follows (by kernel_rfl) ?_
  repeat (first
    | (refine HavG.skip (fun _ => rfl) ?_; simp only [Act.put, List.setIfInBounds_toArray, List.set_cons_zero, List.set_cons_succ])
    | (refine HavG.val (fun _ => rfl) ?_ (fun x w hw _ => ?_) ?_; rotate_left; (focus (have hc := hw.cells; clear hw; go_simp; first | done | rfl)); simp only [Act.put, List.setIfInBounds_toArray, List.set_cons_zero, List.set_cons_succ]))
  refine HavG.det (fun _ => rfl) (.int .i64 (j : Int)) (fun x w hw _ => ?_) ?_
  · have HW := Lib.hid hw
    clear hw
    go_simp
    refine (HFIND.out w HW.out).mono ?_
    rintro e w' ⟨rfl, hb2⟩
    exact ⟨rfl, hb2⟩
  simp only [Act.put, List.setIfInBounds_toArray, List.set_cons_zero, List.set_cons_succ]
  repeat (first
    | (refine HavG.skip (fun _ => rfl) ?_; simp only [Act.put, List.setIfInBounds_toArray, List.set_cons_zero, List.set_cons_succ])
    | (refine HavG.val (fun _ => rfl) ?_ (fun x w hw _ => ?_) ?_; rotate_left; (focus (have hc := hw.cells; clear hw; go_simp; first | done | rfl)); simp only [Act.put, List.setIfInBounds_toArray, List.set_cons_zero, List.set_cons_succ]))
  refine HavG.tail (by kernel_rfl) (by kernel_rfl) (fun x w hw _ => ?_)
  have HW := Lib.hid hw
  have HKW := Lib.hid (K5.out.trans (KpF.grew hw N5.out.low))
  clear hw
  go_wp2_with (first
      | (refine (HC.out w HW.out).mono ?_; rintro e w6 ⟨rfl, hK6, V6, hV6, hN6⟩; have K6 := Lib.hid (HKW.out.trans hK6); have N6 := Lib.hid hN6; have O6 := Lib.hid (hK6.owns (Q2.out.keep HW.out) not_part); clear hK6 hN6)
      | (refine wpList_store_part O6.out rfl _ _ rfl rfl rfl ?_; intro w9 o9 b9; have O9 := Lib.hid o9; have N9 := Lib.hid (N6.out.other O6.out not_part (by decide) b9); have K9 := Lib.hid (K6.out.fresh b9 (by omega) HL.out); clear o9 b9; simp only [Act.put]))
  exact bodyPost_ret (ret_part rfl _ O9.out rfl) rfl ⟨rfl, K9.out, V6, hV6, N9.out⟩
end Go.Proofs.YtkinlcichclnkaaDoor
