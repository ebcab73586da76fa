/- A node's first sub; what is said of a node's call. -/
import Derived.Test.YtkinlcichclnkaaDoorQT24
import Derived.Test.YtkinlcichclnkaaDoorQT13
import Derived.Test.YtkinlcichclnkaaDoorQT25
namespace Go.Proofs.YtkinlcichclnkaaDoor
open Go.RowKit

/-- what a part is made of -/
structure NEnv (W : World) (lim : Nat) (g0 g1 g2 g3 : Value) (g : Gr) : Prop where
  gr : GrAt W lim (some g0) (some g1) (some g2) (some g3) g
  tab : BruAt W
  pos : 0 < lim
  fit : GrFit g
theorem NEnv.kp {W W' : World} {lim : Nat} {g0 g1 g2 g3 : Value} {g : Gr} (h : NEnv W lim g0 g1 g2 g3 g) (hk : KpF lim W W') : NEnv W' lim g0 g1 g2 g3 g := ⟨h.gr.keep hk.low, h.tab.below h.pos hk.low, h.pos, h.fit⟩
def NodeIs (W : World) (lim : Nat) (g0 g1 g2 g3 : Value) (kind : Int) (bb : Nat) (q : NPart × NB) (e : Ending) (W' : World) : Prop :=
  e = .returned (partV q.1) ∧ KpF lim W W' ∧ ∃ V, V.bb = bb ∧ NBAt W' lim g0 g1 g2 g3 kind V q.2
def NodeC (lim : Nat) (g0 g1 g2 g3 : Value) (g : Gr) (kind : Int) (k : Nat) : Prop :=
  ∀ (n : Nd) (W : World) (V : NBV) (b : NB) (v0 v1 v2 v3 v4 : Value), NEnv W lim g0 g1 g2 g3 g → NBAt W lim g0 g1 g2 g3 kind V b → b.Ok → b.steps < (k : Int) → -1000000000000 ≤ b.hgt - 1 →
    NodeAt W lim (some v0) (some v1) (some v2) (some v3) (some v4) n → NdFit g n → Calls Tryd.prog 17 #[.pointer (some ⟨V.bb, 0, none⟩), .agg #[v0, v1, v2, v3, v4]] W (NodeIs W lim g0 g1 g2 g3 kind V.bb (nodeN g.lk kind k n b))
theorem NodeIs.from {W W' w : World} {lim : Nat} {g0 g1 g2 g3 : Value} {kind : Int} {bb : Nat} {q : NPart × NB} {e : Ending} (h : NodeIs W' lim g0 g1 g2 g3 kind bb q e w) (hk : KpF lim W W') : NodeIs W lim g0 g1 g2 g3 kind bb q e w := ⟨h.1, hk.trans h.2.1, h.2.2⟩
theorem not_part : ¬ BldT 70 := by unfold BldT; decide
theorem not_node : ¬ BldT 34 := by unfold BldT; decide
structure BoxT (W w : World) (cs : List Value) : Prop where
  grew : Grew W w
  o1 : Owns w W.heap.size cs 34
  o2 : Owns w (W.heap.size + 1) (partL ⟨0, 0, false⟩) 70
  o3 : Owns w (W.heap.size + 1 + 1) (partL ⟨0, 0, false⟩) 70
structure BoxN (W w : World) (cs : List Value) : Prop where
  grew : Grew W w
  o1 : Owns w W.heap.size cs 34
  o2 : Owns w (W.heap.size + 1) (partL ⟨0, 0, false⟩) 70
theorem boxN (W : World) (cs : List Value) : BoxN W ((W.alloc (.cells cs.toArray 34)).alloc (.cells Tryd.zeroCells70 70)) cs := by
  have h1 := grew_alloc W (.cells cs.toArray 34)
  have h2 := grew_alloc (W.alloc (.cells cs.toArray 34)) (.cells Tryd.zeroCells70 70)
  have e1 := Owns.alloc W cs 34
  have e2 := zpart_owns (W.alloc (.cells cs.toArray 34))
  simp only [World.size_alloc] at e2
  exact ⟨h1.trans h2, e1.keep h2, e2⟩
theorem boxN3 (W : World) (cs : List Value) : BoxT W (((W.alloc (.cells cs.toArray 34)).alloc (.cells Tryd.zeroCells70 70)).alloc (.cells Tryd.zeroCells70 70)) cs := by
  have h := boxN W cs
  have h2 := grew_alloc ((W.alloc (.cells cs.toArray 34)).alloc (.cells Tryd.zeroCells70 70)) (.cells Tryd.zeroCells70 70)
  have e2 := zpart_owns ((W.alloc (.cells cs.toArray 34)).alloc (.cells Tryd.zeroCells70 70))
  simp only [World.size_alloc] at e2
  exact ⟨h.grew.trans h2, h.o1.keep h2, h.o2.keep h2, e2⟩
theorem exec_build_true {ev : Operand → Value} {o : Oper} {w : World} (ho : o.op = .build 70 #[(1, .const (.bool true))]) (he : ev (.const (.bool true)) = .bool true) : (execOp ev o).run Tryd.prog w = .ok (.value (partV ⟨0, 0, true⟩)) w := by
  unfold execOp
  simp only [ho, List.map_toArray, List.map_cons, List.map_nil, he, Sem.run_bind, run_build_true, Result.andThen_ok, Sem.run_pure]
theorem wpList_runW {P : Program} {ops : Array Oper} {rest : List Oper} {o : Oper} {a : Act} {w w' : World} {Q : Exit → Act → World → Prop} (hgd : o.guard = none) (c : Value) (hr : (execOp a.eval o).run P w = .ok (.value c) w') (h : wpList P ops Q rest (a.put o.dst c) w') : wpList P ops Q (o :: rest) a w :=
  wpList_plain hgd fun _ hK => by
    unfold Oper.wp
    rw [hr]
    exact hK _ _ h
theorem exec_alloc_part {ev : Operand → Value} {o : Oper} {w : World} (ho : o.op = .alloc 70) : (execOp ev o).run Tryd.prog w = .ok (.value (.pointer (some ⟨w.heap.size, 0, none⟩))) (w.alloc (.cells Tryd.zeroCells70 70)) := by
  have h : (Instr.alloc 70 true (.tuple #[])).run Tryd.prog w = .ok (.pointer (some ⟨w.heap.size, 0, none⟩)) (w.alloc (.cells Tryd.zeroCells70 70)) := by kernel_rfl
  unfold execOp
  simp only [ho, Sem.run_bind, h, Result.andThen_ok, Sem.run_pure]
set_option maxHeartbeats 4000000 in
set_option maxRecDepth 20000 in
theorem nsub_ok {lim : Nat} {g0 g1 g2 g3 : Value} {g : Gr} {kind : Int} {k : Nat} (hrec : NodeC lim g0 g1 g2 g3 g kind k) (kd : Int) (nm tx : ByteArray) (set : List (Int × Int)) (subs : List Nd) (W : World) (V : NBV) (b : NB) (v0 v1 v2 v3 v4 : Value)
    (hE : NEnv W lim g0 g1 g2 g3 g) (hN : NBAt W lim g0 g1 g2 g3 kind V b) (hb : b.Ok) (hs : b.steps < (k : Int)) (hl : -1000000000000 ≤ b.hgt - 1) (hA : NodeAt W lim (some v0) (some v1) (some v2) (some v3) (some v4) (.mk kd nm tx set subs)) (hf : NdFit g (.mk kd nm tx set subs)) :
    Calls Tryd.prog 35 #[.pointer (some ⟨V.bb, 0, none⟩), .agg #[v0, v1, v2, v3, v4]] W (NodeIs W lim g0 g1 g2 g3 kind V.bb (subN (nodeN g.lk kind k) subs b)) := by
  rw [NodeAt] at hA
  obtain ⟨hkk, h1, h2, h3, h4, h5, ⟨sa, sc, h6, h6', h7⟩, na, nc, h8, h8', h9⟩ := hA
  obtain rfl := Option.some.inj h3
  obtain rfl := Option.some.inj h4
  obtain rfl := Option.some.inj h5
  obtain rfl := Option.some.inj h6
  obtain rfl := Option.some.inj h8
  clear h3 h4 h5 h6 h8 h7 h1 h2
  unfold reachN at h6' h8'
  have hB := boxN W [.int .u8 kd, .string nm, .string tx, .slice sa set.length sc, .slice na subs.length nc]
  obtain ⟨w2, hw2⟩ : ∃ w2, (W.alloc (.cells #[.int .u8 kd, .string nm, .string tx, .slice sa set.length sc, .slice na subs.length nc] 34)).alloc (.cells Tryd.zeroCells70 70) = w2 := ⟨_, rfl⟩
  rw [hw2] at hB
  have O1 := Lib.hid hB.o1
  have O2 := Lib.hid hB.o2
  have G2 := Lib.hid hB.grew
  have HN := Lib.hid (hN.grew hB.grew)
  have HK := Lib.hid (KpF.grew hB.grew hN.low)
  have HE := Lib.hid (hE.kp HK.out)
  have H9 := Lib.hid (h9.keep HK.out.low)
  have HL := Lib.hid hN.low
  have HFIT := Lib.hid hf
  have n4 := hB.o1.cell_at (i := 4) rfl
  have nl := hB.o1.lt
  clear hB hN hE h9 hf
  cases subs with
  | nil =>
    simp only [List.length_nil] at n4 h8' hw2 ⊢
    go_enter Tryd.func35, Tryd.ntmps35
    go_wp2_with (first
      | (refine wpList_runV rfl (partV ⟨0, 0, false⟩) (exec_build_zero rfl) ?_; simp only [Act.put, List.setIfInBounds_toArray, List.set_cons_zero, List.set_cons_succ])
      | (refine wpList_store_part O2.out rfl _ _ rfl rfl rfl ?_; intro w4 o4 b4; have O4 := Lib.hid o4; have N4 := Lib.hid (HN.out.other O2.out not_part (by decide) b4); have K4 := Lib.hid (HK.out.fresh b4 (by omega) HL.out); clear o4 b4; simp only [Act.put]))
    exact bodyPost_ret (ret_part rfl _ O4.out rfl) rfl ⟨rfl, K4.out, V, rfl, N4.out⟩
  | cons s r =>
    obtain ⟨bq, off, rfl, hbl, hnode⟩ := H9.out.get (k := 0) (by simp)
    simp only [Nat.zero_mul, Nat.add_zero, List.getElem_cons_zero] at hnode
    obtain ⟨y0, y1, y2, y3, y4, c0, c1, c2, c3, c4, hnode⟩ := hnode.vals
    obtain ⟨p0, p1, p2, p3, p4, p5, p6, p7, p8, rfl, rfl, rfl, rfl, rfl⟩ := hnode.forms
    have HC := Lib.hid (hrec s w2 V b _ _ _ _ _ HE.out HN.out hb hs hl hnode (HFIT.out.sub (List.mem_cons_self ..)))
    have hbl2 : bq < w2.heap.size := by have := HN.out.low; omega
    have hlen : (0 : Int) < ((r.length + 1 : Nat) : Int) := by omega
    simp only [List.length_cons] at n4 h8' hw2 ⊢
    clear hnode hbl H9 HE
    go_enter Tryd.func35, Tryd.ntmps35
    go_wp2_with (first
      | (refine HC.out.mono ?_; rintro e w5 ⟨rfl, hK5, V5, hV5, hN5⟩; have K5 := Lib.hid (HK.out.trans hK5); have N5 := Lib.hid hN5; have O5 := Lib.hid (hK5.owns O2.out not_part); clear hK5 hN5)
      | (refine wpList_store_part O5.out rfl _ _ rfl rfl rfl ?_; intro w4 o4 b4; have O4 := Lib.hid o4; have N4 := Lib.hid (N5.out.other O5.out not_part (by decide) b4); have K4 := Lib.hid (K5.out.fresh b4 (by omega) HL.out); clear o4 b4; simp only [Act.put]))
    exact bodyPost_ret (ret_part rfl _ O4.out rfl) rfl ⟨rfl, K4.out, V5, hV5, N4.out⟩
end Go.Proofs.YtkinlcichclnkaaDoor

/- node of nfas: a set. Printed by gennfnode.py. -/
namespace Go.Proofs.YtkinlcichclnkaaDoor
open Go.RowKit

set_option maxHeartbeats 8000000 in
set_option maxRecDepth 40000 in
theorem nn_set {lim : Nat} {g0 g1 g2 g3 : Value} {g : Gr} {kind : Int} {k : Nat} (hrec : NodeC lim g0 g1 g2 g3 g kind k) (hk : k ≤ 100000) (nm tx : ByteArray) (set : List (Int × Int)) (subs : List Nd) (W : World) (V : NBV) (b : NB) (v0 v1 v2 v3 v4 : Value) (hE : NEnv W lim g0 g1 g2 g3 g) (hN : NBAt W lim g0 g1 g2 g3 kind V b) (hb : b.Ok) (hs : b.steps < ((k + 1 : Nat) : Int)) (hl : -1000000000000 ≤ b.hgt - 1) (hA : NodeAt W lim (some v0) (some v1) (some v2) (some v3) (some v4) (.mk 9 nm tx set subs)) (hf : NdFit g (.mk 9 nm tx set subs)) (ho : ¬ b.steps - 1 < 0) (hfl : b.full = false) :
    Calls Tryd.prog 17 #[.pointer (some ⟨V.bb, 0, none⟩), .agg #[v0, v1, v2, v3, v4]] W (NodeIs W lim g0 g1 g2 g3 kind V.bb (NB.place kind set ⟨b.out, b.steps - 1, b.full⟩)) := by
  have HND := Lib.hid hA
  rw [NodeAt] at hA
  obtain ⟨hkk, h1, h2, h3, h4, h5, ⟨sa, sc, h6, h6', h7⟩, na, nc, h8, h8', h9⟩ := hA
  obtain rfl := Option.some.inj h3
  obtain rfl := Option.some.inj h4
  obtain rfl := Option.some.inj h5
  obtain rfl := Option.some.inj h6
  obtain rfl := Option.some.inj h8
  clear h3 h4 h5 h6 h8
  unfold reachN at h1 h2 h6' h8'
  have hhg : b.hgt ≤ b.steps := by unfold NB.hgt; omega
  have HL := Lib.hid hN.low
  have HFIT := Lib.hid hf
  have HREC := Lib.hid hrec
  have HH := Lib.hid hl
  have HB0 := Lib.hid hb
  obtain ⟨st, hst⟩ : ∃ st, b.steps = st := ⟨_, rfl⟩
  have HST := Lib.hid hst
  obtain ⟨bo, hbo⟩ : ∃ bo, b.out = bo := ⟨_, rfl⟩
  have HBO := Lib.hid hbo
  have hB := boxN3 W [.int .u8 9, .string nm, .string tx, .slice sa set.length sc, .slice na subs.length nc]
  obtain ⟨w1, hw1⟩ : ∃ w1, (W.alloc (.cells #[.int .u8 9, .string nm, .string tx, .slice sa set.length sc, .slice na subs.length nc] 34)).alloc (.cells Tryd.zeroCells70 70) = w1 := ⟨_, rfl⟩
  obtain ⟨w3, hw3⟩ : ∃ w3, w1.alloc (.cells Tryd.zeroCells70 70) = w3 := ⟨_, rfl⟩
  rw [hw1, hw3] at hB
  have z1 : w1.heap.size = W.heap.size + 1 + 1 := by rw [← hw1]; simp only [World.size_alloc]
  have O1 := Lib.hid hB.o1
  have O2 := Lib.hid hB.o2
  have O3 := Lib.hid hB.o3
  have HN := Lib.hid (hN.grew hB.grew)
  have HK := Lib.hid (KpF.grew hB.grew hN.low)
  have HE := Lib.hid hE
  have H7 := Lib.hid h7
  have H9 := Lib.hid h9
  rw [hst] at hs ho hhg
  clear hB hN hE h9 h7 hf hrec hb hst hbo
  have hl2 : -1000000000000 ≤ st - 1 := by have := HH.out; omega
  have HFL := Lib.hid hfl
  rw [hfl]
  go_enter Tryd.func17, Tryd.ntmps17
  go_upto_region 1 with fail
  apply wp_region_lit
  refine wpList_runV rfl (partV ⟨0, 0, true⟩) (exec_build_true rfl rfl) ?_
  simp only [Act.put, List.setIfInBounds_toArray, List.set_cons_zero, List.set_cons_succ]
  refine wpList_runW rfl (.pointer (some ⟨W.heap.size + 1 + 1, 0, none⟩)) (by rw [exec_alloc_part rfl, hw3, z1]) ?_
  simp only [Act.put, List.setIfInBounds_toArray, List.set_cons_zero, List.set_cons_succ]
  refine wpList_store_part O3.out rfl _ _ rfl rfl rfl ?_
  intro w4 o4 b4
  have P3 := Lib.hid o4
  have P1 := Lib.hid (b4.owns O1.out (by omega))
  have P2 := Lib.hid (b4.owns O2.out (by omega))
  have N4 := Lib.hid (HN.out.other O3.out not_part (by decide) b4)
  have K4 := Lib.hid (HK.out.fresh b4 (by omega) HL.out)
  clear o4 b4
  simp only [Act.put]
  clear hw1 hw3 z1 O1 O2 O3 HN HK
  have hbx := N4.out.box
  rw [HST.out, HFL.out] at hbx
  have k6 := hbx.cell_at (i := 6) rfl
  have f6 := hbx.free 6
  have lb := hbx.lt
  obtain ⟨w5, hw5⟩ : ∃ w5, w4.setCell ⟨V.bb, 6, none⟩ (.int .i64 (st - 1)) = w5 := ⟨_, rfl⟩
  have b5 : But (fun k => k = V.bb) w4 w5 := hw5 ▸ set_but hbx
  have o5 : Owns w5 V.bb [g0, g1, g2, g3, .int .i64 kind, V.ov, .int .i64 (st - 1), .bool false] 62 := by
    have := hbx.set 6 (.int .i64 (st - 1))
    rw [hw5] at this
    exact this
  have N5 := Lib.hid (N4.out.boxed b5 o5)
  have K5 := Lib.hid (K4.out.trans (KpF.bld b5 N4.out.low N4.out.blo hbx (.inl rfl)))
  have Q1 := Lib.hid (b5.owns P1.out (owns_ne P1.out hbx (by decide)))
  have Q2 := Lib.hid (b5.owns P2.out (owns_ne P2.out hbx (by decide)))
  have Q3 := Lib.hid (b5.owns P3.out (owns_ne P3.out hbx (by decide)))
  have E5 := Lib.hid (HE.out.kp K5.out)
  have R6 := o5.cell_at (i := 6) rfl
  have R7 := o5.cell_at (i := 7) rfl
  have R8 := o5.free 7
  have lb5 := o5.lt
  have HO5 := Lib.hid o5
  have n0 := Q1.out.cell_at (i := 0) rfl
  have n1 := Q1.out.cell_at (i := 1) rfl
  have n2 := Q1.out.cell_at (i := 2) rfl
  have n3 := Q1.out.cell_at (i := 3) rfl
  have n4 := Q1.out.cell_at (i := 4) rfl
  have nl := Q1.out.lt
  clear hbx b5 o5 P1 P2 P3 N4 K4
  have HB5 : Hid (NB.Ok ⟨b.out, st - 1, false⟩) := Lib.hid ⟨HB0.out.few, HB0.out.fol⟩
  have ho2 : ¬ (st - 1 < 0) := ho
  go_upto_region 3 with fail
  clear k6 f6 lb hw5
  go_upto_region 6 with fail
  clear R6 R7 R8
  have HC := Lib.hid (nplace_ok w5 lim g0 g1 g2 g3 kind V ⟨b.out, st - 1, false⟩ N5.out HB5.out set (by have := HFIT.out.set _ (all_self _); simp only [Nd.set] at this; omega) sa sc (fun w hw => (H7.out.keep (K5.out.trans hw).low).mono (Nat.le_trans HL.out (K5.out.trans hw).low.size)))
  rw [← HST.out] at HC
  go_upto_region 26 with fail
  go_wp2_with (first
      | (refine HC.out.mono ?_; rintro e w6 ⟨rfl, hK6, V6, hV6, hN6⟩; have K6 := Lib.hid (K5.out.trans hK6); have N6 := Lib.hid hN6; have O6 := Lib.hid (hK6.owns Q2.out not_part); clear hK6 hN6)
      | (refine wpList_store_part O6.out rfl _ _ rfl rfl rfl ?_; intro w9 o9 b9; have O9 := Lib.hid o9; have N9 := Lib.hid (N6.out.other O6.out not_part (by decide) b9); have K9 := Lib.hid (K6.out.fresh b9 (by omega) HL.out); clear o9 b9; simp only [Act.put]))
  exact bodyPost_ret (ret_part rfl _ O9.out rfl) rfl ⟨rfl, K9.out, V6, hV6, N9.out⟩
end Go.Proofs.YtkinlcichclnkaaDoor

/- node of nfas: whatever else; too much. Printed by gennfnode.py. -/
namespace Go.Proofs.YtkinlcichclnkaaDoor
open Go.RowKit

set_option maxHeartbeats 8000000 in
set_option maxRecDepth 40000 in
theorem nn_other {lim : Nat} {g0 g1 g2 g3 : Value} {g : Gr} {kind : Int} {k : Nat} (hk : k ≤ 100000) (kd : Int) (nm tx : ByteArray) (set : List (Int × Int)) (subs : List Nd) (e0 : kd ≠ 0) (e1 : kd ≠ 1) (e8 : kd ≠ 8) (e9 : kd ≠ 9) (e6 : kd ≠ 6) (e2 : kd ≠ 2) (e3 : kd ≠ 3) (e4 : kd ≠ 4) (W : World) (V : NBV) (b : NB) (v0 v1 v2 v3 v4 : Value) (hE : NEnv W lim g0 g1 g2 g3 g) (hN : NBAt W lim g0 g1 g2 g3 kind V b) (hb : b.Ok) (hs : b.steps < ((k + 1 : Nat) : Int)) (hl : -1000000000000 ≤ b.hgt - 1) (hA : NodeAt W lim (some v0) (some v1) (some v2) (some v3) (some v4) (.mk kd nm tx set subs)) (hf : NdFit g (.mk kd nm tx set subs)) (ho : ¬ b.steps - 1 < 0) (hfl : b.full = false) :
    Calls Tryd.prog 17 #[.pointer (some ⟨V.bb, 0, none⟩), .agg #[v0, v1, v2, v3, v4]] W (NodeIs W lim g0 g1 g2 g3 kind V.bb ((⟨0, 0, true⟩, ⟨b.out, b.steps - 1, b.full⟩))) := by
  have HND := Lib.hid hA
  rw [NodeAt] at hA
  obtain ⟨hkk, h1, h2, h3, h4, h5, ⟨sa, sc, h6, h6', h7⟩, na, nc, h8, h8', h9⟩ := hA
  obtain rfl := Option.some.inj h3
  obtain rfl := Option.some.inj h4
  obtain rfl := Option.some.inj h5
  obtain rfl := Option.some.inj h6
  obtain rfl := Option.some.inj h8
  clear h3 h4 h5 h6 h8
  unfold reachN at h1 h2 h6' h8'
  have hhg : b.hgt ≤ b.steps := by unfold NB.hgt; omega
  have HL := Lib.hid hN.low
  have HFIT := Lib.hid hf
  have HH := Lib.hid hl
  have HB0 := Lib.hid hb
  obtain ⟨st, hst⟩ : ∃ st, b.steps = st := ⟨_, rfl⟩
  have HST := Lib.hid hst
  obtain ⟨bo, hbo⟩ : ∃ bo, b.out = bo := ⟨_, rfl⟩
  have HBO := Lib.hid hbo
  have hB := boxN3 W [.int .u8 kd, .string nm, .string tx, .slice sa set.length sc, .slice na subs.length nc]
  obtain ⟨w1, hw1⟩ : ∃ w1, (W.alloc (.cells #[.int .u8 kd, .string nm, .string tx, .slice sa set.length sc, .slice na subs.length nc] 34)).alloc (.cells Tryd.zeroCells70 70) = w1 := ⟨_, rfl⟩
  obtain ⟨w3, hw3⟩ : ∃ w3, w1.alloc (.cells Tryd.zeroCells70 70) = w3 := ⟨_, rfl⟩
  rw [hw1, hw3] at hB
  have z1 : w1.heap.size = W.heap.size + 1 + 1 := by rw [← hw1]; simp only [World.size_alloc]
  have O1 := Lib.hid hB.o1
  have O2 := Lib.hid hB.o2
  have O3 := Lib.hid hB.o3
  have HN := Lib.hid (hN.grew hB.grew)
  have HK := Lib.hid (KpF.grew hB.grew hN.low)
  have HE := Lib.hid hE
  have H7 := Lib.hid h7
  have H9 := Lib.hid h9
  rw [hst] at hs ho hhg
  clear hB hN hE h9 h7 hf hb hst hbo
  have hl2 : -1000000000000 ≤ st - 1 := by have := HH.out; omega
  have HFL := Lib.hid hfl
  rw [hfl]
  have e0' : (kd == 0) = false := beq_eq_false_iff_ne.2 e0
  have e1' : (kd == 1) = false := beq_eq_false_iff_ne.2 e1
  have e8' : (kd == 8) = false := beq_eq_false_iff_ne.2 e8
  have e9' : (kd == 9) = false := beq_eq_false_iff_ne.2 e9
  have e6' : (kd == 6) = false := beq_eq_false_iff_ne.2 e6
  have e2' : (kd == 2) = false := beq_eq_false_iff_ne.2 e2
  have e3' : (kd == 3) = false := beq_eq_false_iff_ne.2 e3
  have e4' : (kd == 4) = false := beq_eq_false_iff_ne.2 e4
  clear e0 e1 e8 e9 e6 e2 e3 e4
  go_enter Tryd.func17, Tryd.ntmps17
  go_upto_region 1 with fail
  apply wp_region_lit
  refine wpList_runV rfl (partV ⟨0, 0, true⟩) (exec_build_true rfl rfl) ?_
  simp only [Act.put, List.setIfInBounds_toArray, List.set_cons_zero, List.set_cons_succ]
  refine wpList_runW rfl (.pointer (some ⟨W.heap.size + 1 + 1, 0, none⟩)) (by rw [exec_alloc_part rfl, hw3, z1]) ?_
  simp only [Act.put, List.setIfInBounds_toArray, List.set_cons_zero, List.set_cons_succ]
  refine wpList_store_part O3.out rfl _ _ rfl rfl rfl ?_
  intro w4 o4 b4
  have P3 := Lib.hid o4
  have P1 := Lib.hid (b4.owns O1.out (by omega))
  have P2 := Lib.hid (b4.owns O2.out (by omega))
  have N4 := Lib.hid (HN.out.other O3.out not_part (by decide) b4)
  have K4 := Lib.hid (HK.out.fresh b4 (by omega) HL.out)
  clear o4 b4
  simp only [Act.put]
  clear hw1 hw3 z1 O1 O2 O3 HN HK
  have hbx := N4.out.box
  rw [HST.out, HFL.out] at hbx
  have k6 := hbx.cell_at (i := 6) rfl
  have f6 := hbx.free 6
  have lb := hbx.lt
  obtain ⟨w5, hw5⟩ : ∃ w5, w4.setCell ⟨V.bb, 6, none⟩ (.int .i64 (st - 1)) = w5 := ⟨_, rfl⟩
  have b5 : But (fun k => k = V.bb) w4 w5 := hw5 ▸ set_but hbx
  have o5 : Owns w5 V.bb [g0, g1, g2, g3, .int .i64 kind, V.ov, .int .i64 (st - 1), .bool false] 62 := by
    have := hbx.set 6 (.int .i64 (st - 1))
    rw [hw5] at this
    exact this
  have N5 := Lib.hid (N4.out.boxed b5 o5)
  have K5 := Lib.hid (K4.out.trans (KpF.bld b5 N4.out.low N4.out.blo hbx (.inl rfl)))
  have Q1 := Lib.hid (b5.owns P1.out (owns_ne P1.out hbx (by decide)))
  have Q2 := Lib.hid (b5.owns P2.out (owns_ne P2.out hbx (by decide)))
  have Q3 := Lib.hid (b5.owns P3.out (owns_ne P3.out hbx (by decide)))
  have E5 := Lib.hid (HE.out.kp K5.out)
  have R6 := o5.cell_at (i := 6) rfl
  have R7 := o5.cell_at (i := 7) rfl
  have R8 := o5.free 7
  have lb5 := o5.lt
  have HO5 := Lib.hid o5
  have n0 := Q1.out.cell_at (i := 0) rfl
  have n1 := Q1.out.cell_at (i := 1) rfl
  have n2 := Q1.out.cell_at (i := 2) rfl
  have n3 := Q1.out.cell_at (i := 3) rfl
  have n4 := Q1.out.cell_at (i := 4) rfl
  have nl := Q1.out.lt
  clear hbx b5 o5 P1 P2 P3 N4 K4
  have HB5 : Hid (NB.Ok ⟨b.out, st - 1, false⟩) := Lib.hid ⟨HB0.out.few, HB0.out.fol⟩
  have ho2 : ¬ (st - 1 < 0) := ho
  go_upto_region 3 with fail
  clear k6 f6 lb hw5
  go_upto_region 6 with fail
  clear R6 R7 R8
  go_upto_region 35 with fail
  apply wp_region_lit
  refine wpList_load_part Q3.out rfl _ rfl rfl ?_
  simp only [Act.put, List.setIfInBounds_toArray, List.set_cons_zero, List.set_cons_succ]
  refine wpList_store_part Q2.out rfl _ _ rfl rfl rfl ?_
  intro w9 o9 b9
  have O9 := Lib.hid o9
  have N9 := Lib.hid (N5.out.other Q2.out not_part (by decide) b9)
  have K9 := Lib.hid (K5.out.fresh b9 (by omega) HL.out)
  clear o9 b9
  simp only [Act.put]
  go_wp2_with fail
  rw [← HST.out] at N9
  exact bodyPost_ret (ret_part rfl _ O9.out rfl) rfl ⟨rfl, K9.out, V, rfl, N9.out⟩

set_option maxHeartbeats 8000000 in
set_option maxRecDepth 40000 in
theorem nn_closed {lim : Nat} {g0 g1 g2 g3 : Value} {g : Gr} {kind : Int} {k : Nat} (hk : k ≤ 100000) (kd : Int) (nm tx : ByteArray) (set : List (Int × Int)) (subs : List Nd) (W : World) (V : NBV) (b : NB) (v0 v1 v2 v3 v4 : Value) (hE : NEnv W lim g0 g1 g2 g3 g) (hN : NBAt W lim g0 g1 g2 g3 kind V b) (hb : b.Ok) (hs : b.steps < ((k + 1 : Nat) : Int)) (hl : -1000000000000 ≤ b.hgt - 1) (hA : NodeAt W lim (some v0) (some v1) (some v2) (some v3) (some v4) (.mk kd nm tx set subs)) (hf : NdFit g (.mk kd nm tx set subs)) (hcl : (decide (b.steps - 1 < 0) || b.full) = true) :
    Calls Tryd.prog 17 #[.pointer (some ⟨V.bb, 0, none⟩), .agg #[v0, v1, v2, v3, v4]] W (NodeIs W lim g0 g1 g2 g3 kind V.bb ((⟨0, 0, true⟩, ⟨b.out, b.steps - 1, true⟩))) := by
  have HND := Lib.hid hA
  rw [NodeAt] at hA
  obtain ⟨hkk, h1, h2, h3, h4, h5, ⟨sa, sc, h6, h6', h7⟩, na, nc, h8, h8', h9⟩ := hA
  obtain rfl := Option.some.inj h3
  obtain rfl := Option.some.inj h4
  obtain rfl := Option.some.inj h5
  obtain rfl := Option.some.inj h6
  obtain rfl := Option.some.inj h8
  clear h3 h4 h5 h6 h8
  unfold reachN at h1 h2 h6' h8'
  have hhg : b.hgt ≤ b.steps := by unfold NB.hgt; omega
  have HL := Lib.hid hN.low
  have HFIT := Lib.hid hf
  have HH := Lib.hid hl
  have HB0 := Lib.hid hb
  obtain ⟨st, hst⟩ : ∃ st, b.steps = st := ⟨_, rfl⟩
  have HST := Lib.hid hst
  obtain ⟨bo, hbo⟩ : ∃ bo, b.out = bo := ⟨_, rfl⟩
  have HBO := Lib.hid hbo
  have hB := boxN3 W [.int .u8 kd, .string nm, .string tx, .slice sa set.length sc, .slice na subs.length nc]
  obtain ⟨w1, hw1⟩ : ∃ w1, (W.alloc (.cells #[.int .u8 kd, .string nm, .string tx, .slice sa set.length sc, .slice na subs.length nc] 34)).alloc (.cells Tryd.zeroCells70 70) = w1 := ⟨_, rfl⟩
  obtain ⟨w3, hw3⟩ : ∃ w3, w1.alloc (.cells Tryd.zeroCells70 70) = w3 := ⟨_, rfl⟩
  rw [hw1, hw3] at hB
  have z1 : w1.heap.size = W.heap.size + 1 + 1 := by rw [← hw1]; simp only [World.size_alloc]
  have O1 := Lib.hid hB.o1
  have O2 := Lib.hid hB.o2
  have O3 := Lib.hid hB.o3
  have HN := Lib.hid (hN.grew hB.grew)
  have HK := Lib.hid (KpF.grew hB.grew hN.low)
  have HE := Lib.hid hE
  have H7 := Lib.hid h7
  have H9 := Lib.hid h9
  rw [hst] at hs hcl hhg
  clear hB hN hE h9 h7 hf hb hst hbo
  have hl2 : -1000000000000 ≤ st - 1 := by have := HH.out; omega
  obtain ⟨fl, hfl⟩ : ∃ fl, b.full = fl := ⟨_, rfl⟩
  have HFL := Lib.hid hfl
  rw [hfl] at hcl
  clear hfl
  go_enter Tryd.func17, Tryd.ntmps17
  go_upto_region 1 with fail
  apply wp_region_lit
  refine wpList_runV rfl (partV ⟨0, 0, true⟩) (exec_build_true rfl rfl) ?_
  simp only [Act.put, List.setIfInBounds_toArray, List.set_cons_zero, List.set_cons_succ]
  refine wpList_runW rfl (.pointer (some ⟨W.heap.size + 1 + 1, 0, none⟩)) (by rw [exec_alloc_part rfl, hw3, z1]) ?_
  simp only [Act.put, List.setIfInBounds_toArray, List.set_cons_zero, List.set_cons_succ]
  refine wpList_store_part O3.out rfl _ _ rfl rfl rfl ?_
  intro w4 o4 b4
  have P3 := Lib.hid o4
  have P1 := Lib.hid (b4.owns O1.out (by omega))
  have P2 := Lib.hid (b4.owns O2.out (by omega))
  have N4 := Lib.hid (HN.out.other O3.out not_part (by decide) b4)
  have K4 := Lib.hid (HK.out.fresh b4 (by omega) HL.out)
  clear o4 b4
  simp only [Act.put]
  clear hw1 hw3 z1 O1 O2 O3 HN HK
  have hbx := N4.out.box
  rw [HST.out, HFL.out] at hbx
  have k6 := hbx.cell_at (i := 6) rfl
  have f6 := hbx.free 6
  have lb := hbx.lt
  obtain ⟨w5, hw5⟩ : ∃ w5, w4.setCell ⟨V.bb, 6, none⟩ (.int .i64 (st - 1)) = w5 := ⟨_, rfl⟩
  have b5 : But (fun k => k = V.bb) w4 w5 := hw5 ▸ set_but hbx
  have o5 : Owns w5 V.bb [g0, g1, g2, g3, .int .i64 kind, V.ov, .int .i64 (st - 1), .bool fl] 62 := by
    have := hbx.set 6 (.int .i64 (st - 1))
    rw [hw5] at this
    exact this
  have N5 := Lib.hid (N4.out.boxed b5 o5)
  have K5 := Lib.hid (K4.out.trans (KpF.bld b5 N4.out.low N4.out.blo hbx (.inl rfl)))
  have Q1 := Lib.hid (b5.owns P1.out (owns_ne P1.out hbx (by decide)))
  have Q2 := Lib.hid (b5.owns P2.out (owns_ne P2.out hbx (by decide)))
  have Q3 := Lib.hid (b5.owns P3.out (owns_ne P3.out hbx (by decide)))
  have E5 := Lib.hid (HE.out.kp K5.out)
  have R6 := o5.cell_at (i := 6) rfl
  have R7 := o5.cell_at (i := 7) rfl
  have R8 := o5.free 7
  have lb5 := o5.lt
  have HO5 := Lib.hid o5
  have n0 := Q1.out.cell_at (i := 0) rfl
  have n1 := Q1.out.cell_at (i := 1) rfl
  have n2 := Q1.out.cell_at (i := 2) rfl
  have n3 := Q1.out.cell_at (i := 3) rfl
  have n4 := Q1.out.cell_at (i := 4) rfl
  have nl := Q1.out.lt
  clear hbx b5 o5 P1 P2 P3 N4 K4
  obtain ⟨w6, hw6⟩ : ∃ w6, w5.setCell ⟨V.bb, 7, none⟩ (.bool true) = w6 := ⟨_, rfl⟩
  have b6 : But (fun k => k = V.bb) w5 w6 := hw6 ▸ set_but HO5.out
  have o6 : Owns w6 V.bb [g0, g1, g2, g3, .int .i64 kind, V.ov, .int .i64 (st - 1), .bool true] 62 := by
    have := HO5.out.set 7 (.bool true)
    rw [hw6] at this
    exact this
  have N6 := Lib.hid (N5.out.boxed b6 o6)
  have K6 := Lib.hid (K5.out.trans (KpF.bld b6 N5.out.low N5.out.blo HO5.out (.inl rfl)))
  have S2 := Lib.hid (b6.owns Q2.out (owns_ne Q2.out HO5.out (by decide)))
  have S3 := Lib.hid (b6.owns Q3.out (owns_ne Q3.out HO5.out (by decide)))
  clear b6 o6
  rw [Bool.or_eq_true, decide_eq_true_eq] at hcl
  by_cases hneg : st - 1 < 0
  · clear hcl
    go_upto_region 3 with fail
    clear k6 f6 lb hw5
    go_upto_region 5 with fail
    apply wp_region_lit
    refine wpList_load_part S3.out rfl _ rfl rfl ?_
    simp only [Act.put, List.setIfInBounds_toArray, List.set_cons_zero, List.set_cons_succ]
    refine wpList_store_part S2.out rfl _ _ rfl rfl rfl ?_
    intro w9 o9 b9
    have O9 := Lib.hid o9
    have N9 := Lib.hid (N6.out.other S2.out not_part (by decide) b9)
    have K9 := Lib.hid (K6.out.fresh b9 (by omega) HL.out)
    clear o9 b9
    simp only [Act.put]
    go_wp2_with fail
    rw [← HST.out] at N9
    exact bodyPost_ret (ret_part rfl _ O9.out rfl) rfl ⟨rfl, K9.out, V, rfl, N9.out⟩
  · obtain rfl := hcl.resolve_left hneg
    go_upto_region 3 with fail
    clear k6 f6 lb hw5
    go_upto_region 5 with fail
    apply wp_region_lit
    refine wpList_load_part S3.out rfl _ rfl rfl ?_
    simp only [Act.put, List.setIfInBounds_toArray, List.set_cons_zero, List.set_cons_succ]
    refine wpList_store_part S2.out rfl _ _ rfl rfl rfl ?_
    intro w9 o9 b9
    have O9 := Lib.hid o9
    have N9 := Lib.hid (N6.out.other S2.out not_part (by decide) b9)
    have K9 := Lib.hid (K6.out.fresh b9 (by omega) HL.out)
    clear o9 b9
    simp only [Act.put]
    go_wp2_with fail
    rw [← HST.out] at N9
    exact bodyPost_ret (ret_part rfl _ O9.out rfl) rfl ⟨rfl, K9.out, V, rfl, N9.out⟩
end Go.Proofs.YtkinlcichclnkaaDoor

/- Ends, stored within a part. -/
namespace Go.Proofs.YtkinlcichclnkaaDoor
open Go.RowKit

theorem ends_info : (Tryd.prog.info? 68).map (·.size) = some 128 := by kernel_rfl
theorem ends_len (a c : Nat) : (wdL a ++ wdL c).length = 128 := by rw [List.length_append, wdL_len, wdL_len]
theorem ends_one (a c : Nat) : ∀ u ∈ wdL a ++ wdL c, u.oneCell' = true := fun u hu => (List.mem_append.1 hu).elim (wdL_one _ u) (wdL_one _ u)
theorem ends_write {w : World} {b a c : Nat} {x : NPart} (hO : Owns w b (partL x) 70) : Owns (w.setCells b 0 (wdL a ++ wdL c)) b (partL ⟨a, c, x.empty⟩) 70 ∧ But (fun k => k = b) w (w.setCells b 0 (wdL a ++ wdL c)) := by
  refine ⟨?_, setCells_butN (wdL a ++ wdL c) 0 w _ hO⟩
  have h1 := Owns.setCellsN (wdL a ++ wdL c) 0 w _ hO
  have h2 := wrAtN_mid (wdL a ++ wdL c) (wdL x.first ++ wdL x.last) [] [.bool x.empty] (by rw [ends_len, ends_len])
  unfold partL at h1 ⊢
  rw [← List.append_assoc] at h1 ⊢
  simp only [List.nil_append, List.length_nil] at h2
  rw [h2] at h1
  exact h1
theorem run_store_ends (w : World) (b a c : Nat) {x : NPart} (hO : Owns w b (partL x) 70) : (storeVar 68 ⟨b, 0, none⟩ (endsV a c)).run Tryd.prog w = .ok () (w.setCells b 0 (wdL a ++ wdL c)) := by
  have hst := run_storeCells_cells (P := Tryd.prog) b 0 (wdL a ++ wdL c) 0 w (fun j hj => by
    rw [ends_len] at hj
    rw [Nat.zero_add, hO.cell]
    have : j < (partL x).length := by rw [partL_len]; omega
    rw [List.getElem?_eq_getElem this]
    rfl) (fun j hj => hO.free _) (ends_one a c)
  have hi := ends_info
  cases hq : Tryd.prog.info? 68 with
  | none => simp [hq] at hi
  | some i =>
    have hs : i.size = 128 := by simpa [hq] using hi
    simp only [Nat.add_zero] at hst
    simp [storeVar, endsV, Value.cells, sizeOf, typeInfo, hq, hs, wdL_len, hst]
theorem exec_store_ends {ev : Operand → Value} {o : Oper} {w : World} {a c b : Nat} {q : NPart} {x y : Operand} (hO : Owns w b (partL q) 70) (ho : o.op = .store 68 x y) (hx : ev x = .pointer (some ⟨b, 0, none⟩)) (hy : ev y = endsV a c) : (execOp ev o).run Tryd.prog w = .ok .skip (w.setCells b 0 (wdL a ++ wdL c)) := by
  unfold execOp
  simp only [ho, hx, hy, Instr.storeAt, Instr.sureAddr, Sem.run_bind, Sem.run_pure, Result.andThen_ok, run_store_ends w b a c hO]
theorem exec_field_ends {ev : Operand → Value} {o : Oper} {w : World} {q : NPart} {x : Operand} (ho : o.op = .field 70 x 0) (hx : ev x = partV q) : (execOp ev o).run Tryd.prog w = .ok (.value (endsV q.first q.last)) w := by
  have h : (Instr.field 70 (partV q) 0).run Tryd.prog w = .ok (endsV q.first q.last) w := by kernel_rfl
  unfold execOp
  simp only [ho, hx, Sem.run_bind, h, Result.andThen_ok, Sem.run_pure]
end Go.Proofs.YtkinlcichclnkaaDoor
