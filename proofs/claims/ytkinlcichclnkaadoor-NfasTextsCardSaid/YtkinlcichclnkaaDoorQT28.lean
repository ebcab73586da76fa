/- Calls of node in a region that draws its order. -/
import Derived.Laws.Runes
import Derived.Laws.RangeAny
import Derived.Lib.OthersKept
import Derived.Test.YtkinlcichclnkaaDoorQT26
namespace Go.Proofs.YtkinlcichclnkaaDoor
open Go.RowKit

theorem kpf_rel (lim : Nat) : Rel (KpF lim) := ⟨KpF.refl lim, fun h k => h.trans k, fun w => ⟨(Below.refl _ w).drew, fun _ _ _ _ h _ => h, fun _ _ _ h => h⟩⟩
theorem exec_load_part {ev : Operand → Value} {o : Oper} {w : World} {q : NPart} {b : Nat} {x : Operand} (hO : Owns w b (partL q) 70) (ho : o.op = .load 70 x) (hx : ev x = .pointer (some ⟨b, 0, none⟩)) : (execOp ev o).run Tryd.prog w = .ok (.value (partV q)) w := by
  unfold execOp
  simp only [ho, hx, Instr.loadAt, Instr.sureAddr, Sem.run_bind, Sem.run_pure, Result.andThen_ok, run_loadVar_row w b 70 70 _ (0, 0) _ hO Tryd.underlying70 rfl (part_size q)]
  rfl
/-- what is built, before and behind a call -/
def NBJ (lim : Nat) (g0 g1 g2 g3 : Value) (kind : Int) (bb : Nat) (b c : NB) (f : Bool) (w : World) : Prop := ∃ V, V.bb = bb ∧ NBAt w lim g0 g1 g2 g3 kind V (if f then c else b)
theorem NBJ.before {lim : Nat} {g0 g1 g2 g3 : Value} {kind : Int} {bb : Nat} {b c : NB} {w : World} {V : NBV} (hV : V.bb = bb) (h : NBAt w lim g0 g1 g2 g3 kind V b) : NBJ lim g0 g1 g2 g3 kind bb b c false { w with drawn := w.drawn + 1 } := by
  refine ⟨V, hV, ?_⟩
  have hg : Grew w { w with drawn := w.drawn + 1 } := (Below.refl _ w).drew
  exact h.grew hg
theorem part_bool {w : World} {b : Nat} {x : NPart} {e : Bool} (h : Owns w b (partL x) 70) : Owns (w.setCell ⟨b, 128, none⟩ (.bool e)) b (partL ⟨x.first, x.last, e⟩) 70 := by
  have h1 := h.set 128 (.bool e)
  have h2 : (partL x).set 128 (.bool e) = partL ⟨x.first, x.last, e⟩ := by
    unfold partL
    rw [List.set_append_right _ _ (by rw [wdL_len]; omega), wdL_len, List.set_append_right _ _ (by rw [wdL_len]; omega), wdL_len]
    rfl
  rw [h2] at h1
  exact h1
theorem width_posN (s : ByteArray) (pos : Nat) (h : pos < s.size) : 1 ≤ (Utf8.decode s pos).2 := by
  by_cases ha : (s[pos]'h).toNat < 128
  · rw [decode_ascii s pos h ha]
    exact Nat.le_refl _
  · exact (decode_high s pos h (by omega)).2
theorem iter_but {w : World} (k : Nat) (s : ByteArray) (pos : Nat) : But (fun j => j = k) w (w.iterAt k s pos) :=
  ⟨rfl, rfl, rfl, by rw [Lib.iterAt_size]; exact Nat.le_refl _, fun j _ hj => Lib.iterAt_other w k j s pos hj⟩
theorem iter_ne {w : World} {b k T : Nat} {cs : List Value} {s : ByteArray} {p : Nat} (h : Owns w b cs T) (hk : w.heap[k]? = some (.stringIter s p)) : b ≠ k := fun e => by
  subst e
  unfold Owns at h
  rw [h] at hk
  cases hk
theorem row_iter_ne {w : World} {base e size n k : Nat} {v : Value} {xs : List Value} {s : ByteArray} {p : Nat} (h : looseRow w base e size v n xs) (hk : w.heap[k]? = some (.stringIter s p)) : ∀ g, v.ownBlock = some g → g ≠ k := fun g hg ec => by
  subst ec
  obtain ⟨_, cs, k1⟩ := row_own h hg
  rw [k1] at hk
  cases hk
/-- a string's iterator goes on -/
theorem NBAt.iter {W : World} {lim : Nat} {g0 g1 g2 g3 : Value} {kind : Int} {V : NBV} {b : NB} (h : NBAt W lim g0 g1 g2 g3 kind V b) {k : Nat} {s : ByteArray} {p : Nat} (hk : W.heap[k]? = some (.stringIter s p)) (q : Nat) : NBAt (W.iterAt k s q) lim g0 g1 g2 g3 kind V b := by
  have hb := iter_but (w := W) k s q
  exact ⟨Nat.le_trans h.low hb.size, h.blo, hb.owns h.box (iter_ne h.box hk), hb.row h.out fun g hg e => row_iter_ne h.out hk g hg e, fun i hi => ⟨(h.made i hi).1, hb.owns (h.made i hi).2 (iter_ne (h.made i hi).2 hk)⟩, fun i hi => hb.row (h.set i hi) fun g hg e => row_iter_ne (h.set i hi) hk g hg e, h.inj⟩
theorem exec_slice_rg {ev : Operand → Value} {o : Oper} {w : World} {a c : Int} {x : Operand} (ho : o.op = .buildSlice 31 1 #[(0, x)]) (hx : ev x = .agg #[.int .i32 a, .int .i32 c]) : (execOp ev o).run Tryd.prog w = .ok (.value (.slice (some ⟨w.heap.size, 0, none⟩) 1 1)) (w.alloc (.cells #[.int .i32 a, .int .i32 c] 58)) := by
  have h : (Instr.buildSlice 31 1 #[(0, .agg #[.int .i32 a, .int .i32 c])]).run Tryd.prog w = .ok (.slice (some ⟨w.heap.size, 0, none⟩) 1 1) (w.alloc (.cells #[.int .i32 a, .int .i32 c] 58)) := by kernel_rfl
  unfold execOp
  simp only [ho, List.map_toArray, List.map_cons, List.map_nil, hx, Sem.run_bind, h, Result.andThen_ok, Sem.run_pure]
theorem rg_not : ¬ BldT 58 := by unfold BldT; decide
theorem rg_at {w : World} {sb : Nat} {a c : Int} (h : Owns w sb [.int .i32 a, .int .i32 c] 58) : RangesAt w w.heap.size (some ⟨sb, 0, none⟩) 0 [(a, c)] :=
  ⟨⟨sb, 0, rfl, h.lt, h.cell_at (i := 0) rfl, h.cell_at (i := 1) rfl⟩, trivial⟩
theorem runesAt_end {s : ByteArray} {f p : Nat} (h : ¬ p < s.size) : runesAt s f p = [] := by
  cases f with
  | zero => rfl
  | succ f => rw [runesAt, if_neg h]
theorem runesAt_step {s : ByteArray} {f p : Nat} (h : p < s.size) (hf : s.size ≤ p + f) : ∃ f', s.size ≤ p + (Utf8.decode s p).2 + f' ∧ runesAt s f p = ((Utf8.decode s p).1 : Int) :: runesAt s f' (p + (Utf8.decode s p).2) := by
  cases f with
  | zero => omega
  | succ f => exact ⟨f, by have := width_posN s p h; omega, by rw [runesAt, if_pos h]⟩
end Go.Proofs.YtkinlcichclnkaaDoor

/- node of nfas: the subs, one after the other. Printed by gennfnode.py. -/
namespace Go.Proofs.YtkinlcichclnkaaDoor
open Go.RowKit

set_option maxHeartbeats 8000000 in
set_option maxRecDepth 40000 in
theorem nn_alts {lim : Nat} {g0 g1 g2 g3 : Value} {g : Gr} {kind : Int} {k : Nat} (hrec : NodeC lim g0 g1 g2 g3 g kind k) (hk : k ≤ 100000) (nm tx : ByteArray) (set : List (Int × Int)) (subs : List Nd) (W : World) (V : NBV) (b : NB) (v0 v1 v2 v3 v4 : Value) (hE : NEnv W lim g0 g1 g2 g3 g) (hN : NBAt W lim g0 g1 g2 g3 kind V b) (hb : b.Ok) (hs : b.steps < ((k + 1 : Nat) : Int)) (hl : -1000000000000 ≤ b.hgt - 1) (hA : NodeAt W lim (some v0) (some v1) (some v2) (some v3) (some v4) (.mk 0 nm tx set subs)) (hf : NdFit g (.mk 0 nm tx set subs)) (ho : ¬ b.steps - 1 < 0) (hfl : b.full = false) :
    Calls Tryd.prog 17 #[.pointer (some ⟨V.bb, 0, none⟩), .agg #[v0, v1, v2, v3, v4]] W (NodeIs W lim g0 g1 g2 g3 kind V.bb (altsN (nodeN g.lk kind k) subs ⟨0, 0, false⟩ ⟨b.out, b.steps - 1, b.full⟩)) := by
  have HND := Lib.hid hA
  rw [NodeAt] at hA
  obtain ⟨hkk, h1, h2, h3, h4, h5, ⟨sa, sc, h6, h6', h7⟩, na, nc, h8, h8', h9⟩ := hA
  obtain rfl := Option.some.inj h3
  obtain rfl := Option.some.inj h4
  obtain rfl := Option.some.inj h5
  obtain rfl := Option.some.inj h6
  obtain rfl := Option.some.inj h8
  clear h3 h4 h5 h6 h8
  unfold reachN at h1 h2 h6' h8'
  have hhg : b.hgt ≤ b.steps := by unfold NB.hgt; omega
  have HL := Lib.hid hN.low
  have HFIT := Lib.hid hf
  have HREC := Lib.hid hrec
  have HH := Lib.hid hl
  have HB0 := Lib.hid hb
  obtain ⟨st, hst⟩ : ∃ st, b.steps = st := ⟨_, rfl⟩
  have HST := Lib.hid hst
  obtain ⟨bo, hbo⟩ : ∃ bo, b.out = bo := ⟨_, rfl⟩
  have HBO := Lib.hid hbo
  have hB := boxN3 W [.int .u8 0, .string nm, .string tx, .slice sa set.length sc, .slice na subs.length nc]
  obtain ⟨w1, hw1⟩ : ∃ w1, (W.alloc (.cells #[.int .u8 0, .string nm, .string tx, .slice sa set.length sc, .slice na subs.length nc] 34)).alloc (.cells Tryd.zeroCells70 70) = w1 := ⟨_, rfl⟩
  obtain ⟨w3, hw3⟩ : ∃ w3, w1.alloc (.cells Tryd.zeroCells70 70) = w3 := ⟨_, rfl⟩
  rw [hw1, hw3] at hB
  have z1 : w1.heap.size = W.heap.size + 1 + 1 := by rw [← hw1]; simp only [World.size_alloc]
  have O1 := Lib.hid hB.o1
  have O2 := Lib.hid hB.o2
  have O3 := Lib.hid hB.o3
  have HN := Lib.hid (hN.grew hB.grew)
  have HK := Lib.hid (KpF.grew hB.grew hN.low)
  have HE := Lib.hid hE
  have H7 := Lib.hid h7
  have H9 := Lib.hid h9
  rw [hst] at hs ho hhg
  clear hB hN hE h9 h7 hf hrec hb hst hbo
  have hl2 : -1000000000000 ≤ st - 1 := by have := HH.out; omega
  have HFL := Lib.hid hfl
  rw [hfl]
  go_enter Tryd.func17, Tryd.ntmps17
  go_upto_region 1 with fail
  apply wp_region_lit
  refine wpList_runV rfl (partV ⟨0, 0, true⟩) (exec_build_true rfl rfl) ?_
  simp only [Act.put, List.setIfInBounds_toArray, List.set_cons_zero, List.set_cons_succ]
  refine wpList_runW rfl (.pointer (some ⟨W.heap.size + 1 + 1, 0, none⟩)) (by rw [exec_alloc_part rfl, hw3, z1]) ?_
  simp only [Act.put, List.setIfInBounds_toArray, List.set_cons_zero, List.set_cons_succ]
  refine wpList_store_part O3.out rfl _ _ rfl rfl rfl ?_
  intro w4 o4 b4
  have P3 := Lib.hid o4
  have P1 := Lib.hid (b4.owns O1.out (by omega))
  have P2 := Lib.hid (b4.owns O2.out (by omega))
  have N4 := Lib.hid (HN.out.other O3.out not_part (by decide) b4)
  have K4 := Lib.hid (HK.out.fresh b4 (by omega) HL.out)
  clear o4 b4
  simp only [Act.put]
  clear hw1 hw3 z1 O1 O2 O3 HN HK
  have hbx := N4.out.box
  rw [HST.out, HFL.out] at hbx
  have k6 := hbx.cell_at (i := 6) rfl
  have f6 := hbx.free 6
  have lb := hbx.lt
  obtain ⟨w5, hw5⟩ : ∃ w5, w4.setCell ⟨V.bb, 6, none⟩ (.int .i64 (st - 1)) = w5 := ⟨_, rfl⟩
  have b5 : But (fun k => k = V.bb) w4 w5 := hw5 ▸ set_but hbx
  have o5 : Owns w5 V.bb [g0, g1, g2, g3, .int .i64 kind, V.ov, .int .i64 (st - 1), .bool false] 62 := by
    have := hbx.set 6 (.int .i64 (st - 1))
    rw [hw5] at this
    exact this
  have N5 := Lib.hid (N4.out.boxed b5 o5)
  have K5 := Lib.hid (K4.out.trans (KpF.bld b5 N4.out.low N4.out.blo hbx (.inl rfl)))
  have Q1 := Lib.hid (b5.owns P1.out (owns_ne P1.out hbx (by decide)))
  have Q2 := Lib.hid (b5.owns P2.out (owns_ne P2.out hbx (by decide)))
  have Q3 := Lib.hid (b5.owns P3.out (owns_ne P3.out hbx (by decide)))
  have E5 := Lib.hid (HE.out.kp K5.out)
  have R6 := o5.cell_at (i := 6) rfl
  have R7 := o5.cell_at (i := 7) rfl
  have R8 := o5.free 7
  have lb5 := o5.lt
  have HO5 := Lib.hid o5
  have n0 := Q1.out.cell_at (i := 0) rfl
  have n1 := Q1.out.cell_at (i := 1) rfl
  have n2 := Q1.out.cell_at (i := 2) rfl
  have n3 := Q1.out.cell_at (i := 3) rfl
  have n4 := Q1.out.cell_at (i := 4) rfl
  have nl := Q1.out.lt
  clear hbx b5 o5 P1 P2 P3 N4 K4
  have HB5 : Hid (NB.Ok ⟨b.out, st - 1, false⟩) := Lib.hid ⟨HB0.out.few, HB0.out.fol⟩
  have ho2 : ¬ (st - 1 < 0) := ho
  go_upto_region 3 with fail
  clear k6 f6 lb hw5
  go_upto_region 6 with fail
  clear R6 R7 R8
  have hhd := hgt_dec b
  rw [HFL.out, HST.out] at hhd
  have hhg2 := hgt_open (b := b) (by rw [HST.out]; exact ho2)
  rw [HFL.out, HST.out] at hhg2
  obtain ⟨q, hq⟩ : ∃ q, altsN (nodeN g.lk kind k) subs ⟨0, 0, false⟩ ⟨b.out, b.steps - 1, false⟩ = q := ⟨_, rfl⟩
  have HQ := Lib.hid hq
  rw [HST.out] at hq
  have HQ2 := Lib.hid hq.symm
  have hls : subs.length ≤ 3000 := HFIT.out.subs _ (all_self _)
  have HS5 := Lib.hid hs
  clear hq
  obtain ⟨q1, q2, q3, q4, q5, q6, ra, rc, q7, q8, q9⟩ := HE.out.gr
  obtain rfl := Option.some.inj q1
  obtain rfl := Option.some.inj q3
  obtain rfl := Option.some.inj q4
  obtain rfl := Option.some.inj q7
  clear q1 q2 q3 q4 q5 q6 q7 q9 q8
  have pe := part_empty Q3.out
  have pf := Q3.out.free 128
  have pl := Q3.out.lt
  obtain ⟨w8, hw8⟩ : ∃ w8, w5.setCell ⟨W.heap.size + 1 + 1, 128, none⟩ (.bool false) = w8 := ⟨_, rfl⟩
  have b8 : But (fun k => k = W.heap.size + 1 + 1) w5 w8 := hw8 ▸ set_but Q3.out
  have O8 := Lib.hid (show Owns w8 _ (partL ⟨0, 0, false⟩) 70 from hw8 ▸ part_bool Q3.out)
  have N8 := Lib.hid (N5.out.other Q3.out not_part (by decide) b8)
  have K8 := Lib.hid (K5.out.fresh b8 (by omega) HL.out)
  have Q8 := Lib.hid (b8.owns Q2.out (by omega))
  have Q18 := b8.owns Q1.out (by omega)
  have r4 := Q18.cell_at (i := 4) rfl
  have rl := Q18.lt
  clear b8 Q18
  go_upto_region 9 with fail
  clear pe pf n0 n1 n2 n3 n4 nl hw8
  have hw8 : True := trivial
  go_wp2_with fail
  go_loopw [43] (fun c wr => ∃ (j : Nat) (Vj : NBV) (x : NPart) (bj : NB), c = .int .i64 j ∧ j ≤ subs.length ∧ Vj.bb = V.bb ∧ Hid (KpF lim W wr) ∧ Hid (NBAt wr lim (.string g.name) (.int .i64 g.bound) (.int .i64 g.states) (.slice ra g.rules.length rc) kind Vj bj) ∧ Hid (Owns wr (W.heap.size + 1 + 1) (partL x) 70) ∧ Hid (Owns wr (W.heap.size + 1) (partL ⟨0, 0, false⟩) 70) ∧ Hid bj.Ok ∧ Hid (x.In bj.out.length) ∧ Hid (bj.steps ≤ st - 1) ∧ Hid (b.hgt + 2999 - (j : Int) ≤ bj.hgt) ∧ Hid (q = altsN (nodeN g.lk kind k) (subs.drop j) x bj)) (fun c _ => subs.length - (intOf c).toNat)
  case atStart => exact ⟨0, V, ⟨0, 0, false⟩, ⟨b.out, st - 1, false⟩, rfl, Nat.zero_le _, rfl, K8.out, N8.out, O8.out, Q8.out, HB5.out, NPart.In.zero, Int.le_refl _, by show _ - (0 : Int) ≤ _; omega, HQ2.out⟩
  case round =>
    obtain ⟨j, Vj, x, bj, rfl, hj, hVj, KR, NR, XR, TR, OKR, INR, SJR, HGJ, HEQ⟩ := hrel
    by_cases hlt : j < subs.length
    · as_aux_lemma => -- ok
        have hbl : Below lim W wr := KR.out.low
        have hlw : lim ≤ wr.heap.size := NR.out.low
        obtain ⟨bq, off, rfl, hb, hnode⟩ := H9.out.get hlt
        have hnode := hnode.keep hbl
        simp only [Nat.zero_add] at hnode
        have ecell : ∀ o, W.cell? ⟨bq, o, none⟩ = wr.cell? ⟨bq, o, none⟩ := fun o => (hbl.cell hb).symm
        simp only [ecell] at hnode
        clear ecell
        have hdr := List.drop_eq_getElem_cons hlt
        have hfs := HFIT.out.sub (List.getElem_mem hlt)
        obtain ⟨s, hs'⟩ : ∃ s, subs[j] = s := ⟨_, rfl⟩
        rw [hs'] at hnode hdr hfs
        obtain ⟨u0, u1, u2, u3, u4, e0, e1, e2, e3, e4, hnode⟩ := hnode.vals
        obtain ⟨m0, m1, m2, m3, m4, m5, m6, m7, m8, rfl, rfl, rfl, rfl, rfl⟩ := hnode.forms
        have hb' := Nat.lt_of_lt_of_le hb hlw
        obtain ⟨y, hy⟩ : ∃ y, nodeN g.lk kind k s bj = y := ⟨_, rfl⟩
        have HSO := Lib.hid (nodeN_to g.lk kind k s bj OKR.out)
        have HLO := Lib.hid (nodeN_low E5.out.fit kind k s hfs bj)
        obtain ⟨wa, hwa⟩ : ∃ wa, wr.alloc (.cells #[.int .u8 m0, .string m1, .string m2, .slice m3 m4 m5, .slice m6 m7 m8] 34) = wa := ⟨_, rfl⟩
        have ga : Grew wr wa := hwa ▸ grew_alloc wr _
        have TA := Lib.hid (show Owns wa wr.heap.size [.int .u8 m0, .string m1, .string m2, .slice m3 m4 m5, .slice m6 m7 m8] 34 from hwa ▸ Owns.alloc wr _ _)
        have ka : KpF lim wr wa := KpF.grew ga hlw
        have KA := Lib.hid (KR.out.trans ka)
        have NA := Lib.hid (NR.out.grew ga)
        have XA := Lib.hid (XR.out.keep ga)
        have RA := Lib.hid (TR.out.keep ga)
        have EA := Lib.hid (HE.out.kp KA.out)
        have HCALL : Hid (∀ w (Vw : NBV), KpF lim wa w → Vw.bb = V.bb → NBAt w lim (.string g.name) (.int .i64 g.bound) (.int .i64 g.states) (.slice ra g.rules.length rc) kind Vw bj → Calls Tryd.prog 17 #[.pointer (some ⟨V.bb, 0, none⟩), .agg #[.int .u8 m0, .string m1, .string m2, .slice m3 m4 m5, .slice m6 m7 m8]] w (NodeIs w lim (.string g.name) (.int .i64 g.bound) (.int .i64 g.states) (.slice ra g.rules.length rc) kind V.bb y)) := Lib.hid fun w Vw hk hv hn => by
          rw [← hv, ← hy]
          exact HREC.out s w Vw bj _ _ _ _ _ (EA.out.kp hk) hn OKR.out (by have := SJR.out; omega) (by have := HH.out; have := HGJ.out; omega) (hnode.keep (ka.trans hk).low) hfs
        rw [hy] at HSO HLO
        have HDR := Lib.hid hdr
        have HY := Lib.hid hy
        clear hs' hdr hfs hnode ka ga hbl hb hy
        go_upto_region 12 with fail
        clear hwa e0 e1 e2 e3 e4 hb' hlw
        refine wp_region_hav_litJ (p0 := 3) (J := NBJ lim (.string g.name) (.int .i64 g.bound) (.int .i64 g.states) (.slice ra g.rules.length rc) kind V.bb bj y.2) (kpf_rel lim) (NBJ.before hVj NA.out) follows (by kernel_rfl) ?_
        refine HavJ.val (kpf_rel lim) (by decide) (fun _ => rfl) (partV x) (fun u w hw _ => exec_load_part (hw.owns XA.out not_part) rfl rfl) ?_
        simp only [Act.put, List.setIfInBounds_toArray, List.set_cons_zero, List.set_cons_succ]
        refine HavJ.val (kpf_rel lim) (by decide) (fun _ => rfl) ?_ (fun u w hw _ => ?_) ?_; rotate_left; (focus (clear hw; go_simp; first | done | rfl)); simp only [Act.put, List.setIfInBounds_toArray, List.set_cons_zero, List.set_cons_succ]
        refine HavJ.val (kpf_rel lim) (by decide) (fun _ => rfl) ?_ (fun u w hw _ => ?_) ?_; rotate_left; (focus (have ho := hw.owns TA.out not_node; have hc0 := ho.cell_at (i := 0) rfl; have hc1 := ho.cell_at (i := 1) rfl; have hc2 := ho.cell_at (i := 2) rfl; have hc3 := ho.cell_at (i := 3) rfl; have hc4 := ho.cell_at (i := 4) rfl; have hcl := ho.lt; clear hw ho; go_simp; first | done | rfl)); simp only [Act.put, List.setIfInBounds_toArray, List.set_cons_zero, List.set_cons_succ]
        refine HavJ.one rfl (fun _ => rfl) (fun v w => v = partV y.1) (fun _ _ _ _ h => h) (fun u w hw hJ _ => ?_) ?_
        · obtain ⟨Vw, hVw, hNw⟩ := hJ
          have HW := Lib.hid hw
          have HNW := Lib.hid (show NBAt w _ _ _ _ _ _ Vw bj from hNw)
          clear hw hNw
          go_simp
          refine (HCALL.out w Vw HW.out hVw HNW.out).mono ?_
          rintro e w' ⟨rfl, hK6, V6, hV6, hN6⟩
          exact ⟨⟨hK6, V6, hV6, hN6⟩, rfl⟩
        simp only [Act.put, List.setIfInBounds_toArray, List.set_cons_zero, List.set_cons_succ]
        refine HavJ.tail (by decide) (by kernel_rfl) (by kernel_rfl) (fun u w3 hg hJ hd => ?_)
        have hx := hd _ (List.mem_append_right _ (List.mem_singleton.2 rfl))
        dsimp only at hx
        obtain ⟨V3, hV3, hN3⟩ := hJ
        have N3 := Lib.hid (show NBAt w3 _ _ _ _ _ _ V3 y.2 from hN3)
        have K3 := Lib.hid (KA.out.trans hg)
        have X3 := Lib.hid (hg.owns XA.out not_part)
        have R3 := Lib.hid (hg.owns RA.out not_part)
        have hLO := HLO.out
        unfold Low1 at hLO
        have E3 := Lib.hid (HE.out.kp K3.out)
        clear hd hN3 hg
        simp only [hx]
        clear hx
        have HNE := Lib.hid fun w => neither_ok w x y.1 (HSO.out.2.mono HSO.out.1.ok.few)
        go_wp2_with (first
          | (refine (HNE.out _).mono ?_; rintro e w4 ⟨rfl, hg4⟩; have K4 := Lib.hid (K3.out.trans (KpF.grew hg4 N3.out.low)); have N4 := Lib.hid (N3.out.grew hg4); have X4 := Lib.hid (X3.out.keep hg4); have R4 := Lib.hid (R3.out.keep hg4); clear hg4)
          | (refine wpList_store_part X4.out rfl _ _ rfl rfl rfl ?_; intro w9 o9 b9; have O9 := Lib.hid o9; have N9 := Lib.hid (N4.out.other X4.out not_part (by decide) b9); have K9 := Lib.hid (K4.out.fresh b9 (by omega) HL.out); have R9 := Lib.hid (b9.owns R4.out (by omega)); clear o9 b9; simp only [Act.put]))
        refine ⟨⟨j + 1, V3, eitherN x y.1, y.2, by go_num, by omega, hV3, K9.out, N9.out, O9.out, R9.out, HSO.out.1.ok, eitherN_in (INR.out.mono HSO.out.1.more) HSO.out.2, Int.le_trans HSO.out.1.steps SJR.out, by have := HGJ.out; show _ - ((j + 1 : Nat) : Int) ≤ _; omega, ?_⟩, by simp [intOf]; omega⟩
        refine Lib.hid ?_
        rw [HEQ.out, HDR.out, altsN, HY.out]
    · obtain rfl : j = subs.length := by omega
      clear hhd hhg2 hw8
      rw [List.drop_of_length_le (Nat.le_refl _), altsN] at HEQ
      go_upto_region 35 with fail
      apply wp_region_lit
      refine wpList_load_part XR.out rfl _ rfl rfl ?_
      simp only [Act.put, List.setIfInBounds_toArray, List.set_cons_zero, List.set_cons_succ]
      refine wpList_store_part TR.out rfl _ _ rfl rfl rfl ?_
      intro w9 o9 b9
      have O9 := Lib.hid o9
      have N9 := Lib.hid (NR.out.other TR.out not_part (by decide) b9)
      have K9 := Lib.hid (KR.out.fresh b9 (by omega) HL.out)
      clear o9 b9
      simp only [Act.put]
      go_wp2_with fail
      refine bodyPost_ret (ret_part rfl _ O9.out rfl) rfl ?_
      rw [HQ.out, HEQ.out]
      exact ⟨rfl, K9.out, Vj, hVj, N9.out⟩

end Go.Proofs.YtkinlcichclnkaaDoor
