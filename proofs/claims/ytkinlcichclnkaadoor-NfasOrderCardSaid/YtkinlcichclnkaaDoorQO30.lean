/- node of nfas: a token. Printed by gennfnode.py. -/
import Derived.Laws.Runes
import Derived.Laws.RangeAny
import Derived.Lib.OthersKept
import Derived.Test.YtkinlcichclnkaaDoorQO27
import Derived.Test.YtkinlcichclnkaaDoorQO5
import Derived.Test.YtkinlcichclnkaaDoorQO28
namespace Go.Proofs.YtkinlcichclnkaaDoor
open Go.RowKit

set_option maxHeartbeats 8000000 in
set_option maxRecDepth 40000 in
theorem nn_tok {lim : Nat} {g0 g1 g2 g3 : Value} {g : Gr} {kind : Int} {k : Nat} (hrec : NodeC lim g0 g1 g2 g3 g kind k) (hk : k ≤ 100000) (nm tx : ByteArray) (set : List (Int × Int)) (subs : List Nd) (W : World) (V : NBV) (b : NB) (v0 v1 v2 v3 v4 : Value) (hE : NEnv W lim g0 g1 g2 g3 g) (hN : NBAt W lim g0 g1 g2 g3 kind V b) (hb : b.Ok) (hs : b.steps < ((k + 1 : Nat) : Int)) (hl : -1000000000000 ≤ b.hgt - 1) (hA : NodeAt W lim (some v0) (some v1) (some v2) (some v3) (some v4) (.mk 6 nm tx set subs)) (hf : NdFit g (.mk 6 nm tx set subs)) (ho : ¬ b.steps - 1 < 0) (hfl : b.full = false) :
    Calls Tryd.prog 17 #[.pointer (some ⟨V.bb, 0, none⟩), .agg #[v0, v1, v2, v3, v4]] W (NodeIs W lim g0 g1 g2 g3 kind V.bb (nodeN g.lk kind k (g.lk nm) ⟨b.out, b.steps - 1, b.full⟩)) := by
  have HND := Lib.hid hA
  rw [NodeAt] at hA
  obtain ⟨hkk, h1, h2, h3, h4, h5, ⟨sa, sc, h6, h6', h7⟩, na, nc, h8, h8', h9⟩ := hA
  obtain rfl := Option.some.inj h3
  obtain rfl := Option.some.inj h4
  obtain rfl := Option.some.inj h5
  obtain rfl := Option.some.inj h6
  obtain rfl := Option.some.inj h8
  clear h3 h4 h5 h6 h8
  unfold reachN at h1 h2 h6' h8'
  have hhg : b.hgt ≤ b.steps := by unfold NB.hgt; omega
  have HL := Lib.hid hN.low
  have HFIT := Lib.hid hf
  have HREC := Lib.hid hrec
  have HH := Lib.hid hl
  have HB0 := Lib.hid hb
  obtain ⟨st, hst⟩ : ∃ st, b.steps = st := ⟨_, rfl⟩
  have HST := Lib.hid hst
  obtain ⟨bo, hbo⟩ : ∃ bo, b.out = bo := ⟨_, rfl⟩
  have HBO := Lib.hid hbo
  have hB := boxN3 W [.int .u8 6, .string nm, .string tx, .slice sa set.length sc, .slice na subs.length nc]
  obtain ⟨w1, hw1⟩ : ∃ w1, (W.alloc (.cells #[.int .u8 6, .string nm, .string tx, .slice sa set.length sc, .slice na subs.length nc] 34)).alloc (.cells Tryd.zeroCells70 70) = w1 := ⟨_, rfl⟩
  obtain ⟨w3, hw3⟩ : ∃ w3, w1.alloc (.cells Tryd.zeroCells70 70) = w3 := ⟨_, rfl⟩
  rw [hw1, hw3] at hB
  have z1 : w1.heap.size = W.heap.size + 1 + 1 := by rw [← hw1]; simp only [World.size_alloc]
  have O1 := Lib.hid hB.o1
  have O2 := Lib.hid hB.o2
  have O3 := Lib.hid hB.o3
  have HN := Lib.hid (hN.grew hB.grew)
  have HK := Lib.hid (KpF.grew hB.grew hN.low)
  have HE := Lib.hid hE
  have H7 := Lib.hid h7
  have H9 := Lib.hid h9
  rw [hst] at hs ho hhg
  clear hB hN hE h9 h7 hf hrec hb hst hbo
  have hl2 : -1000000000000 ≤ st - 1 := by have := HH.out; omega
  have HFL := Lib.hid hfl
  rw [hfl]
  go_enter Tryd.func17, Tryd.ntmps17
  go_upto_region 1 with fail
  apply wp_region_lit
  refine wpList_runV rfl (partV ⟨0, 0, true⟩) (exec_build_true rfl rfl) ?_
  simp only [Act.put, List.setIfInBounds_toArray, List.set_cons_zero, List.set_cons_succ]
  refine wpList_runW rfl (.pointer (some ⟨W.heap.size + 1 + 1, 0, none⟩)) (by rw [exec_alloc_part rfl, hw3, z1]) ?_
  simp only [Act.put, List.setIfInBounds_toArray, List.set_cons_zero, List.set_cons_succ]
  refine wpList_store_part O3.out rfl _ _ rfl rfl rfl ?_
  intro w4 o4 b4
  have P3 := Lib.hid o4
  have P1 := Lib.hid (b4.owns O1.out (by omega))
  have P2 := Lib.hid (b4.owns O2.out (by omega))
  have N4 := Lib.hid (HN.out.other O3.out not_part (by decide) b4)
  have K4 := Lib.hid (HK.out.fresh b4 (by omega) HL.out)
  clear o4 b4
  simp only [Act.put]
  clear hw1 hw3 z1 O1 O2 O3 HN HK
  have hbx := N4.out.box
  rw [HST.out, HFL.out] at hbx
  have k6 := hbx.cell_at (i := 6) rfl
  have f6 := hbx.free 6
  have lb := hbx.lt
  obtain ⟨w5, hw5⟩ : ∃ w5, w4.setCell ⟨V.bb, 6, none⟩ (.int .i64 (st - 1)) = w5 := ⟨_, rfl⟩
  have b5 : But (fun k => k = V.bb) w4 w5 := hw5 ▸ set_but hbx
  have o5 : Owns w5 V.bb [g0, g1, g2, g3, .int .i64 kind, V.ov, .int .i64 (st - 1), .bool false] 62 := by
    have := hbx.set 6 (.int .i64 (st - 1))
    rw [hw5] at this
    exact this
  have N5 := Lib.hid (N4.out.boxed b5 o5)
  have K5 := Lib.hid (K4.out.trans (KpF.bld b5 N4.out.low N4.out.blo hbx (.inl rfl)))
  have Q1 := Lib.hid (b5.owns P1.out (owns_ne P1.out hbx (by decide)))
  have Q2 := Lib.hid (b5.owns P2.out (owns_ne P2.out hbx (by decide)))
  have Q3 := Lib.hid (b5.owns P3.out (owns_ne P3.out hbx (by decide)))
  have E5 := Lib.hid (HE.out.kp K5.out)
  have R6 := o5.cell_at (i := 6) rfl
  have R7 := o5.cell_at (i := 7) rfl
  have R8 := o5.free 7
  have lb5 := o5.lt
  have HO5 := Lib.hid o5
  have n0 := Q1.out.cell_at (i := 0) rfl
  have n1 := Q1.out.cell_at (i := 1) rfl
  have n2 := Q1.out.cell_at (i := 2) rfl
  have n3 := Q1.out.cell_at (i := 3) rfl
  have n4 := Q1.out.cell_at (i := 4) rfl
  have nl := Q1.out.lt
  clear hbx b5 o5 P1 P2 P3 N4 K4
  have HB5 : Hid (NB.Ok ⟨b.out, st - 1, false⟩) := Lib.hid ⟨HB0.out.few, HB0.out.fol⟩
  have ho2 : ¬ (st - 1 < 0) := ho
  go_upto_region 3 with fail
  clear k6 f6 lb hw5
  go_upto_region 6 with fail
  clear R6 R7 R8
  have hhd := hgt_dec b
  rw [HFL.out, HST.out] at hhd
  have hhg2 := hgt_open (b := b) (by rw [HST.out]; exact ho2)
  rw [HFL.out, HST.out] at hhg2
  have hfi := HFIT.out.tok _ (all_self _) rfl
  simp only [Nd.name] at hfi
  obtain ⟨j, hj, hfj⟩ := Gr.find_lt hfi
  have hlk := Gr.lk_at hj hfj
  have HFIND := Lib.hid (fun (w : World) (hw : Grew w5 w) => find_ok g nm w g0 g1 g2 g3 ((E5.out.gr.keep ((KpF.grew hw N5.out.low).low)).mono (Nat.le_trans N5.out.low hw.size)))
  have hgr := E5.out.gr
  obtain ⟨q1, q2, q3, q4, q5, q6, ra, rc, q7, q8, q9⟩ := hgr
  obtain rfl := Option.some.inj q1
  obtain rfl := Option.some.inj q3
  obtain rfl := Option.some.inj q4
  obtain rfl := Option.some.inj q7
  obtain ⟨rb, ro, rfl, hrb, hrule⟩ := q9.get hj
  simp only [Nat.zero_add] at hrule
  obtain ⟨y0, y1, y2, y3, y4, -, -, c2, c3, c4, c5, c6, -, -, -, -, hnode⟩ := hrule.vals
  obtain ⟨p0, p1, p2, p3, p4, p5, p6, p7, p8, rfl, rfl, rfl, rfl, rfl⟩ := hnode.forms
  have hrb2 : rb < w5.heap.size := by have := N5.out.low; omega
  unfold reachN at q8
  have HC := Lib.hid (fun (w : World) (hw : Grew w5 w) => HREC.out (g.lk nm) w V ⟨b.out, st - 1, false⟩ _ _ _ _ _ (E5.out.kp (KpF.grew hw N5.out.low)) (N5.out.grew hw) HB5.out (by dsimp only; omega) (by have := HH.out; omega) (hlk.symm ▸ hnode.keep (KpF.grew hw N5.out.low).low) (E5.out.fit.lk nm))
  rw [← HST.out] at HC
  clear hhd hhg2 hfi hnode q1 q2 q3 q4 q5 q6 q7 q9
  rw [hfj] at HFIND
  have e0 := HO5.out.cell_at (i := 0) rfl
  have e1 := HO5.out.cell_at (i := 1) rfl
  have e2 := HO5.out.cell_at (i := 2) rfl
  have e3 := HO5.out.cell_at (i := 3) rfl
  have hjl : (j : Int) < (g.rules.length : Int) := by omega
  clear hlk hfj
  go_upto_region 28 with fail
  refine wp_region_hav_lit follows (by kernel_rfl) ?_
  repeat (first
    | (refine HavG.skip (fun _ => rfl) ?_; simp only [Act.put, List.setIfInBounds_toArray, List.set_cons_zero, List.set_cons_succ])
    | (refine HavG.val (fun _ => rfl) ?_ (fun x w hw _ => ?_) ?_; rotate_left; (focus (have hc := hw.cells; clear hw; go_simp; first | done | rfl)); simp only [Act.put, List.setIfInBounds_toArray, List.set_cons_zero, List.set_cons_succ]))
  refine HavG.det (fun _ => rfl) (.int .i64 (j : Int)) (fun x w hw _ => ?_) ?_
  · have HW := Lib.hid hw
    clear hw
    go_simp
    refine (HFIND.out w HW.out).mono ?_
    rintro e w' ⟨rfl, hb2⟩
    exact ⟨rfl, hb2⟩
  simp only [Act.put, List.setIfInBounds_toArray, List.set_cons_zero, List.set_cons_succ]
  repeat (first
    | (refine HavG.skip (fun _ => rfl) ?_; simp only [Act.put, List.setIfInBounds_toArray, List.set_cons_zero, List.set_cons_succ])
    | (refine HavG.val (fun _ => rfl) ?_ (fun x w hw _ => ?_) ?_; rotate_left; (focus (have hc := hw.cells; clear hw; go_simp; first | done | rfl)); simp only [Act.put, List.setIfInBounds_toArray, List.set_cons_zero, List.set_cons_succ]))
  refine HavG.tail (by kernel_rfl) (by kernel_rfl) (fun x w hw _ => ?_)
  have HW := Lib.hid hw
  have HKW := Lib.hid (K5.out.trans (KpF.grew hw N5.out.low))
  clear hw
  go_wp2_with (first
      | (refine (HC.out w HW.out).mono ?_; rintro e w6 ⟨rfl, hK6, V6, hV6, hN6⟩; have K6 := Lib.hid (HKW.out.trans hK6); have N6 := Lib.hid hN6; have O6 := Lib.hid (hK6.owns (Q2.out.keep HW.out) not_part); clear hK6 hN6)
      | (refine wpList_store_part O6.out rfl _ _ rfl rfl rfl ?_; intro w9 o9 b9; have O9 := Lib.hid o9; have N9 := Lib.hid (N6.out.other O6.out not_part (by decide) b9); have K9 := Lib.hid (K6.out.fresh b9 (by omega) HL.out); clear o9 b9; simp only [Act.put]))
  exact bodyPost_ret (ret_part rfl _ O9.out rfl) rfl ⟨rfl, K9.out, V6, hV6, N9.out⟩
end Go.Proofs.YtkinlcichclnkaaDoor

/- Calls of node in a region that draws its order. -/
namespace Go.Proofs.YtkinlcichclnkaaDoor
open Go.RowKit

theorem kpf_rel (lim : Nat) : Rel (KpF lim) := ⟨KpF.refl lim, fun h k => h.trans k, fun w => ⟨(Below.refl _ w).drew, fun _ _ _ _ h _ => h, fun _ _ _ h => h⟩⟩
theorem exec_load_part {ev : Operand → Value} {o : Oper} {w : World} {q : NPart} {b : Nat} {x : Operand} (hO : Owns w b (partL q) 70) (ho : o.op = .load 70 x) (hx : ev x = .pointer (some ⟨b, 0, none⟩)) : (execOp ev o).run Tryd.prog w = .ok (.value (partV q)) w := by
  unfold execOp
  simp only [ho, hx, Instr.loadAt, Instr.sureAddr, Sem.run_bind, Sem.run_pure, Result.andThen_ok, run_loadVar_row w b 70 70 _ (0, 0) _ hO Tryd.underlying70 rfl (part_size q)]
  rfl
/-- what is built, before and behind a call -/
def NBJ (lim : Nat) (g0 g1 g2 g3 : Value) (kind : Int) (bb : Nat) (b c : NB) (f : Bool) (w : World) : Prop := ∃ V, V.bb = bb ∧ NBAt w lim g0 g1 g2 g3 kind V (if f then c else b)
theorem NBJ.before {lim : Nat} {g0 g1 g2 g3 : Value} {kind : Int} {bb : Nat} {b c : NB} {w : World} {V : NBV} (hV : V.bb = bb) (h : NBAt w lim g0 g1 g2 g3 kind V b) : NBJ lim g0 g1 g2 g3 kind bb b c false { w with drawn := w.drawn + 1 } := by
  refine ⟨V, hV, ?_⟩
  have hg : Grew w { w with drawn := w.drawn + 1 } := (Below.refl _ w).drew
  exact h.grew hg
theorem part_bool {w : World} {b : Nat} {x : NPart} {e : Bool} (h : Owns w b (partL x) 70) : Owns (w.setCell ⟨b, 128, none⟩ (.bool e)) b (partL ⟨x.first, x.last, e⟩) 70 := by
  have h1 := h.set 128 (.bool e)
  have h2 : (partL x).set 128 (.bool e) = partL ⟨x.first, x.last, e⟩ := by
    unfold partL
    rw [List.set_append_right _ _ (by rw [wdL_len]; omega), wdL_len, List.set_append_right _ _ (by rw [wdL_len]; omega), wdL_len]
    rfl
  rw [h2] at h1
  exact h1
theorem width_posN (s : ByteArray) (pos : Nat) (h : pos < s.size) : 1 ≤ (Utf8.decode s pos).2 := by
  by_cases ha : (s[pos]'h).toNat < 128
  · rw [decode_ascii s pos h ha]
    exact Nat.le_refl _
  · exact (decode_high s pos h (by omega)).2
theorem iter_but {w : World} (k : Nat) (s : ByteArray) (pos : Nat) : But (fun j => j = k) w (w.iterAt k s pos) :=
  ⟨rfl, rfl, rfl, by rw [Lib.iterAt_size]; exact Nat.le_refl _, fun j _ hj => Lib.iterAt_other w k j s pos hj⟩
theorem iter_ne {w : World} {b k T : Nat} {cs : List Value} {s : ByteArray} {p : Nat} (h : Owns w b cs T) (hk : w.heap[k]? = some (.stringIter s p)) : b ≠ k := fun e => by
  subst e
  unfold Owns at h
  rw [h] at hk
  cases hk
theorem row_iter_ne {w : World} {base e size n k : Nat} {v : Value} {xs : List Value} {s : ByteArray} {p : Nat} (h : looseRow w base e size v n xs) (hk : w.heap[k]? = some (.stringIter s p)) : ∀ g, v.ownBlock = some g → g ≠ k := fun g hg ec => by
  subst ec
  obtain ⟨_, cs, k1⟩ := row_own h hg
  rw [k1] at hk
  cases hk
/-- a string's iterator goes on -/
theorem NBAt.iter {W : World} {lim : Nat} {g0 g1 g2 g3 : Value} {kind : Int} {V : NBV} {b : NB} (h : NBAt W lim g0 g1 g2 g3 kind V b) {k : Nat} {s : ByteArray} {p : Nat} (hk : W.heap[k]? = some (.stringIter s p)) (q : Nat) : NBAt (W.iterAt k s q) lim g0 g1 g2 g3 kind V b := by
  have hb := iter_but (w := W) k s q
  exact ⟨Nat.le_trans h.low hb.size, h.blo, hb.owns h.box (iter_ne h.box hk), hb.row h.out fun g hg e => row_iter_ne h.out hk g hg e, fun i hi => ⟨(h.made i hi).1, hb.owns (h.made i hi).2 (iter_ne (h.made i hi).2 hk)⟩, fun i hi => hb.row (h.set i hi) fun g hg e => row_iter_ne (h.set i hi) hk g hg e, h.inj⟩
theorem exec_slice_rg {ev : Operand → Value} {o : Oper} {w : World} {a c : Int} {x : Operand} (ho : o.op = .buildSlice 31 1 #[(0, x)]) (hx : ev x = .agg #[.int .i32 a, .int .i32 c]) : (execOp ev o).run Tryd.prog w = .ok (.value (.slice (some ⟨w.heap.size, 0, none⟩) 1 1)) (w.alloc (.cells #[.int .i32 a, .int .i32 c] 58)) := by
  have h : (Instr.buildSlice 31 1 #[(0, .agg #[.int .i32 a, .int .i32 c])]).run Tryd.prog w = .ok (.slice (some ⟨w.heap.size, 0, none⟩) 1 1) (w.alloc (.cells #[.int .i32 a, .int .i32 c] 58)) := by kernel_rfl
  unfold execOp
  simp only [ho, List.map_toArray, List.map_cons, List.map_nil, hx, Sem.run_bind, h, Result.andThen_ok, Sem.run_pure]
theorem rg_not : ¬ BldT 58 := by unfold BldT; decide
theorem rg_at {w : World} {sb : Nat} {a c : Int} (h : Owns w sb [.int .i32 a, .int .i32 c] 58) : RangesAt w w.heap.size (some ⟨sb, 0, none⟩) 0 [(a, c)] :=
  ⟨⟨sb, 0, rfl, h.lt, h.cell_at (i := 0) rfl, h.cell_at (i := 1) rfl⟩, trivial⟩
theorem runesAt_end {s : ByteArray} {f p : Nat} (h : ¬ p < s.size) : runesAt s f p = [] := by
  cases f with
  | zero => rfl
  | succ f => rw [runesAt, if_neg h]
theorem runesAt_step {s : ByteArray} {f p : Nat} (h : p < s.size) (hf : s.size ≤ p + f) : ∃ f', s.size ≤ p + (Utf8.decode s p).2 + f' ∧ runesAt s f p = ((Utf8.decode s p).1 : Int) :: runesAt s f' (p + (Utf8.decode s p).2) := by
  cases f with
  | zero => omega
  | succ f => exact ⟨f, by have := width_posN s p h; omega, by rw [runesAt, if_pos h]⟩
end Go.Proofs.YtkinlcichclnkaaDoor
