/- checks.rule: all that is told of one rule. -/
import Derived.Deep.DeepCutAuto
import Derived.BigQuiet
import Derived.Test.YtgdcnndmdgcjlaaQ20
import Derived.Test.YtgdcnndmdgcjlaaQ18
import Derived.Test.YtgdcnndmdgcjlaaQ9
import Derived.Test.YtgdcnndmdgcjlaaQ14
import Derived.Test.YtgdcnndmdgcjlaaQ15
import Derived.Test.YtgdcnndmdgcjlaaQ10
namespace Go.Proofs.Ytgdcnndmdgcjlaa
open Go.RowKit Go.Shelf
structure ChkM (W : World) (base cb : Nat) (c : ChkVals) (g : Gr) (es : List Bool) (M N : List (List Bool)) : Prop where
  gr : GrAt W base (some c.c0) (some c.c1) (some c.c2) (some c.c3) g
  empty : ∃ eb, c.c4 = .slice (some ⟨eb, 0, none⟩) g.rules.length g.rules.length ∧ Owns W eb (es.map .bool) 4
  el : es.length = g.rules.length
  reach : ∃ B rb f, c.c5 = .slice (some ⟨rb, 0, none⟩) g.rules.length g.rules.length ∧ MatR W B rb g.rules.length g.rules.length f (fun i => M.getD i [])
  round : ∃ B rb f, c.c6 = .slice (some ⟨rb, 0, none⟩) g.rules.length g.rules.length ∧ MatR W B rb g.rules.length g.rules.length f (fun i => N.getD i [])
theorem Told.keeps_owns {A B : World} {base cb : Nat} (h : Told base cb A B) {ccs : List Value} (hc : Owns A cb ccs 157) {b T : Nat} {cs : List Value} (ho : Owns A b cs T) (h1 : T ≠ 164) (h2 : T ≠ 157) : Owns B b cs T :=
  h.owns ho (fun e => by
    subst e
    unfold Owns at ho hc
    rw [hc] at ho
    cases ho
    exact h2 rfl) h1
theorem ChkM.told {A B : World} {base cb : Nat} {c : ChkVals} {g : Gr} {es : List Bool} {M N : List (List Bool)} (h : ChkM A base cb c g es M N) (ht : Told base cb A B) {L : List Prob} (hc : ChkAt A base cb c L) : ChkM B base cb c g es M N := by
  obtain ⟨h1, ⟨eb, h2, h3⟩, h4, ⟨B1, rb1, f1, h5, h6⟩, ⟨B2, rb2, f2, h7, h8⟩⟩ := h
  obtain ⟨_, hcc⟩ := hc.cb_own
  have hk : ∀ b cs T, (T = 31 ∨ T = 4) → Owns A b cs T → Owns B b cs T := fun b cs T hT ho => ht.keeps_owns hcc ho (by rcases hT with h | h <;> subst h <;> decide) (by rcases hT with h | h <;> subst h <;> decide)
  exact ⟨h1.keep ht.low, ⟨eb, h2, hk _ _ _ (.inr rfl) h3⟩, h4, ⟨B1, rb1, f1, h5, h6.of hk⟩, ⟨B2, rb2, f2, h7, h8.of hk⟩⟩
structure RuleAtHand (g : Gr) (es : List Bool) (M N : List (List Bool)) (base cb : Nat) (c : ChkVals) (L : List Prob) (W w : World) (t i : Nat) : Prop where
  chk : ChkAt w base cb c L
  mem : ChkM w base cb c g es M N
  b1 : Owns w W.heap.size [.pointer (some ⟨cb, 0, none⟩)] 153
  b2 : Owns w (W.heap.size + 1) [.int .i64 (i : Int)] 3
  rule : ∃ hi : i < g.rules.length, RuleBox w t g.rules[i]
  tlo : W.heap.size + 2 ≤ t
  told : Told base cb W w
  cbl : cb < W.heap.size
  lo : base ≤ W.heap.size
theorem RuleAtHand.more {g : Gr} {es : List Bool} {M N : List (List Bool)} {base cb : Nat} {c : ChkVals} {L L' : List Prob} {W w w' : World} {t i : Nat} (h : RuleAtHand g es M N base cb c L W w t i) (hc : ChkAt w' base cb c L') (ht : Told base cb w w') : RuleAtHand g es M N base cb c L' W w' t i := by
  obtain ⟨_, hcc⟩ := h.chk.cb_own
  obtain ⟨hi, v2, v3, v4, v5, v6, hr⟩ := h.rule
  exact ⟨hc, h.mem.told ht h.chk, ht.keeps_owns hcc h.b1 (by decide) (by decide), ht.keeps_owns hcc h.b2 (by decide) (by decide), ⟨hi, v2, v3, v4, v5, v6, ht.keeps_owns hcc hr (by decide) (by decide)⟩, h.tlo, h.told.trans ht, h.cbl, h.lo⟩
theorem RuleAtHand.grew {g : Gr} {es : List Bool} {M N : List (List Bool)} {base cb : Nat} {c : ChkVals} {L : List Prob} {W w w' : World} {t i : Nat} (h : RuleAtHand g es M N base cb c L W w t i) (hg : Grew w w') : RuleAtHand g es M N base cb c L W w' t i :=
  h.more (h.chk.grew hg) (Told.grew hg (by have := h.lo; have := h.told.low.size; omega))
theorem nodesTold_len (i : Nat) (r : Rl) (code : Int) (q : Nd → Bool) : (nodesTold i r code q).length ≤ r.body.all.length := by
  unfold nodesTold
  rw [List.length_map]
  exact List.length_filter_le ..
theorem enters_rule1 : Enters 90 := fun _ _ => by kernel_rfl
theorem enters_rule2 : Enters 91 := fun _ _ => by kernel_rfl
theorem enters_rule3 : Enters 93 := fun _ _ => by kernel_rfl
theorem grCell_of {W : World} {base cb : Nat} {c : ChkVals} {L : List Prob} {g : Gr} (hc : ChkAt W base cb c L) (hg : GrAt W base (some c.c0) (some c.c1) (some c.c2) (some c.c3) g) (hb : base ≤ W.heap.size) : GrCell W cb g := by
  obtain ⟨_, v, ho, _⟩ := hc
  exact ⟨ho.lt, _, _, _, _, ho.cell_at (i := 0) rfl, ho.cell_at (i := 1) rfl, ho.cell_at (i := 2) rfl, ho.cell_at (i := 3) rfl, hg.mono hb⟩
theorem RuleAtHand.asks1 {g : Gr} {es : List Bool} {M N : List (List Bool)} {base cb : Nat} {c : ChkVals} {L : List Prob} {W w : World} {t i : Nat} (h : RuleAtHand g es M N base cb c L W w t i) : Asks w base cb c 90 #[.pointer (some ⟨W.heap.size, 0, none⟩)] g.noneBad := by
  intro n w' L' v0 v1 v2 v3 v4 ht hc hn
  have h' := h.more hc ht
  exact rule1_ok g n w' cb W.heap.size v0 v1 v2 v3 v4 (grCell_of hc h'.mem.gr (by have := h'.lo; have := h'.told.low.size; omega)) (h'.b1.cell_at rfl) hn
theorem RuleAtHand.asks2 {g : Gr} {es : List Bool} {M N : List (List Bool)} {base cb : Nat} {c : ChkVals} {L : List Prob} {W w : World} {t i : Nat} (h : RuleAtHand g es M N base cb c L W w t i) (hi : i < g.rules.length) :
    Asks w base cb c 91 #[.pointer (some ⟨W.heap.size, 0, none⟩), .pointer (some ⟨t, 0, none⟩)] (g.sortBad g.rules[i]) := by
  intro n w' L' v0 v1 v2 v3 v4 ht hc hn
  have h' := h.more hc ht
  obtain ⟨_, hr⟩ := h'.rule
  exact rule2_ok g g.rules[i] n w' cb W.heap.size t v0 v1 v2 v3 v4 (grCell_of hc h'.mem.gr (by have := h'.lo; have := h'.told.low.size; omega)) (h'.b1.cell_at rfl) hr hn
theorem RuleAtHand.asks3 {g : Gr} {es : List Bool} (hes : g.IsEmpty es) {M N : List (List Bool)} {base cb : Nat} {c : ChkVals} {L : List Prob} {W w : World} {t i : Nat} (h : RuleAtHand g es M N base cb c L W w t i) (hi : i < g.rules.length) :
    Asks w base cb c 93 #[.pointer (some ⟨W.heap.size, 0, none⟩), .pointer (some ⟨W.heap.size + 1, 0, none⟩)] (g.loopBad es g.rules[i]) := by
  intro n w' L' v0 v1 v2 v3 v4 ht hc hn
  have h' := h.more hc ht
  exact rule3_ok g es hes i hi n w' cb W.heap.size (W.heap.size + 1) v0 v1 v2 v3 v4 (grCell_of hc h'.mem.gr (by have := h'.lo; have := h'.told.low.size; omega)) (h'.b1.cell_at rfl) (h'.b2.cell_at rfl) hn
set_option maxHeartbeats 8000000 in
set_option maxRecDepth 20000 in
theorem rule_ok (g : Gr) (es : List Bool) (hes : g.IsEmpty es) (M N : List (List Bool)) (base cb : Nat) (c : ChkVals) (L : List Prob) (W : World) (hbase : base ≤ W.heap.size) (hC : ChkAt W base cb c L) (hM : ChkM W base cb c g es M N) (i : Nat) (hi : i < g.rules.length)
    (hlen : L.length + 3 * g.rules[i].body.all.length + 4 ≤ 1000000) :
    Calls Try.prog 74 #[.pointer (some ⟨cb, 0, none⟩), .int .i64 (i : Int)] W fun e W' =>
      (∃ v, e = .returned v) ∧ ChkAt W' base cb c (L ++ g.ruleTold es (at2 M) (at2 N) i g.rules[i]) ∧ Told base cb W W' := by
  have hg1 := grew_alloc W (.cells #[.pointer (some ⟨cb, 0, none⟩)] 153)
  have hg2 := grew_alloc (W.alloc (.cells #[.pointer (some ⟨cb, 0, none⟩)] 153)) (.cells #[.int .i64 (i : Int)] 3)
  have o1 := (Owns.alloc W [.pointer (some ⟨cb, 0, none⟩)] 153).keep hg2
  have o2 := Owns.alloc (W.alloc (.cells #[.pointer (some ⟨cb, 0, none⟩)] 153)) [.int .i64 (i : Int)] 3
  rw [World.size_alloc] at o2
  have hg := hg1.trans hg2
  have hC4 := hC.grew hg
  have hcw : cb < W.heap.size := by
    obtain ⟨_, _, ho, _⟩ := hC
    exact ho.lt
  obtain ⟨_, v, hco, hcr⟩ := hC4
  obtain ⟨q1, q2, q3, q4, q5, q6, ra, rc, q7, q8, q9⟩ := hM.gr
  obtain ⟨b, off, rfl, hb, hrule⟩ := (q9.keep (hg.mono hbase)).get hi
  simp only [Nat.zero_add] at hrule
  obtain ⟨u2, u3, u4, u5, u6, e0, e1, e2, e3, e4, e5, e6, e7, e8, e9, hrule, hnode⟩ := hrule.vals
  obtain ⟨bk, bnm, btx, bsa, bsl, bsc, bna, bnl, bnc, rfl, rfl, rfl, rfl, rfl⟩ := hnode.forms
  have p1 := o1.cell_at (i := 0) rfl
  have p2 := o2.cell_at (i := 0) rfl
  have l1 := o1.lt
  have l2 := o2.lt
  have lc := hco.lt
  have pc := hco.cell_at (i := 3) (v := c.c3) rfl
  rw [Option.some.inj q7] at pc
  have HG := Lib.hid hg
  have HO1 := Lib.hid o1
  have HO2 := Lib.hid o2
  have HC := Lib.hid hC
  have HM := Lib.hid hM
  have HQ7 := Lib.hid (Option.some.inj q7)
  have hsz4 : W.heap.size + 2 = ((W.alloc (.cells #[.pointer (some ⟨cb, 0, none⟩)] 153)).alloc (.cells #[.int .i64 (i : Int)] 3)).heap.size := by simp
  have HS4 := Lib.hid hsz4
  clear hrule hnode q1 q2 q3 q4 q5 q6 q7 q9 hC hco hcr o1 o2 hg1 hg2 hg hM hsz4
  unfold reachN at q8
  go_enter Try.func74, Try.ntmps74
  go_upto_region 2 with fail
  generalize (W.alloc (.cells #[.pointer (some ⟨cb, 0, none⟩)] 153)).alloc (.cells #[.int .i64 (i : Int)] 3) = w4 at *
  have hbs : b < w4.heap.size := by have := HS4.out; omega
  refine wp_region_hav_lit follows (by kernel_rfl) ?_
  repeat (first
    | (refine HavG.skip (fun _ => rfl) ?_; simp only [Act.put, List.setIfInBounds_toArray, List.set_cons_zero, List.set_cons_succ])
    | (refine HavG.val (fun _ => rfl) ?_ (fun x w hw _ => ?_) ?_; rotate_left; (focus (have hc := hw.cells; clear hw; go_simp; first | done | rfl)); simp only [Act.put, List.setIfInBounds_toArray, List.set_cons_zero, List.set_cons_succ]))
  refine HavG.any (fun _ => rfl) (fun v w => ∃ t, v = .pointer (some ⟨t, 0, none⟩) ∧ w4.heap.size ≤ t ∧ Owns w t [.string ⟨#[]⟩, .int .u8 0, .int .u8 0, .string ⟨#[]⟩, .string ⟨#[]⟩, .slice none 0 0, .slice none 0 0, .int .i64 0, .int .i64 0, .int .i64 0] 108) ?_ (fun x w hw _ => ?_) ?_
  · rintro v w w' hg ⟨t, h1, h2, h3⟩
    exact ⟨t, h1, h2, h3.keep hg⟩
  · have HW := Lib.hid hw
    clear hw
    go_simp
    refine ⟨grew_alloc _ _, ?_⟩
    have := HW.out.size
    exact ⟨by simpa using this, Owns.alloc w _ _⟩
  simp only [Act.put, List.setIfInBounds_toArray, List.set_cons_zero, List.set_cons_succ]
  refine HavG.tail (by kernel_rfl) (by kernel_rfl) (fun x w hw hx => ?_)
  have hx' := hx _ (List.mem_append_right _ (List.mem_singleton.2 rfl))
  clear hx
  dsimp only at hx'
  generalize x (0 + 1 + 1 + 1 + 1 + 1 + 1 + 1 + 1) = y at *
  obtain ⟨t, rfl, htl, hot⟩ := hx'
  have t0 := hot.cell_at (i := 0) rfl
  have f0 := hot.free 0
  have t1 := hot.cell_at (i := 1) rfl
  have f1 := hot.free 1
  have t2 := hot.cell_at (i := 2) rfl
  have f2 := hot.free 2
  have t3 := hot.cell_at (i := 3) rfl
  have f3 := hot.free 3
  have t4 := hot.cell_at (i := 4) rfl
  have f4 := hot.free 4
  have t5 := hot.cell_at (i := 5) rfl
  have f5 := hot.free 5
  have t6 := hot.cell_at (i := 6) rfl
  have f6 := hot.free 6
  have t7 := hot.cell_at (i := 7) rfl
  have f7 := hot.free 7
  have t8 := hot.cell_at (i := 8) rfl
  have f8 := hot.free 8
  have t9 := hot.cell_at (i := 9) rfl
  have f9 := hot.free 9
  have HW := Lib.hid hw
  have HO := Lib.hid hot
  clear hw hot
  go_upto_region 2 with fail
  have hO5 : Owns (((((((((((w.setCell ⟨t, 0, none⟩ (.string g.rules[i].name)).setCell ⟨t, 1, none⟩ (.int .u8 g.rules[i].sort)).setCell ⟨t, 2, none⟩ (.int .u8 bk)).setCell ⟨t, 3, none⟩ (.string bnm)).setCell ⟨t, 4, none⟩ (.string btx)).setCell ⟨t, 5, none⟩ (.slice bsa bsl bsc)).setCell ⟨t, 6, none⟩ (.slice bna bnl bnc)).setCell ⟨t, 7, none⟩ (.int .i64 g.rules[i].p0)).setCell ⟨t, 8, none⟩ (.int .i64 g.rules[i].p1)).setCell ⟨t, 9, none⟩ (.int .i64 g.rules[i].p2))) t [.string g.rules[i].name, .int .u8 g.rules[i].sort, .int .u8 bk, .string bnm, .string btx, .slice bsa bsl bsc, .slice bna bnl bnc, .int .i64 g.rules[i].p0, .int .i64 g.rules[i].p1, .int .i64 g.rules[i].p2] 108 := ((((((((((HO.out.set 0 (.string g.rules[i].name)).set 1 (.int .u8 g.rules[i].sort)).set 2 (.int .u8 bk)).set 3 (.string bnm)).set 4 (.string btx)).set 5 (.slice bsa bsl bsc)).set 6 (.slice bna bnl bnc)).set 7 (.int .i64 g.rules[i].p0)).set 8 (.int .i64 g.rules[i].p1)).set 9 (.int .i64 g.rules[i].p2))
  have hG5 : Grew w4 (((((((((((w.setCell ⟨t, 0, none⟩ (.string g.rules[i].name)).setCell ⟨t, 1, none⟩ (.int .u8 g.rules[i].sort)).setCell ⟨t, 2, none⟩ (.int .u8 bk)).setCell ⟨t, 3, none⟩ (.string bnm)).setCell ⟨t, 4, none⟩ (.string btx)).setCell ⟨t, 5, none⟩ (.slice bsa bsl bsc)).setCell ⟨t, 6, none⟩ (.slice bna bnl bnc)).setCell ⟨t, 7, none⟩ (.int .i64 g.rules[i].p0)).setCell ⟨t, 8, none⟩ (.int .i64 g.rules[i].p1)).setCell ⟨t, 9, none⟩ (.int .i64 g.rules[i].p2))) := (Below.setCell (Below.setCell (Below.setCell (Below.setCell (Below.setCell (Below.setCell (Below.setCell (Below.setCell (Below.setCell (Below.setCell HW.out (p := ⟨t, 0, none⟩) htl (.string g.rules[i].name)) (p := ⟨t, 1, none⟩) htl (.int .u8 g.rules[i].sort)) (p := ⟨t, 2, none⟩) htl (.int .u8 bk)) (p := ⟨t, 3, none⟩) htl (.string bnm)) (p := ⟨t, 4, none⟩) htl (.string btx)) (p := ⟨t, 5, none⟩) htl (.slice bsa bsl bsc)) (p := ⟨t, 6, none⟩) htl (.slice bna bnl bnc)) (p := ⟨t, 7, none⟩) htl (.int .i64 g.rules[i].p0)) (p := ⟨t, 8, none⟩) htl (.int .i64 g.rules[i].p1)) (p := ⟨t, 9, none⟩) htl (.int .i64 g.rules[i].p2))
  generalize ((((((((((w.setCell ⟨t, 0, none⟩ (.string g.rules[i].name)).setCell ⟨t, 1, none⟩ (.int .u8 g.rules[i].sort)).setCell ⟨t, 2, none⟩ (.int .u8 bk)).setCell ⟨t, 3, none⟩ (.string bnm)).setCell ⟨t, 4, none⟩ (.string btx)).setCell ⟨t, 5, none⟩ (.slice bsa bsl bsc)).setCell ⟨t, 6, none⟩ (.slice bna bnl bnc)).setCell ⟨t, 7, none⟩ (.int .i64 g.rules[i].p0)).setCell ⟨t, 8, none⟩ (.int .i64 g.rules[i].p1)).setCell ⟨t, 9, none⟩ (.int .i64 g.rules[i].p2)) = w5 at *
  clear t0 t1 t2 t3 t4 t5 t6 t7 t8 t9 f0 f1 f2 f3 f4 f5 f6 f7 f8 f9 HO HW w e0 e1 e2 e3 e4 e5 e6 e7 e8 e9 p1 p2 l1 l2 lc pc x
  have hOr : RuleBox w5 t g.rules[i] := ⟨_, _, _, _, _, hO5⟩
  have hR5 : RuleAtHand g es M N base cb c L W w5 t i := ⟨HC.out.grew (HG.out.trans hG5), HM.out.told (Told.grew (HG.out.trans hG5) hbase) HC.out, HO1.out.keep hG5, HO2.out.keep hG5, ⟨hi, hOr⟩, by have := HS4.out; omega, Told.grew (HG.out.trans hG5) hbase, hcw, hbase⟩
  have HR5 := Lib.hid hR5
  clear hO5 hG5 HG HO1 HO2 HC HM HS4 htl hOr hR5
  have hr := HR5.out
  obtain ⟨hi', v2, v3, v4, v5, v6, hrb⟩ := hr.rule
  have p1 := hr.b1.cell_at (i := 0) rfl
  have p2 := hr.b2.cell_at (i := 0) rfl
  have l1 := hr.b1.lt
  have l2 := hr.b2.lt
  have lt := hrb.lt
  have r0 := hrb.cell_at (i := 0) rfl
  have r1 := hrb.cell_at (i := 1) rfl
  have lc : cb < w5.heap.size := by have := hr.cbl; have := hr.told.low.size; omega
  obtain ⟨_, vv, hco, _⟩ := hr.chk
  have pc0 : w5.cell? ⟨cb, 0, none⟩ = some c.c0 := hco.cell_at (i := 0) rfl
  have pc1 : w5.cell? ⟨cb, 1, none⟩ = some c.c1 := hco.cell_at (i := 1) rfl
  have pc2 : w5.cell? ⟨cb, 2, none⟩ = some c.c2 := hco.cell_at (i := 2) rfl
  have pc3 : w5.cell? ⟨cb, 3, none⟩ = some c.c3 := hco.cell_at (i := 3) rfl
  have HF := Lib.hid (fun u hg' => find_ok g g.rules[i].name u c.c0 c.c1 c.c2 c.c3 hg')
  have HGR := Lib.hid (hr.mem.gr.mono (show base ≤ w5.heap.size by have := hr.lo; omega))
  clear hr hco hrb
  refine wp_region_hav_lit follows (by kernel_rfl) ?_
  repeat (first
    | (refine HavG.skip (fun _ => rfl) ?_; simp only [Act.put, List.setIfInBounds_toArray, List.set_cons_zero, List.set_cons_succ])
    | (refine HavG.val (fun _ => rfl) ?_ (fun x w hw _ => ?_) ?_; rotate_left; (focus (have hc := hw.cells; clear hw; go_simp; first | done | rfl)); simp only [Act.put, List.setIfInBounds_toArray, List.set_cons_zero, List.set_cons_succ]))
  refine HavG.det (fun _ => rfl) (.int .i64 (g.find g.rules[i].name)) (fun x w hw _ => ?_) ?_
  · have HW := Lib.hid hw
    clear hw
    go_simp
    refine (HF.out _ ((HGR.out.keep HW.out).mono HW.out.size)).mono ?_
    rintro e w' ⟨rfl, hb⟩
    exact ⟨rfl, hb⟩
  simp only [Act.put, List.setIfInBounds_toArray, List.set_cons_zero, List.set_cons_succ]
  repeat (first
    | (refine HavG.skip (fun _ => rfl) ?_; simp only [Act.put, List.setIfInBounds_toArray, List.set_cons_zero, List.set_cons_succ])
    | (refine HavG.val (fun _ => rfl) ?_ (fun x w hw _ => ?_) ?_; rotate_left; (focus (have hc := hw.cells; clear hw; go_simp; first | done | rfl)); simp only [Act.put, List.setIfInBounds_toArray, List.set_cons_zero, List.set_cons_succ]))
  refine HavG.tail (by kernel_rfl) (by kernel_rfl) (fun x w6 hw _ => ?_)
  have hR6 := HR5.out.grew hw
  have HR6 := Lib.hid hR6
  clear hw hR6
  generalize hD : decide (g.find g.rules[i].name < (i : Int)) = D0 at *
  have HD0 := Lib.hid hD
  clear hD HF HGR
  go_upto_if 21 with fail
  go_cut [] (fun wx => RuleAtHand g es M N base cb c (L ++ (if D0 = true then [⟨1, i, g.rules[i].name⟩] else [])) W wx t i)
  case first =>
    have hr := HR6.out
    have p1 := hr.b1.cell_at (i := 0) rfl
    have p2 := hr.b2.cell_at (i := 0) rfl
    have l1 := hr.b1.lt
    have l2 := hr.b2.lt
    have lc : cb < w6.heap.size := by have := hr.cbl; have := hr.told.low.size; omega
    obtain ⟨_, v2, v3, v4, v5, v6, hrb⟩ := hr.rule
    have lr := hrb.lt
    have r0 := hrb.cell_at (i := 0) rfl
    have r1 := hrb.cell_at (i := 1) rfl
    have r2 := hrb.cell_at (i := 2) rfl
    have r3 := hrb.cell_at (i := 3) rfl
    have r4 := hrb.cell_at (i := 4) rfl
    have r5 := hrb.cell_at (i := 5) rfl
    have r6 := hrb.cell_at (i := 6) rfl
    have r7 := hrb.cell_at (i := 7) rfl
    have r8 := hrb.cell_at (i := 8) rfl
    have r9 := hrb.cell_at (i := 9) rfl
    obtain ⟨_, vv, hco, _⟩ := hr.chk
    clear hco hrb
    clear hr
    cases D0
    · go_wp2_with fail
      go_meet
      have := HR6.out
      simpa using this
    · have HT := Lib.hid (tell_ok base cb c _ w6 HR6.out.chk (by omega) 1 i g.rules[i].name)
      go_wp2_with fail
      refine HT.out.mono ?_
      rintro e w99 ⟨⟨v99, rfl⟩, hC99, hT99⟩
      go_wp2_with fail
      go_meet
      have := HR6.out.more hC99 hT99
      simpa using this
  case rest =>
    have HR7 := Lib.hid hcut
    have hLLA : (L ++ (if D0 = true then [(⟨1, i, g.rules[i].name⟩ : Prob)] else [])).length ≤ L.length + 1 := by split <;> simp <;> omega
    clear hcut HR6
    generalize hLe : L ++ (if D0 = true then [(⟨1, i, g.rules[i].name⟩ : Prob)] else []) = LA at *
    have HLA := Lib.hid hLe
    clear hLe
    obtain ⟨wHR7, rfl⟩ : ∃ z, z = wc := ⟨_, rfl⟩
    have hr := HR7.out
    have p1 := hr.b1.cell_at (i := 0) rfl
    have p2 := hr.b2.cell_at (i := 0) rfl
    have l1 := hr.b1.lt
    have l2 := hr.b2.lt
    have lc : cb < wHR7.heap.size := by have := hr.cbl; have := hr.told.low.size; omega
    obtain ⟨_, vv, hco, _⟩ := hr.chk
    clear hco
    clear hr
    have HA := Lib.hid (nodes_ok g base cb c LA wHR7 (by have := HR7.out.lo; have := HR7.out.told.low.size; omega) HR7.out.chk HR7.out.mem.gr i hi 2 (by omega) 90 enters_rule1 _ _ (HR7.out.asks1) (by omega))
    go_wp2_with fail
    refine HA.out.mono ?_
    rintro e w8 ⟨⟨vw8, rfl⟩, hCn, hTn⟩
    have HR8 := Lib.hid (HR7.out.more hCn hTn)
    have hln := nodesTold_len i g.rules[i] 2 (g.noneBad)
    have hLLB : (LA ++ nodesTold i g.rules[i] 2 (g.noneBad)).length ≤ L.length + 1 + g.rules[i].body.all.length := by rw [List.length_append]; omega
    clear hCn hTn HA HR7 p1 p2 l1 l2 lc hln
    generalize hLe : LA ++ nodesTold i g.rules[i] 2 (g.noneBad) = LB at *
    have HLB := Lib.hid hLe
    clear hLe
    have hr := HR8.out
    have p1 := hr.b1.cell_at (i := 0) rfl
    have p2 := hr.b2.cell_at (i := 0) rfl
    have l1 := hr.b1.lt
    have l2 := hr.b2.lt
    have lc : cb < w8.heap.size := by have := hr.cbl; have := hr.told.low.size; omega
    obtain ⟨_, vv, hco, _⟩ := hr.chk
    clear hco
    clear hr
    have HA := Lib.hid (nodes_ok g base cb c LB w8 (by have := HR8.out.lo; have := HR8.out.told.low.size; omega) HR8.out.chk HR8.out.mem.gr i hi 3 (by omega) 91 enters_rule2 _ _ (HR8.out.asks2 hi) (by omega))
    go_wp2_with fail
    refine HA.out.mono ?_
    rintro e w9 ⟨⟨vw9, rfl⟩, hCn, hTn⟩
    have HR9 := Lib.hid (HR8.out.more hCn hTn)
    have hln := nodesTold_len i g.rules[i] 3 (g.sortBad g.rules[i])
    have hLLC : (LB ++ nodesTold i g.rules[i] 3 (g.sortBad g.rules[i])).length ≤ L.length + 1 + 2 * g.rules[i].body.all.length := by rw [List.length_append]; omega
    clear hCn hTn HA HR8 p1 p2 l1 l2 lc hln
    generalize hLe : LB ++ nodesTold i g.rules[i] 3 (g.sortBad g.rules[i]) = LC at *
    have HLC := Lib.hid hLe
    clear hLe
    go_upto_region 6 with fail
    go_cut [48] (fun s48 wx => s48 = .bool (g.rules[i].parser && at2 M i i) ∧ RuleAtHand g es M N base cb c LC W wx t i)
    case first =>
      have hr := HR9.out
      have p1 := hr.b1.cell_at (i := 0) rfl
      have p2 := hr.b2.cell_at (i := 0) rfl
      have l1 := hr.b1.lt
      have l2 := hr.b2.lt
      have lc : cb < w9.heap.size := by have := hr.cbl; have := hr.told.low.size; omega
      obtain ⟨_, v2, v3, v4, v5, v6, hrb⟩ := hr.rule
      have lr := hrb.lt
      have r0 := hrb.cell_at (i := 0) rfl
      have r1 := hrb.cell_at (i := 1) rfl
      have r2 := hrb.cell_at (i := 2) rfl
      have r3 := hrb.cell_at (i := 3) rfl
      have r4 := hrb.cell_at (i := 4) rfl
      have r5 := hrb.cell_at (i := 5) rfl
      have r6 := hrb.cell_at (i := 6) rfl
      have r7 := hrb.cell_at (i := 7) rfl
      have r8 := hrb.cell_at (i := 8) rfl
      have r9 := hrb.cell_at (i := 9) rfl
      obtain ⟨_, vv, hco, _⟩ := hr.chk
      obtain ⟨Bq, qb, fq, hc5, hm5⟩ := hr.mem.reach
      have pc5 : w9.cell? ⟨cb, 5, none⟩ = some (.slice (some ⟨qb, 0, none⟩) g.rules.length g.rules.length) := by rw [← hc5]; exact hco.cell_at (i := 5) (v := c.c5) rfl
      have pq1 := hm5.row hi
      have pq2 := hm5.cell hi hi
      have lq1 := hm5.r.lt
      have lq2 := (hm5.rows i hi).lt
      clear hc5 hm5
      clear hco hrb
      clear hr
      have HP := Lib.hid (fun u => parser_ok g.rules[i] u (.string g.rules[i].name) (.int .u8 g.rules[i].sort) v2 v3 v4 v5 v6 (.int .i64 g.rules[i].p0) (.int .i64 g.rules[i].p1) (.int .i64 g.rules[i].p2) rfl)
      generalize g.rules[i].parser = pp at *
      generalize at2 M i i = qq at *
      cases pp
      · refine wp_region_hav_lit follows (by kernel_rfl) ?_
        repeat (first
          | (refine HavG.skip (fun _ => rfl) ?_; simp only [Act.put, List.setIfInBounds_toArray, List.set_cons_zero, List.set_cons_succ])
          | (refine HavG.val (fun _ => rfl) ?_ (fun x w hw _ => ?_) ?_; rotate_left; (focus (have hc := hw.cells; clear hw; go_simp; first | done | rfl)); simp only [Act.put, List.setIfInBounds_toArray, List.set_cons_zero, List.set_cons_succ]))
        refine HavG.det (fun _ => rfl) (.bool false) (fun x w hw _ => ?_) ?_
        · have HW := Lib.hid hw
          clear hw
          go_simp
          refine (HP.out _).mono ?_
          rintro e w' ⟨rfl, hb⟩
          exact ⟨rfl, hb⟩
        simp only [Act.put, List.setIfInBounds_toArray, List.set_cons_zero, List.set_cons_succ]
        repeat (first
          | (refine HavG.skip (fun _ => rfl) ?_; simp only [Act.put, List.setIfInBounds_toArray, List.set_cons_zero, List.set_cons_succ])
          | (refine HavG.val (fun _ => rfl) ?_ (fun x w hw _ => ?_) ?_; rotate_left; (focus (have hc := hw.cells; clear hw; go_simp; first | done | rfl)); simp only [Act.put, List.setIfInBounds_toArray, List.set_cons_zero, List.set_cons_succ]))
        refine HavG.tail (by kernel_rfl) (by kernel_rfl) (fun x wz hw _ => ?_)
        have HW := Lib.hid hw
        clear hw
        go_wp2_with fail
        go_meet
        exact ⟨rfl, HR9.out.grew HW.out⟩
      · refine wp_region_hav_lit follows (by kernel_rfl) ?_
        repeat (first
          | (refine HavG.skip (fun _ => rfl) ?_; simp only [Act.put, List.setIfInBounds_toArray, List.set_cons_zero, List.set_cons_succ])
          | (refine HavG.val (fun _ => rfl) ?_ (fun x w hw _ => ?_) ?_; rotate_left; (focus (have hc := hw.cells; clear hw; go_simp; first | done | rfl)); simp only [Act.put, List.setIfInBounds_toArray, List.set_cons_zero, List.set_cons_succ]))
        refine HavG.det (fun _ => rfl) (.bool true) (fun x w hw _ => ?_) ?_
        · have HW := Lib.hid hw
          clear hw
          go_simp
          refine (HP.out _).mono ?_
          rintro e w' ⟨rfl, hb⟩
          exact ⟨rfl, hb⟩
        simp only [Act.put, List.setIfInBounds_toArray, List.set_cons_zero, List.set_cons_succ]
        repeat (first
          | (refine HavG.skip (fun _ => rfl) ?_; simp only [Act.put, List.setIfInBounds_toArray, List.set_cons_zero, List.set_cons_succ])
          | (refine HavG.val (fun _ => rfl) ?_ (fun x w hw _ => ?_) ?_; rotate_left; (focus (have hc := hw.cells; clear hw; go_simp; first | done | rfl)); simp only [Act.put, List.setIfInBounds_toArray, List.set_cons_zero, List.set_cons_succ]))
        refine HavG.tail (by kernel_rfl) (by kernel_rfl) (fun x wz hw _ => ?_)
        have HW := Lib.hid hw
        clear hw
        go_wp2_with fail
        go_meet
        exact ⟨rfl, HR9.out.grew HW.out⟩
    case rest =>
      obtain ⟨rfl, hcut⟩ := hcut
      have HR10 := Lib.hid hcut
      clear hcut HR9
      obtain ⟨w10, rfl⟩ : ∃ z, z = wc := ⟨_, rfl⟩
      generalize hD : (g.rules[i].parser && at2 M i i) = D1 at *
      have HD1 := Lib.hid hD
      clear hD
      go_upto_if 48 with fail
      go_cut [] (fun wx => RuleAtHand g es M N base cb c (LC ++ (if D1 = true then [⟨4, i, g.rules[i].name⟩] else [])) W wx t i)
      case first =>
        have hr := HR10.out
        have p1 := hr.b1.cell_at (i := 0) rfl
        have p2 := hr.b2.cell_at (i := 0) rfl
        have l1 := hr.b1.lt
        have l2 := hr.b2.lt
        have lc : cb < w10.heap.size := by have := hr.cbl; have := hr.told.low.size; omega
        obtain ⟨_, v2, v3, v4, v5, v6, hrb⟩ := hr.rule
        have lr := hrb.lt
        have r0 := hrb.cell_at (i := 0) rfl
        have r1 := hrb.cell_at (i := 1) rfl
        have r2 := hrb.cell_at (i := 2) rfl
        have r3 := hrb.cell_at (i := 3) rfl
        have r4 := hrb.cell_at (i := 4) rfl
        have r5 := hrb.cell_at (i := 5) rfl
        have r6 := hrb.cell_at (i := 6) rfl
        have r7 := hrb.cell_at (i := 7) rfl
        have r8 := hrb.cell_at (i := 8) rfl
        have r9 := hrb.cell_at (i := 9) rfl
        obtain ⟨_, vv, hco, _⟩ := hr.chk
        clear hco hrb
        clear hr
        cases D1
        · go_wp2_with fail
          go_meet
          have := HR10.out
          simpa using this
        · have HT := Lib.hid (tell_ok base cb c _ w10 HR10.out.chk (by omega) 4 i g.rules[i].name)
          go_wp2_with fail
          refine HT.out.mono ?_
          rintro e w99 ⟨⟨v99, rfl⟩, hC99, hT99⟩
          go_wp2_with fail
          go_meet
          have := HR10.out.more hC99 hT99
          simpa using this
      case rest =>
        have HR11 := Lib.hid hcut
        have hLLD : (LC ++ (if D1 = true then [(⟨4, i, g.rules[i].name⟩ : Prob)] else [])).length ≤ L.length + 2 + 2 * g.rules[i].body.all.length := by split <;> simp <;> omega
        clear hcut HR10
        generalize hLe : LC ++ (if D1 = true then [(⟨4, i, g.rules[i].name⟩ : Prob)] else []) = LD at *
        have HLD := Lib.hid hLe
        clear hLe
        obtain ⟨wHR11, rfl⟩ : ∃ z, z = wc := ⟨_, rfl⟩
        go_upto_region 8 with fail
        have hr := HR11.out
        have p1 := hr.b1.cell_at (i := 0) rfl
        have p2 := hr.b2.cell_at (i := 0) rfl
        have l1 := hr.b1.lt
        have l2 := hr.b2.lt
        have lc : cb < wHR11.heap.size := by have := hr.cbl; have := hr.told.low.size; omega
        obtain ⟨_, vv, hco, _⟩ := hr.chk
        obtain ⟨Bq, qb, fq, hc5, hm5⟩ := hr.mem.round
        have pc5 : wHR11.cell? ⟨cb, 6, none⟩ = some (.slice (some ⟨qb, 0, none⟩) g.rules.length g.rules.length) := by rw [← hc5]; exact hco.cell_at (i := 6) (v := c.c6) rfl
        have pq1 := hm5.row hi
        have pq2 := hm5.cell hi hi
        have lq1 := hm5.r.lt
        have lq2 := (hm5.rows i hi).lt
        clear hc5 hm5
        clear hco
        clear hr
        refine wp_region_hav_lit follows (by kernel_rfl) ?_
        repeat (first
          | (refine HavG.skip (fun _ => rfl) ?_; simp only [Act.put, List.setIfInBounds_toArray, List.set_cons_zero, List.set_cons_succ])
          | (refine HavG.val (fun _ => rfl) ?_ (fun x w hw _ => ?_) ?_; rotate_left; (focus (have hc := hw.cells; clear hw; go_simp; first | done | rfl)); simp only [Act.put, List.setIfInBounds_toArray, List.set_cons_zero, List.set_cons_succ]))
        refine HavG.tail (by kernel_rfl) (by kernel_rfl) (fun x w12 hw _ => ?_)
        have HR12 := Lib.hid (HR11.out.grew hw)
        clear hw HR11 p1 p2 l1 l2 lc pc5 pq1 pq2 lq1 lq2
        generalize hD : at2 N i i = D2 at *
        have HD2 := Lib.hid hD
        clear hD
        go_upto_if 63 with fail
        go_cut [] (fun wx => RuleAtHand g es M N base cb c (LD ++ (if D2 = true then [⟨5, i, g.rules[i].name⟩] else [])) W wx t i)
        case first =>
          have hr := HR12.out
          have p1 := hr.b1.cell_at (i := 0) rfl
          have p2 := hr.b2.cell_at (i := 0) rfl
          have l1 := hr.b1.lt
          have l2 := hr.b2.lt
          have lc : cb < w12.heap.size := by have := hr.cbl; have := hr.told.low.size; omega
          obtain ⟨_, v2, v3, v4, v5, v6, hrb⟩ := hr.rule
          have lr := hrb.lt
          have r0 := hrb.cell_at (i := 0) rfl
          have r1 := hrb.cell_at (i := 1) rfl
          have r2 := hrb.cell_at (i := 2) rfl
          have r3 := hrb.cell_at (i := 3) rfl
          have r4 := hrb.cell_at (i := 4) rfl
          have r5 := hrb.cell_at (i := 5) rfl
          have r6 := hrb.cell_at (i := 6) rfl
          have r7 := hrb.cell_at (i := 7) rfl
          have r8 := hrb.cell_at (i := 8) rfl
          have r9 := hrb.cell_at (i := 9) rfl
          obtain ⟨_, vv, hco, _⟩ := hr.chk
          clear hco hrb
          clear hr
          cases D2
          · go_wp2_with fail
            go_meet
            have := HR12.out
            simpa using this
          · have HT := Lib.hid (tell_ok base cb c _ w12 HR12.out.chk (by omega) 5 i g.rules[i].name)
            go_wp2_with fail
            refine HT.out.mono ?_
            rintro e w99 ⟨⟨v99, rfl⟩, hC99, hT99⟩
            go_wp2_with fail
            go_meet
            have := HR12.out.more hC99 hT99
            simpa using this
        case rest =>
          have HR13 := Lib.hid hcut
          have hLLE : (LD ++ (if D2 = true then [(⟨5, i, g.rules[i].name⟩ : Prob)] else [])).length ≤ L.length + 3 + 2 * g.rules[i].body.all.length := by split <;> simp <;> omega
          clear hcut HR12
          generalize hLe : LD ++ (if D2 = true then [(⟨5, i, g.rules[i].name⟩ : Prob)] else []) = LE at *
          have HLE := Lib.hid hLe
          clear hLe
          obtain ⟨wHR13, rfl⟩ : ∃ z, z = wc := ⟨_, rfl⟩
          have hr := HR13.out
          have p1 := hr.b1.cell_at (i := 0) rfl
          have p2 := hr.b2.cell_at (i := 0) rfl
          have l1 := hr.b1.lt
          have l2 := hr.b2.lt
          have lc : cb < wHR13.heap.size := by have := hr.cbl; have := hr.told.low.size; omega
          obtain ⟨_, vv, hco, _⟩ := hr.chk
          clear hco
          clear hr
          have HA := Lib.hid (nodes_ok g base cb c LE wHR13 (by have := HR13.out.lo; have := HR13.out.told.low.size; omega) HR13.out.chk HR13.out.mem.gr i hi 6 (by omega) 93 enters_rule3 _ _ (HR13.out.asks3 hes hi) (by omega))
          go_wp2_with fail
          refine HA.out.mono ?_
          rintro e w14 ⟨⟨vw14, rfl⟩, hCn, hTn⟩
          have HR14 := Lib.hid (HR13.out.more hCn hTn)
          have hln := nodesTold_len i g.rules[i] 6 (g.loopBad es g.rules[i])
          have hLLF : (LE ++ nodesTold i g.rules[i] 6 (g.loopBad es g.rules[i])).length ≤ L.length + 3 + 3 * g.rules[i].body.all.length := by rw [List.length_append]; omega
          clear hCn hTn HA HR13 p1 p2 l1 l2 lc hln
          generalize hLe : LE ++ nodesTold i g.rules[i] 6 (g.loopBad es g.rules[i]) = LF at *
          have HLF := Lib.hid hLe
          clear hLe
          go_upto_region 11 with fail
          go_cut [89] (fun s89 wx => s89 = .bool (es.getD i false && (g.rules[i].sort == 1 || g.rules[i].sort == 3)) ∧ RuleAtHand g es M N base cb c LF W wx t i)
          case first =>
            have hr := HR14.out
            have p1 := hr.b1.cell_at (i := 0) rfl
            have p2 := hr.b2.cell_at (i := 0) rfl
            have l1 := hr.b1.lt
            have l2 := hr.b2.lt
            have lc : cb < w14.heap.size := by have := hr.cbl; have := hr.told.low.size; omega
            obtain ⟨_, v2, v3, v4, v5, v6, hrb⟩ := hr.rule
            have lr := hrb.lt
            have r0 := hrb.cell_at (i := 0) rfl
            have r1 := hrb.cell_at (i := 1) rfl
            have r2 := hrb.cell_at (i := 2) rfl
            have r3 := hrb.cell_at (i := 3) rfl
            have r4 := hrb.cell_at (i := 4) rfl
            have r5 := hrb.cell_at (i := 5) rfl
            have r6 := hrb.cell_at (i := 6) rfl
            have r7 := hrb.cell_at (i := 7) rfl
            have r8 := hrb.cell_at (i := 8) rfl
            have r9 := hrb.cell_at (i := 9) rfl
            obtain ⟨_, vv, hco, _⟩ := hr.chk
            obtain ⟨qb, hc5, hm5⟩ := hr.mem.empty
            have hel := hr.mem.el
            have pc5 : w14.cell? ⟨cb, 4, none⟩ = some (.slice (some ⟨qb, 0, none⟩) g.rules.length g.rules.length) := by rw [← hc5]; exact hco.cell_at (i := 4) (v := c.c4) rfl
            have pq1 : w14.cell? ⟨qb, i, none⟩ = some (.bool (es.getD i false)) := hm5.cell_at (by rw [List.getElem?_map, List.getElem?_eq_getElem (by omega), List.getD_eq_getElem?_getD, List.getElem?_eq_getElem (by omega)]; rfl)
            have lq1 := hm5.lt
            clear hc5 hm5 hel
            clear hco hrb
            clear hr
            generalize es.getD i false = ee at *
            cases ee
            · refine wp_region_hav_lit follows (by kernel_rfl) ?_
              repeat (first
                | (refine HavG.skip (fun _ => rfl) ?_; simp only [Act.put, List.setIfInBounds_toArray, List.set_cons_zero, List.set_cons_succ])
                | (refine HavG.val (fun _ => rfl) ?_ (fun x w hw _ => ?_) ?_; rotate_left; (focus (have hc := hw.cells; clear hw; go_simp; first | done | rfl)); simp only [Act.put, List.setIfInBounds_toArray, List.set_cons_zero, List.set_cons_succ]))
              refine HavG.tail (by kernel_rfl) (by kernel_rfl) (fun x wz hw _ => ?_)
              have HW := Lib.hid hw
              clear hw
              go_wp2_with fail
              go_meet
              exact ⟨rfl, HR14.out.grew HW.out⟩
            · by_cases h1 : g.rules[i].sort = 1
              · have e1 : (g.rules[i].sort == 1) = true := by rw [h1]; rfl
                refine wp_region_hav_lit follows (by kernel_rfl) ?_
                repeat (first
                  | (refine HavG.skip (fun _ => rfl) ?_; simp only [Act.put, List.setIfInBounds_toArray, List.set_cons_zero, List.set_cons_succ])
                  | (refine HavG.val (fun _ => rfl) ?_ (fun x w hw _ => ?_) ?_; rotate_left; (focus (have hc := hw.cells; clear hw; go_simp; first | done | rfl)); simp only [Act.put, List.setIfInBounds_toArray, List.set_cons_zero, List.set_cons_succ]))
                refine HavG.tail (by kernel_rfl) (by kernel_rfl) (fun x wz hw _ => ?_)
                have HW := Lib.hid hw
                clear hw
                go_wp2_with fail
                go_meet
                exact ⟨by rw [e1]; rfl, HR14.out.grew HW.out⟩
              · have e1 : (g.rules[i].sort == 1) = false := beq_eq_false_iff_ne.2 h1
                cases h3 : (g.rules[i].sort == 3)
                · refine wp_region_hav_lit follows (by kernel_rfl) ?_
                  repeat (first
                    | (refine HavG.skip (fun _ => rfl) ?_; simp only [Act.put, List.setIfInBounds_toArray, List.set_cons_zero, List.set_cons_succ])
                    | (refine HavG.val (fun _ => rfl) ?_ (fun x w hw _ => ?_) ?_; rotate_left; (focus (have hc := hw.cells; clear hw; go_simp; first | done | rfl)); simp only [Act.put, List.setIfInBounds_toArray, List.set_cons_zero, List.set_cons_succ]))
                  refine HavG.tail (by kernel_rfl) (by kernel_rfl) (fun x wz hw _ => ?_)
                  have HW := Lib.hid hw
                  clear hw
                  go_wp2_with fail
                  go_meet
                  exact ⟨by rw [e1, h3]; rfl, HR14.out.grew HW.out⟩
                · refine wp_region_hav_lit follows (by kernel_rfl) ?_
                  repeat (first
                    | (refine HavG.skip (fun _ => rfl) ?_; simp only [Act.put, List.setIfInBounds_toArray, List.set_cons_zero, List.set_cons_succ])
                    | (refine HavG.val (fun _ => rfl) ?_ (fun x w hw _ => ?_) ?_; rotate_left; (focus (have hc := hw.cells; clear hw; go_simp; first | done | rfl)); simp only [Act.put, List.setIfInBounds_toArray, List.set_cons_zero, List.set_cons_succ]))
                  refine HavG.tail (by kernel_rfl) (by kernel_rfl) (fun x wz hw _ => ?_)
                  have HW := Lib.hid hw
                  clear hw
                  go_wp2_with fail
                  go_meet
                  exact ⟨by rw [e1, h3]; rfl, HR14.out.grew HW.out⟩
          case rest =>
            obtain ⟨rfl, hcut⟩ := hcut
            have HR15 := Lib.hid hcut
            clear hcut HR14
            obtain ⟨w15, rfl⟩ : ∃ z, z = wc := ⟨_, rfl⟩
            generalize hD : (es.getD i false && (g.rules[i].sort == 1 || g.rules[i].sort == 3)) = D3 at *
            have HD3 := Lib.hid hD
            clear hD
            have hr := HR15.out
            have p1 := hr.b1.cell_at (i := 0) rfl
            have p2 := hr.b2.cell_at (i := 0) rfl
            have l1 := hr.b1.lt
            have l2 := hr.b2.lt
            have lc : cb < w15.heap.size := by have := hr.cbl; have := hr.told.low.size; omega
            obtain ⟨_, v2, v3, v4, v5, v6, hrb⟩ := hr.rule
            have lr := hrb.lt
            have r0 := hrb.cell_at (i := 0) rfl
            have r1 := hrb.cell_at (i := 1) rfl
            have r2 := hrb.cell_at (i := 2) rfl
            have r3 := hrb.cell_at (i := 3) rfl
            have r4 := hrb.cell_at (i := 4) rfl
            have r5 := hrb.cell_at (i := 5) rfl
            have r6 := hrb.cell_at (i := 6) rfl
            have r7 := hrb.cell_at (i := 7) rfl
            have r8 := hrb.cell_at (i := 8) rfl
            have r9 := hrb.cell_at (i := 9) rfl
            obtain ⟨_, vv, hco, _⟩ := hr.chk
            clear hco hrb
            clear hr
            cases D3
            · go_wp2_with fail
              go_end0
              refine ⟨⟨_, rfl⟩, ?_, HR15.out.told⟩
              have := HR15.out.chk
              rw [← HLF.out, ← HLE.out, ← HLD.out, ← HLC.out, ← HLB.out, ← HLA.out, ← HD0.out, ← HD1.out, ← HD2.out] at this
              unfold Gr.ruleTold
              rw [HD3.out]
              simpa [List.append_assoc] using this
            · have HT := Lib.hid (tell_ok base cb c _ w15 HR15.out.chk (by omega) 7 i g.rules[i].name)
              go_wp2_with fail
              refine HT.out.mono ?_
              rintro e w99 ⟨⟨v99, rfl⟩, hC99, hT99⟩
              go_wp2_with fail
              go_end0
              refine ⟨⟨_, rfl⟩, ?_, HR15.out.told.trans hT99⟩
              have := hC99
              rw [← HLF.out, ← HLE.out, ← HLD.out, ← HLC.out, ← HLB.out, ← HLA.out, ← HD0.out, ← HD1.out, ← HD2.out] at this
              unfold Gr.ruleTold
              rw [HD3.out]
              simpa [List.append_assoc] using this
end Go.Proofs.Ytgdcnndmdgcjlaa

/- checks.Check and Fine: all that is told of a grammar. -/
namespace Go.Proofs.Ytgdcnndmdgcjlaa
open Go.RowKit Go.Shelf
theorem rulesTold_snoc (g : Gr) (es : List Bool) (rch rnd : Nat → Nat → Bool) : ∀ (l : List Rl) (i j : Nat) (h : j < l.length), g.rulesTold es rch rnd i (l.take (j + 1)) = g.rulesTold es rch rnd i (l.take j) ++ g.ruleTold es rch rnd (i + j) l[j]
  | [], _, _, h => absurd h (by simp)
  | r :: l, i, 0, _ => by simp [Gr.rulesTold]
  | r :: l, i, j + 1, h => by
    have := rulesTold_snoc g es rch rnd l (i + 1) j (by simpa using h)
    simp only [List.take_succ_cons, Gr.rulesTold, List.getElem_cons_succ]
    rw [this, List.append_assoc, show i + 1 + j = i + (j + 1) by omega]
theorem ruleTold_len (g : Gr) (es : List Bool) (rch rnd : Nat → Nat → Bool) (i : Nat) (r : Rl) : (g.ruleTold es rch rnd i r).length ≤ 3 * r.body.all.length + 4 := by
  unfold Gr.ruleTold
  have h2 := nodesTold_len i r 2 g.noneBad
  have h3 := nodesTold_len i r 3 (g.sortBad r)
  have h6 := nodesTold_len i r 6 (g.loopBad es r)
  simp only [List.length_append]
  have hi : ∀ (c : Prop) [Decidable c] (p : Prob), (if c then [p] else []).length ≤ 1 := fun c _ p => by split <;> simp
  have a1 := hi (g.find r.name < (i : Int)) ⟨1, i, r.name⟩
  have a2 := hi ((r.parser && rch i i) = true) ⟨4, i, r.name⟩
  have a3 := hi (rnd i i = true) ⟨5, i, r.name⟩
  have a4 := hi ((es.getD i false && (r.sort == 1 || r.sort == 3)) = true) ⟨7, i, r.name⟩
  omega
structure Gr.Few (g : Gr) : Prop where
  len : g.rules.length ≤ 60
  all : ∀ i (h : i < g.rules.length), g.rules[i].body.all.length ≤ 4000
theorem Gr.Few.told {g : Gr} (h : g.Few) (es : List Bool) (rch rnd : Nat → Nat → Bool) : ∀ j, j ≤ g.rules.length → (g.rulesTold es rch rnd 0 (g.rules.take j)).length ≤ j * 12004
  | 0, _ => by simp [Gr.rulesTold]
  | j + 1, hj => by
    have ih := Gr.Few.told h es rch rnd j (by omega)
    rw [rulesTold_snoc g es rch rnd g.rules 0 j (by omega), List.length_append]
    have h1 := ruleTold_len g es rch rnd (0 + j) g.rules[j]
    have h2 := h.all j (by omega)
    omega
def ProbsAt (W : World) (v : Value) (T : List Prob) : Prop := ∃ a, v = .slice a T.length T.length ∧ (T ≠ [] → ∃ b tl, a = some ⟨b, 0, none⟩ ∧ Owns W b (probCells T ++ tl) 164)
theorem clip_ok (W : World) (base : Nat) (v : Value) (T : List Prob) (hT : T.length ≤ 1000000) (h : W.ownsRow base 164 3 v T.length (probCells T)) :
    Calls Try.prog 77 #[v] W fun e W' => (∃ u, e = .returned u ∧ ProbsAt W u T) ∧ W = W' := by
  rcases h.2 with ⟨rfl, h0⟩ | ⟨b, cap, cur, rfl, h1, h2, h3, h4, h5, h6⟩
  · have hn : T = [] := List.eq_nil_of_length_eq_zero h0
    subst hn
    go_enter Try.func77, Try.ntmps77
    go_wp2
    go_ret
    exact ⟨⟨_, rfl, none, rfl, fun h => absurd rfl h⟩, rfl⟩
  · have HF : Hid (T ≠ [] → ∃ b' tl, (some ⟨b, 0, none⟩ : Option Addr) = some ⟨b', 0, none⟩ ∧ Owns W b' (probCells T ++ tl) 164) := fun _ => ⟨b, cur.toList.drop (T.length * 3), rfl, by
      unfold Owns
      rw [← h6, List.take_append_drop]
      exact h2⟩
    unfold maxLen at h4
    obtain ⟨n, hn⟩ : ∃ n, T.length = n := ⟨_, rfl⟩
    rw [hn] at h3 hT
    clear h h2 h5 h6
    rw [hn]
    have HN := Lib.hid hn
    clear hn
    go_enter Try.func77, Try.ntmps77
    go_wp2
    go_ret
    exact ⟨⟨_, rfl, _, by rw [HN.out]; rfl, HF.out⟩, rfl⟩
def EmR (g : Gr) (lo : Nat) (v : Value) (w : World) : Prop := ∃ eb es, v = .slice (some ⟨eb, 0, none⟩) g.rules.length g.rules.length ∧ g.IsEmpty es ∧ lo ≤ eb ∧ Owns w eb (es.map .bool) 4
def ReR (g : Gr) (lo : Nat) (v : Value) (w : World) : Prop :=
  ∃ B ob rb f es M, v = .slice (some ⟨rb, 0, none⟩) g.rules.length g.rules.length ∧ g.IsEmpty es ∧ IsReach (g.Once es) g.rules.length M ∧ Mat w B ob rb g.rules.length g.rules.length f (fun i => M.getD i []) ∧ lo ≤ rb
def CheckIs (g : Gr) (W : World) (e : Ending) (W' : World) : Prop :=
  ∃ u es M N, e = .returned u ∧ g.IsEmpty es ∧ IsReach (g.Once es) g.rules.length M ∧ IsReach g.rd0 g.rules.length N ∧ ProbsAt W' u (g.told es (at2 M) (at2 N)) ∧ Below W.heap.size W W'
set_option maxHeartbeats 8000000 in
set_option maxRecDepth 20000 in
theorem check_ok (g : Gr) (hfew : g.Few) (W : World) (v0 v1 v2 v3 : Value) (hG : GrAt W W.heap.size (some v0) (some v1) (some v2) (some v3) g) :
    Calls Try.prog 56 #[.agg #[v0, v1, v2, v3]] W (CheckIs g W) := by
  have hG' := hG
  obtain ⟨q1, q2, q3, q4, q5, q6, ra, rc, q7, q8, q9⟩ := hG'
  obtain rfl := Option.some.inj q1
  obtain rfl := Option.some.inj q3
  obtain rfl := Option.some.inj q4
  obtain rfl := Option.some.inj q7
  clear q1 q3 q4 q5 q6 q7
  have hn := hfew.len
  have hg1 := grew_alloc W (.cells #[.string g.name, .int .i64 g.bound, .int .i64 g.states, .slice ra g.rules.length rc] 57)
  have ho1 := Owns.alloc W [.string g.name, .int .i64 g.bound, .int .i64 g.states, .slice ra g.rules.length rc] 57
  have b0 := ho1.cell_at (i := 0) rfl
  have b1 := ho1.cell_at (i := 1) rfl
  have b2 := ho1.cell_at (i := 2) rfl
  have b3 := ho1.cell_at (i := 3) rfl
  have bl := ho1.lt
  have HE := Lib.hid (fun u (h : GrAt u u.heap.size (some (.string g.name)) (some (.int .i64 g.bound)) (some (.int .i64 g.states)) (some (.slice ra g.rules.length rc)) g) => empty_ok g u _ _ _ _ h)
  have HRe := Lib.hid (fun u (h : GrAt u u.heap.size (some (.string g.name)) (some (.int .i64 g.bound)) (some (.int .i64 g.states)) (some (.slice ra g.rules.length rc)) g) => nreach_ok g u _ _ _ _ (by omega) h)
  have HG := Lib.hid hG
  have HG1 := Lib.hid hg1
  have HO1 := Lib.hid ho1
  have HQ9 := Lib.hid q9
  have HFEW := Lib.hid hfew
  clear hG hg1 ho1 q9 hfew
  unfold reachN at q8 q2
  go_enter Try.func56, Try.ntmps56
  go_wp2_with fail
  generalize W.alloc (.cells #[.string g.name, .int .i64 g.bound, .int .i64 g.states, .slice ra g.rules.length rc] 57) = w1 at *
  refine wp_region_hav_lit follows (by kernel_rfl) ?_
  repeat (first
    | (refine HavG.skip (fun _ => rfl) ?_; simp only [Act.put, List.setIfInBounds_toArray, List.set_cons_zero, List.set_cons_succ])
    | (refine HavG.val (fun _ => rfl) ?_ (fun x w hw _ => ?_) ?_; rotate_left; (focus (have hc := hw.cells; clear hw; go_simp; first | done | rfl)); simp only [Act.put, List.setIfInBounds_toArray, List.set_cons_zero, List.set_cons_succ]))
  refine HavG.any (fun _ => rfl) (EmR g w1.heap.size) ?_ (fun x w hw _ => ?_) ?_
  · rintro v w w' hg ⟨t, es, h1, h2, h3, h4⟩
    exact ⟨t, es, h1, h2, h3, h4.keep hg⟩
  · have HW := Lib.hid hw
    clear hw
    go_simp
    refine (HE.out _ ((HG.out.keep (HG1.out.trans HW.out)).mono (HG1.out.trans HW.out).size)).mono ?_
    rintro e w' ⟨eb, es, rfl, h1, h2, h3, h4⟩
    exact ⟨h4, eb, es, rfl, h1, Nat.le_trans HW.out.size h3, h2⟩
  simp only [Act.put, List.setIfInBounds_toArray, List.set_cons_zero, List.set_cons_succ]
  repeat (first
    | (refine HavG.skip (fun _ => rfl) ?_; simp only [Act.put, List.setIfInBounds_toArray, List.set_cons_zero, List.set_cons_succ])
    | (refine HavG.val (fun _ => rfl) ?_ (fun x w hw _ => ?_) ?_; rotate_left; (focus (have hc := hw.cells; clear hw; go_simp; first | done | rfl)); simp only [Act.put, List.setIfInBounds_toArray, List.set_cons_zero, List.set_cons_succ]))
  refine HavG.any (fun _ => rfl) (ReR g w1.heap.size) ?_ (fun x w hw _ => ?_) ?_
  · rintro v w w' hg ⟨B, ob, rb, f, es, M, h1, h2, h3, h4, h5⟩
    exact ⟨B, ob, rb, f, es, M, h1, h2, h3, h4.keep hg, h5⟩
  · have HW := Lib.hid hw
    clear hw
    go_simp
    refine (HRe.out _ ((HG.out.keep (HG1.out.trans HW.out)).mono (HG1.out.trans HW.out).size)).mono ?_
    rintro e w' ⟨B, ob, rb, f, es, M, rfl, h1, h2, h3, h4, h5, h6⟩
    exact ⟨h6, B, ob, rb, f, es, M, rfl, h1, h2, h3, Nat.le_trans HW.out.size h5⟩
  simp only [Act.put, List.setIfInBounds_toArray, List.set_cons_zero, List.set_cons_succ]
  refine HavG.tail (by kernel_rfl) (by kernel_rfl) (fun x w hw hx => ?_)
  have hx1 := hx _ (List.mem_append_left _ (List.mem_append_right _ (List.mem_singleton.2 rfl)))
  have hx2 := hx _ (List.mem_append_right _ (List.mem_singleton.2 rfl))
  clear hx
  dsimp only at hx1 hx2
  generalize x (0 + 1 + 1 + 1 + 1) = y2 at *
  generalize x (0 + 1 + 1) = y1 at *
  obtain ⟨eb, es, rfl, he1, he2, he3⟩ := hx1
  obtain ⟨B, ob, rb, f, es', M, rfl, hr1, hr2, hr3, hr4⟩ := hx2
  obtain rfl := he1.unique hr1
  have hWw : Grew W w := HG1.out.trans hw
  have hwz := hWw.size
  have hw1z := HG1.out.size
  have hwz1 := hw.size
  have hlt0 : W.heap.size < w.heap.size := by omega
  obtain ⟨c, hcd⟩ : ∃ c : ChkVals, c = ⟨.string g.name, .int .i64 g.bound, .int .i64 g.states, .slice ra g.rules.length rc, .slice (some ⟨eb, 0, none⟩) g.rules.length g.rules.length, .slice (some ⟨rb, 0, none⟩) g.rules.length g.rules.length, .slice none 0 0⟩ := ⟨_, rfl⟩
  have ho2 := Owns.alloc w [.string g.name, .int .i64 g.bound, .int .i64 g.states, .slice ra g.rules.length rc, .slice (some ⟨eb, 0, none⟩) g.rules.length g.rules.length, .slice (some ⟨rb, 0, none⟩) g.rules.length g.rules.length, .slice none 0 0, .slice none 0 0] 157
  have hg2 := grew_alloc w (.cells #[.string g.name, .int .i64 g.bound, .int .i64 g.states, .slice ra g.rules.length rc, .slice (some ⟨eb, 0, none⟩) g.rules.length g.rules.length, .slice (some ⟨rb, 0, none⟩) g.rules.length g.rules.length, .slice none 0 0, .slice none 0 0] 157)
  have HW := Lib.hid hw
  have HE3 := Lib.hid he3
  have HR3 := Lib.hid hr3
  have HO2 := Lib.hid ho2
  have HG2 := Lib.hid hg2
  have HWW := Lib.hid hWw
  clear hw he3 hr3 ho2 hg2 hWw
  go_wp2_with fail
  generalize w.alloc (.cells #[.string g.name, .int .i64 g.bound, .int .i64 g.states, .slice ra g.rules.length rc, .slice (some ⟨eb, 0, none⟩) g.rules.length g.rules.length, .slice (some ⟨rb, 0, none⟩) g.rules.length g.rules.length, .slice none 0 0, .slice none 0 0] 157) = w2 at *
  have hC2 : ChkAt w2 W.heap.size w.heap.size c [] := ⟨hwz, _, by rw [hcd]; exact HO2.out, rfl, .inl ⟨rfl, rfl⟩⟩
  have hG2 : GrAt w2 W.heap.size (some c.c0) (some c.c1) (some c.c2) (some c.c3) g := by
    rw [hcd]
    exact HG.out.keep (HWW.out.trans HG2.out)
  have hs2 := HG2.out.size
  have HRo := Lib.hid (rounds_ok g W.heap.size w.heap.size c [] w2 (by omega) hC2 hG2 (by omega))
  clear hC2 hG2
  refine HRo.out.mono ?_
  rintro e w3 ⟨⟨v9, rfl⟩, B2, rb2, f2, N, hC3, hm3, hN, hlo2, hU⟩
  have hs3 := hU.size
  have hcb2 := HO2.out.lt
  have hWw0 : Below W.heap.size W w := HWW.out
  have hWb : Below W.heap.size W w3 := (hWw0.trans (HG2.out.mono (by omega))).trans (hU.below (by omega) (show W.heap.size ≤ w2.heap.size by omega))
  have hM3 : ChkM w3 W.heap.size w.heap.size (c.withRound (.slice (some ⟨rb2, 0, none⟩) g.rules.length g.rules.length)) g es M N := by
    have hk : ∀ b cs T, Owns w b cs T → Owns w3 b cs T := fun b cs T ho => (ho.keep HG2.out).upd hU (by have := ho.lt; omega)
    rw [hcd]
    exact ⟨HG.out.keep hWb, ⟨eb, rfl, hk _ _ _ HE3.out⟩, he1.sound.1, ⟨B, rb, f, rfl, HR3.out.matR.of (fun b cs T _ ho => hk b cs T ho)⟩, ⟨B2, rb2, f2, rfl, hm3⟩⟩
  have hbx := ((HO1.out.keep HW.out).keep HG2.out).upd hU (by omega)
  generalize c.withRound (.slice (some ⟨rb2, 0, none⟩) g.rules.length g.rules.length) = c3 at *
  have HC3 := Lib.hid hC3
  have HM3 := Lib.hid hM3
  have HN := Lib.hid hN
  have HWB := Lib.hid hWb
  have HBX := Lib.hid hbx
  have HHE := Lib.hid he1
  have HHM := Lib.hid hr2
  have b3' := hbx.cell_at (i := 3) rfl
  clear hcd hm3 hU hC3 hM3 hN hWb hbx HE3 HR3 HO2 HG2 HW HG1 HO1 he1 hr1 hr2 b0 b1 b2 b3 bl x HRo
  go_wp2_with fail
  clear b3'
  go_loopw [17] (fun v wr => ∃ (j : Nat), v = .int .i64 j ∧ j ≤ g.rules.length ∧ Hid (ChkAt wr W.heap.size w.heap.size c3 (g.rulesTold es (at2 M) (at2 N) 0 (g.rules.take j))) ∧ Hid (Told W.heap.size w.heap.size w3 wr)) (fun v _ => g.rules.length - (intOf v).toNat)
  case atStart => exact ⟨0, rfl, by omega, by simpa [Gr.rulesTold, Hid] using HC3.out, Told.refl _ _ _⟩
  case round =>
    obtain ⟨j, rfl, hj, hC, hT⟩ := hrel
    have hszr := hT.out.low.size
    have hM := HM3.out.told hT.out HC3.out
    by_cases hlt : j < g.rules.length
    · have hle := HFEW.out.told es (at2 M) (at2 N) j (by omega)
      have ha := HFEW.out.all j hlt
      have HRu := Lib.hid (rule_ok g es HHE.out M N W.heap.size w.heap.size c3 _ wr (by omega) hC.out hM j hlt (by omega))
      clear hM hle ha
      go_wp2_with fail
      refine HRu.out.mono ?_
      rintro e w5 ⟨⟨v5, rfl⟩, hC5, hT5⟩
      have hC6 : Hid (ChkAt w5 W.heap.size w.heap.size c3 (g.rulesTold es (at2 M) (at2 N) 0 (g.rules.take (j + 1)))) := by
        unfold Hid
        rw [rulesTold_snoc g es (at2 M) (at2 N) g.rules 0 j hlt, Nat.zero_add]
        exact hC5
      have HT6 := Lib.hid (hT.out.trans hT5)
      clear hC5 hT5
      go_wp2_with fail
      exact ⟨⟨j + 1, by go_num, by omega, hC6, HT6.out⟩, by simp [intOf]; omega⟩
    · have hjn : j = g.rules.length := by omega
      subst hjn
      have hle := HFEW.out.told es (at2 M) (at2 N) g.rules.length (by omega)
      rw [List.take_length] at hC hle
      have hbw : Below W.heap.size W wr := HWB.out.trans hT.out.low
      have hbr := hT.out.owns HBX.out (by omega) (by decide)
      have c0 := hbr.cell_at (i := 0) rfl
      have c1 := hbr.cell_at (i := 1) rfl
      have c2 := hbr.cell_at (i := 2) rfl
      have c3' := hbr.cell_at (i := 3) rfl
      have HSt := Lib.hid (start_ok g wr (.string g.name) (.int .i64 g.bound) (.int .i64 g.states) (.slice ra g.rules.length rc) ((HG.out.keep hbw).mono hbw.size))
      have HBW := Lib.hid hbw
      generalize hTL : g.rulesTold es (at2 M) (at2 N) 0 g.rules = TL at *
      have HTL := Lib.hid hTL
      clear hM hbw hbr hTL
      go_wp2_with fail
      refine HSt.out.mono ?_
      rintro e w7 ⟨rfl, hg7⟩
      have hC7 := hC.out.grew hg7
      have hB7 := HBW.out.trans (hg7.mono (show W.heap.size ≤ wr.heap.size by omega))
      by_cases hst : g.start < 0
      · have HT := Lib.hid (tell_ok W.heap.size w.heap.size c3 TL w7 hC7 (by omega) 8 (-1) ⟨#[]⟩)
        have HB7 := Lib.hid hB7
        have HC7 := Lib.hid hC7
        clear hC7 hB7 hg7
        go_wp2_with fail
        refine HT.out.mono ?_
        rintro e w8 ⟨⟨v8, rfl⟩, hC8, hT8⟩
        obtain ⟨_, v, hco, hcr⟩ := hC8
        have lc := hco.lt
        have pc : w8.cell? ⟨w.heap.size, 7, none⟩ = some v := hco.cell_at (i := 7) rfl
        have HCl := Lib.hid (clip_ok w8 W.heap.size v _ (by simp; omega) hcr)
        have HT8 := Lib.hid (HB7.out.trans hT8.low)
        clear hco hcr hT8
        go_wp2_with fail
        refine HCl.out.mono ?_
        rintro e w9 ⟨⟨u, rfl, hP⟩, rfl⟩
        go_wp2_with fail
        go_ret
        refine ⟨u, es, M, N, rfl, HHE.out, HHM.out, HN.out, ?_, HT8.out⟩
        unfold Gr.told
        rw [if_pos hst, HTL.out]
        exact hP
      · have HB7 := Lib.hid hB7
        have hst' : decide (g.start < 0) = false := decide_eq_false hst
        obtain ⟨_, v, hco, hcr⟩ := hC7
        have lc := hco.lt
        have pc : w7.cell? ⟨w.heap.size, 7, none⟩ = some v := hco.cell_at (i := 7) rfl
        have HCl := Lib.hid (clip_ok w7 W.heap.size v _ (by omega) hcr)
        have HST := Lib.hid hst
        clear hco hcr hB7 hg7
        go_wp2_with fail
        refine HCl.out.mono ?_
        rintro e w9 ⟨⟨u, rfl, hP⟩, rfl⟩
        go_wp2_with fail
        go_ret
        refine ⟨u, es, M, N, rfl, HHE.out, HHM.out, HN.out, ?_, HB7.out⟩
        unfold Gr.told
        rw [if_neg (by have := HST.out; omega), HTL.out, List.append_nil]
        exact hP
def FineIs (g : Gr) (W : World) (e : Ending) (W' : World) : Prop :=
  ∃ es M N, e = .returned (.bool (g.told es (at2 M) (at2 N)).isEmpty) ∧ g.IsEmpty es ∧ IsReach (g.Once es) g.rules.length M ∧ IsReach g.rd0 g.rules.length N ∧ Below W.heap.size W W'
set_option maxRecDepth 20000 in
theorem cfine_ok (g : Gr) (hfew : g.Few) (W : World) (v0 v1 v2 v3 : Value) (hG : GrAt W W.heap.size (some v0) (some v1) (some v2) (some v3) g) :
    Calls Try.prog 41 #[.agg #[v0, v1, v2, v3]] W (FineIs g W) := by
  have hg1 := grew_alloc W (.cells #[v0, v1, v2, v3] 57)
  have HC := Lib.hid (check_ok g hfew _ v0 v1 v2 v3 ((hG.keep hg1).mono hg1.size))
  obtain ⟨q1, q2, q3, q4, q5, q6, ra, rc, q7, q8, q9⟩ := hG
  obtain rfl := Option.some.inj q1
  obtain rfl := Option.some.inj q3
  obtain rfl := Option.some.inj q4
  obtain rfl := Option.some.inj q7
  have HG1 := Lib.hid hg1
  clear hg1 q1 q2 q3 q4 q5 q6 q7 q8 q9 hfew
  go_enter Try.func41, Try.ntmps41
  go_wp2_with fail
  refine HC.out.mono ?_
  rintro e w ⟨u, es, M, N, rfl, h1, h2, h3, ⟨a, rfl, -⟩, h5⟩
  have HT : Hid (∀ T : List Prob, T.isEmpty = (T.length == 0)) := fun T => by cases T <;> rfl
  cases hT : (g.told es (at2 M) (at2 N)).length with
  | zero =>
    go_wp2_with fail
    go_ret
    exact ⟨es, M, N, ret_bool (by rw [HT.out, hT]; rfl), h1, h2, h3, HG1.out.trans h5⟩
  | succ k =>
    have hk : ((k : Int) + 1 == 0) = false := beq_eq_false_iff_ne.2 (by omega)
    go_wp2_with fail
    go_ret
    exact ⟨es, M, N, ret_bool (by rw [HT.out, hT]; first | rfl | simp [hk]), h1, h2, h3, HG1.out.trans h5⟩
end Go.Proofs.Ytgdcnndmdgcjlaa

/- Whether a grammar is more than is gone through: the further functions. -/
namespace Go.Proofs.Ytgdcnndmdgcjlaa
open Go.RowKit
structure Gr.Fair4 (g : Gr) : Prop where
  len : g.rules.length ≤ 80
  name : g.name.size ≤ 200
  rule : ∀ i (h : i < g.rules.length), g.rules[i].body.total ≤ 3000 ∧ g.rules[i].name.size ≤ 200
def Fair4To (g : Gr) (j : Nat) : Prop := ∀ i (h : i < g.rules.length), i < j → g.rules[i].body.total ≤ 3000 ∧ g.rules[i].name.size ≤ 200
theorem fair4_next {g : Gr} {j : Nat} (h : Fair4To g j) (hj : j < g.rules.length) (h1 : g.rules[j].body.total ≤ 3000) (h2 : g.rules[j].name.size ≤ 200) : Fair4To g (j + 1) := by
  intro i hi hlt
  by_cases e : i = j
  · subst e; exact ⟨h1, h2⟩
  · exact h i hi (by omega)
set_option maxHeartbeats 1000000 in
theorem great4_ok (g : Gr) (W : World) (v0 v1 v2 v3 : Value) (hG : GrAt W W.heap.size (some v0) (some v1) (some v2) (some v3) g) :
    Calls Try.prog 39 #[.agg #[v0, v1, v2, v3]] W fun e W' => BoolTells g.Fair4 e ∧ Below W.heap.size W W' := by
  obtain ⟨h1, hs, h2, h3, h4, h5, ra, rc, h6, h7, h8⟩ := hG
  obtain rfl := Option.some.inj h1
  obtain rfl := Option.some.inj h2
  obtain rfl := Option.some.inj h3
  obtain rfl := Option.some.inj h6
  clear h1 h2 h3 h4 h5 h6
  unfold reachN at hs h7
  by_cases hlen : g.rules.length ≤ 80
  · go_enter Try.func39, Try.ntmps39
    go_wp2
    go_loopw [3] (fun i wr => ∃ (j : Nat), i = .int .i64 j ∧ j ≤ g.rules.length ∧ Hid (Fair4To g j) ∧ Below W.heap.size W wr ∧ W.heap.size < wr.heap.size ∧ wr.cell? ⟨W.heap.size, 0, none⟩ = some (.string g.name) ∧ wr.cell? ⟨W.heap.size, 3, none⟩ = some (.slice ra g.rules.length rc)) (fun i _ => g.rules.length - (intOf i).toNat)
    case atStart =>
      refine ⟨0, rfl, by omega, fun i hi h => absurd h (by omega), ?_, by simp, ?_, ?_⟩
      · exact (Below.refl _ _).alloc (Nat.le_refl _) _
      · simp [go_sem]
      · simp [go_sem]
    case round =>
      obtain ⟨j, rfl, hj, hf, hbw, hsz, hbox0, hbox⟩ := hrel
      by_cases hlt : j < g.rules.length
      · obtain ⟨b, off, rfl, hb, hrule⟩ := (h8.keep hbw).get hlt
        simp only [Nat.zero_add] at hrule
        obtain ⟨u2, u3, u4, u5, u6, e0, e1, e2, e3, e4, e5, e6, e7, e8, e9, hrule, hnode⟩ := hrule.vals
        have hrs := hrule.2.1
        unfold reachN at hrs
        have HS := Lib.hid (great3_ok _ wr _ _ _ _ _ (hnode.mono hbw.size))
        clear hrule hnode h8
        by_cases h200 : g.rules[j].name.size ≤ 200
        · go_wp2_with (go_at_call 55; refine HS.out.mono ?_; rintro e w' ⟨(rfl | ⟨rfl, ht⟩), hb2⟩ <;> (have ec : ∀ o, w'.cell? ⟨b, o, none⟩ = wr.cell? ⟨b, o, none⟩ := (fun o => hb2.cell (p := ⟨b, o, none⟩) (by show b < _; omega)); have eb : w'.cell? ⟨W.heap.size, 3, none⟩ = wr.cell? ⟨W.heap.size, 3, none⟩ := hb2.cell hsz))
          all_goals first
            | (go_ret; exact ⟨.inl rfl, hbw.trans (hb2.mono (by omega))⟩)
            | exact ⟨⟨j + 1, by go_num, by omega, fair4_next hf hlt ht h200, hbw.trans (hb2.mono (by omega)), by have := hb2.size; omega, by rw [hb2.cell hsz]; exact hbox0, by rw [hb2.cell hsz]; exact hbox⟩, by simp [intOf]; omega⟩
        · go_wp2_with (go_at_call 55; refine HS.out.mono ?_; rintro e w' ⟨(rfl | ⟨rfl, ht⟩), hb2⟩ <;> (have ec : ∀ o, w'.cell? ⟨b, o, none⟩ = wr.cell? ⟨b, o, none⟩ := (fun o => hb2.cell (p := ⟨b, o, none⟩) (by show b < _; omega)); have eb : w'.cell? ⟨W.heap.size, 3, none⟩ = wr.cell? ⟨W.heap.size, 3, none⟩ := hb2.cell hsz))
          all_goals (go_ret; exact ⟨.inl rfl, hbw.trans (hb2.mono (by omega))⟩)
      · clear h8
        go_wp2_with fail
        go_ret
        refine ⟨boolTells_mk _ fun h => ⟨hlen, by simp at h; omega, fun i hi => hf.out i hi (by omega)⟩, hbw⟩
  · go_enter Try.func39, Try.ntmps39
    go_wp2
    go_ret
    exact ⟨.inl rfl, (Below.refl _ _).alloc (Nat.le_refl _) _⟩
def Gr.cnts (g : Gr) (j : Nat) : Nat := Nd.cnts ((g.rules.take j).map (·.body))
theorem Gr.cnts_next (g : Gr) (j : Nat) (h : j < g.rules.length) : g.cnts (j + 1) = g.cnts j + g.rules[j].body.cnt := by
  unfold Gr.cnts
  rw [List.take_succ_eq_append_getElem h, List.map_append, List.map_cons, List.map_nil, Nd.cnts_snoc]
structure Gr.Fair (g : Gr) : Prop where
  len : g.rules.length ≤ 20
  name : g.name.size ≤ 200
  rule : ∀ i (h : i < g.rules.length), g.rules[i].body.total ≤ 3000 ∧ g.rules[i].name.size ≤ 200
  cnt : g.cnts g.rules.length ≤ 500
set_option maxHeartbeats 1000000 in
theorem great5_ok (g : Gr) (W : World) (v0 v1 v2 v3 : Value) (hG : GrAt W W.heap.size (some v0) (some v1) (some v2) (some v3) g) :
    Calls Try.prog 18 #[.agg #[v0, v1, v2, v3]] W fun e W' => BoolTells g.Fair e ∧ Below W.heap.size W W' := by
  have hB : Below W.heap.size W (W.alloc (.cells #[v0, v1, v2, v3] 57)) := (Below.refl _ _).alloc (Nat.le_refl _) _
  have hS := Lib.hid (great4_ok g (W.alloc (.cells #[v0, v1, v2, v3] 57)) v0 v1 v2 v3 ((hG.keep hB).mono hB.size))
  have HB := Lib.hid hB
  clear hB
  obtain ⟨h1, hs, h2, h3, h4, h5, ra, rc, h6, h7, h8⟩ := hG
  obtain rfl := Option.some.inj h1
  obtain rfl := Option.some.inj h2
  obtain rfl := Option.some.inj h3
  obtain rfl := Option.some.inj h6
  clear h1 h2 h3 h4 h5 h6
  unfold reachN at hs h7
  by_cases hlen : g.rules.length ≤ 20
  · go_enter Try.func18, Try.ntmps18
    go_wp2_with (go_at_call 39; refine hS.out.mono ?_; rintro e w' ⟨(rfl | ⟨rfl, ht⟩), hb2⟩ <;> (have eb : ∀ o, w'.cell? ⟨W.heap.size, o, none⟩ = (W.alloc (.cells #[.string g.name, .int .i64 g.bound, .int .i64 g.states, .slice ra g.rules.length rc] 57)).cell? ⟨W.heap.size, o, none⟩ := (fun o => hb2.cell (p := ⟨W.heap.size, o, none⟩) (by show W.heap.size < _; simp)); have HB2 := Lib.hid hb2; clear hb2))
    · go_ret
      exact ⟨.inl rfl, HB.out.trans (HB2.out.mono (by simp))⟩
    · have hf := Lib.hid ht
      have hbw : Below W.heap.size W w' := HB.out.trans (HB2.out.mono (by simp))
      have hsz : W.heap.size < w'.heap.size := by have := HB2.out.size; simp at this; omega
      go_loopw [3, 4] (fun v i wr => ∃ (q j : Nat), v = .int .i64 q ∧ i = .int .i64 j ∧ j ≤ g.rules.length ∧ Hid (q = g.cnts j) ∧ q ≤ j * 3000 ∧ Below W.heap.size W wr ∧ W.heap.size < wr.heap.size ∧ wr.cell? ⟨W.heap.size, 3, none⟩ = some (.slice ra g.rules.length rc)) (fun _ i _ => g.rules.length - (intOf i).toNat)
      case atStart =>
        refine ⟨0, 0, rfl, rfl, by omega, rfl, by omega, hbw, hsz, ?_⟩
        rw [eb]
        simp [go_sem]
      case round =>
        clear eb
        obtain ⟨q, j, rfl, rfl, hj, hq, hq1, hbw2, hsz2, hbox⟩ := hrel
        by_cases hlt : j < g.rules.length
        · obtain ⟨b, off, rfl, hb, hrule⟩ := (h8.keep hbw2).get hlt
          simp only [Nat.zero_add] at hrule
          obtain ⟨u2, u3, u4, u5, u6, e0, e1, e2, e3, e4, e5, e6, e7, e8, e9, hrule, hnode⟩ := hrule.vals
          have hc : g.rules[j].body.cnt ≤ 3000 := Nat.le_trans (Nd.cnt_le_total _) (hf.out.rule j hlt).1
          have HS := Lib.hid (many_ok _ wr _ _ _ _ _ (by omega) (hnode.mono hbw2.size))
          clear hrule hnode h8
          go_wp2_with (go_at_call 40; refine HS.out.mono ?_; rintro e w2 ⟨rfl, hb2⟩)
          exact ⟨⟨q + g.rules[j].body.cnt, j + 1, by go_num, by go_num, by omega, by have := hq.out; unfold Hid; rw [g.cnts_next j hlt, this], by omega, hbw2.trans (hb2.mono (by omega)), by have := hb2.size; omega, by rw [hb2.cell hsz2]; exact hbox⟩, by simp [intOf]; omega⟩
        · clear h8
          go_wp2_with fail
          go_ret
          refine ⟨boolTells_mk _ fun h => ?_, hbw2⟩
          have e1 := hq.out
          have e2 : j = g.rules.length := by omega
          simp at h
          exact ⟨hlen, hf.out.name, hf.out.rule, by rw [← e2, ← e1]; omega⟩
  · go_enter Try.func18, Try.ntmps18
    go_wp2_with (go_at_call 39; refine hS.out.mono ?_; rintro e w' ⟨(rfl | ⟨rfl, ht⟩), hb2⟩ <;> (have eb : ∀ o, w'.cell? ⟨W.heap.size, o, none⟩ = (W.alloc (.cells #[.string g.name, .int .i64 g.bound, .int .i64 g.states, .slice ra g.rules.length rc] 57)).cell? ⟨W.heap.size, o, none⟩ := (fun o => hb2.cell (p := ⟨W.heap.size, o, none⟩) (by show W.heap.size < _; simp)); have HB2 := Lib.hid hb2; clear hb2))
    all_goals (go_ret; exact ⟨.inl rfl, HB.out.trans (HB2.out.mono (by simp))⟩)
end Go.Proofs.Ytgdcnndmdgcjlaa

/- A net's making begins. -/
namespace Go.Proofs.Ytgdcnndmdgcjlaa
open Go.RowKit
theorem loose_mono {w : World} {base base' e size n : Nat} {v : Value} {xs : List Value} (h : looseRow w base e size v n xs) (hb : base' ≤ base) : looseRow w base' e size v n xs := by
  refine ⟨h.1, h.2.imp id ?_⟩
  rintro ⟨g, cap, cur, h1, h2, h3⟩
  exact ⟨g, cap, cur, h1, Nat.le_trans hb h2, h3⟩
def SortgR (S : List Int) (v : Value) (w : World) : Prop := ∃ b, v = .slice (some ⟨b, 0, none⟩) S.length S.length ∧ SortsAt w b S
theorem SortgR.keep {S : List Int} {v : Value} {w w' : World} (hg : Grew w w') (h : SortgR S v w) : SortgR S v w' := by
  obtain ⟨b, h1, h2⟩ := h
  exact ⟨b, h1, h2.keep hg⟩
def RowgR (B : Nat) (l : List Int) (v : Value) (w : World) : Prop := looseRow w B 3 1 v l.length (intVs l) ∧ B ≤ w.heap.size
theorem RowgR.keep {B : Nat} {l : List Int} {v : Value} {w w' : World} (hg : Grew w w') (h : RowgR B l v w) : RowgR B l v w' :=
  ⟨row_but h.1 (But.of_grew (F := fun _ => False) hg) fun _ _ => id, Nat.le_trans h.2 hg.size⟩
def mkE (x0 x1 x2 x3 : Value) (rules tokens : List Int) (B mb : Nat) : MkE := ⟨x0, x1, x2, x3, rules, tokens, B, mb⟩
def MkV.v0 (vr vt : Value) : MkV := ⟨fun r => match r with | .rules => vr | .tokens => vt | _ => .slice none 0 0, fun _ => .slice none 0 0, .slice none 0 0, .slice none 0 0⟩
theorem MkAt.init {x0 x1 x2 x3 vr vt : Value} {rules tokens : List Int} {B mb : Nat} {w : World} (hr : looseRow w B 3 1 vr rules.length (intVs rules)) (ht : looseRow w B 3 1 vt tokens.length (intVs tokens)) (hB : B ≤ mb)
    (ho : Owns w mb ((MkV.v0 vr vt).box (mkE x0 x1 x2 x3 rules tokens B mb) Mk.m0) 113) : MkAt (mkE x0 x1 x2 x3 rules tokens B mb) w Mk.m0 (MkV.v0 vr vt) := by
  have hnil : ∀ {e size : Nat}, looseRow w B e size (.slice none 0 0) 0 [] := ⟨by simp, .inl ⟨rfl, rfl⟩⟩
  refine ⟨ho, fun r hr' => ?_, fun k hk => absurd hk (by simp [Mk.m0]), hnil, ⟨[], .inl hnil, rfl⟩, fun r r' hr hr' hne hff b hb => ?_, fun k k' hk => absurd hk (by simp [Mk.m0]), hB⟩
  · cases r with
    | rules => exact hr
    | tokens => exact ht
    | ends k => exact absurd hr' (by simp [Mk.live, Mk.m0])
    | _ => exact hnil
  · have hn : ∀ r : IRole, r.fix = false → ((MkV.v0 vr vt).iv r).ownBlock = none := fun r h => by cases r <;> first | rfl | cases h
    rw [Bool.and_eq_false_iff] at hff
    rcases hff with h | h
    · rw [hn r h] at hb; cases hb
    · rw [hn r' h]; simp
def MkgR (x0 x1 x2 x3 : Value) (rules tokens : List Int) (B : Nat) (v : Value) (w : World) : Prop := ∃ mb vr vt, v = .pointer (some ⟨mb, 0, none⟩) ∧ MkAt (mkE x0 x1 x2 x3 rules tokens B mb) w Mk.m0 (MkV.v0 vr vt)
theorem MkgR.keep {x0 x1 x2 x3 : Value} {rules tokens : List Int} {B : Nat} {v : Value} {w w' : World} (hg : Grew w w') (h : MkgR x0 x1 x2 x3 rules tokens B v w) : MkgR x0 x1 x2 x3 rules tokens B v w' := by
  obtain ⟨mb, vr, vt, h1, h2⟩ := h
  exact ⟨mb, vr, vt, h1, h2.grew hg⟩
def MkgB (x0 x1 x2 x3 : Value) (rules tokens : List Int) (B : Nat) (v : Value) (w : World) : Prop := ∃ vr vt, v = .agg ((MkV.v0 vr vt).box (mkE x0 x1 x2 x3 rules tokens B 0) Mk.m0).toArray ∧ RowgR B rules vr w ∧ RowgR B tokens vt w
theorem MkgB.keep {x0 x1 x2 x3 : Value} {rules tokens : List Int} {B : Nat} {v : Value} {w w' : World} (hg : Grew w w') (h : MkgB x0 x1 x2 x3 rules tokens B v w) : MkgB x0 x1 x2 x3 rules tokens B v w' := by
  obtain ⟨vr, vt, h1, h2, h3⟩ := h
  exact ⟨vr, vt, h1, h2.keep hg, h3.keep hg⟩
theorem Gr.Fair.few0 {g : Gr} (h : g.Fair) : g.Few :=
  ⟨by have := h.len; omega, fun i hi => by
    have h1 := (h.rule i hi).1
    have h2 := Nd.cnt_le_total g.rules[i].body
    have : ∀ n : Nd, n.all.length = n.cnt := by
      intro n
      induction n using Nd.ind with
      | h k nm tx set subs ih =>
        rw [Nd.all, Nd.cnt, List.length_cons]
        have : ∀ l : List Nd, (∀ i (hi : i < l.length), l[i].all.length = l[i].cnt) → (Nd.allL l).length = Nd.cnts l := by
          intro l
          induction l with
          | nil => intro _; rw [Nd.allL, Nd.cnts]; rfl
          | cons x r ihr =>
            intro hx
            rw [Nd.allL, Nd.cnts, List.length_append, ihr fun i hi => hx (i + 1) (by simp; omega)]
            have := hx 0 (by simp)
            simp only [List.getElem_cons_zero] at this
            omega
        rw [this subs ih]
        omega
    rw [this]
    omega⟩
theorem cnts_mem : ∀ {l : List Nd} {i : Nat} (h : i < l.length), l[i].cnt ≤ Nd.cnts l
  | n :: r, 0, _ => by rw [Nd.cnts]; simp
  | n :: r, i + 1, h => by have := cnts_mem (l := r) (i := i) (by simpa using h); rw [Nd.cnts]; simp; omega
theorem Gr.Fair.body {g : Gr} (h : g.Fair) (i : Nat) (hi : i < g.rules.length) : g.rules[i].body.cnt ≤ 500 := by
  have h1 := h.cnt
  unfold Gr.cnts at h1
  rw [List.take_length] at h1
  have := cnts_mem (l := g.rules.map (·.body)) (i := i) (by simpa using hi)
  simp at this
  omega
end Go.Proofs.Ytgdcnndmdgcjlaa

/- A net that was made, as a net in memory. -/
namespace Go.Proofs.Ytgdcnndmdgcjlaa
open Go.RowKit
theorem ecells8_at : ∀ (l : List Edg) (k : Nat) (h : k < l.length), (ecells8 l)[k * 3]? = some (.int .u8 l[k].kind) ∧ (ecells8 l)[k * 3 + 1]? = some (.int .i64 l[k].what) ∧ (ecells8 l)[k * 3 + 2]? = some (.int .i64 l[k].to)
  | [], k, h => absurd h (by simp)
  | e :: r, 0, _ => ⟨rfl, rfl, rfl⟩
  | e :: r, k + 1, h => by
    have ih := ecells8_at r k (by simpa using h)
    have hc : ecells8 (e :: r) = [.int .u8 e.kind, .int .i64 e.what, .int .i64 e.to] ++ ecells8 r := rfl
    rw [hc]
    have e0 : ∀ j, ([.int .u8 e.kind, .int .i64 e.what, .int .i64 e.to] ++ ecells8 r : List Value)[(k + 1) * 3 + j]? = (ecells8 r)[k * 3 + j]? := fun j => by
      rw [List.getElem?_append_right (by simp; omega)]
      congr 1
      simp
      omega
    have h0 := e0 0
    rw [Nat.add_zero, Nat.add_zero] at h0
    rw [h0, e0 1, e0 2]
    simpa using ih
theorem loose_edges8 {w : World} {base : Nat} {v : Value} {l : List Edg} (h : looseRow w base 87 3 v l.length (ecells8 l)) : ∃ a cap, v = .slice a l.length cap ∧ EdgesAt w w.heap.size a l := by
  rcases h.2 with ⟨h1, h0⟩ | ⟨b, cap, cur, h1, h2, h3, h4⟩
  · have hn : l = [] := List.eq_nil_of_length_eq_zero h0
    subst hn
    exact ⟨none, 0, h1, fun k hk => absurd hk (by simp)⟩
  · refine ⟨some ⟨b, 0, none⟩, cap, h1, fun k hk => ⟨b, 0, rfl, (Array.getElem?_eq_some_iff.1 h3).1, ?_⟩⟩
    have hc := looseRow_cells h (g := b) (by rw [h1]; rfl)
    obtain ⟨e0, e1, e2⟩ := ecells8_at l k hk
    rw [Nat.zero_add]
    exact ⟨hc _ _ e0, hc _ _ e1, hc _ _ e2⟩
theorem MkAt.net {E : MkE} {w : World} {m : Mk} {V : MkV} (h : MkAt E w m V) : NetAt w w.heap.size V.sv (V.iv .starts) (V.iv .stops) (V.iv .preds) (V.iv .decs) m.N := by
  refine ⟨?_, loose_ints (h.ints .starts trivial), loose_ints (h.ints .stops trivial), loose_ints (h.ints .preds trivial), loose_ints (h.ints .decs trivial)⟩
  rcases h.states.2 with ⟨h1, h0⟩ | ⟨b, cap, cur, h1, h2, h3, h4⟩
  · exact ⟨none, 0, by rw [h0]; exact h1, fun k hk => by omega⟩
  · refine ⟨some ⟨b, 0, none⟩, cap, h1, fun k hk => ⟨b, 0, rfl, (Array.getElem?_eq_some_iff.1 h3).1, ?_⟩⟩
    have hc := looseRow_cells h.states (g := b) (by rw [h1]; rfl)
    obtain ⟨e0, e1, e2⟩ := srow_at (V := V) hk
    rw [Nat.zero_add]
    have he : m.N.edges k = m.N.states[k].edges := by unfold Net.edges; rw [List.getElem?_eq_getElem hk]; rfl
    have hn : m.N.ends k = m.N.states[k].ends := by unfold Net.ends; rw [List.getElem?_eq_getElem hk]; rfl
    refine ⟨hc _ _ e0, ?_, ?_⟩
    · obtain ⟨a, c, h5, h6⟩ := loose_edges8 (h.edges k hk)
      rw [he] at h5 h6
      exact ⟨a, c, (hc _ _ e1).trans (by rw [h5]), h6⟩
    · obtain ⟨a, c, h5, h6⟩ := loose_ints (h.ints (.ends k) hk)
      have h7 : E.ints m (.ends k) = m.N.states[k].ends := hn
      rw [h7] at h5 h6
      exact ⟨a, c, (hc _ _ e2).trans (by rw [h5]), h6⟩
theorem MkAt.but0 {E : MkE} {w w' : World} {m : Mk} {V : MkV} (h : MkAt E w m V) (hw : m.waits = []) {F : Nat → Prop} (hb : But F w w') (hn : ∀ b, V.mine E m b → ¬F b) : MkAt E w' m V := by
  refine ⟨hb.owns h.box (hn _ (.inl rfl)), fun r hr => row_but (h.ints r hr) hb fun g hg => hn g (.inr (.inr (.inr (.inl ⟨r, hr, hg⟩)))), fun k hk => row_but (h.edges k hk) hb fun g hg => hn g (.inr (.inr (.inr (.inr ⟨k, hk, hg⟩)))), row_but h.states hb fun g hg => hn g (.inr (.inl hg)), ?_, h.iinj, h.einj, h.lo⟩
  obtain ⟨cs, h1, h2⟩ := h.waits
  rw [hw] at h2
  refine ⟨cs, trow_but h1 hb fun g hg => hn g (.inr (.inr (.inl hg))), ?_⟩
  rw [hw]
  exact h2
theorem decsTo_waits (m : Mk) : ∀ i, (m.decsTo i).waits = m.waits
  | 0 => rfl
  | i + 1 => by
    rw [Mk.decsTo]
    split
    · exact decsTo_waits m i
    · exact decsTo_waits m i
theorem but_cell {w : World} {b i : Nat} (x : Value) : But (fun c => c = b) w (w.setCell ⟨b, i, none⟩ x) :=
  ⟨rfl, rfl, rfl, by simp [World.setCell], fun k _ hn => put_heap (a := ⟨b, i, none⟩) (fun e => hn (by have e : b = k := e; exact e.symm))⟩
theorem but_five {w : World} {b : Nat} (y0 y1 y2 y3 y4 : Value) : But (fun c => c = b) w (((((w.setCell ⟨b, 0, none⟩ y0).setCell ⟨b, 1, none⟩ y1).setCell ⟨b, 2, none⟩ y2).setCell ⟨b, 3, none⟩ y3).setCell ⟨b, 4, none⟩ y4) :=
  ((((but_cell y0).trans (but_cell y1) fun _ _ h => h).trans (but_cell y2) fun _ _ h => h).trans (but_cell y3) fun _ _ h => h).trans (but_cell y4) fun _ _ h => h
end Go.Proofs.Ytgdcnndmdgcjlaa
