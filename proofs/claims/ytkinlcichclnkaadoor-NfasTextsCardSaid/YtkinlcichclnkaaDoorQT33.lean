/- checks.rule: all that is told of one rule. -/
import Derived.Deep.DeepCutAuto
import Derived.BigQuiet
import Derived.Test.YtkinlcichclnkaaDoorQT32
namespace Go.Proofs.YtkinlcichclnkaaDoor
open Go.RowKit Go.Shelf

/-- a check's block, with all that it asks -/
structure ChkM (W : World) (base cb : Nat) (c : ChkVals) (g : Gr) (es : List Bool) (M N : List (List Bool)) : Prop where
  gr : GrAt W base (some c.c0) (some c.c1) (some c.c2) (some c.c3) g
  empty : ∃ eb, c.c4 = .slice (some ⟨eb, 0, none⟩) g.rules.length g.rules.length ∧ Owns W eb (es.map .bool) 4
  el : es.length = g.rules.length
  reach : ∃ B rb f, c.c5 = .slice (some ⟨rb, 0, none⟩) g.rules.length g.rules.length ∧ MatR W B rb g.rules.length g.rules.length f (fun i => M.getD i [])
  round : ∃ B rb f, c.c6 = .slice (some ⟨rb, 0, none⟩) g.rules.length g.rules.length ∧ MatR W B rb g.rules.length g.rules.length f (fun i => N.getD i [])
theorem Told.keeps_owns {A B : World} {base cb : Nat} (h : Told base cb A B) {ccs : List Value} (hc : Owns A cb ccs 104) {b T : Nat} {cs : List Value} (ho : Owns A b cs T) (h1 : T ≠ 111) (h2 : T ≠ 104) : Owns B b cs T :=
  h.owns ho (fun e => by
    subst e
    unfold Owns at ho hc
    rw [hc] at ho
    cases ho
    exact h2 rfl) h1
theorem ChkM.told {A B : World} {base cb : Nat} {c : ChkVals} {g : Gr} {es : List Bool} {M N : List (List Bool)} (h : ChkM A base cb c g es M N) (ht : Told base cb A B) {L : List Prob} (hc : ChkAt A base cb c L) : ChkM B base cb c g es M N := by
  obtain ⟨h1, ⟨eb, h2, h3⟩, h4, ⟨B1, rb1, f1, h5, h6⟩, ⟨B2, rb2, f2, h7, h8⟩⟩ := h
  obtain ⟨_, hcc⟩ := hc.cb_own
  have hk : ∀ b cs T, (T = 52 ∨ T = 4) → Owns A b cs T → Owns B b cs T := fun b cs T hT ho => ht.keeps_owns hcc ho (by rcases hT with h | h <;> subst h <;> decide) (by rcases hT with h | h <;> subst h <;> decide)
  exact ⟨h1.keep ht.low, ⟨eb, h2, hk _ _ _ (.inr rfl) h3⟩, h4, ⟨B1, rb1, f1, h5, h6.of hk⟩, ⟨B2, rb2, f2, h7, h8.of hk⟩⟩

/-- what lies at hand between two statements of rule: the boxes of the check, of the number and of the rule -/
structure RuleAtHand (g : Gr) (es : List Bool) (M N : List (List Bool)) (base cb : Nat) (c : ChkVals) (L : List Prob) (W w : World) (t i : Nat) : Prop where
  chk : ChkAt w base cb c L
  mem : ChkM w base cb c g es M N
  b1 : Owns w W.heap.size [.pointer (some ⟨cb, 0, none⟩)] 99
  b2 : Owns w (W.heap.size + 1) [.int .i64 (i : Int)] 3
  rule : ∃ hi : i < g.rules.length, RuleBox w t g.rules[i]
  tlo : W.heap.size + 2 ≤ t
  told : Told base cb W w
  cbl : cb < W.heap.size
  lo : base ≤ W.heap.size
theorem RuleAtHand.more {g : Gr} {es : List Bool} {M N : List (List Bool)} {base cb : Nat} {c : ChkVals} {L L' : List Prob} {W w w' : World} {t i : Nat} (h : RuleAtHand g es M N base cb c L W w t i) (hc : ChkAt w' base cb c L') (ht : Told base cb w w') : RuleAtHand g es M N base cb c L' W w' t i := by
  obtain ⟨_, hcc⟩ := h.chk.cb_own
  obtain ⟨hi, v2, v3, v4, v5, v6, hr⟩ := h.rule
  exact ⟨hc, h.mem.told ht h.chk, ht.keeps_owns hcc h.b1 (by decide) (by decide), ht.keeps_owns hcc h.b2 (by decide) (by decide), ⟨hi, v2, v3, v4, v5, v6, ht.keeps_owns hcc hr (by decide) (by decide)⟩, h.tlo, h.told.trans ht, h.cbl, h.lo⟩
/-- where only new blocks were laid -/
theorem RuleAtHand.grew {g : Gr} {es : List Bool} {M N : List (List Bool)} {base cb : Nat} {c : ChkVals} {L : List Prob} {W w w' : World} {t i : Nat} (h : RuleAtHand g es M N base cb c L W w t i) (hg : Grew w w') : RuleAtHand g es M N base cb c L W w' t i :=
  h.more (h.chk.grew hg) (Told.grew hg (by have := h.lo; have := h.told.low.size; omega))

theorem nodesTold_len (i : Nat) (r : Rl) (code : Int) (q : Nd → Bool) : (nodesTold i r code q).length ≤ r.body.all.length := by
  unfold nodesTold
  rw [List.length_map]
  exact List.length_filter_le ..
theorem enters_rule1 : Enters 63 := fun _ _ => by kernel_rfl
theorem enters_rule2 : Enters 64 := fun _ _ => by kernel_rfl
theorem enters_rule3 : Enters 66 := fun _ _ => by kernel_rfl
theorem grCell_of {W : World} {base cb : Nat} {c : ChkVals} {L : List Prob} {g : Gr} (hc : ChkAt W base cb c L) (hg : GrAt W base (some c.c0) (some c.c1) (some c.c2) (some c.c3) g) (hb : base ≤ W.heap.size) : GrCell W cb g := by
  obtain ⟨_, v, ho, _⟩ := hc
  exact ⟨ho.lt, _, _, _, _, ho.cell_at (i := 0) rfl, ho.cell_at (i := 1) rfl, ho.cell_at (i := 2) rfl, ho.cell_at (i := 3) rfl, hg.mono hb⟩
theorem RuleAtHand.asks1 {g : Gr} {es : List Bool} {M N : List (List Bool)} {base cb : Nat} {c : ChkVals} {L : List Prob} {W w : World} {t i : Nat} (h : RuleAtHand g es M N base cb c L W w t i) : Asks w base cb c 63 #[.pointer (some ⟨W.heap.size, 0, none⟩)] g.noneBad := by
  intro n w' L' v0 v1 v2 v3 v4 ht hc hn
  have h' := h.more hc ht
  exact rule1_ok g n w' cb W.heap.size v0 v1 v2 v3 v4 (grCell_of hc h'.mem.gr (by have := h'.lo; have := h'.told.low.size; omega)) (h'.b1.cell_at rfl) hn
theorem RuleAtHand.asks2 {g : Gr} {es : List Bool} {M N : List (List Bool)} {base cb : Nat} {c : ChkVals} {L : List Prob} {W w : World} {t i : Nat} (h : RuleAtHand g es M N base cb c L W w t i) (hi : i < g.rules.length) :
    Asks w base cb c 64 #[.pointer (some ⟨W.heap.size, 0, none⟩), .pointer (some ⟨t, 0, none⟩)] (g.sortBad g.rules[i]) := by
  intro n w' L' v0 v1 v2 v3 v4 ht hc hn
  have h' := h.more hc ht
  obtain ⟨_, hr⟩ := h'.rule
  exact rule2_ok g g.rules[i] n w' cb W.heap.size t v0 v1 v2 v3 v4 (grCell_of hc h'.mem.gr (by have := h'.lo; have := h'.told.low.size; omega)) (h'.b1.cell_at rfl) hr hn
theorem RuleAtHand.asks3 {g : Gr} {es : List Bool} (hes : g.IsEmpty es) {M N : List (List Bool)} {base cb : Nat} {c : ChkVals} {L : List Prob} {W w : World} {t i : Nat} (h : RuleAtHand g es M N base cb c L W w t i) (hi : i < g.rules.length) :
    Asks w base cb c 66 #[.pointer (some ⟨W.heap.size, 0, none⟩), .pointer (some ⟨W.heap.size + 1, 0, none⟩)] (g.loopBad es g.rules[i]) := by
  intro n w' L' v0 v1 v2 v3 v4 ht hc hn
  have h' := h.more hc ht
  exact rule3_ok g es hes i hi n w' cb W.heap.size (W.heap.size + 1) v0 v1 v2 v3 v4 (grCell_of hc h'.mem.gr (by have := h'.lo; have := h'.told.low.size; omega)) (h'.b1.cell_at rfl) (h'.b2.cell_at rfl) hn

set_option maxHeartbeats 8000000 in
set_option maxRecDepth 20000 in
theorem rule_ok (g : Gr) (es : List Bool) (hes : g.IsEmpty es) (M N : List (List Bool)) (base cb : Nat) (c : ChkVals) (L : List Prob) (W : World) (hbase : base ≤ W.heap.size) (hC : ChkAt W base cb c L) (hM : ChkM W base cb c g es M N) (i : Nat) (hi : i < g.rules.length)
    (hlen : L.length + 3 * g.rules[i].body.all.length + 4 ≤ 1000000) :
    Calls Tryd.prog 46 #[.pointer (some ⟨cb, 0, none⟩), .int .i64 (i : Int)] W fun e W' =>
      (∃ v, e = .returned v) ∧ ChkAt W' base cb c (L ++ g.ruleTold es (at2 M) (at2 N) i g.rules[i]) ∧ Told base cb W W' := by
  have hg1 := grew_alloc W (.cells #[.pointer (some ⟨cb, 0, none⟩)] 99)
  have hg2 := grew_alloc (W.alloc (.cells #[.pointer (some ⟨cb, 0, none⟩)] 99)) (.cells #[.int .i64 (i : Int)] 3)
  have o1 := (Owns.alloc W [.pointer (some ⟨cb, 0, none⟩)] 99).keep hg2
  have o2 := Owns.alloc (W.alloc (.cells #[.pointer (some ⟨cb, 0, none⟩)] 99)) [.int .i64 (i : Int)] 3
  rw [World.size_alloc] at o2
  have hg := hg1.trans hg2
  have hC4 := hC.grew hg
  have hcw : cb < W.heap.size := by
    obtain ⟨_, _, ho, _⟩ := hC
    exact ho.lt
  obtain ⟨_, v, hco, hcr⟩ := hC4
  obtain ⟨q1, q2, q3, q4, q5, q6, ra, rc, q7, q8, q9⟩ := hM.gr
  obtain ⟨b, off, rfl, hb, hrule⟩ := (q9.keep (hg.mono hbase)).get hi
  simp only [Nat.zero_add] at hrule
  obtain ⟨u2, u3, u4, u5, u6, e0, e1, e2, e3, e4, e5, e6, e7, e8, e9, hrule, hnode⟩ := hrule.vals
  obtain ⟨bk, bnm, btx, bsa, bsl, bsc, bna, bnl, bnc, rfl, rfl, rfl, rfl, rfl⟩ := hnode.forms
  have p1 := o1.cell_at (i := 0) rfl
  have p2 := o2.cell_at (i := 0) rfl
  have l1 := o1.lt
  have l2 := o2.lt
  have lc := hco.lt
  have pc := hco.cell_at (i := 3) (v := c.c3) rfl
  rw [Option.some.inj q7] at pc
  have HG := Lib.hid hg
  have HO1 := Lib.hid o1
  have HO2 := Lib.hid o2
  have HC := Lib.hid hC
  have HM := Lib.hid hM
  have HQ7 := Lib.hid (Option.some.inj q7)
  have hsz4 : W.heap.size + 2 = ((W.alloc (.cells #[.pointer (some ⟨cb, 0, none⟩)] 99)).alloc (.cells #[.int .i64 (i : Int)] 3)).heap.size := by simp
  have HS4 := Lib.hid hsz4
  clear hrule hnode q1 q2 q3 q4 q5 q6 q7 q9 hC hco hcr o1 o2 hg1 hg2 hg hM hsz4
  unfold reachN at q8
  go_enter Tryd.func46, Tryd.ntmps46
  go_upto_region 2 with fail
  generalize (W.alloc (.cells #[.pointer (some ⟨cb, 0, none⟩)] 99)).alloc (.cells #[.int .i64 (i : Int)] 3) = w4 at *
  have hbs : b < w4.heap.size := by have := HS4.out; omega
  refine wp_region_hav_lit follows (by kernel_rfl) ?_
  repeat (first
    | (refine HavG.skip (fun _ => rfl) ?_; simp only [Act.put, List.setIfInBounds_toArray, List.set_cons_zero, List.set_cons_succ])
    | (refine HavG.val (fun _ => rfl) ?_ (fun x w hw _ => ?_) ?_; rotate_left; (focus (have hc := hw.cells; clear hw; go_simp; first | done | rfl)); simp only [Act.put, List.setIfInBounds_toArray, List.set_cons_zero, List.set_cons_succ]))
  refine HavG.any (fun _ => rfl) (fun v w => ∃ t, v = .pointer (some ⟨t, 0, none⟩) ∧ w4.heap.size ≤ t ∧ Owns w t [.string ⟨#[]⟩, .int .u8 0, .int .u8 0, .string ⟨#[]⟩, .string ⟨#[]⟩, .slice none 0 0, .slice none 0 0, .int .i64 0, .int .i64 0, .int .i64 0] 38) ?_ (fun x w hw _ => ?_) ?_
  · rintro v w w' hg ⟨t, h1, h2, h3⟩
    exact ⟨t, h1, h2, h3.keep hg⟩
  · have HW := Lib.hid hw
    clear hw
    go_simp
    refine ⟨grew_alloc _ _, ?_⟩
    have := HW.out.size
    exact ⟨by simpa using this, Owns.alloc w _ _⟩
  simp only [Act.put, List.setIfInBounds_toArray, List.set_cons_zero, List.set_cons_succ]
  refine HavG.tail (by kernel_rfl) (by kernel_rfl) (fun x w hw hx => ?_)
  have hx' := hx _ (List.mem_append_right _ (List.mem_singleton.2 rfl))
  clear hx
  dsimp only at hx'
  generalize x (0 + 1 + 1 + 1 + 1 + 1 + 1 + 1 + 1) = y at *
  obtain ⟨t, rfl, htl, hot⟩ := hx'
  have t0 := hot.cell_at (i := 0) rfl
  have f0 := hot.free 0
  have t1 := hot.cell_at (i := 1) rfl
  have f1 := hot.free 1
  have t2 := hot.cell_at (i := 2) rfl
  have f2 := hot.free 2
  have t3 := hot.cell_at (i := 3) rfl
  have f3 := hot.free 3
  have t4 := hot.cell_at (i := 4) rfl
  have f4 := hot.free 4
  have t5 := hot.cell_at (i := 5) rfl
  have f5 := hot.free 5
  have t6 := hot.cell_at (i := 6) rfl
  have f6 := hot.free 6
  have t7 := hot.cell_at (i := 7) rfl
  have f7 := hot.free 7
  have t8 := hot.cell_at (i := 8) rfl
  have f8 := hot.free 8
  have t9 := hot.cell_at (i := 9) rfl
  have f9 := hot.free 9
  have HW := Lib.hid hw
  have HO := Lib.hid hot
  clear hw hot
  go_upto_region 2 with fail
  have hO5 : Owns (((((((((((w.setCell ⟨t, 0, none⟩ (.string g.rules[i].name)).setCell ⟨t, 1, none⟩ (.int .u8 g.rules[i].sort)).setCell ⟨t, 2, none⟩ (.int .u8 bk)).setCell ⟨t, 3, none⟩ (.string bnm)).setCell ⟨t, 4, none⟩ (.string btx)).setCell ⟨t, 5, none⟩ (.slice bsa bsl bsc)).setCell ⟨t, 6, none⟩ (.slice bna bnl bnc)).setCell ⟨t, 7, none⟩ (.int .i64 g.rules[i].p0)).setCell ⟨t, 8, none⟩ (.int .i64 g.rules[i].p1)).setCell ⟨t, 9, none⟩ (.int .i64 g.rules[i].p2))) t [.string g.rules[i].name, .int .u8 g.rules[i].sort, .int .u8 bk, .string bnm, .string btx, .slice bsa bsl bsc, .slice bna bnl bnc, .int .i64 g.rules[i].p0, .int .i64 g.rules[i].p1, .int .i64 g.rules[i].p2] 38 := ((((((((((HO.out.set 0 (.string g.rules[i].name)).set 1 (.int .u8 g.rules[i].sort)).set 2 (.int .u8 bk)).set 3 (.string bnm)).set 4 (.string btx)).set 5 (.slice bsa bsl bsc)).set 6 (.slice bna bnl bnc)).set 7 (.int .i64 g.rules[i].p0)).set 8 (.int .i64 g.rules[i].p1)).set 9 (.int .i64 g.rules[i].p2))
  have hG5 : Grew w4 (((((((((((w.setCell ⟨t, 0, none⟩ (.string g.rules[i].name)).setCell ⟨t, 1, none⟩ (.int .u8 g.rules[i].sort)).setCell ⟨t, 2, none⟩ (.int .u8 bk)).setCell ⟨t, 3, none⟩ (.string bnm)).setCell ⟨t, 4, none⟩ (.string btx)).setCell ⟨t, 5, none⟩ (.slice bsa bsl bsc)).setCell ⟨t, 6, none⟩ (.slice bna bnl bnc)).setCell ⟨t, 7, none⟩ (.int .i64 g.rules[i].p0)).setCell ⟨t, 8, none⟩ (.int .i64 g.rules[i].p1)).setCell ⟨t, 9, none⟩ (.int .i64 g.rules[i].p2))) := (Below.setCell (Below.setCell (Below.setCell (Below.setCell (Below.setCell (Below.setCell (Below.setCell (Below.setCell (Below.setCell (Below.setCell HW.out (p := ⟨t, 0, none⟩) htl (.string g.rules[i].name)) (p := ⟨t, 1, none⟩) htl (.int .u8 g.rules[i].sort)) (p := ⟨t, 2, none⟩) htl (.int .u8 bk)) (p := ⟨t, 3, none⟩) htl (.string bnm)) (p := ⟨t, 4, none⟩) htl (.string btx)) (p := ⟨t, 5, none⟩) htl (.slice bsa bsl bsc)) (p := ⟨t, 6, none⟩) htl (.slice bna bnl bnc)) (p := ⟨t, 7, none⟩) htl (.int .i64 g.rules[i].p0)) (p := ⟨t, 8, none⟩) htl (.int .i64 g.rules[i].p1)) (p := ⟨t, 9, none⟩) htl (.int .i64 g.rules[i].p2))
  generalize ((((((((((w.setCell ⟨t, 0, none⟩ (.string g.rules[i].name)).setCell ⟨t, 1, none⟩ (.int .u8 g.rules[i].sort)).setCell ⟨t, 2, none⟩ (.int .u8 bk)).setCell ⟨t, 3, none⟩ (.string bnm)).setCell ⟨t, 4, none⟩ (.string btx)).setCell ⟨t, 5, none⟩ (.slice bsa bsl bsc)).setCell ⟨t, 6, none⟩ (.slice bna bnl bnc)).setCell ⟨t, 7, none⟩ (.int .i64 g.rules[i].p0)).setCell ⟨t, 8, none⟩ (.int .i64 g.rules[i].p1)).setCell ⟨t, 9, none⟩ (.int .i64 g.rules[i].p2)) = w5 at *
  clear t0 t1 t2 t3 t4 t5 t6 t7 t8 t9 f0 f1 f2 f3 f4 f5 f6 f7 f8 f9 HO HW w e0 e1 e2 e3 e4 e5 e6 e7 e8 e9 p1 p2 l1 l2 lc pc x
  have hOr : RuleBox w5 t g.rules[i] := ⟨_, _, _, _, _, hO5⟩
  have hR5 : RuleAtHand g es M N base cb c L W w5 t i := ⟨HC.out.grew (HG.out.trans hG5), HM.out.told (Told.grew (HG.out.trans hG5) hbase) HC.out, HO1.out.keep hG5, HO2.out.keep hG5, ⟨hi, hOr⟩, by have := HS4.out; omega, Told.grew (HG.out.trans hG5) hbase, hcw, hbase⟩
  have HR5 := Lib.hid hR5
  clear hO5 hG5 HG HO1 HO2 HC HM HS4 htl hOr hR5
  have hr := HR5.out
  obtain ⟨hi', v2, v3, v4, v5, v6, hrb⟩ := hr.rule
  have p1 := hr.b1.cell_at (i := 0) rfl
  have p2 := hr.b2.cell_at (i := 0) rfl
  have l1 := hr.b1.lt
  have l2 := hr.b2.lt
  have lt := hrb.lt
  have r0 := hrb.cell_at (i := 0) rfl
  have r1 := hrb.cell_at (i := 1) rfl
  have lc : cb < w5.heap.size := by have := hr.cbl; have := hr.told.low.size; omega
  obtain ⟨_, vv, hco, _⟩ := hr.chk
  have pc0 : w5.cell? ⟨cb, 0, none⟩ = some c.c0 := hco.cell_at (i := 0) rfl
  have pc1 : w5.cell? ⟨cb, 1, none⟩ = some c.c1 := hco.cell_at (i := 1) rfl
  have pc2 : w5.cell? ⟨cb, 2, none⟩ = some c.c2 := hco.cell_at (i := 2) rfl
  have pc3 : w5.cell? ⟨cb, 3, none⟩ = some c.c3 := hco.cell_at (i := 3) rfl
  have HF := Lib.hid (fun u hg' => find_ok g g.rules[i].name u c.c0 c.c1 c.c2 c.c3 hg')
  have HGR := Lib.hid (hr.mem.gr.mono (show base ≤ w5.heap.size by have := hr.lo; omega))
  clear hr hco hrb
  refine wp_region_hav_lit follows (by kernel_rfl) ?_
  repeat (first
    | (refine HavG.skip (fun _ => rfl) ?_; simp only [Act.put, List.setIfInBounds_toArray, List.set_cons_zero, List.set_cons_succ])
    | (refine HavG.val (fun _ => rfl) ?_ (fun x w hw _ => ?_) ?_; rotate_left; (focus (have hc := hw.cells; clear hw; go_simp; first | done | rfl)); simp only [Act.put, List.setIfInBounds_toArray, List.set_cons_zero, List.set_cons_succ]))
  refine HavG.det (fun _ => rfl) (.int .i64 (g.find g.rules[i].name)) (fun x w hw _ => ?_) ?_
  · have HW := Lib.hid hw
    clear hw
    go_simp
    refine (HF.out _ ((HGR.out.keep HW.out).mono HW.out.size)).mono ?_
    rintro e w' ⟨rfl, hb⟩
    exact ⟨rfl, hb⟩
  simp only [Act.put, List.setIfInBounds_toArray, List.set_cons_zero, List.set_cons_succ]
  repeat (first
    | (refine HavG.skip (fun _ => rfl) ?_; simp only [Act.put, List.setIfInBounds_toArray, List.set_cons_zero, List.set_cons_succ])
    | (refine HavG.val (fun _ => rfl) ?_ (fun x w hw _ => ?_) ?_; rotate_left; (focus (have hc := hw.cells; clear hw; go_simp; first | done | rfl)); simp only [Act.put, List.setIfInBounds_toArray, List.set_cons_zero, List.set_cons_succ]))
  refine HavG.tail (by kernel_rfl) (by kernel_rfl) (fun x w6 hw _ => ?_)
  have hR6 := HR5.out.grew hw
  have HR6 := Lib.hid hR6
  clear hw hR6
  generalize hD : decide (g.find g.rules[i].name < (i : Int)) = D0 at *
  have HD0 := Lib.hid hD
  clear hD HF HGR
  go_upto_if 21 with fail
  go_cut [] (fun wx => RuleAtHand g es M N base cb c (L ++ (if D0 = true then [⟨1, i, g.rules[i].name⟩] else [])) W wx t i)
  case first =>
    have hr := HR6.out
    have p1 := hr.b1.cell_at (i := 0) rfl
    have p2 := hr.b2.cell_at (i := 0) rfl
    have l1 := hr.b1.lt
    have l2 := hr.b2.lt
    have lc : cb < w6.heap.size := by have := hr.cbl; have := hr.told.low.size; omega
    obtain ⟨_, v2, v3, v4, v5, v6, hrb⟩ := hr.rule
    have lr := hrb.lt
    have r0 := hrb.cell_at (i := 0) rfl
    have r1 := hrb.cell_at (i := 1) rfl
    have r2 := hrb.cell_at (i := 2) rfl
    have r3 := hrb.cell_at (i := 3) rfl
    have r4 := hrb.cell_at (i := 4) rfl
    have r5 := hrb.cell_at (i := 5) rfl
    have r6 := hrb.cell_at (i := 6) rfl
    have r7 := hrb.cell_at (i := 7) rfl
    have r8 := hrb.cell_at (i := 8) rfl
    have r9 := hrb.cell_at (i := 9) rfl
    obtain ⟨_, vv, hco, _⟩ := hr.chk
    clear hco hrb
    clear hr
    cases D0
    · go_wp2_with fail
      go_meet
      have := HR6.out
      simpa using this
    · have HT := Lib.hid (tell_ok base cb c _ w6 HR6.out.chk (by omega) 1 i g.rules[i].name)
      go_wp2_with fail
      refine HT.out.mono ?_
      rintro e w99 ⟨⟨v99, rfl⟩, hC99, hT99⟩
      go_wp2_with fail
      go_meet
      have := HR6.out.more hC99 hT99
      simpa using this
  case rest =>
    have HR7 := Lib.hid hcut
    have hLLA : (L ++ (if D0 = true then [(⟨1, i, g.rules[i].name⟩ : Prob)] else [])).length ≤ L.length + 1 := by split <;> simp <;> omega
    clear hcut HR6
    generalize hLe : L ++ (if D0 = true then [(⟨1, i, g.rules[i].name⟩ : Prob)] else []) = LA at *
    have HLA := Lib.hid hLe
    clear hLe
    obtain ⟨wHR7, rfl⟩ : ∃ z, z = wc := ⟨_, rfl⟩
    have hr := HR7.out
    have p1 := hr.b1.cell_at (i := 0) rfl
    have p2 := hr.b2.cell_at (i := 0) rfl
    have l1 := hr.b1.lt
    have l2 := hr.b2.lt
    have lc : cb < wHR7.heap.size := by have := hr.cbl; have := hr.told.low.size; omega
    obtain ⟨_, vv, hco, _⟩ := hr.chk
    clear hco
    clear hr
    have HA := Lib.hid (nodes_ok g base cb c LA wHR7 (by have := HR7.out.lo; have := HR7.out.told.low.size; omega) HR7.out.chk HR7.out.mem.gr i hi 2 (by omega) 63 enters_rule1 _ _ (HR7.out.asks1) (by omega))
    go_wp2_with fail
    refine HA.out.mono ?_
    rintro e w8 ⟨⟨vw8, rfl⟩, hCn, hTn⟩
    have HR8 := Lib.hid (HR7.out.more hCn hTn)
    have hln := nodesTold_len i g.rules[i] 2 (g.noneBad)
    have hLLB : (LA ++ nodesTold i g.rules[i] 2 (g.noneBad)).length ≤ L.length + 1 + g.rules[i].body.all.length := by rw [List.length_append]; omega
    clear hCn hTn HA HR7 p1 p2 l1 l2 lc hln
    generalize hLe : LA ++ nodesTold i g.rules[i] 2 (g.noneBad) = LB at *
    have HLB := Lib.hid hLe
    clear hLe
    have hr := HR8.out
    have p1 := hr.b1.cell_at (i := 0) rfl
    have p2 := hr.b2.cell_at (i := 0) rfl
    have l1 := hr.b1.lt
    have l2 := hr.b2.lt
    have lc : cb < w8.heap.size := by have := hr.cbl; have := hr.told.low.size; omega
    obtain ⟨_, vv, hco, _⟩ := hr.chk
    clear hco
    clear hr
    have HA := Lib.hid (nodes_ok g base cb c LB w8 (by have := HR8.out.lo; have := HR8.out.told.low.size; omega) HR8.out.chk HR8.out.mem.gr i hi 3 (by omega) 64 enters_rule2 _ _ (HR8.out.asks2 hi) (by omega))
    go_wp2_with fail
    refine HA.out.mono ?_
    rintro e w9 ⟨⟨vw9, rfl⟩, hCn, hTn⟩
    have HR9 := Lib.hid (HR8.out.more hCn hTn)
    have hln := nodesTold_len i g.rules[i] 3 (g.sortBad g.rules[i])
    have hLLC : (LB ++ nodesTold i g.rules[i] 3 (g.sortBad g.rules[i])).length ≤ L.length + 1 + 2 * g.rules[i].body.all.length := by rw [List.length_append]; omega
    clear hCn hTn HA HR8 p1 p2 l1 l2 lc hln
    generalize hLe : LB ++ nodesTold i g.rules[i] 3 (g.sortBad g.rules[i]) = LC at *
    have HLC := Lib.hid hLe
    clear hLe
    go_upto_region 6 with fail
    go_cut [48] (fun s48 wx => s48 = .bool (g.rules[i].parser && at2 M i i) ∧ RuleAtHand g es M N base cb c LC W wx t i)
    case first =>
      have hr := HR9.out
      have p1 := hr.b1.cell_at (i := 0) rfl
      have p2 := hr.b2.cell_at (i := 0) rfl
      have l1 := hr.b1.lt
      have l2 := hr.b2.lt
      have lc : cb < w9.heap.size := by have := hr.cbl; have := hr.told.low.size; omega
      obtain ⟨_, v2, v3, v4, v5, v6, hrb⟩ := hr.rule
      have lr := hrb.lt
      have r0 := hrb.cell_at (i := 0) rfl
      have r1 := hrb.cell_at (i := 1) rfl
      have r2 := hrb.cell_at (i := 2) rfl
      have r3 := hrb.cell_at (i := 3) rfl
      have r4 := hrb.cell_at (i := 4) rfl
      have r5 := hrb.cell_at (i := 5) rfl
      have r6 := hrb.cell_at (i := 6) rfl
      have r7 := hrb.cell_at (i := 7) rfl
      have r8 := hrb.cell_at (i := 8) rfl
      have r9 := hrb.cell_at (i := 9) rfl
      obtain ⟨_, vv, hco, _⟩ := hr.chk
      obtain ⟨Bq, qb, fq, hc5, hm5⟩ := hr.mem.reach
      have pc5 : w9.cell? ⟨cb, 5, none⟩ = some (.slice (some ⟨qb, 0, none⟩) g.rules.length g.rules.length) := by rw [← hc5]; exact hco.cell_at (i := 5) (v := c.c5) rfl
      have pq1 := hm5.row hi
      have pq2 := hm5.cell hi hi
      have lq1 := hm5.r.lt
      have lq2 := (hm5.rows i hi).lt
      clear hc5 hm5
      clear hco hrb
      clear hr
      have HP := Lib.hid (fun u => parser_ok g.rules[i] u (.string g.rules[i].name) (.int .u8 g.rules[i].sort) v2 v3 v4 v5 v6 (.int .i64 g.rules[i].p0) (.int .i64 g.rules[i].p1) (.int .i64 g.rules[i].p2) rfl)
      generalize g.rules[i].parser = pp at *
      generalize at2 M i i = qq at *
      cases pp
      · refine wp_region_hav_lit follows (by kernel_rfl) ?_
        repeat (first
          | (refine HavG.skip (fun _ => rfl) ?_; simp only [Act.put, List.setIfInBounds_toArray, List.set_cons_zero, List.set_cons_succ])
          | (refine HavG.val (fun _ => rfl) ?_ (fun x w hw _ => ?_) ?_; rotate_left; (focus (have hc := hw.cells; clear hw; go_simp; first | done | rfl)); simp only [Act.put, List.setIfInBounds_toArray, List.set_cons_zero, List.set_cons_succ]))
        refine HavG.det (fun _ => rfl) (.bool false) (fun x w hw _ => ?_) ?_
        · have HW := Lib.hid hw
          clear hw
          go_simp
          refine (HP.out _).mono ?_
          rintro e w' ⟨rfl, hb⟩
          exact ⟨rfl, hb⟩
        simp only [Act.put, List.setIfInBounds_toArray, List.set_cons_zero, List.set_cons_succ]
        repeat (first
          | (refine HavG.skip (fun _ => rfl) ?_; simp only [Act.put, List.setIfInBounds_toArray, List.set_cons_zero, List.set_cons_succ])
          | (refine HavG.val (fun _ => rfl) ?_ (fun x w hw _ => ?_) ?_; rotate_left; (focus (have hc := hw.cells; clear hw; go_simp; first | done | rfl)); simp only [Act.put, List.setIfInBounds_toArray, List.set_cons_zero, List.set_cons_succ]))
        refine HavG.tail (by kernel_rfl) (by kernel_rfl) (fun x wz hw _ => ?_)
        have HW := Lib.hid hw
        clear hw
        go_wp2_with fail
        go_meet
        exact ⟨rfl, HR9.out.grew HW.out⟩
      · refine wp_region_hav_lit follows (by kernel_rfl) ?_
        repeat (first
          | (refine HavG.skip (fun _ => rfl) ?_; simp only [Act.put, List.setIfInBounds_toArray, List.set_cons_zero, List.set_cons_succ])
          | (refine HavG.val (fun _ => rfl) ?_ (fun x w hw _ => ?_) ?_; rotate_left; (focus (have hc := hw.cells; clear hw; go_simp; first | done | rfl)); simp only [Act.put, List.setIfInBounds_toArray, List.set_cons_zero, List.set_cons_succ]))
        refine HavG.det (fun _ => rfl) (.bool true) (fun x w hw _ => ?_) ?_
        · have HW := Lib.hid hw
          clear hw
          go_simp
          refine (HP.out _).mono ?_
          rintro e w' ⟨rfl, hb⟩
          exact ⟨rfl, hb⟩
        simp only [Act.put, List.setIfInBounds_toArray, List.set_cons_zero, List.set_cons_succ]
        repeat (first
          | (refine HavG.skip (fun _ => rfl) ?_; simp only [Act.put, List.setIfInBounds_toArray, List.set_cons_zero, List.set_cons_succ])
          | (refine HavG.val (fun _ => rfl) ?_ (fun x w hw _ => ?_) ?_; rotate_left; (focus (have hc := hw.cells; clear hw; go_simp; first | done | rfl)); simp only [Act.put, List.setIfInBounds_toArray, List.set_cons_zero, List.set_cons_succ]))
        refine HavG.tail (by kernel_rfl) (by kernel_rfl) (fun x wz hw _ => ?_)
        have HW := Lib.hid hw
        clear hw
        go_wp2_with fail
        go_meet
        exact ⟨rfl, HR9.out.grew HW.out⟩
    case rest =>
      obtain ⟨rfl, hcut⟩ := hcut
      have HR10 := Lib.hid hcut
      clear hcut HR9
      obtain ⟨w10, rfl⟩ : ∃ z, z = wc := ⟨_, rfl⟩
      generalize hD : (g.rules[i].parser && at2 M i i) = D1 at *
      have HD1 := Lib.hid hD
      clear hD
      go_upto_if 48 with fail
      go_cut [] (fun wx => RuleAtHand g es M N base cb c (LC ++ (if D1 = true then [⟨4, i, g.rules[i].name⟩] else [])) W wx t i)
      case first =>
        have hr := HR10.out
        have p1 := hr.b1.cell_at (i := 0) rfl
        have p2 := hr.b2.cell_at (i := 0) rfl
        have l1 := hr.b1.lt
        have l2 := hr.b2.lt
        have lc : cb < w10.heap.size := by have := hr.cbl; have := hr.told.low.size; omega
        obtain ⟨_, v2, v3, v4, v5, v6, hrb⟩ := hr.rule
        have lr := hrb.lt
        have r0 := hrb.cell_at (i := 0) rfl
        have r1 := hrb.cell_at (i := 1) rfl
        have r2 := hrb.cell_at (i := 2) rfl
        have r3 := hrb.cell_at (i := 3) rfl
        have r4 := hrb.cell_at (i := 4) rfl
        have r5 := hrb.cell_at (i := 5) rfl
        have r6 := hrb.cell_at (i := 6) rfl
        have r7 := hrb.cell_at (i := 7) rfl
        have r8 := hrb.cell_at (i := 8) rfl
        have r9 := hrb.cell_at (i := 9) rfl
        obtain ⟨_, vv, hco, _⟩ := hr.chk
        clear hco hrb
        clear hr
        cases D1
        · go_wp2_with fail
          go_meet
          have := HR10.out
          simpa using this
        · have HT := Lib.hid (tell_ok base cb c _ w10 HR10.out.chk (by omega) 4 i g.rules[i].name)
          go_wp2_with fail
          refine HT.out.mono ?_
          rintro e w99 ⟨⟨v99, rfl⟩, hC99, hT99⟩
          go_wp2_with fail
          go_meet
          have := HR10.out.more hC99 hT99
          simpa using this
      case rest =>
        have HR11 := Lib.hid hcut
        have hLLD : (LC ++ (if D1 = true then [(⟨4, i, g.rules[i].name⟩ : Prob)] else [])).length ≤ L.length + 2 + 2 * g.rules[i].body.all.length := by split <;> simp <;> omega
        clear hcut HR10
        generalize hLe : LC ++ (if D1 = true then [(⟨4, i, g.rules[i].name⟩ : Prob)] else []) = LD at *
        have HLD := Lib.hid hLe
        clear hLe
        obtain ⟨wHR11, rfl⟩ : ∃ z, z = wc := ⟨_, rfl⟩
        go_upto_region 8 with fail
        have hr := HR11.out
        have p1 := hr.b1.cell_at (i := 0) rfl
        have p2 := hr.b2.cell_at (i := 0) rfl
        have l1 := hr.b1.lt
        have l2 := hr.b2.lt
        have lc : cb < wHR11.heap.size := by have := hr.cbl; have := hr.told.low.size; omega
        obtain ⟨_, vv, hco, _⟩ := hr.chk
        obtain ⟨Bq, qb, fq, hc5, hm5⟩ := hr.mem.round
        have pc5 : wHR11.cell? ⟨cb, 6, none⟩ = some (.slice (some ⟨qb, 0, none⟩) g.rules.length g.rules.length) := by rw [← hc5]; exact hco.cell_at (i := 6) (v := c.c6) rfl
        have pq1 := hm5.row hi
        have pq2 := hm5.cell hi hi
        have lq1 := hm5.r.lt
        have lq2 := (hm5.rows i hi).lt
        clear hc5 hm5
        clear hco
        clear hr
        refine wp_region_hav_lit follows (by kernel_rfl) ?_
        repeat (first
          | (refine HavG.skip (fun _ => rfl) ?_; simp only [Act.put, List.setIfInBounds_toArray, List.set_cons_zero, List.set_cons_succ])
          | (refine HavG.val (fun _ => rfl) ?_ (fun x w hw _ => ?_) ?_; rotate_left; (focus (have hc := hw.cells; clear hw; go_simp; first | done | rfl)); simp only [Act.put, List.setIfInBounds_toArray, List.set_cons_zero, List.set_cons_succ]))
        refine HavG.tail (by kernel_rfl) (by kernel_rfl) (fun x w12 hw _ => ?_)
        have HR12 := Lib.hid (HR11.out.grew hw)
        clear hw HR11 p1 p2 l1 l2 lc pc5 pq1 pq2 lq1 lq2
        generalize hD : at2 N i i = D2 at *
        have HD2 := Lib.hid hD
        clear hD
        go_upto_if 63 with fail
        go_cut [] (fun wx => RuleAtHand g es M N base cb c (LD ++ (if D2 = true then [⟨5, i, g.rules[i].name⟩] else [])) W wx t i)
        case first =>
          have hr := HR12.out
          have p1 := hr.b1.cell_at (i := 0) rfl
          have p2 := hr.b2.cell_at (i := 0) rfl
          have l1 := hr.b1.lt
          have l2 := hr.b2.lt
          have lc : cb < w12.heap.size := by have := hr.cbl; have := hr.told.low.size; omega
          obtain ⟨_, v2, v3, v4, v5, v6, hrb⟩ := hr.rule
          have lr := hrb.lt
          have r0 := hrb.cell_at (i := 0) rfl
          have r1 := hrb.cell_at (i := 1) rfl
          have r2 := hrb.cell_at (i := 2) rfl
          have r3 := hrb.cell_at (i := 3) rfl
          have r4 := hrb.cell_at (i := 4) rfl
          have r5 := hrb.cell_at (i := 5) rfl
          have r6 := hrb.cell_at (i := 6) rfl
          have r7 := hrb.cell_at (i := 7) rfl
          have r8 := hrb.cell_at (i := 8) rfl
          have r9 := hrb.cell_at (i := 9) rfl
          obtain ⟨_, vv, hco, _⟩ := hr.chk
          clear hco hrb
          clear hr
          cases D2
          · go_wp2_with fail
            go_meet
            have := HR12.out
            simpa using this
          · have HT := Lib.hid (tell_ok base cb c _ w12 HR12.out.chk (by omega) 5 i g.rules[i].name)
            go_wp2_with fail
            refine HT.out.mono ?_
            rintro e w99 ⟨⟨v99, rfl⟩, hC99, hT99⟩
            go_wp2_with fail
            go_meet
            have := HR12.out.more hC99 hT99
            simpa using this
        case rest =>
          have HR13 := Lib.hid hcut
          have hLLE : (LD ++ (if D2 = true then [(⟨5, i, g.rules[i].name⟩ : Prob)] else [])).length ≤ L.length + 3 + 2 * g.rules[i].body.all.length := by split <;> simp <;> omega
          clear hcut HR12
          generalize hLe : LD ++ (if D2 = true then [(⟨5, i, g.rules[i].name⟩ : Prob)] else []) = LE at *
          have HLE := Lib.hid hLe
          clear hLe
          obtain ⟨wHR13, rfl⟩ : ∃ z, z = wc := ⟨_, rfl⟩
          have hr := HR13.out
          have p1 := hr.b1.cell_at (i := 0) rfl
          have p2 := hr.b2.cell_at (i := 0) rfl
          have l1 := hr.b1.lt
          have l2 := hr.b2.lt
          have lc : cb < wHR13.heap.size := by have := hr.cbl; have := hr.told.low.size; omega
          obtain ⟨_, vv, hco, _⟩ := hr.chk
          clear hco
          clear hr
          have HA := Lib.hid (nodes_ok g base cb c LE wHR13 (by have := HR13.out.lo; have := HR13.out.told.low.size; omega) HR13.out.chk HR13.out.mem.gr i hi 6 (by omega) 66 enters_rule3 _ _ (HR13.out.asks3 hes hi) (by omega))
          go_wp2_with fail
          refine HA.out.mono ?_
          rintro e w14 ⟨⟨vw14, rfl⟩, hCn, hTn⟩
          have HR14 := Lib.hid (HR13.out.more hCn hTn)
          have hln := nodesTold_len i g.rules[i] 6 (g.loopBad es g.rules[i])
          have hLLF : (LE ++ nodesTold i g.rules[i] 6 (g.loopBad es g.rules[i])).length ≤ L.length + 3 + 3 * g.rules[i].body.all.length := by rw [List.length_append]; omega
          clear hCn hTn HA HR13 p1 p2 l1 l2 lc hln
          generalize hLe : LE ++ nodesTold i g.rules[i] 6 (g.loopBad es g.rules[i]) = LF at *
          have HLF := Lib.hid hLe
          clear hLe
          go_upto_region 11 with fail
          go_cut [89] (fun s89 wx => s89 = .bool (es.getD i false && (g.rules[i].sort == 1 || g.rules[i].sort == 3)) ∧ RuleAtHand g es M N base cb c LF W wx t i)
          case first =>
            have hr := HR14.out
            have p1 := hr.b1.cell_at (i := 0) rfl
            have p2 := hr.b2.cell_at (i := 0) rfl
            have l1 := hr.b1.lt
            have l2 := hr.b2.lt
            have lc : cb < w14.heap.size := by have := hr.cbl; have := hr.told.low.size; omega
            obtain ⟨_, v2, v3, v4, v5, v6, hrb⟩ := hr.rule
            have lr := hrb.lt
            have r0 := hrb.cell_at (i := 0) rfl
            have r1 := hrb.cell_at (i := 1) rfl
            have r2 := hrb.cell_at (i := 2) rfl
            have r3 := hrb.cell_at (i := 3) rfl
            have r4 := hrb.cell_at (i := 4) rfl
            have r5 := hrb.cell_at (i := 5) rfl
            have r6 := hrb.cell_at (i := 6) rfl
            have r7 := hrb.cell_at (i := 7) rfl
            have r8 := hrb.cell_at (i := 8) rfl
            have r9 := hrb.cell_at (i := 9) rfl
            obtain ⟨_, vv, hco, _⟩ := hr.chk
            obtain ⟨qb, hc5, hm5⟩ := hr.mem.empty
            have hel := hr.mem.el
            have pc5 : w14.cell? ⟨cb, 4, none⟩ = some (.slice (some ⟨qb, 0, none⟩) g.rules.length g.rules.length) := by rw [← hc5]; exact hco.cell_at (i := 4) (v := c.c4) rfl
            have pq1 : w14.cell? ⟨qb, i, none⟩ = some (.bool (es.getD i false)) := hm5.cell_at (by rw [List.getElem?_map, List.getElem?_eq_getElem (by omega), List.getD_eq_getElem?_getD, List.getElem?_eq_getElem (by omega)]; rfl)
            have lq1 := hm5.lt
            clear hc5 hm5 hel
            clear hco hrb
            clear hr
            generalize es.getD i false = ee at *
            cases ee
            · refine wp_region_hav_lit follows (by kernel_rfl) ?_
              repeat (first
                | (refine HavG.skip (fun _ => rfl) ?_; simp only [Act.put, List.setIfInBounds_toArray, List.set_cons_zero, List.set_cons_succ])
                | (refine HavG.val (fun _ => rfl) ?_ (fun x w hw _ => ?_) ?_; rotate_left; (focus (have hc := hw.cells; clear hw; go_simp; first | done | rfl)); simp only [Act.put, List.setIfInBounds_toArray, List.set_cons_zero, List.set_cons_succ]))
              refine HavG.tail (by kernel_rfl) (by kernel_rfl) (fun x wz hw _ => ?_)
              have HW := Lib.hid hw
              clear hw
              go_wp2_with fail
              go_meet
              exact ⟨rfl, HR14.out.grew HW.out⟩
            · by_cases h1 : g.rules[i].sort = 1
              · have e1 : (g.rules[i].sort == 1) = true := by rw [h1]; rfl
                refine wp_region_hav_lit follows (by kernel_rfl) ?_
                repeat (first
                  | (refine HavG.skip (fun _ => rfl) ?_; simp only [Act.put, List.setIfInBounds_toArray, List.set_cons_zero, List.set_cons_succ])
                  | (refine HavG.val (fun _ => rfl) ?_ (fun x w hw _ => ?_) ?_; rotate_left; (focus (have hc := hw.cells; clear hw; go_simp; first | done | rfl)); simp only [Act.put, List.setIfInBounds_toArray, List.set_cons_zero, List.set_cons_succ]))
                refine HavG.tail (by kernel_rfl) (by kernel_rfl) (fun x wz hw _ => ?_)
                have HW := Lib.hid hw
                clear hw
                go_wp2_with fail
                go_meet
                exact ⟨by rw [e1]; rfl, HR14.out.grew HW.out⟩
              · have e1 : (g.rules[i].sort == 1) = false := beq_eq_false_iff_ne.2 h1
                cases h3 : (g.rules[i].sort == 3)
                · refine wp_region_hav_lit follows (by kernel_rfl) ?_
                  repeat (first
                    | (refine HavG.skip (fun _ => rfl) ?_; simp only [Act.put, List.setIfInBounds_toArray, List.set_cons_zero, List.set_cons_succ])
                    | (refine HavG.val (fun _ => rfl) ?_ (fun x w hw _ => ?_) ?_; rotate_left; (focus (have hc := hw.cells; clear hw; go_simp; first | done | rfl)); simp only [Act.put, List.setIfInBounds_toArray, List.set_cons_zero, List.set_cons_succ]))
                  refine HavG.tail (by kernel_rfl) (by kernel_rfl) (fun x wz hw _ => ?_)
                  have HW := Lib.hid hw
                  clear hw
                  go_wp2_with fail
                  go_meet
                  exact ⟨by rw [e1, h3]; rfl, HR14.out.grew HW.out⟩
                · refine wp_region_hav_lit follows (by kernel_rfl) ?_
                  repeat (first
                    | (refine HavG.skip (fun _ => rfl) ?_; simp only [Act.put, List.setIfInBounds_toArray, List.set_cons_zero, List.set_cons_succ])
                    | (refine HavG.val (fun _ => rfl) ?_ (fun x w hw _ => ?_) ?_; rotate_left; (focus (have hc := hw.cells; clear hw; go_simp; first | done | rfl)); simp only [Act.put, List.setIfInBounds_toArray, List.set_cons_zero, List.set_cons_succ]))
                  refine HavG.tail (by kernel_rfl) (by kernel_rfl) (fun x wz hw _ => ?_)
                  have HW := Lib.hid hw
                  clear hw
                  go_wp2_with fail
                  go_meet
                  exact ⟨by rw [e1, h3]; rfl, HR14.out.grew HW.out⟩
          case rest =>
            obtain ⟨rfl, hcut⟩ := hcut
            have HR15 := Lib.hid hcut
            clear hcut HR14
            obtain ⟨w15, rfl⟩ : ∃ z, z = wc := ⟨_, rfl⟩
            generalize hD : (es.getD i false && (g.rules[i].sort == 1 || g.rules[i].sort == 3)) = D3 at *
            have HD3 := Lib.hid hD
            clear hD
            have hr := HR15.out
            have p1 := hr.b1.cell_at (i := 0) rfl
            have p2 := hr.b2.cell_at (i := 0) rfl
            have l1 := hr.b1.lt
            have l2 := hr.b2.lt
            have lc : cb < w15.heap.size := by have := hr.cbl; have := hr.told.low.size; omega
            obtain ⟨_, v2, v3, v4, v5, v6, hrb⟩ := hr.rule
            have lr := hrb.lt
            have r0 := hrb.cell_at (i := 0) rfl
            have r1 := hrb.cell_at (i := 1) rfl
            have r2 := hrb.cell_at (i := 2) rfl
            have r3 := hrb.cell_at (i := 3) rfl
            have r4 := hrb.cell_at (i := 4) rfl
            have r5 := hrb.cell_at (i := 5) rfl
            have r6 := hrb.cell_at (i := 6) rfl
            have r7 := hrb.cell_at (i := 7) rfl
            have r8 := hrb.cell_at (i := 8) rfl
            have r9 := hrb.cell_at (i := 9) rfl
            obtain ⟨_, vv, hco, _⟩ := hr.chk
            clear hco hrb
            clear hr
            cases D3
            · go_wp2_with fail
              go_end0
              refine ⟨⟨_, rfl⟩, ?_, HR15.out.told⟩
              have := HR15.out.chk
              rw [← HLF.out, ← HLE.out, ← HLD.out, ← HLC.out, ← HLB.out, ← HLA.out, ← HD0.out, ← HD1.out, ← HD2.out] at this
              unfold Gr.ruleTold
              rw [HD3.out]
              simpa [List.append_assoc] using this
            · have HT := Lib.hid (tell_ok base cb c _ w15 HR15.out.chk (by omega) 7 i g.rules[i].name)
              go_wp2_with fail
              refine HT.out.mono ?_
              rintro e w99 ⟨⟨v99, rfl⟩, hC99, hT99⟩
              go_wp2_with fail
              go_end0
              refine ⟨⟨_, rfl⟩, ?_, HR15.out.told.trans hT99⟩
              have := hC99
              rw [← HLF.out, ← HLE.out, ← HLD.out, ← HLC.out, ← HLB.out, ← HLA.out, ← HD0.out, ← HD1.out, ← HD2.out] at this
              unfold Gr.ruleTold
              rw [HD3.out]
              simpa [List.append_assoc] using this
end Go.Proofs.YtkinlcichclnkaaDoor
