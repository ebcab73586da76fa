/- checks.rounds: who goes on to whom, of rules that are no parser's. -/
import Derived.Test.YtkinlcichclnkaaDoorQT18
import Derived.Test.YtkinlcichclnkaaDoorQT30
import Derived.Test.YtkinlcichclnkaaDoorQT31
namespace Go.Proofs.YtkinlcichclnkaaDoor
open Go.RowKit Go.Shelf
attribute [local go_sem] Oper.semAt_some

def ChkVals.withRound (c : ChkVals) (v : Value) : ChkVals := { c with c6 := v }
/-- what rounds answers -/
def RoundsPost (g : Gr) (base cb : Nat) (c : ChkVals) (L : List Prob) (W : World) (e : Ending) (W' : World) : Prop :=
  (∃ v, e = .returned v) ∧ ∃ B rb f M, ChkAt W' base cb (c.withRound (.slice (some ⟨rb, 0, none⟩) g.rules.length g.rules.length)) L ∧ MatR W' B rb g.rules.length g.rules.length f (fun i => M.getD i []) ∧ IsReach g.rd0 g.rules.length M ∧ W.heap.size ≤ rb ∧ Upd cb W W'

/-- the marks of ended rounds among what is deferred -/
def Marked (w : World) (ds : List Deferred) (lo : Nat) : Prop := ∃ Ds : List Nat, ds = Ds.map (fun D => ⟨.collected D, #[]⟩) ∧ Ds.Nodup ∧ ∀ D ∈ Ds, lo ≤ D ∧ w.heap[D]? = some (.deferred (some []))
theorem Marked.keep {w w' : World} {ds : List Deferred} {lo : Nat} (h : Marked w ds lo) (hk : KeepsFrom lo w w') : Marked w' ds lo := by
  obtain ⟨Ds, h1, h2, h3⟩ := h
  exact ⟨Ds, h1, h2, fun D hD => ⟨(h3 D hD).1, hk.same D _ (h3 D hD).1 (h3 D hD).2 rfl⟩⟩
theorem Marked.more {w : World} {ds : List Deferred} {lo D n : Nat} (h : Marked w ds lo) (hD : w.heap[D]? = some (.deferred (some []))) (hlo : lo ≤ D) {w0 : World} (h0 : Marked w0 ds lo) (hn : w0.heap.size ≤ n) (hnD : n ≤ D) : Marked w (⟨.collected D, #[]⟩ :: ds) lo := by
  obtain ⟨Ds, h1, h2, h3⟩ := h
  obtain ⟨Ds', h1', h2', h3'⟩ := h0
  have he : Ds = Ds' := by
    have : Ds.map (fun D => (⟨.collected D, #[]⟩ : Deferred)) = Ds'.map (fun D => ⟨.collected D, #[]⟩) := h1.symm.trans h1'
    exact (List.map_inj_right (fun a b e => by cases e; rfl)).1 this
  subst he
  refine ⟨D :: Ds, by rw [h1]; rfl, List.nodup_cons.2 ⟨fun hm => ?_, h2⟩, fun E hE => ?_⟩
  · have := (Array.getElem?_eq_some_iff.1 (h3' D hm).2).1
    omega
  · rcases List.mem_cons.1 hE with rfl | hE
    · exact ⟨hlo, hD⟩
    · exact h3 E hE
theorem act_lit2 (a : Act) (n : Nat) (hs : a.tmps.size = n) : ∃ (u : Nat → Value) (ds : List Deferred), a.defers = ds ∧ (∀ k, a.tmps.getD k undef = u k) ∧ a = ⟨((List.range n).map u).toArray, ds⟩ := by
  refine ⟨fun k => a.tmps.getD k undef, a.defers, rfl, fun _ => rfl, ?_⟩
  obtain ⟨t, d⟩ := a
  simp only at hs
  congr 1
  apply Array.ext
  · simp [hs]
  · intro i h1 h2
    simp [h1]

theorem Grew.others {A B : World} (h : Grew A B) : KeepsOthers A B := ⟨h.size, fun k o hk _ => by rw [h.block k (Array.getElem?_eq_some_iff.1 hk).1]; exact hk⟩
theorem Upd.others {A B : World} {t T : Nat} {cs : List Value} (h : Upd t A B) (ho : Owns A t cs T) : KeepsOthers A B :=
  ⟨h.size, fun k o hk hc => by
    rw [h.block k (Array.getElem?_eq_some_iff.1 hk).1 (fun e => by
      subst e
      unfold Owns at ho
      rw [ho] at hk
      cases hk
      cases hc)]
    exact hk⟩
theorem Upd.low {A B C : World} {t : Nat} (h : Upd t A B) (hb : Below A.heap.size B C) : Upd t A C :=
  ⟨hb.os.trans h.os, hb.tape.trans h.tape, hb.output.trans h.output, Nat.le_trans h.size hb.size, fun k hk hn => (hb.block k hk).trans (h.block k hk hn)⟩
theorem ChkAt.upd {A B : World} {base cb t T : Nat} {c : ChkVals} {L : List Prob} {cs : List Value} (h : ChkAt A base cb c L) (hu : Upd t A B) (ho : Owns A t cs T) (hT : T ≠ 111) (hn : t ≠ cb) : ChkAt B base cb c L := by
  obtain ⟨hlo, v, hc, hr⟩ := h
  refine ⟨hlo, v, hc.upd hu (fun e => hn e.symm), hr.kept (w' := B) (row := some t) ⟨hu.os, hu.tape, hu.output, hu.size, fun k hk hne => hu.block k hk (fun e => hne (by rw [e]))⟩ (.inr fun hg => ?_)⟩
  obtain ⟨_, cs', h2⟩ := row_block hr hg
  unfold Owns at ho
  rw [ho] at h2
  cases h2
  exact hT rfl
theorem KpN.upd {A B : World} {base t : Nat} {cs : List Value} (h : Upd t A B) (ho : Owns A t cs 4) (hb : base ≤ t) : KpN base A B :=
  ⟨h.below hb (by have := ho.lt; omega), fun b cs' T f hb' hT => by
    rw [h.block b (Array.getElem?_eq_some_iff.1 hb').1 (fun e => by
      subst e
      unfold Owns at ho
      rw [ho] at hb'
      cases hb'
      rcases hT with h | h <;> cases h)]
    exact hb'⟩
theorem NodeAt.kind_eq {W : World} {lim : Nat} {c1 c2 c3 c4 : Option Value} {k : Int} {n : Nd} (h : NodeAt W lim (some (.int .u8 k)) c1 c2 c3 c4 n) : k = n.kind := by
  obtain ⟨k', nm', tx, set, subs⟩ := n
  rw [NodeAt] at h
  obtain ⟨-, -, -, h, -⟩ := h
  have := Option.some.inj h
  injection this
theorem ownFrom_upd {β : Type} {t : Nat} {w : World} : OwnFrom w.heap.size (fun (_ : β) W => Upd t w W) :=
  fun _ W W' row hs hg hr => ⟨hg.os.trans hs.os, hg.tape.trans hs.tape, hg.output.trans hs.output, Nat.le_trans hs.size hg.size, fun k hk hn =>
    (hg.block k (Nat.lt_of_lt_of_le hk hs.size) (fun e => by have := (hr k e.symm).1; omega)).trans (hs.block k hk hn)⟩
theorem ownFrom_owns {β : Type} (B b T : Nat) (f : β → List Value) : OwnFrom B (fun (s : β) W => Owns W b (f s) T) :=
  fun _ _ _ _ hs hg hr => owns_turn hs hg (fun r e => (hr r e).2)
/-- a round that marks nothing -/
theorem rd_no {g : Gr} {r : Rl} {base t : Nat} {w0 w6 Wc We : World} {lim : Nat} {pre : List (NV w0 lim)} {x : NV w0 lim} {n : Nd} (hic : Owns Wc t ((g.rdMarks r (pre.map NV.n)).map .bool) 4) (hit : Upd t w6 Wc) (hg : Grew Wc We) (h6 : w6.heap.size ≤ Wc.heap.size) (_ : t < Wc.heap.size)
    (hb : base ≤ w6.heap.size) (hh : g.rdHit r n = false) (hx : x.n = n) :
    KeepsFrom w6.heap.size Wc We ∧ KpN base Wc We ∧ Owns We t ((g.rdMarks r ((pre ++ [x]).map NV.n)).map .bool) 4 ∧ Upd t w6 We := by
  refine ⟨hg.others.from _, KpN.grew hg (by omega), ?_, hit.trans (hg.upd t)⟩
  rw [List.map_append, List.map_cons, List.map_nil, rdMarks_snoc, hx]
  unfold Gr.rdMark
  rw [hh]
  exact hic.keep hg
/-- a round that marks a rule -/
theorem rd_yes {g : Gr} {r : Rl} {base t k : Nat} {w0 w6 Wc We : World} {lim : Nat} {pre : List (NV w0 lim)} {x : NV w0 lim} {n : Nd} (hic : Owns Wc t ((g.rdMarks r (pre.map NV.n)).map .bool) 4) (hit : Upd t w6 Wc) (hg : Grew Wc We) (h6 : w6.heap.size ≤ Wc.heap.size) (hbt : base ≤ t)
    (hb : base ≤ w6.heap.size) (hh : g.rdHit r n = true) (hf : g.find n.name = (k : Int)) (hx : x.n = n) :
    KeepsFrom w6.heap.size Wc (We.setCell ⟨t, k, none⟩ (.bool true)) ∧ KpN base Wc (We.setCell ⟨t, k, none⟩ (.bool true)) ∧ Owns (We.setCell ⟨t, k, none⟩ (.bool true)) t ((g.rdMarks r ((pre ++ [x]).map NV.n)).map .bool) 4 ∧ Upd t w6 (We.setCell ⟨t, k, none⟩ (.bool true)) := by
  have hu : Upd t We (We.setCell ⟨t, k, none⟩ (.bool true)) := (Upd.refl _ _).setCell _ _
  have hO := hic.keep hg
  refine ⟨(hg.others.trans (KeepsOthers.setCell _ _ _)).from _, (KpN.grew hg (by omega)).trans (KpN.upd hu hO hbt), ?_, hit.trans ((hg.upd t).trans hu)⟩
  rw [List.map_append, List.map_cons, List.map_nil, rdMarks_snoc, hx]
  unfold Gr.rdMark
  rw [if_pos hh, hf, Int.toNat_natCast, List.map_set]
  exact hO.set k _
/-- the world between two rounds of the first loop -/
structure RdW (g : Gr) (base cb : Nat) (c : ChkVals) (L : List Prob) (W : World) (rb j : Nat) (ds : List Deferred) (w : World) : Prop where
  chk : ChkAt w base cb (c.withRound (.slice (some ⟨rb, 0, none⟩) g.rules.length g.rules.length)) L
  upd : Upd cb W w
  box : Owns w W.heap.size [.pointer (some ⟨cb, 0, none⟩)] 99
  mat : ∃ f, MatR w (rb + 1) rb g.rules.length j f (fun i => g.rdM.getD i [])
  marks : Marked w ds W.heap.size
/-- the world between two steps of the last loops -/
structure RdX (g : Gr) (base cb : Nat) (c : ChkVals) (L : List Prob) (W : World) (rb : Nat) (f : Nat → Nat) (M : List (List Bool)) (ds : List Deferred) (w : World) : Prop where
  chk : ChkAt w base cb (c.withRound (.slice (some ⟨rb, 0, none⟩) g.rules.length g.rules.length)) L
  upd : Upd cb W w
  box : Owns w W.heap.size [.pointer (some ⟨cb, 0, none⟩)] 99
  mat : MatR w (rb + 1) rb g.rules.length g.rules.length f (fun i => M.getD i [])
  marks : Marked w ds W.heap.size
theorem RdX.heads {g : Gr} {base cb : Nat} {c : ChkVals} {L : List Prob} {W : World} {rb : Nat} {f : Nat → Nat} {M : List (List Bool)} {ds : List Deferred} {w : World} (h : RdX g base cb c L W rb f M ds w) :
    w.cell? ⟨W.heap.size, 0, none⟩ = some (.pointer (some ⟨cb, 0, none⟩)) ∧ w.cell? ⟨cb, 6, none⟩ = some (.slice (some ⟨rb, 0, none⟩) g.rules.length g.rules.length) := by
  obtain ⟨_, va, hco, _⟩ := h.chk
  exact ⟨h.box.cell_at (i := 0) rfl, hco.cell_at (i := 6) rfl⟩
theorem RdX.put {g : Gr} {base cb : Nat} {c : ChkVals} {L : List Prob} {W : World} {rb : Nat} {f : Nat → Nat} {M : List (List Bool)} {ds : List Deferred} {w wz : World} (h : RdX g base cb c L W rb f M ds w) (hg : Grew w wz) (hs : Square g.rules.length M) {i k : Nat} (hi : i < g.rules.length)
    (hlo : W.heap.size ≤ rb) (hcb : cb < W.heap.size) (b : Bool) : RdX g base cb c L W rb f (set2 M i k b) ds (wz.setCell ⟨f i, k, none⟩ (.bool b)) := by
  have hu : Upd (f i) wz (wz.setCell ⟨f i, k, none⟩ (.bool b)) := (Upd.refl _ _).setCell _ _
  have ho := (h.mat.rows i hi).keep hg
  have hl := h.mat.lo i hi
  have hz := h.upd.size
  have hgz := hg.size
  exact ⟨(h.chk.grew hg).upd hu ho (by decide) (by omega), h.upd.low ((hg.mono hz).trans (hu.below (by omega) (by omega))), (h.box.keep hg).upd hu (by omega), (h.mat.keep hg).put hs hi b, h.marks.keep ((hg.others.trans (hu.others ho)).from _)⟩
/-- only blocks that are no cells, and were not there, have turned -/
def Turned (lo : Nat) (w w' : World) : Prop := w'.os = w.os ∧ w'.tape = w.tape ∧ w'.output = w.output ∧ w.heap.size ≤ w'.heap.size ∧ ∀ (b : Nat) (o : Obj), w.heap[b]? = some o → (b < lo ∨ o.isCells = true) → w'.heap[b]? = some o
theorem Turned.owns {lo : Nat} {w w' : World} (h : Turned lo w w') {b T : Nat} {cs : List Value} (ho : Owns w b cs T) : Owns w' b cs T := h.2.2.2.2 b _ ho (.inr rfl)
theorem ChkAt.turned {lo : Nat} {w w' : World} {base cb : Nat} {c : ChkVals} {L : List Prob} (hc : ChkAt w base cb c L) (h : Turned lo w w') : ChkAt w' base cb c L := by
  obtain ⟨hlo, v, ho, hr⟩ := hc
  refine ⟨hlo, v, h.owns ho, hr.1, ?_⟩
  rcases hr.2 with h2 | ⟨g, cap, cur, h2, h3, h4, h5⟩
  · exact .inl h2
  · exact .inr ⟨g, cap, cur, h2, h3, h.2.2.2.2 g _ h4 (.inr rfl), h5⟩
theorem RdX.turned {g : Gr} {base cb : Nat} {c : ChkVals} {L : List Prob} {W : World} {rb : Nat} {f : Nat → Nat} {M : List (List Bool)} {ds : List Deferred} {w w' : World} (h : RdX g base cb c L W rb f M ds w) (ht : Turned W.heap.size w w') :
    ChkAt w' base cb (c.withRound (.slice (some ⟨rb, 0, none⟩) g.rules.length g.rules.length)) L ∧ MatR w' (rb + 1) rb g.rules.length g.rules.length f (fun i => M.getD i []) ∧ Upd cb W w' := by
  refine ⟨h.chk.turned ht, h.mat.of (fun b cs T _ ho => ht.owns ho), ?_⟩
  have hu := h.upd
  refine ⟨ht.1.trans hu.os, ht.2.1.trans hu.tape, ht.2.2.1.trans hu.output, Nat.le_trans hu.size ht.2.2.2.1, fun k hk hn => ?_⟩
  have h1 := hu.block k hk hn
  have h2 : W.heap[k]? = some W.heap[k] := Array.getElem?_eq_getElem hk
  rw [h2] at h1 ⊢
  exact ht.2.2.2.2 k _ h1 (.inl hk)
/-- a function that only marks of ended rounds are left to -/
theorem leaves_marked {P : Program} {fn : Func} {tmps : Array Value} {Q : Ending → World → Prop} {lo : Nat} (hr : fn.results = #[]) {ds : List Deferred} {w : World} (hm : Marked w ds lo) (h : ∀ w', Turned lo w w' → Q (.returned (.tuple #[])) w') : LeavesInM Fence.wide 9 P fn tmps Q ds .returning w := by
  obtain ⟨Ds, rfl, hnd, hD⟩ := hm
  have key : ∀ (Ds : List Nat) (w1 : World), Ds.Nodup → (∀ D ∈ Ds, lo ≤ D ∧ w1.heap[D]? = some (.deferred (some []))) → Turned lo w w1 → LeavesInM Fence.wide 9 P fn tmps Q (Ds.map fun D => ⟨.collected D, #[]⟩) .returning w1 := by
    intro Ds
    induction Ds with
    | nil => intro w1 _ _ ht; exact ⟨_, results_none hr _ _ _, h w1 ht⟩
    | cons D Ds ih =>
      intro w1 hn hD ht
      obtain ⟨hn1, hn2⟩ := List.nodup_cons.1 hn
      obtain ⟨hl, hDD⟩ := hD D (List.mem_cons_self ..)
      have hlt := (Array.getElem?_eq_some_iff.1 hDD).1
      refine ⟨by simp, .inl ⟨D, _, rfl, run_takeDeferred hDD, ih _ hn2 (fun E hE => ?_) ?_⟩⟩
      · obtain ⟨h1, h2⟩ := hD E (List.mem_cons_of_mem _ hE)
        exact ⟨h1, (World.putObj_heap_other (fun e => by subst e; exact hn1 hE)).trans h2⟩
      · obtain ⟨t1, t2, t3, t4, t5⟩ := ht
        have hg := grownBy_putObj' w1 D (.deferred none)
        refine ⟨hg.os.trans t1, hg.tape.trans t2, hg.output.trans t3, Nat.le_trans t4 hg.size, fun b o hb hbo => ?_⟩
        have h3 := t5 b o hb hbo
        refine (World.putObj_heap_other (fun e => ?_)).trans h3
        subst e
        rw [hDD] at h3
        cases h3
        rcases hbo with hbo | hbo
        · omega
        · cases hbo
  exact key Ds w hnd hD ⟨rfl, rfl, rfl, Nat.le_refl _, fun _ _ hb _ => hb⟩
/-- the frame between two rounds of the first loop -/
def RdI (g : Gr) (base cb : Nat) (c : ChkVals) (L : List Prob) (W : World) (ra : Option Addr) (rc rb : Nat) (a : Act) (w : World) : Prop :=
  a.tmps.size = 157 ∧ a.tmps.getD 1 undef = .pointer (some ⟨W.heap.size, 0, none⟩) ∧ a.tmps.getD 23 undef = .slice ra g.rules.length rc ∧ a.tmps.getD 24 undef = .int .i64 (g.rules.length : Int) ∧
  ∃ j : Nat, a.tmps.getD 25 undef = .int .i64 (j : Int) ∧ j ≤ g.rules.length ∧ RdW g base cb c L W rb j a.defers w

set_option maxHeartbeats 8000000 in
set_option maxRecDepth 100000 in
theorem rounds_ok (g : Gr) (base cb : Nat) (c : ChkVals) (L : List Prob) (W : World) (hbase : base ≤ W.heap.size) (hC : ChkAt W base cb c L) (hG : GrAt W base (some c.c0) (some c.c1) (some c.c2) (some c.c3) g) (hn : g.rules.length ≤ 1048576) :
    Calls Tryd.prog 45 #[.pointer (some ⟨cb, 0, none⟩)] W (RoundsPost g base cb c L W) := by
  have hmk := make_rows g.rules.length hn
  have hg1 := grew_alloc W (.cells #[.pointer (some ⟨cb, 0, none⟩)] 99)
  have o1 := Owns.alloc W [.pointer (some ⟨cb, 0, none⟩)] 99
  have hC1 := hC.grew hg1
  have hlo := hC.lo
  obtain ⟨_, v, hco, hcr⟩ := hC1
  have HGA := Lib.hid hG
  obtain ⟨q1, q2, q3, q4, q5, q6, ra, rc, q7, q8, q9⟩ := hG
  have pc := hco.cell_at (i := 3) (v := c.c3) rfl
  rw [Option.some.inj q7] at pc
  have p1 := o1.cell_at (i := 0) rfl
  have l1 := o1.lt
  have lc := hco.lt
  have c6 : Hid (∃ v, (W.alloc (.cells #[.pointer (some ⟨cb, 0, none⟩)] 99)).cell? ⟨cb, 6, none⟩ = some v) := ⟨_, hco.cell_at (i := 6) rfl⟩
  have hcw : cb < W.heap.size := by
    obtain ⟨_, _, ho, _⟩ := hC
    exact ho.lt
  have HC := Lib.hid hC
  have HCO := Lib.hid hco
  have HCR := Lib.hid hcr
  have HG1 := Lib.hid hg1
  have HO1 := Lib.hid o1
  have HQ9 := Lib.hid q9
  clear hC hco hcr hg1 o1 q9 q1 q2 q3 q4 q5 q6
  unfold reachN at q8
  refine calls_of_wp_marks Tryd.func45 rfl ?_
  simp only [Tryd.ntmps45, List.size_toArray, List.length_cons, List.length_nil, Nat.reduceAdd, Nat.reduceSub, Array.replicate_succ, Array.replicate_zero, List.push_toArray, List.append_toArray, List.nil_append, List.cons_append]
  go_wp2_with fail
  generalize W.alloc (.cells #[.pointer (some ⟨cb, 0, none⟩)] 99) = w1 at *
  refine wp_region_hav_lit follows (by kernel_rfl) ?_
  repeat (first
    | (refine HavG.skip (fun _ => rfl) ?_; simp only [Act.put, List.setIfInBounds_toArray, List.set_cons_zero, List.set_cons_succ])
    | (refine HavG.val (fun _ => rfl) ?_ (fun x w hw _ => ?_) ?_; rotate_left; (focus (have hc := hw.cells; clear hw; go_simp; first | done | rfl)); simp only [Act.put, List.setIfInBounds_toArray, List.set_cons_zero, List.set_cons_succ]))
  refine HavG.any (fun _ => rfl) (fun v w => ∃ t, v = .slice (some ⟨t, 0, none⟩) g.rules.length g.rules.length ∧ w1.heap.size ≤ t ∧ Owns w t (List.replicate g.rules.length (.slice none 0 0)) 52) ?_ (fun x w hw _ => ?_) ?_
  · rintro v w w' hg ⟨t, h1, h2, h3⟩
    exact ⟨t, h1, h2, h3.keep hg⟩
  · have HW := Lib.hid hw
    clear hw
    go_simp
    refine ⟨grew_alloc _ _, HW.out.size, ?_⟩
    have := Owns.alloc w (List.replicate g.rules.length (.slice none 0 0)) 52
    simpa using this
  simp only [Act.put, List.setIfInBounds_toArray, List.set_cons_zero, List.set_cons_succ]
  repeat (first
    | (refine HavG.skip (fun _ => rfl) ?_; simp only [Act.put, List.setIfInBounds_toArray, List.set_cons_zero, List.set_cons_succ])
    | (refine HavG.val (fun _ => rfl) ?_ (fun x w hw _ => ?_) ?_; rotate_left; (focus (have hc := hw.cells; clear hw; go_simp; first | done | rfl)); simp only [Act.put, List.setIfInBounds_toArray, List.set_cons_zero, List.set_cons_succ]))
  refine HavG.tail (by kernel_rfl) (by kernel_rfl) (fun x w hw hx => ?_)
  have hx' := hx _ (List.mem_append_right _ (List.mem_singleton.2 rfl))
  clear hx
  dsimp only at hx'
  generalize x (0 + 1 + 1 + 1 + 1 + 1 + 1 + 1) = y at *
  obtain ⟨rb, rfl, htl, hot⟩ := hx'
  have hgw := HG1.out.trans hw
  have hcow := HCO.out.keep hw
  have c6' := hcow.cell_at (i := 6) (v := c.c6) rfl
  have f6' := hcow.free 6
  have hcrw := HCR.out.kept (w' := w) (row := none) ⟨hw.os, hw.tape, hw.output, hw.size, fun k hk _ => hw.block k hk⟩ (by cases hv : v.ownBlock <;> simp)
  have hW1 := HG1.out.size
  have hW1' := HO1.out.lt
  have hwz := hw.size
  have hne : rb ≠ cb := by omega
  have hne2 : W.heap.size ≠ cb := by omega
  have hC3 : ChkAt (w.setCell ⟨cb, 6, none⟩ (.slice (some ⟨rb, 0, none⟩) g.rules.length g.rules.length)) base cb (c.withRound (.slice (some ⟨rb, 0, none⟩) g.rules.length g.rules.length)) L :=
    ⟨hlo, v, hcow.set 6 _, row_set hcrw hcow (by decide) 6 _⟩
  have hU3 : Upd cb W (w.setCell ⟨cb, 6, none⟩ (.slice (some ⟨rb, 0, none⟩) g.rules.length g.rules.length)) := (hgw.upd cb).setCell _ _
  have hR3 := hot.other (a := ⟨cb, 6, none⟩) (fun e => hne e.symm) (.slice (some ⟨rb, 0, none⟩) g.rules.length g.rules.length)
  have hB3 := (HO1.out.keep hw).other (a := ⟨cb, 6, none⟩) (fun e => hne2 e.symm) (.slice (some ⟨rb, 0, none⟩) g.rules.length g.rules.length)
  have hsz3 : W.heap.size < (w.setCell ⟨cb, 6, none⟩ (.slice (some ⟨rb, 0, none⟩) g.rules.length g.rules.length)).heap.size := by have := hB3.lt; omega
  have hrb3 := hR3.lt
  have hc3 : (w.setCell ⟨cb, 6, none⟩ (.slice (some ⟨rb, 0, none⟩) g.rules.length g.rules.length)).cell? ⟨cb, 3, none⟩ = some (.slice ra g.rules.length rc) := by
    rw [← Option.some.inj q7]
    obtain ⟨_, _, ho, _⟩ := hC3
    exact ho.cell_at (i := 3) rfl
  have hp3 := hB3.cell_at (i := 0) rfl
  have HC3 := Lib.hid hC3
  have HU3 := Lib.hid hU3
  have HR3 := Lib.hid hR3
  have HB3 := Lib.hid hB3
  have hrbW : W.heap.size ≤ rb := by omega
  clear hgw hcow hcrw hw hot hC3 hU3 hR3 hB3 HO1 HG1 HCO HCR p1 pc c6 lc l1 hmk
  go_wp2_with fail
  generalize w.setCell ⟨cb, 6, none⟩ (.slice (some ⟨rb, 0, none⟩) g.rules.length g.rules.length) = w3 at *
  clear w HC x c6' f6' hwz
  refine wp_loop (RdI g base cb c L W ra rc rb) (fun a _ => g.rules.length - (intOf (a.tmps.getD 25 undef)).toNat) ⟨rfl, rfl, rfl, rfl, 0, rfl, Nat.zero_le _, HC3.out, HU3.out, HB3.out, ⟨fun _ => 0, by rw [rowsL_zero]; exact HR3.out, fun i hi => absurd hi (by omega), fun i hi => absurd hi (by omega), fun i k hi => absurd hi (by omega), fun i hi => absurd hi (by omega), Nat.lt_succ_self _, Nat.zero_le _⟩, [], rfl, List.nodup_nil, fun D hD => by cases hD⟩ ?_
  clear HC3 HU3 HR3 HB3 hsz3 hrb3 hc3 hp3 w3
  intro a w hI
  obtain ⟨hs, h1, h23, h24, j, h25, hj, hw⟩ := hI
  rw [h25]
  obtain ⟨u, ds, hds, hu, rfl⟩ := act_lit2 a 157 hs
  rw [hu] at h1 h23 h24 h25
  rw [hds] at hw
  clear hu hs hds
  simp only [List.range, List.range.loop, List.map_cons, List.map_nil, h1, h23, h24, h25]
  clear h1 h23 h24 h25
  have HW := Lib.hid hw
  clear hw
  by_cases hlt : j < g.rules.length
  · have hww := HW.out
    obtain ⟨hchk, hupd, hbox, ⟨f, hmat⟩, hmark⟩ := hww
    have hWs : W.heap.size ≤ w.heap.size := hupd.size
    have hbW : Below base W w := hupd.below hlo (by omega)
    obtain ⟨b, off, rfl, hb, hrule⟩ := (HQ9.out.keep hbW).get hlt
    simp only [Nat.zero_add] at hrule
    obtain ⟨u2, u3, u4, u5, u6, e0, e1, e2, e3, e4, e5, e6, e7, e8, e9, hrule, hnode⟩ := hrule.vals
    obtain ⟨bk, bnm, btx, bsa, bsl, bsc, bna, bnl, bnc, rfl, rfl, rfl, rfl, rfl⟩ := hnode.forms
    have HN := Lib.hid hnode
    have hg1 := grew_alloc w (.cells #[.int .i64 (j : Int)] 3)
    have ho1 := Owns.alloc w [.int .i64 (j : Int)] 3
    have hg2 := grew_alloc (w.alloc (.cells #[.int .i64 (j : Int)] 3)) (.cells #[.string g.rules[j].name, .int .u8 g.rules[j].sort, .int .u8 bk, .string bnm, .string btx, .slice bsa bsl bsc, .slice bna bnl bnc, .int .i64 g.rules[j].p0, .int .i64 g.rules[j].p1, .int .i64 g.rules[j].p2] 38)
    have ho2 := Owns.alloc (w.alloc (.cells #[.int .i64 (j : Int)] 3)) [.string g.rules[j].name, .int .u8 g.rules[j].sort, .int .u8 bk, .string bnm, .string btx, .slice bsa bsl bsc, .slice bna bnl bnc, .int .i64 g.rules[j].p0, .int .i64 g.rules[j].p1, .int .i64 g.rules[j].p2] 38
    have e1' : (w.alloc (.cells #[.int .i64 (j : Int)] 3)).heap.size = w.heap.size + 1 := by simp
    rw [e1'] at ho2
    clear e1'
    have HO1 := Lib.hid (ho1.keep hg2)
    have HO2 := Lib.hid ho2
    have HG2 := Lib.hid (hg1.trans hg2)
    have hmb := make_bools g.rules.length q8
    clear ho1 ho2 hg1 hg2 hrule hnode
    have HCHK := Lib.hid hchk
    have HBOX := Lib.hid hbox
    have HMAT := Lib.hid hmat
    have HMARK := Lib.hid hmark
    have HUPD := Lib.hid hupd
    clear hchk hbox hmat hmark hupd HW
    go_wp2_with fail
    clear e0 e1 e2 e3 e4 e5 e6 e7 e8 e9
    generalize (w.alloc (.cells #[.int .i64 (j : Int)] 3)).alloc (.cells #[.string g.rules[j].name, .int .u8 g.rules[j].sort, .int .u8 bk, .string bnm, .string btx, .slice bsa bsl bsc, .slice bna bnl bnc, .int .i64 g.rules[j].p0, .int .i64 g.rules[j].p1, .int .i64 g.rules[j].p2] 38) = wA at *
    have hboxA := HBOX.out.keep HG2.out
    have hchkA := HCHK.out.grew HG2.out
    have hmatA := HMAT.out.keep HG2.out
    obtain ⟨_, va, hcoA, hcrA⟩ := hchkA
    have p1 := hboxA.cell_at (i := 0) rfl
    have l1 := hboxA.lt
    have p3 := hcoA.cell_at (i := 3) (v := c.c3) rfl
    rw [Option.some.inj q7] at p3
    have p6 : wA.cell? ⟨cb, 6, none⟩ = some (.slice (some ⟨rb, 0, none⟩) g.rules.length g.rules.length) := hcoA.cell_at (i := 6) rfl
    have lc := hcoA.lt
    have pi := HO1.out.cell_at (i := 0) rfl
    have li := HO1.out.lt
    have HMA := Lib.hid hmatA
    have HBA := Lib.hid hboxA
    have HCA : Hid (ChkAt wA base cb (c.withRound (.slice (some ⟨rb, 0, none⟩) g.rules.length g.rules.length)) L) := ⟨hlo, va, hcoA, hcrA⟩
    clear hboxA hmatA hcoA hcrA
    refine wp_region_hav_lit follows (by kernel_rfl) ?_
    repeat (first
      | (refine HavG.skip (fun _ => rfl) ?_; simp only [Act.put, List.setIfInBounds_toArray, List.set_cons_zero, List.set_cons_succ])
      | (refine HavG.val (fun _ => rfl) ?_ (fun x w hw _ => ?_) ?_; rotate_left; (focus (have hc := hw.cells; clear hw; go_simp; first | done | rfl)); simp only [Act.put, List.setIfInBounds_toArray, List.set_cons_zero, List.set_cons_succ]))
    refine HavG.any (fun _ => rfl) (fun v w => ∃ t, v = .slice (some ⟨t, 0, none⟩) g.rules.length g.rules.length ∧ wA.heap.size ≤ t ∧ Owns w t (List.replicate g.rules.length (.bool false)) 4) ?_ (fun x w hw _ => ?_) ?_
    · rintro v w w' hg ⟨t, h1, h2, h3⟩
      exact ⟨t, h1, h2, h3.keep hg⟩
    · have HWW := Lib.hid hw
      clear hw
      go_simp
      refine ⟨grew_alloc _ _, HWW.out.size, ?_⟩
      have := Owns.alloc w (List.replicate g.rules.length (.bool false)) 4
      simpa using this
    simp only [Act.put, List.setIfInBounds_toArray, List.set_cons_zero, List.set_cons_succ]
    repeat (first
      | (refine HavG.skip (fun _ => rfl) ?_; simp only [Act.put, List.setIfInBounds_toArray, List.set_cons_zero, List.set_cons_succ])
      | (refine HavG.val (fun _ => rfl) ?_ (fun x w hw _ => ?_) ?_; rotate_left; (focus (have hc := hw.cells; clear hw; go_simp; first | done | rfl)); simp only [Act.put, List.setIfInBounds_toArray, List.set_cons_zero, List.set_cons_succ]))
    refine HavG.tail (by kernel_rfl) (by kernel_rfl) (fun x wm hw hx => ?_)
    have hx' := hx _ (List.mem_append_right _ (List.mem_singleton.2 rfl))
    clear hx
    dsimp only at hx'
    generalize x (0 + 1 + 1 + 1 + 1 + 1 + 1 + 1 + 1 + 1 + 1 + 1) = y at *
    obtain ⟨t, rfl, htA, hot⟩ := hx'
    have hmm := HMA.out.keep hw
    have hcr : wm.cell? ⟨rb, j, none⟩ = some (.slice none 0 0) := by rw [hmm.r.cell, rowsL_at _ _ _ _ hlt]; simp
    have hfr := hmm.r.free j
    have hrbl := hmm.r.lt
    have hwz := hw.size
    have hA2 := HG2.out.size
    have hrbA := HMAT.out.r.lt
    have hbxl := HBOX.out.lt
    have hrt : rb ≠ t := by omega
    have hrb1 : w.heap.size ≠ rb := by omega
    have hrb2 : w.heap.size + 1 ≠ rb := by have := HO2.out.lt; omega
    have hWB : Upd rb wm (wm.setCell ⟨rb, j, none⟩ (.slice (some ⟨t, 0, none⟩) g.rules.length g.rules.length)) := (Upd.refl _ _).setCell _ _
    have hAB : Upd rb wA (wm.setCell ⟨rb, j, none⟩ (.slice (some ⟨t, 0, none⟩) g.rules.length g.rules.length)) := (hw.upd rb).trans hWB
    have hOt := hot.upd hWB (fun e => hrt e.symm)
    have hO1 := HO1.out.upd hAB hrb1
    have hO2 := HO2.out.upd hAB hrb2
    have hCB := HCA.out.upd hAB (HMA.out.r) (by decide) hne
    have hRB : Owns (wm.setCell ⟨rb, j, none⟩ (.slice (some ⟨t, 0, none⟩) g.rules.length g.rules.length)) rb ((rowsL f g.rules.length j).set j (.slice (some ⟨t, 0, none⟩) g.rules.length g.rules.length)) 52 := hmm.r.set j _
    have HRB := Lib.hid hRB
    clear hRB
    have hmm' := Lib.hid hmm
    have HWM := Lib.hid hw
    have HAB := Lib.hid hAB
    have HOT := Lib.hid hOt
    have HCB := Lib.hid hCB
    have HO1B := Lib.hid hO1
    have HO2B := Lib.hid hO2
    have x2 := hO2.cell_at (i := 2) rfl
    have x3 := hO2.cell_at (i := 3) rfl
    have x4 := hO2.cell_at (i := 4) rfl
    have x5 := hO2.cell_at (i := 5) rfl
    have x6 := hO2.cell_at (i := 6) rfl
    clear hmm hw hWB hAB hOt hO1 hO2 hCB hot
    go_wp2_with fail
    have hszB : wm.heap.size = (wm.setCell ⟨rb, j, none⟩ (.slice (some ⟨t, 0, none⟩) g.rules.length g.rules.length)).heap.size := by simp [World.setCell]
    have HNX := Lib.hid (fun (W' : World) (l : List Bool) hu ho hl => hmm'.out.next (W' := W') (t := t) (l := l) hu ho hl (by omega) (fun i hi e => by have := (HMA.out.rows i hi).lt; omega) hlt)
    have hKm : KeepsOthers w (wm.setCell ⟨rb, j, none⟩ (.slice (some ⟨t, 0, none⟩) g.rules.length g.rules.length)) := (HG2.out.others.trans HWM.out.others).trans (KeepsOthers.setCell _ _ _)
    have HKM := Lib.hid hKm
    have HSB := Lib.hid hszB
    clear hKm hszB x2 x3 x4 x5 x6 p1 p3 p6 pi hmm' hcr hfr hmb
    generalize wm.setCell ⟨rb, j, none⟩ (.slice (some ⟨t, 0, none⟩) g.rules.length g.rules.length) = wB at *
    refine (callsIn_wide.1 (all_in Fence.wide (fun _ => trivial) rfl 3 _ _ _ _ _ _)).mono ?_
    rintro e w6 ⟨rfl, rfl⟩
    go_wp2_with fail
    have hBs : w.heap.size ≤ wB.heap.size := by have := HSB.out; omega
    have h56 := grew_alloc wB (.cells #[.int .u8 bk, .string bnm, .string btx, .slice bsa bsl bsc, .slice bna bnl bnc] 34)
    have hn6 := Owns.alloc wB [.int .u8 bk, .string bnm, .string btx, .slice bsa bsl bsc, .slice bna bnl bnc] 34
    have hO6 := HOT.out.keep h56
    have hr6 := HO2B.out.keep h56
    have hi6 := HO1B.out.keep h56
    have hc6 := HCB.out.grew h56
    have hb6 := (HBA.out.upd HAB.out (show W.heap.size ≠ rb by omega)).keep h56
    have hBw : Below base w wB := ((HG2.out.mono (by omega)).trans (HAB.out.below (by omega) (by omega)))
    have hk6 : KpN base w wB := ⟨hBw, fun b cs T fz hb' hT => by
      have h1 := (KpN.grew HG2.out (show base ≤ w.heap.size by omega)).box b cs T fz hb' hT
      rw [HAB.out.block b (Array.getElem?_eq_some_iff.1 h1).1 (fun e => by
        subst e
        have h2 := HMA.out.r
        unfold Owns at h2
        rw [h2] at h1
        cases h1
        rcases hT with h | h <;> cases h)]
      exact h1⟩
    have hk7 := hk6.trans (KpN.grew h56 (show base ≤ wB.heap.size by omega))
    have hK6 := HKM.out.trans h56.others
    have hj6 : wB.heap.size + 1 = (wB.alloc (.cells #[.int .u8 bk, .string bnm, .string btx, .slice bsa bsl bsc, .slice bna bnl bnc] 34)).heap.size := by simp
    generalize wB.alloc (.cells #[.int .u8 bk, .string bnm, .string btx, .slice bsa bsl bsc, .slice bna bnl bnc] 34) = w6 at *
    have hbw6 : base ≤ w.heap.size := by omega
    have hb66 : base ≤ w6.heap.size := by omega
    have hstops := all_stops Fence.wide rfl (fun _ => trivial) rfl 8 base wB.heap.size w w6 hbw6 hk7 g.rules[j].body _ _ _ _ _ HN.out hn6
    refine (wpIn_wide (n := 9)).1 ?_
    refine wpIn_rangeFunc_ownH (F := Fence.wide) rfl (by omega) (gf := 70) (lb := #[.pointer (some ⟨wB.heap.size, 0, none⟩)]) rfl trivial (enters_of Tryd.func70 (by kernel_rfl) rfl) hstops (fun h k => h.trans k) (kpn_turn hb66) (Below.refl _ _) (fun _ => rfl)
      (fun pre W' => Owns W' t ((g.rdMarks g.rules[j] (pre.map NV.n)).map .bool) 4 ∧ Upd t w6 W') (fun _ _ _ => False)
      (OwnFrom.and (ownFrom_owns _ _ _ _) ownFrom_upd) (fun _ _ _ _ _ hs _ _ => hs) ⟨by simpa [Gr.rdMarks] using hO6, Upd.refl _ _⟩
      (fun x a' W' => ∃ Bx, w6.heap.size ≤ Bx ∧ Owns W' Bx [x.v0, x.v1, x.v2, x.v3, x.v4] 34 ∧ a' = { tmps := #[u 0, .pointer (some ⟨W.heap.size, 0, none⟩), .pointer (some ⟨w.heap.size, 0, none⟩), .pointer (some ⟨w.heap.size + 1, 0, none⟩), .pointer (some ⟨Bx, 0, none⟩), u 5, u 6, u 7, u 8, u 9, u 10, u 11, u 12, u 13, u 14, u 15, u 16, u 17, u 18, u 19, u 20, u 21, u 22, .slice (some ⟨b, off, none⟩) g.rules.length rc, .int .i64 (g.rules.length : Int), .int .i64 (j : Int), .bool true, .int .i64 (j : Int), .pointer (some ⟨b, off + j * 10, none⟩), .agg #[.string g.rules[j].name, .int .u8 g.rules[j].sort, .int .u8 bk, .string bnm, .string btx, .slice bsa bsl bsc, .slice bna bnl bnc, .int .i64 g.rules[j].p0, .int .i64 g.rules[j].p1, .int .i64 g.rules[j].p2], .pointer (some ⟨cb, 0, none⟩), .pointer (some ⟨cb, 0, none⟩), .pointer (some ⟨cb, 6, none⟩), .slice (some ⟨rb, 0, none⟩) g.rules.length g.rules.length, .int .i64 (j : Int), .pointer (some ⟨cb, 0, none⟩), .pointer (some ⟨cb, 0, none⟩), .pointer (some ⟨cb, 0, none⟩), .pointer (some ⟨cb, 3, none⟩), .slice (some ⟨b, off, none⟩) g.rules.length rc, .int .i64 (g.rules.length : Int), .slice (some ⟨t, 0, none⟩) g.rules.length g.rules.length, .pointer (some ⟨rb, j, none⟩), .pointer (some ⟨w.heap.size + 1, 2, none⟩), .agg #[.int .u8 bk, .string bnm, .string btx, .slice bsa bsl bsc, .slice bna bnl bnc], .func (.func 70) #[] #[.pointer (some ⟨wB.heap.size, 0, none⟩)], .agg #[x.v0, x.v1, x.v2, x.v3, x.v4], u 47, u 48, u 49, u 50, u 51, u 52, u 53, u 54, u 55, u 56, u 57, u 58, u 59, u 60, u 61, u 62, u 63, u 64, u 65, u 66, u 67, u 68, u 69, u 70, u 71, u 72, u 73, u 74, u 75, u 76, u 77, u 78, u 79, u 80, u 81, u 82, u 83, u 84, u 85, u 86, u 87, u 88, u 89, u 90, u 91, u 92, u 93, u 94, u 95, u 96, u 97, u 98, u 99, u 100, u 101, u 102, u 103, u 104, u 105, u 106, u 107, u 108, u 109, u 110, u 111, u 112, u 113, u 114, u 115, u 116, u 117, u 118, u 119, u 120, u 121, u 122, u 123, u 124, u 125, u 126, u 127, u 128, u 129, u 130, u 131, u 132, u 133, u 134, u 135, u 136, u 137, u 138, u 139, u 140, u 141, u 142, u 143, u 144, u 145, u 146, u 147, u 148, u 149, u 150, u 151, u 152, u 153, u 154, u 155, u 156], defers := [] })
      (fun x a' _ X Y row hs hg hr => by obtain ⟨Bx, h1, h2, h3⟩ := hs; exact ⟨Bx, h1, owns_turn h2 hg (fun r e => (hr r e).2), h3⟩)
      ?assign ?body ?done ?stop
    case assign =>
      rintro l pre ⟨n, v0, v1, v2, v3, v4, hl⟩ Wc K ⟨hic, hit⟩ hK
      obtain ⟨k0, k1, k2, k3, k4, k5, k6, k7, k8, rfl, rfl, rfl, rfl, rfl⟩ := hl.forms
      have h6c : w6.heap.size ≤ Wc.heap.size := hit.size
      have hg' := grew_alloc Wc (.cells #[.int .u8 k0, .string k1, .string k2, .slice k3 k4 k5, .slice k6 k7 k8] 34)
      have hK' := Lib.hid (hK _ _ ((KeepsOthers.alloc _ _).from _) (KpN.grew hg' (by omega)) ⟨hic.keep hg', hit.trans (hg'.upd t)⟩ ⟨Wc.heap.size, h6c, Owns.alloc Wc [.int .u8 k0, .string k1, .string k2, .slice k3 k4 k5, .slice k6 k7 k8] 34, rfl⟩)
      clear hK hic hit hg'
      simp only [NV.enc] at *
      gi_wp2
      exact hK'.out
    case body =>
      rintro l pre ⟨n, v0, v1, v2, v3, v4, hl⟩ a' Wc hlo2 ⟨rr, hrr⟩ ⟨hic, hit⟩ ⟨Bx, hBx, hox, rfl⟩ hlen
      obtain ⟨k0, k1, k2, k3, k4, k5, k6, k7, k8, rfl, rfl, rfl, rfl, rfl⟩ := hl.forms
      have hs6 : w.heap.size ≤ w6.heap.size := by omega
      have h6c : w6.heap.size ≤ Wc.heap.size := hit.size
      have gb := hb6.upd hit (show W.heap.size ≠ t by omega)
      have gi := hi6.upd hit (show w.heap.size ≠ t by omega)
      have gr := hr6.upd hit (show w.heap.size + 1 ≠ t by have := HO2.out.lt; omega)
      have gR := (HRB.out.keep h56).upd hit hrt
      obtain ⟨_, vc, gc, _⟩ := hc6.upd hit hO6 (by decide) (show t ≠ cb by omega)
      have hBWc : Below base W Wc := (hbW.trans (hBw.trans (h56.mono (by omega)))).trans (hit.below (by omega) (by omega))
      have hGc : GrAt Wc Wc.heap.size (some c.c0) (some c.c1) (some c.c2) (some c.c3) g := (HGA.out.keep hBWc).mono (by omega)
      have hBWc' := hBWc
      have hnm := hl.name_eq
      have hkd : (NodeAt w base (some (.int .u8 k0)) (some (.string k1)) (some (.string k2)) (some (.slice k3 k4 k5)) (some (.slice k6 k7 k8)) n) := hl
      have HNm := Lib.hid (fun u => names_ok n u (.int .u8 k0) (.string k1) (.string k2) (.slice k3 k4 k5) (.slice k6 k7 k8) (by rw [hkd.kind_eq]))
      have HP := Lib.hid (fun u => parser_ok g.rules[j] u (.string g.rules[j].name) (.int .u8 g.rules[j].sort) (.int .u8 bk) (.string bnm) (.string btx) (.slice bsa bsl bsc) (.slice bna bnl bnc) (.int .i64 g.rules[j].p0) (.int .i64 g.rules[j].p1) (.int .i64 g.rules[j].p2) rfl)
      rw [q7] at hGc
      have HF := Lib.hid (fun u hg' => find_ok g k1 u c.c0 c.c1 c.c2 (.slice (some ⟨b, off, none⟩) g.rules.length rc) hg')
      have hhit : Hid (g.rdHit g.rules[j] n = (n.isName && (!g.rules[j].parser && (decide (0 ≤ g.find k1) && !(g.sortAt (g.find k1) == 0))))) := by unfold Hid Gr.rdHit; rw [hnm]
      have hhit2 : Hid (g.find n.name = g.find k1) := by unfold Hid; rw [hnm]
      have m1 := gb.lt
      have m2 := gi.lt
      have m3 := gr.lt
      have m4 := gc.lt
      have m5 := hox.lt
      have m6 := gR.lt
      have mt := hic.lt
      have pb := gb.cell_at (i := 0) rfl
      have pi := gi.cell_at (i := 0) rfl
      have r0 := gr.cell_at (i := 0) rfl
      have r1 := gr.cell_at (i := 1) rfl
      have r2 := gr.cell_at (i := 2) rfl
      have r3 := gr.cell_at (i := 3) rfl
      have r4 := gr.cell_at (i := 4) rfl
      have r5 := gr.cell_at (i := 5) rfl
      have r6 := gr.cell_at (i := 6) rfl
      have r7 := gr.cell_at (i := 7) rfl
      have r8 := gr.cell_at (i := 8) rfl
      have r9 := gr.cell_at (i := 9) rfl
      have pc0 : Wc.cell? ⟨cb, 0, none⟩ = some c.c0 := gc.cell_at (i := 0) rfl
      have pc1 : Wc.cell? ⟨cb, 1, none⟩ = some c.c1 := gc.cell_at (i := 1) rfl
      have pc2 : Wc.cell? ⟨cb, 2, none⟩ = some c.c2 := gc.cell_at (i := 2) rfl
      have pc3 : Wc.cell? ⟨cb, 3, none⟩ = some (.slice (some ⟨b, off, none⟩) g.rules.length rc) := (gc.cell_at (i := 3) (v := c.c3) rfl).trans q7
      have pc6 : Wc.cell? ⟨cb, 6, none⟩ = some (.slice (some ⟨rb, 0, none⟩) g.rules.length g.rules.length) := gc.cell_at (i := 6) rfl
      have x0 := hox.cell_at (i := 0) rfl
      have x1 := hox.cell_at (i := 1) rfl
      have x2 := hox.cell_at (i := 2) rfl
      have x3 := hox.cell_at (i := 3) rfl
      have x4 := hox.cell_at (i := 4) rfl
      have prj : Wc.cell? ⟨rb, j, none⟩ = some (.slice (some ⟨t, 0, none⟩) g.rules.length g.rules.length) := gR.cell_at (i := j) (by simp [rowsL, hlt])
      have HNM := Lib.hid hnm
      clear hnm
      have HG := Lib.hid hGc
      have HIC := Lib.hid hic
      have HIT := Lib.hid hit
      have HRR := Lib.hid hrr
      clear q7 gb gi gr gc gR hox hGc hkd hic hit hrr hstops hc6 hb6 hi6 hr6 hO6 h56 hn6 hk6 hk7 hK6 hBw hBWc hrule HWM HNX HKM HSB HMA HBA HCA HCB HAB HOT HRB HO1B HO2B HO1 HO2 HG2 HCHK HBOX HMAT HMARK HUPD
      rcases ixOf_cases g.rules (fun r => sameB r.name k1) with ⟨hi, _⟩ | ⟨k, hk, hi, _, _⟩
      · change g.find k1 = -1 at hi
        rw [hi] at HF hhit hhit2
        clear hi
        gi_wp2_with fail
        refine wpIn_region_hav_lit follows (by kernel_rfl) (by kernel_rfl) (by rintro ⟨_, _, h⟩; exact h) ?_
        repeat (first
          | (refine HavG.skip (fun _ => rfl) ?_; simp only [Act.put, List.setIfInBounds_toArray, List.set_cons_zero, List.set_cons_succ])
          | (refine HavG.val (fun _ => rfl) ?_ (fun x w hw _ => ?_) ?_; rotate_left; (focus (have hc := hw.cells; clear hw; go_simp; first | done | rfl)); simp only [Act.put, List.setIfInBounds_toArray, List.set_cons_zero, List.set_cons_succ]))
        refine HavG.det (fun _ => rfl) (.int .i64 (-1)) (fun x w hw _ => ?_) ?_
        · have HW := Lib.hid hw
          clear hw
          go_simp
          refine (HF.out _ ((HG.out.keep HW.out).mono HW.out.size)).mono ?_
          rintro e w' ⟨rfl, hb⟩
          exact ⟨rfl, hb⟩
        simp only [Act.put, List.setIfInBounds_toArray, List.set_cons_zero, List.set_cons_succ]
        repeat (first
          | (refine HavG.skip (fun _ => rfl) ?_; simp only [Act.put, List.setIfInBounds_toArray, List.set_cons_zero, List.set_cons_succ])
          | (refine HavG.val (fun _ => rfl) ?_ (fun x w hw _ => ?_) ?_; rotate_left; (focus (have hc := hw.cells; clear hw; go_simp; first | done | rfl)); simp only [Act.put, List.setIfInBounds_toArray, List.set_cons_zero, List.set_cons_succ]))
        refine HavG.tail (by kernel_rfl) (by kernel_rfl) (fun x Wd hw _ => ?_)
        have hd := hw.cells
        have HWD := Lib.hid hw
        clear hw
        go_wp2_with fail
        cases hin : n.isName
        · rw [hin] at HNm hhit
          gi_wp2_with fail
          (try refine ⟨trivial, ?_⟩)
          refine (CallsIn.inRound l (callsIn_wide.2 (HNm.out _))).mono ?_
          rintro e We ⟨rfl, hge⟩
          have hce := (HWD.out.trans hge).cells
          have HGe := Lib.hid (HWD.out.trans hge)
          clear hge
          gi_wp2_with fail
          repeat (refine ⟨trivial, ?_⟩; gi_wp2_with fail)
          exact rd_no (n := n) (x := ⟨n, _, _, _, _, _, hl⟩) HIC.out HIT.out HGe.out (by omega) (by omega) hb66 (by rw [hhit.out]; rfl) rfl
        · rw [hin] at HNm hhit
          gi_wp2_with fail
          (try refine ⟨trivial, ?_⟩)
          refine (CallsIn.inRound l (callsIn_wide.2 (HNm.out _))).mono ?_
          rintro e We ⟨rfl, hge⟩
          have hce := (HWD.out.trans hge).cells
          have HGe := Lib.hid (HWD.out.trans hge)
          clear hge
          cases hpp : g.rules[j].parser
          · rw [hpp] at HP hhit
            gi_wp2_with fail
            (try refine ⟨trivial, ?_⟩)
            refine (CallsIn.inRound l (callsIn_wide.2 (HP.out _))).mono ?_
            rintro e Wf ⟨rfl, hgf⟩
            have hcf := (HGe.out.trans hgf).cells
            have HGf := Lib.hid (HGe.out.trans hgf)
            clear hgf
            gi_wp2_with fail
            repeat (refine ⟨trivial, ?_⟩; gi_wp2_with fail)
            exact rd_no (n := n) (x := ⟨n, _, _, _, _, _, hl⟩) HIC.out HIT.out HGf.out (by omega) (by omega) hb66 (by rw [hhit.out]; rfl) rfl
          · rw [hpp] at HP hhit
            gi_wp2_with fail
            (try refine ⟨trivial, ?_⟩)
            refine (CallsIn.inRound l (callsIn_wide.2 (HP.out _))).mono ?_
            rintro e Wf ⟨rfl, hgf⟩
            have hcf := (HGe.out.trans hgf).cells
            have HGf := Lib.hid (HGe.out.trans hgf)
            clear hgf
            gi_wp2_with fail
            repeat (refine ⟨trivial, ?_⟩; gi_wp2_with fail)
            exact rd_no (n := n) (x := ⟨n, _, _, _, _, _, hl⟩) HIC.out HIT.out HGf.out (by omega) (by omega) hb66 (by rw [hhit.out]; rfl) rfl
      · change g.find k1 = (k : Int) at hi
        rw [hi, sortAt_nat g k hk] at hhit
        rw [hi] at HF hhit2
        clear hi
        have hru := (HQ9.out.keep hBWc').get hk
        simp only [Nat.zero_add] at hru
        obtain ⟨b2, off2, hbo, hb2, hru⟩ := hru
        obtain ⟨rfl, rfl⟩ : b = b2 ∧ off = off2 := by
          have := Option.some.inj hbo
          injection this with h1 h2
          exact ⟨h1, h2⟩
        obtain ⟨s2, s3, s4, s5, s6, d0, d1, d2, d3, d4, d5, d6, d7, d8, d9, -, hno⟩ := hru.vals
        obtain ⟨y0, y1, y2, y3, y4, y5, y6, y7, y8, rfl, rfl, rfl, rfl, rfl⟩ := hno.forms
        have hbc : b < Wc.heap.size := by omega
        have HPk := Lib.hid (fun u => parser_ok g.rules[k] u (.string g.rules[k].name) (.int .u8 g.rules[k].sort) (.int .u8 y0) (.string y1) (.string y2) (.slice y3 y4 y5) (.slice y6 y7 y8) (.int .i64 g.rules[k].p0) (.int .i64 g.rules[k].p1) (.int .i64 g.rules[k].p2) rfl)
        clear hru hno hbo
        gi_wp2_with fail
        refine wpIn_region_hav_lit follows (by kernel_rfl) (by kernel_rfl) (by rintro ⟨_, _, h⟩; exact h) ?_
        repeat (first
          | (refine HavG.skip (fun _ => rfl) ?_; simp only [Act.put, List.setIfInBounds_toArray, List.set_cons_zero, List.set_cons_succ])
          | (refine HavG.val (fun _ => rfl) ?_ (fun x w hw _ => ?_) ?_; rotate_left; (focus (have hc := hw.cells; clear hw; go_simp; first | done | rfl)); simp only [Act.put, List.setIfInBounds_toArray, List.set_cons_zero, List.set_cons_succ]))
        refine HavG.det (fun _ => rfl) (.int .i64 ((k : Int))) (fun x w hw _ => ?_) ?_
        · have HW := Lib.hid hw
          clear hw
          go_simp
          refine (HF.out _ ((HG.out.keep HW.out).mono HW.out.size)).mono ?_
          rintro e w' ⟨rfl, hb⟩
          exact ⟨rfl, hb⟩
        simp only [Act.put, List.setIfInBounds_toArray, List.set_cons_zero, List.set_cons_succ]
        repeat (first
          | (refine HavG.skip (fun _ => rfl) ?_; simp only [Act.put, List.setIfInBounds_toArray, List.set_cons_zero, List.set_cons_succ])
          | (refine HavG.val (fun _ => rfl) ?_ (fun x w hw _ => ?_) ?_; rotate_left; (focus (have hc := hw.cells; clear hw; go_simp; first | done | rfl)); simp only [Act.put, List.setIfInBounds_toArray, List.set_cons_zero, List.set_cons_succ]))
        refine HavG.tail (by kernel_rfl) (by kernel_rfl) (fun x Wd hw _ => ?_)
        have hd := hw.cells
        have HWD := Lib.hid hw
        clear hw
        go_wp2_with fail
        cases hin : n.isName
        · rw [hin] at HNm hhit
          gi_wp2_with fail
          (try refine ⟨trivial, ?_⟩)
          refine (CallsIn.inRound l (callsIn_wide.2 (HNm.out _))).mono ?_
          rintro e We ⟨rfl, hge⟩
          have hce := (HWD.out.trans hge).cells
          have HGe := Lib.hid (HWD.out.trans hge)
          clear hge
          gi_wp2_with fail
          repeat (refine ⟨trivial, ?_⟩; gi_wp2_with fail)
          exact rd_no (n := n) (x := ⟨n, _, _, _, _, _, hl⟩) HIC.out HIT.out HGe.out (by omega) (by omega) hb66 (by rw [hhit.out]; rfl) rfl
        · rw [hin] at HNm hhit
          gi_wp2_with fail
          (try refine ⟨trivial, ?_⟩)
          refine (CallsIn.inRound l (callsIn_wide.2 (HNm.out _))).mono ?_
          rintro e We ⟨rfl, hge⟩
          have hce := (HWD.out.trans hge).cells
          have HGe := Lib.hid (HWD.out.trans hge)
          clear hge
          cases hpp : g.rules[j].parser
          · rw [hpp] at HP hhit
            gi_wp2_with fail
            (try refine ⟨trivial, ?_⟩)
            refine (CallsIn.inRound l (callsIn_wide.2 (HP.out _))).mono ?_
            rintro e Wf ⟨rfl, hgf⟩
            have hcf := (HGe.out.trans hgf).cells
            have HGf := Lib.hid (HGe.out.trans hgf)
            clear hgf
            cases hpk : g.rules[k].parser
            · have hsk : Hid ((g.rules[k].sort == 0) = false) := hpk
              rw [hpk] at HPk
              gi_wp2_with fail
              (try refine ⟨trivial, ?_⟩)
              refine (CallsIn.inRound l (callsIn_wide.2 (HPk.out _))).mono ?_
              rintro e Wg ⟨rfl, hgg⟩
              have hcg := (HGf.out.trans hgg).cells
              have HGg := Lib.hid (HGf.out.trans hgg)
              clear hgg
              gi_wp2_with fail
              refine wpIn_region_hav_lit follows (by kernel_rfl) (by kernel_rfl) (by rintro ⟨_, _, h⟩; exact h) ?_
              repeat (first
                | (refine HavG.skip (fun _ => rfl) ?_; simp only [Act.put, List.setIfInBounds_toArray, List.set_cons_zero, List.set_cons_succ])
                | (refine HavG.val (fun _ => rfl) ?_ (fun x w hw _ => ?_) ?_; rotate_left; (focus (have hc := (HGg.out.trans hw).cells; clear hw; go_simp; first | done | rfl)); simp only [Act.put, List.setIfInBounds_toArray, List.set_cons_zero, List.set_cons_succ]))
              refine HavG.tail (by kernel_rfl) (by kernel_rfl) (fun x Wh hw _ => ?_)
              have hch := (HGg.out.trans hw).cells
              have hOh := HIC.out.keep (HGg.out.trans hw)
              have hfh := hOh.free k
              have hlh := rdMarks_length g g.rules[j] (pre.map NV.n)
              obtain ⟨bq, hth⟩ : ∃ bq : Bool, Wc.cell? ⟨t, k, none⟩ = some (.bool bq) := ⟨(g.rdMarks g.rules[j] (pre.map NV.n))[k]'(by omega), HIC.out.cell_at (by simp [hlh, hk])⟩
              have HGh := Lib.hid (HGg.out.trans hw)
              clear hw hOh hlh
              go_wp2_with fail
              exact rd_yes (n := n) (x := ⟨n, _, _, _, _, _, hl⟩) HIC.out HIT.out HGh.out (by omega) (by omega) hb66 (by rw [hhit.out, hsk.out]; simp) hhit2.out rfl
            · have hsk : Hid ((g.rules[k].sort == 0) = true) := hpk
              rw [hpk] at HPk
              gi_wp2_with fail
              (try refine ⟨trivial, ?_⟩)
              refine (CallsIn.inRound l (callsIn_wide.2 (HPk.out _))).mono ?_
              rintro e Wg ⟨rfl, hgg⟩
              have hcg := (HGf.out.trans hgg).cells
              have HGg := Lib.hid (HGf.out.trans hgg)
              clear hgg
              gi_wp2_with fail
              repeat (refine ⟨trivial, ?_⟩; gi_wp2_with fail)
              exact rd_no (n := n) (x := ⟨n, _, _, _, _, _, hl⟩) HIC.out HIT.out HGg.out (by omega) (by omega) hb66 (by rw [hhit.out]; rw [hsk.out]; simp) rfl
          · rw [hpp] at HP hhit
            gi_wp2_with fail
            (try refine ⟨trivial, ?_⟩)
            refine (CallsIn.inRound l (callsIn_wide.2 (HP.out _))).mono ?_
            rintro e Wf ⟨rfl, hgf⟩
            have hcf := (HGe.out.trans hgf).cells
            have HGf := Lib.hid (HGe.out.trans hgf)
            clear hgf
            gi_wp2_with fail
            repeat (refine ⟨trivial, ?_⟩; gi_wp2_with fail)
            exact rd_no (n := n) (x := ⟨n, _, _, _, _, _, hl⟩) HIC.out HIT.out HGf.out (by omega) (by omega) hb66 (by rw [hhit.out]; rfl) rfl
    case done =>
      rintro D ys W' hD hys ⟨hic, hit⟩ hK
      rw [hys] at hic
      have hs6 : w.heap.size ≤ w6.heap.size := by omega
      have hne3 : t ≠ cb := by omega
      have hne4 : W.heap.size ≠ t := by omega
      have hBW : Below W.heap.size w W' := (((HG2.out.mono hWs).trans (HAB.out.below hrbW (by omega))).trans (h56.mono (by omega))).trans (hit.below (by omega) (by omega))
      have hKF : KeepsOthers w W' := hK6.trans (hit.others hO6)
      have hmt : MatR W' (rb + 1) rb g.rules.length (j + 1) (fun k => if k = j then t else f k) (fun i => g.rdM.getD i []) := by
        refine (HNX.out W' _ ((h56.upd t).trans hit) hic (rdMarks_length ..)).congr fun k hk => ?_
        by_cases e : k = j
        · subst e
          rw [if_pos rfl, List.getD_eq_getElem?_getD]
          unfold Gr.rdM
          rw [List.getElem?_map, List.getElem?_eq_getElem hlt]
          rfl
        · rw [if_neg e]
      have hfin : RdW g base cb c L W rb (j + 1) (⟨.collected D, #[]⟩ :: ds) W' :=
        ⟨hc6.upd hit hO6 (by decide) hne3, HUPD.out.low hBW, hb6.upd hit hne4, ⟨_, hmt⟩, (HMARK.out.keep (hKF.from _)).more hK (by omega) HMARK.out (Nat.le_refl _) (by omega)⟩
      have HF := Lib.hid hfin
      clear hfin hmt hBW hKF hic hit
      go_wp2_with fail
      exact ⟨⟨rfl, rfl, rfl, rfl, j + 1, by go_num, by omega, HF.out⟩, by simp [intOf]; omega⟩
    case stop =>
      rintro D c' pre W' _ _ h _
      exact h.elim
  · have hjn : j = g.rules.length := by omega
    subst hjn
    have hww := HW.out
    obtain ⟨hchk, hupd, hbox, ⟨f, hmat⟩, hmark⟩ := hww
    have HX0 := Lib.hid (RdX.mk hchk hupd hbox hmat hmark)
    have hlo2 : W.heap.size ≤ rb := hrbW
    have p1 := hbox.cell_at (i := 0) rfl
    obtain ⟨_, va, hco, _⟩ := hchk
    have p6 : w.cell? ⟨cb, 6, none⟩ = some (.slice (some ⟨rb, 0, none⟩) g.rules.length g.rules.length) := hco.cell_at (i := 6) rfl
    clear hupd hbox hmat hmark hco HW
    go_wp2_with fail
    clear p1 p6
    go_loopw [92] (fun c1 wr => ∃ (q : Nat) (M : List (List Bool)), c1 = .int .i64 q ∧ q ≤ g.rules.length ∧ Hid (RdX g base cb c L W rb f M ds wr) ∧ Hid (Round g.rd0 g.rules.length M q 0 0)) (fun c1 _ => g.rules.length - (intOf c1).toNat)
    case atStart => exact ⟨0, _, rfl, by omega, HX0.out, Round.start (rdM_square g) (fun a b => rdM_iff g a b)⟩
    case round =>
      clear HX0
      obtain ⟨q, M, rfl, hq, hX, hRo⟩ := hrel
      obtain ⟨p1, p6⟩ := hX.out.heads
      by_cases hqn : q < g.rules.length
      · obtain ⟨wq, rfl⟩ : ∃ wq : World, wq = wr := ⟨_, rfl⟩
        go_wp2_with fail
        clear p1 p6
        go_loopw [100] (fun c1 wx => ∃ (i : Nat) (M : List (List Bool)), c1 = .int .i64 i ∧ i ≤ g.rules.length ∧ Hid (RdX g base cb c L W rb f M ds wx) ∧ Hid (Round g.rd0 g.rules.length M q i 0)) (fun c1 _ => g.rules.length - (intOf c1).toNat)
        case atStart => exact ⟨0, _, rfl, by omega, hX.out, hRo.out⟩
        case round =>
          clear hX hRo
          obtain ⟨i, M, rfl, hi, hX, hRo⟩ := hrel
          obtain ⟨p1, p6⟩ := hX.out.heads
          by_cases hin : i < g.rules.length
          · obtain ⟨wi, rfl⟩ : ∃ wi : World, wi = wr := ⟨_, rfl⟩
            go_wp2_with fail
            clear p1 p6
            go_loopw [108] (fun c1 wx => ∃ (k : Nat) (M : List (List Bool)), c1 = .int .i64 k ∧ k ≤ g.rules.length ∧ Hid (RdX g base cb c L W rb f M ds wx) ∧ Hid (Round g.rd0 g.rules.length M q i k)) (fun c1 _ => g.rules.length - (intOf c1).toNat)
            case atStart => exact ⟨0, _, rfl, by omega, hX.out, hRo.out⟩
            case round =>
              clear hX hRo
              obtain ⟨k, M, rfl, hk, hX, hRo⟩ := hrel
              by_cases hkn : k < g.rules.length
              · obtain ⟨p1, p6⟩ := hX.out.heads
                have hol := hX.out.box.lt
                have hcl : cb < wr.heap.size := by have := hX.out.upd.size; omega
                have hrl := hX.out.mat.r.lt
                have h1 := hX.out.mat.row hin
                have h2 := hX.out.mat.row hqn
                have h3 := hX.out.mat.cell hin hkn
                have h4 := hX.out.mat.cell hin hqn
                have h5 := hX.out.mat.cell hqn hkn
                have hl1 := (hX.out.mat.rows i hin).lt
                have hl2 := (hX.out.mat.rows q hqn).lt
                have hlo3 := hX.out.mat.lo i hin
                obtain ⟨ba, hba⟩ : ∃ ba, ba = at2 M i k := ⟨_, rfl⟩
                obtain ⟨bb, hbb⟩ : ∃ bb, bb = at2 M i q := ⟨_, rfl⟩
                obtain ⟨bc, hbc⟩ : ∃ bc, bc = at2 M q k := ⟨_, rfl⟩
                rw [← hba] at h3
                rw [← hbb] at h4
                rw [← hbc] at h5
                have hst := hRo.out.step hqn hin hkn
                rw [← hba, ← hbb, ← hbc] at hst
                have HST := Lib.hid hst
                have hRs0 := hRo.out.1
                clear hba hbb hbc hst hRo
                go_wp2_with fail
                refine wp_region_hav_lit follows (by kernel_rfl) ?_
                have hRs := Lib.hid hRs0
                clear hRs0
                cases ba
                · cases bb
                  · repeat (first
                      | (refine HavG.skip (fun _ => rfl) ?_; simp only [Act.put, List.setIfInBounds_toArray, List.set_cons_zero, List.set_cons_succ])
                      | (refine HavG.val (fun _ => rfl) ?_ (fun x w hw _ => ?_) ?_; rotate_left; (focus (have hc := hw.cells; clear hw; go_simp; first | done | rfl)); simp only [Act.put, List.setIfInBounds_toArray, List.set_cons_zero, List.set_cons_succ]))
                    refine HavG.tail (by kernel_rfl) (by kernel_rfl) (fun x wz hw _ => ?_)
                    have hc := hw.cells
                    have hfr : wz.frozen? ⟨f i, k, none⟩ = false := ((hX.out.mat.keep hw).rows i hin).free k
                    have HW := Lib.hid hw
                    clear hw
                    go_wp2_with fail
                    exact ⟨⟨k + 1, _, by go_num, by omega, hX.out.put HW.out hRs.out hin hlo2 (by omega) _, HST.out⟩, by simp [intOf]; omega⟩
                  · repeat (first
                      | (refine HavG.skip (fun _ => rfl) ?_; simp only [Act.put, List.setIfInBounds_toArray, List.set_cons_zero, List.set_cons_succ])
                      | (refine HavG.val (fun _ => rfl) ?_ (fun x w hw _ => ?_) ?_; rotate_left; (focus (have hc := hw.cells; clear hw; go_simp; first | done | rfl)); simp only [Act.put, List.setIfInBounds_toArray, List.set_cons_zero, List.set_cons_succ]))
                    refine HavG.tail (by kernel_rfl) (by kernel_rfl) (fun x wz hw _ => ?_)
                    have hc := hw.cells
                    have hfr : wz.frozen? ⟨f i, k, none⟩ = false := ((hX.out.mat.keep hw).rows i hin).free k
                    have HW := Lib.hid hw
                    clear hw
                    go_wp2_with fail
                    exact ⟨⟨k + 1, _, by go_num, by omega, hX.out.put HW.out hRs.out hin hlo2 (by omega) _, HST.out⟩, by simp [intOf]; omega⟩
                · repeat (first
                    | (refine HavG.skip (fun _ => rfl) ?_; simp only [Act.put, List.setIfInBounds_toArray, List.set_cons_zero, List.set_cons_succ])
                    | (refine HavG.val (fun _ => rfl) ?_ (fun x w hw _ => ?_) ?_; rotate_left; (focus (have hc := hw.cells; clear hw; go_simp; first | done | rfl)); simp only [Act.put, List.setIfInBounds_toArray, List.set_cons_zero, List.set_cons_succ]))
                  refine HavG.tail (by kernel_rfl) (by kernel_rfl) (fun x wz hw _ => ?_)
                  have hc := hw.cells
                  have hfr : wz.frozen? ⟨f i, k, none⟩ = false := ((hX.out.mat.keep hw).rows i hin).free k
                  have HW := Lib.hid hw
                  clear hw
                  go_wp2_with fail
                  exact ⟨⟨k + 1, _, by go_num, by omega, hX.out.put HW.out hRs.out hin hlo2 (by omega) _, HST.out⟩, by simp [intOf]; omega⟩
              · have hkk : k = g.rules.length := by omega
                subst hkk
                go_wp2_with fail
                exact ⟨⟨i + 1, M, by go_num, by omega, hX.out, hRo.out.row⟩, by simp [intOf]; omega⟩
          · have hii : i = g.rules.length := by omega
            subst hii
            go_wp2_with fail
            exact ⟨⟨q + 1, M, by go_num, by omega, hX.out, hRo.out.next⟩, by simp [intOf]; omega⟩
      · have hqq : q = g.rules.length := by omega
        subst hqq
        go_wp2_with fail
        refine leaves_marked (Q := RoundsPost g base cb c L W) (lo := W.heap.size) rfl hX.out.marks fun W' hW' => ?_
        obtain ⟨t1, t2, t3⟩ := hX.out.turned hW'
        exact ⟨⟨_, rfl⟩, rb + 1, rb, f, M, t1, t2, hRo.out.done (fun i k h => by obtain ⟨h1, h2, _⟩ := h; exact ⟨h1, h2⟩), hrbW, t3⟩
end Go.Proofs.YtkinlcichclnkaaDoor
