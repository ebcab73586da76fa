/- checks.nodes: what is told of a rule's nodes. -/
import Derived.Outline
import Derived.Test.YtkinlcichclnkaaDoorQT17
namespace Go.Proofs.YtkinlcichclnkaaDoor
open Go.RowKit Go.Shelf
attribute [local go_sem] Oper.semAt_some

theorem calls_of_wp_marks {f : FuncId} {fn : Func} {c : Code} {args : Array Value} {w : World} {R : Ending → World → Prop} {P : Program}
    (hf : P.funcs[f]? = some fn) (hb : fn.body = some c) (h : c.wp P (bodyPostM Fence.wide 9 P fn R) { tmps := args ++ Array.replicate (fn.ntmps - args.size) undef, defers := [] } w) : Calls P f args w R :=
  callsIn_wide.1 (callsIn_of_wp_marks (n := 9) hf hb trivial (wpIn_wide.2 h))

/-- what is asked of a node, whatever was told since -/
def Asks (W0 : World) (base cb : Nat) (c : ChkVals) (G : Nat) (cp : Array Value) (q : Nd → Bool) : Prop :=
  ∀ (n : Nd) (W : World) (L : List Prob) (v0 v1 v2 v3 v4 : Value), Told base cb W0 W → ChkAt W base cb c L → NodeAt W W.heap.size (some v0) (some v1) (some v2) (some v3) (some v4) n →
    Calls Tryd.prog G (#[.agg #[v0, v1, v2, v3, v4]] ++ cp) W fun e W' => e = .returned (.bool (q n)) ∧ Grew W W'

def toldOf (i : Nat) (r : Rl) (code : Int) (n : Nd) : Prob := ⟨code, i, if code = 6 then r.name else n.name⟩
theorem nodesTold_eq (i : Nat) (r : Rl) (code : Int) (q : Nd → Bool) : nodesTold i r code q = (r.body.all.filter q).map (toldOf i r code) := rfl

theorem kpn_turn {base : Nat} {w : World} (hn : base ≤ w.heap.size) (W : World) (l : Nat) (o o' : Obj) (hl : w.heap.size ≤ l) (h : W.heap[l]? = some o) (ho : o.isCells = false) (hw : o.isWalk = false) : KpN base W (W.putObj l o') :=
  ⟨belowK_b hn W l o o' hl h ho hw, fun b cs T f hb _ => by
    by_cases e : b = l
    · subst e
      rw [h] at hb
      cases hb
      cases ho
    · exact (World.putObj_heap_other e).trans hb⟩
theorem owns_turn {W W' : World} {row : Option Nat} {b T : Nat} {cs : List Value} (h : Owns W b cs T) (hg : W.grownBy W' row) (hr : ∀ r, row = some r → ∃ o : Obj, W.heap[r]? = some o ∧ o.isCells = false) : Owns W' b cs T := by
  unfold Owns at *
  rw [hg.block b (Array.getElem?_eq_some_iff.1 h).1 (fun e => by
    obtain ⟨o, h1, h2⟩ := hr b e.symm
    rw [h] at h1
    cases h1
    cases h2)]
  exact h
theorem ownFrom_told {β : Type} {base cb : Nat} {w : World} (hb : base ≤ w.heap.size) : OwnFrom w.heap.size (fun (_ : β) W => Told base cb w W) :=
  fun _ W W' row hs hg hr => ⟨hs.low.grown hg (by have := hs.low.size; omega) (fun k e => by have := (hr k e).1; omega), fun b o hb' hn hT => by
    have h1 := hs.block b o hb' hn hT
    have hlt := (Array.getElem?_eq_some_iff.1 hb').1
    rw [hg.block b (Array.getElem?_eq_some_iff.1 h1).1 (fun e => by have := (hr b e.symm).1; omega)]
    exact h1⟩
theorem ownFrom_chk {β : Type} (B base cb : Nat) (c : ChkVals) (f : β → List Prob) : OwnFrom B (fun (s : β) W => ChkAt W base cb c (f s)) :=
  fun _ W W' row hs hg hr => by
    obtain ⟨hlo, v, ho, hv⟩ := hs
    refine ⟨hlo, v, owns_turn ho hg (fun r e => (hr r e).2), hv.kept hg ?_⟩
    cases hvb : v.ownBlock with
    | none => exact .inl rfl
    | some g =>
      refine .inr fun e => ?_
      obtain ⟨_, cs, h2⟩ := row_block hv hvb
      obtain ⟨_, o, h3, h4⟩ := hr g e.symm
      rw [h2] at h3
      cases h3
      cases h4
theorem NodeAt.name_eq {W : World} {lim : Nat} {c0 c2 c3 c4 : Option Value} {nm : ByteArray} {n : Nd} (h : NodeAt W lim c0 (some (.string nm)) c2 c3 c4 n) : nm = n.name := by
  obtain ⟨k, nm', tx, set, subs⟩ := n
  rw [NodeAt] at h
  obtain ⟨-, -, -, -, h, -⟩ := h
  have := Option.some.inj h
  injection this
theorem ChkAt.cb_own {W : World} {base cb : Nat} {c : ChkVals} {L : List Prob} (h : ChkAt W base cb c L) : ∃ cs, Owns W cb cs 104 := by
  obtain ⟨_, v, ho, _⟩ := h
  exact ⟨_, ho⟩
theorem told_keeps {A B : World} {base cb : Nat} {c : ChkVals} {L : List Prob} (h : Told base cb A B) (hc : ChkAt A base cb c L) : KeepsOthers A B :=
  ⟨h.low.size, fun k o hk ho => h.block k o hk (fun e => by
    subst e
    obtain ⟨cs, hc⟩ := hc.cb_own
    unfold Owns at hc
    rw [hc] at hk
    cases hk
    cases ho) (fun cs f e => by subst e; cases ho)⟩
theorem told_kpn {A B : World} {base cb : Nat} {c : ChkVals} {L : List Prob} (h : Told base cb A B) (hc : ChkAt A base cb c L) : KpN base A B := by
  obtain ⟨cs, ho⟩ := hc.cb_own
  exact h.kpn (Nat.le_refl _) ho
/-- four boxes laid one behind the other -/
structure Boxes4 (W w : World) (a : List Value) (A : Nat) (b : List Value) (B : Nat) (c : List Value) (C : Nat) (d : List Value) (D : Nat) : Prop where
  grew : Grew W w
  o1 : Owns w W.heap.size a A
  o2 : Owns w (W.heap.size + 1) b B
  o3 : Owns w (W.heap.size + 1 + 1) c C
  o4 : Owns w (W.heap.size + 1 + 1 + 1) d D
  size : w.heap.size = W.heap.size + 1 + 1 + 1 + 1
theorem boxes4 (W : World) (a : List Value) (A : Nat) (b : List Value) (B : Nat) (c : List Value) (C : Nat) (d : List Value) (D : Nat) :
    Boxes4 W ((((W.alloc (.cells a.toArray A)).alloc (.cells b.toArray B)).alloc (.cells c.toArray C)).alloc (.cells d.toArray D)) a A b B c C d D := by
  have h1 := grew_alloc W (.cells a.toArray A)
  have h2 := grew_alloc (W.alloc (.cells a.toArray A)) (.cells b.toArray B)
  have h3 := grew_alloc ((W.alloc (.cells a.toArray A)).alloc (.cells b.toArray B)) (.cells c.toArray C)
  have h4 := grew_alloc (((W.alloc (.cells a.toArray A)).alloc (.cells b.toArray B)).alloc (.cells c.toArray C)) (.cells d.toArray D)
  have e1 := Owns.alloc W a A
  have e2 := Owns.alloc (W.alloc (.cells a.toArray A)) b B
  have e3 := Owns.alloc ((W.alloc (.cells a.toArray A)).alloc (.cells b.toArray B)) c C
  have e4 := Owns.alloc (((W.alloc (.cells a.toArray A)).alloc (.cells b.toArray B)).alloc (.cells c.toArray C)) d D
  simp only [World.size_alloc] at e2 e3 e4
  exact ⟨((h1.trans h2).trans h3).trans h4, ((e1.keep h2).keep h3).keep h4, (e2.keep h3).keep h4, e3.keep h4, e4, by simp⟩

set_option maxHeartbeats 8000000 in
set_option maxRecDepth 20000 in
theorem nodes_ok (g : Gr) (base cb : Nat) (c : ChkVals) (L : List Prob) (W : World) (hbase : base ≤ W.heap.size) (hC : ChkAt W base cb c L) (hG : GrAt W base (some c.c0) (some c.c1) (some c.c2) (some c.c3) g) (i : Nat) (hi : i < g.rules.length) (code : Int) (_hcode : 0 ≤ code ∧ code ≤ 255)
    (G : Nat) (hE : Enters G) (cp : Array Value) (q : Nd → Bool) (hA : Asks W base cb c G cp q) (hlen : L.length + g.rules[i].body.all.length ≤ 1000000) :
    Calls Tryd.prog 62 #[.pointer (some ⟨cb, 0, none⟩), .int .i64 (i : Int), .int .u8 code, .func (.func G) #[] cp] W fun e W' =>
      (∃ v, e = .returned v) ∧ ChkAt W' base cb c (L ++ nodesTold i g.rules[i] code q) ∧ Told base cb W W' := by
  have hw4 : Hid (Boxes4 W ((((W.alloc (.cells #[.pointer (some ⟨cb, 0, none⟩)] 99)).alloc (.cells #[.int .i64 (i : Int)] 3)).alloc (.cells #[.int .u8 code] 108)).alloc (.cells #[.func (.func G) #[] cp] 51)) [.pointer (some ⟨cb, 0, none⟩)] 99 [.int .i64 (i : Int)] 3 [.int .u8 code] 108 [.func (.func G) #[] cp] 51) := boxes4 W _ _ _ _ _ _ _ _
  refine calls_of_wp_marks Tryd.func62 rfl ?_
  simp only [Tryd.ntmps62, List.size_toArray, List.length_cons, List.length_nil, Nat.reduceAdd, Nat.reduceSub, Array.replicate_succ, Array.replicate_zero, List.push_toArray, List.append_toArray, List.nil_append, List.cons_append]
  have HA := Lib.hid hA
  clear hA
  go_wp2_with fail
  generalize (((W.alloc (.cells #[.pointer (some ⟨cb, 0, none⟩)] 99)).alloc (.cells #[.int .i64 (i : Int)] 3)).alloc (.cells #[.int .u8 code] 108)).alloc (.cells #[.func (.func G) #[] cp] 51) = w4 at *
  obtain ⟨hg4, o1, o2, o3, o4, hs4⟩ := hw4.out
  have hC4 := hC.grew hg4
  obtain ⟨_, v, hco, hcr⟩ := hC4
  obtain ⟨q1, q2, q3, q4, q5, q6, ra, rc, q7, q8, q9⟩ := hG
  obtain ⟨b, off, rfl, hb, hrule⟩ := (q9.keep (hg4.mono hbase)).get hi
  simp only [Nat.zero_add] at hrule
  obtain ⟨u2, u3, u4, u5, u6, e0, e1, e2, e3, e4, e5, e6, e7, e8, e9, hrule, hnode⟩ := hrule.vals
  obtain ⟨bk, bnm, btx, bsa, bsl, bsc, bna, bnl, bnc, rfl, rfl, rfl, rfl, rfl⟩ := hnode.forms
  have HN := Lib.hid hnode
  have p1 := o1.cell_at (i := 0) rfl
  have p2 := o2.cell_at (i := 0) rfl
  have l1 := o1.lt
  have l2 := o2.lt
  have lc := hco.lt
  have pc := hco.cell_at (i := 3) (v := c.c3) rfl
  rw [Option.some.inj q7] at pc
  have hbs : b < w4.heap.size := by omega
  have HS4 := Lib.hid hs4
  have HO1 := Lib.hid o1
  have HO2 := Lib.hid o2
  have HO3 := Lib.hid o3
  have HO4 := Lib.hid o4
  clear hs4
  have HC := Lib.hid hC
  clear hrule hnode q1 q2 q3 q4 q5 q6 q7 q9 hw4 hC hco hcr o1 o2 o3 o4 _hcode
  unfold reachN at q8
  refine wp_region_hav_lit follows (by kernel_rfl) ?_
  repeat (first
    | (refine HavG.skip (fun _ => rfl) ?_; simp only [Act.put, List.setIfInBounds_toArray, List.set_cons_zero, List.set_cons_succ])
    | (refine HavG.val (fun _ => rfl) ?_ (fun x w hw _ => ?_) ?_; rotate_left; (focus (have hc := hw.cells; clear hw; go_simp; first | done | rfl)); simp only [Act.put, List.setIfInBounds_toArray, List.set_cons_zero, List.set_cons_succ]))
  refine HavG.any (fun _ => rfl) (fun v w => ∃ t, v = .pointer (some ⟨t, 0, none⟩) ∧ w4.heap.size ≤ t ∧ Owns w t [.string ⟨#[]⟩, .int .u8 0, .int .u8 0, .string ⟨#[]⟩, .string ⟨#[]⟩, .slice none 0 0, .slice none 0 0, .int .i64 0, .int .i64 0, .int .i64 0] 38) ?_ (fun x w hw _ => ?_) ?_
  · rintro v w w' hg ⟨t, h1, h2, h3⟩
    exact ⟨t, h1, h2, h3.keep hg⟩
  · have HW := Lib.hid hw
    clear hw
    go_simp
    refine ⟨grew_alloc _ _, ?_⟩
    have := HW.out.size
    exact ⟨by simpa using this, Owns.alloc w _ _⟩
  simp only [Act.put, List.setIfInBounds_toArray, List.set_cons_zero, List.set_cons_succ]
  refine HavG.tail (by kernel_rfl) (by kernel_rfl) (fun x w hw hx => ?_)
  have hx' := hx _ (List.mem_append_right _ (List.mem_singleton.2 rfl))
  clear hx
  dsimp only at hx'
  generalize x (0 + 1 + 1 + 1 + 1 + 1 + 1 + 1 + 1) = y at *
  obtain ⟨t, rfl, htl, hot⟩ := hx'
  have t0 := hot.cell_at (i := 0) rfl
  have t1 := hot.cell_at (i := 1) rfl
  have t2 := hot.cell_at (i := 2) rfl
  have t3 := hot.cell_at (i := 3) rfl
  have t4 := hot.cell_at (i := 4) rfl
  have t5 := hot.cell_at (i := 5) rfl
  have t6 := hot.cell_at (i := 6) rfl
  have t7 := hot.cell_at (i := 7) rfl
  have t8 := hot.cell_at (i := 8) rfl
  have t9 := hot.cell_at (i := 9) rfl
  have f0 := hot.free 0
  have f1 := hot.free 1
  have f2 := hot.free 2
  have f3 := hot.free 3
  have f4 := hot.free 4
  have f5 := hot.free 5
  have f6 := hot.free 6
  have f7 := hot.free 7
  have f8 := hot.free 8
  have f9 := hot.free 9
  have HW := Lib.hid hw
  have HO := Lib.hid hot
  clear hw hot
  go_wp2_with fail
  have hO5 : Owns ((((((((((w.setCell ⟨t, 0, none⟩ (.string g.rules[i].name)).setCell ⟨t, 1, none⟩ (.int .u8 g.rules[i].sort)).setCell ⟨t, 2, none⟩ (.int .u8 bk)).setCell ⟨t, 3, none⟩ (.string bnm)).setCell ⟨t, 4, none⟩ (.string btx)).setCell ⟨t, 5, none⟩ (.slice bsa bsl bsc)).setCell ⟨t, 6, none⟩ (.slice bna bnl bnc)).setCell ⟨t, 7, none⟩ (.int .i64 g.rules[i].p0)).setCell ⟨t, 8, none⟩ (.int .i64 g.rules[i].p1)).setCell ⟨t, 9, none⟩ (.int .i64 g.rules[i].p2)) t [.string g.rules[i].name, .int .u8 g.rules[i].sort, .int .u8 bk, .string bnm, .string btx, .slice bsa bsl bsc, .slice bna bnl bnc, .int .i64 g.rules[i].p0, .int .i64 g.rules[i].p1, .int .i64 g.rules[i].p2] 38 := ((((((((((HO.out.set 0 (.string g.rules[i].name)).set 1 (.int .u8 g.rules[i].sort)).set 2 (.int .u8 bk)).set 3 (.string bnm)).set 4 (.string btx)).set 5 (.slice bsa bsl bsc)).set 6 (.slice bna bnl bnc)).set 7 (.int .i64 g.rules[i].p0)).set 8 (.int .i64 g.rules[i].p1)).set 9 (.int .i64 g.rules[i].p2))
  have hG5 : Grew w4 ((((((((((w.setCell ⟨t, 0, none⟩ (.string g.rules[i].name)).setCell ⟨t, 1, none⟩ (.int .u8 g.rules[i].sort)).setCell ⟨t, 2, none⟩ (.int .u8 bk)).setCell ⟨t, 3, none⟩ (.string bnm)).setCell ⟨t, 4, none⟩ (.string btx)).setCell ⟨t, 5, none⟩ (.slice bsa bsl bsc)).setCell ⟨t, 6, none⟩ (.slice bna bnl bnc)).setCell ⟨t, 7, none⟩ (.int .i64 g.rules[i].p0)).setCell ⟨t, 8, none⟩ (.int .i64 g.rules[i].p1)).setCell ⟨t, 9, none⟩ (.int .i64 g.rules[i].p2)) := (Below.setCell (Below.setCell (Below.setCell (Below.setCell (Below.setCell (Below.setCell (Below.setCell (Below.setCell (Below.setCell (Below.setCell HW.out (p := ⟨t, 0, none⟩) htl (.string g.rules[i].name)) (p := ⟨t, 1, none⟩) htl (.int .u8 g.rules[i].sort)) (p := ⟨t, 2, none⟩) htl (.int .u8 bk)) (p := ⟨t, 3, none⟩) htl (.string bnm)) (p := ⟨t, 4, none⟩) htl (.string btx)) (p := ⟨t, 5, none⟩) htl (.slice bsa bsl bsc)) (p := ⟨t, 6, none⟩) htl (.slice bna bnl bnc)) (p := ⟨t, 7, none⟩) htl (.int .i64 g.rules[i].p0)) (p := ⟨t, 8, none⟩) htl (.int .i64 g.rules[i].p1)) (p := ⟨t, 9, none⟩) htl (.int .i64 g.rules[i].p2))
  generalize ((((((((((w.setCell ⟨t, 0, none⟩ (.string g.rules[i].name)).setCell ⟨t, 1, none⟩ (.int .u8 g.rules[i].sort)).setCell ⟨t, 2, none⟩ (.int .u8 bk)).setCell ⟨t, 3, none⟩ (.string bnm)).setCell ⟨t, 4, none⟩ (.string btx)).setCell ⟨t, 5, none⟩ (.slice bsa bsl bsc)).setCell ⟨t, 6, none⟩ (.slice bna bnl bnc)).setCell ⟨t, 7, none⟩ (.int .i64 g.rules[i].p0)).setCell ⟨t, 8, none⟩ (.int .i64 g.rules[i].p1)).setCell ⟨t, 9, none⟩ (.int .i64 g.rules[i].p2)) = w5 at *
  clear t0 t1 t2 t3 t4 t5 t6 t7 t8 t9 f0 f1 f2 f3 f4 f5 f6 f7 f8 f9 HO HW w e0 e1 e2 e3 e4 e5 e6 e7 e8 e9 p1 p2 l1 l2 lc pc hrule
  have HO5 := Lib.hid hO5
  have HG5 := Lib.hid hG5
  clear hO5 hG5
  refine (callsIn_wide.1 (all_in Fence.wide (fun _ => trivial) rfl 3 _ _ _ _ _ _)).mono ?_
  rintro e w6 ⟨rfl, rfl⟩
  go_wp2_with fail
  have hB5 := HG5.out.size
  have h56 := grew_alloc w5 (.cells #[.int .u8 bk, .string bnm, .string btx, .slice bsa bsl bsc, .slice bna bnl bnc] 34)
  have hn6 := Owns.alloc w5 [.int .u8 bk, .string bnm, .string btx, .slice bsa bsl bsc, .slice bna bnl bnc] 34
  have hsz6 : w5.heap.size + 1 = (w5.alloc (.cells #[.int .u8 bk, .string bnm, .string btx, .slice bsa bsl bsc, .slice bna bnl bnc] 34)).heap.size := by simp
  have h46 : Grew w4 _ := HG5.out.trans h56
  have hr6 := HO5.out.keep h56
  have hc6 := HC.out.grew (hg4.trans h46)
  generalize w5.alloc (.cells #[.int .u8 bk, .string bnm, .string btx, .slice bsa bsl bsc, .slice bna bnl bnc] 34) = w6 at *
  have hb4 : base ≤ w4.heap.size := by have := hg4.size; omega
  have hb6 : base ≤ w6.heap.size := by have := h46.size; omega
  have hstops := all_stops Fence.wide rfl (fun _ => trivial) rfl 8 base w5.heap.size w4 w6 hb4 (KpN.grew h46 hb4) g.rules[i].body _ _ _ _ _ HN.out hn6
  refine (wpIn_wide (n := 9)).1 ?_
  refine wpIn_rangeFunc_ownH (F := Fence.wide) rfl (by omega) (gf := 70) (lb := #[.pointer (some ⟨w5.heap.size, 0, none⟩)]) rfl trivial (enters_of Tryd.func70 (by kernel_rfl) rfl) hstops (fun h k => h.trans k) (kpn_turn hb6) (Below.refl _ _) (fun _ => rfl)
    (fun pre W' => ChkAt W' base cb c (L ++ ((pre.map NV.n).filter q).map (toldOf i g.rules[i] code)) ∧ Told base cb w6 W') (fun _ _ _ => False)
    (OwnFrom.and (ownFrom_chk _ _ _ _ _) (ownFrom_told hb6)) (fun _ _ _ _ _ hs _ _ => hs) ⟨by simpa using hc6, Told.refl _ _ _⟩
    (fun x a' W' => ∃ Bx, w6.heap.size ≤ Bx ∧ Owns W' Bx [x.v0, x.v1, x.v2, x.v3, x.v4] 34 ∧ a' = { tmps := #[.pointer (some ⟨cb, 0, none⟩), .int .i64 (i : Int), .int .u8 code, .func (.func G) #[] cp, .pointer (some ⟨W.heap.size, 0, none⟩), .pointer (some ⟨W.heap.size + 1, 0, none⟩), .pointer (some ⟨W.heap.size + 1 + 1, 0, none⟩), .pointer (some ⟨W.heap.size + 1 + 1 + 1, 0, none⟩),
          .pointer (some ⟨t, 0, none⟩), .pointer (some ⟨Bx, 0, none⟩), undef, .pointer (some ⟨cb, 0, none⟩), .pointer (some ⟨cb, 0, none⟩), .pointer (some ⟨cb, 0, none⟩), .pointer (some ⟨cb, 3, none⟩), .slice (some ⟨b, off, none⟩) g.rules.length rc, .int .i64 (i : Int), .pointer (some ⟨b, off + i * 10, none⟩),
          .agg #[.string g.rules[i].name, .int .u8 g.rules[i].sort, .int .u8 bk, .string bnm, .string btx, .slice bsa bsl bsc, .slice bna bnl bnc, .int .i64 g.rules[i].p0, .int .i64 g.rules[i].p1, .int .i64 g.rules[i].p2], .pointer (some ⟨t, 2, none⟩),
          .agg #[.int .u8 bk, .string bnm, .string btx, .slice bsa bsl bsc, .slice bna bnl bnc], .func (.func 70) #[] #[.pointer (some ⟨w5.heap.size, 0, none⟩)], .agg #[x.v0, x.v1, x.v2, x.v3, x.v4], undef, undef, undef, undef, undef, undef, undef, undef, undef, undef, undef, undef, undef, undef, undef], defers := [] })
    (fun x a' _ X Y row hs hg hr => by obtain ⟨Bx, h1, h2, h3⟩ := hs; exact ⟨Bx, h1, owns_turn h2 hg (fun r e => (hr r e).2), h3⟩)
    ?assign ?body ?done ?stop
  case assign =>
    rintro l pre ⟨n, v0, v1, v2, v3, v4, hl⟩ Wc K ⟨hic, hit⟩ hK
    obtain ⟨k0, k1, k2, k3, k4, k5, k6, k7, k8, rfl, rfl, rfl, rfl, rfl⟩ := hl.forms
    have hbc : base ≤ Wc.heap.size := by have := hit.low.size; omega
    have h6c : w6.heap.size ≤ Wc.heap.size := hit.low.size
    have hg' := grew_alloc Wc (.cells #[.int .u8 k0, .string k1, .string k2, .slice k3 k4 k5, .slice k6 k7 k8] 34)
    have hK' := Lib.hid (hK _ _ ((KeepsOthers.alloc _ _).from _) (KpN.grew hg' hbc) ⟨hic.grew hg', hit.trans (Told.grew hg' hbc)⟩ ⟨Wc.heap.size, h6c, Owns.alloc Wc [.int .u8 k0, .string k1, .string k2, .slice k3 k4 k5, .slice k6 k7 k8] 34, rfl⟩)
    clear hK hic hit hg'
    simp only [NV.enc] at *
    gi_wp2
    exact hK'.out
  case body =>
    rintro l pre ⟨n, v0, v1, v2, v3, v4, hl⟩ a' Wc hlo ⟨rr, hrr⟩ ⟨hic, hit⟩ ⟨Bx, hBx, hox, rfl⟩ hlt
    obtain ⟨k0, k1, k2, k3, k4, k5, k6, k7, k8, rfl, rfl, rfl, rfl, rfl⟩ := hl.forms
    have h6c : w6.heap.size ≤ Wc.heap.size := hit.low.size
    have hnc : w4.heap.size ≤ w6.heap.size := h46.size
    have hne : ∀ z, z < W.heap.size + 1 + 1 + 1 + 1 → W.heap.size ≤ z → z ≠ cb := fun z _ h1 h2 => by
      have := HC.out.own
      obtain ⟨_, ho, _⟩ := this
      have := ho.lt
      omega
    have hs4 := HS4.out
    have g1 := hit.owns (HO1.out.keep h46) (hne _ (by omega) (by omega)) (by decide)
    have g2 := hit.owns (HO2.out.keep h46) (hne _ (by omega) (by omega)) (by decide)
    have g3 := hit.owns (HO3.out.keep h46) (hne _ (by omega) (by omega)) (by decide)
    have g4 := hit.owns (HO4.out.keep h46) (hne _ (by omega) (by omega)) (by decide)
    have gr := hit.owns hr6 (fun e => by have := HC.out.own; obtain ⟨_, ho, _⟩ := this; have := ho.lt; omega) (by decide)
    clear hs4
    have hW6 : Told base cb W w6 := Told.grew (hg4.trans h46) hbase
    have hbelow : Below base w4 Wc := ((h46.mono hb4)).trans hit.low
    have hnode : NodeAt Wc Wc.heap.size (some (.int .u8 k0)) (some (.string k1)) (some (.string k2)) (some (.slice k3 k4 k5)) (some (.slice k6 k7 k8)) n := (hl.keep hbelow).mono (by omega)
    have HQ := Lib.hid (HA.out n Wc _ _ _ _ _ _ (hW6.trans hit) hic hnode)
    have c1 := g1.cell_at (i := 0) rfl
    have c2 := g2.cell_at (i := 0) rfl
    have c3 := g3.cell_at (i := 0) rfl
    have c4 := g4.cell_at (i := 0) rfl
    have cr := gr.cell_at (i := 0) rfl
    have x0 := hox.cell_at (i := 0) rfl
    have x1 := hox.cell_at (i := 1) rfl
    have x2 := hox.cell_at (i := 2) rfl
    have x3 := hox.cell_at (i := 3) rfl
    have x4 := hox.cell_at (i := 4) rfl
    have m1 := g1.lt
    have m2 := g2.lt
    have m3 := g3.lt
    have mr := gr.lt
    have mx := hox.lt
    have HRR := Lib.hid hrr
    have HIC := Lib.hid hic
    have HIT := Lib.hid hit
    have hEx := hE
    unfold Enters at hEx
    have hfin : Hid ((pre ++ [(⟨n, .int .u8 k0, .string k1, .string k2, .slice k3 k4 k5, .slice k6 k7 k8, hl⟩ : NV w4 base)]).map NV.n = pre.map NV.n ++ [n]) := by unfold Hid; simp
    have hll : (L ++ ((pre.map NV.n).filter q).map (toldOf i g.rules[i] code)).length ≤ 1000000 := by
      have := List.length_filter_le q (pre.map NV.n)
      simp only [List.length_append, List.length_map] at this ⊢
      omega
    clear hrr hic hit g1 g2 g3 g4 gr hbelow hnode hox hn6 hr6 hc6 hstops h46 h56 hg4 hE hne
    cases hq : q n
    · rw [hq] at HQ
      gi_wp2_with ((try refine ⟨trivial, ?_⟩); refine (CallsIn.inRound l (callsIn_wide.2 HQ.out)).mono ?_; rintro e W2 ⟨rfl, hg2⟩)
      have hT2 : Told base cb Wc W2 := Told.grew hg2 (by have := HIT.out.low.size; omega)
      refine ⟨(told_keeps hT2 HIC.out).from _, told_kpn hT2 HIC.out, ?_, HIT.out.trans hT2⟩
      have := HIC.out.grew hg2
      rw [hfin.out, List.filter_append]
      simpa [hq] using this
    · rw [hq] at HQ
      have HTL := Lib.hid (fun (nm : ByteArray) (W2 : World) (hg2 : Grew Wc W2) => tell_ok base cb c _ W2 (HIC.out.grew hg2) hll code i nm)
      have hnm : Hid (n.name = k1) := (hl.name_eq).symm
      by_cases h6 : code = 6
      · subst h6
        gi_wp2_with ((try refine ⟨trivial, ?_⟩); first
          | (gi_at_call 48; refine (CallsIn.inRound l (callsIn_wide.2 (HTL.out _ _ HG2.out))).mono ?_; rintro e W3 ⟨⟨v3, rfl⟩, hC3, hT3⟩)
          | (refine (CallsIn.inRound l (callsIn_wide.2 HQ.out)).mono ?_; rintro e W2 ⟨rfl, hg2⟩; have hcc := hg2.cells; have HG2 := Lib.hid hg2; clear hg2))
        have hT2 : Told base cb Wc W2 := Told.grew HG2.out (by have := HIT.out.low.size; omega)
        have hT := hT2.trans hT3
        refine ⟨(told_keeps hT HIC.out).from _, told_kpn hT HIC.out, ?_, HIT.out.trans hT⟩
        rw [hfin.out, List.filter_append]
        simpa [hq, toldOf, Nd.name, List.append_assoc] using hC3
      · have e6 : (code == 6) = false := beq_eq_false_iff_ne.2 h6
        have e7 : (code != 6) = true := by simp [h6]
        gi_wp2_with ((try refine ⟨trivial, ?_⟩); first
          | (gi_at_call 48; refine (CallsIn.inRound l (callsIn_wide.2 (HTL.out _ _ HG2.out))).mono ?_; rintro e W3 ⟨⟨v3, rfl⟩, hC3, hT3⟩)
          | (refine (CallsIn.inRound l (callsIn_wide.2 HQ.out)).mono ?_; rintro e W2 ⟨rfl, hg2⟩; have hcc := hg2.cells; have HG2 := Lib.hid hg2; clear hg2))
        have hT2 : Told base cb Wc W2 := Told.grew HG2.out (by have := HIT.out.low.size; omega)
        have hT := hT2.trans hT3
        refine ⟨(told_keeps hT HIC.out).from _, told_kpn hT HIC.out, ?_, HIT.out.trans hT⟩
        rw [hfin.out, List.filter_append]
        have hto : toldOf i g.rules[i] code n = ⟨code, i, k1⟩ := by unfold toldOf; rw [if_neg h6, hnm.out]
        simpa [hq, hto, List.append_assoc] using hC3
  case done =>
    rintro D ys W' hD hys ⟨hic, hit⟩ hK
    go_wp2_with fail
    refine ⟨by simp, .inl ⟨_, _, rfl, run_takeDeferred hK, ?_⟩⟩
    refine ⟨_, results_none rfl _ _ _, ⟨_, rfl⟩, ?_, ?_⟩
    · have := ownFrom_chk 0 base cb c (fun (_ : Unit) => L ++ ((ys.map NV.n).filter q).map (toldOf i g.rules[i] code)) () W' _ (some D) hic (grownBy_putObj' W' D (.deferred none)) (fun r e => by cases e; exact ⟨Nat.zero_le _, _, hK, rfl⟩)
      rw [hys] at this
      exact this
    · exact (Told.grew (hg4.trans h46) hbase).trans (ownFrom_told hb6 () W' _ (some D) hit (grownBy_putObj' W' D (.deferred none)) (fun r e => by cases e; exact ⟨hD, _, hK, rfl⟩))
  case stop =>
    rintro D c' pre W' _ _ h _
    exact h.elim
end Go.Proofs.YtkinlcichclnkaaDoor
