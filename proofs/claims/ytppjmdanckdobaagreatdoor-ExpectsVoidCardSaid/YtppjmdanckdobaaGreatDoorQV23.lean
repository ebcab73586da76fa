/- nodes.Plain: yes just if each node below is plain, and they are not too many, nor too deep. -/
import Derived.Lib.Hide
import Derived.Outline
import Derived.BigQuiet
import Derived.Test.YtppjmdanckdobaaGreatDoorQV17
import Derived.Test.YtppjmdanckdobaaGreatDoorQV18
import Derived.Test.YtppjmdanckdobaaGreatDoorQV22
import Derived.Test.YtppjmdanckdobaaGreatDoorQV1
import Derived.Test.YtppjmdanckdobaaGreatDoorQV3
namespace Go.Proofs.YtppjmdanckdobaaGreatDoor
open Go.RowKit Go.Shelf
attribute [local go_sem] Oper.semAt_some
def Good (token : Bool) (l : List (Int × Nd)) : Prop := l.length ≤ 2048 ∧ ∀ p ∈ l, p.1 ≤ 64 ∧ plainN token p.2 = true
theorem Good.pre {token : Bool} {l m : List (Int × Nd)} (h : Good token m) (hp : l <+: m) : Good token l :=
  ⟨Nat.le_trans hp.length_le h.1, fun p hpl => h.2 p (hp.subset hpl)⟩
theorem kpa_turn {base B0 : Nat} {w : World} (hn : base ≤ w.heap.size) (W : World) (l : Nat) (o o' : Obj) (hl : w.heap.size ≤ l) (h : W.heap[l]? = some o) (ho : o.isCells = false) (hw : o.isWalk = false) : KpA base B0 W (W.putObj l o') :=
  ⟨belowK_b hn W l o o' hl h ho hw, fun b cs T f _ hb => by
    by_cases e : b = l
    · subst e
      rw [h] at hb
      cases hb
      cases ho
    · exact (World.putObj_heap_other e).trans hb⟩
structure PlAt (lim b : Nat) (w0 : World) (token : Bool) (k : Nat) (W : World) : Prop where
  low : Below lim w0 W
  tok : Owns W b [.bool token] 4
  res : Owns W (b + 1) [.bool false] 4
  many : Owns W (b + 1 + 1) [.int .i64 k] 3
theorem ownFrom_plAt {β : Type} {lim b : Nat} {w : World} (hl : lim ≤ w.heap.size) (token : Bool) (f : β → Nat) (p : β → Prop) : OwnFrom w.heap.size (fun (s : β) W => PlAt lim b w token (f s) W ∧ p s) :=
  fun _ W W' row hs hg hr => ⟨⟨hs.1.low.grown hg (by have := hs.1.low.size; omega) (fun k e => by have := (hr k e).1; omega), owns_turn hs.1.tok hg (fun r e => (hr r e).2), owns_turn hs.1.res hg (fun r e => (hr r e).2), owns_turn hs.1.many hg (fun r e => (hr r e).2)⟩, hs.2⟩
theorem results_plain (tmps : Array Value) (w : World) (g : Nat) (b : Bool) (hp : tmps.getD 4 undef = .pointer (some ⟨g, 0, none⟩)) (hg : Owns w g [.bool b] 4) : (results Tryz.f54 tmps).run Tryz.prog w = .ok (.bool b) w := by
  have hp' : tmps[4]?.getD undef = .pointer (some ⟨g, 0, none⟩) := by simpa using hp
  have hc := hg.cell_at (i := 0) rfl
  simp [results, hp', asAddr, hc, go_sem]
theorem keeps_grew {A B : World} (h : Grew A B) : KeepsOthers A B := ⟨h.size, fun k o hk _ => by rw [h.block k (Array.getElem?_eq_some_iff.1 hk).1]; exact hk⟩
def PlainPost (token : Bool) (n : Nd) (W : World) (e : Ending) (W' : World) : Prop := (∃ b, e = .returned (.bool b) ∧ (b = true ↔ Good token (n.alld 1))) ∧ Grew W W'
theorem Good.snoc {token : Bool} {l : List (Int × Nd)} (h : ∀ p ∈ l, p.1 ≤ 64 ∧ plainN token p.2 = true) {d : Int} {x : Nd} (hd : d ≤ 64) (hx : plainN token x = true) : ∀ p ∈ l ++ [(d, x)], p.1 ≤ 64 ∧ plainN token p.2 = true := by
  intro y hy
  rcases List.mem_append.1 hy with hy | hy
  · exact h y hy
  · rw [List.mem_singleton.1 hy]; exact ⟨hd, hx⟩
set_option maxHeartbeats 8000000 in
set_option maxRecDepth 20000 in
theorem nPlain_ok (token : Bool) (n : Nd) (W : World) (hT : Lib.Utf8Tabs 1 2 W) (v0 v1 v2 v3 v4 : Value) (hN : NodeAt W W.heap.size (some v0) (some v1) (some v2) (some v3) (some v4) n) :
    Calls Tryz.prog 54 #[.agg #[v0, v1, v2, v3, v4], .bool token] W (PlainPost token n W) := by
  obtain ⟨k0, k1, k2, k3, k4, k5, k6, k7, k8, rfl, rfl, rfl, rfl, rfl⟩ := hN.forms
  have hw4 : Hid (Boxes4 W ((((W.alloc (.cells #[.int .u8 k0, .string k1, .string k2, .slice k3 k4 k5, .slice k6 k7 k8] 80)).alloc (.cells #[.bool token] 4)).alloc (.cells #[.bool false] 4)).alloc (.cells #[.int .i64 0] 3)) [.int .u8 k0, .string k1, .string k2, .slice k3 k4 k5, .slice k6 k7 k8] 80 [.bool token] 4 [.bool false] 4 [.int .i64 0] 3) := boxes4 W _ _ _ _ _ _ _ _
  have HN := Lib.hid hN
  have HT := Lib.hid hT
  clear hN hT
  refine calls_of_wp_marks Tryz.func54 rfl ?_
  simp only [Tryz.ntmps54, List.size_toArray, List.length_cons, List.length_nil, Nat.reduceAdd, Nat.reduceSub, Array.replicate_succ, Array.replicate_zero, List.push_toArray, List.append_toArray, List.nil_append, List.cons_append]
  go_wp2_with fail
  generalize (((W.alloc (.cells #[.int .u8 k0, .string k1, .string k2, .slice k3 k4 k5, .slice k6 k7 k8] 80)).alloc (.cells #[.bool token] 4)).alloc (.cells #[.bool false] 4)).alloc (.cells #[.int .i64 0] 3) = w4 at *
  obtain ⟨hg4, o1, o2, o3, o4, hs4⟩ := hw4.out
  clear hw4
  refine (callsIn_wide.1 (allA_in Fence.wide (fun _ => trivial) rfl 3 _ _ _ _ _ _)).mono ?_
  rintro e w6 ⟨rfl, rfl⟩
  have h46 := grew_alloc w4 (.cells #[.int .u8 k0, .string k1, .string k2, .slice k3 k4 k5, .slice k6 k7 k8] 80)
  have hn6 := Owns.alloc w4 [.int .u8 k0, .string k1, .string k2, .slice k3 k4 k5, .slice k6 k7 k8] 80
  have hsz6 : (w4.alloc (.cells #[.int .u8 k0, .string k1, .string k2, .slice k3 k4 k5, .slice k6 k7 k8] 80)).heap.size = w4.heap.size + 1 := by simp
  have p2 := o2.keep h46
  have p3 := o3.keep h46
  have p4 := o4.keep h46
  have hg6 := hg4.trans h46
  have H6 := Lib.hid (show PlAt W.heap.size (W.heap.size + 1) _ token 0 _ from ⟨Below.refl W.heap.size _, p2, p3, p4⟩)
  clear o1 o2 o3 o4 p2 p3 p4 hg4
  have HG6 := Lib.hid hg6
  rw [hs4] at hn6 hsz6
  have HN6 := Lib.hid hn6
  clear hg6 hn6 h46
  generalize w4.alloc (.cells #[.int .u8 k0, .string k1, .string k2, .slice k3 k4 k5, .slice k6 k7 k8] 80) = w6 at *
  go_wp2_with fail
  have hg6 := HG6.out
  have hl6 : W.heap.size ≤ w6.heap.size := hg6.size
  have hl6' : W.heap.size + 1 + 1 + 1 + 1 < w6.heap.size := by omega
  clear hsz6
  have hstops := all_stopsA Fence.wide rfl (fun _ => trivial) rfl 8 W.heap.size (W.heap.size + 1 + 1 + 1 + 1) W w6 (Nat.le_refl _) hl6 hg6 n _ _ _ _ _ HN.out HN6.out
  refine (wpIn_wide (n := 9)).1 ?_
  refine wpIn_rangeFunc_ownH (F := Fence.wide) rfl (by omega) (gf := 106) (lb := #[.pointer (some ⟨W.heap.size + 1 + 1 + 1 + 1, 0, none⟩)]) rfl trivial (enters_of Tryz.func106 (by kernel_rfl) rfl) hstops (fun h k => h.trans k) (kpa_turn hl6) (Below.refl _ _) (fun _ => rfl)
    (fun pre W' => PlAt W.heap.size (W.heap.size + 1) w6 token pre.length W' ∧ (pre.length ≤ 2048 ∧ ∀ p ∈ pre.map DV.p, p.1 ≤ 64 ∧ plainN token p.2 = true)) (fun c pre W' => c = .ret ∧ Below W.heap.size w6 W' ∧ Owns W' (W.heap.size + 1 + 1) [.bool false] 4 ∧ ¬ Good token (pre.map DV.p))
    (ownFrom_plAt hl6 token _ _) ?hIx ⟨H6.out, by simp, by intro x hx; simp at hx⟩
    (fun x a' W' => ∃ Bx, w6.heap.size ≤ Bx ∧ Owns W' Bx [x.x.v0, x.x.v1, x.x.v2, x.x.v3, x.x.v4] 80 ∧ a' = { tmps := #[.agg #[.int .u8 k0, .string k1, .string k2, .slice k3 k4 k5, .slice k6 k7 k8], .bool token, .pointer (some ⟨W.heap.size, 0, none⟩), .pointer (some ⟨W.heap.size + 1, 0, none⟩), .pointer (some ⟨W.heap.size + 1 + 1, 0, none⟩), .pointer (some ⟨W.heap.size + 1 + 1 + 1, 0, none⟩),
          .int .i64 x.d, .pointer (some ⟨Bx, 0, none⟩), .agg #[.int .u8 k0, .string k1, .string k2, .slice k3 k4 k5, .slice k6 k7 k8], .func (.func 106) #[] #[.pointer (some ⟨W.heap.size + 1 + 1 + 1 + 1, 0, none⟩)], .int .i64 x.d, .agg #[x.x.v0, x.x.v1, x.x.v2, x.x.v3, x.x.v4], undef, undef, undef, undef, undef, undef, undef, undef, undef, undef, undef, undef, undef, undef], defers := [] })
    (fun x a' _ X Y row hs hg hr => by obtain ⟨Bx, h1, h2, h3⟩ := hs; exact ⟨Bx, h1, owns_turn h2 hg (fun r e => (hr r e).2), h3⟩)
    ?assign ?body ?done ?stop
  case hIx =>
    exact fun c _ A B row hs hg hr => ⟨hs.1, hs.2.1.grown hg (by have := hs.2.1.size; omega) (fun k e => by have := (hr k e).1; omega), owns_turn hs.2.2.1 hg (fun r e => (hr r e).2), hs.2.2.2⟩
  case assign =>
    rintro l pre ⟨d, n, v0, v1, v2, v3, v4, hl⟩ Wc K ⟨hic, hlen, hall⟩ hK
    obtain ⟨m0, m1, m2, m3, m4, m5, m6, m7, m8, rfl, rfl, rfl, rfl, rfl⟩ := hl.forms
    have h6c : w6.heap.size ≤ Wc.heap.size := hic.low.size
    have hg' := grew_alloc Wc (.cells #[.int .u8 m0, .string m1, .string m2, .slice m3 m4 m5, .slice m6 m7 m8] 80)
    have hK' := Lib.hid (hK _ _ ((KeepsOthers.alloc _ _).from _) (KpA.grew hg' (by omega)) ⟨⟨hic.low.trans (hg'.mono (by omega)), hic.tok.keep hg', hic.res.keep hg', hic.many.keep hg'⟩, hlen, hall⟩ ⟨Wc.heap.size, h6c, Owns.alloc Wc [.int .u8 m0, .string m1, .string m2, .slice m3 m4 m5, .slice m6 m7 m8] 80, rfl⟩)
    clear hK hic hall hg'
    simp only [DV.enc] at *
    gi_wp2
    exact hK'.out
  case body =>
    rintro l pre ⟨d, n', v0, v1, v2, v3, v4, hl⟩ a' Wc hlo ⟨rr, hrr⟩ ⟨hic, hlen, hall⟩ ⟨Bx, hBx, hox, rfl⟩ hlt
    obtain ⟨m0, m1, m2, m3, m4, m5, m6, m7, m8, rfl, rfl, rfl, rfl, rfl⟩ := hl.forms
    dsimp only at hox ⊢
    have h6c : w6.heap.size ≤ Wc.heap.size := hic.low.size
    have hbelow : Below W.heap.size W Wc := Below.trans hg6 hic.low
    have hfin : Hid ((pre ++ [(⟨d, n', .int .u8 m0, .string m1, .string m2, .slice m3 m4 m5, .slice m6 m7 m8, hl⟩ : DV W W.heap.size)]).length = pre.length + 1 ∧ (pre ++ [(⟨d, n', .int .u8 m0, .string m1, .string m2, .slice m3 m4 m5, .slice m6 m7 m8, hl⟩ : DV W W.heap.size)]).map DV.p = pre.map DV.p ++ [(d, n')]) := by unfold Hid; simp [DV.p]
    generalize (pre ++ [(⟨d, n', .int .u8 m0, .string m1, .string m2, .slice m3 m4 m5, .slice m6 m7 m8, hl⟩ : DV W W.heap.size)]) = pre' at *
    obtain ⟨k, hk⟩ : ∃ k, k = pre.length := ⟨_, rfl⟩
    have HKL := Lib.hid hk
    rw [← hk] at hic hlen hfin
    have hsM : Wc.setCell ⟨W.heap.size + 1 + 1 + 1, 0, none⟩ (.int .i64 ((k : Int) + 1)) = Wc.setCell ⟨W.heap.size + 1 + 1 + 1, 0, none⟩ (.int .i64 ((k + 1 : Nat) : Int)) := rfl
    have q1 : PlAt W.heap.size (W.heap.size + 1) w6 token (k + 1) (Wc.setCell ⟨W.heap.size + 1 + 1 + 1, 0, none⟩ (.int .i64 ((k : Int) + 1))) :=
      ⟨hic.low.trans (Below.setCell (Below.refl _ _) (p := ⟨W.heap.size + 1 + 1 + 1, 0, none⟩) (by show W.heap.size ≤ W.heap.size + 1 + 1 + 1; omega) _), hic.tok.other (by show W.heap.size + 1 + 1 + 1 ≠ _; omega) _, hic.res.other (by show W.heap.size + 1 + 1 + 1 ≠ _; omega) _, hsM ▸ hic.many.set 0 _⟩
    have qx : Owns (Wc.setCell ⟨W.heap.size + 1 + 1 + 1, 0, none⟩ (.int .i64 ((k : Int) + 1))) Bx [.int .u8 m0, .string m1, .string m2, .slice m3 m4 m5, .slice m6 m7 m8] 80 := hox.other (by have := H6.out.many.lt; simp; omega) _
    have qk : KeepsOthers Wc (Wc.setCell ⟨W.heap.size + 1 + 1 + 1, 0, none⟩ (.int .i64 ((k : Int) + 1))) := KeepsOthers.setCell _ _ _
    have qp : KpA W.heap.size w6.heap.size Wc (Wc.setCell ⟨W.heap.size + 1 + 1 + 1, 0, none⟩ (.int .i64 ((k : Int) + 1))) :=
      ⟨Below.setCell (Below.refl _ _) (p := ⟨W.heap.size + 1 + 1 + 1, 0, none⟩) (by show W.heap.size ≤ W.heap.size + 1 + 1 + 1; omega) _, fun b cs T f hb h => by
        have := H6.out.many.lt
        rw [Below.heap_setCell _ _ _ b (by simp; omega)]; exact h⟩
    have x0 := hic.many.cell_at (i := 0) rfl
    have x1 := hic.many.free 0
    have x2 := hic.many.lt
    have HQ : Hid (Calls Tryz.prog 82 #[.agg #[.int .u8 m0, .string m1, .string m2, .slice m3 m4 m5, .slice m6 m7 m8], .bool token] (Wc.setCell ⟨W.heap.size + 1 + 1 + 1, 0, none⟩ (.int .i64 ((k : Int) + 1))) fun e W' => e = .returned (.bool (plainN token n')) ∧ Below (Wc.setCell ⟨W.heap.size + 1 + 1 + 1, 0, none⟩ (.int .i64 ((k : Int) + 1))).heap.size (Wc.setCell ⟨W.heap.size + 1 + 1 + 1, 0, none⟩ (.int .i64 ((k : Int) + 1))) W') := by
      have hbb : Grew W (Wc.setCell ⟨W.heap.size + 1 + 1 + 1, 0, none⟩ (.int .i64 ((k : Int) + 1))) := Below.trans hg6 q1.low
      exact nplain_ok token n' _ (tabs_grew HT.out hbb) _ _ _ _ _ ((hl.keep hbb).mono hbb.size)
    generalize hw1 : Wc.setCell ⟨W.heap.size + 1 + 1 + 1, 0, none⟩ (.int .i64 ((k : Int) + 1)) = w1 at *
    have y0 := qx.cell_at (i := 0) rfl
    have y1 := qx.cell_at (i := 1) rfl
    have y2 := qx.cell_at (i := 2) rfl
    have y3 := qx.cell_at (i := 3) rfl
    have y4 := qx.cell_at (i := 4) rfl
    have yl := qx.lt
    have t0 := q1.tok.cell_at (i := 0) rfl
    have tl := q1.tok.lt
    have z0 := q1.many.cell_at (i := 0) rfl
    have z1 := q1.many.lt
    have Q1 := Lib.hid q1
    have QK := Lib.hid qk
    have QP := Lib.hid qp
    have HALL := Lib.hid hall
    have HRET : ∀ (a : Act) w2, Grew w1 w2 → ¬ Good token (pre'.map DV.p) → ownPostG w6.heap.size (KpA W.heap.size w6.heap.size) (fun pre W' => PlAt W.heap.size (W.heap.size + 1) w6 token pre.length W' ∧ (pre.length ≤ 2048 ∧ ∀ p ∈ pre.map DV.p, p.1 ≤ 64 ∧ plainN token p.2 = true))
        (fun c (pre : List (DV W W.heap.size)) W' => c = Code.ret ∧ Below W.heap.size w6 W' ∧ Owns W' (W.heap.size + 1 + 1) [Value.bool false] 4 ∧ ¬ Good token (pre.map DV.p)) pre' Wc Exit.ret a (w2.setCell ⟨W.heap.size + 1 + 1, 0, none⟩ (.bool false)) := fun a w2 hg hbad => by
      refine ⟨((qk.trans (keeps_grew hg)).trans (KeepsOthers.setCell _ _ _)).from _, rfl, (q1.low.trans (hg.mono (by have := q1.low.size; omega))).trans (Below.setCell (Below.refl _ _) (p := ⟨W.heap.size + 1 + 1, 0, none⟩) (by show W.heap.size ≤ W.heap.size + 1 + 1; omega) _), (q1.res.keep hg).set 0 _, hbad⟩
    have HRET := Lib.hid HRET
    have r0 := q1.res.cell_at (i := 0) rfl
    have r1 := q1.res.free 0
    have r2 := q1.res.lt
    clear hsM hrr hl hlt hic hox qx q1 qk qp hall hk
    have HBK : Hid (¬ k + 1 ≤ 2048 → ¬ Good token (pre'.map DV.p)) := Lib.hid fun h hg => h (by have := hg.1; rw [hfin.out.2, List.length_append, List.length_map, ← HKL.out] at this; simpa using this)
    have HBD : Hid (¬ (d ≤ 64 ∧ plainN token n' = true) → ¬ Good token (pre'.map DV.p)) := Lib.hid fun h hg => h (hg.2 (d, n') (by rw [hfin.out.2]; simp))
    by_cases hk2 : (2048 : Int) < (k : Int) + 1
    · have HX := Lib.hid (HBK.out (by omega))
      gi_wp2_with (refine ⟨trivial, ?_⟩)
      exact HRET.out { tmps := #[], defers := [] } _ (Below.refl _ _) HX.out
    by_cases hd2 : (64 : Int) < d
    · have HX := Lib.hid (HBD.out (by omega))
      gi_wp2_with (refine ⟨trivial, ?_⟩)
      exact HRET.out { tmps := #[], defers := [] } _ (Below.refl _ _) HX.out
    gi_wp2_with ((try refine ⟨trivial, ?_⟩); refine (CallsIn.inRound l (callsIn_wide.2 HQ.out)).mono ?_; rintro e W2 ⟨rfl, hg2⟩; have hcc := Grew.cells hg2; have hff := Grew.frees hg2; have hsz := hg2.size; have HG2 := Lib.hid hg2; clear hg2; generalize hpx : plainN token n' = B at *; cases B)
    · exact HRET.out { tmps := #[], defers := [] } _ HG2.out (HBD.out (by simp))
    · refine ⟨(QK.out.trans (keeps_grew HG2.out)).from _, QP.out.trans (KpA.grew HG2.out (by omega)), ⟨Q1.out.low.trans (HG2.out.mono (by omega)), Q1.out.tok.keep HG2.out, Q1.out.res.keep HG2.out, ?_⟩, ?_, ?_⟩
      · rw [hfin.out.1]; exact Q1.out.many.keep HG2.out
      · rw [hfin.out.1]; omega
      · rw [hfin.out.2]; exact Good.snoc HALL.out (by omega) hpx
  case done =>
    rintro D ys W' hD hys ⟨hic, hlen, hall⟩ hK
    have r0 := hic.res.cell_at (i := 0) rfl
    have r1 := hic.res.free 0
    have r2 := hic.res.lt
    have hD2 : D ≠ W.heap.size + 1 + 1 := by omega
    have hgr : Grew W (W'.setCell ⟨W.heap.size + 1 + 1, 0, none⟩ (.bool true)) := Below.trans (Below.trans hg6 hic.low) (Below.setCell (Below.refl _ _) (p := ⟨W.heap.size + 1 + 1, 0, none⟩) (by show W.heap.size ≤ W.heap.size + 1 + 1; omega) _)
    have ho : Owns (W'.setCell ⟨W.heap.size + 1 + 1, 0, none⟩ (.bool true)) (W.heap.size + 1 + 1) [.bool true] 4 := hic.res.set 0 _
    have hK' : (W'.setCell ⟨W.heap.size + 1 + 1, 0, none⟩ (.bool true)).heap[D]? = some (.deferred (some [])) := (Below.heap_setCell _ _ _ D hD2).trans hK
    have HFIN : Hid (Grew W ((W'.setCell ⟨W.heap.size + 1 + 1, 0, none⟩ (.bool true)).putObj D (.deferred none)) ∧ Owns ((W'.setCell ⟨W.heap.size + 1 + 1, 0, none⟩ (.bool true)).putObj D (.deferred none)) (W.heap.size + 1 + 1) [.bool true] 4) := by
      refine ⟨hgr.grown (grownBy_putObj' _ D _) (by have := hgr.size; omega) (fun k e => by cases e; omega), ?_⟩
      unfold Owns at ho ⊢
      rw [World.putObj_heap_other (by omega)]
      exact ho
    have HK := Lib.hid hK'
    clear hic hK hK' hgr ho
    have HALL : Hid (Good token (n.alld 1)) := by unfold Hid; rw [← hys]; exact ⟨by rw [List.length_map]; exact hlen, hall⟩
    clear hall hys
    go_wp2_with fail
    refine ⟨by simp, .inl ⟨_, _, rfl, run_takeDeferred HK.out, ?_⟩⟩
    exact ⟨_, results_plain _ _ _ true rfl HFIN.out.2, ⟨true, rfl, fun _ => HALL.out, fun _ => rfl⟩, HFIN.out.1⟩
  case stop =>
    rintro D c' pre W' hD hpf ⟨rfl, hlow, hres, hbad⟩ hK
    have HBAD := Lib.hid (show ¬ Good token (n.alld 1) from fun h => hbad (h.pre hpf))
    clear hbad hpf
    have HFIN : Hid (Grew W (W'.putObj D (.deferred none)) ∧ Owns (W'.putObj D (.deferred none)) (W.heap.size + 1 + 1) [.bool false] 4) := by
      have hgr : Grew W W' := Below.trans hg6 hlow
      refine ⟨hgr.grown (grownBy_putObj' _ D _) (by have := hgr.size; omega) (fun k e => by cases e; omega), ?_⟩
      unfold Owns at hres ⊢
      rw [World.putObj_heap_other (by omega)]
      exact hres
    have HK := Lib.hid hK
    clear hlow hres hK
    refine (wpIn_wide (n := 9)).2 ?_
    go_wp2_with fail
    refine ⟨by simp, .inl ⟨_, _, rfl, run_takeDeferred HK.out, ?_⟩⟩
    exact ⟨_, results_plain _ _ _ false rfl HFIN.out.2, ⟨false, rfl, fun h => (by cases h), fun h => absurd h HBAD.out⟩, HFIN.out.1⟩
end Go.Proofs.YtppjmdanckdobaaGreatDoor

/- How much a node is: it is gone through no deeper than 100, and no further than 9000. -/
namespace Go.Proofs.YtppjmdanckdobaaGreatDoor
open Go.RowKit
mutual
def Nd.total : Nd → Nat
  | .mk _ nm tx set subs => 1 + tx.size + nm.size + set.length + Nd.totals subs
def Nd.totals : List Nd → Nat
  | [] => 0
  | n :: r => n.total + Nd.totals r
end
end Go.Proofs.YtppjmdanckdobaaGreatDoor

/- Whether a grammar is more than is gone through: where it is not, its rules are few and its nodes small. -/
namespace Go.Proofs.YtppjmdanckdobaaGreatDoor
open Go.RowKit
mutual
def Nd.cnt : Nd → Nat
  | .mk _ _ _ _ subs => 1 + Nd.cnts subs
def Nd.cnts : List Nd → Nat
  | [] => 0
  | n :: r => n.cnt + Nd.cnts r
end
mutual
theorem Nd.cnt_le_total : ∀ n : Nd, n.cnt ≤ n.total
  | .mk k nm tx set subs => by have := Nd.cnts_le_totals subs; rw [Nd.cnt, Nd.total]; omega
theorem Nd.cnts_le_totals : ∀ l : List Nd, Nd.cnts l ≤ Nd.totals l
  | [] => by simp [Nd.cnts]
  | n :: r => by have := Nd.cnt_le_total n; have := Nd.cnts_le_totals r; rw [Nd.cnts, Nd.totals]; omega
end
end Go.Proofs.YtppjmdanckdobaaGreatDoor

/- Whether a grammar is more than is gone through: the further functions. -/
namespace Go.Proofs.YtppjmdanckdobaaGreatDoor
open Go.RowKit
def Gr.cnts (g : Gr) (j : Nat) : Nat := Nd.cnts ((g.rules.take j).map (·.body))
end Go.Proofs.YtppjmdanckdobaaGreatDoor

/- grams.kept, word, named, and what Sound asks of a rule: just so. -/
namespace Go.Proofs.YtppjmdanckdobaaGreatDoor
open Go.RowKit Go.Shelf
def JustIf (P : Prop) (W : World) (e : Ending) (W' : World) : Prop := (∃ b, e = .returned (.bool b) ∧ (b = true ↔ P)) ∧ Grew W W'
def litN (k : Int) (s : ByteArray) : Nd := .mk k s ⟨#[]⟩ [] []
def GoodN (token : Bool) (n : Nd) : Prop := Good token (n.alld 1)
def keptL : List ByteArray := [⟨#[103, 114, 97, 109, 109, 97, 114]⟩, ⟨#[111, 112, 116, 105, 111, 110, 115]⟩, ⟨#[102, 114, 97, 103, 109, 101, 110, 116]⟩, ⟨#[115, 107, 105, 112]⟩]
def keptP (s : ByteArray) : Prop := Lib.containsS (keptL.take 4) s = true
def wordP (s : ByteArray) : Prop := GoodN false (litN 5 s) ∨ GoodN false (litN 6 s)
def namedP (s : ByteArray) (sort : Int) : Prop := GoodN false (litN (if sort = 0 then 5 else 6) s) ∧ ¬ keptP s
def ruleP (r : Rl) : Prop := r.sort ≤ 3 ∧ namedP r.name r.sort ∧ GoodN (r.sort != 0) r.body
theorem lit_node (W : World) (k : Int) (hk : 0 ≤ k ∧ k ≤ 255) (s : ByteArray) (hs : s.size ≤ reachN) : NodeAt W W.heap.size (some (.int .u8 k)) (some (.string s)) (some (.string ⟨#[]⟩)) (some (.slice none 0 0)) (some (.slice none 0 0)) (litN k s) := by
  unfold litN
  rw [NodeAt]
  refine ⟨hk, hs, by show (0 : Nat) ≤ _; omega, rfl, rfl, rfl, ⟨none, 0, rfl, by simp [reachN], ?_⟩, none, 0, rfl, by simp [reachN], ?_⟩
  · rw [RangesAt]; trivial
  · rw [NodesAt]; trivial
set_option maxRecDepth 20000 in
theorem kept_ok (s : ByteArray) (W : World) : Calls Tryz.prog 80 #[.string s] W (JustIf (keptP s) W) := by
  have hg := grew_alloc W (.cells #[.string ⟨#[103, 114, 97, 109, 109, 97, 114]⟩, .string ⟨#[111, 112, 116, 105, 111, 110, 115]⟩, .string ⟨#[102, 114, 97, 103, 109, 101, 110, 116]⟩, .string ⟨#[115, 107, 105, 112]⟩] 9)
  have ho := Owns.alloc W [.string ⟨#[103, 114, 97, 109, 109, 97, 114]⟩, .string ⟨#[111, 112, 116, 105, 111, 110, 115]⟩, .string ⟨#[102, 114, 97, 103, 109, 101, 110, 116]⟩, .string ⟨#[115, 107, 105, 112]⟩] 9
  have hS := Tryz.slices_Contains_string W.heap.size 0 4 4 keptL s _ (by simp [keptL]) (by omega) (fun j hj => by
    rw [Nat.zero_add]
    match j, hj with
    | 0, _ => exact ho.cell_at rfl
    | 1, _ => exact ho.cell_at rfl
    | 2, _ => exact ho.cell_at rfl
    | 3, _ => exact ho.cell_at rfl)
  obtain ⟨x, hx⟩ : ∃ x, Lib.containsS (keptL.take 4) s = x := ⟨_, rfl⟩
  rw [hx] at hS
  have HX := Lib.hid hx
  have HS := Lib.hid hS
  have HG := Lib.hid hg
  clear ho hx hS hg
  go_enter Tryz.func80, Tryz.ntmps80
  go_wp2_with fail
  refine HS.out.mono ?_
  rintro e w' ⟨rfl, rfl⟩
  go_wp2_with fail
  go_ret
  exact ⟨⟨_, rfl, by unfold keptP; rw [HX.out]⟩, HG.out⟩
theorem lit_plain (k : Int) (hk : 0 ≤ k ∧ k ≤ 255) (s : ByteArray) (hs : s.size ≤ reachN) (W : World) (hT : Lib.Utf8Tabs 1 2 W) : Calls Tryz.prog 54 #[.agg #[.int .u8 k, .string s, .string ⟨#[]⟩, .slice none 0 0, .slice none 0 0], .bool false] W (JustIf (GoodN false (litN k s)) W) :=
  nPlain_ok false (litN k s) W hT _ _ _ _ _ (lit_node W k hk s hs)
set_option maxRecDepth 20000 in
theorem word_ok (s : ByteArray) (hs : s.size ≤ reachN) (W : World) (hT : Lib.Utf8Tabs 1 2 W) : Calls Tryz.prog 50 #[.string s] W (JustIf (wordP s) W) := by
  have h1 := Lib.hid (lit_plain 5 (by omega) s hs W hT)
  have h2 := Lib.hid (fun w (hg : Grew W w) => lit_plain 6 (by omega) s hs w (tabs_grew hT hg))
  clear hT
  unfold wordP
  go_enter Tryz.func50, Tryz.ntmps50
  go_wp2_with fail
  refine h1.out.mono ?_
  rintro e w ⟨⟨b, rfl, hb⟩, hg⟩
  have HG := Lib.hid hg
  have HB := Lib.hid hb
  clear hg hb
  cases b with
  | true =>
    go_wp2_with fail
    go_ret
    exact ⟨⟨_, rfl, fun _ => .inl (HB.out.1 (by first | rfl | trivial)), fun _ => rfl⟩, HG.out⟩
  | false =>
    go_wp2_with fail
    refine (h2.out w HG.out).mono ?_
    rintro e w2 ⟨⟨b, rfl, hb2⟩, hg⟩
    have HG2 := Lib.hid (HG.out.trans hg)
    have HB2 := Lib.hid hb2
    clear hg hb2
    go_wp2_with fail
    go_ret
    exact ⟨⟨_, rfl, fun h => .inr (HB2.out.1 h), fun h => h.elim (fun h => absurd (HB.out.2 h) (by simp)) HB2.out.2⟩, HG2.out⟩
set_option maxRecDepth 20000 in
theorem gnamed_ok (s : ByteArray) (hs : s.size ≤ reachN) (sort : Int) (W : World) (hT : Lib.Utf8Tabs 1 2 W) : Calls Tryz.prog 53 #[.string s, .int .u8 sort] W (JustIf (namedP s sort) W) := by
  have h1 := Lib.hid (lit_plain 5 (by omega) s hs W hT)
  have h2 := Lib.hid (lit_plain 6 (by omega) s hs W hT)
  have h3 := Lib.hid (fun w => kept_ok s w)
  clear hT
  unfold namedP
  by_cases h0 : sort = 0
  · subst h0
    simp only [if_true]
    go_enter Tryz.func53, Tryz.ntmps53
    go_wp2_with fail
    refine h1.out.mono ?_
    rintro e w ⟨⟨b, rfl, hb⟩, hg⟩
    have HG := Lib.hid hg
    have HB := Lib.hid hb
    clear hg hb
    cases b with
    | false =>
      go_wp2_with fail
      go_ret
      exact ⟨⟨_, rfl, fun h => (by cases h), fun h => absurd (HB.out.2 h.1) (by simp)⟩, HG.out⟩
    | true =>
      go_wp2_with fail
      refine (h3.out w).mono ?_
      rintro e w2 ⟨⟨b, rfl, hb2⟩, hg⟩
      have HG2 := Lib.hid (HG.out.trans hg)
      have HB2 := Lib.hid hb2
      clear hg hb2
      go_wp2_with fail
      go_ret
      refine ⟨⟨_, rfl, ?_⟩, HG2.out⟩
      cases b
      · exact ⟨fun _ => ⟨HB.out.1 (by first | rfl | trivial), fun h => absurd (HB2.out.2 h) (by simp)⟩, fun _ => rfl⟩
      · exact ⟨fun h => (by cases h), fun h => absurd (HB2.out.1 (by first | rfl | trivial)) h.2⟩
  · have h0b : (sort == 0) = false := beq_eq_false_iff_ne.2 h0
    simp only [if_neg h0]
    go_enter Tryz.func53, Tryz.ntmps53
    go_wp2_with fail
    refine h2.out.mono ?_
    rintro e w ⟨⟨b, rfl, hb⟩, hg⟩
    have HG := Lib.hid hg
    have HB := Lib.hid hb
    clear hg hb
    cases b with
    | false =>
      go_wp2_with fail
      go_ret
      exact ⟨⟨_, rfl, fun h => (by cases h), fun h => absurd (HB.out.2 h.1) (by simp)⟩, HG.out⟩
    | true =>
      go_wp2_with fail
      refine (h3.out w).mono ?_
      rintro e w2 ⟨⟨b, rfl, hb2⟩, hg⟩
      have HG2 := Lib.hid (HG.out.trans hg)
      have HB2 := Lib.hid hb2
      clear hg hb2
      go_wp2_with fail
      go_ret
      refine ⟨⟨_, rfl, ?_⟩, HG2.out⟩
      cases b
      · exact ⟨fun _ => ⟨HB.out.1 (by first | rfl | trivial), fun h => absurd (HB2.out.2 h) (by simp)⟩, fun _ => rfl⟩
      · exact ⟨fun h => (by cases h), fun h => absurd (HB2.out.1 (by first | rfl | trivial)) h.2⟩
set_option maxRecDepth 20000 in
theorem sound1_ok (r : Rl) (W : World) (hT : Lib.Utf8Tabs 1 2 W) (v0 v1 v2 v3 v4 v5 v6 v7 v8 v9 : Value) (hR : RuleAt W W.heap.size (some v0) (some v1) (some v2) (some v3) (some v4) (some v5) (some v6) (some v7) (some v8) (some v9) r) :
    Calls Tryz.prog 52 #[.agg #[v0, v1, v2, v3, v4, v5, v6, v7, v8, v9]] W (JustIf (¬ ruleP r) W) := by
  obtain ⟨h1, hs, h2, hso, hn, h7, h8, h9, i7, i8, i9⟩ := hR
  obtain rfl := Option.some.inj h1
  obtain rfl := Option.some.inj h2
  obtain rfl := Option.some.inj h7
  obtain rfl := Option.some.inj h8
  obtain rfl := Option.some.inj h9
  obtain ⟨k0, k1, k2, k3, k4, k5, k6, k7, k8, rfl, rfl, rfl, rfl, rfl⟩ := hn.forms
  have hg := grew_alloc W (.cells #[.string r.name, .int .u8 r.sort, .int .u8 k0, .string k1, .string k2, .slice k3 k4 k5, .slice k6 k7 k8, .int .i64 r.p0, .int .i64 r.p1, .int .i64 r.p2] 84)
  have ho := Owns.alloc W [.string r.name, .int .u8 r.sort, .int .u8 k0, .string k1, .string k2, .slice k3 k4 k5, .slice k6 k7 k8, .int .i64 r.p0, .int .i64 r.p1, .int .i64 r.p2] 84
  have HNM := Lib.hid (gnamed_ok r.name hs r.sort _ (tabs_grew hT hg))
  have HPL := Lib.hid (fun w (hg : Grew W w) => nPlain_ok (r.sort != 0) r.body w (tabs_grew hT hg) _ _ _ _ _ ((hn.keep hg).mono hg.size))
  have HO := Lib.hid ho
  have HG := Lib.hid hg
  clear hT hn h1 h2 h7 h8 h9 i7 i8 i9 hg ho hs
  have HRP := Lib.hid (show ruleP r ↔ r.sort ≤ 3 ∧ namedP r.name r.sort ∧ GoodN (r.sort != 0) r.body from Iff.rfl)
  obtain ⟨P, hP⟩ : ∃ P, ruleP r = P := ⟨_, rfl⟩
  rw [hP] at HRP ⊢
  clear hP
  by_cases h3 : (3 : Int) < r.sort
  · have HX := Lib.hid (show ¬ P from fun h => by have := (HRP.out.1 h).1; omega)
    go_enter Tryz.func52, Tryz.ntmps52
    go_wp2_with fail
    go_ret
    exact ⟨⟨_, rfl, fun _ => HX.out, fun _ => rfl⟩, HG.out⟩
  · have HLE := Lib.hid (show r.sort ≤ 3 by omega)
    go_enter Tryz.func52, Tryz.ntmps52
    go_wp2_with fail
    refine HNM.out.mono ?_
    rintro e w ⟨⟨b, rfl, hbn⟩, hb⟩
    have o2 := HO.out.keep hb
    have c2 := o2.cell_at (i := 2) rfl
    have c1 := o2.cell_at (i := 1) rfl
    have c3 := o2.cell_at (i := 3) rfl
    have c4 := o2.cell_at (i := 4) rfl
    have c5 := o2.cell_at (i := 5) rfl
    have c6 := o2.cell_at (i := 6) rfl
    have cl := o2.lt
    have HG2 := Lib.hid (HG.out.trans hb)
    have HBN := Lib.hid hbn
    clear hb o2 hbn
    cases b with
    | false =>
      have HX := Lib.hid (show ¬ P from fun h => absurd (HBN.out.2 (HRP.out.1 h).2.1) (by simp))
      go_wp2_with fail
      go_ret
      exact ⟨⟨_, rfl, fun _ => HX.out, fun _ => rfl⟩, HG2.out⟩
    | true =>
      have HP := Lib.hid (HPL.out w HG2.out)
      clear HPL
      go_wp2_with fail
      refine HP.out.mono ?_
      rintro e w2 ⟨⟨b, rfl, hb⟩, hg⟩
      have HG3 := Lib.hid (HG2.out.trans hg)
      have HB := Lib.hid hb
      clear hg hb
      go_wp2_with fail
      go_ret
      refine ⟨⟨_, rfl, ?_⟩, HG3.out⟩
      cases b
      · exact ⟨fun _ h => absurd (HB.out.2 (HRP.out.1 h).2.2) (by simp), fun _ => rfl⟩
      · exact ⟨fun h => (by cases h), fun h => absurd (HRP.out.2 ⟨HLE.out, HBN.out.1 (by first | rfl | trivial), HB.out.1 (by first | rfl | trivial)⟩) h⟩
end Go.Proofs.YtppjmdanckdobaaGreatDoor
