/- What is asked of a grammar's rules, and the rule that a node names. -/
import Derived.BigQuiet
import Derived.Deep.QuietTactic
import Derived.StillTailTactics
import Derived.Deep.RegionHeld3
import Derived.Laws.EntriesVeiled
import Derived.Test.YtgdcnndmdgcjlaaQ4
import Derived.Test.YtgdcnndmdgcjlaaQ3
import Derived.Test.YtgdcnndmdgcjlaaQ1
namespace Go.Proofs.Ytgdcnndmdgcjlaa
open Go.RowKit
structure AskAt (W : World) (ab eb : Nat) (g : Gr) (es : List Bool) : Prop where
  ga : ∃ v0 v1 v2 v3, W.cell? ⟨ab, 0, none⟩ = some v0 ∧ W.cell? ⟨ab, 1, none⟩ = some v1 ∧ W.cell? ⟨ab, 2, none⟩ = some v2 ∧ W.cell? ⟨ab, 3, none⟩ = some v3 ∧ GrAt W W.heap.size (some v0) (some v1) (some v2) (some v3) g
  ea : W.cell? ⟨ab, 4, none⟩ = some (.slice (some ⟨eb, 0, none⟩) g.rules.length g.rules.length)
  el : es.length = g.rules.length
  ec : ∀ i (h : i < es.length), W.cell? ⟨eb, i, none⟩ = some (.bool es[i])
  al : ab < W.heap.size
  bl : eb < W.heap.size
  nl : g.rules.length ≤ reachN
theorem AskAt.keep {W W' : World} {ab eb : Nat} {g : Gr} {es : List Bool} (h : AskAt W ab eb g es) (hb : Below W.heap.size W W') : AskAt W' ab eb g es := by
  obtain ⟨⟨v0, v1, v2, v3, h0, h1, h2, h3, h4⟩, h5, h6, h7, h8, h9, h10⟩ := h
  have e : ∀ o, W'.cell? ⟨ab, o, none⟩ = W.cell? ⟨ab, o, none⟩ := fun o => hb.cell (p := ⟨ab, o, none⟩) h8
  have e' : ∀ o, W'.cell? ⟨eb, o, none⟩ = W.cell? ⟨eb, o, none⟩ := fun o => hb.cell (p := ⟨eb, o, none⟩) h9
  refine ⟨⟨v0, v1, v2, v3, by rw [e]; exact h0, by rw [e]; exact h1, by rw [e]; exact h2, by rw [e]; exact h3, (h4.keep hb).mono hb.size⟩, by rw [e]; exact h5, h6, fun i hi => by rw [e']; exact h7 i hi, by have := hb.size; omega, by have := hb.size; omega, h10⟩
def Gr.sortAt (g : Gr) (i : Int) : Int := match g.rules[i.toNat]? with | some r => r.sort | none => 0
def Gr.named (g : Gr) (token : Bool) (n : Nd) : Int :=
  let i := g.find n.name
  if i < 0 then -1 else if !((g.sortAt i == 0) == (n.kind == 5)) then -1 else if (n.kind == 6) && !token then -1 else i
theorem sortAt_nat (g : Gr) (j : Nat) (hj : j < g.rules.length) : g.sortAt (j : Int) = g.rules[j].sort := by
  simp [Gr.sortAt, hj]
set_option maxHeartbeats 1000000 in
set_option maxRecDepth 20000 in
theorem named_ok (g : Gr) (es : List Bool) (token : Bool) (n : Nd) (W : World) (ab eb : Nat) (v0 v1 v2 v3 v4 : Value) (hA : AskAt W ab eb g es) (hN : NodeAt W W.heap.size (some v0) (some v1) (some v2) (some v3) (some v4) n) :
    Calls Try.prog 98 #[.pointer (some ⟨ab, 0, none⟩), .bool token, .agg #[v0, v1, v2, v3, v4]] W fun e W' => e = .returned (.int .i64 (g.named token n)) ∧ Below W.heap.size W W' := by
  obtain ⟨k, nm, tx, set, subs⟩ := n
  rw [NodeAt] at hN
  obtain ⟨hk, h1, h2, h3, h4, h5, h6, h7⟩ := hN
  obtain rfl := Option.some.inj h3
  obtain rfl := Option.some.inj h4
  clear h3 h4 h5 h6 h7
  unfold reachN at h1 h2
  have hgr := grew_alloc W (.cells #[.int .u8 k, .string nm, v2, v3, v4] 104)
  obtain ⟨⟨g0, g1, g2, g3, c0, c1, c2, c3, hG⟩, h5, h6, h7, h8, h9, h10⟩ := hA.keep hgr
  have hS := Lib.hid (fun W' => find_ok g nm W' g0 g1 g2 g3)
  have b1 : (W.alloc (.cells #[.int .u8 k, .string nm, v2, v3, v4] 104)).cell? ⟨W.heap.size, 1, none⟩ = some (.string nm) := by simp [go_sem]
  have b0 : (W.alloc (.cells #[.int .u8 k, .string nm, v2, v3, v4] 104)).cell? ⟨W.heap.size, 0, none⟩ = some (.int .u8 k) := by simp [go_sem]
  have hsz : W.heap.size < (W.alloc (.cells #[.int .u8 k, .string nm, v2, v3, v4] 104)).heap.size := by simp
  clear h5 h6 h7 h9
  rcases ixOf_cases g.rules (fun r => sameB r.name nm) with ⟨hi, _⟩ | ⟨j, hj, hi, _, _⟩
  · have hfin : Hid (g.named token (.mk k nm tx set subs) = -1) := by
      unfold Hid Gr.named Gr.find
      simp [Nd.name, hi]
    change g.find nm = -1 at hi
    rw [hi] at hS
    clear hi
    go_enter Try.func98, Try.ntmps98
    go_wp2_with fail
    generalize W.alloc (.cells #[.int .u8 k, .string nm, v2, v3, v4] 104) = w1 at *
    refine wp_region_hav_lit follows (by kernel_rfl) ?_
    repeat (first
      | (refine HavG.skip (fun _ => rfl) ?_; simp only [Act.put, List.setIfInBounds_toArray, List.set_cons_zero, List.set_cons_succ])
      | (refine HavG.val (fun _ => rfl) ?_ (fun x w hw _ => ?_) ?_; rotate_left; (focus (have hc := hw.cells; clear hw; go_simp; first | done | rfl)); simp only [Act.put, List.setIfInBounds_toArray, List.set_cons_zero, List.set_cons_succ]))
    refine HavG.tail (by kernel_rfl) (by kernel_rfl) (fun x w hw _ => ?_)
    have hc := hw.cells
    have HW := Lib.hid hw
    clear hw
    go_wp2_with (go_at_call 80; refine (hS.out _ ((hG.keep HW.out).mono HW.out.size)).mono ?_; rintro e w' ⟨rfl, hb2⟩)
    have hw' : Grew w1 w' := HW.out.trans hb2
    clear hc hb2 HW
    refine wp_region_hav_lit follows (by kernel_rfl) ?_
    repeat (first
      | (refine HavG.skip (fun _ => rfl) ?_; simp only [Act.put, List.setIfInBounds_toArray, List.set_cons_zero, List.set_cons_succ])
      | (refine HavG.val (fun _ => rfl) ?_ (fun x w hw _ => ?_) ?_; rotate_left; (focus (have hc := (hw'.trans hw).cells; clear hw; go_simp; first | done | rfl)); simp only [Act.put, List.setIfInBounds_toArray, List.set_cons_zero, List.set_cons_succ]))
    refine HavG.tail (by kernel_rfl) (by kernel_rfl) (fun x w hw _ => ?_)
    go_wp2
    go_ret
    exact ⟨ret_int hfin.out.symm, hgr.trans (hw'.trans hw)⟩
  · change g.find nm = (j : Int) at hi
    have hfin : Hid (g.named token (.mk k nm tx set subs) = if !((g.rules[j].sort == 0) == (k == 5)) then (-1 : Int) else if (k == 6) && !token then -1 else (j : Int)) := by
      unfold Hid Gr.named
      have hn : ¬ ((j : Int) < 0) := by omega
      simp only [Nd.name, Nd.kind, hi, hn, if_false, sortAt_nat g j hj]
    rw [hi] at hS
    clear hi
    have hG' := hG
    obtain ⟨q1, q2, q3, q4, q5, q6, ra, rc, q7, q8, q9⟩ := hG'
    obtain rfl := Option.some.inj q1
    obtain rfl := Option.some.inj q3
    obtain rfl := Option.some.inj q4
    obtain rfl := Option.some.inj q7
    obtain ⟨rb, ro, rfl, hrb, hrule⟩ := q9.get hj
    simp only [Nat.zero_add] at hrule
    obtain ⟨-, -, e1, hs, -⟩ := hrule
    generalize g.rules[j].sort = srt at *
    unfold reachN at q8
    clear q1 q2 q3 q4 q5 q6 q7 q9 h10
    go_enter Try.func98, Try.ntmps98
    go_wp2_with fail
    generalize W.alloc (.cells #[.int .u8 k, .string nm, v2, v3, v4] 104) = w1 at *
    refine wp_region_hav_lit follows (by kernel_rfl) ?_
    repeat (first
      | (refine HavG.skip (fun _ => rfl) ?_; simp only [Act.put, List.setIfInBounds_toArray, List.set_cons_zero, List.set_cons_succ])
      | (refine HavG.val (fun _ => rfl) ?_ (fun x w hw _ => ?_) ?_; rotate_left; (focus (have hc := hw.cells; clear hw; go_simp; first | done | rfl)); simp only [Act.put, List.setIfInBounds_toArray, List.set_cons_zero, List.set_cons_succ]))
    refine HavG.tail (by kernel_rfl) (by kernel_rfl) (fun x w hw _ => ?_)
    have hc := hw.cells
    have HW := Lib.hid hw
    clear hw
    go_wp2_with (go_at_call 80; refine (hS.out _ ((hG.keep HW.out).mono HW.out.size)).mono ?_; rintro e w' ⟨rfl, hb2⟩)
    have hw' : Grew w1 w' := HW.out.trans hb2
    clear hc hb2 HW
    refine wp_region_hav_lit follows (by kernel_rfl) ?_
    repeat (first
      | (refine HavG.skip (fun _ => rfl) ?_; simp only [Act.put, List.setIfInBounds_toArray, List.set_cons_zero, List.set_cons_succ])
      | (refine HavG.val (fun _ => rfl) ?_ (fun x w hw _ => ?_) ?_; rotate_left; (focus (have hc := (hw'.trans hw).cells; clear hw; go_simp; first | done | rfl)); simp only [Act.put, List.setIfInBounds_toArray, List.set_cons_zero, List.set_cons_succ]))
    refine HavG.tail (by kernel_rfl) (by kernel_rfl) (fun x w hw _ => ?_)
    have hc := (hw'.trans hw).cells
    have HW := Lib.hid (hgr.trans (hw'.trans hw))
    clear hw hw' hgr
    go_wp2
    all_goals
      go_ret
      refine ⟨ret_int ?_, HW.out⟩
      rw [hfin.out]
      have hjn : ¬ ((j : Int) < 0) := by omega
      clear hS hfin HW hc b0 b1 c0 c1 c2 c3 hG hA
      simp_all
end Go.Proofs.Ytgdcnndmdgcjlaa

/- Whether a node may be empty. -/
namespace Go.Proofs.Ytgdcnndmdgcjlaa
open Go.RowKit
theorem enters101 : Enters 101 := fun _ _ => by kernel_rfl
theorem enters103 : Enters 103 := fun _ _ => by kernel_rfl
theorem ixOf_any {α : Type} (l : List α) (q : α → Bool) : decide (0 ≤ ixOf l q) = l.any q := by
  rcases ixOf_cases l q with ⟨h, hn⟩ | ⟨j, hj, h, hq, _⟩
  · rw [h]
    symm
    have : l.any q = false := by
      rw [List.any_eq_false]
      intro x hx
      obtain ⟨i, hi, rfl⟩ := List.mem_iff_getElem.1 hx
      simp [hn i hi]
    rw [this]; rfl
  · rw [h]
    have : l.any q = true := List.any_eq_true.2 ⟨l[j], List.getElem_mem hj, hq⟩
    rw [this]
    simp
def AskEach (F : Nat) (cp : Array Value) (W : World) (l : List Nd) (q : Nd → Bool) : Prop :=
  ∀ (i : Nat) (hi : i < l.length) (W' : World) (v0 v1 v2 v3 v4 : Value), Grew W W' → NodeAt W' W'.heap.size (some v0) (some v1) (some v2) (some v3) (some v4) l[i] →
      Calls Try.prog F (#[.agg #[v0, v1, v2, v3, v4]] ++ cp) W' fun e W2 => e = .returned (.bool (q l[i])) ∧ Below W'.heap.size W' W2
set_option maxHeartbeats 1000000 in
set_option maxRecDepth 20000 in
theorem indexNodes_ok (l : List Nd) (q : Nd → Bool) (F : Nat) (cp : Array Value) (hF : Enters F) (W : World) (a : Option Addr) (cap : Nat) (hl : l.length ≤ reachN) (hR : NodesAt W W.heap.size a 0 l) (HF : AskEach F cp W l q) :
    Calls Try.prog 105 #[.slice a l.length cap, .func (.func F) #[] cp] W fun e W' => e = .returned (.int .i64 (ixOf l q)) ∧ Below W.heap.size W W' := by
  unfold reachN at hl
  go_enter Try.func105, Try.ntmps105
  go_wp2
  go_loopw [8] (fun i wr => ∃ (j : Nat), i = .int .i64 j ∧ j ≤ l.length ∧ Hid (NoneTo l q j) ∧ Below W.heap.size W wr) (fun i _ => l.length - (intOf i).toNat)
  case atStart =>
    exact ⟨0, rfl, by omega, fun i hi h => absurd h (by omega), Below.refl _ _⟩
  case round =>
    obtain ⟨j, rfl, hj, hf, hbw⟩ := hrel
    by_cases hlt : j < l.length
    · obtain ⟨b, off, rfl, hb, hnode⟩ := (hR.keep hbw).get hlt
      simp only [Nat.zero_add] at hnode
      obtain ⟨u0, u1, u2, u3, u4, e0, e1, e2, e3, e4, hnode⟩ := hnode.vals
      have HS := Lib.hid (HF j hlt wr _ _ _ _ _ hbw (hnode.mono hbw.size))
      clear hnode hR HF
      have hFx := hF
      unfold Enters at hFx
      clear hF
      obtain ⟨t, ht⟩ : ∃ t, t = q l[j] := ⟨_, rfl⟩
      rw [← ht] at HS
      have HQ := Lib.hid ht
      clear ht
      cases t
      · go_wp2_with (refine HS.out.mono ?_; rintro e w2 ⟨rfl, hb2⟩)
        exact ⟨⟨j + 1, by go_num, by omega, noneTo_next hf.out hlt HQ.out.symm, hbw.trans (hb2.mono hbw.size)⟩, by simp [intOf]; omega⟩
      · go_wp2_with (refine HS.out.mono ?_; rintro e w2 ⟨rfl, hb2⟩)
        go_ret
        exact ⟨ret_int (ixOf_at hlt hf.out HQ.out.symm).symm, hbw.trans (hb2.mono hbw.size)⟩
    · go_wp2_with fail
      go_ret
      exact ⟨ret_int (ixOf_none fun i hi => hf.out i hi (by omega)).symm, hbw⟩
theorem contNodes_ok (l : List Nd) (q : Nd → Bool) (F : Nat) (cp : Array Value) (hF : Enters F) (W : World) (a : Option Addr) (cap : Nat) (hl : l.length ≤ reachN) (hR : NodesAt W W.heap.size a 0 l) (HF : AskEach F cp W l q) :
    Calls Try.prog 102 #[.slice a l.length cap, .func (.func F) #[] cp] W fun e W' => e = .returned (.bool (l.any q)) ∧ Below W.heap.size W W' := by
  have hS := Lib.hid (indexNodes_ok l q F cp hF W a cap hl hR HF)
  clear HF hR hF
  go_enter Try.func102, Try.ntmps102
  go_wp2_with (go_at_call 105; refine hS.out.mono ?_; rintro e w' ⟨rfl, hb2⟩)
  go_ret
  exact ⟨ret_bool (ixOf_any l q), hb2⟩
theorem lt_of_cell {W : World} {b o : Nat} {v : Value} (h : W.cell? ⟨b, o, none⟩ = some v) : b < W.heap.size := by
  rcases Nat.lt_or_ge b W.heap.size with h' | h'
  · exact h'
  · simp [World.cell?, Array.getElem?_eq_none h'] at h
theorem may1_ok (r token : Bool) (ab pa pt : Nat) (v0 v1 v2 v3 v4 : Value) (W : World) (ha : W.cell? ⟨pa, 0, none⟩ = some (.pointer (some ⟨ab, 0, none⟩))) (ht : W.cell? ⟨pt, 0, none⟩ = some (.bool token))
    (H : ∀ W1, Grew W W1 → Calls Try.prog 97 #[.pointer (some ⟨ab, 0, none⟩), .bool token, .agg #[v0, v1, v2, v3, v4]] W1 fun e W2 => e = .returned (.bool r) ∧ Below W1.heap.size W1 W2) :
    Calls Try.prog 101 (#[.agg #[v0, v1, v2, v3, v4]] ++ #[.pointer (some ⟨pa, 0, none⟩), .pointer (some ⟨pt, 0, none⟩)]) W fun e W2 => e = .returned (.bool r) ∧ Below W.heap.size W W2 := by
  have hgr := grew_alloc W (.cells #[v0, v1, v2, v3, v4] 104)
  have hl := lt_of_cell ha
  have hl2 := lt_of_cell ht
  have hS := Lib.hid (H _ hgr)
  clear H
  simp only [List.append_toArray, List.cons_append, List.nil_append]
  go_enter Try.func101, Try.ntmps101
  go_wp2_with (go_at_call 97; refine hS.out.mono ?_; rintro e w' ⟨rfl, hb2⟩)
  go_ret
  exact ⟨rfl, hgr.trans hb2⟩
theorem may2_ok (r token : Bool) (ab pa pt ps : Nat) (v0 v1 v2 v3 v4 : Value) (W : World) (ha : W.cell? ⟨pa, 0, none⟩ = some (.pointer (some ⟨ab, 0, none⟩))) (ht : W.cell? ⟨pt, 0, none⟩ = some (.bool token))
    (hs : W.cell? ⟨ps, 0, none⟩ = some (.func (.func 101) #[] #[.pointer (some ⟨pa, 0, none⟩), .pointer (some ⟨pt, 0, none⟩)]))
    (H : ∀ W1, Grew W W1 → Calls Try.prog 97 #[.pointer (some ⟨ab, 0, none⟩), .bool token, .agg #[v0, v1, v2, v3, v4]] W1 fun e W2 => e = .returned (.bool r) ∧ Below W1.heap.size W1 W2) :
    Calls Try.prog 103 (#[.agg #[v0, v1, v2, v3, v4]] ++ #[.pointer (some ⟨ps, 0, none⟩)]) W fun e W2 => e = .returned (.bool !r) ∧ Below W.heap.size W W2 := by
  have hgr := grew_alloc W (.cells #[v0, v1, v2, v3, v4] 104)
  have hl := lt_of_cell ha
  have hl2 := lt_of_cell ht
  have hl3 := lt_of_cell hs
  have hS := Lib.hid (may1_ok r token ab pa pt v0 v1 v2 v3 v4 _ (by rw [hgr.cells _ _ hl]; exact ha) (by rw [hgr.cells _ _ hl2]; exact ht) (fun W1 h => H W1 (hgr.trans h)))
  clear H ha ht
  simp only [List.append_toArray, List.cons_append, List.nil_append]
  go_enter Try.func103, Try.ntmps103
  go_wp2_with (go_at_call 101; refine hS.out.mono ?_; rintro e w' ⟨rfl, hb2⟩)
  go_ret
  exact ⟨rfl, hgr.trans hb2⟩
end Go.Proofs.Ytgdcnndmdgcjlaa

/- Whether a node may be empty: the function itself. -/
namespace Go.Proofs.Ytgdcnndmdgcjlaa
open Go.RowKit
mutual
def Gr.may (g : Gr) (es : List Bool) (token : Bool) : Nd → Bool
  | .mk k nm tx set subs =>
    if k == 1 then Gr.mayAll g es token subs
    else if k == 0 || k == 4 then Gr.mayAny g es token subs
    else if k == 2 || k == 3 || k == 7 then true
    else if k == 8 then tx.toList.isEmpty
    else if k == 5 || k == 6 then decide (0 ≤ g.named token (.mk k nm tx set subs)) && es.getD (g.named token (.mk k nm tx set subs)).toNat false
    else false
def Gr.mayAll (g : Gr) (es : List Bool) (token : Bool) : List Nd → Bool
  | [] => true
  | n :: r => Gr.may g es token n && Gr.mayAll g es token r
def Gr.mayAny (g : Gr) (es : List Bool) (token : Bool) : List Nd → Bool
  | [] => false
  | n :: r => Gr.may g es token n || Gr.mayAny g es token r
end
theorem mayAll_eq (g : Gr) (es : List Bool) (token : Bool) (l : List Nd) : Gr.mayAll g es token l = !l.any (fun n => !g.may es token n) := by
  induction l with
  | nil => simp [Gr.mayAll]
  | cons n r ih => simp [Gr.mayAll, ih]
theorem mayAny_eq (g : Gr) (es : List Bool) (token : Bool) (l : List Nd) : Gr.mayAny g es token l = l.any (fun n => g.may es token n) := by
  induction l with
  | nil => simp [Gr.mayAny]
  | cons n r ih => simp [Gr.mayAny, ih]
theorem named_range (g : Gr) (token : Bool) (n : Nd) : g.named token n = -1 ∨ ∃ j, ∃ _ : j < g.rules.length, g.named token n = (j : Int) := by
  unfold Gr.named
  rcases ixOf_cases g.rules (fun r => sameB r.name n.name) with ⟨hi, _⟩ | ⟨j, hj, hi, _, _⟩
  · change g.find n.name = -1 at hi
    left; simp [hi]
  · change g.find n.name = (j : Int) at hi
    simp only [hi]
    have : ¬ ((j : Int) < 0) := by omega
    simp only [this, if_false]
    split
    · exact .inl rfl
    · split
      · exact .inl rfl
      · exact .inr ⟨j, hj, rfl⟩
set_option maxHeartbeats 4000000 in
set_option maxRecDepth 20000 in
theorem may_ok (g : Gr) (es : List Bool) (token : Bool) (n : Nd) : ∀ (W : World) (ab eb : Nat) (v0 v1 v2 v3 v4 : Value), AskAt W ab eb g es → NodeAt W W.heap.size (some v0) (some v1) (some v2) (some v3) (some v4) n →
    Calls Try.prog 97 #[.pointer (some ⟨ab, 0, none⟩), .bool token, .agg #[v0, v1, v2, v3, v4]] W fun e W' => e = .returned (.bool (g.may es token n)) ∧ Below W.heap.size W W' := by
  induction n using Nd.ind with
  | h k nm tx set subs ih =>
  intro W ab eb v0 v1 v2 v3 v4 hA hN
  have hN' := hN
  rw [NodeAt] at hN
  obtain ⟨hk, h1, h2, h3, h4, h5, ⟨sa, sc, h6, h6', h7⟩, na, nc, h8, h8', h9⟩ := hN
  obtain rfl := Option.some.inj h3
  obtain rfl := Option.some.inj h4
  obtain rfl := Option.some.inj h5
  obtain rfl := Option.some.inj h6
  obtain rfl := Option.some.inj h8
  clear h3 h4 h5 h6 h8 h7
  have hk' : k = 0 ∨ k = 1 ∨ k = 2 ∨ k = 3 ∨ k = 4 ∨ k = 5 ∨ k = 6 ∨ k = 7 ∨ k = 8 ∨ 9 ≤ k := by omega
  have hnr := Lib.hid (named_range g token (.mk k nm tx set subs))
  have hgr : Grew W ((((W.alloc (.cells #[.pointer (some ⟨ab, 0, none⟩)] 172)).alloc (.cells #[.bool token] 4)).alloc (.cells #[.int .u8 k, .string nm, .string tx, .slice sa set.length sc, .slice na subs.length nc] 104)).alloc (.cells #[.func (.func 101) #[] #[.pointer (some ⟨W.heap.size, 0, none⟩), .pointer (some ⟨W.heap.size + 1, 0, none⟩)]] 131)) :=
    (((grew_alloc _ _).trans (grew_alloc _ _)).trans (grew_alloc _ _)).trans (grew_alloc _ _)
  have hmw : ∃ w1, w1 = ((((W.alloc (.cells #[.pointer (some ⟨ab, 0, none⟩)] 172)).alloc (.cells #[.bool token] 4)).alloc (.cells #[.int .u8 k, .string nm, .string tx, .slice sa set.length sc, .slice na subs.length nc] 104)).alloc (.cells #[.func (.func 101) #[] #[.pointer (some ⟨W.heap.size, 0, none⟩), .pointer (some ⟨W.heap.size + 1, 0, none⟩)]] 131)) := ⟨_, rfl⟩
  obtain ⟨w1, hw1⟩ := hmw
  rw [← hw1] at hgr
  have f0 : w1.cell? ⟨W.heap.size, 0, none⟩ = some (.pointer (some ⟨ab, 0, none⟩)) := by rw [hw1]; simp [go_sem]
  have f1 : w1.cell? ⟨W.heap.size + 1, 0, none⟩ = some (.bool token) := by rw [hw1]; simp [go_sem]
  have f3 : w1.cell? ⟨W.heap.size + 1 + 1 + 1, 0, none⟩ = some (.func (.func 101) #[] #[.pointer (some ⟨W.heap.size, 0, none⟩), .pointer (some ⟨W.heap.size + 1, 0, none⟩)]) := by rw [hw1]; simp [go_sem]
  have hA1 := hA.keep hgr
  have hM1 : AskEach 101 #[.pointer (some ⟨W.heap.size, 0, none⟩), .pointer (some ⟨W.heap.size + 1, 0, none⟩)] w1 subs (fun n => g.may es token n) := by
    intro i hi W' u0 u1 u2 u3 u4 hg hn
    exact may1_ok _ token ab _ _ u0 u1 u2 u3 u4 W' (by rw [hg.cells _ _ (lt_of_cell f0)]; exact f0) (by rw [hg.cells _ _ (lt_of_cell f1)]; exact f1)
      (fun W1 h => ih i hi W1 ab eb u0 u1 u2 u3 u4 (hA1.keep (hg.trans h)) ((hn.keep h).mono h.size))
  have hM2 : AskEach 103 #[.pointer (some ⟨W.heap.size + 1 + 1 + 1, 0, none⟩)] w1 subs (fun n => !g.may es token n) := by
    intro i hi W' u0 u1 u2 u3 u4 hg hn
    exact may2_ok _ token ab _ _ _ u0 u1 u2 u3 u4 W' (by rw [hg.cells _ _ (lt_of_cell f0)]; exact f0) (by rw [hg.cells _ _ (lt_of_cell f1)]; exact f1) (by rw [hg.cells _ _ (lt_of_cell f3)]; exact f3)
      (fun W1 h => ih i hi W1 ab eb u0 u1 u2 u3 u4 (hA1.keep (hg.trans h)) ((hn.keep h).mono h.size))
  have hC1 := Lib.hid (contNodes_ok subs _ 101 _ enters101 w1 na nc h8' ((h9.keep hgr).mono hgr.size) hM1)
  have hC2 := Lib.hid (contNodes_ok subs _ 103 _ enters103 w1 na nc h8' ((h9.keep hgr).mono hgr.size) hM2)
  have hNm := Lib.hid (named_ok g es token _ w1 ab eb _ _ _ _ _ hA1 ((hN'.keep hgr).mono hgr.size))
  have HA := Lib.hid hA1
  have HG := Lib.hid hgr
  rw [hw1] at hC1 hC2 hNm HA HG
  clear hgr f0 f1 f3 hA1 hM1 hM2 hN' h9 ih hA hw1 w1
  unfold reachN at h1 h2 h6' h8'
  rcases hk' with rfl | rfl | rfl | rfl | rfl | rfl | rfl | rfl | rfl | hk9
  · go_enter Try.func97, Try.ntmps97
    go_wp2_with (go_at_call 102; refine hC1.out.mono ?_; rintro e w' ⟨rfl, hb2⟩)
    go_ret
    exact ⟨ret_bool (by simp [Gr.may, mayAny_eq]), HG.out.trans hb2⟩
  · go_enter Try.func97, Try.ntmps97
    go_wp2_with (go_at_call 102; refine hC2.out.mono ?_; rintro e w' ⟨rfl, hb2⟩)
    go_ret
    exact ⟨ret_bool (by simp [Gr.may, mayAll_eq]), HG.out.trans hb2⟩
  · go_enter Try.func97, Try.ntmps97
    go_wp2_with fail
    go_ret
    exact ⟨ret_bool (by simp [Gr.may]), HG.out⟩
  · go_enter Try.func97, Try.ntmps97
    go_wp2_with fail
    go_ret
    exact ⟨ret_bool (by simp [Gr.may]), HG.out⟩
  · go_enter Try.func97, Try.ntmps97
    go_wp2_with (go_at_call 102; refine hC1.out.mono ?_; rintro e w' ⟨rfl, hb2⟩)
    go_ret
    exact ⟨ret_bool (by simp [Gr.may, mayAny_eq]), HG.out.trans hb2⟩
  · rcases hnr.out with hi | ⟨j, hj, hi⟩
    · have hfin : Hid (g.may es token (.mk 5 nm tx set subs) = false) := by simp [Hid, Gr.may, hi]
      rw [hi] at hNm
      clear hi hnr HA hC1 hC2
      go_enter Try.func97, Try.ntmps97
      go_wp2_with (go_at_call 98; refine hNm.out.mono ?_; rintro e w' ⟨rfl, hb2⟩; have HB := Lib.hid hb2; clear hb2)
      go_ret
      exact ⟨ret_bool hfin.out.symm, HG.out.trans HB.out⟩
    · obtain ⟨-, ea, el, ec, al, bl, nl⟩ := HA.out
      have hjl : j < es.length := by omega
      have hfin : Hid (g.may es token (.mk 5 nm tx set subs) = es[j]) := by simp [Hid, Gr.may, hi, hjl]
      have ej := ec j hjl
      rw [hi] at hNm
      generalize es[j] = bj at *
      have HL := Lib.hid el
      unfold reachN at nl
      simp at al bl
      clear hi hnr HA hC1 hC2 ec el
      go_enter Try.func97, Try.ntmps97
      go_wp2_with (go_at_call 98; refine hNm.out.mono ?_; rintro e w' ⟨rfl, hb2⟩; have hc := Grew.cells hb2; have HB := Lib.hid hb2; clear hb2)
      go_ret
      exact ⟨ret_bool (by rw [hfin.out]), HG.out.trans HB.out⟩
  · rcases hnr.out with hi | ⟨j, hj, hi⟩
    · have hfin : Hid (g.may es token (.mk 6 nm tx set subs) = false) := by simp [Hid, Gr.may, hi]
      rw [hi] at hNm
      clear hi hnr HA hC1 hC2
      go_enter Try.func97, Try.ntmps97
      go_wp2_with (go_at_call 98; refine hNm.out.mono ?_; rintro e w' ⟨rfl, hb2⟩; have HB := Lib.hid hb2; clear hb2)
      go_ret
      exact ⟨ret_bool hfin.out.symm, HG.out.trans HB.out⟩
    · obtain ⟨-, ea, el, ec, al, bl, nl⟩ := HA.out
      have hjl : j < es.length := by omega
      have hfin : Hid (g.may es token (.mk 6 nm tx set subs) = es[j]) := by simp [Hid, Gr.may, hi, hjl]
      have ej := ec j hjl
      rw [hi] at hNm
      generalize es[j] = bj at *
      have HL := Lib.hid el
      unfold reachN at nl
      simp at al bl
      clear hi hnr HA hC1 hC2 ec el
      go_enter Try.func97, Try.ntmps97
      go_wp2_with (go_at_call 98; refine hNm.out.mono ?_; rintro e w' ⟨rfl, hb2⟩; have hc := Grew.cells hb2; have HB := Lib.hid hb2; clear hb2)
      go_ret
      exact ⟨ret_bool (by rw [hfin.out]), HG.out.trans HB.out⟩
  · go_enter Try.func97, Try.ntmps97
    go_wp2_with fail
    go_ret
    exact ⟨ret_bool (by simp [Gr.may]), HG.out⟩
  · go_enter Try.func97, Try.ntmps97
    go_wp2_with fail
    go_ret
    exact ⟨ret_bool (by simp [Gr.may]), HG.out⟩
  · go_enter Try.func97, Try.ntmps97
    go_wp2_with fail
    go_ret
    have e0 : ∀ c : Int, c ≤ 8 → (k == c) = false := fun c hc => by simp; omega
    exact ⟨ret_bool (by simp only [Gr.may, e0 0 (by omega), e0 1 (by omega), e0 2 (by omega), e0 3 (by omega), e0 4 (by omega), e0 5 (by omega), e0 6 (by omega), e0 7 (by omega), e0 8 (by omega)]; rfl), HG.out⟩
end Go.Proofs.Ytgdcnndmdgcjlaa

/- nulls.token: what takes a token at once. -/
namespace Go.Proofs.Ytgdcnndmdgcjlaa
open Go.RowKit
def Rl.token (r : Rl) : Bool := !(r.sort == 0)
theorem token_ok (r : Rl) (W : World) (v0 v1 v2 v3 v4 v5 v6 v7 v8 v9 : Value) (hR : v1 = .int .u8 r.sort) :
    Calls Try.prog 84 #[.agg #[v0, v1, v2, v3, v4, v5, v6, v7, v8, v9]] W fun e W2 => e = .returned (.bool r.token) ∧ Below W.heap.size W W2 := by
  subst hR
  go_enter Try.func84, Try.ntmps84
  go_wp2
  go_ret
  exact ⟨rfl, (Below.refl _ _).alloc (Nat.le_refl _) _⟩
end Go.Proofs.Ytgdcnndmdgcjlaa

/- Which rules may be empty: the fewest of which it holds. No program in sight. -/
namespace Go.Proofs.Ytgdcnndmdgcjlaa
open Go.RowKit
def Leq (es fs : List Bool) : Prop := ∀ i : Nat, es.getD i false = true → fs.getD i false = true
def Gr.Pre (g : Gr) (fs : List Bool) : Prop := ∀ i (h : i < g.rules.length), g.may fs g.rules[i].token g.rules[i].body = true → fs.getD i false = true
def Gr.Sound (g : Gr) (es : List Bool) : Prop := es.length = g.rules.length ∧ ∀ fs, g.Pre fs → Leq es fs
structure Gr.IsEmpty (g : Gr) (es : List Bool) : Prop where
  sound : g.Sound es
  pre : g.Pre es
mutual
theorem may_mono {g : Gr} {es fs : List Bool} (h : Leq es fs) (token : Bool) : ∀ n : Nd, g.may es token n = true → g.may fs token n = true
  | .mk k nm tx set subs => by
    have h1 := mayAll_mono (g := g) h token subs
    have h2 := mayAny_mono (g := g) h token subs
    rw [Gr.may, Gr.may]
    split
    · exact h1
    · split
      · exact h2
      · split
        · exact id
        · split
          · exact id
          · split
            · intro h3
              simp only [Bool.and_eq_true] at h3 ⊢
              exact ⟨h3.1, h _ h3.2⟩
            · exact id
theorem mayAll_mono {g : Gr} {es fs : List Bool} (h : Leq es fs) (token : Bool) : ∀ l : List Nd, g.mayAll es token l = true → g.mayAll fs token l = true
  | [] => by simp [Gr.mayAll]
  | n :: r => by
    have h1 := may_mono (g := g) h token n
    have h2 := mayAll_mono (g := g) h token r
    simp only [Gr.mayAll, Bool.and_eq_true]
    exact fun h3 => ⟨h1 h3.1, h2 h3.2⟩
theorem mayAny_mono {g : Gr} {es fs : List Bool} (h : Leq es fs) (token : Bool) : ∀ l : List Nd, g.mayAny es token l = true → g.mayAny fs token l = true
  | [] => by simp [Gr.mayAny]
  | n :: r => by
    have h1 := may_mono (g := g) h token n
    have h2 := mayAny_mono (g := g) h token r
    simp only [Gr.mayAny, Bool.or_eq_true]
    exact fun h3 => h3.imp h1 h2
end
theorem Gr.Sound.next {g : Gr} {es : List Bool} (h : g.Sound es) {i : Nat} (hi : i < g.rules.length) (hm : g.may es g.rules[i].token g.rules[i].body = true) : g.Sound (es.set i true) := by
  refine ⟨by simp [h.1], fun fs hfs j hj => ?_⟩
  by_cases e : i = j
  · subst e
    exact hfs i hi (may_mono (h.2 fs hfs) _ _ hm)
  · apply h.2 fs hfs j
    simpa [List.getD_eq_getElem?_getD, List.getElem?_set_ne e] using hj
theorem Gr.Sound.start (g : Gr) : g.Sound (List.replicate g.rules.length false) := by
  refine ⟨by simp, fun fs _ j hj => ?_⟩
  rw [List.getD_eq_getElem?_getD, List.getElem?_replicate] at hj
  split at hj <;> simp at hj
theorem Gr.IsEmpty.unique {g : Gr} {es fs : List Bool} (h : g.IsEmpty es) (k : g.IsEmpty fs) : es = fs := by
  apply List.ext_getElem (by rw [h.sound.1, k.sound.1])
  intro i h1 h2
  have a := h.sound.2 fs k.pre i
  have b := k.sound.2 es h.pre i
  simp only [List.getD_eq_getElem?_getD, List.getElem?_eq_getElem h1, List.getElem?_eq_getElem h2, Option.getD_some] at a b
  cases hx : es[i] <;> cases hy : fs[i] <;> simp_all
def falses (es : List Bool) : Nat := (es.filter fun b => !b).length
theorem falses_set (es : List Bool) (i : Nat) (h : i < es.length) (hf : es[i] = false) : falses (es.set i true) + 1 = falses es := by
  induction es generalizing i with
  | nil => simp at h
  | cons b r ih =>
    cases i with
    | zero => simp at hf; subst hf; simp [falses]
    | succ i =>
      have := ih i (by simpa using h) (by simpa using hf)
      simp only [List.set_cons_succ, falses, List.filter_cons] at *
      split <;> simp_all
def SweepTo (g : Gr) (es0 es : List Bool) (c : Bool) (j : Nat) : Prop :=
  g.Sound es ∧ (c = true → falses es < falses es0) ∧ (c = false → es = es0 ∧ ∀ i (h : i < g.rules.length), i < j → g.may es g.rules[i].token g.rules[i].body = true → es.getD i false = true)
theorem SweepTo.start {g : Gr} {es : List Bool} (h : g.Sound es) : SweepTo g es es false 0 := ⟨h, by simp, fun _ => ⟨rfl, fun i _ h => absurd h (by omega)⟩⟩
theorem SweepTo.keep {g : Gr} {es0 es : List Bool} {c : Bool} {j : Nat} (h : SweepTo g es0 es c j) (hj : j < g.rules.length) (hk : es.getD j false = true ∨ g.may es g.rules[j].token g.rules[j].body = false) : SweepTo g es0 es c (j + 1) := by
  refine ⟨h.1, h.2.1, fun hc => ⟨(h.2.2 hc).1, fun i hi hlt hm => ?_⟩⟩
  by_cases e : i = j
  · subst e
    rcases hk with hk | hk
    · exact hk
    · rw [hk] at hm; cases hm
  · exact (h.2.2 hc).2 i hi (by omega) hm
theorem SweepTo.grow {g : Gr} {es0 es : List Bool} {c : Bool} {j : Nat} (h : SweepTo g es0 es c j) (hj : j < g.rules.length) (hf : es.getD j false = false) (hm : g.may es g.rules[j].token g.rules[j].body = true) : SweepTo g es0 (es.set j true) true (j + 1) := by
  have hl : j < es.length := by rw [h.1.1]; exact hj
  have hf' : es[j] = false := by simpa [List.getD_eq_getElem?_getD, List.getElem?_eq_getElem hl] using hf
  refine ⟨h.1.next hj hm, fun _ => ?_, by simp⟩
  have h1 := falses_set es j hl hf'
  cases c with
  | true => have := h.2.1 rfl; omega
  | false => have := (h.2.2 rfl).1; subst this; omega
theorem SweepTo.done {g : Gr} {es0 es : List Bool} (h : SweepTo g es0 es false g.rules.length) : g.IsEmpty es := ⟨h.1, fun i hi hm => (h.2.2 rfl).2 i hi hi hm⟩
end Go.Proofs.Ytgdcnndmdgcjlaa

/- nulls.known: rounds till nothing changes. -/
namespace Go.Proofs.Ytgdcnndmdgcjlaa
open Go.RowKit
theorem info_bool : (Try.prog.info? 4).map (fun i => (i.zero, i.size, i.bytes)) = some (some (.bool false), 1, 1) := by kernel_rfl
theorem make_bools (n : Nat) (hn : n ≤ reachN) (u : World) : (Instr.makeSlice 31 (.int .i64 (n : Int)) (.int .i64 (n : Int))).run Try.prog u =
    .ok (.slice (some ⟨u.heap.size, 0, none⟩) n n) (u.alloc (.cells (List.replicate n (.bool false)).toArray 4)) := by
  obtain ⟨i0, hi, hz0, hz1, hz2⟩ := info_parts info_bool
  unfold reachN at hn
  have h := run_make (P := Try.prog) u 31 4 i0 (.bool false) Try.underlying31 hi hz0 .i64 .i64 (n : Int) (n : Int) (by omega) (Int.le_refl _) (by rw [hz2]; omega) (by omega)
  rw [Int.toNat_natCast, hz1, Nat.mul_one] at h
  rw [h, ← made_bools]
  rfl
def isF : Value → Bool
  | .bool false => true
  | _ => false
def fal (w : World) (b : Nat) : Nat :=
  match w.heap[b]? with
  | some (.cells c _ _) => (c.toList.filter isF).length
  | _ => 0
theorem isF_count (es : List Bool) : ((es.map Value.bool).filter isF).length = (es.filter fun b => !b).length := by
  induction es with
  | nil => rfl
  | cons x r ih =>
    have h1 : isF (.bool false) = true := rfl
    have h2 : isF (.bool true) = false := rfl
    cases x <;> simp [h1, h2, ih]
theorem fal_of {w : World} {b : Nat} {es : List Bool} {T : Nat} (h : Owns w b (es.map .bool) T) : fal w b = falses es := by
  unfold Owns at h
  unfold fal falses
  simp only [h]
  exact isF_count es
structure AskOwn (W : World) (lim ab eb : Nat) (g : Gr) (es : List Bool) : Prop where
  oa : ∃ v0 v1 v2 v3, Owns W ab [v0, v1, v2, v3, .slice (some ⟨eb, 0, none⟩) g.rules.length g.rules.length] 171 ∧ GrAt W lim (some v0) (some v1) (some v2) (some v3) g
  oe : Owns W eb (es.map .bool) 4
  la : lim ≤ ab
  le : lim ≤ eb
  ne : ab ≠ eb
  el : es.length = g.rules.length
  nl : g.rules.length ≤ reachN
theorem AskOwn.ask {W : World} {lim ab eb : Nat} {g : Gr} {es : List Bool} (h : AskOwn W lim ab eb g es) : AskAt W ab eb g es := by
  obtain ⟨⟨v0, v1, v2, v3, h1, h2⟩, h3, h4, h5, h6, h7, h8⟩ := h
  have h9 := h1.lt
  have h10 := h3.lt
  exact ⟨⟨v0, v1, v2, v3, h1.cell_at rfl, h1.cell_at rfl, h1.cell_at rfl, h1.cell_at rfl, h2.mono (by omega)⟩, h1.cell_at rfl, h7, fun i hi => h3.cell_at (by simp [hi]), h9, h10, h8⟩
theorem AskOwn.keep {W W' : World} {lim ab eb : Nat} {g : Gr} {es : List Bool} (h : AskOwn W lim ab eb g es) (hg : Grew W W') : AskOwn W' lim ab eb g es := by
  obtain ⟨⟨v0, v1, v2, v3, h1, h2⟩, h3, h4, h5, h6, h7, h8⟩ := h
  have h9 := h1.lt
  exact ⟨⟨v0, v1, v2, v3, h1.keep hg, h2.keep (hg.mono (by omega))⟩, h3.keep hg, h4, h5, h6, h7, h8⟩
theorem AskOwn.set {W : World} {lim ab eb : Nat} {g : Gr} {es : List Bool} (h : AskOwn W lim ab eb g es) (i : Nat) (b : Bool) : AskOwn (W.setCell ⟨eb, i, none⟩ (.bool b)) lim ab eb g (es.set i b) := by
  obtain ⟨⟨v0, v1, v2, v3, h1, h2⟩, h3, h4, h5, h6, h7, h8⟩ := h
  refine ⟨⟨v0, v1, v2, v3, h1.other (fun e => h6 e.symm) _, h2.keep ((Below.refl _ _).setCell h5 _)⟩, ?_, h4, h5, h6, by simp [h7], h8⟩
  have := h3.set i (.bool b)
  rwa [← List.map_set] at this
def KnownJ (g : Gr) (W : World) (ra : Option Addr) (rc : Nat) (a : Act) (w : World) : Prop :=
  a.defers = [] ∧ a.tmps.size = 47 ∧ a.tmps.getD 1 undef = .pointer (some ⟨W.heap.size, 0, none⟩) ∧ W.heap.size < w.heap.size ∧ Below W.heap.size W w ∧ w.cell? ⟨W.heap.size, 3, none⟩ = some (.slice ra g.rules.length rc) ∧
    ∃ ab eb es, a.tmps.getD 3 undef = .pointer (some ⟨ab, 0, none⟩) ∧ g.Sound es ∧ AskOwn w W.heap.size ab eb g es ∧ W.heap.size < ab ∧ W.heap.size < eb
def KnownM (a : Act) (w : World) : Nat :=
  match a.tmps.getD 3 undef with
  | .pointer (some p) => (match w.cell? ⟨p.block, 4, none⟩ with | some (.slice (some q) _ _) => fal w q.block | _ => 0)
  | _ => 0
theorem knownM_of {a : Act} {w : World} {lim ab eb : Nat} {g : Gr} {es : List Bool} (h1 : a.tmps.getD 3 undef = .pointer (some ⟨ab, 0, none⟩)) (h2 : AskOwn w lim ab eb g es) : KnownM a w = falses es := by
  unfold KnownM
  rw [h1]
  dsimp only
  rw [h2.ask.ea]
  exact fal_of h2.oe
def KnownIs (g : Gr) (W : World) (e : Ending) (W' : World) : Prop :=
  ∃ ab eb es, e = .returned (.pointer (some ⟨ab, 0, none⟩)) ∧ g.IsEmpty es ∧ AskOwn W' W.heap.size ab eb g es ∧ Below W.heap.size W W'
set_option maxHeartbeats 4000000 in
set_option maxRecDepth 20000 in
theorem known_ok (g : Gr) (W : World) (v0 v1 v2 v3 : Value) (hG : GrAt W W.heap.size (some v0) (some v1) (some v2) (some v3) g) :
    Calls Try.prog 82 #[.agg #[v0, v1, v2, v3]] W fun e W' => KnownIs g W e W' := by
  have hG' := hG
  obtain ⟨q1, q2, q3, q4, q5, q6, ra, rc, q7, q8, q9⟩ := hG'
  obtain rfl := Option.some.inj q1
  obtain rfl := Option.some.inj q3
  obtain rfl := Option.some.inj q4
  obtain rfl := Option.some.inj q7
  clear q1 q3 q4 q5 q6 q7
  have hgr := grew_alloc W (.cells #[.string g.name, .int .i64 g.bound, .int .i64 g.states, .slice ra g.rules.length rc] 57)
  have b0 : (W.alloc (.cells #[.string g.name, .int .i64 g.bound, .int .i64 g.states, .slice ra g.rules.length rc] 57)).cell? ⟨W.heap.size, 0, none⟩ = some (.string g.name) := by simp [go_sem]
  have b1 : (W.alloc (.cells #[.string g.name, .int .i64 g.bound, .int .i64 g.states, .slice ra g.rules.length rc] 57)).cell? ⟨W.heap.size, 1, none⟩ = some (.int .i64 g.bound) := by simp [go_sem]
  have b2 : (W.alloc (.cells #[.string g.name, .int .i64 g.bound, .int .i64 g.states, .slice ra g.rules.length rc] 57)).cell? ⟨W.heap.size, 2, none⟩ = some (.int .i64 g.states) := by simp [go_sem]
  have b3 : (W.alloc (.cells #[.string g.name, .int .i64 g.bound, .int .i64 g.states, .slice ra g.rules.length rc] 57)).cell? ⟨W.heap.size, 3, none⟩ = some (.slice ra g.rules.length rc) := by simp [go_sem]
  have hsz : W.heap.size < (W.alloc (.cells #[.string g.name, .int .i64 g.bound, .int .i64 g.states, .slice ra g.rules.length rc] 57)).heap.size := by simp
  have hmk := make_bools g.rules.length q8
  unfold reachN at q8 q2
  go_enter Try.func82, Try.ntmps82
  go_wp2_with fail
  generalize W.alloc (.cells #[.string g.name, .int .i64 g.bound, .int .i64 g.states, .slice ra g.rules.length rc] 57) = w1 at *
  refine wp_scope_again (l := 0) (KnownJ g W ra rc) KnownM rfl ?_ ?_
  · refine wp_region_hav_lit follows (by kernel_rfl) ?_
    repeat (first
      | (refine HavG.skip (fun _ => rfl) ?_; simp only [Act.put, List.setIfInBounds_toArray, List.set_cons_zero, List.set_cons_succ])
      | (refine HavG.val (fun _ => rfl) ?_ (fun x w hw _ => ?_) ?_; rotate_left; (focus (have hc := hw.cells; clear hw; go_simp; first | done | rfl)); simp only [Act.put, List.setIfInBounds_toArray, List.set_cons_zero, List.set_cons_succ]))
    refine HavG.any (fun _ => rfl) (fun v w => ∃ b, v = .slice (some ⟨b, 0, none⟩) g.rules.length g.rules.length ∧ w1.heap.size ≤ b ∧ Owns w b (List.replicate g.rules.length (.bool false)) 4) ?_ (fun x w hw _ => ?_) ?_
    · rintro v w w' hg ⟨b, h1, h2, h3⟩
      exact ⟨b, h1, h2, h3.keep hg⟩
    · have HW := Lib.hid hw
      clear hw
      go_simp
      exact ⟨grew_alloc _ _, HW.out.size, Owns.alloc _ _ _⟩
    refine HavG.tail (by kernel_rfl) (by kernel_rfl) (fun x w hw hx => ?_)
    have hx' := hx _ (List.mem_append_right _ (List.mem_singleton.2 rfl))
    clear hx
    simp only [Act.put, List.setIfInBounds_toArray, List.set_cons_zero, List.set_cons_succ]
    dsimp only at hx'
    generalize x (0 + 1 + 1 + 1 + 1) = y at *
    obtain ⟨eb, rfl, heb, hown⟩ := hx'
    have HO := Lib.hid hown
    have HW := Lib.hid hw
    clear hown hw hmk
    have hal := Owns.alloc w [.string g.name, .int .i64 g.bound, .int .i64 g.states, .slice ra g.rules.length rc, .slice (some ⟨eb, 0, none⟩) g.rules.length g.rules.length] 171
    have hgw := HW.out.trans (grew_alloc w (.cells #[.string g.name, .int .i64 g.bound, .int .i64 g.states, .slice ra g.rules.length rc, .slice (some ⟨eb, 0, none⟩) g.rules.length g.rules.length] 171))
    have hsz2 := HW.out.size
    have hlt := HO.out.lt
    have HA := Lib.hid hal
    have HG := Lib.hid hgw
    clear hal hgw
    go_wp2
    refine ⟨rfl, rfl, rfl, by have := HG.out.size; omega, hgr.trans HG.out, by rw [HG.out.cells _ _ hsz]; exact b3, w.heap.size, eb, List.replicate g.rules.length false, rfl, Gr.Sound.start g, ⟨⟨_, _, _, _, HA.out, (hG.keep (hgr.trans HG.out))⟩, ?_, by omega, by omega, by omega, by simp, q8⟩, by omega, by omega⟩
    have := HO.out.keep (grew_alloc w (.cells #[.string g.name, .int .i64 g.bound, .int .i64 g.states, .slice ra g.rules.length rc, .slice (some ⟨eb, 0, none⟩) g.rules.length g.rules.length] 171))
    rwa [List.map_replicate]
  · intro a w hJ
    obtain ⟨hd, hs47, h1, hsz2, hbw, hbox, ab, eb, es0, h3, hsound, hown, hab, heb⟩ := hJ
    have hmu : KnownM a w = falses es0 := knownM_of h3 hown
    rw [hmu]
    clear hmu
    obtain ⟨u, hu, rfl⟩ := act_lit a 47 hd hs47
    rw [hu] at h1 h3
    clear hu hd hs47
    simp only [List.range, List.range.loop, List.map_cons, List.map_nil, h1, h3]
    clear h1 h3 hmk b0 b1 b2 b3 hgr hsz w1
    have HO := Lib.hid hown
    have HS := Lib.hid hsound
    have HG := Lib.hid hG
    have HR := Lib.hid q9
    clear hown hsound hG q9
    go_wp2_with fail
    go_loopw [4, 17] (fun ch i wr => ∃ (c : Bool) (j : Nat) (es : List Bool), ch = .bool c ∧ i = .int .i64 j ∧ j ≤ g.rules.length ∧ Hid (SweepTo g es0 es c j) ∧ Hid (AskOwn wr W.heap.size ab eb g es) ∧ W.heap.size < wr.heap.size ∧ Below W.heap.size W wr ∧ wr.cell? ⟨W.heap.size, 3, none⟩ = some (.slice ra g.rules.length rc)) (fun _ i _ => g.rules.length - (intOf i).toNat)
    case atStart =>
      exact ⟨false, 0, es0, rfl, rfl, by omega, SweepTo.start HS.out, HO, hsz2, hbw, hbox⟩
    case round =>
      clear hbw hbox hsz2 HO HS
      obtain ⟨c, j, es, rfl, rfl, hj, hsw, hown, hsz2, hbw, hbox⟩ := hrel
      by_cases hlt : j < g.rules.length
      · obtain ⟨b, off, rfl, hb, hrule⟩ := (HR.out.keep hbw).get hlt
        simp only [Nat.zero_add] at hrule
        obtain ⟨u2, u3, u4, u5, u6, e0, e1, e2, e3, e4, e5, e6, e7, e8, e9, hrule, hnode⟩ := hrule.vals
        obtain ⟨bk, bnm, btx, bsa, bsl, bsc, bna, bnl, bnc, rfl, rfl, rfl, rfl, rfl⟩ := hnode.forms
        have hg2 := grew_alloc wr (.cells #[.string g.rules[j].name, .int .u8 g.rules[j].sort, .int .u8 bk, .string bnm, .string btx, .slice bsa bsl bsc, .slice bna bnl bnc, .int .i64 g.rules[j].p0, .int .i64 g.rules[j].p1, .int .i64 g.rules[j].p2] 108)
        have hO2 := Owns.alloc wr [.string g.rules[j].name, .int .u8 g.rules[j].sort, .int .u8 bk, .string bnm, .string btx, .slice bsa bsl bsc, .slice bna bnl bnc, .int .i64 g.rules[j].p0, .int .i64 g.rules[j].p1, .int .i64 g.rules[j].p2] 108
        have r0 := hO2.cell_at (i := 0) rfl
        have r1 := hO2.cell_at (i := 1) rfl
        have r2 := hO2.cell_at (i := 2) rfl
        have r3 := hO2.cell_at (i := 3) rfl
        have r4 := hO2.cell_at (i := 4) rfl
        have r5 := hO2.cell_at (i := 5) rfl
        have r6 := hO2.cell_at (i := 6) rfl
        have r7 := hO2.cell_at (i := 7) rfl
        have r8 := hO2.cell_at (i := 8) rfl
        have r9 := hO2.cell_at (i := 9) rfl
        have hl2 := hO2.lt
        have HN := Lib.hid ((hnode.keep (hg2.mono hbw.size)).mono (Nat.le_trans hbw.size hg2.size))
        have HG2 := Lib.hid hg2
        have hown2 := Lib.hid (hown.out.keep hg2)
        clear hrule hnode hO2 hg2
        go_wp2_with fail
        clear e0 e1 e2 e3 e4 e5 e6 e7 e8 e9
        generalize wr.alloc (.cells #[.string g.rules[j].name, .int .u8 g.rules[j].sort, .int .u8 bk, .string bnm, .string btx, .slice bsa bsl bsc, .slice bna bnl bnc, .int .i64 g.rules[j].p0, .int .i64 g.rules[j].p1, .int .i64 g.rules[j].p2] 108) = w2 at *
        obtain ⟨-, ea, el, ec, al, bl, nl⟩ := hown2.out.ask
        have hjl : j < es.length := by omega
        have ej := ec j hjl
        obtain ⟨bj, hbj⟩ : ∃ bj, bj = es[j] := ⟨_, rfl⟩
        rw [← hbj] at ej
        have HBJ := Lib.hid hbj
        have HEL := Lib.hid el
        clear hbj el ec nl
        refine wp_region_hav_lit follows (by kernel_rfl) ?_
        cases bj
        · obtain ⟨bm, hbm⟩ : ∃ bm, bm = g.may es g.rules[j].token g.rules[j].body := ⟨_, rfl⟩
          have HBM := Lib.hid hbm
          clear hbm
          repeat (first
            | (refine HavG.skip (fun _ => rfl) ?_; simp only [Act.put, List.setIfInBounds_toArray, List.set_cons_zero, List.set_cons_succ])
            | (refine HavG.val (fun _ => rfl) ?_ (fun x w hw _ => ?_) ?_; rotate_left; (focus (have hc := hw.cells; clear hw; go_simp; first | done | rfl)); simp only [Act.put, List.setIfInBounds_toArray, List.set_cons_zero, List.set_cons_succ]))
          refine HavG.det (fun _ => rfl) (.bool g.rules[j].token) (fun x w3 hw _ => ?_) ?_
          · have HW := Lib.hid hw
            clear hw
            go_simp
            refine (token_ok g.rules[j] _ _ _ _ _ _ _ _ _ _ _ rfl).mono ?_
            rintro e w4 ⟨rfl, hb4⟩
            exact ⟨rfl, hb4⟩
          simp only [Act.put, List.setIfInBounds_toArray, List.set_cons_zero, List.set_cons_succ]
          repeat (first
            | (refine HavG.skip (fun _ => rfl) ?_; simp only [Act.put, List.setIfInBounds_toArray, List.set_cons_zero, List.set_cons_succ])
            | (refine HavG.val (fun _ => rfl) ?_ (fun x w hw _ => ?_) ?_; rotate_left; (focus (have hc := hw.cells; clear hw; go_simp; first | done | rfl)); simp only [Act.put, List.setIfInBounds_toArray, List.set_cons_zero, List.set_cons_succ]))
          refine HavG.det (fun _ => rfl) (.bool bm) (fun x w3 hw _ => ?_) ?_
          · have HW := Lib.hid hw
            clear hw
            go_simp
            rw [HBM.out]
            refine (may_ok g es g.rules[j].token g.rules[j].body _ ab eb _ _ _ _ _ (hown2.out.keep HW.out).ask ((HN.out.keep HW.out).mono HW.out.size)).mono ?_
            rintro e w4 ⟨rfl, hb4⟩
            exact ⟨rfl, hb4⟩
          simp only [Act.put, List.setIfInBounds_toArray, List.set_cons_zero, List.set_cons_succ]
          repeat (first
            | (refine HavG.skip (fun _ => rfl) ?_; simp only [Act.put, List.setIfInBounds_toArray, List.set_cons_zero, List.set_cons_succ])
            | (refine HavG.val (fun _ => rfl) ?_ (fun x w hw _ => ?_) ?_; rotate_left; (focus (have hc := hw.cells; clear hw; go_simp; first | done | rfl)); simp only [Act.put, List.setIfInBounds_toArray, List.set_cons_zero, List.set_cons_succ]))
          refine HavG.tail (by kernel_rfl) (by kernel_rfl) (fun x w3 hw _ => ?_)
          have hc := hw.cells
          have hz := hw.size
          have HO3 := Lib.hid (hown2.out.keep hw)
          have hfr : w3.frozen? ⟨eb, j, none⟩ = false := HO3.out.oe.free j
          have hB3 := Lib.hid (hbw.trans ((HG2.out.trans hw).mono hbw.size))
          have hbx : w3.cell? ⟨W.heap.size, 3, none⟩ = some (.slice (some ⟨b, off, none⟩) g.rules.length rc) := by rw [(HG2.out.trans hw).cells _ _ hsz2]; exact hbox
          have HBX := Lib.hid hbx
          clear hw hbx hbox
          cases bm
          · go_wp2_with fail
            exact ⟨⟨c, j + 1, es, rfl, by go_num, by omega, hsw.out.keep hlt (.inr HBM.out.symm), HO3.out, by have := HG2.out.size; omega, hB3.out, HBX.out⟩, by simp [intOf]; omega⟩
          · go_wp2_with fail
            have hset : Below (W.heap.size + 1) w3 (w3.setCell ⟨eb, j, none⟩ (.bool true)) := (Below.refl _ _).setCell (by show W.heap.size + 1 ≤ eb; omega) _
            have hsz3 := hset.size
            have hz2 := HG2.out.size
            exact ⟨⟨true, j + 1, es.set j true, rfl, by go_num, by omega, hsw.out.grow hlt (by have := HBJ.out; simp [List.getD_eq_getElem?_getD, hjl, ← this]) HBM.out.symm, HO3.out.set j true, by omega, hB3.out.trans (hset.mono (by omega)),
              by rw [hset.cell (by show W.heap.size < _; omega)]; exact HBX.out⟩, by simp [intOf]; omega⟩
        · repeat (first
            | (refine HavG.skip (fun _ => rfl) ?_; simp only [Act.put, List.setIfInBounds_toArray, List.set_cons_zero, List.set_cons_succ])
            | (refine HavG.val (fun _ => rfl) ?_ (fun x w hw _ => ?_) ?_; rotate_left; (focus (have hc := hw.cells; clear hw; go_simp; first | done | rfl)); simp only [Act.put, List.setIfInBounds_toArray, List.set_cons_zero, List.set_cons_succ]))
          refine HavG.tail (by kernel_rfl) (by kernel_rfl) (fun x w3 hw _ => ?_)
          have HW := Lib.hid hw
          have hB3 := Lib.hid (hbw.trans ((HG2.out.trans hw).mono hbw.size))
          have hbx : w3.cell? ⟨W.heap.size, 3, none⟩ = some (.slice (some ⟨b, off, none⟩) g.rules.length rc) := by rw [(HG2.out.trans hw).cells _ _ hsz2]; exact hbox
          have HBX := Lib.hid hbx
          have hz := hw.size
          clear hw hbx hbox
          go_wp2_with fail
          exact ⟨⟨c, j + 1, es, rfl, by go_num, by omega, hsw.out.keep hlt (.inl (by have := HBJ.out; simp [List.getD_eq_getElem?_getD, hjl, ← this])), hown2.out.keep HW.out, by have := HG2.out.size; omega, hB3.out, HBX.out⟩, by simp [intOf]; omega⟩
      · have hjn : j = g.rules.length := by omega
        subst hjn
        have HBX := Lib.hid hbox
        have HB := Lib.hid hbw
        clear hbox hbw
        cases c
        · go_wp2_with fail
          refine bodyPost_ret (results_tmp rfl _ _ _) rfl ?_
          exact ⟨ab, eb, es, rfl, hsw.out.done, hown.out, HB.out⟩
        · go_wp2_with fail
          refine wp_goto ?_
          exact ⟨rfl, ⟨rfl, rfl, rfl, hsz2, HB.out, HBX.out, ab, eb, es, rfl, hsw.out.1, hown.out, hab, heb⟩, by rw [knownM_of rfl hown.out]; exact hsw.out.2.1 rfl⟩
end Go.Proofs.Ytgdcnndmdgcjlaa

/- What a node reaches at once is marked in a row. -/
namespace Go.Proofs.Ytgdcnndmdgcjlaa
open Go.RowKit
structure Upd (t : Nat) (w w' : World) : Prop where
  os : w'.os = w.os
  tape : w'.tape = w.tape
  output : w'.output = w.output
  size : w.heap.size ≤ w'.heap.size
  block : ∀ k, k < w.heap.size → k ≠ t → w'.heap[k]? = w.heap[k]?
theorem Upd.refl (t : Nat) (w : World) : Upd t w w := ⟨rfl, rfl, rfl, Nat.le_refl _, fun _ _ _ => rfl⟩
theorem Upd.trans {t : Nat} {a b c : World} (h : Upd t a b) (k : Upd t b c) : Upd t a c :=
  ⟨k.os.trans h.os, k.tape.trans h.tape, k.output.trans h.output, Nat.le_trans h.size k.size, fun i hi hn => (k.block i (Nat.lt_of_lt_of_le hi h.size) hn).trans (h.block i hi hn)⟩
theorem Grew.upd {w w' : World} (h : Grew w w') (t : Nat) : Upd t w w' := ⟨h.os, h.tape, h.output, h.size, fun k hk _ => h.block k hk⟩
theorem Upd.below {t lim : Nat} {w w' : World} (h : Upd t w w') (hl : lim ≤ t) (hs : lim ≤ w.heap.size) : Below lim w w' := ⟨h.os, h.tape, h.output, h.size, fun k hk => h.block k (by omega) (by omega)⟩
theorem Upd.setCell {t : Nat} {a w : World} (h : Upd t a w) (o : Nat) (v : Value) : Upd t a (w.setCell ⟨t, o, none⟩ v) :=
  h.trans ⟨rfl, rfl, rfl, by simp [World.setCell], fun k _ hn => Below.heap_setCell _ _ _ _ hn⟩
theorem Upd.cell {t : Nat} {w w' : World} (h : Upd t w w') {b : Nat} (hb : b < w.heap.size) (hn : b ≠ t) (o : Nat) : w'.cell? ⟨b, o, none⟩ = w.cell? ⟨b, o, none⟩ := World.cell?_of_block (w := w) (h.block b hb hn)
theorem Owns.upd {W W' : World} {b t : Nat} {cs : List Value} {T : Nat} (h : Owns W b cs T) (hg : Upd t W W') (hn : b ≠ t) : Owns W' b cs T := by
  have := h.lt
  unfold Owns at *
  rw [hg.block b this hn]; exact h
theorem AskOwn.upd {W W' : World} {lim ab eb t : Nat} {g : Gr} {es : List Bool} (h : AskOwn W lim ab eb g es) (hg : Upd t W W') (hl : lim ≤ t) (ha : ab ≠ t) (he : eb ≠ t) : AskOwn W' lim ab eb g es := by
  obtain ⟨⟨v0, v1, v2, v3, h1, h2⟩, h3, h4, h5, h6, h7, h8⟩ := h
  have h9 := h1.lt
  exact ⟨⟨v0, v1, v2, v3, h1.upd hg ha, h2.keep (hg.below hl (by omega))⟩, h3.upd hg he, h4, h5, h6, h7, h8⟩
theorem enters85 : Enters 85 := fun _ _ => by kernel_rfl
structure RowAt (W : World) (ob ib rb t m i : Nat) (l : List Bool) : Prop where
  fo : W.cell? ⟨ob, 0, none⟩ = some (.slice (some ⟨rb, 0, none⟩) m m)
  fi : W.cell? ⟨ib, 0, none⟩ = some (.int .i64 i)
  fr : W.cell? ⟨rb, i, none⟩ = some (.slice (some ⟨t, 0, none⟩) m m)
  ft : Owns W t (l.map .bool) 4
  fl : l.length = m
  fm : i < m
  fml : m ≤ reachN
  no : ob ≠ t
  ni : ib ≠ t
  nr : rb ≠ t
theorem RowAt.upd {W W' : World} {ob ib rb t m i : Nat} {l l' : List Bool} (h : RowAt W ob ib rb t m i l) (hg : Upd t W W') (ho : Owns W' t (l'.map .bool) 4) (hl : l'.length = m) : RowAt W' ob ib rb t m i l' := by
  obtain ⟨h1, h2, h3, h4, h5, h6, h6', h7, h8, h9⟩ := h
  have a1 := lt_of_cell h1
  have a2 := lt_of_cell h2
  have a3 := lt_of_cell h3
  exact ⟨by rw [hg.cell a1 h7]; exact h1, by rw [hg.cell a2 h8]; exact h2, by rw [hg.cell a3 h9]; exact h3, ho, hl, h6, h6', h7, h8, h9⟩
theorem RowAt.keep {W W' : World} {ob ib rb t m i : Nat} {l : List Bool} (h : RowAt W ob ib rb t m i l) (hg : Grew W W') : RowAt W' ob ib rb t m i l := h.upd (hg.upd t) (h.ft.keep hg) h.fl
def Marks (t m : Nat) (W : World) (l' : List Bool) (e : Ending) (W' : World) : Prop := e = .returned (.tuple #[]) ∧ Upd t W W' ∧ Owns W' t (l'.map .bool) 4 ∧ l'.length = m
theorem reach1_ok (W : World) (ob ib rb t m i : Nat) (l : List Bool) (k : Nat) (h : RowAt W ob ib rb t m i l) (hk : k < m) :
    Calls Try.prog 85 (#[.int .i64 k] ++ #[.pointer (some ⟨ob, 0, none⟩), .pointer (some ⟨ib, 0, none⟩)]) W fun e W' => Marks t m W (l.set k true) e W' := by
  obtain ⟨h1, h2, h3, h4, h5, h6, h6', h7, h8, h9⟩ := h
  have hfr := h4.free k
  obtain ⟨bk, hcl⟩ : ∃ bk : Bool, W.cell? ⟨t, k, none⟩ = some (.bool bk) := ⟨_, h4.cell_at (i := k) (v := .bool l[k]) (by simp [show k < l.length by omega])⟩
  have HO := Lib.hid h4
  have HL := Lib.hid h5
  clear h4 h5
  unfold reachN at h6'
  simp only [List.append_toArray, List.cons_append, List.nil_append]
  go_enter Try.func85, Try.ntmps85
  go_wp2
  go_end0
  refine ⟨rfl, (Upd.refl _ _).setCell _ _, ?_, by simp [HL.out]⟩
  have := HO.out.set k (.bool true)
  rwa [← List.map_set] at this
mutual
def Gr.marks (g : Gr) (es : List Bool) (token : Bool) : Nd → List Bool → List Bool
  | .mk k nm tx set subs, l =>
    if k == 1 then Gr.marksSeq g es token subs l
    else if k == 0 || k == 2 || k == 3 || k == 4 || k == 7 then Gr.marksAll g es token subs l
    else if k == 5 || k == 6 then (if 0 ≤ g.named token (.mk k nm tx set subs) then l.set (g.named token (.mk k nm tx set subs)).toNat true else l)
    else l
def Gr.marksSeq (g : Gr) (es : List Bool) (token : Bool) : List Nd → List Bool → List Bool
  | [], l => l
  | n :: r, l => if g.may es token n then Gr.marksSeq g es token r (Gr.marks g es token n l) else Gr.marks g es token n l
def Gr.marksAll (g : Gr) (es : List Bool) (token : Bool) : List Nd → List Bool → List Bool
  | [], l => l
  | n :: r, l => Gr.marksAll g es token r (Gr.marks g es token n l)
end
theorem marksAll_foldl (g : Gr) (es : List Bool) (token : Bool) (ns : List Nd) (l : List Bool) : g.marksAll es token ns l = ns.foldl (fun l n => g.marks es token n l) l := by
  induction ns generalizing l with
  | nil => rfl
  | cons n r ih => simp only [Gr.marksAll, List.foldl_cons, ih]
theorem marksAll_take (g : Gr) (es : List Bool) (token : Bool) (ns : List Nd) (l : List Bool) (j : Nat) (h : j < ns.length) : g.marksAll es token (ns.take (j + 1)) l = g.marks es token ns[j] (g.marksAll es token (ns.take j) l) := by
  rw [marksAll_foldl, marksAll_foldl, List.take_succ_eq_append_getElem h, List.foldl_append, List.foldl_cons, List.foldl_nil]
theorem marksSeq_split (g : Gr) (es : List Bool) (token : Bool) (ns : List Nd) (l : List Bool) (j : Nat) (hall : ∀ i (h : i < ns.length), i < j → g.may es token ns[i] = true) (hj : j ≤ ns.length) :
    g.marksSeq es token ns l = g.marksSeq es token (ns.drop j) (g.marksAll es token (ns.take j) l) := by
  induction ns generalizing l j with
  | nil => simp at hj; subst hj; rfl
  | cons n r ih =>
    cases j with
    | zero => rfl
    | succ j =>
      have h0 := hall 0 (by simp) (by omega)
      simp only [List.getElem_cons_zero] at h0
      simp only [Gr.marksSeq, h0, if_true, List.drop_succ_cons, List.take_succ_cons, Gr.marksAll]
      exact ih _ j (fun i h hlt => by have := hall (i + 1) (by simpa using h) (by omega); rwa [List.getElem_cons_succ] at this) (by simpa using hj)
end Go.Proofs.Ytgdcnndmdgcjlaa
