/- What is asked of a grammar's rules, and the rule that a node names. -/
import Derived.Test.YtnopnihdobedcaaFind
import Derived.Test.YtnopnihdobedcaaHav
import Derived.BigQuiet
import Derived.Deep.QuietTactic
import Derived.StillTailTactics
import Derived.Deep.RegionHeld3
namespace Go.Proofs.Ytnopnihdobedcaa
open Go.RowKit

/-- asking, in memory: block ab; what is known, in block eb -/
structure AskAt (W : World) (ab eb : Nat) (g : Gr) (es : List Bool) : Prop where
  ga : ∃ v0 v1 v2 v3, W.cell? ⟨ab, 0, none⟩ = some v0 ∧ W.cell? ⟨ab, 1, none⟩ = some v1 ∧ W.cell? ⟨ab, 2, none⟩ = some v2 ∧ W.cell? ⟨ab, 3, none⟩ = some v3 ∧ GrAt W W.heap.size (some v0) (some v1) (some v2) (some v3) g
  ea : W.cell? ⟨ab, 4, none⟩ = some (.slice (some ⟨eb, 0, none⟩) g.rules.length g.rules.length)
  el : es.length = g.rules.length
  ec : ∀ i (h : i < es.length), W.cell? ⟨eb, i, none⟩ = some (.bool es[i])
  al : ab < W.heap.size
  bl : eb < W.heap.size
  nl : g.rules.length ≤ reachN

theorem AskAt.keep {W W' : World} {ab eb : Nat} {g : Gr} {es : List Bool} (h : AskAt W ab eb g es) (hb : Below W.heap.size W W') : AskAt W' ab eb g es := by
  obtain ⟨⟨v0, v1, v2, v3, h0, h1, h2, h3, h4⟩, h5, h6, h7, h8, h9, h10⟩ := h
  have e : ∀ o, W'.cell? ⟨ab, o, none⟩ = W.cell? ⟨ab, o, none⟩ := fun o => hb.cell (p := ⟨ab, o, none⟩) h8
  have e' : ∀ o, W'.cell? ⟨eb, o, none⟩ = W.cell? ⟨eb, o, none⟩ := fun o => hb.cell (p := ⟨eb, o, none⟩) h9
  refine ⟨⟨v0, v1, v2, v3, by rw [e]; exact h0, by rw [e]; exact h1, by rw [e]; exact h2, by rw [e]; exact h3, (h4.keep hb).mono hb.size⟩, by rw [e]; exact h5, h6, fun i hi => by rw [e']; exact h7 i hi, by have := hb.size; omega, by have := hb.size; omega, h10⟩

/-- the sort of a rule, by its place -/
def Gr.sortAt (g : Gr) (i : Int) : Int := match g.rules[i.toNat]? with | some r => r.sort | none => 0

/-- the rule that a node names; below 0: none -/
def Gr.named (g : Gr) (token : Bool) (n : Nd) : Int :=
  let i := g.find n.name
  if i < 0 then -1 else if !((g.sortAt i == 0) == (n.kind == 5)) then -1 else if (n.kind == 6) && !token then -1 else i

theorem follows : Try.prog.follows .mixedOrders = true := by kernel_rfl

theorem sortAt_nat (g : Gr) (j : Nat) (hj : j < g.rules.length) : g.sortAt (j : Int) = g.rules[j].sort := by
  simp [Gr.sortAt, hj]

set_option maxHeartbeats 1000000 in
set_option maxRecDepth 20000 in
theorem named_ok (g : Gr) (es : List Bool) (token : Bool) (n : Nd) (W : World) (ab eb : Nat) (v0 v1 v2 v3 v4 : Value) (hA : AskAt W ab eb g es) (hN : NodeAt W W.heap.size (some v0) (some v1) (some v2) (some v3) (some v4) n) :
    Calls Try.prog 67 #[.pointer (some ⟨ab, 0, none⟩), .bool token, .agg #[v0, v1, v2, v3, v4]] W fun e W' => e = .returned (.int .i64 (g.named token n)) ∧ Below W.heap.size W W' := by
  obtain ⟨k, nm, tx, set, subs⟩ := n
  rw [NodeAt] at hN
  obtain ⟨hk, h1, h2, h3, h4, h5, h6, h7⟩ := hN
  obtain rfl := Option.some.inj h3
  obtain rfl := Option.some.inj h4
  clear h3 h4 h5 h6 h7
  unfold reachN at h1 h2
  have hgr := grew_alloc W (.cells #[.int .u8 k, .string nm, v2, v3, v4] 36)
  obtain ⟨⟨g0, g1, g2, g3, c0, c1, c2, c3, hG⟩, h5, h6, h7, h8, h9, h10⟩ := hA.keep hgr
  have hS := Lib.hid (fun W' => find_ok g nm W' g0 g1 g2 g3)
  have b1 : (W.alloc (.cells #[.int .u8 k, .string nm, v2, v3, v4] 36)).cell? ⟨W.heap.size, 1, none⟩ = some (.string nm) := by simp [go_sem]
  have b0 : (W.alloc (.cells #[.int .u8 k, .string nm, v2, v3, v4] 36)).cell? ⟨W.heap.size, 0, none⟩ = some (.int .u8 k) := by simp [go_sem]
  have hsz : W.heap.size < (W.alloc (.cells #[.int .u8 k, .string nm, v2, v3, v4] 36)).heap.size := by simp
  clear h5 h6 h7 h9
  rcases ixOf_cases g.rules (fun r => sameB r.name nm) with ⟨hi, _⟩ | ⟨j, hj, hi, _, _⟩
  · have hfin : Hid (g.named token (.mk k nm tx set subs) = -1) := by
      unfold Hid Gr.named Gr.find
      simp [Nd.name, hi]
    change g.find nm = -1 at hi
    rw [hi] at hS
    clear hi
    go_enter Try.func67, Try.ntmps67
    go_wp2_with fail
    generalize W.alloc (.cells #[.int .u8 k, .string nm, v2, v3, v4] 36) = w1 at *
    refine wp_region_hav_lit follows (by kernel_rfl) ?_
    repeat (first
      | (refine HavG.skip (fun _ => rfl) ?_; simp only [Act.put, List.setIfInBounds_toArray, List.set_cons_zero, List.set_cons_succ])
      | (refine HavG.val (fun _ => rfl) ?_ (fun x w hw _ => ?_) ?_; rotate_left; (focus (have hc := hw.cells; clear hw; go_simp; first | done | rfl)); simp only [Act.put, List.setIfInBounds_toArray, List.set_cons_zero, List.set_cons_succ]))
    refine HavG.tail (by kernel_rfl) (by kernel_rfl) (fun x w hw _ => ?_)
    have hc := hw.cells
    have HW := Lib.hid hw
    clear hw
    go_wp2_with (go_at_call 15; refine (hS.out _ ((hG.keep HW.out).mono HW.out.size)).mono ?_; rintro e w' ⟨rfl, hb2⟩)
    have hw' : Grew w1 w' := HW.out.trans hb2
    clear hc hb2 HW
    refine wp_region_hav_lit follows (by kernel_rfl) ?_
    repeat (first
      | (refine HavG.skip (fun _ => rfl) ?_; simp only [Act.put, List.setIfInBounds_toArray, List.set_cons_zero, List.set_cons_succ])
      | (refine HavG.val (fun _ => rfl) ?_ (fun x w hw _ => ?_) ?_; rotate_left; (focus (have hc := (hw'.trans hw).cells; clear hw; go_simp; first | done | rfl)); simp only [Act.put, List.setIfInBounds_toArray, List.set_cons_zero, List.set_cons_succ]))
    refine HavG.tail (by kernel_rfl) (by kernel_rfl) (fun x w hw _ => ?_)
    go_wp2
    go_ret
    exact ⟨ret_int hfin.out.symm, hgr.trans (hw'.trans hw)⟩
  · change g.find nm = (j : Int) at hi
    have hfin : Hid (g.named token (.mk k nm tx set subs) = if !((g.rules[j].sort == 0) == (k == 5)) then (-1 : Int) else if (k == 6) && !token then -1 else (j : Int)) := by
      unfold Hid Gr.named
      have hn : ¬ ((j : Int) < 0) := by omega
      simp only [Nd.name, Nd.kind, hi, hn, if_false, sortAt_nat g j hj]
    rw [hi] at hS
    clear hi
    have hG' := hG
    obtain ⟨q1, q2, q3, q4, q5, q6, ra, rc, q7, q8, q9⟩ := hG'
    obtain rfl := Option.some.inj q1
    obtain rfl := Option.some.inj q3
    obtain rfl := Option.some.inj q4
    obtain rfl := Option.some.inj q7
    obtain ⟨rb, ro, rfl, hrb, hrule⟩ := q9.get hj
    simp only [Nat.zero_add] at hrule
    obtain ⟨-, -, e1, hs, -⟩ := hrule
    generalize g.rules[j].sort = srt at *
    unfold reachN at q8
    clear q1 q2 q3 q4 q5 q6 q7 q9 h10
    go_enter Try.func67, Try.ntmps67
    go_wp2_with fail
    generalize W.alloc (.cells #[.int .u8 k, .string nm, v2, v3, v4] 36) = w1 at *
    refine wp_region_hav_lit follows (by kernel_rfl) ?_
    repeat (first
      | (refine HavG.skip (fun _ => rfl) ?_; simp only [Act.put, List.setIfInBounds_toArray, List.set_cons_zero, List.set_cons_succ])
      | (refine HavG.val (fun _ => rfl) ?_ (fun x w hw _ => ?_) ?_; rotate_left; (focus (have hc := hw.cells; clear hw; go_simp; first | done | rfl)); simp only [Act.put, List.setIfInBounds_toArray, List.set_cons_zero, List.set_cons_succ]))
    refine HavG.tail (by kernel_rfl) (by kernel_rfl) (fun x w hw _ => ?_)
    have hc := hw.cells
    have HW := Lib.hid hw
    clear hw
    go_wp2_with (go_at_call 15; refine (hS.out _ ((hG.keep HW.out).mono HW.out.size)).mono ?_; rintro e w' ⟨rfl, hb2⟩)
    have hw' : Grew w1 w' := HW.out.trans hb2
    clear hc hb2 HW
    refine wp_region_hav_lit follows (by kernel_rfl) ?_
    repeat (first
      | (refine HavG.skip (fun _ => rfl) ?_; simp only [Act.put, List.setIfInBounds_toArray, List.set_cons_zero, List.set_cons_succ])
      | (refine HavG.val (fun _ => rfl) ?_ (fun x w hw _ => ?_) ?_; rotate_left; (focus (have hc := (hw'.trans hw).cells; clear hw; go_simp; first | done | rfl)); simp only [Act.put, List.setIfInBounds_toArray, List.set_cons_zero, List.set_cons_succ]))
    refine HavG.tail (by kernel_rfl) (by kernel_rfl) (fun x w hw _ => ?_)
    have hc := (hw'.trans hw).cells
    have HW := Lib.hid (hgr.trans (hw'.trans hw))
    clear hw hw' hgr
    go_wp2
    all_goals
      go_ret
      refine ⟨ret_int ?_, HW.out⟩
      rw [hfin.out]
      have hjn : ¬ ((j : Int) < 0) := by omega
      clear hS hfin HW hc b0 b1 c0 c1 c2 c3 hG hA
      simp_all
end Go.Proofs.Ytnopnihdobedcaa
