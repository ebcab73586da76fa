/- nulls.May: whether a node may be empty in a rule's body. -/
import Derived.Test.YtnopnihdobedcaaEmpty
namespace Go.Proofs.Ytnopnihdobedcaa
open Go.RowKit

set_option maxHeartbeats 4000000 in
set_option maxRecDepth 20000 in
theorem nmay_ok (g : Gr) (es : List Bool) (hes : g.IsEmpty es) (i : Nat) (hi : i < g.rules.length) (n : Nd) (W : World) (v0 v1 v2 v3 u0 u1 u2 u3 u4 : Value) (hG : GrAt W W.heap.size (some v0) (some v1) (some v2) (some v3) g)
    (hN : NodeAt W W.heap.size (some u0) (some u1) (some u2) (some u3) (some u4) n) :
    Calls Try.prog 13 #[.agg #[v0, v1, v2, v3], .int .i64 (i : Int), .agg #[u0, u1, u2, u3, u4]] W fun e W' => e = .returned (.bool (g.may es g.rules[i].token n)) ∧ Below W.heap.size W W' := by
  have hG' := hG
  obtain ⟨q1, q2, q3, q4, q5, q6, ra, rc, q7, q8, q9⟩ := hG'
  obtain rfl := Option.some.inj q1
  obtain rfl := Option.some.inj q3
  obtain rfl := Option.some.inj q4
  obtain rfl := Option.some.inj q7
  clear q1 q3 q4 q5 q6 q7
  have hgr1 := grew_alloc W (.cells #[.string g.name, .int .i64 g.bound, .int .i64 g.states, .slice ra g.rules.length rc] 26)
  have hO1 := Owns.alloc W [.string g.name, .int .i64 g.bound, .int .i64 g.states, .slice ra g.rules.length rc] 26
  have hgr2 := grew_alloc (W.alloc (.cells #[.string g.name, .int .i64 g.bound, .int .i64 g.states, .slice ra g.rules.length rc] 26)) (.cells #[u0, u1, u2, u3, u4] 36)
  have hO2 := Owns.alloc (W.alloc (.cells #[.string g.name, .int .i64 g.bound, .int .i64 g.states, .slice ra g.rules.length rc] 26)) [u0, u1, u2, u3, u4] 36
  have hsz : (W.alloc (.cells #[.string g.name, .int .i64 g.bound, .int .i64 g.states, .slice ra g.rules.length rc] 26)).heap.size = W.heap.size + 1 := by simp
  rw [hsz] at hO2
  have hO1' := hO1.keep hgr2
  have hgr := hgr1.trans hgr2
  have b0 := hO1'.cell_at (i := 0) rfl
  have b1 := hO1'.cell_at (i := 1) rfl
  have b2 := hO1'.cell_at (i := 2) rfl
  have b3 := hO1'.cell_at (i := 3) rfl
  have n0 := hO2.cell_at (i := 0) rfl
  have n1 := hO2.cell_at (i := 1) rfl
  have n2 := hO2.cell_at (i := 2) rfl
  have n3 := hO2.cell_at (i := 3) rfl
  have n4 := hO2.cell_at (i := 4) rfl
  obtain ⟨rb, ro, rfl, hrb, hrule⟩ := (q9.keep hgr).get hi
  simp only [Nat.zero_add] at hrule
  obtain ⟨w2, w3, w4, w5, w6, s0, s1, s2, s3, s4, s5, s6, s7, s8, s9, -, -⟩ := hrule.vals
  have hb1 := hO1'.lt
  have hb2 := hO2.lt
  have hle := hgr.size
  have HGR := Lib.hid hgr
  have HG := Lib.hid ((hG.keep hgr).mono hgr.size)
  have HN := Lib.hid ((hN.keep hgr).mono hgr.size)
  have HES := Lib.hid hes
  clear hG hN hgr hgr1 hgr2 hO1 hO2 hO1' hrule q9 hes hsz
  have hrb2 : rb < ((W.alloc (.cells #[.string g.name, .int .i64 g.bound, .int .i64 g.states, .slice (some ⟨rb, ro, none⟩) g.rules.length rc] 26)).alloc (.cells #[u0, u1, u2, u3, u4] 36)).heap.size := by omega
  unfold reachN at q8 q2
  go_enter Try.func13, Try.ntmps13
  go_wp2_with fail
  generalize (W.alloc (.cells #[.string g.name, .int .i64 g.bound, .int .i64 g.states, .slice (some ⟨rb, ro, none⟩) g.rules.length rc] 26)).alloc (.cells #[u0, u1, u2, u3, u4] 36) = wa at *
  refine wp_region_hav_lit follows (by kernel_rfl) ?_
  repeat (first
    | (refine HavG.skip (fun _ => rfl) ?_; simp only [Act.put, List.setIfInBounds_toArray, List.set_cons_zero, List.set_cons_succ])
    | (refine HavG.val (fun _ => rfl) ?_ (fun x w hw _ => ?_) ?_; rotate_left; (focus (have hc := hw.cells; clear hw; go_simp; first | done | rfl)); simp only [Act.put, List.setIfInBounds_toArray, List.set_cons_zero, List.set_cons_succ]))
  refine HavG.any (fun _ => rfl) (fun v w => ∃ ab eb, v = .pointer (some ⟨ab, 0, none⟩) ∧ AskAt w ab eb g es) ?_ (fun x w hw _ => ?_) ?_
  · rintro v w w' hg ⟨ab, eb, h1, h2⟩
    exact ⟨ab, eb, h1, h2.keep hg⟩
  · have HW := Lib.hid hw
    clear hw
    go_simp
    refine (known_ok g w _ _ _ _ ((HG.out.keep HW.out).mono HW.out.size)).mono ?_
    rintro e w' ⟨ab, eb, es', rfl, hes', hown, hb⟩
    have := hes'.unique HES.out
    subst this
    exact ⟨hb, ab, rfl, eb, hown.ask⟩
  simp only [Act.put, List.setIfInBounds_toArray, List.set_cons_zero, List.set_cons_succ]
  repeat (first
    | (refine HavG.skip (fun _ => rfl) ?_; simp only [Act.put, List.setIfInBounds_toArray, List.set_cons_zero, List.set_cons_succ])
    | (refine HavG.val (fun _ => rfl) ?_ (fun x w hw _ => ?_) ?_; rotate_left; (focus (have hc := hw.cells; clear hw; go_simp; first | done | rfl)); simp only [Act.put, List.setIfInBounds_toArray, List.set_cons_zero, List.set_cons_succ]))
  refine HavG.det (fun _ => rfl) (.bool g.rules[i].token) (fun x w hw _ => ?_) ?_
  · have HW := Lib.hid hw
    clear hw
    go_simp
    refine (token_ok g.rules[i] _ _ _ _ _ _ _ _ _ _ _ rfl).mono ?_
    rintro e w' ⟨rfl, hb⟩
    exact ⟨rfl, hb⟩
  simp only [Act.put, List.setIfInBounds_toArray, List.set_cons_zero, List.set_cons_succ]
  repeat (first
    | (refine HavG.skip (fun _ => rfl) ?_; simp only [Act.put, List.setIfInBounds_toArray, List.set_cons_zero, List.set_cons_succ])
    | (refine HavG.val (fun _ => rfl) ?_ (fun x w hw _ => ?_) ?_; rotate_left; (focus (have hc := hw.cells; clear hw; go_simp; first | done | rfl)); simp only [Act.put, List.setIfInBounds_toArray, List.set_cons_zero, List.set_cons_succ]))
  obtain ⟨bm, hbm⟩ : ∃ bm, bm = g.may es g.rules[i].token n := ⟨_, rfl⟩
  have HBM := Lib.hid hbm
  clear hbm
  refine HavG.det (fun _ => rfl) (.bool bm) (fun x w hw hd => ?_) ?_
  · obtain ⟨ab, eb, hxe, hask⟩ := hd _ (List.mem_append_right _ (List.mem_singleton.2 rfl)) (by kernel_rfl)
    dsimp only at hxe
    clear hd
    generalize x (0 + 1) = yv at *
    subst hxe
    have HW := Lib.hid hw
    have HA := Lib.hid hask
    clear hw hask
    go_simp
    rw [HBM.out]
    refine (may_ok g es g.rules[i].token n _ ab eb _ _ _ _ _ HA.out ((HN.out.keep HW.out).mono HW.out.size)).mono ?_
    rintro e w' ⟨rfl, hb⟩
    exact ⟨rfl, hb⟩
  simp only [Act.put, List.setIfInBounds_toArray, List.set_cons_zero, List.set_cons_succ]
  repeat (first
    | (refine HavG.skip (fun _ => rfl) ?_; simp only [Act.put, List.setIfInBounds_toArray, List.set_cons_zero, List.set_cons_succ])
    | (refine HavG.val (fun _ => rfl) ?_ (fun x w hw _ => ?_) ?_; rotate_left; (focus (have hc := hw.cells; clear hw; go_simp; first | done | rfl)); simp only [Act.put, List.setIfInBounds_toArray, List.set_cons_zero, List.set_cons_succ]))
  refine HavG.tail (by kernel_rfl) (by kernel_rfl) (fun x w hw _ => ?_)
  have HW := Lib.hid hw
  clear hw
  go_wp2_with fail
  go_ret
  exact ⟨ret_bool HBM.out, HGR.out.trans HW.out⟩
end Go.Proofs.Ytnopnihdobedcaa
