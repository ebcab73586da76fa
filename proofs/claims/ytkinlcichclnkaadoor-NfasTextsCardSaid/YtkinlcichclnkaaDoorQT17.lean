/- nulls.May: whether a node may be empty in a rule's body. -/
import Derived.OrdersIn
import Derived.RangeFuncCalls
import Derived.RangeFuncLeaves
import Derived.Test.YtkinlcichclnkaaDoorQT16
import Derived.Test.YtkinlcichclnkaaDoorQT15
import Derived.Test.YtkinlcichclnkaaDoorQT2
namespace Go.Proofs.YtkinlcichclnkaaDoor
open Go.RowKit

set_option maxHeartbeats 4000000 in
set_option maxRecDepth 20000 in
theorem nmay_ok (g : Gr) (es : List Bool) (hes : g.IsEmpty es) (i : Nat) (hi : i < g.rules.length) (n : Nd) (W : World) (v0 v1 v2 v3 u0 u1 u2 u3 u4 : Value) (hG : GrAt W W.heap.size (some v0) (some v1) (some v2) (some v3) g)
    (hN : NodeAt W W.heap.size (some u0) (some u1) (some u2) (some u3) (some u4) n) :
    Calls Tryd.prog 67 #[.agg #[v0, v1, v2, v3], .int .i64 (i : Int), .agg #[u0, u1, u2, u3, u4]] W fun e W' => e = .returned (.bool (g.may es g.rules[i].token n)) ∧ Below W.heap.size W W' := by
  have hG' := hG
  obtain ⟨q1, q2, q3, q4, q5, q6, ra, rc, q7, q8, q9⟩ := hG'
  obtain rfl := Option.some.inj q1
  obtain rfl := Option.some.inj q3
  obtain rfl := Option.some.inj q4
  obtain rfl := Option.some.inj q7
  clear q1 q3 q4 q5 q6 q7
  have hgr1 := grew_alloc W (.cells #[.string g.name, .int .i64 g.bound, .int .i64 g.states, .slice ra g.rules.length rc] 26)
  have hO1 := Owns.alloc W [.string g.name, .int .i64 g.bound, .int .i64 g.states, .slice ra g.rules.length rc] 26
  have hgr2 := grew_alloc (W.alloc (.cells #[.string g.name, .int .i64 g.bound, .int .i64 g.states, .slice ra g.rules.length rc] 26)) (.cells #[u0, u1, u2, u3, u4] 34)
  have hO2 := Owns.alloc (W.alloc (.cells #[.string g.name, .int .i64 g.bound, .int .i64 g.states, .slice ra g.rules.length rc] 26)) [u0, u1, u2, u3, u4] 34
  have hsz : (W.alloc (.cells #[.string g.name, .int .i64 g.bound, .int .i64 g.states, .slice ra g.rules.length rc] 26)).heap.size = W.heap.size + 1 := by simp
  rw [hsz] at hO2
  have hO1' := hO1.keep hgr2
  have hgr := hgr1.trans hgr2
  have b0 := hO1'.cell_at (i := 0) rfl
  have b1 := hO1'.cell_at (i := 1) rfl
  have b2 := hO1'.cell_at (i := 2) rfl
  have b3 := hO1'.cell_at (i := 3) rfl
  have n0 := hO2.cell_at (i := 0) rfl
  have n1 := hO2.cell_at (i := 1) rfl
  have n2 := hO2.cell_at (i := 2) rfl
  have n3 := hO2.cell_at (i := 3) rfl
  have n4 := hO2.cell_at (i := 4) rfl
  obtain ⟨rb, ro, rfl, hrb, hrule⟩ := (q9.keep hgr).get hi
  simp only [Nat.zero_add] at hrule
  obtain ⟨w2, w3, w4, w5, w6, s0, s1, s2, s3, s4, s5, s6, s7, s8, s9, -, -⟩ := hrule.vals
  have hb1 := hO1'.lt
  have hb2 := hO2.lt
  have hle := hgr.size
  have HGR := Lib.hid hgr
  have HG := Lib.hid ((hG.keep hgr).mono hgr.size)
  have HN := Lib.hid ((hN.keep hgr).mono hgr.size)
  have HES := Lib.hid hes
  clear hG hN hgr hgr1 hgr2 hO1 hO2 hO1' hrule q9 hes hsz
  have hrb2 : rb < ((W.alloc (.cells #[.string g.name, .int .i64 g.bound, .int .i64 g.states, .slice (some ⟨rb, ro, none⟩) g.rules.length rc] 26)).alloc (.cells #[u0, u1, u2, u3, u4] 34)).heap.size := by omega
  unfold reachN at q8 q2
  go_enter Tryd.func67, Tryd.ntmps67
  go_wp2_with fail
  generalize (W.alloc (.cells #[.string g.name, .int .i64 g.bound, .int .i64 g.states, .slice (some ⟨rb, ro, none⟩) g.rules.length rc] 26)).alloc (.cells #[u0, u1, u2, u3, u4] 34) = wa at *
  refine wp_region_hav_lit follows (by kernel_rfl) ?_
  repeat (first
    | (refine HavG.skip (fun _ => rfl) ?_; simp only [Act.put, List.setIfInBounds_toArray, List.set_cons_zero, List.set_cons_succ])
    | (refine HavG.val (fun _ => rfl) ?_ (fun x w hw _ => ?_) ?_; rotate_left; (focus (have hc := hw.cells; clear hw; go_simp; first | done | rfl)); simp only [Act.put, List.setIfInBounds_toArray, List.set_cons_zero, List.set_cons_succ]))
  refine HavG.any (fun _ => rfl) (fun v w => ∃ ab eb, v = .pointer (some ⟨ab, 0, none⟩) ∧ AskAt w ab eb g es) ?_ (fun x w hw _ => ?_) ?_
  · rintro v w w' hg ⟨ab, eb, h1, h2⟩
    exact ⟨ab, eb, h1, h2.keep hg⟩
  · have HW := Lib.hid hw
    clear hw
    go_simp
    refine (known_ok g w _ _ _ _ ((HG.out.keep HW.out).mono HW.out.size)).mono ?_
    rintro e w' ⟨ab, eb, es', rfl, hes', hown, hb⟩
    have := hes'.unique HES.out
    subst this
    exact ⟨hb, ab, rfl, eb, hown.ask⟩
  simp only [Act.put, List.setIfInBounds_toArray, List.set_cons_zero, List.set_cons_succ]
  repeat (first
    | (refine HavG.skip (fun _ => rfl) ?_; simp only [Act.put, List.setIfInBounds_toArray, List.set_cons_zero, List.set_cons_succ])
    | (refine HavG.val (fun _ => rfl) ?_ (fun x w hw _ => ?_) ?_; rotate_left; (focus (have hc := hw.cells; clear hw; go_simp; first | done | rfl)); simp only [Act.put, List.setIfInBounds_toArray, List.set_cons_zero, List.set_cons_succ]))
  refine HavG.det (fun _ => rfl) (.bool g.rules[i].token) (fun x w hw _ => ?_) ?_
  · have HW := Lib.hid hw
    clear hw
    go_simp
    refine (token_ok g.rules[i] _ _ _ _ _ _ _ _ _ _ _ rfl).mono ?_
    rintro e w' ⟨rfl, hb⟩
    exact ⟨rfl, hb⟩
  simp only [Act.put, List.setIfInBounds_toArray, List.set_cons_zero, List.set_cons_succ]
  repeat (first
    | (refine HavG.skip (fun _ => rfl) ?_; simp only [Act.put, List.setIfInBounds_toArray, List.set_cons_zero, List.set_cons_succ])
    | (refine HavG.val (fun _ => rfl) ?_ (fun x w hw _ => ?_) ?_; rotate_left; (focus (have hc := hw.cells; clear hw; go_simp; first | done | rfl)); simp only [Act.put, List.setIfInBounds_toArray, List.set_cons_zero, List.set_cons_succ]))
  obtain ⟨bm, hbm⟩ : ∃ bm, bm = g.may es g.rules[i].token n := ⟨_, rfl⟩
  have HBM := Lib.hid hbm
  clear hbm
  refine HavG.det (fun _ => rfl) (.bool bm) (fun x w hw hd => ?_) ?_
  · obtain ⟨ab, eb, hxe, hask⟩ := hd _ (List.mem_append_right _ (List.mem_singleton.2 rfl)) (by kernel_rfl)
    dsimp only at hxe
    clear hd
    generalize x (0 + 1) = yv at *
    subst hxe
    have HW := Lib.hid hw
    have HA := Lib.hid hask
    clear hw hask
    go_simp
    rw [HBM.out]
    refine (may_ok g es g.rules[i].token n _ ab eb _ _ _ _ _ HA.out ((HN.out.keep HW.out).mono HW.out.size)).mono ?_
    rintro e w' ⟨rfl, hb⟩
    exact ⟨rfl, hb⟩
  simp only [Act.put, List.setIfInBounds_toArray, List.set_cons_zero, List.set_cons_succ]
  repeat (first
    | (refine HavG.skip (fun _ => rfl) ?_; simp only [Act.put, List.setIfInBounds_toArray, List.set_cons_zero, List.set_cons_succ])
    | (refine HavG.val (fun _ => rfl) ?_ (fun x w hw _ => ?_) ?_; rotate_left; (focus (have hc := hw.cells; clear hw; go_simp; first | done | rfl)); simp only [Act.put, List.setIfInBounds_toArray, List.set_cons_zero, List.set_cons_succ]))
  refine HavG.tail (by kernel_rfl) (by kernel_rfl) (fun x w hw _ => ?_)
  have HW := Lib.hid hw
  clear hw
  go_wp2_with fail
  go_ret
  exact ⟨ret_bool HBM.out, HGR.out.trans HW.out⟩
end Go.Proofs.YtkinlcichclnkaaDoor

/- checks.rule's third question of a node: is it a loop of what may be empty? -/
namespace Go.Proofs.YtkinlcichclnkaaDoor
open Go.RowKit

/-- a loop -/
def Nd.isLoop (n : Nd) : Bool := n.kind == 3 || n.kind == 4
theorem loopBad_nil (g : Gr) (es : List Bool) (r : Rl) (k : Int) (nm tx : ByteArray) (set : List (Int × Int)) : g.loopBad es r (.mk k nm tx set []) = false := by
  unfold Gr.loopBad
  simp [Nd.subs]
theorem loopBad_cons (g : Gr) (es : List Bool) (r : Rl) (k : Int) (nm tx : ByteArray) (set : List (Int × Int)) (s : Nd) (l : List Nd) : g.loopBad es r (.mk k nm tx set (s :: l)) = ((k == 3 || k == 4) && g.may es r.token s) := rfl

set_option maxHeartbeats 2000000 in
set_option maxRecDepth 20000 in
theorem rule3_ok (g : Gr) (es : List Bool) (hes : g.IsEmpty es) (i : Nat) (hi : i < g.rules.length) (n : Nd) (W : World) (cb pc pi : Nat) (v0 v1 v2 v3 v4 : Value) (hG : GrCell W cb g) (hp : W.cell? ⟨pc, 0, none⟩ = some (.pointer (some ⟨cb, 0, none⟩)))
    (hI : W.cell? ⟨pi, 0, none⟩ = some (.int .i64 (i : Int))) (hN : NodeAt W W.heap.size (some v0) (some v1) (some v2) (some v3) (some v4) n) :
    Calls Tryd.prog 66 (#[.agg #[v0, v1, v2, v3, v4]] ++ #[.pointer (some ⟨pc, 0, none⟩), .pointer (some ⟨pi, 0, none⟩)]) W fun e W' => e = .returned (.bool (g.loopBad es g.rules[i] n)) ∧ Grew W W' := by
  obtain ⟨k, nm, tx, set, subs⟩ := n
  rw [NodeAt] at hN
  obtain ⟨hk, h1, h2, h3, h4, h5, ⟨sa, sc, h6, -, -⟩, na, nc, h7, h8, h9⟩ := hN
  obtain rfl := Option.some.inj h3
  obtain rfl := Option.some.inj h4
  obtain rfl := Option.some.inj h5
  obtain rfl := Option.some.inj h6
  obtain rfl := Option.some.inj h7
  clear h3 h4 h5 h6 h7 hk
  unfold reachN at h1 h2 h8
  have hgr := grew_alloc W (.cells #[.int .u8 k, .string nm, .string tx, .slice sa set.length sc, .slice na subs.length nc] 34)
  have ho := Owns.alloc W [.int .u8 k, .string nm, .string tx, .slice sa set.length sc, .slice na subs.length nc] 34
  have hpl := lt_of_cell hp
  have hil := lt_of_cell hI
  have hp' : (W.alloc (.cells #[.int .u8 k, .string nm, .string tx, .slice sa set.length sc, .slice na subs.length nc] 34)).cell? ⟨pc, 0, none⟩ = some (.pointer (some ⟨cb, 0, none⟩)) := by rw [hgr.cells _ _ hpl]; exact hp
  have hI' : (W.alloc (.cells #[.int .u8 k, .string nm, .string tx, .slice sa set.length sc, .slice na subs.length nc] 34)).cell? ⟨pi, 0, none⟩ = some (.int .i64 (i : Int)) := by rw [hgr.cells _ _ hil]; exact hI
  obtain ⟨hcl, g0, g1, g2, g3, d0, d1, d2, d3, hGA⟩ := hG.grew hgr
  have b0 := ho.cell_at (i := 0) rfl
  have b4 := ho.cell_at (i := 4) rfl
  have bl := ho.lt
  have hpl' : pc < (W.alloc (.cells #[.int .u8 k, .string nm, .string tx, .slice sa set.length sc, .slice na subs.length nc] 34)).heap.size := by have := hgr.size; omega
  have hil' : pi < (W.alloc (.cells #[.int .u8 k, .string nm, .string tx, .slice sa set.length sc, .slice na subs.length nc] 34)).heap.size := by have := hgr.size; omega
  have HGR := Lib.hid hgr
  have HG := Lib.hid hGA
  have H9 := Lib.hid ((h9.keep hgr).mono hgr.size)
  clear hgr ho hp hG hI hGA h9
  simp only [List.append_toArray, List.cons_append, List.nil_append]
  cases subs with
  | nil =>
    rw [loopBad_nil]
    by_cases hk3 : k = 3
    · subst hk3
      go_enter Tryd.func66, Tryd.ntmps66
      go_wp2_with fail
      refine wp_region_hav_lit follows (by kernel_rfl) ?_
      repeat (first
        | (refine HavG.skip (fun _ => rfl) ?_; simp only [Act.put, List.setIfInBounds_toArray, List.set_cons_zero, List.set_cons_succ])
        | (refine HavG.val (fun _ => rfl) ?_ (fun x w hw _ => ?_) ?_; rotate_left; (focus (have hc := hw.cells; clear hw; go_simp; first | done | rfl)); simp only [Act.put, List.setIfInBounds_toArray, List.set_cons_zero, List.set_cons_succ]))
      refine HavG.tail (by kernel_rfl) (by kernel_rfl) (fun x w hw _ => ?_)
      go_wp2
      go_ret
      exact ⟨rfl, HGR.out.trans hw⟩
    · by_cases hk4 : k = 4
      · subst hk4
        go_enter Tryd.func66, Tryd.ntmps66
        go_wp2_with fail
        refine wp_region_hav_lit follows (by kernel_rfl) ?_
        repeat (first
          | (refine HavG.skip (fun _ => rfl) ?_; simp only [Act.put, List.setIfInBounds_toArray, List.set_cons_zero, List.set_cons_succ])
          | (refine HavG.val (fun _ => rfl) ?_ (fun x w hw _ => ?_) ?_; rotate_left; (focus (have hc := hw.cells; clear hw; go_simp; first | done | rfl)); simp only [Act.put, List.setIfInBounds_toArray, List.set_cons_zero, List.set_cons_succ]))
        refine HavG.tail (by kernel_rfl) (by kernel_rfl) (fun x w hw _ => ?_)
        go_wp2
        go_ret
        exact ⟨rfl, HGR.out.trans hw⟩
      · have e3 : (k == 3) = false := beq_eq_false_iff_ne.2 hk3
        have e4 : (k == 4) = false := beq_eq_false_iff_ne.2 hk4
        go_enter Tryd.func66, Tryd.ntmps66
        go_wp2_with fail
        refine wp_region_hav_lit follows (by kernel_rfl) ?_
        repeat (first
          | (refine HavG.skip (fun _ => rfl) ?_; simp only [Act.put, List.setIfInBounds_toArray, List.set_cons_zero, List.set_cons_succ])
          | (refine HavG.val (fun _ => rfl) ?_ (fun x w hw _ => ?_) ?_; rotate_left; (focus (have hc := hw.cells; clear hw; go_simp; first | done | rfl)); simp only [Act.put, List.setIfInBounds_toArray, List.set_cons_zero, List.set_cons_succ]))
        refine HavG.tail (by kernel_rfl) (by kernel_rfl) (fun x w hw _ => ?_)
        go_wp2
        go_ret
        exact ⟨rfl, HGR.out.trans hw⟩
  | cons s l =>
    rw [loopBad_cons]
    rw [NodesAt] at H9
    obtain ⟨⟨sb, so, rfl, hsb, hs⟩, -⟩ := H9.out
    clear H9
    simp only [Nat.zero_mul, Nat.add_zero] at hs
    obtain ⟨u0, u1, u2, u3, u4, q0, q1, q2, q3, q4, hs⟩ := hs.vals
    have HM := Lib.hid (fun w (hw : Grew (W.alloc (.cells #[.int .u8 k, .string nm, .string tx, .slice sa set.length sc, .slice (some ⟨sb, so, none⟩) (s :: l).length nc] 34)) w) => nmay_ok g es hes i hi s w g0 g1 g2 g3 u0 u1 u2 u3 u4 ((HG.out.keep hw).mono hw.size) ((hs.keep hw).mono hw.size))
    clear hs HG
    have hpos : 0 < (s :: l).length := by simp
    generalize g.may es g.rules[i].token s = mb at *
    generalize (s :: l).length = ln at *
    by_cases hk3 : k = 3
    · subst hk3
      go_enter Tryd.func66, Tryd.ntmps66
      go_wp2_with fail
      generalize W.alloc (.cells #[.int .u8 3, .string nm, .string tx, .slice sa set.length sc, .slice (some ⟨sb, so, none⟩) ln nc] 34) = w1 at *
      refine wp_region_hav_lit follows (by kernel_rfl) ?_
      repeat (first
        | (refine HavG.skip (fun _ => rfl) ?_; simp only [Act.put, List.setIfInBounds_toArray, List.set_cons_zero, List.set_cons_succ])
        | (refine HavG.val (fun _ => rfl) ?_ (fun x w hw _ => ?_) ?_; rotate_left; (focus (have hc := hw.cells; clear hw; go_simp; first | done | rfl)); simp only [Act.put, List.setIfInBounds_toArray, List.set_cons_zero, List.set_cons_succ]))
      refine HavG.det (fun _ => rfl) (.bool mb) (fun x w hw _ => ?_) ?_
      · have HW := Lib.hid hw
        clear hw
        go_simp
        refine (HM.out _ HW.out).mono ?_
        rintro e w' ⟨rfl, hb⟩
        exact ⟨rfl, hb⟩
      simp only [Act.put, List.setIfInBounds_toArray, List.set_cons_zero, List.set_cons_succ]
      repeat (first
        | (refine HavG.skip (fun _ => rfl) ?_; simp only [Act.put, List.setIfInBounds_toArray, List.set_cons_zero, List.set_cons_succ])
        | (refine HavG.val (fun _ => rfl) ?_ (fun x w hw _ => ?_) ?_; rotate_left; (focus (have hc := hw.cells; clear hw; go_simp; first | done | rfl)); simp only [Act.put, List.setIfInBounds_toArray, List.set_cons_zero, List.set_cons_succ]))
      refine HavG.tail (by kernel_rfl) (by kernel_rfl) (fun x w hw _ => ?_)
      go_wp2
      go_ret
      exact ⟨by simp, HGR.out.trans hw⟩
    · by_cases hk4 : k = 4
      · subst hk4
        go_enter Tryd.func66, Tryd.ntmps66
        go_wp2_with fail
        generalize W.alloc (.cells #[.int .u8 4, .string nm, .string tx, .slice sa set.length sc, .slice (some ⟨sb, so, none⟩) ln nc] 34) = w1 at *
        refine wp_region_hav_lit follows (by kernel_rfl) ?_
        repeat (first
          | (refine HavG.skip (fun _ => rfl) ?_; simp only [Act.put, List.setIfInBounds_toArray, List.set_cons_zero, List.set_cons_succ])
          | (refine HavG.val (fun _ => rfl) ?_ (fun x w hw _ => ?_) ?_; rotate_left; (focus (have hc := hw.cells; clear hw; go_simp; first | done | rfl)); simp only [Act.put, List.setIfInBounds_toArray, List.set_cons_zero, List.set_cons_succ]))
        refine HavG.det (fun _ => rfl) (.bool mb) (fun x w hw _ => ?_) ?_
        · have HW := Lib.hid hw
          clear hw
          go_simp
          refine (HM.out _ HW.out).mono ?_
          rintro e w' ⟨rfl, hb⟩
          exact ⟨rfl, hb⟩
        simp only [Act.put, List.setIfInBounds_toArray, List.set_cons_zero, List.set_cons_succ]
        repeat (first
          | (refine HavG.skip (fun _ => rfl) ?_; simp only [Act.put, List.setIfInBounds_toArray, List.set_cons_zero, List.set_cons_succ])
          | (refine HavG.val (fun _ => rfl) ?_ (fun x w hw _ => ?_) ?_; rotate_left; (focus (have hc := hw.cells; clear hw; go_simp; first | done | rfl)); simp only [Act.put, List.setIfInBounds_toArray, List.set_cons_zero, List.set_cons_succ]))
        refine HavG.tail (by kernel_rfl) (by kernel_rfl) (fun x w hw _ => ?_)
        go_wp2
        go_ret
        exact ⟨by simp, HGR.out.trans hw⟩
      · have e3 : (k == 3) = false := beq_eq_false_iff_ne.2 hk3
        have e4 : (k == 4) = false := beq_eq_false_iff_ne.2 hk4
        go_enter Tryd.func66, Tryd.ntmps66
        go_wp2_with fail
        refine wp_region_hav_lit follows (by kernel_rfl) ?_
        repeat (first
          | (refine HavG.skip (fun _ => rfl) ?_; simp only [Act.put, List.setIfInBounds_toArray, List.set_cons_zero, List.set_cons_succ])
          | (refine HavG.val (fun _ => rfl) ?_ (fun x w hw _ => ?_) ?_; rotate_left; (focus (have hc := hw.cells; clear hw; go_simp; first | done | rfl)); simp only [Act.put, List.setIfInBounds_toArray, List.set_cons_zero, List.set_cons_succ]))
        refine HavG.tail (by kernel_rfl) (by kernel_rfl) (fun x w hw _ => ?_)
        go_wp2
        go_ret
        exact ⟨by simp [e3, e4], HGR.out.trans hw⟩
end Go.Proofs.YtkinlcichclnkaaDoor

/- checks.rule's second question of a node: does it name a rule of a sort that may not be named there? -/
namespace Go.Proofs.YtkinlcichclnkaaDoor
open Go.RowKit

/-- a rule in a block of its own -/
def RuleBox (W : World) (pr : Nat) (r : Rl) : Prop := ∃ v2 v3 v4 v5 v6, Owns W pr [.string r.name, .int .u8 r.sort, v2, v3, v4, v5, v6, .int .i64 r.p0, .int .i64 r.p1, .int .i64 r.p2] 38
theorem RuleBox.grew {W W' : World} {pr : Nat} {r : Rl} (h : RuleBox W pr r) (hg : Grew W W') : RuleBox W' pr r := by
  obtain ⟨v2, v3, v4, v5, v6, h⟩ := h
  exact ⟨v2, v3, v4, v5, v6, h.keep hg⟩

set_option maxHeartbeats 2000000 in
set_option maxRecDepth 20000 in
theorem rule2_ok (g : Gr) (r : Rl) (n : Nd) (W : World) (cb pc pr : Nat) (v0 v1 v2 v3 v4 : Value) (hG : GrCell W cb g) (hp : W.cell? ⟨pc, 0, none⟩ = some (.pointer (some ⟨cb, 0, none⟩))) (hR : RuleBox W pr r) (hN : NodeAt W W.heap.size (some v0) (some v1) (some v2) (some v3) (some v4) n) :
    Calls Tryd.prog 64 (#[.agg #[v0, v1, v2, v3, v4]] ++ #[.pointer (some ⟨pc, 0, none⟩), .pointer (some ⟨pr, 0, none⟩)]) W fun e W' => e = .returned (.bool (g.sortBad r n)) ∧ Grew W W' := by
  obtain ⟨k, nm, tx, set, subs⟩ := n
  rw [NodeAt] at hN
  obtain ⟨hk, h1, h2, h3, h4, h5, ⟨sa, sc, h6, -, -⟩, na, nc, h7, -, -⟩ := hN
  obtain rfl := Option.some.inj h3
  obtain rfl := Option.some.inj h4
  obtain rfl := Option.some.inj h5
  obtain rfl := Option.some.inj h6
  obtain rfl := Option.some.inj h7
  clear h3 h4 h5 h6 h7 hk
  unfold reachN at h1 h2
  have hgr := grew_alloc W (.cells #[.int .u8 k, .string nm, .string tx, .slice sa set.length sc, .slice na subs.length nc] 34)
  have ho := Owns.alloc W [.int .u8 k, .string nm, .string tx, .slice sa set.length sc, .slice na subs.length nc] 34
  have hpl := lt_of_cell hp
  have hp' : (W.alloc (.cells #[.int .u8 k, .string nm, .string tx, .slice sa set.length sc, .slice na subs.length nc] 34)).cell? ⟨pc, 0, none⟩ = some (.pointer (some ⟨cb, 0, none⟩)) := by rw [hgr.cells _ _ hpl]; exact hp
  obtain ⟨hcl, g0, g1, g2, g3, d0, d1, d2, d3, hGA⟩ := hG.grew hgr
  obtain ⟨u2, u3, u4, u5, u6, hrb⟩ := hR.grew hgr
  have b0 := ho.cell_at (i := 0) rfl
  have b1 := ho.cell_at (i := 1) rfl
  have b2 := ho.cell_at (i := 2) rfl
  have b3 := ho.cell_at (i := 3) rfl
  have b4 := ho.cell_at (i := 4) rfl
  have bl := ho.lt
  have hpl' : pc < (W.alloc (.cells #[.int .u8 k, .string nm, .string tx, .slice sa set.length sc, .slice na subs.length nc] 34)).heap.size := by have := hgr.size; omega
  have r0 := hrb.cell_at (i := 0) rfl
  have r1 := hrb.cell_at (i := 1) rfl
  have r2 := hrb.cell_at (i := 2) rfl
  have r3 := hrb.cell_at (i := 3) rfl
  have r4 := hrb.cell_at (i := 4) rfl
  have r5 := hrb.cell_at (i := 5) rfl
  have r6 := hrb.cell_at (i := 6) rfl
  have r7 := hrb.cell_at (i := 7) rfl
  have r8 := hrb.cell_at (i := 8) rfl
  have r9 := hrb.cell_at (i := 9) rfl
  have rl := hrb.lt
  have HNm := Lib.hid (fun w => names_ok (.mk k nm tx set subs) w (.int .u8 k) (.string nm) (.string tx) (.slice sa set.length sc) (.slice na subs.length nc) rfl)
  have HSo := Lib.hid (fun o w => sorted_ok r (.mk k nm tx set subs) o w (.string r.name) (.int .u8 r.sort) u2 u3 u4 u5 u6 (.int .i64 r.p0) (.int .i64 r.p1) (.int .i64 r.p2) (.int .u8 k) (.string nm) (.string tx) (.slice sa set.length sc) (.slice na subs.length nc) rfl rfl)
  have HF := Lib.hid (fun w hg' => find_ok g nm w g0 g1 g2 g3 hg')
  have hfin : Hid (g.sortBad r (.mk k nm tx set subs) = ((Nd.mk k nm tx set subs).isName && (decide (0 ≤ g.find nm) && !sortedB r (.mk k nm tx set subs) (g.sortAt (g.find nm))))) := rfl
  have HG := Lib.hid hGA
  have HGR := Lib.hid hgr
  generalize hisn : (Nd.mk k nm tx set subs).isName = isn at *
  clear hGA hgr ho hp hG hisn hrb hR
  simp only [List.append_toArray, List.cons_append, List.nil_append]
  rcases ixOf_cases g.rules (fun r => sameB r.name nm) with ⟨hi, _⟩ | ⟨j, hj, hi, _, _⟩
  · change g.find nm = -1 at hi
    rw [hi] at HF hfin
    clear hi
    go_enter Tryd.func64, Tryd.ntmps64
    go_wp2_with fail
    generalize W.alloc (.cells #[.int .u8 k, .string nm, .string tx, .slice sa set.length sc, .slice na subs.length nc] 34) = w1 at *
    refine wp_region_hav_lit follows (by kernel_rfl) ?_
    repeat (first
      | (refine HavG.skip (fun _ => rfl) ?_; simp only [Act.put, List.setIfInBounds_toArray, List.set_cons_zero, List.set_cons_succ])
      | (refine HavG.val (fun _ => rfl) ?_ (fun x w hw _ => ?_) ?_; rotate_left; (focus (have hc := hw.cells; clear hw; go_simp; first | done | rfl)); simp only [Act.put, List.setIfInBounds_toArray, List.set_cons_zero, List.set_cons_succ]))
    refine HavG.det (fun _ => rfl) (.int .i64 (-1)) (fun x w hw _ => ?_) ?_
    · have HW := Lib.hid hw
      clear hw
      go_simp
      refine (HF.out _ ((HG.out.keep HW.out).mono HW.out.size)).mono ?_
      rintro e w' ⟨rfl, hb⟩
      exact ⟨rfl, hb⟩
    simp only [Act.put, List.setIfInBounds_toArray, List.set_cons_zero, List.set_cons_succ]
    repeat (first
      | (refine HavG.skip (fun _ => rfl) ?_; simp only [Act.put, List.setIfInBounds_toArray, List.set_cons_zero, List.set_cons_succ])
      | (refine HavG.val (fun _ => rfl) ?_ (fun x w hw _ => ?_) ?_; rotate_left; (focus (have hc := hw.cells; clear hw; go_simp; first | done | rfl)); simp only [Act.put, List.setIfInBounds_toArray, List.set_cons_zero, List.set_cons_succ]))
    refine HavG.tail (by kernel_rfl) (by kernel_rfl) (fun x w hw _ => ?_)
    have hc1 := hw.cells
    have HW1 := Lib.hid hw
    have hwz := hw.size
    clear hw
    go_wp2_with fail
    cases isn
    · refine wp_region_hav_lit follows (by kernel_rfl) ?_
      repeat (first
        | (refine HavG.skip (fun _ => rfl) ?_; simp only [Act.put, List.setIfInBounds_toArray, List.set_cons_zero, List.set_cons_succ])
        | (refine HavG.val (fun _ => rfl) ?_ (fun x w hw _ => ?_) ?_; rotate_left; (focus (have hc := (HW1.out.trans hw).cells; clear hw; go_simp; first | done | rfl)); simp only [Act.put, List.setIfInBounds_toArray, List.set_cons_zero, List.set_cons_succ]))
      refine HavG.det (fun _ => rfl) (.bool false) (fun x w hw _ => ?_) ?_
      · have HW := Lib.hid hw
        clear hw
        go_simp
        refine (HNm.out _).mono ?_
        rintro e w' ⟨rfl, hb⟩
        exact ⟨rfl, hb⟩
      simp only [Act.put, List.setIfInBounds_toArray, List.set_cons_zero, List.set_cons_succ]
      repeat (first
        | (refine HavG.skip (fun _ => rfl) ?_; simp only [Act.put, List.setIfInBounds_toArray, List.set_cons_zero, List.set_cons_succ])
        | (refine HavG.val (fun _ => rfl) ?_ (fun x w hw _ => ?_) ?_; rotate_left; (focus (have hc := (HW1.out.trans hw).cells; clear hw; go_simp; first | done | rfl)); simp only [Act.put, List.setIfInBounds_toArray, List.set_cons_zero, List.set_cons_succ]))
      refine HavG.tail (by kernel_rfl) (by kernel_rfl) (fun x w hw _ => ?_)
      go_wp2
      go_ret
      exact ⟨by rw [hfin.out]; rfl, HGR.out.trans (HW1.out.trans hw)⟩
    · refine wp_region_hav_lit follows (by kernel_rfl) ?_
      repeat (first
        | (refine HavG.skip (fun _ => rfl) ?_; simp only [Act.put, List.setIfInBounds_toArray, List.set_cons_zero, List.set_cons_succ])
        | (refine HavG.val (fun _ => rfl) ?_ (fun x w hw _ => ?_) ?_; rotate_left; (focus (have hc := (HW1.out.trans hw).cells; clear hw; go_simp; first | done | rfl)); simp only [Act.put, List.setIfInBounds_toArray, List.set_cons_zero, List.set_cons_succ]))
      refine HavG.det (fun _ => rfl) (.bool true) (fun x w hw _ => ?_) ?_
      · have HW := Lib.hid hw
        clear hw
        go_simp
        refine (HNm.out _).mono ?_
        rintro e w' ⟨rfl, hb⟩
        exact ⟨rfl, hb⟩
      simp only [Act.put, List.setIfInBounds_toArray, List.set_cons_zero, List.set_cons_succ]
      repeat (first
        | (refine HavG.skip (fun _ => rfl) ?_; simp only [Act.put, List.setIfInBounds_toArray, List.set_cons_zero, List.set_cons_succ])
        | (refine HavG.val (fun _ => rfl) ?_ (fun x w hw _ => ?_) ?_; rotate_left; (focus (have hc := (HW1.out.trans hw).cells; clear hw; go_simp; first | done | rfl)); simp only [Act.put, List.setIfInBounds_toArray, List.set_cons_zero, List.set_cons_succ]))
      refine HavG.tail (by kernel_rfl) (by kernel_rfl) (fun x w hw _ => ?_)
      go_wp2
      go_ret
      exact ⟨by rw [hfin.out]; rfl, HGR.out.trans (HW1.out.trans hw)⟩
  · change g.find nm = (j : Int) at hi
    rw [hi, sortAt_nat g j hj] at hfin
    rw [hi] at HF
    clear hi
    have hG' := HG.out
    obtain ⟨q1, q2, q3, q4, q5, q6, ra, rc, q7, q8, q9⟩ := hG'
    obtain rfl := Option.some.inj q1
    obtain rfl := Option.some.inj q3
    obtain rfl := Option.some.inj q4
    obtain rfl := Option.some.inj q7
    obtain ⟨rb, rof, rfl, hrb, hrule⟩ := q9.get hj
    simp only [Nat.zero_add] at hrule
    obtain ⟨-, -, e1, hs, -⟩ := hrule
    unfold reachN at q8 q2
    clear q1 q3 q4 q5 q6 q7 q9
    generalize g.rules[j].sort = srt at *
    have HSo' := Lib.hid (HSo.out srt)
    generalize sortedB r (Nd.mk k nm tx set subs) srt = sb at *
    clear HSo
    go_enter Tryd.func64, Tryd.ntmps64
    go_wp2_with fail
    generalize W.alloc (.cells #[.int .u8 k, .string nm, .string tx, .slice sa set.length sc, .slice na subs.length nc] 34) = w1 at *
    refine wp_region_hav_lit follows (by kernel_rfl) ?_
    repeat (first
      | (refine HavG.skip (fun _ => rfl) ?_; simp only [Act.put, List.setIfInBounds_toArray, List.set_cons_zero, List.set_cons_succ])
      | (refine HavG.val (fun _ => rfl) ?_ (fun x w hw _ => ?_) ?_; rotate_left; (focus (have hc := hw.cells; clear hw; go_simp; first | done | rfl)); simp only [Act.put, List.setIfInBounds_toArray, List.set_cons_zero, List.set_cons_succ]))
    refine HavG.det (fun _ => rfl) (.int .i64 (j : Int)) (fun x w hw _ => ?_) ?_
    · have HW := Lib.hid hw
      clear hw
      go_simp
      refine (HF.out _ ((HG.out.keep HW.out).mono HW.out.size)).mono ?_
      rintro e w' ⟨rfl, hb⟩
      exact ⟨rfl, hb⟩
    simp only [Act.put, List.setIfInBounds_toArray, List.set_cons_zero, List.set_cons_succ]
    repeat (first
      | (refine HavG.skip (fun _ => rfl) ?_; simp only [Act.put, List.setIfInBounds_toArray, List.set_cons_zero, List.set_cons_succ])
      | (refine HavG.val (fun _ => rfl) ?_ (fun x w hw _ => ?_) ?_; rotate_left; (focus (have hc := hw.cells; clear hw; go_simp; first | done | rfl)); simp only [Act.put, List.setIfInBounds_toArray, List.set_cons_zero, List.set_cons_succ]))
    refine HavG.tail (by kernel_rfl) (by kernel_rfl) (fun x w hw _ => ?_)
    have hc1 := hw.cells
    have HW1 := Lib.hid hw
    have hwz := hw.size
    clear hw
    go_wp2_with fail
    cases isn
    · refine wp_region_hav_lit follows (by kernel_rfl) ?_
      repeat (first
        | (refine HavG.skip (fun _ => rfl) ?_; simp only [Act.put, List.setIfInBounds_toArray, List.set_cons_zero, List.set_cons_succ])
        | (refine HavG.val (fun _ => rfl) ?_ (fun x w hw _ => ?_) ?_; rotate_left; (focus (have hc := (HW1.out.trans hw).cells; clear hw; go_simp; first | done | rfl)); simp only [Act.put, List.setIfInBounds_toArray, List.set_cons_zero, List.set_cons_succ]))
      refine HavG.det (fun _ => rfl) (.bool false) (fun x w hw _ => ?_) ?_
      · have HW := Lib.hid hw
        clear hw
        go_simp
        refine (HNm.out _).mono ?_
        rintro e w' ⟨rfl, hb⟩
        exact ⟨rfl, hb⟩
      simp only [Act.put, List.setIfInBounds_toArray, List.set_cons_zero, List.set_cons_succ]
      repeat (first
        | (refine HavG.skip (fun _ => rfl) ?_; simp only [Act.put, List.setIfInBounds_toArray, List.set_cons_zero, List.set_cons_succ])
        | (refine HavG.val (fun _ => rfl) ?_ (fun x w hw _ => ?_) ?_; rotate_left; (focus (have hc := (HW1.out.trans hw).cells; clear hw; go_simp; first | done | rfl)); simp only [Act.put, List.setIfInBounds_toArray, List.set_cons_zero, List.set_cons_succ]))
      refine HavG.tail (by kernel_rfl) (by kernel_rfl) (fun x w hw _ => ?_)
      go_wp2
      go_ret
      exact ⟨by rw [hfin.out]; rfl, HGR.out.trans (HW1.out.trans hw)⟩
    · refine wp_region_hav_lit follows (by kernel_rfl) ?_
      repeat (first
        | (refine HavG.skip (fun _ => rfl) ?_; simp only [Act.put, List.setIfInBounds_toArray, List.set_cons_zero, List.set_cons_succ])
        | (refine HavG.val (fun _ => rfl) ?_ (fun x w hw _ => ?_) ?_; rotate_left; (focus (have hc := (HW1.out.trans hw).cells; clear hw; go_simp; first | done | rfl)); simp only [Act.put, List.setIfInBounds_toArray, List.set_cons_zero, List.set_cons_succ]))
      refine HavG.det (fun _ => rfl) (.bool true) (fun x w hw _ => ?_) ?_
      · have HW := Lib.hid hw
        clear hw
        go_simp
        refine (HNm.out _).mono ?_
        rintro e w' ⟨rfl, hb⟩
        exact ⟨rfl, hb⟩
      simp only [Act.put, List.setIfInBounds_toArray, List.set_cons_zero, List.set_cons_succ]
      repeat (first
        | (refine HavG.skip (fun _ => rfl) ?_; simp only [Act.put, List.setIfInBounds_toArray, List.set_cons_zero, List.set_cons_succ])
        | (refine HavG.val (fun _ => rfl) ?_ (fun x w hw _ => ?_) ?_; rotate_left; (focus (have hc := (HW1.out.trans hw).cells; clear hw; go_simp; first | done | rfl)); simp only [Act.put, List.setIfInBounds_toArray, List.set_cons_zero, List.set_cons_succ]))
      refine HavG.det (fun _ => rfl) (.bool sb) (fun x w hw _ => ?_) ?_
      · have HW := Lib.hid hw
        clear hw
        go_simp
        refine (HSo'.out _).mono ?_
        rintro e w' ⟨rfl, hb⟩
        exact ⟨rfl, hb⟩
      simp only [Act.put, List.setIfInBounds_toArray, List.set_cons_zero, List.set_cons_succ]
      repeat (first
        | (refine HavG.skip (fun _ => rfl) ?_; simp only [Act.put, List.setIfInBounds_toArray, List.set_cons_zero, List.set_cons_succ])
        | (refine HavG.val (fun _ => rfl) ?_ (fun x w hw _ => ?_) ?_; rotate_left; (focus (have hc := (HW1.out.trans hw).cells; clear hw; go_simp; first | done | rfl)); simp only [Act.put, List.setIfInBounds_toArray, List.set_cons_zero, List.set_cons_succ]))
      refine HavG.tail (by kernel_rfl) (by kernel_rfl) (fun x w hw _ => ?_)
      go_wp2
      all_goals
        go_ret
        exact ⟨by rw [hfin.out]; have : decide (0 ≤ (j : Int)) = true := decide_eq_true (by omega); simp [*], HGR.out.trans (HW1.out.trans hw)⟩
end Go.Proofs.YtkinlcichclnkaaDoor

/- The rule for a statement whose order Go leaves open (Hav), for a round of a range over a function. No program in sight. -/
namespace Go.Proofs.YtkinlcichclnkaaDoor
open Go.RowKit
section
variable {P : Program} {ops : Array Oper} {Q : Exit → Act → World → Prop} {l n : Nat}

theorem uponIn_of_upon {o : Oper} {a : Act} {K : Act → World → Prop} {r : Result Next} (h : o.upon P a K Q r) : o.uponIn (Fence.wide.inRound l) n P a K Q r := by
  cases r with
  | halt x w =>
    cases x <;> first
      | exact h
      | exact h.elim
  | ok m w =>
    cases m <;> first
      | exact h
      | exact h.elim
      | exact ⟨fun h => (by cases h), CallsIn.inRound l (callsIn_wide.2 h)⟩
      | exact ⟨fun h => (by cases h), fun c cs _ => let ⟨v, w', r, s⟩ := h c cs; ⟨v, w', r, stepsIn_wide.2 s⟩⟩

def noDefer (ops : Array Oper) : Bool := ops.toList.all fun o => match o.op with | .defer _ => false | _ => true

theorem wpOpIn_of {i : Nat} {K K' : Act → World → Prop} {a : Act} {w : World} (hnd : noDefer ops = true) (hQ : ¬ LetsOut Q) (hK : ∀ a w, K a w → K' a w) (h : wpOp P ops Q i K a w) : wpOpIn (Fence.wide.inRound l) n P ops Q i K' a w := by
  have h' := wpOp_mono hK h
  clear h hK
  unfold wpOp at h'
  unfold wpOpIn
  cases ho : ops[i]? with
  | none => simpa [ho] using h'
  | some o =>
    simp only [ho] at h'
    have hd : ∀ c, o.op ≠ .defer c := fun c hc => by
      have hm : o ∈ ops.toList := by
        have := Array.mem_of_getElem? ho
        simpa using this
      have := List.all_eq_true.1 hnd o hm
      rw [hc] at this
      cases this
    simp only
    split
    · rename_i hw
      rw [if_pos hw] at h'
      rcases h' with h' | ⟨_, h'⟩
      · refine ⟨fun _ _ => trivial, ?_⟩
        rw [Oper.semAt_eq _ _ _ hd]
        exact uponIn_of_upon h'
      · exact absurd h' hQ
    · rename_i hw
      rw [if_neg hw] at h'
      exact ⟨fun _ _ => trivial, h'⟩

theorem wpAnyIn_of {md : Region.Mode} (hnd : noDefer ops = true) (hQ : ¬ LetsOut Q) : ∀ (f : Nat) (S : Array Bool) (a : Act) (w : World), wpAny P md ops Q f S a w → wpAnyIn (Fence.wide.inRound l) n P md ops Q f S a w
  | 0, _, _, _, h => h
  | f + 1, _, _, _, h => ⟨h.1, fun i hi => wpOpIn_of hnd hQ (fun a w h' => wpAnyIn_of hnd hQ f _ a w h') (h.2 i hi)⟩

theorem wpIn_region_hav {id : Nat} {a0 : Act} {w : World} (hm : P.follows .mixedOrders = true) (hok : havB ops = true) (hnd : noDefer ops = true) (hQ : ¬ LetsOut Q) (h : HavG P ops Q w ops.toList 0 (fun _ => a0) []) : (Code.region id ops true).wpIn (Fence.wide.inRound l) n P Q a0 w :=
  wpIn_region_any hm (wpAnyIn_of hnd hQ _ _ _ _ (wpAny_hav hok h))
theorem wpIn_region_hav_lit {id : Nat} {a0 : Act} {w : World} {os : List Oper} (hm : P.follows .mixedOrders = true) (hok : havB os.toArray = true) (hnd : noDefer os.toArray = true) (hQ : ¬ LetsOut Q) (h : HavG P os.toArray Q w os 0 (fun _ => a0) []) :
    (Code.region id os.toArray true).wpIn (Fence.wide.inRound l) n P Q a0 w :=
  wpIn_region_hav hm hok hnd hQ (by simpa using h)
end
end Go.Proofs.YtkinlcichclnkaaDoor
