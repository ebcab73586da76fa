/- checks.rule's third question of a node: is it a loop of what may be empty? -/
import Derived.Test.YtnopnihdobedcaaRule1
import Derived.Test.YtnopnihdobedcaaMayCall
namespace Go.Proofs.Ytnopnihdobedcaa
open Go.RowKit

/-- a loop -/
def Nd.isLoop (n : Nd) : Bool := n.kind == 3 || n.kind == 4
theorem loopBad_nil (g : Gr) (es : List Bool) (r : Rl) (k : Int) (nm tx : ByteArray) (set : List (Int × Int)) : g.loopBad es r (.mk k nm tx set []) = false := by
  unfold Gr.loopBad
  simp [Nd.subs]
theorem loopBad_cons (g : Gr) (es : List Bool) (r : Rl) (k : Int) (nm tx : ByteArray) (set : List (Int × Int)) (s : Nd) (l : List Nd) : g.loopBad es r (.mk k nm tx set (s :: l)) = ((k == 3 || k == 4) && g.may es r.token s) := rfl

set_option maxHeartbeats 2000000 in
set_option maxRecDepth 20000 in
theorem rule3_ok (g : Gr) (es : List Bool) (hes : g.IsEmpty es) (i : Nat) (hi : i < g.rules.length) (n : Nd) (W : World) (cb pc pi : Nat) (v0 v1 v2 v3 v4 : Value) (hG : GrCell W cb g) (hp : W.cell? ⟨pc, 0, none⟩ = some (.pointer (some ⟨cb, 0, none⟩)))
    (hI : W.cell? ⟨pi, 0, none⟩ = some (.int .i64 (i : Int))) (hN : NodeAt W W.heap.size (some v0) (some v1) (some v2) (some v3) (some v4) n) :
    Calls Try.prog 77 (#[.agg #[v0, v1, v2, v3, v4]] ++ #[.pointer (some ⟨pc, 0, none⟩), .pointer (some ⟨pi, 0, none⟩)]) W fun e W' => e = .returned (.bool (g.loopBad es g.rules[i] n)) ∧ Grew W W' := by
  obtain ⟨k, nm, tx, set, subs⟩ := n
  rw [NodeAt] at hN
  obtain ⟨hk, h1, h2, h3, h4, h5, ⟨sa, sc, h6, -, -⟩, na, nc, h7, h8, h9⟩ := hN
  obtain rfl := Option.some.inj h3
  obtain rfl := Option.some.inj h4
  obtain rfl := Option.some.inj h5
  obtain rfl := Option.some.inj h6
  obtain rfl := Option.some.inj h7
  clear h3 h4 h5 h6 h7 hk
  unfold reachN at h1 h2 h8
  have hgr := grew_alloc W (.cells #[.int .u8 k, .string nm, .string tx, .slice sa set.length sc, .slice na subs.length nc] 36)
  have ho := Owns.alloc W [.int .u8 k, .string nm, .string tx, .slice sa set.length sc, .slice na subs.length nc] 36
  have hpl := lt_of_cell hp
  have hil := lt_of_cell hI
  have hp' : (W.alloc (.cells #[.int .u8 k, .string nm, .string tx, .slice sa set.length sc, .slice na subs.length nc] 36)).cell? ⟨pc, 0, none⟩ = some (.pointer (some ⟨cb, 0, none⟩)) := by rw [hgr.cells _ _ hpl]; exact hp
  have hI' : (W.alloc (.cells #[.int .u8 k, .string nm, .string tx, .slice sa set.length sc, .slice na subs.length nc] 36)).cell? ⟨pi, 0, none⟩ = some (.int .i64 (i : Int)) := by rw [hgr.cells _ _ hil]; exact hI
  obtain ⟨hcl, g0, g1, g2, g3, d0, d1, d2, d3, hGA⟩ := hG.grew hgr
  have b0 := ho.cell_at (i := 0) rfl
  have b4 := ho.cell_at (i := 4) rfl
  have bl := ho.lt
  have hpl' : pc < (W.alloc (.cells #[.int .u8 k, .string nm, .string tx, .slice sa set.length sc, .slice na subs.length nc] 36)).heap.size := by have := hgr.size; omega
  have hil' : pi < (W.alloc (.cells #[.int .u8 k, .string nm, .string tx, .slice sa set.length sc, .slice na subs.length nc] 36)).heap.size := by have := hgr.size; omega
  have HGR := Lib.hid hgr
  have HG := Lib.hid hGA
  have H9 := Lib.hid ((h9.keep hgr).mono hgr.size)
  clear hgr ho hp hG hI hGA h9
  simp only [List.append_toArray, List.cons_append, List.nil_append]
  cases subs with
  | nil =>
    rw [loopBad_nil]
    by_cases hk3 : k = 3
    · subst hk3
      go_enter Try.func77, Try.ntmps77
      go_wp2_with fail
      refine wp_region_hav_lit follows (by kernel_rfl) ?_
      repeat (first
        | (refine HavG.skip (fun _ => rfl) ?_; simp only [Act.put, List.setIfInBounds_toArray, List.set_cons_zero, List.set_cons_succ])
        | (refine HavG.val (fun _ => rfl) ?_ (fun x w hw _ => ?_) ?_; rotate_left; (focus (have hc := hw.cells; clear hw; go_simp; first | done | rfl)); simp only [Act.put, List.setIfInBounds_toArray, List.set_cons_zero, List.set_cons_succ]))
      refine HavG.tail (by kernel_rfl) (by kernel_rfl) (fun x w hw _ => ?_)
      go_wp2
      go_ret
      exact ⟨rfl, HGR.out.trans hw⟩
    · by_cases hk4 : k = 4
      · subst hk4
        go_enter Try.func77, Try.ntmps77
        go_wp2_with fail
        refine wp_region_hav_lit follows (by kernel_rfl) ?_
        repeat (first
          | (refine HavG.skip (fun _ => rfl) ?_; simp only [Act.put, List.setIfInBounds_toArray, List.set_cons_zero, List.set_cons_succ])
          | (refine HavG.val (fun _ => rfl) ?_ (fun x w hw _ => ?_) ?_; rotate_left; (focus (have hc := hw.cells; clear hw; go_simp; first | done | rfl)); simp only [Act.put, List.setIfInBounds_toArray, List.set_cons_zero, List.set_cons_succ]))
        refine HavG.tail (by kernel_rfl) (by kernel_rfl) (fun x w hw _ => ?_)
        go_wp2
        go_ret
        exact ⟨rfl, HGR.out.trans hw⟩
      · have e3 : (k == 3) = false := beq_eq_false_iff_ne.2 hk3
        have e4 : (k == 4) = false := beq_eq_false_iff_ne.2 hk4
        go_enter Try.func77, Try.ntmps77
        go_wp2_with fail
        refine wp_region_hav_lit follows (by kernel_rfl) ?_
        repeat (first
          | (refine HavG.skip (fun _ => rfl) ?_; simp only [Act.put, List.setIfInBounds_toArray, List.set_cons_zero, List.set_cons_succ])
          | (refine HavG.val (fun _ => rfl) ?_ (fun x w hw _ => ?_) ?_; rotate_left; (focus (have hc := hw.cells; clear hw; go_simp; first | done | rfl)); simp only [Act.put, List.setIfInBounds_toArray, List.set_cons_zero, List.set_cons_succ]))
        refine HavG.tail (by kernel_rfl) (by kernel_rfl) (fun x w hw _ => ?_)
        go_wp2
        go_ret
        exact ⟨rfl, HGR.out.trans hw⟩
  | cons s l =>
    rw [loopBad_cons]
    rw [NodesAt] at H9
    obtain ⟨⟨sb, so, rfl, hsb, hs⟩, -⟩ := H9.out
    clear H9
    simp only [Nat.zero_mul, Nat.add_zero] at hs
    obtain ⟨u0, u1, u2, u3, u4, q0, q1, q2, q3, q4, hs⟩ := hs.vals
    have HM := Lib.hid (fun w (hw : Grew (W.alloc (.cells #[.int .u8 k, .string nm, .string tx, .slice sa set.length sc, .slice (some ⟨sb, so, none⟩) (s :: l).length nc] 36)) w) => nmay_ok g es hes i hi s w g0 g1 g2 g3 u0 u1 u2 u3 u4 ((HG.out.keep hw).mono hw.size) ((hs.keep hw).mono hw.size))
    clear hs HG
    have hpos : 0 < (s :: l).length := by simp
    generalize g.may es g.rules[i].token s = mb at *
    generalize (s :: l).length = ln at *
    by_cases hk3 : k = 3
    · subst hk3
      go_enter Try.func77, Try.ntmps77
      go_wp2_with fail
      generalize W.alloc (.cells #[.int .u8 3, .string nm, .string tx, .slice sa set.length sc, .slice (some ⟨sb, so, none⟩) ln nc] 36) = w1 at *
      refine wp_region_hav_lit follows (by kernel_rfl) ?_
      repeat (first
        | (refine HavG.skip (fun _ => rfl) ?_; simp only [Act.put, List.setIfInBounds_toArray, List.set_cons_zero, List.set_cons_succ])
        | (refine HavG.val (fun _ => rfl) ?_ (fun x w hw _ => ?_) ?_; rotate_left; (focus (have hc := hw.cells; clear hw; go_simp; first | done | rfl)); simp only [Act.put, List.setIfInBounds_toArray, List.set_cons_zero, List.set_cons_succ]))
      refine HavG.det (fun _ => rfl) (.bool mb) (fun x w hw _ => ?_) ?_
      · have HW := Lib.hid hw
        clear hw
        go_simp
        refine (HM.out _ HW.out).mono ?_
        rintro e w' ⟨rfl, hb⟩
        exact ⟨rfl, hb⟩
      simp only [Act.put, List.setIfInBounds_toArray, List.set_cons_zero, List.set_cons_succ]
      repeat (first
        | (refine HavG.skip (fun _ => rfl) ?_; simp only [Act.put, List.setIfInBounds_toArray, List.set_cons_zero, List.set_cons_succ])
        | (refine HavG.val (fun _ => rfl) ?_ (fun x w hw _ => ?_) ?_; rotate_left; (focus (have hc := hw.cells; clear hw; go_simp; first | done | rfl)); simp only [Act.put, List.setIfInBounds_toArray, List.set_cons_zero, List.set_cons_succ]))
      refine HavG.tail (by kernel_rfl) (by kernel_rfl) (fun x w hw _ => ?_)
      go_wp2
      go_ret
      exact ⟨by simp, HGR.out.trans hw⟩
    · by_cases hk4 : k = 4
      · subst hk4
        go_enter Try.func77, Try.ntmps77
        go_wp2_with fail
        generalize W.alloc (.cells #[.int .u8 4, .string nm, .string tx, .slice sa set.length sc, .slice (some ⟨sb, so, none⟩) ln nc] 36) = w1 at *
        refine wp_region_hav_lit follows (by kernel_rfl) ?_
        repeat (first
          | (refine HavG.skip (fun _ => rfl) ?_; simp only [Act.put, List.setIfInBounds_toArray, List.set_cons_zero, List.set_cons_succ])
          | (refine HavG.val (fun _ => rfl) ?_ (fun x w hw _ => ?_) ?_; rotate_left; (focus (have hc := hw.cells; clear hw; go_simp; first | done | rfl)); simp only [Act.put, List.setIfInBounds_toArray, List.set_cons_zero, List.set_cons_succ]))
        refine HavG.det (fun _ => rfl) (.bool mb) (fun x w hw _ => ?_) ?_
        · have HW := Lib.hid hw
          clear hw
          go_simp
          refine (HM.out _ HW.out).mono ?_
          rintro e w' ⟨rfl, hb⟩
          exact ⟨rfl, hb⟩
        simp only [Act.put, List.setIfInBounds_toArray, List.set_cons_zero, List.set_cons_succ]
        repeat (first
          | (refine HavG.skip (fun _ => rfl) ?_; simp only [Act.put, List.setIfInBounds_toArray, List.set_cons_zero, List.set_cons_succ])
          | (refine HavG.val (fun _ => rfl) ?_ (fun x w hw _ => ?_) ?_; rotate_left; (focus (have hc := hw.cells; clear hw; go_simp; first | done | rfl)); simp only [Act.put, List.setIfInBounds_toArray, List.set_cons_zero, List.set_cons_succ]))
        refine HavG.tail (by kernel_rfl) (by kernel_rfl) (fun x w hw _ => ?_)
        go_wp2
        go_ret
        exact ⟨by simp, HGR.out.trans hw⟩
      · have e3 : (k == 3) = false := beq_eq_false_iff_ne.2 hk3
        have e4 : (k == 4) = false := beq_eq_false_iff_ne.2 hk4
        go_enter Try.func77, Try.ntmps77
        go_wp2_with fail
        refine wp_region_hav_lit follows (by kernel_rfl) ?_
        repeat (first
          | (refine HavG.skip (fun _ => rfl) ?_; simp only [Act.put, List.setIfInBounds_toArray, List.set_cons_zero, List.set_cons_succ])
          | (refine HavG.val (fun _ => rfl) ?_ (fun x w hw _ => ?_) ?_; rotate_left; (focus (have hc := hw.cells; clear hw; go_simp; first | done | rfl)); simp only [Act.put, List.setIfInBounds_toArray, List.set_cons_zero, List.set_cons_succ]))
        refine HavG.tail (by kernel_rfl) (by kernel_rfl) (fun x w hw _ => ?_)
        go_wp2
        go_ret
        exact ⟨by simp [e3, e4], HGR.out.trans hw⟩
end Go.Proofs.Ytnopnihdobedcaa
