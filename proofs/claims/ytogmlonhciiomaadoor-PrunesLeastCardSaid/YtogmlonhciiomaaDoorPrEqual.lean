/- equal: are two automata the same? -/
import Derived.Test.YtogmlonhciiomaaDoorPrOther
namespace Go.Proofs.YtogmlonhciiomaaDoor
open Go.RowKit

/-- the document's automaton, as a value -/
def OtherR (a : Aut) (v : Value) (w : World) : Prop := ∃ u, v = .agg #[u] ∧ AutV .i64 w w.heap.size u a
theorem OtherR.keep {a : Aut} {v : Value} {w w' : World} (hg : Grew w w') (h : OtherR a v w) : OtherR a v w' := by
  obtain ⟨u, h1, h2⟩ := h
  exact ⟨u, h1, h2.grew hg⟩

set_option maxHeartbeats 2000000 in
set_option maxRecDepth 20000 in
theorem pequal_ok (a b : Aut) (ha : a.Few) (hb : b.Few) (hua : a.U8) (hub : b.U8) (W : World) (v u : Value) (hA : AutV .u8 W W.heap.size v a) (hB : AutV .u8 W W.heap.size u b) :
    Calls Tryd.prog 21 #[.agg #[v], .agg #[u]] W fun e W' => e = .returned (.bool (decide (a = b))) ∧ Grew W W' := by
  have HS : Hid (∀ w u', Grew W w → AutV .i64 w w.heap.size u' b → Calls Tryd.prog 17 #[.agg #[v], .agg #[u']] w fun e W' => e = .returned (.bool (decide (a = b))) ∧ Grew w W') :=
    Lib.hid fun w u' hg hu' => psame_ok a b ha hb hua w v u' (hA.grew hg) hu'
  have HO : Hid (∀ w, Grew W w → Calls Tryd.prog 9 #[.agg #[u]] w (OtherIs b w)) := Lib.hid fun w hg => potherA_ok b hb hub w u (hB.grew hg)
  obtain ⟨a1, c1, rfl, _, hA⟩ := hA
  obtain ⟨a2, c2, rfl, _, hB⟩ := hB
  obtain ⟨w1, hw1⟩ : ∃ w1, W.alloc (.cells #[.slice a1 a.length c1] 24) = w1 := ⟨_, rfl⟩
  obtain ⟨w2, hw2⟩ : ∃ w2, w1.alloc (.cells #[.slice a2 b.length c2] 24) = w2 := ⟨_, rfl⟩
  have z1 : w1.heap.size = W.heap.size + 1 := by rw [← hw1]; simp
  have g1 : Grew W w1 := hw1 ▸ grew_alloc W _
  have g2 : Grew w1 w2 := hw2 ▸ grew_alloc w1 _
  have o1 : Owns w2 W.heap.size [.slice a1 a.length c1] 24 := (hw1 ▸ Owns.alloc W _ _ : Owns w1 W.heap.size [.slice a1 a.length c1] 24).keep g2
  have o2 : Owns w2 (W.heap.size + 1) [.slice a2 b.length c2] 24 := z1 ▸ hw2 ▸ Owns.alloc w1 _ _
  have q0 := o1.cell_at (i := 0) rfl
  have q1 := o2.cell_at (i := 0) rfl
  have l1 := o1.lt
  have l2 := o2.lt
  have HG := Lib.hid (g1.trans g2)
  clear g1 g2 o1 o2 hA hB ha hb hua hub
  go_enter Tryd.func21, Tryd.ntmps21
  go_wp2_with fail
  refine wp_region_hav_lit follows (by kernel_rfl) ?_
  repeat (first
    | (refine HavG.skip (fun _ => rfl) ?_; simp only [Act.put, List.setIfInBounds_toArray, List.set_cons_zero, List.set_cons_succ])
    | (refine HavG.val (fun _ => rfl) ?_ (fun x w hw _ => ?_) ?_; rotate_left; (focus (have hc := hw.cells; clear hw; go_simp; first | done | rfl)); simp only [Act.put, List.setIfInBounds_toArray, List.set_cons_zero, List.set_cons_succ]))
  refine HavG.any (fun _ => rfl) (OtherR b) (fun _ _ _ hg h => h.keep hg) (fun x w hw _ => ?_) ?_
  · have HC := Lib.hid (HO.out w (HG.out.trans hw))
    clear hw
    go_simp
    refine HC.out.mono ?_
    rintro e w' ⟨v, rfl, hv, hb⟩
    exact ⟨hb, v, rfl, hv⟩
  simp only [Act.put, List.setIfInBounds_toArray, List.set_cons_zero, List.set_cons_succ]
  refine HavG.det (fun _ => rfl) (.bool (decide (a = b))) (fun x w hw hd => ?_) ?_
  · have hd2 := hd _ (List.mem_append_right _ (List.mem_singleton.2 rfl)) (by kernel_rfl)
    dsimp only at hd2
    clear hd
    generalize x (0 + 1 + 1) = y2 at *
    obtain ⟨u', rfl, hu'⟩ := hd2
    have HC := Lib.hid (HS.out w u' (HG.out.trans hw) hu')
    clear hw hu'
    go_simp
    refine HC.out.mono ?_
    rintro e w' ⟨rfl, hb⟩
    exact ⟨rfl, hb⟩
  simp only [Act.put, List.setIfInBounds_toArray, List.set_cons_zero, List.set_cons_succ]
  refine HavG.tail (by kernel_rfl) (by kernel_rfl) (fun x w3 hw _ => ?_)
  generalize x (0 + 1 + 1) = y2 at *
  have HW := Lib.hid hw
  clear hw
  go_wp2_with fail
  go_ret
  exact ⟨rfl, HG.out.trans HW.out⟩
end Go.Proofs.YtogmlonhciiomaaDoor
