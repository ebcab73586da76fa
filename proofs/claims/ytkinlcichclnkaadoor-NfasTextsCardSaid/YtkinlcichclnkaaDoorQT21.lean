/- joined, either: parts put together. -/
import Derived.Test.YtkinlcichclnkaaDoorQT20
namespace Go.Proofs.YtkinlcichclnkaaDoor
open Go.RowKit

theorem wrAtN_mid : ∀ (vs old pre post : List Value), old.length = vs.length → wrAtN (pre ++ (old ++ post)) pre.length vs = pre ++ (vs ++ post)
  | [], old, pre, post, h => by
    have : old = [] := List.eq_nil_of_length_eq_zero h
    rw [this]
    rfl
  | v :: r, [], pre, post, h => by simp at h
  | v :: r, x :: old, pre, post, h => by
    have e : (pre ++ (x :: old ++ post)).set pre.length v = pre ++ (v :: old ++ post) := by
      rw [List.set_append_right _ _ (Nat.le_refl _), Nat.sub_self]
      rfl
    rw [wrAtN, e]
    have := wrAtN_mid r old (pre ++ [v]) post (by simpa using h)
    rw [List.append_assoc, List.length_append] at this
    simpa using this
theorem part_set_first (x : NPart) (q : Nat) : wrAtN (partL x) 0 (wdL q) = partL { x with first := q } := by
  have := wrAtN_mid (wdL q) (wdL x.first) [] (wdL x.last ++ [.bool x.empty]) (by rw [wdL_len, wdL_len])
  simpa [partL] using this
theorem part_set_last (x : NPart) (q : Nat) : wrAtN (partL x) 64 (wdL q) = partL { x with last := q } := by
  have := wrAtN_mid (wdL q) (wdL x.last) (wdL x.first) [.bool x.empty] (by rw [wdL_len, wdL_len])
  rw [wdL_len] at this
  exact this
theorem exec_build_ends {ev : Operand → Value} {o : Oper} {w : World} {a c : Nat} {x y : Operand} (ho : o.op = .build 68 #[(0, x), (1, y)]) (hx : ev x = wdV a) (hy : ev y = wdV c) : (execOp ev o).run Tryd.prog w = .ok (.value (endsV a c)) w := by
  unfold execOp
  simp only [ho, List.map_toArray, List.map_cons, List.map_nil, hx, hy, Sem.run_bind, run_build_ends, Result.andThen_ok, Sem.run_pure]
theorem exec_build_part {ev : Operand → Value} {o : Oper} {w : World} {a c : Nat} {e : Bool} {x y : Operand} (ho : o.op = .build 70 #[(1, x), (0, y)]) (hx : ev x = .bool e) (hy : ev y = endsV a c) : (execOp ev o).run Tryd.prog w = .ok (.value (partV ⟨a, c, e⟩)) w := by
  unfold execOp
  simp only [ho, List.map_toArray, List.map_cons, List.map_nil, hx, hy, Sem.run_bind, run_build_part', Result.andThen_ok, Sem.run_pure]
theorem exec_build_part2 {ev : Operand → Value} {o : Oper} {w : World} {a c : Nat} {e : Bool} {x y : Operand} (ho : o.op = .build 70 #[(0, x), (1, y)]) (hx : ev x = endsV a c) (hy : ev y = .bool e) : (execOp ev o).run Tryd.prog w = .ok (.value (partV ⟨a, c, e⟩)) w := by
  unfold execOp
  simp only [ho, List.map_toArray, List.map_cons, List.map_nil, hx, hy, Sem.run_bind, run_build_part, Result.andThen_ok, Sem.run_pure]
/-- three boxes for parts -/
structure Box3 (W w : World) (x y : NPart) : Prop where
  grew : Grew W w
  o1 : Owns w W.heap.size (partL x) 70
  o2 : Owns w (W.heap.size + 1) (partL y) 70
  o3 : Owns w (W.heap.size + 1 + 1) (partL ⟨0, 0, false⟩) 70
theorem box3 (W : World) (x y : NPart) : Box3 W (((W.alloc (.cells (partL x).toArray 70)).alloc (.cells (partL y).toArray 70)).alloc (.cells Tryd.zeroCells70 70)) x y := by
  have h1 := grew_alloc W (.cells (partL x).toArray 70)
  have h2 := grew_alloc (W.alloc (.cells (partL x).toArray 70)) (.cells (partL y).toArray 70)
  have h3 := grew_alloc ((W.alloc (.cells (partL x).toArray 70)).alloc (.cells (partL y).toArray 70)) (.cells Tryd.zeroCells70 70)
  have e1 := Owns.alloc W (partL x) 70
  have e2 := Owns.alloc (W.alloc (.cells (partL x).toArray 70)) (partL y) 70
  have e3 := zpart_owns ((W.alloc (.cells (partL x).toArray 70)).alloc (.cells (partL y).toArray 70))
  simp only [World.size_alloc] at e2 e3
  exact ⟨(h1.trans h2).trans h3, (e1.keep h2).keep h3, e2.keep h3, e3⟩
set_option maxHeartbeats 4000000 in
set_option maxRecDepth 20000 in
theorem neither_ok (W : World) (x y : NPart) (hy : y.In 4096) : Calls Tryd.prog 32 #[partV x, partV y] W fun e W' => e = .returned (partV (eitherN x y)) ∧ Grew W W' := by
  have hB := box3 W x y
  obtain ⟨w2, hw2⟩ : ∃ w2, ((W.alloc (.cells (partL x).toArray 70)).alloc (.cells (partL y).toArray 70)).alloc (.cells Tryd.zeroCells70 70) = w2 := ⟨_, rfl⟩
  rw [hw2] at hB
  have HF := Lib.hid fun w => nwith_ok x.first y.first hy.1 w
  have HL := Lib.hid fun w => nwith_ok x.last y.last hy.2 w
  have H1 := Lib.hid (part_first hB.o1)
  have H2 := Lib.hid (part_last hB.o1)
  have H3 := Lib.hid (part_first hB.o2)
  have H4 := Lib.hid (part_last hB.o2)
  have l1 := hB.o1.lt
  have l2 := hB.o2.lt
  have c1 := part_empty hB.o1
  have c2 := part_empty hB.o2
  have HB := Lib.hid hB
  clear hB hy
  obtain ⟨xf, xl, xe⟩ := x
  obtain ⟨yf, yl, ye⟩ := y
  dsimp only at *
  unfold partV
  go_enter Tryd.func32, Tryd.ntmps32
  go_upto_region 1 with fail
  clear hw2
  cases xe
  · refine wp_region_hav_lit follows (by kernel_rfl) ?_
    iterate 2 (first
      | (refine HavG.skip (fun _ => rfl) ?_; simp only [Act.put, List.setIfInBounds_toArray, List.set_cons_zero, List.set_cons_succ])
      | (refine HavG.val (fun _ => rfl) ?_ (fun x w hw _ => ?_) ?_; rotate_left; (focus (have hc := hw.cells; clear hw; go_simp; first | done | rfl)); simp only [Act.put, List.setIfInBounds_toArray, List.set_cons_zero, List.set_cons_succ]))
    refine HavG.val (fun _ => rfl) (wdV xf) (fun _ w hw _ => exec_load_at (fun j v hv => by rw [hw.cells _ _ l1]; exact H1.out j v hv) rfl rfl) ?_
    simp only [Act.put, List.setIfInBounds_toArray, List.set_cons_zero, List.set_cons_succ]
    iterate 2 (first
      | (refine HavG.skip (fun _ => rfl) ?_; simp only [Act.put, List.setIfInBounds_toArray, List.set_cons_zero, List.set_cons_succ])
      | (refine HavG.val (fun _ => rfl) ?_ (fun x w hw _ => ?_) ?_; rotate_left; (focus (have hc := hw.cells; clear hw; go_simp; first | done | rfl)); simp only [Act.put, List.setIfInBounds_toArray, List.set_cons_zero, List.set_cons_succ]))
    refine HavG.val (fun _ => rfl) (wdV yf) (fun _ w hw _ => exec_load_at (fun j v hv => by rw [hw.cells _ _ l2]; exact H3.out j v hv) rfl rfl) ?_
    simp only [Act.put, List.setIfInBounds_toArray, List.set_cons_zero, List.set_cons_succ]
    refine HavG.det (fun _ => rfl) (wdV (xf ||| yf)) (fun _ w' hw hd => ?_) ?_
    · clear hd hw
      go_simp
      refine (HF.out w').mono ?_
      rintro e w6 ⟨rfl, hg⟩
      exact ⟨rfl, hg⟩
    simp only [Act.put, List.setIfInBounds_toArray, List.set_cons_zero, List.set_cons_succ]
    iterate 2 (first
      | (refine HavG.skip (fun _ => rfl) ?_; simp only [Act.put, List.setIfInBounds_toArray, List.set_cons_zero, List.set_cons_succ])
      | (refine HavG.val (fun _ => rfl) ?_ (fun x w hw _ => ?_) ?_; rotate_left; (focus (have hc := hw.cells; clear hw; go_simp; first | done | rfl)); simp only [Act.put, List.setIfInBounds_toArray, List.set_cons_zero, List.set_cons_succ]))
    refine HavG.val (fun _ => rfl) (wdV xl) (fun _ w hw _ => exec_load_at (fun j v hv => by rw [hw.cells _ _ l1]; exact H2.out j v hv) rfl rfl) ?_
    simp only [Act.put, List.setIfInBounds_toArray, List.set_cons_zero, List.set_cons_succ]
    iterate 2 (first
      | (refine HavG.skip (fun _ => rfl) ?_; simp only [Act.put, List.setIfInBounds_toArray, List.set_cons_zero, List.set_cons_succ])
      | (refine HavG.val (fun _ => rfl) ?_ (fun x w hw _ => ?_) ?_; rotate_left; (focus (have hc := hw.cells; clear hw; go_simp; first | done | rfl)); simp only [Act.put, List.setIfInBounds_toArray, List.set_cons_zero, List.set_cons_succ]))
    refine HavG.val (fun _ => rfl) (wdV yl) (fun _ w hw _ => exec_load_at (fun j v hv => by rw [hw.cells _ _ l2]; exact H4.out j v hv) rfl rfl) ?_
    simp only [Act.put, List.setIfInBounds_toArray, List.set_cons_zero, List.set_cons_succ]
    refine HavG.det (fun _ => rfl) (wdV (xl ||| yl)) (fun _ w' hw hd => ?_) ?_
    · clear hd hw
      go_simp
      refine (HL.out w').mono ?_
      rintro e w6 ⟨rfl, hg⟩
      exact ⟨rfl, hg⟩
    simp only [Act.put, List.setIfInBounds_toArray, List.set_cons_zero, List.set_cons_succ]
    refine HavG.val (fun _ => rfl) (endsV (xf ||| yf) (xl ||| yl)) (fun _ _ _ _ => exec_build_ends rfl rfl rfl) ?_
    simp only [Act.put, List.setIfInBounds_toArray, List.set_cons_zero, List.set_cons_succ]
    iterate 6 (first
      | (refine HavG.skip (fun _ => rfl) ?_; simp only [Act.put, List.setIfInBounds_toArray, List.set_cons_zero, List.set_cons_succ])
      | (refine HavG.val (fun _ => rfl) ?_ (fun x w hw _ => ?_) ?_; rotate_left; (focus (have hc := hw.cells; clear hw; go_simp; first | done | rfl)); simp only [Act.put, List.setIfInBounds_toArray, List.set_cons_zero, List.set_cons_succ]))
    refine HavG.val (fun _ => rfl) (partV ⟨xf ||| yf, xl ||| yl, ye⟩) (fun _ _ _ _ => exec_build_part2 rfl rfl rfl) ?_
    simp only [Act.put, List.setIfInBounds_toArray, List.set_cons_zero, List.set_cons_succ]
    refine HavG.tail (by kernel_rfl) (by kernel_rfl) (fun _ w3 hw3 _ => ?_)
    have G3 := Lib.hid (HB.out.grew.trans hw3)
    refine wpList_store_part (HB.out.o3.keep hw3) rfl _ _ rfl rfl rfl ?_
    intro w4 o4 b4
    simp only [Act.put]
    have O4 := Lib.hid o4
    have G4 := Lib.hid (G3.out.butN b4 (by omega))
    clear o4 b4 hw3
    go_wp2_with fail
    exact bodyPost_ret (ret_part rfl _ O4.out rfl) rfl ⟨rfl, G4.out⟩
  · refine wp_region_hav_lit follows (by kernel_rfl) ?_
    iterate 2 (first
      | (refine HavG.skip (fun _ => rfl) ?_; simp only [Act.put, List.setIfInBounds_toArray, List.set_cons_zero, List.set_cons_succ])
      | (refine HavG.val (fun _ => rfl) ?_ (fun x w hw _ => ?_) ?_; rotate_left; (focus (have hc := hw.cells; clear hw; go_simp; first | done | rfl)); simp only [Act.put, List.setIfInBounds_toArray, List.set_cons_zero, List.set_cons_succ]))
    refine HavG.val (fun _ => rfl) (wdV xf) (fun _ w hw _ => exec_load_at (fun j v hv => by rw [hw.cells _ _ l1]; exact H1.out j v hv) rfl rfl) ?_
    simp only [Act.put, List.setIfInBounds_toArray, List.set_cons_zero, List.set_cons_succ]
    iterate 2 (first
      | (refine HavG.skip (fun _ => rfl) ?_; simp only [Act.put, List.setIfInBounds_toArray, List.set_cons_zero, List.set_cons_succ])
      | (refine HavG.val (fun _ => rfl) ?_ (fun x w hw _ => ?_) ?_; rotate_left; (focus (have hc := hw.cells; clear hw; go_simp; first | done | rfl)); simp only [Act.put, List.setIfInBounds_toArray, List.set_cons_zero, List.set_cons_succ]))
    refine HavG.val (fun _ => rfl) (wdV yf) (fun _ w hw _ => exec_load_at (fun j v hv => by rw [hw.cells _ _ l2]; exact H3.out j v hv) rfl rfl) ?_
    simp only [Act.put, List.setIfInBounds_toArray, List.set_cons_zero, List.set_cons_succ]
    refine HavG.det (fun _ => rfl) (wdV (xf ||| yf)) (fun _ w' hw hd => ?_) ?_
    · clear hd hw
      go_simp
      refine (HF.out w').mono ?_
      rintro e w6 ⟨rfl, hg⟩
      exact ⟨rfl, hg⟩
    simp only [Act.put, List.setIfInBounds_toArray, List.set_cons_zero, List.set_cons_succ]
    iterate 2 (first
      | (refine HavG.skip (fun _ => rfl) ?_; simp only [Act.put, List.setIfInBounds_toArray, List.set_cons_zero, List.set_cons_succ])
      | (refine HavG.val (fun _ => rfl) ?_ (fun x w hw _ => ?_) ?_; rotate_left; (focus (have hc := hw.cells; clear hw; go_simp; first | done | rfl)); simp only [Act.put, List.setIfInBounds_toArray, List.set_cons_zero, List.set_cons_succ]))
    refine HavG.val (fun _ => rfl) (wdV xl) (fun _ w hw _ => exec_load_at (fun j v hv => by rw [hw.cells _ _ l1]; exact H2.out j v hv) rfl rfl) ?_
    simp only [Act.put, List.setIfInBounds_toArray, List.set_cons_zero, List.set_cons_succ]
    iterate 2 (first
      | (refine HavG.skip (fun _ => rfl) ?_; simp only [Act.put, List.setIfInBounds_toArray, List.set_cons_zero, List.set_cons_succ])
      | (refine HavG.val (fun _ => rfl) ?_ (fun x w hw _ => ?_) ?_; rotate_left; (focus (have hc := hw.cells; clear hw; go_simp; first | done | rfl)); simp only [Act.put, List.setIfInBounds_toArray, List.set_cons_zero, List.set_cons_succ]))
    refine HavG.val (fun _ => rfl) (wdV yl) (fun _ w hw _ => exec_load_at (fun j v hv => by rw [hw.cells _ _ l2]; exact H4.out j v hv) rfl rfl) ?_
    simp only [Act.put, List.setIfInBounds_toArray, List.set_cons_zero, List.set_cons_succ]
    refine HavG.det (fun _ => rfl) (wdV (xl ||| yl)) (fun _ w' hw hd => ?_) ?_
    · clear hd hw
      go_simp
      refine (HL.out w').mono ?_
      rintro e w6 ⟨rfl, hg⟩
      exact ⟨rfl, hg⟩
    simp only [Act.put, List.setIfInBounds_toArray, List.set_cons_zero, List.set_cons_succ]
    refine HavG.val (fun _ => rfl) (endsV (xf ||| yf) (xl ||| yl)) (fun _ _ _ _ => exec_build_ends rfl rfl rfl) ?_
    simp only [Act.put, List.setIfInBounds_toArray, List.set_cons_zero, List.set_cons_succ]
    iterate 6 (first
      | (refine HavG.skip (fun _ => rfl) ?_; simp only [Act.put, List.setIfInBounds_toArray, List.set_cons_zero, List.set_cons_succ])
      | (refine HavG.val (fun _ => rfl) ?_ (fun x w hw _ => ?_) ?_; rotate_left; (focus (have hc := hw.cells; clear hw; go_simp; first | done | rfl)); simp only [Act.put, List.setIfInBounds_toArray, List.set_cons_zero, List.set_cons_succ]))
    refine HavG.val (fun _ => rfl) (partV ⟨xf ||| yf, xl ||| yl, true⟩) (fun _ _ _ _ => exec_build_part2 rfl rfl rfl) ?_
    simp only [Act.put, List.setIfInBounds_toArray, List.set_cons_zero, List.set_cons_succ]
    refine HavG.tail (by kernel_rfl) (by kernel_rfl) (fun _ w3 hw3 _ => ?_)
    have G3 := Lib.hid (HB.out.grew.trans hw3)
    refine wpList_store_part (HB.out.o3.keep hw3) rfl _ _ rfl rfl rfl ?_
    intro w4 o4 b4
    simp only [Act.put]
    have O4 := Lib.hid o4
    have G4 := Lib.hid (G3.out.butN b4 (by omega))
    clear o4 b4 hw3
    go_wp2_with fail
    exact bodyPost_ret (ret_part rfl _ O4.out rfl) rfl ⟨rfl, G4.out⟩
set_option maxHeartbeats 8000000 in
set_option maxRecDepth 20000 in
theorem njoined_ok (W : World) (lim : Nat) (g0 g1 g2 g3 : Value) (kind : Int) (V : NBV) (b : NB) (hN : NBAt W lim g0 g1 g2 g3 kind V b) (hb : b.Ok) (x y : NPart) (hx : x.In b.out.length) (hy : y.In b.out.length) (hT : BruAt W) (hl0 : 0 < lim) :
    Calls Tryd.prog 33 #[.pointer (some ⟨V.bb, 0, none⟩), partV x, partV y] W fun e W' => e = .returned (partV (joinP x y)) ∧ NBAt W' lim g0 g1 g2 g3 kind V (b.follow x.last y.first) ∧ KpF lim W W' := by
  have hB := box3 W x y
  obtain ⟨w2, hw2⟩ : ∃ w2, ((W.alloc (.cells (partL x).toArray 70)).alloc (.cells (partL y).toArray 70)).alloc (.cells Tryd.zeroCells70 70) = w2 := ⟨_, rfl⟩
  rw [hw2] at hB
  have hN2 := hN.grew hB.grew
  have HF := Lib.hid (nfollow_ok w2 lim g0 g1 g2 g3 kind V b hN2 hb x.last y.first hx.2 hy.1 (hT.grew hB.grew) hl0)
  have hy4 : y.In 4096 := hy.mono hb.few
  have HWF := Lib.hid fun w => nwith_ok x.first y.first hy4.1 w
  have HWL := Lib.hid fun w => nwith_ok x.last y.last hy4.2 w
  have P1 := Lib.hid hB.o1
  have P2 := Lib.hid hB.o2
  have P3 := Lib.hid hB.o3
  have HG2 := Lib.hid hB.grew
  have HLW := Lib.hid hN.low
  have hl1 := hB.o1.lt
  clear hN hN2 hB hT hx hy hy4
  obtain ⟨xf, xl, xe⟩ := x
  obtain ⟨yf, yl, ye⟩ := y
  dsimp only at *
  unfold partV
  go_enter Tryd.func33, Tryd.ntmps33
  go_wp2_with (first
    | (refine wpList_runV rfl (wdV xl) (exec_load_at (part_last P1.out) rfl rfl) ?_; simp only [Act.put, List.setIfInBounds_toArray, List.set_cons_zero, List.set_cons_succ])
    | (refine wpList_runV rfl (wdV yf) (exec_load_at (part_first P2.out) rfl rfl) ?_; simp only [Act.put, List.setIfInBounds_toArray, List.set_cons_zero, List.set_cons_succ]))
  clear hw2 hl1
  refine HF.out.mono ?_
  rintro e w3 ⟨⟨v, rfl⟩, hN3, hK3⟩
  have O1 := Lib.hid (hK3.owns P1.out (by unfold BldT; decide))
  have O2 := Lib.hid (hK3.owns P2.out (by unfold BldT; decide))
  have O3 := Lib.hid (hK3.owns P3.out (by unfold BldT; decide))
  have HN3 := Lib.hid hN3
  have HK3 := Lib.hid ((KpF.grew HG2.out HLW.out).trans hK3)
  clear hN3 hK3 HF P1 P2 P3
  obtain ⟨w4, hw4⟩ : ∃ w4, w3.alloc (.cells Tryd.zeroCells70 70) = w4 := ⟨_, rfl⟩
  have g4 : Grew w3 w4 := hw4 ▸ grew_alloc w3 _
  have O4 := Lib.hid (show Owns w4 w3.heap.size (partL ⟨0, 0, false⟩) 70 from hw4 ▸ zpart_owns w3)
  have hz : W.heap.size + 1 + 1 < w3.heap.size := O3.out.lt
  have HZ := Lib.hid hz
  have Q1 := Lib.hid (O1.out.keep g4)
  have Q2 := Lib.hid (O2.out.keep g4)
  have Q3 := Lib.hid (O3.out.keep g4)
  have HN4 := Lib.hid (HN3.out.grew g4)
  have HK4 := Lib.hid (HK3.out.trans (KpF.grew g4 HN3.out.low))
  have c1 := part_empty O1.out
  have c2 := part_empty O2.out
  have l1 := O1.out.lt
  have l2 := O2.out.lt
  clear g4
  obtain ⟨z, hzz⟩ : ∃ z, w3.heap.size = z := ⟨_, rfl⟩
  rw [hzz] at O4 HZ hz
  dsimp only at c1 c2
  cases xe
  · cases ye
    · go_upto_region 7 with (first
        | (refine wpList_runV rfl (wdV xf) (exec_load_at (part_first O1.out) rfl rfl) ?_; simp only [Act.put, List.setIfInBounds_toArray, List.set_cons_zero, List.set_cons_succ])
        | (refine wpList_runV rfl (wdV yl) (exec_load_at (part_last O2.out) rfl rfl) ?_; simp only [Act.put, List.setIfInBounds_toArray, List.set_cons_zero, List.set_cons_succ])
        | (refine wpList_runV rfl (endsV xf yl) (exec_build_ends rfl rfl rfl) ?_; simp only [Act.put, List.setIfInBounds_toArray, List.set_cons_zero, List.set_cons_succ])
        | (refine wpList_runV rfl (partV ⟨xf, yl, false⟩) (exec_build_part rfl rfl rfl) ?_; simp only [Act.put, List.setIfInBounds_toArray, List.set_cons_zero, List.set_cons_succ])
        | (refine wpList_store_part O4.out rfl _ _ rfl rfl rfl ?_; intro w5 o5 b5; have R1 := Lib.hid (b5.owns Q1.out (by have := HZ.out; omega)); have R2 := Lib.hid (b5.owns Q2.out (by have := HZ.out; omega)); have R3 := Lib.hid (b5.owns Q3.out (by have := HZ.out; omega)); have RZ := Lib.hid o5; have HN5 := Lib.hid (HN4.out.other O4.out (by unfold BldT; decide) (by decide) b5); have HK5 := Lib.hid (HK4.out.fresh b5 (by have := HZ.out; omega) HLW.out); clear o5 b5 c1 c2 l1 l2; have c1 := part_empty R1.out; have c2 := part_empty R2.out; have l1 := R1.out.lt; have l2 := R2.out.lt; dsimp only at c1 c2; simp only [Act.put]))
      apply wp_region_lit
      refine wpList_load_part RZ.out rfl _ rfl rfl ?_
      simp only [Act.put, List.setIfInBounds_toArray, List.set_cons_zero, List.set_cons_succ]
      refine wpList_store_part R3.out rfl _ _ rfl rfl rfl ?_
      intro w9 o9 b9
      simp only [Act.put]
      have O9 := Lib.hid o9
      have HN9 := Lib.hid (HN5.out.other R3.out (by unfold BldT; decide) (by decide) b9)
      have HK9 := Lib.hid (HK5.out.fresh b9 (by omega) HLW.out)
      clear o9 b9
      go_wp2_with fail
      exact bodyPost_ret (ret_part rfl _ O9.out rfl) rfl ⟨rfl, HN9.out, HK9.out⟩
    · go_wp2_with (first
        | (refine wpList_runV rfl (wdV xf) (exec_load_at (part_first O1.out) rfl rfl) ?_; simp only [Act.put, List.setIfInBounds_toArray, List.set_cons_zero, List.set_cons_succ])
        | (refine wpList_runV rfl (wdV yl) (exec_load_at (part_last O2.out) rfl rfl) ?_; simp only [Act.put, List.setIfInBounds_toArray, List.set_cons_zero, List.set_cons_succ])
        | (refine wpList_runV rfl (endsV xf yl) (exec_build_ends rfl rfl rfl) ?_; simp only [Act.put, List.setIfInBounds_toArray, List.set_cons_zero, List.set_cons_succ])
        | (refine wpList_runV rfl (partV ⟨xf, yl, false⟩) (exec_build_part rfl rfl rfl) ?_; simp only [Act.put, List.setIfInBounds_toArray, List.set_cons_zero, List.set_cons_succ])
        | (refine wpList_store_part O4.out rfl _ _ rfl rfl rfl ?_; intro w5 o5 b5; have R1 := Lib.hid (b5.owns Q1.out (by have := HZ.out; omega)); have R2 := Lib.hid (b5.owns Q2.out (by have := HZ.out; omega)); have R3 := Lib.hid (b5.owns Q3.out (by have := HZ.out; omega)); have RZ := Lib.hid o5; have HN5 := Lib.hid (HN4.out.other O4.out (by unfold BldT; decide) (by decide) b5); have HK5 := Lib.hid (HK4.out.fresh b5 (by have := HZ.out; omega) HLW.out); clear o5 b5 c1 c2 l1 l2; have c1 := part_empty R1.out; have c2 := part_empty R2.out; have l1 := R1.out.lt; have l2 := R2.out.lt; dsimp only at c1 c2; simp only [Act.put])
        | (refine wpList_runV rfl (wdV xl) (exec_load_at (part_last R1.out) rfl rfl) ?_; simp only [Act.put, List.setIfInBounds_toArray, List.set_cons_zero, List.set_cons_succ])
        | (refine wpList_runV rfl (wdV yl) (exec_load_at (part_last R2.out) rfl rfl) ?_; simp only [Act.put, List.setIfInBounds_toArray, List.set_cons_zero, List.set_cons_succ]))
      refine (HWL.out _).mono ?_
      rintro e w6 ⟨rfl, hg⟩
      have S1 := Lib.hid (R1.out.keep hg)
      have S2 := Lib.hid (R2.out.keep hg)
      have S3 := Lib.hid (R3.out.keep hg)
      have SZ := Lib.hid (RZ.out.keep hg)
      have HNs := Lib.hid (HN5.out.grew hg)
      have HKs := Lib.hid (HK5.out.trans (KpF.grew hg HN5.out.low))
      clear hg c1 c2 l1 l2
      have bz := setCells_butN (wdL (xl ||| yl)) 64 w6 _ SZ.out
      have oz := Owns.setCellsN (wdL (xl ||| yl)) 64 w6 _ SZ.out
      rw [part_set_last] at oz
      obtain ⟨w7, hw7⟩ : ∃ w, w6.setCells z 64 (wdL (xl ||| yl)) = w := ⟨_, rfl⟩
      rw [hw7] at bz oz
      have T1 := Lib.hid (bz.owns S1.out (by have := HZ.out; omega))
      have T2 := Lib.hid (bz.owns S2.out (by have := HZ.out; omega))
      have T3 := Lib.hid (bz.owns S3.out (by have := HZ.out; omega))
      have TZ := Lib.hid oz
      have HNt := Lib.hid (HNs.out.other SZ.out (by unfold BldT; decide) (by decide) bz)
      have HKt := Lib.hid (HKs.out.fresh bz (by have := HZ.out; omega) HLW.out)
      have fz := SZ.out
      have cz := part_last SZ.out
      have c1 := part_empty T1.out
      have c2 := part_empty T2.out
      have l1 := T1.out.lt
      have l2 := T2.out.lt
      dsimp only at c1 c2
      clear bz oz
      go_upto_region 7 with (first
        | (refine wpList_run_skip rfl (exec_store_at (s := xl ||| yl) (b := z) (off := 64) (fun j hj => by rw [cz j _ (wdL_get _ hj)]; rfl) (fun j hj => fz.free _) rfl rfl rfl) ?_; simp only [Act.put]; rw [hw7]))
      apply wp_region_lit
      refine wpList_load_part TZ.out rfl _ rfl rfl ?_
      simp only [Act.put, List.setIfInBounds_toArray, List.set_cons_zero, List.set_cons_succ]
      refine wpList_store_part T3.out rfl _ _ rfl rfl rfl ?_
      intro w9 o9 b9
      simp only [Act.put]
      have O9 := Lib.hid o9
      have HN9 := Lib.hid (HNt.out.other T3.out (by unfold BldT; decide) (by decide) b9)
      have HK9 := Lib.hid (HKt.out.fresh b9 (by omega) HLW.out)
      clear o9 b9
      go_wp2_with fail
      exact bodyPost_ret (ret_part rfl _ O9.out rfl) rfl ⟨rfl, HN9.out, HK9.out⟩
  · cases ye
    · go_wp2_with (first
        | (refine wpList_runV rfl (wdV xf) (exec_load_at (part_first O1.out) rfl rfl) ?_; simp only [Act.put, List.setIfInBounds_toArray, List.set_cons_zero, List.set_cons_succ])
        | (refine wpList_runV rfl (wdV yl) (exec_load_at (part_last O2.out) rfl rfl) ?_; simp only [Act.put, List.setIfInBounds_toArray, List.set_cons_zero, List.set_cons_succ])
        | (refine wpList_runV rfl (endsV xf yl) (exec_build_ends rfl rfl rfl) ?_; simp only [Act.put, List.setIfInBounds_toArray, List.set_cons_zero, List.set_cons_succ])
        | (refine wpList_runV rfl (partV ⟨xf, yl, false⟩) (exec_build_part rfl rfl rfl) ?_; simp only [Act.put, List.setIfInBounds_toArray, List.set_cons_zero, List.set_cons_succ])
        | (refine wpList_store_part O4.out rfl _ _ rfl rfl rfl ?_; intro w5 o5 b5; have R1 := Lib.hid (b5.owns Q1.out (by have := HZ.out; omega)); have R2 := Lib.hid (b5.owns Q2.out (by have := HZ.out; omega)); have R3 := Lib.hid (b5.owns Q3.out (by have := HZ.out; omega)); have RZ := Lib.hid o5; have HN5 := Lib.hid (HN4.out.other O4.out (by unfold BldT; decide) (by decide) b5); have HK5 := Lib.hid (HK4.out.fresh b5 (by have := HZ.out; omega) HLW.out); clear o5 b5 c1 c2 l1 l2; have c1 := part_empty R1.out; have c2 := part_empty R2.out; have l1 := R1.out.lt; have l2 := R2.out.lt; dsimp only at c1 c2; simp only [Act.put])
        | (refine wpList_runV rfl (wdV xf) (exec_load_at (part_first R1.out) rfl rfl) ?_; simp only [Act.put, List.setIfInBounds_toArray, List.set_cons_zero, List.set_cons_succ])
        | (refine wpList_runV rfl (wdV yf) (exec_load_at (part_first R2.out) rfl rfl) ?_; simp only [Act.put, List.setIfInBounds_toArray, List.set_cons_zero, List.set_cons_succ]))
      refine (HWF.out _).mono ?_
      rintro e w6 ⟨rfl, hg⟩
      have S1 := Lib.hid (R1.out.keep hg)
      have S2 := Lib.hid (R2.out.keep hg)
      have S3 := Lib.hid (R3.out.keep hg)
      have SZ := Lib.hid (RZ.out.keep hg)
      have HNs := Lib.hid (HN5.out.grew hg)
      have HKs := Lib.hid (HK5.out.trans (KpF.grew hg HN5.out.low))
      clear hg c1 c2 l1 l2
      have bz := setCells_butN (wdL (xf ||| yf)) 0 w6 _ SZ.out
      have oz := Owns.setCellsN (wdL (xf ||| yf)) 0 w6 _ SZ.out
      rw [part_set_first] at oz
      obtain ⟨w7, hw7⟩ : ∃ w, w6.setCells z 0 (wdL (xf ||| yf)) = w := ⟨_, rfl⟩
      rw [hw7] at bz oz
      have T1 := Lib.hid (bz.owns S1.out (by have := HZ.out; omega))
      have T2 := Lib.hid (bz.owns S2.out (by have := HZ.out; omega))
      have T3 := Lib.hid (bz.owns S3.out (by have := HZ.out; omega))
      have TZ := Lib.hid oz
      have HNt := Lib.hid (HNs.out.other SZ.out (by unfold BldT; decide) (by decide) bz)
      have HKt := Lib.hid (HKs.out.fresh bz (by have := HZ.out; omega) HLW.out)
      have fz := SZ.out
      have cz := part_first SZ.out
      have c1 := part_empty T1.out
      have c2 := part_empty T2.out
      have l1 := T1.out.lt
      have l2 := T2.out.lt
      dsimp only at c1 c2
      clear bz oz
      go_upto_region 7 with (first
        | (refine wpList_run_skip rfl (exec_store_at (s := xf ||| yf) (b := z) (off := 0) (fun j hj => by rw [cz j _ (wdL_get _ hj)]; rfl) (fun j hj => fz.free _) rfl rfl rfl) ?_; simp only [Act.put]; rw [hw7]))
      apply wp_region_lit
      refine wpList_load_part TZ.out rfl _ rfl rfl ?_
      simp only [Act.put, List.setIfInBounds_toArray, List.set_cons_zero, List.set_cons_succ]
      refine wpList_store_part T3.out rfl _ _ rfl rfl rfl ?_
      intro w9 o9 b9
      simp only [Act.put]
      have O9 := Lib.hid o9
      have HN9 := Lib.hid (HNt.out.other T3.out (by unfold BldT; decide) (by decide) b9)
      have HK9 := Lib.hid (HKt.out.fresh b9 (by omega) HLW.out)
      clear o9 b9
      go_wp2_with fail
      exact bodyPost_ret (ret_part rfl _ O9.out rfl) rfl ⟨rfl, HN9.out, HK9.out⟩
    · go_wp2_with (first
        | (refine wpList_runV rfl (wdV xf) (exec_load_at (part_first O1.out) rfl rfl) ?_; simp only [Act.put, List.setIfInBounds_toArray, List.set_cons_zero, List.set_cons_succ])
        | (refine wpList_runV rfl (wdV yl) (exec_load_at (part_last O2.out) rfl rfl) ?_; simp only [Act.put, List.setIfInBounds_toArray, List.set_cons_zero, List.set_cons_succ])
        | (refine wpList_runV rfl (endsV xf yl) (exec_build_ends rfl rfl rfl) ?_; simp only [Act.put, List.setIfInBounds_toArray, List.set_cons_zero, List.set_cons_succ])
        | (refine wpList_runV rfl (partV ⟨xf, yl, true⟩) (exec_build_part rfl rfl rfl) ?_; simp only [Act.put, List.setIfInBounds_toArray, List.set_cons_zero, List.set_cons_succ])
        | (refine wpList_store_part O4.out rfl _ _ rfl rfl rfl ?_; intro w5 o5 b5; have R1 := Lib.hid (b5.owns Q1.out (by have := HZ.out; omega)); have R2 := Lib.hid (b5.owns Q2.out (by have := HZ.out; omega)); have R3 := Lib.hid (b5.owns Q3.out (by have := HZ.out; omega)); have RZ := Lib.hid o5; have HN5 := Lib.hid (HN4.out.other O4.out (by unfold BldT; decide) (by decide) b5); have HK5 := Lib.hid (HK4.out.fresh b5 (by have := HZ.out; omega) HLW.out); clear o5 b5 c1 c2 l1 l2; have c1 := part_empty R1.out; have c2 := part_empty R2.out; have l1 := R1.out.lt; have l2 := R2.out.lt; dsimp only at c1 c2; simp only [Act.put])
        | (refine wpList_runV rfl (wdV xf) (exec_load_at (part_first R1.out) rfl rfl) ?_; simp only [Act.put, List.setIfInBounds_toArray, List.set_cons_zero, List.set_cons_succ])
        | (refine wpList_runV rfl (wdV yf) (exec_load_at (part_first R2.out) rfl rfl) ?_; simp only [Act.put, List.setIfInBounds_toArray, List.set_cons_zero, List.set_cons_succ]))
      refine (HWF.out _).mono ?_
      rintro e w6 ⟨rfl, hg⟩
      have S1 := Lib.hid (R1.out.keep hg)
      have S2 := Lib.hid (R2.out.keep hg)
      have S3 := Lib.hid (R3.out.keep hg)
      have SZ := Lib.hid (RZ.out.keep hg)
      have HNs := Lib.hid (HN5.out.grew hg)
      have HKs := Lib.hid (HK5.out.trans (KpF.grew hg HN5.out.low))
      clear hg c1 c2 l1 l2
      have bz := setCells_butN (wdL (xf ||| yf)) 0 w6 _ SZ.out
      have oz := Owns.setCellsN (wdL (xf ||| yf)) 0 w6 _ SZ.out
      rw [part_set_first] at oz
      obtain ⟨w7, hw7⟩ : ∃ w, w6.setCells z 0 (wdL (xf ||| yf)) = w := ⟨_, rfl⟩
      rw [hw7] at bz oz
      have T1 := Lib.hid (bz.owns S1.out (by have := HZ.out; omega))
      have T2 := Lib.hid (bz.owns S2.out (by have := HZ.out; omega))
      have T3 := Lib.hid (bz.owns S3.out (by have := HZ.out; omega))
      have TZ := Lib.hid oz
      have HNt := Lib.hid (HNs.out.other SZ.out (by unfold BldT; decide) (by decide) bz)
      have HKt := Lib.hid (HKs.out.fresh bz (by have := HZ.out; omega) HLW.out)
      have fz := SZ.out
      have cz := part_first SZ.out
      have c1 := part_empty T1.out
      have c2 := part_empty T2.out
      have l1 := T1.out.lt
      have l2 := T2.out.lt
      dsimp only at c1 c2
      clear bz oz
      go_wp2_with (first
        | (refine wpList_run_skip rfl (exec_store_at (s := xf ||| yf) (b := z) (off := 0) (fun j hj => by rw [cz j _ (wdL_get _ hj)]; rfl) (fun j hj => fz.free _) rfl rfl rfl) ?_; simp only [Act.put]; rw [hw7])
        | (refine wpList_runV rfl (wdV xl) (exec_load_at (part_last T1.out) rfl rfl) ?_; simp only [Act.put, List.setIfInBounds_toArray, List.set_cons_zero, List.set_cons_succ])
        | (refine wpList_runV rfl (wdV yl) (exec_load_at (part_last T2.out) rfl rfl) ?_; simp only [Act.put, List.setIfInBounds_toArray, List.set_cons_zero, List.set_cons_succ]))
      clear fz cz S1 S2 S3 SZ HNs HKs
      have U1 := T1
      have U2 := T2
      have U3 := T3
      have UZ := TZ
      have HNu := HNt
      have HKu := HKt
      clear T1 T2 T3 TZ HNt HKt
      refine (HWL.out _).mono ?_
      rintro e w8 ⟨rfl, hg⟩
      have S1 := Lib.hid (U1.out.keep hg)
      have S2 := Lib.hid (U2.out.keep hg)
      have S3 := Lib.hid (U3.out.keep hg)
      have SZ := Lib.hid (UZ.out.keep hg)
      have HNs := Lib.hid (HNu.out.grew hg)
      have HKs := Lib.hid (HKu.out.trans (KpF.grew hg HNu.out.low))
      clear hg c1 c2 l1 l2
      have bz := setCells_butN (wdL (xl ||| yl)) 64 w8 _ SZ.out
      have oz := Owns.setCellsN (wdL (xl ||| yl)) 64 w8 _ SZ.out
      rw [part_set_last] at oz
      obtain ⟨w9, hw9⟩ : ∃ w, w8.setCells z 64 (wdL (xl ||| yl)) = w := ⟨_, rfl⟩
      rw [hw9] at bz oz
      have T1 := Lib.hid (bz.owns S1.out (by have := HZ.out; omega))
      have T2 := Lib.hid (bz.owns S2.out (by have := HZ.out; omega))
      have T3 := Lib.hid (bz.owns S3.out (by have := HZ.out; omega))
      have TZ := Lib.hid oz
      have HNt := Lib.hid (HNs.out.other SZ.out (by unfold BldT; decide) (by decide) bz)
      have HKt := Lib.hid (HKs.out.fresh bz (by have := HZ.out; omega) HLW.out)
      have fz := SZ.out
      have cz := part_last SZ.out
      have c1 := part_empty T1.out
      have c2 := part_empty T2.out
      have l1 := T1.out.lt
      have l2 := T2.out.lt
      dsimp only at c1 c2
      clear bz oz
      go_upto_region 7 with (first
        | (refine wpList_run_skip rfl (exec_store_at (s := xl ||| yl) (b := z) (off := 64) (fun j hj => by rw [cz j _ (wdL_get _ hj)]; rfl) (fun j hj => fz.free _) rfl rfl rfl) ?_; simp only [Act.put]; rw [hw9]))
      apply wp_region_lit
      refine wpList_load_part TZ.out rfl _ rfl rfl ?_
      simp only [Act.put, List.setIfInBounds_toArray, List.set_cons_zero, List.set_cons_succ]
      refine wpList_store_part T3.out rfl _ _ rfl rfl rfl ?_
      intro w9 o9 b9
      simp only [Act.put]
      have O9 := Lib.hid o9
      have HN9 := Lib.hid (HNt.out.other T3.out (by unfold BldT; decide) (by decide) b9)
      have HK9 := Lib.hid (HKt.out.fresh b9 (by omega) HLW.out)
      clear o9 b9
      go_wp2_with fail
      exact bodyPost_ret (ret_part rfl _ O9.out rfl) rfl ⟨rfl, HN9.out, HK9.out⟩
end Go.Proofs.YtkinlcichclnkaaDoor
