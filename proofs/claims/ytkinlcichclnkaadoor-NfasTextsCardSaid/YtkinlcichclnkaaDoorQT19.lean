/- list: the places of a set, as a row. -/
import Derived.Laws.IdiomCopy
import Derived.Deep.Upon
import Derived.Test.YtkinlcichclnkaaDoorQT14
import Derived.Test.YtkinlcichclnkaaDoorQT18
import Derived.Test.YtkinlcichclnkaaDoorQT5
namespace Go.Proofs.YtkinlcichclnkaaDoor
open Go.RowKit Go.Shelf
attribute [local go_sem] Oper.semAt_some

theorem wpListIn_append_run {F : Fence} {n : Nat} {P : Program} (w : World) {ops : Array Oper} {rest : List Oper} {o : Oper} {a : Act} {Q : Exit → Act → World → Prop} {w' : World} (hgd : o.guard = none) (s x : Operand) (t tn : TypeId)
    (ho : o.op = .call { callee := .builtin .append, args := #[s, x], argTypes := #[t, tn] }) (vs vx v : Value) (hs : a.eval s = vs) (hx : a.eval x = vx)
    (hr : (Builtin.append_ #[t, tn] o.type #[vs, vx]).run P w = .ok v w') (h : wpListIn F n P ops Q rest (a.put o.dst v) w') : wpListIn F n P ops Q (o :: rest) a w := by
  refine wpListIn_plain hgd fun K hK' => ?_
  unfold Oper.wpIn
  refine ⟨?_, ?_⟩
  · simp [Oper.about, ho, resolve, Target.leads, Sem.run_pure]
  · rw [Oper.semAt_plain F _ _ (by rw [ho]; intro c hc'; cases hc')]
    simp [execOp, ho, resolve, invoke, builtin, hs, hx, hr, Result.andThen]
    exact hK' _ _ h
theorem loose_turn {W W' : World} {row : Option Nat} {base e size n : Nat} {v : Value} {xs : List Value} (h : looseRow W base e size v n xs) (hg : W.grownBy W' row) (hr : ∀ r, row = some r → ∃ o : Obj, W.heap[r]? = some o ∧ o.isCells = false) : looseRow W' base e size v n xs := by
  refine ⟨h.1, h.2.imp id ?_⟩
  rintro ⟨b, cap, cur, h1, h2, h3, h4⟩
  refine ⟨b, cap, cur, h1, h2, ?_, h4⟩
  rw [hg.block b (Array.getElem?_eq_some_iff.1 h3).1 (fun e => by
    obtain ⟨o, k1, k2⟩ := hr b e.symm
    rw [h3] at k1
    cases k1
    cases k2)]
  exact h3
def placesL (s : Nat) : List Int := (bitsN 4096 s).map fun (p : Nat) => (p : Int)
/-- what is gathered -/
structure Gath {s : Nat} (W : World) (pre : List (PlS s)) (w : World) : Prop where
  grew : Grew W w
  row : ∃ v, Owns w W.heap.size [v] 40 ∧ looseRow w W.heap.size 3 1 v pre.length (intVs (pre.map fun (x : PlS s) => (x.p : Int)))
theorem gath_from {s : Nat} {W w1 : World} (h1 : W.heap.size ≤ w1.heap.size) : OwnFrom w1.heap.size (Gath (s := s) W) := fun pre A B row hs hg hr => by
  obtain ⟨g, v, ho, hrow⟩ := hs
  exact ⟨g.grown hg (by have := g.size; omega) (fun k e => by have := (hr k e).1; omega), v, owns_turn ho hg fun r e => (hr r e).2, loose_turn hrow hg fun r e => (hr r e).2⟩
/-- one more -/
theorem gath_more {s : Nat} {W w : World} {pre : List (PlS s)} {v : Value} (ho : Owns w W.heap.size [v] 40) (hrow : looseRow w W.heap.size 3 1 v pre.length (intVs (pre.map fun (x : PlS s) => (x.p : Int)))) (hgw : Grew W w) (x : PlS s) (hl : pre.length < 100000) :
    ∃ (g cap : Nat) (w3 : World), (Builtin.append_ #[40, 40] 40 #[v, .slice (some ⟨w.heap.size, 0, none⟩) 1 1]).run Tryd.prog (w.alloc (.cells #[.int .i64 (x.p : Int)] 3)) = .ok (.slice (some ⟨g, 0, none⟩) (pre.length + 1) cap) w3 ∧
      KeepsOthers w w3 ∧ Owns w3 W.heap.size [v] 40 ∧ (∀ u' : Value, Below W.heap.size w (w3.setCell ⟨W.heap.size, 0, none⟩ u')) ∧ Gath W (pre ++ [x]) (w3.setCell ⟨W.heap.size, 0, none⟩ (.slice (some ⟨g, 0, none⟩) (pre.length + 1) cap)) := by
  obtain ⟨i0, hi, hz0, hz1, hz2⟩ := info_parts info_int
  have hga := grew_alloc w (.cells #[.int .i64 (x.p : Int)] 3)
  have hnew := Owns.alloc w [.int .i64 (x.p : Int)] 3
  obtain ⟨w2, hw2⟩ : ∃ w2, w.alloc (.cells #[.int .i64 (x.p : Int)] 3) = w2 := ⟨_, rfl⟩
  have hko := KeepsOthers.alloc w (.cells #[.int .i64 (x.p : Int)] 3)
  rw [hw2] at hga hko ⊢
  have hnew2 : Owns w2 w.heap.size [.int .i64 (x.p : Int)] 3 := by rw [← hw2]; exact hnew
  have hrow2 : looseRow w2 W.heap.size 3 1 v pre.length (intVs (pre.map fun (x : PlS s) => (x.p : Int))) := (But.of_grew (F := fun _ => False) hga).row hrow (fun _ _ h => h)
  obtain ⟨g, cap, w3, hr, h2, h3, h4, h5⟩ := run_append_loose (P := Tryd.prog) w2 40 40 W.heap.size 3 i0 (.int .i64 0) 1 8 Tryd.underlying40 hi hz0 hz1 hz2 rfl (by decide) v pre.length _ hrow2 ⟨w.heap.size, 0, none⟩ 1 1 [.int .i64 (x.p : Int)] rfl
    (fun j u hj => by
      cases j with
      | zero => cases hj; simpa [Addr.add] using hnew2.cell_at (i := 0) rfl
      | succ j => simp at hj) (by simp [Value.oneCell']) (by decide) (by unfold maxLen; omega) (by omega) (by have := hgw.size; have := hga.size; omega) _ rfl
  have hne : v.ownBlock ≠ some W.heap.size := fun e => by
    obtain ⟨_, cs, k1⟩ := row_own hrow2 e
    have k2 := ho.keep hga
    unfold Owns at k2
    rw [k1] at k2
    simp only [Option.some.injEq, Obj.cells.injEq] at k2
    exact absurd k2.2.1 (by decide)
  have ho3 : Owns w3 W.heap.size [v] 40 := by
    have k2 := ho.keep hga
    unfold Owns at *
    rw [h3.block _ (Array.getElem?_eq_some_iff.1 k2).1 fun e => hne e.symm]
    exact k2
  have hb3 : Grew W w3 := grew_loose hrow2 (hgw.trans hga) h3
  have hb4 : Below W.heap.size w w3 := Below.trans (hga.mono hgw.size) ⟨h3.os, h3.tape, h3.output, h3.size, fun k hk => h3.block k (by have := hgw.size; have := hga.size; omega) (fun e => by have := (row_own hrow2 e.symm).1; omega)⟩
  refine ⟨g, cap, w3, hr, hko.trans (KeepsOthers.of_grownBy h3 fun j o hj ho' => ?_), ho3, fun u' => hb4.setCell (p := ⟨W.heap.size, 0, none⟩) (Nat.le_refl _) _, ?_⟩
  · obtain ⟨_, cs, k1⟩ := row_own hrow2 hj
    rw [ho'] at k1
    cases k1
    rfl
  · refine ⟨hb3.setCell (p := ⟨W.heap.size, 0, none⟩) (Nat.le_refl _) _, _, ho3.set 0 _, ?_⟩
    have hg : g ≠ W.heap.size := fun e => by
      subst e
      rcases h2.2 with ⟨k, _⟩ | ⟨b, c, cur, k1, k2, k3, _⟩
      · cases k
      · cases k1
        unfold Owns at ho3
        rw [k3] at ho3
        simp only [Option.some.injEq, Obj.cells.injEq] at ho3
        exact absurd ho3.2.1 (by decide)
    have h6 := (set_but (i := 0) (v := .slice (some ⟨g, 0, none⟩) (pre.length + 1) cap) ho3).row h2 (fun b hb e => hg (by cases hb; exact e))
    rw [List.length_append, List.map_append, show intVs (pre.map (fun (x : PlS s) => (x.p : Int)) ++ [x].map fun (x : PlS s) => (x.p : Int)) = intVs (pre.map fun (x : PlS s) => (x.p : Int)) ++ [.int .i64 (x.p : Int)] from intVs_snoc _ _]
    exact h6
theorem bits_len (n s : Nat) : (bitsN n s).length ≤ n := by
  unfold bitsN
  exact Nat.le_trans (List.length_filter_le _ _) (by rw [List.length_range]; exact Nat.le_refl _)
set_option maxHeartbeats 4000000 in
set_option maxRecDepth 20000 in
theorem nappseq_ok (Bn s : Nat) (hs : s < 2 ^ 4096) (W : World) (hB : Owns W Bn (wdL s) 65) (hT : BruAt W) :
    Calls Tryd.prog 54 #[.slice none 0 0, .func (.func 38) #[] #[.pointer (some ⟨Bn, 0, none⟩)]] W fun e W' => ∃ v, e = .returned v ∧ looseRow W' W.heap.size 3 1 v (placesL s).length (intVs (placesL s)) ∧ Grew W W' := by
  refine calls_of_wp_marks Tryd.func54 rfl ?_
  simp only [Tryd.ntmps54, List.size_toArray, List.length_cons, List.length_nil, Nat.reduceAdd, Nat.reduceSub, Array.replicate_succ, Array.replicate_zero, List.push_toArray, List.append_toArray, List.nil_append, List.cons_append]
  obtain ⟨w1, hw1⟩ : ∃ w1, W.alloc (.cells #[.slice none 0 0] 40) = w1 := ⟨_, rfl⟩
  have g1 : Grew W w1 := hw1 ▸ grew_alloc W _
  have o1 : Owns w1 W.heap.size [.slice none 0 0] 40 := hw1 ▸ Owns.alloc W _ _
  have hpos := hT.1
  have hs1 : W.heap.size ≤ w1.heap.size := g1.size
  have hG0 : Gath (s := s) W [] w1 := ⟨g1, _, o1, rfl, .inl ⟨rfl, rfl⟩⟩
  have hstops := nall_stops 8 Bn s w1 hs (hB.keep g1) (hT.grew g1) (Below W.heap.size) (fun A B h k => k.below hpos h)
  clear g1 o1 hB hT
  go_wp2_with fail
  clear hw1
  refine (wpIn_wide (n := 9)).1 ?_
  refine wpIn_rangeFunc_ownH (F := Fence.wide) rfl (by omega) (gf := 38) (lb := #[.pointer (some ⟨Bn, 0, none⟩)]) rfl trivial (enters_of Tryd.func38 (by kernel_rfl) rfl) hstops (fun h k => h.trans k) (belowK_b hs1) (Below.refl _ _) (fun _ => rfl)
    (Gath (s := s) W) (fun _ _ _ => False) (gath_from hs1) (fun _ _ _ _ _ hs _ _ => hs) hG0
    (fun x a' _ => a' = { tmps := #[.slice none 0 0, .func (.func 38) #[] #[.pointer (some ⟨Bn, 0, none⟩)], .pointer (some ⟨W.heap.size, 0, none⟩), undef, .slice none 0 0, .int .i64 (x.p : Int), .func (.func 38) #[] #[.pointer (some ⟨Bn, 0, none⟩)], .int .i64 (x.p : Int), undef, undef, undef, undef, undef], defers := [] })
    (fun x a' _ X Y row hs hg hr => hs) ?assign ?body ?done ?stop
  case assign =>
    rintro l pre x Wc K hI hK
    have hK' := Lib.hid (hK _ _ (KeepsFrom.refl _ _) (Below.refl _ _) hI rfl)
    clear hK hI
    simp only [encP] at *
    gi_wp2
    exact hK'.out
  case body =>
    rintro l pre x a' Wc hlo ⟨rr, hrr⟩ hI rfl hlt
    obtain ⟨hgw, v, ho, hrow⟩ := hI
    have hlp : pre.length < 100000 := by have := bits_len 4096 s; omega
    obtain ⟨gq, cap, w3, hr, hko, ho3, hbl, hgm⟩ := gath_more ho hrow hgw x hlp
    obtain ⟨u, hu⟩ : ∃ u : Value, (.slice (some ⟨gq, 0, none⟩) (pre.length + 1) cap) = u := ⟨_, rfl⟩
    rw [hu] at hgm
    have HBL := Lib.hid (hbl u)
    have HKO := Lib.hid (hko.trans (KeepsOthers.setCell w3 ⟨W.heap.size, 0, none⟩ u))
    subst hu
    have c0 := ho.cell_at (i := 0) rfl
    have cl := ho.lt
    have cl2 : W.heap.size < (Wc.alloc (.cells #[.int .i64 (x.p : Int)] 3)).heap.size := by rw [World.size_alloc]; omega
    have f3 := ho3.free 0
    have c3 := ho3.cell_at (i := 0) rfl
    have l3 := ho3.lt
    have HGM := Lib.hid hgm
    clear hko hbl hgm ho hrow hgw ho3 hrr
    gi_wp2_with (refine wpListIn_append_run _ rfl _ _ 40 40 rfl _ _ _ rfl rfl hr ?_; simp only [Act.put, List.setIfInBounds_toArray, List.set_cons_zero, List.set_cons_succ])
    exact ⟨HKO.out.from _, HBL.out, HGM.out⟩
  case done =>
    rintro D ys W' hD hys hI hK
    have hI2 := gath_from hs1 _ W' _ (some D) hI (grownBy_putObj' W' D (.deferred none)) (fun r e => by cases e; exact ⟨hD, _, hK, rfl⟩)
    obtain ⟨hgw, v, ho, hrow⟩ := hI
    obtain ⟨hgw2, v2, ho2, hrow2⟩ := hI2
    have c0 := ho.cell_at (i := 0) rfl
    have cl := ho.lt
    have hvv : v2 = v := by
      have e := ho2.cell_at (i := 0) rfl
      rw [World.cell?_of_block (w := W') (World.putObj_heap_other (by
        intro e2
        subst e2
        unfold Owns at ho
        rw [hK] at ho
        cases ho)), c0] at e
      cases e
      rfl
    subst hvv
    have HROW := Lib.hid hrow2
    have HG2 := Lib.hid hgw2
    clear hstops hrow hgw ho ho2 hrow2 hgw2
    go_wp2_with fail
    refine ⟨by simp, .inl ⟨_, _, rfl, run_takeDeferred hK, ?_⟩⟩
    refine ⟨_, results_tmp rfl _ _ _, ⟨_, rfl, ?_, HG2.out⟩⟩
    have hpl : placesL s = ys.map fun (x : PlS s) => (x.p : Int) := by
      unfold placesL
      rw [← hys, List.map_map]
      rfl
    rw [hpl, List.length_map]
    exact HROW.out
  case stop =>
    rintro D c' pre W' _ _ h _
    exact h.elim
theorem ncollect_ok (Bn s : Nat) (hs : s < 2 ^ 4096) (W : World) (hB : Owns W Bn (wdL s) 65) (hT : BruAt W) :
    Calls Tryd.prog 37 #[.func (.func 38) #[] #[.pointer (some ⟨Bn, 0, none⟩)]] W fun e W' => ∃ v, e = .returned v ∧ looseRow W' W.heap.size 3 1 v (placesL s).length (intVs (placesL s)) ∧ Grew W W' := by
  have HA := Lib.hid (nappseq_ok Bn s hs W hB hT)
  clear hB hT
  go_enter Tryd.func37, Tryd.ntmps37
  go_wp2_with fail
  refine HA.out.mono ?_
  rintro e w ⟨v, rfl, hr, hg⟩
  have HR := Lib.hid hr
  have HG := Lib.hid hg
  clear hr hg
  go_wp2_with fail
  go_ret
  exact ⟨_, rfl, HR.out, HG.out⟩
set_option maxRecDepth 20000 in
theorem nlist_ok (s : Nat) (hs : s < 2 ^ 4096) (W : World) (hT : BruAt W) :
    Calls Tryd.prog 19 #[wdV s] W fun e W' => ∃ v, e = .returned v ∧ looseRow W' W.heap.size 3 1 v (placesL s).length (intVs (placesL s)) ∧ Grew W W' := by
  obtain ⟨w1, hw1⟩ : ∃ w1, W.alloc (.cells (wdL s).toArray 65) = w1 := ⟨_, rfl⟩
  have g1 : Grew W w1 := hw1 ▸ grew_alloc W _
  have O1 := Lib.hid (show Owns w1 W.heap.size (wdL s) 65 from hw1 ▸ Owns.alloc W _ _)
  have G1 := Lib.hid g1
  have HT := Lib.hid hT
  have HAL := Lib.hid (nall_ok s w1)
  clear g1 hT
  unfold wdV
  go_enter Tryd.func19, Tryd.ntmps19
  go_upto_region 1 with fail
  apply wp_region_lit
  refine wpList_load_some O1.out rfl _ rfl rfl ?_
  simp only [Act.put, List.setIfInBounds_toArray, List.set_cons_zero, List.set_cons_succ]
  clear hw1
  go_wp2_with fail
  refine HAL.out.mono ?_
  rintro e w2 ⟨rfl, hw2⟩
  have g2 : Grew w1 w2 := hw2 ▸ grew_alloc w1 _
  have o2 : Owns w2 w1.heap.size (wdL s) 65 := hw2 ▸ Owns.alloc w1 _ _
  have G2 := Lib.hid (G1.out.trans g2)
  have HC := Lib.hid (ncollect_ok w1.heap.size s hs w2 o2 (HT.out.grew G2.out))
  clear hw2 g2 o2
  go_wp2_with fail
  refine HC.out.mono ?_
  rintro e w3 ⟨v, rfl, hr, hg⟩
  have HP := Lib.hid (clipInt_ok w3 w2.heap.size v (placesL s) hr)
  have G3 := Lib.hid (G2.out.trans hg)
  clear hr hg
  go_wp2_with fail
  refine HP.out.mono ?_
  rintro e w4 ⟨⟨u, rfl, hr⟩, rfl⟩
  have HR := Lib.hid hr
  clear hr
  go_wp2_with fail
  go_ret
  exact ⟨_, rfl, ⟨HR.out.1, HR.out.2.imp id fun ⟨g, cap, cur, h1, h2, h3⟩ => ⟨g, cap, cur, h1, Nat.le_trans G2.out.size h2, h3⟩⟩, G3.out⟩
end Go.Proofs.YtkinlcichclnkaaDoor

/- What is built, as it lies. -/
namespace Go.Proofs.YtkinlcichclnkaaDoor
open Go.RowKit

/-! ### a set within a struct -/
def wrAtN (cs : List Value) : Nat → List Value → List Value
  | _, [] => cs
  | o, v :: r => wrAtN (cs.set o v) (o + 1) r
theorem Owns.setCellsN {b T : Nat} : ∀ (vs : List Value) (o : Nat) (W : World) (cs : List Value), Owns W b cs T → Owns (W.setCells b o vs) b (wrAtN cs o vs) T
  | [], _, _, _, h => h
  | v :: r, o, _, _, h => Owns.setCellsN r (o + 1) _ _ (h.set o v)
theorem setCells_butN {b T : Nat} : ∀ (vs : List Value) (o : Nat) (W : World) (cs : List Value), Owns W b cs T → But (fun k => k = b) W (W.setCells b o vs)
  | [], _, _, _, _ => But.refl _ _
  | v :: r, o, _, _, h => (set_but h).trans (setCells_butN r (o + 1) _ _ (h.set o v)) fun _ _ e => e
theorem wrAtN_app : ∀ (vs old pre : List Value), old.length = vs.length → wrAtN (pre ++ old) pre.length vs = pre ++ vs
  | [], old, pre, h => by
    have : old = [] := List.eq_nil_of_length_eq_zero h
    rw [this]
    rfl
  | v :: r, [], pre, h => by simp at h
  | v :: r, x :: old, pre, h => by
    have e : (pre ++ x :: old).set pre.length v = pre ++ v :: old := by
      rw [List.set_append_right _ _ (Nat.le_refl _), Nat.sub_self]
      rfl
    rw [wrAtN, e]
    have := wrAtN_app r old (pre ++ [v]) (by simpa using h)
    rw [List.append_assoc, List.length_append] at this
    simpa using this
theorem run_load_at (w : World) (b o s : Nat) (h : ∀ j v, (wdL s)[j]? = some v → w.cell? ⟨b, o + j, none⟩ = some v) : (loadVar 65 ⟨b, o, none⟩).run Tryd.prog w = .ok (wdV s) w := by
  have hl : (loadCells ⟨b, o, none⟩ (wdL s).length).run Tryd.prog w = .ok (wdL s).toArray w :=
    run_loadCells_list (P := Tryd.prog) w ⟨b, o, none⟩ (wdL s) (fun j v hv => by rw [Addr.add_lit]; exact h j v hv)
  have hi := some_info
  cases hq : Tryd.prog.info? 65 with
  | none => simp [hq] at hi
  | some i =>
    have hs : i.size = 64 := by simpa [hq] using hi
    have hagg : (isAgg 65).run Tryd.prog w = .ok true w := by
      unfold isAgg
      rw [Sem.run_bind, run_underlying Tryd.underlying65 w]
      rfl
    rw [wdL_len] at hl
    unfold wdV
    simp [loadVar, Sem.run_bind, hagg, sizeOf, typeInfo, hq, hs, hl]
theorem run_store_at (w : World) (b o s : Nat) (hc : ∀ j, j < 64 → (w.cell? ⟨b, o + j, none⟩).isSome = true) (hf : ∀ j, j < 64 → w.frozen? ⟨b, o + j, none⟩ = false) : (storeVar 65 ⟨b, o, none⟩ (wdV s)).run Tryd.prog w = .ok () (w.setCells b o (wdL s)) := by
  have hst := run_storeCells_cells (P := Tryd.prog) b o (wdL s) 0 w (by simpa [wdL_len] using hc) (by simpa [wdL_len] using hf) (wdL_one s)
  have hi := some_info
  cases hq : Tryd.prog.info? 65 with
  | none => simp [hq] at hi
  | some i =>
    have hs : i.size = 64 := by simpa [hq] using hi
    simp only [Nat.add_zero] at hst
    simp [storeVar, wdV, Value.cells, sizeOf, typeInfo, hq, hs, wdL_len, hst]
theorem exec_load_at {ev : Operand → Value} {o : Oper} {w : World} {s b off : Nat} {x : Operand} (h : ∀ j v, (wdL s)[j]? = some v → w.cell? ⟨b, off + j, none⟩ = some v) (ho : o.op = .load 65 x) (hx : ev x = .pointer (some ⟨b, off, none⟩)) : (execOp ev o).run Tryd.prog w = .ok (.value (wdV s)) w := by
  unfold execOp
  simp only [ho, hx, Instr.loadAt, Instr.sureAddr, Sem.run_bind, Sem.run_pure, Result.andThen_ok, run_load_at w b off s h]
theorem exec_store_at {ev : Operand → Value} {o : Oper} {w : World} {s b off : Nat} {x y : Operand} (hc : ∀ j, j < 64 → (w.cell? ⟨b, off + j, none⟩).isSome = true) (hf : ∀ j, j < 64 → w.frozen? ⟨b, off + j, none⟩ = false) (ho : o.op = .store 65 x y) (hx : ev x = .pointer (some ⟨b, off, none⟩)) (hy : ev y = wdV s) : (execOp ev o).run Tryd.prog w = .ok .skip (w.setCells b off (wdL s)) := by
  unfold execOp
  simp only [ho, hx, hy, Instr.storeAt, Instr.sureAddr, Sem.run_bind, Sem.run_pure, Result.andThen_ok, run_store_at w b off s hc hf]

/-! ### what is built -/
def rgF (x : Int × Int) : List Value := [.int .i32 x.1, .int .i32 x.2]
def rgVs (l : List (Int × Int)) : List Value := l.flatMap rgF
structure NBV where
  bb : Nat
  ov : Value
  mb : Nat → Nat
  sv : Nat → Value
def ptrsN (V : NBV) (n : Nat) : List Value := (List.range n).map fun i => .pointer (some ⟨V.mb i, 0, none⟩)
/-- a place's cells -/
def madeL (p : NPl) (sv : Value) : List Value := [sv, .int .i64 p.kind, .bool false, .slice none 0 0] ++ wdL p.fol
/-- of the types that building turns -/
def BldT (T : Nat) : Prop := T = 62 ∨ T = 76 ∨ T = 74
/-- what building keeps -/
structure KpF (lim : Nat) (W W' : World) : Prop where
  low : Below lim W W'
  box : ∀ (b : Nat) (cs : Array Value) (T : Nat) (f : Nat × Nat), W.heap[b]? = some (.cells cs T f) → ¬ BldT T → W'.heap[b]? = some (.cells cs T f)
  itr : ∀ (b : Nat) (s : ByteArray) (p : Nat), W.heap[b]? = some (.stringIter s p) → W'.heap[b]? = some (.stringIter s p)
theorem KpF.refl (lim : Nat) (W : World) : KpF lim W W := ⟨Below.refl _ _, fun _ _ _ _ h _ => h, fun _ _ _ h => h⟩
theorem KpF.trans {lim : Nat} {A B C : World} (h : KpF lim A B) (k : KpF lim B C) : KpF lim A C := ⟨h.low.trans k.low, fun b cs T f hb hT => k.box b cs T f (h.box b cs T f hb hT) hT, fun b s p hb => k.itr b s p (h.itr b s p hb)⟩
theorem KpF.grew {lim : Nat} {A B : World} (h : Grew A B) (hl : lim ≤ A.heap.size) : KpF lim A B :=
  ⟨h.mono hl, fun b cs T f hb _ => by rw [h.block b (Array.getElem?_eq_some_iff.1 hb).1]; exact hb, fun b s p hb => by rw [h.block b (Array.getElem?_eq_some_iff.1 hb).1]; exact hb⟩
theorem KpF.owns {lim : Nat} {A B : World} (h : KpF lim A B) {b T : Nat} {cs : List Value} (ho : Owns A b cs T) (hT : ¬ BldT T) : Owns B b cs T := h.box b _ _ _ ho hT
theorem KpF.row {lim : Nat} {A B : World} (h : KpF lim A B) {base e size n : Nat} {v : Value} {xs : List Value} (hr : looseRow A base e size v n xs) (hT : ¬ BldT e) : looseRow B base e size v n xs :=
  ⟨hr.1, hr.2.imp id fun ⟨g, cap, cur, h1, h2, h3, h4⟩ => ⟨g, cap, cur, h1, h2, h.box g _ _ _ h3 hT, h4⟩⟩
structure NBAt (W : World) (lim : Nat) (g0 g1 g2 g3 : Value) (kind : Int) (V : NBV) (b : NB) : Prop where
  low : lim ≤ W.heap.size
  blo : lim ≤ V.bb
  box : Owns W V.bb [g0, g1, g2, g3, .int .i64 kind, V.ov, .int .i64 b.steps, .bool b.full] 62
  out : looseRow W lim 74 1 V.ov b.out.length (ptrsN V b.out.length)
  made : ∀ i (h : i < b.out.length), lim ≤ V.mb i ∧ Owns W (V.mb i) (madeL b.out[i] (V.sv i)) 76
  set : ∀ i (h : i < b.out.length), looseRow W lim 58 2 (V.sv i) b.out[i].set.length (rgVs b.out[i].set)
  inj : ∀ i j, i < b.out.length → j < b.out.length → V.mb i = V.mb j → i = j
section
variable {W : World} {lim : Nat} {g0 g1 g2 g3 : Value} {kind : Int} {V : NBV} {b : NB}
theorem NBAt.grew {W' : World} (h : NBAt W lim g0 g1 g2 g3 kind V b) (hg : Grew W W') : NBAt W' lim g0 g1 g2 g3 kind V b :=
  ⟨Nat.le_trans h.low hg.size, h.blo, h.box.keep hg, (But.of_grew (F := fun _ => False) hg).row h.out fun _ _ e => e, fun i hi => ⟨(h.made i hi).1, (h.made i hi).2.keep hg⟩, fun i hi => (But.of_grew (F := fun _ => False) hg).row (h.set i hi) fun _ _ e => e, h.inj⟩
theorem owns_ne {w : World} {b c T U : Nat} {x y : List Value} (h : Owns w b x T) (k : Owns w c y U) (hT : T ≠ U) : b ≠ c := fun e => by
  subst e
  unfold Owns at h k
  rw [h] at k
  simp only [Option.some.injEq, Obj.cells.injEq] at k
  exact hT k.2.1
theorem row_owns_ne {w : World} {base e size n c U : Nat} {v : Value} {xs y : List Value} (h : looseRow w base e size v n xs) (k : Owns w c y U) (hT : e ≠ U) : ∀ g, v.ownBlock = some g → g ≠ c := fun g hg ec => by
  subst ec
  obtain ⟨_, cs, k1⟩ := row_own h hg
  unfold Owns at k
  rw [k1] at k
  simp only [Option.some.injEq, Obj.cells.injEq] at k
  exact hT k.2.1
/-- a place's followers are written -/
theorem NBAt.fol (h : NBAt W lim g0 g1 g2 g3 kind V b) {i : Nat} (hi : i < b.out.length) (q : Nat) :
    NBAt (W.setCells (V.mb i) 4 (wdL q)) lim g0 g1 g2 g3 kind V ⟨b.out.set i { b.out[i] with fol := q }, b.steps, b.full⟩ ∧ KpF lim W (W.setCells (V.mb i) 4 (wdL q)) := by
  obtain ⟨hlo, ho⟩ := h.made i hi
  have hbut := setCells_butN (wdL q) 4 W _ ho
  have hown : Owns (W.setCells (V.mb i) 4 (wdL q)) (V.mb i) (madeL { b.out[i] with fol := q } (V.sv i)) 76 := by
    have h1 := Owns.setCellsN (wdL q) 4 W _ ho
    have h2 := wrAtN_app (wdL q) (wdL b.out[i].fol) [V.sv i, .int .i64 b.out[i].kind, .bool false, .slice none 0 0] (by rw [wdL_len, wdL_len])
    unfold madeL at h1 ⊢
    rw [show (4 : Nat) = [V.sv i, Value.int .i64 b.out[i].kind, .bool false, .slice none 0 0].length from rfl] at h1
    rw [h2] at h1
    exact h1
  refine ⟨⟨Nat.le_trans h.low hbut.size, h.blo, hbut.owns h.box (owns_ne h.box ho (by decide)), ?_, fun j hj => ?_, fun j hj => ?_, fun j k hj hk e => ?_⟩, But.below hbut h.low fun k e => by rw [e]; exact hlo, fun c cs T f hc hT => ?_, fun c s p hc => ?_⟩
  · rw [List.length_set]
    exact hbut.row h.out fun k hk e => row_owns_ne h.out ho (by decide) k hk e
  · simp only [List.length_set] at hj
    obtain ⟨k1, k2⟩ := h.made j hj
    refine ⟨k1, ?_⟩
    by_cases e : i = j
    · subst e
      rw [List.getElem_set_self]
      exact hown
    · rw [List.getElem_set_ne e]
      exact hbut.owns k2 fun e2 => e (h.inj i j hi hj e2.symm)
  · simp only [List.length_set] at hj
    have hr := hbut.row (h.set j hj) fun k hk e => row_owns_ne (h.set j hj) ho (by decide) k hk e
    by_cases e : i = j
    · subst e
      rw [List.getElem_set_self]
      exact hr
    · rw [List.getElem_set_ne e]
      exact hr
  · rw [List.length_set] at hj hk
    exact h.inj j k hj hk e
  · rw [hbut.block c (Array.getElem?_eq_some_iff.1 hc).1 (fun e => by
      subst e
      unfold Owns at ho
      rw [ho] at hc
      simp only [Option.some.injEq, Obj.cells.injEq] at hc
      exact hT (.inr (.inl hc.2.1.symm)))]
    exact hc
  · rw [hbut.block c (Array.getElem?_eq_some_iff.1 hc).1 (fun e => by
      subst e
      unfold Owns at ho
      rw [ho] at hc
      cases hc)]
    exact hc
end
/-- the places of pre, followed by c -/
def updL (pre : List Nat) (c : Nat) (out : List NPl) : List NPl := out.mapIdx fun i p => if i ∈ pre then p.more c else p
theorem updL_len (pre : List Nat) (c : Nat) (out : List NPl) : (updL pre c out).length = out.length := by unfold updL; rw [List.length_mapIdx]
theorem updL_get (pre : List Nat) (c : Nat) (out : List NPl) {i : Nat} (hi : i < out.length) : (updL pre c out)[i]'(by rw [updL_len]; exact hi) = if i ∈ pre then out[i].more c else out[i] := by
  unfold updL
  rw [List.getElem_mapIdx]
theorem updL_nil (c : Nat) (out : List NPl) : updL [] c out = out := by
  apply List.ext_getElem
  · rw [updL_len]
  · intro i h1 h2
    rw [updL_get [] c out h2]
    simp
theorem updL_snoc {pre : List Nat} {c x : Nat} {out : List NPl} (hx : x < out.length) : updL (pre ++ [x]) c out = (updL pre c out).set x { (updL pre c out)[x]'(by rw [updL_len]; exact hx) with fol := ((updL pre c out)[x]'(by rw [updL_len]; exact hx)).fol ||| c } := by
  apply List.ext_getElem
  · rw [List.length_set, updL_len, updL_len]
  · intro i h1 h2
    rw [updL_len] at h1
    rw [updL_get _ c out h1, List.getElem_set]
    by_cases e : x = i
    · subst e
      rw [if_pos rfl, if_pos (by simp), updL_get pre c out h1]
      split
      · unfold NPl.more
        dsimp only
        rw [Nat.or_assoc, Nat.or_self]
      · rfl
    · rw [if_neg e, updL_get pre c out h1]
      simp only [List.mem_append, List.mem_singleton, show ¬ i = x from fun h => e h.symm, or_false]
theorem updL_all {a c : Nat} {out : List NPl} (hl : out.length ≤ 4096) : updL (bitsN 4096 a) c out = folL a c 0 out := by
  apply List.ext_getElem
  · rw [updL_len, folL_len]
  · intro i h1 h2
    rw [updL_len] at h1
    rw [updL_get _ c out h1, folL_get a c out 0 i h1, Nat.zero_add]
    have hb : i ∈ bitsN 4096 a ↔ a.testBit i = true := by
      rw [bits_mem]
      exact ⟨fun h => h.2, fun h => ⟨by omega, h⟩⟩
    by_cases h : a.testBit i = true
    · rw [if_pos (hb.2 h), if_pos h]
    · rw [if_neg (fun e => h (hb.1 e)), if_neg h]
end Go.Proofs.YtkinlcichclnkaaDoor
