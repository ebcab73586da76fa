/- place: one more. -/
import Derived.Test.YtkinlcichclnkaaDoorQT21
import Derived.Test.YtkinlcichclnkaaDoorQT22
import Derived.Test.YtkinlcichclnkaaDoorQT23
namespace Go.Proofs.YtkinlcichclnkaaDoor
open Go.RowKit

theorem NBAt.boxed {W W' : World} {lim : Nat} {g0 g1 g2 g3 : Value} {kind : Int} {V : NBV} {b : NB} (h : NBAt W lim g0 g1 g2 g3 kind V b) (hb : But (fun k => k = V.bb) W W') {st : Int} {fl : Bool} (ho : Owns W' V.bb [g0, g1, g2, g3, .int .i64 kind, V.ov, .int .i64 st, .bool fl] 62) : NBAt W' lim g0 g1 g2 g3 kind V ⟨b.out, st, fl⟩ :=
  ⟨Nat.le_trans h.low hb.size, h.blo, ho, hb.row h.out fun k hk e => row_owns_ne h.out h.box (by decide) k hk e, fun i hi => ⟨(h.made i hi).1, hb.owns (h.made i hi).2 (owns_ne (h.made i hi).2 h.box (by decide))⟩, fun i hi => hb.row (h.set i hi) fun k hk e => row_owns_ne (h.set i hi) h.box (by decide) k hk e, h.inj⟩
theorem KpF.bld {lim : Nat} {A B : World} {k T : Nat} {cs : List Value} (hb : But (fun q => q = k) A B) (hl : lim ≤ A.heap.size) (hk : lim ≤ k) (ho : Owns A k cs T) (hT : BldT T) : KpF lim A B :=
  ⟨But.below hb hl fun q e => by rw [e]; exact hk, fun b cs' T' f hA hT' => by
    rw [hb.block b (Array.getElem?_eq_some_iff.1 hA).1 (fun e => by
      subst e
      unfold Owns at ho
      rw [ho] at hA
      simp only [Option.some.injEq, Obj.cells.injEq] at hA
      exact hT' (hA.2.1 ▸ hT))]
    exact hA, fun b s p hA => by
    rw [hb.block b (Array.getElem?_eq_some_iff.1 hA).1 (fun e => by
      subst e
      unfold Owns at ho
      rw [ho] at hA
      cases hA)]
    exact hA⟩
theorem exec_build_zero {ev : Operand → Value} {o : Oper} {w : World} (ho : o.op = .build 70 #[]) : (execOp ev o).run Tryd.prog w = .ok (.value (partV ⟨0, 0, false⟩)) w := by
  unfold execOp
  simp only [ho, List.map_toArray, List.map_nil, Sem.run_bind, run_build_zero, Result.andThen_ok, Sem.run_pure]
def PlaceIs (W : World) (lim : Nat) (g0 g1 g2 g3 : Value) (kind : Int) (b : NB) (set : List (Int × Int)) (bb : Nat) (e : Ending) (W' : World) : Prop :=
  e = .returned (partV (b.place kind set).1) ∧ KpF lim W W' ∧ ∃ V, V.bb = bb ∧ NBAt W' lim g0 g1 g2 g3 kind V (b.place kind set).2
set_option maxHeartbeats 4000000 in
set_option maxRecDepth 20000 in
theorem nplace_full (W : World) (lim : Nat) (g0 g1 g2 g3 : Value) (kind : Int) (V : NBV) (b : NB) (hN : NBAt W lim g0 g1 g2 g3 kind V b) (hb : b.Ok) (set : List (Int × Int)) (sa : Option Addr) (sc : Nat) (hf : (b.full || decide (4096 ≤ b.out.length)) = true) :
    Calls Tryd.prog 34 #[.pointer (some ⟨V.bb, 0, none⟩), .slice sa set.length sc] W (PlaceIs W lim g0 g1 g2 g3 kind b set V.bb) := by
  obtain ⟨w1, hw1⟩ : ∃ w1, W.alloc (.cells Tryd.zeroCells70 70) = w1 := ⟨_, rfl⟩
  have g1' : Grew W w1 := hw1 ▸ grew_alloc W _
  have o1 : Owns w1 W.heap.size (partL ⟨0, 0, false⟩) 70 := hw1 ▸ zpart_owns W
  have hN1 := hN.grew g1'
  have hbx := hN1.box
  have k5 := hbx.cell_at (i := 5) rfl
  have k7 := hbx.cell_at (i := 7) rfl
  have lb := hbx.lt
  have f7 := hbx.free 7
  obtain ⟨oa, oc, hov⟩ := loose_form hN.out
  have hfew := hb.few
  obtain ⟨w2, hw2⟩ : ∃ w2, w1.setCell ⟨V.bb, 7, none⟩ (.bool true) = w2 := ⟨_, rfl⟩
  have b2 : But (fun k => k = V.bb) w1 w2 := hw2 ▸ set_but hbx
  have o2 : Owns w2 V.bb [g0, g1, g2, g3, .int .i64 kind, V.ov, .int .i64 b.steps, .bool true] 62 := by
    have := hbx.set 7 (.bool true)
    rw [hw2] at this
    exact this
  have O1 := Lib.hid (b2.owns o1 (fun e => owns_ne hbx o1 (by decide) e.symm))
  have HN2 := Lib.hid (hN1.boxed b2 o2)
  have HK2 := Lib.hid ((KpF.grew g1' hN.low).trans (KpF.bld b2 hN1.low hN.blo hbx (.inl rfl)))
  have k7' := o2.cell_at (i := 7) rfl
  have lb' := o2.lt
  have HL := Lib.hid hN.low
  have hpl : b.place kind set = (⟨0, 0, false⟩, { b with full := true }) := by unfold NB.place; rw [if_pos hf]
  have HX : Hid (∀ e W', e = .returned (partV ⟨0, 0, false⟩) → KpF lim W W' → NBAt W' lim g0 g1 g2 g3 kind V ⟨b.out, b.steps, true⟩ → PlaceIs W lim g0 g1 g2 g3 kind b set V.bb e W') := Lib.hid fun e W' h1 h2 h3 => by
    unfold PlaceIs
    rw [hpl]
    exact ⟨h1, h2, V, rfl, h3⟩
  rw [hov] at k5
  obtain ⟨n, hn⟩ : ∃ n, b.out.length = n := ⟨_, rfl⟩
  rw [hn] at k5 hf hfew
  obtain ⟨fl, hfl⟩ : ∃ fl, b.full = fl := ⟨_, rfl⟩
  rw [hfl] at k7 hf
  clear hN hN1 hbx o1 b2 o2 g1' hpl hb hov hn hfl
  cases fl
  · have hn4 : n = 4096 := by
      rw [Bool.false_or, decide_eq_true_eq] at hf
      omega
    subst hn4
    go_enter Tryd.func34, Tryd.ntmps34
    go_upto_region 3 with fail
    clear hw1 hw2
    apply wp_region_lit
    refine wpList_runV rfl (partV ⟨0, 0, false⟩) (exec_build_zero rfl) ?_
    simp only [Act.put, List.setIfInBounds_toArray, List.set_cons_zero, List.set_cons_succ]
    refine wpList_store_part O1.out rfl _ _ rfl rfl rfl ?_
    intro w4 o4 b4
    simp only [Act.put]
    have O4 := Lib.hid o4
    have HN4 := Lib.hid (HN2.out.other O1.out (by unfold BldT; decide) (by decide) b4)
    have HK4 := Lib.hid (HK2.out.fresh b4 (by omega) HL.out)
    clear o4 b4
    go_wp2_with fail
    exact bodyPost_ret (ret_part rfl _ O4.out rfl) rfl (HX.out _ _ rfl HK4.out HN4.out)
  · go_enter Tryd.func34, Tryd.ntmps34
    go_upto_region 3 with fail
    clear hw1 hw2
    apply wp_region_lit
    refine wpList_runV rfl (partV ⟨0, 0, false⟩) (exec_build_zero rfl) ?_
    simp only [Act.put, List.setIfInBounds_toArray, List.set_cons_zero, List.set_cons_succ]
    refine wpList_store_part O1.out rfl _ _ rfl rfl rfl ?_
    intro w4 o4 b4
    simp only [Act.put]
    have O4 := Lib.hid o4
    have HN4 := Lib.hid (HN2.out.other O1.out (by unfold BldT; decide) (by decide) b4)
    have HK4 := Lib.hid (HK2.out.fresh b4 (by omega) HL.out)
    clear o4 b4
    go_wp2_with fail
    exact bodyPost_ret (ret_part rfl _ O4.out rfl) rfl (HX.out _ _ rfl HK4.out HN4.out)
theorem loose_lower {w : World} {base base' e size n : Nat} {v : Value} {xs : List Value} (h : looseRow w base e size v n xs) (hb : base' ≤ base) : looseRow w base' e size v n xs :=
  ⟨h.1, h.2.imp id fun ⟨g, cap, cur, h1, h2, h3⟩ => ⟨g, cap, cur, h1, Nat.le_trans hb h2, h3⟩⟩
def SetR (L : Nat) (set : List (Int × Int)) (v : Value) (w : World) : Prop := looseRow w L 58 2 v set.length (rgVs set)
theorem SetR.keep {L : Nat} {set : List (Int × Int)} {v : Value} {w w' : World} (h : SetR L set v w) (hg : Grew w w') : SetR L set v w' := (But.of_grew (F := fun _ => False) hg).row h fun _ _ e => e
def PlR (L : Nat) (set : List (Int × Int)) (kind : Int) (v : Value) (w : World) : Prop := ∃ sa sc, v = .agg #[.slice sa set.length sc, .int .i64 kind, .bool false, .slice none 0 0] ∧ SetR L set (.slice sa set.length sc) w
theorem PlR.keep {L : Nat} {set : List (Int × Int)} {kind : Int} {v : Value} {w w' : World} (h : PlR L set kind v w) (hg : Grew w w') : PlR L set kind v w' := by
  obtain ⟨sa, sc, h1, h2⟩ := h
  exact ⟨sa, sc, h1, h2.keep hg⟩
def MvR (L : Nat) (set : List (Int × Int)) (kind : Int) (v : Value) (w : World) : Prop := ∃ sv, v = .agg (madeL ⟨set, kind, 0⟩ sv).toArray ∧ SetR L set sv w
theorem MvR.keep {L : Nat} {set : List (Int × Int)} {kind : Int} {v : Value} {w w' : World} (h : MvR L set kind v w) (hg : Grew w w') : MvR L set kind v w' := by
  obtain ⟨sv, h1, h2⟩ := h
  exact ⟨sv, h1, h2.keep hg⟩
def MdR (L : Nat) (set : List (Int × Int)) (kind : Int) (v : Value) (w : World) : Prop := ∃ mb sv, v = .pointer (some ⟨mb, 0, none⟩) ∧ L ≤ mb ∧ Owns w mb (madeL ⟨set, kind, 0⟩ sv) 76 ∧ SetR L set sv w
theorem MdR.keep {L : Nat} {set : List (Int × Int)} {kind : Int} {v : Value} {w w' : World} (h : MdR L set kind v w) (hg : Grew w w') : MdR L set kind v w' := by
  obtain ⟨mb, sv, h1, h2, h3, h4⟩ := h
  exact ⟨mb, sv, h1, h2, h3.keep hg, h4.keep hg⟩
def TbR (L : Nat) (set : List (Int × Int)) (kind : Int) (v : Value) (w : World) : Prop := ∃ tb mb, v = .slice (some ⟨tb, 0, none⟩) 1 1 ∧ L ≤ tb ∧ Owns w tb [.pointer (some ⟨mb, 0, none⟩)] 74 ∧ MdR L set kind (.pointer (some ⟨mb, 0, none⟩)) w
theorem TbR.keep {L : Nat} {set : List (Int × Int)} {kind : Int} {v : Value} {w w' : World} (h : TbR L set kind v w) (hg : Grew w w') : TbR L set kind v w' := by
  obtain ⟨tb, mb, h1, h2, h3, h4⟩ := h
  exact ⟨tb, mb, h1, h2, h3.keep hg, h4.keep hg⟩
theorem exec_build_place {ev : Operand → Value} {o : Oper} {w : World} {sa : Option Addr} {sl sc : Nat} {kind : Int} {x y : Operand} (ho : o.op = .build 48 #[(0, x), (1, y)]) (hx : ev x = .slice sa sl sc) (hy : ev y = .int .i64 kind) : (execOp ev o).run Tryd.prog w = .ok (.value (.agg #[.slice sa sl sc, .int .i64 kind, .bool false, .slice none 0 0])) w := by
  have h : (Instr.build 48 #[(0, .slice sa sl sc), (1, .int .i64 kind)]).run Tryd.prog w = .ok (.agg #[.slice sa sl sc, .int .i64 kind, .bool false, .slice none 0 0]) w := by kernel_rfl
  unfold execOp
  simp only [ho, List.map_toArray, List.map_cons, List.map_nil, hx, hy, Sem.run_bind, h, Result.andThen_ok, Sem.run_pure]
theorem exec_build_made {ev : Operand → Value} {o : Oper} {w : World} {sa : Option Addr} {sl sc : Nat} {set : List (Int × Int)} {kind : Int} {x : Operand} (ho : o.op = .build 76 #[(0, x)]) (hx : ev x = .agg #[.slice sa sl sc, .int .i64 kind, .bool false, .slice none 0 0]) : (execOp ev o).run Tryd.prog w = .ok (.value (.agg (madeL ⟨set, kind, 0⟩ (.slice sa sl sc)).toArray)) w := by
  have h : (Instr.build 76 #[(0, .agg #[.slice sa sl sc, .int .i64 kind, .bool false, .slice none 0 0])]).run Tryd.prog w = .ok (.agg (madeL ⟨set, kind, 0⟩ (.slice sa sl sc)).toArray) w := by kernel_rfl
  unfold execOp
  simp only [ho, List.map_toArray, List.map_cons, List.map_nil, hx, Sem.run_bind, h, Result.andThen_ok, Sem.run_pure]
theorem exec_box_made {ev : Operand → Value} {o : Oper} {w : World} {set : List (Int × Int)} {kind : Int} {sv : Value} {x : Operand} (ho : o.op = .box 76 x) (hx : ev x = .agg (madeL ⟨set, kind, 0⟩ sv).toArray) : (execOp ev o).run Tryd.prog w = .ok (.value (.pointer (some ⟨w.heap.size, 0, none⟩))) (w.alloc (.cells (madeL ⟨set, kind, 0⟩ sv).toArray 76)) := by
  have h : (Instr.box 76 (.agg (madeL ⟨set, kind, 0⟩ sv).toArray)).run Tryd.prog w = .ok (.pointer (some ⟨w.heap.size, 0, none⟩)) (w.alloc (.cells (madeL ⟨set, kind, 0⟩ sv).toArray 76)) := by kernel_rfl
  unfold execOp
  simp only [ho, hx, Sem.run_bind, h, Result.andThen_ok, Sem.run_pure]
theorem exec_slice_made {ev : Operand → Value} {o : Oper} {w : World} {mb : Nat} {x : Operand} (ho : o.op = .buildSlice 60 1 #[(0, x)]) (hx : ev x = .pointer (some ⟨mb, 0, none⟩)) : (execOp ev o).run Tryd.prog w = .ok (.value (.slice (some ⟨w.heap.size, 0, none⟩) 1 1)) (w.alloc (.cells #[.pointer (some ⟨mb, 0, none⟩)] 74)) := by
  have h : (Instr.buildSlice 60 1 #[(0, .pointer (some ⟨mb, 0, none⟩))]).run Tryd.prog w = .ok (.slice (some ⟨w.heap.size, 0, none⟩) 1 1) (w.alloc (.cells #[.pointer (some ⟨mb, 0, none⟩)] 74)) := by kernel_rfl
  unfold execOp
  simp only [ho, List.map_toArray, List.map_cons, List.map_nil, hx, Sem.run_bind, h, Result.andThen_ok, Sem.run_pure]
theorem info_pmade : (Tryd.prog.info? 74).map (fun i => (i.zero, i.size, i.bytes)) = some (some (.pointer none), 1, 8) := by kernel_rfl
theorem grown_but {w w' : World} {row : Option Nat} (h : w.grownBy w' row) : But (fun k => row = some k) w w' :=
  ⟨h.os, h.tape, h.output, h.size, fun k hk hn => h.block k hk fun e => hn e.symm⟩
theorem wpOp_at {P : Program} {ops : Array Oper} {Q : Exit → Act → World → Prop} {i : Nat} {K : Act → World → Prop} {a : Act} {w : World} {o : Oper} (hi : ops[i]? = some o) (hw : Region.wanted o (yielded ops a.tmps) = true) (h : o.wp P a w K Q) : wpOp P ops Q i K a w := by
  unfold wpOp
  rw [hi]
  simp only [hw, if_true]
  exact .inl h
theorem wp_store {P : Program} {o : Oper} {a : Act} {w w' : World} {K : Act → World → Prop} {Q : Exit → Act → World → Prop} {t : TypeId} {x y : Operand} (ho : o.op = .store t x y) (p v : Value) (hp : a.eval x = p) (hv : a.eval y = v) (hr : (Instr.storeAt t p v).run P w = .ok () w') (hk : K (a.put o.dst undef) w') : o.wp P a w K Q := by
  subst hp
  subst hv
  unfold Oper.wp execOp
  simp only [ho, Sem.run_bind, hr, Result.andThen_ok, Sem.run_pure]
  exact hk
theorem exec_build_one {ev : Operand → Value} {o : Oper} {w : World} {a c : Nat} {x : Operand} (ho : o.op = .build 70 #[(0, x)]) (hx : ev x = endsV a c) : (execOp ev o).run Tryd.prog w = .ok (.value (partV ⟨a, c, false⟩)) w := by
  have h : (Instr.build 70 #[(0, endsV a c)]).run Tryd.prog w = .ok (partV ⟨a, c, false⟩) w := by kernel_rfl
  unfold execOp
  simp only [ho, List.map_toArray, List.map_cons, List.map_nil, hx, Sem.run_bind, h, Result.andThen_ok, Sem.run_pure]
theorem owns_newsP {w : World} {b T : Nat} {cs : List Value} (h : Owns w b cs T) : ∀ j u, cs[j]? = some u → w.cell? ((⟨b, 0, none⟩ : Addr).add j) = some u := by
  intro j u hj
  rw [padd_off, Nat.zero_add, h.cell, hj]
theorem run_store_pm {w : World} {b i : Nat} {z : Value} (h0 : w.cell? ⟨b, i, none⟩ = some z) (hf : w.frozen? ⟨b, i, none⟩ = false) (a : Option Addr) (n c : Nat) :
    (Instr.storeAt 60 (.pointer (some ⟨b, i, none⟩)) (.slice a n c)).run Tryd.prog w = .ok () (w.setCell ⟨b, i, none⟩ (.slice a n c)) := by
  go_simp
/-- a row of places' pointers is appended to -/
theorem KpF.app {lim : Nat} {A B : World} {v : Value} {n : Nat} {xs : List Value} (hr : looseRow A lim 74 1 v n xs) (hl : lim ≤ A.heap.size) (hg : A.grownBy B v.ownBlock) : KpF lim A B := by
  have hb := grown_but hg
  refine ⟨But.below hb hl fun q e => (row_type hr e).1, fun b cs T f hA hT => ?_, fun b s p hA => ?_⟩
  · rw [hb.block b (Array.getElem?_eq_some_iff.1 hA).1 (fun e => by
      obtain ⟨-, -, cur, hc⟩ := row_type hr e
      rw [hc] at hA
      simp only [Option.some.injEq, Obj.cells.injEq] at hA
      exact hT (.inr (.inr hA.2.1.symm)))]
    exact hA
  · rw [hb.block b (Array.getElem?_eq_some_iff.1 hA).1 (fun e => by
      obtain ⟨-, -, cur, hc⟩ := row_type hr e
      rw [hc] at hA
      cases hA)]
    exact hA
theorem ptrsN_snoc (V : NBV) (n mb : Nat) (ov : Value) (sv : Nat → Value) : ptrsN ⟨V.bb, ov, fun i => if i = n then mb else V.mb i, sv⟩ (n + 1) = ptrsN V n ++ [.pointer (some ⟨mb, 0, none⟩)] := by
  unfold ptrsN
  rw [List.range_succ, List.map_append, List.map_singleton]
  dsimp only
  rw [if_pos rfl]
  congr 1
  refine List.map_congr_left fun i hi => ?_
  have : i ≠ n := by have := List.mem_range.1 hi; omega
  rw [if_neg this]
/-- one place more -/
theorem NBAt.snoc {w10 w11 : World} {lim : Nat} {g0 g1 g2 g3 : Value} {kind : Int} {V : NBV} {b : NB} (h : NBAt w10 lim g0 g1 g2 g3 kind V b) {p : NPl} {mb : Nat} {sv : Value} (hm : Owns w10 mb (madeL p sv) 76) (hml : lim ≤ mb) (hnew : ∀ i, i < b.out.length → V.mb i ≠ mb) (hs : looseRow w10 lim 58 2 sv p.set.length (rgVs p.set))
    {gb cap : Nat} (hown : looseRow w11 lim 74 1 (.slice (some ⟨gb, 0, none⟩) (b.out.length + 1) cap) (b.out.length + 1) (ptrsN V b.out.length ++ [.pointer (some ⟨mb, 0, none⟩)])) (hgrow : w10.grownBy w11 V.ov.ownBlock) :
    NBAt (w11.setCell ⟨V.bb, 5, none⟩ (.slice (some ⟨gb, 0, none⟩) (b.out.length + 1) cap)) lim g0 g1 g2 g3 kind ⟨V.bb, .slice (some ⟨gb, 0, none⟩) (b.out.length + 1) cap, fun i => if i = b.out.length then mb else V.mb i, fun i => if i = b.out.length then sv else V.sv i⟩ { b with out := b.out ++ [p] } ∧ KpF lim w10 (w11.setCell ⟨V.bb, 5, none⟩ (.slice (some ⟨gb, 0, none⟩) (b.out.length + 1) cap)) := by
  have hb := grown_but hgrow
  have hbx := hb.owns h.box (fun e => row_owns_ne h.out h.box (by decide) _ e rfl)
  have hb2 : But (fun k => k = V.bb) w11 (w11.setCell ⟨V.bb, 5, none⟩ (.slice (some ⟨gb, 0, none⟩) (b.out.length + 1) cap)) := set_but hbx
  have hbx2 := hbx.set 5 (.slice (some ⟨gb, 0, none⟩) (b.out.length + 1) cap)
  have hl11 : lim ≤ w11.heap.size := Nat.le_trans h.low hb.size
  have mv : ∀ {q : Nat} {cs : List Value}, Owns w10 q cs 76 → Owns (w11.setCell ⟨V.bb, 5, none⟩ (.slice (some ⟨gb, 0, none⟩) (b.out.length + 1) cap)) q cs 76 := fun {q cs} ho => by
    have h1 := hb.owns ho (fun e => row_owns_ne h.out ho (by decide) _ e rfl)
    exact hb2.owns h1 (owns_ne h1 hbx (by decide))
  have sv' : ∀ {v : Value} {n : Nat} {xs : List Value}, looseRow w10 lim 58 2 v n xs → looseRow (w11.setCell ⟨V.bb, 5, none⟩ (.slice (some ⟨gb, 0, none⟩) (b.out.length + 1) cap)) lim 58 2 v n xs := fun {v n xs} hr => by
    have h1 := hb.row hr fun k hk e => type_ne (row_type hr hk).2.2 (row_type h.out e).2.2 (by decide) rfl
    exact hb2.row h1 fun k hk e => row_owns_ne h1 hbx (by decide) k hk e
  refine ⟨⟨Nat.le_trans hl11 hb2.size, h.blo, hbx2, ?_, fun i hi => ?_, fun i hi => ?_, fun i j hi hj e => ?_⟩, (KpF.app h.out h.low hgrow).trans (KpF.bld hb2 hl11 h.blo hbx (.inl rfl))⟩
  · dsimp only
    rw [List.length_append, List.length_singleton, ptrsN_snoc V _ mb]
    exact hb2.row hown fun k hk e => row_owns_ne hown hbx (by decide) k hk e
  · simp only [List.length_append, List.length_singleton] at hi
    dsimp only
    by_cases e : i = b.out.length
    · subst e
      rw [if_pos rfl, if_pos rfl, List.getElem_append_right (Nat.le_refl _)]
      simp only [Nat.sub_self, List.getElem_cons_zero]
      exact ⟨hml, mv hm⟩
    · have hi' : i < b.out.length := by omega
      rw [if_neg e, if_neg e, List.getElem_append_left hi']
      exact ⟨(h.made i hi').1, mv (h.made i hi').2⟩
  · simp only [List.length_append, List.length_singleton] at hi
    dsimp only
    by_cases e : i = b.out.length
    · subst e
      rw [if_pos rfl, List.getElem_append_right (Nat.le_refl _)]
      simp only [Nat.sub_self, List.getElem_cons_zero]
      exact sv' hs
    · have hi' : i < b.out.length := by omega
      rw [if_neg e, List.getElem_append_left hi']
      exact sv' (h.set i hi')
  · simp only [List.length_append, List.length_singleton] at hi hj
    dsimp only at e
    by_cases e1 : i = b.out.length
    · by_cases e2 : j = b.out.length
      · omega
      · rw [if_pos e1, if_neg e2] at e
        exact absurd e.symm (hnew j (by omega))
    · by_cases e2 : j = b.out.length
      · rw [if_neg e1, if_pos e2] at e
        exact absurd e (hnew i (by omega))
      · rw [if_neg e1, if_neg e2] at e
        exact h.inj i j (by omega) (by omega) e
theorem pow_u64 {r : Nat} (hr : r < 64) : IntKind.u64.wrap (2 ^ r) = ((2 ^ r : Nat) : Int) := by
  have hp : 2 ^ r < 18446744073709551616 := Nat.pow_lt_pow_right (a := 2) (n := 64) (by omega) hr
  have e : (2 : Int) ^ r = ((2 ^ r : Nat) : Int) := by norm_cast
  rw [e]
  generalize 2 ^ r = q at *
  exact wrap_u64 (by omega) (by omega)
set_option maxHeartbeats 4000000 in
set_option maxRecDepth 20000 in
theorem nplace_new (W : World) (lim : Nat) (g0 g1 g2 g3 : Value) (kind : Int) (V : NBV) (b : NB) (hN : NBAt W lim g0 g1 g2 g3 kind V b) (set : List (Int × Int)) (hsl : set.length ≤ 1000000) (sa : Option Addr) (sc : Nat) (hS : ∀ w, KpF lim W w → RangesAt w w.heap.size sa 0 set) (hf : b.full = false) (hn : b.out.length < 4096) :
    Calls Tryd.prog 34 #[.pointer (some ⟨V.bb, 0, none⟩), .slice sa set.length sc] W (PlaceIs W lim g0 g1 g2 g3 kind b set V.bb) := by
  obtain ⟨w1, hw1⟩ : ∃ w1, W.alloc (.cells Tryd.zeroCells70 70) = w1 := ⟨_, rfl⟩
  have g1' : Grew W w1 := hw1 ▸ grew_alloc W _
  have o1 : Owns w1 W.heap.size (partL ⟨0, 0, false⟩) 70 := hw1 ▸ zpart_owns W
  have hN1 := hN.grew g1'
  have hbx := hN1.box
  have k5 := hbx.cell_at (i := 5) rfl
  have k7 := hbx.cell_at (i := 7) rfl
  have lb := hbx.lt
  have f7 := hbx.free 7
  obtain ⟨oa, oc, hov⟩ := loose_form hN.out
  obtain ⟨w2, hw2⟩ : ∃ w2, w1.setCell ⟨V.bb, 7, none⟩ (.bool false) = w2 := ⟨_, rfl⟩
  have b2 : But (fun k => k = V.bb) w1 w2 := hw2 ▸ set_but hbx
  have o2 : Owns w2 V.bb [g0, g1, g2, g3, .int .i64 kind, V.ov, .int .i64 b.steps, .bool false] 62 := by
    have := hbx.set 7 (.bool false)
    rw [hw2] at this
    exact this
  have o12 := b2.owns o1 (fun e => owns_ne hbx o1 (by decide) e.symm)
  have hN2 := hN1.boxed b2 o2
  have hK2 := (KpF.grew g1' hN.low).trans (KpF.bld b2 hN1.low hN.blo hbx (.inl rfl))
  obtain ⟨w3, hw3⟩ : ∃ w3, w2.alloc (.cells #[.int .u64 0, .int .u64 0, .int .u64 0, .int .u64 0, .int .u64 0, .int .u64 0, .int .u64 0, .int .u64 0, .int .u64 0, .int .u64 0, .int .u64 0, .int .u64 0, .int .u64 0, .int .u64 0, .int .u64 0, .int .u64 0, .int .u64 0, .int .u64 0, .int .u64 0, .int .u64 0, .int .u64 0, .int .u64 0, .int .u64 0, .int .u64 0, .int .u64 0, .int .u64 0, .int .u64 0, .int .u64 0, .int .u64 0, .int .u64 0, .int .u64 0, .int .u64 0, .int .u64 0, .int .u64 0, .int .u64 0, .int .u64 0, .int .u64 0, .int .u64 0, .int .u64 0, .int .u64 0, .int .u64 0, .int .u64 0, .int .u64 0, .int .u64 0, .int .u64 0, .int .u64 0, .int .u64 0, .int .u64 0, .int .u64 0, .int .u64 0, .int .u64 0, .int .u64 0, .int .u64 0, .int .u64 0, .int .u64 0, .int .u64 0, .int .u64 0, .int .u64 0, .int .u64 0, .int .u64 0, .int .u64 0, .int .u64 0, .int .u64 0, .int .u64 0] 65) = w3 := ⟨_, rfl⟩
  have g3' : Grew w2 w3 := hw3 ▸ grew_alloc w2 _
  obtain ⟨p5, hp5⟩ : ∃ p, w2.heap.size = p := ⟨_, rfl⟩
  have o3 : Owns w3 p5 (wdL 0) 65 := hp5 ▸ hw3 ▸ zsome_owns w2
  have HP5 := Lib.hid (show W.heap.size < p5 by have := o12.lt; omega)
  have k7' := o2.cell_at (i := 7) rfl
  have lb' := o2.lt
  have HSR := Lib.hid hS
  have HN3 := Lib.hid (hN2.grew g3')
  have HK3 := Lib.hid (hK2.trans (KpF.grew g3' hN2.low))
  have HO1 := Lib.hid (o12.keep g3')
  have HO3 := Lib.hid o3
  have HL := Lib.hid hN.low
  have hbx3 := HN3.out.box
  have k35 := hbx3.cell_at (i := 5) rfl
  have lb3 := hbx3.lt
  have l3 := o3.lt
  have HOV := Lib.hid hov
  rw [hov] at k5 k35
  rw [hf] at k7
  have HF := Lib.hid hf
  obtain ⟨n, hnn⟩ : ∃ n, b.out.length = n := ⟨_, rfl⟩
  have HNN := Lib.hid hnn
  rw [hnn] at k5 k35 hn
  clear hN hN1 hbx o1 b2 o2 g1' hov hnn hf hN2 hK2 g3' o12 hbx3 hS
  have d4 : decide ((4096 : Int) ≤ (n : Int)) = false := decide_eq_false (by omega)
  go_enter Tryd.func34, Tryd.ntmps34
  go_upto_region 5 with fail
  clear hw1 hw2 hw3 hp5 k5 k7 f7 k7' lb lb'
  have q1 : (n : Int) / 64 = ((n / 64 : Nat) : Int) := by omega
  have q2 : (n : Int) % 64 = ((n % 64 : Nat) : Int) := by omega
  have q3 : IntKind.u64.wrap (2 ^ min (n % 64) 64) = ((2 ^ (n % 64) : Nat) : Int) := by
    rw [Nat.min_eq_left (by omega)]
    exact pow_u64 (by omega)
  have q4 : n / 64 < 64 := by omega
  have HBIT := Lib.hid (wdL_bit n)
  have o3c := HO3.out.cell_at (i := n / 64) (wdL_get 0 q4)
  obtain ⟨v, hv⟩ : ∃ v : Int, ((2 ^ (n % 64) : Nat) : Int) = v := ⟨_, rfl⟩
  rw [hv] at q3 HBIT
  obtain ⟨j, hj⟩ : ∃ j, n / 64 = j := ⟨_, rfl⟩
  rw [hj] at q1 q4 HBIT o3c
  clear hv hj
  refine wp_region_hav_lit follows (by kernel_rfl) ?_
  repeat (first
    | (refine HavG.skip (fun _ => rfl) ?_; simp only [Act.put, List.setIfInBounds_toArray, List.set_cons_zero, List.set_cons_succ])
    | (refine HavG.val (fun _ => rfl) ?_ (fun x w hw _ => ?_) ?_; rotate_left; (focus (have hc := hw.cells; clear hw; go_simp; first | done | rfl)); simp only [Act.put, List.setIfInBounds_toArray, List.set_cons_zero, List.set_cons_succ]))
  refine HavG.tail (by kernel_rfl) (by kernel_rfl) (fun x w4 hw4 _ => ?_)
  have o4 := HO3.out.keep hw4
  have f4 := o4.free j
  have c4 := o4.cell_at (i := j) (wdL_get 0 q4)
  have l4 := o4.lt
  obtain ⟨w5, hw5⟩ : ∃ w5, w4.setCell ⟨p5, j, none⟩ (.int .u64 v) = w5 := ⟨_, rfl⟩
  have b5 : But (fun k => k = p5) w4 w5 := hw5 ▸ set_but o4
  have HO5 := Lib.hid (show Owns w5 p5 (wdL (2 ^ n)) 65 by rw [← HBIT.out, ← hw5]; exact o4.set j _)
  have HN5 := Lib.hid ((HN3.out.grew hw4).other o4 (by unfold BldT; decide) (by decide) b5)
  have HK5 := Lib.hid ((HK3.out.trans (KpF.grew hw4 HN3.out.low)).fresh b5 (by have := HP5.out; omega) HL.out)
  have HR5 := Lib.hid (b5.owns (HO1.out.keep hw4) (by have := HP5.out; omega))
  clear o4 b5 hw4 o3c lb3 l3 k35
  go_upto_region 6 with fail
  clear hw5 f4 c4 l4 HO3 HN3 HK3 HO1 q1 q2 q3 q4 d4 HBIT
  have hbx5 := HN5.out.box
  have k4 := hbx5.cell_at (i := 4) rfl
  have k5 := hbx5.cell_at (i := 5) rfl
  have lb := hbx5.lt
  rw [HOV.out, HNN.out] at k5
  have HS5 : Hid (∀ w, Grew w5 w → RangesAt w w.heap.size sa 0 set) := Lib.hid fun w hw => HSR.out w (HK5.out.trans (KpF.grew hw HN5.out.low))
  have HCLN : Hid (∀ w, Grew w5 w → Calls Tryd.prog 53 #[.slice sa set.length sc] w (Cloned w 58 2 set.length (rgVs set))) := Lib.hid fun w hw => cloneRg_ok set w sa sc hsl (HS5.out w hw)
  refine wp_region_havA_lit follows (by kernel_rfl) ?_
  iterate 6 (first
    | (refine HavA.skip (fun _ => rfl) ?_; simp only [Act.put, List.setIfInBounds_toArray, List.set_cons_zero, List.set_cons_succ])
    | (refine HavA.val (fun _ => rfl) ?_ (fun x w hw _ => ?_) ?_; rotate_left; (focus (have hc := hw.cells; clear hw; go_simp; first | done | rfl)); simp only [Act.put, List.setIfInBounds_toArray, List.set_cons_zero, List.set_cons_succ]))
  refine HavA.any (fun _ => rfl) (SetR w5.heap.size set) (fun _ _ _ hg h => h.keep hg) (fun x w hw hd => ?_) ?_
  · clear hd
    have HW := Lib.hid hw
    clear hw
    go_simp
    refine (HCLN.out w HW.out).mono ?_
    rintro e w' ⟨u, rfl, hr, hg⟩
    exact ⟨hg, loose_lower hr HW.out.size⟩
  simp only [Act.put, List.setIfInBounds_toArray, List.set_cons_zero, List.set_cons_succ]
  refine HavA.any (fun _ => rfl) (SetR w5.heap.size set) (fun _ _ _ hg h => h.keep hg) (fun x w hw hd => ?_) ?_
  · have hd5 := hd _ (List.mem_append_right _ (List.mem_singleton.2 rfl)) (by kernel_rfl)
    dsimp only at hd5
    clear hd hw
    generalize x _ = y5 at *
    have HC := Lib.hid (clipRg_ok w _ _ y5 _ hd5)
    clear hd5
    go_simp
    refine HC.out.mono ?_
    rintro e w' ⟨⟨u, rfl, hr, -⟩, rfl⟩
    exact ⟨Grew.refl _, hr⟩
  simp only [Act.put, List.setIfInBounds_toArray, List.set_cons_zero, List.set_cons_succ]
  iterate 4 (first
    | (refine HavA.skip (fun _ => rfl) ?_; simp only [Act.put, List.setIfInBounds_toArray, List.set_cons_zero, List.set_cons_succ])
    | (refine HavA.val (fun _ => rfl) ?_ (fun x w hw _ => ?_) ?_; rotate_left; (focus (have hc := hw.cells; clear hw; go_simp; first | done | rfl)); simp only [Act.put, List.setIfInBounds_toArray, List.set_cons_zero, List.set_cons_succ]))
  refine HavA.any (fun _ => rfl) (PlR w5.heap.size set kind) (fun _ _ _ hg h => h.keep hg) (fun x w hw hd => ?_) ?_
  · have hd5 := hd _ (List.mem_append_right _ (List.mem_singleton.2 rfl)) (by kernel_rfl)
    dsimp only at hd5
    clear hd hw
    obtain ⟨xa, xc, hx⟩ := loose_form hd5
    rw [exec_build_place (kind := kind) rfl hx rfl]
    exact ⟨Grew.refl _, xa, xc, rfl, hx ▸ hd5⟩
  simp only [Act.put, List.setIfInBounds_toArray, List.set_cons_zero, List.set_cons_succ]
  refine HavA.any (fun _ => rfl) (MvR w5.heap.size set kind) (fun _ _ _ hg h => h.keep hg) (fun x w hw hd => ?_) ?_
  · have hd5 := hd _ (List.mem_append_right _ (List.mem_singleton.2 rfl)) (by kernel_rfl)
    dsimp only at hd5
    clear hd hw
    obtain ⟨xa, xc, hx, hs⟩ := hd5
    rw [exec_build_made (set := set) (kind := kind) rfl hx]
    exact ⟨Grew.refl _, _, rfl, hs⟩
  simp only [Act.put, List.setIfInBounds_toArray, List.set_cons_zero, List.set_cons_succ]
  refine HavA.any (fun _ => rfl) (MdR w5.heap.size set kind) (fun _ _ _ hg h => h.keep hg) (fun x w hw hd => ?_) ?_
  · have hd5 := hd _ (List.mem_append_right _ (List.mem_singleton.2 rfl)) (by kernel_rfl)
    dsimp only at hd5
    clear hd
    obtain ⟨sv, hx, hs⟩ := hd5
    rw [exec_box_made (set := set) (kind := kind) rfl hx]
    exact ⟨grew_alloc w _, w.heap.size, sv, rfl, hw.size, Owns.alloc w _ _, hs.keep (grew_alloc w _)⟩
  simp only [Act.put, List.setIfInBounds_toArray, List.set_cons_zero, List.set_cons_succ]
  refine HavA.any (fun _ => rfl) (TbR w5.heap.size set kind) (fun _ _ _ hg h => h.keep hg) (fun x w hw hd => ?_) ?_
  · have hd5 := hd _ (List.mem_append_right _ (List.mem_singleton.2 rfl)) (by kernel_rfl)
    dsimp only at hd5
    clear hd
    obtain ⟨mb, sv, hx, h1, h2, h3⟩ := hd5
    rw [exec_slice_made rfl hx]
    exact ⟨grew_alloc w _, w.heap.size, mb, rfl, hw.size, Owns.alloc w _ _, mb, sv, rfl, h1, h2.keep (grew_alloc w _), h3.keep (grew_alloc w _)⟩
  simp only [Act.put, List.setIfInBounds_toArray, List.set_cons_zero, List.set_cons_succ]
  refine HavA.tail0 (by kernel_rfl) (by kernel_rfl) (fun _ _ d _ _ h => by cases d <;> exact h) (by decide) (fun x w10 hg hd => ?_)
  obtain ⟨tb, mb, hx, ht1, ht2, mb', sv, hx2, hm1, hm2, hm3⟩ := hd _ (List.mem_append_right _ (List.mem_singleton.2 rfl))
  obtain rfl : mb = mb' := by simpa using hx2
  dsimp only at hx
  simp only [hx]
  clear hd hx hx2
  have hN10 := HN5.out.grew hg
  have hrow := hN10.out
  simp only at hrow
  rw [HOV.out, HNN.out] at hrow
  obtain ⟨i0, hi, hz0, hz1, hz2⟩ := info_parts info_pmade
  have hone : ∀ x ∈ [Value.pointer (some ⟨mb, 0, none⟩)], x.oneCell' = true := fun x hx => by rw [List.mem_singleton.1 hx]; rfl
  have h63 : n + 1 ≤ maxLen := by unfold maxLen; omega
  have h64 : (n + 1) * 8 ≤ 140737488355328 := by omega
  have hbase : lim ≤ w10.heap.size := hN10.low
  have HNEW := Lib.hid (owns_newsP ht2)
  have HROW := Lib.hid hrow
  have HN10 := Lib.hid hN10
  have HK10 := Lib.hid (HK5.out.trans (KpF.grew hg HN5.out.low))
  have HM := Lib.hid hm2
  have HS := Lib.hid hm3
  have HR10 := Lib.hid (HR5.out.keep hg)
  have HO10 := Lib.hid (HO5.out.keep hg)
  have HML : Hid (lim ≤ mb) := Lib.hid (Nat.le_trans HN5.out.low hm1)
  have HMN : Hid (∀ i, i < b.out.length → V.mb i ≠ mb) := Lib.hid fun i hi e => by
    have := (HN5.out.made i hi).2.lt
    omega
  clear hrow hN10 ht1 ht2 hm1 hm2 hm3 hg k4 k5 lb hbx5
  refine wpAny_all (rs := [16]) (by kernel_rfl) (by simp) (fun i hi => ?_)
  obtain rfl := List.mem_singleton.1 hi
  refine wpOp_at rfl rfl ?_
  refine wp_append_loose w10 _ _ 60 rfl lim 74 i0 _ 1 8 Tryd.underlying60 (by assumption) hz0 hz1 hz2 rfl (by decide) _ n (ptrsN V n) rfl HROW.out ⟨tb, 0, none⟩ 1 1 [.pointer (some ⟨mb, 0, none⟩)] rfl rfl HNEW.out hone (by decide) h63 h64 hbase _ rfl ?_
  intro gb cap' w11 hown hgrow hat hlt11
  simp only [List.getElem_toArray, List.getElem_cons_succ, List.getElem_cons_zero, Act.put, List.setIfInBounds_toArray, List.set_cons_zero, List.set_cons_succ]
  refine wpAny_take (i := 17) (v := .pointer (some ⟨V.bb, 0, none⟩)) rfl (by kernel_rfl) (by kernel_rfl) (by kernel_rfl) (fun _ _ _ h => h) (.inl ⟨rfl, fun w => ?_⟩) ?_
  · clear hown hgrow hat hlt11 h63 h64 hz0 hz1 hz2 hbase hone
    go_simp
  simp only [List.getElem_toArray, List.getElem_cons_succ, List.getElem_cons_zero, Act.put, List.setIfInBounds_toArray, List.set_cons_zero, List.set_cons_succ]
  refine wpAny_take (i := 18) (v := .pointer (some ⟨V.bb, 5, none⟩)) rfl (by kernel_rfl) (by kernel_rfl) (by kernel_rfl) (fun _ _ _ h => h) (.inl ⟨rfl, fun w => ?_⟩) ?_
  · clear hown hgrow hat hlt11 h63 h64 hz0 hz1 hz2 hbase hone
    go_simp
  simp only [List.getElem_toArray, List.getElem_cons_succ, List.getElem_cons_zero, Act.put, List.setIfInBounds_toArray, List.set_cons_zero, List.set_cons_succ]
  refine wpAny_all (rs := [19]) (by kernel_rfl) (by simp) (fun i hi => ?_)
  obtain rfl := List.mem_singleton.1 hi
  refine wpOp_at rfl rfl ?_
  have hgr' : w10.grownBy w11 V.ov.ownBlock := by rw [HOV.out, HNN.out]; exact hgrow
  have hbx11 := (grown_but hgr').owns HN10.out.box (fun e => row_owns_ne HN10.out.out HN10.out.box (by decide) _ e rfl)
  have hst := run_store_pm (hbx11.cell_at (i := 5) rfl) (hbx11.free 5) (some ⟨gb, 0, none⟩) (n + 1) cap'
  have hsn := HN10.out.snoc (p := ⟨set, kind, 0⟩) (gb := gb) (cap := cap') HM.out HML.out HMN.out (loose_lower HS.out HN5.out.low) (by simp only; rw [HNN.out]; exact hown) hgr'
  simp only at hsn
  rw [HNN.out] at hsn
  have hR11 := (grown_but hgr').owns HR10.out (fun e => row_owns_ne HN10.out.out HR10.out (by decide) _ e rfl)
  have hO11 := (grown_but hgr').owns HO10.out (fun e => row_owns_ne HN10.out.out HO10.out (by decide) _ e rfl)
  have hb12 : But (fun k => k = V.bb) w11 (w11.setCell ⟨V.bb, 5, none⟩ (.slice (some ⟨gb, 0, none⟩) (n + 1) cap')) := set_but hbx11
  have HR12 := Lib.hid (hb12.owns hR11 (owns_ne hR11 hbx11 (by decide)))
  have HO12 := Lib.hid (hb12.owns hO11 (owns_ne hO11 hbx11 (by decide)))
  have HSN := Lib.hid hsn
  clear hown hgrow hat hlt11 h63 h64 hz0 hz1 hz2 hbase hone hgr' hsn hR11 hO11
  refine wp_store rfl _ _ rfl rfl hst ?_
  simp only [List.getElem_toArray, List.getElem_cons_succ, List.getElem_cons_zero, Act.put]
  refine wpAny_done (by kernel_rfl) ?_ _
  clear hbx11 hb12 hst hi
  generalize w11.setCell ⟨V.bb, 5, none⟩ (.slice (some ⟨gb, 0, none⟩) (n + 1) cap') = w12 at *
  go_upto_region 7 with fail
  apply wp_region_lit
  iterate 2 (refine wpList_load_some HO12.out rfl _ rfl rfl ?_; simp only [Act.put, List.setIfInBounds_toArray, List.set_cons_zero, List.set_cons_succ])
  refine wpList_runV rfl (endsV (2 ^ n) (2 ^ n)) (exec_build_ends rfl rfl rfl) ?_
  simp only [Act.put, List.setIfInBounds_toArray, List.set_cons_zero, List.set_cons_succ]
  refine wpList_runV rfl (partV ⟨2 ^ n, 2 ^ n, false⟩) (exec_build_one rfl rfl) ?_
  simp only [Act.put, List.setIfInBounds_toArray, List.set_cons_zero, List.set_cons_succ]
  refine wpList_store_part HR12.out rfl _ _ rfl rfl rfl ?_
  intro w13 o13 b13
  simp only [Act.put]
  have O13 := Lib.hid o13
  have HN13 := Lib.hid (HSN.out.1.other HR12.out (by unfold BldT; decide) (by decide) b13)
  have HK13 := Lib.hid ((HK10.out.trans HSN.out.2).fresh b13 (Nat.le_refl _) HL.out)
  clear o13 b13
  go_wp2_with fail
  refine bodyPost_ret (ret_part rfl _ O13.out rfl) rfl ?_
  have hpl : b.place kind set = (⟨2 ^ n, 2 ^ n, false⟩, { b with out := b.out ++ [⟨set, kind, 0⟩] }) := by
    unfold NB.place
    rw [if_neg (by rw [HF.out, HNN.out]; simp; omega), HNN.out]
  unfold PlaceIs
  rw [hpl]
  have := HN13.out
  refine ⟨rfl, HK13.out, ⟨V.bb, .slice (some ⟨gb, 0, none⟩) (n + 1) cap', fun i => if i = n then mb else V.mb i, fun i => if i = n then sv else V.sv i⟩, rfl, ?_⟩
  rw [HF.out]
  exact this
theorem nplace_ok (W : World) (lim : Nat) (g0 g1 g2 g3 : Value) (kind : Int) (V : NBV) (b : NB) (hN : NBAt W lim g0 g1 g2 g3 kind V b) (hb : b.Ok) (set : List (Int × Int)) (hsl : set.length ≤ 1000000) (sa : Option Addr) (sc : Nat) (hS : ∀ w, KpF lim W w → RangesAt w w.heap.size sa 0 set) :
    Calls Tryd.prog 34 #[.pointer (some ⟨V.bb, 0, none⟩), .slice sa set.length sc] W (PlaceIs W lim g0 g1 g2 g3 kind b set V.bb) := by
  by_cases h : (b.full || decide (4096 ≤ b.out.length)) = true
  · exact nplace_full W lim g0 g1 g2 g3 kind V b hN hb set sa sc h
  · rw [Bool.or_eq_true, decide_eq_true_eq, not_or] at h
    exact nplace_new W lim g0 g1 g2 g3 kind V b hN set hsl sa sc hS (by simpa using h.1) (by omega)
end Go.Proofs.YtkinlcichclnkaaDoor
