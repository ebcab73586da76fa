/- derives: does a node derive anything? -/
import Derived.Test.YtppjmdanckdobaaGreatDoorQV29
import Derived.Test.YtppjmdanckdobaaGreatDoorQV12
namespace Go.Proofs.YtppjmdanckdobaaGreatDoor
open Go.RowKit
theorem enters95 : Enters 95 := fun _ _ => by kernel_rfl
theorem enters97 : Enters 97 := fun _ _ => by kernel_rfl
theorem xder1_ok (r : Bool) (tb pa : Nat) (v0 v1 v2 v3 v4 : Value) (W : World) (ha : W.cell? ⟨pa, 0, none⟩ = some (.pointer (some ⟨tb, 0, none⟩)))
    (H : ∀ W1, Grew W W1 → Calls Tryz.prog 61 #[.pointer (some ⟨tb, 0, none⟩), .agg #[v0, v1, v2, v3, v4]] W1 fun e W2 => e = .returned (.bool r) ∧ Grew W1 W2) :
    Calls Tryz.prog 95 (#[.agg #[v0, v1, v2, v3, v4]] ++ #[.pointer (some ⟨pa, 0, none⟩)]) W fun e W2 => e = .returned (.bool r) ∧ Below W.heap.size W W2 := by
  have hgr := grew_alloc W (.cells #[v0, v1, v2, v3, v4] 80)
  have hl := lt_of_cell ha
  have hS := Lib.hid (H _ hgr)
  clear H
  simp only [List.append_toArray, List.cons_append, List.nil_append]
  go_enter Tryz.func95, Tryz.ntmps95
  go_wp2_with (go_at_call 61; refine hS.out.mono ?_; rintro e w' ⟨rfl, hb2⟩)
  go_ret
  exact ⟨rfl, hgr.trans hb2⟩
theorem xder2_ok (r : Bool) (tb pa ps : Nat) (v0 v1 v2 v3 v4 : Value) (W : World) (ha : W.cell? ⟨pa, 0, none⟩ = some (.pointer (some ⟨tb, 0, none⟩)))
    (hs : W.cell? ⟨ps, 0, none⟩ = some (.func (.func 95) #[] #[.pointer (some ⟨pa, 0, none⟩)]))
    (H : ∀ W1, Grew W W1 → Calls Tryz.prog 61 #[.pointer (some ⟨tb, 0, none⟩), .agg #[v0, v1, v2, v3, v4]] W1 fun e W2 => e = .returned (.bool r) ∧ Grew W1 W2) :
    Calls Tryz.prog 97 (#[.agg #[v0, v1, v2, v3, v4]] ++ #[.pointer (some ⟨ps, 0, none⟩)]) W fun e W2 => e = .returned (.bool !r) ∧ Below W.heap.size W W2 := by
  have hgr := grew_alloc W (.cells #[v0, v1, v2, v3, v4] 80)
  have hl := lt_of_cell ha
  have hl3 := lt_of_cell hs
  have hS := Lib.hid (xder1_ok r tb pa v0 v1 v2 v3 v4 _ (by rw [hgr.cells _ _ hl]; exact ha) (fun W1 h => H W1 (hgr.trans h)))
  clear H ha
  simp only [List.append_toArray, List.cons_append, List.nil_append]
  go_enter Tryz.func97, Tryz.ntmps97
  go_wp2_with (go_at_call 95; refine hS.out.mono ?_; rintro e w' ⟨rfl, hb2⟩)
  go_ret
  exact ⟨rfl, hgr.trans hb2⟩
theorem not_any_not {l : List Nd} {q : Nd → Bool} : (!l.any fun n => !q n) = l.all q := by
  induction l with
  | nil => rfl
  | cons n r ih => rw [List.any_cons, List.all_cons, ← ih]; cases q n <;> simp
theorem longN_eq {B : Bk} (hf : B.firsts.length = B.bodies.length) (r : Nat) : (if hasR B (r : Int) then (B.firsts.getD ((r : Int)).toNat ⟨-1, []⟩).long else -1) = B.longN r := by
  unfold Bk.longN
  rw [Int.toNat_natCast, List.getD_eq_getElem?_getD]
  by_cases hr : r < B.bodies.length
  · rw [if_pos (by unfold hasR; rw [Bool.and_eq_true, decide_eq_true_eq, decide_eq_true_eq]; omega)]
  · rw [if_neg (by unfold hasR; rw [Bool.and_eq_true, decide_eq_true_eq, decide_eq_true_eq]; omega), List.getElem?_eq_none (by omega)]
    rfl
set_option maxHeartbeats 4000000 in
set_option maxRecDepth 20000 in
theorem xderives_ok (E : XE) (n : Nd) : ∀ (W : World) (v0 v1 v2 v3 v4 : Value), E.Tab W → NodeAt W W.heap.size (some v0) (some v1) (some v2) (some v3) (some v4) n →
    Calls Tryz.prog 61 #[.pointer (some ⟨E.tb, 0, none⟩), .agg #[v0, v1, v2, v3, v4]] W fun e W' => e = .returned (.bool (E.B.dv n)) ∧ Grew W W' := by
  induction n using Nd.ind with
  | h k nm tx set subs ih =>
  intro W v0 v1 v2 v3 v4 hT hN
  rw [NodeAt] at hN
  obtain ⟨hk, h1, h2, h3, h4, h5, ⟨sa, sc, h6, h6', h7⟩, na, nc, h8, h8', h9⟩ := hN
  obtain rfl := Option.some.inj h3
  obtain rfl := Option.some.inj h4
  obtain rfl := Option.some.inj h5
  obtain rfl := Option.some.inj h6
  obtain rfl := Option.some.inj h8
  clear h3 h4 h5 h6 h8 h7
  have hgr : Grew W (((W.alloc (.cells #[.pointer (some ⟨E.tb, 0, none⟩)] 172)).alloc (.cells #[.int .u8 k, .string nm, .string tx, .slice sa set.length sc, .slice na subs.length nc] 80)).alloc (.cells #[.func (.func 95) #[] #[.pointer (some ⟨W.heap.size, 0, none⟩)]] 127)) :=
    ((grew_alloc _ _).trans (grew_alloc _ _)).trans (grew_alloc _ _)
  obtain ⟨w1, hw1⟩ : ∃ w1, w1 = (((W.alloc (.cells #[.pointer (some ⟨E.tb, 0, none⟩)] 172)).alloc (.cells #[.int .u8 k, .string nm, .string tx, .slice sa set.length sc, .slice na subs.length nc] 80)).alloc (.cells #[.func (.func 95) #[] #[.pointer (some ⟨W.heap.size, 0, none⟩)]] 127)) := ⟨_, rfl⟩
  rw [← hw1] at hgr
  have f0 : w1.cell? ⟨W.heap.size, 0, none⟩ = some (.pointer (some ⟨E.tb, 0, none⟩)) := by rw [hw1]; simp [go_sem]
  have f3 : w1.cell? ⟨W.heap.size + 1 + 1, 0, none⟩ = some (.func (.func 95) #[] #[.pointer (some ⟨W.heap.size, 0, none⟩)]) := by rw [hw1]; simp [go_sem]
  have hT1 := hT.keep (hgr.mono hT.low)
  have hM1 : AskEach 95 #[.pointer (some ⟨W.heap.size, 0, none⟩)] w1 subs (fun n => E.B.dv n) := by
    intro i hi W' u0 u1 u2 u3 u4 hg hn
    exact xder1_ok _ E.tb _ u0 u1 u2 u3 u4 W' (by rw [hg.cells _ _ (lt_of_cell f0)]; exact f0)
      (fun W1 h => ih i hi W1 u0 u1 u2 u3 u4 (hT1.keep ((hg.trans h).mono hT1.low)) ((hn.keep h).mono h.size))
  have hM2 : AskEach 97 #[.pointer (some ⟨W.heap.size + 1 + 1, 0, none⟩)] w1 subs (fun n => !E.B.dv n) := by
    intro i hi W' u0 u1 u2 u3 u4 hg hn
    exact xder2_ok _ E.tb _ _ u0 u1 u2 u3 u4 W' (by rw [hg.cells _ _ (lt_of_cell f0)]; exact f0) (by rw [hg.cells _ _ (lt_of_cell f3)]; exact f3)
      (fun W1 h => ih i hi W1 u0 u1 u2 u3 u4 (hT1.keep ((hg.trans h).mono hT1.low)) ((hn.keep h).mono h.size))
  have hC1 := Lib.hid (contNodes_ok subs _ 95 _ enters95 w1 na nc (Nat.le_trans h8' (Nat.min_le_left _ _)) ((h9.keep hgr).mono hgr.size) hM1)
  have hC2 := Lib.hid (contNodes_ok subs _ 97 _ enters97 w1 na nc (Nat.le_trans h8' (Nat.min_le_left _ _)) ((h9.keep hgr).mono hgr.size) hM2)
  have HT := Lib.hid hT1
  have HG := Lib.hid hgr
  rw [hw1] at hC1 hC2 HT HG
  clear hgr f0 f3 hT1 hM1 hM2 h9 ih hT hw1 w1
  unfold reachN at h1 h2 h6' h8'
  by_cases h5k : k = 5
  · subst h5k
    have hq : Hid (E.B.dv (.mk 5 nm tx set subs) = decide (0 ≤ E.B.longN (E.B.rule nm))) := Lib.hid (by rw [Bk.dv, if_pos rfl])
    obtain ⟨w1, hw1⟩ : ∃ w1, (((W.alloc (.cells #[.pointer (some ⟨E.tb, 0, none⟩)] 172)).alloc (.cells #[.int .u8 5, .string nm, .string tx, .slice sa set.length sc, .slice na subs.length nc] 80)).alloc (.cells #[.func (.func 95) #[] #[.pointer (some ⟨W.heap.size, 0, none⟩)]] 127)) = w1 := ⟨_, rfl⟩
    have f0 : w1.cell? ⟨W.heap.size, 0, none⟩ = some (.pointer (some ⟨E.tb, 0, none⟩)) := by rw [← hw1]; simp [go_sem]
    have f1 : w1.cell? ⟨W.heap.size + 1, 0, none⟩ = some (.int .u8 5) := by rw [← hw1]; simp [go_sem]
    have f2 : w1.cell? ⟨W.heap.size + 1, 1, none⟩ = some (.string nm) := by rw [← hw1]; simp [go_sem]
    have fl : W.heap.size + 1 < w1.heap.size := by rw [← hw1]; simp
    have fl0 : W.heap.size < w1.heap.size := by omega
    rw [hw1] at HT HG
    have HL : Hid (∀ w, Grew w1 w → Calls Tryz.prog 17 #[.pointer (some ⟨E.bk, 0, none⟩), .int .i64 (E.B.rule nm : Int)] w fun e W' => e = .returned (.int .i64 (E.B.longN (E.B.rule nm))) ∧ W' = w) := Lib.hid fun w hw => by
      rw [← longN_eq HT.out.book.few.2]
      exact slong_ok E.B _ E.V E.bk E.lim w (HT.out.book.keep (hw.mono HT.out.low))
    have hrn : ∀ w, Grew w1 w → (Instr.lookup 26 (.map (some E.nm)) (.string nm) false).run Tryz.prog w = .ok (.int .i64 (E.B.rule nm : Int)) w := fun w hw => run_name (by rw [hw.block _ (Nat.lt_of_lt_of_le HT.out.nlo.1 HT.out.low)]; exact HT.out.names) nm
    have HRN := Lib.hid hrn
    have t0 := HT.out.box.cell_at (i := 0) rfl
    have t1 := HT.out.box.cell_at (i := 1) rfl
    have tl := HT.out.box.lt
    clear hC1 hC2 hrn
    generalize E.B.rule nm = r at *
    generalize E.B.longN r = lg at *
    go_enter Tryz.func61, Tryz.ntmps61
    go_wp2_with fail
    refine wp_region_hav_lit follows (by kernel_rfl) ?_
    iterate 10 (first
      | (refine HavG.skip (fun _ => rfl) ?_; simp only [Act.put, List.setIfInBounds_toArray, List.set_cons_zero, List.set_cons_succ])
      | (refine HavG.val (fun _ => rfl) ?_ (fun x w hw _ => ?_) ?_; rotate_left; (focus (have hc := hw.cells; clear hw; go_simp; first | done | rfl)); simp only [Act.put, List.setIfInBounds_toArray, List.set_cons_zero, List.set_cons_succ]))
    refine HavG.val (fun _ => rfl) (.int .i64 (r : Int)) (fun x w hw _ => ?_) ?_
    · have hl := HRN.out w hw
      clear hw
      go_simp
      first | done | rw [hl]
    simp only [Act.put, List.setIfInBounds_toArray, List.set_cons_zero, List.set_cons_succ]
    refine HavG.det (fun _ => rfl) (.int .i64 lg) (fun x w hw hd => ?_) ?_
    · clear hd
      have HW := Lib.hid hw
      clear hw
      go_simp
      refine (HL.out _ HW.out).mono ?_
      rintro e w' ⟨rfl, rfl⟩
      exact ⟨rfl, Grew.refl _⟩
    simp only [Act.put, List.setIfInBounds_toArray, List.set_cons_zero, List.set_cons_succ]
    iterate 1 (first
      | (refine HavG.skip (fun _ => rfl) ?_; simp only [Act.put, List.setIfInBounds_toArray, List.set_cons_zero, List.set_cons_succ])
      | (refine HavG.val (fun _ => rfl) ?_ (fun x w hw _ => ?_) ?_; rotate_left; (focus (have hc := hw.cells; clear hw; go_simp; first | done | rfl)); simp only [Act.put, List.setIfInBounds_toArray, List.set_cons_zero, List.set_cons_succ]))
    refine HavG.tail (by kernel_rfl) (by kernel_rfl) (fun x w hw _ => ?_)
    have HW := Lib.hid hw
    clear hw
    go_wp2_with fail
    go_ret
    exact ⟨ret_bool hq.out.symm, HG.out.trans HW.out⟩
  · by_cases h1k : k = 1
    · subst h1k
      have hq : Hid (E.B.dv (.mk 1 nm tx set subs) = !(subs.any fun n => !E.B.dv n)) := Lib.hid (by rw [Bk.dv, if_neg (by omega), if_pos rfl, dvAll_eq, not_any_not])
      clear HT hC1 h5k
      go_enter Tryz.func61, Tryz.ntmps61
      go_wp2_with (go_at_call 96; refine hC2.out.mono ?_; rintro e w' ⟨rfl, hb2⟩; have HB := Lib.hid hb2; clear hb2)
      go_ret
      exact ⟨ret_bool hq.out.symm, HG.out.trans HB.out⟩
    · by_cases h04 : k = 0 ∨ k = 4
      · have hq : Hid (E.B.dv (.mk k nm tx set subs) = (subs.any fun n => E.B.dv n)) := Lib.hid (by rw [Bk.dv, if_neg h5k, if_neg h1k, if_pos h04, dvAny_eq])
        clear HT hC2
        rcases h04 with rfl | rfl
        all_goals
          go_enter Tryz.func61, Tryz.ntmps61
          go_wp2_with (go_at_call 96; refine hC1.out.mono ?_; rintro e w' ⟨rfl, hb2⟩; have HB := Lib.hid hb2; clear hb2)
          go_ret
          exact ⟨ret_bool hq.out.symm, HG.out.trans HB.out⟩
      · have hq : Hid (E.B.dv (.mk k nm tx set subs) = true) := Lib.hid (by rw [Bk.dv, if_neg h5k, if_neg h1k, if_neg h04])
        have e5 : (k == 5) = false := beq_eq_false_iff_ne.2 h5k
        have e1 : (k == 1) = false := beq_eq_false_iff_ne.2 h1k
        have e0 : (k == 0) = false := beq_eq_false_iff_ne.2 fun e => h04 (.inl e)
        have e4 : (k == 4) = false := beq_eq_false_iff_ne.2 fun e => h04 (.inr e)
        clear HT hC1 hC2
        go_enter Tryz.func61, Tryz.ntmps61
        go_wp2_with fail
        go_ret
        exact ⟨ret_bool hq.out.symm, HG.out⟩
end Go.Proofs.YtppjmdanckdobaaGreatDoor

/- Sets in statements whose order Go leaves open; what a call notes there. -/
namespace Go.Proofs.YtppjmdanckdobaaGreatDoor
open Go.RowKit
theorem But.wideX {F G : Nat → Prop} {w w' : World} (h : But F w w') (hF : ∀ k, k < w.heap.size → F k → G k) : But G w w' := ⟨h.os, h.tape, h.output, h.size, fun k hk hn => h.block k hk fun hf => hn (hF k hk hf)⟩
theorem exec_load_set {ev : Operand → Value} {o : Oper} {w : World} {q b : Nat} {x : Operand} (hO : Owns w b (setL q) 66) (ho : o.op = .load 66 x) (hx : ev x = .pointer (some ⟨b, 0, none⟩)) : (execOp ev o).run Tryz.prog w = .ok (.value (setV q)) w := by
  unfold execOp
  simp only [ho, hx, Instr.loadAt, Instr.sureAddr, Sem.run_bind, Sem.run_pure, Result.andThen_ok, run_loadVar_row w b 66 66 _ (0, 0) _ hO Tryz.underlying66 rfl (set_size q)]
  rfl
theorem set_row {w : World} {b q p : Nat} (hO : Owns w b (setL q) 66) : Owns (w.setRow b (setL p).toArray) b (setL p) 66 ∧ But (fun k => k = b) w (w.setRow b (setL p).toArray) :=
  ⟨setRow_heap w b _ _ 66 _ hO, ⟨rfl, rfl, rfl, by simp, fun k _ hk => setRow_other w b k _ hk⟩⟩
theorem exec_store_set {ev : Operand → Value} {o : Oper} {w : World} {q p b : Nat} {x y : Operand} (hO : Owns w b (setL q) 66) (ho : o.op = .store 66 x y) (hx : ev x = .pointer (some ⟨b, 0, none⟩)) (hy : ev y = setV p) : (execOp ev o).run Tryz.prog w = .ok .skip (w.setRow b (setL p).toArray) := by
  unfold execOp
  simp only [ho, hx, hy, setV, Instr.storeAt, Instr.sureAddr, Sem.run_bind, Sem.run_pure, Result.andThen_ok, run_storeVar_row w b 66 66 _ _ hO (set_size p) (by rw [List.size_toArray, List.size_toArray, setL_len, setL_len]) (setL_all p)]
def PS (base q : Nat) (a b : World) : Prop := But (fun k => base ≤ k) a b ∧ ∀ t, base ≤ t → (Owns a t (setL 0) 66 → Owns b t (setL 0) 66 ∨ Owns b t (setL q) 66) ∧ (Owns a t (setL q) 66 → Owns b t (setL q) 66)
theorem psRel {base q : Nat} : Rel (PS base q) :=
  ⟨fun w => ⟨But.refl _ w, fun _ _ => ⟨.inl, id⟩⟩, fun h k => ⟨But.trans h.1 k.1 (fun _ _ e => e), fun t ht => ⟨fun ho => ((h.2 t ht).1 ho).elim (k.2 t ht).1 fun h' => .inr ((k.2 t ht).2 h'), fun ho => (k.2 t ht).2 ((h.2 t ht).2 ho)⟩⟩, fun w => ⟨(But.refl _ w).drew, fun _ _ => ⟨.inl, id⟩⟩⟩
theorem PS.grew {base q : Nat} {a b : World} (h : Grew a b) : PS base q a b := ⟨But.of_grew h, fun _ _ => ⟨fun ho => .inl (ho.keep h), fun ho => ho.keep h⟩⟩
theorem PS.cells {w w' : World} {q : Nat} (h : PS w.heap.size q w w') : ∀ b o, b < w.heap.size → w'.cell? ⟨b, o, none⟩ = w.cell? ⟨b, o, none⟩ := fun b o hb => World.cell?_of_block (h.1.block b hb (fun e => by omega))
theorem PS.set {a : World} {base t q p : Nat} (ho : Owns a t (setL p) 66) (ht : base ≤ t) : PS base q a (a.setRow t (setL q).toArray) := by
  obtain ⟨h2, h1⟩ := set_row (p := q) ho
  refine ⟨(But.refl (fun k => base ≤ k) a).trans h1 (fun k _ e => by omega), fun t' ht' => ?_⟩
  by_cases e : t' = t
  · subst e
    exact ⟨fun _ => .inr h2, fun _ => h2⟩
  · exact ⟨fun h => .inl (h1.owns h e), fun h => h1.owns h e⟩
def HalfS (base q : Nat) (v : Value) (w : World) : Prop := ∃ t, v = .pointer (some ⟨t, 0, none⟩) ∧ base ≤ t ∧ (Owns w t (setL 0) 66 ∨ Owns w t (setL q) 66)
def DoneS (base q : Nat) (v : Value) (w : World) : Prop := ∃ t, v = .pointer (some ⟨t, 0, none⟩) ∧ base ≤ t ∧ Owns w t (setL q) 66
theorem HalfS.keep {base q : Nat} {v : Value} {w w' : World} (h : HalfS base q v w) (hg : PS base q w w') : HalfS base q v w' := by
  obtain ⟨t, h1, h2, h3⟩ := h
  exact ⟨t, h1, h2, h3.elim (hg.2 t h2).1 fun h => .inr ((hg.2 t h2).2 h)⟩
theorem DoneS.keep {base q : Nat} {v : Value} {w w' : World} (h : DoneS base q v w) (hg : PS base q w w') : DoneS base q v w' := by
  obtain ⟨t, h1, h2, h3⟩ := h
  exact ⟨t, h1, h2, (hg.2 t h2).2 h3⟩
def XE.G (E : XE) (S S' : Int → Prop) (w w' : World) : Prop := E.R w w' ∧ (E.At S w → E.At S w' ∨ E.At S' w') ∧ (E.At S' w → E.At S' w')
theorem XE.At.drew {E : XE} {S : Int → Prop} {w : World} (h : E.At S w) : E.At S { w with drawn := w.drawn + 1 } := h.but (F := fun _ => False) (But.refl _ w).drew fun _ => False.elim
theorem XE.grel (E : XE) (S S' : Int → Prop) : Rel (E.G S S') :=
  ⟨fun w => ⟨But.refl _ w, .inl, id⟩, fun h k => ⟨h.1.trans k.1, fun ha => (h.2.1 ha).elim k.2.1 fun h' => .inr (k.2.2 h'), fun ha => k.2.2 (h.2.2 ha)⟩, fun w => ⟨(But.refl _ w).drew, fun h => .inl h.drew, fun h => h.drew⟩⟩
theorem XE.G.grew {E : XE} {S S' : Int → Prop} {a b : World} (h : Grew a b) : E.G S S' a b := ⟨But.of_grew h, fun ha => .inl (ha.grew h), fun ha => ha.grew h⟩
def NoteR (E : XE) (S' : Int → Prop) (D : Nat → Prop) (v : Value) (w : World) : Prop := ∃ q, v = setV q ∧ q < 2 ^ 49 ∧ Bits q D ∧ E.At S' w
theorem NoteR.keep {E : XE} {S S' : Int → Prop} {D : Nat → Prop} {v : Value} {w w' : World} (h : NoteR E S' D v w) (hg : E.G S S' w w') : NoteR E S' D v w' := by
  obtain ⟨q, h1, h2, h3, h4⟩ := h
  exact ⟨q, h1, h2, h3, hg.2.2 h4⟩
theorem XE.G.call {E : XE} {S N : Int → Prop} {w0 w : World} (h0 : E.At S w0) (hg : E.G S (fun t => S t ∨ N t) w0 w) : ∃ T, E.At T w ∧ (∀ t, (T t ∨ N t) ↔ (S t ∨ N t)) := by
  rcases hg.2.1 h0 with h | h
  · exact ⟨S, h, fun t => Iff.rfl⟩
  · exact ⟨_, h, fun t => ⟨fun h => h.elim id .inr, fun h => .inl h⟩⟩
theorem XE.G.done {E : XE} {S S' : Int → Prop} {w w' : World} (hr : E.R w w') (h : E.At S' w') : E.G S S' w w' := ⟨hr, fun _ => .inr h, fun _ => h⟩
end Go.Proofs.YtppjmdanckdobaaGreatDoor
