/- follow: all of some places may come behind all of others. -/
import Derived.Test.YtkinlcichclnkaaDoorQT19
import Derived.Test.YtkinlcichclnkaaDoorQT17
namespace Go.Proofs.YtkinlcichclnkaaDoor
open Go.RowKit Go.Shelf
attribute [local go_sem] Oper.semAt_some

theorem wpList_run_skip {P : Program} {ops : Array Oper} {rest : List Oper} {o : Oper} {a : Act} {w w' : World} {Q : Exit → Act → World → Prop} (hgd : o.guard = none) (hr : (execOp a.eval o).run P w = .ok .skip w') (h : wpList P ops Q rest (a.put o.dst undef) w') : wpList P ops Q (o :: rest) a w :=
  wpList_plain hgd fun _ hK => by
    unfold Oper.wp
    rw [hr]
    exact hK _ _ h
theorem kpf_turn {lim : Nat} {w : World} (hn : lim ≤ w.heap.size) (W : World) (l : Nat) (o o' : Obj) (hl : w.heap.size ≤ l) (h : W.heap[l]? = some o) (ho : o.isCells = false) (hw : o.isWalk = false) : KpF lim W (W.putObj l o') :=
  ⟨belowK_b hn W l o o' hl h ho hw, fun b cs T f hb _ => by
    by_cases e : b = l
    · subst e
      rw [h] at hb
      cases hb
      cases ho
    · exact (World.putObj_heap_other e).trans hb, fun b s p hb => by
    by_cases e : b = l
    · subst e
      rw [h] at hb
      cases hb
      cases hw
    · exact (World.putObj_heap_other e).trans hb⟩
theorem kpf_from {lim : Nat} {w0 w1 : World} {β : Type} (h1 : lim ≤ w1.heap.size) (h01 : w0.heap.size ≤ w1.heap.size) : OwnFrom w1.heap.size (fun (_ : β) W => KpF lim w0 W ∧ lim ≤ W.heap.size) := fun _ A B row hs hg hr =>
  ⟨⟨hs.1.low.grown hg (by omega) (fun k e => by have := (hr k e).1; omega), fun b cs T f hb hT => by
    have h2 := hs.1.box b cs T f hb hT
    rw [hg.block b (Array.getElem?_eq_some_iff.1 h2).1 (fun e => by
      obtain ⟨_, o, k1, k2⟩ := hr b e.symm
      rw [h2] at k1
      cases k1
      cases k2)]
    exact h2, fun b s p hb => by
    have h2 := hs.1.itr b s p hb
    have h3 := (Array.getElem?_eq_some_iff.1 hb).1
    rw [hg.block b (Array.getElem?_eq_some_iff.1 h2).1 (fun e => by
      have := (hr b e.symm).1
      omega)]
    exact h2⟩, Nat.le_trans hs.2 hg.size⟩
theorem nbat_turn {W W' : World} {lim : Nat} {g0 g1 g2 g3 : Value} {kind : Int} {V : NBV} {b : NB} {row : Option Nat} (h : NBAt W lim g0 g1 g2 g3 kind V b) (hg : W.grownBy W' row) (hr : ∀ r, row = some r → ∃ o : Obj, W.heap[r]? = some o ∧ o.isCells = false) : NBAt W' lim g0 g1 g2 g3 kind V b :=
  ⟨Nat.le_trans h.low hg.size, h.blo, owns_turn h.box hg hr, loose_turn h.out hg hr, fun i hi => ⟨(h.made i hi).1, owns_turn (h.made i hi).2 hg hr⟩, fun i hi => loose_turn (h.set i hi) hg hr, h.inj⟩
theorem made_cells {W : World} {b : Nat} {p : NPl} {sv : Value} (h : Owns W b (madeL p sv) 76) : ∀ j v, (wdL p.fol)[j]? = some v → W.cell? ⟨b, 4 + j, none⟩ = some v := fun j v hv => h.cell_at (by
  unfold madeL
  rw [List.getElem?_append_right (by simp)]
  simpa using hv)
theorem box_cells {W : World} {b s : Nat} (h : Owns W b (wdL s) 65) : ∀ j v, (wdL s)[j]? = some v → W.cell? ⟨b, 0 + j, none⟩ = some v := fun j v hv => by
  rw [Nat.zero_add]
  exact h.cell_at hv
/-- a row's element -/
theorem ptrs_at {W : World} {lim : Nat} {V : NBV} {n i : Nat} (h : looseRow W lim 74 1 V.ov n (ptrsN V n)) (hi : i < n) : ∃ g cap, V.ov = .slice (some ⟨g, 0, none⟩) n cap ∧ g < W.heap.size ∧ W.cell? ⟨g, i, none⟩ = some (.pointer (some ⟨V.mb i, 0, none⟩)) := by
  rcases h.2 with ⟨_, h0⟩ | ⟨g, cap, cur, h1, h2, h3, h4⟩
  · omega
  · refine ⟨g, cap, h1, (Array.getElem?_eq_some_iff.1 h3).1, ?_⟩
    refine looseRow_cells h (g := g) (by rw [h1]; rfl) i _ ?_
    unfold ptrsN
    rw [List.getElem?_map, List.getElem?_range hi]
    rfl
def FolInv {a : Nat} (w4 : World) (lim : Nat) (g0 g1 g2 g3 : Value) (kind : Int) (V : NBV) (b : NB) (c : Nat) (pre : List (PlS a)) (W : World) : Prop :=
  (NBAt W lim g0 g1 g2 g3 kind V ⟨updL (pre.map PlS.p) c b.out, b.steps, b.full⟩) ∧ KpF lim w4 W ∧ lim ≤ W.heap.size
theorem fol_from {a : Nat} {w4 w1 : World} {lim : Nat} {g0 g1 g2 g3 : Value} {kind : Int} {V : NBV} {b : NB} {c : Nat} (h1 : lim ≤ w1.heap.size) (h01 : w4.heap.size ≤ w1.heap.size) : OwnFrom w1.heap.size (FolInv (a := a) w4 lim g0 g1 g2 g3 kind V b c) := fun _ A B row hs hg hr =>
  ⟨nbat_turn hs.1 hg fun r e => (hr r e).2, kpf_from (β := Unit) h1 h01 () A B row hs.2 hg hr⟩
set_option maxHeartbeats 4000000 in
set_option maxRecDepth 20000 in
theorem nfollow_ok (W : World) (lim : Nat) (g0 g1 g2 g3 : Value) (kind : Int) (V : NBV) (b : NB) (hN : NBAt W lim g0 g1 g2 g3 kind V b) (hb : b.Ok) (a c : Nat) (ha : a < 2 ^ b.out.length) (hc : c < 2 ^ b.out.length) (hT : BruAt W) (hl0 : 0 < lim) :
    Calls Tryd.prog 51 #[.pointer (some ⟨V.bb, 0, none⟩), wdV a, wdV c] W fun e W' => (∃ v, e = .returned v) ∧ NBAt W' lim g0 g1 g2 g3 kind V (b.follow a c) ∧ KpF lim W W' := by
  have ha4 : a < 2 ^ 4096 := (show NPart.In ⟨a, c, false⟩ 4096 from NPart.In.mono ⟨ha, hc⟩ hb.few).1
  have hc4 : c < 2 ^ 4096 := (show NPart.In ⟨a, c, false⟩ 4096 from NPart.In.mono ⟨ha, hc⟩ hb.few).2
  obtain ⟨w1, hw1⟩ : ∃ w1, W.alloc (.cells #[.pointer (some ⟨V.bb, 0, none⟩)] 59) = w1 := ⟨_, rfl⟩
  have g1' : Grew W w1 := hw1 ▸ grew_alloc W _
  obtain ⟨p1, hp1⟩ : ∃ p, W.heap.size = p := ⟨_, rfl⟩
  have o1 : Owns w1 p1 [.pointer (some ⟨V.bb, 0, none⟩)] 59 := hp1 ▸ hw1 ▸ Owns.alloc W _ _
  obtain ⟨w2, hw2⟩ : ∃ w2, w1.alloc (.cells (wdL a).toArray 65) = w2 := ⟨_, rfl⟩
  have g2' : Grew w1 w2 := hw2 ▸ grew_alloc w1 _
  obtain ⟨p2, hp2⟩ : ∃ p, w1.heap.size = p := ⟨_, rfl⟩
  have o2 : Owns w2 p2 (wdL a) 65 := hp2 ▸ hw2 ▸ Owns.alloc w1 _ _
  obtain ⟨w3, hw3⟩ : ∃ w3, w2.alloc (.cells (wdL c).toArray 65) = w3 := ⟨_, rfl⟩
  have g3' : Grew w2 w3 := hw3 ▸ grew_alloc w2 _
  obtain ⟨p3, hp3⟩ : ∃ p, w2.heap.size = p := ⟨_, rfl⟩
  have o3 : Owns w3 p3 (wdL c) 65 := hp3 ▸ hw3 ▸ Owns.alloc w2 _ _
  have O1 := Lib.hid ((o1.keep g2').keep g3')
  have O2 := Lib.hid (o2.keep g3')
  have O3 := Lib.hid o3
  have G3 := Lib.hid ((g1'.trans g2').trans g3')
  have HN := Lib.hid hN
  have HT := Lib.hid hT
  have HAL := Lib.hid (nall_ok a w3)
  have HOK := Lib.hid hb
  clear o1 o2 o3 g1' g2' g3' hN hT hb
  unfold wdV
  refine calls_of_wp_marks Tryd.func51 rfl ?_
  simp only [Tryd.ntmps51, List.size_toArray, List.length_cons, List.length_nil, Nat.reduceAdd, Nat.reduceSub, Array.replicate_succ, Array.replicate_zero, List.push_toArray, List.append_toArray, List.nil_append, List.cons_append]
  go_wp2_with (refine wpList_load_some O2.out rfl _ rfl rfl ?_; simp only [Act.put, List.setIfInBounds_toArray, List.set_cons_zero, List.set_cons_succ])
  clear hw1 hw2 hw3 hp1 hp2 hp3
  refine HAL.out.mono ?_
  rintro e w4 ⟨rfl, hw4⟩
  have g4 : Grew w3 w4 := hw4 ▸ grew_alloc w3 _
  have o4 : Owns w4 w3.heap.size (wdL a) 65 := hw4 ▸ Owns.alloc w3 _ _
  have G4 := Lib.hid (G3.out.trans g4)
  have O14 := Lib.hid (O1.out.keep g4)
  have O34 := Lib.hid (O3.out.keep g4)
  have hN4 := HN.out.grew G4.out
  have hstops := nall_stops 8 w3.heap.size a w4 ha4 o4 (HT.out.grew G4.out) (KpF lim) (fun A B h k => k.below hl0 h.low)
  clear hw4 g4 o4 O1 O2 O3 HAL G3
  obtain ⟨q, hq⟩ : ∃ q, w3.heap.size = q := ⟨_, rfl⟩
  rw [hq] at hstops ⊢
  clear hq
  go_wp2_with fail
  have hlow := hN4.low
  have hI0 : FolInv (a := a) w4 lim g0 g1 g2 g3 kind V b c [] w4 := ⟨by rw [List.map_nil, updL_nil]; exact hN4, KpF.refl _ _, hlow⟩
  refine (wpIn_wide (n := 9)).1 ?_
  refine wpIn_rangeFunc_ownH (F := Fence.wide) rfl (by omega) (gf := 38) (lb := #[.pointer (some ⟨q, 0, none⟩)]) rfl trivial (enters_of Tryd.func38 (by kernel_rfl) rfl) hstops (fun h k => h.trans k) (kpf_turn hlow) (Below.refl _ _) (fun _ => rfl)
    (FolInv (a := a) w4 lim g0 g1 g2 g3 kind V b c) (fun _ _ _ => False) (fol_from hlow (Nat.le_refl _)) (fun _ _ _ _ _ hs _ _ => hs) hI0
    (fun x a' _ => a' = { tmps := #[.pointer (some ⟨V.bb, 0, none⟩), .agg (wdL a).toArray, .agg (wdL c).toArray, .pointer (some ⟨p1, 0, none⟩), .pointer (some ⟨p2, 0, none⟩), .pointer (some ⟨p3, 0, none⟩), .int .i64 (x.p : Int), wdV a, .func (.func 38) #[] #[.pointer (some ⟨q, 0, none⟩)], .int .i64 (x.p : Int), undef, undef, undef, undef, undef, undef, undef, undef, undef, undef, undef, undef, undef, undef, undef, undef, undef, undef, undef, undef, undef], defers := [] })
    (fun x a' _ X Y row hs hg hr => hs) ?assign ?body ?done ?stop
  case assign =>
    rintro l pre x Wc K hI hK
    have hK' := Lib.hid (hK _ _ (KeepsFrom.refl _ _) (KpF.refl _ _) hI rfl)
    clear hK hI
    simp only [encP] at *
    gi_wp2
    exact hK'.out
  case body =>
    rintro l pre x a' Wc hlo ⟨rr, hrr⟩ ⟨hN, hK, hlw⟩ rfl hlt
    have hxn : x.p < b.out.length := by
      rcases Nat.lt_or_ge x.p b.out.length with h | h
      · exact h
      · have := x.on
        rw [Nat.testBit_lt_two_pow (Nat.lt_of_lt_of_le ha (Nat.pow_le_pow_right (by omega) h))] at this
        cases this
    have hul : (updL (pre.map PlS.p) c b.out).length = b.out.length := updL_len _ _ _
    have hxu : x.p < (updL (pre.map PlS.p) c b.out).length := by rw [hul]; exact hxn
    obtain ⟨og, cap, hov, hog, hcp⟩ := ptrs_at hN.out hxu
    obtain ⟨hml, hmo⟩ := hN.made x.p hxu
    have hbox := hN.box
    have hpb := hK.owns O14.out (by unfold BldT; decide)
    have hp3 := hK.owns O34.out (by unfold BldT; decide)
    obtain ⟨pl, hpl⟩ : ∃ pl, (updL (pre.map PlS.p) c b.out)[x.p] = pl := ⟨_, rfl⟩
    have hst := updL_snoc (pre := pre.map PlS.p) (c := c) hxn
    rw [hpl] at hmo hst
    have c3 := hpb.cell_at (i := 0) rfl
    have l3 := hpb.lt
    have cb5 := hbox.cell_at (i := 5) rfl
    rw [hov, hul] at cb5
    have lb := hbox.lt
    have lm := hmo.lt
    have lp := hp3.lt
    have MC := Lib.hid (made_cells hmo)
    have PC := Lib.hid (box_cells hp3)
    have HMO := Lib.hid hmo
    have HC := Lib.hid fun w => nwith_ok pl.fol c hc4 w
    have HNN := Lib.hid hN
    have HKK := Lib.hid hK
    have HST := Lib.hid hst
    have HPL := Lib.hid hpl
    have hx0 : (0 : Int) ≤ (x.p : Int) := by omega
    have hx1 : (x.p : Int) < (b.out.length : Int) := by omega
    obtain ⟨n, hn⟩ : ∃ n, b.out.length = n := ⟨_, rfl⟩
    have HNL := Lib.hid hn
    rw [hn] at cb5 hx1 hxn
    clear hN hK hov hmo hbox hpb hp3 hst hpl hstops hI0 hN4 hn
    gi_wp2_with fail
    refine wpIn_region_hav_lit follows (by kernel_rfl) (by kernel_rfl) (by rintro ⟨_, _, h⟩; exact h) ?_
    iterate 16 (first
      | (refine HavG.skip (fun _ => rfl) ?_; simp only [Act.put, List.setIfInBounds_toArray, List.set_cons_zero, List.set_cons_succ])
      | (refine HavG.val (fun _ => rfl) ?_ (fun x w hw _ => ?_) ?_; rotate_left; (focus (have hc := hw.cells; clear hw; go_simp; first | done | rfl)); simp only [Act.put, List.setIfInBounds_toArray, List.set_cons_zero, List.set_cons_succ]))
    refine HavG.val (fun _ => rfl) (wdV pl.fol) (fun x w hw _ => exec_load_at (fun j v hv => by rw [hw.cells _ _ lm]; exact MC.out j v hv) rfl rfl) ?_
    simp only [Act.put, List.setIfInBounds_toArray, List.set_cons_zero, List.set_cons_succ]
    refine HavG.val (fun _ => rfl) (wdV c) (fun x w hw _ => exec_load_at (fun j v hv => by rw [hw.cells _ _ lp]; exact PC.out j v hv) rfl rfl) ?_
    simp only [Act.put, List.setIfInBounds_toArray, List.set_cons_zero, List.set_cons_succ]
    refine HavG.det (fun _ => rfl) (wdV (pl.fol ||| c)) (fun x w' hw hd => ?_) ?_
    · clear hd hw
      go_simp
      refine (HC.out w').mono ?_
      rintro e w6 ⟨rfl, hg⟩
      exact ⟨rfl, hg⟩
    simp only [Act.put, List.setIfInBounds_toArray, List.set_cons_zero, List.set_cons_succ]
    iterate 2 (first
      | (refine HavG.skip (fun _ => rfl) ?_; simp only [Act.put, List.setIfInBounds_toArray, List.set_cons_zero, List.set_cons_succ])
      | (refine HavG.val (fun _ => rfl) ?_ (fun x w hw _ => ?_) ?_; rotate_left; (focus (have hc := hw.cells; clear hw; go_simp; first | done | rfl)); simp only [Act.put, List.setIfInBounds_toArray, List.set_cons_zero, List.set_cons_succ]))
    refine HavG.tail (by kernel_rfl) (by kernel_rfl) (fun _ w5 hw5 _ => ?_)
    have hmo5 := HMO.out.keep hw5
    have hmc := made_cells hmo5
    obtain ⟨hN6, hK6⟩ := (HNN.out.grew hw5).fol hxu (pl.fol ||| c)
    simp only [HPL.out] at hN6
    rw [← HST.out] at hN6
    have HN6 := Lib.hid hN6
    have hbut := setCells_butN (wdL (pl.fol ||| c)) 4 w5 _ hmo5
    have HKO := Lib.hid (show KeepsOthers Wc (w5.setCells (V.mb x.p) 4 (wdL (pl.fol ||| c))) from KeepsOthers.trans ⟨hw5.size, fun k o hk _ => by rw [hw5.block k (Array.getElem?_eq_some_iff.1 hk).1]; exact hk⟩ ⟨hbut.size, fun k o hk ho => by
      rw [hbut.block k (Array.getElem?_eq_some_iff.1 hk).1 (fun e => by
        subst e
        unfold Owns at hmo5
        rw [hmo5] at hk
        cases hk
        cases ho)]
      exact hk⟩)
    have HKF := Lib.hid (show KpF lim Wc (w5.setCells (V.mb x.p) 4 (wdL (pl.fol ||| c))) from (KpF.grew hw5 hlw).trans hK6)
    refine wpList_run_skip rfl (exec_store_at (fun j hj => by rw [hmc j _ (wdL_get _ hj)]; rfl) (fun j hj => hmo5.free _) rfl rfl rfl) ?_
    clear hN6 hK6 hmo5 hmc hbut hw5
    go_wp2_with fail
    refine ⟨HKO.out.from _, HKF.out, ?_, HKK.out.trans HKF.out, Nat.le_trans hlw HKO.out.size⟩
    rw [List.map_append]
    exact HN6.out
  case done =>
    rintro D ys W' hD hys hI hK
    have hI2 := fol_from hlow (Nat.le_refl _) _ W' _ (some D) hI (grownBy_putObj' W' D (.deferred none)) (fun r e => by cases e; exact ⟨hD, _, hK, rfl⟩)
    have hu : updL (ys.map PlS.p) c b.out = folL a c 0 b.out := by
      rw [hys]
      exact updL_all HOK.out.few
    obtain ⟨hN2, hK2, -⟩ := hI2
    rw [hu] at hN2
    have HN2 := Lib.hid hN2
    have HK2 := Lib.hid hK2
    clear hN2 hK2 hstops hI hI0 hN4
    go_wp2_with fail
    refine ⟨by simp, .inl ⟨_, _, rfl, run_takeDeferred hK, ?_⟩⟩
    exact ⟨_, results_none rfl _ _ _, ⟨_, rfl⟩, HN2.out, (KpF.grew G4.out HN.out.low).trans HK2.out⟩
  case stop =>
    rintro D c' pre W' _ _ h _
    exact h.elim
end Go.Proofs.YtkinlcichclnkaaDoor

/- Parts, as structs of two sets and a bool: again, joined. -/
namespace Go.Proofs.YtkinlcichclnkaaDoor
open Go.RowKit

def partL (x : NPart) : List Value := wdL x.first ++ (wdL x.last ++ [.bool x.empty])
def partV (x : NPart) : Value := .agg (partL x).toArray
theorem partL_len (x : NPart) : (partL x).length = 129 := by unfold partL; simp [wdL_len]
theorem partL_one (x : NPart) : ∀ u ∈ partL x, u.oneCell' = true := by
  intro u hu
  unfold partL at hu
  simp only [List.mem_append, List.mem_singleton] at hu
  rcases hu with h | h | h
  · exact wdL_one _ u h
  · exact wdL_one _ u h
  · rw [h]; rfl
theorem partL_all (x : NPart) : (partL x).toArray.all (·.oneCell') = true := Array.all_eq_true_iff_forall_mem.2 fun u hu => partL_one x u (by simpa using hu)
theorem part_info : (Tryd.prog.info? 70).map (·.size) = some 129 := by kernel_rfl
theorem part_size (x : NPart) : (Tryd.prog.info? 70).map (·.size) = some (partL x).toArray.size := by
  rw [part_info, List.size_toArray, partL_len]
theorem part_first {W : World} {b : Nat} {x : NPart} (h : Owns W b (partL x) 70) : ∀ j v, (wdL x.first)[j]? = some v → W.cell? ⟨b, 0 + j, none⟩ = some v := fun j v hv => h.cell_at (by
  unfold partL
  rw [Nat.zero_add, List.getElem?_append_left (List.getElem?_eq_some_iff.1 hv).1]
  exact hv)
theorem part_last {W : World} {b : Nat} {x : NPart} (h : Owns W b (partL x) 70) : ∀ j v, (wdL x.last)[j]? = some v → W.cell? ⟨b, 64 + j, none⟩ = some v := fun j v hv => h.cell_at (by
  unfold partL
  have hj := (List.getElem?_eq_some_iff.1 hv).1
  rw [List.getElem?_append_right (by rw [wdL_len]; omega), wdL_len, show 64 + j - 64 = j by omega, List.getElem?_append_left hj]
  exact hv)
theorem part_empty {W : World} {b : Nat} {x : NPart} (h : Owns W b (partL x) 70) : W.cell? ⟨b, 128, none⟩ = some (.bool x.empty) := h.cell_at (by
  unfold partL
  rw [List.getElem?_append_right (by rw [wdL_len]; omega), wdL_len, List.getElem?_append_right (by rw [wdL_len]; omega), wdL_len]
  rfl)
theorem wpList_load_part {ops : Array Oper} {rest : List Oper} {o : Oper} {a : Act} {w : World} {Q : Exit → Act → World → Prop} {q : NPart} {b : Nat} (hO : Owns w b (partL q) 70) (hgd : o.guard = none) (x : Operand) (ho : o.op = .load 70 x)
    (hx : a.eval x = .pointer (some ⟨b, 0, none⟩)) (h : wpList Tryd.prog ops Q rest (a.put o.dst (partV q)) w) : wpList Tryd.prog ops Q (o :: rest) a w :=
  wpList_load_row hgd 70 x ho b hx 70 _ (0, 0) _ hO Tryd.underlying70 rfl (part_size q) h
theorem wpList_store_part {ops : Array Oper} {rest : List Oper} {o : Oper} {a : Act} {w : World} {Q : Exit → Act → World → Prop} {q p : NPart} {b : Nat} (hO : Owns w b (partL q) 70) (hgd : o.guard = none) (x y : Operand) (ho : o.op = .store 70 x y)
    (hx : a.eval x = .pointer (some ⟨b, 0, none⟩)) (hy : a.eval y = partV p) (h : ∀ w', Owns w' b (partL p) 70 → But (fun k => k = b) w w' → wpList Tryd.prog ops Q rest (a.put o.dst undef) w') : wpList Tryd.prog ops Q (o :: rest) a w :=
  wpList_store_row hgd 70 x y ho b (partL p).toArray hx hy 70 _ hO (part_size p) (by rw [List.size_toArray, List.size_toArray, partL_len, partL_len]) (partL_all p)
    (h _ (setRow_heap w b _ _ 70 _ hO) ⟨rfl, rfl, rfl, by simp, fun k _ hk => setRow_other w b k _ hk⟩)
theorem ret_part {fn : Func} {p : Tmp} (h : fn.results = #[.cell p 70]) (tmps : Array Value) {w : World} {b : Nat} {q : NPart} (hO : Owns w b (partL q) 70) (hp : tmps.getD p undef = .pointer (some ⟨b, 0, none⟩)) :
    (results fn tmps).run Tryd.prog w = .ok (partV q) w :=
  results_cell_row h tmps w b 70 _ (0, 0) _ hp hO Tryd.underlying70 rfl (part_size q)
theorem wpList_runV {P : Program} {ops : Array Oper} {rest : List Oper} {o : Oper} {a : Act} {w : World} {Q : Exit → Act → World → Prop} (hgd : o.guard = none) (c : Value) (hr : (execOp a.eval o).run P w = .ok (.value c) w) (h : wpList P ops Q rest (a.put o.dst c) w) : wpList P ops Q (o :: rest) a w :=
  wpList_plain hgd fun _ hK => by
    unfold Oper.wp
    rw [hr]
    exact hK _ _ h
def endsV (a c : Nat) : Value := .agg (wdL a ++ wdL c).toArray
theorem run_build_ends (a c : Nat) (w : World) : (Instr.build 68 #[(0, wdV a), (1, wdV c)]).run Tryd.prog w = .ok (endsV a c) w := by kernel_rfl
theorem run_build_part (a c : Nat) (e : Bool) (w : World) : (Instr.build 70 #[(0, endsV a c), (1, .bool e)]).run Tryd.prog w = .ok (partV ⟨a, c, e⟩) w := by kernel_rfl
theorem run_build_part' (a c : Nat) (e : Bool) (w : World) : (Instr.build 70 #[(1, .bool e), (0, endsV a c)]).run Tryd.prog w = .ok (partV ⟨a, c, e⟩) w := by kernel_rfl
theorem run_build_zero (w : World) : (Instr.build 70 #[]).run Tryd.prog w = .ok (partV ⟨0, 0, false⟩) w := by kernel_rfl
theorem run_build_true (w : World) : (Instr.build 70 #[(1, .bool true)]).run Tryd.prog w = .ok (partV ⟨0, 0, true⟩) w := by kernel_rfl
theorem zpart_eq : Tryd.zeroCells70 = (partL ⟨0, 0, false⟩).toArray := by kernel_rfl
theorem zpart_owns (w : World) : Owns (w.alloc (.cells Tryd.zeroCells70 70)) w.heap.size (partL ⟨0, 0, false⟩) 70 := by
  rw [zpart_eq]
  exact Owns.alloc w _ _
theorem NBAt.other {W W' : World} {lim : Nat} {g0 g1 g2 g3 : Value} {kind : Int} {V : NBV} {b : NB} (h : NBAt W lim g0 g1 g2 g3 kind V b) {c T : Nat} {cs : List Value} (ho : Owns W c cs T) (hT : ¬ BldT T) (hR : T ≠ 58) (hb : But (fun k => k = c) W W') : NBAt W' lim g0 g1 g2 g3 kind V b := by
  have n1 : T ≠ 62 := fun e => hT (.inl e)
  have n2 : T ≠ 76 := fun e => hT (.inr (.inl e))
  have n3 : T ≠ 74 := fun e => hT (.inr (.inr e))
  exact ⟨Nat.le_trans h.low hb.size, h.blo, hb.owns h.box (owns_ne h.box ho n1.symm), hb.row h.out fun k hk e => row_owns_ne h.out ho n3.symm k hk e, fun i hi => ⟨(h.made i hi).1, hb.owns (h.made i hi).2 (owns_ne (h.made i hi).2 ho n2.symm)⟩, fun i hi => hb.row (h.set i hi) fun k hk e => row_owns_ne (h.set i hi) ho hR.symm k hk e, h.inj⟩
theorem KpF.fresh {lim : Nat} {A B C : World} (h : KpF lim A B) {c : Nat} (hb : But (fun k => k = c) B C) (hc : A.heap.size ≤ c) (hl : lim ≤ A.heap.size) : KpF lim A C :=
  ⟨Below.trans h.low (But.below hb (Nat.le_trans hl h.low.size) fun q e => by omega), fun b cs T f hA hT => by
    have hlt := (Array.getElem?_eq_some_iff.1 hA).1
    have h1 := h.box b cs T f hA hT
    rw [hb.block b (Array.getElem?_eq_some_iff.1 h1).1 (fun e => by omega)]
    exact h1, fun b s p hA => by
    have hlt := (Array.getElem?_eq_some_iff.1 hA).1
    have h1 := h.itr b s p hA
    rw [hb.block b (Array.getElem?_eq_some_iff.1 h1).1 (fun e => by omega)]
    exact h1⟩
/-- two boxes for parts -/
structure Box2 (W w : World) (x : NPart) : Prop where
  grew : Grew W w
  o1 : Owns w W.heap.size (partL x) 70
  o2 : Owns w (W.heap.size + 1) (partL ⟨0, 0, false⟩) 70
theorem box2 (W : World) (x : NPart) : Box2 W ((W.alloc (.cells (partL x).toArray 70)).alloc (.cells Tryd.zeroCells70 70)) x := by
  have h1 := grew_alloc W (.cells (partL x).toArray 70)
  have h2 := grew_alloc (W.alloc (.cells (partL x).toArray 70)) (.cells Tryd.zeroCells70 70)
  have e1 := Owns.alloc W (partL x) 70
  have e2 := zpart_owns (W.alloc (.cells (partL x).toArray 70))
  simp only [World.size_alloc] at e2
  exact ⟨h1.trans h2, e1.keep h2, e2⟩
set_option maxHeartbeats 2000000 in
set_option maxRecDepth 20000 in
theorem nagain_ok (W : World) (lim : Nat) (g0 g1 g2 g3 : Value) (kind : Int) (V : NBV) (b : NB) (hN : NBAt W lim g0 g1 g2 g3 kind V b) (hb : b.Ok) (x : NPart) (hx : x.In b.out.length) (hT : BruAt W) (hl0 : 0 < lim) :
    Calls Tryd.prog 36 #[.pointer (some ⟨V.bb, 0, none⟩), partV x] W fun e W' => e = .returned (partV x) ∧ NBAt W' lim g0 g1 g2 g3 kind V (b.follow x.last x.first) ∧ Below lim W W' ∧ KpF lim W W' := by
  have hB := box2 W x
  obtain ⟨w2, hw2⟩ : ∃ w2, (W.alloc (.cells (partL x).toArray 70)).alloc (.cells Tryd.zeroCells70 70) = w2 := ⟨_, rfl⟩
  rw [hw2] at hB
  have hN2 := hN.grew hB.grew
  have HF := Lib.hid (nfollow_ok w2 lim g0 g1 g2 g3 kind V b hN2 hb x.last x.first hx.2 hx.1 (hT.grew hB.grew) hl0)
  have H1 := Lib.hid (part_first hB.o1)
  have H2 := Lib.hid (part_last hB.o1)
  have HB := Lib.hid hB
  have HL := Lib.hid hN.low
  have hlt := hB.o1.lt
  clear hN hN2 hB hT
  unfold partV
  go_enter Tryd.func36, Tryd.ntmps36
  go_wp2_with (first
    | (refine wpList_runV rfl (wdV x.last) (exec_load_at H2.out rfl rfl) ?_; simp only [Act.put, List.setIfInBounds_toArray, List.set_cons_zero, List.set_cons_succ])
    | (refine wpList_runV rfl (wdV x.first) (exec_load_at H1.out rfl rfl) ?_; simp only [Act.put, List.setIfInBounds_toArray, List.set_cons_zero, List.set_cons_succ]))
  clear hw2
  refine HF.out.mono ?_
  rintro e w3 ⟨⟨v, rfl⟩, hN3, hK3⟩
  have O1 := Lib.hid (hK3.owns HB.out.o1 (by unfold BldT; decide))
  have O2 := Lib.hid (hK3.owns HB.out.o2 (by unfold BldT; decide))
  have HN3 := Lib.hid hN3
  have HK3 := Lib.hid ((KpF.grew HB.out.grew HL.out).trans hK3)
  clear hN3 hK3
  go_upto_region 2 with fail
  apply wp_region_lit
  refine wpList_load_part O1.out rfl _ rfl rfl ?_
  simp only [Act.put, List.setIfInBounds_toArray, List.set_cons_zero, List.set_cons_succ]
  refine wpList_store_part O2.out rfl _ _ rfl rfl rfl ?_
  intro w4 o4 b4
  simp only [Act.put]
  have O4 := Lib.hid o4
  have HN4 := Lib.hid (HN3.out.other O2.out (by unfold BldT; decide) (by decide) b4)
  have HK4 := Lib.hid (HK3.out.fresh b4 (by omega) HL.out)
  clear o4 b4
  go_wp2_with fail
  exact bodyPost_ret (ret_part rfl _ O4.out rfl) rfl ⟨rfl, HN4.out, HK4.out.low, HK4.out⟩
end Go.Proofs.YtkinlcichclnkaaDoor
