/- prunes.numbered: a state of each part that is come by, in the order in which they come. -/
import Derived.Test.YtogmlonhciiomaaDoorPrNumMem
namespace Go.Proofs.YtogmlonhciiomaaDoor
open Go.RowKit

/-- those that came -/
structure CInv (n : Nat) (q come : List Nat) : Prop where
  lt : ∀ c ∈ come, c < n
  apart : ∀ k l (h1 : k < come.length) (h2 : l < come.length), k < l → sameQ q come[k] come[l] = false
  pos : 0 < come.length
theorem CInv.most {n : Nat} {q come : List Nat} (h : CInv n q come) : come.length ≤ n :=
  nodup_below n come (by
    rw [List.nodup_iff_pairwise_ne, List.pairwise_iff_getElem]
    intro k l h1 h2 hkl e
    have := h.apart k l h1 h2 hkl
    rw [e] at this
    simp [sameQ] at this) h.lt
theorem CInv.snoc {n : Nat} {q come : List Nat} (h : CInv n q come) {c : Nat} (hc : c < n) (hn : come.findIdx? (fun d => sameQ q d c) = none) : CInv n q (come ++ [c]) := by
  refine ⟨fun d hd => ?_, fun k l h1 h2 hkl => ?_, by simp⟩
  · rcases List.mem_append.1 hd with hd | hd
    · exact h.lt d hd
    · rw [List.mem_singleton.1 hd]; exact hc
  · simp only [List.length_append, List.length_cons, List.length_nil] at h1 h2
    by_cases e : l < come.length
    · rw [List.getElem_append_left (by omega), List.getElem_append_left e]; exact h.apart k l (by omega) e hkl
    · have : l = come.length := by omega
      subst this
      rw [List.getElem_append_left hkl, List.getElem_concat_length rfl]
      rw [List.findIdx?_eq_none_iff] at hn
      simpa using hn _ (List.getElem_mem hkl)
theorem CInv.start {n : Nat} (q : List Nat) (h : 0 < n) : CInv n q [0] := ⟨by simp; omega, fun k l h1 h2 hkl => by simp at h1 h2; omega, by simp⟩
/-- within a state: how far the numbering is -/
def Num1 (q : List Nat) (l : List Ed) (come0 come : List Nat) (es : List Ed) (k : Nat) : Prop := numE (sameQ q) l come0 = (es ++ (numE (sameQ q) (l.drop k) come).1, (numE (sameQ q) (l.drop k) come).2)
theorem Num1.start (q : List Nat) (l : List Ed) (come : List Nat) : Num1 q l come come [] 0 := rfl
theorem Num1.old {q : List Nat} {l : List Ed} {come0 come : List Nat} {es : List Ed} {k c : Nat} (h : Num1 q l come0 come es k) (hk : k < l.length) (hf : come.findIdx? (fun d => sameQ q d l[k].tgt.toNat) = some c) : Num1 q l come0 come (es ++ [⟨l[k].tok, c⟩]) (k + 1) := by
  unfold Num1 at *
  rw [h, List.drop_eq_getElem_cons hk, numE_some hf]
  simp
theorem Num1.new {q : List Nat} {l : List Ed} {come0 come : List Nat} {es : List Ed} {k : Nat} (h : Num1 q l come0 come es k) (hk : k < l.length) (hf : come.findIdx? (fun d => sameQ q d l[k].tgt.toNat) = none) : Num1 q l come0 (come ++ [l[k].tgt.toNat]) (es ++ [⟨l[k].tok, come.length⟩]) (k + 1) := by
  unfold Num1 at *
  rw [h, List.drop_eq_getElem_cons hk, numE_none hf]
  simp
theorem Num1.done {q : List Nat} {l : List Ed} {come0 come : List Nat} {es : List Ed} (h : Num1 q l come0 come es l.length) : numE (sameQ q) l come0 = (es, come) := by
  unfold Num1 at h
  rw [h, List.drop_length]
  simp [numE]
/-- between states -/
def Num2 (t : Aut) (q : List Nat) (i : Nat) (come : List Nat) (out : Aut) : Prop := numM t (sameQ q) = numAll t (sameQ q) (5000 - i) i come out
theorem Num2.next {t : Aut} {q : List Nat} {i : Nat} {come come' : List Nat} {out : Aut} {es : List Ed} (h : Num2 t q i come out) (hi : i < come.length) (h5 : i < 5000) (hn : numE (sameQ q) (t.edges come[i]) come = (es, come')) :
    Num2 t q (i + 1) come' (out ++ [⟨t.kind come[i], t.alts come[i], es⟩]) := by
  unfold Num2 at *
  rw [h, show 5000 - i = (5000 - (i + 1)) + 1 by omega, numAll, List.getElem?_eq_getElem hi]
  simp only [hn]
theorem Num2.done {t : Aut} {q : List Nat} {come : List Nat} {out : Aut} (h : Num2 t q come.length come out) (h5 : come.length < 5000) : numM t (sameQ q) = out := by
  unfold Num2 at h
  rw [h, show 5000 - come.length = (5000 - (come.length + 1)) + 1 by omega, numAll, List.getElem?_eq_none (Nat.le_refl _)]

/-- what numbered gives -/
def NumIs (t : Aut) (q : List Nat) (W : World) (e : Ending) (W' : World) : Prop := ∃ v' vs, e = .returned (.agg #[v']) ∧ (looseRow W' W.heap.size 51 3 v' (numM t (sameQ q)).length (triVs vs) ∧ RowsIn W.heap.size W' vs (numM t (sameQ q))) ∧ Grew W W'

set_option maxHeartbeats 4000000 in
set_option maxRecDepth 20000 in
theorem pnumbered_ok (t : Aut) (ht : t.Few) (hin : Inside t) (h0 : 0 < t.length) (q : List Nat) (hql : q.length = t.length) (W : World) (pv v : Value) (hP : IntsV W W.heap.size pv (partL q)) (hA : AutV .u8 W W.heap.size v t) :
    Calls Tryd.prog 35 #[.agg #[v], pv] W (NumIs t q W) := by
  have hA2 := hA
  obtain ⟨ad, cap, rfl, hcap, hA⟩ := hA
  obtain ⟨pa, pc, rfl, hpc, hP⟩ := hP
  have hplen : (partL q).length = t.length := by simp [partL, hql]
  have hn := ht.states
  have hmk : ∀ (ty : TypeId) (w : World), (Instr.makeMap ty none).run Tryd.prog w = .ok (.map (some w.heap.size)) (w.alloc (.map #[] 0)) := fun _ _ => rfl
  obtain ⟨w1, hw1⟩ : ∃ w1, W.alloc (.cells #[.slice ad t.length cap] 24) = w1 := ⟨_, rfl⟩
  obtain ⟨w2, hw2⟩ : ∃ w2, w1.alloc (.cells #[.slice none 0 0] 24) = w2 := ⟨_, rfl⟩
  obtain ⟨w3, hw3⟩ : ∃ w3, w2.alloc (.cells #[.slice none 0 0] 24) = w3 := ⟨_, rfl⟩
  obtain ⟨w4, hw4⟩ : ∃ w4, w3.alloc (.map #[] 0) = w4 := ⟨_, rfl⟩
  have z1 : w1.heap.size = W.heap.size + 1 := by rw [← hw1]; simp
  have z2 : w2.heap.size = W.heap.size + 1 + 1 := by rw [← hw2]; simp; omega
  have z3 : w3.heap.size = W.heap.size + 1 + 1 + 1 := by rw [← hw3]; simp; omega
  have z4 : w4.heap.size = W.heap.size + 1 + 1 + 1 + 1 := by rw [← hw4]; simp; omega
  have g1 : Grew W w1 := hw1 ▸ grew_alloc W _
  have g2 : Grew w1 w2 := hw2 ▸ grew_alloc w1 _
  have g3 : Grew w2 w3 := hw3 ▸ grew_alloc w2 _
  have g4 : Grew w3 w4 := hw4 ▸ grew_alloc w3 _
  have oA : Owns w2 W.heap.size [.slice ad t.length cap] 24 := (hw1 ▸ Owns.alloc W _ _ : Owns w1 W.heap.size [.slice ad t.length cap] 24).keep g2
  have oR : Owns w2 (W.heap.size + 1) [.slice none 0 0] 24 := z1 ▸ hw2 ▸ Owns.alloc w1 _ _
  have oO : Owns w4 (W.heap.size + 1 + 1) [.slice none 0 0] 24 := (z2 ▸ hw3 ▸ Owns.alloc w2 _ _ : Owns w3 (W.heap.size + 1 + 1) [.slice none 0 0] 24).keep g4
  have hM4 : w4.heap[W.heap.size + 1 + 1 + 1]? = some (mapObj (numL (([] : List Nat).map (pkey q)))) := by rw [← hw4, ← z3]; exact heap_alloc_new w3 _
  -- the first part's number
  obtain ⟨b3, off3, rfl, hb3l, hc3⟩ := hP 0 (by omega)
  have hq0 : (partL q)[0]'(by omega) = ((q.getD 0 0 : Nat) : Int) := by
    have : 0 < q.length := by omega
    simp [partL, List.getD, this]
  rw [hq0, Nat.add_zero] at hc3
  have p0 : w4.cell? ⟨b3, off3, none⟩ = some (.int .i64 ((q.getD 0 0 : Nat) : Int)) := by rw [((g1.trans g2).trans (g3.trans g4)).cells _ _ hb3l]; exact hc3
  have hput := run_num_put (P := Tryd.prog) (w := w4) (t := 91) (kt := 3) (e := 3) (v := pkey q 0) Tryd.underlying91 hM4 (pkey_run Tryd.prog w4 Tryd.underlying3 _ q []) rfl
  obtain ⟨w5, hw5⟩ : ∃ w5, putObj w4 (W.heap.size + 1 + 1 + 1) (mapObj (numL (([] : List Nat).map (pkey q) ++ [pkey q 0]))) = w5 := ⟨_, rfl⟩
  rw [hw5] at hput
  have hput2 : (Instr.mapUpdate 91 (.map (some (W.heap.size + 1 + 1 + 1))) (.int .i64 ((q.getD 0 0 : Nat) : Int)) (.int .i64 0)).run Tryd.prog w4 = .ok () w5 := hput
  obtain ⟨w6, hw6⟩ : ∃ w6, w5.alloc (.cells #[.int .i64 0] 3) = w6 := ⟨_, rfl⟩
  have z5 : w5.heap.size = W.heap.size + 1 + 1 + 1 + 1 := by rw [← hw5, putObj_size]; exact z4
  have g6 : Grew w5 w6 := hw6 ▸ grew_alloc w5 _
  have oO6 : Owns w6 (W.heap.size + 1 + 1) [.slice none 0 0] 24 := (hw5 ▸ putObj_owns oO (by omega) _ : Owns w5 (W.heap.size + 1 + 1) [.slice none 0 0] 24).keep g6
  have hM5 : w5.heap[W.heap.size + 1 + 1 + 1]? = some (mapObj (numL (([0] : List Nat).map (pkey q)))) := by rw [← hw5]; exact putObj_same (by omega) _
  have hM6 : w6.heap[W.heap.size + 1 + 1 + 1]? = some (mapObj (numL (([0] : List Nat).map (pkey q)))) := by rw [g6.block _ (by omega)]; exact hM5
  have hB6 : Below (W.heap.size + 1 + 1) w2 w6 := by
    have h1 : Below (W.heap.size + 1 + 1) w2 w4 := (g3.trans g4).mono (by omega)
    have h2 : Below (W.heap.size + 1 + 1) w2 w5 := by rw [← hw5]; exact putObj_below h1 (by omega) _
    exact h2.trans (g6.mono (by omega))
  have hc6 : looseRow w6 (W.heap.size + 1 + 1) 3 1 (.slice (some ⟨W.heap.size + 1 + 1 + 1 + 1, 0, none⟩) 1 1) 1 (intVs (partL [0])) :=
    ⟨rfl, .inr ⟨_, 1, #[.int .i64 0], rfl, by omega, by rw [← hw6, ← z5]; exact heap_alloc_new w5 _, Nat.le_refl _, by unfold maxLen; omega, Nat.le_refl _, rfl⟩⟩
  have hO6 : OutMem w2 (W.heap.size + 1 + 1) (W.heap.size + 1 + 1 + 1) (W.heap.size + 1 + 1) (W.heap.size + 1) q [0] [] (.slice (some ⟨W.heap.size + 1 + 1 + 1 + 1, 0, none⟩) 1 1) (.slice none 0 0) [] w6 :=
    ⟨hB6, hM6, hc6, oO6, ⟨rfl, .inl ⟨rfl, rfl⟩⟩, fun _ _ => ⟨rfl, fun k hk => absurd hk (by simp)⟩, by omega, by omega, by omega, by have := g6.size; omega⟩
  obtain ⟨c0, hcq⟩ : ∃ c0 : Int, c0 = ((q.getD 0 0 : Nat) : Int) := ⟨_, rfl⟩
  rw [← hcq] at p0 hput2
  have HO6 := Lib.hid hO6
  have HOA := Lib.hid oA
  have HOR := Lib.hid oR
  have HG2 := Lib.hid (g1.trans g2)
  have HA := Lib.hid hA
  have HP := Lib.hid hP
  have hmk3 : ∀ (ty : TypeId), (Instr.makeMap ty none).run Tryd.prog w3 = .ok (.map (some (W.heap.size + 1 + 1 + 1))) w4 := fun ty => by rw [hmk, hw4, z3]
  have HPL := Lib.hid hplen
  have hp0 : 0 < (partL q).length := by omega
  clear g1 g2 g3 g4 g6 oA oR oO oO6 hM4 hM5 hM6 hB6 hc6 hO6 hput hmk hA hA2 hP hc3 hq0 hplen hw5 hcq
  go_enter Tryd.func35, Tryd.ntmps35
  go_wp2_with fail
  have HCI : Hid (CInv t.length q [0]) := Lib.hid (CInv.start q h0)
  obtain ⟨M, hMe⟩ : ∃ M, M = W.heap.size + 1 + 1 + 1 := ⟨_, rfl⟩
  obtain ⟨O, hOe⟩ : ∃ O, O = W.heap.size + 1 + 1 := ⟨_, rfl⟩
  have HMO : Hid (OutMem w2 (W.heap.size + 1 + 1) M O (W.heap.size + 1) q [0] [] (.slice (some ⟨M + 1, 0, none⟩) 1 1) (.slice none 0 0) [] w6) := Lib.hid (by rw [hMe, hOe]; exact HO6.out)
  rw [← hMe, ← hOe]
  have HME := Lib.hid hMe
  have HOE := Lib.hid hOe
  clear hMe hOe hw1 hw2 hw3 hw4 hw6 z1 z2 z3 z4 z5 hput2 hmk3 p0 HO6
  go_loopw [7, 8] (fun cv i wr => ∃ (j : Nat) (come : List Nat) (out : Aut) (ov : Value) (vs : List (Value × Value × Value)), i = .int .i64 j ∧ j ≤ come.length ∧ (∃ ca cc, cv = .slice ca come.length cc) ∧ Hid (OutMem w2 (W.heap.size + 1 + 1) M O (W.heap.size + 1) q come out cv ov vs wr) ∧ Hid (CInv t.length q come) ∧ Hid (Num2 t q j come out) ∧ Hid (out.length = j))
    (fun _ i _ => t.length - (intOf i).toNat)
  case atStart => exact ⟨0, [0], [], _, [], rfl, by simp, ⟨_, _, rfl⟩, HMO.out, HCI.out, rfl, rfl⟩
  case round =>
    obtain ⟨j, come, out, ov, vs, rfl, hj, ⟨ca, cc, rfl⟩, HM, HC, HN, HOL⟩ := hrel
    have hcl := HC.out.most
    by_cases hlt : j < come.length
    · obtain ⟨c, hcc0⟩ : ∃ c, come[j] = c := ⟨_, rfl⟩
      have hcj : c < t.length := by rw [← hcc0]; exact HC.out.lt _ (List.getElem_mem hlt)
      obtain ⟨s, hss⟩ : ∃ s, t[c] = s := ⟨_, rfl⟩
      have hsm : s ∈ t := by rw [← hss]; exact List.getElem_mem hcj
      have hBw : Below (W.heap.size + 1 + 1) w2 wr := HM.out.below
      have hgw : Grew W wr := Below.trans (B := W.heap.size) HG2.out (hBw.mono (by omega))
      -- the state that is numbered
      obtain ⟨b, off, v0, v1, v2, rfl, hbl, e0, e1, e2, hs⟩ := HA.out c hcj
      rw [hss] at hs
      obtain ⟨rfl, hal, hE⟩ := hs
      obtain ⟨a1, n1, rfl, hcc1, hcc3⟩ := hal
      obtain ⟨a2, c2, rfl, hcc2, hE⟩ := hE
      have r0 : wr.cell? ⟨b, off + c * 3, none⟩ = some (.int .u8 s.kind) := by rw [hgw.cells _ _ hbl]; exact e0
      have r1 : wr.cell? ⟨b, off + c * 3 + 1, none⟩ = some (.slice a1 s.alts.length n1) := by rw [hgw.cells _ _ hbl]; exact e1
      have r2 : wr.cell? ⟨b, off + c * 3 + 2, none⟩ = some (.slice a2 s.edges.length c2) := by rw [hgw.cells _ _ hbl]; exact e2
      have rA : wr.cell? ⟨W.heap.size, 0, none⟩ = some (.slice (some ⟨b, off, none⟩) t.length cap) := (HOA.out.below hBw (by omega)).cell_at (i := 0) rfl
      -- its number among those that came
      obtain ⟨gc, rfl, hcc, hgl, hcome⟩ : ∃ gc, ca = some ⟨gc, 0, none⟩ ∧ come.length ≤ cc ∧ gc < wr.heap.size ∧ wr.cell? ⟨gc, j, none⟩ = some (.int .i64 (c : Int)) := by
        rcases row_cells HM.out.come with ⟨_, h⟩ | ⟨g, cap, h1, h2, _, h3, h4⟩
        · omega
        · simp only [Value.slice.injEq] at h1
          exact ⟨g, h1.1, by omega, h3, h4 j _ (by simp [intVs, partL, hlt, hcc0])⟩
      have hTC : t.kind c = s.kind ∧ t.alts c = s.alts ∧ t.edges c = s.edges := by rw [← hss]; exact Aut.at hcj
      have hae := ht.edges _ hsm
      have haa := ht.alts _ hsm
      have HIV := Lib.hid (show IntsV W W.heap.size (.slice a1 s.alts.length n1) s.alts from ⟨_, _, rfl, hcc1, hcc3⟩)
      have HEV := Lib.hid hE
      have HINS := Lib.hid (show ∀ e ∈ s.edges, ∃ i : Nat, e.tgt = i ∧ i < t.length from fun e he => hin c e (by rw [hTC.2.2]; exact he))
      have HTC := Lib.hid hTC
      have lA : W.heap.size < wr.heap.size := by have := HM.out.size; omega
      have lb : b < wr.heap.size := by omega
      have HGW := Lib.hid hgw
      have HCC := Lib.hid hcc0
      clear e0 e1 e2 hE hcc1 hcc3 hcc2 hgw hBw hTC hcc0 hss hsm
      go_wp2_with fail
      refine wp_region_hav_lit follows (by kernel_rfl) ?_
      repeat (first
        | (refine HavG.skip (fun _ => rfl) ?_; simp only [Act.put, List.setIfInBounds_toArray, List.set_cons_zero, List.set_cons_succ])
        | (refine HavG.val (fun _ => rfl) ?_ (fun x w hw _ => ?_) ?_; rotate_left; (focus (have hc := hw.cells; clear hw; go_simp; first | done | rfl)); simp only [Act.put, List.setIfInBounds_toArray, List.set_cons_zero, List.set_cons_succ]))
      refine HavG.any (fun _ => rfl) (FreshAt wr.heap.size [.int .u8 0, .slice none 0 0, .slice none 0 0] 51) (fun _ _ _ hg h => h.keep hg) (fun x w hw _ => ?_) ?_
      · have HW := Lib.hid hw
        clear hw
        go_simp
        exact ⟨grew_alloc _ _, _, rfl, HW.out.size, Owns.alloc _ _ _⟩
      simp only [Act.put, List.setIfInBounds_toArray, List.set_cons_zero, List.set_cons_succ]
      refine HavG.tail (by kernel_rfl) (by kernel_rfl) (fun x w7 hw hx => ?_)
      have hx8 := hx _ (List.mem_append_right _ (List.mem_singleton.2 rfl))
      clear hx
      dsimp only at hx8
      generalize x (0 + 1 + 1 + 1 + 1 + 1 + 1 + 1 + 1) = y8 at *
      obtain ⟨sb, rfl, hsb, hos⟩ := hx8
      have s0 := hos.cell_at (i := 0) rfl
      have s1 := hos.cell_at (i := 1) rfl
      have s2 := hos.cell_at (i := 2) rfl
      have f0 := hos.free 0
      have f1 := hos.free 1
      have f2 := hos.free 2
      obtain ⟨w8, hw8⟩ : ∃ w8, ((w7.setCell ⟨sb, 0, none⟩ (.int .u8 s.kind)).setCell ⟨sb, 1, none⟩ (.slice a1 s.alts.length n1)).setCell ⟨sb, 2, none⟩ (.slice a2 s.edges.length c2) = w8 := ⟨_, rfl⟩
      have o8 : Owns w8 sb [.int .u8 s.kind, .slice a1 s.alts.length n1, .slice a2 s.edges.length c2] 51 := hw8 ▸ hos.put3 _ _ _
      have g8 : Grew wr w8 := hw8 ▸ below_put3 hw hsb _ _ _
      have HO8 := Lib.hid o8
      have HG8 := Lib.hid g8
      have t0 := o8.cell_at (i := 0) rfl
      have t1 := o8.cell_at (i := 1) rfl
      have t2 := o8.cell_at (i := 2) rfl
      have lsb := o8.lt
      clear o8 g8 hos hw
      have HCL : Hid (∀ w, Grew w8 w → Calls Tryd.prog 24 #[.slice a1 s.alts.length n1] w (Cloned w 3 1 s.alts.length (intVs s.alts))) :=
        Lib.hid fun w hg => pcloneI_ok s.alts (by omega) w _ (HIV.out.grew ((HGW.out.trans HG8.out).trans hg))
      go_wp2_with fail
      refine wp_region_hav_lit follows (by kernel_rfl) ?_
      repeat (first
        | (refine HavG.skip (fun _ => rfl) ?_; simp only [Act.put, List.setIfInBounds_toArray, List.set_cons_zero, List.set_cons_succ])
        | (refine HavG.val (fun _ => rfl) ?_ (fun x w hw _ => ?_) ?_; rotate_left; (focus (have hc := hw.cells; clear hw; go_simp; first | done | rfl)); simp only [Act.put, List.setIfInBounds_toArray, List.set_cons_zero, List.set_cons_succ]))
      refine HavG.any (fun _ => rfl) (AltsR w8.heap.size s.alts) (fun _ _ _ hg h => h.keep hg) (fun x w hw _ => ?_) ?_
      · have HC := Lib.hid (HCL.out w hw)
        have HW := Lib.hid hw
        clear hw
        go_simp
        refine HC.out.mono ?_
        rintro e w' ⟨v, rfl, hv, hb⟩
        exact ⟨hb, hv.base HW.out.size⟩
      simp only [Act.put, List.setIfInBounds_toArray, List.set_cons_zero, List.set_cons_succ]
      refine HavG.any (fun _ => rfl) (AltsR w8.heap.size s.alts) (fun _ _ _ hg h => h.keep hg) (fun x w hw hd => ?_) ?_
      · have hd4 := hd _ (List.mem_append_right _ (List.mem_singleton.2 rfl)) (by kernel_rfl)
        dsimp only at hd4
        clear hd hw
        generalize x (0 + 1 + 1 + 1 + 1) = y4 at *
        have HC := Lib.hid (pclipI_ok w w8.heap.size s.alts.length y4 (intVs s.alts) (by omega) hd4)
        obtain ⟨ya, ym, yc, rfl⟩ := row_form hd4
        clear hd4
        go_simp
        refine HC.out.mono ?_
        rintro e w' ⟨⟨u, rfl, hu, _⟩, rfl⟩
        exact ⟨Grew.refl _, hu⟩
      simp only [Act.put, List.setIfInBounds_toArray, List.set_cons_zero, List.set_cons_succ]
      refine HavG.any (fun _ => rfl) (BuiltR w8.heap.size s.kind s.alts) (fun _ _ _ hg h => h.keep hg) (fun x w hw hd => ?_) ?_
      · have hd5 := hd _ (List.mem_append_right _ (List.mem_singleton.2 rfl)) (by kernel_rfl)
        dsimp only at hd5
        clear hd hw
        generalize x (0 + 1 + 1 + 1 + 1 + 1) = y5 at *
        obtain ⟨ya, ym, yc, rfl⟩ := row_form hd5
        have H5 := Lib.hid hd5
        clear hd5
        go_simp
        exact ⟨Grew.refl w, _, _, _, rfl, H5.out⟩
      simp only [Act.put, List.setIfInBounds_toArray, List.set_cons_zero, List.set_cons_succ]
      refine HavG.any (fun _ => rfl) (FreshAt w8.heap.size [.int .u8 0, .slice none 0 0, .slice none 0 0] 51) (fun _ _ _ hg h => h.keep hg) (fun x w hw _ => ?_) ?_
      · have HW := Lib.hid hw
        clear hw
        go_simp
        exact ⟨grew_alloc _ _, _, rfl, HW.out.size, Owns.alloc _ _ _⟩
      simp only [Act.put, List.setIfInBounds_toArray, List.set_cons_zero, List.set_cons_succ]
      refine HavG.tail (by kernel_rfl) (by kernel_rfl) (fun x w9 hw hx => ?_)
      have hx7 := hx _ (List.mem_append_right _ (List.mem_singleton.2 rfl))
      have hx6 := hx _ (List.mem_append_left _ (List.mem_append_right _ (List.mem_singleton.2 rfl)))
      clear hx
      dsimp only at hx7 hx6
      generalize x (0 + 1 + 1 + 1 + 1) = y4 at *
      generalize x (0 + 1 + 1 + 1 + 1 + 1) = y5 at *
      generalize x (0 + 1 + 1 + 1 + 1 + 1 + 1) = y6 at *
      generalize x (0 + 1 + 1 + 1 + 1 + 1 + 1 + 1) = y7 at *
      obtain ⟨X, rfl, hX, hoX⟩ := hx7
      obtain ⟨ua, um, uc, rfl, hur⟩ := hx6
      have s0' := hoX.cell_at (i := 0) rfl
      have s1' := hoX.cell_at (i := 1) rfl
      have s2' := hoX.cell_at (i := 2) rfl
      have f0' := hoX.free 0
      have f1' := hoX.free 1
      have f2' := hoX.free 2
      clear s0 s1 s2 f0 f1 f2 t0 t1 hsb
      obtain ⟨w10, hw10⟩ : ∃ w10, ((w9.setCell ⟨X, 0, none⟩ (.int .u8 s.kind)).setCell ⟨X, 1, none⟩ (.slice ua um uc)).setCell ⟨X, 2, none⟩ (.slice none 0 0) = w10 := ⟨_, rfl⟩
      have o10 : Owns w10 X [.int .u8 s.kind, .slice ua um uc, .slice none 0 0] 51 := hw10 ▸ hoX.put3 _ _ _
      have g10 : Grew w8 w10 := hw10 ▸ below_put3 hw hX _ _ _
      have hne : (Value.slice ua um uc).ownBlock ≠ some X := fun e => type_ne (owns_type hoX) (row_type hur e) (by decide) rfl
      have hu10 : looseRow w10 w8.heap.size 3 1 (.slice ua um uc) s.alts.length (intVs s.alts) := by
        rw [← hw10]
        exact ((looseRow.off hur (a := ⟨X, 0, none⟩) hne _).off (a := ⟨X, 1, none⟩) hne _).off (a := ⟨X, 2, none⟩) hne _
      have HIM := Lib.hid ((HM.out.grew HG8.out).begin g10 hX o10 hu10)
      have HG10 := Lib.hid ((HGW.out.trans HG8.out).trans g10)
      have t2' : w10.cell? ⟨sb, 2, none⟩ = some (.slice a2 s.edges.length c2) := by rw [g10.cells _ _ lsb]; exact t2
      clear o10 g10 hne hu10 hw hoX hur t2 r0 r1 r2 rA hcome HCL lA lb lsb
      go_wp2_with fail
      clear hw10 hw8 t2' s0' s1' s2' f0' f1' f2'
      have hE0 := HEV.out
      go_loopw [7, 45] (fun cv i wr => ∃ (k : Nat) (come' : List Nat) (es : List Ed) (ev : Value), i = .int .i64 k ∧ k ≤ s.edges.length ∧ (∃ ca cc, cv = .slice ca come'.length cc) ∧ Hid (InMem w2 (W.heap.size + 1 + 1) M O (W.heap.size + 1) X q come' come' s.kind s.alts es out cv ov (.slice ua um uc) ev ev vs wr) ∧
          Hid (CInv t.length q come') ∧ Hid (Num1 q s.edges come come' es k)) (fun _ i _ => s.edges.length - (intOf i).toNat)
      case atStart => exact ⟨0, come, [], _, rfl, by omega, ⟨_, _, rfl⟩, HIM.out, HC.out, Num1.start _ _ _⟩
      case round =>
        obtain ⟨k, come', es, ev, rfl, hk, ⟨ca', cc', rfl⟩, HM2, HC2, HN2⟩ := hrel
        have hcl2 := HC2.out.most
        by_cases hlt2 : k < s.edges.length
        · obtain ⟨b4, off4, rfl, hb4, ec0, ec1⟩ := hE0 k hlt2
          have hgw2 : Grew W wr := Below.trans (B := W.heap.size) HG2.out (HM2.out.below.mono (by omega))
          obtain ⟨ti, hti, htl⟩ := HINS.out _ (List.getElem_mem hlt2)
          rw [hti] at ec1
          obtain ⟨tok, htok⟩ : ∃ tok, s.edges[k].tok = tok := ⟨_, rfl⟩
          rw [htok] at ec0
          have k0 : wr.cell? ⟨b4, off4 + k * 2, none⟩ = some (.int .i64 tok) := by rw [hgw2.cells _ _ hb4]; exact ec0
          have k1 : wr.cell? ⟨b4, off4 + k * 2 + 1, none⟩ = some (.int .i64 (ti : Int)) := by rw [hgw2.cells _ _ hb4]; exact ec1
          obtain ⟨qv, hqv⟩ : ∃ qv : Int, qv = ((q.getD ti 0 : Nat) : Int) := ⟨_, rfl⟩
          obtain ⟨b5, off5, hb5e, hb5, hc5⟩ := HP.out ti (by rw [HPL.out]; exact htl)
          simp only [Option.some.injEq, Addr.mk.injEq, and_true] at hb5e
          obtain ⟨rfl, rfl⟩ := hb5e
          have hq5 : (partL q)[ti]'(by rw [HPL.out]; exact htl) = qv := by
            rw [hqv]
            have : ti < q.length := by rw [hql]; exact htl
            simp [partL, List.getD, this]
          rw [hq5] at hc5
          obtain ⟨w11, hw11⟩ : ∃ w11, wr.alloc (.cells #[.int .i64 tok, .int .i64 (ti : Int)] 53) = w11 := ⟨_, rfl⟩
          have g11 : Grew wr w11 := hw11 ▸ grew_alloc wr _
          have o11 : Owns w11 wr.heap.size [.int .i64 tok, .int .i64 (ti : Int)] 53 := hw11 ▸ Owns.alloc wr _ _
          have M11 := HM2.out.grew g11
          obtain ⟨ea, em, ec, rfl⟩ := row_form M11.erow
          have hel : es.length ≤ 400 := by
            have := congrArg (fun x => x.1.length) HN2.out
            simp only [List.length_append, numE_len, List.length_drop] at this
            omega
          have p5 : w11.cell? ⟨b3, off3 + ti, none⟩ = some (.int .i64 qv) := by rw [(hgw2.trans g11).cells _ _ hb3l]; exact hc5
          have htl' : (ti : Int) < ((partL q).length : Int) := by rw [HPL.out]; omega
          have hlook := run_num_look (P := Tryd.prog) (w := w11) (t := 91) (kt := 3) (e := 3) (v := .int .i64 qv) Tryd.underlying91 M11.map (pkey_run Tryd.prog w11 Tryd.underlying3 qv q come') (by kernel_rfl)
          have hput := run_num_put (P := Tryd.prog) (w := w11) (t := 91) (kt := 3) (e := 3) (v := .int .i64 qv) Tryd.underlying91 M11.map (pkey_run Tryd.prog w11 Tryd.underlying3 qv q come')
          have hfind : (come'.map (pkey q)).findIdx? (intF qv) = come'.findIdx? fun c => sameQ q c ti := by rw [hqv]; exact pkey_find q come' ti
          rw [hfind] at hput hlook
          rw [List.length_map] at hput
          have hpk : come'.map (pkey q) ++ [.int .i64 qv] = (come' ++ [ti]).map (pkey q) := by rw [List.map_append, hqv]; rfl
          rw [hpk] at hput
          obtain ⟨i0e, hie, hz0e, hz1e, hz2e⟩ := info_parts info_pEdge
          obtain ⟨i0i, hii, hz0i, hz1i, hz2i⟩ := info_parts info_pint
          have hie := Lib.hid hie
          have hz0e := Lib.hid hz0e
          have hz1e := Lib.hid hz1e
          have hz2e := Lib.hid hz2e
          have hii := Lib.hid hii
          have hz0i := Lib.hid hz0i
          have hz1i := Lib.hid hz1i
          have hz2i := Lib.hid hz2i
          have HM11 := Lib.hid M11
          have HLK := Lib.hid hlook
          have HPT := Lib.hid hput
          have d1 := o11.cell_at (i := 1) rfl
          have d0 := o11.cell_at (i := 0) rfl
          have dx := M11.xbox.cell_at (i := 2) rfl
          have HO11 := Lib.hid o11
          have HTI := Lib.hid hti
          have HTK := Lib.hid htok
          clear g11 o11 M11 hlook hput hfind hpk hqv hq5 hc5 ec0 ec1 hgw2 hti htok
          cases hfi : come'.findIdx? (fun c => sameQ q c ti) with
          | some c1 =>
            have hk1 := (HLK.out.1 c1 hfi).1
            obtain ⟨w12, hw12⟩ : ∃ w12, w11.alloc (.cells #[.int .i64 tok, .int .i64 (c1 : Int)] 53) = w12 := ⟨_, rfl⟩
            have M12 := Lib.hid (HM11.out.grew (hw12 ▸ grew_alloc w11 _ : Grew w11 w12))
            have NS := Lib.hid (news_owns (hw12 ▸ Owns.alloc w11 [.int .i64 tok, .int .i64 (c1 : Int)] 53 : Owns w12 w11.heap.size [.int .i64 tok, .int .i64 (c1 : Int)] 53))
            have HN3 := Lib.hid (HN2.out.old hlt2 (c := c1) (by rw [HTI.out]; exact hfi))
            rw [HTK.out] at HN3
            clear hfi
            go_wp2_with (at_builtin; refine wpList_append_loose w12 rfl _ _ 49 rfl (W.heap.size + 1 + 1) 53 i0e _ 2 16 Tryd.underlying49 hie.out hz0e.out hz1e.out hz2e.out rfl (by decide) (.slice ea em ec) es.length (edVs es) rfl M12.out.erow ⟨w11.heap.size, 0, none⟩ 1 1 [.int .i64 tok, .int .i64 (c1 : Int)] rfl rfl NS.out (two_ints _ _) (by decide) (by unfold maxLen; omega) (by omega) M12.out.size _ rfl ?_; intro gb gcap w16 hown hgrow hat hlt3; have M16 := M12.out.edge (e := ⟨tok, (c1 : Int)⟩) hown hgrow (own_slice rfl hat rfl); have x2 := M16.xbox.cell_at (i := 2) rfl; have xf := M16.xbox.free 2; have MF := Lib.hid (M16.store (.slice (some ⟨gb, 0, none⟩) (es.length + 1) gcap)); clear hown hgrow hat hlt3 M16)
            go_round
            case rel => exact ⟨k + 1, come', es ++ [(⟨tok, (c1 : Int)⟩ : Ed)], .slice (some ⟨gb, 0, none⟩) (es.length + 1) gcap, by go_num, by omega, ⟨ca', cc', rfl⟩, MF.out, HC2.out, HN3.out⟩
            case measure => simp [intOf]; omega
          | none =>
            have hk1 := HLK.out.2 hfi
            have hu := HPT.out hfi
            obtain ⟨w12, hw12⟩ : ∃ w12, putObj w11 M (mapObj (numL ((come' ++ [ti]).map (pkey q)))) = w12 := ⟨_, rfl⟩
            rw [hw12] at hu
            have M12 := hw12 ▸ HM11.out.put ti
            have o12 : Owns w12 wr.heap.size [.int .i64 tok, .int .i64 (ti : Int)] 53 := hw12 ▸ putObj_owns HO11.out (fun e => map_ne HM11.out.map (owns_type HO11.out) e.symm) _
            have e1 := o12.cell_at (i := 1) rfl
            obtain ⟨w13, hw13⟩ : ∃ w13, w12.alloc (.cells #[.int .i64 (ti : Int)] 3) = w13 := ⟨_, rfl⟩
            have g13 : Grew w12 w13 := hw13 ▸ grew_alloc w12 _
            have M13 := Lib.hid (M12.grew g13)
            have NS := Lib.hid (news_owns (hw13 ▸ Owns.alloc w12 [.int .i64 (ti : Int)] 3 : Owns w13 w12.heap.size [.int .i64 (ti : Int)] 3))
            have HO13 := Lib.hid (o12.keep g13)
            have HN3 := Lib.hid (HN2.out.new hlt2 (by rw [HTI.out]; exact hfi))
            rw [HTK.out, HTI.out] at HN3
            have HC3 : Hid (CInv t.length q (come' ++ [ti])) := Lib.hid (HC2.out.snoc htl hfi)
            clear hfi M12 o12 g13 hw12
            go_wp2_with (first
              | (at_builtin; refine wpList_append_loose w13 rfl _ _ 26 rfl (W.heap.size + 1 + 1) 3 i0i _ 1 8 Tryd.underlying26 hii.out hz0i.out hz1i.out hz2i.out rfl (by decide) (.slice ca' come'.length cc') come'.length (intVs (partL come')) rfl M13.out.come ⟨w12.heap.size, 0, none⟩ 1 1 [.int .i64 (ti : Int)] rfl rfl NS.out (one_int _) (by decide) (by unfold maxLen; omega) (by omega) M13.out.size _ rfl ?_; intro gb0 gcap0 w14 hown hgrow hat hlt3; have M14 := M13.out.comes (c := ti) hown hgrow (own_slice rfl hat rfl); have o14 := HO13.out.apart M13.out.come hgrow (by decide); have y0 := o14.cell_at (i := 0) rfl; have y2 := M14.xbox.cell_at (i := 2) rfl; have HM14 := Lib.hid M14; have hw15 : ∃ w15, w14.alloc (.cells #[.int .i64 tok, .int .i64 (come'.length : Int)] 53) = w15 := ⟨_, rfl⟩; clear hown hgrow hat hlt3 M14 o14; obtain ⟨w15, hw15⟩ := hw15; have M15 := Lib.hid (HM14.out.grew (hw15 ▸ grew_alloc w14 _ : Grew w14 w15)); have NS2 := Lib.hid (news_owns (hw15 ▸ Owns.alloc w14 [.int .i64 tok, .int .i64 (come'.length : Int)] 53 : Owns w15 w14.heap.size [.int .i64 tok, .int .i64 (come'.length : Int)] 53)))
              | (at_builtin; refine wpList_append_loose w15 rfl _ _ 49 rfl (W.heap.size + 1 + 1) 53 i0e _ 2 16 Tryd.underlying49 hie.out hz0e.out hz1e.out hz2e.out rfl (by decide) (.slice ea em ec) es.length (edVs es) rfl M15.out.erow ⟨w14.heap.size, 0, none⟩ 1 1 [.int .i64 tok, .int .i64 (come'.length : Int)] rfl rfl NS2.out (two_ints _ _) (by decide) (by unfold maxLen; omega) (by omega) M15.out.size _ rfl ?_; intro gb gcap w16 hown hgrow hat hlt3; have M16 := M15.out.edge (e := ⟨tok, (come'.length : Int)⟩) hown hgrow (own_slice rfl hat rfl); have x2 := M16.xbox.cell_at (i := 2) rfl; have xf := M16.xbox.free 2; have MF := Lib.hid (M16.store (.slice (some ⟨gb, 0, none⟩) (es.length + 1) gcap)); clear hown hgrow hat hlt3 M16))
            have MF2 : Hid (InMem w2 (W.heap.size + 1 + 1) M O (W.heap.size + 1) X q (come' ++ [ti]) (come' ++ [ti]) s.kind s.alts (es ++ [(⟨tok, (come'.length : Int)⟩ : Ed)]) out (.slice (some ⟨gb0, 0, none⟩) (come' ++ [ti]).length gcap0) ov (.slice ua um uc) (.slice (some ⟨gb, 0, none⟩) (es.length + 1) gcap) (.slice (some ⟨gb, 0, none⟩) (es.length + 1) gcap) vs (w16.setCell ⟨X, 2, none⟩ (.slice (some ⟨gb, 0, none⟩) (es.length + 1) gcap))) :=
              Lib.hid (by rw [List.length_append]; exact MF.out)
            have hcl3 : (Value.slice (some ⟨gb0, 0, none⟩) (come'.length + 1) gcap0) = .slice (some ⟨gb0, 0, none⟩) (come' ++ [ti]).length gcap0 := by rw [List.length_append]; rfl
            rw [hcl3]
            go_round
            case rel => exact ⟨k + 1, come' ++ [ti], es ++ [(⟨tok, (come'.length : Int)⟩ : Ed)], .slice (some ⟨gb, 0, none⟩) (es.length + 1) gcap, by go_num, by omega, ⟨_, _, rfl⟩, MF2.out, HC3.out, HN3.out⟩
            case measure => simp [intOf]; omega
        · have hke : k = s.edges.length := by omega
          subst hke
          have hdone := HN2.out.done
          obtain ⟨more, hmore, _⟩ := numE_pre (sameQ q) s.edges come
          have hmore2 : come' = come ++ more := by rw [hdone] at hmore; exact hmore
          have hcle : come.length ≤ come'.length := by rw [hmore2]; simp
          have hel : es.length ≤ 400 := by
            have h := numE_len (sameQ q) s.edges come
            rw [hdone] at h
            have h' : es.length = s.edges.length := h
            omega
          have hnext := HN.out.next hlt (by omega) (show numE (sameQ q) (t.edges come[j]) come = (es, come') by rw [HCC.out, HTC.out.2.2]; exact hdone)
          rw [HCC.out, HTC.out.1, HTC.out.2.1] at hnext
          have HNX := Lib.hid hnext
          obtain ⟨ea, em, ec, rfl⟩ := row_form HM2.out.erow
          obtain ⟨oa, om, oc, rfl⟩ := row_form HM2.out.orow
          have hol : out.length ≤ 5000 := by
            have h := HM2.out.orow
            have h2 := HN.out
            have h3 : out.length = j := HOL.out
            omega
          have HCP := Lib.hid (pclipE_ok wr (W.heap.size + 1 + 1) es.length _ (edVs es) (by omega) HM2.out.erow)
          have x2 := HM2.out.xbox.cell_at (i := 2) rfl
          have xf := HM2.out.xbox.free 2
          clear hnext hdone hmore hmore2
          go_wp2_with fail
          refine HCP.out.mono ?_
          rintro e w' ⟨⟨u, rfl, hu, hown⟩, rfl⟩
          obtain ⟨ua', um', uc', rfl⟩ := row_form hu
          have M11 := (HM2.out.clip hu hown).store (.slice ua' um' uc')
          obtain ⟨w11, hw11⟩ : ∃ w11, wr.setCell ⟨X, 2, none⟩ (.slice ua' um' uc') = w11 := ⟨_, rfl⟩
          rw [hw11] at M11
          have y0 := M11.xbox.cell_at (i := 0) rfl
          have y1 := M11.xbox.cell_at (i := 1) rfl
          have y2 := M11.xbox.cell_at (i := 2) rfl
          have yO := M11.obox.cell_at (i := 0) rfl
          obtain ⟨w12, hw12⟩ : ∃ w12, w11.alloc (.cells #[.int .u8 s.kind, .slice ua um uc, .slice ua' um' uc'] 51) = w12 := ⟨_, rfl⟩
          have M12 := Lib.hid (M11.grew (hw12 ▸ grew_alloc w11 _ : Grew w11 w12))
          have NS := Lib.hid (news_owns (hw12 ▸ Owns.alloc w11 [.int .u8 s.kind, .slice ua um uc, .slice ua' um' uc'] 51 : Owns w12 w11.heap.size [.int .u8 s.kind, .slice ua um uc, .slice ua' um' uc'] 51))
          have hone : ∀ u ∈ [Value.int .u8 s.kind, .slice ua um uc, .slice ua' um' uc'], u.oneCell' = true := by
            intro u hu
            simp only [List.mem_cons, List.not_mem_nil, or_false] at hu
            rcases hu with rfl | rfl | rfl <;> rfl
          have HONE := Lib.hid hone
          obtain ⟨i0s, his, hz0s, hz1s, hz2s⟩ := info_parts info_pState
          have his := Lib.hid his
          have hz0s := Lib.hid hz0s
          have hz1s := Lib.hid hz1s
          have hz2s := Lib.hid hz2s
          clear M11 hu hown hone HCP
          go_wp2_with (at_builtin; refine wpList_append_loose w12 rfl _ _ 22 rfl (W.heap.size + 1 + 1) 51 i0s _ 3 56 Tryd.underlying22 his.out hz0s.out hz1s.out hz2s.out rfl (by decide) (.slice oa om oc) out.length (triVs vs) rfl M12.out.orow ⟨w11.heap.size, 0, none⟩ 1 1 [.int .u8 s.kind, .slice ua um uc, .slice ua' um' uc'] rfl rfl NS.out HONE.out (by decide) (by unfold maxLen; omega) (by omega) M12.out.size _ rfl ?_; intro gb gcap w13 hown hgrow hat hlt3; have MF := Lib.hid (M12.out.finish hown hgrow (own_slice rfl hat rfl)); have o13 := M12.out.obox.apart M12.out.orow hgrow (by decide); have z0 := o13.cell_at (i := 0) rfl; have zf := o13.free 0; clear hown hgrow hat hlt3 o13)
          go_round
          case rel => exact ⟨j + 1, come', out ++ [(⟨s.kind, s.alts, es⟩ : Stt)], .slice (some ⟨gb, 0, none⟩) (out.length + 1) gcap, _, by go_num, by omega, ⟨ca', cc', rfl⟩, MF.out, HC2.out, HNX.out, by show (out ++ _).length = j + 1; rw [List.length_append, HOL.out]; rfl⟩
          case measure => simp [intOf]; omega
    · have hje : j = come.length := by omega
      subst hje
      have hout := HN.out.done (by omega)
      have hBw : Below (W.heap.size + 1 + 1) w2 wr := HM.out.below
      obtain ⟨oa, om, oc, rfl⟩ := row_form HM.out.orow
      have HOUT := Lib.hid hout
      have HCP := Lib.hid (pclipS_ok wr (W.heap.size + 1 + 1) out.length _ (triVs vs) (by have := HOL.out; omega) HM.out.orow)
      have x0 := HM.out.obox.cell_at (i := 0) rfl
      have xf := HM.out.obox.free 0
      have oR := HOR.out.below hBw (by omega)
      have HRR := Lib.hid oR
      clear hout hBw oR
      go_wp2_with fail
      refine HCP.out.mono ?_
      rintro e w' ⟨⟨u, rfl, hu, hown⟩, rfl⟩
      obtain ⟨ua, um, uc, rfl⟩ := row_form hu
      obtain ⟨w11, hw11⟩ : ∃ w11, wr.setCell ⟨O, 0, none⟩ (.slice ua um uc) = w11 := ⟨_, rfl⟩
      have o11 : Owns w11 O [.slice ua um uc] 24 := hw11 ▸ HM.out.obox.set 0 _
      have hRO : W.heap.size + 1 ≠ O := by have := HM.out.bR; have := HM.out.bO; omega
      have r11 : Owns w11 (W.heap.size + 1) [.slice none 0 0] 24 := hw11 ▸ HRR.out.other (a := ⟨O, 0, none⟩) (fun e => hRO e.symm) _
      have q0 := o11.cell_at (i := 0) rfl
      have q1 := r11.cell_at (i := 0) rfl
      have q2 := r11.free 0
      obtain ⟨w12, hw12⟩ : ∃ w12, w11.setCell ⟨W.heap.size + 1, 0, none⟩ (.slice ua um uc) = w12 := ⟨_, rfl⟩
      have o12 : Owns w12 (W.heap.size + 1) [.slice ua um uc] 24 := hw12 ▸ r11.set 0 _
      have hty := fun (k : Nat) (hk : (Value.slice ua um uc).ownBlock = some k) => row_type hu hk
      have hu12 : looseRow w12 (W.heap.size + 1 + 1) 51 3 (.slice ua um uc) out.length (triVs vs) := by
        rw [← hw12, ← hw11]
        refine (looseRow.off hu (a := ⟨O, 0, none⟩) (fun e => ?_) _).off (a := ⟨W.heap.size + 1, 0, none⟩) (fun e => ?_) _
        · exact type_ne (owns_type HM.out.obox) (hty _ e) (by decide) rfl
        · exact type_ne (owns_type HRR.out) (hty _ e) (by decide) rfl
      have hR12 : RowsIn (W.heap.size + 1 + 1) w12 vs out := by
        refine HM.out.ostay w12 ?_
        rw [← hw12, ← hw11]
        exact (But.set (F := Grows M O (W.heap.size + 1) [.slice ca come.length cc, .slice oa om oc]) (a := ⟨O, 0, none⟩) (.inr (.inl rfl)) _).trans (But.set (F := Grows M O (W.heap.size + 1) [.slice ca come.length cc, .slice oa om oc]) (a := ⟨W.heap.size + 1, 0, none⟩) (.inr (.inr (.inl (Nat.le_refl _)))) _) fun _ _ h => h
      have hA12 := And.intro (hu12.base (show W.heap.size ≤ W.heap.size + 1 + 1 by omega)) (hR12.base (show W.heap.size ≤ W.heap.size + 1 + 1 by omega))
      rw [← HOUT.out] at hA12
      have g12 : Grew W w12 := by
        rw [← hw12, ← hw11]
        have h1 : Grew W wr := Below.trans (B := W.heap.size) HG2.out (HM.out.below.mono (by omega))
        exact (Below.setCell h1 (by show W.heap.size ≤ O; have := HM.out.bO; omega) _).setCell (by show W.heap.size ≤ W.heap.size + 1; omega) _
      have HA12 := Lib.hid hA12
      have HG12 := Lib.hid g12
      have HO12 := Lib.hid o12
      clear o11 r11 o12 hty hu12 hR12 hA12 g12 hu hown HCP
      go_wp2_with fail
      refine bodyPost_ret (results_cell_row (d := Tryd.prog.underlying 24 |>.getD default) rfl _ _ (W.heap.size + 1) 24 _ (0, 0) rfl HO12.out rfl rfl rfl) rfl ?_
      exact ⟨_, _, rfl, HA12.out, HG12.out⟩
end Go.Proofs.YtogmlonhciiomaaDoor
