/- from a place on: where a rule may end. -/
import Derived.Test.YtppjmdanckdobaaGreatDoorQV30
import Derived.Test.YtppjmdanckdobaaGreatDoorQV7
namespace Go.Proofs.YtppjmdanckdobaaGreatDoor
open Go.RowKit
def XBody (E : XE) (r a j : Nat) : Prop := ∃ n, E.B.bodies[r]? = some n ∧ Der E.B E.wl n a j
def XNxt (E : XE) (r a : Nat) (t : Int) : Prop := ∃ (n : Nd) (t' : Nat), E.B.bodies[r]? = some n ∧ Nx E.B E.wl n a t' ∧ t = (t' : Int)
def AskX (E : XE) (r a : Nat) : Prop := ∀ (S : Int → Prop) (W : World), E.At S W → Calls Tryz.prog 19 #[E.ptr, .agg #[.int .i64 (r : Int), .int .i64 (a : Int)]] W (XRes E (XBody E r a) S (XNxt E r a) W)
def NodeX1 (E : XE) (n : Nd) (a : Nat) : Prop := ∀ (S : Int → Prop) (W : World) (v0 v1 v2 v3 v4 : Value), E.At S W → NodeAt W E.lim (some v0) (some v1) (some v2) (some v3) (some v4) n →
  Calls Tryz.prog 39 #[E.ptr, .agg #[v0, v1, v2, v3, v4], setV (2 ^ a)] W (XRes E (Der E.B E.wl n a) S (fun t => ∃ t' : Nat, Nx E.B E.wl n a t' ∧ t = (t' : Int)) W)
set_option maxHeartbeats 8000000 in
set_option maxRecDepth 20000 in
theorem xfrom_ok (E : XE) (r a : Nat) (ha : a ≤ E.wl.length) (n : Nd) (hn : E.B.bodies[r]? = some n) (H : NodeX1 E n a) : AskX E r a := by
  intro S W hA
  have hrl := (List.getElem?_eq_some_iff.1 hn).1
  obtain ⟨f, hf⟩ : ∃ f, W.heap.size = f := ⟨_, rfl⟩
  obtain ⟨w1, hw1⟩ : ∃ w1, W.alloc (.cells #[.int .i64 (r : Int), .int .i64 (a : Int)] 69) = w1 := ⟨_, rfl⟩
  have g1 : Grew W w1 := hw1 ▸ grew_alloc W _
  have o1 : Owns w1 f [.int .i64 (r : Int), .int .i64 (a : Int)] 69 := by rw [← hw1, ← hf]; exact Owns.alloc W _ _
  have z1 : w1.heap.size = f + 1 := by rw [← hw1, ← hf]; exact World.size_alloc _ _
  obtain ⟨w2, hw2⟩ : ∃ w2, w1.alloc (.cells #[.bool false, .bool false, .bool false, .bool false, .bool false, .bool false, .bool false, .bool false, .bool false, .bool false, .bool false, .bool false, .bool false, .bool false, .bool false, .bool false, .bool false, .bool false, .bool false, .bool false, .bool false, .bool false, .bool false, .bool false, .bool false, .bool false, .bool false, .bool false, .bool false, .bool false, .bool false, .bool false, .bool false, .bool false, .bool false, .bool false, .bool false, .bool false, .bool false, .bool false, .bool false, .bool false, .bool false, .bool false, .bool false, .bool false, .bool false, .bool false, .bool false] 66) = w2 := ⟨_, rfl⟩
  have g2 : Grew w1 w2 := hw2 ▸ grew_alloc w1 _
  have o2 : Owns w2 (f + 1) (setL 0) 66 := by rw [← hw2, ← z1]; exact zset_owns w1
  have hA2 := hA.grew (g1.trans g2)
  have hfew := hA2.few
  have k2 := hA2.box.cell_at (i := 2) rfl
  have kl := hA2.box.lt
  have s0 := (o1.keep g2).cell_at (i := 0) rfl
  have s1 := (o1.keep g2).cell_at (i := 1) rfl
  have sl := (o1.keep g2).lt
  have HA := Lib.hid hA
  have HA2 := Lib.hid hA2
  have G2 := Lib.hid (g1.trans g2)
  have O1 := Lib.hid (o1.keep g2)
  have O2 := Lib.hid o2
  have HF := Lib.hid hf
  have HHN := Lib.hid hn
  have HH := Lib.hid H
  have HLT := Lib.hid hA.lts
  have ha49 : a < 49 := by omega
  have HHA := Lib.hid ha
  obtain ⟨Q, hQ⟩ : ∃ Q, XRes E (XBody E r a) S (XNxt E r a) W = Q := ⟨_, rfl⟩
  rw [hQ]
  have HQ := Lib.hid hQ
  unfold XE.ptr
  clear hA hA2 g1 g2 o1 o2 hQ H ha
  obtain ⟨L, hL, hright⟩ := HA2.out.known
  have HL := Lib.hid hL
  have HRI := Lib.hid hright
  rcases run_knownX hL (r, a) with ⟨m, hm, hlk⟩ | ⟨hnone, hlk⟩
  · as_aux_lemma =>
      have HRM := Lib.hid (HRI.out _ hm)
      have HLK : Hid (∀ w, PS w2.heap.size m w2 w → (Instr.lookup 61 (.map (some E.kb)) (.agg #[.int .i64 (r : Int), .int .i64 (a : Int)]) true).run Tryz.prog w = .ok (.tuple #[setV m, .bool true]) w) := Lib.hid fun w hw => by
        have hLw : w.heap[E.kb]? = some (mapObj (callL L)) := by rw [hw.1.block _ (Array.getElem?_eq_some_iff.1 HL.out).1 (fun h => by have := (Array.getElem?_eq_some_iff.1 HL.out).1; omega)]; exact HL.out
        rcases run_knownX hLw (r, a) with ⟨m', hm', h⟩ | ⟨h, -⟩
        · have e : m' = m := (HRI.out _ hm').1.eq HRM.out.1
          rw [e] at h
          exact h
        · exact absurd rfl (h _ hm)
      have hm49 : Hid (m < 2 ^ 49) := Lib.hid (HRM.out.1.lt49 fun j ⟨n', _, hd⟩ => by have := hd.le.2 HHA.out; omega)
      clear hlk hm hL hright
      go_enter Tryz.func19, Tryz.ntmps19
      go_upto_region 1 with fail
      refine wp_region_hav_litX (G := PS w2.heap.size m) psRel follows (by kernel_rfl) ?_
      iterate 9 (first
        | (refine HavX.skip (fun _ => rfl) ?_; simp only [Act.put, List.setIfInBounds_toArray, List.set_cons_zero, List.set_cons_succ])
        | (refine HavX.val psRel (fun _ => rfl) ?_ (fun x w hw _ => ?_) ?_; rotate_left; (focus (have hc := hw.cells; have hlk := HLK.out w hw; clear hw; go_simp; first | done | rfl)); simp only [Act.put, List.setIfInBounds_toArray, List.set_cons_zero, List.set_cons_succ]))
      refine HavX.any (fun _ => rfl) (fun _ => HalfS w2.heap.size m) (fun _ _ _ _ _ h => h) (fun _ v w w' hg h => h.keep hg) (fun x w hw hd => ?_) ?_
      · clear hd
        have HW := Lib.hid hw
        clear hw
        go_simp
        exact ⟨PS.grew (grew_alloc w _), _, rfl, HW.out.1.size, .inl (zset_owns w)⟩
      simp only [Act.put, List.setIfInBounds_toArray, List.set_cons_zero, List.set_cons_succ]
      refine HavX.any (fun _ => rfl) (fun x _ w => DoneS w2.heap.size m (x 9) w) (fun x x' v w h hx => show DoneS w2.heap.size m (x' 9) w by rw [← h 9 (by decide) (by kernel_rfl)]; exact hx) (fun _ _ w w' hg h => h.keep hg) (fun x w hw hd => ?_) ?_
      · obtain ⟨t, hx, ht, hot⟩ := hd _ (List.mem_append_right _ (List.mem_singleton.2 rfl)) (by kernel_rfl)
        dsimp only at hx
        obtain ⟨p, hoy⟩ : ∃ p, Owns w t (setL p) 66 := hot.elim (fun h => ⟨_, h⟩) (fun h => ⟨_, h⟩)
        clear hd hot hw
        simp only [hx]
        rw [exec_store_set hoy rfl rfl rfl]
        exact ⟨PS.set hoy ht, t, rfl, ht, (set_row hoy).1⟩
      simp only [Act.put]
      refine HavX.tail (by kernel_rfl) (by kernel_rfl) (fun x w hw hd => ?_)
      obtain ⟨t, hx, ht, hot⟩ := hd _ (List.mem_append_right _ (List.mem_singleton.2 rfl))
      have hft : f ≠ t := by have := O1.out.lt; omega
      have hft2 : f + 1 ≠ t := by have := O2.out.lt; omega
      have HWT := Lib.hid (show W.heap.size ≤ t by have := G2.out.size; omega)
      have HFT := Lib.hid hft
      have HF2 := Lib.hid hft2
      have H3 := Lib.hid (HA2.out.but hw.1 fun k hk => by have := HA2.out.lts; have := HA2.out.tab.low; omega)
      have HR3 := Lib.hid (show E.R W w from But.trans (XE.R.grew G2.out) hw.1 fun k hk e => by have := G2.out.size; omega)
      have O13 := Lib.hid (hw.1.owns O1.out (fun hq => by have := O1.out.lt; omega))
      have O23 := Lib.hid (hw.1.owns O2.out (fun hq => by have := O2.out.lt; omega))
      have OT3 := Lib.hid hot
      clear hd hot hft hft2 ht hw k2 kl s0 s1 sl z1 HLK hf hw1 hw2
      simp only [hx]
      clear hx
      obtain ⟨w3, rfl⟩ : ∃ z, z = w := ⟨_, rfl⟩
      go_upto_region 5 with fail
      apply wp_region_lit
      refine wpList_load_set OT3.out rfl _ rfl rfl ?_
      simp only [Act.put, List.setIfInBounds_toArray, List.set_cons_zero, List.set_cons_succ]
      refine wpList_store_set O23.out rfl _ _ rfl rfl rfl ?_
      intro w5 o5 b5
      simp only [Act.put]
      have O5 := Lib.hid o5
      have H5 := Lib.hid (XE.At.fresh HA.out H3.out b5 (by have := HF.out; omega))
      have HR5 := Lib.hid (XE.R.fresh HA.out HR3.out b5 (by have := HF.out; omega))
      clear o5 b5
      go_wp2_with fail
      refine bodyPost_ret (ret_set rfl _ O5.out rfl) rfl ?_
      rw [← HQ.out]
      exact ⟨m, rfl, hm49.out, HRM.out.1, H5.out.iff fun t => ⟨.inl, fun h => h.elim id fun ⟨n', t', h1, h2, h3⟩ => h3 ▸ HRM.out.2 n' t' h1 h2⟩, HR5.out⟩
  · as_aux_lemma =>
      have HNO := Lib.hid hnone
      have HLK : Hid (∀ w, PS w2.heap.size 0 w2 w → (Instr.lookup 61 (.map (some E.kb)) (.agg #[.int .i64 (r : Int), .int .i64 (a : Int)]) true).run Tryz.prog w = .ok (.tuple #[setV 0, .bool false]) w) := Lib.hid fun w hw => by
        have hLw : w.heap[E.kb]? = some (mapObj (callL L)) := by rw [hw.1.block _ (Array.getElem?_eq_some_iff.1 HL.out).1 (fun h => by have := (Array.getElem?_eq_some_iff.1 HL.out).1; omega)]; exact HL.out
        rcases run_knownX hLw (r, a) with ⟨m, hm, -⟩ | ⟨-, h⟩
        · exact absurd rfl (HNO.out _ hm)
        · exact h
      clear hlk hnone hL hright
      go_enter Tryz.func19, Tryz.ntmps19
      go_upto_region 1 with fail
      refine wp_region_hav_litX (G := PS w2.heap.size 0) psRel follows (by kernel_rfl) ?_
      iterate 9 (first
        | (refine HavX.skip (fun _ => rfl) ?_; simp only [Act.put, List.setIfInBounds_toArray, List.set_cons_zero, List.set_cons_succ])
        | (refine HavX.val psRel (fun _ => rfl) ?_ (fun x w hw _ => ?_) ?_; rotate_left; (focus (have hc := hw.cells; have hlk := HLK.out w hw; clear hw; go_simp; first | done | rfl)); simp only [Act.put, List.setIfInBounds_toArray, List.set_cons_zero, List.set_cons_succ]))
      refine HavX.any (fun _ => rfl) (fun _ => HalfS w2.heap.size 0) (fun _ _ _ _ _ h => h) (fun _ v w w' hg h => h.keep hg) (fun x w hw hd => ?_) ?_
      · clear hd
        have HW := Lib.hid hw
        clear hw
        go_simp
        exact ⟨PS.grew (grew_alloc w _), _, rfl, HW.out.1.size, .inl (zset_owns w)⟩
      simp only [Act.put, List.setIfInBounds_toArray, List.set_cons_zero, List.set_cons_succ]
      refine HavX.any (fun _ => rfl) (fun x _ w => DoneS w2.heap.size 0 (x 9) w) (fun x x' v w h hx => show DoneS w2.heap.size 0 (x' 9) w by rw [← h 9 (by decide) (by kernel_rfl)]; exact hx) (fun _ _ w w' hg h => h.keep hg) (fun x w hw hd => ?_) ?_
      · obtain ⟨t, hx, ht, hot⟩ := hd _ (List.mem_append_right _ (List.mem_singleton.2 rfl)) (by kernel_rfl)
        dsimp only at hx
        obtain ⟨p, hoy⟩ : ∃ p, Owns w t (setL p) 66 := hot.elim (fun h => ⟨_, h⟩) (fun h => ⟨_, h⟩)
        clear hd hot hw
        simp only [hx]
        rw [exec_store_set hoy rfl rfl rfl]
        exact ⟨PS.set hoy ht, t, rfl, ht, (set_row hoy).1⟩
      simp only [Act.put]
      refine HavX.tail (by kernel_rfl) (by kernel_rfl) (fun x w hw hd => ?_)
      obtain ⟨t, hx, ht, hot⟩ := hd _ (List.mem_append_right _ (List.mem_singleton.2 rfl))
      have hft : f ≠ t := by have := O1.out.lt; omega
      have hft2 : f + 1 ≠ t := by have := O2.out.lt; omega
      have HWT := Lib.hid (show W.heap.size ≤ t by have := G2.out.size; omega)
      have HFT := Lib.hid hft
      have HF2 := Lib.hid hft2
      have H3 := Lib.hid (HA2.out.but hw.1 fun k hk => by have := HA2.out.lts; have := HA2.out.tab.low; omega)
      have HR3 := Lib.hid (show E.R W w from But.trans (XE.R.grew G2.out) hw.1 fun k hk e => by have := G2.out.size; omega)
      have O13 := Lib.hid (hw.1.owns O1.out (fun hq => by have := O1.out.lt; omega))
      have O23 := Lib.hid (hw.1.owns O2.out (fun hq => by have := O2.out.lt; omega))
      have OT3 := Lib.hid hot
      clear hd hot hft hft2 ht hw k2 kl s0 s1 sl z1 HLK hf hw1 hw2
      simp only [hx]
      clear hx
      obtain ⟨w3, rfl⟩ : ∃ z, z = w := ⟨_, rfl⟩
      go_upto_region 3 with fail
      obtain ⟨nb, no, hba, hnb, hnode⟩ := H3.out.tab.bodies.get hrl
      simp only [Nat.zero_add] at hnode
      obtain ⟨v0, v1, v2, v3, v4, n0, n1, n2, n3, n4, hnode⟩ := hnode.vals
      have hbn : E.B.bodies[r] = n := Option.some.inj ((List.getElem?_eq_getElem hrl).symm.trans HHN.out)
      rw [hbn] at hnode
      have HNODE := Lib.hid hnode
      have HFAC : Hid (∀ w, E.R w3 w → w.cell? ⟨E.kw, 0, none⟩ = some (.pointer (some ⟨E.tb, 0, none⟩)) ∧ E.kw < w.heap.size ∧ w.cell? ⟨E.tb, 4, none⟩ = some (.slice (some ⟨nb, no, none⟩) E.B.bodies.length E.bc) ∧ E.tb < w.heap.size ∧ nb < w.heap.size ∧
          w.cell? ⟨nb, no + r * 5, none⟩ = some v0 ∧ w.cell? ⟨nb, no + r * 5 + 1, none⟩ = some v1 ∧ w.cell? ⟨nb, no + r * 5 + 2, none⟩ = some v2 ∧ w.cell? ⟨nb, no + r * 5 + 3, none⟩ = some v3 ∧ w.cell? ⟨nb, no + r * 5 + 4, none⟩ = some v4 ∧
          w.cell? ⟨f, 0, none⟩ = some (.int .i64 (r : Int)) ∧ w.cell? ⟨f, 1, none⟩ = some (.int .i64 (a : Int)) ∧ f < w.heap.size) := Lib.hid fun w hw => by
        have hb := hw.below H3.out
        have hkw := hw.owns H3.out.box (fun e => e.elim H3.out.kne.1 H3.out.kne.2)
        have htb := below_owns hb H3.out.tab.box H3.out.tab.tbl
        have h3 := htb.cell_at (i := 4) rfl
        rw [hba] at h3
        have hff : Owns w f [.int .i64 (r : Int), .int .i64 (a : Int)] 69 := hw.owns O13.out fun e => by have := HLT.out; have := HF.out; omega
        exact ⟨hkw.cell_at (i := 0) rfl, hkw.lt, h3, htb.lt, by have := H3.out.tab.low; have := hb.size; omega, by rw [hb.cell hnb]; exact n0, by rw [hb.cell hnb]; exact n1, by rw [hb.cell hnb]; exact n2, by rw [hb.cell hnb]; exact n3, by rw [hb.cell hnb]; exact n4, hff.cell_at (i := 0) rfl, hff.cell_at (i := 1) rfl, hff.lt⟩
      obtain ⟨m0, m1, m2, m3, m4, m5, m6, m7, m8, rfl, rfl, rfl, rfl, rfl⟩ := hnode.forms
      have hri : (r : Int) < (E.B.bodies.length : Int) := by omega
      have hr0 : (0 : Int) ≤ (r : Int) := by omega
      clear hba hnb hnode hbn n0 n1 n2 n3 n4
      refine wp_region_hav_litX (G := E.G S (fun t => S t ∨ XNxt E r a t)) (E.grel _ _) follows (by kernel_rfl) ?_
      iterate 15 (first
        | (refine HavX.skip (fun _ => rfl) ?_; simp only [Act.put, List.setIfInBounds_toArray, List.set_cons_zero, List.set_cons_succ])
        | (refine HavX.val (E.grel _ _) (fun _ => rfl) ?_ (fun x w hw _ => ?_) ?_; rotate_left; (focus (obtain ⟨y0, y1, y2, y3, y4, y5, y6, y7, y8, y9, y10, y11, y12⟩ := HFAC.out w hw.1; clear hw; go_simp; first | done | rfl)); simp only [Act.put, List.setIfInBounds_toArray, List.set_cons_zero, List.set_cons_succ]))
      refine HavX.det (fun _ => rfl) (setV (2 ^ a)) (fun x w hw hd => ?_) ?_
      · clear hd hw
        have HONE := Lib.hid (xone_ok a ha49 w)
        go_simp
        refine HONE.out.mono ?_
        rintro e w' ⟨rfl, hg⟩
        exact ⟨rfl, XE.G.grew hg⟩
      simp only [Act.put, List.setIfInBounds_toArray, List.set_cons_zero, List.set_cons_succ]
      refine HavX.any (fun _ => rfl) (fun _ => NoteR E (fun t => S t ∨ XNxt E r a t) (Der E.B E.wl n a)) (fun _ _ _ _ _ h => h) (fun _ _ _ _ hg h => h.keep hg) (fun x w hw hd => ?_) ?_
      · obtain ⟨T, hT, hTN⟩ := XE.G.call H3.out hw
        have HC := Lib.hid (HH.out T w _ _ _ _ _ hT (HNODE.out.keep (hw.1.below H3.out)))
        have HTN := Lib.hid hTN
        unfold XE.ptr at HC
        clear hd hw hT hTN
        go_simp
        refine HC.out.mono ?_
        rintro e w' ⟨q, rfl, h1, h2, h3, h4⟩
        have h5 : E.At (fun t => S t ∨ XNxt E r a t) w' := h3.iff fun t => by
          rw [← HTN.out t]
          exact or_congr Iff.rfl ⟨fun ⟨t', h1, h2⟩ => ⟨n, t', HHN.out, h1, h2⟩, fun ⟨n', t', h0, h1, h2⟩ => by
            have e := HHN.out.symm.trans h0
            obtain rfl := Option.some.inj e
            exact ⟨t', h1, h2⟩⟩
        exact ⟨XE.G.done h4 h5, q, rfl, h1, h2, h5⟩
      simp only [Act.put, List.setIfInBounds_toArray, List.set_cons_zero, List.set_cons_succ]
      refine HavX.tail (by kernel_rfl) (by kernel_rfl) (fun x w hw hd => ?_)
      obtain ⟨q, hx, hq49, hqb, hAq⟩ := hd _ (List.mem_append_right _ (List.mem_singleton.2 rfl))
      dsimp only at hx
      have hot := hw.1.owns OT3.out (fun e => by have := HLT.out; have := HWT.out; omega)
      have ho1 := hw.1.owns O13.out (fun e => by have := HLT.out; have := HF.out; omega)
      have ho2 := hw.1.owns O23.out (fun e => by have := HLT.out; have := HF.out; omega)
      have hRw := HR3.out.trans hw.1
      clear hd hw
      simp only [hx]
      clear hx
      refine wpList_store_set hot rfl _ _ rfl rfl rfl ?_
      intro w4 o4 b4
      simp only [Act.put]
      have OT4 := Lib.hid o4
      have O14 := Lib.hid (b4.owns ho1 HFT.out)
      have O24 := Lib.hid (b4.owns ho2 HF2.out)
      have H4 := Lib.hid (XE.At.fresh HA.out hAq b4 HWT.out)
      have HR4 := Lib.hid (XE.R.fresh HA.out hRw b4 HWT.out)
      have HQ49 := Lib.hid hq49
      have HQB := Lib.hid hqb
      clear o4 b4 hot ho1 ho2 hRw hq49 hqb hAq
      go_upto_region 4 with fail
      have k0 := H4.out.box.cell_at (i := 2) rfl
      have kl := H4.out.box.lt
      have s0 := O14.out.cell_at (i := 0) rfl
      have s1 := O14.out.cell_at (i := 1) rfl
      have sl := O14.out.lt
      have HRQ : Hid (RightX E.B E.wl (fun t => S t ∨ XNxt E r a t) (r, a) q) := Lib.hid ⟨HQB.out.iff fun j => ⟨fun h => ⟨n, HHN.out, h⟩, fun ⟨n', h1, h2⟩ => by
        have e := HHN.out.symm.trans h1
        obtain rfl := Option.some.inj e
        exact h2⟩, fun n' t h1 h2 => .inr ⟨n', t, h1, h2, rfl⟩⟩
      refine wp_region_hav_lit follows (by kernel_rfl) ?_
      iterate 5 (first
        | (refine HavG.skip (fun _ => rfl) ?_; simp only [Act.put, List.setIfInBounds_toArray, List.set_cons_zero, List.set_cons_succ])
        | (refine HavG.val (fun _ => rfl) ?_ (fun x w hw _ => ?_) ?_; rotate_left; (focus (have hc := hw.cells; clear hw; go_simp; first | done | rfl)); simp only [Act.put, List.setIfInBounds_toArray, List.set_cons_zero, List.set_cons_succ]))
      refine HavG.val (fun _ => rfl) (setV q) (fun x w hw _ => exec_load_set (OT4.out.keep hw) rfl rfl) ?_
      simp only [Act.put, List.setIfInBounds_toArray, List.set_cons_zero, List.set_cons_succ]
      refine HavG.tail (by kernel_rfl) (by kernel_rfl) (fun x w hw _ => ?_)
      have hAw := H4.out.grew hw
      obtain ⟨w5, hrun, hk5, hb5⟩ := run_learnX hAw.known (r, a) q HRQ.out
      have hrun' : (Instr.mapUpdate 61 (.map (some E.kb)) (.agg #[.int .i64 (r : Int), .int .i64 (a : Int)]) (setV q)).run Tryz.prog w = .ok () w5 := hrun
      have HRUN := Lib.hid hrun'
      have H5 := Lib.hid (hAw.setKnown hk5 hb5)
      have O25 := Lib.hid (hb5.owns (O24.out.keep hw) (show f + 1 ≠ E.kb by have := HLT.out; have := HF.out; omega))
      have OT5 := Lib.hid (hb5.owns (OT4.out.keep hw) (show t ≠ E.kb by have := HLT.out; have := HWT.out; omega))
      have HR5 : Hid (E.R W w5) := Lib.hid ((HR4.out.trans (XE.R.grew hw)).trans (But.wideX hb5 fun _ _ e => .inl e))
      clear hAw hk5 hb5 hrun hrun' hw k0 kl s0 s1 sl
      go_wp2_with fail
      rw [HRUN.out]
      simp only [Result.andThen]
      go_upto_region 5 with fail
      apply wp_region_lit
      refine wpList_load_set OT5.out rfl _ rfl rfl ?_
      simp only [Act.put, List.setIfInBounds_toArray, List.set_cons_zero, List.set_cons_succ]
      refine wpList_store_set O25.out rfl _ _ rfl rfl rfl ?_
      intro w6 o6 b6
      simp only [Act.put]
      have O6 := Lib.hid o6
      have H6 := Lib.hid (XE.At.fresh HA.out H5.out b6 (by have := HF.out; omega))
      have HR6 := Lib.hid (XE.R.fresh HA.out HR5.out b6 (by have := HF.out; omega))
      clear o6 b6
      go_wp2_with fail
      refine bodyPost_ret (ret_set rfl _ O6.out rfl) rfl ?_
      rw [← HQ.out]
      exact ⟨q, rfl, HQ49.out, HRQ.out.1, H6.out, HR6.out⟩
end Go.Proofs.YtppjmdanckdobaaGreatDoor

/- Nodes, plain: what is met along them. -/
namespace Go.Proofs.YtppjmdanckdobaaGreatDoor
open Go.RowKit
section
variable {B : Bk} {w : List Int}
theorem NxL.left : ∀ {l r : List Nd} {i t : Nat}, NxL B w l i t → NxL B w (l ++ r) i t
  | _, _, _, _, .here h => .here h
  | _, _, _, _, .next hd h => .next hd h.left
theorem NxL.snoc {x : Nd} {r : List Nd} : ∀ {l : List Nd} {i k t : Nat}, DerL B w l i k → Nx B w x k t → NxL B w (l ++ x :: r) i t
  | _, _, _, _, .nil, h => .here h
  | _, _, _, _, .cons hd hr, h => .next hd (NxL.snoc hr h)
theorem NxL.unsnoc {x : Nd} : ∀ {l : List Nd} {i t : Nat}, NxL B w (l ++ [x]) i t → NxL B w l i t ∨ ∃ k, DerL B w l i k ∧ Nx B w x k t
  | [], i, t, h => by
    cases h with
    | here h => exact .inr ⟨i, .nil, h⟩
    | next hd h => cases h
  | y :: l, i, t, h => by
    cases h with
    | here h => exact .inl (.here h)
    | next hd h =>
      rcases h.unsnoc with h1 | ⟨k, h1, h2⟩
      · exact .inl (.next hd h1)
      · exact .inr ⟨k, .cons hd h1, h2⟩
mutual
theorem nx_dv (hB : B.Lng) (hw : w.length ≤ 64) : ∀ {n : Nd} {i t : Nat}, Nx B w n i t → i ≤ w.length → B.dv n = true
  | _, _, _, .tok _, _ => by rw [Bk.dv]; rfl
  | _, _, _, .ref hg _ _, _ => hg
  | _, _, _, .seq hg _, _ => hg
  | _, _, _, .alt hx h, hi => by
    rw [Bk.dv, if_neg (by omega), if_neg (by omega), if_pos (.inl rfl), dvAny_eq, List.any_eq_true]
    exact ⟨_, hx, nx_dv hB hw h hi⟩
  | _, _, _, .loop _ hg _, _ => hg
  | .mk k _ _ _ _, _, _, .again hk hd _, hi => by
    rcases hk with rfl | rfl
    · rw [Bk.dv, if_neg (by omega), if_neg (by omega), if_neg (by omega)]
    · rw [Bk.dv, if_neg (by omega), if_neg (by omega), if_pos (.inr rfl), dvAny_eq, List.any_eq_true]
      exact ⟨_, List.mem_cons_self .., dvP_of_der hB hw hd hi⟩
end
end
def XE.se (E : XE) : SE := ⟨E.lim, E.kw, E.kb, E.bk, E.V, .bool false, E.B, E.wl⟩
def NodeX (E : XE) (n : Nd) : Prop := ∀ (m : Nat) (S : Int → Prop) (W : World) (v0 v1 v2 v3 v4 : Value), m < 2 ^ 49 → (∀ i, m.testBit i = true → i ≤ E.wl.length) → E.At S W → NodeAt W E.lim (some v0) (some v1) (some v2) (some v3) (some v4) n →
  (∀ i r a, m.testBit i = true → Vis E.B E.wl n i r a → AskX E r a) →
  Calls Tryz.prog 39 #[E.ptr, .agg #[v0, v1, v2, v3, v4], setV m] W (XRes E (From m (Der E.B E.wl n)) S (NxF E.B E.wl m n) W)
def NxP (B : Bk) (wl : List Int) (m : Nat) (n : Nd) (t : Int) : Prop := ∃ (i t' : Nat), m.testBit i = true ∧ (Nx B wl n i t' ∨ ∃ k, DerP B wl n i k ∧ Nx B wl n k t') ∧ t = (t' : Int)
def AgX (E : XE) (n : Nd) : Prop := ∀ (m : Nat) (S : Int → Prop) (W : World) (v0 v1 v2 v3 v4 : Value), m < 2 ^ 49 → (∀ i, m.testBit i = true → i ≤ E.wl.length) → E.At S W → NodeAt W E.lim (some v0) (some v1) (some v2) (some v3) (some v4) n →
  (∀ i r a, m.testBit i = true → (Vis E.B E.wl n i r a ∨ ∃ j, DerP E.B E.wl n i j ∧ Vis E.B E.wl n j r a) → AskX E r a) →
  Calls Tryz.prog 64 #[E.ptr, .agg #[v0, v1, v2, v3, v4], setV m] W (XRes E (From m (DerP E.B E.wl n)) S (NxP E.B E.wl m n) W)
theorem wpList_run {P : Program} {ops : Array Oper} {rest : List Oper} {o : Oper} {a : Act} {w : World} {Q : Exit → Act → World → Prop} (hgd : o.guard = none) (c : Value) (hr : (execOp a.eval o).run P w = .ok (.value c) w) (h : wpList P ops Q rest (a.put o.dst c) w) : wpList P ops Q (o :: rest) a w :=
  wpList_plain hgd fun _ hK => by
    unfold Oper.wp
    rw [hr]
    exact hK _ _ h
theorem exec_eql_set {ev : Operand → Value} {o : Oper} {w : World} {p q : Nat} {x y : Operand} {t : TypeId} (hp : p < 2 ^ 49) (hq : q < 2 ^ 49) (ho : o.op = .binOp .eql 66 x y t) (hx : ev x = setV p) (hy : ev y = setV q) : (execOp ev o).run Tryz.prog w = .ok (.value (.bool (decide (p = q)))) w := by
  have h := set_eq hp hq w
  unfold setV at h hx hy
  unfold execOp
  simp only [ho, hx, hy]
  go_simp
theorem exec_neq_set {ev : Operand → Value} {o : Oper} {w : World} {p q : Nat} {x y : Operand} {t : TypeId} (hp : p < 2 ^ 49) (hq : q < 2 ^ 49) (ho : o.op = .binOp .neq 66 x y t) (hx : ev x = setV p) (hy : ev y = setV q) : (execOp ev o).run Tryz.prog w = .ok (.value (.bool (!decide (p = q)))) w := by
  have h := set_eq hp hq w
  unfold setV at h hx hy
  unfold execOp
  simp only [ho, hx, hy]
  go_simp
theorem zset_cells : (setL 0).toArray = #[.bool false, .bool false, .bool false, .bool false, .bool false, .bool false, .bool false, .bool false, .bool false, .bool false, .bool false, .bool false, .bool false, .bool false, .bool false, .bool false, .bool false, .bool false, .bool false, .bool false, .bool false, .bool false, .bool false, .bool false, .bool false, .bool false, .bool false, .bool false, .bool false, .bool false, .bool false, .bool false, .bool false, .bool false, .bool false, .bool false, .bool false, .bool false, .bool false, .bool false, .bool false, .bool false, .bool false, .bool false, .bool false, .bool false, .bool false, .bool false, .bool false] := by rw [setL_zero]; rfl
end Go.Proofs.YtppjmdanckdobaaGreatDoor

/- node of expects: a token. Printed by genxnode.py. -/
namespace Go.Proofs.YtppjmdanckdobaaGreatDoor
open Go.RowKit
set_option maxHeartbeats 8000000 in
set_option maxRecDepth 40000 in
theorem xn_tok (E : XE) (hB : E.B.Lng) (nm tx : ByteArray) (set : List (Int × Int)) (subs : List Nd) (m : Nat) (hm0 : m ≠ 0) (hdt : E.B.dv (.mk 6 nm tx set subs) = true) (S : Int → Prop) (W : World) (v0 v1 v2 v3 v4 : Value) (hm : m < 2 ^ 49) (hml : ∀ i, m.testBit i = true → i ≤ E.wl.length) (hA : E.At S W) (hN : NodeAt W E.lim (some v0) (some v1) (some v2) (some v3) (some v4) (.mk 6 nm tx set subs))
    (hV : ∀ i r a, m.testBit i = true → Vis E.B E.wl (.mk 6 nm tx set subs) i r a → AskX E r a) :
    Calls Tryz.prog 39 #[E.ptr, .agg #[v0, v1, v2, v3, v4], setV m] W (XRes E (From m (Der E.B E.wl (.mk 6 nm tx set subs))) S (NxF E.B E.wl m (.mk 6 nm tx set subs)) W) := by
  have HND := Lib.hid hN
  rw [NodeAt] at hN
  obtain ⟨hk, h1, h2, h3, h4, h5, ⟨sa, sc, h6, h6', h7⟩, na, nc, h8, h8', h9⟩ := hN
  obtain rfl := Option.some.inj h3
  obtain rfl := Option.some.inj h4
  obtain rfl := Option.some.inj h5
  obtain rfl := Option.some.inj h6
  obtain rfl := Option.some.inj h8
  clear h3 h4 h5 h6 h8 h7
  unfold reachN at h1 h2 h6' h8'
  obtain ⟨b, hb⟩ : ∃ b, W.heap.size = b := ⟨_, rfl⟩
  obtain ⟨w1, hw1⟩ : ∃ w1, W.alloc (.cells #[.int .u8 6, .string nm, .string tx, .slice sa set.length sc, .slice na subs.length nc] 80) = w1 := ⟨_, rfl⟩
  have g1 : Grew W w1 := hw1 ▸ grew_alloc W _
  have o1 : Owns w1 b [.int .u8 6, .string nm, .string tx, .slice sa set.length sc, .slice na subs.length nc] 80 := by rw [← hw1, ← hb]; exact Owns.alloc W _ _
  have z1 : w1.heap.size = b + 1 := by rw [← hw1, ← hb]; exact World.size_alloc _ _
  obtain ⟨w2, hw2⟩ : ∃ w2, w1.alloc (.cells (setL m).toArray 66) = w2 := ⟨_, rfl⟩
  have g2 : Grew w1 w2 := hw2 ▸ grew_alloc w1 _
  have o2 : Owns w2 (b + 1) (setL m) 66 := by rw [← hw2, ← z1]; exact Owns.alloc w1 _ _
  have z2 : w2.heap.size = b + 1 + 1 := by rw [← hw2, ← z1]; exact World.size_alloc _ _
  obtain ⟨w3, hw3⟩ : ∃ w3, w2.alloc (.cells #[.bool false, .bool false, .bool false, .bool false, .bool false, .bool false, .bool false, .bool false, .bool false, .bool false, .bool false, .bool false, .bool false, .bool false, .bool false, .bool false, .bool false, .bool false, .bool false, .bool false, .bool false, .bool false, .bool false, .bool false, .bool false, .bool false, .bool false, .bool false, .bool false, .bool false, .bool false, .bool false, .bool false, .bool false, .bool false, .bool false, .bool false, .bool false, .bool false, .bool false, .bool false, .bool false, .bool false, .bool false, .bool false, .bool false, .bool false, .bool false, .bool false] 66) = w3 := ⟨_, rfl⟩
  have g3 : Grew w2 w3 := hw3 ▸ grew_alloc w2 _
  have o3 : Owns w3 (b + 1 + 1) (setL 0) 66 := by rw [← hw3, ← z2]; exact zset_owns w2
  have hA3 := hA.grew ((g1.trans g2).trans g3)
  have O1 := Lib.hid ((o1.keep g2).keep g3)
  have O2 := Lib.hid (o2.keep g3)
  have O3 := Lib.hid o3
  have HA := Lib.hid hA
  have A3 := Lib.hid hA3
  have G3 := Lib.hid ((g1.trans g2).trans g3)
  have HB := Lib.hid hb
  have HLT := Lib.hid hA.lts
  have HML := Lib.hid hml
  have HMM := Lib.hid hm
  have HV := Lib.hid hV
  have H90 := Lib.hid h9
  have H9 : Hid (NodesAt w3 E.lim na 0 subs) := Lib.hid (h9.keep (((g1.trans g2).trans g3).mono hA.tab.low))
  have HLNG := Lib.hid hB
  have hne : ∀ f, b ≤ f → f ≠ E.kb ∧ f ≠ E.nb ∧ f ≠ E.kw ∧ ¬ (f = E.kb ∨ f = E.nb) := fun f h => by have := hA.lts; omega
  have HNE := Lib.hid hne
  have HDV : Hid (∀ w, Grew w3 w → Calls Tryz.prog 61 #[.pointer (some ⟨E.tb, 0, none⟩), .agg #[.int .u8 6, .string nm, .string tx, .slice sa set.length sc, .slice na subs.length nc]] w fun e W' => e = .returned (.bool (E.B.dv (.mk 6 nm tx set subs))) ∧ Grew w W') := Lib.hid fun w hw => xderives_ok E _ w _ _ _ _ _ (A3.out.grew hw).tab ((HND.out.keep ((G3.out.trans hw).mono HA.out.tab.low)).mono (Nat.le_trans HA.out.tab.low (G3.out.trans hw).size))
  obtain ⟨Q, hQ⟩ : ∃ Q, XRes E (From m (Der E.B E.wl (.mk 6 nm tx set subs))) S (NxF E.B E.wl m (.mk 6 nm tx set subs)) W = Q := ⟨_, rfl⟩
  rw [hQ]
  have HQ := Lib.hid hQ
  have n0 := O1.out.cell_at (i := 0) rfl
  have n1 := O1.out.cell_at (i := 1) rfl
  have n2 := O1.out.cell_at (i := 2) rfl
  have n3 := O1.out.cell_at (i := 3) rfl
  have n4 := O1.out.cell_at (i := 4) rfl
  have nl := O1.out.lt
  have k0 := A3.out.box.cell_at (i := 0) rfl
  have kl := A3.out.box.lt
  clear hA hA3 hV o1 o2 o3 g1 g2 g3 hQ h9 hml hB hne
  subst hb
  have HM0 := Lib.hid hm0
  have HDT := Lib.hid hdt
  clear hm0 hdt
  have htk : ∀ w, Grew w3 w → (Instr.lookup 26 (.map (some E.tm)) (.string nm) false).run Tryz.prog w = .ok (.int .i64 (E.B.tok nm : Int)) w := fun w hw => run_name (by rw [hw.block _ (Nat.lt_of_lt_of_le A3.out.tab.nlo.2 A3.out.tab.low)]; exact A3.out.tab.toks) nm
  have HTK := Lib.hid htk
  clear htk
  unfold XE.ptr setV
  go_enter Tryz.func39, Tryz.ntmps39
  go_upto_region 1 with fail
  clear hw1 hw2 hw3 z1 z2
  refine wp_region_hav_lit follows (by kernel_rfl) ?_
  refine HavG.val (fun _ => rfl) (setV m) (fun x w hw _ => exec_load_set (O2.out.keep hw) rfl rfl) ?_
  simp only [Act.put, List.setIfInBounds_toArray, List.set_cons_zero, List.set_cons_succ]
  refine HavG.val (fun _ => rfl) (setV 0) (fun x w hw _ => ?_) ?_
  · clear hw
    unfold setV
    rw [zset_cells]
    go_simp
  simp only [Act.put, List.setIfInBounds_toArray, List.set_cons_zero, List.set_cons_succ]
  refine HavG.val (fun _ => rfl) (.bool false) (fun x w hw _ => by rw [exec_eql_set HMM.out (by decide) rfl rfl rfl, decide_eq_false HM0.out]) ?_
  simp only [Act.put, List.setIfInBounds_toArray, List.set_cons_zero, List.set_cons_succ]
  iterate 8 (first
    | (refine HavG.skip (fun _ => rfl) ?_; simp only [Act.put, List.setIfInBounds_toArray, List.set_cons_zero, List.set_cons_succ])
    | (refine HavG.val (fun _ => rfl) ?_ (fun x w hw _ => ?_) ?_; rotate_left; (focus (have hc := hw.cells; clear hw; go_simp; first | done | rfl)); simp only [Act.put, List.setIfInBounds_toArray, List.set_cons_zero, List.set_cons_succ]))
  refine HavG.det (fun _ => rfl) (.bool true) (fun x w hw hd => ?_) ?_
  · clear hd
    have HW := Lib.hid hw
    clear hw
    go_simp
    refine (HDV.out _ HW.out).mono ?_
    rintro e w' ⟨rfl, hg⟩
    exact ⟨by rw [HDT.out], hg⟩
  simp only [Act.put, List.setIfInBounds_toArray, List.set_cons_zero, List.set_cons_succ]
  iterate 1 (first
    | (refine HavG.skip (fun _ => rfl) ?_; simp only [Act.put, List.setIfInBounds_toArray, List.set_cons_zero, List.set_cons_succ])
    | (refine HavG.val (fun _ => rfl) ?_ (fun x w hw _ => ?_) ?_; rotate_left; (focus (have hc := hw.cells; clear hw; go_simp; first | done | rfl)); simp only [Act.put, List.setIfInBounds_toArray, List.set_cons_zero, List.set_cons_succ]))
  refine HavG.tail (by kernel_rfl) (by kernel_rfl) (fun x w hw _ => ?_)
  have GW := Lib.hid hw
  have AW := Lib.hid (A3.out.grew hw)
  have O1W := Lib.hid (O1.out.keep hw)
  have O2W := Lib.hid (O2.out.keep hw)
  have O3W := Lib.hid (O3.out.keep hw)
  have H9W : Hid (NodesAt w E.lim na 0 subs) := Lib.hid (H9.out.keep (hw.mono A3.out.tab.low))
  have RW : Hid (E.R W w) := Lib.hid (XE.R.grew (G3.out.trans hw))
  clear hw n0 n1 n2 n3 n4 nl k0 kl
  obtain ⟨w4, rfl⟩ : ∃ z, z = w := ⟨_, rfl⟩
  have n0 := O1W.out.cell_at (i := 0) rfl
  have n1 := O1W.out.cell_at (i := 1) rfl
  have n4 := O1W.out.cell_at (i := 4) rfl
  have nl := O1W.out.lt
  have k0 := AW.out.box.cell_at (i := 0) rfl
  have kl := AW.out.box.lt
  have t2 := AW.out.tab.box.cell_at (i := 2) rfl
  have tl := AW.out.tab.box.lt
  go_upto_region 5 with fail
  refine wp_region_hav_lit follows (by kernel_rfl) ?_
  iterate 11 (first
    | (refine HavG.skip (fun _ => rfl) ?_; simp only [Act.put, List.setIfInBounds_toArray, List.set_cons_zero, List.set_cons_succ])
    | (refine HavG.val (fun _ => rfl) ?_ (fun x w hw _ => ?_) ?_; rotate_left; (focus (have hc := hw.cells; clear hw; go_simp; first | done | rfl)); simp only [Act.put, List.setIfInBounds_toArray, List.set_cons_zero, List.set_cons_succ]))
  refine HavG.val (fun _ => rfl) (.int .i64 (E.B.tok nm : Int)) (fun x w hw _ => ?_) ?_
  · have hl := HTK.out w (GW.out.trans hw)
    clear hw
    go_simp
    first | done | rw [hl]
  simp only [Act.put, List.setIfInBounds_toArray, List.set_cons_zero, List.set_cons_succ]
  refine HavG.val (fun _ => rfl) (setV m) (fun x w hw _ => exec_load_set (O2W.out.keep hw) rfl rfl) ?_
  simp only [Act.put, List.setIfInBounds_toArray, List.set_cons_zero, List.set_cons_succ]
  refine HavG.tail (by kernel_rfl) (by kernel_rfl) (fun x w hw _ => ?_)
  have HW := Lib.hid hw
  have HC := Lib.hid (xtoken_ok E (E.B.tok nm) m S w (AW.out.grew hw))
  unfold XE.ptr at HC
  clear hw
  go_wp2_with fail
  refine HC.out.mono ?_
  rintro e w5 ⟨q, rfl, q1, q2, q3, q4⟩
  have O5 := Lib.hid (q4.owns (O3W.out.keep HW.out) (HNE.out _ (by omega)).2.2.2)
  have A5 := Lib.hid q3
  have R5 := Lib.hid ((RW.out.trans (XE.R.grew HW.out)).trans q4)
  clear q3 q4 HC
  go_wp2_with (refine wpList_store_set O5.out rfl _ _ rfl rfl rfl ?_; intro w6 o6 b6; have O6 := Lib.hid o6; have H6 := Lib.hid (XE.At.fresh HA.out A5.out b6 (by omega)); have HR6 := Lib.hid (XE.R.fresh HA.out R5.out b6 (by omega)); clear o6 b6)
  refine bodyPost_ret (ret_set rfl _ O6.out rfl) rfl ?_
  rw [← HQ.out]
  refine ⟨q, rfl, q1, q2.iff fun j => ?_, H6.out.iff fun t => or_congr Iff.rfl ?_, HR6.out⟩
  · constructor
    · rintro ⟨k, h1, h2, h3, rfl⟩
      exact ⟨k, h2, .tok h3⟩
    · rintro ⟨i, h1, h2⟩
      cases h2 with
      | tok h2 => exact ⟨i, by have := HML.out i h1; omega, h1, h2, rfl⟩
      | other h2 => omega
  · constructor
    · rintro ⟨h1, rfl⟩
      exact ⟨_, _, h1, .tok rfl, rfl⟩
    · rintro ⟨i, t', h1, h2, rfl⟩
      cases h2 with
      | tok h2 =>
        subst h2
        exact ⟨h1, rfl⟩
      | loop h2 => omega
      | again h2 => omega
end Go.Proofs.YtppjmdanckdobaaGreatDoor
