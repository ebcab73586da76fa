/- PathsAny: the walk. -/
import Derived.Test.YtgdcnndmdgcjlaaPAnyR
import Derived.Test.YtgdcnndmdgcjlaaPOther
namespace Go.Proofs.Ytgdcnndmdgcjlaa
open Go.RowKit

def WayX (N : Net) (w : List Int) (f t : Int) (la : Nat) (v : Value) (W' : World) : Prop := ∃ a c, v = .slice a la c ∧ BoolsV W' (.slice a la c) la (wayB N w f.toNat t.toNat)
theorem WayX.keep {N : Net} {w : List Int} {f t : Int} {la : Nat} {v : Value} {W W' : World} (hg : Grew W W') (h : WayX N w f t la v W) : WayX N w f t la v W' := by
  obtain ⟨a, c, h1, h2⟩ := h
  exact ⟨a, c, h1, h2.keep hg⟩
def WayO (N : Net) (w : List Int) (f t : Int) (er : Int) (la : Nat) (v : Value) (W' : World) : Prop := ∃ x, v = .tuple #[x, .int .i64 er] ∧ WayX N w f t la x W'
theorem WayO.keep {N : Net} {w : List Int} {f t er : Int} {la : Nat} {v : Value} {W W' : World} (hg : Grew W W') (h : WayO N w f t er la v W) : WayO N w f t er la v W' := by
  obtain ⟨x, h1, h2⟩ := h
  exact ⟨x, h1, h2.keep hg⟩
theorem wayO_of {N : Net} {w : List Int} {f t er : Int} {la : Nat} {v : Value} {W' : World} (he : (if okW N f t = true then 0 else 1) = er) (hl : (if okW N f t = true then w.length + 1 else 0) = la) (h : WayOut N w f t v W') : WayO N w f t er la v W' := by
  obtain ⟨x, h1, h2, a, c, h3⟩ := h
  rw [hl] at h2 h3
  rw [he] at h1
  subst h3
  exact ⟨_, h1, a, c, rfl, h2⟩
def OtherR (N : Net) (n1 n2 n3 n4 : Value) (v : Value) (W' : World) : Prop := ∃ v0, v = .agg #[v0, n1, n2, n3, n4] ∧ RNetAt W' W'.heap.size v0 n1 n2 n3 n4 N
theorem OtherR.keep {N : Net} {n1 n2 n3 n4 v : Value} {W W' : World} (hg : Grew W W') (h : OtherR N n1 n2 n3 n4 v W) : OtherR N n1 n2 n3 n4 v W' := by
  obtain ⟨v0, h1, h2⟩ := h
  exact ⟨v0, h1, (h2.keep hg).mono hg.size⟩

/-- the boxes: the net, what is asked -/
structure AnyAt (W w' : World) (n0 n1 n2 n3 n4 a0 a1 a2 : Value) : Prop where
  low : Grew W w'
  bn : Owns w' W.heap.size [n0, n1, n2, n3, n4] 25
  ba : Owns w' (W.heap.size + 1) [a0, a1, a2] 27
theorem AnyAt.grew {W w1 w2 : World} {n0 n1 n2 n3 n4 a0 a1 a2 : Value} (h : AnyAt W w1 n0 n1 n2 n3 n4 a0 a1 a2) (hg : Grew w1 w2) : AnyAt W w2 n0 n1 n2 n3 n4 a0 a1 a2 := ⟨h.low.trans hg, h.bn.keep hg, h.ba.keep hg⟩

set_option linter.unusedSimpArgs false in
set_option maxHeartbeats 4000000 in
set_option maxRecDepth 40000 in
theorem any_ok (N : Net) (hR : N.Reach) (hK : N.Kinds) (w : List Int) (hwl : w.length ≤ reachN) (x0 x1 x2 : Int) (W : World) (n0 n1 n2 n3 n4 wv : Value) (hB : NetAt W W.heap.size n0 n1 n2 n3 n4 N) (hWV : IntsV W W.heap.size wv w) :
    Calls Try.prog 3 #[.agg #[n0, n1, n2, n3, n4], .agg #[.int .i64 x0, .int .i64 x1, .int .i64 x2], wv] W fun e W' => e = .returned (.bool true) ∧ Grew W W' := by
  obtain ⟨a0, k0, a1, k1, a2, k2, a3, k3, a4, k4, hn0, hn1, hn2, hn3, hn4⟩ := hB.forms
  have hWV0 := hWV
  obtain ⟨wa, wc, hwv, -⟩ := hWV0
  obtain ⟨w1, hw1⟩ : ∃ w1, W.alloc (.cells #[n0, n1, n2, n3, n4] 25) = w1 := ⟨_, rfl⟩
  have z1 : w1.heap.size = W.heap.size + 1 := by rw [← hw1]; exact World.size_alloc W _
  have g1 : Grew W w1 := hw1 ▸ grew_alloc W _
  have o1 : Owns w1 W.heap.size [n0, n1, n2, n3, n4] 25 := hw1 ▸ Owns.alloc W _ _
  obtain ⟨w2, hw2⟩ : ∃ w2, w1.alloc (.cells #[.int .i64 x0, .int .i64 x1, .int .i64 x2] 27) = w2 := ⟨_, rfl⟩
  have g2 : Grew w1 w2 := hw2 ▸ grew_alloc w1 _
  have o2 : Owns w2 (W.heap.size + 1) [.int .i64 x0, .int .i64 x1, .int .i64 x2] 27 := by rw [← z1, ← hw2]; exact Owns.alloc w1 _ _
  have hJ : AnyAt W w2 n0 n1 n2 n3 n4 (.int .i64 x0) (.int .i64 x1) (.int .i64 x2) := ⟨g1.trans g2, o1.keep g2, o2⟩
  have HJ := Lib.hid hJ
  have c0 := hJ.bn.cell_at (i := 0) rfl
  have c1 := hJ.bn.cell_at (i := 1) rfl
  have c2 := hJ.bn.cell_at (i := 2) rfl
  have c3 := hJ.bn.cell_at (i := 3) rfl
  have c4 := hJ.bn.cell_at (i := 4) rfl
  have HNET := Lib.hid fun (w' : World) (hg : Grew W w') => (hB.keep hg).mono hg.size
  have HTOK := Lib.hid fun (w' : World) (hg : Grew W w') => (hWV.keep hg).mono hg.size
  have HGR := Lib.hid (great13_ok N hR w hwl w2 _ _ _ _ _ _ (HNET.out w2 hJ.low) (HTOK.out w2 hJ.low))
  have HKK := Lib.hid hK
  clear hJ g1 g2 o1 o2 hB hWV hR hK
  subst hn0 hn1 hn2 hn3 hn4 hwv
  go_enter Try.func3, Try.ntmps3
  go_wp2_with fail
  refine HGR.out.mono ?_
  rintro e w4 ⟨gb, rfl, hgb, hg4⟩
  have hJ4 := HJ.out.grew hg4
  have HJ4 := Lib.hid hJ4
  have HSM := Lib.hid hgb
  clear hgb hg4 hJ4 HGR HJ z1 hw1 hw2 c0 c1 c2 c3 c4
  cases gb
  · obtain ⟨hS, hw7⟩ := HSM.out rfl
    have HS := Lib.hid hS
    have HT := Lib.hid (TwinNums_ok w hw7 w4 (.slice wa w.length wc) (HTOK.out w4 HJ4.out.low))
    clear hS HSM
    go_wp2_with fail
    refine HT.out.mono ?_
    rintro e w5 ⟨tv, rfl, htw, hg5⟩
    have hJ5 := HJ4.out.grew hg5
    have HJ5 := Lib.hid hJ5
    have c0 := hJ5.bn.cell_at (i := 0) rfl
    have c1 := hJ5.bn.cell_at (i := 1) rfl
    have c2 := hJ5.bn.cell_at (i := 2) rfl
    have c3 := hJ5.bn.cell_at (i := 3) rfl
    have c4 := hJ5.bn.cell_at (i := 4) rfl
    have q0 := hJ5.ba.cell_at (i := 0) rfl
    have q1 := hJ5.ba.cell_at (i := 1) rfl
    have l1 := hJ5.bn.lt
    have l2 := hJ5.ba.lt
    obtain ⟨er, her⟩ : ∃ er : Int, (if okW N x0 x1 = true then 0 else 1) = er := ⟨_, rfl⟩
    obtain ⟨la, hla⟩ : ∃ la, (if okW N x0 x1 = true then w.length + 1 else 0) = la := ⟨_, rfl⟩
    have HER := Lib.hid (And.intro her hla)
    have HTW := Lib.hid (show ∀ w', Grew w5 w' → TwinAt w tv w' from fun w' hg => htw.keep hg)
    have HWY := Lib.hid (Ways_all N HS.out w hw7 x0 x1 w5 _ _ _ _ _ tv (HNET.out w5 hJ5.low) htw.ints)
    clear hJ5 htw hg5 her hla HT HJ4
    go_wp2_with fail
    refine HWY.out.mono ?_
    rintro e w6 ⟨v, rfl, hwo, hg6⟩
    obtain ⟨xa, rfl, aa, ac, rfl, hba⟩ := wayO_of HER.out.1 HER.out.2 hwo
    have hJ6 := HJ5.out.grew hg6
    have HJ6 := Lib.hid hJ6
    have HG6 := Lib.hid hg6
    have HBA := Lib.hid hba
    have c0 := hJ6.bn.cell_at (i := 0) rfl
    have c1 := hJ6.bn.cell_at (i := 1) rfl
    have c2 := hJ6.bn.cell_at (i := 2) rfl
    have c3 := hJ6.bn.cell_at (i := 3) rfl
    have c4 := hJ6.bn.cell_at (i := 4) rfl
    have q0 := hJ6.ba.cell_at (i := 0) rfl
    have q1 := hJ6.ba.cell_at (i := 1) rfl
    have l1 := hJ6.bn.lt
    have l2 := hJ6.ba.lt
    clear hwo hg6 hJ6 hba HWY
    go_wp2_with fail
    refine wp_region_hav_lit follows (by kernel_rfl) ?_
    repeat (first
      | (refine HavG.skip (fun _ => rfl) ?_; simp only [Act.put, List.setIfInBounds_toArray, List.set_cons_zero, List.set_cons_succ])
      | (refine HavG.val (fun _ => rfl) ?_ (fun x w hw _ => ?_) ?_; rotate_left; (focus (have hc := hw.cells; clear hw; go_simp; first | done | rfl)); simp only [Act.put, List.setIfInBounds_toArray, List.set_cons_zero, List.set_cons_succ]))
    refine HavG.any (fun _ => rfl) (OtherR N (.slice a1 N.starts.length k1) (.slice a2 N.stops.length k2) (.slice a3 N.preds.length k3) (.slice a4 N.decisions.length k4)) (fun _ _ _ hg h => OtherR.keep hg h) (fun x u hw _ => ?_) ?_
    · have HC := Lib.hid (other_ok N HS.out HKK.out u _ _ _ _ _ (HNET.out u (HJ6.out.low.trans hw)))
      clear hw
      go_simp
      refine HC.out.mono ?_
      rintro e u2 ⟨v0, rfl, hr, hg⟩
      exact ⟨hg, v0, rfl, hr⟩
    simp only [Act.put, List.setIfInBounds_toArray, List.set_cons_zero, List.set_cons_succ]
    repeat (first
      | (refine HavG.skip (fun _ => rfl) ?_; simp only [Act.put, List.setIfInBounds_toArray, List.set_cons_zero, List.set_cons_succ])
      | (refine HavG.val (fun _ => rfl) ?_ (fun x w hw _ => ?_) ?_; rotate_left; (focus (have hc := hw.cells; clear hw; go_simp; first | done | rfl)); simp only [Act.put, List.setIfInBounds_toArray, List.set_cons_zero, List.set_cons_succ]))
    refine HavG.any (fun _ => rfl) (WayO N w x0 x1 er la) (fun _ _ _ hg h => WayO.keep hg h) (fun x u hw hd => ?_) ?_
    · have h1 := hd _ (List.mem_append_right _ (List.mem_singleton.2 rfl)) (by kernel_rfl)
      dsimp only at h1
      generalize x (0 + 1) = y1 at *
      obtain ⟨v0, rfl, hr⟩ := h1
      have HC := Lib.hid (RWays_all N HS.out HKK.out w hw7 x0 x1 u _ _ _ _ _ (.slice wa w.length wc) hr (HTOK.out u (HJ6.out.low.trans hw)))
      clear hd hw hr
      go_simp
      refine HC.out.mono ?_
      rintro e u2 ⟨v, rfl, hr, hg⟩
      exact ⟨hg, wayO_of HER.out.1 HER.out.2 hr⟩
    simp only [Act.put, List.setIfInBounds_toArray, List.set_cons_zero, List.set_cons_succ]
    refine HavG.any (fun _ => rfl) (WayO N w x0 x1 er la) (fun _ _ _ hg h => WayO.keep hg h) (fun x u hw hd => ?_) ?_
    · have h7 := hd _ (List.mem_append_right _ (List.mem_singleton.2 rfl)) (by kernel_rfl)
      dsimp only at h7
      clear hd hw
      generalize x (0 + 1 + 1 + 1 + 1 + 1 + 1 + 1) = y7 at *
      have H7 := Lib.hid h7
      clear h7
      go_simp
      exact ⟨Grew.refl _, H7.out⟩
    simp only [Act.put, List.setIfInBounds_toArray, List.set_cons_zero, List.set_cons_succ]
    refine HavG.any (fun _ => rfl) (WayX N w x0 x1 la) (fun _ _ _ hg h => WayX.keep hg h) (fun x u hw hd => ?_) ?_
    · have h8 := hd _ (List.mem_append_right _ (List.mem_singleton.2 rfl)) (by kernel_rfl)
      dsimp only at h8
      clear hd hw
      generalize x (0 + 1 + 1 + 1 + 1 + 1 + 1 + 1 + 1) = y8 at *
      obtain ⟨xx, rfl, ho⟩ := h8
      have HO := Lib.hid ho
      clear ho
      go_simp
      exact ⟨Grew.refl _, HO.out⟩
    simp only [Act.put, List.setIfInBounds_toArray, List.set_cons_zero, List.set_cons_succ]
    refine HavG.det (fun _ => rfl) (.int .i64 er) (fun x u hw hd => ?_) ?_
    · have h8 := hd _ (List.mem_append_left _ (List.mem_append_right _ (List.mem_singleton.2 rfl))) (by kernel_rfl)
      dsimp only at h8
      clear hd hw
      generalize x (0 + 1 + 1 + 1 + 1 + 1 + 1 + 1 + 1) = y8 at *
      obtain ⟨xx, rfl, ho⟩ := h8
      clear ho
      go_simp
      exact Grew.refl _
    simp only [Act.put, List.setIfInBounds_toArray, List.set_cons_zero, List.set_cons_succ]
    refine HavG.any (fun _ => rfl) (WayX N w x0 x1 la) (fun _ _ _ hg h => WayX.keep hg h) (fun x u hw hd => ?_) ?_
    · have h8 := hd _ (List.mem_append_right _ (List.mem_singleton.2 rfl)) (by kernel_rfl)
      dsimp only at h8
      clear hd hw
      generalize x (0 + 1 + 1 + 1 + 1 + 1 + 1 + 1 + 1 + 1) = y9 at *
      have H8 := Lib.hid h8
      clear h8
      go_simp
      exact ⟨Grew.refl _, H8.out⟩
    simp only [Act.put, List.setIfInBounds_toArray, List.set_cons_zero, List.set_cons_succ]
    refine HavG.tail (by kernel_rfl) (by kernel_rfl) (fun x w7 hw hx => ?_)
    have hx8 := hx _ (List.mem_append_right _ (List.mem_singleton.2 rfl))
    clear hx
    dsimp only at hx8
    generalize x (0 + 1 + 1 + 1 + 1 + 1 + 1 + 1 + 1 + 1 + 1 + 1) = y11 at *
    generalize x (0 + 1 + 1 + 1 + 1 + 1 + 1 + 1 + 1 + 1) = y9 at *
    generalize x (0 + 1 + 1 + 1 + 1 + 1 + 1 + 1 + 1) = y8 at *
    generalize x (0 + 1 + 1 + 1 + 1 + 1 + 1 + 1) = y7 at *
    generalize x (0 + 1) = y1 at *
    obtain ⟨ba, bc, rfl, hbb⟩ := hx8
    have hJ7 := HJ6.out.grew hw
    have HJ7 := Lib.hid hJ7
    have HG7 := Lib.hid (HG6.out.trans hw)
    have HBA := Lib.hid (HBA.out.keep hw)
    have HBB := Lib.hid hbb
    have c0 := hJ7.bn.cell_at (i := 0) rfl
    have c1 := hJ7.bn.cell_at (i := 1) rfl
    have c2 := hJ7.bn.cell_at (i := 2) rfl
    have c3 := hJ7.bn.cell_at (i := 3) rfl
    have c4 := hJ7.bn.cell_at (i := 4) rfl
    have q0 := hJ7.ba.cell_at (i := 0) rfl
    have q2 := hJ7.ba.cell_at (i := 2) rfl
    have l1 := hJ7.bn.lt
    have l2 := hJ7.ba.lt
    clear hw hbb hJ7 HJ6 HG6 q1
    go_wp2_with fail
    obtain ⟨av, hav⟩ : ∃ av, alongV N w x0 x2 = av := ⟨_, rfl⟩
    have HAV := Lib.hid hav
    clear hav
    have hla9 : la ≤ 1000 := by have := HER.out.2; split at this <;> omega
    refine wp_region_hav_lit follows (by kernel_rfl) ?_
    repeat (first
      | (refine HavG.skip (fun _ => rfl) ?_; simp only [Act.put, List.setIfInBounds_toArray, List.set_cons_zero, List.set_cons_succ])
      | (refine HavG.val (fun _ => rfl) ?_ (fun x w hw _ => ?_) ?_; rotate_left; (focus (have hc := hw.cells; clear hw; go_simp; first | done | rfl)); simp only [Act.put, List.setIfInBounds_toArray, List.set_cons_zero, List.set_cons_succ]))
    refine HavG.det (fun _ => rfl) (.bool true) (fun x u hw _ => ?_) ?_
    · have HF := Lib.hid (Flags13_ok la hla9 _ u _ _ (HBA.out.keep hw) (HBB.out.keep hw))
      clear hw
      go_simp
      refine HF.out.mono ?_
      rintro e u2 ⟨rfl, hg⟩
      exact ⟨rfl, hg⟩
    simp only [Act.put, List.setIfInBounds_toArray, List.set_cons_zero, List.set_cons_succ]
    repeat (first
      | (refine HavG.skip (fun _ => rfl) ?_; simp only [Act.put, List.setIfInBounds_toArray, List.set_cons_zero, List.set_cons_succ])
      | (refine HavG.val (fun _ => rfl) ?_ (fun x w hw _ => ?_) ?_; rotate_left; (focus (have hc := hw.cells; clear hw; go_simp; first | done | rfl)); simp only [Act.put, List.setIfInBounds_toArray, List.set_cons_zero, List.set_cons_succ]))
    refine HavG.det (fun _ => rfl) (.bool av) (fun x u hw _ => ?_) ?_
    · have HF := Lib.hid (Along_all N HS.out w hw7 x0 x2 u _ _ _ _ _ tv (HNET.out u (HJ7.out.low.trans hw)) (HTW.out u (HG7.out.trans hw)).ints)
      clear hw
      go_simp
      refine HF.out.mono ?_
      rintro e u2 ⟨rfl, hg⟩
      rw [HAV.out]
      exact ⟨rfl, hg⟩
    simp only [Act.put, List.setIfInBounds_toArray, List.set_cons_zero, List.set_cons_succ]
    repeat (first
      | (refine HavG.skip (fun _ => rfl) ?_; simp only [Act.put, List.setIfInBounds_toArray, List.set_cons_zero, List.set_cons_succ])
      | (refine HavG.val (fun _ => rfl) ?_ (fun x w hw _ => ?_) ?_; rotate_left; (focus (have hc := hw.cells; clear hw; go_simp; first | done | rfl)); simp only [Act.put, List.setIfInBounds_toArray, List.set_cons_zero, List.set_cons_succ]))
    refine HavG.any (fun _ => rfl) (OtherR N (.slice a1 N.starts.length k1) (.slice a2 N.stops.length k2) (.slice a3 N.preds.length k3) (.slice a4 N.decisions.length k4)) (fun _ _ _ hg h => OtherR.keep hg h) (fun x u hw _ => ?_) ?_
    · have HC := Lib.hid (other_ok N HS.out HKK.out u _ _ _ _ _ (HNET.out u (HJ7.out.low.trans hw)))
      clear hw
      go_simp
      refine HC.out.mono ?_
      rintro e u2 ⟨v0, rfl, hr, hg⟩
      exact ⟨hg, v0, rfl, hr⟩
    simp only [Act.put, List.setIfInBounds_toArray, List.set_cons_zero, List.set_cons_succ]
    repeat (first
      | (refine HavG.skip (fun _ => rfl) ?_; simp only [Act.put, List.setIfInBounds_toArray, List.set_cons_zero, List.set_cons_succ])
      | (refine HavG.val (fun _ => rfl) ?_ (fun x w hw _ => ?_) ?_; rotate_left; (focus (have hc := hw.cells; clear hw; go_simp; first | done | rfl)); simp only [Act.put, List.setIfInBounds_toArray, List.set_cons_zero, List.set_cons_succ]))
    refine HavG.det (fun _ => rfl) (.bool av) (fun x u hw hd => ?_) ?_
    · have h1 := hd _ (List.mem_append_right _ (List.mem_singleton.2 rfl)) (by kernel_rfl)
      dsimp only at h1
      generalize x (0 + 1 + 1 + 1 + 1 + 1 + 1 + 1 + 1 + 1 + 1 + 1 + 1 + 1 + 1 + 1 + 1 + 1 + 1) = y1 at *
      obtain ⟨v0, rfl, hr⟩ := h1
      have HC := Lib.hid (RAlong_all N HS.out HKK.out w hw7 x0 x2 u _ _ _ _ _ (.slice wa w.length wc) hr (HTOK.out u (HJ7.out.low.trans hw)))
      clear hd hw hr
      go_simp
      refine HC.out.mono ?_
      rintro e u2 ⟨rfl, hg⟩
      rw [HAV.out]
      exact ⟨rfl, hg⟩
    simp only [Act.put, List.setIfInBounds_toArray, List.set_cons_zero, List.set_cons_succ]
    repeat (first
      | (refine HavG.skip (fun _ => rfl) ?_; simp only [Act.put, List.setIfInBounds_toArray, List.set_cons_zero, List.set_cons_succ])
      | (refine HavG.val (fun _ => rfl) ?_ (fun x w hw _ => ?_) ?_; rotate_left; (focus (have hc := hw.cells; clear hw; go_simp; first | done | rfl)); simp only [Act.put, List.setIfInBounds_toArray, List.set_cons_zero, List.set_cons_succ]))
    refine HavG.det (fun _ => rfl) (.bool true) (fun x u hw _ => ?_) ?_
    · have HF := Lib.hid (LeftNums_ok w hw7 u tv (.slice wa w.length wc) (HTW.out u (HG7.out.trans hw)) (HTOK.out u (HJ7.out.low.trans hw)))
      clear hw
      go_simp
      refine HF.out.mono ?_
      rintro e u2 ⟨rfl, hg⟩
      exact ⟨rfl, hg⟩
    simp only [Act.put, List.setIfInBounds_toArray, List.set_cons_zero, List.set_cons_succ]
    repeat (first
      | (refine HavG.skip (fun _ => rfl) ?_; simp only [Act.put, List.setIfInBounds_toArray, List.set_cons_zero, List.set_cons_succ])
      | (refine HavG.val (fun _ => rfl) ?_ (fun x w hw _ => ?_) ?_; rotate_left; (focus (have hc := hw.cells; clear hw; go_simp; first | done | rfl)); simp only [Act.put, List.setIfInBounds_toArray, List.set_cons_zero, List.set_cons_succ]))
    refine HavG.tail (by kernel_rfl) (by kernel_rfl) (fun x w8 hw hx => ?_)
    clear hx
    have HJ8 := Lib.hid (HJ7.out.grew hw)
    clear hw c0 c1 c2 c3 c4 q0 q2 l1 l2
    have hadd : IntKind.i64.wrap ((w.length : Int) + 1) = (w.length : Int) + 1 := by rw [IntKind.wrap_i64]; omega
    have hcase : (er = 0 ∧ la = w.length + 1) ∨ er = 1 := by
      have h1 := HER.out.1
      have h2 := HER.out.2
      split at h1
      · rename_i hk
        rw [if_pos hk] at h2
        exact .inl ⟨h1.symm, h2.symm⟩
      · exact .inr h1.symm
    rcases hcase with ⟨rfl, rfl⟩ | rfl
    · have hli : (((w.length + 1 : Nat) : Int) == (w.length : Int) + 1) = true := by simp
      go_wp2_with (refine (lives13_ok _).mono ?_; rintro e w9 ⟨rfl, hg9⟩; have HG9 := Lib.hid (HJ8.out.low.trans hg9); clear hg9)
      go_ret
      exact ⟨rfl, HG9.out⟩
    · go_wp2_with (refine (lives13_ok _).mono ?_; rintro e w9 ⟨rfl, hg9⟩; have HG9 := Lib.hid (HJ8.out.low.trans hg9); clear hg9)
      go_ret
      exact ⟨rfl, HG9.out⟩
  · go_wp2_with fail
    refine (lives13_ok _).mono ?_
    rintro e w6 ⟨rfl, hg6⟩
    have HG := Lib.hid (HJ4.out.low.trans hg6)
    clear hg6
    go_wp2_with fail
    go_ret
    exact ⟨rfl, HG.out⟩
end Go.Proofs.Ytgdcnndmdgcjlaa
