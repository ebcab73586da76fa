/- Same: are words the document's? -/
import Derived.Test.YtdgkpmpakkfgbaaGreatDoorScRw
import Derived.Test.YtdgkpmpakkfgbaaGreatDoorScR7
namespace Go.Proofs.YtdgkpmpakkfgbaaGreatDoor
open Go.RowKit

theorem WordsV.rows {W : World} {base : Nat} {l : List UInt8} {v : Value} {ws : List Wd} (h : WordsV W base l v ws) : ∃ a c, v = .slice a ws.length c ∧ ws.length ≤ c ∧ ∀ (i : Nat) (hi : i < ws.length), ∃ g, a = some ⟨g, 0, none⟩ ∧ g < W.heap.size ∧ WordCell W base g i l ws[i] := by
  by_cases hne : ws = []
  · subst hne
    obtain ⟨cs, h1, _⟩ := h
    rcases h1.2 with ⟨rfl, _⟩ | ⟨g, cap, cur, rfl, _, _, hc, _⟩
    · exact ⟨none, 0, rfl, Nat.le_refl _, fun i hi => absurd hi (by simp)⟩
    · exact ⟨_, _, rfl, hc, fun i hi => absurd hi (by simp)⟩
  · obtain ⟨g, c, rfl, _, hlt, hc, hcell⟩ := h.get hne
    exact ⟨_, _, rfl, hc, fun i hi => ⟨g, rfl, hlt, hcell i hi⟩⟩

theorem RWordsV.rows {W : World} {base : Nat} {l : List UInt8} {v : Value} {ws : List Wd} (h : RWordsV W base l v ws) : ∃ a c, v = .slice a ws.length c ∧ ws.length ≤ c ∧ ∀ (i : Nat) (hi : i < ws.length), ∃ g, a = some ⟨g, 0, none⟩ ∧ g < W.heap.size ∧ RWordCell W base g i l ws[i] := by
  by_cases hne : ws = []
  · subst hne
    obtain ⟨cs, h1, _⟩ := h
    rcases h1.2 with ⟨rfl, _⟩ | ⟨g, cap, cur, rfl, _, _, hc, _⟩
    · exact ⟨none, 0, rfl, Nat.le_refl _, fun i hi => absurd hi (by simp)⟩
    · exact ⟨_, _, rfl, hc, fun i hi => absurd hi (by simp)⟩
  · obtain ⟨g, c, rfl, _, hlt, hc, hcell⟩ := h.get hne
    exact ⟨_, _, rfl, hc, fun i hi => ⟨g, rfl, hlt, hcell i hi⟩⟩

set_option maxHeartbeats 8000000 in
set_option maxRecDepth 20000 in
theorem scSame_ok (ws : List Wd) (l : List UInt8) (W : World) (ba bb : Nat) (va vb : Value) (ha : WordsV W ba l va ws) (hb : RWordsV W bb l vb ws) (hn : ws.length ≤ 1048576) (hsz : ∀ w ∈ ws, w.set.length ≤ 1048576 ∧ w.kind ≤ 4) :
    Calls Tryz.prog 7 #[va, vb] W fun e W' => e = .returned (.bool true) ∧ Grew W W' := by
  obtain ⟨aa, ca, rfl, hca, hra⟩ := ha.rows
  obtain ⟨ab, cb, rfl, hcb, hrb⟩ := hb.rows
  obtain ⟨n, hna⟩ : ∃ n, ws.length = n := ⟨_, rfl⟩
  have HNN := Lib.hid hna
  rw [hna] at hca hn hcb ⊢
  have HRA := Lib.hid hra
  have HRB := Lib.hid hrb
  have HZ := Lib.hid hsz
  clear ha hb hra hrb hsz hna
  go_enter Tryz.func7, Tryz.ntmps7
  go_wp2_with fail
  go_loopw [5] (fun v wr => ∃ j : Nat, v = .int .i64 j ∧ j ≤ n ∧ Hid (Grew W wr)) (fun v _ => n - (intOf v).toNat)
  case atStart => exact ⟨0, rfl, Nat.zero_le _, Grew.refl _⟩
  case round =>
    obtain ⟨j, rfl, hj, HG⟩ := hrel
    by_cases hlt : j < n
    · have hna := HNN.out
      have hja : j < ws.length := by omega
      obtain ⟨ga, rfl, hga, wca⟩ := HRA.out j hja
      obtain ⟨gb, rfl, hgb, wcb⟩ := HRB.out j hja
      obtain ⟨hzz, hk4⟩ := HZ.out _ (List.getElem_mem hja)
      obtain ⟨sva, q2, rva⟩ := wca.set
      obtain ⟨svb, q5, rvb⟩ := wcb.set
      have d0 := (HG.out.cells _ _ hga).trans wca.kind
      have d1 := (HG.out.cells _ _ hga).trans wca.text
      have d2 := (HG.out.cells _ _ hga).trans q2
      have d6 := (HG.out.cells _ _ hga).trans wca.at_
      have d7 := (HG.out.cells _ _ hga).trans wca.line
      have d8 := (HG.out.cells _ _ hga).trans wca.col
      have d3 := (HG.out.cells _ _ hgb).trans wcb.kind
      have d4 := (HG.out.cells _ _ hgb).trans wcb.text
      have d5 := (HG.out.cells _ _ hgb).trans q5
      have d9 := (HG.out.cells _ _ hgb).trans wcb.at_
      have da := (HG.out.cells _ _ hgb).trans wcb.line
      have db := (HG.out.cells _ _ hgb).trans wcb.col
      have hga2 : ga < wr.heap.size := Nat.lt_of_lt_of_le hga HG.out.size
      have hgb2 : gb < wr.heap.size := Nat.lt_of_lt_of_le hgb HG.out.size
      have HSS : Hid (∀ w, Grew wr w → Calls Tryz.prog 8 #[sva, svb] w fun e W' => e = .returned (.bool true) ∧ Grew w W') := fun w hg => by
        have := sameSet_ok ws[j].set ws[j].set w ba bb sva svb (loose_grew (loose_grew rva HG.out) hg) (loose_grew (loose_grew rvb HG.out) hg) hzz hzz
        rw [decide_eq_true rfl] at this
        exact this
      generalize ws[j] = x at *
      obtain ⟨k, tx, st, at_⟩ := x
      simp only at d0 d1 d3 d4 d6 d7 d8 d9 da db
      generalize ({ data := tx.toArray } : ByteArray) = TX at *
      generalize (placeOf (List.take at_ l) 1 1).1 = p1 at *
      generalize (placeOf (List.take at_ l) 1 1).2 = p2 at *
      have wk : IntKind.i64.wrap (k : Int) = (k : Int) := wrap_smallS _ (by omega) (by simp only at hk4; omega)
      have q1 : ((k : Int) == (k : Int)) = true := beq_self_eq_true _
      have qn : ((k : Int) != (k : Int)) = false := by simp
      have q3 : (TX.toList == TX.toList) = true := beq_self_eq_true _
      have q4 : ((at_ : Int) == (at_ : Int)) = true := beq_self_eq_true _
      have q6 : ((p1 : Int) == (p1 : Int)) = true := beq_self_eq_true _
      have q7 : ((p2 : Int) == (p2 : Int)) = true := beq_self_eq_true _
      clear wca wcb rva rvb q2 q5 hna hja
      go_wp2_with fail
      refine wp_region_hav_lit follows (by kernel_rfl) ?_
      iterate 49 (first
        | (refine HavG.skip (fun _ => rfl) ?_; simp only [Act.put, List.setIfInBounds_toArray, List.set_cons_zero, List.set_cons_succ])
        | (refine HavG.val (fun _ => rfl) ?_ (fun x w hw _ => ?_) ?_; rotate_left; (focus (have hc := hw.cells; clear hw; go_simp; first | done | rfl)); simp only [Act.put, List.setIfInBounds_toArray, List.set_cons_zero, List.set_cons_succ]))
      refine HavG.det (fun _ => rfl) (.bool true) (fun x w hw hd => ?_) ?_
      · clear hd
        have HWW := Lib.hid hw
        clear hw
        go_simp
        refine (HSS.out w HWW.out).mono ?_
        rintro e w' ⟨rfl, hg⟩
        exact ⟨rfl, hg⟩
      simp only [Act.put, List.setIfInBounds_toArray, List.set_cons_zero, List.set_cons_succ]
      repeat (first
        | (refine HavG.skip (fun _ => rfl) ?_; simp only [Act.put, List.setIfInBounds_toArray, List.set_cons_zero, List.set_cons_succ])
        | (refine HavG.val (fun _ => rfl) ?_ (fun x w hw _ => ?_) ?_; rotate_left; (focus (have hc := hw.cells; clear hw; go_simp; first | done | rfl)); simp only [Act.put, List.setIfInBounds_toArray, List.set_cons_zero, List.set_cons_succ]))
      refine HavG.tail (by kernel_rfl) (by kernel_rfl) (fun x w hw _ => ?_)
      have HG2 := Lib.hid (HG.out.trans hw)
      clear hw
      go_wp2_with fail
      exact ⟨⟨j + 1, by go_num, by omega, HG2.out⟩, by simp [intOf]; omega⟩
    · go_wp2_with fail
      go_ret
      exact ⟨rfl, HG.out⟩
end Go.Proofs.YtdgkpmpakkfgbaaGreatDoor
