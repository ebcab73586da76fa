/- FollowsVoid: sets that are not there have nothing. -/
import Derived.Test.YtldoinfbimelpaaQ37
namespace Go.Proofs.Ytldoinfbimelpaa
open Go.RowKit

def CountIs (m : Int) (W : World) (e : Ending) (W' : World) : Prop := ∃ c : Int, e = .returned (.int .i64 c) ∧ 1 ≤ c ∧ c ≤ m + 1 ∧ Grew W W'
set_option maxHeartbeats 1000000 in
theorem count22_ok (n : Nd) : ∀ (m : Int) (W : World) (v0 v1 v2 v3 v4 : Value), 0 ≤ m → m ≤ 1000 → NodeAt W W.heap.size (some v0) (some v1) (some v2) (some v3) (some v4) n →
    Calls Try.prog 4 #[.agg #[v0, v1, v2, v3, v4], .int .i64 m] W (CountIs m W) := by
  induction n using Nd.ind with
  | h k nm tx set subs ih =>
  intro m W v0 v1 v2 v3 v4 hm0 hm1 hN
  rw [NodeAt] at hN
  obtain ⟨hk, h1, h2, h3, h4, h5, ⟨sa, sc, h6, h6', h7⟩, na, nc, h8, h8', h9⟩ := hN
  obtain rfl := Option.some.inj h3
  obtain rfl := Option.some.inj h4
  obtain rfl := Option.some.inj h5
  obtain rfl := Option.some.inj h6
  obtain rfl := Option.some.inj h8
  clear h3 h4 h5 h6 h8
  unfold reachN at h1 h2 h6' h8'
  obtain ⟨Q, hQ⟩ : ∃ Q, CountIs m W = Q := ⟨_, rfl⟩
  rw [hQ]
  have HQ := Lib.hid hQ
  clear hQ
  obtain ⟨w1, hw1⟩ : ∃ w1, W.alloc (.cells #[.int .u8 k, .string nm, .string tx, .slice sa set.length sc, .slice na subs.length nc] 26) = w1 := ⟨_, rfl⟩
  have G1 := Lib.hid (show Grew W w1 from hw1 ▸ grew_alloc W _)
  have o1 : Owns w1 W.heap.size [.int .u8 k, .string nm, .string tx, .slice sa set.length sc, .slice na subs.length nc] 26 := hw1 ▸ Owns.alloc W _ _
  have HO := Lib.hid o1
  have H9 := Lib.hid h9
  have IH := Lib.hid ih
  clear o1 h9 ih h7
  go_enter Try.func4, Try.ntmps4
  go_wp2_with fail
  go_loopw [5, 6] (fun v i wr => ∃ (q : Int) (j : Nat), v = .int .i64 q ∧ i = .int .i64 j ∧ j ≤ subs.length ∧ 1 ≤ q ∧ q ≤ m + 1 ∧ Hid (Grew w1 wr)) (fun _ i _ => subs.length - (intOf i).toNat)
  case atStart => exact ⟨1, 0, rfl, rfl, by omega, by omega, by omega, Grew.refl _⟩
  case round =>
    obtain ⟨q, j, rfl, rfl, hj, hq0, hq1, hbw⟩ := hrel
    have o4 := (HO.out.keep hbw.out)
    have c4 := o4.cell_at (i := 4) rfl
    have cl := o4.lt
    clear o4
    by_cases hlt : j < subs.length
    · have d1 : decide ((j : Int) < (subs.length : Int)) = true := decide_eq_true (by omega)
      have d1' : decide (j < subs.length) = true := decide_eq_true (by omega)
      by_cases hqm : q ≤ m
      · have d2 : decide (q ≤ m) = true := decide_eq_true hqm
        obtain ⟨b, off, rfl, hb, hnode⟩ := (H9.out.keep (G1.out.trans hbw.out)).get hlt
        simp only [Nat.zero_add] at hnode
        obtain ⟨u0, u1, u2, u3, u4, e0, e1, e2, e3, e4, hnode⟩ := hnode.vals
        have hbl : b < wr.heap.size := lt_of_cell e0
        have HS := Lib.hid (IH.out j hlt (m - q) wr u0 u1 u2 u3 u4 (by omega) (by omega) (hnode.mono (G1.out.trans hbw.out).size))
        have hwr : IntKind.i64.wrap (m - q) = m - q := wrap_small _ (by omega) (by omega)
        obtain ⟨k0, k1, k2, k3, k4, k5, k6, k7, k8, rfl, rfl, rfl, rfl, rfl⟩ := hnode.forms
        clear hnode
        go_wp2_with fail
        refine HS.out.mono ?_
        rintro e w2 ⟨c, rfl, hc1, hc2, hg⟩
        have HG := Lib.hid hg
        have hws : IntKind.i64.wrap (q + c) = q + c := wrap_small _ (by omega) (by omega)
        clear hg e0 e1 e2 e3 e4 hbl c4 cl HS
        go_wp2_with fail
        exact ⟨⟨q + c, j + 1, rfl, by go_num, by omega, by omega, by omega, hbw.out.trans HG.out⟩, by simp [intOf]; omega⟩
      · have d2 : decide (q ≤ m) = false := decide_eq_false hqm
        go_wp2_with fail
        rw [← HQ.out]
        exact ⟨q, rfl, hq0, hq1, G1.out.trans hbw.out⟩
    · have d1 : decide ((j : Int) < (subs.length : Int)) = false := decide_eq_false (by omega)
      have d1' : decide (j < subs.length) = false := decide_eq_false (by omega)
      go_wp2_with fail
      rw [← HQ.out]
      exact ⟨q, rfl, hq0, hq1, G1.out.trans hbw.out⟩

set_option maxHeartbeats 4000000 in
set_option maxRecDepth 40000 in
theorem void_ok (n : Nd) (r : Int) (W : World) (v0 v1 v2 v3 v4 : Value) (hN : NodeAt W W.heap.size (some v0) (some v1) (some v2) (some v3) (some v4) n) :
    Calls Try.prog 3 #[.int .i64 r, .agg #[v0, v1, v2, v3, v4]] W fun e W' => e = .returned (.bool true) ∧ Grew W W' := by
  obtain ⟨w1, hw1⟩ : ∃ w1, W.alloc (.cells #[v0, v1, v2, v3, v4] 26) = w1 := ⟨_, rfl⟩
  have G1 := Lib.hid (show Grew W w1 from hw1 ▸ grew_alloc W _)
  have o1 : Owns w1 W.heap.size [v0, v1, v2, v3, v4] 26 := hw1 ▸ Owns.alloc W _ _
  have HO := Lib.hid o1
  have HC := Lib.hid (count22_ok n 400 w1 v0 v1 v2 v3 v4 (by omega) (by omega) ((hN.keep G1.out).mono G1.out.size))
  have c0 := o1.cell_at (i := 0) rfl
  have c1 := o1.cell_at (i := 1) rfl
  have c2 := o1.cell_at (i := 2) rfl
  have c3 := o1.cell_at (i := 3) rfl
  have c4 := o1.cell_at (i := 4) rfl
  have cl := o1.lt
  obtain ⟨k0, k1, k2, k3, k4, k5, k6, k7, k8, rfl, rfl, rfl, rfl, rfl⟩ := hN.forms
  clear o1 hN
  go_enter Try.func3, Try.ntmps3
  go_wp2_with fail
  refine HC.out.mono ?_
  rintro e w2 ⟨c, rfl, hc1, hc2, hg⟩
  have G2 := Lib.hid (G1.out.trans hg)
  have HO := Lib.hid (HO.out.keep hg)
  clear hg c0 c1 c2 c3 c4 cl hw1 HC G1
  by_cases hc : c = 401
  · have d1 : decide ((400 : Int) < c) = true := decide_eq_true (by omega)
    have HL := Lib.hid (lives22_ok w2)
    clear hc
    go_wp2_with fail
    refine HL.out.mono ?_
    rintro e w3 ⟨rfl, hg⟩
    have HG := Lib.hid hg
    clear hg
    go_wp2_with fail
    go_ret
    exact ⟨rfl, G2.out.trans HG.out⟩
  · have d1 : decide ((400 : Int) < c) = false := decide_eq_false (by omega)
    obtain ⟨w3, hw3⟩ : ∃ w3, w2.alloc (.cells #[.map none, .map none, .slice none 0 0] 32) = w3 := ⟨_, rfl⟩
    have G3 := Lib.hid (show Grew w2 w3 from hw3 ▸ grew_alloc w2 _)
    have o3 : Owns w3 w2.heap.size [.map none, .map none, .slice none 0 0] 32 := hw3 ▸ Owns.alloc w2 _ _
    obtain ⟨b, hb⟩ : ∃ b, w2.heap.size = b := ⟨_, rfl⟩
    rw [hb] at o3
    obtain ⟨w4, hw4⟩ : ∃ w4, w3.alloc (.cells #[.pointer none, .pointer (some ⟨b, 0, none⟩)] 33) = w4 := ⟨_, rfl⟩
    have G4 := Lib.hid (show Grew w3 w4 from hw4 ▸ grew_alloc w3 _)
    have o4 : Owns w4 w3.heap.size [.pointer none, .pointer (some ⟨b, 0, none⟩)] 33 := hw4 ▸ Owns.alloc w3 _ _
    obtain ⟨l, hl⟩ : ∃ l, w3.heap.size = l := ⟨_, rfl⟩
    rw [hl] at o4
    have HN := Lib.hid (o3.keep G4.out)
    have HLL := Lib.hid o4
    have HO := Lib.hid (HO.out.keep (G3.out.trans G4.out))
    have G5 := Lib.hid (G2.out.trans (G3.out.trans G4.out))
    clear o3 o4 hc G3 G4 G2
    go_wp2_with fail
    clear hw3 hw4 hb hl
    go_loopw [7] (fun i wr => ∃ j : Nat, i = .int .i64 j ∧ j ≤ 2 ∧ Hid (Grew w4 wr)) (fun i _ => 2 - (intOf i).toNat)
    case atStart => exact ⟨0, rfl, by omega, Grew.refl _⟩
    case round =>
      obtain ⟨j, rfl, hj, hg⟩ := hrel
      by_cases hlt : j < 2
      · obtain ⟨v, hv, hns⟩ : ∃ v, wr.cell? ⟨l, j, none⟩ = some v ∧ NoSets wr v := by
          have h1 := HLL.out.keep hg.out
          obtain rfl | rfl : j = 0 ∨ j = 1 := by omega
          · exact ⟨_, h1.cell_at (i := 0) rfl, .inl rfl⟩
          · exact ⟨_, h1.cell_at (i := 1) rfl, .inr ⟨b, _, _, rfl, HN.out.keep hg.out⟩⟩
        have hll := (HLL.out.keep hg.out).lt
        have hjl : (j : Int) < 2 := by omega
        have hj0 : (0 : Int) ≤ (j : Int) := by omega
        have ho := HO.out.keep hg.out
        have c0 := ho.cell_at (i := 0) rfl
        have c1 := ho.cell_at (i := 1) rfl
        have c2 := ho.cell_at (i := 2) rfl
        have c3 := ho.cell_at (i := 3) rfl
        have c4 := ho.cell_at (i := 4) rfl
        have cl := ho.lt
        have d2 : decide ((j : Int) < 2) = true := decide_eq_true (by omega)
        have HNS := Lib.hid hns
        have HBG := Lib.hid (fun w' (hw : Grew wr w') => Begin_no (HNS.out.keep hw) (.int .u8 k0) (.string k1) (.string k2) (.slice k3 k4 k5) (.slice k6 k7 k8))
        have HFI := Lib.hid (fun w' (hw : Grew wr w') => First_no (HNS.out.keep hw) r)
        have HFO := Lib.hid (fun w' (hw : Grew wr w') => Follow_no (HNS.out.keep hw) r)
        have HLO := Lib.hid (fun w' (hw : Grew wr w') => Low_no (HNS.out.keep hw) (.int .u8 k0) (.string k1) (.string k2) (.slice k3 k4 k5) (.slice k6 k7 k8))
        have HLL5 := Lib.hid (HLL.out.keep hg.out)
        have HO5 := Lib.hid (HO.out.keep hg.out)
        have HV5 := Lib.hid hv
        clear ho hns
        go_upto_region 8 with fail
        refine wp_region_hav_lit follows (by kernel_rfl) ?_
        iterate 5 (first
          | (refine HavG.skip (fun _ => rfl) ?_; simp only [Act.put, List.setIfInBounds_toArray, List.set_cons_zero, List.set_cons_succ])
          | (refine HavG.val (fun _ => rfl) ?_ (fun x w hw _ => ?_) ?_; rotate_left; (focus (have hc := hw.cells; clear hw; go_simp; first | done | rfl)); simp only [Act.put, List.setIfInBounds_toArray, List.set_cons_zero, List.set_cons_succ]))
        refine HavG.det (fun _ => rfl) (.tuple #[.slice none 0 0, .bool false]) (fun x w hw hd => ?_) ?_
        · clear hd
          have HW := Lib.hid hw
          clear hw
          go_simp
          refine (HBG.out _ HW.out).mono ?_
          rintro e w' ⟨rfl, hg⟩
          exact ⟨rfl, hg⟩
        simp only [Act.put, List.setIfInBounds_toArray, List.set_cons_zero, List.set_cons_succ]
        repeat (first
          | (refine HavG.skip (fun _ => rfl) ?_; simp only [Act.put, List.setIfInBounds_toArray, List.set_cons_zero, List.set_cons_succ])
          | (refine HavG.val (fun _ => rfl) ?_ (fun x w hw _ => ?_) ?_; rotate_left; (focus (have hc := hw.cells; clear hw; go_simp; first | done | rfl)); simp only [Act.put, List.setIfInBounds_toArray, List.set_cons_zero, List.set_cons_succ]))
        refine HavG.tail (by kernel_rfl) (by kernel_rfl) (fun x w hw _ => ?_)
        have HW := Lib.hid hw
        have hv := (hw.cells _ j hll).trans HV5.out
        have hll := (HLL5.out.keep hw).lt
        have ho := HO5.out.keep hw
        have c0 := ho.cell_at (i := 0) rfl
        have c1 := ho.cell_at (i := 1) rfl
        have c2 := ho.cell_at (i := 2) rfl
        have c3 := ho.cell_at (i := 3) rfl
        have c4 := ho.cell_at (i := 4) rfl
        have cl := ho.lt
        clear ho hw
        go_upto_region 9 with fail
        refine wp_region_hav_lit follows (by kernel_rfl) ?_
        iterate 5 (first
          | (refine HavG.skip (fun _ => rfl) ?_; simp only [Act.put, List.setIfInBounds_toArray, List.set_cons_zero, List.set_cons_succ])
          | (refine HavG.val (fun _ => rfl) ?_ (fun x w hw _ => ?_) ?_; rotate_left; (focus (have hc := hw.cells; clear hw; go_simp; first | done | rfl)); simp only [Act.put, List.setIfInBounds_toArray, List.set_cons_zero, List.set_cons_succ]))
        refine HavG.det (fun _ => rfl) (.slice none 0 0) (fun x w' hw hd => ?_) ?_
        · clear hd
          have HW2 := Lib.hid hw
          clear hw
          go_simp
          refine (HFI.out _ (HW.out.trans HW2.out)).mono ?_
          rintro e w6 ⟨rfl, rfl⟩
          exact ⟨rfl, Grew.refl _⟩
        simp only [Act.put, List.setIfInBounds_toArray, List.set_cons_zero, List.set_cons_succ]
        iterate 6 (first
          | (refine HavG.skip (fun _ => rfl) ?_; simp only [Act.put, List.setIfInBounds_toArray, List.set_cons_zero, List.set_cons_succ])
          | (refine HavG.val (fun _ => rfl) ?_ (fun x w hw _ => ?_) ?_; rotate_left; (focus (have hc := hw.cells; clear hw; go_simp; first | done | rfl)); simp only [Act.put, List.setIfInBounds_toArray, List.set_cons_zero, List.set_cons_succ]))
        refine HavG.det (fun _ => rfl) (.slice none 0 0) (fun x w' hw hd => ?_) ?_
        · clear hd
          have HW2 := Lib.hid hw
          clear hw
          go_simp
          refine (HFO.out _ (HW.out.trans HW2.out)).mono ?_
          rintro e w6 ⟨rfl, rfl⟩
          exact ⟨rfl, Grew.refl _⟩
        simp only [Act.put, List.setIfInBounds_toArray, List.set_cons_zero, List.set_cons_succ]
        iterate 15 (first
          | (refine HavG.skip (fun _ => rfl) ?_; simp only [Act.put, List.setIfInBounds_toArray, List.set_cons_zero, List.set_cons_succ])
          | (refine HavG.val (fun _ => rfl) ?_ (fun x w hw _ => ?_) ?_; rotate_left; (focus (have hc := hw.cells; clear hw; go_simp; first | done | rfl)); simp only [Act.put, List.setIfInBounds_toArray, List.set_cons_zero, List.set_cons_succ]))
        refine HavG.det (fun _ => rfl) (.int .i64 (-1)) (fun x w' hw hd => ?_) ?_
        · clear hd
          have HW2 := Lib.hid hw
          clear hw
          go_simp
          refine (HLO.out _ (HW.out.trans HW2.out)).mono ?_
          rintro e w6 ⟨rfl, hg6⟩
          exact ⟨rfl, hg6⟩
        simp only [Act.put, List.setIfInBounds_toArray, List.set_cons_zero, List.set_cons_succ]
        repeat (first
          | (refine HavG.skip (fun _ => rfl) ?_; simp only [Act.put, List.setIfInBounds_toArray, List.set_cons_zero, List.set_cons_succ])
          | (refine HavG.val (fun _ => rfl) ?_ (fun x w hw _ => ?_) ?_; rotate_left; (focus (have hc := hw.cells; clear hw; go_simp; first | done | rfl)); simp only [Act.put, List.setIfInBounds_toArray, List.set_cons_zero, List.set_cons_succ]))
        refine HavG.tail (by kernel_rfl) (by kernel_rfl) (fun x w hw _ => ?_)
        have HW9 := Lib.hid (HW.out.trans hw)
        clear hw hv hll c0 c1 c2 c3 c4 cl
        go_wp2_with fail
        exact ⟨⟨j + 1, by go_num, by omega, hg.out.trans HW9.out⟩, by simp [intOf]; omega⟩
      · obtain rfl : j = 2 := by omega
        have HL := Lib.hid (lives22_ok wr)
        go_wp2_with fail
        refine HL.out.mono ?_
        rintro e w9 ⟨rfl, hg9⟩
        have HG := Lib.hid hg9
        clear hg9
        go_wp2_with fail
        go_ret
        exact ⟨rfl, (G5.out.trans hg.out).trans HG.out⟩
end Go.Proofs.Ytldoinfbimelpaa
