/- The statements' own functions: are lists the same, are automata; Great. -/
import Derived.Test.YtogmlonhciiomaaDoorPrRun
namespace Go.Proofs.YtogmlonhciiomaaDoor
open Go.RowKit

set_option maxHeartbeats 1000000 in
set_option maxRecDepth 20000 in
theorem psameI_ok (l m : List Int) (W : World) (v u : Value) (hl : l.length ≤ 1000000) (hm : m.length ≤ 1000000) (hv : IntsV W W.heap.size v l) (hu : IntsV W W.heap.size u m) :
    Calls Tryd.prog 27 #[v, u] W fun e W' => e = .returned (.bool (decide (l = m))) ∧ Grew W W' := by
  obtain ⟨a, cap, rfl, _, hA⟩ := hv
  obtain ⟨b, cap', rfl, _, hB⟩ := hu
  go_enter Tryd.func27, Tryd.ntmps27
  by_cases hlen : l.length = m.length
  · have hne : ((l.length : Int) != (m.length : Int)) = false := by rw [hlen]; simp
    have HLN := Lib.hid hlen
    rw [hlen]
    rw [hlen] at hne
    clear hlen
    go_wp2
    go_loopw [5] (fun i wr => ∃ (j : Nat), i = .int .i64 j ∧ j ≤ m.length ∧ Hid (∀ i (h1 : i < l.length) (h2 : i < m.length), i < j → l[i] = m[i]) ∧ Hid (Grew W wr)) (fun i _ => m.length - (intOf i).toNat)
    case atStart => exact ⟨0, rfl, by omega, fun i _ _ h => absurd h (by omega), Grew.refl W⟩
    case round =>
      obtain ⟨j, rfl, hj, hf, hbw⟩ := hrel
      by_cases hlt : j < m.length
      · have hlt' : j < l.length := by rw [HLN.out]; exact hlt
        obtain ⟨b1, o1, rfl, hb1, hc1⟩ := hA j hlt'
        obtain ⟨b2, o2, rfl, hb2, hc2⟩ := hB j hlt
        have hz := hbw.out.size
        have d1 : wr.cell? ⟨b1, o1 + j, none⟩ = some (.int .i64 l[j]) := by rw [hbw.out.cells _ _ hb1]; exact hc1
        have d2 : wr.cell? ⟨b2, o2 + j, none⟩ = some (.int .i64 m[j]) := by rw [hbw.out.cells _ _ hb2]; exact hc2
        have l1 : b1 < wr.heap.size := by omega
        have l2 : b2 < wr.heap.size := by omega
        clear hA hB hc1 hc2 hb1 hb2 hz
        by_cases heq : l[j] = m[j]
        · have HEQ := Lib.hid heq
          rw [heq] at d1
          have hne2 : (m[j] != m[j]) = false := by simp
          clear heq
          go_wp2_with fail
          refine wp_region_hav_lit follows (by kernel_rfl) ?_
          repeat (first
            | (refine HavG.skip (fun _ => rfl) ?_; simp only [Act.put, List.setIfInBounds_toArray, List.set_cons_zero, List.set_cons_succ])
            | (refine HavG.val (fun _ => rfl) ?_ (fun x w hw _ => ?_) ?_; rotate_left; (focus (have hc := hw.cells; clear hw; go_simp; first | done | rfl)); simp only [Act.put, List.setIfInBounds_toArray, List.set_cons_zero, List.set_cons_succ]))
          refine HavG.tail (by kernel_rfl) (by kernel_rfl) (fun x w2 hw _ => ?_)
          have HW := Lib.hid hw
          clear hw
          go_wp2_with fail
          go_round
          case rel => exact ⟨j + 1, by go_num, by omega, fun i h1 h2 h3 => (by
            by_cases e : i = j
            · subst e; exact HEQ.out
            · exact hf.out i h1 h2 (by omega)), hbw.out.trans HW.out⟩
          case measure => simp [intOf]; omega
        · have hne2 : (l[j] != m[j]) = true := by simpa using heq
          have HEQ := Lib.hid heq
          clear heq
          go_wp2_with fail
          refine wp_region_hav_lit follows (by kernel_rfl) ?_
          repeat (first
            | (refine HavG.skip (fun _ => rfl) ?_; simp only [Act.put, List.setIfInBounds_toArray, List.set_cons_zero, List.set_cons_succ])
            | (refine HavG.val (fun _ => rfl) ?_ (fun x w hw _ => ?_) ?_; rotate_left; (focus (have hc := hw.cells; clear hw; go_simp; first | done | rfl)); simp only [Act.put, List.setIfInBounds_toArray, List.set_cons_zero, List.set_cons_succ]))
          refine HavG.tail (by kernel_rfl) (by kernel_rfl) (fun x w2 hw _ => ?_)
          have HW := Lib.hid hw
          clear hw
          go_wp2_with fail
          go_ret
          refine ⟨ret_bool ?_, hbw.out.trans HW.out⟩
          symm
          rw [decide_eq_false_iff_not]
          intro e
          subst e
          exact HEQ.out rfl
      · go_wp2_with fail
        go_ret
        refine ⟨ret_bool ?_, hbw.out⟩
        symm
        rw [decide_eq_true_eq]
        exact List.ext_getElem HLN.out fun i h1 h2 => hf.out i h1 h2 (by omega)
  · have hne : ((l.length : Int) != (m.length : Int)) = true := by simp; omega
    have HLN := Lib.hid hlen
    clear hlen
    go_wp2
    go_ret
    refine ⟨ret_bool ?_, Grew.refl W⟩
    symm
    rw [decide_eq_false_iff_not]
    exact fun e => HLN.out (by rw [e])
theorem psameNums_ok (l m : List Int) (W : World) (v u : Value) (hl : l.length ≤ 1000000) (hm : m.length ≤ 1000000) (hv : IntsV W W.heap.size v l) (hu : IntsV W W.heap.size u m) :
    Calls Tryd.prog 13 #[v, u] W fun e W' => e = .returned (.bool (decide (l = m))) ∧ Grew W W' := by
  have HS := Lib.hid (psameI_ok l m W v u hl hm hv hu)
  obtain ⟨a, cap, rfl, _, hA⟩ := hv
  obtain ⟨b, cap', rfl, _, hB⟩ := hu
  clear hA hB
  go_enter Tryd.func13, Tryd.ntmps13
  go_wp2_with (go_at_call 27; refine HS.out.mono ?_; rintro e w' ⟨rfl, hb⟩)
  go_ret
  exact ⟨rfl, hb⟩

/-! ### alike -/
def alikeB (r s : Int × List Int × Nat) : Bool := r.1 == s.1 && decide (r.2.1 = s.2.1) && (r.1 == 2 || r.2.2 == s.2.2)
theorem alikeB_iff (r s : Int × List Int × Nat) : alikeB r s = true ↔ Alike r s := by
  simp [alikeB, Alike, and_assoc]
theorem runR_len {a : Aut} (ha : a.Few) : ∀ (w : List Int) (s : Int) (n : Nat), (runR a s n w).2.1.length ≤ 400 := by
  have key : ∀ {s : Int} {x : Stt}, a.at? s = some x → x.alts.length ≤ 400 := by
    intro s x h
    unfold Aut.at? at h
    split at h
    · cases h
    · exact ha.alts x (List.mem_of_getElem? h)
  have kend : ∀ (s : Int) (n : Nat), (runEnd a s n).2.1.length ≤ 400 := by
    intro s n
    unfold runEnd
    cases h : a.at? s with
    | none => simp
    | some x =>
      simp only
      split
      · simp
      · exact key h
  intro w
  induction w with
  | nil =>
    intro s n
    rw [runR]
    cases h : a.at? s with
    | none => simp
    | some x =>
      simp only
      split
      · cases stepE x.edges (-1) with
        | none => simp
        | some e => exact kend _ _
      · exact key h
  | cons t r ih =>
    intro s n
    rw [runR]
    cases h : a.at? s with
    | none => simp
    | some x =>
      simp only
      split
      · split
        · simp
        · cases stepE x.edges t with
          | none => simp
          | some e => exact ih _ _
      · exact key h
set_option maxHeartbeats 2000000 in
set_option maxRecDepth 20000 in
theorem palike_ok (a b : Aut) (ha : a.Few) (hb : b.Few) (w : List Int) (hw : w.length ≤ 1000000) (W : World) (v u wv : Value) (hA : AutV .u8 W W.heap.size v a) (hB : AutV .u8 W W.heap.size u b) (hWV : IntsV W W.heap.size wv w) :
    Calls Tryd.prog 20 #[.agg #[v], .agg #[u], wv] W fun e W' => e = .returned (.bool (alikeB (runR a 0 0 w) (runR b 0 0 w))) ∧ Grew W W' := by
  have hA2 := hA
  have hB2 := hB
  have hW2 := hWV
  obtain ⟨a1, c1, rfl, _, _⟩ := hA
  obtain ⟨a2, c2, rfl, _, _⟩ := hB
  obtain ⟨a3, c3, rfl, _, _⟩ := hWV
  obtain ⟨w1, hw1⟩ : ∃ w1, W.alloc (.cells #[.slice a1 a.length c1] 24) = w1 := ⟨_, rfl⟩
  obtain ⟨w2, hw2⟩ : ∃ w2, w1.alloc (.cells #[.slice a2 b.length c2] 24) = w2 := ⟨_, rfl⟩
  have z1 : w1.heap.size = W.heap.size + 1 := by rw [← hw1]; simp
  have g1 : Grew W w1 := hw1 ▸ grew_alloc W _
  have g2 : Grew w1 w2 := hw2 ▸ grew_alloc w1 _
  have o1 : Owns w2 W.heap.size [.slice a1 a.length c1] 24 := (hw1 ▸ Owns.alloc W _ _ : Owns w1 W.heap.size [.slice a1 a.length c1] 24).keep g2
  have o2 : Owns w2 (W.heap.size + 1) [.slice a2 b.length c2] 24 := z1 ▸ hw2 ▸ Owns.alloc w1 _ _
  have hG := g1.trans g2
  have HR1 := Lib.hid (pRun_ok a ha w hw w2 _ _ (hA2.grew hG) (hW2.grew hG))
  have HR2 : Hid (∀ w', Grew w2 w' → Calls Tryd.prog 11 #[.agg #[.slice a2 b.length c2], .slice a3 w.length c3] w' (RunIs w'.heap.size (runR b 0 0 w) w')) :=
    Lib.hid fun w' hg => pRun_ok b hb w hw w' _ _ (hB2.grew (hG.trans hg)) (hW2.grew (hG.trans hg))
  have hl1 := runR_len ha w 0 0
  have hl2 := runR_len hb w 0 0
  have c1' := o1.cell_at (i := 0) rfl
  have HG := Lib.hid hG
  have HO2 := Lib.hid o2
  clear hA2 hB2 hW2 g1 g2 o1 o2 hG
  generalize hr1 : runR a 0 0 w = r1 at *
  generalize hr2 : runR b 0 0 w = r2 at *
  obtain ⟨k1, l1, n1⟩ := r1
  obtain ⟨k2, l2, n2⟩ := r2
  simp only at hl1 hl2
  clear hr1 hr2
  go_enter Tryd.func20, Tryd.ntmps20
  go_wp2_with fail
  refine HR1.out.mono ?_
  rintro e w3 ⟨v1, rfl, hv1, hb3⟩
  have d2 := (HO2.out.keep hb3).cell_at (i := 0) rfl
  have HRR := Lib.hid (HR2.out w3 hb3)
  have HV1 := Lib.hid hv1
  have HG3 := Lib.hid (HG.out.trans hb3)
  obtain ⟨xa, xm, xc, rfl⟩ := row_form hv1
  clear hv1 hb3 HR1 HR2 HO2 HG
  go_wp2_with fail
  refine HRR.out.mono ?_
  rintro e w4 ⟨v2, rfl, hv2, hb4⟩
  obtain ⟨ya, ym, yc, rfl⟩ := row_form hv2
  have HG4 := Lib.hid (HG3.out.trans hb4)
  have HS := Lib.hid (psameNums_ok l1 l2 w4 _ _ (by omega) (by omega) (ints_of_row (looseRow.keep HV1.out hb4)) (ints_of_row hv2))
  clear hv2 hb4 HRR HV1 HG3 d2
  obtain ⟨sb, hsb⟩ : ∃ sb, sb = decide (l1 = l2) := ⟨_, rfl⟩
  rw [← hsb] at HS
  have HSB := Lib.hid hsb
  clear hsb hl1 hl2
  by_cases hk : k1 = k2
  · subst hk
    cases sb
    · go_wp2_with fail
      refine HS.out.mono ?_
      rintro e w5 ⟨rfl, hb5⟩
      have HG5 := Lib.hid (HG4.out.trans hb5)
      clear hb5
      go_wp2_with fail
      go_ret
      exact ⟨ret_bool (by simp [alikeB, ← HSB.out]), HG5.out⟩
    · by_cases h2 : k1 = 2
      · subst h2
        go_wp2_with fail
        refine HS.out.mono ?_
        rintro e w5 ⟨rfl, hb5⟩
        have HG5 := Lib.hid (HG4.out.trans hb5)
        clear hb5
        go_wp2_with fail
        go_ret
        exact ⟨ret_bool (by simp [alikeB, ← HSB.out]), HG5.out⟩
      · have t2 : (k1 == 2) = false := by simpa using h2
        have H2 := Lib.hid h2
        clear h2
        go_wp2_with fail
        refine HS.out.mono ?_
        rintro e w5 ⟨rfl, hb5⟩
        have HG5 := Lib.hid (HG4.out.trans hb5)
        clear hb5
        go_wp2_with fail
        go_ret
        exact ⟨ret_bool (by rw [Bool.eq_iff_iff]; simp [alikeB, ← HSB.out]; have := H2.out; omega), HG5.out⟩
  · have t1 : (k1 == k2) = false := by simpa using hk
    have HK := Lib.hid hk
    clear hk
    go_wp2_with fail
    go_ret
    exact ⟨ret_bool (by simp [alikeB, HK.out]), HG4.out⟩

/-! ### Great -/
def wt (s : Stt) : Nat := s.edges.length + s.alts.length
def sumTo (a : Aut) (n : Nat) : Nat := ((a.take n).map wt).sum
theorem sumTo_succ (a : Aut) (n : Nat) (h : n < a.length) : sumTo a (n + 1) = sumTo a n + wt a[n] := by
  unfold sumTo
  rw [List.take_succ_eq_append_getElem h, List.map_append, List.sum_append]
  simp
theorem sumTo_le (a : Aut) {n m : Nat} (h : n ≤ m) : sumTo a n ≤ sumTo a m := by
  obtain ⟨d, rfl⟩ := Nat.exists_eq_add_of_le h
  induction d with
  | zero => exact Nat.le_refl _
  | succ d ih =>
    refine Nat.le_trans (ih (by omega)) ?_
    unfold sumTo
    rw [show n + (d + 1) = n + d + 1 by omega, List.take_add_one, List.map_append, List.sum_append]
    omega
/-- all that a holds -/
def Aut.Small (a : Aut) : Prop := a.length ≤ 60 ∧ a.length + sumTo a a.length ≤ 400
theorem Aut.Small.few {a : Aut} (h : a.Small) : a.Few := by
  have key : ∀ s ∈ a, wt s ≤ 400 := by
    intro s hs
    obtain ⟨i, hi, rfl⟩ := List.mem_iff_getElem.1 hs
    have := sumTo_succ a i hi
    have := sumTo_le a (n := i + 1) (m := a.length) (by omega)
    have := h.2
    omega
  exact ⟨by have := h.1; omega, fun s hs => by have := key s hs; unfold wt at this; omega, fun s hs => by have := key s hs; unfold wt at this; omega⟩
theorem wrap_small (x : Int) (h0 : -9223372036854775808 ≤ x) (h1 : x ≤ 9223372036854775807) : IntKind.i64.wrap x = x := by rw [IntKind.wrap_i64]; omega
/-- what Great gives: if it says no, a is small -/
def GreatIs (a : Aut) (W : World) (e : Ending) (W' : World) : Prop := ∃ b : Bool, e = .returned (.bool b) ∧ (b = false → a.Small) ∧ Grew W W'

set_option maxHeartbeats 2000000 in
set_option maxRecDepth 20000 in
theorem pgreat_ok (a : Aut) (hal : a.length ≤ reachN) (hae : ∀ s ∈ a, s.edges.length ≤ reachN ∧ s.alts.length ≤ reachN) (W : World) (v : Value) (hA : AutV .u8 W W.heap.size v a) : Calls Tryd.prog 7 #[.agg #[v]] W (GreatIs a W) := by
  obtain ⟨ad, cap, rfl, hcap, hA⟩ := hA
  unfold reachN at hal
  obtain ⟨w1, hw1⟩ : ∃ w1, W.alloc (.cells #[.slice ad a.length cap] 24) = w1 := ⟨_, rfl⟩
  have g1 : Grew W w1 := hw1 ▸ grew_alloc W _
  have o1 : Owns w1 W.heap.size [.slice ad a.length cap] 24 := hw1 ▸ Owns.alloc W _ _
  have q0 := o1.cell_at (i := 0) rfl
  have HG := Lib.hid g1
  have HO := Lib.hid o1
  have HA := Lib.hid hA
  clear g1 o1 hA
  go_enter Tryd.func7, Tryd.ntmps7
  go_wp2_with fail
  clear hw1 q0
  go_loopw [3, 4] (fun m i wr => ∃ (n : Nat), i = .int .i64 n ∧ m = .int .i64 ((a.length + sumTo a n : Nat) : Int) ∧ n ≤ a.length ∧ (n = 0 ∨ a.length + sumTo a (n - 1) ≤ 400) ∧ Hid (Grew w1 wr)) (fun _ i _ => a.length - (intOf i).toNat)
  case atStart => exact ⟨0, rfl, by simp [sumTo], by omega, .inl rfl, Grew.refl _⟩
  case round =>
    obtain ⟨n, rfl, rfl, hn, hb, HGR⟩ := hrel
    have q0 := (HO.out.keep HGR.out).cell_at (i := 0) rfl
    have lA := (HO.out.keep HGR.out).lt
    have HGW := Lib.hid (HG.out.trans HGR.out)
    by_cases hlt : n < a.length
    · by_cases h4 : a.length + sumTo a n ≤ 400
      · have hx := sumTo_succ a n hlt
        obtain ⟨b, off, v0, v1, v2, rfl, hbl, e0, e1, e2, hs⟩ := HA.out n hlt
        obtain ⟨rfl, ⟨a1, n1, rfl, _, _⟩, a2, c2, rfl, _, _⟩ := hs
        have r1 : wr.cell? ⟨b, off + n * 3 + 1, none⟩ = some (.slice a1 a[n].alts.length n1) := by rw [HGW.out.cells _ _ hbl]; exact e1
        have r2 : wr.cell? ⟨b, off + n * 3 + 2, none⟩ = some (.slice a2 a[n].edges.length c2) := by rw [HGW.out.cells _ _ hbl]; exact e2
        have lb : b < wr.heap.size := by have := HGW.out.size; omega
        obtain ⟨s1, s2⟩ := hae _ (List.getElem_mem hlt)
        unfold reachN at s1 s2
        unfold wt at hx
        have t4 : decide (((a.length + sumTo a n : Nat) : Int) ≤ 400) = true := by simp; omega
        generalize a[n].edges.length = el at *
        generalize a[n].alts.length = al at *
        obtain ⟨sn, hsn⟩ : ∃ sn, sumTo a n = sn := ⟨_, rfl⟩
        have HSN := Lib.hid hsn
        rw [hsn] at hx h4 t4 ⊢
        have HX := Lib.hid hx
        clear hx hsn e0 e1 e2
        go_wp2_with fail
        refine wp_region_hav_lit follows (by kernel_rfl) ?_
        repeat (first
          | (refine HavG.skip (fun _ => rfl) ?_; simp only [Act.put, List.setIfInBounds_toArray, List.set_cons_zero, List.set_cons_succ])
          | (refine HavG.val (fun _ => rfl) ?_ (fun x w hw _ => ?_) ?_; rotate_left; (focus (have hc := hw.cells; clear hw; go_simp; first | done | rfl)); simp only [Act.put, List.setIfInBounds_toArray, List.set_cons_zero, List.set_cons_succ]))
        refine HavG.tail (by kernel_rfl) (by kernel_rfl) (fun x w2 hw _ => ?_)
        have HW := Lib.hid hw
        clear hw
        go_wp2_with fail
        refine ⟨⟨n + 1, by go_num, ?_, by omega, .inr (by simpa [HSN.out] using h4), HGR.out.trans HW.out⟩, by simp [intOf]; omega⟩
        rw [HX.out, wrap_small ((a.length : Int) + (sn : Int) + (el : Int)) (by omega) (by omega), wrap_small _ (by omega) (by omega)]
        congr 1
        omega
      · have t4 : decide ((a.length : Int) + (sumTo a n : Int) ≤ 400) = false := by simp; omega
        have t5 : decide ((400 : Int) < (a.length : Int) + (sumTo a n : Int)) = true := by simp; omega
        clear h4
        go_wp2_with fail
        go_ret
        exact ⟨true, rfl, fun h => (by cases h), HGW.out⟩
    · have hne : n = a.length := by omega
      subst hne
      by_cases h4 : 400 < a.length + sumTo a a.length
      · have t5 : decide ((400 : Int) < (a.length : Int) + (sumTo a a.length : Int)) = true := by simp; omega
        clear h4
        go_wp2_with fail
        go_ret
        exact ⟨true, rfl, fun h => (by cases h), HGW.out⟩
      · have t5 : decide ((400 : Int) < (a.length : Int) + (sumTo a a.length : Int)) = false := by simp; omega
        have H4 := Lib.hid h4
        clear h4
        go_wp2_with fail
        go_ret
        exact ⟨_, rfl, fun h => ⟨by simp only [decide_eq_false_iff_not] at h; omega, by have := H4.out; omega⟩, HGW.out⟩
end Go.Proofs.YtogmlonhciiomaaDoor
