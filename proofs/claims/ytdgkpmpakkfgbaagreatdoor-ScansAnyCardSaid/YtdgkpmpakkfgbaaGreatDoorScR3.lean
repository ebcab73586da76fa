/- The document's Decode. -/
import Derived.Test.YtdgkpmpakkfgbaaGreatDoorScR2
import Derived.Test.YtdgkpmpakkfgbaaGreatDoorScRf2
namespace Go.Proofs.YtdgkpmpakkfgbaaGreatDoor
open Go.RowKit

theorem partN_lt (k : Nat) (l : List UInt8) : ∀ i, i ≤ 4 → partN k l i < 67108864 := by
  have hb : ∀ j, (l.getD j 0).toNat < 256 := fun j => (l.getD j 0).toNat_lt
  have h1 : partN k l 1 < 256 := by
    have := hb 0
    rw [partN]
    split
    · exact Nat.lt_of_le_of_lt (Nat.mod_le _ _) this
    · exact this
  have h2 : partN k l 2 = 64 * partN k l 1 + (l.getD 1 0).toNat % 64 := rfl
  have h3 : partN k l 3 = 64 * partN k l 2 + (l.getD 2 0).toNat % 64 := rfl
  have h4 : partN k l 4 = 64 * partN k l 3 + (l.getD 3 0).toNat % 64 := rfl
  intro i hi
  obtain rfl | rfl | rfl | rfl | rfl : i = 0 ∨ i = 1 ∨ i = 2 ∨ i = 3 ∨ i = 4 := by omega
  · rw [partN]; omega
  all_goals omega

instance (u : List UInt8) : Decidable (badAt u) := by unfold badAt; infer_instance
/-- what the document's Decode answers at the beginning of u -/
def rdec (u : List UInt8) : Nat × Nat × Bool := if u = [] then (0, 0, false) else if badAt u then (0, 1, false) else ((Lib.decodeL u).1, (Lib.decodeL u).2, true)
def RDecIs (o : Nat × Nat × Bool) (W : World) (e : Ending) (W' : World) : Prop :=
  e = .returned (.tuple #[.int .i32 o.1, .int .i64 o.2.1, .bool o.2.2]) ∧ Below W.heap.size W W'

theorem wrap_small32 (n : Nat) (h : n < 2147483648) : IntKind.i32.wrap (n : Int) = n := by
  rw [IntKind.wrap_i32]
  omega
theorem wrap_smallN (n : Nat) (h : n < 9223372036854775808) : wrap64 (n : Int) = n := by
  have e : wrap64 (n : Int) = IntKind.i64.wrap (n : Int) := by rw [IntKind.wrap_i64, wrap64]
  rw [e]
  exact wrap_smallS _ (by omega) (by omega)

set_option maxHeartbeats 4000000 in
set_option maxRecDepth 20000 in
theorem refDecode_ok (s : ByteArray) (k : Nat) (W : World) (hk : k ≤ s.size) (hs : s.size ≤ 65536) : Calls Tryz.prog 34 #[.string s, .int .i64 k] W (RDecIs (rdec (s.data.toList.drop k)) W) := by
  have hlen : (s.data.toList.drop k).length = s.size - k := by rw [List.length_drop, ← Lib.size_eq]
  by_cases hne : s.data.toList.drop k = []
  · rw [hne] at hlen ⊢
    have : k = s.size := by simp at hlen; omega
    subst this
    rw [show rdec [] = (0, 0, false) from rfl]
    unfold RDecIs
    clear hne
    go_enter Tryz.func34, Tryz.ntmps34
    go_wp2_with fail
    go_ret3
    exact ⟨rfl, Below.refl _ _⟩
  have hlt : k < s.size := by
    have := List.length_pos_iff.2 hne
    omega
  obtain ⟨u, hu⟩ : ∃ u, s.data.toList.drop k = u := ⟨_, rfl⟩
  rw [hu] at hlen hne ⊢
  obtain ⟨o, ho⟩ : ∃ o, rdec u = o := ⟨_, rfl⟩
  rw [ho]
  have hv : ∀ j (h : k + j < s.size), s[k + j]'h = u.getD j 0 := fun j h => by
    rw [← hu, List.getD_eq_getElem?_getD, List.getElem?_drop]
    have h' : k + j < s.data.toList.length := by rw [← Lib.size_eq]; exact h
    rw [List.getElem?_eq_getElem h']
    rfl
  have HV := Lib.hid hv
  clear hv
  have HO := Lib.hid ho
  have HU := Lib.hid hu
  have HNE := Lib.hid hne
  clear ho hu hne
  unfold RDecIs
  have e0 : decide ((k : Int) < 0) = false := decide_eq_false (by omega)
  have e1 : decide (s.size ≤ k) = false := decide_eq_false (by omega)
  go_enter Tryz.func34, Tryz.ntmps34
  go_wp2_with fail
  try simp only [e0, e1, Bool.or_false]
  go_loopw [7] (fun v wr => ∃ i : Nat, v = .int .i64 i ∧ 1 ≤ i ∧ i ≤ 5 ∧ Hid (Below W.heap.size W wr) ∧ Hid (∀ j, 1 ≤ j → j < i → k + j ≤ s.size → bytesOf (numN j u : Int) ≠ u.take j)) (fun v _ => 5 - (intOf v).toNat)
  case atStart => exact ⟨1, rfl, by omega, by omega, Lib.hid (Below.refl _ _), Lib.hid (fun j h1 h2 => by omega)⟩
  case round =>
    obtain ⟨i, rfl, hi1, hi5, HB, HN⟩ := hrel
    by_cases hgo : i ≤ 4 ∧ k + i ≤ s.size
    · have hg1 := hgo.1
      have hg2 := hgo.2
      have e2 : decide ((k : Int) + i ≤ s.size) = true := decide_eq_true (by omega)
      have e3 : decide ((i : Int) ≤ 4) = true := decide_eq_true (by omega)
      go_wp2_with fail
      try simp only [e2, e3]
      go_loopw [8, 9] (fun vn vi w2 => ∃ j : Nat, vi = .int .i64 j ∧ j ≤ i ∧ vn = .int .i64 (partN i u j) ∧ w2 = wr) (fun _ vi _ => i - (intOf vi).toNat)
      case atStart => exact ⟨0, rfl, by omega, rfl, rfl⟩
      case round =>
        obtain ⟨j, rfl, hj, rfl, rfl⟩ := hrel
        by_cases hj2 : j < i
        · have hkj : k + j < s.size := by omega
          have hv := HV.out j hkj
          by_cases hj0 : j = 0
          · subst hj0
            simp only [Nat.add_zero] at hv
            obtain ⟨b, hb⟩ : ∃ b, u.getD 0 0 = b := ⟨_, rfl⟩
            rw [hb] at hv
            have HV2 := Lib.hid hv
            have HB0 := Lib.hid hb
            clear hb hv
            by_cases hi2 : 1 < i
            · have hx : partN i u 1 = b.toNat % 2 ^ (7 - i) := by rw [partN, if_pos hi2, HB0.out]
              have HX := Lib.hid hx
              have hw : wrap64 (2 ^ (7 - i)) = ((2 ^ (7 - i) : Nat) : Int) := by
                obtain rfl | rfl | rfl : i = 2 ∨ i = 3 ∨ i = 4 := by omega
                all_goals exact wrap_smallN _ (by decide)
              have hd0 : 0 < 2 ^ (7 - i) := Nat.two_pow_pos _
              obtain ⟨d, hd⟩ : ∃ d : Nat, 2 ^ (7 - i) = d := ⟨_, rfl⟩
              rw [hd] at hw hd0
              have HD := Lib.hid hd
              have hd1 : ¬ (d : Int) = 0 := by omega
              clear hx hd
              go_wp2_with fail
              refine ⟨⟨1, rfl, by omega, ?_, trivial⟩, by simp [intOf]; try omega⟩
              have hbt := b.toNat_lt
              rw [HV2.out, wrap_smallN _ (by omega), HX.out, HD.out]
              rfl
            · have hx : partN i u 1 = b.toNat := by rw [partN, if_neg hi2, HB0.out]
              have HX := Lib.hid hx
              clear hx
              go_wp2_with fail
              refine ⟨⟨1, rfl, by omega, ?_, trivial⟩, by simp [intOf]; try omega⟩
              have hbt := b.toNat_lt
              rw [HV2.out, wrap_smallN _ (by omega), HX.out]
          · have hp := partN_lt i u j (by omega)
            have hx : partN i u (j + 1) = 64 * partN i u j + (u.getD j 0).toNat % 64 := by
              obtain ⟨m, rfl⟩ : ∃ m, j = m + 1 := ⟨j - 1, by omega⟩
              rfl
            have hp2 := partN_lt i u (j + 1) (by omega)
            obtain ⟨b, hb⟩ : ∃ b, u.getD j 0 = b := ⟨_, rfl⟩
            rw [hb] at hv hx
            generalize partN i u j = x at *
            obtain ⟨y, hy⟩ : ∃ y, partN i u (j + 1) = y := ⟨_, rfl⟩
            rw [hy] at hx hp2
            have HX := Lib.hid hx
            have HY := Lib.hid hy
            have HV2 := Lib.hid hv
            have hji : ¬ (j : Int) = 0 := by omega
            clear hx hb hv hy hj0
            go_wp2_with fail
            refine ⟨⟨j + 1, by go_num, by omega, ?_, trivial⟩, by simp [intOf]; try omega⟩
            have hbt := b.toNat_lt
            rw [HV2.out, wrap_smallN b.toNat (by omega), HY.out, HX.out]
            rw [show (64 * (x : Int) + (b.toNat : Int).tmod 64) = ((64 * x + b.toNat % 64 : Nat) : Int) by push_cast; rfl]
            rw [wrap_smallN _ (by have := HX.out; omega)]
        · have hjK : j = i := by omega
          have hp := partN_lt i u j (by omega)
          have hE := fun w => refEncode_ok (partN i u j : Int) w
          have hx : partN i u j = numN i u := by rw [hjK]; rfl
          generalize partN i u j = x at *
          have HE := Lib.hid hE
          have HX := Lib.hid hx
          clear hE hx hjK
          obtain ⟨E, hE⟩ : ∃ E : ByteArray, E = ⟨(bytesOf (x : Int)).toArray⟩ := ⟨_, rfl⟩
          rw [← hE] at HE
          obtain ⟨S, hS⟩ : ∃ S : ByteArray, S = s.extract k (k + i) := ⟨_, rfl⟩
          have hsl : ∀ V : World, (Instr.slice 9 (.string s) (some (.int .i64 k)) (some (.int .i64 ((k : Int) + i))) none).run Tryz.prog V = .ok (.string S) V := fun V => by
            rw [run_slice_string V 9 s .i64 .i64 (k : Int) ((k : Int) + i) (by kernel_rfl) (by omega) (by omega) (by omega), hS]
            rfl
          have w32 : IntKind.i32.wrap (x : Int) = x := wrap_small32 x (by omega)
          have wki : IntKind.i64.wrap ((k : Int) + i) = (k : Int) + i := wrap_smallS _ (by omega) (by omega)
          have HSL := Lib.hid hsl
          have HE2 := Lib.hid hE
          have HS := Lib.hid hS
          clear hsl hE hS
          have hb1 : E.data.toList = bytesOf (x : Int) := by rw [HE2.out]
          have hb2 : S.data.toList = u.take i := by
            rw [HS.out, Lib.extract_data, HU.out, show k + i - k = i by omega]
          have hback : E = S → bytesOf (x : Int) = u.take i := fun e => by rw [← hb1, e, hb2]
          have hback2 : bytesOf (x : Int) = u.take i → E = S := fun e => ByteArray.ext (Array.toList_inj.1 (by rw [hb1, hb2]; exact e))
          clear hb1 hb2
          by_cases hes : E = S
          · have hq : (E.toList == S.toList) = true := by rw [hes]; exact beq_self_eq_true _
            have hh := ref_hit u i x hi1 (by omega) (hback hes)
            have ho : rdec u = (x, i, true) := by
              unfold rdec
              rw [if_neg HNE.out, if_neg hh.1, hh.2]
            have hoo : o = (x, i, true) := by rw [← HO.out, ho]
            clear ho hh hback hback2 hes
            have HOO := Lib.hid hoo
            clear hoo
            go_wp2_with fail
            refine wp_region_hav_lit follows (by kernel_rfl) ?_
            iterate 2 (first
              | (refine HavG.skip (fun _ => rfl) ?_; simp only [Act.put, List.setIfInBounds_toArray, List.set_cons_zero, List.set_cons_succ])
              | (refine HavG.val (fun _ => rfl) ?_ (fun x w hw _ => ?_) ?_; rotate_left; (focus (have hc := hw.cells; clear hw; go_simp; first | done | rfl)); simp only [Act.put, List.setIfInBounds_toArray, List.set_cons_zero, List.set_cons_succ]))
            refine HavG.det (fun _ => rfl) (.string E) (fun z w hw hd => ?_) ?_
            · clear hd
              have HW := Lib.hid hw
              clear hw
              go_simp
              refine (HE.out _).mono ?_
              rintro e w' ⟨rfl, hg⟩
              exact ⟨rfl, hg⟩
            simp only [Act.put, List.setIfInBounds_toArray, List.set_cons_zero, List.set_cons_succ]
            iterate 5 (first
              | (refine HavG.skip (fun _ => rfl) ?_; simp only [Act.put, List.setIfInBounds_toArray, List.set_cons_zero, List.set_cons_succ])
              | (refine HavG.val (fun _ => rfl) ?_ (fun x w hw _ => ?_) ?_; rotate_left; (focus (have hc := hw.cells; clear hw; go_simp; first | done | rfl)); simp only [Act.put, List.setIfInBounds_toArray, List.set_cons_zero, List.set_cons_succ]))
            refine HavG.val (fun _ => rfl) (.string S) (fun z w hw _ => ?_) ?_
            · clear hw
              go_simp
              rw [HSL.out]
              rfl
            simp only [Act.put, List.setIfInBounds_toArray, List.set_cons_zero, List.set_cons_succ]
            repeat (first
              | (refine HavG.skip (fun _ => rfl) ?_; simp only [Act.put, List.setIfInBounds_toArray, List.set_cons_zero, List.set_cons_succ])
              | (refine HavG.val (fun _ => rfl) ?_ (fun x w hw _ => ?_) ?_; rotate_left; (focus (have hc := hw.cells; clear hw; go_simp; first | done | rfl)); simp only [Act.put, List.setIfInBounds_toArray, List.set_cons_zero, List.set_cons_succ]))
            refine HavG.tail (by kernel_rfl) (by kernel_rfl) (fun x w hw _ => ?_)
            have HW := Lib.hid hw
            clear hw
            go_wp2_with fail
            go_ret3
            rw [HOO.out]
            exact ⟨rfl, HB.out.trans (HW.out.mono (by have := HB.out.size; omega))⟩
          · have hq : (E.toList == S.toList) = false := toList_ne E S hes
            have hnn : bytesOf ((numN i u : Nat) : Int) ≠ u.take i := fun e => hes (hback2 (by rw [HX.out]; exact e))
            have HNN := Lib.hid hnn
            clear hnn hback hback2 hes
            go_wp2_with fail
            refine wp_region_hav_lit follows (by kernel_rfl) ?_
            iterate 2 (first
              | (refine HavG.skip (fun _ => rfl) ?_; simp only [Act.put, List.setIfInBounds_toArray, List.set_cons_zero, List.set_cons_succ])
              | (refine HavG.val (fun _ => rfl) ?_ (fun x w hw _ => ?_) ?_; rotate_left; (focus (have hc := hw.cells; clear hw; go_simp; first | done | rfl)); simp only [Act.put, List.setIfInBounds_toArray, List.set_cons_zero, List.set_cons_succ]))
            refine HavG.det (fun _ => rfl) (.string E) (fun z w hw hd => ?_) ?_
            · clear hd
              have HW := Lib.hid hw
              clear hw
              go_simp
              refine (HE.out _).mono ?_
              rintro e w' ⟨rfl, hg⟩
              exact ⟨rfl, hg⟩
            simp only [Act.put, List.setIfInBounds_toArray, List.set_cons_zero, List.set_cons_succ]
            iterate 5 (first
              | (refine HavG.skip (fun _ => rfl) ?_; simp only [Act.put, List.setIfInBounds_toArray, List.set_cons_zero, List.set_cons_succ])
              | (refine HavG.val (fun _ => rfl) ?_ (fun x w hw _ => ?_) ?_; rotate_left; (focus (have hc := hw.cells; clear hw; go_simp; first | done | rfl)); simp only [Act.put, List.setIfInBounds_toArray, List.set_cons_zero, List.set_cons_succ]))
            refine HavG.val (fun _ => rfl) (.string S) (fun z w hw _ => ?_) ?_
            · clear hw
              go_simp
              rw [HSL.out]
              rfl
            simp only [Act.put, List.setIfInBounds_toArray, List.set_cons_zero, List.set_cons_succ]
            repeat (first
              | (refine HavG.skip (fun _ => rfl) ?_; simp only [Act.put, List.setIfInBounds_toArray, List.set_cons_zero, List.set_cons_succ])
              | (refine HavG.val (fun _ => rfl) ?_ (fun x w hw _ => ?_) ?_; rotate_left; (focus (have hc := hw.cells; clear hw; go_simp; first | done | rfl)); simp only [Act.put, List.setIfInBounds_toArray, List.set_cons_zero, List.set_cons_succ]))
            refine HavG.tail (by kernel_rfl) (by kernel_rfl) (fun x w hw _ => ?_)
            have HW := Lib.hid hw
            clear hw
            go_wp2_with fail
            refine ⟨⟨i + 1, by go_num, by omega, by omega, Lib.hid (HB.out.trans (HW.out.mono (by have := HB.out.size; omega))), Lib.hid (fun j h1 h2 h3 => ?_)⟩, by simp [intOf]; try omega⟩
            rcases Nat.lt_or_ge j i with h4 | h4
            · exact HN.out j h1 h4 h3
            · have : j = i := by omega
              subst this
              exact HNN.out
    · have hbad : badAt u := by
        apply Classical.byContradiction
        intro hb
        obtain ⟨m, h1, h2, h3, h4⟩ := ref_good u HNE.out hb
        exact HN.out m h1 (by omega) (by omega) h4
      have ho : rdec u = (0, 1, false) := by
        unfold rdec
        rw [if_neg HNE.out, if_pos hbad]
      have hoo : o = (0, 1, false) := by rw [← HO.out, ho]
      clear ho hbad
      subst hoo
      by_cases h5 : i ≤ 4
      · have h6 : ¬ ((k : Int) + i ≤ s.size) := by omega
        go_wp2_with fail
        go_ret3
        exact ⟨rfl, HB.out⟩
      · have h6 : ¬ ((i : Int) ≤ 4) := by omega
        go_wp2_with fail
        go_ret3
        exact ⟨rfl, HB.out⟩
end Go.Proofs.YtdgkpmpakkfgbaaGreatDoor
