/- The document's Apart. -/
import Derived.Test.YtogmlonhciiomaaDoorPrApMem
import Derived.Deep.CutBlock
import Derived.Deep.DeepCutAuto
import Derived.Deep.LoopGhost
namespace Go.Proofs.YtogmlonhciiomaaDoor
open Go.RowKit

/-- what Apart gives -/
def ApartIs (a : Aut) (T : Int) (W : World) (e : Ending) (W' : World) : Prop :=
  ∃ (bv : Value) (X : Nat) (f : Nat → Nat) (g : Nat → Nat → Bool), e = .returned (.slice (some ⟨X, 0, none⟩) (a.length + 1) (a.length + 1)) ∧ MAt W W' bv X a.length (a.length + 1) f g ∧ (∀ i k, i ≤ a.length → k ≤ a.length → (g i k = true ↔ Apt a T (optN a.length i) (optN a.length k)))
theorem oi_ix (n : Nat) (o : Option Nat) : (oi o = -1 ∧ ixN n o = n) ∨ oi o = (ixN n o : Int) := by
  cases o with
  | none => exact .inl ⟨rfl, rfl⟩
  | some j => exact .inr rfl
/-- the matrix as it is made: row J, c of its cells -/
def MakeAt (a : Aut) (J c : Nat) (g : Nat → Nat → Bool) : Prop := (∀ s, s < J → ∀ k, k ≤ a.length → g s k = a.differ (optN a.length s) (optN a.length k)) ∧ ∀ k, k < c → g J k = a.differ (optN a.length J) (optN a.length k)
theorem MakeAt.next {a : Aut} {J c : Nat} {g : Nat → Nat → Bool} (h : MakeAt a J c g) : MakeAt a J (c + 1) (updG g J c (a.differ (optN a.length J) (optN a.length c))) := by
  refine ⟨fun s hs k hk => ?_, fun k hk => ?_⟩
  · rw [updG_ne (by omega)]; exact h.1 s hs k hk
  · by_cases e : k = c
    · subst e; rw [updG_same]
    · rw [updG_ne (by omega)]; exact h.2 k (by omega)
theorem MakeAt.row {a : Aut} {J : Nat} {g : Nat → Nat → Bool} (h : MakeAt a J (a.length + 1) g) : MakeAt a (J + 1) 0 g := by
  refine ⟨fun s hs k hk => ?_, fun k hk => absurd hk (by omega)⟩
  by_cases e : s = J
  · subst e; exact h.2 k (by omega)
  · exact h.1 s (by omega) k hk

set_option maxHeartbeats 8000000 in
set_option maxRecDepth 40000 in
theorem rApart_ok (a : Aut) (ha : a.Few) (ok : Okay a) (T : Int) (hT : T ≤ 1000000) (W : World) (v : Value) (hA : AutV .i64 W W.heap.size v a) : Calls Tryd.prog 36 #[.agg #[v], .int .i64 T] W (ApartIs a T W) := by
  have hA2 := hA
  obtain ⟨ad, cap, rfl, _, hA⟩ := hA
  have hn := ha.states
  obtain ⟨w1, hw1⟩ : ∃ w1, W.alloc (.cells #[.slice ad a.length cap] 31) = w1 := ⟨_, rfl⟩
  have g1 : Grew W w1 := hw1 ▸ grew_alloc W _
  have o1 : Owns w1 W.heap.size [.slice ad a.length cap] 31 := hw1 ▸ Owns.alloc W _ _
  obtain ⟨w2, hw2⟩ : ∃ w2, w1.alloc (.cells (List.replicate (a.length + 1) (.slice none 0 0)).toArray 72) = w2 := ⟨_, rfl⟩
  have g2 : Grew w1 w2 := hw2 ▸ grew_alloc w1 _
  have o2 : Owns w2 w1.heap.size (List.replicate (a.length + 1) (.slice none 0 0)) 72 := hw2 ▸ Owns.alloc w1 _ _
  have hx : W.heap.size < w1.heap.size := o1.lt
  have q0 := o1.cell_at (i := 0) rfl
  have hmk := pmake_rows (a.length + 1) (by omega) w1
  rw [hw2] at hmk
  have HM0 := Lib.hid (MAt.start (g1.trans g2) (o1.keep g2) o2 hx)
  have HDF : Hid (∀ u s t, Grew W u → OIn a.length s → OIn a.length t → Calls Tryd.prog 49 #[.agg #[.slice ad a.length cap], .int .i64 (oi s), .int .i64 (oi t)] u fun e W' => e = .returned (.bool (a.differ s t)) ∧ Grew u W') := Lib.hid fun u s t hg hs ht => rdiffer_ok a ha ok s t hs ht u _ (hA2.grew hg)
  have HAF : Hid (∀ u s tok, Grew W u → OIn a.length s → Calls Tryd.prog 50 #[.agg #[.slice ad a.length cap], .int .i64 (oi s), .int .i64 tok] u fun e W' => e = .returned (.int .i64 (oi (a.after s tok))) ∧ Grew u W') := Lib.hid fun u s tok hg hs => rafter_ok a ha ok s hs tok u _ (hA2.grew hg)
  have HOK := Lib.hid ok
  have HMB : Hid (∀ u : World, (Instr.makeSlice 72 (.int .i64 ((a.length : Int) + 1)) (.int .i64 ((a.length : Int) + 1))).run Tryd.prog u = .ok (.slice (some ⟨u.heap.size, 0, none⟩) (a.length + 1) (a.length + 1)) (u.alloc (.cells (List.replicate (a.length + 1) (.bool false)).toArray 4))) := Lib.hid fun u => pmake_bools (a.length + 1) (by omega) u
  obtain ⟨n, hN⟩ : ∃ n, a.length = n := ⟨_, rfl⟩
  have HN := Lib.hid hN
  have hadd : IntKind.i64.wrap ((n : Int) + 1) = (n : Int) + 1 := wrap_small _ (by omega) (by omega)
  have hmk1 : (Instr.makeSlice 79 (.int .i64 ((n : Int) + 1)) (.int .i64 ((n : Int) + 1))).run Tryd.prog w1 = .ok (.slice (some ⟨w1.heap.size, 0, none⟩) (n + 1) (n + 1)) w2 := by rw [← hN]; exact hmk
  obtain ⟨X, hX⟩ : ∃ X, w1.heap.size = X := ⟨_, rfl⟩
  rw [hN] at q0 hw1 hn HM0 HMB
  rw [hX] at HM0 hmk1
  rw [hN]
  clear g1 g2 o1 o2 hA hA2 ok hx hmk hw2 hN ha
  go_enter Tryd.func36, Tryd.ntmps36
  go_wp2_with fail
  clear hw1 q0 hmk1 hX
  go_loopw [7] (fun iv wr => ∃ (J : Nat) (f : Nat → Nat) (g : Nat → Nat → Bool), iv = .int .i64 J ∧ J ≤ n + 1 ∧ Hid (MAt W wr (.slice ad n cap) X n J f g) ∧ Hid (MakeAt a J 0 g)) (fun iv _ => n + 1 - (intOf iv).toNat)
  case atStart => exact ⟨0, _, _, rfl, by omega, HM0.out, ⟨fun _ h => absurd h (by omega), fun _ h => absurd h (by omega)⟩⟩
  case round =>
    clear HM0
    obtain ⟨J, f, g, rfl, hJ, HM, HK⟩ := hrel
    by_cases hJn : J ≤ n
    · have d1 : decide ((J : Int) ≤ (n : Int)) = true := decide_eq_true (by omega)
      have hmk := HMB.out wr
      obtain ⟨w3, hw3⟩ : ∃ w3, wr.alloc (.cells (List.replicate (n + 1) (.bool false)).toArray 4) = w3 := ⟨_, rfl⟩
      have g3 : Grew wr w3 := hw3 ▸ grew_alloc wr _
      have o3 : Owns w3 wr.heap.size (List.replicate (n + 1) (.bool false)) 4 := hw3 ▸ Owns.alloc wr _ _
      rw [hw3] at hmk
      rw [bcells_false] at o3
      obtain ⟨tv, htv⟩ := mrows_get f n J J hJn
      have t0 := (HM.out.tab.keep g3).cell_at htv
      have tf := (HM.out.tab.keep g3).free J
      have tl := (HM.out.tab.keep g3).lt
      have HMN := Lib.hid (HM.out.next g3 o3 (Nat.le_refl _))
      obtain ⟨t, ht⟩ : ∃ t, wr.heap.size = t := ⟨_, rfl⟩
      rw [ht] at HMN hmk
      have HK2 : Hid (MakeAt a J 0 (fun s => if s = J then (fun _ => false) else g s)) := Lib.hid ⟨fun s hs k hk => by
        have : ¬ s = J := by omega
        simp only [this, if_false]
        exact HK.out.1 s hs k hk, fun _ h => absurd h (by omega)⟩
      have hJi : (J : Int) < (n : Int) + 1 := by omega
      clear g3 o3 htv HM HK ht
      go_upto_region 7 with fail
      clear t0 tf tl hmk hw3 hJi d1
      generalize (w3.setCell ⟨X, J, none⟩ (.slice (some ⟨t, 0, none⟩) (n + 1) (n + 1))) = w4 at *
      generalize (fun s => if s = J then t else f s) = F at *
      generalize (fun s => if s = J then (fun _ => false) else g s) = G0 at *
      go_wp2_with fail
      go_loopw [8] (fun kv wr => ∃ (c : Nat) (g : Nat → Nat → Bool), kv = .int .i64 c ∧ c ≤ n + 1 ∧ Hid (MAt W wr (.slice ad n cap) X n (J + 1) F g) ∧ Hid (MakeAt a J c g)) (fun kv _ => n + 1 - (intOf kv).toNat)
      case atStart => exact ⟨0, _, rfl, by omega, HMN.out, HK2.out⟩
      case round =>
        clear HMN HK2
        obtain ⟨c, g, rfl, hc, HM, HK⟩ := hrel
        by_cases hcn : c ≤ n
        · have d1 : decide ((c : Int) ≤ (n : Int)) = true := decide_eq_true (by omega)
          obtain ⟨zs, hzs⟩ : ∃ zs, oi (optN n J) = zs := ⟨_, rfl⟩
          obtain ⟨zt, hzt⟩ : ∃ zt, oi (optN n c) = zt := ⟨_, rfl⟩
          have HZS := Lib.hid (hzs.symm.trans oi_optN)
          have HZT := Lib.hid (hzt.symm.trans oi_optN)
          have HDD : Hid (∀ u, Grew wr u → Calls Tryd.prog 49 #[.agg #[.slice ad n cap], .int .i64 zs, .int .i64 zt] u fun e W' => e = .returned (.bool (a.differ (optN n J) (optN n c))) ∧ Grew u W') := Lib.hid fun u hg => by
            have := HDF.out u (optN n J) (optN n c) (HM.out.low.trans hg) (by rw [HN.out]; exact optN_in hJn) (by rw [HN.out]; exact optN_in hcn)
            rw [hzs, hzt, HN.out] at this
            exact this
          have HKN := Lib.hid HK.out.next
          rw [HN.out] at HKN
          generalize a.differ (optN n J) (optN n c) = d at *
          clear hzs hzt
          go_upto_if 43 with fail
          go_cut [9] (fun s9 wx => s9 = .int .i64 zs ∧ wx = wr)
          case first =>
            by_cases e : J = n
            · have h1 : ((J : Int) == (n : Int)) = true := beq_iff_eq.2 (by omega)
              have HE := Lib.hid (show zs = -1 by rw [HZS.out, if_pos e])
              clear e
              go_wp2_with fail
              go_meet
              exact ⟨by rw [HE.out], rfl⟩
            · have h1 : ((J : Int) == (n : Int)) = false := beq_eq_false_iff_ne.2 (by omega)
              have HE := Lib.hid (show zs = J by rw [HZS.out, if_neg e])
              clear e
              go_wp2_with fail
              go_meet
              exact ⟨by rw [HE.out], rfl⟩
          case rest =>
            obtain ⟨rfl, rfl⟩ := hcut
            obtain ⟨wq, rfl⟩ : ∃ z, z = wc := ⟨_, rfl⟩
            go_upto_if 46 with fail
            go_cut [10] (fun s10 wx => s10 = .int .i64 zt ∧ wx = wq)
            case first =>
              by_cases e : c = n
              · have h1 : ((c : Int) == (n : Int)) = true := beq_iff_eq.2 (by omega)
                have HE := Lib.hid (show zt = -1 by rw [HZT.out, if_pos e])
                clear e
                go_wp2_with fail
                go_meet
                exact ⟨by rw [HE.out], rfl⟩
              · have h1 : ((c : Int) == (n : Int)) = false := beq_eq_false_iff_ne.2 (by omega)
                have HE := Lib.hid (show zt = c by rw [HZT.out, if_neg e])
                clear e
                go_wp2_with fail
                go_meet
                exact ⟨by rw [HE.out], rfl⟩
            case rest =>
              obtain ⟨rfl, rfl⟩ := hcut
              obtain ⟨wo, rfl⟩ : ∃ z, z = wc := ⟨_, rfl⟩
              have r0 := HM.out.row (s := J) (by omega) hJn
              have rl := HM.out.tab.lt
              have b0 := HM.out.box.cell_at (i := 0) rfl
              have bl := HM.out.box.lt
              have hJi : (J : Int) < (n : Int) + 1 := by omega
              have hci : (c : Int) < (n : Int) + 1 := by omega
              go_upto_region 16 with fail
              refine wp_region_hav_lit follows (by kernel_rfl) ?_
              repeat (first
                | (refine HavG.skip (fun _ => rfl) ?_; simp only [Act.put, List.setIfInBounds_toArray, List.set_cons_zero, List.set_cons_succ])
                | (refine HavG.val (fun _ => rfl) ?_ (fun x w hw _ => ?_) ?_; rotate_left; (focus (have hc := hw.cells; clear hw; go_simp; first | done | rfl)); simp only [Act.put, List.setIfInBounds_toArray, List.set_cons_zero, List.set_cons_succ]))
              refine HavG.det (fun _ => rfl) (.bool d) (fun x w hw _ => ?_) ?_
              · have HW := Lib.hid hw
                clear hw
                go_simp
                refine (HDD.out _ HW.out).mono ?_
                rintro e w' ⟨rfl, hb⟩
                exact ⟨rfl, hb⟩
              simp only [Act.put, List.setIfInBounds_toArray, List.set_cons_zero, List.set_cons_succ]
              repeat (first
                | (refine HavG.skip (fun _ => rfl) ?_; simp only [Act.put, List.setIfInBounds_toArray, List.set_cons_zero, List.set_cons_succ])
                | (refine HavG.val (fun _ => rfl) ?_ (fun x w hw _ => ?_) ?_; rotate_left; (focus (have hc := hw.cells; clear hw; go_simp; first | done | rfl)); simp only [Act.put, List.setIfInBounds_toArray, List.set_cons_zero, List.set_cons_succ]))
              refine HavG.tail (by kernel_rfl) (by kernel_rfl) (fun x wz hw _ => ?_)
              have HW : Hid (Grew wo wz) := Lib.hid hw
              clear hw r0 rl b0 bl
              have c0 := (HM.out.keep HW.out).cell (s := J) (i := c) (by omega) hcn
              have cf := ((HM.out.keep HW.out).cells J (by omega)).free c
              have cl := ((HM.out.keep HW.out).cells J (by omega)).lt
              have HMP := Lib.hid ((HM.out.keep HW.out).put (s := J) (i := c) (by omega) d)
              go_wp2_with fail
              exact ⟨⟨c + 1, _, by go_num, by omega, HMP.out, HKN.out⟩, by simp [intOf]; omega⟩
        · obtain rfl : c = n + 1 := by omega
          have d1 : decide (((n + 1 : Nat) : Int) ≤ (n : Int)) = false := decide_eq_false (by omega)
          go_wp2_with fail
          exact ⟨⟨J + 1, _, _, by go_num, by omega, HM.out, (by have := HK.out; rw [← HN.out] at this; exact this.row)⟩, by simp [intOf]; omega⟩
    · have hJe : J = n + 1 := by omega
      have d1 : decide ((J : Int) ≤ (n : Int)) = false := decide_eq_false (by omega)
      have HS : Hid (ApS a T g) := Lib.hid (ApS.start fun i k hi hk => HK.out.1 i (by have := HN.out; omega) k hk)
      have hm := HM.out
      rw [hJe] at hm
      have HM := Lib.hid hm
      clear HK hm hJe
      obtain ⟨g0, hg0⟩ : ∃ g0, g = g0 := ⟨_, rfl⟩
      subst hg0
      go_wp2_with fail
      clear d1
      go_loopg [11] (2 * cntN n g + 1) (fun gk x11 wr => ∃ (g : Nat → Nat → Bool) (c : Bool), x11 = .bool c ∧ Hid (MAt W wr (.slice ad n cap) X n (n + 1) f g) ∧ Hid (ApS a T g) ∧ Hid (c = false → ApTo a T g (n + 1) 0 0) ∧ Hid (2 * cntN n g + (if c = true then 1 else 0) = gk))
      case atStart => exact ⟨g, true, rfl, HM.out, HS.out, fun h => by (cases h), rfl⟩
      case round =>
        clear HM HS
        obtain ⟨g1, c1, rfl, HM1, HS1, HC1, HK1⟩ := hrel
        cases c1 with
        | false =>
          have HFULL : Hid (∀ i k, i ≤ a.length → k ≤ a.length → (g1 i k = true ↔ Apt a T (optN a.length i) (optN a.length k))) := Lib.hid (HS1.out.full HOK.out (by have := HC1.out rfl; rw [HN.out]; exact this))
          go_wp2_with fail
          go_ret
          refine ⟨.slice ad n cap, X, f, g1, by rw [HN.out]; rfl, ?_, HFULL.out⟩
          rw [HN.out]
          exact HM1.out
        | true =>
          obtain ⟨K0, hK0⟩ : ∃ K0, cntN n g1 = K0 := ⟨_, rfl⟩
          have HK0 := Lib.hid (show 2 * K0 + 1 = gk by rw [← hK0]; exact HK1.out)
          have HC0 := Lib.hid (show cntN n g1 + (if false = true then 1 else 0) ≤ K0 by rw [← hK0]; simp)
          clear HC1 HK1 hK0
          go_wp2_with fail
          go_loopw [11, 12] (fun x11 x12 wr => ∃ (i : Nat) (g : Nat → Nat → Bool) (c : Bool), x11 = .bool c ∧ x12 = .int .i64 i ∧ i ≤ n + 1 ∧ Hid (MAt W wr (.slice ad n cap) X n (n + 1) f g) ∧ Hid (ApS a T g) ∧ Hid (c = false → ApTo a T g i 0 0) ∧ Hid (cntN n g + (if c = true then 1 else 0) ≤ K0)) (fun _ x12 _ => n + 1 - (intOf x12).toNat)
          case atStart => exact ⟨0, g1, false, rfl, rfl, by omega, HM1.out, HS1.out, fun _ => ApTo.zero, HC0.out⟩
          case round =>
            clear HM1 HS1 HC0
            obtain ⟨i, g, c, rfl, rfl, hi, HM, HS, HC, HK⟩ := hrel
            by_cases hin : i ≤ n
            · have d1 : decide ((i : Int) ≤ (n : Int)) = true := decide_eq_true (by omega)
              go_wp2_with fail
              clear d1
              go_loopw [11, 13] (fun x11 x13 wr => ∃ (k : Nat) (g : Nat → Nat → Bool) (c : Bool), x11 = .bool c ∧ x13 = .int .i64 k ∧ k ≤ n + 1 ∧ Hid (MAt W wr (.slice ad n cap) X n (n + 1) f g) ∧ Hid (ApS a T g) ∧ Hid (c = false → ApTo a T g i k 0) ∧ Hid (cntN n g + (if c = true then 1 else 0) ≤ K0)) (fun _ x13 _ => n + 1 - (intOf x13).toNat)
              case atStart => exact ⟨0, g, c, rfl, rfl, by omega, HM.out, HS.out, HC.out, HK.out⟩
              case round =>
                clear HM HS HC HK
                obtain ⟨k, g, c, rfl, rfl, hk, HM, HS, HC, HK⟩ := hrel
                by_cases hkn : k ≤ n
                · have d1 : decide ((k : Int) ≤ (n : Int)) = true := decide_eq_true (by omega)
                  go_wp2_with fail
                  clear d1
                  go_loopw [11, 14] (fun x11 x14 wr => ∃ (t : Nat) (g : Nat → Nat → Bool) (c : Bool), x11 = .bool c ∧ x14 = .int .i64 t ∧ t ≤ T.toNat ∧ Hid (MAt W wr (.slice ad n cap) X n (n + 1) f g) ∧ Hid (ApS a T g) ∧ Hid (c = false → ApTo a T g i k (t : Int)) ∧ Hid (cntN n g + (if c = true then 1 else 0) ≤ K0)) (fun _ x14 _ => T.toNat - (intOf x14).toNat)
                  case atStart => exact ⟨0, g, c, rfl, rfl, by omega, HM.out, HS.out, HC.out, HK.out⟩
                  case round =>
                    clear HM HS HC HK
                    obtain ⟨t, g, c, rfl, rfl, ht, HM, HS, HC, HK⟩ := hrel
                    by_cases htT : (t : Int) < T
                    · have d1 : decide ((t : Int) < T) = true := decide_eq_true htT
                      have r0 := HM.out.row (s := i) (by omega) hin
                      have rl := HM.out.tab.lt
                      have c0 := HM.out.cell (s := i) (i := k) (by omega) hkn
                      have cl := (HM.out.cells i (by omega)).lt
                      have hii : (i : Int) < (n : Int) + 1 := by omega
                      have hki : (k : Int) < (n : Int) + 1 := by omega
                      cases hgik : g i k with
                      | true =>
                        rw [hgik] at c0
                        have HX : Hid (c = false → ApTo a T g i (k + 1) 0) := Lib.hid fun h => (HC.out h).col (.inr hgik)
                        clear hgik
                        go_wp2_with fail
                        exact ⟨⟨k + 1, g, c, rfl, by go_num, by omega, HM.out, HS.out, HX.out, HK.out⟩, by simp [intOf]; omega⟩
                      | false =>
                        rw [hgik] at c0
                        have HGF := Lib.hid hgik
                        clear hgik
                        obtain ⟨zs, hzs⟩ : ∃ zs, oi (optN n i) = zs := ⟨_, rfl⟩
                        obtain ⟨zt, hzt⟩ : ∃ zt, oi (optN n k) = zt := ⟨_, rfl⟩
                        obtain ⟨ys, hys⟩ : ∃ ys, oi (a.after (optN n i) t) = ys := ⟨_, rfl⟩
                        obtain ⟨yt, hyt⟩ : ∃ yt, oi (a.after (optN n k) t) = yt := ⟨_, rfl⟩
                        obtain ⟨xs, hxs⟩ : ∃ xs, aft a i t = xs := ⟨_, rfl⟩
                        obtain ⟨xt, hxt⟩ : ∃ xt, aft a k t = xt := ⟨_, rfl⟩
                        have HZS := Lib.hid (hzs.symm.trans oi_optN)
                        have HZT := Lib.hid (hzt.symm.trans oi_optN)
                        have HYS : Hid ((ys = -1 ∧ xs = n) ∨ ys = (xs : Int)) := Lib.hid (by
                          rw [← hys, ← hxs]
                          unfold aft
                          rw [HN.out]
                          exact oi_ix _ _)
                        have HYT : Hid ((yt = -1 ∧ xt = n) ∨ yt = (xt : Int)) := Lib.hid (by
                          rw [← hyt, ← hxt]
                          unfold aft
                          rw [HN.out]
                          exact oi_ix _ _)
                        have HXL : Hid (xs ≤ n ∧ xt ≤ n) := Lib.hid (by
                          rw [← hxs, ← hxt, ← HN.out]
                          exact ⟨aft_le HOK.out (by rw [HN.out]; exact hin) _, aft_le HOK.out (by rw [HN.out]; exact hkn) _⟩)
                        have HA1 : Hid (∀ u, Grew W u → Calls Tryd.prog 50 #[.agg #[.slice ad n cap], .int .i64 zs, .int .i64 t] u fun e W' => e = .returned (.int .i64 ys) ∧ Grew u W') := Lib.hid fun u hg => by
                          have := HAF.out u (optN n i) t hg (by rw [HN.out]; exact optN_in hin)
                          rw [hzs, hys, HN.out] at this
                          exact this
                        have HA2 : Hid (∀ u, Grew W u → Calls Tryd.prog 50 #[.agg #[.slice ad n cap], .int .i64 zt, .int .i64 t] u fun e W' => e = .returned (.int .i64 yt) ∧ Grew u W') := Lib.hid fun u hg => by
                          have := HAF.out u (optN n k) t hg (by rw [HN.out]; exact optN_in hkn)
                          rw [hzt, hyt, HN.out] at this
                          exact this
                        have HMARK : Hid (g xs xt = true → ApS a T (updG g i k true)) := Lib.hid fun h => HS.out.mark HOK.out (by rw [HN.out]; exact hin) (by rw [HN.out]; exact hkn) (by omega) htT (by rw [hxs, hxt]; exact h)
                        have HCL : Hid (g xs xt = false → ApCl a g i k t) := Lib.hid fun h hx => by
                          rw [hxs, hxt, h] at hx
                          cases hx
                        clear hzs hzt hys hyt hxs hxt
                        go_upto_if 87 with fail
                        go_cut [15] (fun s15 wx => s15 = .int .i64 zs ∧ wx = wr)
                        case first =>
                          by_cases e : i = n
                          · have h1 : ((i : Int) == (n : Int)) = true := beq_iff_eq.2 (by omega)
                            have HE := Lib.hid (show zs = -1 by rw [HZS.out, if_pos e])
                            clear e
                            go_wp2_with fail
                            go_meet
                            exact ⟨by rw [HE.out], rfl⟩
                          · have h1 : ((i : Int) == (n : Int)) = false := beq_eq_false_iff_ne.2 (by omega)
                            have HE := Lib.hid (show zs = i by rw [HZS.out, if_neg e])
                            clear e
                            go_wp2_with fail
                            go_meet
                            exact ⟨by rw [HE.out], rfl⟩
                        case rest =>
                          obtain ⟨rfl, rfl⟩ := hcut
                          obtain ⟨wq, rfl⟩ : ∃ z, z = wc := ⟨_, rfl⟩
                          go_upto_if 90 with fail
                          go_cut [16] (fun s16 wx => s16 = .int .i64 zt ∧ wx = wq)
                          case first =>
                            by_cases e : k = n
                            · have h1 : ((k : Int) == (n : Int)) = true := beq_iff_eq.2 (by omega)
                              have HE := Lib.hid (show zt = -1 by rw [HZT.out, if_pos e])
                              clear e
                              go_wp2_with fail
                              go_meet
                              exact ⟨by rw [HE.out], rfl⟩
                            · have h1 : ((k : Int) == (n : Int)) = false := beq_eq_false_iff_ne.2 (by omega)
                              have HE := Lib.hid (show zt = k by rw [HZT.out, if_neg e])
                              clear e
                              go_wp2_with fail
                              go_meet
                              exact ⟨by rw [HE.out], rfl⟩
                          case rest =>
                            obtain ⟨rfl, rfl⟩ := hcut
                            obtain ⟨wp, rfl⟩ : ∃ z, z = wc := ⟨_, rfl⟩
                            have b0 := HM.out.box.cell_at (i := 0) rfl
                            have bl := HM.out.box.lt
                            go_upto_region 35 with fail
                            go_wp2_with fail
                            refine (HA1.out _ HM.out.low).mono ?_
                            rintro e w2 ⟨rfl, hg2⟩
                            have HM2 := Lib.hid (HM.out.keep hg2)
                            have b0 := HM2.out.box.cell_at (i := 0) rfl
                            have bl := HM2.out.box.lt
                            clear hg2
                            go_wp2_with fail
                            refine (HA2.out _ HM2.out.low).mono ?_
                            rintro e w3 ⟨rfl, hg3⟩
                            have HM3 := Lib.hid (HM2.out.keep hg3)
                            clear hg3 b0 bl HM2
                            go_upto_if 100 with fail
                            go_cut [15] (fun s15 wx => s15 = .int .i64 xs ∧ wx = w3)
                            case first =>
                              rcases HYS.out with ⟨e1, e2⟩ | e1
                              · have h1 : ys < 0 := by omega
                                have HE := Lib.hid (show (xs : Int) = n by omega)
                                clear e1 e2
                                go_wp2_with fail
                                go_meet
                                exact ⟨by rw [HE.out], rfl⟩
                              · have h1 : ¬ ys < 0 := by omega
                                have HE := Lib.hid e1
                                clear e1
                                go_wp2_with fail
                                go_meet
                                exact ⟨by rw [HE.out], rfl⟩
                            case rest =>
                              obtain ⟨rfl, rfl⟩ := hcut
                              obtain ⟨w5, rfl⟩ : ∃ z, z = wc := ⟨_, rfl⟩
                              obtain ⟨w3, rfl⟩ : ∃ z, z = w5 := ⟨_, rfl⟩
                              go_upto_if 103 with fail
                              go_cut [16] (fun s16 wx => s16 = .int .i64 xt ∧ wx = w3)
                              case first =>
                                rcases HYT.out with ⟨e1, e2⟩ | e1
                                · have h1 : yt < 0 := by omega
                                  have HE := Lib.hid (show (xt : Int) = n by omega)
                                  clear e1 e2
                                  go_wp2_with fail
                                  go_meet
                                  exact ⟨by rw [HE.out], rfl⟩
                                · have h1 : ¬ yt < 0 := by omega
                                  have HE := Lib.hid e1
                                  clear e1
                                  go_wp2_with fail
                                  go_meet
                                  exact ⟨by rw [HE.out], rfl⟩
                              case rest =>
                                obtain ⟨rfl, rfl⟩ := hcut
                                obtain ⟨w4, rfl⟩ : ∃ z, z = wc := ⟨_, rfl⟩
                                obtain ⟨w3, rfl⟩ : ∃ z, z = w4 := ⟨_, rfl⟩
                                have hxs := HXL.out.1
                                have hxt := HXL.out.2
                                have r0 := HM3.out.row (s := i) (by omega) hin
                                have r1 := HM3.out.row (s := xs) (by omega) hxs
                                have rl := HM3.out.tab.lt
                                have c0 := HM3.out.cell (s := i) (i := k) (by omega) hkn
                                have cf := (HM3.out.cells i (by omega)).free k
                                have cl := (HM3.out.cells i (by omega)).lt
                                have c1 := HM3.out.cell (s := xs) (i := xt) (by omega) hxt
                                have cl1 := (HM3.out.cells xs (by omega)).lt
                                have hii : (i : Int) < (n : Int) + 1 := by omega
                                have hki : (k : Int) < (n : Int) + 1 := by omega
                                have hxi : (xs : Int) < (n : Int) + 1 := by omega
                                have hti : (xt : Int) < (n : Int) + 1 := by omega
                                cases hgx : g xs xt with
                                | true =>
                                  rw [hgx] at c1
                                  have HMP := Lib.hid (HM3.out.put (s := i) (i := k) (by omega) true)
                                  have HSP := Lib.hid (HMARK.out hgx)
                                  have HKP := Lib.hid (show cntN n (updG g i k true) + (if true = true then 1 else 0) ≤ K0 by
                                    have h1 := cntN_upd hin hkn HGF.out
                                    have h2 := HK.out
                                    cases c <;> simp at h2 ⊢ <;> omega)
                                  clear hgx
                                  go_wp2_with fail
                                  go_round
                                  case rel => exact ⟨t + 1, _, true, rfl, by go_num, by omega, HMP.out, HSP.out, fun h => by (cases h), HKP.out⟩
                                  case measure => simp [intOf]; omega
                                | false =>
                                  rw [hgx] at c1
                                  have HCP : Hid (c = false → ApTo a T g i k ((t + 1 : Nat) : Int)) := Lib.hid fun h => by
                                    have := (HC.out h).tok (HCL.out hgx)
                                    push_cast
                                    exact this
                                  clear hgx
                                  go_wp2_with fail
                                  go_round
                                  case rel => exact ⟨t + 1, g, c, rfl, by go_num, by omega, HM3.out, HS.out, HCP.out, HK.out⟩
                                  case measure => simp [intOf]; omega
                    · have d1 : decide ((t : Int) < T) = false := decide_eq_false htT
                      have HX : Hid (c = false → ApTo a T g i (k + 1) 0) := Lib.hid fun h => (HC.out h).col (.inl (by omega))
                      go_wp2_with fail
                      exact ⟨⟨k + 1, g, c, rfl, by go_num, by omega, HM.out, HS.out, HX.out, HK.out⟩, by simp [intOf]; omega⟩
                · obtain rfl : k = n + 1 := by omega
                  have d1 : decide (((n + 1 : Nat) : Int) ≤ (n : Int)) = false := decide_eq_false (by omega)
                  have HX : Hid (c = false → ApTo a T g (i + 1) 0 0) := Lib.hid fun h => (show ApTo a T g i (a.length + 1) 0 by rw [HN.out]; exact HC.out h).row
                  go_wp2_with fail
                  exact ⟨⟨i + 1, g, c, rfl, by go_num, by omega, HM.out, HS.out, HX.out, HK.out⟩, by simp [intOf]; omega⟩
            · obtain rfl : i = n + 1 := by omega
              have d1 : decide (((n + 1 : Nat) : Int) ≤ (n : Int)) = false := decide_eq_false (by omega)
              go_wp2_with fail
              go_roundg (2 * cntN n g + (if c = true then 1 else 0))
              case measure =>
                have h1 := HK.out
                have h2 := HK0.out
                cases c <;> simp at h1 ⊢ <;> omega
              case rel => exact ⟨g, c, rfl, HM.out, HS.out, HC.out, rfl⟩
end Go.Proofs.YtogmlonhciiomaaDoor
