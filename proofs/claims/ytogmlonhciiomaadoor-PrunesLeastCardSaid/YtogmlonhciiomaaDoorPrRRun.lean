/- The document's Run. -/
import Derived.Test.YtogmlonhciiomaaDoorPrRun
import Derived.Test.YtogmlonhciiomaaDoorPrOther
namespace Go.Proofs.YtogmlonhciiomaaDoor
open Go.RowKit

/-- what the document's Run gives -/
def RRunIs (r : Int × List Int × Nat) (W : World) (e : Ending) (W' : World) : Prop := ∃ av, e = .returned (.tuple #[.int .i64 r.1, av, .int .i64 r.2.2]) ∧ IntsV W' W'.heap.size av r.2.1 ∧ Grew W W'
theorem rRunIs_fail {r : Int × List Int × Nat} {W W' : World} {n : Nat} (h : r = (2, [], n)) (hg : Grew W W') : RRunIs r W (.returned (.tuple #[.int .i64 2, .slice none 0 0, .int .i64 n])) W' := by
  subst h
  exact ⟨_, rfl, ⟨none, 0, rfl, Nat.le_refl _, fun k hk => absurd hk (by simp)⟩, hg⟩
theorem rRunIs_tells {B : Nat} {r : Int × List Int × Nat} {W W' : World} {n : Nat} {x : Stt} {av : Value} (h : r = (x.kind, x.alts, n)) (hr : looseRow W' B 3 1 av x.alts.length (intVs x.alts)) (hg : Grew W W') : RRunIs r W (.returned (.tuple #[.int .i64 x.kind, av, .int .i64 n])) W' := by
  subst h
  exact ⟨_, rfl, ints_of_row hr, hg⟩

/-- the edge that is taken at a place -/
def edgeAt (w : List Int) (n : Nat) (l : List Ed) : Option Ed :=
  if h : n < w.length then (if w[n] < 0 then none else stepE l w[n]) else stepE l (-1)
theorem runAt_edge {a : Aut} {w : List Int} {s : Int} {n : Nat} {x : Stt} (h : a.at? s = some x) (hk : x.kind = 0) (hn : n ≤ w.length) :
    runAt a w s n = match edgeAt w n x.edges with | none => (2, [], n) | some e => runAt a w e.tgt (n + 1) := by
  unfold edgeAt
  by_cases hl : n < w.length
  · rw [dif_pos hl, runAt_tok h hk hl]
    split <;> rfl
  · rw [dif_neg hl]
    obtain rfl : n = w.length := by omega
    exact runAt_end h hk
def tokAt (w : List Int) (n : Nat) : Int := (w[n]?).getD (-1)
/-- may a token be taken there? -/
def fitAt (w : List Int) (n : Nat) : Bool := decide (0 ≤ tokAt w n) || decide (n = w.length)
theorem edgeAt_nil (w : List Int) (n : Nat) : edgeAt w n [] = none := by
  unfold edgeAt stepE
  split <;> simp
theorem edgeAt_cons (w : List Int) (n : Nat) (hn : n ≤ w.length) (e : Ed) (l : List Ed) : edgeAt w n (e :: l) = if (e.tok == tokAt w n && fitAt w n) = true then some e else edgeAt w n l := by
  unfold edgeAt fitAt tokAt
  by_cases hl : n < w.length
  · rw [dif_pos hl, dif_pos hl, List.getElem?_eq_getElem hl]
    simp only [Option.getD_some, stepE, List.find?_cons]
    have hne : ¬ n = w.length := by omega
    simp only [hne, decide_false, Bool.or_false]
    by_cases hw : w[n] < 0
    · rw [if_pos hw, if_pos hw, if_neg (by simp; omega)]
    · rw [if_neg hw, if_neg hw]
      have : decide (0 ≤ w[n]) = true := decide_eq_true (by omega)
      rw [this, Bool.and_true]
      cases e.tok == w[n] <;> rfl
  · rw [dif_neg hl, dif_neg hl]
    have hne : n = w.length := by omega
    rw [List.getElem?_eq_none (by omega)]
    simp only [Option.getD_none, stepE, List.find?_cons, hne, decide_true, Bool.or_true, Bool.and_true]
    cases e.tok == -1 <;> rfl

set_option maxHeartbeats 4000000 in
set_option maxRecDepth 20000 in
theorem rRun_ok (a : Aut) (ha : a.Few) (w : List Int) (hw : w.length ≤ 1000000) (W : World) (v wv : Value) (hA : AutV .i64 W W.heap.size v a) (hWV : IntsV W W.heap.size wv w) :
    Calls Tryd.prog 12 #[.agg #[v], wv] W (RRunIs (runR a 0 0 w) W) := by
  obtain ⟨ad, cap, rfl, hcap, hA⟩ := hA
  obtain ⟨wa, wc, rfl, hwc, hWA⟩ := hWV
  have hn := ha.states
  obtain ⟨w1, hw1⟩ : ∃ w1, W.alloc (.cells #[.slice ad a.length cap] 31) = w1 := ⟨_, rfl⟩
  have g1 : Grew W w1 := hw1 ▸ grew_alloc W _
  have o1 : Owns w1 W.heap.size [.slice ad a.length cap] 31 := hw1 ▸ Owns.alloc W _ _
  have HG := Lib.hid g1
  have HO := Lib.hid o1
  have HA := Lib.hid hA
  have HWA := Lib.hid hWA
  have HFEW := Lib.hid ha
  obtain ⟨L, hL⟩ : ∃ L, w.length = L := ⟨_, rfl⟩
  have HL := Lib.hid hL
  have hwL : IntKind.i64.wrap ((L : Int) + 1) = (L : Int) + 1 := wrap_small _ (by omega) (by omega)
  rw [hL] at hw ⊢
  clear g1 o1 hA hWA ha hL hwc
  go_enter Tryd.func12, Tryd.ntmps12
  go_wp2_with fail
  clear hw1
  go_loopw [7, 8] (fun s at' wr => ∃ (n : Nat) (k : Int), at' = .int .i64 n ∧ s = .int .i64 k ∧ n ≤ L + 1 ∧ Hid (runR a 0 0 w = runAt a w k n) ∧ Hid (Grew w1 wr)) (fun _ at' _ => L + 2 - (intOf at').toNat)
  case atStart => exact ⟨0, 0, rfl, rfl, by omega, (runAt_start a w).symm, Grew.refl _⟩
  case round =>
    obtain ⟨n, k, rfl, rfl, hnw, HR, HGR⟩ := hrel
    have HGW := Lib.hid (HG.out.trans HGR.out)
    have q0 := (HO.out.keep HGR.out).cell_at (i := 0) rfl
    have ql := (HO.out.keep HGR.out).lt
    have hle : decide ((n : Int) ≤ (L : Int) + 1) = true := decide_eq_true (by omega)
    by_cases hk0 : k < 0
    · have t0 : decide (k < 0) = true := by simpa using hk0
      have hout : a.at? k = none := by unfold Aut.at?; rw [if_pos hk0]
      have HX := Lib.hid (HR.out.trans (runAt_out hout))
      clear hout
      go_wp2_with fail
      go_ret3
      exact rRunIs_fail HX.out HGW.out
    · have t0 : decide (k < 0) = false := by simpa using hk0
      obtain ⟨i, rfl⟩ : ∃ i : Nat, k = i := ⟨k.toNat, by omega⟩
      by_cases hi : i < a.length
      · have t1 : decide ((a.length : Int) ≤ (i : Int)) = false := by simp; omega
        obtain ⟨x, hx, hxk, hxa, hxe⟩ := Aut.at?_nat hi
        obtain ⟨b, off, v0, v1, v2, rfl, hbl, e0, e1, e2, hs⟩ := HA.out i hi
        have hxi : a[i] = x := by
          have : a.at? (i : Int) = some a[i] := by unfold Aut.at?; rw [if_neg hk0, Int.toNat_natCast, List.getElem?_eq_getElem hi]
          rw [hx] at this
          exact (Option.some.inj this).symm
        rw [hxi] at hs
        obtain ⟨rfl, hal, hE⟩ := hs
        obtain ⟨x1, n1, rfl, hc1, hc3⟩ := id hal
        obtain ⟨x2, c2, rfl, hc2, hE⟩ := hE
        have r0 := (HGW.out.cells _ _ hbl).trans e0
        have r1 := (HGW.out.cells _ _ hbl).trans e1
        have r2 := (HGW.out.cells _ _ hbl).trans e2
        have lb : b < wr.heap.size := Nat.lt_of_lt_of_le hbl HGW.out.size
        have hxm : x ∈ a := by rw [← hxi]; exact List.getElem_mem hi
        have hae := HFEW.out.edges _ hxm
        have haa := HFEW.out.alts _ hxm
        have HAA := Lib.hid haa
        have HIV := Lib.hid hal
        have HEA := Lib.hid hE
        have HXX := Lib.hid hx
        have HE2 := Lib.hid e2
        have HLB := Lib.hid hbl
        clear hx hxk hxa hxe hxi hxm hc1 hc3 hE hc2 e0 e1 e2 hal
        by_cases hkd : x.kind = 0
        · have t2 : (x.kind != 0) = false := by simpa using hkd
          have HKD := Lib.hid hkd
          clear hkd
          by_cases hnl : L < n
          · have t3 : decide ((L : Int) < (n : Int)) = true := decide_eq_true (by omega)
            have HX := Lib.hid (show runR a 0 0 w = (2, [], n) by rw [HR.out, runAt_over HXX.out HKD.out (by rw [HL.out]; exact hnl)])
            go_wp2_with fail
            go_ret3
            exact rRunIs_fail HX.out HGW.out
          · have t3 : decide ((L : Int) < (n : Int)) = false := decide_eq_false (by omega)
            have HX := Lib.hid (HR.out.trans (runAt_edge HXX.out HKD.out (by rw [HL.out]; omega)))
            obtain ⟨E, hE⟩ : ∃ E, edgeAt w n x.edges = E := ⟨_, rfl⟩
            rw [hE] at HX
            have HEE := Lib.hid hE
            obtain ⟨tk, htk⟩ : ∃ tk, tokAt w n = tk := ⟨_, rfl⟩
            have HTK := Lib.hid htk
            obtain ⟨m, hm⟩ : ∃ m, x.edges.length = m := ⟨_, rfl⟩
            have HM := Lib.hid hm
            rw [hm] at r2 hae
            clear hE r1 htk hm
            go_upto_if 59 with fail
            go_cut [9] (fun s9 wx => s9 = .int .i64 tk ∧ wx = wr)
            case first =>
              by_cases hlt : n < L
              · obtain ⟨b5, off5, rfl, hb5, hc5⟩ := HWA.out n (by rw [HL.out]; exact hlt)
                have hc5 := (HGW.out.cells _ _ hb5).trans hc5
                have hl5 : b5 < wr.heap.size := Nat.lt_of_lt_of_le hb5 HGW.out.size
                have htk : w[n]'(by rw [HL.out]; exact hlt) = tk := by
                  have := HTK.out
                  unfold tokAt at this
                  rw [List.getElem?_eq_getElem (by rw [HL.out]; exact hlt)] at this
                  exact this
                rw [htk] at hc5
                have hd : decide ((n : Int) < (L : Int)) = true := decide_eq_true (by omega)
                clear htk hb5
                go_wp2_with fail
                go_meet
                exact ⟨rfl, rfl⟩
              · have hd : decide ((n : Int) < (L : Int)) = false := decide_eq_false (by omega)
                have htk : tk = -1 := by
                  have := HTK.out
                  unfold tokAt at this
                  rw [List.getElem?_eq_none (by rw [HL.out]; omega)] at this
                  exact this.symm
                have HT := Lib.hid htk
                clear htk
                go_wp2_with fail
                go_meet
                exact ⟨by rw [HT.out], rfl⟩
            case rest =>
              obtain ⟨rfl, rfl⟩ := hcut
              obtain ⟨wq, rfl⟩ : ∃ z, z = wc := ⟨_, rfl⟩
              clear t0 t1 t2 t3 hle
              go_upto_region 16 with fail
              clear r0 r2 q0 ql lb
              go_wp2_with fail
              obtain ⟨ii, hii⟩ : ∃ ii : Int, (i : Int) = ii := ⟨_, rfl⟩
              rw [hii]
              clear hii
              have HNL := Lib.hid hnl
              go_loopw [7, 10, 12] (fun s hs ci wr' => ∃ (c : Nat) (k : Int) (hb : Bool), s = .int .i64 k ∧ hs = .bool hb ∧ ci = .int .i64 c ∧ c ≤ m ∧ Hid (Grew wq wr') ∧ Hid ((hb = false ∧ edgeAt w n (x.edges.drop c) = E) ∨ (hb = true ∧ ∃ e, E = some e ∧ k = e.tgt))) (fun _ _ ci _ => m - (intOf ci).toNat)
              case atStart => exact ⟨0, _, false, rfl, rfl, rfl, by omega, Grew.refl _, .inl ⟨rfl, HEE.out⟩⟩
              case round =>
                obtain ⟨c, k, hb, rfl, rfl, rfl, hc, HGK, HDD⟩ := hrel
                have HGZ := Lib.hid (HGW.out.trans HGK.out)
                cases hb with
                | true =>
                  have HY : Hid (runR a 0 0 w = runAt a w k (n + 1)) := Lib.hid (by
                    rcases HDD.out with ⟨h, _⟩ | ⟨_, e, h1, h2⟩
                    · cases h
                    · rw [HX.out, h1, h2])
                  clear HDD
                  by_cases hcm : c < m
                  · have hd : decide ((c : Int) < (m : Int)) = true := decide_eq_true (by omega)
                    go_wp2_with fail
                    go_round
                    case rel => exact ⟨n + 1, k, by go_num, rfl, by omega, HY.out, HGR.out.trans HGK.out⟩
                    case measure => simp [intOf]; omega
                  · have hd : decide ((c : Int) < (m : Int)) = false := decide_eq_false (by omega)
                    go_wp2_with fail
                    go_round
                    case rel => exact ⟨n + 1, k, by go_num, rfl, by omega, HY.out, HGR.out.trans HGK.out⟩
                    case measure => simp [intOf]; omega
                | false =>
                  have HD2 : Hid (edgeAt w n (x.edges.drop c) = E) := Lib.hid (by
                    rcases HDD.out with ⟨_, h⟩ | ⟨h, _⟩
                    · exact h
                    · cases h)
                  clear HDD
                  by_cases hcm : c < m
                  · have hd : decide ((c : Int) < (m : Int)) = true := decide_eq_true (by omega)
                    have hcl : c < x.edges.length := by rw [HM.out]; exact hcm
                    obtain ⟨b6, off6, rfl, hb6, f0, f1⟩ := HEA.out c hcl
                    have hst := HD2.out
                    rw [List.drop_eq_getElem_cons hcl, edgeAt_cons w n (by rw [HL.out]; omega)] at hst
                    obtain ⟨ed, hed⟩ : ∃ ed, x.edges[c] = ed := ⟨_, rfl⟩
                    rw [hed] at f0 f1 hst
                    have f0 := (HGZ.out.cells _ _ hb6).trans f0
                    have f1 := (HGZ.out.cells _ _ hb6).trans f1
                    have fl : b6 < wr.heap.size := Nat.lt_of_lt_of_le hb6 HGZ.out.size
                    obtain ⟨tok, tgt⟩ := ed
                    simp only at f0 f1 hst
                    have hfit : fitAt w n = (decide (0 ≤ tk) || decide (n = L)) := by unfold fitAt; rw [HTK.out, HL.out]
                    rw [HTK.out, hfit] at hst
                    clear hed hcl hb6 hfit
                    by_cases htt : tok = tk
                    · subst htt
                      have hq1 : (tok == tok) = true := by simp
                      by_cases h0 : 0 ≤ tok
                      · have hd2 : decide (0 ≤ tok) = true := decide_eq_true h0
                        rw [hd2, Bool.true_or, Bool.and_true, if_pos hq1] at hst
                        have HST := Lib.hid hst
                        clear hst
                        go_wp2_with fail
                        go_round
                        case rel => exact ⟨c + 1, tgt, true, rfl, rfl, by go_num, by omega, HGK.out, .inr ⟨rfl, _, HST.out.symm, rfl⟩⟩
                        case measure => simp [intOf]; omega
                      · have hd2 : decide (0 ≤ tok) = false := decide_eq_false h0
                        by_cases hnL : n = L
                        · have hd3 : ((n : Int) == (L : Int)) = true := by simp; omega
                          rw [hd2, decide_eq_true hnL, Bool.false_or, Bool.and_true, if_pos hq1] at hst
                          have HST := Lib.hid hst
                          clear hst
                          go_wp2_with fail
                          go_round
                          case rel => exact ⟨c + 1, tgt, true, rfl, rfl, by go_num, by omega, HGK.out, .inr ⟨rfl, _, HST.out.symm, rfl⟩⟩
                          case measure => simp [intOf]; omega
                        · have hd3 : ((n : Int) == (L : Int)) = false := by rw [beq_eq_false_iff_ne]; omega
                          rw [hd2, decide_eq_false hnL, Bool.false_or, Bool.and_false, if_neg (by simp)] at hst
                          have HST := Lib.hid hst
                          clear hst
                          go_wp2_with fail
                          go_round
                          case rel => exact ⟨c + 1, _, false, rfl, rfl, by go_num, by omega, HGK.out, .inl ⟨rfl, HST.out⟩⟩
                          case measure => simp [intOf]; omega
                    · have hq1 : (tok == tk) = false := by rw [beq_eq_false_iff_ne]; exact htt
                      rw [hq1, Bool.false_and, if_neg (by simp)] at hst
                      have HST := Lib.hid hst
                      clear hst
                      go_wp2_with fail
                      go_round
                      case rel => exact ⟨c + 1, _, false, rfl, rfl, by go_num, by omega, HGK.out, .inl ⟨rfl, HST.out⟩⟩
                      case measure => simp [intOf]; omega
                  · have hd : decide ((c : Int) < (m : Int)) = false := decide_eq_false (by omega)
                    have HY : Hid (runR a 0 0 w = (2, [], n)) := Lib.hid (by
                      have h := HD2.out
                      rw [List.drop_of_length_le (by rw [HM.out]; omega), edgeAt_nil] at h
                      rw [HX.out, ← h])
                    go_wp2_with fail
                    go_ret3
                    exact rRunIs_fail HY.out HGZ.out
        · have t2 : (x.kind != 0) = true := by simpa using hkd
          have HX := Lib.hid (HR.out.trans (runAt_tells HXX.out hkd))
          have hcr : Hid (∀ w, Grew wr w → ∃ r w', (Builtin.append_ #[26, 26] 26 #[.slice none 0 0, .slice x1 x.alts.length n1]).run Tryd.prog w = .ok r w' ∧ Grew w w' ∧ AltsR wr.heap.size x.alts r w') :=
            Lib.hid fun w hg => copy_run wr.heap.size x.alts HAA.out w hg.size _ (HIV.out.grew (HGW.out.trans hg))
          clear hkd
          go_wp2_with fail
          refine wp_region_hav_lit follows (by kernel_rfl) ?_
          repeat (first
            | (refine HavG.skip (fun _ => rfl) ?_; simp only [Act.put, List.setIfInBounds_toArray, List.set_cons_zero, List.set_cons_succ])
            | (refine HavG.val (fun _ => rfl) ?_ (fun x w hw _ => ?_) ?_; rotate_left; (focus (have hc := hw.cells; clear hw; go_simp; first | done | rfl)); simp only [Act.put, List.setIfInBounds_toArray, List.set_cons_zero, List.set_cons_succ]))
          refine HavG.any (fun _ => rfl) (AltsR wr.heap.size x.alts) (fun _ _ _ hg h => h.keep hg) (fun x w hw _ => ?_) ?_
          · obtain ⟨r, w', hr, hg, hal⟩ := hcr.out w hw
            exact uponV_append _ _ _ _ rfl rfl rfl hr ⟨hg, hal⟩
          simp only [Act.put, List.setIfInBounds_toArray, List.set_cons_zero, List.set_cons_succ]
          repeat (first
            | (refine HavG.skip (fun _ => rfl) ?_; simp only [Act.put, List.setIfInBounds_toArray, List.set_cons_zero, List.set_cons_succ])
            | (refine HavG.val (fun _ => rfl) ?_ (fun x w hw _ => ?_) ?_; rotate_left; (focus (have hc := hw.cells; clear hw; go_simp; first | done | rfl)); simp only [Act.put, List.setIfInBounds_toArray, List.set_cons_zero, List.set_cons_succ]))
          refine HavG.any (fun _ => rfl) (AltsR wr.heap.size x.alts) (fun _ _ _ hg h => h.keep hg) (fun z w hw hd => ?_) ?_
          · have hd5 := hd _ (List.mem_append_right _ (List.mem_singleton.2 rfl)) (by kernel_rfl)
            dsimp only at hd5
            clear hd hw
            generalize z (0 + 1 + 1 + 1 + 1 + 1 + 1 + 1 + 1 + 1 + 1 + 1 + 1) = y5 at *
            obtain ⟨ya, ym, yc, rfl⟩ := row_form hd5
            have H5 := Lib.hid hd5
            clear hd5
            go_simp
            exact ⟨Grew.refl _, H5.out⟩
          simp only [Act.put, List.setIfInBounds_toArray, List.set_cons_zero, List.set_cons_succ]
          refine HavG.tail (by kernel_rfl) (by kernel_rfl) (fun z w9 hw hx => ?_)
          have hx5 := hx _ (List.mem_append_right _ (List.mem_singleton.2 rfl))
          clear hx
          dsimp only at hx5
          generalize z (0 + 1 + 1 + 1 + 1 + 1 + 1 + 1 + 1 + 1 + 1 + 1 + 1) = y4 at *
          generalize z (0 + 1 + 1 + 1 + 1 + 1 + 1 + 1 + 1 + 1 + 1 + 1 + 1 + 1 + 1 + 1) = y5 at *
          obtain ⟨ya, ym, yc, rfl⟩ := row_form hx5
          have H5 := Lib.hid hx5
          have HG9 := Lib.hid (HGW.out.trans hw)
          clear hx5 hw
          go_wp2_with fail
          go_ret3
          exact rRunIs_tells HX.out H5.out HG9.out
      · have t1 : decide ((a.length : Int) ≤ (i : Int)) = true := by simp; omega
        have hout : a.at? (i : Int) = none := by unfold Aut.at?; rw [if_neg hk0, Int.toNat_natCast, List.getElem?_eq_none (by omega)]
        have HX := Lib.hid (HR.out.trans (runAt_out hout))
        clear hout
        go_wp2_with fail
        go_ret3
        exact rRunIs_fail HX.out HGW.out
end Go.Proofs.YtogmlonhciiomaaDoor
