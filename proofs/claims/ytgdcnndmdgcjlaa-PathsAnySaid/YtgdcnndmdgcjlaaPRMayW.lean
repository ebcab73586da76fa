/- May, by the document: the walk. -/
import Derived.Test.YtgdcnndmdgcjlaaPRMay
import Derived.Deep.CutBlock
import Derived.Deep.DeepCutAuto
namespace Go.Proofs.Ytgdcnndmdgcjlaa
open Go.RowKit

set_option maxHeartbeats 4000000 in
set_option maxRecDepth 20000 in
theorem RMay_ok (N : Net) (hS : N.Small) (hK : N.Kinds) (W : World) (n0 n1 n2 n3 n4 : Value) (hB : RNetAt W W.heap.size n0 n1 n2 n3 n4 N) :
    Calls Try.prog 27 #[.agg #[n0, n1, n2, n3, n4]] W fun e W' => e = .returned (.bool N.mayB) ∧ Grew W W' := by
  obtain ⟨na, nc, rfl, hN0⟩ := hB.states
  obtain ⟨ta, tc, rfl, hT⟩ := hB.starts
  obtain ⟨ua, uc, rfl, hU⟩ := hB.stops
  obtain ⟨pa, pc, rfl, hP⟩ := hB.preds
  obtain ⟨da, dc, rfl, hD⟩ := hB.decisions
  obtain ⟨w1, hw1⟩ : ∃ w1, W.alloc (.cells #[.slice na N.states.length nc, .slice ta N.starts.length tc, .slice ua N.stops.length uc, .slice pa N.preds.length pc, .slice da N.decisions.length dc] 38) = w1 := ⟨_, rfl⟩
  have g1 : Grew W w1 := hw1 ▸ grew_alloc W _
  have o1 : Owns w1 W.heap.size [.slice na N.states.length nc, .slice ta N.starts.length tc, .slice ua N.stops.length uc, .slice pa N.preds.length pc, .slice da N.decisions.length dc] 38 := hw1 ▸ Owns.alloc W _ _
  have hxl : W.heap.size < w1.heap.size := o1.lt
  have hS60 := hS.states
  have hS12 := hS.starts
  have hS40 := hS.preds
  have hS41 := hS.decisions
  have hS42 := hS.stops
  have HN0 := Lib.hid hN0
  have HT := Lib.hid hT
  have HU := Lib.hid hU
  have HP := Lib.hid hP
  have HD := Lib.hid hD
  have HKK := Lib.hid hK
  have HSM := Lib.hid hS
  have HG := Lib.hid g1
  have BX := Lib.hid (show ∀ w, Grew w1 w → ∀ i v, [Value.slice na N.states.length nc, .slice ta N.starts.length tc, .slice ua N.stops.length uc, .slice pa N.preds.length pc, .slice da N.decisions.length dc][i]? = some v → w.cell? ⟨W.heap.size, i, none⟩ = some v from fun w hg i v hi => (o1.keep hg).cell_at hi)
  have c0 := o1.cell_at (i := 0) rfl
  have c1 := o1.cell_at (i := 1) rfl
  have c2 := o1.cell_at (i := 2) rfl
  have c3 := o1.cell_at (i := 3) rfl
  have c4 := o1.cell_at (i := 4) rfl
  clear hB g1 hN0 hT hU hP hD hK hS o1
  go_enter Try.func27, Try.ntmps27
  by_cases hl : N.starts.length = N.stops.length
  · have r1 : ((N.starts.length : Int) != (N.stops.length : Int)) = false := by simp [hl]
    have HL := Lib.hid hl
    clear hl
    go_wp2_with fail
    go_loopw [4] (fun i wr => ∃ (j : Nat), i = .int .i64 j ∧ j ≤ N.starts.length ∧ Hid (∀ k (h : k < N.starts.length), k < j → 0 ≤ N.starts[k] ∧ N.starts[k] < N.states.length) ∧ Hid (∀ k (h : k < N.stops.length), k < j → 0 ≤ N.stops[k] ∧ N.stops[k] < N.states.length) ∧ wr = w1) (fun i _ => N.starts.length - (intOf i).toNat)
    case atStart => exact ⟨0, rfl, by omega, fun k h hk => absurd hk (by omega), fun k h hk => absurd hk (by omega), rfl⟩
    case round =>
      obtain ⟨j, rfl, hj, hs, hu, rfl⟩ := hrel
      by_cases hlt : j < N.starts.length
      · have hlt2 : j < N.stops.length := by rw [← HL.out]; exact hlt
        obtain ⟨tb, toff, rfl, htb, htc⟩ := HT.out j hlt
        obtain ⟨ub, uoff, rfl, hub, huc⟩ := HU.out j hlt2
        have t1 := (HG.out.cells _ (toff + j) htb).trans htc
        have u1 := (HG.out.cells _ (uoff + j) hub).trans huc
        have tl : tb < wr.heap.size := Nat.lt_of_lt_of_le htb HG.out.size
        have ul : ub < wr.heap.size := Nat.lt_of_lt_of_le hub HG.out.size
        have hi2 : (j : Int) < (N.stops.length : Int) := by omega
        clear htc huc
        by_cases q1 : N.starts[j] < 0
        · have HB := Lib.hid (show N.mayB = false from not_may (fun h => (may_parts h).2.1 _ (List.mem_append_left _ (List.getElem_mem hlt))) (by omega))
          have q1' : decide (N.starts[j] < 0) = true := decide_eq_true q1
          clear q1
          go_wp2_with fail
          go_ret
          exact ⟨ret_bool HB.out.symm, HG.out⟩
        · have q1' : decide (N.starts[j] < 0) = false := decide_eq_false q1
          have Q1 := Lib.hid q1
          clear q1
          by_cases q2 : (N.states.length : Int) ≤ N.starts[j]
          · have HB := Lib.hid (show N.mayB = false from not_may (fun h => (may_parts h).2.1 _ (List.mem_append_left _ (List.getElem_mem hlt))) (by omega))
            have q2' : decide ((N.states.length : Int) ≤ N.starts[j]) = true := decide_eq_true q2
            clear q2
            go_wp2_with fail
            go_ret
            exact ⟨ret_bool HB.out.symm, HG.out⟩
          · have q2' : decide ((N.states.length : Int) ≤ N.starts[j]) = false := decide_eq_false q2
            have Q2 := Lib.hid q2
            clear q2
            by_cases q3 : N.stops[j] < 0
            · have HB := Lib.hid (show N.mayB = false from not_may (fun h => (may_parts h).2.1 _ (List.mem_append_right _ (List.getElem_mem hlt2))) (by omega))
              have q3' : decide (N.stops[j] < 0) = true := decide_eq_true q3
              clear q3
              go_wp2_with fail
              go_ret
              exact ⟨ret_bool HB.out.symm, HG.out⟩
            · have q3' : decide (N.stops[j] < 0) = false := decide_eq_false q3
              have Q3 := Lib.hid q3
              clear q3
              by_cases q4 : (N.states.length : Int) ≤ N.stops[j]
              · have HB := Lib.hid (show N.mayB = false from not_may (fun h => (may_parts h).2.1 _ (List.mem_append_right _ (List.getElem_mem hlt2))) (by omega))
                have q4' : decide ((N.states.length : Int) ≤ N.stops[j]) = true := decide_eq_true q4
                clear q4
                go_wp2_with fail
                go_ret
                exact ⟨ret_bool HB.out.symm, HG.out⟩
              · have q4' : decide ((N.states.length : Int) ≤ N.stops[j]) = false := decide_eq_false q4
                have Q4 := Lib.hid q4
                clear q4
                go_wp2_with fail
                exact ⟨⟨j + 1, by go_num, by omega, fun k h hk => by
                  by_cases e : k = j
                  · subst e; have := Q1.out; have := Q2.out; omega
                  · exact hs.out k h (by omega), fun k h hk => by
                  by_cases e : k = j
                  · subst e; have := Q3.out; have := Q4.out; omega
                  · exact hu.out k h (by omega), trivial⟩, by simp [intOf]; omega⟩
      · obtain rfl : j = N.starts.length := by omega
        have HS1 := Lib.hid (show ∀ i ∈ N.starts ++ N.stops, 0 ≤ i ∧ i < N.states.length from fun i hi => by
          rcases List.mem_append.1 hi with h | h
          · obtain ⟨k, hk, rfl⟩ := List.getElem_of_mem h
            exact hs.out k hk hk
          · obtain ⟨k, hk, rfl⟩ := List.getElem_of_mem h
            exact hu.out k hk (by rw [HL.out]; exact hk))
        clear hs hu hj hlt
        go_wp2_with fail
        have hsub : IntKind.i64.wrap ((N.states.length : Int) - 1) = (N.states.length : Int) - 1 := by rw [IntKind.wrap_i64]; omega
        go_loopw [5] (fun i w => ∃ (j : Nat), i = .int .i64 j ∧ j ≤ N.preds.length ∧ Hid (∀ k (h : k < N.preds.length), k < j → 0 ≤ N.preds[k] ∧ N.preds[k] < (N.states.length : Int) - 1) ∧ w = wr) (fun i _ => N.preds.length - (intOf i).toNat)
        case atStart => exact ⟨0, rfl, by omega, fun k h hk => absurd hk (by omega), rfl⟩
        case round =>
          obtain ⟨j, rfl, hj, hp, rfl⟩ := hrel
          by_cases hlt : j < N.preds.length
          · obtain ⟨pb, poff, rfl, hpb, hpc⟩ := HP.out j hlt
            have p1 := (HG.out.cells _ (poff + j) hpb).trans hpc
            have pl : pb < wr.heap.size := Nat.lt_of_lt_of_le hpb HG.out.size
            clear hpc
            by_cases q1 : N.preds[j] < 0
            · have HB := Lib.hid (show N.mayB = false from not_may (fun h => (may_parts h).2.2.1 _ (List.getElem_mem hlt)) (by omega))
              have q1' : decide (N.preds[j] < 0) = true := decide_eq_true q1
              clear q1
              go_wp2_with fail
              go_ret
              exact ⟨ret_bool HB.out.symm, HG.out⟩
            · have q1' : decide (N.preds[j] < 0) = false := decide_eq_false q1
              have Q1 := Lib.hid q1
              clear q1
              by_cases q2 : (N.states.length : Int) - 1 ≤ N.preds[j]
              · have HB := Lib.hid (show N.mayB = false from not_may (fun h => (may_parts h).2.2.1 _ (List.getElem_mem hlt)) (by omega))
                have q2' : decide ((N.states.length : Int) - 1 ≤ N.preds[j]) = true := decide_eq_true q2
                clear q2
                go_wp2_with fail
                go_ret
                exact ⟨ret_bool HB.out.symm, HG.out⟩
              · have q2' : decide ((N.states.length : Int) - 1 ≤ N.preds[j]) = false := decide_eq_false q2
                have Q2 := Lib.hid q2
                clear q2
                go_wp2_with fail
                exact ⟨⟨j + 1, by go_num, by omega, fun k h hk => by
                  by_cases e : k = j
                  · subst e; have := Q1.out; have := Q2.out; omega
                  · exact hp.out k h (by omega), trivial⟩, by simp [intOf]; omega⟩
          · obtain rfl : j = N.preds.length := by omega
            have HP1 := Lib.hid (show ∀ i ∈ N.preds, 0 ≤ i ∧ i < (N.states.length : Int) - 1 from fun i hi => by
              obtain ⟨k, hk, rfl⟩ := List.getElem_of_mem hi
              exact hp.out k hk hk)
            clear hp hj hlt
            obtain ⟨wo, rfl⟩ : ∃ wo : World, wo = wr := ⟨_, rfl⟩
            go_wp2_with fail
            clear c0 c1 c2 c3 c4
            go_loopw [6, 7] (fun x6 x7 wr => ∃ (k i : Nat), x6 = .int .i64 k ∧ x7 = .int .i64 i ∧ i ≤ N.states.length ∧ k ≤ i ∧ Hid (∀ q (h : q < N.states.length), q < i → (N.states[q]).fineB N = true) ∧ Hid (decsTo N.states i = N.decisions.take k ∧ k ≤ N.decisions.length) ∧ Hid (Grew wo wr)) (fun _ i _ => N.states.length - (intOf i).toNat)
            case atStart => exact ⟨0, 0, rfl, rfl, by omega, by omega, fun q h hk => absurd hk (by omega), ⟨by simp [decsTo], by omega⟩, Grew.refl _⟩
            case round =>
              obtain ⟨k, i, rfl, rfl, hi, hki, hf, hd, hg⟩ := hrel
              have c0 := BX.out wr hg.out 0 _ rfl
              have c1 := BX.out wr hg.out 1 _ rfl
              have c3 := BX.out wr hg.out 3 _ rfl
              have c4 := BX.out wr hg.out 4 _ rfl
              have cl : W.heap.size < wr.heap.size := Nat.lt_of_lt_of_le hxl hg.out.size
              have hlow := Lib.hid (HG.out.trans hg.out)
              by_cases hlt : i < N.states.length
              · obtain ⟨sb, soff, rfl, hsb, hstt⟩ := HN0.out i hlt
                obtain ⟨s0, ⟨ea, ec, s1, hE⟩, za, zc, s2, hZ⟩ := hstt
                have hmem : N.states[i] ∈ N.states := List.getElem_mem hlt
                have hkin := HKK.out _ hmem
                have hget : N.states[i]? = some N.states[i] := List.getElem?_eq_getElem hlt
                have hdn := decsTo_none (l := N.states) hlt
                have hds := decsTo_some (l := N.states) hlt
                have hel := HSM.out.edges _ hmem
                have hzl := HSM.out.ends _ hmem
                have HFB := Lib.hid (show (N.states[i].fineB N = true → False) → N.mayB = false from fun h => not_may (fun hM => (may_parts hM).2.2.2.1 _ hmem) h)
                have HNX := Lib.hid (show N.states[i].fineB N = true → ∀ q (h : q < N.states.length), q < i + 1 → (N.states[q]).fineB N = true from fun h0 q h hq => by
                  by_cases e : q = i
                  · subst e; exact h0
                  · exact hf.out q h (by omega))
                have q0 := (hlow.out.cells _ (soff + i * 3) hsb).trans s0
                have q1 := (hlow.out.cells _ (soff + i * 3 + 1) hsb).trans s1
                have q2 := (hlow.out.cells _ (soff + i * 3 + 2) hsb).trans s2
                have sl : sb < wr.heap.size := Nat.lt_of_lt_of_le hsb hlow.out.size
                generalize N.states[i] = st at *
                obtain ⟨ru, es, zs⟩ := st
                simp only at q0 q1 q2 hE hZ hdn hds hel hzl
                have HE := Lib.hid hE
                have HZ := Lib.hid hZ
                have HKI := Lib.hid hkin
                have HDN := Lib.hid hdn
                have HDS := Lib.hid hds
                obtain ⟨w2, hw2⟩ : ∃ w2, wr.alloc (.cells #[.int .i64 ru, .slice ea es.length ec, .slice za zs.length zc] 84) = w2 := ⟨_, rfl⟩
                have g2 : Grew wr w2 := hw2 ▸ grew_alloc wr _
                have o2 : Owns w2 wr.heap.size [.int .i64 ru, .slice ea es.length ec, .slice za zs.length zc] 84 := hw2 ▸ Owns.alloc wr _ _
                have x0 := o2.cell_at (i := 0) rfl
                have x1 := o2.cell_at (i := 1) rfl
                have x2 := o2.cell_at (i := 2) rfl
                have xl := o2.lt
                have k1 := BX.out w2 (hg.out.trans g2) 1 _ rfl
                have k4 := BX.out w2 (hg.out.trans g2) 4 _ rfl
                have kl : W.heap.size < w2.heap.size := Nat.lt_of_lt_of_le cl g2.size
                obtain ⟨xb, hxb⟩ : ∃ xb, xb = wr.heap.size := ⟨_, rfl⟩
                rw [← hxb] at o2
                have HO2 := Lib.hid o2
                have HL2 := Lib.hid (hlow.out.trans g2)
                have HG2 := Lib.hid (hg.out.trans g2)
                clear s0 s1 s2 hE hZ hkin hget hdn hds hmem hf g2 o2 hg hlow
                as_aux_lemma =>
                by_cases q1z : ru < 0
                · have HB := Lib.hid (show N.mayB = false from HFB.out (fun h => by have := (state_fine.1 h).1; simp only at this; omega))
                  have q1z' : decide (ru < 0) = true := decide_eq_true q1z
                  clear q1z
                  go_wp2_with fail
                  go_ret
                  exact ⟨ret_bool HB.out.symm, HL2.out⟩
                · have q1z' : decide (ru < 0) = false := decide_eq_false q1z
                  have Q1 := Lib.hid q1z
                  clear q1z
                  by_cases q2z : (N.starts.length : Int) ≤ ru
                  · have HB := Lib.hid (show N.mayB = false from HFB.out (fun h => by have := (state_fine.1 h).1; simp only at this; omega))
                    have q2z' : decide ((N.starts.length : Int) ≤ ru) = true := decide_eq_true q2z
                    clear q2z
                    go_wp2_with fail
                    go_ret
                    exact ⟨ret_bool HB.out.symm, HL2.out⟩
                  · have q2z' : decide ((N.starts.length : Int) ≤ ru) = false := decide_eq_false q2z
                    have Q2 := Lib.hid q2z
                    clear q2z
                    go_upto_region 21 with fail
                    clear c0 c1 c3 c4 cl q0 q1 q2 sl x0 x1 x2 xl k1 k4 kl
                    rw [← hxb]
                    clear hw2 hxb
                    go_wp2_with fail
                    go_loopw [9] (fun x9 wr => ∃ (j : Nat), x9 = .int .i64 j ∧ j ≤ es.length ∧ Hid (∀ q (h : q < es.length), q < j → es[q].mayB N = true ∧ (0 < zs.length → es[q].kind = 0)) ∧ Hid (Grew w2 wr)) (fun i _ => es.length - (intOf i).toNat)
                    case atStart => exact ⟨0, rfl, by omega, fun q h hk => absurd hk (by omega), Grew.refl _⟩
                    case round =>
                      obtain ⟨j, rfl, hj, hq, hg⟩ := hrel
                      have x1 := (HO2.out.keep hg.out).cell_at (i := 1) rfl
                      have x2 := (HO2.out.keep hg.out).cell_at (i := 2) rfl
                      have xl := (HO2.out.keep hg.out).lt
                      have HL3 := Lib.hid (HL2.out.trans hg.out)
                      have hg3 := HG2.out.trans hg.out
                      have HG3 := Lib.hid hg3
                      by_cases hjl : j < es.length
                      · obtain ⟨eb, eoff, rfl, heb, e0, e1, e2⟩ := HE.out j hjl
                        have hmem : es[j] ∈ es := List.getElem_mem hjl
                        have hkk := HKI.out _ hmem
                        have HNX2 := Lib.hid (show es[j].mayB N = true → (0 < zs.length → es[j].kind = 0) → ∀ q (h : q < es.length), q < j + 1 → es[q].mayB N = true ∧ (0 < zs.length → es[q].kind = 0) from fun h0 h1 q h hqj => by
                          by_cases e : q = j
                          · subst e; exact ⟨h0, h1⟩
                          · exact hq.out q h (by omega))
                        have HFE := Lib.hid (show ¬ (es[j].mayB N = true ∧ (0 < zs.length → es[j].kind = 0)) → N.mayB = false from fun h0 => HFB.out fun h => h0 (by
                          obtain ⟨_, h1, h2⟩ := state_fine.1 h
                          refine ⟨h1 _ hmem, fun hz => ?_⟩
                          rcases h2 with h2 | ⟨_, _, h2, _⟩
                          · simp only at h2; omega
                          · exact h2 _ hmem))
                        have f0 := (HL3.out.cells _ (eoff + j * 3) heb).trans e0
                        have f1 := (HL3.out.cells _ (eoff + j * 3 + 1) heb).trans e1
                        have f2 := (HL3.out.cells _ (eoff + j * 3 + 2) heb).trans e2
                        have fl : eb < wr.heap.size := Nat.lt_of_lt_of_le heb HL3.out.size
                        have hef := edge_fine (N := N) (e := es[j]) hkk.1
                        generalize es[j] = ed at *
                        obtain ⟨kd, wh, tt⟩ := ed
                        simp only at f0 f1 f2 hkk hef
                        have HEF := Lib.hid hef
                        obtain ⟨w4, hw4⟩ : ∃ w4, wr.alloc (.cells #[.int .i64 kd, .int .i64 wh, .int .i64 tt] 89) = w4 := ⟨_, rfl⟩
                        have g4 : Grew wr w4 := hw4 ▸ grew_alloc wr _
                        have o4 : Owns w4 wr.heap.size [.int .i64 kd, .int .i64 wh, .int .i64 tt] 89 := hw4 ▸ Owns.alloc wr _ _
                        have y0 := o4.cell_at (i := 0) rfl
                        have y1 := o4.cell_at (i := 1) rfl
                        have y2 := o4.cell_at (i := 2) rfl
                        have yl := o4.lt
                        have k1 := BX.out w4 (hg3.trans g4) 1 _ rfl
                        have k3 := BX.out w4 (hg3.trans g4) 3 _ rfl
                        have kl : W.heap.size < w4.heap.size := Nat.lt_of_lt_of_le hxl (hg3.trans g4).size
                        have x22 := (HO2.out.keep (hg.out.trans g4)).cell_at (i := 2) rfl
                        have xl2 := (HO2.out.keep (hg.out.trans g4)).lt
                        have HL4 := Lib.hid (HL3.out.trans g4)
                        have HG4 := Lib.hid (hg.out.trans g4)
                        have p0 : decide (kd < 0) = false := decide_eq_false (by omega)
                        have HK0 := Lib.hid hkk
                        clear e0 e1 e2 hmem hq hef g4 o4 hg3 hg hkk
                        as_aux_lemma =>
                        by_cases p1 : 3 < kd
                        · have HB := Lib.hid (show N.mayB = false from HFE.out (fun h => by have h2 := HEF.out.1 h.1; omega))
                          have p1' : decide (3 < kd) = true := decide_eq_true p1
                          clear p1
                          go_wp2_with fail
                          go_ret
                          exact ⟨ret_bool HB.out.symm, HL4.out⟩
                        · have p1' : decide (3 < kd) = false := decide_eq_false p1
                          have P1 := Lib.hid p1
                          clear p1
                          by_cases p2 : wh < 0
                          · have HB := Lib.hid (show N.mayB = false from HFE.out (fun h => by have h2 := HEF.out.1 h.1; omega))
                            have p2' : decide (wh < 0) = true := decide_eq_true p2
                            clear p2
                            go_wp2_with fail
                            go_ret
                            exact ⟨ret_bool HB.out.symm, HL4.out⟩
                          · have p2' : decide (wh < 0) = false := decide_eq_false p2
                            have P2 := Lib.hid p2
                            clear p2
                            by_cases p3 : tt < 0
                            · have HB := Lib.hid (show N.mayB = false from HFE.out (fun h => by have h2 := HEF.out.1 h.1; omega))
                              have p3' : decide (tt < 0) = true := decide_eq_true p3
                              clear p3
                              go_wp2_with fail
                              go_ret
                              exact ⟨ret_bool HB.out.symm, HL4.out⟩
                            · have p3' : decide (tt < 0) = false := decide_eq_false p3
                              have P3 := Lib.hid p3
                              clear p3
                              by_cases p4 : (N.states.length : Int) ≤ tt
                              · have HB := Lib.hid (show N.mayB = false from HFE.out (fun h => by have h2 := HEF.out.1 h.1; omega))
                                have p4' : decide ((N.states.length : Int) ≤ tt) = true := decide_eq_true p4
                                clear p4
                                go_wp2_with fail
                                go_ret
                                exact ⟨ret_bool HB.out.symm, HL4.out⟩
                              · have p4' : decide ((N.states.length : Int) ≤ tt) = false := decide_eq_false p4
                                have P4 := Lib.hid p4
                                clear p4
                                have hk4 : kd = 0 ∨ kd = 1 ∨ kd = 2 ∨ kd = 3 := by have := P1.out; have := HK0.out; omega
                                rcases hk4 with rfl | rfl | rfl | rfl
                                · as_aux_lemma =>
                                  by_cases p5 : wh = 0
                                  · have p5' : (wh != 0) = false := by simp [p5]
                                    have P5 := Lib.hid p5
                                    clear p5
                                    by_cases hz : 0 < zs.length
                                    · have z1 : decide (0 < zs.length) = true := decide_eq_true hz
                                      go_wp2_with fail
                                      exact ⟨⟨j + 1, by go_num, by omega, HNX2.out (HEF.out.2 ⟨by have := P1.out; omega, by have := P2.out; omega, ⟨by have := P3.out; omega, by have := P4.out; omega⟩, fun _ => by have := P5.out; omega, fun h => by simp at h, fun h => by simp at h⟩) (fun _ => rfl), HG4.out⟩, by simp [intOf]; omega⟩
                                    · have z1 : decide (0 < zs.length) = false := decide_eq_false hz
                                      go_wp2_with fail
                                      exact ⟨⟨j + 1, by go_num, by omega, HNX2.out (HEF.out.2 ⟨by have := P1.out; omega, by have := P2.out; omega, ⟨by have := P3.out; omega, by have := P4.out; omega⟩, fun _ => by have := P5.out; omega, fun h => by simp at h, fun h => by simp at h⟩) (fun _ => rfl), HG4.out⟩, by simp [intOf]; omega⟩
                                  · have p5' : (wh != 0) = true := by simp [p5]
                                    have HB := Lib.hid (HFE.out (fun h => by have := (HEF.out.1 h.1).2.2.2.1 rfl; omega))
                                    clear p5
                                    go_wp2_with fail
                                    go_ret
                                    exact ⟨ret_bool HB.out.symm, HL4.out⟩
                                · as_aux_lemma =>
                                  by_cases hz : 0 < zs.length
                                  · have z1 : decide (0 < zs.length) = true := decide_eq_true hz
                                    have HB := Lib.hid (HFE.out (fun h => by have := h.2 hz; simp at this))
                                    go_wp2_with fail
                                    go_ret
                                    exact ⟨ret_bool HB.out.symm, HL4.out⟩
                                  · have z1 : decide (0 < zs.length) = false := decide_eq_false hz
                                    have HZ1 := Lib.hid hz
                                    go_wp2_with fail
                                    exact ⟨⟨j + 1, by go_num, by omega, HNX2.out (HEF.out.2 ⟨by have := P1.out; omega, by have := P2.out; omega, ⟨by have := P3.out; omega, by have := P4.out; omega⟩, fun h => by simp at h, fun h => by simp at h, fun h => by simp at h⟩) (fun h => absurd h HZ1.out), HG4.out⟩, by simp [intOf]; omega⟩
                                · as_aux_lemma =>
                                  by_cases p5 : (N.starts.length : Int) ≤ wh
                                  · have p5' : decide ((N.starts.length : Int) ≤ wh) = true := decide_eq_true p5
                                    have HB := Lib.hid (HFE.out (fun h => by have := (HEF.out.1 h.1).2.2.2.2.1 rfl; omega))
                                    clear p5
                                    go_wp2_with fail
                                    go_ret
                                    exact ⟨ret_bool HB.out.symm, HL4.out⟩
                                  · have p5' : decide ((N.starts.length : Int) ≤ wh) = false := decide_eq_false p5
                                    have P5 := Lib.hid p5
                                    clear p5
                                    by_cases hz : 0 < zs.length
                                    · have z1 : decide (0 < zs.length) = true := decide_eq_true hz
                                      have HB := Lib.hid (HFE.out (fun h => by have := h.2 hz; simp at this))
                                      go_wp2_with fail
                                      go_ret
                                      exact ⟨ret_bool HB.out.symm, HL4.out⟩
                                    · have z1 : decide (0 < zs.length) = false := decide_eq_false hz
                                      have HZ1 := Lib.hid hz
                                      go_wp2_with fail
                                      exact ⟨⟨j + 1, by go_num, by omega, HNX2.out (HEF.out.2 ⟨by have := P1.out; omega, by have := P2.out; omega, ⟨by have := P3.out; omega, by have := P4.out; omega⟩, fun h => by simp at h, fun _ => by have := P5.out; omega, fun h => by simp at h⟩) (fun h => absurd h HZ1.out), HG4.out⟩, by simp [intOf]; omega⟩
                                · as_aux_lemma =>
                                  by_cases p5 : (N.preds.length : Int) ≤ wh
                                  · have p5' : decide ((N.preds.length : Int) ≤ wh) = true := decide_eq_true p5
                                    have HB := Lib.hid (HFE.out (fun h => by have := (HEF.out.1 h.1).2.2.2.2.2 rfl; omega))
                                    clear p5
                                    go_wp2_with fail
                                    go_ret
                                    exact ⟨ret_bool HB.out.symm, HL4.out⟩
                                  · have p5' : decide ((N.preds.length : Int) ≤ wh) = false := decide_eq_false p5
                                    have P5 := Lib.hid p5
                                    clear p5
                                    by_cases hz : 0 < zs.length
                                    · have z1 : decide (0 < zs.length) = true := decide_eq_true hz
                                      have HB := Lib.hid (HFE.out (fun h => by have := h.2 hz; simp at this))
                                      go_wp2_with fail
                                      go_ret
                                      exact ⟨ret_bool HB.out.symm, HL4.out⟩
                                    · have z1 : decide (0 < zs.length) = false := decide_eq_false hz
                                      have HZ1 := Lib.hid hz
                                      go_wp2_with fail
                                      exact ⟨⟨j + 1, by go_num, by omega, HNX2.out (HEF.out.2 ⟨by have := P1.out; omega, by have := P2.out; omega, ⟨by have := P3.out; omega, by have := P4.out; omega⟩, fun h => by simp at h, fun h => by simp at h, fun _ => by have := P5.out; omega⟩) (fun h => absurd h HZ1.out), HG4.out⟩, by simp [intOf]; omega⟩
                      · obtain rfl : j = es.length := by omega
                        have HQ := Lib.hid (show ∀ e ∈ es, e.mayB N = true ∧ (0 < zs.length → e.kind = 0) from fun e he => by
                          obtain ⟨q, h, rfl⟩ := List.getElem_of_mem he
                          exact hq.out q h h)
                        have HG5 := Lib.hid hg.out
                        have k4 := BX.out wr hg3 4 _ rfl
                        have kl : W.heap.size < wr.heap.size := Nat.lt_of_lt_of_le hxl hg3.size
                        clear hq hj hjl hg hg3
                        by_cases hz0 : zs.length = 0
                        · have z0 : ((zs.length : Int) == 0) = true := by simp [hz0]
                          have HZ0 := Lib.hid hz0
                          clear hz0
                          go_wp2_with fail
                          exact ⟨⟨k, i + 1, rfl, by go_num, by omega, by omega, HNX.out (state_fine.2 ⟨by have := Q1.out; have := Q2.out; simp only; omega, fun e he => (HQ.out e he).1, .inl HZ0.out⟩), by rw [HDN.out HZ0.out]; exact hd.out, HG3.out⟩, by simp [intOf]; omega⟩
                        · have z0 : ((zs.length : Int) == 0) = false := by rw [beq_eq_false_iff_ne]; omega
                          have HZ0 := Lib.hid hz0
                          have HND := Lib.hid (show ¬ (∃ h : k < N.decisions.length, N.decisions[k] = i) → N.mayB = false from fun h => not_may (fun hM => by
                            have h5 := (may_parts hM).2.2.2.2
                            have hp := decsTo_prefix N.states (show i + 1 ≤ N.states.length by omega)
                            rw [HDS.out HZ0.out, h5, hd.out.1] at hp
                            obtain ⟨r, hr⟩ := hp
                            have hlen := congrArg List.length hr
                            simp only [List.length_append, List.length_take, List.length_cons, List.length_nil] at hlen
                            have hk : k < N.decisions.length := by have := hd.out.2; omega
                            refine ⟨hk, ?_⟩
                            have h6 : N.decisions[k]? = some (i : Int) := by
                              have hm : (N.decisions.take k).length = k := by rw [List.length_take]; omega
                              rw [← hr, List.getElem?_append_left (by rw [List.length_append, hm]; simp), List.getElem?_append_right (by omega), hm]
                              simp
                            rw [List.getElem?_eq_getElem hk] at h6
                            exact Option.some.inj h6) h)
                          clear hz0
                          as_aux_lemma =>
                          by_cases r1 : (zs.length : Int) < 2
                          · have HB := Lib.hid (show N.mayB = false from HFB.out (fun h => by have h2 := (state_fine.1 h).2.2; have h3 := HZ0.out; simp only at h2; omega))
                            have r1' : decide ((zs.length : Int) < 2) = true := decide_eq_true r1
                            clear r1
                            go_wp2_with fail
                            go_ret
                            exact ⟨ret_bool HB.out.symm, HL3.out⟩
                          · have r1' : decide ((zs.length : Int) < 2) = false := decide_eq_false r1
                            have R1 := Lib.hid r1
                            clear r1
                            by_cases r2 : zs.length = es.length
                            · have r2' : ((zs.length : Int) != (es.length : Int)) = false := by simp [r2]
                              have R2 := Lib.hid r2
                              clear r2
                              by_cases r3 : N.decisions.length ≤ k
                              · have HB := Lib.hid (HND.out (fun ⟨h, e⟩ => by omega))
                                have r3' : decide (N.decisions.length ≤ k) = true := decide_eq_true r3
                                go_wp2_with fail
                                go_ret
                                exact ⟨ret_bool HB.out.symm, HL3.out⟩
                              · have r3' : decide (N.decisions.length ≤ k) = false := decide_eq_false r3
                                have HDK := Lib.hid (show k < N.decisions.length by omega)
                                obtain ⟨db, doff, rfl, hdb, hdc⟩ := HD.out k HDK.out
                                have d1 := (HL3.out.cells _ (doff + k) hdb).trans hdc
                                have dl : db < wr.heap.size := Nat.lt_of_lt_of_le hdb HL3.out.size
                                have hki2 : (k : Int) < (N.decisions.length : Int) := by have := HDK.out; omega
                                clear hdc
                                obtain ⟨dk, hdk⟩ : ∃ dk, N.decisions[k]'HDK.out = dk := ⟨_, rfl⟩
                                rw [hdk] at d1
                                have HDE := Lib.hid hdk
                                clear hdk
                                by_cases r4 : dk = i
                                · have r4' : (dk != (i : Int)) = false := by simp [r4]
                                  have HD4 := Lib.hid r4
                                  clear r4
                                  go_upto_region 33 with fail
                                  clear d1 dl x1 x2 xl k4 kl
                                  obtain ⟨wq, rfl⟩ : ∃ wq : World, wq = wr := ⟨_, rfl⟩
                                  go_wp2_with fail
                                  go_loopw [11] (fun x11 wr => ∃ (j : Nat), x11 = .int .i64 j ∧ j ≤ zs.length ∧ Hid (∀ q (h : q < zs.length), q < j → 0 ≤ zs[q] ∧ zs[q] < N.states.length) ∧ wr = wq) (fun i _ => zs.length - (intOf i).toNat)
                                  case atStart => exact ⟨0, rfl, by omega, fun q h hk => absurd hk (by omega), rfl⟩
                                  case round =>
                                    obtain ⟨j, rfl, hj, hq, rfl⟩ := hrel
                                    have x2 := (HO2.out.keep HG5.out).cell_at (i := 2) rfl
                                    have xl := (HO2.out.keep HG5.out).lt
                                    by_cases hjl : j < zs.length
                                    · obtain ⟨zb, zoff, rfl, hzb, hzc⟩ := HZ.out j hjl
                                      have f1 := (HL3.out.cells _ (zoff + j) hzb).trans hzc
                                      have fl : zb < wr.heap.size := Nat.lt_of_lt_of_le hzb HL3.out.size
                                      have HFZ := Lib.hid (show ¬ (0 ≤ zs[j] ∧ zs[j] < N.states.length) → N.mayB = false from fun h0 => HFB.out fun h => h0 (by
                                        obtain ⟨_, _, h2⟩ := state_fine.1 h
                                        rcases h2 with h2 | ⟨_, _, _, h2⟩
                                        · have := HZ0.out; simp only at h2; omega
                                        · exact h2 _ (List.getElem_mem hjl)))
                                      clear hzc
                                      by_cases q5 : zs[j] < 0
                                      · have HB := Lib.hid (show N.mayB = false from HFZ.out (by omega))
                                        have q5' : decide (zs[j] < 0) = true := decide_eq_true q5
                                        clear q5
                                        go_wp2_with fail
                                        go_ret
                                        exact ⟨ret_bool HB.out.symm, HL3.out⟩
                                      · have q5' : decide (zs[j] < 0) = false := decide_eq_false q5
                                        have Q5 := Lib.hid q5
                                        clear q5
                                        by_cases q6 : (N.states.length : Int) ≤ zs[j]
                                        · have HB := Lib.hid (show N.mayB = false from HFZ.out (by omega))
                                          have q6' : decide ((N.states.length : Int) ≤ zs[j]) = true := decide_eq_true q6
                                          clear q6
                                          go_wp2_with fail
                                          go_ret
                                          exact ⟨ret_bool HB.out.symm, HL3.out⟩
                                        · have q6' : decide ((N.states.length : Int) ≤ zs[j]) = false := decide_eq_false q6
                                          have Q6 := Lib.hid q6
                                          clear q6
                                          go_wp2_with fail
                                          exact ⟨⟨j + 1, by go_num, by omega, fun q h hk => by
                                            by_cases e : q = j
                                            · subst e; have := Q5.out; have := Q6.out; omega
                                            · exact hq.out q h (by omega), trivial⟩, by simp [intOf]; omega⟩
                                    · obtain rfl : j = zs.length := by omega
                                      have hq2 : ∀ i ∈ zs, 0 ≤ i ∧ i < N.states.length := fun i hi => by
                                        obtain ⟨q, h, rfl⟩ := List.getElem_of_mem hi
                                        exact hq.out q h h
                                      have HQ2 := Lib.hid hq2
                                      clear hq hq2
                                      go_wp2_with fail
                                      have hz0 := HZ0.out
                                      refine ⟨⟨k + 1, i + 1, by go_num, by go_num, by omega, by omega, HNX.out (state_fine.2 ⟨by have := Q1.out; have := Q2.out; simp only; omega, fun e he => (HQ.out e he).1, .inr ⟨by have := R2.out; simp only; omega, by have := R1.out; simp only; omega, fun e he => (HQ.out e he).2 (by omega), HQ2.out⟩⟩), ⟨?_, HDK.out⟩, HG3.out⟩, by simp [intOf]; omega⟩
                                      rw [HDS.out HZ0.out, hd.out.1, List.take_add_one, List.getElem?_eq_getElem HDK.out, HDE.out, HD4.out]
                                      rfl
                                · have r4' : (dk != (i : Int)) = true := by simp [r4]
                                  have HB := Lib.hid (HND.out (fun ⟨h, e⟩ => r4 (HDE.out.symm.trans e)))
                                  clear r4
                                  go_wp2_with fail
                                  go_ret
                                  exact ⟨ret_bool HB.out.symm, HL3.out⟩
                            · have r2' : ((zs.length : Int) != (es.length : Int)) = true := by simp; omega
                              have HB := Lib.hid (show N.mayB = false from HFB.out (fun h => by have h2 := (state_fine.1 h).2.2; have h3 := HZ0.out; simp only at h2; omega))
                              clear r2
                              go_wp2_with fail
                              go_ret
                              exact ⟨ret_bool HB.out.symm, HL3.out⟩
              · obtain rfl : i = N.states.length := by omega
                go_wp2_with fail
                go_ret
                refine ⟨ret_bool ?_, hlow.out⟩
                have hd' := hd.out
                by_cases e : k = N.decisions.length
                · rw [may_of HL.out HS1.out HP1.out (fun s hs => by
                    obtain ⟨q, hq, rfl⟩ := List.getElem_of_mem hs
                    exact hf.out q hq hq) (by rw [hd'.1, e, List.take_length])]
                  simp [e]
                · rw [not_may (p := k = N.decisions.length) (fun hM => by
                    have h5 := (may_parts hM).2.2.2.2
                    rw [hd'.1] at h5
                    have := congrArg List.length h5
                    rw [List.length_take] at this
                    omega) e]
                  simp; omega
  · have r1 : ((N.starts.length : Int) != (N.stops.length : Int)) = true := by simp; omega
    go_wp2_with fail
    go_ret
    exact ⟨ret_bool (by unfold Net.mayB; simp [hl]), HG.out⟩
end Go.Proofs.Ytgdcnndmdgcjlaa
