/- prunes.Run. -/
import Derived.Test.YtogmlonhciiomaaDoorPrNumMem
namespace Go.Proofs.YtogmlonhciiomaaDoor
open Go.RowKit

theorem pRun1_ok (e : Ed) (tk : Int) (W : World) (bt : Nat) (h : W.cell? ⟨bt, 0, none⟩ = some (.int .i64 tk)) :
    Calls Tryd.prog 26 (#[.agg #[.int .i64 e.tok, .int .i64 e.tgt]] ++ #[.pointer (some ⟨bt, 0, none⟩)]) W fun r W' => r = .returned (.bool (e.tok == tk)) ∧ Grew W W' := by
  obtain ⟨w1, hw1⟩ : ∃ w1, W.alloc (.cells #[.int .i64 e.tok, .int .i64 e.tgt] 53) = w1 := ⟨_, rfl⟩
  have g1 : Grew W w1 := hw1 ▸ grew_alloc W _
  have o1 : Owns w1 W.heap.size [.int .i64 e.tok, .int .i64 e.tgt] 53 := hw1 ▸ Owns.alloc W _ _
  have hlt : bt < W.heap.size := by
    rcases Nat.lt_or_ge bt W.heap.size with g | g
    · exact g
    · simp [World.cell?, Array.getElem?_eq_none g] at h
  have k0 : w1.cell? ⟨bt, 0, none⟩ = some (.int .i64 tk) := by rw [g1.cells _ _ hlt]; exact h
  have d0 := o1.cell_at (i := 0) rfl
  have HG := Lib.hid g1
  clear g1 o1 h
  simp only [List.append_toArray, List.cons_append, List.nil_append]
  go_enter Tryd.func26, Tryd.ntmps26
  go_wp2_with fail
  go_ret
  exact ⟨rfl, HG.out⟩
theorem enters26 : Enters 26 := fun _ _ => by kernel_rfl
theorem stepE_ix {l : List Ed} {t : Int} : (ixOf l (fun e => e.tok == t) = -1 ∧ stepE l t = none) ∨ ∃ j, ∃ hj : j < l.length, ixOf l (fun e => e.tok == t) = j ∧ stepE l t = some l[j] := by
  rcases ixOf_cases l (fun e => e.tok == t) with ⟨h, hn⟩ | ⟨j, hj, h, hq, hn⟩
  · refine .inl ⟨h, ?_⟩
    unfold stepE
    rw [List.find?_eq_none]
    intro e he
    obtain ⟨i, hi, rfl⟩ := List.mem_iff_getElem.1 he
    simpa using hn i hi
  · refine .inr ⟨j, hj, h, ?_⟩
    unfold stepE
    rw [List.find?_eq_some_iff_getElem]
    exact ⟨hq, j, hj, rfl, fun i hi => by simpa using hn i (by omega) hi⟩

/-- a run, from a place on -/
def runAt (a : Aut) (w : List Int) (s : Int) (n : Nat) : Int × List Int × Nat := if n ≤ w.length then runR a s n (w.drop n) else runEnd a s n
theorem runAt_start (a : Aut) (w : List Int) : runAt a w 0 0 = runR a 0 0 w := by simp [runAt]
theorem runAt_out {a : Aut} {w : List Int} {s : Int} {n : Nat} (h : a.at? s = none) : runAt a w s n = (2, [], n) := by
  unfold runAt
  split
  · cases w.drop n <;> simp [runR, h]
  · simp [runEnd, h]
theorem runAt_tells {a : Aut} {w : List Int} {s : Int} {n : Nat} {x : Stt} (h : a.at? s = some x) (hk : x.kind ≠ 0) : runAt a w s n = (x.kind, x.alts, n) := by
  unfold runAt
  split
  · cases w.drop n <;> simp [runR, h, hk]
  · simp [runEnd, h, hk]
theorem runAt_over {a : Aut} {w : List Int} {s : Int} {n : Nat} {x : Stt} (h : a.at? s = some x) (hk : x.kind = 0) (hn : w.length < n) : runAt a w s n = (2, [], n) := by
  unfold runAt
  rw [if_neg (by omega)]
  simp [runEnd, h, hk]
theorem runAt_end {a : Aut} {w : List Int} {s : Int} {x : Stt} (h : a.at? s = some x) (hk : x.kind = 0) :
    runAt a w s w.length = match stepE x.edges (-1) with | none => (2, [], w.length) | some e => runAt a w e.tgt (w.length + 1) := by
  unfold runAt
  rw [if_pos (Nat.le_refl _), List.drop_length, runR]
  simp only [h, hk, if_true]
  cases stepE x.edges (-1) with
  | none => rfl
  | some e => simp only; rw [if_neg (by omega)]
theorem runAt_tok {a : Aut} {w : List Int} {s : Int} {n : Nat} {x : Stt} (h : a.at? s = some x) (hk : x.kind = 0) (hn : n < w.length) :
    runAt a w s n = if w[n] < 0 then (2, [], n) else match stepE x.edges w[n] with | none => (2, [], n) | some e => runAt a w e.tgt (n + 1) := by
  unfold runAt
  rw [if_pos (by omega), List.drop_eq_getElem_cons hn, runR]
  simp only [h, hk, if_true]
  split
  · rfl
  · cases stepE x.edges w[n] with
    | none => rfl
    | some e => simp only; rw [if_pos (by omega)]

/-- what Run gives -/
def RunIs (B : Nat) (r : Int × List Int × Nat) (W : World) (e : Ending) (W' : World) : Prop := ∃ av, e = .returned (.tuple #[.int .u8 r.1, av, .int .i64 r.2.2]) ∧ looseRow W' B 3 1 av r.2.1.length (intVs r.2.1) ∧ Grew W W'

theorem runIs_fail {B : Nat} {r : Int × List Int × Nat} {W W' : World} {n : Nat} (h : r = (2, [], n)) (hg : Grew W W') : RunIs B r W (.returned (.tuple #[.int .u8 2, .slice none 0 0, .int .i64 n])) W' := by
  subst h
  exact ⟨_, rfl, ⟨rfl, .inl ⟨rfl, rfl⟩⟩, hg⟩
theorem runIs_tells {B : Nat} {r : Int × List Int × Nat} {W W' : World} {n : Nat} {x : Stt} {av : Value} (h : r = (x.kind, x.alts, n)) (hr : looseRow W' B 3 1 av x.alts.length (intVs x.alts)) (hg : Grew W W') : RunIs B r W (.returned (.tuple #[.int .u8 x.kind, av, .int .i64 n])) W' := by
  subst h
  exact ⟨_, rfl, hr, hg⟩

set_option maxHeartbeats 4000000 in
set_option maxRecDepth 20000 in
theorem pRun_ok (a : Aut) (ha : a.Few) (w : List Int) (hw : w.length ≤ 1000000) (W : World) (v wv : Value) (hA : AutV .u8 W W.heap.size v a) (hWV : IntsV W W.heap.size wv w) :
    Calls Tryd.prog 11 #[.agg #[v], wv] W (RunIs W.heap.size (runR a 0 0 w) W) := by
  have hA2 := hA
  obtain ⟨ad, cap, rfl, hcap, hA⟩ := hA
  obtain ⟨wa, wc, rfl, hwc, hWA⟩ := hWV
  have hn := ha.states
  obtain ⟨w1, hw1⟩ : ∃ w1, W.alloc (.cells #[.slice ad a.length cap] 24) = w1 := ⟨_, rfl⟩
  have g1 : Grew W w1 := hw1 ▸ grew_alloc W _
  have o1 : Owns w1 W.heap.size [.slice ad a.length cap] 24 := hw1 ▸ Owns.alloc W _ _
  have HG := Lib.hid g1
  have HO := Lib.hid o1
  have HA := Lib.hid hA
  have HWA := Lib.hid hWA
  clear g1 o1 hA hA2 hWA
  go_enter Tryd.func11, Tryd.ntmps11
  go_wp2_with fail
  clear hw1
  go_loopw [6, 7] (fun at' s wr => ∃ (n : Nat) (k : Int), at' = .int .i64 n ∧ s = .int .i64 k ∧ n ≤ w.length + 1 ∧ Hid (runR a 0 0 w = runAt a w k n) ∧ Hid (Grew w1 wr)) (fun at' _ _ => w.length + 2 - (intOf at').toNat)
  case atStart => exact ⟨0, 0, rfl, rfl, by omega, (runAt_start a w).symm, Grew.refl _⟩
  case round =>
    obtain ⟨n, k, rfl, rfl, hnw, HR, HGR⟩ := hrel
    have HGW := Lib.hid (HG.out.trans HGR.out)
    have q0 := (HO.out.keep HGR.out).cell_at (i := 0) rfl
    by_cases hk0 : k < 0
    · have t0 : decide (k < 0) = true := by simpa using hk0
      have hout : a.at? k = none := by unfold Aut.at?; rw [if_pos hk0]
      have HX := Lib.hid (HR.out.trans (runAt_out hout))
      clear hout
      go_wp2_with fail
      go_ret3
      exact runIs_fail HX.out HGW.out
    · have t0 : decide (k < 0) = false := by simpa using hk0
      obtain ⟨i, rfl⟩ : ∃ i : Nat, k = i := ⟨k.toNat, by omega⟩
      by_cases hi : i < a.length
      · have t1 : decide ((a.length : Int) ≤ (i : Int)) = false := by simp; omega
        obtain ⟨x, hx, hxk, hxa, hxe⟩ := Aut.at?_nat hi
        obtain ⟨a1, a2, a3⟩ := Aut.at hi
        obtain ⟨b, off, v0, v1, v2, rfl, hbl, e0, e1, e2, hs⟩ := HA.out i hi
        have hxi : a[i] = x := by
          have : a.at? (i : Int) = some a[i] := by unfold Aut.at?; rw [if_neg hk0, Int.toNat_natCast, List.getElem?_eq_getElem hi]
          rw [hx] at this
          exact (Option.some.inj this).symm
        rw [hxi] at hs
        obtain ⟨rfl, hal, hE⟩ := hs
        obtain ⟨x1, n1, rfl, hc1, hc3⟩ := hal
        have hE2 := hE
        obtain ⟨x2, c2, rfl, hc2, hE⟩ := hE
        have r0 : wr.cell? ⟨b, off + i * 3, none⟩ = some (.int .u8 x.kind) := by rw [HGW.out.cells _ _ hbl]; exact e0
        have r1 : wr.cell? ⟨b, off + i * 3 + 1, none⟩ = some (.slice x1 x.alts.length n1) := by rw [HGW.out.cells _ _ hbl]; exact e1
        have r2 : wr.cell? ⟨b, off + i * 3 + 2, none⟩ = some (.slice x2 x.edges.length c2) := by rw [HGW.out.cells _ _ hbl]; exact e2
        obtain ⟨w2, hw2⟩ : ∃ w2, wr.alloc (.cells #[.int .u8 x.kind, .slice x1 x.alts.length n1, .slice x2 x.edges.length c2] 51) = w2 := ⟨_, rfl⟩
        have g2 : Grew wr w2 := hw2 ▸ grew_alloc wr _
        have o2 : Owns w2 wr.heap.size [.int .u8 x.kind, .slice x1 x.alts.length n1, .slice x2 x.edges.length c2] 51 := hw2 ▸ Owns.alloc wr _ _
        have s0 := o2.cell_at (i := 0) rfl
        have s1 := o2.cell_at (i := 1) rfl
        have s2 := o2.cell_at (i := 2) rfl
        have lx := o2.lt
        have hxm : x ∈ a := by rw [← hxi]; exact List.getElem_mem hi
        have hae := ha.edges _ hxm
        have haa := ha.alts _ hxm
        have HIV := Lib.hid (show IntsV W W.heap.size (.slice x1 x.alts.length n1) x.alts from ⟨_, _, rfl, hc1, hc3⟩)
        have HEV := Lib.hid hE2
        have HEA := Lib.hid hE
        have HXX := Lib.hid hx
        have HG2 := Lib.hid (HGW.out.trans g2)
        have HO2 := Lib.hid o2
        clear hx hxk hxa hxe a1 a2 a3 hxi hxm hc1 hc3 hE hE2 hc2 e0 e1 e2 g2 o2
        by_cases hkd : x.kind = 0
        · have t2 : (x.kind != 0) = false := by simpa using hkd
          have HKD := Lib.hid hkd
          clear hkd
          -- the token
          by_cases hnl : n < w.length
          · obtain ⟨b5, off5, rfl, hb5, hc5⟩ := HWA.out n hnl
            obtain ⟨tk, htk⟩ : ∃ tk, w[n] = tk := ⟨_, rfl⟩
            rw [htk] at hc5
            obtain ⟨w3, hw3⟩ : ∃ w3, w2.alloc (.cells #[.int .i64 (-1)] 3) = w3 := ⟨_, rfl⟩
            have g3 : Grew w2 w3 := hw3 ▸ grew_alloc w2 _
            have o3 : Owns w3 w2.heap.size [.int .i64 (-1)] 3 := hw3 ▸ Owns.alloc w2 _ _
            have y0 := o3.cell_at (i := 0) rfl
            have y1 := o3.free 0
            have y2 : w3.cell? ⟨b5, off5 + n, none⟩ = some (.int .i64 tk) := by rw [(HG2.out.trans g3).cells _ _ hb5]; exact hc5
            obtain ⟨w4, hw4⟩ : ∃ w4, w3.setCell ⟨w2.heap.size, 0, none⟩ (.int .i64 tk) = w4 := ⟨_, rfl⟩
            have o4 : Owns w4 w2.heap.size [.int .i64 tk] 3 := hw4 ▸ o3.set 0 _
            have g4 : Grew w2 w4 := by rw [← hw4]; exact Below.setCell g3 (Nat.le_refl _) _
            have HG4 := Lib.hid (HG2.out.trans g4)
            have z2 := (HO2.out.keep g4).cell_at (i := 2) rfl
            have hFx := enters26
            unfold Enters at hFx
            have HIX := Lib.hid (pindexE_ok x.edges (fun e => e.tok == tk) 26 #[.pointer (some ⟨w2.heap.size, 0, none⟩)] enters26 w4 _ (by unfold reachN; omega) (HEV.out.grew (HG2.out.trans g4)) (fun i hi W' hg => pRun1_ok x.edges[i] tk W' _ ((o4.keep hg).cell_at (i := 0) rfl)))
            have HTK := Lib.hid htk
            have HO4 := Lib.hid o4
            have hR := HR.out.trans (runAt_tok HXX.out HKD.out hnl)
            rw [htk] at hR
            have hnl' : (n : Int) < (w.length : Int) := by omega
            have hnl2 : decide ((w.length : Int) < (n : Int)) = false := by simp; omega
            rcases stepE_ix (l := x.edges) (t := tk) with ⟨hi1, hi2⟩ | ⟨q, hq, hi1, hi2⟩
            · rw [hi1] at HIX
              rw [hi2] at hR
              have HX := Lib.hid (show runR a 0 0 w = (2, [], n) by rw [hR]; split <;> rfl)
              clear g3 o3 g4 o4 hi1 hi2 hR htk
              go_wp2_with fail
              refine HIX.out.mono ?_
              rintro e w5 ⟨rfl, hb⟩
              have HG5 := Lib.hid (HG4.out.trans hb)
              clear hb
              go_wp2_with fail
              go_ret3
              exact runIs_fail HX.out HG5.out
            · rw [hi1] at HIX
              rw [hi2] at hR
              have hq' : decide ((q : Int) < 0) = false := by simp
              obtain ⟨b6, off6, rfl, hb6, hd0, hd1⟩ := HEA.out q hq
              obtain ⟨tg, htg⟩ : ∃ tg, x.edges[q].tgt = tg := ⟨_, rfl⟩
              rw [htg] at hd1
              simp only [htg] at hR
              have htok : x.edges[q].tok = tk := (stepE_some hi2).2
              have HHD := Lib.hid hd1
              clear g3 o3 g4 o4 hi1 hi2 htk htg htok hd0 hd1 hc5
              have HRR := Lib.hid hR
              clear hR
              go_wp2_with fail
              refine HIX.out.mono ?_
              rintro e w5 ⟨rfl, hb⟩
              have HG5 := Lib.hid (HG4.out.trans hb)
              have v0 := (HO4.out.keep hb).cell_at (i := 0) rfl
              have v2 : w5.cell? ⟨wr.heap.size, 2, none⟩ = some (.slice (some ⟨b6, off6, none⟩) x.edges.length c2) := by rw [hb.cells _ _ (by have := HO4.out.lt; omega)]; exact z2
              have v3 : w5.cell? ⟨b6, off6 + q * 2 + 1, none⟩ = some (.int .i64 tg) := by rw [HG5.out.cells _ _ hb6]; exact HHD.out
              have HGR5 := Lib.hid (show Grew w1 w5 from HGR.out.trans ((hw2 ▸ grew_alloc wr _ : Grew wr w2).trans ((by rw [← hw4]; exact Below.setCell (hw3 ▸ grew_alloc w2 _ : Grew w2 w3) (Nat.le_refl _) _ : Grew w2 w4).trans hb)))
              clear hb z2 y0 y1 y2
              by_cases htn : tk < 0
              · have t3 : decide (tk < 0) = true := by simpa using htn
                have HX := Lib.hid (show runR a 0 0 w = (2, [], n) by rw [HRR.out, if_pos htn])
                clear htn
                go_wp2_with fail
                go_ret3
                exact runIs_fail HX.out HG5.out
              · have t3 : decide (tk < 0) = false := by simpa using htn
                have HX := Lib.hid (show runR a 0 0 w = runAt a w tg (n + 1) by rw [HRR.out, if_neg htn])
                clear htn
                go_wp2_with fail
                go_round
                case rel => exact ⟨n + 1, tg, by go_num, rfl, by omega, HX.out, HGR5.out⟩
                case measure => simp [intOf]; omega
          · -- no token is left: the end of input
            obtain ⟨w3, hw3⟩ : ∃ w3, w2.alloc (.cells #[.int .i64 (-1)] 3) = w3 := ⟨_, rfl⟩
            have g3 : Grew w2 w3 := hw3 ▸ grew_alloc w2 _
            have o3 : Owns w3 w2.heap.size [.int .i64 (-1)] 3 := hw3 ▸ Owns.alloc w2 _ _
            have HG4 := Lib.hid (HG2.out.trans g3)
            have z2 := (HO2.out.keep g3).cell_at (i := 2) rfl
            have hFx := enters26
            unfold Enters at hFx
            have HIX := Lib.hid (pindexE_ok x.edges (fun e => e.tok == -1) 26 #[.pointer (some ⟨w2.heap.size, 0, none⟩)] enters26 w3 _ (by unfold reachN; omega) (HEV.out.grew (HG2.out.trans g3)) (fun i hi W' hg => pRun1_ok x.edges[i] (-1) W' _ ((o3.keep hg).cell_at (i := 0) rfl)))
            have HO4 := Lib.hid o3
            have hnl' : decide ((n : Int) < (w.length : Int)) = false := by simp; omega
            clear g3 o3
            rcases stepE_ix (l := x.edges) (t := -1) with ⟨hi1, hi2⟩ | ⟨q, hq, hi1, hi2⟩
            · rw [hi1] at HIX
              have HX := Lib.hid (show runR a 0 0 w = (2, [], n) by
                by_cases e : n = w.length
                · subst e
                  rw [HR.out, runAt_end HXX.out HKD.out, hi2]
                · rw [HR.out, runAt_over HXX.out HKD.out (by omega)])
              clear hi1 hi2
              go_wp2_with fail
              refine HIX.out.mono ?_
              rintro e w5 ⟨rfl, hb⟩
              have HG5 := Lib.hid (HG4.out.trans hb)
              clear hb
              go_wp2_with fail
              go_ret3
              exact runIs_fail HX.out HG5.out
            · rw [hi1] at HIX
              have hq' : decide ((q : Int) < 0) = false := by simp
              obtain ⟨b6, off6, rfl, hb6, hd0, hd1⟩ := HEA.out q hq
              obtain ⟨tg, htg⟩ : ∃ tg, x.edges[q].tgt = tg := ⟨_, rfl⟩
              rw [htg] at hd1
              have HHD := Lib.hid hd1
              by_cases hover : w.length < n
              · have t3 : (w.length : Int) < (n : Int) := by omega
                have HX := Lib.hid (show runR a 0 0 w = (2, [], n) by rw [HR.out, runAt_over HXX.out HKD.out hover])
                clear hi1 hi2 htg hd0 hd1
                go_wp2_with fail
                refine HIX.out.mono ?_
                rintro e w5 ⟨rfl, hb⟩
                have HG5 := Lib.hid (HG4.out.trans hb)
                clear hb
                go_wp2_with fail
                go_ret3
                exact runIs_fail HX.out HG5.out
              · have hne : n = w.length := by omega
                have t3 : decide ((w.length : Int) < (n : Int)) = false := by simp; omega
                have HX := Lib.hid (show runR a 0 0 w = runAt a w tg (n + 1) by
                  subst hne
                  rw [HR.out, runAt_end HXX.out HKD.out, hi2]
                  simp only [htg])
                clear hi1 hi2 htg hd0 hd1 hne
                go_wp2_with fail
                refine HIX.out.mono ?_
                rintro e w5 ⟨rfl, hb⟩
                have HG5 := Lib.hid (HG4.out.trans hb)
                have v2 : w5.cell? ⟨wr.heap.size, 2, none⟩ = some (.slice (some ⟨b6, off6, none⟩) x.edges.length c2) := by rw [hb.cells _ _ (by have := HO4.out.lt; omega)]; exact z2
                have v3 : w5.cell? ⟨b6, off6 + q * 2 + 1, none⟩ = some (.int .i64 tg) := by rw [HG5.out.cells _ _ hb6]; exact HHD.out
                have HGR5 := Lib.hid (show Grew w1 w5 from HGR.out.trans ((hw2 ▸ grew_alloc wr _ : Grew wr w2).trans ((hw3 ▸ grew_alloc w2 _ : Grew w2 w3).trans hb)))
                clear hb z2
                go_wp2_with fail
                go_round
                case rel => exact ⟨n + 1, tg, by go_num, rfl, by omega, HX.out, HGR5.out⟩
                case measure => simp [intOf]; omega
        · have t2 : (x.kind != 0) = true := by simpa using hkd
          have HX := Lib.hid (HR.out.trans (runAt_tells HXX.out hkd))
          have HCL : Hid (∀ w, Grew w2 w → Calls Tryd.prog 24 #[.slice x1 x.alts.length n1] w (Cloned w 3 1 x.alts.length (intVs x.alts))) :=
            Lib.hid fun w hg => pcloneI_ok x.alts (by omega) w _ (HIV.out.grew (HG2.out.trans hg))
          clear hkd
          go_wp2_with fail
          refine wp_region_hav_lit follows (by kernel_rfl) ?_
          repeat (first
            | (refine HavG.skip (fun _ => rfl) ?_; simp only [Act.put, List.setIfInBounds_toArray, List.set_cons_zero, List.set_cons_succ])
            | (refine HavG.val (fun _ => rfl) ?_ (fun x w hw _ => ?_) ?_; rotate_left; (focus (have hc := hw.cells; clear hw; go_simp; first | done | rfl)); simp only [Act.put, List.setIfInBounds_toArray, List.set_cons_zero, List.set_cons_succ]))
          refine HavG.any (fun _ => rfl) (AltsR w2.heap.size x.alts) (fun _ _ _ hg h => h.keep hg) (fun x w hw _ => ?_) ?_
          · have HC := Lib.hid (HCL.out w hw)
            have HW := Lib.hid hw
            clear hw
            go_simp
            refine HC.out.mono ?_
            rintro e w' ⟨v, rfl, hv, hb⟩
            exact ⟨hb, hv.base HW.out.size⟩
          simp only [Act.put, List.setIfInBounds_toArray, List.set_cons_zero, List.set_cons_succ]
          refine HavG.any (fun _ => rfl) (AltsR w2.heap.size x.alts) (fun _ _ _ hg h => h.keep hg) (fun z w hw hd => ?_) ?_
          · have hd4 := hd _ (List.mem_append_right _ (List.mem_singleton.2 rfl)) (by kernel_rfl)
            dsimp only at hd4
            clear hd hw
            generalize z (0 + 1 + 1 + 1 + 1) = y4 at *
            have HC := Lib.hid (pclipI_ok w w2.heap.size x.alts.length y4 (intVs x.alts) (by omega) hd4)
            obtain ⟨ya, ym, yc, rfl⟩ := row_form hd4
            clear hd4
            go_simp
            refine HC.out.mono ?_
            rintro e w' ⟨⟨u, rfl, hu, _⟩, rfl⟩
            exact ⟨Grew.refl _, hu⟩
          simp only [Act.put, List.setIfInBounds_toArray, List.set_cons_zero, List.set_cons_succ]
          repeat (first
            | (refine HavG.skip (fun _ => rfl) ?_; simp only [Act.put, List.setIfInBounds_toArray, List.set_cons_zero, List.set_cons_succ])
            | (refine HavG.val (fun _ => rfl) ?_ (fun x w hw _ => ?_) ?_; rotate_left; (focus (have hc := hw.cells; clear hw; go_simp; first | done | rfl)); simp only [Act.put, List.setIfInBounds_toArray, List.set_cons_zero, List.set_cons_succ]))
          refine HavG.any (fun _ => rfl) (AltsR w2.heap.size x.alts) (fun _ _ _ hg h => h.keep hg) (fun z w hw hd => ?_) ?_
          · have hd5 := hd _ (List.mem_append_right _ (List.mem_singleton.2 rfl)) (by kernel_rfl)
            dsimp only at hd5
            clear hd hw
            generalize z (0 + 1 + 1 + 1 + 1 + 1) = y5 at *
            obtain ⟨ya, ym, yc, rfl⟩ := row_form hd5
            have H5 := Lib.hid hd5
            clear hd5
            go_simp
            exact ⟨Grew.refl _, H5.out⟩
          simp only [Act.put, List.setIfInBounds_toArray, List.set_cons_zero, List.set_cons_succ]
          repeat (first
            | (refine HavG.skip (fun _ => rfl) ?_; simp only [Act.put, List.setIfInBounds_toArray, List.set_cons_zero, List.set_cons_succ])
            | (refine HavG.val (fun _ => rfl) ?_ (fun x w hw _ => ?_) ?_; rotate_left; (focus (have hc := hw.cells; clear hw; go_simp; first | done | rfl)); simp only [Act.put, List.setIfInBounds_toArray, List.set_cons_zero, List.set_cons_succ]))
          refine HavG.tail (by kernel_rfl) (by kernel_rfl) (fun z w9 hw hx => ?_)
          have hx5 := hx _ (List.mem_append_right _ (List.mem_singleton.2 rfl))
          clear hx
          dsimp only at hx5
          generalize z (0 + 1 + 1 + 1 + 1) = y4 at *
          generalize z (0 + 1 + 1 + 1 + 1 + 1) = y5 at *
          generalize z (0 + 1 + 1 + 1 + 1 + 1 + 1 + 1 + 1) = y8 at *
          obtain ⟨ya, ym, yc, rfl⟩ := row_form hx5
          have H5 := Lib.hid (looseRow.base hx5 HG2.out.size)
          have HG9 := Lib.hid (HG2.out.trans hw)
          clear hx5 hw
          go_wp2_with fail
          go_ret3
          exact runIs_tells HX.out H5.out HG9.out
      · have t1 : decide ((a.length : Int) ≤ (i : Int)) = true := by simp; omega
        have hout : a.at? (i : Int) = none := by unfold Aut.at?; rw [if_neg hk0, Int.toNat_natCast, List.getElem?_eq_none (by omega)]
        have HX := Lib.hid (HR.out.trans (runAt_out hout))
        clear hout
        go_wp2_with fail
        go_ret3
        exact runIs_fail HX.out HGW.out
end Go.Proofs.YtogmlonhciiomaaDoor
