/- ChecksFine: with any grammar laid in memory it answers true. -/
import Derived.Test.YtnopnihdobedcaaSound
import Derived.Test.YtnopnihdobedcaaLives6
import Derived.Test.YtnopnihdobedcaaGreat2
namespace Go.Proofs.Ytnopnihdobedcaa
open Go.RowKit

mutual
theorem all_cnt : ∀ n : Nd, n.all.length = n.cnt
  | .mk k nm tx set subs => by rw [Nd.all, Nd.cnt, List.length_cons, allL_cnt subs]; omega
theorem allL_cnt : ∀ l : List Nd, (Nd.allL l).length = Nd.cnts l
  | [] => by rw [Nd.allL, Nd.cnts]; rfl
  | n :: r => by rw [Nd.allL, Nd.cnts, List.length_append, all_cnt n, allL_cnt r]
end
theorem Gr.Fair.few {g : Gr} (h : g.Fair) : g.Few :=
  ⟨by have := h.len; omega, fun i hi => by
    have h1 := (h.rule i hi).1
    have h2 := Nd.cnt_le_total g.rules[i].body
    rw [all_cnt]
    omega⟩

/-- what is so of a grammar of which nothing is told -/
structure FineG (g : Gr) (es : List Bool) (M : List (List Bool)) : Prop where
  start : ¬ g.start < 0
  find : ∀ i (h : i < g.rules.length), g.find g.rules[i].name = (i : Int)
  some_ : ∀ i (h : i < g.rules.length), es.getD i false = true → g.rules[i].sort ≠ 1 ∧ g.rules[i].sort ≠ 3
  sound : ∀ i (h : i < g.rules.length), g.soundN es g.rules[i] g.rules[i].body = true
  order : (putAll (at2 M) g.rules.length (List.replicate g.rules.length false) g.rules.length).count true = g.rules.length
theorem fine_of {g : Gr} {es : List Bool} {M N : List (List Bool)} (hM : IsReach (g.Once es) g.rules.length M) (hN : IsReach g.rd0 g.rules.length N) (ht : g.told es (at2 M) (at2 N) = []) : FineG g es M := by
  unfold Gr.told at ht
  rw [List.append_eq_nil_iff] at ht
  have hq : ∀ i (h : i < g.rules.length), Quiet g es (at2 M) (at2 N) i g.rules[i] := fun i hi => quiet_of (by have := rulesTold_at g.rules 0 ht.1 i hi; rwa [Nat.zero_add] at this)
  refine ⟨fun h => ?_, fun i hi => fine_find hi (hq i hi), fun i hi => (hq i hi).some_, fun i hi => fine_sound (hq i hi), fine_order hq (fun i k => hM.tc i k) (fun i k h => (hN.tc i k).2 h)⟩
  have h2 := ht.2
  rw [if_pos h] at h2
  cases h2

/-- what is put in order, in block db; all else is as it was -/
structure PutAt (w7 : World) (db : Nat) (ds : List Bool) (wr : World) : Prop where
  own : Owns wr db (ds.map .bool) 4
  upd : Upd db w7 wr
theorem PutAt.cell {w7 wr : World} {db : Nat} {ds : List Bool} (h : PutAt w7 db ds wr) (i : Nat) (hi : i < ds.length) : wr.cell? ⟨db, i, none⟩ = some (.bool (ds.getD i false)) :=
  h.own.cell_at (by rw [List.getElem?_map, List.getElem?_eq_getElem hi, List.getD_eq_getElem?_getD, List.getElem?_eq_getElem hi]; rfl)
theorem PutAt.put {w7 wr : World} {db : Nat} {ds : List Bool} (h : PutAt w7 db ds wr) (i : Nat) : PutAt w7 db (ds.set i true) (wr.setCell ⟨db, i, none⟩ (.bool true)) :=
  ⟨by rw [List.map_set]; exact h.own.set i _, h.upd.setCell i _⟩
theorem putTo_len (r : Nat → Nat → Bool) (n : Nat) (ds : List Bool) (m : Nat) : (putTo r n ds m).length = ds.length := (putTo_le r n ds m).1.symm
theorem putAll_len (r : Nat → Nat → Bool) (n : Nat) (ds : List Bool) (m : Nat) : (putAll r n ds m).length = ds.length := (putAll_le r n ds m).1.symm
theorem putTo_succ (r : Nat → Nat → Bool) (n : Nat) (ds : List Bool) (m : Nat) : putTo r n ds (m + 1) = putOne r n (putTo r n ds m) m := rfl

set_option maxHeartbeats 8000000 in
set_option maxRecDepth 100000 in
theorem checksFine_ok (g : Gr) (W : World) (v0 v1 v2 v3 : Value) (hG : GrAt W W.heap.size (some v0) (some v1) (some v2) (some v3) g) :
    Calls Try.prog 5 #[.agg #[v0, v1, v2, v3]] W fun e W' => e = .returned (.bool true) ∧ Below W.heap.size W W' := by
  have hG' := hG
  obtain ⟨q1, q2, q3, q4, q5, q6, ra, rc, q7, q8, q9⟩ := hG'
  obtain rfl := Option.some.inj q1
  obtain rfl := Option.some.inj q3
  obtain rfl := Option.some.inj q4
  obtain rfl := Option.some.inj q7
  clear q1 q3 q4 q5 q6 q7
  have hg1 := grew_alloc W (.cells #[.string g.name, .int .i64 g.bound, .int .i64 g.states, .slice ra g.rules.length rc] 26)
  have ho1 := Owns.alloc W [.string g.name, .int .i64 g.bound, .int .i64 g.states, .slice ra g.rules.length rc] 26
  have HG1 := Lib.hid hg1
  have HO1 := Lib.hid ho1
  have HG := Lib.hid ((hG.keep hg1).mono hg1.size)
  have HQ9 := Lib.hid ((q9.keep hg1).mono hg1.size)
  have HGt := Lib.hid (great5_ok g _ _ _ _ _ HG.out)
  have hmb := Lib.hid (make_bools g.rules.length q8)
  unfold reachN at q8 q2
  have b0 := ho1.cell_at (i := 0) rfl
  have b1 := ho1.cell_at (i := 1) rfl
  have b2 := ho1.cell_at (i := 2) rfl
  have b3 := ho1.cell_at (i := 3) rfl
  have bl := ho1.lt
  clear hG hg1 ho1 q9
  go_enter Try.func5, Try.ntmps5
  go_wp2_with fail
  generalize W.alloc (.cells #[.string g.name, .int .i64 g.bound, .int .i64 g.states, .slice ra g.rules.length rc] 26) = w1 at *
  refine HGt.out.mono ?_
  rintro e w2 ⟨(rfl | ⟨rfl, hfair⟩), hb2⟩
  · have HW2 := Lib.hid (HG1.out.trans hb2)
    clear hb2
    go_wp2_with fail
    refine (lives6_ok _).mono ?_
    rintro e w3 ⟨rfl, hb3⟩
    go_wp2_with fail
    go_ret
    exact ⟨rfl, HW2.out.trans hb3⟩
  · have hw2 : Grew w1 w2 := hb2
    have hc2 := hw2.cells
    have HW2 := Lib.hid hw2
    have HFi := Lib.hid (cfine_ok g hfair.few w2 _ _ _ _ ((HG.out.keep hw2).mono hw2.size))
    have hlen := hfair.len
    clear hb2 hfair hw2
    go_wp2_with fail
    refine HFi.out.mono ?_
    rintro e w3 ⟨es, M, N, rfl, h1, h2, h3, hb3⟩
    have hw3 : Grew w1 w3 := HW2.out.trans hb3
    have HW3 := Lib.hid hw3
    have hc3 := hw3.cells
    have hz3 := hw3.size
    clear hc2 hb3 hw3
    cases ht : g.told es (at2 M) (at2 N) with
    | cons t ts =>
      clear ht h1 h2 h3
      go_wp2_with fail
      refine (lives6_ok _).mono ?_
      rintro e w4 ⟨rfl, hb4⟩
      go_wp2_with fail
      go_ret
      exact ⟨rfl, (HG1.out.trans HW3.out).trans hb4⟩
    | nil =>
      have HFG := Lib.hid (fine_of h2 h3 ht)
      have HES := Lib.hid h1
      have HMM := Lib.hid h2
      clear h1 h2 h3 ht
      have HR := Lib.hid (reach_ok g w3 _ _ _ _ (by omega) ((HG.out.keep HW3.out).mono HW3.out.size))
      go_wp2_with fail
      refine HR.out.mono ?_
      rintro e w4 ⟨B, ob, rb, f, es', M', rfl, hes', hre, hmat, hB, hrb, hb4⟩
      obtain rfl := HES.out.unique hes'
      have hMM : Hid (∀ i k, at2 M i k = at2 M' i k) := fun i k => by
        have h1 := HMM.out.tc i k
        have h2 := hre.tc i k
        cases ha : at2 M i k <;> cases hb : at2 M' i k <;> simp_all
      have hw4 : Grew w1 w4 := HW3.out.trans hb4
      have HW4 := Lib.hid hw4
      have HMT := Lib.hid hmat.matR
      have hc4 := hw4.cells
      have hz4 := hw4.size
      have HE := Lib.hid (empty_ok g w4 _ _ _ _ ((HG.out.keep hw4).mono hw4.size))
      clear hes' hre hmat hb4 hw4 hc3 HR
      go_wp2_with fail
      refine HE.out.mono ?_
      rintro e w5 ⟨eb, es', rfl, hes', hoe, hle, hb5⟩
      obtain rfl := HES.out.unique hes'
      have hw5 : Grew w1 w5 := HW4.out.trans hb5
      have HW5 := Lib.hid hw5
      have hc5 := hw5.cells
      have hz5 := hw5.size
      have HMT5 := Lib.hid (HMT.out.keep hb5)
      have HOE := Lib.hid hoe
      have HS := Lib.hid (start_ok g w5 _ _ _ _ ((HG.out.keep hw5).mono hw5.size))
      have hst : decide (g.start < 0) = false := decide_eq_false HFG.out.start
      clear hes' hoe hb5 hw5 hc4 HE HMT
      go_wp2_with fail
      refine HS.out.mono ?_
      rintro e w6 ⟨rfl, hb6⟩
      have hw6 : Grew w1 w6 := HW5.out.trans hb6
      have HW6 := Lib.hid hw6
      have hc6 := hw6.cells
      have hz6 := hw6.size
      have HMT6 := Lib.hid (HMT5.out.keep hb6)
      have HOE6 := Lib.hid (HOE.out.keep hb6)
      have hmb' := hmb.out
      clear hb6 hw6 hc5 HMT5 HOE HS
      go_wp2_with fail
      have ho7 := Owns.alloc w6 ((List.replicate g.rules.length false).map .bool) 4
      have hg7 := grew_alloc w6 (.cells ((List.replicate g.rules.length false).map Value.bool).toArray 4)
      rw [List.map_replicate, List.toArray_replicate] at ho7 hg7
      have hP0 : Hid (PutAt (w6.alloc (.cells (Array.replicate g.rules.length (Value.bool false)) 4)) w6.heap.size (List.replicate g.rules.length false) (w6.alloc (.cells (Array.replicate g.rules.length (Value.bool false)) 4))) := ⟨by rw [List.map_replicate]; exact ho7, Upd.refl _ _⟩
      have hMT7 : Hid (MatR (w6.alloc (.cells (Array.replicate g.rules.length (Value.bool false)) 4)) B rb g.rules.length g.rules.length f (fun i => M'.getD i [])) := HMT6.out.keep hg7
      have hOE7 : Hid (Owns (w6.alloc (.cells (Array.replicate g.rules.length (Value.bool false)) 4)) eb (es.map .bool) 4) := HOE6.out.keep hg7
      have hW7 : Hid (Grew w1 (w6.alloc (.cells (Array.replicate g.rules.length (Value.bool false)) 4))) := HW6.out.trans hg7
      have hrows : Hid (∀ i, i < g.rules.length → f i < w6.heap.size) := fun i hi => (HMT6.out.rows i hi).lt
      have hebl := HOE6.out.lt
      have hrbl := HMT6.out.r.lt
      have hbx6 : W.heap.size < w6.heap.size := by omega
      have hsz7 : w6.heap.size < (w6.alloc (.cells (Array.replicate g.rules.length (Value.bool false)) 4)).heap.size := by simp
      clear ho7 hg7 HMT6 HOE6 HW6 hc6
      generalize w6.alloc (.cells (Array.replicate g.rules.length (Value.bool false)) 4) = w7 at *
      generalize hdb : w6.heap.size = db at *
      clear hdb
      have hcnt : Hid (∀ ds : List Bool, ds.length = g.rules.length → ds.count true ≤ g.rules.length) := fun ds h => by rw [← h]; exact List.count_le_length
      clear b0 b1 b2 b3 bl
      go_loopw [6, 7] (fun lf c1 wr => ∃ (q : Nat) (ds : List Bool), c1 = .int .i64 q ∧ q ≤ g.rules.length ∧ lf = .int .i64 ((g.rules.length : Int) - (ds.count true : Int)) ∧ ds.length = g.rules.length ∧ Hid (ds = putAll (at2 M') g.rules.length (List.replicate g.rules.length false) q) ∧ Hid (PutAt w7 db ds wr)) (fun _ c1 _ => g.rules.length - (intOf c1).toNat)
      case atStart => exact ⟨0, List.replicate g.rules.length false, rfl, by omega, by rw [show (List.replicate g.rules.length false).count true = 0 from List.count_eq_zero.2 (by simp)]; go_num, by simp, rfl, hP0.out⟩
      case round =>
        obtain ⟨q, ds, rfl, hq, rfl, hdl, hds, hP⟩ := hrel
        by_cases hqn : q < g.rules.length
        · obtain ⟨wq, rfl⟩ : ∃ wq : World, wq = wr := ⟨_, rfl⟩
          have HDL := Lib.hid hdl
          clear hdl
          go_wp2_with fail
          go_loopw [6, 8] (fun lf c1 wr => ∃ (i : Nat) (dt : List Bool), c1 = .int .i64 i ∧ i ≤ g.rules.length ∧ lf = .int .i64 ((g.rules.length : Int) - (dt.count true : Int)) ∧ dt.length = g.rules.length ∧ Hid (dt = putTo (at2 M') g.rules.length ds i) ∧ Hid (PutAt w7 db dt wr)) (fun _ c1 _ => g.rules.length - (intOf c1).toNat)
          case atStart => exact ⟨0, ds, rfl, by omega, rfl, HDL.out, rfl, hP.out⟩
          case round =>
            clear hP
            obtain ⟨i, dt, rfl, hi, rfl, hdl, hdt, hP⟩ := hrel
            by_cases hin : i < g.rules.length
            · obtain ⟨wi, rfl⟩ : ∃ wi : World, wi = wr := ⟨_, rfl⟩
              have x0 := hP.out.cell i (by omega)
              have xl := hP.out.own.lt
              obtain ⟨d0, hd0⟩ : ∃ d0, dt.getD i false = d0 := ⟨_, rfl⟩
              rw [hd0] at x0
              have HD0 := Lib.hid hd0
              have HDT := Lib.hid hdl
              clear hd0 hdl
              go_wp2_with fail
              clear x0
              go_loopw [9, 10] (fun rd c1 wr => ∃ (k : Nat), c1 = .int .i64 k ∧ k ≤ g.rules.length ∧ rd = .bool (readyTo (at2 M') dt i k) ∧ wr = wi) (fun _ c1 _ => g.rules.length - (intOf c1).toNat)
              case atStart => exact ⟨0, rfl, by omega, by rw [readyTo, HD0.out], rfl⟩
              case round =>
                obtain ⟨k, rfl, hk, rfl, rfl⟩ := hrel
                by_cases hkn : k < g.rules.length
                · have y1 := hP.out.upd.cell (b := rb) (by omega) (by omega) i
                  rw [hMT7.out.row hin] at y1
                  have hfl := hrows.out i hin
                  have y2 := hP.out.upd.cell (b := f i) (by omega) (by omega) k
                  rw [hMT7.out.cell hin hkn] at y2
                  have y3 := hP.out.cell k (by have := HDT.out; omega)
                  have hst : Hid (readyTo (at2 M') dt i (k + 1) = (readyTo (at2 M') dt i k && (!at2 M' i k || dt.getD k false))) := rfl
                  generalize readyTo (at2 M') dt i k = r1 at *
                  generalize at2 M' i k = r2 at *
                  generalize dt.getD k false = r3 at *
                  cases r1
                  · as_aux_lemma =>
                      go_wp2_with fail
                      exact ⟨⟨k + 1, by go_num, by omega, by rw [hst.out]; rfl, by first | rfl | trivial⟩, by simp [intOf]; omega⟩
                  · as_aux_lemma =>
                      cases r2
                      · go_wp2_with fail
                        exact ⟨⟨k + 1, by go_num, by omega, by rw [hst.out]; rfl, by first | rfl | trivial⟩, by simp [intOf]; omega⟩
                      · go_wp2_with fail
                        exact ⟨⟨k + 1, by go_num, by omega, by rw [hst.out]; simp, by first | rfl | trivial⟩, by simp [intOf]; omega⟩
                · have hkk : k = g.rules.length := by omega
                  subst hkk
                  have hlen2 := hcnt.out dt HDT.out
                  have x0 := hP.out.cell i (by have := HDT.out; omega)
                  have xf := hP.out.own.free i
                  have hone : Hid (putTo (at2 M') g.rules.length ds (i + 1) = putOne (at2 M') g.rules.length dt i) := by unfold Hid; rw [putTo_succ, ← hdt.out]
                  have hpc := putOne_count (at2 M') g.rules.length dt i (by have := HDT.out; omega)
                  have hpl := (putOne_le (at2 M') g.rules.length dt i).1
                  have hpo : putOne (at2 M') g.rules.length dt i = if readyTo (at2 M') dt i g.rules.length then dt.set i true else dt := rfl
                  have hlen3 := hcnt.out (putOne (at2 M') g.rules.length dt i) (by rw [← hpl]; exact HDT.out)
                  generalize readyTo (at2 M') dt i g.rules.length = r1 at *
                  cases r1
                  · as_aux_lemma =>
                      rw [if_neg (by simp)] at hpo
                      have HPO := Lib.hid hpo
                      clear hpo hpc hpl hlen3
                      go_wp2_with fail
                      exact ⟨⟨i + 1, dt, by go_num, by omega, rfl, HDT.out, by unfold Hid; rw [hone.out, HPO.out], hP.out⟩, by simp [intOf]; omega⟩
                  · as_aux_lemma =>
                      rw [if_pos rfl] at hpo hpc
                      have HPO := Lib.hid hpo
                      have HPC := Lib.hid hpc
                      rw [hpc] at hlen3
                      clear hpo hpc hpl
                      go_wp2_with fail
                      refine ⟨⟨i + 1, dt.set i true, by go_num, by omega, ?_, by simp; exact HDT.out, by unfold Hid; rw [hone.out, HPO.out], hP.out.put i⟩, by simp [intOf]; omega⟩
                      have := HPC.out
                      rw [HPO.out] at this
                      rw [this]
                      go_num
            · have hii : i = g.rules.length := by omega
              subst hii
              have hlen2 := hcnt.out dt hdl
              have HDT := Lib.hid hdl
              clear hdl
              go_wp2_with fail
              exact ⟨⟨q + 1, dt, by go_num, by omega, rfl, HDT.out, by unfold Hid; rw [putAll, ← hds.out, hdt.out], hP.out⟩, by simp [intOf]; omega⟩
        · have hqq : q = g.rules.length := by omega
          subst hqq
          have hall : ds.count true = g.rules.length := by
            rw [hds.out]
            have := HFG.out.order
            have hM2 : at2 M = at2 M' := funext fun i => funext fun k => hMM.out i k
            rw [hM2] at this
            exact this
          rw [hall]
          have h00 : (g.rules.length : Int) - (g.rules.length : Int) = 0 := by omega
          rw [h00]
          clear hall h00 hds hdl
          go_wp2_with fail
          obtain ⟨wz, rfl⟩ : ∃ z : World, z = wr := ⟨_, rfl⟩
          have hGz : Hid (Grew w1 wz) := by
            have h1 : Below w1.heap.size w1 w7 := hW7.out
            exact h1.trans (hP.out.upd.below (by omega) (by have := h1.size; omega))
          have hOz := Lib.hid (hOE7.out.upd hP.out.upd (by omega))
          clear hP hP0 hMT7 hOE7 hW7
          go_loopw [11] (fun v wx => ∃ (j : Nat), v = .int .i64 j ∧ j ≤ g.rules.length ∧ Hid (Grew w1 wx) ∧ Hid (Owns wx eb (es.map .bool) 4)) (fun v _ => g.rules.length - (intOf v).toNat)
          case atStart => exact ⟨0, rfl, by omega, hGz.out, hOz.out⟩
          case round =>
            clear hGz hOz
            obtain ⟨j, rfl, hj, hwx, hox⟩ := hrel
            have hbx := HO1.out.keep hwx.out
            have c0 := hbx.cell_at (i := 0) rfl
            have c1 := hbx.cell_at (i := 1) rfl
            have c2 := hbx.cell_at (i := 2) rfl
            have c3 := hbx.cell_at (i := 3) rfl
            have cl := hbx.lt
            by_cases hlt : j < g.rules.length
            · as_aux_lemma =>
                obtain ⟨rb2, ro2, rfl, hrb2, hrule⟩ := (HQ9.out.keep hwx.out).get hlt
                simp only [Nat.zero_add] at hrule
                obtain ⟨u2, u3, u4, u5, u6, e0, e1, e2, e3, e4, e5, e6, e7, e8, e9, hrule, hnode⟩ := hrule.vals
                obtain ⟨bk, bnm, btx, bsa, bsl, bsc, bna, bnl, bnc, rfl, rfl, rfl, rfl, rfl⟩ := hnode.forms
                have hrl : rb2 < wr.heap.size := by have := hwx.out.size; omega
                have hel : es.length = g.rules.length := HES.out.sound.1
                have ce : wr.cell? ⟨eb, j, none⟩ = some (.bool (es.getD j false)) := hox.out.cell_at (by rw [List.getElem?_map, List.getElem?_eq_getElem (by omega), List.getD_eq_getElem?_getD, List.getElem?_eq_getElem (by omega)]; rfl)
                have cel := hox.out.lt
                have hsome := HFG.out.some_ j hlt
                have HF := Lib.hid (fun w (hw : Grew wr w) => find_ok g g.rules[j].name w _ _ _ _ ((HG.out.keep (hwx.out.trans hw)).mono (hwx.out.trans hw).size))
                rw [HFG.out.find j hlt] at HF
                have HSo := Lib.hid (fun w (hw : Grew wr w) => sound6_ok g es HES.out j hlt g.rules[j].body w _ _ _ _ _ _ _ _ _ ((HG.out.keep (hwx.out.trans hw)).mono (hwx.out.trans hw).size) ((hnode.keep (hw.mono (by have := hwx.out.size; omega))).mono (by have := hwx.out.size; have := hw.size; omega)))
                rw [HFG.out.sound j hlt] at HSo
                clear hrule hnode hbx hel
                have HES2 := Lib.hid hsome
                clear hsome
                go_wp2_with fail
                generalize es.getD j false = ee at *
                cases ee
                · as_aux_lemma =>
                    refine wp_region_hav_lit follows (by kernel_rfl) ?_
                    repeat (first
                      | (refine HavG.skip (fun _ => rfl) ?_; simp only [Act.put, List.setIfInBounds_toArray, List.set_cons_zero, List.set_cons_succ])
                      | (refine HavG.val (fun _ => rfl) ?_ (fun x w hw _ => ?_) ?_; rotate_left; (focus (have hc := hw.cells; clear hw; go_simp; first | done | rfl)); simp only [Act.put, List.setIfInBounds_toArray, List.set_cons_zero, List.set_cons_succ]))
                    refine HavG.det (fun _ => rfl) (.int .i64 (j : Int)) (fun x w hw _ => ?_) ?_
                    · have HW := Lib.hid hw
                      clear hw
                      go_simp
                      refine (HF.out _ HW.out).mono ?_
                      rintro e w' ⟨rfl, hb⟩
                      exact ⟨rfl, hb⟩
                    simp only [Act.put, List.setIfInBounds_toArray, List.set_cons_zero, List.set_cons_succ]
                    repeat (first
                      | (refine HavG.skip (fun _ => rfl) ?_; simp only [Act.put, List.setIfInBounds_toArray, List.set_cons_zero, List.set_cons_succ])
                      | (refine HavG.val (fun _ => rfl) ?_ (fun x w hw _ => ?_) ?_; rotate_left; (focus (have hc := hw.cells; clear hw; go_simp; first | done | rfl)); simp only [Act.put, List.setIfInBounds_toArray, List.set_cons_zero, List.set_cons_succ]))
                    refine HavG.det (fun _ => rfl) (.bool true) (fun x w hw _ => ?_) ?_
                    · have HW := Lib.hid hw
                      clear hw
                      go_simp
                      refine (HSo.out _ HW.out).mono ?_
                      rintro e w' ⟨rfl, hb⟩
                      exact ⟨rfl, hb⟩
                    simp only [Act.put, List.setIfInBounds_toArray, List.set_cons_zero, List.set_cons_succ]
                    repeat (first
                      | (refine HavG.skip (fun _ => rfl) ?_; simp only [Act.put, List.setIfInBounds_toArray, List.set_cons_zero, List.set_cons_succ])
                      | (refine HavG.val (fun _ => rfl) ?_ (fun x w hw _ => ?_) ?_; rotate_left; (focus (have hc := hw.cells; clear hw; go_simp; first | done | rfl)); simp only [Act.put, List.setIfInBounds_toArray, List.set_cons_zero, List.set_cons_succ]))
                    refine HavG.tail (by kernel_rfl) (by kernel_rfl) (fun x wy hw _ => ?_)
                    have HWY := Lib.hid (hwx.out.trans hw)
                    have HOY := Lib.hid (hox.out.keep hw)
                    clear hw
                    go_wp2_with fail
                    exact ⟨⟨j + 1, by go_num, by omega, HWY.out, HOY.out⟩, by simp [intOf]; omega⟩
                · as_aux_lemma =>
                    obtain ⟨hs1, hs3⟩ := HES2.out rfl
                    have s1 : (g.rules[j].sort == 1) = false := beq_eq_false_iff_ne.2 hs1
                    have s3 : (g.rules[j].sort == 3) = false := beq_eq_false_iff_ne.2 hs3
                    refine wp_region_hav_lit follows (by kernel_rfl) ?_
                    repeat (first
                      | (refine HavG.skip (fun _ => rfl) ?_; simp only [Act.put, List.setIfInBounds_toArray, List.set_cons_zero, List.set_cons_succ])
                      | (refine HavG.val (fun _ => rfl) ?_ (fun x w hw _ => ?_) ?_; rotate_left; (focus (have hc := hw.cells; clear hw; go_simp; first | done | rfl)); simp only [Act.put, List.setIfInBounds_toArray, List.set_cons_zero, List.set_cons_succ]))
                    refine HavG.det (fun _ => rfl) (.int .i64 (j : Int)) (fun x w hw _ => ?_) ?_
                    · have HW := Lib.hid hw
                      clear hw
                      go_simp
                      refine (HF.out _ HW.out).mono ?_
                      rintro e w' ⟨rfl, hb⟩
                      exact ⟨rfl, hb⟩
                    simp only [Act.put, List.setIfInBounds_toArray, List.set_cons_zero, List.set_cons_succ]
                    repeat (first
                      | (refine HavG.skip (fun _ => rfl) ?_; simp only [Act.put, List.setIfInBounds_toArray, List.set_cons_zero, List.set_cons_succ])
                      | (refine HavG.val (fun _ => rfl) ?_ (fun x w hw _ => ?_) ?_; rotate_left; (focus (have hc := hw.cells; clear hw; go_simp; first | done | rfl)); simp only [Act.put, List.setIfInBounds_toArray, List.set_cons_zero, List.set_cons_succ]))
                    refine HavG.det (fun _ => rfl) (.bool true) (fun x w hw _ => ?_) ?_
                    · have HW := Lib.hid hw
                      clear hw
                      go_simp
                      refine (HSo.out _ HW.out).mono ?_
                      rintro e w' ⟨rfl, hb⟩
                      exact ⟨rfl, hb⟩
                    simp only [Act.put, List.setIfInBounds_toArray, List.set_cons_zero, List.set_cons_succ]
                    repeat (first
                      | (refine HavG.skip (fun _ => rfl) ?_; simp only [Act.put, List.setIfInBounds_toArray, List.set_cons_zero, List.set_cons_succ])
                      | (refine HavG.val (fun _ => rfl) ?_ (fun x w hw _ => ?_) ?_; rotate_left; (focus (have hc := hw.cells; clear hw; go_simp; first | done | rfl)); simp only [Act.put, List.setIfInBounds_toArray, List.set_cons_zero, List.set_cons_succ]))
                    refine HavG.tail (by kernel_rfl) (by kernel_rfl) (fun x wy hw _ => ?_)
                    have HWY := Lib.hid (hwx.out.trans hw)
                    have HOY := Lib.hid (hox.out.keep hw)
                    clear hw
                    go_wp2_with fail
                    exact ⟨⟨j + 1, by go_num, by omega, HWY.out, HOY.out⟩, by simp [intOf]; omega⟩
            · as_aux_lemma =>
                go_wp2_with fail
                refine (lives6_ok _).mono ?_
                rintro e w9 ⟨rfl, hb9⟩
                go_wp2_with fail
                go_ret
                exact ⟨rfl, (HG1.out.trans hwx.out).trans hb9⟩
end Go.Proofs.Ytnopnihdobedcaa
