/- nulls.Reach. -/
import Derived.Test.YtkinlcichclnkaaDoorQT15
namespace Go.Proofs.YtkinlcichclnkaaDoor
open Go.RowKit

/-- what Reach answers -/
def ReachIs (g : Gr) (W : World) (e : Ending) (W' : World) : Prop :=
  ∃ B ob rb f es M, e = .returned (.slice (some ⟨rb, 0, none⟩) g.rules.length g.rules.length) ∧ g.IsEmpty es ∧ IsReach (g.Once es) g.rules.length M ∧
    Mat W' B ob rb g.rules.length g.rules.length f (fun i => M.getD i []) ∧ W.heap.size ≤ B ∧ W.heap.size ≤ rb ∧ Below W.heap.size W W'

set_option maxHeartbeats 16000000 in
set_option maxRecDepth 20000 in
theorem nreach_ok (g : Gr) (W : World) (v0 v1 v2 v3 : Value) (hn : g.rules.length ≤ 1048576) (hG : GrAt W W.heap.size (some v0) (some v1) (some v2) (some v3) g) :
    Calls Tryd.prog 44 #[.agg #[v0, v1, v2, v3]] W fun e W' => ReachIs g W e W' := by
  have hG' := hG
  obtain ⟨q1, q2, q3, q4, q5, q6, ra, rc, q7, q8, q9⟩ := hG'
  obtain rfl := Option.some.inj q1
  obtain rfl := Option.some.inj q3
  obtain rfl := Option.some.inj q4
  obtain rfl := Option.some.inj q7
  clear q1 q3 q4 q5 q6 q7
  have hgr := grew_alloc W (.cells #[.string g.name, .int .i64 g.bound, .int .i64 g.states, .slice ra g.rules.length rc] 26)
  have hK := Lib.hid (known_ok g _ _ _ _ _ ((hG.keep hgr).mono hgr.size))
  have hOg := Owns.alloc W [.string g.name, .int .i64 g.bound, .int .i64 g.states, .slice ra g.rules.length rc] 26
  have hmk := make_rows g.rules.length hn
  have hmb := make_bools g.rules.length q8
  have HGR := Lib.hid hgr
  have HOG := Lib.hid hOg
  have HR := Lib.hid q9
  clear hgr hOg q9 hG
  unfold reachN at q8 q2
  go_enter Tryd.func44, Tryd.ntmps44
  go_wp2_with fail
  refine hK.out.mono ?_
  rintro e w1 ⟨ab, eb, es, rfl, hes, hask0, hb1⟩
  have hsz1 : W.heap.size < w1.heap.size := by have := hb1.size; simp at this; omega
  have hbx : w1.cell? ⟨W.heap.size, 3, none⟩ = some (.slice ra g.rules.length rc) := by rw [Grew.cells hb1 _ _ HOG.out.lt]; exact HOG.out.cell_at rfl
  have hask : AskOwn w1 (W.heap.size + 1) ab eb g es := by simpa using hask0
  have HES := Lib.hid hes
  have HASK := Lib.hid hask
  have HB1 := Lib.hid hb1
  clear hes hask hask0 hb1 hK
  go_wp2_with fail
  have hal1 := Owns.alloc w1 (List.replicate g.rules.length (.slice none 0 0)) 52
  rw [List.toArray_replicate] at hal1
  have hal2 := Owns.alloc (w1.alloc (.cells (Array.replicate g.rules.length (.slice none 0 0)) 52)) [.slice (some ⟨w1.heap.size, 0, none⟩) g.rules.length g.rules.length] 101
  have hgA := (grew_alloc w1 (.cells (Array.replicate g.rules.length (.slice none 0 0)) 52)).trans (grew_alloc (w1.alloc (.cells (Array.replicate g.rules.length (.slice none 0 0)) 52)) (.cells #[.slice (some ⟨w1.heap.size, 0, none⟩) g.rules.length g.rules.length] 101))
  have hszA : ((w1.alloc (.cells (Array.replicate g.rules.length (.slice none 0 0)) 52)).alloc (.cells #[.slice (some ⟨w1.heap.size, 0, none⟩) g.rules.length g.rules.length] 101)).heap.size = w1.heap.size + 1 + 1 := by simp
  have e1 : (w1.alloc (.cells (Array.replicate g.rules.length (.slice none 0 0)) 52)).heap.size = w1.heap.size + 1 := by simp
  rw [e1] at hal2
  clear e1
  have hal1' := hal1.keep (grew_alloc (w1.alloc (.cells (Array.replicate g.rules.length (.slice none 0 0)) 52)) (.cells #[.slice (some ⟨w1.heap.size, 0, none⟩) g.rules.length g.rules.length] 101))
  have HA1 := Lib.hid hal1'
  have HA2 := Lib.hid hal2
  have HGA := Lib.hid hgA
  have HSZ := Lib.hid hszA
  clear hal1 hal1' hal2 hgA hszA
  have hbx2 : Hid (((w1.alloc (.cells (Array.replicate g.rules.length (.slice none 0 0)) 52)).alloc (.cells #[.slice (some ⟨w1.heap.size, 0, none⟩) g.rules.length g.rules.length] 101)).cell? ⟨W.heap.size, 3, none⟩ = some (.slice ra g.rules.length rc)) := by
    unfold Hid; rw [HGA.out.cells _ _ hsz1]; exact hbx
  have hask := HASK.out
  have hal := hask.ask.al
  have hel := hask.ask.bl
  clear hask
  generalize (w1.alloc (.cells (Array.replicate g.rules.length (.slice none 0 0)) 52)).alloc (.cells #[.slice (some ⟨w1.heap.size, 0, none⟩) g.rules.length g.rules.length] 101) = w2 at *
  go_loopw [19] (fun c wr => ∃ (j : Nat) (f : Nat → Nat) (row : Nat → List Bool), c = .int .i64 j ∧ j ≤ g.rules.length ∧ Hid (Mat wr (w1.heap.size + 1 + 1) (w1.heap.size + 1) w1.heap.size g.rules.length j f row) ∧ Hid (∀ k, k < j → row k = g.onceRow es k) ∧
    Hid (AskOwn wr (W.heap.size + 1) ab eb g es) ∧ Hid (Below W.heap.size W wr) ∧ w1.heap.size + 1 + 1 ≤ wr.heap.size ∧ Hid (wr.cell? ⟨W.heap.size, 3, none⟩ = some (.slice ra g.rules.length rc))) (fun c _ => g.rules.length - (intOf c).toNat)
  case atStart =>
    refine ⟨0, fun _ => 0, fun _ => [], rfl, by omega, ⟨HA2.out, by rw [rowsL_zero]; exact HA1.out, fun i hi => absurd hi (by omega), fun i hi => absurd hi (by omega), fun i k hi => absurd hi (by omega), fun i hi => absurd hi (by omega), by omega, by omega, by omega, by omega⟩, fun k hk => absurd hk (by omega), HASK.out.keep HGA.out, ?_, by rw [HSZ.out]; exact Nat.le_refl _, hbx2⟩
    exact (HGR.out.trans HB1.out).trans (HGA.out.mono (Nat.le_refl _))
  case round =>
    clear hbx hbx2 HA1 HA2 HGA HSZ HASK
    obtain ⟨j, f, row, rfl, hj, hmat, hrow, hask, hbw, hszr, hbx⟩ := hrel
    by_cases hlt : j < g.rules.length
    · obtain ⟨b, off, rfl, hb, hrule⟩ := (HR.out.keep hbw.out).get hlt
      simp only [Nat.zero_add] at hrule
      obtain ⟨u2, u3, u4, u5, u6, e0, e1, e2, e3, e4, e5, e6, e7, e8, e9, hrule, hnode⟩ := hrule.vals
      obtain ⟨bk, bnm, btx, bsa, bsl, bsc, bna, bnl, bnc, rfl, rfl, rfl, rfl, rfl⟩ := hnode.forms
      have HN := Lib.hid hnode
      clear hrule hnode
      have hg1 := grew_alloc wr (.cells #[.int .i64 (j : Int)] 3)
      have ho1 := Owns.alloc wr [.int .i64 (j : Int)] 3
      have hg2 := grew_alloc (wr.alloc (.cells #[.int .i64 (j : Int)] 3)) (.cells #[.string g.rules[j].name, .int .u8 g.rules[j].sort, .int .u8 bk, .string bnm, .string btx, .slice bsa bsl bsc, .slice bna bnl bnc, .int .i64 g.rules[j].p0, .int .i64 g.rules[j].p1, .int .i64 g.rules[j].p2] 38)
      have ho2 := Owns.alloc (wr.alloc (.cells #[.int .i64 (j : Int)] 3)) [.string g.rules[j].name, .int .u8 g.rules[j].sort, .int .u8 bk, .string bnm, .string btx, .slice bsa bsl bsc, .slice bna bnl bnc, .int .i64 g.rules[j].p0, .int .i64 g.rules[j].p1, .int .i64 g.rules[j].p2] 38
      have e1 : (wr.alloc (.cells #[.int .i64 (j : Int)] 3)).heap.size = wr.heap.size + 1 := by simp
      rw [e1] at ho2
      clear e1
      have HO1 := Lib.hid (ho1.keep hg2)
      have HG3 := Lib.hid (hg1.trans hg2)
      have r0 := ho2.cell_at (i := 0) rfl
      have r1 := ho2.cell_at (i := 1) rfl
      have r2 := ho2.cell_at (i := 2) rfl
      have r3 := ho2.cell_at (i := 3) rfl
      have r4 := ho2.cell_at (i := 4) rfl
      have r5 := ho2.cell_at (i := 5) rfl
      have r6 := ho2.cell_at (i := 6) rfl
      have r7 := ho2.cell_at (i := 7) rfl
      have r8 := ho2.cell_at (i := 8) rfl
      have r9 := ho2.cell_at (i := 9) rfl
      have rl := ho2.lt
      have HO2 := Lib.hid ho2
      have hszz : ((wr.alloc (.cells #[.int .i64 (j : Int)] 3)).alloc (.cells #[.string g.rules[j].name, .int .u8 g.rules[j].sort, .int .u8 bk, .string bnm, .string btx, .slice bsa bsl bsc, .slice bna bnl bnc, .int .i64 g.rules[j].p0, .int .i64 g.rules[j].p1, .int .i64 g.rules[j].p2] 38)).heap.size = wr.heap.size + 1 + 1 := by simp
      have HSZZ := Lib.hid hszz
      clear ho1 ho2 hg1 hg2 hszz
      go_wp2_with fail
      clear e0 e1 e2 e3 e4 e5 e6 e7 e8 e9
      generalize (wr.alloc (.cells #[.int .i64 (j : Int)] 3)).alloc (.cells #[.string g.rules[j].name, .int .u8 g.rules[j].sort, .int .u8 bk, .string bnm, .string btx, .slice bsa bsl bsc, .slice bna bnl bnc, .int .i64 g.rules[j].p0, .int .i64 g.rules[j].p1, .int .i64 g.rules[j].p2] 38) = w3 at *
      have hmat3 := hmat.out.keep HG3.out
      have ro := hmat3.o.cell_at (i := 0) rfl
      have ri := HO1.out.cell_at (i := 0) rfl
      have rol := hmat3.o.lt
      have ril := HO1.out.lt
      have rb3 : w3.cell? ⟨W.heap.size, 3, none⟩ = some (.slice (some ⟨b, off, none⟩) g.rules.length rc) := by rw [HG3.out.cells _ _ (by omega)]; exact hbx.out
      have rbl : W.heap.size < w3.heap.size := by have := HG3.out.size; omega
      have HM3 := Lib.hid hmat3
      clear hmat3
      refine wp_region_hav_lit follows (by kernel_rfl) ?_
      repeat (first
        | (refine HavG.skip (fun _ => rfl) ?_; simp only [Act.put, List.setIfInBounds_toArray, List.set_cons_zero, List.set_cons_succ])
        | (refine HavG.val (fun _ => rfl) ?_ (fun x w hw _ => ?_) ?_; rotate_left; (focus (have hc := hw.cells; clear hw; go_simp; first | done | rfl)); simp only [Act.put, List.setIfInBounds_toArray, List.set_cons_zero, List.set_cons_succ]))
      refine HavG.any (fun _ => rfl) (fun v w => ∃ t, v = .slice (some ⟨t, 0, none⟩) g.rules.length g.rules.length ∧ w3.heap.size ≤ t ∧ Owns w t (List.replicate g.rules.length (.bool false)) 4) ?_ (fun x w hw _ => ?_) ?_
      · rintro v w w' hg ⟨t, h1, h2, h3⟩
        exact ⟨t, h1, h2, h3.keep hg⟩
      · have HW := Lib.hid hw
        clear hw
        go_simp
        refine ⟨grew_alloc _ _, HW.out.size, ?_⟩
        have := Owns.alloc w (List.replicate g.rules.length (.bool false)) 4
        simpa using this
      simp only [Act.put, List.setIfInBounds_toArray, List.set_cons_zero, List.set_cons_succ]
      repeat (first
        | (refine HavG.skip (fun _ => rfl) ?_; simp only [Act.put, List.setIfInBounds_toArray, List.set_cons_zero, List.set_cons_succ])
        | (refine HavG.val (fun _ => rfl) ?_ (fun x w hw _ => ?_) ?_; rotate_left; (focus (have hc := hw.cells; clear hw; go_simp; first | done | rfl)); simp only [Act.put, List.setIfInBounds_toArray, List.set_cons_zero, List.set_cons_succ]))
      refine HavG.tail (by kernel_rfl) (by kernel_rfl) (fun x w hw hx => ?_)
      have hx' := hx _ (List.mem_append_right _ (List.mem_singleton.2 rfl))
      clear hx
      dsimp only at hx'
      generalize x (0 + 1 + 1 + 1 + 1 + 1) = y at *
      obtain ⟨t, rfl, htl, hot⟩ := hx'
      have hmw := HM3.out.keep hw
      have hcr : w.cell? ⟨w1.heap.size, j, none⟩ = some (.slice none 0 0) := by rw [hmw.r.cell, rowsL_at _ _ _ _ hlt]; simp
      have hfr := hmw.r.free j
      have hwz := hw.size
      have HW := Lib.hid hw
      have HMW := Lib.hid hmw
      have HOT := Lib.hid hot
      clear hw hmw hot
      go_wp2_with fail
      have hup : Upd w1.heap.size w (w.setCell ⟨w1.heap.size, j, none⟩ (.slice (some ⟨t, 0, none⟩) g.rules.length g.rules.length)) := (Upd.refl _ _).setCell _ _
      have hup3 : Upd w1.heap.size w3 (w.setCell ⟨w1.heap.size, j, none⟩ (.slice (some ⟨t, 0, none⟩) g.rules.length g.rules.length)) := (HW.out.upd _).trans hup
      have hsz4 := hup3.size
      have hne1 : wr.heap.size + 1 ≠ w1.heap.size := by omega
      have hne2 : wr.heap.size ≠ w1.heap.size := by omega
      have hne3 : w1.heap.size + 1 ≠ w1.heap.size := by omega
      have hne4 : t ≠ w1.heap.size := by omega
      have s0 := hup3.cell rl hne1 0
      have s1 := hup3.cell rl hne1 1
      have s2 := hup3.cell rl hne1 2
      have s3 := hup3.cell rl hne1 3
      have s4 := hup3.cell rl hne1 4
      have s5 := hup3.cell rl hne1 5
      have s6 := hup3.cell rl hne1 6
      have s7 := hup3.cell rl hne1 7
      have s8 := hup3.cell rl hne1 8
      have s9 := hup3.cell rl hne1 9
      rw [r0] at s0
      rw [r1] at s1
      rw [r2] at s2
      rw [r3] at s3
      rw [r4] at s4
      rw [r5] at s5
      rw [r6] at s6
      rw [r7] at s7
      rw [r8] at s8
      rw [r9] at s9
      have so := hup3.cell rol hne3 0
      rw [ro] at so
      have si := hup3.cell ril hne2 0
      rw [ri] at si
      have sr : (w.setCell ⟨w1.heap.size, j, none⟩ (.slice (some ⟨t, 0, none⟩) g.rules.length g.rules.length)).cell? ⟨w1.heap.size, j, none⟩ = some (.slice (some ⟨t, 0, none⟩) g.rules.length g.rules.length) := by
        rw [(HMW.out.r.set j _).cell]
        simp [rowsL, hlt]
      have sb := hup3.cell rbl (show W.heap.size ≠ w1.heap.size by omega) 3
      rw [rb3] at sb
      have ST := Lib.hid (HOT.out.upd hup hne4)
      have hask4 := (hask.out.keep HG3.out).upd hup3 (by omega) (by omega) (by omega)
      have HK4 := Lib.hid hask4
      have HRW := Lib.hid (RowAt.mk (i := j) (l := List.replicate g.rules.length false) so si sr (by simpa using ST.out) (by simp) hlt (by unfold reachN; omega) (by omega) (by omega) (by omega))
      have HUP := Lib.hid hup
      have HUP3 := Lib.hid hup3
      have rl4 : wr.heap.size + 1 < (w.setCell ⟨w1.heap.size, j, none⟩ (.slice (some ⟨t, 0, none⟩) g.rules.length g.rules.length)).heap.size := by omega
      have ol4 : w1.heap.size + 1 < (w.setCell ⟨w1.heap.size, j, none⟩ (.slice (some ⟨t, 0, none⟩) g.rules.length g.rules.length)).heap.size := by omega
      have il4 : wr.heap.size < (w.setCell ⟨w1.heap.size, j, none⟩ (.slice (some ⟨t, 0, none⟩) g.rules.length g.rules.length)).heap.size := by omega
      have HN4 := Lib.hid ((HN.out.keep ((HG3.out.mono (by omega)).trans (hup3.below (show W.heap.size ≤ w1.heap.size by omega) (by omega)))).mono (show W.heap.size ≤ W.heap.size + 1 by omega))
      have HNX := Lib.hid (fun (W' : World) (l : List Bool) hu ho hl => HMW.out.next (W' := W') (t := t) (l := l) hu ho hl (by omega) (fun i hi e => by have := (HM3.out.rows i hi).lt; omega) hlt)
      clear hup hup3 r0 r1 r2 r3 r4 r5 r6 r7 r8 r9 ro ri hcr hfr hask4 sr hmk hmb
      generalize w.setCell ⟨w1.heap.size, j, none⟩ (.slice (some ⟨t, 0, none⟩) g.rules.length g.rules.length) = w4 at *
      refine wp_region_hav_lit follows (by kernel_rfl) ?_
      repeat (first
        | (refine HavG.skip (fun _ => rfl) ?_; simp only [Act.put, List.setIfInBounds_toArray, List.set_cons_zero, List.set_cons_succ])
        | (refine HavG.val (fun _ => rfl) ?_ (fun x w hw _ => ?_) ?_; rotate_left; (focus (have hc := hw.cells; clear hw; go_simp; first | done | rfl)); simp only [Act.put, List.setIfInBounds_toArray, List.set_cons_zero, List.set_cons_succ]))
      refine HavG.det (fun _ => rfl) (.bool g.rules[j].token) (fun x w5 hw _ => ?_) ?_
      · have HW5 := Lib.hid hw
        clear hw
        go_simp
        refine (token_ok g.rules[j] _ _ _ _ _ _ _ _ _ _ _ rfl).mono ?_
        rintro e w6 ⟨rfl, hb6⟩
        exact ⟨rfl, hb6⟩
      simp only [Act.put, List.setIfInBounds_toArray, List.set_cons_zero, List.set_cons_succ]
      repeat (first
        | (refine HavG.skip (fun _ => rfl) ?_; simp only [Act.put, List.setIfInBounds_toArray, List.set_cons_zero, List.set_cons_succ])
        | (refine HavG.val (fun _ => rfl) ?_ (fun x w hw _ => ?_) ?_; rotate_left; (focus (have hc := hw.cells; clear hw; go_simp; first | done | rfl)); simp only [Act.put, List.setIfInBounds_toArray, List.set_cons_zero, List.set_cons_succ]))
      refine HavG.tail (by kernel_rfl) (by kernel_rfl) (fun x w5 hw _ => ?_)
      have hS := Lib.hid (reaches_ok g es g.rules[j].token g.rules[j].body w5 (W.heap.size + 1) ab eb (w1.heap.size + 1) wr.heap.size w1.heap.size t j (List.replicate g.rules.length false) _ _ _ _ _ (HK4.out.keep hw) (HN4.out.keep (hw.mono (by omega))) (HRW.out.keep hw) (by omega) (by omega) (by omega))
      have HW5 := Lib.hid hw
      have hw5z := hw.size
      clear hw
      go_wp2_with (go_at_call 56; refine hS.out.mono ?_; rintro e w6 ⟨rfl, hu6, ho6, hl6⟩; have HU6 := Lib.hid hu6; have HO6 := Lib.hid ho6; have HL6 := Lib.hid hl6; clear hu6 ho6 hl6)
      have hu46 : Upd t w4 w6 := (HW5.out.upd t).trans HU6.out
      have hz6 := hu46.size
      refine ⟨⟨j + 1, _, _, by go_num, by omega, HNX.out w6 _ hu46 HO6.out HL6.out, fun k hk => ?_, HK4.out.upd hu46 (by omega) (by omega) (by omega), ?_, by omega, ?_⟩, by simp [intOf]; omega⟩
      · split
        · rename_i e
          subst e
          simp [Gr.onceRow, hlt]
        · exact hrow.out k (by omega)
      · have a1 : Below W.heap.size wr w3 := HG3.out.mono (by omega)
        have a2 : Below W.heap.size w3 w4 := HUP3.out.below (by omega) (by omega)
        have a3 : Below W.heap.size w4 w6 := hu46.below (by omega) (by omega)
        exact ((hbw.out.trans a1).trans a2).trans a3
      · unfold Hid
        rw [hu46.cell (by omega) (by omega)]
        exact sb
    · have hjn : j = g.rules.length := by omega
      subst hjn
      have hmat0 := hmat.out
      have ho := hmat0.o.cell_at (i := 0) rfl
      have HM0 := Lib.hid hmat0
      clear hmat0
      go_wp2_with fail
      have hM0 : Mat wr (w1.heap.size + 1 + 1) (w1.heap.size + 1) w1.heap.size g.rules.length g.rules.length f (fun i => (g.onceM es).getD i []) := HM0.out.congr fun i hi => by
        rw [hrow.out i hi]
        simp [Gr.onceM, hi]
      have HM1 := Lib.hid hM0
      have HBW := Lib.hid hbw.out
      clear hM0 HM0 hmat hrow hask hbx hbw ho hmk hmb HR hj
      have hL := Lib.hid (Round.start (O := g.Once es) (onceM_square g es) (fun a b => Iff.rfl))
      go_loopw [41] (fun c wx => ∃ (q : Nat) (M : List (List Bool)), c = .int .i64 q ∧ q ≤ g.rules.length ∧ Hid (Mat wx (w1.heap.size + 1 + 1) (w1.heap.size + 1) w1.heap.size g.rules.length g.rules.length f (fun i => M.getD i [])) ∧ Hid (Round (g.Once es) g.rules.length M q 0 0) ∧ Hid (Below W.heap.size W wx)) (fun c _ => g.rules.length - (intOf c).toNat)
      case atStart => exact ⟨0, _, rfl, by omega, HM1.out, hL.out, HBW.out⟩
      case round =>
        clear HM1 hL HBW
        obtain ⟨q, M, rfl, hq, hM, hRo, hBw⟩ := hrel
        by_cases hqn : q < g.rules.length
        · have ho := hM.out.o.cell_at (i := 0) rfl
          obtain ⟨wq, rfl⟩ : ∃ wq : World, wq = wr := ⟨_, rfl⟩
          go_wp2_with fail
          clear ho
          go_loopw [46] (fun c wx => ∃ (i : Nat) (M : List (List Bool)), c = .int .i64 i ∧ i ≤ g.rules.length ∧ Hid (Mat wx (w1.heap.size + 1 + 1) (w1.heap.size + 1) w1.heap.size g.rules.length g.rules.length f (fun i => M.getD i [])) ∧ Hid (Round (g.Once es) g.rules.length M q i 0) ∧ Hid (Below W.heap.size W wx)) (fun c _ => g.rules.length - (intOf c).toNat)
          case atStart => exact ⟨0, _, rfl, by omega, hM.out, hRo.out, hBw.out⟩
          case round =>
            clear hM hRo hBw
            obtain ⟨i, M, rfl, hi, hM, hRo, hBw⟩ := hrel
            by_cases hin : i < g.rules.length
            · have ho := hM.out.o.cell_at (i := 0) rfl
              obtain ⟨wi, rfl⟩ : ∃ wi : World, wi = wr := ⟨_, rfl⟩
              go_wp2_with fail
              clear ho
              go_loopw [51] (fun c wx => ∃ (k : Nat) (M : List (List Bool)), c = .int .i64 k ∧ k ≤ g.rules.length ∧ Hid (Mat wx (w1.heap.size + 1 + 1) (w1.heap.size + 1) w1.heap.size g.rules.length g.rules.length f (fun i => M.getD i [])) ∧ Hid (Round (g.Once es) g.rules.length M q i k) ∧ Hid (Below W.heap.size W wx)) (fun c _ => g.rules.length - (intOf c).toNat)
              case atStart => exact ⟨0, _, rfl, by omega, hM.out, hRo.out, hBw.out⟩
              case round =>
                clear hM hRo hBw
                obtain ⟨k, M, rfl, hk, hM, hRo, hBw⟩ := hrel
                by_cases hkn : k < g.rules.length
                · have ho := hM.out.o.cell_at (i := 0) rfl
                  have hol := hM.out.o.lt
                  have hrl := hM.out.r.lt
                  have h1 := hM.out.row hin
                  have h2 := hM.out.row hqn
                  have h3 := hM.out.cell hin hkn
                  have h4 := hM.out.cell hin hqn
                  have h5 := hM.out.cell hqn hkn
                  have hl1 := (hM.out.rows i hin).lt
                  have hl2 := (hM.out.rows q hqn).lt
                  have hlo := hM.out.lo i hin
                  obtain ⟨ba, hba⟩ : ∃ ba, ba = at2 M i k := ⟨_, rfl⟩
                  obtain ⟨bb, hbb⟩ : ∃ bb, bb = at2 M i q := ⟨_, rfl⟩
                  obtain ⟨bc, hbc⟩ : ∃ bc, bc = at2 M q k := ⟨_, rfl⟩
                  rw [← hba] at h3
                  rw [← hbb] at h4
                  rw [← hbc] at h5
                  have hst := hRo.out.step hqn hin hkn
                  rw [← hba, ← hbb, ← hbc] at hst
                  have HST := Lib.hid hst
                  have hRs0 := hRo.out.1
                  clear hba hbb hbc hst hRo
                  go_wp2_with fail
                  refine wp_region_hav_lit follows (by kernel_rfl) ?_
                  have hRs := Lib.hid hRs0
                  clear hRs0
                  cases ba
                  · cases bb
                    · repeat (first
                        | (refine HavG.skip (fun _ => rfl) ?_; simp only [Act.put, List.setIfInBounds_toArray, List.set_cons_zero, List.set_cons_succ])
                        | (refine HavG.val (fun _ => rfl) ?_ (fun x w hw _ => ?_) ?_; rotate_left; (focus (have hc := hw.cells; clear hw; go_simp; first | done | rfl)); simp only [Act.put, List.setIfInBounds_toArray, List.set_cons_zero, List.set_cons_succ]))
                      refine HavG.tail (by kernel_rfl) (by kernel_rfl) (fun x w hw _ => ?_)
                      have hc := hw.cells
                      have hfr : w.frozen? ⟨f i, k, none⟩ = false := ((hM.out.keep hw).rows i hin).free k
                      have HW := Lib.hid hw
                      clear hw
                      go_wp2_with fail
                      exact ⟨⟨k + 1, _, by go_num, by omega, (hM.out.keep HW.out).put hRs.out hin _, HST.out, (hBw.out.trans (HW.out.mono (by have := hBw.out.size; omega))).setCell (by show W.heap.size ≤ f i; omega) _⟩, by simp [intOf]; omega⟩
                    · repeat (first
                        | (refine HavG.skip (fun _ => rfl) ?_; simp only [Act.put, List.setIfInBounds_toArray, List.set_cons_zero, List.set_cons_succ])
                        | (refine HavG.val (fun _ => rfl) ?_ (fun x w hw _ => ?_) ?_; rotate_left; (focus (have hc := hw.cells; clear hw; go_simp; first | done | rfl)); simp only [Act.put, List.setIfInBounds_toArray, List.set_cons_zero, List.set_cons_succ]))
                      refine HavG.tail (by kernel_rfl) (by kernel_rfl) (fun x w hw _ => ?_)
                      have hc := hw.cells
                      have hfr : w.frozen? ⟨f i, k, none⟩ = false := ((hM.out.keep hw).rows i hin).free k
                      have HW := Lib.hid hw
                      clear hw
                      go_wp2_with fail
                      exact ⟨⟨k + 1, _, by go_num, by omega, (hM.out.keep HW.out).put hRs.out hin _, HST.out, (hBw.out.trans (HW.out.mono (by have := hBw.out.size; omega))).setCell (by show W.heap.size ≤ f i; omega) _⟩, by simp [intOf]; omega⟩
                  · repeat (first
                      | (refine HavG.skip (fun _ => rfl) ?_; simp only [Act.put, List.setIfInBounds_toArray, List.set_cons_zero, List.set_cons_succ])
                      | (refine HavG.val (fun _ => rfl) ?_ (fun x w hw _ => ?_) ?_; rotate_left; (focus (have hc := hw.cells; clear hw; go_simp; first | done | rfl)); simp only [Act.put, List.setIfInBounds_toArray, List.set_cons_zero, List.set_cons_succ]))
                    refine HavG.tail (by kernel_rfl) (by kernel_rfl) (fun x w hw _ => ?_)
                    have hc := hw.cells
                    have hfr : w.frozen? ⟨f i, k, none⟩ = false := ((hM.out.keep hw).rows i hin).free k
                    have HW := Lib.hid hw
                    clear hw
                    go_wp2_with fail
                    exact ⟨⟨k + 1, _, by go_num, by omega, (hM.out.keep HW.out).put hRs.out hin _, HST.out, (hBw.out.trans (HW.out.mono (by have := hBw.out.size; omega))).setCell (by show W.heap.size ≤ f i; omega) _⟩, by simp [intOf]; omega⟩
                · have hkk : k = g.rules.length := by omega
                  subst hkk
                  go_wp2_with fail
                  exact ⟨⟨i + 1, M, by go_num, by omega, hM.out, hRo.out.row, hBw.out⟩, by simp [intOf]; omega⟩
            · have hii : i = g.rules.length := by omega
              subst hii
              go_wp2_with fail
              exact ⟨⟨q + 1, M, by go_num, by omega, hM.out, hRo.out.next, hBw.out⟩, by simp [intOf]; omega⟩
        · have hqq : q = g.rules.length := by omega
          subst hqq
          have ho := hM.out.o.cell_at (i := 0) rfl
          go_wp2_with fail
          go_ret
          exact ⟨_, _, _, f, es, M, rfl, HES.out, hRo.out.done (fun i k h => at2_lt (onceM_square g es) h), hM.out, by omega, by omega, hBw.out⟩
end Go.Proofs.YtkinlcichclnkaaDoor

/- nulls.Empty. -/
namespace Go.Proofs.YtkinlcichclnkaaDoor
open Go.RowKit

def EmptyIs (g : Gr) (W : World) (e : Ending) (W' : World) : Prop :=
  ∃ eb es, e = .returned (.slice (some ⟨eb, 0, none⟩) g.rules.length g.rules.length) ∧ g.IsEmpty es ∧ Owns W' eb (es.map .bool) 4 ∧ W.heap.size ≤ eb ∧ Below W.heap.size W W'

set_option maxRecDepth 20000 in
theorem empty_ok (g : Gr) (W : World) (v0 v1 v2 v3 : Value) (hG : GrAt W W.heap.size (some v0) (some v1) (some v2) (some v3) g) :
    Calls Tryd.prog 43 #[.agg #[v0, v1, v2, v3]] W fun e W' => EmptyIs g W e W' := by
  have hgr := grew_alloc W (.cells #[v0, v1, v2, v3] 26)
  have hK := Lib.hid (known_ok g _ _ _ _ _ ((hG.keep hgr).mono hgr.size))
  have HGR := Lib.hid hgr
  clear hgr hG
  go_enter Tryd.func43, Tryd.ntmps43
  go_wp2_with fail
  refine hK.out.mono ?_
  rintro e w1 ⟨ab, eb, es, rfl, hes, hask, hb1⟩
  have ha := hask.ask.ea
  have hle := hask.le
  have HES := Lib.hid hes
  have HO := Lib.hid hask.oe
  have HB := Lib.hid (HGR.out.trans hb1)
  simp at hle
  clear hes hask hb1
  go_wp2_with fail
  go_ret
  exact ⟨eb, es, rfl, HES.out, HO.out, by omega, HB.out⟩
end Go.Proofs.YtkinlcichclnkaaDoor
