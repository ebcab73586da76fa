/- (atns.State).may: the function itself. -/
import Derived.Laws.EntriesVeiled
import Derived.Test.YtiiffcmojkdlaaaGreatDoorQ20
import Derived.Test.YtiiffcmojkdlaaaGreatDoorQ29
namespace Go.Proofs.YtiiffcmojkdlaaaGreatDoor
open Go.RowKit

theorem all_upto {α : Type} {l : List α} {q : α → Bool} (h : ∀ i (hi : i < l.length), q l[i] = true) : l.all q = true := by
  rw [List.all_eq_true]
  intro x hx
  obtain ⟨i, hi, rfl⟩ := List.mem_iff_getElem.1 hx
  exact h i hi
theorem all_not {α : Type} {l : List α} {q : α → Bool} {i : Nat} (hi : i < l.length) (h : q l[i] = false) : l.all q = false := by
  rw [List.all_eq_false]
  exact ⟨l[i], List.getElem_mem hi, by rw [h]; simp⟩

/-- the three boxes: the state, the net, the function -/
structure SmayAt (N : Net) (W w : World) (s : Sta) (ea : Option Addr) (ec : Nat) (na : Option Addr) (nc : Nat) (n0 n1 n2 n3 n4 v0 v2 : Value) : Prop where
  low : Grew W w
  bs : Owns w W.heap.size [v0, .slice ea s.edges.length ec, v2] 41
  bn : Owns w (W.heap.size + 1) [n0, n1, n2, n3, n4] 32
  bf : Owns w (W.heap.size + 1 + 1) [.func (.func 46) #[] #[.pointer (some ⟨W.heap.size + 1, 0, none⟩)]] 70
theorem SmayAt.grew {N : Net} {W w w' : World} {s : Sta} {ea na : Option Addr} {ec nc : Nat} {n0 n1 n2 n3 n4 v0 v2 : Value} (h : SmayAt N W w s ea ec na nc n0 n1 n2 n3 n4 v0 v2) (hg : Grew w w') : SmayAt N W w' s ea ec na nc n0 n1 n2 n3 n4 v0 v2 :=
  ⟨h.low.trans hg, h.bs.keep hg, h.bn.keep hg, h.bf.keep hg⟩

theorem asks3 {w : World} {fb : Nat} (h : Owns w fb [.func (.func 47) #[] #[]] 94) (l : List Edg) : AskEdges 49 #[.pointer (some ⟨fb, 0, none⟩)] w l (fun e => !(e.kind == 0)) :=
  fun i hi W' hg => smay3_ok l[i] fb W' ((h.keep hg).cell_at (i := 0) rfl)
theorem asks4 {N : Net} {W w : World} {s : Sta} {ea na : Option Addr} {ec nc : Nat} {n1 n2 n3 n4 v0 v2 : Value} (h : SmayAt N W w s ea ec na nc (.slice na N.states.length nc) n1 n2 n3 n4 v0 v2) (l : List Int) :
    AskInts 50 #[.pointer (some ⟨W.heap.size + 1 + 1, 0, none⟩)] w l (fun i => !okN N.states.length i) :=
  fun i hi W' hg => smay4_ok l[i] (W.heap.size + 1 + 1) (W.heap.size + 1) N.states.length nc na W' (((h.grew hg).bn).cell_at (i := 0) rfl) (((h.grew hg).bf).cell_at (i := 0) rfl)

set_option maxHeartbeats 2000000 in
set_option maxRecDepth 20000 in
theorem smay_ok (N : Net) (s : Sta) (W : World) (n0 n1 n2 n3 n4 v0 v1 v2 : Value) (hB : NetAt W W.heap.size n0 n1 n2 n3 n4 N) (hS : SttAt W W.heap.size (some v0) (some v1) (some v2) s)
    (_ : N.states.length ≤ 1000000) (_ : N.starts.length ≤ 1000000) (_ : N.preds.length ≤ 1000000) (h4 : s.edges.length ≤ 1000000000) (h5 : s.ends.length ≤ 1000000000) :
    Calls Tryz.prog 26 #[.agg #[v0, v1, v2], .agg #[n0, n1, n2, n3, n4]] W fun e W' => e = .returned (.bool (s.mayB N)) ∧ Grew W W' := by
  obtain ⟨hr, ⟨ea, ec, he, hE⟩, za, zc, hz, hZ⟩ := hS
  cases hr
  cases he
  cases hz
  obtain ⟨na, nc, rfl, hN0⟩ := hB.states
  obtain ⟨ta, tc, rfl, hT⟩ := hB.starts
  obtain ⟨ua, uc, rfl, hU⟩ := hB.stops
  obtain ⟨pa, pc, rfl, hP⟩ := hB.preds
  obtain ⟨da, dc, rfl, hD⟩ := hB.decisions
  have g1 := grew_alloc W (.cells #[.int .i64 s.rule, .slice ea s.edges.length ec, .slice za s.ends.length zc] 41)
  have o1 := Owns.alloc W [.int .i64 s.rule, .slice ea s.edges.length ec, .slice za s.ends.length zc] 41
  have g2 := grew_alloc (W.alloc (.cells #[.int .i64 s.rule, .slice ea s.edges.length ec, .slice za s.ends.length zc] 41)) (.cells #[.slice na N.states.length nc, .slice ta N.starts.length tc, .slice ua N.stops.length uc, .slice pa N.preds.length pc, .slice da N.decisions.length dc] 32)
  have o2 := Owns.alloc (W.alloc (.cells #[.int .i64 s.rule, .slice ea s.edges.length ec, .slice za s.ends.length zc] 41)) [.slice na N.states.length nc, .slice ta N.starts.length tc, .slice ua N.stops.length uc, .slice pa N.preds.length pc, .slice da N.decisions.length dc] 32
  have g3 := grew_alloc ((W.alloc (.cells #[.int .i64 s.rule, .slice ea s.edges.length ec, .slice za s.ends.length zc] 41)).alloc (.cells #[.slice na N.states.length nc, .slice ta N.starts.length tc, .slice ua N.stops.length uc, .slice pa N.preds.length pc, .slice da N.decisions.length dc] 32)) (.cells #[.func (.func 46) #[] #[.pointer (some ⟨W.heap.size + 1, 0, none⟩)]] 70)
  have o3 := Owns.alloc ((W.alloc (.cells #[.int .i64 s.rule, .slice ea s.edges.length ec, .slice za s.ends.length zc] 41)).alloc (.cells #[.slice na N.states.length nc, .slice ta N.starts.length tc, .slice ua N.stops.length uc, .slice pa N.preds.length pc, .slice da N.decisions.length dc] 32)) [.func (.func 46) #[] #[.pointer (some ⟨W.heap.size + 1, 0, none⟩)]] 70
  have hSA : SmayAt N W (((W.alloc (.cells #[.int .i64 s.rule, .slice ea s.edges.length ec, .slice za s.ends.length zc] 41)).alloc (.cells #[.slice na N.states.length nc, .slice ta N.starts.length tc, .slice ua N.stops.length uc, .slice pa N.preds.length pc, .slice da N.decisions.length dc] 32)).alloc (.cells #[.func (.func 46) #[] #[.pointer (some ⟨W.heap.size + 1, 0, none⟩)]] 70)) s ea ec na nc (.slice na N.states.length nc) (.slice ta N.starts.length tc) (.slice ua N.stops.length uc) (.slice pa N.preds.length pc) (.slice da N.decisions.length dc) (.int .i64 s.rule) (.slice za s.ends.length zc) := by
    have z1 : ∀ (w : World) (o : Obj), (w.alloc o).heap.size = w.heap.size + 1 := fun w o => World.size_alloc w o
    rw [z1] at o2 o3
    rw [z1] at o3
    exact ⟨(g1.trans g2).trans g3, (o1.keep g2).keep g3, o2.keep g3, o3⟩
  have HSA := Lib.hid hSA
  have HE := Lib.hid hE
  have HZ := Lib.hid hZ
  clear g1 g2 g3 o1 o2 o3 hSA hE hZ hN0 hT hU hP hD hB
  go_enter Tryz.func26, Tryz.ntmps26
  go_wp2_with fail
  generalize ((W.alloc (.cells #[.int .i64 s.rule, .slice ea s.edges.length ec, .slice za s.ends.length zc] 41)).alloc (.cells #[.slice na N.states.length nc, .slice ta N.starts.length tc, .slice ua N.stops.length uc, .slice pa N.preds.length pc, .slice da N.decisions.length dc] 32)).alloc (.cells #[.func (.func 46) #[] #[.pointer (some ⟨W.heap.size + 1, 0, none⟩)]] 70) = w0 at *
  go_loopw [15] (fun i wr => ∃ (j : Nat), i = .int .i64 j ∧ j ≤ s.edges.length ∧ Hid (∀ i (h : i < s.edges.length), i < j → (s.edges[i]).mayB N = true) ∧ Hid (SmayAt N W wr s ea ec na nc (.slice na N.states.length nc) (.slice ta N.starts.length tc) (.slice ua N.stops.length uc) (.slice pa N.preds.length pc) (.slice da N.decisions.length dc) (.int .i64 s.rule) (.slice za s.ends.length zc))) (fun i _ => s.edges.length - (intOf i).toNat)
  case atStart =>
    exact ⟨0, rfl, by omega, fun i hi h => absurd h (by omega), HSA.out⟩
  case round =>
    obtain ⟨j, rfl, hj, hf, hsa⟩ := hrel
    by_cases hlt : j < s.edges.length
    · obtain ⟨b, off, rfl, hb, hc0, hc1, hc2⟩ := HE.out j hlt
      have d0 : wr.cell? ⟨b, off + j * 3, none⟩ = some (.int .u8 s.edges[j].kind) := by rw [hsa.out.low.cells _ _ hb]; exact hc0
      have d1 : wr.cell? ⟨b, off + j * 3 + 1, none⟩ = some (.int .i64 s.edges[j].what) := by rw [hsa.out.low.cells _ _ hb]; exact hc1
      have d2 : wr.cell? ⟨b, off + j * 3 + 2, none⟩ = some (.int .i64 s.edges[j].to) := by rw [hsa.out.low.cells _ _ hb]; exact hc2
      clear hc0 hc1 hc2 hb
      have hg := grew_alloc wr (.cells #[.int .u8 s.edges[j].kind, .int .i64 s.edges[j].what, .int .i64 s.edges[j].to] 44)
      have o1 := Owns.alloc wr [.int .u8 s.edges[j].kind, .int .i64 s.edges[j].what, .int .i64 s.edges[j].to] 44
      obtain ⟨w1, hw1⟩ : ∃ w1, wr.alloc (.cells #[.int .u8 s.edges[j].kind, .int .i64 s.edges[j].what, .int .i64 s.edges[j].to] 44) = w1 := ⟨_, rfl⟩
      change Owns (wr.alloc (.cells #[.int .u8 s.edges[j].kind, .int .i64 s.edges[j].what, .int .i64 s.edges[j].to] 44)) _ _ _ at o1
      rw [hw1] at hg o1
      have HS1 := hsa.out.grew hg
      have HW1 := Lib.hid HS1
      have HN := Lib.hid hf.out
      have e0 := o1.cell_at (i := 0) rfl
      have e1 := o1.cell_at (i := 1) rfl
      have e2 := o1.cell_at (i := 2) rfl
      have n0 := HS1.bn.cell_at (i := 0) rfl
      have n1 := HS1.bn.cell_at (i := 1) rfl
      have n3 := HS1.bn.cell_at (i := 3) rfl
      have f0 := HS1.bf.cell_at (i := 0) rfl
      have HC := Lib.hid (smay1_ok s.edges[j].to (W.heap.size + 1) N.states.length nc na w1 n0)
      have hB : Hid (Edg.mayB N s.edges[j] = !(decide (3 < s.edges[j].kind) || decide (s.edges[j].what < 0) || (s.edges[j].kind != 1 && decide (N.mostOf s.edges[j].kind ≤ s.edges[j].what)) || !okN N.states.length s.edges[j].to)) := Lib.hid rfl
      have hM : Hid (N.mostOf s.edges[j].kind = if s.edges[j].kind = 2 then (N.starts.length : Int) else if s.edges[j].kind = 3 then (N.preds.length : Int) else 1) := Lib.hid rfl
      have hNext : Hid (Edg.mayB N s.edges[j] = true → ∀ i (h : i < s.edges.length), i < j + 1 → (s.edges[i]).mayB N = true) := Lib.hid (by
        intro h i hi hij
        by_cases hq : i = j
        · subst hq; exact h
        · exact hf.out i hi (by omega))
      have hBad : Hid (Edg.mayB N s.edges[j] = false → s.mayB N = false) := Lib.hid (by
        intro h
        unfold Sta.mayB
        rw [all_not hlt h]; rfl)
      clear o1 hg HS1 hf hsa HSA HE
      generalize s.edges[j].kind = k at *
      generalize s.edges[j].what = a at *
      generalize s.edges[j].to = t at *
      have hF := enters46
      unfold Enters at hF
      have hcl : (k = 2) ∨ (k = 3) ∨ (k = 1) ∨ (k ≠ 1 ∧ k ≠ 2 ∧ k ≠ 3) := by omega
      obtain ⟨m, hm⟩ : ∃ m : Int, N.mostOf k = m := ⟨_, rfl⟩
      have hmM := Lib.hid hm
      rcases hcl with rfl | rfl | rfl | ⟨k1, k2, k3⟩
-- ways
      · have q1 : ((2 : Int) != 1) = true := by decide
        have hm' : m = (N.starts.length : Int) := by have := hM.out.symm.trans hm; simp at this; omega
        subst hm'
        clear hm
        by_cases a0 : a < 0
        · have ad : decide (a < 0) = true := decide_eq_true a0
          go_wp2_with fail
          go_ret
          exact ⟨ret_bool (hBad.out (by rw [hB.out, hmM.out]; simp; first | omega | (have := K.out; omega))).symm, HW1.out.low⟩
        · have ad : decide (a < 0) = false := decide_eq_false a0
          by_cases am : (N.starts.length : Int) ≤ a
          · have am' : decide ((N.starts.length : Int) ≤ a) = true := decide_eq_true am
            go_wp2_with fail
            go_ret
            exact ⟨ret_bool (hBad.out (by rw [hB.out, hmM.out]; simp; first | omega | (have := K.out; omega))).symm, HW1.out.low⟩
          · have am' : decide ((N.starts.length : Int) ≤ a) = false := decide_eq_false am
            cases hy : okN N.states.length t
            · rw [hy] at HC
              have HY := Lib.hid hy
              clear hy
              go_wp2_with (refine HC.out.mono ?_; rintro e w2 ⟨rfl, hb2⟩)
              go_ret
              exact ⟨ret_bool (hBad.out (by rw [hB.out, HY.out]; simp)).symm, (HW1.out.grew hb2).low⟩
            · rw [hy] at HC
              have HY := Lib.hid hy
              clear hy
              go_wp2_with (refine HC.out.mono ?_; rintro e w2 ⟨rfl, hb2⟩)
              exact ⟨⟨j + 1, by go_num, by omega, hNext.out (by rw [hB.out, HY.out, hmM.out]; simp; omega), HW1.out.grew hb2⟩, by simp [intOf]; omega⟩
      · have q1 : ((3 : Int) != 1) = true := by decide
        have hm' : m = (N.preds.length : Int) := by have := hM.out.symm.trans hm; simp at this; omega
        subst hm'
        clear hm
        by_cases a0 : a < 0
        · have ad : decide (a < 0) = true := decide_eq_true a0
          go_wp2_with fail
          go_ret
          exact ⟨ret_bool (hBad.out (by rw [hB.out, hmM.out]; simp; first | omega | (have := K.out; omega))).symm, HW1.out.low⟩
        · have ad : decide (a < 0) = false := decide_eq_false a0
          by_cases am : (N.preds.length : Int) ≤ a
          · have am' : decide ((N.preds.length : Int) ≤ a) = true := decide_eq_true am
            go_wp2_with fail
            go_ret
            exact ⟨ret_bool (hBad.out (by rw [hB.out, hmM.out]; simp; first | omega | (have := K.out; omega))).symm, HW1.out.low⟩
          · have am' : decide ((N.preds.length : Int) ≤ a) = false := decide_eq_false am
            cases hy : okN N.states.length t
            · rw [hy] at HC
              have HY := Lib.hid hy
              clear hy
              go_wp2_with (refine HC.out.mono ?_; rintro e w2 ⟨rfl, hb2⟩)
              go_ret
              exact ⟨ret_bool (hBad.out (by rw [hB.out, HY.out]; simp)).symm, (HW1.out.grew hb2).low⟩
            · rw [hy] at HC
              have HY := Lib.hid hy
              clear hy
              go_wp2_with (refine HC.out.mono ?_; rintro e w2 ⟨rfl, hb2⟩)
              exact ⟨⟨j + 1, by go_num, by omega, hNext.out (by rw [hB.out, HY.out, hmM.out]; simp; omega), HW1.out.grew hb2⟩, by simp [intOf]; omega⟩
      · have q1 : ((1 : Int) != 1) = false := by decide
        clear hm
        by_cases a0 : a < 0
        · have ad : decide (a < 0) = true := decide_eq_true a0
          go_wp2_with fail
          go_ret
          exact ⟨ret_bool (hBad.out (by rw [hB.out, hmM.out]; simp; first | omega | (have := K.out; omega))).symm, HW1.out.low⟩
        · have ad : decide (a < 0) = false := decide_eq_false a0
          cases hy : okN N.states.length t
          · rw [hy] at HC
            have HY := Lib.hid hy
            clear hy
            go_wp2_with (refine HC.out.mono ?_; rintro e w2 ⟨rfl, hb2⟩)
            go_ret
            exact ⟨ret_bool (hBad.out (by rw [hB.out, HY.out]; simp)).symm, (HW1.out.grew hb2).low⟩
          · rw [hy] at HC
            have HY := Lib.hid hy
            clear hy
            go_wp2_with (refine HC.out.mono ?_; rintro e w2 ⟨rfl, hb2⟩)
            exact ⟨⟨j + 1, by go_num, by omega, hNext.out (by rw [hB.out, HY.out, hmM.out]; simp; omega), HW1.out.grew hb2⟩, by simp [intOf]; omega⟩
      · have q1 : (k != 1) = true := by simp [k1]
        have q2 : (k == 2) = false := by simp [k2]
        have q3 : (k == 3) = false := by simp [k3]
        have hm' : m = 1 := by have := hM.out.symm.trans hm; rw [if_neg k2, if_neg k3] at this; omega
        subst hm'
        clear hm
        have K := Lib.hid (And.intro k1 (And.intro k2 k3))
        clear k1 k2 k3
        by_cases k9 : 3 < k
        · have q9 : decide (3 < k) = true := decide_eq_true k9
          go_wp2_with fail
          go_ret
          exact ⟨ret_bool (hBad.out (by rw [hB.out, hmM.out]; simp; first | omega | (have := K.out; omega))).symm, HW1.out.low⟩
        · have q9 : decide (3 < k) = false := decide_eq_false k9
          by_cases a0 : a < 0
          · have ad : decide (a < 0) = true := decide_eq_true a0
            go_wp2_with fail
            go_ret
            exact ⟨ret_bool (hBad.out (by rw [hB.out, hmM.out]; simp; first | omega | (have := K.out; omega))).symm, HW1.out.low⟩
          · have ad : decide (a < 0) = false := decide_eq_false a0
            by_cases am : (1 : Int) ≤ a
            · have am' : decide ((1 : Int) ≤ a) = true := decide_eq_true am
              go_wp2_with fail
              go_ret
              exact ⟨ret_bool (hBad.out (by rw [hB.out, hmM.out]; simp; first | omega | (have := K.out; omega))).symm, HW1.out.low⟩
            · have am' : decide ((1 : Int) ≤ a) = false := decide_eq_false am
              cases hy : okN N.states.length t
              · rw [hy] at HC
                have HY := Lib.hid hy
                clear hy
                go_wp2_with (refine HC.out.mono ?_; rintro e w2 ⟨rfl, hb2⟩)
                go_ret
                exact ⟨ret_bool (hBad.out (by rw [hB.out, HY.out]; simp)).symm, (HW1.out.grew hb2).low⟩
              · rw [hy] at HC
                have HY := Lib.hid hy
                clear hy
                go_wp2_with (refine HC.out.mono ?_; rintro e w2 ⟨rfl, hb2⟩)
                exact ⟨⟨j + 1, by go_num, by omega, hNext.out (by rw [hB.out, HY.out, hmM.out]; simp; omega), HW1.out.grew hb2⟩, by simp [intOf]; omega⟩
-- end of ways
    · have hje : j = s.edges.length := by omega
      subst hje
      have hall : s.edges.all (Edg.mayB N) = true := all_upto fun i hi => hf.out i hi hi
      have HA := Lib.hid hall
      have HW := Lib.hid hsa.out
      have hg := grew_alloc wr (.cells #[.func (.func 47) #[] #[]] 94)
      have o1 := Owns.alloc wr [.func (.func 47) #[] #[]] 94
      change Owns (wr.alloc (.cells #[.func (.func 47) #[] #[]] 94)) _ _ _ at o1
      obtain ⟨w1, hw1⟩ : ∃ w1, wr.alloc (.cells #[.func (.func 47) #[] #[]] 94) = w1 := ⟨_, rfl⟩
      rw [hw1] at hg o1
      have hs1 := hsa.out.grew hg
      have b1 := hs1.bs.cell_at (i := 1) rfl
      have b2 := hs1.bs.cell_at (i := 2) rfl
      have HC1 := Lib.hid (contEdges_ok s.edges (fun e => !(e.kind == 0)) 49 _ enters49 w1 ea ec (by unfold reachN; omega) ((HE.out.keep hs1.low).mono hs1.low.size) (asks3 o1 s.edges))
      have hIV : IntsV w1 w1.heap.size (.slice za s.ends.length zc) s.ends := ⟨za, zc, rfl, (HZ.out.keep hs1.low).mono hs1.low.size⟩
      have HC2 := Lib.hid fun w2 (hg2 : Grew w1 w2) => contInts_ok s.ends (fun i => !okN N.states.length i) 50 _ enters50 w2 _ (by unfold reachN; omega) ((hIV.keep hg2).mono hg2.size) (asks4 (hs1.grew hg2) s.ends)
      have HS1 := Lib.hid hs1
      have hSM : Hid (s.mayB N = (decide (s.ends.length = 0) || ((decide (s.ends.length = s.edges.length) && decide (2 ≤ s.ends.length) && !(s.edges.any fun e => !(e.kind == 0))) && !(s.ends.any fun i => !okN N.states.length i)))) := Lib.hid (by unfold Sta.mayB Sta.decides; rw [hall]; rfl)
      have Hall := Lib.hid hall
      clear hall hf hsa HSA hlt hj HE HZ hIV o1 hg hs1 HA HW
      generalize (s.edges.any fun e => !(e.kind == 0)) = c1 at *
      generalize (s.ends.any fun i => !okN N.states.length i) = c2 at *
      by_cases t1 : s.ends.length = s.edges.length
      · have r1 : ((s.ends.length : Int) == (s.edges.length : Int)) = true := by simp [t1]
        by_cases t2 : (2 : Int) ≤ s.ends.length
        · have r2 : decide ((2 : Int) ≤ s.ends.length) = true := decide_eq_true t2
          have r3 : ((s.ends.length : Int) == 0) = false := by simp; intro h; rw [h] at t2; simp at t2
          have T1 := Lib.hid (And.intro t1 t2)
          clear t1 t2
          cases c1
          · go_wp2_with (first | (go_at_call 48; refine HC1.out.mono ?_; rintro e w2 ⟨rfl, hb2⟩; have b3 := (HS1.out.grew hb2).bs.cell_at (i := 2) rfl) | (go_at_call 23; refine (HC2.out _ hb2).mono ?_; rintro e w3 ⟨rfl, hb3⟩))
            go_ret
            exact ⟨ret_bool (by have := T1.out; rw [hSM.out, decide_eq_false (p := s.ends.length = 0) (by omega), decide_eq_true T1.out.1, decide_eq_true (p := 2 ≤ s.ends.length) (by omega)]; cases c2 <;> rfl), (HS1.out.low.trans hb2).trans hb3⟩
          · go_wp2_with (go_at_call 48; refine HC1.out.mono ?_; rintro e w2 ⟨rfl, hb2⟩; have b3 := (HS1.out.grew hb2).bs.cell_at (i := 2) rfl)
            go_ret
            exact ⟨ret_bool (by have := T1.out; rw [hSM.out, decide_eq_false (p := s.ends.length = 0) (by omega), decide_eq_true T1.out.1, decide_eq_true (p := 2 ≤ s.ends.length) (by omega)]; cases c2 <;> rfl), HS1.out.low.trans hb2⟩
        · have r2 : decide ((2 : Int) ≤ s.ends.length) = false := decide_eq_false t2
          have T1 := Lib.hid t2
          clear t1 t2
          by_cases t3 : s.ends.length = 0
          · have r3 : ((s.ends.length : Int) == 0) = true := by simp [t3]
            have T3 := Lib.hid t3
            clear t3
            go_wp2_with fail
            go_ret
            exact ⟨ret_bool (by rw [hSM.out]; simp [T3.out]), HS1.out.low⟩
          · have r3 : ((s.ends.length : Int) == 0) = false := by simp; exact fun h => t3 (by simp [h])
            have T3 := Lib.hid t3
            clear t3
            go_wp2_with fail
            go_ret
            exact ⟨ret_bool (by have := T1.out; rw [hSM.out, decide_eq_false T3.out, decide_eq_false (p := 2 ≤ s.ends.length) (by omega)]; cases c1 <;> cases c2 <;> cases (decide (s.ends.length = s.edges.length)) <;> rfl), HS1.out.low⟩
      · have r1 : ((s.ends.length : Int) == (s.edges.length : Int)) = false := by simp; omega
        have T1 := Lib.hid t1
        clear t1
        by_cases t3 : s.ends.length = 0
        · have r3 : ((s.ends.length : Int) == 0) = true := by simp [t3]
          have T3 := Lib.hid t3
          clear t3
          go_wp2_with fail
          go_ret
          exact ⟨ret_bool (by rw [hSM.out]; simp [T3.out]), HS1.out.low⟩
        · have r3 : ((s.ends.length : Int) == 0) = false := by simp; exact fun h => t3 (by simp [h])
          have T3 := Lib.hid t3
          clear t3
          go_wp2_with fail
          go_ret
          exact ⟨ret_bool (by rw [hSM.out, decide_eq_false T3.out, decide_eq_false T1.out]; cases c1 <;> cases c2 <;> cases (decide (2 ≤ s.ends.length)) <;> rfl), HS1.out.low⟩
end Go.Proofs.YtiiffcmojkdlaaaGreatDoor
