/- Whole: has each node that asks for a sub one? -/
import Derived.Test.YtkinlcichclnkaaDoorQT38
import Derived.Test.YtkinlcichclnkaaDoorQT37
import Derived.Test.YtkinlcichclnkaaDoorQT35
namespace Go.Proofs.YtkinlcichclnkaaDoor
open Go.RowKit

def ownWB (k : Int) (n : Nat) : Bool := !((k == 2 || k == 3 || k == 4) && n != 1)
def wholeB (n : Nd) : Bool := n.all.all fun m => ownWB m.kind m.subs.length
theorem allL_all (q : Nd → Bool) : ∀ l : List Nd, (Nd.allL l).all q = l.all fun s => s.all.all q
  | [] => rfl
  | x :: r => by rw [Nd.allL, List.all_append, List.all_cons, allL_all q r]
theorem wholeB_mk (k : Int) (nm tx : ByteArray) (set : List (Int × Int)) (subs : List Nd) : wholeB (.mk k nm tx set subs) = (ownWB k subs.length && subs.all wholeB) := by
  unfold wholeB
  rw [Nd.all, List.all_cons, allL_all]
  rfl
theorem wholeB_iff {n : Nd} (h : wholeB n = true) : n.whole := by
  intro m hm hk
  unfold wholeB at h
  have := List.all_eq_true.1 h m hm
  unfold ownWB at this
  have h3 : (m.kind == 2 || m.kind == 3 || m.kind == 4) = true := by
    rcases hk with e | e | e <;> rw [e] <;> rfl
  rw [h3] at this
  simpa using this
theorem all_take {α : Type} (q : α → Bool) (l : List α) {j : Nat} (h : j < l.length) : (l.take (j + 1)).all q = ((l.take j).all q && q l[j]) := by
  rw [List.take_succ_eq_append_getElem h, List.all_append]
  simp
set_option maxHeartbeats 4000000 in
set_option maxRecDepth 20000 in
theorem whole8_ok : ∀ (n : Nd) (W : World) (v0 v1 v2 v3 v4 : Value), NodeAt W W.heap.size (some v0) (some v1) (some v2) (some v3) (some v4) n →
    Calls Tryd.prog 10 #[.agg #[v0, v1, v2, v3, v4]] W fun e W' => e = .returned (.bool (wholeB n)) ∧ Grew W W' := by
  refine Nd.ind ?_
  intro kd nm tx set subs ih W v0 v1 v2 v3 v4 hA
  rw [NodeAt] at hA
  obtain ⟨hkk, h1, h2, h3, h4, h5, ⟨sa, sc, h6, h6', h7⟩, na, nc, h8, h8', h9⟩ := hA
  obtain rfl := Option.some.inj h3
  obtain rfl := Option.some.inj h4
  obtain rfl := Option.some.inj h5
  obtain rfl := Option.some.inj h6
  obtain rfl := Option.some.inj h8
  clear h3 h4 h5 h6 h8 h1 h2 h7 h6'
  unfold reachN at h8'
  rw [wholeB_mk]
  obtain ⟨f, hf⟩ : ∃ f, W.heap.size = f := ⟨_, rfl⟩
  obtain ⟨w1, hw1⟩ : ∃ w1, W.alloc (.cells #[.int .u8 kd, .string nm, .string tx, .slice sa set.length sc, .slice na subs.length nc] 34) = w1 := ⟨_, rfl⟩
  have G1 := Lib.hid (show Grew W w1 from hw1 ▸ grew_alloc W _)
  have o1 : Owns w1 f [.int .u8 kd, .string nm, .string tx, .slice sa set.length sc, .slice na subs.length nc] 34 := hf ▸ hw1 ▸ Owns.alloc W _ _
  have HO := Lib.hid o1
  have H9 := Lib.hid h9
  have HIH := Lib.hid ih
  have HF := Lib.hid hf
  have n0 := o1.cell_at (i := 0) rfl
  have n4 := o1.cell_at (i := 4) rfl
  have nl := o1.lt
  obtain ⟨N, hN⟩ : ∃ N, subs.length = N := ⟨_, rfl⟩
  have HN := Lib.hid hN
  obtain ⟨ow, how⟩ : ∃ b, ownWB kd subs.length = b := ⟨_, rfl⟩
  have HOW := Lib.hid how
  rw [how]
  clear o1 h9 ih how
  rw [hN] at n4 h8' hw1 HO
  rw [show (Value.slice na subs.length nc) = Value.slice na N nc by rw [hN]]
  clear hN
  go_enter Tryd.func10, Tryd.ntmps10
  by_cases hn1 : N = 1
  · have hne : ((N : Int) != 1) = false := by rw [hn1]; rfl
    by_cases k2 : kd = 2
    · subst k2
      have hr : ow = true := by rw [← HOW.out, HN.out, hn1]; rfl
      have HRS := Lib.hid hr
      clear hr hn1
      go_wp2_with fail
      clear n0 n4 nl
      go_loopw [3] (fun i wr => ∃ (j : Nat), i = .int .i64 j ∧ j ≤ N ∧ Hid (Grew w1 wr) ∧ Hid ((subs.take j).all wholeB = true)) (fun i _ => N - (intOf i).toNat)
      case atStart => exact ⟨0, rfl, by omega, Grew.refl _, rfl⟩
      case round =>
        obtain ⟨j, rfl, hj, GR, AR⟩ := hrel
        have hON := HO.out.keep GR.out
        have n4 := hON.cell_at (i := 4) rfl
        have nl := hON.lt
        by_cases hlt : j < N
        · have hidx : j < subs.length := by rw [HN.out]; exact hlt
          obtain ⟨bq, off, rfl, hbq, hnode⟩ := H9.out.get hidx
          simp only [Nat.zero_add] at hnode
          have GW := Lib.hid (G1.out.trans GR.out)
          have hb4 : bq < wr.heap.size := Nat.lt_of_lt_of_le hbq GW.out.size
          have ecell : ∀ o, wr.cell? ⟨bq, o, none⟩ = W.cell? ⟨bq, o, none⟩ := fun o => GW.out.cells _ _ hbq
          have hst := all_take wholeB subs hidx
          rw [AR.out, Bool.true_and] at hst
          have HST := Lib.hid hst
          have hih := HIH.out j hidx
          have HMEM := Lib.hid (List.getElem_mem hidx)
          generalize subs[j] = s at *
          obtain ⟨u0, u1, u2, u3, u4, e0, e1, e2, e3, e4, hnode⟩ := hnode.vals
          obtain ⟨m0, m1, m2, m3, m4, m5, m6, m7, m8, rfl, rfl, rfl, rfl, rfl⟩ := hnode.forms
          rw [← ecell] at e0 e1 e2 e3 e4
          have HC := Lib.hid (hih wr _ _ _ _ _ ((hnode.keep GW.out).mono GW.out.size))
          clear hnode ecell hbq hst hih hON
          go_wp2_with fail
          refine HC.out.mono ?_
          rintro e w2 ⟨rfl, hg2⟩
          have G2 := Lib.hid (GR.out.trans hg2)
          obtain ⟨b, hb⟩ : ∃ b, wholeB s = b := ⟨_, rfl⟩
          have HB := Lib.hid hb
          rw [hb]
          clear hb hg2 e0 e1 e2 e3 e4 n4 nl hb4 HC
          cases b
          · go_wp2_with fail
            go_ret
            refine ⟨ret_bool ?_, G1.out.trans G2.out⟩
            have : subs.all wholeB = false := by
              rw [List.all_eq_false]
              exact ⟨s, HMEM.out, by rw [HB.out]; decide⟩
            rw [this, Bool.and_false]
          · go_wp2_with fail
            exact ⟨⟨j + 1, by go_num, by omega, G2.out, by rw [Hid, HST.out, HB.out]⟩, by simp [intOf]; omega⟩
        · obtain rfl : j = N := by omega
          clear hON
          go_wp2_with fail
          go_ret
          refine ⟨ret_bool ?_, G1.out.trans GR.out⟩
          have := AR.out
          rw [List.take_of_length_le (by rw [HN.out]; exact Nat.le_refl _)] at this
          rw [this, HRS.out]
          rfl
    by_cases k3 : kd = 3
    · subst k3
      have q2 : ((3 : Int) == 2) = false := by decide
      have hr : ow = true := by rw [← HOW.out, HN.out, hn1]; rfl
      have HRS := Lib.hid hr
      clear hr hn1
      go_wp2_with fail
      clear n0 n4 nl
      go_loopw [3] (fun i wr => ∃ (j : Nat), i = .int .i64 j ∧ j ≤ N ∧ Hid (Grew w1 wr) ∧ Hid ((subs.take j).all wholeB = true)) (fun i _ => N - (intOf i).toNat)
      case atStart => exact ⟨0, rfl, by omega, Grew.refl _, rfl⟩
      case round =>
        obtain ⟨j, rfl, hj, GR, AR⟩ := hrel
        have hON := HO.out.keep GR.out
        have n4 := hON.cell_at (i := 4) rfl
        have nl := hON.lt
        by_cases hlt : j < N
        · have hidx : j < subs.length := by rw [HN.out]; exact hlt
          obtain ⟨bq, off, rfl, hbq, hnode⟩ := H9.out.get hidx
          simp only [Nat.zero_add] at hnode
          have GW := Lib.hid (G1.out.trans GR.out)
          have hb4 : bq < wr.heap.size := Nat.lt_of_lt_of_le hbq GW.out.size
          have ecell : ∀ o, wr.cell? ⟨bq, o, none⟩ = W.cell? ⟨bq, o, none⟩ := fun o => GW.out.cells _ _ hbq
          have hst := all_take wholeB subs hidx
          rw [AR.out, Bool.true_and] at hst
          have HST := Lib.hid hst
          have hih := HIH.out j hidx
          have HMEM := Lib.hid (List.getElem_mem hidx)
          generalize subs[j] = s at *
          obtain ⟨u0, u1, u2, u3, u4, e0, e1, e2, e3, e4, hnode⟩ := hnode.vals
          obtain ⟨m0, m1, m2, m3, m4, m5, m6, m7, m8, rfl, rfl, rfl, rfl, rfl⟩ := hnode.forms
          rw [← ecell] at e0 e1 e2 e3 e4
          have HC := Lib.hid (hih wr _ _ _ _ _ ((hnode.keep GW.out).mono GW.out.size))
          clear hnode ecell hbq hst hih hON
          go_wp2_with fail
          refine HC.out.mono ?_
          rintro e w2 ⟨rfl, hg2⟩
          have G2 := Lib.hid (GR.out.trans hg2)
          obtain ⟨b, hb⟩ : ∃ b, wholeB s = b := ⟨_, rfl⟩
          have HB := Lib.hid hb
          rw [hb]
          clear hb hg2 e0 e1 e2 e3 e4 n4 nl hb4 HC
          cases b
          · go_wp2_with fail
            go_ret
            refine ⟨ret_bool ?_, G1.out.trans G2.out⟩
            have : subs.all wholeB = false := by
              rw [List.all_eq_false]
              exact ⟨s, HMEM.out, by rw [HB.out]; decide⟩
            rw [this, Bool.and_false]
          · go_wp2_with fail
            exact ⟨⟨j + 1, by go_num, by omega, G2.out, by rw [Hid, HST.out, HB.out]⟩, by simp [intOf]; omega⟩
        · obtain rfl : j = N := by omega
          clear hON
          go_wp2_with fail
          go_ret
          refine ⟨ret_bool ?_, G1.out.trans GR.out⟩
          have := AR.out
          rw [List.take_of_length_le (by rw [HN.out]; exact Nat.le_refl _)] at this
          rw [this, HRS.out]
          rfl
    by_cases k4 : kd = 4
    · subst k4
      have q2 : ((4 : Int) == 2) = false := by decide
      have q3 : ((4 : Int) == 3) = false := by decide
      have hr : ow = true := by rw [← HOW.out, HN.out, hn1]; rfl
      have HRS := Lib.hid hr
      clear hr hn1
      go_wp2_with fail
      clear n0 n4 nl
      go_loopw [3] (fun i wr => ∃ (j : Nat), i = .int .i64 j ∧ j ≤ N ∧ Hid (Grew w1 wr) ∧ Hid ((subs.take j).all wholeB = true)) (fun i _ => N - (intOf i).toNat)
      case atStart => exact ⟨0, rfl, by omega, Grew.refl _, rfl⟩
      case round =>
        obtain ⟨j, rfl, hj, GR, AR⟩ := hrel
        have hON := HO.out.keep GR.out
        have n4 := hON.cell_at (i := 4) rfl
        have nl := hON.lt
        by_cases hlt : j < N
        · have hidx : j < subs.length := by rw [HN.out]; exact hlt
          obtain ⟨bq, off, rfl, hbq, hnode⟩ := H9.out.get hidx
          simp only [Nat.zero_add] at hnode
          have GW := Lib.hid (G1.out.trans GR.out)
          have hb4 : bq < wr.heap.size := Nat.lt_of_lt_of_le hbq GW.out.size
          have ecell : ∀ o, wr.cell? ⟨bq, o, none⟩ = W.cell? ⟨bq, o, none⟩ := fun o => GW.out.cells _ _ hbq
          have hst := all_take wholeB subs hidx
          rw [AR.out, Bool.true_and] at hst
          have HST := Lib.hid hst
          have hih := HIH.out j hidx
          have HMEM := Lib.hid (List.getElem_mem hidx)
          generalize subs[j] = s at *
          obtain ⟨u0, u1, u2, u3, u4, e0, e1, e2, e3, e4, hnode⟩ := hnode.vals
          obtain ⟨m0, m1, m2, m3, m4, m5, m6, m7, m8, rfl, rfl, rfl, rfl, rfl⟩ := hnode.forms
          rw [← ecell] at e0 e1 e2 e3 e4
          have HC := Lib.hid (hih wr _ _ _ _ _ ((hnode.keep GW.out).mono GW.out.size))
          clear hnode ecell hbq hst hih hON
          go_wp2_with fail
          refine HC.out.mono ?_
          rintro e w2 ⟨rfl, hg2⟩
          have G2 := Lib.hid (GR.out.trans hg2)
          obtain ⟨b, hb⟩ : ∃ b, wholeB s = b := ⟨_, rfl⟩
          have HB := Lib.hid hb
          rw [hb]
          clear hb hg2 e0 e1 e2 e3 e4 n4 nl hb4 HC
          cases b
          · go_wp2_with fail
            go_ret
            refine ⟨ret_bool ?_, G1.out.trans G2.out⟩
            have : subs.all wholeB = false := by
              rw [List.all_eq_false]
              exact ⟨s, HMEM.out, by rw [HB.out]; decide⟩
            rw [this, Bool.and_false]
          · go_wp2_with fail
            exact ⟨⟨j + 1, by go_num, by omega, G2.out, by rw [Hid, HST.out, HB.out]⟩, by simp [intOf]; omega⟩
        · obtain rfl : j = N := by omega
          clear hON
          go_wp2_with fail
          go_ret
          refine ⟨ret_bool ?_, G1.out.trans GR.out⟩
          have := AR.out
          rw [List.take_of_length_le (by rw [HN.out]; exact Nat.le_refl _)] at this
          rw [this, HRS.out]
          rfl
    have q2 : (kd == 2) = false := beq_eq_false_iff_ne.2 k2
    have q3 : (kd == 3) = false := beq_eq_false_iff_ne.2 k3
    have q4 : (kd == 4) = false := beq_eq_false_iff_ne.2 k4
    have hr : ow = true := by
      rw [← HOW.out]
      unfold ownWB
      rw [q2, q3, q4]
      rfl
    have HRS := Lib.hid hr
    clear hr hn1
    go_wp2_with fail
    clear n0 n4 nl
    go_loopw [3] (fun i wr => ∃ (j : Nat), i = .int .i64 j ∧ j ≤ N ∧ Hid (Grew w1 wr) ∧ Hid ((subs.take j).all wholeB = true)) (fun i _ => N - (intOf i).toNat)
    case atStart => exact ⟨0, rfl, by omega, Grew.refl _, rfl⟩
    case round =>
      obtain ⟨j, rfl, hj, GR, AR⟩ := hrel
      have hON := HO.out.keep GR.out
      have n4 := hON.cell_at (i := 4) rfl
      have nl := hON.lt
      by_cases hlt : j < N
      · have hidx : j < subs.length := by rw [HN.out]; exact hlt
        obtain ⟨bq, off, rfl, hbq, hnode⟩ := H9.out.get hidx
        simp only [Nat.zero_add] at hnode
        have GW := Lib.hid (G1.out.trans GR.out)
        have hb4 : bq < wr.heap.size := Nat.lt_of_lt_of_le hbq GW.out.size
        have ecell : ∀ o, wr.cell? ⟨bq, o, none⟩ = W.cell? ⟨bq, o, none⟩ := fun o => GW.out.cells _ _ hbq
        have hst := all_take wholeB subs hidx
        rw [AR.out, Bool.true_and] at hst
        have HST := Lib.hid hst
        have hih := HIH.out j hidx
        have HMEM := Lib.hid (List.getElem_mem hidx)
        generalize subs[j] = s at *
        obtain ⟨u0, u1, u2, u3, u4, e0, e1, e2, e3, e4, hnode⟩ := hnode.vals
        obtain ⟨m0, m1, m2, m3, m4, m5, m6, m7, m8, rfl, rfl, rfl, rfl, rfl⟩ := hnode.forms
        rw [← ecell] at e0 e1 e2 e3 e4
        have HC := Lib.hid (hih wr _ _ _ _ _ ((hnode.keep GW.out).mono GW.out.size))
        clear hnode ecell hbq hst hih hON
        go_wp2_with fail
        refine HC.out.mono ?_
        rintro e w2 ⟨rfl, hg2⟩
        have G2 := Lib.hid (GR.out.trans hg2)
        obtain ⟨b, hb⟩ : ∃ b, wholeB s = b := ⟨_, rfl⟩
        have HB := Lib.hid hb
        rw [hb]
        clear hb hg2 e0 e1 e2 e3 e4 n4 nl hb4 HC
        cases b
        · go_wp2_with fail
          go_ret
          refine ⟨ret_bool ?_, G1.out.trans G2.out⟩
          have : subs.all wholeB = false := by
            rw [List.all_eq_false]
            exact ⟨s, HMEM.out, by rw [HB.out]; decide⟩
          rw [this, Bool.and_false]
        · go_wp2_with fail
          exact ⟨⟨j + 1, by go_num, by omega, G2.out, by rw [Hid, HST.out, HB.out]⟩, by simp [intOf]; omega⟩
      · obtain rfl : j = N := by omega
        clear hON
        go_wp2_with fail
        go_ret
        refine ⟨ret_bool ?_, G1.out.trans GR.out⟩
        have := AR.out
        rw [List.take_of_length_le (by rw [HN.out]; exact Nat.le_refl _)] at this
        rw [this, HRS.out]
        rfl
  · have hne : ((N : Int) != 1) = true := by simp; omega
    by_cases k2 : kd = 2
    · subst k2
      have hr : ow = false := by
        rw [← HOW.out, HN.out]
        unfold ownWB
        simp [hn1]
      have HRS := Lib.hid hr
      clear hr hn1
      go_wp2_with fail
      go_ret
      exact ⟨ret_bool (by rw [HRS.out]; rfl), G1.out⟩
    by_cases k3 : kd = 3
    · subst k3
      have q2 : ((3 : Int) == 2) = false := by decide
      have hr : ow = false := by
        rw [← HOW.out, HN.out]
        unfold ownWB
        simp [hn1]
      have HRS := Lib.hid hr
      clear hr hn1
      go_wp2_with fail
      go_ret
      exact ⟨ret_bool (by rw [HRS.out]; rfl), G1.out⟩
    by_cases k4 : kd = 4
    · subst k4
      have q2 : ((4 : Int) == 2) = false := by decide
      have q3 : ((4 : Int) == 3) = false := by decide
      have hr : ow = false := by
        rw [← HOW.out, HN.out]
        unfold ownWB
        simp [hn1]
      have HRS := Lib.hid hr
      clear hr hn1
      go_wp2_with fail
      go_ret
      exact ⟨ret_bool (by rw [HRS.out]; rfl), G1.out⟩
    have q2 : (kd == 2) = false := beq_eq_false_iff_ne.2 k2
    have q3 : (kd == 3) = false := beq_eq_false_iff_ne.2 k3
    have q4 : (kd == 4) = false := beq_eq_false_iff_ne.2 k4
    have hr : ow = true := by
      rw [← HOW.out]
      unfold ownWB
      rw [q2, q3, q4]
      rfl
    have HRS := Lib.hid hr
    clear hr hn1
    go_wp2_with fail
    clear n0 n4 nl
    go_loopw [3] (fun i wr => ∃ (j : Nat), i = .int .i64 j ∧ j ≤ N ∧ Hid (Grew w1 wr) ∧ Hid ((subs.take j).all wholeB = true)) (fun i _ => N - (intOf i).toNat)
    case atStart => exact ⟨0, rfl, by omega, Grew.refl _, rfl⟩
    case round =>
      obtain ⟨j, rfl, hj, GR, AR⟩ := hrel
      have hON := HO.out.keep GR.out
      have n4 := hON.cell_at (i := 4) rfl
      have nl := hON.lt
      by_cases hlt : j < N
      · have hidx : j < subs.length := by rw [HN.out]; exact hlt
        obtain ⟨bq, off, rfl, hbq, hnode⟩ := H9.out.get hidx
        simp only [Nat.zero_add] at hnode
        have GW := Lib.hid (G1.out.trans GR.out)
        have hb4 : bq < wr.heap.size := Nat.lt_of_lt_of_le hbq GW.out.size
        have ecell : ∀ o, wr.cell? ⟨bq, o, none⟩ = W.cell? ⟨bq, o, none⟩ := fun o => GW.out.cells _ _ hbq
        have hst := all_take wholeB subs hidx
        rw [AR.out, Bool.true_and] at hst
        have HST := Lib.hid hst
        have hih := HIH.out j hidx
        have HMEM := Lib.hid (List.getElem_mem hidx)
        generalize subs[j] = s at *
        obtain ⟨u0, u1, u2, u3, u4, e0, e1, e2, e3, e4, hnode⟩ := hnode.vals
        obtain ⟨m0, m1, m2, m3, m4, m5, m6, m7, m8, rfl, rfl, rfl, rfl, rfl⟩ := hnode.forms
        rw [← ecell] at e0 e1 e2 e3 e4
        have HC := Lib.hid (hih wr _ _ _ _ _ ((hnode.keep GW.out).mono GW.out.size))
        clear hnode ecell hbq hst hih hON
        go_wp2_with fail
        refine HC.out.mono ?_
        rintro e w2 ⟨rfl, hg2⟩
        have G2 := Lib.hid (GR.out.trans hg2)
        obtain ⟨b, hb⟩ : ∃ b, wholeB s = b := ⟨_, rfl⟩
        have HB := Lib.hid hb
        rw [hb]
        clear hb hg2 e0 e1 e2 e3 e4 n4 nl hb4 HC
        cases b
        · go_wp2_with fail
          go_ret
          refine ⟨ret_bool ?_, G1.out.trans G2.out⟩
          have : subs.all wholeB = false := by
            rw [List.all_eq_false]
            exact ⟨s, HMEM.out, by rw [HB.out]; decide⟩
          rw [this, Bool.and_false]
        · go_wp2_with fail
          exact ⟨⟨j + 1, by go_num, by omega, G2.out, by rw [Hid, HST.out, HB.out]⟩, by simp [intOf]; omega⟩
      · obtain rfl : j = N := by omega
        clear hON
        go_wp2_with fail
        go_ret
        refine ⟨ret_bool ?_, G1.out.trans GR.out⟩
        have := AR.out
        rw [List.take_of_length_le (by rw [HN.out]; exact Nat.le_refl _)] at this
        rw [this, HRS.out]
        rfl
end Go.Proofs.YtkinlcichclnkaaDoor

/- The chapter's example of nfas: its grammar, that nothing is wrong with it, what is built. Plain. -/
namespace Go.Proofs.YtkinlcichclnkaaDoor
open Go.RowKit

def lit8 : Nd := .mk 8 { data := #[] } { data := #[97, 98] } [] []
def star8 : Nd := .mk 3 { data := #[] } { data := #[] } [] [lit8]
def set8 : Nd := .mk 9 { data := #[] } { data := #[] } [(120, 120)] []
def body8 : Nd := .mk 1 { data := #[] } { data := #[] } [] [star8, set8]
def tok8 : Nd := .mk 6 { data := #[65] } { data := #[] } [] []
def g8 : Gr := ⟨{ data := #[] }, 0, 0, [⟨{ data := #[115] }, 0, tok8, 0, 0, 0⟩, ⟨{ data := #[65] }, 1, body8, 0, 0, 0⟩]⟩
theorem g8_empty {es : List Bool} (h : g8.IsEmpty es) : es = [false, false] := by
  refine h.unique ⟨Gr.Sound.start g8, fun i hi hm => ?_⟩
  have hi' : i < 2 := hi
  match i, hi' with
  | 0, _ =>
    have hf : g8.may [false, false] (Rl.token ⟨{ data := #[115] }, 0, tok8, 0, 0, 0⟩) tok8 = false := by kernel_rfl
    exact absurd (hf.symm.trans hm) (by decide)
  | 1, _ =>
    have hf : g8.may [false, false] (Rl.token ⟨{ data := #[65] }, 1, body8, 0, 0, 0⟩) body8 = false := by kernel_rfl
    exact absurd (hf.symm.trans hm) (by decide)
theorem no_tc8 {O : Nat → Nat → Prop} (hn : ∀ i k, ¬ O i k) {n : Nat} {M : List (List Bool)} (h : IsReach O n M) (i k : Nat) : at2 M i k = false := by
  cases hh : at2 M i k
  · rfl
  · have := (h.tc _ _).1 hh
    cases this with
    | one h => exact absurd h (hn _ _)
    | more h _ => exact absurd h (hn _ _)
theorem g8_once (i k : Nat) : ¬ g8.Once [false, false] i k := by
  unfold Gr.Once
  have hM : g8.onceM [false, false] = List.replicate 2 [false, false] := by kernel_rfl
  rw [hM]
  unfold at2
  rcases i with _ | _ | i <;> rcases k with _ | _ | k <;> simp [List.replicate]
theorem g8_rd0 (i k : Nat) : ¬ g8.rd0 i k := by
  rintro ⟨hi, hk, h, _, m, hm, h3, _⟩
  have hi' : i < 2 := hi
  match i, hi' with
  | 0, _ => cases h
  | 1, _ =>
    replace hm : m ∈ [body8, star8, lit8, set8] := hm
    simp only [List.mem_cons, List.not_mem_nil, or_false] at hm
    rcases hm with rfl | rfl | rfl | rfl <;> exact absurd h3 (by decide)
theorem g8_told {es : List Bool} {M N : List (List Bool)} (he : g8.IsEmpty es) (hM : IsReach (g8.Once es) g8.rules.length M) (hN : IsReach g8.rd0 g8.rules.length N) : g8.told es (at2 M) (at2 N) = [] := by
  obtain rfl := g8_empty he
  have h1 : at2 M = fun _ _ => false := by funext i k; exact no_tc8 g8_once hM i k
  have h2 : at2 N = fun _ _ => false := by funext i k; exact no_tc8 g8_rd0 hN i k
  rw [h1, h2]
  have : (g8.told [false, false] (fun _ _ => false) (fun _ _ => false)).isEmpty = true := by kernel_rfl
  exact List.isEmpty_iff.1 this
theorem g8_tidy : ¬ g8.Untidy := fun ⟨_, _, _, h, h1, h2, h3⟩ => h (g8_told h1 h2 h3)
theorem g8_slight : g8.Slight := by
  refine ⟨by decide, fun i hi => ?_⟩
  have hi' : i < 2 := hi
  match i, hi' with
  | 0, _ => exact (by kernel_rfl : decide (tok8.total ≤ 3000) = true) |> of_decide_eq_true
  | 1, _ => exact (by kernel_rfl : decide (body8.total ≤ 3000) = true) |> of_decide_eq_true
theorem g8_made : g8.made = ((5, 4), ⟨[⟨[(97, 97)], 0, 2⟩, ⟨[(98, 98)], 0, 5⟩, ⟨[(120, 120)], 0, 0⟩], 65532, false⟩) := by kernel_rfl
theorem g8_of : (g8.of [1, 3]).length = 1 := by kernel_rfl
theorem pl_5 : placesL 5 = [0, 2] := by kernel_rfl
theorem pl_2 : placesL 2 = [1] := by kernel_rfl
theorem pl_0 : placesL 0 = [] := by kernel_rfl
end Go.Proofs.YtkinlcichclnkaaDoor
