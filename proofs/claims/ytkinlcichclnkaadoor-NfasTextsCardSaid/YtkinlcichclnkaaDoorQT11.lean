/- nulls.reaches. -/
import Derived.Test.YtkinlcichclnkaaDoorQT10
namespace Go.Proofs.YtkinlcichclnkaaDoor
open Go.RowKit

def AllTo (g : Gr) (es : List Bool) (token : Bool) (l : List Nd) (j : Nat) : Prop := ∀ i (h : i < l.length), i < j → g.may es token l[i] = true
theorem allTo_next {g : Gr} {es : List Bool} {token : Bool} {l : List Nd} {j : Nat} (h : AllTo g es token l j) (hj : j < l.length) (hm : g.may es token l[j] = true) : AllTo g es token l (j + 1) := by
  intro i hi hlt
  by_cases e : i = j
  · subst e; exact hm
  · exact h i hi (by omega)

set_option maxHeartbeats 8000000 in
set_option maxRecDepth 20000 in
theorem reaches_ok (g : Gr) (es : List Bool) (token : Bool) (n : Nd) : ∀ (W : World) (lim ab eb ob ib rb t i : Nat) (l : List Bool) (v0 v1 v2 v3 v4 : Value), AskOwn W lim ab eb g es → NodeAt W lim (some v0) (some v1) (some v2) (some v3) (some v4) n →
    RowAt W ob ib rb t g.rules.length i l → lim ≤ t → ab ≠ t → eb ≠ t →
    Calls Tryd.prog 56 #[.pointer (some ⟨ab, 0, none⟩), .bool token, .agg #[v0, v1, v2, v3, v4], .func (.func 58) #[] #[.pointer (some ⟨ob, 0, none⟩), .pointer (some ⟨ib, 0, none⟩)]] W fun e W' => Marks t g.rules.length W (g.marks es token n l) e W' := by
  induction n using Nd.ind with
  | h k nm tx set subs ih =>
  intro W lim ab eb ob ib rb t i l v0 v1 v2 v3 v4 hA hN hR hlt1 hat het
  have hN' := hN
  rw [NodeAt] at hN
  obtain ⟨hk, h1, h2, h3, h4, h5, ⟨sa, sc, h6, h6', h7⟩, na, nc, h8, h8', h9⟩ := hN
  obtain rfl := Option.some.inj h3
  obtain rfl := Option.some.inj h4
  obtain rfl := Option.some.inj h5
  obtain rfl := Option.some.inj h6
  obtain rfl := Option.some.inj h8
  clear h3 h4 h5 h6 h8 h7
  have htl := hR.ft.lt
  have hk' : k = 1 ∨ (k = 0 ∨ k = 2 ∨ k = 3 ∨ k = 4 ∨ k = 7) ∨ (k = 5 ∨ k = 6) ∨ (k = 8 ∨ 9 ≤ k) := by omega
  have hb0 := grew_alloc W (.cells #[.int .u8 k, .string nm, .string tx, .slice sa set.length sc, .slice na subs.length nc] 34)
  unfold reachN at h1 h2 h6' h8'
  have HIH := Lib.hid ih
  have HAA := Lib.hid hA
  have HRR := Lib.hid hR
  have HNS := Lib.hid h9
  have HB0 := Lib.hid hb0
  clear ih hA hR h9 hb0
  rcases hk' with rfl | hkk | hkk | hkk
  · go_enter Tryd.func56, Tryd.ntmps56
    go_wp2_with fail
    go_loopw [20] (fun c wr => ∃ (j : Nat) (l' : List Bool), c = .int .i64 j ∧ j ≤ subs.length ∧ Hid (l' = g.marksAll es token (subs.take j) l) ∧ Hid (AllTo g es token subs j) ∧ Hid (RowAt wr ob ib rb t g.rules.length i l') ∧ Hid (Upd t W wr)) (fun c _ => subs.length - (intOf c).toNat)
    case atStart =>
      exact ⟨0, l, rfl, by omega, by simp [Hid, Gr.marksAll], fun i h hh => absurd hh (by omega), HRR.out.keep HB0.out, HB0.out.upd t⟩
    case round =>
      obtain ⟨j, l', rfl, hj, hl', hall, hrow, hupd⟩ := hrel
      by_cases hlt : j < subs.length
      · obtain ⟨b, off, rfl, hb, hnode⟩ := (HNS.out.keep (hupd.out.below hlt1 (by omega))).get hlt
        simp only [Nat.zero_add] at hnode
        obtain ⟨u0, u1, u2, u3, u4, e0, e1, e2, e3, e4, hnode⟩ := hnode.vals
        obtain ⟨bk, bnm, btx, bsa, bsl, bsc, bna, bnl, bnc, rfl, rfl, rfl, rfl, rfl⟩ := hnode.forms
        have hwr := hupd.out.size
        have hgx := grew_alloc wr (.cells #[.int .u8 bk, .string bnm, .string btx, .slice bsa bsl bsc, .slice bna bnl bnc] 34)
        have hOx := Owns.alloc wr [.int .u8 bk, .string bnm, .string btx, .slice bsa bsl bsc, .slice bna bnl bnc] 34
        have hAx := (HAA.out.upd hupd.out hlt1 hat het).keep hgx
        have hNx := hnode.keep (hgx.mono (show lim ≤ wr.heap.size by omega))
        have hS1 := Lib.hid (HIH.out j hlt _ lim ab eb ob ib rb t i l' _ _ _ _ _ hAx hNx (hrow.out.keep hgx) hlt1 hat het)
        have HGX := Lib.hid hgx
        have HOX := Lib.hid hOx
        have HAX := Lib.hid hAx
        have HNX := Lib.hid hNx
        clear hgx hOx hAx hNx hnode
        go_wp2_with fail
        refine hS1.out.mono ?_
        rintro e w3 ⟨rfl, hu3, ho3, hl3⟩
        have hne : wr.heap.size ≠ t := by omega
        have hlo : wr.heap.size < (wr.alloc (.cells #[.int .u8 bk, .string bnm, .string btx, .slice bsa bsl bsc, .slice bna bnl bnc] 34)).heap.size := by simp
        have c0 : w3.cell? ⟨wr.heap.size, 0, none⟩ = some (.int .u8 bk) := by rw [hu3.cell hlo hne]; exact HOX.out.cell_at rfl
        have c1 : w3.cell? ⟨wr.heap.size, 1, none⟩ = some (.string bnm) := by rw [hu3.cell hlo hne]; exact HOX.out.cell_at rfl
        have c2 : w3.cell? ⟨wr.heap.size, 2, none⟩ = some (.string btx) := by rw [hu3.cell hlo hne]; exact HOX.out.cell_at rfl
        have c3 : w3.cell? ⟨wr.heap.size, 3, none⟩ = some (.slice bsa bsl bsc) := by rw [hu3.cell hlo hne]; exact HOX.out.cell_at rfl
        have c4 : w3.cell? ⟨wr.heap.size, 4, none⟩ = some (.slice bna bnl bnc) := by rw [hu3.cell hlo hne]; exact HOX.out.cell_at rfl
        have hA3 := HAX.out.upd hu3 hlt1 hat het
        have hs3 := hu3.size
        have hsx : wr.heap.size + 1 ≤ w3.heap.size := by have := hu3.size; simp at this; omega
        have hN3 := (HNX.out.keep (hu3.below hlt1 (by simp; omega))).mono (show lim ≤ w3.heap.size by omega)
        have hS2 := Lib.hid (may_ok g es token subs[j] w3 ab eb _ _ _ _ _ hA3.ask hN3)
        have HU3 := Lib.hid ((hupd.out.trans (HGX.out.upd t)).trans hu3)
        have HO3 := Lib.hid ho3
        have HL3 := Lib.hid hl3
        have HR3 := Lib.hid ((hrow.out.keep HGX.out).upd hu3 ho3 hl3)
        clear hu3 ho3 hl3 hA3 hN3 hS1 hlo hs3
        obtain ⟨bm, hbm⟩ : ∃ bm, bm = g.may es token subs[j] := ⟨_, rfl⟩
        rw [← hbm] at hS2
        have HBM := Lib.hid hbm
        clear hbm e0 e1 e2 e3 e4
        cases bm
        · go_wp2_with (go_at_call 68; refine hS2.out.mono ?_; rintro e w4 ⟨rfl, hb4⟩)
          refine bodyPost_ret (results_none rfl _ _ _) rfl ?_
          have hm : g.marks es token (.mk 1 nm tx set subs) l = g.marks es token subs[j] l' := by
            rw [Gr.marks]
            simp only [beq_self_eq_true, if_true]
            rw [marksSeq_split g es token subs l j hall.out hj, ← hl'.out, List.drop_eq_getElem_cons hlt, Gr.marksSeq, ← HBM.out]
            rfl
          rw [hm]
          exact ⟨rfl, HU3.out.trans (Grew.upd hb4 t), HO3.out.keep hb4, HL3.out⟩
        · go_wp2_with (go_at_call 68; refine hS2.out.mono ?_; rintro e w4 ⟨rfl, hb4⟩)
          exact ⟨⟨j + 1, g.marks es token subs[j] l', by go_num, by omega, by unfold Hid; rw [marksAll_take g es token subs l j hlt, ← hl'.out], allTo_next hall.out hlt HBM.out.symm, HR3.out.keep hb4, HU3.out.trans (Grew.upd hb4 t)⟩, by simp [intOf]; omega⟩
      · go_wp2_with fail
        go_end0
        have hjl : j = subs.length := by omega
        have hm : g.marks es token (.mk 1 nm tx set subs) l = l' := by
          rw [Gr.marks]
          simp only [beq_self_eq_true, if_true]
          rw [marksSeq_split g es token subs l j hall.out hj, ← hl'.out, hjl, List.drop_length]
          rfl
        rw [hm]
        exact ⟨rfl, hupd.out, hrow.out.ft, hrow.out.fl⟩
  · rcases hkk with rfl | rfl | rfl | rfl | rfl
    · go_enter Tryd.func56, Tryd.ntmps56
      go_wp2_with fail
      go_loopw [44] (fun c wr => ∃ (j : Nat) (l' : List Bool), c = .int .i64 j ∧ j ≤ subs.length ∧ Hid (l' = g.marksAll es token (subs.take j) l) ∧ Hid (RowAt wr ob ib rb t g.rules.length i l') ∧ Hid (Upd t W wr)) (fun c _ => subs.length - (intOf c).toNat)
      case atStart =>
        exact ⟨0, l, rfl, by omega, by simp [Hid, Gr.marksAll], HRR.out.keep HB0.out, HB0.out.upd t⟩
      case round =>
        obtain ⟨j, l', rfl, hj, hl', hrow, hupd⟩ := hrel
        by_cases hlt : j < subs.length
        · obtain ⟨b, off, rfl, hb, hnode⟩ := (HNS.out.keep (hupd.out.below hlt1 (by omega))).get hlt
          simp only [Nat.zero_add] at hnode
          obtain ⟨u0, u1, u2, u3, u4, e0, e1, e2, e3, e4, hnode⟩ := hnode.vals
          obtain ⟨bk, bnm, btx, bsa, bsl, bsc, bna, bnl, bnc, rfl, rfl, rfl, rfl, rfl⟩ := hnode.forms
          have hwr := hupd.out.size
          have hgx := grew_alloc wr (.cells #[.int .u8 bk, .string bnm, .string btx, .slice bsa bsl bsc, .slice bna bnl bnc] 34)
          have hAx := (HAA.out.upd hupd.out hlt1 hat het).keep hgx
          have hNx := hnode.keep (hgx.mono (show lim ≤ wr.heap.size by omega))
          have hS1 := Lib.hid (HIH.out j hlt _ lim ab eb ob ib rb t i l' _ _ _ _ _ hAx hNx (hrow.out.keep hgx) hlt1 hat het)
          have HGX := Lib.hid hgx
          clear hgx hAx hNx hnode
          go_wp2_with fail
          refine hS1.out.mono ?_
          rintro e w3 ⟨rfl, hu3, ho3, hl3⟩
          have HU3 := Lib.hid ((hupd.out.trans (HGX.out.upd t)).trans hu3)
          have HR3 := Lib.hid ((hrow.out.keep HGX.out).upd hu3 ho3 hl3)
          clear hu3 ho3 hl3 hS1
          clear e0 e1 e2 e3 e4
          go_wp2_with fail
          exact ⟨⟨j + 1, g.marks es token subs[j] l', by go_num, by omega, by unfold Hid; rw [marksAll_take g es token subs l j hlt, ← hl'.out], HR3.out, HU3.out⟩, by simp [intOf]; omega⟩
        · go_wp2_with fail
          go_end0
          have hjl : j = subs.length := by omega
          have hm : g.marks es token (.mk 0 nm tx set subs) l = l' := by
            rw [Gr.marks, hl'.out, hjl, List.take_length]
            rfl
          rw [hm]
          exact ⟨rfl, hupd.out, hrow.out.ft, hrow.out.fl⟩
    · go_enter Tryd.func56, Tryd.ntmps56
      go_wp2_with fail
      go_loopw [44] (fun c wr => ∃ (j : Nat) (l' : List Bool), c = .int .i64 j ∧ j ≤ subs.length ∧ Hid (l' = g.marksAll es token (subs.take j) l) ∧ Hid (RowAt wr ob ib rb t g.rules.length i l') ∧ Hid (Upd t W wr)) (fun c _ => subs.length - (intOf c).toNat)
      case atStart =>
        exact ⟨0, l, rfl, by omega, by simp [Hid, Gr.marksAll], HRR.out.keep HB0.out, HB0.out.upd t⟩
      case round =>
        obtain ⟨j, l', rfl, hj, hl', hrow, hupd⟩ := hrel
        by_cases hlt : j < subs.length
        · obtain ⟨b, off, rfl, hb, hnode⟩ := (HNS.out.keep (hupd.out.below hlt1 (by omega))).get hlt
          simp only [Nat.zero_add] at hnode
          obtain ⟨u0, u1, u2, u3, u4, e0, e1, e2, e3, e4, hnode⟩ := hnode.vals
          obtain ⟨bk, bnm, btx, bsa, bsl, bsc, bna, bnl, bnc, rfl, rfl, rfl, rfl, rfl⟩ := hnode.forms
          have hwr := hupd.out.size
          have hgx := grew_alloc wr (.cells #[.int .u8 bk, .string bnm, .string btx, .slice bsa bsl bsc, .slice bna bnl bnc] 34)
          have hAx := (HAA.out.upd hupd.out hlt1 hat het).keep hgx
          have hNx := hnode.keep (hgx.mono (show lim ≤ wr.heap.size by omega))
          have hS1 := Lib.hid (HIH.out j hlt _ lim ab eb ob ib rb t i l' _ _ _ _ _ hAx hNx (hrow.out.keep hgx) hlt1 hat het)
          have HGX := Lib.hid hgx
          clear hgx hAx hNx hnode
          go_wp2_with fail
          refine hS1.out.mono ?_
          rintro e w3 ⟨rfl, hu3, ho3, hl3⟩
          have HU3 := Lib.hid ((hupd.out.trans (HGX.out.upd t)).trans hu3)
          have HR3 := Lib.hid ((hrow.out.keep HGX.out).upd hu3 ho3 hl3)
          clear hu3 ho3 hl3 hS1
          clear e0 e1 e2 e3 e4
          go_wp2_with fail
          exact ⟨⟨j + 1, g.marks es token subs[j] l', by go_num, by omega, by unfold Hid; rw [marksAll_take g es token subs l j hlt, ← hl'.out], HR3.out, HU3.out⟩, by simp [intOf]; omega⟩
        · go_wp2_with fail
          go_end0
          have hjl : j = subs.length := by omega
          have hm : g.marks es token (.mk 2 nm tx set subs) l = l' := by
            rw [Gr.marks, hl'.out, hjl, List.take_length]
            rfl
          rw [hm]
          exact ⟨rfl, hupd.out, hrow.out.ft, hrow.out.fl⟩
    · go_enter Tryd.func56, Tryd.ntmps56
      go_wp2_with fail
      go_loopw [44] (fun c wr => ∃ (j : Nat) (l' : List Bool), c = .int .i64 j ∧ j ≤ subs.length ∧ Hid (l' = g.marksAll es token (subs.take j) l) ∧ Hid (RowAt wr ob ib rb t g.rules.length i l') ∧ Hid (Upd t W wr)) (fun c _ => subs.length - (intOf c).toNat)
      case atStart =>
        exact ⟨0, l, rfl, by omega, by simp [Hid, Gr.marksAll], HRR.out.keep HB0.out, HB0.out.upd t⟩
      case round =>
        obtain ⟨j, l', rfl, hj, hl', hrow, hupd⟩ := hrel
        by_cases hlt : j < subs.length
        · obtain ⟨b, off, rfl, hb, hnode⟩ := (HNS.out.keep (hupd.out.below hlt1 (by omega))).get hlt
          simp only [Nat.zero_add] at hnode
          obtain ⟨u0, u1, u2, u3, u4, e0, e1, e2, e3, e4, hnode⟩ := hnode.vals
          obtain ⟨bk, bnm, btx, bsa, bsl, bsc, bna, bnl, bnc, rfl, rfl, rfl, rfl, rfl⟩ := hnode.forms
          have hwr := hupd.out.size
          have hgx := grew_alloc wr (.cells #[.int .u8 bk, .string bnm, .string btx, .slice bsa bsl bsc, .slice bna bnl bnc] 34)
          have hAx := (HAA.out.upd hupd.out hlt1 hat het).keep hgx
          have hNx := hnode.keep (hgx.mono (show lim ≤ wr.heap.size by omega))
          have hS1 := Lib.hid (HIH.out j hlt _ lim ab eb ob ib rb t i l' _ _ _ _ _ hAx hNx (hrow.out.keep hgx) hlt1 hat het)
          have HGX := Lib.hid hgx
          clear hgx hAx hNx hnode
          go_wp2_with fail
          refine hS1.out.mono ?_
          rintro e w3 ⟨rfl, hu3, ho3, hl3⟩
          have HU3 := Lib.hid ((hupd.out.trans (HGX.out.upd t)).trans hu3)
          have HR3 := Lib.hid ((hrow.out.keep HGX.out).upd hu3 ho3 hl3)
          clear hu3 ho3 hl3 hS1
          clear e0 e1 e2 e3 e4
          go_wp2_with fail
          exact ⟨⟨j + 1, g.marks es token subs[j] l', by go_num, by omega, by unfold Hid; rw [marksAll_take g es token subs l j hlt, ← hl'.out], HR3.out, HU3.out⟩, by simp [intOf]; omega⟩
        · go_wp2_with fail
          go_end0
          have hjl : j = subs.length := by omega
          have hm : g.marks es token (.mk 3 nm tx set subs) l = l' := by
            rw [Gr.marks, hl'.out, hjl, List.take_length]
            rfl
          rw [hm]
          exact ⟨rfl, hupd.out, hrow.out.ft, hrow.out.fl⟩
    · go_enter Tryd.func56, Tryd.ntmps56
      go_wp2_with fail
      go_loopw [44] (fun c wr => ∃ (j : Nat) (l' : List Bool), c = .int .i64 j ∧ j ≤ subs.length ∧ Hid (l' = g.marksAll es token (subs.take j) l) ∧ Hid (RowAt wr ob ib rb t g.rules.length i l') ∧ Hid (Upd t W wr)) (fun c _ => subs.length - (intOf c).toNat)
      case atStart =>
        exact ⟨0, l, rfl, by omega, by simp [Hid, Gr.marksAll], HRR.out.keep HB0.out, HB0.out.upd t⟩
      case round =>
        obtain ⟨j, l', rfl, hj, hl', hrow, hupd⟩ := hrel
        by_cases hlt : j < subs.length
        · obtain ⟨b, off, rfl, hb, hnode⟩ := (HNS.out.keep (hupd.out.below hlt1 (by omega))).get hlt
          simp only [Nat.zero_add] at hnode
          obtain ⟨u0, u1, u2, u3, u4, e0, e1, e2, e3, e4, hnode⟩ := hnode.vals
          obtain ⟨bk, bnm, btx, bsa, bsl, bsc, bna, bnl, bnc, rfl, rfl, rfl, rfl, rfl⟩ := hnode.forms
          have hwr := hupd.out.size
          have hgx := grew_alloc wr (.cells #[.int .u8 bk, .string bnm, .string btx, .slice bsa bsl bsc, .slice bna bnl bnc] 34)
          have hAx := (HAA.out.upd hupd.out hlt1 hat het).keep hgx
          have hNx := hnode.keep (hgx.mono (show lim ≤ wr.heap.size by omega))
          have hS1 := Lib.hid (HIH.out j hlt _ lim ab eb ob ib rb t i l' _ _ _ _ _ hAx hNx (hrow.out.keep hgx) hlt1 hat het)
          have HGX := Lib.hid hgx
          clear hgx hAx hNx hnode
          go_wp2_with fail
          refine hS1.out.mono ?_
          rintro e w3 ⟨rfl, hu3, ho3, hl3⟩
          have HU3 := Lib.hid ((hupd.out.trans (HGX.out.upd t)).trans hu3)
          have HR3 := Lib.hid ((hrow.out.keep HGX.out).upd hu3 ho3 hl3)
          clear hu3 ho3 hl3 hS1
          clear e0 e1 e2 e3 e4
          go_wp2_with fail
          exact ⟨⟨j + 1, g.marks es token subs[j] l', by go_num, by omega, by unfold Hid; rw [marksAll_take g es token subs l j hlt, ← hl'.out], HR3.out, HU3.out⟩, by simp [intOf]; omega⟩
        · go_wp2_with fail
          go_end0
          have hjl : j = subs.length := by omega
          have hm : g.marks es token (.mk 4 nm tx set subs) l = l' := by
            rw [Gr.marks, hl'.out, hjl, List.take_length]
            rfl
          rw [hm]
          exact ⟨rfl, hupd.out, hrow.out.ft, hrow.out.fl⟩
    · go_enter Tryd.func56, Tryd.ntmps56
      go_wp2_with fail
      go_loopw [44] (fun c wr => ∃ (j : Nat) (l' : List Bool), c = .int .i64 j ∧ j ≤ subs.length ∧ Hid (l' = g.marksAll es token (subs.take j) l) ∧ Hid (RowAt wr ob ib rb t g.rules.length i l') ∧ Hid (Upd t W wr)) (fun c _ => subs.length - (intOf c).toNat)
      case atStart =>
        exact ⟨0, l, rfl, by omega, by simp [Hid, Gr.marksAll], HRR.out.keep HB0.out, HB0.out.upd t⟩
      case round =>
        obtain ⟨j, l', rfl, hj, hl', hrow, hupd⟩ := hrel
        by_cases hlt : j < subs.length
        · obtain ⟨b, off, rfl, hb, hnode⟩ := (HNS.out.keep (hupd.out.below hlt1 (by omega))).get hlt
          simp only [Nat.zero_add] at hnode
          obtain ⟨u0, u1, u2, u3, u4, e0, e1, e2, e3, e4, hnode⟩ := hnode.vals
          obtain ⟨bk, bnm, btx, bsa, bsl, bsc, bna, bnl, bnc, rfl, rfl, rfl, rfl, rfl⟩ := hnode.forms
          have hwr := hupd.out.size
          have hgx := grew_alloc wr (.cells #[.int .u8 bk, .string bnm, .string btx, .slice bsa bsl bsc, .slice bna bnl bnc] 34)
          have hAx := (HAA.out.upd hupd.out hlt1 hat het).keep hgx
          have hNx := hnode.keep (hgx.mono (show lim ≤ wr.heap.size by omega))
          have hS1 := Lib.hid (HIH.out j hlt _ lim ab eb ob ib rb t i l' _ _ _ _ _ hAx hNx (hrow.out.keep hgx) hlt1 hat het)
          have HGX := Lib.hid hgx
          clear hgx hAx hNx hnode
          go_wp2_with fail
          refine hS1.out.mono ?_
          rintro e w3 ⟨rfl, hu3, ho3, hl3⟩
          have HU3 := Lib.hid ((hupd.out.trans (HGX.out.upd t)).trans hu3)
          have HR3 := Lib.hid ((hrow.out.keep HGX.out).upd hu3 ho3 hl3)
          clear hu3 ho3 hl3 hS1
          clear e0 e1 e2 e3 e4
          go_wp2_with fail
          exact ⟨⟨j + 1, g.marks es token subs[j] l', by go_num, by omega, by unfold Hid; rw [marksAll_take g es token subs l j hlt, ← hl'.out], HR3.out, HU3.out⟩, by simp [intOf]; omega⟩
        · go_wp2_with fail
          go_end0
          have hjl : j = subs.length := by omega
          have hm : g.marks es token (.mk 7 nm tx set subs) l = l' := by
            rw [Gr.marks, hl'.out, hjl, List.take_length]
            rfl
          rw [hm]
          exact ⟨rfl, hupd.out, hrow.out.ft, hrow.out.fl⟩
  · rcases hkk with rfl | rfl
    · have hNm := Lib.hid (named_ok g es token _ _ ab eb _ _ _ _ _ (HAA.out.keep HB0.out).ask ((hN'.keep (HB0.out.mono (by omega))).mono (by have := HB0.out.size; omega)))
      have hnr := named_range g token (.mk 5 nm tx set subs)
      rcases hnr with hi | ⟨j, hj, hi⟩
      · have hfin : Hid (g.marks es token (.mk 5 nm tx set subs) l = l) := by simp [Hid, Gr.marks, hi]
        rw [hi] at hNm
        clear hi hN'
        go_enter Tryd.func56, Tryd.ntmps56
        go_wp2_with (go_at_call 69; refine hNm.out.mono ?_; rintro e w3 ⟨rfl, hb3⟩; have HB3 := Lib.hid hb3; clear hb3)
        go_end0
        rw [hfin.out]
        exact ⟨rfl, Grew.upd (HB0.out.trans HB3.out) t, HRR.out.ft.keep (HB0.out.trans HB3.out), HRR.out.fl⟩
      · have hfin : Hid (g.marks es token (.mk 5 nm tx set subs) l = l.set j true) := by simp [Hid, Gr.marks, hi]
        rw [hi] at hNm
        have HJ := Lib.hid hj
        clear hi hN'
        go_enter Tryd.func56, Tryd.ntmps56
        go_wp2_with (first | (go_at_call 69; refine hNm.out.mono ?_; rintro e w3 ⟨rfl, hb3⟩; have HB3 := Lib.hid hb3; clear hb3) | (go_at_call 58; refine (reach1_ok _ ob ib rb t g.rules.length i l j (HRR.out.keep (HB0.out.trans HB3.out)) HJ.out).mono ?_; rintro e w4 ⟨rfl, hu4, ho4, hl4⟩; have HU4 := Lib.hid hu4; have HO4 := Lib.hid ho4; have HL4 := Lib.hid hl4; clear hu4 ho4 hl4))
        go_end0
        rw [hfin.out]
        exact ⟨rfl, (Grew.upd (HB0.out.trans HB3.out) t).trans HU4.out, HO4.out, HL4.out⟩
    · have hNm := Lib.hid (named_ok g es token _ _ ab eb _ _ _ _ _ (HAA.out.keep HB0.out).ask ((hN'.keep (HB0.out.mono (by omega))).mono (by have := HB0.out.size; omega)))
      have hnr := named_range g token (.mk 6 nm tx set subs)
      rcases hnr with hi | ⟨j, hj, hi⟩
      · have hfin : Hid (g.marks es token (.mk 6 nm tx set subs) l = l) := by simp [Hid, Gr.marks, hi]
        rw [hi] at hNm
        clear hi hN'
        go_enter Tryd.func56, Tryd.ntmps56
        go_wp2_with (go_at_call 69; refine hNm.out.mono ?_; rintro e w3 ⟨rfl, hb3⟩; have HB3 := Lib.hid hb3; clear hb3)
        go_end0
        rw [hfin.out]
        exact ⟨rfl, Grew.upd (HB0.out.trans HB3.out) t, HRR.out.ft.keep (HB0.out.trans HB3.out), HRR.out.fl⟩
      · have hfin : Hid (g.marks es token (.mk 6 nm tx set subs) l = l.set j true) := by simp [Hid, Gr.marks, hi]
        rw [hi] at hNm
        have HJ := Lib.hid hj
        clear hi hN'
        go_enter Tryd.func56, Tryd.ntmps56
        go_wp2_with (first | (go_at_call 69; refine hNm.out.mono ?_; rintro e w3 ⟨rfl, hb3⟩; have HB3 := Lib.hid hb3; clear hb3) | (go_at_call 58; refine (reach1_ok _ ob ib rb t g.rules.length i l j (HRR.out.keep (HB0.out.trans HB3.out)) HJ.out).mono ?_; rintro e w4 ⟨rfl, hu4, ho4, hl4⟩; have HU4 := Lib.hid hu4; have HO4 := Lib.hid ho4; have HL4 := Lib.hid hl4; clear hu4 ho4 hl4))
        go_end0
        rw [hfin.out]
        exact ⟨rfl, (Grew.upd (HB0.out.trans HB3.out) t).trans HU4.out, HO4.out, HL4.out⟩
  · have hfin : Hid (g.marks es token (.mk k nm tx set subs) l = l) := by
      have e0 : ∀ c : Int, c ≤ 7 → (k == c) = false := fun c hc => by simp; omega
      unfold Hid
      simp only [Gr.marks, e0 0 (by omega), e0 1 (by omega), e0 2 (by omega), e0 3 (by omega), e0 4 (by omega), e0 5 (by omega), e0 6 (by omega), e0 7 (by omega)]
      rfl
    have hk8 : 8 ≤ k := by omega
    clear hkk hN'
    go_enter Tryd.func56, Tryd.ntmps56
    go_wp2_with fail
    go_end0
    rw [hfin.out]
    exact ⟨rfl, HB0.out.upd t, HRR.out.ft.keep HB0.out, HRR.out.fl⟩
end Go.Proofs.YtkinlcichclnkaaDoor
