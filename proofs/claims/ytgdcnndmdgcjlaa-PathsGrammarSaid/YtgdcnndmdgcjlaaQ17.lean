/- nulls.reaches. -/
import Derived.Lib.Hide
import Derived.RangeFuncNested
import Derived.RangeFuncBound
import Derived.RangeFuncCalls
import Derived.RangeFuncLeaves
import Derived.Shelf.Abstract
import Derived.OwnWalkIn
import Derived.TacticsInMore
import Derived.LoopNIn
import Derived.LoopIn
import Derived.RangeFuncBox
import Derived.Test.YtgdcnndmdgcjlaaQ16
import Derived.Test.YtgdcnndmdgcjlaaQ1
import Derived.Test.YtgdcnndmdgcjlaaQ3
namespace Go.Proofs.Ytgdcnndmdgcjlaa
open Go.RowKit
def AllTo (g : Gr) (es : List Bool) (token : Bool) (l : List Nd) (j : Nat) : Prop := ∀ i (h : i < l.length), i < j → g.may es token l[i] = true
theorem allTo_next {g : Gr} {es : List Bool} {token : Bool} {l : List Nd} {j : Nat} (h : AllTo g es token l j) (hj : j < l.length) (hm : g.may es token l[j] = true) : AllTo g es token l (j + 1) := by
  intro i hi hlt
  by_cases e : i = j
  · subst e; exact hm
  · exact h i hi (by omega)
set_option maxHeartbeats 8000000 in
set_option maxRecDepth 20000 in
theorem reaches_ok (g : Gr) (es : List Bool) (token : Bool) (n : Nd) : ∀ (W : World) (lim ab eb ob ib rb t i : Nat) (l : List Bool) (v0 v1 v2 v3 v4 : Value), AskOwn W lim ab eb g es → NodeAt W lim (some v0) (some v1) (some v2) (some v3) (some v4) n →
    RowAt W ob ib rb t g.rules.length i l → lim ≤ t → ab ≠ t → eb ≠ t →
    Calls Try.prog 83 #[.pointer (some ⟨ab, 0, none⟩), .bool token, .agg #[v0, v1, v2, v3, v4], .func (.func 85) #[] #[.pointer (some ⟨ob, 0, none⟩), .pointer (some ⟨ib, 0, none⟩)]] W fun e W' => Marks t g.rules.length W (g.marks es token n l) e W' := by
  induction n using Nd.ind with
  | h k nm tx set subs ih =>
  intro W lim ab eb ob ib rb t i l v0 v1 v2 v3 v4 hA hN hR hlt1 hat het
  have hN' := hN
  rw [NodeAt] at hN
  obtain ⟨hk, h1, h2, h3, h4, h5, ⟨sa, sc, h6, h6', h7⟩, na, nc, h8, h8', h9⟩ := hN
  obtain rfl := Option.some.inj h3
  obtain rfl := Option.some.inj h4
  obtain rfl := Option.some.inj h5
  obtain rfl := Option.some.inj h6
  obtain rfl := Option.some.inj h8
  clear h3 h4 h5 h6 h8 h7
  have htl := hR.ft.lt
  have hk' : k = 1 ∨ (k = 0 ∨ k = 2 ∨ k = 3 ∨ k = 4 ∨ k = 7) ∨ (k = 5 ∨ k = 6) ∨ (k = 8 ∨ 9 ≤ k) := by omega
  have hb0 := grew_alloc W (.cells #[.int .u8 k, .string nm, .string tx, .slice sa set.length sc, .slice na subs.length nc] 104)
  unfold reachN at h1 h2 h6' h8'
  have HIH := Lib.hid ih
  have HAA := Lib.hid hA
  have HRR := Lib.hid hR
  have HNS := Lib.hid h9
  have HB0 := Lib.hid hb0
  clear ih hA hR h9 hb0
  rcases hk' with rfl | hkk | hkk | hkk
  · go_enter Try.func83, Try.ntmps83
    go_wp2_with fail
    go_loopw [20] (fun c wr => ∃ (j : Nat) (l' : List Bool), c = .int .i64 j ∧ j ≤ subs.length ∧ Hid (l' = g.marksAll es token (subs.take j) l) ∧ Hid (AllTo g es token subs j) ∧ Hid (RowAt wr ob ib rb t g.rules.length i l') ∧ Hid (Upd t W wr)) (fun c _ => subs.length - (intOf c).toNat)
    case atStart =>
      exact ⟨0, l, rfl, by omega, by simp [Hid, Gr.marksAll], fun i h hh => absurd hh (by omega), HRR.out.keep HB0.out, HB0.out.upd t⟩
    case round =>
      obtain ⟨j, l', rfl, hj, hl', hall, hrow, hupd⟩ := hrel
      by_cases hlt : j < subs.length
      · obtain ⟨b, off, rfl, hb, hnode⟩ := (HNS.out.keep (hupd.out.below hlt1 (by omega))).get hlt
        simp only [Nat.zero_add] at hnode
        obtain ⟨u0, u1, u2, u3, u4, e0, e1, e2, e3, e4, hnode⟩ := hnode.vals
        obtain ⟨bk, bnm, btx, bsa, bsl, bsc, bna, bnl, bnc, rfl, rfl, rfl, rfl, rfl⟩ := hnode.forms
        have hwr := hupd.out.size
        have hgx := grew_alloc wr (.cells #[.int .u8 bk, .string bnm, .string btx, .slice bsa bsl bsc, .slice bna bnl bnc] 104)
        have hOx := Owns.alloc wr [.int .u8 bk, .string bnm, .string btx, .slice bsa bsl bsc, .slice bna bnl bnc] 104
        have hAx := (HAA.out.upd hupd.out hlt1 hat het).keep hgx
        have hNx := hnode.keep (hgx.mono (show lim ≤ wr.heap.size by omega))
        have hS1 := Lib.hid (HIH.out j hlt _ lim ab eb ob ib rb t i l' _ _ _ _ _ hAx hNx (hrow.out.keep hgx) hlt1 hat het)
        have HGX := Lib.hid hgx
        have HOX := Lib.hid hOx
        have HAX := Lib.hid hAx
        have HNX := Lib.hid hNx
        clear hgx hOx hAx hNx hnode
        go_wp2_with fail
        refine hS1.out.mono ?_
        rintro e w3 ⟨rfl, hu3, ho3, hl3⟩
        have hne : wr.heap.size ≠ t := by omega
        have hlo : wr.heap.size < (wr.alloc (.cells #[.int .u8 bk, .string bnm, .string btx, .slice bsa bsl bsc, .slice bna bnl bnc] 104)).heap.size := by simp
        have c0 : w3.cell? ⟨wr.heap.size, 0, none⟩ = some (.int .u8 bk) := by rw [hu3.cell hlo hne]; exact HOX.out.cell_at rfl
        have c1 : w3.cell? ⟨wr.heap.size, 1, none⟩ = some (.string bnm) := by rw [hu3.cell hlo hne]; exact HOX.out.cell_at rfl
        have c2 : w3.cell? ⟨wr.heap.size, 2, none⟩ = some (.string btx) := by rw [hu3.cell hlo hne]; exact HOX.out.cell_at rfl
        have c3 : w3.cell? ⟨wr.heap.size, 3, none⟩ = some (.slice bsa bsl bsc) := by rw [hu3.cell hlo hne]; exact HOX.out.cell_at rfl
        have c4 : w3.cell? ⟨wr.heap.size, 4, none⟩ = some (.slice bna bnl bnc) := by rw [hu3.cell hlo hne]; exact HOX.out.cell_at rfl
        have hA3 := HAX.out.upd hu3 hlt1 hat het
        have hs3 := hu3.size
        have hsx : wr.heap.size + 1 ≤ w3.heap.size := by have := hu3.size; simp at this; omega
        have hN3 := (HNX.out.keep (hu3.below hlt1 (by simp; omega))).mono (show lim ≤ w3.heap.size by omega)
        have hS2 := Lib.hid (may_ok g es token subs[j] w3 ab eb _ _ _ _ _ hA3.ask hN3)
        have HU3 := Lib.hid ((hupd.out.trans (HGX.out.upd t)).trans hu3)
        have HO3 := Lib.hid ho3
        have HL3 := Lib.hid hl3
        have HR3 := Lib.hid ((hrow.out.keep HGX.out).upd hu3 ho3 hl3)
        clear hu3 ho3 hl3 hA3 hN3 hS1 hlo hs3
        obtain ⟨bm, hbm⟩ : ∃ bm, bm = g.may es token subs[j] := ⟨_, rfl⟩
        rw [← hbm] at hS2
        have HBM := Lib.hid hbm
        clear hbm e0 e1 e2 e3 e4
        cases bm
        · go_wp2_with (go_at_call 97; refine hS2.out.mono ?_; rintro e w4 ⟨rfl, hb4⟩)
          refine bodyPost_ret (results_none rfl _ _ _) rfl ?_
          have hm : g.marks es token (.mk 1 nm tx set subs) l = g.marks es token subs[j] l' := by
            rw [Gr.marks]
            simp only [beq_self_eq_true, if_true]
            rw [marksSeq_split g es token subs l j hall.out hj, ← hl'.out, List.drop_eq_getElem_cons hlt, Gr.marksSeq, ← HBM.out]
            rfl
          rw [hm]
          exact ⟨rfl, HU3.out.trans (Grew.upd hb4 t), HO3.out.keep hb4, HL3.out⟩
        · go_wp2_with (go_at_call 97; refine hS2.out.mono ?_; rintro e w4 ⟨rfl, hb4⟩)
          exact ⟨⟨j + 1, g.marks es token subs[j] l', by go_num, by omega, by unfold Hid; rw [marksAll_take g es token subs l j hlt, ← hl'.out], allTo_next hall.out hlt HBM.out.symm, HR3.out.keep hb4, HU3.out.trans (Grew.upd hb4 t)⟩, by simp [intOf]; omega⟩
      · go_wp2_with fail
        go_end0
        have hjl : j = subs.length := by omega
        have hm : g.marks es token (.mk 1 nm tx set subs) l = l' := by
          rw [Gr.marks]
          simp only [beq_self_eq_true, if_true]
          rw [marksSeq_split g es token subs l j hall.out hj, ← hl'.out, hjl, List.drop_length]
          rfl
        rw [hm]
        exact ⟨rfl, hupd.out, hrow.out.ft, hrow.out.fl⟩
  · rcases hkk with rfl | rfl | rfl | rfl | rfl
    · go_enter Try.func83, Try.ntmps83
      go_wp2_with fail
      go_loopw [44] (fun c wr => ∃ (j : Nat) (l' : List Bool), c = .int .i64 j ∧ j ≤ subs.length ∧ Hid (l' = g.marksAll es token (subs.take j) l) ∧ Hid (RowAt wr ob ib rb t g.rules.length i l') ∧ Hid (Upd t W wr)) (fun c _ => subs.length - (intOf c).toNat)
      case atStart =>
        exact ⟨0, l, rfl, by omega, by simp [Hid, Gr.marksAll], HRR.out.keep HB0.out, HB0.out.upd t⟩
      case round =>
        obtain ⟨j, l', rfl, hj, hl', hrow, hupd⟩ := hrel
        by_cases hlt : j < subs.length
        · obtain ⟨b, off, rfl, hb, hnode⟩ := (HNS.out.keep (hupd.out.below hlt1 (by omega))).get hlt
          simp only [Nat.zero_add] at hnode
          obtain ⟨u0, u1, u2, u3, u4, e0, e1, e2, e3, e4, hnode⟩ := hnode.vals
          obtain ⟨bk, bnm, btx, bsa, bsl, bsc, bna, bnl, bnc, rfl, rfl, rfl, rfl, rfl⟩ := hnode.forms
          have hwr := hupd.out.size
          have hgx := grew_alloc wr (.cells #[.int .u8 bk, .string bnm, .string btx, .slice bsa bsl bsc, .slice bna bnl bnc] 104)
          have hAx := (HAA.out.upd hupd.out hlt1 hat het).keep hgx
          have hNx := hnode.keep (hgx.mono (show lim ≤ wr.heap.size by omega))
          have hS1 := Lib.hid (HIH.out j hlt _ lim ab eb ob ib rb t i l' _ _ _ _ _ hAx hNx (hrow.out.keep hgx) hlt1 hat het)
          have HGX := Lib.hid hgx
          clear hgx hAx hNx hnode
          go_wp2_with fail
          refine hS1.out.mono ?_
          rintro e w3 ⟨rfl, hu3, ho3, hl3⟩
          have HU3 := Lib.hid ((hupd.out.trans (HGX.out.upd t)).trans hu3)
          have HR3 := Lib.hid ((hrow.out.keep HGX.out).upd hu3 ho3 hl3)
          clear hu3 ho3 hl3 hS1
          clear e0 e1 e2 e3 e4
          go_wp2_with fail
          exact ⟨⟨j + 1, g.marks es token subs[j] l', by go_num, by omega, by unfold Hid; rw [marksAll_take g es token subs l j hlt, ← hl'.out], HR3.out, HU3.out⟩, by simp [intOf]; omega⟩
        · go_wp2_with fail
          go_end0
          have hjl : j = subs.length := by omega
          have hm : g.marks es token (.mk 0 nm tx set subs) l = l' := by
            rw [Gr.marks, hl'.out, hjl, List.take_length]
            rfl
          rw [hm]
          exact ⟨rfl, hupd.out, hrow.out.ft, hrow.out.fl⟩
    · go_enter Try.func83, Try.ntmps83
      go_wp2_with fail
      go_loopw [44] (fun c wr => ∃ (j : Nat) (l' : List Bool), c = .int .i64 j ∧ j ≤ subs.length ∧ Hid (l' = g.marksAll es token (subs.take j) l) ∧ Hid (RowAt wr ob ib rb t g.rules.length i l') ∧ Hid (Upd t W wr)) (fun c _ => subs.length - (intOf c).toNat)
      case atStart =>
        exact ⟨0, l, rfl, by omega, by simp [Hid, Gr.marksAll], HRR.out.keep HB0.out, HB0.out.upd t⟩
      case round =>
        obtain ⟨j, l', rfl, hj, hl', hrow, hupd⟩ := hrel
        by_cases hlt : j < subs.length
        · obtain ⟨b, off, rfl, hb, hnode⟩ := (HNS.out.keep (hupd.out.below hlt1 (by omega))).get hlt
          simp only [Nat.zero_add] at hnode
          obtain ⟨u0, u1, u2, u3, u4, e0, e1, e2, e3, e4, hnode⟩ := hnode.vals
          obtain ⟨bk, bnm, btx, bsa, bsl, bsc, bna, bnl, bnc, rfl, rfl, rfl, rfl, rfl⟩ := hnode.forms
          have hwr := hupd.out.size
          have hgx := grew_alloc wr (.cells #[.int .u8 bk, .string bnm, .string btx, .slice bsa bsl bsc, .slice bna bnl bnc] 104)
          have hAx := (HAA.out.upd hupd.out hlt1 hat het).keep hgx
          have hNx := hnode.keep (hgx.mono (show lim ≤ wr.heap.size by omega))
          have hS1 := Lib.hid (HIH.out j hlt _ lim ab eb ob ib rb t i l' _ _ _ _ _ hAx hNx (hrow.out.keep hgx) hlt1 hat het)
          have HGX := Lib.hid hgx
          clear hgx hAx hNx hnode
          go_wp2_with fail
          refine hS1.out.mono ?_
          rintro e w3 ⟨rfl, hu3, ho3, hl3⟩
          have HU3 := Lib.hid ((hupd.out.trans (HGX.out.upd t)).trans hu3)
          have HR3 := Lib.hid ((hrow.out.keep HGX.out).upd hu3 ho3 hl3)
          clear hu3 ho3 hl3 hS1
          clear e0 e1 e2 e3 e4
          go_wp2_with fail
          exact ⟨⟨j + 1, g.marks es token subs[j] l', by go_num, by omega, by unfold Hid; rw [marksAll_take g es token subs l j hlt, ← hl'.out], HR3.out, HU3.out⟩, by simp [intOf]; omega⟩
        · go_wp2_with fail
          go_end0
          have hjl : j = subs.length := by omega
          have hm : g.marks es token (.mk 2 nm tx set subs) l = l' := by
            rw [Gr.marks, hl'.out, hjl, List.take_length]
            rfl
          rw [hm]
          exact ⟨rfl, hupd.out, hrow.out.ft, hrow.out.fl⟩
    · go_enter Try.func83, Try.ntmps83
      go_wp2_with fail
      go_loopw [44] (fun c wr => ∃ (j : Nat) (l' : List Bool), c = .int .i64 j ∧ j ≤ subs.length ∧ Hid (l' = g.marksAll es token (subs.take j) l) ∧ Hid (RowAt wr ob ib rb t g.rules.length i l') ∧ Hid (Upd t W wr)) (fun c _ => subs.length - (intOf c).toNat)
      case atStart =>
        exact ⟨0, l, rfl, by omega, by simp [Hid, Gr.marksAll], HRR.out.keep HB0.out, HB0.out.upd t⟩
      case round =>
        obtain ⟨j, l', rfl, hj, hl', hrow, hupd⟩ := hrel
        by_cases hlt : j < subs.length
        · obtain ⟨b, off, rfl, hb, hnode⟩ := (HNS.out.keep (hupd.out.below hlt1 (by omega))).get hlt
          simp only [Nat.zero_add] at hnode
          obtain ⟨u0, u1, u2, u3, u4, e0, e1, e2, e3, e4, hnode⟩ := hnode.vals
          obtain ⟨bk, bnm, btx, bsa, bsl, bsc, bna, bnl, bnc, rfl, rfl, rfl, rfl, rfl⟩ := hnode.forms
          have hwr := hupd.out.size
          have hgx := grew_alloc wr (.cells #[.int .u8 bk, .string bnm, .string btx, .slice bsa bsl bsc, .slice bna bnl bnc] 104)
          have hAx := (HAA.out.upd hupd.out hlt1 hat het).keep hgx
          have hNx := hnode.keep (hgx.mono (show lim ≤ wr.heap.size by omega))
          have hS1 := Lib.hid (HIH.out j hlt _ lim ab eb ob ib rb t i l' _ _ _ _ _ hAx hNx (hrow.out.keep hgx) hlt1 hat het)
          have HGX := Lib.hid hgx
          clear hgx hAx hNx hnode
          go_wp2_with fail
          refine hS1.out.mono ?_
          rintro e w3 ⟨rfl, hu3, ho3, hl3⟩
          have HU3 := Lib.hid ((hupd.out.trans (HGX.out.upd t)).trans hu3)
          have HR3 := Lib.hid ((hrow.out.keep HGX.out).upd hu3 ho3 hl3)
          clear hu3 ho3 hl3 hS1
          clear e0 e1 e2 e3 e4
          go_wp2_with fail
          exact ⟨⟨j + 1, g.marks es token subs[j] l', by go_num, by omega, by unfold Hid; rw [marksAll_take g es token subs l j hlt, ← hl'.out], HR3.out, HU3.out⟩, by simp [intOf]; omega⟩
        · go_wp2_with fail
          go_end0
          have hjl : j = subs.length := by omega
          have hm : g.marks es token (.mk 3 nm tx set subs) l = l' := by
            rw [Gr.marks, hl'.out, hjl, List.take_length]
            rfl
          rw [hm]
          exact ⟨rfl, hupd.out, hrow.out.ft, hrow.out.fl⟩
    · go_enter Try.func83, Try.ntmps83
      go_wp2_with fail
      go_loopw [44] (fun c wr => ∃ (j : Nat) (l' : List Bool), c = .int .i64 j ∧ j ≤ subs.length ∧ Hid (l' = g.marksAll es token (subs.take j) l) ∧ Hid (RowAt wr ob ib rb t g.rules.length i l') ∧ Hid (Upd t W wr)) (fun c _ => subs.length - (intOf c).toNat)
      case atStart =>
        exact ⟨0, l, rfl, by omega, by simp [Hid, Gr.marksAll], HRR.out.keep HB0.out, HB0.out.upd t⟩
      case round =>
        obtain ⟨j, l', rfl, hj, hl', hrow, hupd⟩ := hrel
        by_cases hlt : j < subs.length
        · obtain ⟨b, off, rfl, hb, hnode⟩ := (HNS.out.keep (hupd.out.below hlt1 (by omega))).get hlt
          simp only [Nat.zero_add] at hnode
          obtain ⟨u0, u1, u2, u3, u4, e0, e1, e2, e3, e4, hnode⟩ := hnode.vals
          obtain ⟨bk, bnm, btx, bsa, bsl, bsc, bna, bnl, bnc, rfl, rfl, rfl, rfl, rfl⟩ := hnode.forms
          have hwr := hupd.out.size
          have hgx := grew_alloc wr (.cells #[.int .u8 bk, .string bnm, .string btx, .slice bsa bsl bsc, .slice bna bnl bnc] 104)
          have hAx := (HAA.out.upd hupd.out hlt1 hat het).keep hgx
          have hNx := hnode.keep (hgx.mono (show lim ≤ wr.heap.size by omega))
          have hS1 := Lib.hid (HIH.out j hlt _ lim ab eb ob ib rb t i l' _ _ _ _ _ hAx hNx (hrow.out.keep hgx) hlt1 hat het)
          have HGX := Lib.hid hgx
          clear hgx hAx hNx hnode
          go_wp2_with fail
          refine hS1.out.mono ?_
          rintro e w3 ⟨rfl, hu3, ho3, hl3⟩
          have HU3 := Lib.hid ((hupd.out.trans (HGX.out.upd t)).trans hu3)
          have HR3 := Lib.hid ((hrow.out.keep HGX.out).upd hu3 ho3 hl3)
          clear hu3 ho3 hl3 hS1
          clear e0 e1 e2 e3 e4
          go_wp2_with fail
          exact ⟨⟨j + 1, g.marks es token subs[j] l', by go_num, by omega, by unfold Hid; rw [marksAll_take g es token subs l j hlt, ← hl'.out], HR3.out, HU3.out⟩, by simp [intOf]; omega⟩
        · go_wp2_with fail
          go_end0
          have hjl : j = subs.length := by omega
          have hm : g.marks es token (.mk 4 nm tx set subs) l = l' := by
            rw [Gr.marks, hl'.out, hjl, List.take_length]
            rfl
          rw [hm]
          exact ⟨rfl, hupd.out, hrow.out.ft, hrow.out.fl⟩
    · go_enter Try.func83, Try.ntmps83
      go_wp2_with fail
      go_loopw [44] (fun c wr => ∃ (j : Nat) (l' : List Bool), c = .int .i64 j ∧ j ≤ subs.length ∧ Hid (l' = g.marksAll es token (subs.take j) l) ∧ Hid (RowAt wr ob ib rb t g.rules.length i l') ∧ Hid (Upd t W wr)) (fun c _ => subs.length - (intOf c).toNat)
      case atStart =>
        exact ⟨0, l, rfl, by omega, by simp [Hid, Gr.marksAll], HRR.out.keep HB0.out, HB0.out.upd t⟩
      case round =>
        obtain ⟨j, l', rfl, hj, hl', hrow, hupd⟩ := hrel
        by_cases hlt : j < subs.length
        · obtain ⟨b, off, rfl, hb, hnode⟩ := (HNS.out.keep (hupd.out.below hlt1 (by omega))).get hlt
          simp only [Nat.zero_add] at hnode
          obtain ⟨u0, u1, u2, u3, u4, e0, e1, e2, e3, e4, hnode⟩ := hnode.vals
          obtain ⟨bk, bnm, btx, bsa, bsl, bsc, bna, bnl, bnc, rfl, rfl, rfl, rfl, rfl⟩ := hnode.forms
          have hwr := hupd.out.size
          have hgx := grew_alloc wr (.cells #[.int .u8 bk, .string bnm, .string btx, .slice bsa bsl bsc, .slice bna bnl bnc] 104)
          have hAx := (HAA.out.upd hupd.out hlt1 hat het).keep hgx
          have hNx := hnode.keep (hgx.mono (show lim ≤ wr.heap.size by omega))
          have hS1 := Lib.hid (HIH.out j hlt _ lim ab eb ob ib rb t i l' _ _ _ _ _ hAx hNx (hrow.out.keep hgx) hlt1 hat het)
          have HGX := Lib.hid hgx
          clear hgx hAx hNx hnode
          go_wp2_with fail
          refine hS1.out.mono ?_
          rintro e w3 ⟨rfl, hu3, ho3, hl3⟩
          have HU3 := Lib.hid ((hupd.out.trans (HGX.out.upd t)).trans hu3)
          have HR3 := Lib.hid ((hrow.out.keep HGX.out).upd hu3 ho3 hl3)
          clear hu3 ho3 hl3 hS1
          clear e0 e1 e2 e3 e4
          go_wp2_with fail
          exact ⟨⟨j + 1, g.marks es token subs[j] l', by go_num, by omega, by unfold Hid; rw [marksAll_take g es token subs l j hlt, ← hl'.out], HR3.out, HU3.out⟩, by simp [intOf]; omega⟩
        · go_wp2_with fail
          go_end0
          have hjl : j = subs.length := by omega
          have hm : g.marks es token (.mk 7 nm tx set subs) l = l' := by
            rw [Gr.marks, hl'.out, hjl, List.take_length]
            rfl
          rw [hm]
          exact ⟨rfl, hupd.out, hrow.out.ft, hrow.out.fl⟩
  · rcases hkk with rfl | rfl
    · have hNm := Lib.hid (named_ok g es token _ _ ab eb _ _ _ _ _ (HAA.out.keep HB0.out).ask ((hN'.keep (HB0.out.mono (by omega))).mono (by have := HB0.out.size; omega)))
      have hnr := named_range g token (.mk 5 nm tx set subs)
      rcases hnr with hi | ⟨j, hj, hi⟩
      · have hfin : Hid (g.marks es token (.mk 5 nm tx set subs) l = l) := by simp [Hid, Gr.marks, hi]
        rw [hi] at hNm
        clear hi hN'
        go_enter Try.func83, Try.ntmps83
        go_wp2_with (go_at_call 98; refine hNm.out.mono ?_; rintro e w3 ⟨rfl, hb3⟩; have HB3 := Lib.hid hb3; clear hb3)
        go_end0
        rw [hfin.out]
        exact ⟨rfl, Grew.upd (HB0.out.trans HB3.out) t, HRR.out.ft.keep (HB0.out.trans HB3.out), HRR.out.fl⟩
      · have hfin : Hid (g.marks es token (.mk 5 nm tx set subs) l = l.set j true) := by simp [Hid, Gr.marks, hi]
        rw [hi] at hNm
        have HJ := Lib.hid hj
        clear hi hN'
        go_enter Try.func83, Try.ntmps83
        go_wp2_with (first | (go_at_call 98; refine hNm.out.mono ?_; rintro e w3 ⟨rfl, hb3⟩; have HB3 := Lib.hid hb3; clear hb3) | (go_at_call 85; refine (reach1_ok _ ob ib rb t g.rules.length i l j (HRR.out.keep (HB0.out.trans HB3.out)) HJ.out).mono ?_; rintro e w4 ⟨rfl, hu4, ho4, hl4⟩; have HU4 := Lib.hid hu4; have HO4 := Lib.hid ho4; have HL4 := Lib.hid hl4; clear hu4 ho4 hl4))
        go_end0
        rw [hfin.out]
        exact ⟨rfl, (Grew.upd (HB0.out.trans HB3.out) t).trans HU4.out, HO4.out, HL4.out⟩
    · have hNm := Lib.hid (named_ok g es token _ _ ab eb _ _ _ _ _ (HAA.out.keep HB0.out).ask ((hN'.keep (HB0.out.mono (by omega))).mono (by have := HB0.out.size; omega)))
      have hnr := named_range g token (.mk 6 nm tx set subs)
      rcases hnr with hi | ⟨j, hj, hi⟩
      · have hfin : Hid (g.marks es token (.mk 6 nm tx set subs) l = l) := by simp [Hid, Gr.marks, hi]
        rw [hi] at hNm
        clear hi hN'
        go_enter Try.func83, Try.ntmps83
        go_wp2_with (go_at_call 98; refine hNm.out.mono ?_; rintro e w3 ⟨rfl, hb3⟩; have HB3 := Lib.hid hb3; clear hb3)
        go_end0
        rw [hfin.out]
        exact ⟨rfl, Grew.upd (HB0.out.trans HB3.out) t, HRR.out.ft.keep (HB0.out.trans HB3.out), HRR.out.fl⟩
      · have hfin : Hid (g.marks es token (.mk 6 nm tx set subs) l = l.set j true) := by simp [Hid, Gr.marks, hi]
        rw [hi] at hNm
        have HJ := Lib.hid hj
        clear hi hN'
        go_enter Try.func83, Try.ntmps83
        go_wp2_with (first | (go_at_call 98; refine hNm.out.mono ?_; rintro e w3 ⟨rfl, hb3⟩; have HB3 := Lib.hid hb3; clear hb3) | (go_at_call 85; refine (reach1_ok _ ob ib rb t g.rules.length i l j (HRR.out.keep (HB0.out.trans HB3.out)) HJ.out).mono ?_; rintro e w4 ⟨rfl, hu4, ho4, hl4⟩; have HU4 := Lib.hid hu4; have HO4 := Lib.hid ho4; have HL4 := Lib.hid hl4; clear hu4 ho4 hl4))
        go_end0
        rw [hfin.out]
        exact ⟨rfl, (Grew.upd (HB0.out.trans HB3.out) t).trans HU4.out, HO4.out, HL4.out⟩
  · have hfin : Hid (g.marks es token (.mk k nm tx set subs) l = l) := by
      have e0 : ∀ c : Int, c ≤ 7 → (k == c) = false := fun c hc => by simp; omega
      unfold Hid
      simp only [Gr.marks, e0 0 (by omega), e0 1 (by omega), e0 2 (by omega), e0 3 (by omega), e0 4 (by omega), e0 5 (by omega), e0 6 (by omega), e0 7 (by omega)]
      rfl
    have hk8 : 8 ≤ k := by omega
    clear hkk hN'
    go_enter Try.func83, Try.ntmps83
    go_wp2_with fail
    go_end0
    rw [hfin.out]
    exact ⟨rfl, HB0.out.upd t, HRR.out.ft.keep HB0.out, HRR.out.fl⟩
end Go.Proofs.Ytgdcnndmdgcjlaa

/- What is reached from rule to rule: rounds over those that lie between. No program in sight. -/
namespace Go.Proofs.Ytgdcnndmdgcjlaa
open Go.RowKit
def at2 (M : List (List Bool)) (i k : Nat) : Bool := (M.getD i []).getD k false
def set2 (M : List (List Bool)) (i k : Nat) (b : Bool) : List (List Bool) := M.set i ((M.getD i []).set k b)
inductive Tc (O : Nat → Nat → Prop) : Nat → Nat → Prop
  | one {i k : Nat} (h : O i k) : Tc O i k
  | more {i j k : Nat} (h : O i j) (t : Tc O j k) : Tc O i k
theorem Tc.trans {O : Nat → Nat → Prop} {i j k : Nat} (h : Tc O i j) (t : Tc O j k) : Tc O i k := by
  induction h with
  | one h => exact .more h t
  | more h _ ih => exact .more h (ih t)
def Via (O : Nat → Nat → Prop) : Nat → Nat → Nat → Prop
  | 0, i, k => O i k
  | b + 1, i, k => Via O b i k ∨ (Via O b i b ∧ Via O b b k)
theorem Via.once {O : Nat → Nat → Prop} : ∀ (b : Nat) {i k : Nat}, O i k → Via O b i k
  | 0, _, _, h => h
  | b + 1, _, _, h => .inl (Via.once b h)
theorem Via.trans {O : Nat → Nat → Prop} : ∀ (b : Nat) {i j k : Nat}, j < b → Via O b i j → Via O b j k → Via O b i k
  | 0, _, _, _, h, _, _ => absurd h (by omega)
  | b + 1, i, j, k, hj, h1, h2 => by
    by_cases e : j = b
    · subst e
      have a : Via O j i j := h1.elim id (·.1)
      have c : Via O j j k := h2.elim id (·.2)
      exact .inr ⟨a, c⟩
    · have hlt : j < b := by omega
      rcases h1 with h1 | ⟨h1, h1'⟩ <;> rcases h2 with h2 | ⟨h2, h2'⟩
      · exact .inl (Via.trans b hlt h1 h2)
      · exact .inr ⟨Via.trans b hlt h1 h2, h2'⟩
      · exact .inr ⟨h1, Via.trans b hlt h1' h2⟩
      · exact .inr ⟨h1, h2'⟩
theorem Via.of_tc {O : Nat → Nat → Prop} {n : Nat} (hO : ∀ i k, O i k → k < n) {i k : Nat} (h : Tc O i k) : Via O n i k := by
  induction h with
  | one h => exact Via.once n h
  | more h _ ih => exact Via.trans n (hO _ _ h) (Via.once n h) ih
def Square (n : Nat) (M : List (List Bool)) : Prop := M.length = n ∧ ∀ i (h : i < M.length), M[i].length = n
theorem Square.set {n : Nat} {M : List (List Bool)} (h : Square n M) (i k : Nat) (b : Bool) : Square n (set2 M i k b) := by
  unfold set2
  refine ⟨by simp [h.1], fun j hj => ?_⟩
  rw [List.getElem_set]
  have hj' : j < M.length := by simpa using hj
  split
  · rename_i e
    subst e
    simp [List.getD_eq_getElem?_getD, hj', h.2 i hj']
  · exact h.2 j hj'
theorem at2_set {n : Nat} {M : List (List Bool)} (h : Square n M) {i k : Nat} (hi : i < n) (hk : k < n) (b : Bool) (i' k' : Nat) : at2 (set2 M i k b) i' k' = if i' = i ∧ k' = k then b else at2 M i' k' := by
  have hi' : i < M.length := by rw [h.1]; exact hi
  have hk' : k < M[i].length := by rw [h.2 i hi']; exact hk
  unfold at2 set2
  by_cases e : i' = i
  · subst e
    simp only [List.getD_eq_getElem?_getD, List.getElem?_set_self hi', Option.getD_some, List.getElem?_eq_getElem hi', true_and]
    by_cases e2 : k' = k
    · subst e2
      simp [hk']
    · rw [List.getElem?_set_ne (fun x => e2 x.symm)]
      simp [e2]
  · simp only [List.getD_eq_getElem?_getD, List.getElem?_set_ne (fun x => e x.symm)]
    simp [e]
def Round (O : Nat → Nat → Prop) (n : Nat) (M : List (List Bool)) (by_ i k : Nat) : Prop :=
  Square n M ∧ (∀ a b, at2 M a b = true → Tc O a b) ∧ (∀ a b, a < n → b < n → Via O by_ a b → at2 M a b = true) ∧
    ∀ a b, a < n → b < n → (a < i ∨ (a = i ∧ b < k)) → Via O (by_ + 1) a b → at2 M a b = true
theorem Round.step {O : Nat → Nat → Prop} {n : Nat} {M : List (List Bool)} {by_ i k : Nat} (h : Round O n M by_ i k) (hb : by_ < n) (hi : i < n) (hk : k < n) :
    Round O n (set2 M i k (at2 M i k || (at2 M i by_ && at2 M by_ k))) by_ i (k + 1) := by
  obtain ⟨h1, h2, h3, h4⟩ := h
  have hs := at2_set h1 hi hk (at2 M i k || (at2 M i by_ && at2 M by_ k))
  refine ⟨h1.set i k _, fun a b hab => ?_, fun a b ha hb' hv => ?_, fun a b ha hb' hd hv => ?_⟩
  · rw [hs] at hab
    split at hab
    · rename_i e
      obtain ⟨rfl, rfl⟩ := e
      simp only [Bool.or_eq_true, Bool.and_eq_true] at hab
      rcases hab with hab | ⟨hab, hab'⟩
      · exact h2 _ _ hab
      · exact (h2 _ _ hab).trans (h2 _ _ hab')
    · exact h2 _ _ hab
  · rw [hs]
    have := h3 a b ha hb' hv
    split
    · rename_i e; obtain ⟨rfl, rfl⟩ := e; rw [this]; rfl
    · exact this
  · rw [hs]
    split
    · rename_i e
      obtain ⟨rfl, rfl⟩ := e
      rcases hv with hv | ⟨hv, hv'⟩
      · rw [h3 _ _ ha hb' hv]; rfl
      · rw [h3 _ _ ha hb hv, h3 _ _ hb hb' hv']; simp
    · rename_i e
      refine h4 a b ha hb' ?_ hv
      rcases hd with hd | ⟨hd, hd'⟩
      · exact .inl hd
      · refine .inr ⟨hd, ?_⟩
        have : b ≠ k := fun x => e ⟨hd, x⟩
        omega
theorem Round.row {O : Nat → Nat → Prop} {n : Nat} {M : List (List Bool)} {by_ i : Nat} (h : Round O n M by_ i n) : Round O n M by_ (i + 1) 0 :=
  ⟨h.1, h.2.1, h.2.2.1, fun a b ha hb hd hv => h.2.2.2 a b ha hb (by omega) hv⟩
theorem Round.next {O : Nat → Nat → Prop} {n : Nat} {M : List (List Bool)} {by_ : Nat} (h : Round O n M by_ n 0) : Round O n M (by_ + 1) 0 0 :=
  ⟨h.1, h.2.1, fun a b ha hb hv => h.2.2.2 a b ha hb (by omega) hv, fun a b _ _ hd => absurd hd (by omega)⟩
theorem Round.start {O : Nat → Nat → Prop} {n : Nat} {M : List (List Bool)} (hs : Square n M) (h : ∀ a b, at2 M a b = true ↔ O a b) : Round O n M 0 0 0 :=
  ⟨hs, fun a b hab => .one ((h a b).1 hab), fun a b _ _ hv => (h a b).2 hv, fun a b _ _ hd => absurd hd (by omega)⟩
structure IsReach (O : Nat → Nat → Prop) (n : Nat) (M : List (List Bool)) : Prop where
  sq : Square n M
  tc : ∀ a b, at2 M a b = true ↔ Tc O a b
theorem Round.done {O : Nat → Nat → Prop} {n : Nat} {M : List (List Bool)} (h : Round O n M n 0 0) (hO : ∀ i k, O i k → i < n ∧ k < n) : IsReach O n M := by
  refine ⟨h.1, fun a b => ⟨h.2.1 a b, fun ht => ?_⟩⟩
  have hab : a < n ∧ b < n := by
    induction ht with
    | one h => exact hO _ _ h
    | more h _ ih => exact ⟨(hO _ _ h).1, ih.2⟩
  exact h.2.2.1 a b hab.1 hab.2 (Via.of_tc (fun i k h => (hO i k h).2) ht)
def Gr.onceRow (g : Gr) (es : List Bool) (i : Nat) : List Bool :=
  match g.rules[i]? with
  | some r => g.marks es r.token r.body (List.replicate g.rules.length false)
  | none => []
def Gr.onceM (g : Gr) (es : List Bool) : List (List Bool) := (List.range g.rules.length).map (g.onceRow es)
def Gr.Once (g : Gr) (es : List Bool) (i k : Nat) : Prop := at2 (g.onceM es) i k = true
mutual
theorem marks_length (g : Gr) (es : List Bool) (token : Bool) : ∀ (n : Nd) (l : List Bool), (g.marks es token n l).length = l.length
  | .mk k nm tx set subs, l => by
    rw [Gr.marks]
    split
    · exact marksSeq_length g es token subs l
    · split
      · exact marksAll_length g es token subs l
      · split
        · split <;> simp
        · rfl
theorem marksSeq_length (g : Gr) (es : List Bool) (token : Bool) : ∀ (ns : List Nd) (l : List Bool), (g.marksSeq es token ns l).length = l.length
  | [], l => rfl
  | n :: r, l => by
    rw [Gr.marksSeq]
    split
    · rw [marksSeq_length g es token r, marks_length g es token n]
    · exact marks_length g es token n l
theorem marksAll_length (g : Gr) (es : List Bool) (token : Bool) : ∀ (ns : List Nd) (l : List Bool), (g.marksAll es token ns l).length = l.length
  | [], l => rfl
  | n :: r, l => by rw [Gr.marksAll, marksAll_length g es token r, marks_length g es token n]
end
theorem onceRow_length (g : Gr) (es : List Bool) (i : Nat) (hi : i < g.rules.length) : (g.onceRow es i).length = g.rules.length := by
  unfold Gr.onceRow
  simp [hi, marks_length]
theorem onceM_square (g : Gr) (es : List Bool) : Square g.rules.length (g.onceM es) := by
  refine ⟨by simp [Gr.onceM], fun i hi => ?_⟩
  have hi' : i < g.rules.length := by simpa [Gr.onceM] using hi
  simp only [Gr.onceM, List.getElem_map, List.getElem_range]
  exact onceRow_length g es i hi'
theorem at2_lt {n : Nat} {M : List (List Bool)} (h : Square n M) {i k : Nat} (ha : at2 M i k = true) : i < n ∧ k < n := by
  unfold at2 at ha
  have hi : i < M.length := by
    rcases Nat.lt_or_ge i M.length with h' | h'
    · exact h'
    · simp [List.getD_eq_getElem?_getD, List.getElem?_eq_none h'] at ha
  refine ⟨by rw [← h.1]; exact hi, ?_⟩
  rw [← h.2 i hi]
  rcases Nat.lt_or_ge k M[i].length with h' | h'
  · exact h'
  · simp [List.getD_eq_getElem?_getD, hi, List.getElem?_eq_none h'] at ha
end Go.Proofs.Ytgdcnndmdgcjlaa

/- Plain law for ChecksFine: rules that go round no ring are all put in order, by as many rounds as there are rules. -/
namespace Go.Proofs.Ytgdcnndmdgcjlaa
theorem getD_set (l : List Bool) (i k : Nat) (v : Bool) : (l.set i v).getD k false = if k = i ∧ i < l.length then v else l.getD k false := by
  rw [List.getD_eq_getElem?_getD, List.getD_eq_getElem?_getD, List.getElem?_set]
  by_cases h : i = k
  · subst h
    by_cases h2 : i < l.length
    · simp [h2]
    · simp [h2]
  · rw [if_neg h, if_neg (fun x => h x.1.symm)]
end Go.Proofs.Ytgdcnndmdgcjlaa

/- Plain law for ChecksFine: what is told of a grammar, and what is so where nothing is told. -/
namespace Go.Proofs.Ytgdcnndmdgcjlaa
mutual
def Nd.all : Nd → List Nd
  | .mk k nm tx set subs => .mk k nm tx set subs :: Nd.allL subs
def Nd.allL : List Nd → List Nd
  | [] => []
  | n :: r => n.all ++ Nd.allL r
end
def Nd.isName (n : Nd) : Bool := n.kind == 5 || n.kind == 6
theorem getD_setB (l : List Bool) (i k : Nat) (h : (l.set i true).getD k false = true) : l.getD k false = true ∨ k = i := by
  rw [getD_set] at h
  split at h
  · next hh => exact .inr hh.1
  · exact .inl h
mutual
theorem marks_from (g : Gr) (es : List Bool) (t : Bool) (k : Nat) : ∀ (n : Nd) (l : List Bool), (g.marks es t n l).getD k false = true → l.getD k false = true ∨ ∃ m ∈ n.all, m.isName = true ∧ g.named t m = (k : Int)
  | .mk kd nm tx set subs, l, h => by
    rw [Gr.marks] at h
    rw [Nd.all]
    split at h
    · rcases marksSeq_from g es t k subs l h with h | ⟨m, hm, hh⟩
      · exact .inl h
      · exact .inr ⟨m, List.mem_cons_of_mem _ hm, hh⟩
    · split at h
      · rcases marksAll_from g es t k subs l h with h | ⟨m, hm, hh⟩
        · exact .inl h
        · exact .inr ⟨m, List.mem_cons_of_mem _ hm, hh⟩
      · split at h
        · next hk =>
          split at h
          · next hpos =>
            rcases getD_setB _ _ _ h with h | h
            · exact .inl h
            · refine .inr ⟨_, List.mem_cons_self .., hk, ?_⟩
              omega
          · exact .inl h
        · exact .inl h
theorem marksSeq_from (g : Gr) (es : List Bool) (t : Bool) (k : Nat) : ∀ (ns : List Nd) (l : List Bool), (g.marksSeq es t ns l).getD k false = true → l.getD k false = true ∨ ∃ m ∈ Nd.allL ns, m.isName = true ∧ g.named t m = (k : Int)
  | [], l, h => by
    rw [Gr.marksSeq] at h
    exact .inl h
  | n :: r, l, h => by
    rw [Gr.marksSeq] at h
    rw [Nd.allL]
    split at h
    · rcases marksSeq_from g es t k r _ h with h | ⟨m, hm, hh⟩
      · rcases marks_from g es t k n l h with h | ⟨m, hm, hh⟩
        · exact .inl h
        · exact .inr ⟨m, List.mem_append_left _ hm, hh⟩
      · exact .inr ⟨m, List.mem_append_right _ hm, hh⟩
    · rcases marks_from g es t k n l h with h | ⟨m, hm, hh⟩
      · exact .inl h
      · exact .inr ⟨m, List.mem_append_left _ hm, hh⟩
theorem marksAll_from (g : Gr) (es : List Bool) (t : Bool) (k : Nat) : ∀ (ns : List Nd) (l : List Bool), (g.marksAll es t ns l).getD k false = true → l.getD k false = true ∨ ∃ m ∈ Nd.allL ns, m.isName = true ∧ g.named t m = (k : Int)
  | [], l, h => by
    rw [Gr.marksAll] at h
    exact .inl h
  | n :: r, l, h => by
    rw [Gr.marksAll] at h
    rw [Nd.allL]
    rcases marksAll_from g es t k r _ h with h | ⟨m, hm, hh⟩
    · rcases marks_from g es t k n l h with h | ⟨m, hm, hh⟩
      · exact .inl h
      · exact .inr ⟨m, List.mem_append_left _ hm, hh⟩
    · exact .inr ⟨m, List.mem_append_right _ hm, hh⟩
end
/-! ### what is told -/
def Rl.parser (r : Rl) : Bool := r.sort == 0
def sortedB (r : Rl) (n : Nd) (of : Int) : Bool := if n.kind == 5 then r.parser && of == 0 else if r.parser then of == 1 else of == 2
def Gr.rd0 (g : Gr) (i k : Nat) : Prop := ∃ (hi : i < g.rules.length) (hk : k < g.rules.length), g.rules[i].parser = false ∧ g.rules[k].parser = false ∧ ∃ m ∈ g.rules[i].body.all, m.isName = true ∧ g.find m.name = (k : Int)
structure Prob where
  code : Int
  rule : Int
  name : ByteArray
def Gr.loopBad (g : Gr) (es : List Bool) (r : Rl) (n : Nd) : Bool := (n.kind == 3 || n.kind == 4) && (match n.subs with | [] => false | s :: _ => g.may es r.token s)
def Gr.noneBad (g : Gr) (n : Nd) : Bool := n.isName && decide (g.find n.name < 0)
def Gr.sortBad (g : Gr) (r : Rl) (n : Nd) : Bool := n.isName && (decide (0 ≤ g.find n.name) && !sortedB r n (g.sortAt (g.find n.name)))
def nodesTold (i : Nat) (r : Rl) (code : Int) (wrong : Nd → Bool) : List Prob := (r.body.all.filter wrong).map fun n => ⟨code, i, if code = 6 then r.name else n.name⟩
def Gr.ruleTold (g : Gr) (es : List Bool) (rch rnd : Nat → Nat → Bool) (i : Nat) (r : Rl) : List Prob :=
  (if g.find r.name < (i : Int) then [⟨1, i, r.name⟩] else []) ++ nodesTold i r 2 g.noneBad ++ nodesTold i r 3 (g.sortBad r) ++
  (if r.parser && rch i i then [⟨4, i, r.name⟩] else []) ++ (if rnd i i then [⟨5, i, r.name⟩] else []) ++ nodesTold i r 6 (g.loopBad es r) ++
  (if es.getD i false && (r.sort == 1 || r.sort == 3) then [⟨7, i, r.name⟩] else [])
def Gr.rulesTold (g : Gr) (es : List Bool) (rch rnd : Nat → Nat → Bool) : Nat → List Rl → List Prob
  | _, [] => []
  | i, r :: l => g.ruleTold es rch rnd i r ++ g.rulesTold es rch rnd (i + 1) l
def Gr.start (g : Gr) : Int := ixOf g.rules fun r => r.parser
def Gr.told (g : Gr) (es : List Bool) (rch rnd : Nat → Nat → Bool) : List Prob :=
  g.rulesTold es rch rnd 0 g.rules ++ (if g.start < 0 then [⟨8, -1, { data := #[] }⟩] else [])
end Go.Proofs.Ytgdcnndmdgcjlaa

/- checks.all: a node and all that lie below it, one by one: the contract of the iterator. -/
namespace Go.Proofs.Ytgdcnndmdgcjlaa
open Go.RowKit Go.Shelf
attribute [local go_sem] Oper.semAt_some
structure NV (W0 : World) (lim : Nat) where
  n : Nd
  v0 : Value
  v1 : Value
  v2 : Value
  v3 : Value
  v4 : Value
  lies : NodeAt W0 lim (some v0) (some v1) (some v2) (some v3) (some v4) n
def NV.enc {W0 : World} {lim : Nat} (x : NV W0 lim) : Array Value := #[.agg #[x.v0, x.v1, x.v2, x.v3, x.v4]]
structure KpN (lim : Nat) (W W' : World) : Prop where
  low : Below lim W W'
  box : ∀ (b : Nat) (cs : Array Value) (T : Nat) (f : Nat × Nat), W.heap[b]? = some (.cells cs T f) → (T = 104 ∨ T = 131) → W'.heap[b]? = some (.cells cs T f)
theorem KpN.refl (lim : Nat) (W : World) : KpN lim W W := ⟨Below.refl _ _, fun _ _ _ _ h _ => h⟩
theorem KpN.trans {lim : Nat} {A B C : World} (h : KpN lim A B) (k : KpN lim B C) : KpN lim A C := ⟨h.low.trans k.low, fun b cs T f hb hT => k.box b cs T f (h.box b cs T f hb hT) hT⟩
theorem KpN.grew {lim : Nat} {A B : World} (h : Grew A B) (hl : lim ≤ A.heap.size) : KpN lim A B :=
  ⟨h.mono hl, fun b cs T f hb _ => by rw [h.block b (Array.getElem?_eq_some_iff.1 hb).1]; exact hb⟩
def IdxPost (l : List Nd) (Inv St : Nat → World → Prop) (e : Ending) (W' : World) : Prop :=
  (e = .returned (.int .i64 (-1)) ∧ Inv l.length W') ∨ ∃ j, j < l.length ∧ e = .returned (.int .i64 (j : Int)) ∧ St j W'
def CntPost (l : List Nd) (Inv St : Nat → World → Prop) (e : Ending) (W' : World) : Prop :=
  (e = .returned (.bool false) ∧ Inv l.length W') ∨ ∃ j, j < l.length ∧ e = .returned (.bool true) ∧ St j W'
def ElPost (Inv St : Nat → World → Prop) (j : Nat) (e : Ending) (W' : World) : Prop :=
  (e = .returned (.bool false) ∧ Inv (j + 1) W') ∨ (e = .returned (.bool true) ∧ St j W')
set_option maxHeartbeats 1000000 in
set_option maxRecDepth 20000 in
theorem indexNodesI_ok (F : Fence) (hd : F.depth = none) (hfn : ∀ k, F.fn k) (hro : F.round = none) (n : Nat) (l : List Nd) (G : Nat) (cp : Array Value) (hF : Enters G) (W0 : World) (lim : Nat) (a : Option Addr) (cap : Nat) (hl : l.length ≤ reachN) (hR : NodesAt W0 lim a 0 l)
    (Inv St : Nat → World → Prop) (hI : ∀ j W, Inv j W → Below lim W0 W)
    (HF : ∀ (j : Nat) (hj : j < l.length) (m : Nat) (W : World) (v0 v1 v2 v3 v4 : Value), Inv j W → NodeAt W0 lim (some v0) (some v1) (some v2) (some v3) (some v4) l[j] → CallsIn F m Try.prog G (#[.agg #[v0, v1, v2, v3, v4]] ++ cp) W (ElPost Inv St j))
    (W : World) (h0 : Inv 0 W) : CallsIn F n Try.prog 105 #[.slice a l.length cap, .func (.func G) #[] cp] W (IdxPost l Inv St) := by
  have hdd : ∀ k : Nat, (F.depth.isSome = true → 1 ≤ k) := fun k h => by rw [hd] at h; cases h
  unfold reachN at hl
  refine callsIn_of_wp Try.func105 rfl (hfn _) ?_ hro
  simp only [Try.ntmps105, List.size_toArray, List.length_cons, List.length_nil, Nat.reduceAdd, Nat.reduceSub, Array.replicate_succ, Array.replicate_zero, List.push_toArray, List.append_toArray, List.nil_append, List.cons_append]
  gi_wp2
  gi_loopw [8] (fun i wr => ∃ (j : Nat), i = .int .i64 j ∧ j ≤ l.length ∧ Hid (Inv j wr)) (fun i _ => l.length - (intOf i).toNat)
  case atStart =>
    exact ⟨0, rfl, by omega, h0⟩
  case round =>
    obtain ⟨j, rfl, hj, hf⟩ := hrel
    by_cases hlt : j < l.length
    · obtain ⟨b, off, rfl, hb, hnode⟩ := hR.get hlt
      simp only [Nat.zero_add] at hnode
      obtain ⟨u0, u1, u2, u3, u4, e0, e1, e2, e3, e4, hnode⟩ := hnode.vals
      obtain ⟨k0, k1, k2, k3, k4, k5, k6, k7, k8, rfl, rfl, rfl, rfl, rfl⟩ := hnode.forms
      have HS := Lib.hid (fun m => HF j hlt m wr _ _ _ _ _ hf.out hnode)
      have hlo := hI j wr hf.out
      rw [← hlo.cell (p := ⟨b, off + j * 5, none⟩) hb] at e0
      rw [← hlo.cell (p := ⟨b, off + j * 5 + 1, none⟩) hb] at e1
      rw [← hlo.cell (p := ⟨b, off + j * 5 + 2, none⟩) hb] at e2
      rw [← hlo.cell (p := ⟨b, off + j * 5 + 3, none⟩) hb] at e3
      rw [← hlo.cell (p := ⟨b, off + j * 5 + 4, none⟩) hb] at e4
      clear hnode hR HF hlo hI
      have hFx := hF
      unfold Enters at hFx
      clear hF
      gi_wp2_with ((try refine ⟨hdd _, ?_⟩); refine (HS.out _).mono ?_; rintro e w2 (⟨rfl, h2⟩ | ⟨rfl, h2⟩))
      · go_roundw
        case rel => exact ⟨j + 1, by go_num, by omega, h2⟩
        case measure => simp [intOf]; omega
      · go_ret
        exact .inr ⟨j, hlt, rfl, h2⟩
    · have hjl : j = l.length := by omega
      subst hjl
      gi_wp2_with fail
      go_ret
      exact .inl ⟨rfl, hf.out⟩
theorem contNodesI_ok (F : Fence) (hd : F.depth = none) (hfn : ∀ k, F.fn k) (hro : F.round = none) (n : Nat) (l : List Nd) (G : Nat) (cp : Array Value) (hF : Enters G) (W0 : World) (lim : Nat) (a : Option Addr) (cap : Nat) (hl : l.length ≤ reachN) (hR : NodesAt W0 lim a 0 l)
    (Inv St : Nat → World → Prop) (hI : ∀ j W, Inv j W → Below lim W0 W)
    (HF : ∀ (j : Nat) (hj : j < l.length) (m : Nat) (W : World) (v0 v1 v2 v3 v4 : Value), Inv j W → NodeAt W0 lim (some v0) (some v1) (some v2) (some v3) (some v4) l[j] → CallsIn F m Try.prog G (#[.agg #[v0, v1, v2, v3, v4]] ++ cp) W (ElPost Inv St j))
    (W : World) (h0 : Inv 0 W) : CallsIn F n Try.prog 102 #[.slice a l.length cap, .func (.func G) #[] cp] W (CntPost l Inv St) := by
  have hdd : ∀ k : Nat, (F.depth.isSome = true → 1 ≤ k) := fun k h => by rw [hd] at h; cases h
  have hS := Lib.hid (fun m => indexNodesI_ok F hd hfn hro m l G cp hF W0 lim a cap hl hR Inv St hI HF W h0)
  clear HF hR hF hI
  refine callsIn_of_wp Try.func102 rfl (hfn _) ?_ hro
  simp only [Try.ntmps102, List.size_toArray, List.length_cons, List.length_nil, Nat.reduceAdd, Nat.reduceSub, Array.replicate_succ, Array.replicate_zero, List.push_toArray, List.append_toArray, List.nil_append, List.cons_append]
  gi_wp2_with ((try refine ⟨hdd _, ?_⟩); gi_at_call 105; refine (hS.out _).mono ?_; rintro e w' (⟨rfl, h2⟩ | ⟨j, hj, rfl, h2⟩))
  · go_ret
    exact .inl ⟨rfl, h2⟩
  · go_ret
    exact .inr ⟨j, hj, by simp, h2⟩
def YesNo (A B : World → Prop) (e : Ending) (W' : World) : Prop := (e = .returned (.bool true) ∧ A W') ∨ (e = .returned (.bool false) ∧ B W')
theorem enters_walk1 : Enters 104 := fun _ _ => by kernel_rfl
theorem walk1_in (F : Fence) (hd : F.depth = none) (hfn : ∀ k, F.fn k) (hro : F.round = none) (l pb : Nat) (v0 v1 v2 v3 v4 : Value) (A B : World → Prop) (n : Nat) (W : World) (hc : W.cell? ⟨pb, 0, none⟩ = some (.func (.yield l) #[] #[]))
    (H : ∀ m W1, Grew W W1 → CallsIn F m Try.prog 100 #[.agg #[v0, v1, v2, v3, v4], .func (.yield l) #[] #[]] W1 (YesNo A B)) :
    CallsIn F n Try.prog 104 (#[.agg #[v0, v1, v2, v3, v4]] ++ #[.pointer (some ⟨pb, 0, none⟩)]) W (YesNo B A) := by
  have hdd : ∀ k : Nat, (F.depth.isSome = true → 1 ≤ k) := fun k h => by rw [hd] at h; cases h
  have hgr := grew_alloc W (.cells #[v0, v1, v2, v3, v4] 104)
  have hl := lt_of_cell hc
  have hS := Lib.hid (fun m => H m _ hgr)
  clear H hgr
  simp only [List.append_toArray, List.cons_append, List.nil_append]
  refine callsIn_of_wp Try.func104 rfl (hfn _) ?_ hro
  simp only [Try.ntmps104, List.size_toArray, List.length_cons, List.length_nil, Nat.reduceAdd, Nat.reduceSub, Array.replicate_succ, Array.replicate_zero, List.push_toArray, List.append_toArray, List.nil_append, List.cons_append]
  gi_wp2_with ((try refine ⟨hdd _, ?_⟩); gi_at_call 100; refine (hS.out _).mono ?_; rintro e w' (⟨rfl, h2⟩ | ⟨rfl, h2⟩))
  · go_ret
    exact .inr ⟨rfl, h2⟩
  · go_ret
    exact .inl ⟨rfl, h2⟩
def AllCame {W0 : World} {lim : Nat} (J : List (NV W0 lim) → World → Prop) (pre : List (NV W0 lim)) (L : List Nd) (W W' : World) : Prop := ∃ q : List (NV W0 lim), q.map NV.n = L ∧ J (pre ++ q) W' ∧ KpN lim W W'
def PartCame {W0 : World} {lim : Nat} (Jx : List (NV W0 lim) → World → Prop) (pre : List (NV W0 lim)) (L : List Nd) (W' : World) : Prop := ∃ q : List (NV W0 lim), q.map NV.n <+: L ∧ Jx (pre ++ q) W'
theorem allL_take (l : List Nd) (j : Nat) (hj : j < l.length) : Nd.allL (l.take (j + 1)) = Nd.allL (l.take j) ++ l[j].all := by
  induction l generalizing j with
  | nil => exact absurd hj (by simp)
  | cons a r ih =>
    cases j with
    | zero => simp [Nd.allL]
    | succ j =>
      have := ih j (by simpa using hj)
      simp only [List.take_succ_cons, List.getElem_cons_succ, Nd.allL]
      rw [this, List.append_assoc]
theorem allL_take_le (l : List Nd) (j : Nat) (hj : j < l.length) : Nd.allL (l.take j) ++ l[j].all <+: Nd.allL l := by
  rw [← allL_take l j hj]
  have : ∀ (l : List Nd) k, Nd.allL (l.take k) <+: Nd.allL l := by
    intro l
    induction l with
    | nil => intro k; simp [Nd.allL]
    | cons a r ih =>
      intro k
      cases k with
      | zero => simp [Nd.allL]
      | succ k =>
        obtain ⟨t, ht⟩ := ih k
        exact ⟨t, by simp only [List.take_succ_cons, Nd.allL, List.append_assoc, ht]⟩
  exact this l _
set_option maxHeartbeats 4000000 in
set_option maxRecDepth 20000 in
theorem walkN_ok (F : Fence) (hd : F.depth = none) (hfn : ∀ k, F.fn k) (hro : F.round = none) (l lim N : Nat) (W0 : World) (hlim : lim ≤ W0.heap.size) (J Jx : List (NV W0 lim) → World → Prop) (hJ : ∀ s A B, J s A → Grew A B → J s B)
    (hY : ∀ m pre (x : NV W0 lim) W, J pre W → Below lim W0 W → pre.length < N → YieldAt F m Try.prog l x.enc W (YesNo (fun W' => J (pre ++ [x]) W' ∧ KpN lim W W') (Jx (pre ++ [x])))) :
    ∀ n : Nd, ∀ (m : Nat) (v0 v1 v2 v3 v4 : Value) (_ : NodeAt W0 lim (some v0) (some v1) (some v2) (some v3) (some v4) n) (pre : List (NV W0 lim)) (W : World), J pre W → Below lim W0 W → pre.length + n.all.length ≤ N →
      CallsIn F m Try.prog 100 #[.agg #[v0, v1, v2, v3, v4], .func (.yield l) #[] #[]] W (YesNo (AllCame J pre n.all W) (PartCame Jx pre n.all)) := by
  have hdd : ∀ k : Nat, (F.depth.isSome = true → 1 ≤ k) := fun k h => by rw [hd] at h; cases h
  refine Nd.ind ?_
  intro k nm tx set subs ih m v0 v1 v2 v3 v4 hN pre W hj hb hlen
  obtain ⟨x, hx⟩ : ∃ x : NV W0 lim, x = ⟨_, _, _, _, _, _, hN⟩ := ⟨_, rfl⟩
  have hxe : x.enc = #[.agg #[v0, v1, v2, v3, v4]] := by rw [hx]; rfl
  have hxn : x.n = .mk k nm tx set subs := by rw [hx]
  clear hx
  rw [NodeAt] at hN
  obtain ⟨hk, h1, h2, h3, h4, h5, ⟨sa, sc, h6, h6', h7⟩, na, nc, h8, h8', h9⟩ := hN
  obtain rfl := Option.some.inj h3
  obtain rfl := Option.some.inj h4
  obtain rfl := Option.some.inj h5
  obtain rfl := Option.some.inj h6
  obtain rfl := Option.some.inj h8
  clear h3 h4 h5 h6 h7 h8
  rw [Nd.all, List.length_cons] at hlen
  have hg1 := grew_alloc W (.cells #[.int .u8 k, .string nm, .string tx, .slice sa set.length sc, .slice na subs.length nc] 104)
  have hg2 := grew_alloc (W.alloc (.cells #[.int .u8 k, .string nm, .string tx, .slice sa set.length sc, .slice na subs.length nc] 104)) (.cells #[.func (.yield l) #[] #[]] 131)
  have ho1 := (Owns.alloc W [.int .u8 k, .string nm, .string tx, .slice sa set.length sc, .slice na subs.length nc] 104).keep hg2
  have ho2 := Owns.alloc (W.alloc (.cells #[.int .u8 k, .string nm, .string tx, .slice sa set.length sc, .slice na subs.length nc] 104)) [.func (.yield l) #[] #[]] 131
  have e1 : (W.alloc (.cells #[.int .u8 k, .string nm, .string tx, .slice sa set.length sc, .slice na subs.length nc] 104)).heap.size = W.heap.size + 1 := by simp
  rw [e1] at ho2
  clear e1
  have hg := hg1.trans hg2
  have hsz := hb.size
  have hbA := hb.trans (hg.mono (show lim ≤ W.heap.size by omega))
  have hYA := hY (m - 1) pre x _ (hJ _ _ _ hj hg) hbA (by omega)
  obtain ⟨fn, tmps, assign, body, hy, hR⟩ := hYA
  rw [hxe] at hy
  have HKG := Lib.hid (KpN.grew hg (show lim ≤ W.heap.size by omega))
  have hR' := hR.mono (R' := fun e W2 => (e = .returned (.bool true) ∧ Hid (J (pre ++ [x]) W2) ∧ Hid (KpN lim W W2) ∧ Hid (Below lim W0 W2) ∧ W2.cell? ⟨W.heap.size, 4, none⟩ = some (.slice na subs.length nc) ∧ Hid (W2.cell? ⟨W.heap.size + 1, 0, none⟩ = some (.func (.yield l) #[] #[])) ∧
      Hid (W2.heap[W.heap.size + 1]? = some (.cells #[.func (.yield l) #[] #[]] 131 (0, 0)))) ∨ (e = .returned (.bool false) ∧ Jx (pre ++ [x]) W2)) (by
    rintro e W2 (⟨rfl, hj2, hk2⟩ | ⟨rfl, hx2⟩)
    · have o1 : Owns W2 W.heap.size _ 104 := hk2.box _ _ _ _ ho1 (.inl rfl)
      have o2 : Owns W2 (W.heap.size + 1) _ 131 := hk2.box _ _ _ _ ho2 (.inr rfl)
      exact .inl ⟨rfl, hj2, (KpN.grew hg (show lim ≤ W.heap.size by omega)).trans hk2, hbA.trans hk2.low, o1.cell_at rfl, o2.cell_at rfl, o2⟩
    · exact .inr ⟨rfl, hx2⟩)
  have HR := Lib.hid hR'
  have HIH := Lib.hid ih
  have HJ := Lib.hid hJ
  have H9 := Lib.hid h9
  clear hY hg1 hg2 ho1 ho2 hg hR hR' hbA ih hJ hb h9 hxe hj hsz
  unfold reachN at h1 h2 h6' h8'
  refine callsIn_of_wp Try.func100 rfl (hfn _) ?_ hro
  simp only [Try.ntmps100, List.size_toArray, List.length_cons, List.length_nil, Nat.reduceAdd, Nat.reduceSub, Array.replicate_succ, Array.replicate_zero, List.push_toArray, List.append_toArray, List.nil_append, List.cons_append]
  gi_wp2_with ((try refine ⟨hdd _, ?_⟩); refine HR.out.mono ?_; rintro e W2 (⟨rfl, hj2, hk2, hb2, hc2, hy2, ho2⟩ | ⟨rfl, hx2⟩))
  · have hC : ∀ m, CallsIn F m Try.prog 102 #[.slice na subs.length nc, .func (.func 104) #[] #[.pointer (some ⟨W.heap.size + 1, 0, none⟩)]] W2
        (CntPost subs (fun j W' => AllCame J (pre ++ [x]) (Nd.allL (subs.take j)) W2 W') (fun _ W' => PartCame Jx (pre ++ [x]) (Nd.allL subs) W')) := by
      intro m
      refine contNodesI_ok F hd hfn hro m subs 104 _ enters_walk1 W0 lim na nc (by unfold reachN; omega) H9.out _ _ (fun j W' ⟨q, _, _, h⟩ => hb2.out.trans h.low) ?_ W2 ⟨[], by simp [Nd.allL], by simpa using hj2.out, KpN.refl _ _⟩
      rintro j hj m W' u0 u1 u2 u3 u4 ⟨q, hq1, hq2, hq3⟩ hnode
      have hty : W'.cell? ⟨W.heap.size + 1, 0, none⟩ = some (.func (.yield l) #[] #[]) := Owns.cell_at (hq3.box _ _ _ _ ho2.out (.inr rfl)) rfl
      have hql := congrArg List.length hq1
      have hal := (allL_take_le subs j hj).length_le
      simp only [List.length_map, List.length_append] at hql hal
      refine (walk1_in F hd hfn hro l _ u0 u1 u2 u3 u4 (AllCame J (pre ++ [x] ++ q) subs[j].all W') (PartCame Jx (pre ++ [x] ++ q) subs[j].all) m W' hty (fun m W1 hg => ?_)).mono ?_
      · have hb' := hb2.out.trans hq3.low
        refine (HIH.out j hj m u0 u1 u2 u3 u4 hnode (pre ++ [x] ++ q) W1 (HJ.out _ _ _ hq2 hg) (hb'.trans (hg.mono (by have := hb'.size; omega))) (by simp only [List.length_append, List.length_singleton]; omega)).mono ?_
        rintro e W3 (⟨rfl, q', r1, r2, r3⟩ | h)
        · exact .inl ⟨rfl, q', r1, r2, (KpN.grew hg (by have := hb'.size; omega)).trans r3⟩
        · exact .inr h
      · rintro e W3 (⟨rfl, q', r1, r2⟩ | ⟨rfl, q', r1, r2, r3⟩)
        · refine .inr ⟨rfl, q ++ q', ?_, by simpa using r2⟩
          rw [List.map_append, hq1]
          exact (List.prefix_append_right_inj _).2 r1 |>.trans (allL_take_le subs j hj)
        · refine .inl ⟨rfl, q ++ q', ?_, by simpa using r2, hq3.trans r3⟩
          rw [List.map_append, hq1, r1, allL_take subs j hj]
    have HC := Lib.hid hC
    clear hC HIH HJ H9 hy HR
    gi_wp2_with ((try refine ⟨hdd _, ?_⟩); gi_at_call 102; refine (HC.out _).mono ?_; rintro e W3 (⟨rfl, q, hq1, hq2, hq3⟩ | ⟨j, hj, rfl, q, hq1, hq2⟩))
    · go_ret
      refine .inl ⟨rfl, x :: q, ?_, by simpa using hq2, hk2.out.trans hq3⟩
      rw [List.map_cons, hxn, Nd.all, hq1, List.take_length]
    · go_ret
      refine .inr ⟨rfl, x :: q, ?_, by simpa using hq2⟩
      rw [List.map_cons, hxn, Nd.all]
      obtain ⟨t, ht⟩ := hq1
      exact ⟨t, by simp [ht]⟩
  · go_ret
    refine .inr ⟨rfl, [x], ?_, hx2⟩
    rw [List.map_singleton, hxn, Nd.all]
    exact ⟨_, rfl⟩
theorem grew_abides {β : Type} {B : Nat} {J : β → World → Prop} (h : AbidesFrom B J) : ∀ s A C, J s A → Grew A C → J s C := fun s A C hs hg =>
  h s A C none hs ⟨hg.os, hg.tape, hg.output, hg.size, fun k hk _ => hg.block k hk⟩ (fun r e => by cases e)
theorem all_stops (F : Fence) (hd : F.depth = none) (hfn : ∀ k, F.fn k) (hro : F.round = none) (m lim Bn : Nat) (W0 w : World) (hlim : lim ≤ W0.heap.size) (hw : KpN lim W0 w) (n : Nd) (v0 v1 v2 v3 v4 : Value)
    (hN : NodeAt W0 lim (some v0) (some v1) (some v2) (some v3) (some v4) n) (hB : Owns w Bn [v0, v1, v2, v3, v4] 104) :
    SeqStopsK F m Try.prog 99 #[.pointer (some ⟨Bn, 0, none⟩)] (NV.enc (W0 := W0) (lim := lim)) (KpN lim) (fun q => q.map NV.n = n.all) (fun q => q.map NV.n <+: n.all) n.all.length w := by
  have hdd : ∀ k : Nat, (F.depth.isSome = true → 1 ≤ k) := fun k h => by rw [hd] at h; cases h
  intro l J Jx W hW hJ _ hY h0
  have hwz := hw.low.size
  have hbl : Below lim W0 W := hw.low.trans (hW.mono (by omega))
  have hBo : Owns W Bn [v0, v1, v2, v3, v4] 104 := hB.keep hW
  have hY' : ∀ m' pre (x : NV W0 lim) W, J pre W → Below lim W0 W → pre.length < n.all.length → YieldAt F m' Try.prog l x.enc W (YesNo (fun W' => J (pre ++ [x]) W' ∧ KpN lim W W') (Jx (pre ++ [x]))) := fun m' pre x W hj _ hl => by
    obtain ⟨fn, tmps, assign, body, hy, hR⟩ := hY pre x W hj hl
    exact ⟨fn, tmps, assign, body, hy, hR.1, fun c cs _ => hR.2 c cs (fun d h => by rw [hd] at h; cases h)⟩
  have hS := Lib.hid (fun m' => walkN_ok F hd hfn hro l lim n.all.length W0 hlim J Jx (grew_abides hJ) hY' n m' v0 v1 v2 v3 v4 hN [] W h0 hbl (by simp))
  obtain ⟨k0, k1, k2, k3, k4, k5, k6, k7, k8, rfl, rfl, rfl, rfl, rfl⟩ := hN.forms
  have c0 := hBo.cell_at (i := 0) rfl
  have c1 := hBo.cell_at (i := 1) rfl
  have c2 := hBo.cell_at (i := 2) rfl
  have c3 := hBo.cell_at (i := 3) rfl
  have c4 := hBo.cell_at (i := 4) rfl
  have hbl := hBo.lt
  clear hY hY' hJ hN hB hBo hW hw
  simp only [List.append_toArray, List.cons_append, List.nil_append]
  refine callsIn_of_wp Try.func99 rfl (hfn _) ?_ hro
  simp only [Try.ntmps99, List.size_toArray, List.length_cons, List.length_nil, Nat.reduceAdd, Nat.reduceSub, Array.replicate_succ, Array.replicate_zero, List.push_toArray, List.append_toArray, List.nil_append, List.cons_append]
  gi_wp2_with ((try refine ⟨hdd _, ?_⟩); gi_at_call 100; refine (hS.out _).mono ?_; rintro e w' (⟨rfl, q, h1, h2, h3⟩ | ⟨rfl, q, h1, h2⟩))
  · go_end0
    exact ⟨⟨_, rfl⟩, .inl ⟨q, h1, by simpa using h2⟩⟩
  · go_end0
    exact ⟨⟨_, rfl⟩, .inr ⟨q, h1, by simpa using h2⟩⟩
theorem all_in (F : Fence) (hfn : ∀ k, F.fn k) (hro : F.round = none) (m : Nat) (v0 v1 v2 v3 v4 : Value) (w : World) :
    CallsIn F m Try.prog 86 #[.agg #[v0, v1, v2, v3, v4]] w fun e w' => e = .returned (.func (.func 99) #[] #[.pointer (some ⟨w.heap.size, 0, none⟩)]) ∧ w' = w.alloc (.cells #[v0, v1, v2, v3, v4] 104) := by
  refine callsIn_of_wp Try.func86 rfl (hfn _) ?_ hro
  simp only [Try.ntmps86, List.size_toArray, List.length_cons, List.length_nil, Nat.reduceAdd, Nat.reduceSub, Array.replicate_succ, Array.replicate_zero, List.push_toArray, List.append_toArray, List.nil_append, List.cons_append]
  gi_wp2
  go_ret
  exact ⟨rfl, rfl⟩
end Go.Proofs.Ytgdcnndmdgcjlaa

/- checks.parser, names, sorted, Start: what they answer. -/
namespace Go.Proofs.Ytgdcnndmdgcjlaa
open Go.RowKit
theorem parser_ok (r : Rl) (W : World) (v0 v1 v2 v3 v4 v5 v6 v7 v8 v9 : Value) (hR : v1 = .int .u8 r.sort) :
    Calls Try.prog 88 #[.agg #[v0, v1, v2, v3, v4, v5, v6, v7, v8, v9]] W fun e W' => e = .returned (.bool r.parser) ∧ Below W.heap.size W W' := by
  subst hR
  go_enter Try.func88, Try.ntmps88
  go_wp2
  go_ret
  exact ⟨rfl, (Below.refl _ _).alloc (Nat.le_refl _) _⟩
theorem names_ok (n : Nd) (W : World) (v0 v1 v2 v3 v4 : Value) (h : v0 = .int .u8 n.kind) :
    Calls Try.prog 87 #[.agg #[v0, v1, v2, v3, v4]] W fun e W' => e = .returned (.bool n.isName) ∧ Below W.heap.size W W' := by
  subst h
  unfold Nd.isName
  by_cases h5 : n.kind = 5
  · rw [h5]
    go_enter Try.func87, Try.ntmps87
    go_wp2
    go_ret
    exact ⟨rfl, (Below.refl _ _).alloc (Nat.le_refl _) _⟩
  · have e5 : (n.kind == 5) = false := beq_eq_false_iff_ne.2 h5
    go_enter Try.func87, Try.ntmps87
    go_wp2
    go_ret
    exact ⟨by rw [e5]; first | rfl | simp, (Below.refl _ _).alloc (Nat.le_refl _) _⟩
theorem enters_parser : Enters 88 := fun _ _ => by kernel_rfl
theorem start_ok (g : Gr) (W : World) (v0 v1 v2 v3 : Value) (hG : GrAt W W.heap.size (some v0) (some v1) (some v2) (some v3) g) :
    Calls Try.prog 75 #[.agg #[v0, v1, v2, v3]] W fun e W' => e = .returned (.int .i64 g.start) ∧ Below W.heap.size W W' := by
  obtain ⟨h1, hs, h2, h3, h4, h5, ra, rc, h6, h7, h8⟩ := hG
  obtain rfl := Option.some.inj h1
  obtain rfl := Option.some.inj h2
  obtain rfl := Option.some.inj h3
  obtain rfl := Option.some.inj h6
  clear h1 h2 h3 h4 h5 h6
  have hB : Below W.heap.size W (W.alloc (.cells #[.string g.name, .int .i64 g.bound, .int .i64 g.states, .slice ra g.rules.length rc] 57)) := (Below.refl _ _).alloc (Nat.le_refl _) _
  have hS := Lib.hid (indexRules_ok g.rules (fun r => r.parser) 88 #[] enters_parser _ ra rc h7 ((h8.keep hB).mono hB.size)
    (fun i hi W' v0 v1 v2 v3 v4 v5 v6 v7 v8 v9 hb hr => by
      obtain ⟨_, _, _, _, _, _, e1, _⟩ := hr.vals
      exact parser_ok _ W' _ _ _ _ _ _ _ _ _ _ (Option.some.inj e1)))
  have HB := Lib.hid hB
  clear hB h8
  unfold reachN at h7 hs
  go_enter Try.func75, Try.ntmps75
  go_wp2_with (go_at_call 95; refine hS.out.mono ?_; rintro e w' ⟨rfl, hb2⟩)
  go_ret
  exact ⟨rfl, HB.out.trans (hb2.mono (by simp))⟩
set_option maxRecDepth 20000 in
theorem sorted_ok (r : Rl) (n : Nd) (o : Int) (W : World) (v0 v1 v2 v3 v4 v5 v6 v7 v8 v9 u0 u1 u2 u3 u4 : Value) (hR : v1 = .int .u8 r.sort) (hN : u0 = .int .u8 n.kind) :
    Calls Try.prog 92 #[.agg #[v0, v1, v2, v3, v4, v5, v6, v7, v8, v9], .agg #[u0, u1, u2, u3, u4], .int .u8 o] W fun e W' => e = .returned (.bool (sortedB r n o)) ∧ Below W.heap.size W W' := by
  subst hN
  have HP := Lib.hid (fun w => parser_ok r w v0 v1 v2 v3 v4 v5 v6 v7 v8 v9 hR)
  clear hR
  unfold sortedB
  generalize r.parser = p at *
  by_cases h5 : n.kind = 5
  · rw [h5]
    cases p
    · go_enter Try.func92, Try.ntmps92
      go_wp2_with fail
      refine (HP.out _).mono ?_
      rintro e w1 ⟨rfl, hb1⟩
      go_wp2_with fail
      go_ret
      have s1 := hb1.size
      exact ⟨rfl, (((Below.refl W.heap.size W).alloc (Nat.le_refl _) _).alloc (by simp) _).trans (hb1.mono (by simp; omega))⟩
    · go_enter Try.func92, Try.ntmps92
      go_wp2_with fail
      refine (HP.out _).mono ?_
      rintro e w1 ⟨rfl, hb1⟩
      go_wp2_with fail
      go_ret
      have s1 := hb1.size
      exact ⟨rfl, (((Below.refl W.heap.size W).alloc (Nat.le_refl _) _).alloc (by simp) _).trans (hb1.mono (by simp; omega))⟩
  · rw [show (n.kind == 5) = false from beq_eq_false_iff_ne.2 h5]
    cases p
    · go_enter Try.func92, Try.ntmps92
      go_wp2_with fail
      refine (HP.out _).mono ?_
      rintro e w1 ⟨rfl, hb1⟩
      go_wp2_with fail
      go_ret
      have s1 := hb1.size
      exact ⟨rfl, (((Below.refl W.heap.size W).alloc (Nat.le_refl _) _).alloc (by simp) _).trans (hb1.mono (by simp; omega))⟩
    · go_enter Try.func92, Try.ntmps92
      go_wp2_with fail
      refine (HP.out _).mono ?_
      rintro e w1 ⟨rfl, hb1⟩
      go_wp2_with fail
      go_ret
      have s1 := hb1.size
      exact ⟨rfl, (((Below.refl W.heap.size W).alloc (Nat.le_refl _) _).alloc (by simp) _).trans (hb1.mono (by simp; omega))⟩
end Go.Proofs.Ytgdcnndmdgcjlaa

/- checks.tell: a problem more; what stays as it was. -/
namespace Go.Proofs.Ytgdcnndmdgcjlaa
open Go.RowKit
def Prob.cells (p : Prob) : List Value := [.int .u8 p.code, .int .i64 p.rule, .string p.name]
def probCells (L : List Prob) : List Value := L.flatMap Prob.cells
theorem probCells_snoc (L : List Prob) (p : Prob) : probCells L ++ p.cells = probCells (L ++ [p]) := by
  unfold probCells
  simp [List.flatMap_append]
structure ChkVals where
  c0 : Value
  c1 : Value
  c2 : Value
  c3 : Value
  c4 : Value
  c5 : Value
  c6 : Value
def ChkVals.list (c : ChkVals) (v : Value) : List Value := [c.c0, c.c1, c.c2, c.c3, c.c4, c.c5, c.c6, v]
structure ChkAt (W : World) (base cb : Nat) (c : ChkVals) (L : List Prob) : Prop where
  lo : base ≤ cb
  own : ∃ v, Owns W cb (c.list v) 157 ∧ W.ownsRow base 164 3 v L.length (probCells L)
structure Told (base cb : Nat) (W W' : World) : Prop where
  low : Below base W W'
  block : ∀ b o, W.heap[b]? = some o → b ≠ cb → (∀ cs f, o ≠ .cells cs 164 f) → W'.heap[b]? = some o
theorem Told.refl (base cb : Nat) (W : World) : Told base cb W W := ⟨Below.refl _ _, fun _ _ h _ _ => h⟩
theorem Told.trans {base cb : Nat} {A B C : World} (h : Told base cb A B) (k : Told base cb B C) : Told base cb A C :=
  ⟨h.low.trans k.low, fun b o hb hn hT => k.block b o (h.block b o hb hn hT) hn hT⟩
theorem Told.grew {base cb : Nat} {A B : World} (h : Grew A B) (hl : base ≤ A.heap.size) : Told base cb A B :=
  ⟨h.mono hl, fun b o hb _ _ => by rw [h.block b (Array.getElem?_eq_some_iff.1 hb).1]; exact hb⟩
theorem Told.owns {base cb b : Nat} {A B : World} (h : Told base cb A B) {cs : List Value} {T : Nat} (ho : Owns A b cs T) (hn : b ≠ cb) (hT : T ≠ 164) : Owns B b cs T :=
  h.block b _ ho hn (fun cs' f e => by cases e; exact hT rfl)
theorem Told.kpn {base cb lim : Nat} {A B : World} (h : Told base cb A B) (hl : lim ≤ base) {cs : List Value} (ho : Owns A cb cs 157) : KpN lim A B :=
  ⟨h.low.mono hl, fun b cs' T f hb hT => h.block b _ hb (fun e => by subst e; unfold Owns at ho; rw [ho] at hb; cases hb; rcases hT with h | h <;> cases h) (fun cs'' f' e => by cases e; rcases hT with h | h <;> cases h)⟩
theorem ChkAt.grew {W W' : World} {base cb : Nat} {c : ChkVals} {L : List Prob} (h : ChkAt W base cb c L) (hg : Grew W W') : ChkAt W' base cb c L := by
  obtain ⟨v, ho, hr⟩ := h.own
  exact ⟨h.lo, v, ho.keep hg, hr.kept (w' := W') (row := none) ⟨hg.os, hg.tape, hg.output, hg.size, fun k hk _ => hg.block k hk⟩ (by cases hv : v.ownBlock <;> simp)⟩
theorem row_block {W : World} {base e size n : Nat} {v : Value} {xs : List Value} (h : W.ownsRow base e size v n xs) {g : Nat} (hg : v.ownBlock = some g) : base ≤ g ∧ ∃ cs, W.heap[g]? = some (.cells cs e (0, 0)) := by
  rcases h.2 with ⟨rfl, _⟩ | ⟨g', cap, cur, rfl, h1, h2, _⟩
  · simp [Value.ownBlock] at hg
  · simp only [Value.ownBlock, Option.some.injEq] at hg
    subst hg
    exact ⟨h1, cur, h2⟩
theorem told_grown {W W' : World} {base cb n : Nat} {v : Value} {xs : List Value} (h : W.ownsRow base 164 3 v n xs) (hg : W.grownBy W' v.ownBlock) (hb : base ≤ W.heap.size) : Told base cb W W' :=
  ⟨(Below.refl base W).grown hg hb (fun k e => (row_block h e).1), fun b o hb' _ hT => by
    rw [hg.block b (Array.getElem?_eq_some_iff.1 hb').1 (fun e => by
      obtain ⟨_, cs, h2⟩ := row_block h e.symm
      rw [hb'] at h2
      exact hT cs (0, 0) (Option.some.inj h2))]
    exact hb'⟩
theorem cell_add {W : World} {b T j : Nat} {cs : List Value} {u : Value} (hj : cs[j]? = some u) (h : Owns W b cs T) : W.cell? ((⟨b, 0, none⟩ : Addr).add j) = some u := by
  rw [show (⟨b, 0, none⟩ : Addr).add j = ⟨b, j, none⟩ by
    cases j with
    | zero => rfl
    | succ j => simp [Addr.add]]
  rw [h.cell, hj]
theorem told_set {W : World} {base cb : Nat} (hlo : base ≤ cb) (i : Nat) (v : Value) : Told base cb W (W.setCell ⟨cb, i, none⟩ v) :=
  ⟨(Below.refl _ _).setCell hlo _, fun b o hb hn _ => by rw [Below.heap_setCell _ _ _ _ hn]; exact hb⟩
theorem row_set {W : World} {base cb n T : Nat} {v : Value} {xs cs : List Value} (h : W.ownsRow base 164 3 v n xs) (ho : Owns W cb cs T) (hT : T ≠ 164) (i : Nat) (u : Value) : (W.setCell ⟨cb, i, none⟩ u).ownsRow base 164 3 v n xs := by
  refine h.kept (w' := W.setCell ⟨cb, i, none⟩ u) (row := some cb) ⟨rfl, rfl, rfl, ((Below.refl 0 W).setCell (p := ⟨cb, i, none⟩) (by omega) u).size, fun k _ hk => Below.heap_setCell _ _ _ _ (fun e => hk (by rw [e]))⟩ ?_
  refine .inr fun hg => ?_
  obtain ⟨_, cs', h2⟩ := row_block h hg
  unfold Owns at ho
  rw [ho] at h2
  cases h2
  exact hT rfl
theorem info_problem : (Try.prog.info? 164).map (fun i => (i.zero, i.size, i.bytes)) = some (some (.agg #[.int .u8 0, .int .i64 0, .string ⟨#[]⟩]), 3, 32) := by kernel_rfl
set_option maxHeartbeats 1000000 in
set_option maxRecDepth 20000 in
theorem tell_ok (base cb : Nat) (c : ChkVals) (L : List Prob) (W : World) (hC : ChkAt W base cb c L) (hL : L.length ≤ 1000000) (code rule : Int) (name : ByteArray) :
    Calls Try.prog 76 #[.pointer (some ⟨cb, 0, none⟩), .int .u8 code, .int .i64 rule, .string name] W fun e W' => (∃ v, e = .returned v) ∧ ChkAt W' base cb c (L ++ [⟨code, rule, name⟩]) ∧ Told base cb W W' := by
  obtain ⟨hlo, v, ho, hr⟩ := hC
  obtain ⟨i0, hi, hz0, hz1, hz2⟩ := info_parts info_problem
  have hlt := ho.lt
  have c7 : W.cell? ⟨cb, 7, none⟩ = some v := ho.cell_at rfl
  have f7 := ho.free 7
  have HO := Lib.hid ho
  have HR := Lib.hid hr
  have HI := Lib.hid hi
  have HZ0 := Lib.hid hz0
  have HZ1 := Lib.hid hz1
  have HZ2 := Lib.hid hz2
  clear ho hr hi hz0 hz1 hz2
  go_enter Try.func76, Try.ntmps76
  have hbw : base ≤ W.heap.size := by omega
  have hn := grew_alloc W (.cells #[.int .u8 code, .int .i64 rule, .string name] 164)
  have on := Owns.alloc W [.int .u8 code, .int .i64 rule, .string name] 164
  have HN := Lib.hid hn
  have ON := Lib.hid on
  clear hn on
  go_wp2_with (at_builtin; refine wpList_append_own _ rfl _ _ 132 rfl base 164 i0 _ 3 32 Try.underlying132 HI.out HZ0.out HZ1.out HZ2.out rfl (by decide) _ L.length _ rfl (HR.out.alloc _) ⟨W.heap.size, 0, none⟩ 1 1 [.int .u8 code, .int .i64 rule, .string name] rfl rfl ?c1 ?c2 ?c3 ?c4 ?c5 ?_; rotate_right; intro v' w1 hown' hgrow _; obtain ⟨g', cap', rfl⟩ := ownsRow_succ hown'; have htold := told_grown (cb := cb) (HR.out.alloc _) hgrow (by simp; omega); have how := hgrow.size; simp at how; have hO1 : Owns w1 cb (c.list v) 157 := (hgrow.block cb (by simp; omega) (fun e => by obtain ⟨_, cs, h2⟩ := row_block (HR.out.alloc _) e.symm; have h3 := HO.out.keep HN.out; unfold Owns at h3; rw [h3] at h2; cases h2)).trans (HO.out.keep HN.out); have c7' := hO1.cell_at (i := 7) rfl; have f7' := hO1.free 7; have HTO := Lib.hid htold; have ho' := Lib.hid hown'; have HO1 := Lib.hid hO1; clear hgrow hown' htold hO1 c7 f7)
  case c1 => intro j u hj; exact cell_add hj ON.out
  case c2 => simp [Value.oneCell']
  case c3 => unfold maxLen; omega
  case c4 => omega
  case c5 => simp; omega
  go_end0
  refine ⟨⟨_, rfl⟩, ⟨hlo, _, HO1.out.set 7 _, ?_⟩, ((Told.grew HN.out hbw).trans HTO.out).trans (told_set hlo _ _)⟩
  have := row_set ho'.out HO1.out (by decide) 7 (.slice (some ⟨g', 0, none⟩) (L.length + 1) cap')
  rw [show [Value.int .u8 code, .int .i64 rule, .string name] = Prob.cells ⟨code, rule, name⟩ from rfl, probCells_snoc] at this
  simpa using this
end Go.Proofs.Ytgdcnndmdgcjlaa

/- checks.rule's questions of a node: is it a name of none; of a sort that may not be named; a loop of what may be empty? -/
namespace Go.Proofs.Ytgdcnndmdgcjlaa
open Go.RowKit
structure GrCell (W : World) (cb : Nat) (g : Gr) : Prop where
  lt : cb < W.heap.size
  at_ : ∃ v0 v1 v2 v3, W.cell? ⟨cb, 0, none⟩ = some v0 ∧ W.cell? ⟨cb, 1, none⟩ = some v1 ∧ W.cell? ⟨cb, 2, none⟩ = some v2 ∧ W.cell? ⟨cb, 3, none⟩ = some v3 ∧ GrAt W W.heap.size (some v0) (some v1) (some v2) (some v3) g
theorem GrCell.grew {W W' : World} {cb : Nat} {g : Gr} (h : GrCell W cb g) (hg : Grew W W') : GrCell W' cb g := by
  obtain ⟨hl, v0, v1, v2, v3, h0, h1, h2, h3, h4⟩ := h
  refine ⟨by have := hg.size; omega, v0, v1, v2, v3, ?_, ?_, ?_, ?_, (h4.keep hg).mono hg.size⟩
  · rw [hg.cells _ _ hl]; exact h0
  · rw [hg.cells _ _ hl]; exact h1
  · rw [hg.cells _ _ hl]; exact h2
  · rw [hg.cells _ _ hl]; exact h3
set_option maxHeartbeats 1000000 in
set_option maxRecDepth 20000 in
theorem rule1_ok (g : Gr) (n : Nd) (W : World) (cb pc : Nat) (v0 v1 v2 v3 v4 : Value) (hG : GrCell W cb g) (hp : W.cell? ⟨pc, 0, none⟩ = some (.pointer (some ⟨cb, 0, none⟩))) (hN : NodeAt W W.heap.size (some v0) (some v1) (some v2) (some v3) (some v4) n) :
    Calls Try.prog 90 (#[.agg #[v0, v1, v2, v3, v4]] ++ #[.pointer (some ⟨pc, 0, none⟩)]) W fun e W' => e = .returned (.bool (g.noneBad n)) ∧ Grew W W' := by
  obtain ⟨k, nm, tx, set, subs⟩ := n
  rw [NodeAt] at hN
  obtain ⟨hk, h1, h2, h3, h4, h5, ⟨sa, sc, h6, -, -⟩, na, nc, h7, -, -⟩ := hN
  obtain rfl := Option.some.inj h3
  obtain rfl := Option.some.inj h4
  obtain rfl := Option.some.inj h5
  obtain rfl := Option.some.inj h6
  obtain rfl := Option.some.inj h7
  clear h3 h4 h5 h6 h7 hk
  unfold reachN at h1 h2
  have hgr := grew_alloc W (.cells #[.int .u8 k, .string nm, .string tx, .slice sa set.length sc, .slice na subs.length nc] 104)
  have ho := Owns.alloc W [.int .u8 k, .string nm, .string tx, .slice sa set.length sc, .slice na subs.length nc] 104
  have hpl := lt_of_cell hp
  have hp' : (W.alloc (.cells #[.int .u8 k, .string nm, .string tx, .slice sa set.length sc, .slice na subs.length nc] 104)).cell? ⟨pc, 0, none⟩ = some (.pointer (some ⟨cb, 0, none⟩)) := by rw [hgr.cells _ _ hpl]; exact hp
  obtain ⟨hcl, g0, g1, g2, g3, d0, d1, d2, d3, hGA⟩ := hG.grew hgr
  have b0 := ho.cell_at (i := 0) rfl
  have b1 := ho.cell_at (i := 1) rfl
  have b2 := ho.cell_at (i := 2) rfl
  have b3 := ho.cell_at (i := 3) rfl
  have b4 := ho.cell_at (i := 4) rfl
  have bl := ho.lt
  have hpl' : pc < (W.alloc (.cells #[.int .u8 k, .string nm, .string tx, .slice sa set.length sc, .slice na subs.length nc] 104)).heap.size := by have := hgr.size; omega
  have HNm := Lib.hid (fun w => names_ok (.mk k nm tx set subs) w (.int .u8 k) (.string nm) (.string tx) (.slice sa set.length sc) (.slice na subs.length nc) rfl)
  have HF := Lib.hid (fun w hg' => find_ok g nm w g0 g1 g2 g3 hg')
  have hfin : Hid (g.noneBad (.mk k nm tx set subs) = ((Nd.mk k nm tx set subs).isName && decide (g.find nm < 0))) := rfl
  have HG := Lib.hid hGA
  have HGR := Lib.hid hgr
  generalize hisn : (Nd.mk k nm tx set subs).isName = isn at *
  generalize hfd : g.find nm = fd at *
  clear hGA hgr ho hp hG hisn hfd
  simp only [List.append_toArray, List.cons_append, List.nil_append]
  cases isn
  · go_enter Try.func90, Try.ntmps90
    go_wp2_with fail
    generalize W.alloc (.cells #[.int .u8 k, .string nm, .string tx, .slice sa set.length sc, .slice na subs.length nc] 104) = w1 at *
    refine wp_region_hav_lit follows (by kernel_rfl) ?_
    repeat (first
      | (refine HavG.skip (fun _ => rfl) ?_; simp only [Act.put, List.setIfInBounds_toArray, List.set_cons_zero, List.set_cons_succ])
      | (refine HavG.val (fun _ => rfl) ?_ (fun x w hw _ => ?_) ?_; rotate_left; (focus (have hc := hw.cells; clear hw; go_simp; first | done | rfl)); simp only [Act.put, List.setIfInBounds_toArray, List.set_cons_zero, List.set_cons_succ]))
    refine HavG.det (fun _ => rfl) (.bool false) (fun x w hw _ => ?_) ?_
    · have HW := Lib.hid hw
      clear hw
      go_simp
      refine (HNm.out _).mono ?_
      rintro e w' ⟨rfl, hb⟩
      exact ⟨rfl, hb⟩
    simp only [Act.put, List.setIfInBounds_toArray, List.set_cons_zero, List.set_cons_succ]
    repeat (first
      | (refine HavG.skip (fun _ => rfl) ?_; simp only [Act.put, List.setIfInBounds_toArray, List.set_cons_zero, List.set_cons_succ])
      | (refine HavG.val (fun _ => rfl) ?_ (fun x w hw _ => ?_) ?_; rotate_left; (focus (have hc := hw.cells; clear hw; go_simp; first | done | rfl)); simp only [Act.put, List.setIfInBounds_toArray, List.set_cons_zero, List.set_cons_succ]))
    refine HavG.tail (by kernel_rfl) (by kernel_rfl) (fun x w hw _ => ?_)
    go_wp2
    go_ret
    exact ⟨by rw [hfin.out]; rfl, HGR.out.trans hw⟩
  · go_enter Try.func90, Try.ntmps90
    go_wp2_with fail
    generalize W.alloc (.cells #[.int .u8 k, .string nm, .string tx, .slice sa set.length sc, .slice na subs.length nc] 104) = w1 at *
    refine wp_region_hav_lit follows (by kernel_rfl) ?_
    repeat (first
      | (refine HavG.skip (fun _ => rfl) ?_; simp only [Act.put, List.setIfInBounds_toArray, List.set_cons_zero, List.set_cons_succ])
      | (refine HavG.val (fun _ => rfl) ?_ (fun x w hw _ => ?_) ?_; rotate_left; (focus (have hc := hw.cells; clear hw; go_simp; first | done | rfl)); simp only [Act.put, List.setIfInBounds_toArray, List.set_cons_zero, List.set_cons_succ]))
    refine HavG.det (fun _ => rfl) (.bool true) (fun x w hw _ => ?_) ?_
    · have HW := Lib.hid hw
      clear hw
      go_simp
      refine (HNm.out _).mono ?_
      rintro e w' ⟨rfl, hb⟩
      exact ⟨rfl, hb⟩
    simp only [Act.put, List.setIfInBounds_toArray, List.set_cons_zero, List.set_cons_succ]
    repeat (first
      | (refine HavG.skip (fun _ => rfl) ?_; simp only [Act.put, List.setIfInBounds_toArray, List.set_cons_zero, List.set_cons_succ])
      | (refine HavG.val (fun _ => rfl) ?_ (fun x w hw _ => ?_) ?_; rotate_left; (focus (have hc := hw.cells; clear hw; go_simp; first | done | rfl)); simp only [Act.put, List.setIfInBounds_toArray, List.set_cons_zero, List.set_cons_succ]))
    refine HavG.det (fun _ => rfl) (.int .i64 fd) (fun x w hw _ => ?_) ?_
    · have HW := Lib.hid hw
      clear hw
      go_simp
      refine (HF.out _ ((HG.out.keep HW.out).mono HW.out.size)).mono ?_
      rintro e w' ⟨rfl, hb⟩
      exact ⟨rfl, hb⟩
    simp only [Act.put, List.setIfInBounds_toArray, List.set_cons_zero, List.set_cons_succ]
    repeat (first
      | (refine HavG.skip (fun _ => rfl) ?_; simp only [Act.put, List.setIfInBounds_toArray, List.set_cons_zero, List.set_cons_succ])
      | (refine HavG.val (fun _ => rfl) ?_ (fun x w hw _ => ?_) ?_; rotate_left; (focus (have hc := hw.cells; clear hw; go_simp; first | done | rfl)); simp only [Act.put, List.setIfInBounds_toArray, List.set_cons_zero, List.set_cons_succ]))
    refine HavG.tail (by kernel_rfl) (by kernel_rfl) (fun x w hw _ => ?_)
    go_wp2
    all_goals
      go_ret
      exact ⟨by rw [hfin.out]; simp [*], HGR.out.trans hw⟩
end Go.Proofs.Ytgdcnndmdgcjlaa
