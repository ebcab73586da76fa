/- follows: begin, row. -/
import Derived.Test.YtldoinfbimelpaaQ10
namespace Go.Proofs.Ytldoinfbimelpaa
open Go.RowKit

def RB (n : Nat) (p : List Bool × Bool) (w : World) (e : Ending) (w' : World) : Prop := ∃ v, e = .returned (.tuple #[v, .bool p.2]) ∧ NewRowIs n p.1 w v w'
def BegOk (V : FV) (S : FS) (n : Nd) : Prop := ∀ (w : World) (v0 v1 v2 v3 v4 : Value), SetsAt w V S → NodeAt w w.heap.size (some v0) (some v1) (some v2) (some v3) (some v4) n →
  Calls Try.prog 18 #[.pointer (some ⟨V.sb, 0, none⟩), .agg #[v0, v1, v2, v3, v4]] w (RB S.n (S.begin n) w)
theorem But.grewFrom {w0 w w' : World} {ob : Nat} (h : Grew w0 w) (k : But (fun q => q = ob) w w') (hl : w0.heap.size ≤ ob) : Grew w0 w' :=
  Below.trans h (k.below h.size (fun q e => by subst e; exact hl))

set_option maxHeartbeats 2000000 in
set_option maxRecDepth 20000 in
theorem frow_ok (V : FV) (S : FS) (hw : S.Wf) (l : List Nd) (HB : Hid (∀ j (h : j < l.length), BegOk V S l[j])) (w : World) (h : SetsAt w V S) (a : Option Addr) (cap : Nat) (hl : l.length ≤ reachN) (hR : NodesAt w w.heap.size a 0 l) :
    Calls Try.prog 34 #[.pointer (some ⟨V.sb, 0, none⟩), .slice a l.length cap] w (RB S.n (S.row l S.none) w) := by
  have HS := Lib.hid h
  have HW := Lib.hid hw
  have HR := Lib.hid hR
  have HN := Lib.hid (fnone_ok w V S hw h)
  have hn9 := hw.n
  clear h hw hR
  unfold reachN at hl
  go_enter Try.func34, Try.ntmps34
  go_wp2_with fail
  refine HN.out.mono ?_
  rintro e w1 ⟨v, rfl, ob, rfl, ho1, hlo, hg1⟩
  have HO1 := Lib.hid ho1
  have HG1 := Lib.hid hg1
  have HLO := Lib.hid hlo
  clear ho1 hg1 hlo HN
  go_wp2_with fail
  go_loopw [4, 14] (fun v c wr => ∃ (j : Nat) (out : List Bool), v = .slice (some ⟨ob, 0, none⟩) S.n S.n ∧ c = .int .i64 j ∧ j ≤ l.length ∧ Hid (out.length = S.n) ∧ Hid (Owns wr ob (fbs out) 4) ∧ Hid (Grew w wr) ∧ Hid (S.row l S.none = S.row (l.drop j) out)) (fun _ c _ => l.length - (intOf c).toNat)
  case atStart => exact ⟨0, S.none, rfl, rfl, by omega, S.none_len, HO1.out, HG1.out, rfl⟩
  case round =>
    obtain ⟨j, out, rfl, rfl, hj, HOL, HO, HG, HE⟩ := hrel
    by_cases hlt : j < l.length
    · obtain ⟨b, off, rfl, hb, hnode⟩ := (HR.out.keep HG.out).get hlt
      simp only [Nat.zero_add] at hnode
      obtain ⟨u0, u1, u2, u3, u4, e0, e1, e2, e3, e4, hnode⟩ := hnode.vals
      obtain ⟨k0, k1, k2, k3, k4, k5, k6, k7, k8, rfl, rfl, rfl, rfl, rfl⟩ := hnode.forms
      have hb' := Nat.lt_of_lt_of_le hb HG.out.size
      obtain ⟨w2, hw2⟩ : ∃ w2, wr.alloc (.cells #[.int .u8 k0, .string k1, .string k2, .slice k3 k4 k5, .slice k6 k7 k8] 26) = w2 := ⟨_, rfl⟩
      have g2 : Grew wr w2 := hw2 ▸ grew_alloc wr _
      have HG2 := Lib.hid (HG.out.trans g2)
      have HO2 := Lib.hid (HO.out.keep g2)
      have o2 : Owns w2 wr.heap.size [.int .u8 k0, .string k1, .string k2, .slice k3 k4 k5, .slice k6 k7 k8] 26 := hw2 ▸ Owns.alloc wr _ _
      have HC := Lib.hid (HB.out j hlt w2 _ _ _ _ _ (HS.out.keep HG2.out) (((hnode.mono HG.out.size).keep g2).mono g2.size))
      have HDR := Lib.hid (show l.drop j = l[j] :: l.drop (j + 1) from List.drop_eq_getElem_cons hlt)
      have HBL := Lib.hid (begin_len HW.out l[j])
      have p0 := o2.cell_at (i := 0) rfl
      have p1 := o2.cell_at (i := 1) rfl
      have p2 := o2.cell_at (i := 2) rfl
      have p3 := o2.cell_at (i := 3) rfl
      have p4 := o2.cell_at (i := 4) rfl
      have pl := o2.lt
      clear hnode g2 o2 hb
      obtain ⟨bo, bm, hbe⟩ : ∃ bo bm, S.begin l[j] = (bo, bm) := ⟨_, _, rfl⟩
      rw [hbe] at HC HBL
      have hE2 := HE.out
      rw [HDR.out, FS.row, hbe] at hE2
      have HE2 := Lib.hid hE2
      clear hbe hE2 HDR
      go_wp2_with fail
      refine HC.out.mono ?_
      rintro e w3 ⟨v, rfl, nb, rfl, hn3, hlo3, hg3⟩
      have HG3 := Lib.hid (HG2.out.trans hg3)
      have HO3 := Lib.hid (HO2.out.keep hg3)
      have hne : nb ≠ ob := by have := HO2.out.lt; omega
      have HA := Lib.hid (fadd_ok w3 ob nb S.n S.n S.n out bo HOL.out HBL.out hn9 HO3.out hn3 hne)
      clear hn3 hlo3 hg3 HC hw2
      go_wp2_with fail
      refine HA.out.mono ?_
      rintro e w4 ⟨rfl, ho4, hb4⟩
      have HO4 := Lib.hid ho4
      have HG4 := Lib.hid (But.grewFrom HG3.out hb4 HLO.out)
      clear ho4 hb4 HA hne
      cases bm
      · go_wp2_with fail
        go_ret2
        have := HE2.out
        simp only [Bool.false_eq_true, if_false] at this
        rw [this]
        exact ⟨_, rfl, _, rfl, HO4.out, HLO.out, HG4.out⟩
      · go_wp2_with fail
        have := HE2.out
        simp only [if_true] at this
        refine ⟨⟨j + 1, orB out bo, rfl, by go_num, by omega, orB_len HOL.out HBL.out, HO4.out, HG4.out, this⟩, by simp [intOf]; omega⟩
    · obtain rfl : j = l.length := by omega
      have := HE.out
      rw [List.drop_length, FS.row] at this
      have HE2 := Lib.hid this
      clear this
      go_wp2_with fail
      go_ret2
      rw [HE2.out]
      exact ⟨_, rfl, _, rfl, HO.out, HLO.out, HG.out⟩

set_option maxHeartbeats 4000000 in
set_option maxRecDepth 20000 in
theorem fbegin_ok (V : FV) (S : FS) (hw : S.Wf) : ∀ n, BegOk V S n := by
  refine Nd.ind ?_
  intro k nm tx set subs ih wz v0 v1 v2 v3 v4 h hN
  rw [NodeAt] at hN
  obtain ⟨hk, h1, h2, h3, h4, h5, ⟨sa, sc, h6, h6', h7⟩, na, nc, h8, h8', h9⟩ := hN
  obtain rfl := Option.some.inj h3
  obtain rfl := Option.some.inj h4
  obtain rfl := Option.some.inj h5
  obtain rfl := Option.some.inj h6
  obtain rfl := Option.some.inj h8
  clear h3 h4 h5 h6 h7 h8
  obtain ⟨w1, hw1⟩ : ∃ w1, wz.alloc (.cells #[.int .u8 k, .string nm, .string tx, .slice sa set.length sc, .slice na subs.length nc] 26) = w1 := ⟨_, rfl⟩
  have g1 : Grew wz w1 := hw1 ▸ grew_alloc wz _
  have o1 : Owns w1 wz.heap.size [.int .u8 k, .string nm, .string tx, .slice sa set.length sc, .slice na subs.length nc] 26 := hw1 ▸ Owns.alloc wz _ _
  have HN := Lib.hid (fnone_ok w1 V S hw (h.keep g1))
  have HS := Lib.hid h
  have HW := Lib.hid hw
  have HG1 := Lib.hid g1
  have HO1 := Lib.hid o1
  have H9 := Lib.hid h9
  have HIH : Hid (∀ j (h : j < subs.length), BegOk V S subs[j]) := ih
  have hn9 := hw.n
  have hW1 := Lib.hid hw1
  clear h hw g1 o1 h9 ih
  unfold reachN at h1 h2 h6' h8'
  go_enter Try.func18, Try.ntmps18
  go_wp2_with fail
  refine HN.out.mono ?_
  rintro e w2 ⟨v, rfl, ob, rfl, ho2, hlo, hg2⟩
  have HLO := Lib.hid (show wz.heap.size ≤ ob from Nat.le_trans HG1.out.size hlo)
  have HO2 := Lib.hid ho2
  have HG2 := Lib.hid (HG1.out.trans hg2)
  have hon := HO1.out.keep hg2
  have n0 := hon.cell_at (i := 0) rfl
  have n1 := hon.cell_at (i := 1) rfl
  have n4 := hon.cell_at (i := 4) rfl
  have nl := hon.lt
  have HON := Lib.hid hon
  have HS2 := Lib.hid (HS.out.keep HG2.out)
  clear ho2 hlo hg2 hon HN hw1 HO1
  obtain ⟨R, hR⟩ : ∃ R, S.begin (.mk k nm tx set subs) = R := ⟨_, rfl⟩
  have HRR := Lib.hid hR
  rw [FS.begin] at hR
  by_cases k6 : k = 6
  · subst k6
    simp only [if_true] at hR
    have HLK := Lib.hid (fun w' (hg : Grew w2 w') => run_str_look (P := Try.prog) (w := w') (t := 29) (nm := nm) (l := S.tokens) Try.underlying29 Try.underlying9 (HS2.out.keep hg).tokens (by kernel_rfl))
    have b1 := HS2.out.box.cell_at (i := 1) rfl
    have bl := HS2.out.box.lt
    go_wp2_with fail
    refine wp_region_hav_lit follows (by kernel_rfl) ?_
    iterate 6 (first
      | (refine HavG.skip (fun _ => rfl) ?_; simp only [Act.put, List.setIfInBounds_toArray, List.set_cons_zero, List.set_cons_succ])
      | (refine HavG.val (fun _ => rfl) ?_ (fun x w hw _ => ?_) ?_; rotate_left; (focus (have hc := hw.cells; clear hw; go_simp; first | done | rfl)); simp only [Act.put, List.setIfInBounds_toArray, List.set_cons_zero, List.set_cons_succ]))
    refine HavG.det (fun _ => rfl) (.tuple #[.int .i64 ((lookB S.tokens nm).getD 0 : Nat), .bool (lookB S.tokens nm).isSome]) (fun x w hw hd => ?_) ?_
    · clear hd
      have HW := Lib.hid hw
      clear hw
      go_simp
      rw [HLK.out w HW.out]
      exact ⟨rfl, Grew.refl _⟩
    simp only [Act.put, List.setIfInBounds_toArray, List.set_cons_zero, List.set_cons_succ]
    repeat (first
      | (refine HavG.skip (fun _ => rfl) ?_; simp only [Act.put, List.setIfInBounds_toArray, List.set_cons_zero, List.set_cons_succ])
      | (refine HavG.val (fun _ => rfl) ?_ (fun x w hw _ => ?_) ?_; rotate_left; (focus (have hc := hw.cells; clear hw; go_simp; first | done | rfl)); simp only [Act.put, List.setIfInBounds_toArray, List.set_cons_zero, List.set_cons_succ]))
    refine HavG.tail (by kernel_rfl) (by kernel_rfl) (fun x w hw _ => ?_)
    have HW3 := Lib.hid hw
    have ho3 := HO2.out.keep hw
    have HG3 := Lib.hid (HG2.out.trans hw)
    clear hw HLK b1 bl n0 n1 n4 nl
    have HTK := Lib.hid (HW.out.tokens nm)
    cases hq : lookB S.tokens nm with
    | none =>
      rw [hq] at hR
      have HR := Lib.hid hR
      clear hR
      have HO3 := Lib.hid ho3
      clear ho3 hq
      simp only [Option.getD_none, Option.isSome_none]
      go_wp2_with fail
      go_ret2
      rw [HRR.out, ← HR.out]
      exact ⟨_, rfl, _, rfl, HO3.out, HLO.out, HG3.out⟩
    | some i =>
      rw [hq] at hR
      have HR := Lib.hid hR
      clear hR
      have hi := HTK.out i hq
      obtain ⟨bb, hbb⟩ : ∃ bb, (S.none)[i + 1]? = some bb := ⟨_, List.getElem?_eq_getElem (by rw [S.none_len]; exact hi)⟩
      have f1 := ho3.free (i + 1)
      have c1 := ho3.cell_at (i := i + 1) (v := .bool bb) (by unfold fbs; rw [List.getElem?_map, hbb]; rfl)
      have hset := ho3.set (i + 1) (.bool true)
      rw [fbs_set] at hset
      have HSET := Lib.hid hset
      have HG4 := Lib.hid (Below.setCell HG3.out (p := ⟨ob, i + 1, none⟩) HLO.out (.bool true))
      have hol := ho3.lt
      have hin : ((i : Int) + 1) < (S.n : Int) := by omega
      have hi0 : (0 : Int) ≤ (i : Int) + 1 := by omega
      clear hset ho3 hq hbb
      simp only [Option.getD_some, Option.isSome_some]
      go_wp2_with fail
      go_ret2
      rw [HRR.out, ← HR.out]
      exact ⟨_, rfl, _, rfl, HSET.out, HLO.out, HG4.out⟩
  simp only [if_neg k6] at hR
  have q6 : (k == 6) = false := beq_eq_false_iff_ne.2 k6
  by_cases k5 : k = 5
  · subst k5
    simp only [if_true] at hR
    have HNM := Lib.hid (fnamed_ok nm w2 V S HW.out HS2.out)
    rcases ix_cases S nm with ⟨hi, hn⟩ | ⟨i, r, hi, ha, hn⟩
    · rw [hi] at HNM
      rw [hn] at hR
      have HR := Lib.hid hR
      clear hR hi hn
      go_wp2_with fail
      refine HNM.out.mono ?_
      rintro e w3 ⟨rfl, rfl⟩
      simp only [Option.map_none]
      go_wp2_with fail
      go_ret2
      rw [HRR.out, ← HR.out]
      exact ⟨_, rfl, _, rfl, HO2.out, HLO.out, HG2.out⟩
    · rw [hi] at HNM
      rw [hn] at hR
      have HR := Lib.hid hR
      obtain ⟨r1, r2, r3, r4⟩ := HS2.out.rule i r ha
      have hfl := (HW.out.first i r ha).1
      have hbv : ∃ b0 b1 b2 b3 b4, V.bv i = [b0, b1, b2, b3, b4] := by
        match V.bv i, r4 with
        | [b0, b1, b2, b3, b4], _ => exact ⟨_, _, _, _, _, rfl⟩
      obtain ⟨b0, b1, b2, b3, b4, hb⟩ := hbv
      unfold FV.rcs at r1
      rw [hb] at r1
      have f6 := r1.cell_at (i := 6) rfl
      have fl := r1.lt
      have R1 := Lib.hid r1
      have hne : V.fk i ≠ ob := by
        obtain ⟨-, s2, -, -⟩ := HS.out.rule i r ha
        have := s2.lt
        have := HLO.out
        omega
      have HA := Lib.hid (fadd_ok w2 ob (V.fk i) S.n S.n S.n S.none r.first S.none_len hfl hn9 HO2.out r2 hne)
      clear hR hi hn r1 r2 r3 r4 hfl hb ha
      go_wp2_with fail
      refine HNM.out.mono ?_
      rintro e w3 ⟨rfl, rfl⟩
      simp only [Option.map_some]
      go_wp2_with fail
      refine HA.out.mono ?_
      rintro e w4 ⟨rfl, ho4, hb4⟩
      have HO4 := Lib.hid ho4
      have HG4 := Lib.hid (But.grewFrom HG2.out hb4 HLO.out)
      have r5 : Owns w4 (V.rk i) _ 67 := hb4.owns R1.out (fun e => by
        have h1 := R1.out
        rw [e] at h1
        have h2 := HO2.out
        unfold Owns at h1 h2
        rw [h1] at h2
        have h3 := Option.some.inj h2
        injection h3 with _ ht _
        exact absurd ht (by decide))
      have f5 := r5.cell_at (i := 5) rfl
      have fl5 := r5.lt
      clear ho4 hb4 HA f6 fl r5
      go_wp2_with fail
      refine wp_region_hav_lit follows (by kernel_rfl) ?_
      repeat (first
        | (refine HavG.skip (fun _ => rfl) ?_; simp only [Act.put, List.setIfInBounds_toArray, List.set_cons_zero, List.set_cons_succ])
        | (refine HavG.val (fun _ => rfl) ?_ (fun x w hw _ => ?_) ?_; rotate_left; (focus (have hc := hw.cells; clear hw; go_simp; first | done | rfl)); simp only [Act.put, List.setIfInBounds_toArray, List.set_cons_zero, List.set_cons_succ]))
      refine HavG.tail (by kernel_rfl) (by kernel_rfl) (fun x w hw _ => ?_)
      have HG5 := Lib.hid (HG4.out.trans hw)
      have HO5 := Lib.hid (HO4.out.keep hw)
      clear hw f5 fl5
      go_wp2_with fail
      go_ret2
      rw [HRR.out, ← HR.out]
      exact ⟨_, rfl, _, rfl, HO5.out, HLO.out, HG5.out⟩
  simp only [if_neg k5] at hR
  have q5 : (k == 5) = false := beq_eq_false_iff_ne.2 k5
  by_cases k7 : k = 7
  · subst k7
    simp only [if_true] at hR
    have HR := Lib.hid hR
    clear hR
    go_wp2_with fail
    go_ret2
    rw [HRR.out, ← HR.out]
    exact ⟨_, rfl, _, rfl, HO2.out, HLO.out, HG2.out⟩
  simp only [if_neg k7] at hR
  have q7 : (k == 7) = false := beq_eq_false_iff_ne.2 k7
  by_cases k1 : k = 1
  · subst k1
    simp only [if_true] at hR
    have HR := Lib.hid hR
    clear hR
    have HRW := Lib.hid (frow_ok V S HW.out subs HIH w2 HS2.out na nc (by unfold reachN; omega) ((H9.out.keep HG2.out).mono HG2.out.size))
    obtain ⟨ro, rm, hro⟩ : ∃ ro rm, S.row subs S.none = (ro, rm) := ⟨_, _, rfl⟩
    rw [hro] at HRW HR
    clear hro
    go_wp2_with fail
    refine HRW.out.mono ?_
    rintro e w3 ⟨v, rfl, nb, rfl, hn3, hlo3, hg3⟩
    have HN3 := Lib.hid hn3
    have HL3 := Lib.hid (Nat.le_trans HG2.out.size hlo3)
    have HG3 := Lib.hid (HG2.out.trans hg3)
    clear hn3 hlo3 hg3
    go_wp2_with fail
    go_ret2
    rw [HRR.out, ← HR.out]
    exact ⟨_, rfl, _, rfl, HN3.out, HL3.out, HG3.out⟩
  simp only [if_neg k1] at hR
  have q1 : (k == 1) = false := beq_eq_false_iff_ne.2 k1
  by_cases k0 : k = 0
  · subst k0
    obtain ⟨e0, he0⟩ : ∃ e0 : Bool, e0 = false := ⟨_, rfl⟩
    have HR := Lib.hid (show S.alts subs S.none e0 = R by rw [he0, ← hR]; rfl)
    subst he0
    clear hR
    obtain ⟨L, hL⟩ : ∃ L, subs.length = L := ⟨_, rfl⟩
    have HL := Lib.hid hL
    rw [hL] at n4 h8'
    clear hL
    go_wp2_with fail
    clear n0 n1 n4 nl
    go_loopw [5, 82] (fun v c wr => ∃ (j : Nat) (out : List Bool) (eb : Bool), v = .bool eb ∧ c = .int .i64 j ∧ j ≤ L ∧ Hid (out.length = S.n) ∧ Hid (Owns wr ob (fbs out) 4) ∧ Hid (Grew wz wr) ∧ Hid (S.alts (subs.drop j) out eb = R)) (fun _ c _ => L - (intOf c).toNat)
    case atStart => exact ⟨0, S.none, _, rfl, rfl, by omega, S.none_len, HO2.out, HG2.out, HR.out⟩
    case round =>
      obtain ⟨j, out, eb, rfl, rfl, hj, HOL, HO, HG, HE⟩ := hrel
      by_cases hlt : j < L
      · as_aux_lemma =>
        have hlt' : j < subs.length := by rw [HL.out]; exact hlt
        obtain ⟨b, off, rfl, hb, hnode⟩ := (H9.out.keep HG.out).get hlt'
        simp only [Nat.zero_add] at hnode
        obtain ⟨u0, u1, u2, u3, u4, e0, e1, e2, e3, e4, hnode⟩ := hnode.vals
        obtain ⟨m0, m1, m2, m3, m4, m5, m6, m7, m8, rfl, rfl, rfl, rfl, rfl⟩ := hnode.forms
        have hb' := Nat.lt_of_lt_of_le hb HG.out.size
        obtain ⟨wa, hwa⟩ : ∃ wa, wr.alloc (.cells #[.int .u8 m0, .string m1, .string m2, .slice m3 m4 m5, .slice m6 m7 m8] 26) = wa := ⟨_, rfl⟩
        have ga : Grew wr wa := hwa ▸ grew_alloc wr _
        have HGA := Lib.hid (HG.out.trans ga)
        have HOA := Lib.hid (HO.out.keep ga)
        have oa : Owns wa wr.heap.size [.int .u8 m0, .string m1, .string m2, .slice m3 m4 m5, .slice m6 m7 m8] 26 := hwa ▸ Owns.alloc wr _ _
        have HC := Lib.hid (HIH.out j hlt' wa _ _ _ _ _ (HS.out.keep HGA.out) (((hnode.mono HG.out.size).keep ga).mono ga.size))
        have HDR := Lib.hid (show subs.drop j = subs[j] :: subs.drop (j + 1) from List.drop_eq_getElem_cons hlt')
        have HBL := Lib.hid (begin_len HW.out subs[j])
        have p0 := oa.cell_at (i := 0) rfl
        have p1 := oa.cell_at (i := 1) rfl
        have p2 := oa.cell_at (i := 2) rfl
        have p3 := oa.cell_at (i := 3) rfl
        have p4 := oa.cell_at (i := 4) rfl
        have pl := oa.lt
        clear hnode ga oa hb
        obtain ⟨bo, bm, hbe⟩ : ∃ bo bm, S.begin subs[j] = (bo, bm) := ⟨_, _, rfl⟩
        rw [hbe] at HC HBL
        have hE2 := HE.out
        rw [HDR.out, FS.alts, hbe] at hE2
        have HE2 := Lib.hid (show S.alts (subs.drop (j + 1)) (orB out bo) (eb || bm) = R from hE2)
        clear hbe hE2 HDR
        go_wp2_with fail
        refine HC.out.mono ?_
        rintro e w3 ⟨v, rfl, nb, rfl, hn3, hlo3, hg3⟩
        have HG3 := Lib.hid (HGA.out.trans hg3)
        have HO3 := Lib.hid (HOA.out.keep hg3)
        have hne : nb ≠ ob := by have := HOA.out.lt; omega
        have HA := Lib.hid (fadd_ok w3 ob nb S.n S.n S.n out bo HOL.out HBL.out hn9 HO3.out hn3 hne)
        clear hn3 hlo3 hg3 HC hwa p0 p1 p2 p3 p4 pl
        go_wp2_with fail
        refine HA.out.mono ?_
        rintro e w4 ⟨rfl, ho4, hb4⟩
        have HO4 := Lib.hid ho4
        have HG4 := Lib.hid (But.grewFrom HG3.out hb4 HLO.out)
        clear ho4 hb4 HA hne
        cases eb
        · go_wp2_with fail
          refine ⟨⟨j + 1, orB out bo, bm, rfl, by go_num, by omega, orB_len HOL.out HBL.out, HO4.out, HG4.out, by have := HE2.out; rw [Bool.false_or] at this; exact this⟩, by simp [intOf]; omega⟩
        · go_wp2_with fail
          refine ⟨⟨j + 1, orB out bo, true, rfl, by go_num, by omega, orB_len HOL.out HBL.out, HO4.out, HG4.out, by have := HE2.out; rw [Bool.true_or] at this; exact this⟩, by simp [intOf]; omega⟩
      · obtain rfl : j = L := by omega
        have := HE.out
        rw [← HL.out, List.drop_length, FS.alts] at this
        have HE2 := Lib.hid this
        clear this
        go_wp2_with fail
        go_ret2
        rw [HRR.out, ← HE2.out]
        exact ⟨_, rfl, _, rfl, HO.out, HLO.out, HG.out⟩
  have q0 : (k == 0) = false := beq_eq_false_iff_ne.2 k0
  by_cases k2 : k = 2
  · subst k2
    obtain ⟨e0, he0⟩ : ∃ e0 : Bool, e0 = true := ⟨_, rfl⟩
    have HR := Lib.hid (show S.alts subs S.none e0 = R by rw [he0, ← hR]; rfl)
    subst he0
    clear hR
    obtain ⟨L, hL⟩ : ∃ L, subs.length = L := ⟨_, rfl⟩
    have HL := Lib.hid hL
    rw [hL] at n4 h8'
    clear hL
    go_wp2_with fail
    clear n0 n1 n4 nl
    go_loopw [5, 82] (fun v c wr => ∃ (j : Nat) (out : List Bool) (eb : Bool), v = .bool eb ∧ c = .int .i64 j ∧ j ≤ L ∧ Hid (out.length = S.n) ∧ Hid (Owns wr ob (fbs out) 4) ∧ Hid (Grew wz wr) ∧ Hid (S.alts (subs.drop j) out eb = R)) (fun _ c _ => L - (intOf c).toNat)
    case atStart => exact ⟨0, S.none, _, rfl, rfl, by omega, S.none_len, HO2.out, HG2.out, HR.out⟩
    case round =>
      obtain ⟨j, out, eb, rfl, rfl, hj, HOL, HO, HG, HE⟩ := hrel
      by_cases hlt : j < L
      · as_aux_lemma =>
        have hlt' : j < subs.length := by rw [HL.out]; exact hlt
        obtain ⟨b, off, rfl, hb, hnode⟩ := (H9.out.keep HG.out).get hlt'
        simp only [Nat.zero_add] at hnode
        obtain ⟨u0, u1, u2, u3, u4, e0, e1, e2, e3, e4, hnode⟩ := hnode.vals
        obtain ⟨m0, m1, m2, m3, m4, m5, m6, m7, m8, rfl, rfl, rfl, rfl, rfl⟩ := hnode.forms
        have hb' := Nat.lt_of_lt_of_le hb HG.out.size
        obtain ⟨wa, hwa⟩ : ∃ wa, wr.alloc (.cells #[.int .u8 m0, .string m1, .string m2, .slice m3 m4 m5, .slice m6 m7 m8] 26) = wa := ⟨_, rfl⟩
        have ga : Grew wr wa := hwa ▸ grew_alloc wr _
        have HGA := Lib.hid (HG.out.trans ga)
        have HOA := Lib.hid (HO.out.keep ga)
        have oa : Owns wa wr.heap.size [.int .u8 m0, .string m1, .string m2, .slice m3 m4 m5, .slice m6 m7 m8] 26 := hwa ▸ Owns.alloc wr _ _
        have HC := Lib.hid (HIH.out j hlt' wa _ _ _ _ _ (HS.out.keep HGA.out) (((hnode.mono HG.out.size).keep ga).mono ga.size))
        have HDR := Lib.hid (show subs.drop j = subs[j] :: subs.drop (j + 1) from List.drop_eq_getElem_cons hlt')
        have HBL := Lib.hid (begin_len HW.out subs[j])
        have p0 := oa.cell_at (i := 0) rfl
        have p1 := oa.cell_at (i := 1) rfl
        have p2 := oa.cell_at (i := 2) rfl
        have p3 := oa.cell_at (i := 3) rfl
        have p4 := oa.cell_at (i := 4) rfl
        have pl := oa.lt
        clear hnode ga oa hb
        obtain ⟨bo, bm, hbe⟩ : ∃ bo bm, S.begin subs[j] = (bo, bm) := ⟨_, _, rfl⟩
        rw [hbe] at HC HBL
        have hE2 := HE.out
        rw [HDR.out, FS.alts, hbe] at hE2
        have HE2 := Lib.hid (show S.alts (subs.drop (j + 1)) (orB out bo) (eb || bm) = R from hE2)
        clear hbe hE2 HDR
        go_wp2_with fail
        refine HC.out.mono ?_
        rintro e w3 ⟨v, rfl, nb, rfl, hn3, hlo3, hg3⟩
        have HG3 := Lib.hid (HGA.out.trans hg3)
        have HO3 := Lib.hid (HOA.out.keep hg3)
        have hne : nb ≠ ob := by have := HOA.out.lt; omega
        have HA := Lib.hid (fadd_ok w3 ob nb S.n S.n S.n out bo HOL.out HBL.out hn9 HO3.out hn3 hne)
        clear hn3 hlo3 hg3 HC hwa p0 p1 p2 p3 p4 pl
        go_wp2_with fail
        refine HA.out.mono ?_
        rintro e w4 ⟨rfl, ho4, hb4⟩
        have HO4 := Lib.hid ho4
        have HG4 := Lib.hid (But.grewFrom HG3.out hb4 HLO.out)
        clear ho4 hb4 HA hne
        cases eb
        · go_wp2_with fail
          refine ⟨⟨j + 1, orB out bo, bm, rfl, by go_num, by omega, orB_len HOL.out HBL.out, HO4.out, HG4.out, by have := HE2.out; rw [Bool.false_or] at this; exact this⟩, by simp [intOf]; omega⟩
        · go_wp2_with fail
          refine ⟨⟨j + 1, orB out bo, true, rfl, by go_num, by omega, orB_len HOL.out HBL.out, HO4.out, HG4.out, by have := HE2.out; rw [Bool.true_or] at this; exact this⟩, by simp [intOf]; omega⟩
      · obtain rfl : j = L := by omega
        have := HE.out
        rw [← HL.out, List.drop_length, FS.alts] at this
        have HE2 := Lib.hid this
        clear this
        go_wp2_with fail
        go_ret2
        rw [HRR.out, ← HE2.out]
        exact ⟨_, rfl, _, rfl, HO.out, HLO.out, HG.out⟩
  have q2 : (k == 2) = false := beq_eq_false_iff_ne.2 k2
  by_cases k3 : k = 3
  · subst k3
    obtain ⟨e0, he0⟩ : ∃ e0 : Bool, e0 = true := ⟨_, rfl⟩
    have HR := Lib.hid (show S.alts subs S.none e0 = R by rw [he0, ← hR]; rfl)
    subst he0
    clear hR
    obtain ⟨L, hL⟩ : ∃ L, subs.length = L := ⟨_, rfl⟩
    have HL := Lib.hid hL
    rw [hL] at n4 h8'
    clear hL
    go_wp2_with fail
    clear n0 n1 n4 nl
    go_loopw [5, 82] (fun v c wr => ∃ (j : Nat) (out : List Bool) (eb : Bool), v = .bool eb ∧ c = .int .i64 j ∧ j ≤ L ∧ Hid (out.length = S.n) ∧ Hid (Owns wr ob (fbs out) 4) ∧ Hid (Grew wz wr) ∧ Hid (S.alts (subs.drop j) out eb = R)) (fun _ c _ => L - (intOf c).toNat)
    case atStart => exact ⟨0, S.none, _, rfl, rfl, by omega, S.none_len, HO2.out, HG2.out, HR.out⟩
    case round =>
      obtain ⟨j, out, eb, rfl, rfl, hj, HOL, HO, HG, HE⟩ := hrel
      by_cases hlt : j < L
      · as_aux_lemma =>
        have hlt' : j < subs.length := by rw [HL.out]; exact hlt
        obtain ⟨b, off, rfl, hb, hnode⟩ := (H9.out.keep HG.out).get hlt'
        simp only [Nat.zero_add] at hnode
        obtain ⟨u0, u1, u2, u3, u4, e0, e1, e2, e3, e4, hnode⟩ := hnode.vals
        obtain ⟨m0, m1, m2, m3, m4, m5, m6, m7, m8, rfl, rfl, rfl, rfl, rfl⟩ := hnode.forms
        have hb' := Nat.lt_of_lt_of_le hb HG.out.size
        obtain ⟨wa, hwa⟩ : ∃ wa, wr.alloc (.cells #[.int .u8 m0, .string m1, .string m2, .slice m3 m4 m5, .slice m6 m7 m8] 26) = wa := ⟨_, rfl⟩
        have ga : Grew wr wa := hwa ▸ grew_alloc wr _
        have HGA := Lib.hid (HG.out.trans ga)
        have HOA := Lib.hid (HO.out.keep ga)
        have oa : Owns wa wr.heap.size [.int .u8 m0, .string m1, .string m2, .slice m3 m4 m5, .slice m6 m7 m8] 26 := hwa ▸ Owns.alloc wr _ _
        have HC := Lib.hid (HIH.out j hlt' wa _ _ _ _ _ (HS.out.keep HGA.out) (((hnode.mono HG.out.size).keep ga).mono ga.size))
        have HDR := Lib.hid (show subs.drop j = subs[j] :: subs.drop (j + 1) from List.drop_eq_getElem_cons hlt')
        have HBL := Lib.hid (begin_len HW.out subs[j])
        have p0 := oa.cell_at (i := 0) rfl
        have p1 := oa.cell_at (i := 1) rfl
        have p2 := oa.cell_at (i := 2) rfl
        have p3 := oa.cell_at (i := 3) rfl
        have p4 := oa.cell_at (i := 4) rfl
        have pl := oa.lt
        clear hnode ga oa hb
        obtain ⟨bo, bm, hbe⟩ : ∃ bo bm, S.begin subs[j] = (bo, bm) := ⟨_, _, rfl⟩
        rw [hbe] at HC HBL
        have hE2 := HE.out
        rw [HDR.out, FS.alts, hbe] at hE2
        have HE2 := Lib.hid (show S.alts (subs.drop (j + 1)) (orB out bo) (eb || bm) = R from hE2)
        clear hbe hE2 HDR
        go_wp2_with fail
        refine HC.out.mono ?_
        rintro e w3 ⟨v, rfl, nb, rfl, hn3, hlo3, hg3⟩
        have HG3 := Lib.hid (HGA.out.trans hg3)
        have HO3 := Lib.hid (HOA.out.keep hg3)
        have hne : nb ≠ ob := by have := HOA.out.lt; omega
        have HA := Lib.hid (fadd_ok w3 ob nb S.n S.n S.n out bo HOL.out HBL.out hn9 HO3.out hn3 hne)
        clear hn3 hlo3 hg3 HC hwa p0 p1 p2 p3 p4 pl
        go_wp2_with fail
        refine HA.out.mono ?_
        rintro e w4 ⟨rfl, ho4, hb4⟩
        have HO4 := Lib.hid ho4
        have HG4 := Lib.hid (But.grewFrom HG3.out hb4 HLO.out)
        clear ho4 hb4 HA hne
        cases eb
        · go_wp2_with fail
          refine ⟨⟨j + 1, orB out bo, bm, rfl, by go_num, by omega, orB_len HOL.out HBL.out, HO4.out, HG4.out, by have := HE2.out; rw [Bool.false_or] at this; exact this⟩, by simp [intOf]; omega⟩
        · go_wp2_with fail
          refine ⟨⟨j + 1, orB out bo, true, rfl, by go_num, by omega, orB_len HOL.out HBL.out, HO4.out, HG4.out, by have := HE2.out; rw [Bool.true_or] at this; exact this⟩, by simp [intOf]; omega⟩
      · obtain rfl : j = L := by omega
        have := HE.out
        rw [← HL.out, List.drop_length, FS.alts] at this
        have HE2 := Lib.hid this
        clear this
        go_wp2_with fail
        go_ret2
        rw [HRR.out, ← HE2.out]
        exact ⟨_, rfl, _, rfl, HO.out, HLO.out, HG.out⟩
  have q3 : (k == 3) = false := beq_eq_false_iff_ne.2 k3
  by_cases k4 : k = 4
  · subst k4
    obtain ⟨e0, he0⟩ : ∃ e0 : Bool, e0 = false := ⟨_, rfl⟩
    have HR := Lib.hid (show S.alts subs S.none e0 = R by rw [he0, ← hR]; rfl)
    subst he0
    clear hR
    obtain ⟨L, hL⟩ : ∃ L, subs.length = L := ⟨_, rfl⟩
    have HL := Lib.hid hL
    rw [hL] at n4 h8'
    clear hL
    go_wp2_with fail
    clear n0 n1 n4 nl
    go_loopw [5, 82] (fun v c wr => ∃ (j : Nat) (out : List Bool) (eb : Bool), v = .bool eb ∧ c = .int .i64 j ∧ j ≤ L ∧ Hid (out.length = S.n) ∧ Hid (Owns wr ob (fbs out) 4) ∧ Hid (Grew wz wr) ∧ Hid (S.alts (subs.drop j) out eb = R)) (fun _ c _ => L - (intOf c).toNat)
    case atStart => exact ⟨0, S.none, _, rfl, rfl, by omega, S.none_len, HO2.out, HG2.out, HR.out⟩
    case round =>
      obtain ⟨j, out, eb, rfl, rfl, hj, HOL, HO, HG, HE⟩ := hrel
      by_cases hlt : j < L
      · as_aux_lemma =>
        have hlt' : j < subs.length := by rw [HL.out]; exact hlt
        obtain ⟨b, off, rfl, hb, hnode⟩ := (H9.out.keep HG.out).get hlt'
        simp only [Nat.zero_add] at hnode
        obtain ⟨u0, u1, u2, u3, u4, e0, e1, e2, e3, e4, hnode⟩ := hnode.vals
        obtain ⟨m0, m1, m2, m3, m4, m5, m6, m7, m8, rfl, rfl, rfl, rfl, rfl⟩ := hnode.forms
        have hb' := Nat.lt_of_lt_of_le hb HG.out.size
        obtain ⟨wa, hwa⟩ : ∃ wa, wr.alloc (.cells #[.int .u8 m0, .string m1, .string m2, .slice m3 m4 m5, .slice m6 m7 m8] 26) = wa := ⟨_, rfl⟩
        have ga : Grew wr wa := hwa ▸ grew_alloc wr _
        have HGA := Lib.hid (HG.out.trans ga)
        have HOA := Lib.hid (HO.out.keep ga)
        have oa : Owns wa wr.heap.size [.int .u8 m0, .string m1, .string m2, .slice m3 m4 m5, .slice m6 m7 m8] 26 := hwa ▸ Owns.alloc wr _ _
        have HC := Lib.hid (HIH.out j hlt' wa _ _ _ _ _ (HS.out.keep HGA.out) (((hnode.mono HG.out.size).keep ga).mono ga.size))
        have HDR := Lib.hid (show subs.drop j = subs[j] :: subs.drop (j + 1) from List.drop_eq_getElem_cons hlt')
        have HBL := Lib.hid (begin_len HW.out subs[j])
        have p0 := oa.cell_at (i := 0) rfl
        have p1 := oa.cell_at (i := 1) rfl
        have p2 := oa.cell_at (i := 2) rfl
        have p3 := oa.cell_at (i := 3) rfl
        have p4 := oa.cell_at (i := 4) rfl
        have pl := oa.lt
        clear hnode ga oa hb
        obtain ⟨bo, bm, hbe⟩ : ∃ bo bm, S.begin subs[j] = (bo, bm) := ⟨_, _, rfl⟩
        rw [hbe] at HC HBL
        have hE2 := HE.out
        rw [HDR.out, FS.alts, hbe] at hE2
        have HE2 := Lib.hid (show S.alts (subs.drop (j + 1)) (orB out bo) (eb || bm) = R from hE2)
        clear hbe hE2 HDR
        go_wp2_with fail
        refine HC.out.mono ?_
        rintro e w3 ⟨v, rfl, nb, rfl, hn3, hlo3, hg3⟩
        have HG3 := Lib.hid (HGA.out.trans hg3)
        have HO3 := Lib.hid (HOA.out.keep hg3)
        have hne : nb ≠ ob := by have := HOA.out.lt; omega
        have HA := Lib.hid (fadd_ok w3 ob nb S.n S.n S.n out bo HOL.out HBL.out hn9 HO3.out hn3 hne)
        clear hn3 hlo3 hg3 HC hwa p0 p1 p2 p3 p4 pl
        go_wp2_with fail
        refine HA.out.mono ?_
        rintro e w4 ⟨rfl, ho4, hb4⟩
        have HO4 := Lib.hid ho4
        have HG4 := Lib.hid (But.grewFrom HG3.out hb4 HLO.out)
        clear ho4 hb4 HA hne
        cases eb
        · go_wp2_with fail
          refine ⟨⟨j + 1, orB out bo, bm, rfl, by go_num, by omega, orB_len HOL.out HBL.out, HO4.out, HG4.out, by have := HE2.out; rw [Bool.false_or] at this; exact this⟩, by simp [intOf]; omega⟩
        · go_wp2_with fail
          refine ⟨⟨j + 1, orB out bo, true, rfl, by go_num, by omega, orB_len HOL.out HBL.out, HO4.out, HG4.out, by have := HE2.out; rw [Bool.true_or] at this; exact this⟩, by simp [intOf]; omega⟩
      · obtain rfl : j = L := by omega
        have := HE.out
        rw [← HL.out, List.drop_length, FS.alts] at this
        have HE2 := Lib.hid this
        clear this
        go_wp2_with fail
        go_ret2
        rw [HRR.out, ← HE2.out]
        exact ⟨_, rfl, _, rfl, HO.out, HLO.out, HG.out⟩
  have q4 : (k == 4) = false := beq_eq_false_iff_ne.2 k4
  rw [if_neg (by omega)] at hR
  have HR := Lib.hid hR
  clear hR k1 k5 k6 k7 k0 k2 k3 k4
  go_wp2_with fail
  go_ret2
  rw [HRR.out, ← HR.out]
  exact ⟨_, rfl, _, rfl, HO2.out, HLO.out, HG2.out⟩
end Go.Proofs.Ytldoinfbimelpaa
