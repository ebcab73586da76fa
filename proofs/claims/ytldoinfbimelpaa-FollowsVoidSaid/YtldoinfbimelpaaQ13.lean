/- follows: spread. -/
import Derived.Test.YtldoinfbimelpaaQ12
namespace Go.Proofs.Ytldoinfbimelpaa
open Go.RowKit

def FolB (V : FV) (S : FS) (k : Nat) : Prop := ∃ i r, S.at i = some r ∧ k = V.gk i
theorem FolB.kin {V : FV} {S S' : FS} (h : Kin S S') {k : Nat} (hk : FolB V S' k) : FolB V S k := by
  obtain ⟨i, r, hi, rfl⟩ := hk
  obtain ⟨r0, h0, -⟩ := h.some hi
  exact ⟨i, r0, h0, rfl⟩
theorem FolB.of {V : FV} {S : FS} {i : Nat} {r : FR} (h : S.at i = some r) : FolB V S (V.gk i) := ⟨i, r, h, rfl⟩
/-- what may come behind, in memory -/
def AftAt (w : World) (V : FV) (S : FS) (v : Value) : Aft → Prop
  | .own l => ∃ b, v = .slice (some ⟨b, 0, none⟩) S.n S.n ∧ Owns w b (fbs l) 4 ∧ l.length = S.n ∧ ¬ FolB V S b
  | .ref k => (∃ r, S.at k = some r) ∧ v = .slice (some ⟨V.gk k, 0, none⟩) S.n S.n
theorem Kin.at_some {S S' : FS} (h : Kin S S') {i : Nat} {r : FR} (hi : S.at i = Option.some r) : ∃ r', S'.at i = Option.some r' := by
  have := h.body i
  rw [hi] at this
  cases hr : S'.at i with
  | none => rw [hr] at this; cases this
  | some r' => exact ⟨r', rfl⟩
theorem AftAt.keep {w w' : World} {V : FV} {S S' : FS} {v : Value} {a : Aft} (h : AftAt w V S v a) (hk : Kin S S') (hb : But (FolB V S) w w') : AftAt w' V S' v a := by
  cases a with
  | own l =>
    obtain ⟨b, h1, h2, h3, h4⟩ := h
    exact ⟨b, by rw [hk.n]; exact h1, hb.owns h2 h4, by rw [hk.n]; exact h3, fun hf => h4 (hf.kin hk)⟩
  | ref k =>
    obtain ⟨⟨r, h1⟩, h2⟩ := h
    exact ⟨hk.at_some h1, by rw [hk.n]; exact h2⟩
theorem AftAt.block {w : World} {V : FV} {S : FS} {v : Value} {a : Aft} (h : AftAt w V S v a) (hw : S.Wf) (hS : SetsAt w V S) : ∃ b, v = .slice (some ⟨b, 0, none⟩) S.n S.n ∧ Owns w b (fbs (a.val S)) 4 ∧ (a.val S).length = S.n := by
  cases a with
  | own l =>
    obtain ⟨b, h1, h2, h3, h4⟩ := h
    exact ⟨b, h1, h2, h3⟩
  | ref k =>
    obtain ⟨⟨r, h1⟩, h2⟩ := h
    have hf : (Aft.ref k).val S = r.follow := by show S.fol k = _; unfold FS.fol; rw [h1]
    exact ⟨V.gk k, h2, by rw [hf]; exact (hS.rule k r h1).2.2.1, by rw [hf]; exact (hw.first k r h1).2⟩
def SpIs (V : FV) (S : FS) (p : Bool × FS) (w : World) (e : Ending) (w' : World) : Prop := e = .returned (.bool p.1) ∧ SetsAt w' V p.2 ∧ p.2.Wf ∧ Kin S p.2 ∧ But (FolB V S) w w'
def SpOk (V : FV) (n : Nd) : Prop := ∀ (S : FS) (a : Aft) (w : World) (lim : Nat) (v0 v1 v2 v3 v4 va : Value), S.Wf → V.Inj S → SetsAt w V S → lim ≤ w.heap.size → (∀ k, FolB V S k → lim ≤ k) →
  NodeAt w lim (some v0) (some v1) (some v2) (some v3) (some v4) n → FitAt w lim (some v4) n → AftAt w V S va a →
  Calls Try.prog 41 #[.pointer (some ⟨V.sb, 0, none⟩), .agg #[v0, v1, v2, v3, v4], va] w (SpIs V S (FS.spread n a S) w)

set_option maxHeartbeats 4000000 in
set_option maxRecDepth 20000 in
theorem fspread_ok (V : FV) : ∀ n, SpOk V n := by
  refine Nd.ind ?_
  intro k nm tx set subs ih S a wz lim v0 v1 v2 v3 v4 va hw hI h hlim hfl hN hF hA
  rw [NodeAt] at hN
  rw [FitAt] at hF
  obtain ⟨hk, h1, h2, h3, h4, h5, ⟨sa, sc, h6, h6', h7⟩, na, nc, h8, h8', h9⟩ := hN
  obtain rfl := Option.some.inj h3
  obtain rfl := Option.some.inj h4
  obtain rfl := Option.some.inj h5
  obtain rfl := Option.some.inj h6
  obtain rfl := Option.some.inj h8
  obtain ⟨na', nc', f1, f2, f3⟩ := hF
  have f1 := Option.some.inj f1
  injection f1 with fa fb fc
  subst fa fc
  clear h3 h4 h5 h6 h7 h8 fb
  obtain ⟨w2, hw1⟩ : ∃ w1, wz.alloc (.cells #[.int .u8 k, .string nm, .string tx, .slice sa set.length sc, .slice na subs.length nc] 26) = w1 := ⟨_, rfl⟩
  have g1 : Grew wz w2 := hw1 ▸ grew_alloc wz _
  have hon : Owns w2 wz.heap.size [.int .u8 k, .string nm, .string tx, .slice sa set.length sc, .slice na subs.length nc] 26 := hw1 ▸ Owns.alloc wz _ _
  have HS2 := Lib.hid (h.keep g1)
  have HW := Lib.hid hw
  have HI := Lib.hid hI
  have HG2 := Lib.hid g1
  have HFL := Lib.hid hfl
  have HLM := Lib.hid hlim
  have HB2 := Lib.hid (But.of_grew (F := FolB V S) g1)
  have HA2 := Lib.hid (hA.keep (Kin.refl S) HB2.out)
  have HAZ := Lib.hid hA
  have H9 := Lib.hid h9
  have H3 := Lib.hid f3
  have HCAP := Lib.hid f2
  have HIH : Hid (∀ j (h : j < subs.length), SpOk V subs[j]) := ih
  have hn9 := hw.n
  have hnf : ¬ FolB V S wz.heap.size := by
    rintro ⟨i, r, hi, e⟩
    have := (h.rule i r hi).2.2.1.lt
    omega
  have HNF := Lib.hid hnf
  have n0 := hon.cell_at (i := 0) rfl
  have n1 := hon.cell_at (i := 1) rfl
  have n4 := hon.cell_at (i := 4) rfl
  have nl := hon.lt
  have HON := Lib.hid hon
  obtain ⟨ab, hva, -, -⟩ := hA.block hw h
  clear h hw hI g1 h9 ih hon hA hfl hlim f2 f3 hnf
  unfold reachN at h1 h2 h6' h8'
  obtain ⟨R, hR⟩ : ∃ R, FS.spread (.mk k nm tx set subs) a S = R := ⟨_, rfl⟩
  have HRR := Lib.hid hR
  have HFIN : Hid (∀ (p : Bool × FS) w', p = R → SetsAt w' V p.2 → p.2.Wf → Kin S p.2 → But (FolB V S) wz w' → SpIs V S (FS.spread (.mk k nm tx set subs) a S) wz (.returned (.bool p.1)) w') := fun p w' hx q1 q2 q3 q4 => by rw [HRR.out, ← hx]; exact ⟨rfl, q1, q2, q3, q4⟩
  rw [FS.spread] at hR
  subst hva
  go_enter Try.func41, Try.ntmps41
  by_cases k5 : k = 5
  · subst k5
    simp only [if_true] at hR
    have HNM := Lib.hid (fnamed_ok nm w2 V S HW.out HS2.out)
    rcases ix_cases S nm with ⟨hi, -⟩ | ⟨i, r, hi, ha, -⟩
    · rw [hi] at HNM hR
      have HR := Lib.hid hR
      clear hR hi
      go_wp2_with fail
      refine HNM.out.mono ?_
      rintro e w3 ⟨rfl, rfl⟩
      simp only [Option.map_none]
      go_wp2_with fail
      go_ret
      exact HFIN.out _ _ HR.out HS2.out HW.out (Kin.refl S) HB2.out
    · rw [hi] at HNM hR
      obtain ⟨r1, r2, r3, r4⟩ := HS2.out.rule i r ha
      have hfo : S.fol i = r.follow := by unfold FS.fol; rw [ha]
      have hfl := (HW.out.first i r ha).2
      have hbv : ∃ b0 b1 b2 b3 b4, V.bv i = [b0, b1, b2, b3, b4] := by
        match V.bv i, r4 with
        | [b0, b1, b2, b3, b4], _ => exact ⟨_, _, _, _, _, rfl⟩
      obtain ⟨b0, b1, b2, b3, b4, hb⟩ := hbv
      unfold FV.rcs at r1
      rw [hb] at r1
      have f7 := r1.cell_at (i := 7) rfl
      have fl := r1.lt
      have HR := Lib.hid (show (moreB (S.fol i) (a.val S), S.setFol i (orB (S.fol i) (a.val S))) = R from hR)
      obtain ⟨ab', hab, hao, hal⟩ := HA2.out.block HW.out HS2.out
      injection hab with hab1 _ _
      injection hab1 with hab2
      injection hab2 with hab3 _ _
      subst hab3
      have hgo : But (fun k => k = V.gk i) w2 w2 := But.refl _ _
      have HADD : Hid (Calls Try.prog 33 #[.slice (some ⟨V.gk i, 0, none⟩) S.n S.n, .slice (some ⟨ab, 0, none⟩) S.n S.n] w2 fun e w' => e = .returned (.bool (moreB (S.fol i) (a.val S))) ∧ Owns w' (V.gk i) (fbs (orB (S.fol i) (a.val S))) 4 ∧ But (fun k => k = V.gk i) w2 w') := by
        by_cases hab : ab = V.gk i
        · have hself : a.val S = S.fol i := by
            cases a with
            | own l =>
              obtain ⟨b', h1, -, -, h4⟩ := HA2.out
              injection h1 with h5 _ _
              injection h5 with h6
              injection h6 with h7 _ _
              exact absurd (FolB.of ha) (by rw [← hab, h7]; exact h4)
            | ref k =>
              obtain ⟨⟨r', h1⟩, h2⟩ := HA2.out
              injection h2 with h5 _ _
              injection h5 with h6
              injection h6 with h7 _ _
              by_cases e : k = i
              · rw [e]; rfl
              · exact absurd (h7.symm.trans hab) ((HI.out k i r' r h1 ha).1 e).1
          rw [hself, moreB_self, orB_self, hfo]
          rw [hab]
          refine (fadd_self w2 (V.gk i) S.n S.n S.n r.follow hfl hn9 r3).mono ?_
          rintro e w' ⟨he, hg⟩
          exact ⟨he, r3.keep hg, But.of_grew hg⟩
        · rw [hfo]
          exact fadd_ok w2 (V.gk i) ab S.n S.n S.n r.follow (a.val S) hfl hal hn9 r3 hao hab
      have HLEN := Lib.hid (orB_len (by rw [hfo]; exact hfl : (S.fol i).length = S.n) hal)
      have HAT := Lib.hid ha
      clear hR hi r1 r2 r3 r4 hb ha hao hal hfl hfo hgo
      go_wp2_with fail
      refine HNM.out.mono ?_
      rintro e w3 ⟨rfl, rfl⟩
      simp only [Option.map_some]
      go_wp2_with fail
      refine HADD.out.mono ?_
      rintro e w4 ⟨rfl, ho4, hb4⟩
      have HO4 := Lib.hid ho4
      have HB4 := Lib.hid hb4
      clear ho4 hb4
      go_wp2_with fail
      go_ret
      refine HFIN.out _ _ HR.out (HS2.out.setFol HI.out HAT.out HB4.out HO4.out) (HW.out.setFol i HLEN.out) (Kin.mod S i _ fun _ => rfl) ?_
      exact HB2.out.trans HB4.out (fun q _ e => by rw [show q = V.gk i from e]; exact FolB.of HAT.out)
  rw [if_neg k5] at hR
  have q5 : (k == 5) = false := beq_eq_false_iff_ne.2 k5
  by_cases k1 : k = 1
  · subst k1
    have HR := Lib.hid (show FS.spRow subs a S false = R by rw [← hR]; rfl)
    clear hR
    obtain ⟨L, hL⟩ : ∃ L, subs.length = L := ⟨_, rfl⟩
    have HL := Lib.hid hL
    rw [hL] at n4 h8' HON HCAP
    clear hL
    have hcap := HCAP.out
    go_wp2_with fail
    clear n0 n1 n4 nl
    go_loopw [6, 41] (fun v c wr => ∃ (j : Nat) (Sj : FS) (mj : Bool), v = .bool mj ∧ c = .int .i64 j ∧ j ≤ L ∧ Hid (SetsAt wr V Sj) ∧ Hid Sj.Wf ∧ Hid (Kin S Sj) ∧ Hid (But (FolB V S) wz wr) ∧ Hid (Owns wr wz.heap.size [.int .u8 1, .string nm, .string tx, .slice sa set.length sc, .slice na L nc] 26) ∧ Hid (FS.spRow (subs.drop j) a Sj mj = R)) (fun _ c _ => L - (intOf c).toNat)
    case atStart => exact ⟨0, S, false, rfl, rfl, by omega, HS2.out, HW.out, Kin.refl S, HB2.out, HON.out, HR.out⟩
    case round =>
      obtain ⟨j, Sj, mj, rfl, rfl, hj, HSJ, HWJ, HKJ, HBJ, HOJ, HE⟩ := hrel
      by_cases hlt : j < L
      · as_aux_lemma =>
        have hlt' : j < subs.length := by rw [HL.out]; exact hlt
        have hbl : Below lim wz wr := HBJ.out.below HLM.out HFL.out
        have hsub := (show NodesAt wr lim na 0 subs from H9.out.keep hbl)
        have hfits := (show FitsAt wr lim na 0 subs from H3.out.keep hbl)
        obtain ⟨b, off, rfl, hb, hnode⟩ := hsub.get hlt'
        obtain ⟨b', off', hbo, hfit⟩ := hfits.get hlt'
        cases hbo
        simp only [Nat.zero_add] at hnode hfit
        obtain ⟨u0, u1, u2, u3, u4, e0, e1, e2, e3, e4, hnode⟩ := hnode.vals
        rw [e4] at hfit
        obtain ⟨m0, m1, m2, m3, m4, m5, m6, m7, m8, rfl, rfl, rfl, rfl, rfl⟩ := hnode.forms
        have hlw : lim ≤ wr.heap.size := Nat.le_trans HLM.out hbl.size
        have hb' := Nat.lt_of_lt_of_le hb hlw
        obtain ⟨wa, hwa⟩ : ∃ wa, wr.alloc (.cells #[.int .u8 m0, .string m1, .string m2, .slice m3 m4 m5, .slice m6 m7 m8] 26) = wa := ⟨_, rfl⟩
        have ga : Grew wr wa := hwa ▸ grew_alloc wr _
        have HGA := Lib.hid ga
        have oa : Owns wa wr.heap.size [.int .u8 m0, .string m1, .string m2, .slice m3 m4 m5, .slice m6 m7 m8] 26 := hwa ▸ Owns.alloc wr _ _
        have HOX := Lib.hid oa
        have q4 := (HOJ.out.keep ga).cell_at (i := 4) rfl
        have ql := (HOJ.out.keep ga).lt
        have hnn : Sj.n = S.n := HKJ.out.n
        have HNN := Lib.hid hnn
        have HSA := Lib.hid (HSJ.out.keep ga)
        have haft : AftAt wa V Sj (.slice (some ⟨ab, 0, none⟩) S.n S.n) a := (HAZ.out.keep HKJ.out HBJ.out).keep (Kin.refl Sj) (But.of_grew ga)
        have HAF := Lib.hid haft
        obtain ⟨ab', hab, hao, hal⟩ := haft.block HWJ.out HSA.out
        injection hab with hab1 hx1 hx2
        clear hx1 hx2
        injection hab1 with hab2
        injection hab2 with hab3 hx3 hx4
        clear hx3 hx4
        subst hab3
        rw [hnn] at hal
        have HAO := Lib.hid hao
        have HAL := Lib.hid hal
        have HND := Lib.hid (hnode.keep (ga.mono hlw))
        have HFT := Lib.hid (hfit.keep (ga.mono hlw))
        have HLW := Lib.hid (Nat.le_trans hlw ga.size)
        have HDR := Lib.hid (show subs.drop j = subs[j] :: subs.drop (j + 1) from List.drop_eq_getElem_cons hlt')
        have HSP := Lib.hid (HIH.out j hlt')
        have j1 : (0 : Int) ≤ (j : Int) + 1 := by omega
        have j2 : (j : Int) + 1 ≤ (L : Int) := by omega
        have j3 : (j : Int) + 1 ≤ (nc : Int) := by omega
        have hdl : (subs.drop (j + 1)).length = L - (j + 1) := by rw [List.length_drop, HL.out]
        have hrow : ∀ (ad : Option Addr) (cp : Nat), NodesAt wa wa.heap.size ad 0 (subs.drop (j + 1)) → Calls Try.prog 34 #[.pointer (some ⟨V.sb, 0, none⟩), .slice ad (L - (j + 1)) cp] wa (RB S.n (Sj.row (subs.drop (j + 1)) Sj.none) wa) := fun ad cp hn => by
          have := frow_ok V Sj HWJ.out (subs.drop (j + 1)) (fun i _ => fbegin_ok V Sj HWJ.out _) wa HSA.out ad cp (by rw [hdl]; unfold reachN; omega) hn
          rw [hdl, hnn] at this
          exact this
        have hrl : (Sj.row (subs.drop (j + 1)) Sj.none).1.length = S.n := by rw [← hnn]; exact row_len Sj _ (fun i _ => begin_len HWJ.out _) _ Sj.none_len
        have hn1 : NodesAt wa wa.heap.size (some ⟨b, off + (j + 1) * 5, none⟩) 0 (subs.drop (j + 1)) := ((hsub.keep (ga.mono hlw)).mono (Nat.le_trans hlw ga.size)).dropF (j + 1)
        have HN1 := Lib.hid hn1
        obtain ⟨bo, bm, hrw⟩ : ∃ bo bm, Sj.row (subs.drop (j + 1)) Sj.none = (bo, bm) := ⟨_, _, rfl⟩
        rw [hrw] at hrow hrl
        have HROW := Lib.hid hrow
        have HRL := Lib.hid (show bo.length = S.n from hrl)
        have HRW := Lib.hid hrw
        clear hrow hrl hn1 hrw hdl
        have p0 := oa.cell_at (i := 0) rfl
        have p1 := oa.cell_at (i := 1) rfl
        have p2 := oa.cell_at (i := 2) rfl
        have p3 := oa.cell_at (i := 3) rfl
        have p4 := oa.cell_at (i := 4) rfl
        have pl := oa.lt
        have hE2 := HE.out
        rw [HDR.out, FS.spRow] at hE2
        rw [HRW.out] at hE2
        have HEE := Lib.hid hE2
        have hdn : L ≤ j + 1 → subs.drop (j + 1) = [] := fun h => List.drop_eq_nil_of_le (by rw [HL.out]; exact h)
        have HDN := Lib.hid hdn
        clear hE2 hdn hsub hfits hnode hfit hbl ga oa hao hal haft hnn hlw
        by_cases hce : nc = j + 1
        · as_aux_lemma =>
          subst hce
          have hr0 := HROW.out
          rw [show L - (j + 1) = 0 by omega] at hr0
          have HROW := Lib.hid hr0
          clear hr0
          go_wp2_with fail
          refine (HROW.out _ _ (by rw [HDN.out (by omega), NodesAt]; trivial)).mono ?_
          rintro e w3 ⟨v, rfl, nb, rfl, hn3, hlo3, hg3⟩
          have HLO := Lib.hid hlo3
          have HG3 := Lib.hid hg3
          have HN3 := Lib.hid hn3
          clear hn3 hlo3 hg3 p0 p1 p2 p3 p4 pl q4 ql
          cases bm
          · have HE2 := Lib.hid (show FS.spRow (subs.drop (j + 1)) a (FS.spread subs[j] (.own bo) Sj).2 ((FS.spread subs[j] (.own bo) Sj).1 || mj) = R from HEE.out)
            have HG4 := HG3
            obtain ⟨w4, rfl⟩ : ∃ w4, w4 = w3 := ⟨_, rfl⟩
            have HO4 := Lib.hid (HOX.out.keep HG4.out)
            have x0 := HO4.out.cell_at (i := 0) rfl
            have x1 := HO4.out.cell_at (i := 1) rfl
            have x2 := HO4.out.cell_at (i := 2) rfl
            have x3 := HO4.out.cell_at (i := 3) rfl
            have x4 := HO4.out.cell_at (i := 4) rfl
            have xl := HO4.out.lt
            have HC := Lib.hid (HSP.out Sj (.own bo) w4 lim _ _ _ _ _ (.slice (some ⟨nb, 0, none⟩) S.n S.n) HWJ.out (HI.out.kin HKJ.out) (HSA.out.keep HG4.out) (Nat.le_trans HLW.out HG4.out.size) (fun q hq => HFL.out q (hq.kin HKJ.out)) (HND.out.keep (HG4.out.mono HLW.out)) (HFT.out.keep (HG4.out.mono HLW.out)) (⟨nb, by rw [HNN.out], HN3.out, by rw [HNN.out]; exact HRL.out, fun ⟨i, r, hi, e⟩ => by have h1 := (HSA.out.rule i r hi).2.2.1.lt; have h2 := HLO.out; omega⟩))
            obtain ⟨y, hy⟩ : ∃ y, FS.spread subs[j] (.own bo) Sj = y := ⟨_, rfl⟩
            rw [hy] at HC
            have HE3 := Lib.hid (show FS.spRow (subs.drop (j + 1)) a y.2 (y.1 || mj) = R by rw [← HE2.out, ← hy] <;> rfl)
            clear hy
            obtain ⟨y1, y2⟩ := y
            go_wp2_with fail
            refine HC.out.mono ?_
            rintro e w5 ⟨rfl, hs5, hw5, hk5, hb5⟩
            have HS5 := Lib.hid hs5
            have HW5 := Lib.hid hw5
            have HK5 := Lib.hid (HKJ.out.trans hk5)
            have HB5 := Lib.hid (HBJ.out.trans (But.trans (But.of_grew (F := FolB V S) (HGA.out.trans HG4.out)) hb5 (fun _ _ h => h.kin HKJ.out)) (fun _ _ h => h))
            have HO5 := Lib.hid (hb5.owns ((HOJ.out.keep HGA.out).keep HG4.out) (fun h => HNF.out (h.kin HKJ.out)))
            clear hs5 hw5 hk5 hb5 HC x0 x1 x2 x3 x4 xl
            cases y1
            · go_wp2_with fail
              refine ⟨⟨j + 1, y2, mj, rfl, by go_num, by omega, HS5.out, HW5.out, HK5.out, HB5.out, HO5.out, by have := HE3.out; rw [Bool.false_or] at this; exact this⟩, by simp [intOf]; omega⟩
            · go_wp2_with fail
              refine ⟨⟨j + 1, y2, true, rfl, by go_num, by omega, HS5.out, HW5.out, HK5.out, HB5.out, HO5.out, by have := HE3.out; rw [Bool.true_or] at this; exact this⟩, by simp [intOf]; omega⟩
          · have HE2 := Lib.hid (show FS.spRow (subs.drop (j + 1)) a (FS.spread subs[j] (.own (orB bo (a.val Sj))) Sj).2 ((FS.spread subs[j] (.own (orB bo (a.val Sj))) Sj).1 || mj) = R from HEE.out)
            have hne : ab ≠ nb := by have := HAO.out.lt; have := HLO.out; omega
            have HAD := Lib.hid (fadd_ok w3 nb ab S.n S.n S.n bo (a.val Sj) HRL.out HAL.out hn9 HN3.out (HAO.out.keep HG3.out) hne)
            have x0 := (HOX.out.keep HG3.out).cell_at (i := 0) rfl
            go_wp2_with fail
            clear x0
            refine HAD.out.mono ?_
            rintro e w4 ⟨rfl, hn4, hb4⟩
            have HN4 := Lib.hid hn4
            have HG4 := Lib.hid (But.grewFrom HG3.out hb4 HLO.out)
            clear hn4 hb4 HAD hne
            have HO4 := Lib.hid (HOX.out.keep HG4.out)
            have x0 := HO4.out.cell_at (i := 0) rfl
            have x1 := HO4.out.cell_at (i := 1) rfl
            have x2 := HO4.out.cell_at (i := 2) rfl
            have x3 := HO4.out.cell_at (i := 3) rfl
            have x4 := HO4.out.cell_at (i := 4) rfl
            have xl := HO4.out.lt
            have HC := Lib.hid (HSP.out Sj (.own (orB bo (a.val Sj))) w4 lim _ _ _ _ _ (.slice (some ⟨nb, 0, none⟩) S.n S.n) HWJ.out (HI.out.kin HKJ.out) (HSA.out.keep HG4.out) (Nat.le_trans HLW.out HG4.out.size) (fun q hq => HFL.out q (hq.kin HKJ.out)) (HND.out.keep (HG4.out.mono HLW.out)) (HFT.out.keep (HG4.out.mono HLW.out)) (⟨nb, by rw [HNN.out], HN4.out, by rw [HNN.out]; exact (orB_len HRL.out HAL.out), fun ⟨i, r, hi, e⟩ => by have h1 := (HSA.out.rule i r hi).2.2.1.lt; have h2 := HLO.out; omega⟩))
            obtain ⟨y, hy⟩ : ∃ y, FS.spread subs[j] (.own (orB bo (a.val Sj))) Sj = y := ⟨_, rfl⟩
            rw [hy] at HC
            have HE3 := Lib.hid (show FS.spRow (subs.drop (j + 1)) a y.2 (y.1 || mj) = R by rw [← HE2.out, ← hy] <;> rfl)
            clear hy
            obtain ⟨y1, y2⟩ := y
            go_wp2_with fail
            refine HC.out.mono ?_
            rintro e w5 ⟨rfl, hs5, hw5, hk5, hb5⟩
            have HS5 := Lib.hid hs5
            have HW5 := Lib.hid hw5
            have HK5 := Lib.hid (HKJ.out.trans hk5)
            have HB5 := Lib.hid (HBJ.out.trans (But.trans (But.of_grew (F := FolB V S) (HGA.out.trans HG4.out)) hb5 (fun _ _ h => h.kin HKJ.out)) (fun _ _ h => h))
            have HO5 := Lib.hid (hb5.owns ((HOJ.out.keep HGA.out).keep HG4.out) (fun h => HNF.out (h.kin HKJ.out)))
            clear hs5 hw5 hk5 hb5 HC x0 x1 x2 x3 x4 xl
            cases y1
            · go_wp2_with fail
              refine ⟨⟨j + 1, y2, mj, rfl, by go_num, by omega, HS5.out, HW5.out, HK5.out, HB5.out, HO5.out, by have := HE3.out; rw [Bool.false_or] at this; exact this⟩, by simp [intOf]; omega⟩
            · go_wp2_with fail
              refine ⟨⟨j + 1, y2, true, rfl, by go_num, by omega, HS5.out, HW5.out, HK5.out, HB5.out, HO5.out, by have := HE3.out; rw [Bool.true_or] at this; exact this⟩, by simp [intOf]; omega⟩
        · as_aux_lemma =>
          have hc1 : ¬ nc ≤ j + 1 := by omega
          have hc2 : ¬ nc - (j + 1) = 0 := by omega
          clear hce
          go_wp2_with fail
          refine (HROW.out _ _ (HN1.out)).mono ?_
          rintro e w3 ⟨v, rfl, nb, rfl, hn3, hlo3, hg3⟩
          have HLO := Lib.hid hlo3
          have HG3 := Lib.hid hg3
          have HN3 := Lib.hid hn3
          clear hn3 hlo3 hg3 p0 p1 p2 p3 p4 pl q4 ql
          cases bm
          · have HE2 := Lib.hid (show FS.spRow (subs.drop (j + 1)) a (FS.spread subs[j] (.own bo) Sj).2 ((FS.spread subs[j] (.own bo) Sj).1 || mj) = R from HEE.out)
            have HG4 := HG3
            obtain ⟨w4, rfl⟩ : ∃ w4, w4 = w3 := ⟨_, rfl⟩
            have HO4 := Lib.hid (HOX.out.keep HG4.out)
            have x0 := HO4.out.cell_at (i := 0) rfl
            have x1 := HO4.out.cell_at (i := 1) rfl
            have x2 := HO4.out.cell_at (i := 2) rfl
            have x3 := HO4.out.cell_at (i := 3) rfl
            have x4 := HO4.out.cell_at (i := 4) rfl
            have xl := HO4.out.lt
            have HC := Lib.hid (HSP.out Sj (.own bo) w4 lim _ _ _ _ _ (.slice (some ⟨nb, 0, none⟩) S.n S.n) HWJ.out (HI.out.kin HKJ.out) (HSA.out.keep HG4.out) (Nat.le_trans HLW.out HG4.out.size) (fun q hq => HFL.out q (hq.kin HKJ.out)) (HND.out.keep (HG4.out.mono HLW.out)) (HFT.out.keep (HG4.out.mono HLW.out)) (⟨nb, by rw [HNN.out], HN3.out, by rw [HNN.out]; exact HRL.out, fun ⟨i, r, hi, e⟩ => by have h1 := (HSA.out.rule i r hi).2.2.1.lt; have h2 := HLO.out; omega⟩))
            obtain ⟨y, hy⟩ : ∃ y, FS.spread subs[j] (.own bo) Sj = y := ⟨_, rfl⟩
            rw [hy] at HC
            have HE3 := Lib.hid (show FS.spRow (subs.drop (j + 1)) a y.2 (y.1 || mj) = R by rw [← HE2.out, ← hy] <;> rfl)
            clear hy
            obtain ⟨y1, y2⟩ := y
            go_wp2_with fail
            refine HC.out.mono ?_
            rintro e w5 ⟨rfl, hs5, hw5, hk5, hb5⟩
            have HS5 := Lib.hid hs5
            have HW5 := Lib.hid hw5
            have HK5 := Lib.hid (HKJ.out.trans hk5)
            have HB5 := Lib.hid (HBJ.out.trans (But.trans (But.of_grew (F := FolB V S) (HGA.out.trans HG4.out)) hb5 (fun _ _ h => h.kin HKJ.out)) (fun _ _ h => h))
            have HO5 := Lib.hid (hb5.owns ((HOJ.out.keep HGA.out).keep HG4.out) (fun h => HNF.out (h.kin HKJ.out)))
            clear hs5 hw5 hk5 hb5 HC x0 x1 x2 x3 x4 xl
            cases y1
            · go_wp2_with fail
              refine ⟨⟨j + 1, y2, mj, rfl, by go_num, by omega, HS5.out, HW5.out, HK5.out, HB5.out, HO5.out, by have := HE3.out; rw [Bool.false_or] at this; exact this⟩, by simp [intOf]; omega⟩
            · go_wp2_with fail
              refine ⟨⟨j + 1, y2, true, rfl, by go_num, by omega, HS5.out, HW5.out, HK5.out, HB5.out, HO5.out, by have := HE3.out; rw [Bool.true_or] at this; exact this⟩, by simp [intOf]; omega⟩
          · have HE2 := Lib.hid (show FS.spRow (subs.drop (j + 1)) a (FS.spread subs[j] (.own (orB bo (a.val Sj))) Sj).2 ((FS.spread subs[j] (.own (orB bo (a.val Sj))) Sj).1 || mj) = R from HEE.out)
            have hne : ab ≠ nb := by have := HAO.out.lt; have := HLO.out; omega
            have HAD := Lib.hid (fadd_ok w3 nb ab S.n S.n S.n bo (a.val Sj) HRL.out HAL.out hn9 HN3.out (HAO.out.keep HG3.out) hne)
            have x0 := (HOX.out.keep HG3.out).cell_at (i := 0) rfl
            go_wp2_with fail
            clear x0
            refine HAD.out.mono ?_
            rintro e w4 ⟨rfl, hn4, hb4⟩
            have HN4 := Lib.hid hn4
            have HG4 := Lib.hid (But.grewFrom HG3.out hb4 HLO.out)
            clear hn4 hb4 HAD hne
            have HO4 := Lib.hid (HOX.out.keep HG4.out)
            have x0 := HO4.out.cell_at (i := 0) rfl
            have x1 := HO4.out.cell_at (i := 1) rfl
            have x2 := HO4.out.cell_at (i := 2) rfl
            have x3 := HO4.out.cell_at (i := 3) rfl
            have x4 := HO4.out.cell_at (i := 4) rfl
            have xl := HO4.out.lt
            have HC := Lib.hid (HSP.out Sj (.own (orB bo (a.val Sj))) w4 lim _ _ _ _ _ (.slice (some ⟨nb, 0, none⟩) S.n S.n) HWJ.out (HI.out.kin HKJ.out) (HSA.out.keep HG4.out) (Nat.le_trans HLW.out HG4.out.size) (fun q hq => HFL.out q (hq.kin HKJ.out)) (HND.out.keep (HG4.out.mono HLW.out)) (HFT.out.keep (HG4.out.mono HLW.out)) (⟨nb, by rw [HNN.out], HN4.out, by rw [HNN.out]; exact (orB_len HRL.out HAL.out), fun ⟨i, r, hi, e⟩ => by have h1 := (HSA.out.rule i r hi).2.2.1.lt; have h2 := HLO.out; omega⟩))
            obtain ⟨y, hy⟩ : ∃ y, FS.spread subs[j] (.own (orB bo (a.val Sj))) Sj = y := ⟨_, rfl⟩
            rw [hy] at HC
            have HE3 := Lib.hid (show FS.spRow (subs.drop (j + 1)) a y.2 (y.1 || mj) = R by rw [← HE2.out, ← hy] <;> rfl)
            clear hy
            obtain ⟨y1, y2⟩ := y
            go_wp2_with fail
            refine HC.out.mono ?_
            rintro e w5 ⟨rfl, hs5, hw5, hk5, hb5⟩
            have HS5 := Lib.hid hs5
            have HW5 := Lib.hid hw5
            have HK5 := Lib.hid (HKJ.out.trans hk5)
            have HB5 := Lib.hid (HBJ.out.trans (But.trans (But.of_grew (F := FolB V S) (HGA.out.trans HG4.out)) hb5 (fun _ _ h => h.kin HKJ.out)) (fun _ _ h => h))
            have HO5 := Lib.hid (hb5.owns ((HOJ.out.keep HGA.out).keep HG4.out) (fun h => HNF.out (h.kin HKJ.out)))
            clear hs5 hw5 hk5 hb5 HC x0 x1 x2 x3 x4 xl
            cases y1
            · go_wp2_with fail
              refine ⟨⟨j + 1, y2, mj, rfl, by go_num, by omega, HS5.out, HW5.out, HK5.out, HB5.out, HO5.out, by have := HE3.out; rw [Bool.false_or] at this; exact this⟩, by simp [intOf]; omega⟩
            · go_wp2_with fail
              refine ⟨⟨j + 1, y2, true, rfl, by go_num, by omega, HS5.out, HW5.out, HK5.out, HB5.out, HO5.out, by have := HE3.out; rw [Bool.true_or] at this; exact this⟩, by simp [intOf]; omega⟩
      · obtain rfl : j = L := by omega
        have := HE.out
        rw [← HL.out, List.drop_length, FS.spRow] at this
        have HE2 := Lib.hid this
        clear this
        go_wp2_with fail
        go_ret
        exact HFIN.out (mj, Sj) _ HE2.out HSJ.out HWJ.out HKJ.out HBJ.out
  have q1 : (k == 1) = false := beq_eq_false_iff_ne.2 k1
  rw [if_neg k1] at hR
  by_cases k3 : k = 3
  · subst k3
    have HR := Lib.hid (show FS.spLoop subs a S false = R by rw [← hR]; rfl)
    clear hR
    obtain ⟨L, hL⟩ : ∃ L, subs.length = L := ⟨_, rfl⟩
    have HL := Lib.hid hL
    rw [hL] at n4 h8' HON HCAP
    clear hL
    have hcap := HCAP.out
    go_wp2_with fail
    clear n0 n1 n4 nl
    go_loopw [6, 74] (fun v c wr => ∃ (j : Nat) (Sj : FS) (mj : Bool), v = .bool mj ∧ c = .int .i64 j ∧ j ≤ L ∧ Hid (SetsAt wr V Sj) ∧ Hid Sj.Wf ∧ Hid (Kin S Sj) ∧ Hid (But (FolB V S) wz wr) ∧ Hid (Owns wr wz.heap.size [.int .u8 3, .string nm, .string tx, .slice sa set.length sc, .slice na L nc] 26) ∧ Hid (FS.spLoop (subs.drop j) a Sj mj = R)) (fun _ c _ => L - (intOf c).toNat)
    case atStart => exact ⟨0, S, false, rfl, rfl, by omega, HS2.out, HW.out, Kin.refl S, HB2.out, HON.out, HR.out⟩
    case round =>
      obtain ⟨j, Sj, mj, rfl, rfl, hj, HSJ, HWJ, HKJ, HBJ, HOJ, HE⟩ := hrel
      by_cases hlt : j < L
      · as_aux_lemma =>
        have hlt' : j < subs.length := by rw [HL.out]; exact hlt
        have hbl : Below lim wz wr := HBJ.out.below HLM.out HFL.out
        have hsub := (show NodesAt wr lim na 0 subs from H9.out.keep hbl)
        have hfits := (show FitsAt wr lim na 0 subs from H3.out.keep hbl)
        obtain ⟨b, off, rfl, hb, hnode⟩ := hsub.get hlt'
        obtain ⟨b', off', hbo, hfit⟩ := hfits.get hlt'
        cases hbo
        simp only [Nat.zero_add] at hnode hfit
        obtain ⟨u0, u1, u2, u3, u4, e0, e1, e2, e3, e4, hnode⟩ := hnode.vals
        rw [e4] at hfit
        obtain ⟨m0, m1, m2, m3, m4, m5, m6, m7, m8, rfl, rfl, rfl, rfl, rfl⟩ := hnode.forms
        have hlw : lim ≤ wr.heap.size := Nat.le_trans HLM.out hbl.size
        have hb' := Nat.lt_of_lt_of_le hb hlw
        obtain ⟨wa, hwa⟩ : ∃ wa, wr.alloc (.cells #[.int .u8 m0, .string m1, .string m2, .slice m3 m4 m5, .slice m6 m7 m8] 26) = wa := ⟨_, rfl⟩
        have ga : Grew wr wa := hwa ▸ grew_alloc wr _
        have HGA := Lib.hid ga
        have oa : Owns wa wr.heap.size [.int .u8 m0, .string m1, .string m2, .slice m3 m4 m5, .slice m6 m7 m8] 26 := hwa ▸ Owns.alloc wr _ _
        have HOX := Lib.hid oa
        have q4 := (HOJ.out.keep ga).cell_at (i := 4) rfl
        have ql := (HOJ.out.keep ga).lt
        have hnn : Sj.n = S.n := HKJ.out.n
        have HNN := Lib.hid hnn
        have HSA := Lib.hid (HSJ.out.keep ga)
        have haft : AftAt wa V Sj (.slice (some ⟨ab, 0, none⟩) S.n S.n) a := (HAZ.out.keep HKJ.out HBJ.out).keep (Kin.refl Sj) (But.of_grew ga)
        have HAF := Lib.hid haft
        obtain ⟨ab', hab, hao, hal⟩ := haft.block HWJ.out HSA.out
        injection hab with hab1 hx1 hx2
        clear hx1 hx2
        injection hab1 with hab2
        injection hab2 with hab3 hx3 hx4
        clear hx3 hx4
        subst hab3
        rw [hnn] at hal
        have HAO := Lib.hid hao
        have HAL := Lib.hid hal
        have HND := Lib.hid (hnode.keep (ga.mono hlw))
        have HFT := Lib.hid (hfit.keep (ga.mono hlw))
        have HLW := Lib.hid (Nat.le_trans hlw ga.size)
        have HDR := Lib.hid (show subs.drop j = subs[j] :: subs.drop (j + 1) from List.drop_eq_getElem_cons hlt')
        have HSP := Lib.hid (HIH.out j hlt')
        have HBC := Lib.hid (fbegin_ok V Sj HWJ.out subs[j] wa _ _ _ _ _ HSA.out (HND.out.mono HLW.out))
        have hbl9 : (Sj.begin subs[j]).1.length = S.n := by rw [← hnn]; exact begin_len HWJ.out _
        rw [hnn] at HBC
        obtain ⟨bo, bm, hbe⟩ : ∃ bo bm, Sj.begin subs[j] = (bo, bm) := ⟨_, _, rfl⟩
        rw [hbe] at HBC hbl9
        have HRL := Lib.hid (show bo.length = S.n from hbl9)
        have HRW := Lib.hid hbe
        clear hbl9 hbe
        have p0 := oa.cell_at (i := 0) rfl
        have p1 := oa.cell_at (i := 1) rfl
        have p2 := oa.cell_at (i := 2) rfl
        have p3 := oa.cell_at (i := 3) rfl
        have p4 := oa.cell_at (i := 4) rfl
        have pl := oa.lt
        have hE2 := HE.out
        rw [HDR.out, FS.spLoop] at hE2
        rw [HRW.out] at hE2
        have HE2 := Lib.hid (show FS.spLoop (subs.drop (j + 1)) a (FS.spread subs[j] (.own (orB bo (a.val Sj))) Sj).2 ((FS.spread subs[j] (.own (orB bo (a.val Sj))) Sj).1 || mj) = R from hE2)
        clear hE2 hsub hfits hnode hfit hbl ga oa hao hal haft hnn hlw
        go_wp2_with fail
        refine HBC.out.mono ?_
        rintro e w3 ⟨v, rfl, nb, rfl, hn3, hlo3, hg3⟩
        have HLO := Lib.hid hlo3
        have HG3 := Lib.hid hg3
        have HN3 := Lib.hid hn3
        clear hn3 hlo3 hg3 p0 p1 p2 p3 p4 pl q4 ql
        have hne : ab ≠ nb := by have := HAO.out.lt; have := HLO.out; omega
        have HAD := Lib.hid (fadd_ok w3 nb ab S.n S.n S.n bo (a.val Sj) HRL.out HAL.out hn9 HN3.out (HAO.out.keep HG3.out) hne)
        go_wp2_with fail
        refine HAD.out.mono ?_
        rintro e w4 ⟨rfl, hn4, hb4⟩
        have HN4 := Lib.hid hn4
        have HG4 := Lib.hid (But.grewFrom HG3.out hb4 HLO.out)
        clear hn4 hb4 HAD hne
        have HO4 := Lib.hid (HOX.out.keep HG4.out)
        have x0 := HO4.out.cell_at (i := 0) rfl
        have x1 := HO4.out.cell_at (i := 1) rfl
        have x2 := HO4.out.cell_at (i := 2) rfl
        have x3 := HO4.out.cell_at (i := 3) rfl
        have x4 := HO4.out.cell_at (i := 4) rfl
        have xl := HO4.out.lt
        have HC := Lib.hid (HSP.out Sj (.own (orB bo (a.val Sj))) w4 lim _ _ _ _ _ (.slice (some ⟨nb, 0, none⟩) S.n S.n) HWJ.out (HI.out.kin HKJ.out) (HSA.out.keep HG4.out) (Nat.le_trans HLW.out HG4.out.size) (fun q hq => HFL.out q (hq.kin HKJ.out)) (HND.out.keep (HG4.out.mono HLW.out)) (HFT.out.keep (HG4.out.mono HLW.out)) (⟨nb, by rw [HNN.out], HN4.out, by rw [HNN.out]; exact (orB_len HRL.out HAL.out), fun ⟨i, r, hi, e⟩ => by have h1 := (HSA.out.rule i r hi).2.2.1.lt; have h2 := HLO.out; omega⟩))
        obtain ⟨y, hy⟩ : ∃ y, FS.spread subs[j] (.own (orB bo (a.val Sj))) Sj = y := ⟨_, rfl⟩
        rw [hy] at HC
        have HE3 := Lib.hid (show FS.spLoop (subs.drop (j + 1)) a y.2 (y.1 || mj) = R by rw [← HE2.out, ← hy] <;> rfl)
        clear hy
        obtain ⟨y1, y2⟩ := y
        go_wp2_with fail
        refine HC.out.mono ?_
        rintro e w5 ⟨rfl, hs5, hw5, hk5, hb5⟩
        have HS5 := Lib.hid hs5
        have HW5 := Lib.hid hw5
        have HK5 := Lib.hid (HKJ.out.trans hk5)
        have HB5 := Lib.hid (HBJ.out.trans (But.trans (But.of_grew (F := FolB V S) (HGA.out.trans HG4.out)) hb5 (fun _ _ h => h.kin HKJ.out)) (fun _ _ h => h))
        have HO5 := Lib.hid (hb5.owns ((HOJ.out.keep HGA.out).keep HG4.out) (fun h => HNF.out (h.kin HKJ.out)))
        clear hs5 hw5 hk5 hb5 HC x0 x1 x2 x3 x4 xl
        cases y1
        · go_wp2_with fail
          refine ⟨⟨j + 1, y2, mj, rfl, by go_num, by omega, HS5.out, HW5.out, HK5.out, HB5.out, HO5.out, by have := HE3.out; rw [Bool.false_or] at this; exact this⟩, by simp [intOf]; omega⟩
        · go_wp2_with fail
          refine ⟨⟨j + 1, y2, true, rfl, by go_num, by omega, HS5.out, HW5.out, HK5.out, HB5.out, HO5.out, by have := HE3.out; rw [Bool.true_or] at this; exact this⟩, by simp [intOf]; omega⟩
      · obtain rfl : j = L := by omega
        have := HE.out
        rw [← HL.out, List.drop_length, FS.spLoop] at this
        have HE2 := Lib.hid this
        clear this
        go_wp2_with fail
        go_ret
        exact HFIN.out (mj, Sj) _ HE2.out HSJ.out HWJ.out HKJ.out HBJ.out
  have q3 : (k == 3) = false := beq_eq_false_iff_ne.2 k3
  by_cases k4 : k = 4
  · subst k4
    have HR := Lib.hid (show FS.spLoop subs a S false = R by rw [← hR]; rfl)
    clear hR
    obtain ⟨L, hL⟩ : ∃ L, subs.length = L := ⟨_, rfl⟩
    have HL := Lib.hid hL
    rw [hL] at n4 h8' HON HCAP
    clear hL
    have hcap := HCAP.out
    go_wp2_with fail
    clear n0 n1 n4 nl
    go_loopw [6, 74] (fun v c wr => ∃ (j : Nat) (Sj : FS) (mj : Bool), v = .bool mj ∧ c = .int .i64 j ∧ j ≤ L ∧ Hid (SetsAt wr V Sj) ∧ Hid Sj.Wf ∧ Hid (Kin S Sj) ∧ Hid (But (FolB V S) wz wr) ∧ Hid (Owns wr wz.heap.size [.int .u8 4, .string nm, .string tx, .slice sa set.length sc, .slice na L nc] 26) ∧ Hid (FS.spLoop (subs.drop j) a Sj mj = R)) (fun _ c _ => L - (intOf c).toNat)
    case atStart => exact ⟨0, S, false, rfl, rfl, by omega, HS2.out, HW.out, Kin.refl S, HB2.out, HON.out, HR.out⟩
    case round =>
      obtain ⟨j, Sj, mj, rfl, rfl, hj, HSJ, HWJ, HKJ, HBJ, HOJ, HE⟩ := hrel
      by_cases hlt : j < L
      · as_aux_lemma =>
        have hlt' : j < subs.length := by rw [HL.out]; exact hlt
        have hbl : Below lim wz wr := HBJ.out.below HLM.out HFL.out
        have hsub := (show NodesAt wr lim na 0 subs from H9.out.keep hbl)
        have hfits := (show FitsAt wr lim na 0 subs from H3.out.keep hbl)
        obtain ⟨b, off, rfl, hb, hnode⟩ := hsub.get hlt'
        obtain ⟨b', off', hbo, hfit⟩ := hfits.get hlt'
        cases hbo
        simp only [Nat.zero_add] at hnode hfit
        obtain ⟨u0, u1, u2, u3, u4, e0, e1, e2, e3, e4, hnode⟩ := hnode.vals
        rw [e4] at hfit
        obtain ⟨m0, m1, m2, m3, m4, m5, m6, m7, m8, rfl, rfl, rfl, rfl, rfl⟩ := hnode.forms
        have hlw : lim ≤ wr.heap.size := Nat.le_trans HLM.out hbl.size
        have hb' := Nat.lt_of_lt_of_le hb hlw
        obtain ⟨wa, hwa⟩ : ∃ wa, wr.alloc (.cells #[.int .u8 m0, .string m1, .string m2, .slice m3 m4 m5, .slice m6 m7 m8] 26) = wa := ⟨_, rfl⟩
        have ga : Grew wr wa := hwa ▸ grew_alloc wr _
        have HGA := Lib.hid ga
        have oa : Owns wa wr.heap.size [.int .u8 m0, .string m1, .string m2, .slice m3 m4 m5, .slice m6 m7 m8] 26 := hwa ▸ Owns.alloc wr _ _
        have HOX := Lib.hid oa
        have q4 := (HOJ.out.keep ga).cell_at (i := 4) rfl
        have ql := (HOJ.out.keep ga).lt
        have hnn : Sj.n = S.n := HKJ.out.n
        have HNN := Lib.hid hnn
        have HSA := Lib.hid (HSJ.out.keep ga)
        have haft : AftAt wa V Sj (.slice (some ⟨ab, 0, none⟩) S.n S.n) a := (HAZ.out.keep HKJ.out HBJ.out).keep (Kin.refl Sj) (But.of_grew ga)
        have HAF := Lib.hid haft
        obtain ⟨ab', hab, hao, hal⟩ := haft.block HWJ.out HSA.out
        injection hab with hab1 hx1 hx2
        clear hx1 hx2
        injection hab1 with hab2
        injection hab2 with hab3 hx3 hx4
        clear hx3 hx4
        subst hab3
        rw [hnn] at hal
        have HAO := Lib.hid hao
        have HAL := Lib.hid hal
        have HND := Lib.hid (hnode.keep (ga.mono hlw))
        have HFT := Lib.hid (hfit.keep (ga.mono hlw))
        have HLW := Lib.hid (Nat.le_trans hlw ga.size)
        have HDR := Lib.hid (show subs.drop j = subs[j] :: subs.drop (j + 1) from List.drop_eq_getElem_cons hlt')
        have HSP := Lib.hid (HIH.out j hlt')
        have HBC := Lib.hid (fbegin_ok V Sj HWJ.out subs[j] wa _ _ _ _ _ HSA.out (HND.out.mono HLW.out))
        have hbl9 : (Sj.begin subs[j]).1.length = S.n := by rw [← hnn]; exact begin_len HWJ.out _
        rw [hnn] at HBC
        obtain ⟨bo, bm, hbe⟩ : ∃ bo bm, Sj.begin subs[j] = (bo, bm) := ⟨_, _, rfl⟩
        rw [hbe] at HBC hbl9
        have HRL := Lib.hid (show bo.length = S.n from hbl9)
        have HRW := Lib.hid hbe
        clear hbl9 hbe
        have p0 := oa.cell_at (i := 0) rfl
        have p1 := oa.cell_at (i := 1) rfl
        have p2 := oa.cell_at (i := 2) rfl
        have p3 := oa.cell_at (i := 3) rfl
        have p4 := oa.cell_at (i := 4) rfl
        have pl := oa.lt
        have hE2 := HE.out
        rw [HDR.out, FS.spLoop] at hE2
        rw [HRW.out] at hE2
        have HE2 := Lib.hid (show FS.spLoop (subs.drop (j + 1)) a (FS.spread subs[j] (.own (orB bo (a.val Sj))) Sj).2 ((FS.spread subs[j] (.own (orB bo (a.val Sj))) Sj).1 || mj) = R from hE2)
        clear hE2 hsub hfits hnode hfit hbl ga oa hao hal haft hnn hlw
        go_wp2_with fail
        refine HBC.out.mono ?_
        rintro e w3 ⟨v, rfl, nb, rfl, hn3, hlo3, hg3⟩
        have HLO := Lib.hid hlo3
        have HG3 := Lib.hid hg3
        have HN3 := Lib.hid hn3
        clear hn3 hlo3 hg3 p0 p1 p2 p3 p4 pl q4 ql
        have hne : ab ≠ nb := by have := HAO.out.lt; have := HLO.out; omega
        have HAD := Lib.hid (fadd_ok w3 nb ab S.n S.n S.n bo (a.val Sj) HRL.out HAL.out hn9 HN3.out (HAO.out.keep HG3.out) hne)
        go_wp2_with fail
        refine HAD.out.mono ?_
        rintro e w4 ⟨rfl, hn4, hb4⟩
        have HN4 := Lib.hid hn4
        have HG4 := Lib.hid (But.grewFrom HG3.out hb4 HLO.out)
        clear hn4 hb4 HAD hne
        have HO4 := Lib.hid (HOX.out.keep HG4.out)
        have x0 := HO4.out.cell_at (i := 0) rfl
        have x1 := HO4.out.cell_at (i := 1) rfl
        have x2 := HO4.out.cell_at (i := 2) rfl
        have x3 := HO4.out.cell_at (i := 3) rfl
        have x4 := HO4.out.cell_at (i := 4) rfl
        have xl := HO4.out.lt
        have HC := Lib.hid (HSP.out Sj (.own (orB bo (a.val Sj))) w4 lim _ _ _ _ _ (.slice (some ⟨nb, 0, none⟩) S.n S.n) HWJ.out (HI.out.kin HKJ.out) (HSA.out.keep HG4.out) (Nat.le_trans HLW.out HG4.out.size) (fun q hq => HFL.out q (hq.kin HKJ.out)) (HND.out.keep (HG4.out.mono HLW.out)) (HFT.out.keep (HG4.out.mono HLW.out)) (⟨nb, by rw [HNN.out], HN4.out, by rw [HNN.out]; exact (orB_len HRL.out HAL.out), fun ⟨i, r, hi, e⟩ => by have h1 := (HSA.out.rule i r hi).2.2.1.lt; have h2 := HLO.out; omega⟩))
        obtain ⟨y, hy⟩ : ∃ y, FS.spread subs[j] (.own (orB bo (a.val Sj))) Sj = y := ⟨_, rfl⟩
        rw [hy] at HC
        have HE3 := Lib.hid (show FS.spLoop (subs.drop (j + 1)) a y.2 (y.1 || mj) = R by rw [← HE2.out, ← hy] <;> rfl)
        clear hy
        obtain ⟨y1, y2⟩ := y
        go_wp2_with fail
        refine HC.out.mono ?_
        rintro e w5 ⟨rfl, hs5, hw5, hk5, hb5⟩
        have HS5 := Lib.hid hs5
        have HW5 := Lib.hid hw5
        have HK5 := Lib.hid (HKJ.out.trans hk5)
        have HB5 := Lib.hid (HBJ.out.trans (But.trans (But.of_grew (F := FolB V S) (HGA.out.trans HG4.out)) hb5 (fun _ _ h => h.kin HKJ.out)) (fun _ _ h => h))
        have HO5 := Lib.hid (hb5.owns ((HOJ.out.keep HGA.out).keep HG4.out) (fun h => HNF.out (h.kin HKJ.out)))
        clear hs5 hw5 hk5 hb5 HC x0 x1 x2 x3 x4 xl
        cases y1
        · go_wp2_with fail
          refine ⟨⟨j + 1, y2, mj, rfl, by go_num, by omega, HS5.out, HW5.out, HK5.out, HB5.out, HO5.out, by have := HE3.out; rw [Bool.false_or] at this; exact this⟩, by simp [intOf]; omega⟩
        · go_wp2_with fail
          refine ⟨⟨j + 1, y2, true, rfl, by go_num, by omega, HS5.out, HW5.out, HK5.out, HB5.out, HO5.out, by have := HE3.out; rw [Bool.true_or] at this; exact this⟩, by simp [intOf]; omega⟩
      · obtain rfl : j = L := by omega
        have := HE.out
        rw [← HL.out, List.drop_length, FS.spLoop] at this
        have HE2 := Lib.hid this
        clear this
        go_wp2_with fail
        go_ret
        exact HFIN.out (mj, Sj) _ HE2.out HSJ.out HWJ.out HKJ.out HBJ.out
  have q4 : (k == 4) = false := beq_eq_false_iff_ne.2 k4
  rw [if_neg (by omega)] at hR
  by_cases k0 : k = 0
  · subst k0
    have HR := Lib.hid (show FS.spAlts subs a S false = R by rw [← hR]; rfl)
    clear hR
    obtain ⟨L, hL⟩ : ∃ L, subs.length = L := ⟨_, rfl⟩
    have HL := Lib.hid hL
    rw [hL] at n4 h8' HON HCAP
    clear hL
    have hcap := HCAP.out
    go_wp2_with fail
    clear n0 n1 n4 nl
    go_loopw [6, 101] (fun v c wr => ∃ (j : Nat) (Sj : FS) (mj : Bool), v = .bool mj ∧ c = .int .i64 j ∧ j ≤ L ∧ Hid (SetsAt wr V Sj) ∧ Hid Sj.Wf ∧ Hid (Kin S Sj) ∧ Hid (But (FolB V S) wz wr) ∧ Hid (Owns wr wz.heap.size [.int .u8 0, .string nm, .string tx, .slice sa set.length sc, .slice na L nc] 26) ∧ Hid (FS.spAlts (subs.drop j) a Sj mj = R)) (fun _ c _ => L - (intOf c).toNat)
    case atStart => exact ⟨0, S, false, rfl, rfl, by omega, HS2.out, HW.out, Kin.refl S, HB2.out, HON.out, HR.out⟩
    case round =>
      obtain ⟨j, Sj, mj, rfl, rfl, hj, HSJ, HWJ, HKJ, HBJ, HOJ, HE⟩ := hrel
      by_cases hlt : j < L
      · as_aux_lemma =>
        have hlt' : j < subs.length := by rw [HL.out]; exact hlt
        have hbl : Below lim wz wr := HBJ.out.below HLM.out HFL.out
        have hsub := (show NodesAt wr lim na 0 subs from H9.out.keep hbl)
        have hfits := (show FitsAt wr lim na 0 subs from H3.out.keep hbl)
        obtain ⟨b, off, rfl, hb, hnode⟩ := hsub.get hlt'
        obtain ⟨b', off', hbo, hfit⟩ := hfits.get hlt'
        cases hbo
        simp only [Nat.zero_add] at hnode hfit
        obtain ⟨u0, u1, u2, u3, u4, e0, e1, e2, e3, e4, hnode⟩ := hnode.vals
        rw [e4] at hfit
        obtain ⟨m0, m1, m2, m3, m4, m5, m6, m7, m8, rfl, rfl, rfl, rfl, rfl⟩ := hnode.forms
        have hlw : lim ≤ wr.heap.size := Nat.le_trans HLM.out hbl.size
        have hb' := Nat.lt_of_lt_of_le hb hlw
        obtain ⟨wa, hwa⟩ : ∃ wa, wr.alloc (.cells #[.int .u8 m0, .string m1, .string m2, .slice m3 m4 m5, .slice m6 m7 m8] 26) = wa := ⟨_, rfl⟩
        have ga : Grew wr wa := hwa ▸ grew_alloc wr _
        have HGA := Lib.hid ga
        have oa : Owns wa wr.heap.size [.int .u8 m0, .string m1, .string m2, .slice m3 m4 m5, .slice m6 m7 m8] 26 := hwa ▸ Owns.alloc wr _ _
        have HOX := Lib.hid oa
        have q4 := (HOJ.out.keep ga).cell_at (i := 4) rfl
        have ql := (HOJ.out.keep ga).lt
        have hnn : Sj.n = S.n := HKJ.out.n
        have HNN := Lib.hid hnn
        have HSA := Lib.hid (HSJ.out.keep ga)
        have haft : AftAt wa V Sj (.slice (some ⟨ab, 0, none⟩) S.n S.n) a := (HAZ.out.keep HKJ.out HBJ.out).keep (Kin.refl Sj) (But.of_grew ga)
        have HAF := Lib.hid haft
        obtain ⟨ab', hab, hao, hal⟩ := haft.block HWJ.out HSA.out
        injection hab with hab1 hx1 hx2
        clear hx1 hx2
        injection hab1 with hab2
        injection hab2 with hab3 hx3 hx4
        clear hx3 hx4
        subst hab3
        rw [hnn] at hal
        have HAO := Lib.hid hao
        have HAL := Lib.hid hal
        have HND := Lib.hid (hnode.keep (ga.mono hlw))
        have HFT := Lib.hid (hfit.keep (ga.mono hlw))
        have HLW := Lib.hid (Nat.le_trans hlw ga.size)
        have HDR := Lib.hid (show subs.drop j = subs[j] :: subs.drop (j + 1) from List.drop_eq_getElem_cons hlt')
        have HSP := Lib.hid (HIH.out j hlt')
        have p0 := oa.cell_at (i := 0) rfl
        have p1 := oa.cell_at (i := 1) rfl
        have p2 := oa.cell_at (i := 2) rfl
        have p3 := oa.cell_at (i := 3) rfl
        have p4 := oa.cell_at (i := 4) rfl
        have pl := oa.lt
        have hE2 := HE.out
        rw [HDR.out, FS.spAlts] at hE2
        have HE2 := Lib.hid (show FS.spAlts (subs.drop (j + 1)) a (FS.spread subs[j] a Sj).2 ((FS.spread subs[j] a Sj).1 || mj) = R from hE2)
        have HG4 := Lib.hid (Grew.refl wa)
        obtain ⟨w4, rfl⟩ : ∃ w4, w4 = wa := ⟨_, rfl⟩
        clear hE2 hsub hfits hnode hfit hbl ga oa hao hal haft hnn hlw
        have HO4 := Lib.hid (HOX.out.keep HG4.out)
        have x0 := HO4.out.cell_at (i := 0) rfl
        have x1 := HO4.out.cell_at (i := 1) rfl
        have x2 := HO4.out.cell_at (i := 2) rfl
        have x3 := HO4.out.cell_at (i := 3) rfl
        have x4 := HO4.out.cell_at (i := 4) rfl
        have xl := HO4.out.lt
        have HC := Lib.hid (HSP.out Sj (a) w4 lim _ _ _ _ _ (.slice (some ⟨ab, 0, none⟩) S.n S.n) HWJ.out (HI.out.kin HKJ.out) (HSA.out.keep HG4.out) (Nat.le_trans HLW.out HG4.out.size) (fun q hq => HFL.out q (hq.kin HKJ.out)) (HND.out.keep (HG4.out.mono HLW.out)) (HFT.out.keep (HG4.out.mono HLW.out)) (HAF.out))
        obtain ⟨y, hy⟩ : ∃ y, FS.spread subs[j] (a) Sj = y := ⟨_, rfl⟩
        rw [hy] at HC
        have HE3 := Lib.hid (show FS.spAlts (subs.drop (j + 1)) a y.2 (y.1 || mj) = R by rw [← HE2.out, ← hy] <;> rfl)
        clear hy
        obtain ⟨y1, y2⟩ := y
        go_wp2_with fail
        refine HC.out.mono ?_
        rintro e w5 ⟨rfl, hs5, hw5, hk5, hb5⟩
        have HS5 := Lib.hid hs5
        have HW5 := Lib.hid hw5
        have HK5 := Lib.hid (HKJ.out.trans hk5)
        have HB5 := Lib.hid (HBJ.out.trans (But.trans (But.of_grew (F := FolB V S) (HGA.out.trans HG4.out)) hb5 (fun _ _ h => h.kin HKJ.out)) (fun _ _ h => h))
        have HO5 := Lib.hid (hb5.owns ((HOJ.out.keep HGA.out).keep HG4.out) (fun h => HNF.out (h.kin HKJ.out)))
        clear hs5 hw5 hk5 hb5 HC x0 x1 x2 x3 x4 xl
        cases y1
        · go_wp2_with fail
          refine ⟨⟨j + 1, y2, mj, rfl, by go_num, by omega, HS5.out, HW5.out, HK5.out, HB5.out, HO5.out, by have := HE3.out; rw [Bool.false_or] at this; exact this⟩, by simp [intOf]; omega⟩
        · go_wp2_with fail
          refine ⟨⟨j + 1, y2, true, rfl, by go_num, by omega, HS5.out, HW5.out, HK5.out, HB5.out, HO5.out, by have := HE3.out; rw [Bool.true_or] at this; exact this⟩, by simp [intOf]; omega⟩
      · obtain rfl : j = L := by omega
        have := HE.out
        rw [← HL.out, List.drop_length, FS.spAlts] at this
        have HE2 := Lib.hid this
        clear this
        go_wp2_with fail
        go_ret
        exact HFIN.out (mj, Sj) _ HE2.out HSJ.out HWJ.out HKJ.out HBJ.out
  have q0 : (k == 0) = false := beq_eq_false_iff_ne.2 k0
  by_cases k2 : k = 2
  · subst k2
    have HR := Lib.hid (show FS.spAlts subs a S false = R by rw [← hR]; rfl)
    clear hR
    obtain ⟨L, hL⟩ : ∃ L, subs.length = L := ⟨_, rfl⟩
    have HL := Lib.hid hL
    rw [hL] at n4 h8' HON HCAP
    clear hL
    have hcap := HCAP.out
    go_wp2_with fail
    clear n0 n1 n4 nl
    go_loopw [6, 101] (fun v c wr => ∃ (j : Nat) (Sj : FS) (mj : Bool), v = .bool mj ∧ c = .int .i64 j ∧ j ≤ L ∧ Hid (SetsAt wr V Sj) ∧ Hid Sj.Wf ∧ Hid (Kin S Sj) ∧ Hid (But (FolB V S) wz wr) ∧ Hid (Owns wr wz.heap.size [.int .u8 2, .string nm, .string tx, .slice sa set.length sc, .slice na L nc] 26) ∧ Hid (FS.spAlts (subs.drop j) a Sj mj = R)) (fun _ c _ => L - (intOf c).toNat)
    case atStart => exact ⟨0, S, false, rfl, rfl, by omega, HS2.out, HW.out, Kin.refl S, HB2.out, HON.out, HR.out⟩
    case round =>
      obtain ⟨j, Sj, mj, rfl, rfl, hj, HSJ, HWJ, HKJ, HBJ, HOJ, HE⟩ := hrel
      by_cases hlt : j < L
      · as_aux_lemma =>
        have hlt' : j < subs.length := by rw [HL.out]; exact hlt
        have hbl : Below lim wz wr := HBJ.out.below HLM.out HFL.out
        have hsub := (show NodesAt wr lim na 0 subs from H9.out.keep hbl)
        have hfits := (show FitsAt wr lim na 0 subs from H3.out.keep hbl)
        obtain ⟨b, off, rfl, hb, hnode⟩ := hsub.get hlt'
        obtain ⟨b', off', hbo, hfit⟩ := hfits.get hlt'
        cases hbo
        simp only [Nat.zero_add] at hnode hfit
        obtain ⟨u0, u1, u2, u3, u4, e0, e1, e2, e3, e4, hnode⟩ := hnode.vals
        rw [e4] at hfit
        obtain ⟨m0, m1, m2, m3, m4, m5, m6, m7, m8, rfl, rfl, rfl, rfl, rfl⟩ := hnode.forms
        have hlw : lim ≤ wr.heap.size := Nat.le_trans HLM.out hbl.size
        have hb' := Nat.lt_of_lt_of_le hb hlw
        obtain ⟨wa, hwa⟩ : ∃ wa, wr.alloc (.cells #[.int .u8 m0, .string m1, .string m2, .slice m3 m4 m5, .slice m6 m7 m8] 26) = wa := ⟨_, rfl⟩
        have ga : Grew wr wa := hwa ▸ grew_alloc wr _
        have HGA := Lib.hid ga
        have oa : Owns wa wr.heap.size [.int .u8 m0, .string m1, .string m2, .slice m3 m4 m5, .slice m6 m7 m8] 26 := hwa ▸ Owns.alloc wr _ _
        have HOX := Lib.hid oa
        have q4 := (HOJ.out.keep ga).cell_at (i := 4) rfl
        have ql := (HOJ.out.keep ga).lt
        have hnn : Sj.n = S.n := HKJ.out.n
        have HNN := Lib.hid hnn
        have HSA := Lib.hid (HSJ.out.keep ga)
        have haft : AftAt wa V Sj (.slice (some ⟨ab, 0, none⟩) S.n S.n) a := (HAZ.out.keep HKJ.out HBJ.out).keep (Kin.refl Sj) (But.of_grew ga)
        have HAF := Lib.hid haft
        obtain ⟨ab', hab, hao, hal⟩ := haft.block HWJ.out HSA.out
        injection hab with hab1 hx1 hx2
        clear hx1 hx2
        injection hab1 with hab2
        injection hab2 with hab3 hx3 hx4
        clear hx3 hx4
        subst hab3
        rw [hnn] at hal
        have HAO := Lib.hid hao
        have HAL := Lib.hid hal
        have HND := Lib.hid (hnode.keep (ga.mono hlw))
        have HFT := Lib.hid (hfit.keep (ga.mono hlw))
        have HLW := Lib.hid (Nat.le_trans hlw ga.size)
        have HDR := Lib.hid (show subs.drop j = subs[j] :: subs.drop (j + 1) from List.drop_eq_getElem_cons hlt')
        have HSP := Lib.hid (HIH.out j hlt')
        have p0 := oa.cell_at (i := 0) rfl
        have p1 := oa.cell_at (i := 1) rfl
        have p2 := oa.cell_at (i := 2) rfl
        have p3 := oa.cell_at (i := 3) rfl
        have p4 := oa.cell_at (i := 4) rfl
        have pl := oa.lt
        have hE2 := HE.out
        rw [HDR.out, FS.spAlts] at hE2
        have HE2 := Lib.hid (show FS.spAlts (subs.drop (j + 1)) a (FS.spread subs[j] a Sj).2 ((FS.spread subs[j] a Sj).1 || mj) = R from hE2)
        have HG4 := Lib.hid (Grew.refl wa)
        obtain ⟨w4, rfl⟩ : ∃ w4, w4 = wa := ⟨_, rfl⟩
        clear hE2 hsub hfits hnode hfit hbl ga oa hao hal haft hnn hlw
        have HO4 := Lib.hid (HOX.out.keep HG4.out)
        have x0 := HO4.out.cell_at (i := 0) rfl
        have x1 := HO4.out.cell_at (i := 1) rfl
        have x2 := HO4.out.cell_at (i := 2) rfl
        have x3 := HO4.out.cell_at (i := 3) rfl
        have x4 := HO4.out.cell_at (i := 4) rfl
        have xl := HO4.out.lt
        have HC := Lib.hid (HSP.out Sj (a) w4 lim _ _ _ _ _ (.slice (some ⟨ab, 0, none⟩) S.n S.n) HWJ.out (HI.out.kin HKJ.out) (HSA.out.keep HG4.out) (Nat.le_trans HLW.out HG4.out.size) (fun q hq => HFL.out q (hq.kin HKJ.out)) (HND.out.keep (HG4.out.mono HLW.out)) (HFT.out.keep (HG4.out.mono HLW.out)) (HAF.out))
        obtain ⟨y, hy⟩ : ∃ y, FS.spread subs[j] (a) Sj = y := ⟨_, rfl⟩
        rw [hy] at HC
        have HE3 := Lib.hid (show FS.spAlts (subs.drop (j + 1)) a y.2 (y.1 || mj) = R by rw [← HE2.out, ← hy] <;> rfl)
        clear hy
        obtain ⟨y1, y2⟩ := y
        go_wp2_with fail
        refine HC.out.mono ?_
        rintro e w5 ⟨rfl, hs5, hw5, hk5, hb5⟩
        have HS5 := Lib.hid hs5
        have HW5 := Lib.hid hw5
        have HK5 := Lib.hid (HKJ.out.trans hk5)
        have HB5 := Lib.hid (HBJ.out.trans (But.trans (But.of_grew (F := FolB V S) (HGA.out.trans HG4.out)) hb5 (fun _ _ h => h.kin HKJ.out)) (fun _ _ h => h))
        have HO5 := Lib.hid (hb5.owns ((HOJ.out.keep HGA.out).keep HG4.out) (fun h => HNF.out (h.kin HKJ.out)))
        clear hs5 hw5 hk5 hb5 HC x0 x1 x2 x3 x4 xl
        cases y1
        · go_wp2_with fail
          refine ⟨⟨j + 1, y2, mj, rfl, by go_num, by omega, HS5.out, HW5.out, HK5.out, HB5.out, HO5.out, by have := HE3.out; rw [Bool.false_or] at this; exact this⟩, by simp [intOf]; omega⟩
        · go_wp2_with fail
          refine ⟨⟨j + 1, y2, true, rfl, by go_num, by omega, HS5.out, HW5.out, HK5.out, HB5.out, HO5.out, by have := HE3.out; rw [Bool.true_or] at this; exact this⟩, by simp [intOf]; omega⟩
      · obtain rfl : j = L := by omega
        have := HE.out
        rw [← HL.out, List.drop_length, FS.spAlts] at this
        have HE2 := Lib.hid this
        clear this
        go_wp2_with fail
        go_ret
        exact HFIN.out (mj, Sj) _ HE2.out HSJ.out HWJ.out HKJ.out HBJ.out
  have q2 : (k == 2) = false := beq_eq_false_iff_ne.2 k2
  rw [if_neg (by omega)] at hR
  have HR := Lib.hid hR
  clear hR k1 k5 k0 k2 k3 k4
  go_wp2_with fail
  go_ret
  exact HFIN.out (false, S) _ HR.out HS2.out HW.out (Kin.refl S) HB2.out
end Go.Proofs.Ytldoinfbimelpaa
