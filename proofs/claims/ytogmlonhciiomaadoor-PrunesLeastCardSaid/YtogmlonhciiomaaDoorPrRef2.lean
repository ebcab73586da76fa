/- The document's differ and after. -/
import Derived.Test.YtogmlonhciiomaaDoorPrRef
namespace Go.Proofs.YtogmlonhciiomaaDoor
open Go.RowKit

theorem differ_dec {a : Aut} {s t : Option Nat} (h : (decK (a.tells s).1 || decK (a.tells t).1) = true) : a.differ s t = !decide (a.tells s = a.tells t) := by unfold Aut.differ; rw [if_pos h]
theorem differ_last {a : Aut} {s t : Option Nat} (h : (decK (a.tells s).1 || decK (a.tells t).1) = false) : a.differ s t = !decide (a.last s = a.last t) := by unfold Aut.differ; rw [if_neg (by rw [h]; simp)]

set_option maxHeartbeats 4000000 in
theorem rdiffer_ok (a : Aut) (ha : a.Few) (ok : Okay a) (s t : Option Nat) (hs : OIn a.length s) (ht : OIn a.length t) (W : World) (v : Value) (hA : AutV .i64 W W.heap.size v a) : Calls Tryd.prog 49 #[.agg #[v], .int .i64 (oi s), .int .i64 (oi t)] W fun e W' => e = .returned (.bool (a.differ s t)) ∧ Grew W W' := by
  have hA2 := hA
  obtain ⟨ad, cap, rfl, _, hA⟩ := hA
  obtain ⟨w1, hw1⟩ : ∃ w1, W.alloc (.cells #[.slice ad a.length cap] 31) = w1 := ⟨_, rfl⟩
  have g1 : Grew W w1 := hw1 ▸ grew_alloc W _
  have o1 : Owns w1 W.heap.size [.slice ad a.length cap] 31 := hw1 ▸ Owns.alloc W _ _
  have HG := Lib.hid g1
  have HO := Lib.hid o1
  have q0 := o1.cell_at (i := 0) rfl
  obtain ⟨z, hz⟩ : ∃ z, oi s = z := ⟨_, rfl⟩
  obtain ⟨y, hy⟩ : ∃ y, oi t = y := ⟨_, rfl⟩
  obtain ⟨p, hp⟩ : ∃ p, a.tells s = p := ⟨_, rfl⟩
  obtain ⟨q, hq⟩ : ∃ q, a.tells t = q := ⟨_, rfl⟩
  obtain ⟨p', hp'⟩ : ∃ p, a.last s = p := ⟨_, rfl⟩
  obtain ⟨q', hq'⟩ : ∃ q, a.last t = q := ⟨_, rfl⟩
  have HTS : Hid (∀ u, Grew w1 u → Calls Tryd.prog 52 #[.agg #[.slice ad a.length cap], .int .i64 z] u (TellIs p u)) := Lib.hid fun u hg => by
    rw [← hz, ← hp]
    exact rtells_ok a s hs u _ (hA2.grew (g1.trans hg))
  have HTT : Hid (∀ u, Grew w1 u → Calls Tryd.prog 52 #[.agg #[.slice ad a.length cap], .int .i64 y] u (TellIs q u)) := Lib.hid fun u hg => by
    rw [← hy, ← hq]
    exact rtells_ok a t ht u _ (hA2.grew (g1.trans hg))
  have HLS : Hid (∀ u, Grew w1 u → Calls Tryd.prog 55 #[.agg #[.slice ad a.length cap], .int .i64 z] u (TellIs p' u)) := Lib.hid fun u hg => by
    rw [← hz, ← hp']
    exact rlast_ok a ha ok s hs u _ (hA2.grew (g1.trans hg))
  have HLT : Hid (∀ u, Grew w1 u → Calls Tryd.prog 55 #[.agg #[.slice ad a.length cap], .int .i64 y] u (TellIs q' u)) := Lib.hid fun u hg => by
    rw [← hy, ← hq']
    exact rlast_ok a ha ok t ht u _ (hA2.grew (g1.trans hg))
  have HL1 := Lib.hid (tells_len ha s)
  have HL2 := Lib.hid (tells_len ha t)
  have HL1b := Lib.hid (last_len ha s)
  have HL2b := Lib.hid (last_len ha t)
  have HD1 := Lib.hid (differ_dec (a := a) (s := s) (t := t))
  have HD2 := Lib.hid (differ_last (a := a) (s := s) (t := t))
  rw [hp] at HL1
  rw [hq] at HL2
  rw [hp'] at HL1b
  rw [hq'] at HL2b
  rw [hp, hq] at HD1 HD2
  rw [hp', hq'] at HD2
  obtain ⟨kd, al⟩ := p
  obtain ⟨kq, lq⟩ := q
  obtain ⟨kdb, alb⟩ := p'
  obtain ⟨kqb, lqb⟩ := q'
  rw [hz, hy]
  generalize a.differ s t = res at *
  clear g1 o1 hA hA2 hz hy hp hq hp' hq' ok hs ht ha
  go_enter Tryd.func49, Tryd.ntmps49
  go_wp2_with fail
  clear hw1
  refine (HTS.out w1 (Grew.refl _)).mono ?_
  rintro e w2 ⟨av, rfl, hav, hg2⟩
  simp only at hav ⊢
  have HAV := Lib.hid hav
  obtain ⟨xa, xc, rfl, _, _⟩ := id hav
  have HG2 := Lib.hid hg2
  have q2 := (HO.out.keep hg2).cell_at (i := 0) rfl
  clear hav hg2 q0
  go_wp2_with fail
  refine (HTT.out w2 HG2.out).mono ?_
  rintro e w9 ⟨bv, rfl, hbv, hg3⟩
  simp only at hbv ⊢
  have HV2 := Lib.hid hbv
  obtain ⟨ya, yc, rfl, _, _⟩ := id hbv
  have HV1 := Lib.hid (HAV.out.grew hg3)
  have HG3 := Lib.hid (HG2.out.trans hg3)
  clear hbv hg3 q2
  have HDK1 := Lib.hid fun u => rdecided_ok kd u
  have HDK2 := Lib.hid fun u => rdecided_ok kq u
  have HD1 : Hid ((decK kd || decK kq) = true → res = !decide ((kd, al) = (kq, lq))) := HD1
  have HD2 : Hid ((decK kd || decK kq) = false → res = !decide ((kdb, alb) = (kqb, lqb))) := HD2
  generalize decK kd = d1 at *
  generalize decK kq = d2 at *
  go_wp2_with fail
  refine (HDK1.out _).mono ?_
  rintro e w8 ⟨rfl, hg4⟩
  have HV1 := Lib.hid (HV1.out.grew hg4)
  have HV2 := Lib.hid (HV2.out.grew hg4)
  have HG4 := Lib.hid (HG3.out.trans hg4)
  have q4 := (HO.out.keep HG4.out).cell_at (i := 0) rfl
  clear hg4 HG3 HAV
  cases d1 with
  | true =>
    have HD := Lib.hid (HD1.out rfl)
    obtain ⟨w9, rfl⟩ : ∃ z, z = w8 := ⟨_, rfl⟩
    have HGW := Lib.hid (HG.out.trans HG4.out)
    by_cases hkk : kd = kq
    · subst hkk
      have hb1 : (kd != kd) = false := by simp
      have HLK := Lib.hid (rlike_ok al lq w9 _ _ (by have := HL1.out; omega) (by have := HL2.out; omega) HV1.out HV2.out)
      go_wp2_with fail
      refine HLK.out.mono ?_
      rintro e w10 ⟨rfl, hg10⟩
      have HG10 := Lib.hid (HGW.out.trans hg10)
      clear hg10 HLK
      go_wp2_with fail
      go_ret
      refine ⟨?_, HG10.out⟩
      rw [HD.out]
      by_cases hll : al = lq
      · subst hll; simp
      · rw [decide_eq_false hll, decide_eq_false (fun e => hll (Prod.mk.inj e).2)]; rfl
    · have hb1 : (kd != kq) = true := by simpa using hkk
      have HKK := Lib.hid hkk
      clear hkk
      go_wp2_with fail
      go_ret
      refine ⟨?_, HGW.out⟩
      rw [HD.out, decide_eq_false (fun e => HKK.out (Prod.mk.inj e).1)]
      rfl
  | false =>
    go_wp2_with fail
    refine (HDK2.out _).mono ?_
    rintro e w7 ⟨rfl, hg5⟩
    have HV1 := Lib.hid (HV1.out.grew hg5)
    have HV2 := Lib.hid (HV2.out.grew hg5)
    have HG5 := Lib.hid (HG4.out.trans hg5)
    have q5 := (HO.out.keep HG5.out).cell_at (i := 0) rfl
    clear hg5 HG4 q4
    cases d2 with
    | true =>
      have HD := Lib.hid (HD1.out rfl)
      obtain ⟨w9, rfl⟩ : ∃ z, z = w7 := ⟨_, rfl⟩
      have HGW := Lib.hid (HG.out.trans HG5.out)
      by_cases hkk : kd = kq
      · subst hkk
        have hb1 : (kd != kd) = false := by simp
        have HLK := Lib.hid (rlike_ok al lq w9 _ _ (by have := HL1.out; omega) (by have := HL2.out; omega) HV1.out HV2.out)
        go_wp2_with fail
        refine HLK.out.mono ?_
        rintro e w10 ⟨rfl, hg10⟩
        have HG10 := Lib.hid (HGW.out.trans hg10)
        clear hg10 HLK
        go_wp2_with fail
        go_ret
        refine ⟨?_, HG10.out⟩
        rw [HD.out]
        by_cases hll : al = lq
        · subst hll; simp
        · rw [decide_eq_false hll, decide_eq_false (fun e => hll (Prod.mk.inj e).2)]; rfl
      · have hb1 : (kd != kq) = true := by simpa using hkk
        have HKK := Lib.hid hkk
        clear hkk
        go_wp2_with fail
        go_ret
        refine ⟨?_, HGW.out⟩
        rw [HD.out, decide_eq_false (fun e => HKK.out (Prod.mk.inj e).1)]
        rfl
    | false =>
      have HD := Lib.hid (HD2.out rfl)
      clear HV1 HV2 HD1 HD2
      go_wp2_with fail
      refine (HLS.out w7 HG5.out).mono ?_
      rintro e w6 ⟨av, rfl, hav, hg6⟩
      simp only at hav ⊢
      have HAV := Lib.hid hav
      obtain ⟨xa, xc, rfl, _, _⟩ := id hav
      have HG6 := Lib.hid (HG5.out.trans hg6)
      have q6 := (HO.out.keep HG6.out).cell_at (i := 0) rfl
      clear hav hg6 q5
      go_wp2_with fail
      refine (HLT.out w6 HG6.out).mono ?_
      rintro e w9 ⟨bv, rfl, hbv, hg7⟩
      simp only at hbv ⊢
      have HV2b := Lib.hid hbv
      obtain ⟨ya, yc, rfl, _, _⟩ := id hbv
      have HV1b := Lib.hid (HAV.out.grew hg7)
      have HGW := Lib.hid (HG.out.trans (HG6.out.trans hg7))
      clear hbv hg7 q6
      by_cases hkk : kdb = kqb
      · subst hkk
        have hb1 : (kdb != kdb) = false := by simp
        have HLK := Lib.hid (rlike_ok alb lqb w9 _ _ (by have := HL1b.out; omega) (by have := HL2b.out; omega) HV1b.out HV2b.out)
        go_wp2_with fail
        refine HLK.out.mono ?_
        rintro e w10 ⟨rfl, hg10⟩
        have HG10 := Lib.hid (HGW.out.trans hg10)
        clear hg10 HLK
        go_wp2_with fail
        go_ret
        refine ⟨?_, HG10.out⟩
        rw [HD.out]
        by_cases hll : alb = lqb
        · subst hll; simp
        · rw [decide_eq_false hll, decide_eq_false (fun e => hll (Prod.mk.inj e).2)]; rfl
      · have hb1 : (kdb != kqb) = true := by simpa using hkk
        have HKK := Lib.hid hkk
        clear hkk
        go_wp2_with fail
        go_ret
        refine ⟨?_, HGW.out⟩
        rw [HD.out, decide_eq_false (fun e => HKK.out (Prod.mk.inj e).1)]
        rfl

set_option maxHeartbeats 2000000 in
theorem rafter_ok (a : Aut) (ha : a.Few) (ok : Okay a) (s : Option Nat) (hs : OIn a.length s) (tok : Int) (W : World) (v : Value) (hA : AutV .i64 W W.heap.size v a) : Calls Tryd.prog 50 #[.agg #[v], .int .i64 (oi s), .int .i64 tok] W fun e W' => e = .returned (.int .i64 (oi (a.after s tok))) ∧ Grew W W' := by
  have hA2 := hA
  obtain ⟨ad, cap, rfl, _, hA⟩ := hA
  have hl := ha.states
  obtain ⟨w1, hw1⟩ : ∃ w1, W.alloc (.cells #[.slice ad a.length cap] 31) = w1 := ⟨_, rfl⟩
  have g1 : Grew W w1 := hw1 ▸ grew_alloc W _
  have o1 : Owns w1 W.heap.size [.slice ad a.length cap] 31 := hw1 ▸ Owns.alloc W _ _
  have HG := Lib.hid g1
  have q0 := o1.cell_at (i := 0) rfl
  have ql := o1.lt
  cases s with
  | none =>
    clear g1 o1 hA hA2
    show Calls _ _ #[_, .int .i64 (-1), _] _ fun e W' => e = .returned (.int .i64 (-1)) ∧ Grew W W'
    go_enter Tryd.func50, Tryd.ntmps50
    go_wp2_with fail
    go_ret
    exact ⟨rfl, HG.out⟩
  | some i =>
    have hi := hs i rfl
    obtain ⟨b, off, v0, v1, v2, rfl, hbl, e0, e1, e2, hst⟩ := hA i hi
    obtain ⟨rfl, hal, hE⟩ := hst
    have r0 := (g1.cells _ _ hbl).trans e0
    rw [← (Aut.at hi).1] at r0
    have lb : b < w1.heap.size := Nat.lt_of_lt_of_le hbl g1.size
    have d0 : decide ((i : Int) < 0) = false := decide_eq_false (by omega)
    have HC := Lib.hid (rstep_ok a ha ok i hi tok w1 _ (hA2.grew g1))
    have HAF := Lib.hid (show a.after (some i) tok = if a.kind i = 0 then a.go i tok else some i from rfl)
    obtain ⟨kd, hkd⟩ : ∃ kd, a.kind i = kd := ⟨_, rfl⟩
    rw [hkd] at r0 HAF
    obtain ⟨res, hres⟩ : ∃ res, a.after (some i) tok = res := ⟨_, rfl⟩
    rw [hres] at HAF ⊢
    show Calls _ _ #[_, .int .i64 (i : Int), _] _ _
    clear g1 o1 hA hA2 e0 e1 e2 hal hE hkd hres hs hbl
    by_cases hk : kd = 0
    · subst hk
      have HR := Lib.hid (show a.go i tok = res by rw [HAF.out]; rfl)
      rw [HR.out] at HC
      go_enter Tryd.func50, Tryd.ntmps50
      go_wp2_with fail
      refine HC.out.mono ?_
      rintro e w2 ⟨rfl, hg2⟩
      have HG2 := Lib.hid (HG.out.trans hg2)
      clear hg2
      go_wp2_with fail
      go_ret
      exact ⟨rfl, HG2.out⟩
    · have h1 : (kd != 0) = true := by simpa using hk
      have HR := Lib.hid (show res = some i by rw [HAF.out, if_neg hk])
      clear hk
      go_enter Tryd.func50, Tryd.ntmps50
      go_wp2_with fail
      go_ret
      exact ⟨by rw [HR.out]; rfl, HG.out⟩
end Go.Proofs.YtogmlonhciiomaaDoor
