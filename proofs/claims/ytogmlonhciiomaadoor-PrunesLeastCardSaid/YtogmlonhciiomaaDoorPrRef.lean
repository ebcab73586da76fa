/- The document's small functions: tells, decided, like, step, last, differ, after. -/
import Derived.Test.YtogmlonhciiomaaDoorPrRRun
namespace Go.Proofs.YtogmlonhciiomaaDoor
open Go.RowKit

/-- a state, or none, as a number -/
def oi : Option Nat → Int
  | none => -1
  | some i => i
/-- is it one of these? -/
def OIn (n : Nat) (s : Option Nat) : Prop := ∀ i, s = some i → i < n
theorem OIn.none (n : Nat) : OIn n none := fun _ h => by cases h
theorem go_in {a : Aut} (ok : Okay a) (i : Nat) (tok : Int) : OIn a.length (a.go i tok) := fun j h => by
  unfold Aut.go at h
  obtain ⟨e, he, rfl⟩ := Option.map_eq_some_iff.1 h
  obtain ⟨k, h1, h2⟩ := ok.tgt i e (stepE_some he).1
  rw [h1, Int.toNat_natCast]
  exact h2
theorem after_in {a : Aut} (ok : Okay a) {s : Option Nat} (hs : OIn a.length s) (tok : Int) : OIn a.length (a.after s tok) := by
  cases s with
  | none => exact OIn.none _
  | some i =>
    show OIn _ (if a.kind i = 0 then a.go i tok else some i)
    split
    · exact go_in ok i tok
    · exact hs
theorem tells_len {a : Aut} (ha : a.Few) (s : Option Nat) : (a.tells s).2.length ≤ 400 := by
  cases s with
  | none => simp [Aut.tells]
  | some i =>
    show (a.alts i).length ≤ 400
    rcases Nat.lt_or_ge i a.length with h | h
    · rw [(Aut.at h).2.1]; exact ha.alts _ (List.getElem_mem h)
    · rw [(Aut.out h).2.1]; simp
theorem last_len {a : Aut} (ha : a.Few) (s : Option Nat) : (a.last s).2.length ≤ 400 := by
  unfold Aut.last
  split
  · split
    · simp
    · exact tells_len ha _
  · exact tells_len ha s

/-- a kind, and alternatives -/
def TellIs (p : Int × List Int) (W : World) (e : Ending) (W' : World) : Prop := ∃ av, e = .returned (.tuple #[.int .i64 p.1, av]) ∧ IntsV W' W'.heap.size av p.2 ∧ Grew W W'
theorem tellIs_of {p : Int × List Int} {W W' : World} {kd : Int} {al : List Int} {av : Value} (h : p = (kd, al)) (hv : IntsV W' W'.heap.size av al) (hg : Grew W W') : TellIs p W (.returned (.tuple #[.int .i64 kd, av])) W' := by
  subst h
  exact ⟨_, rfl, hv, hg⟩
/-- such a pair, as a value -/
def TupAt (k : Int) (l : List Int) (v : Value) (w : World) : Prop := ∃ av, v = .tuple #[.int .i64 k, av] ∧ IntsV w w.heap.size av l
theorem TupAt.keep {k : Int} {l : List Int} {v : Value} {w w' : World} (hg : Grew w w') (h : TupAt k l v w) : TupAt k l v w' := by
  obtain ⟨av, h1, h2⟩ := h
  exact ⟨av, h1, h2.grew hg⟩
def IvAt (l : List Int) (v : Value) (w : World) : Prop := IntsV w w.heap.size v l
theorem IvAt.keep {l : List Int} {v : Value} {w w' : World} (hg : Grew w w') (h : IvAt l v w) : IvAt l v w' := IntsV.grew hg h

set_option maxHeartbeats 2000000 in
theorem rtells_ok (a : Aut) (s : Option Nat) (hs : OIn a.length s) (W : World) (v : Value) (hA : AutV .i64 W W.heap.size v a) : Calls Tryd.prog 52 #[.agg #[v], .int .i64 (oi s)] W (TellIs (a.tells s) W) := by
  obtain ⟨ad, cap, rfl, _, hA⟩ := hA
  obtain ⟨w1, hw1⟩ : ∃ w1, W.alloc (.cells #[.slice ad a.length cap] 31) = w1 := ⟨_, rfl⟩
  have g1 : Grew W w1 := hw1 ▸ grew_alloc W _
  have o1 : Owns w1 W.heap.size [.slice ad a.length cap] 31 := hw1 ▸ Owns.alloc W _ _
  have HG := Lib.hid g1
  have q0 := o1.cell_at (i := 0) rfl
  have ql := o1.lt
  cases s with
  | none =>
    clear hA g1 o1
    unfold oi
    go_enter Tryd.func52, Tryd.ntmps52
    go_wp2_with fail
    go_ret2
    exact ⟨_, rfl, show IntsV _ _ _ [] from ⟨none, 0, rfl, Nat.le_refl _, fun k hk => absurd hk (by simp)⟩, HG.out⟩
  | some i =>
    have hi := hs i rfl
    obtain ⟨b, off, v0, v1, v2, rfl, hbl, e0, e1, e2, hst⟩ := hA i hi
    obtain ⟨rfl, hal, hE⟩ := hst
    obtain ⟨x1, n1, rfl, _, _⟩ := id hal
    obtain ⟨k1, k2, k3⟩ := Aut.at hi
    have r0 := (g1.cells _ _ hbl).trans e0
    have r1 := (g1.cells _ _ hbl).trans e1
    have lb : b < w1.heap.size := Nat.lt_of_lt_of_le hbl g1.size
    have d0 : decide ((i : Int) < 0) = false := decide_eq_false (by omega)
    rw [← k1] at r0
    rw [← k2] at r1 hal
    have HAL := Lib.hid hal
    show Calls _ _ _ _ (TellIs (a.kind i, a.alts i) W)
    generalize a.kind i = kd at *
    generalize a.alts i = al at *
    clear e0 e1 e2 hal hE g1 o1 k1 k2 k3 hA hbl
    unfold oi
    go_enter Tryd.func52, Tryd.ntmps52
    go_wp2_with fail
    refine wp_region_hav_lit follows (by kernel_rfl) ?_
    repeat (first
      | (refine HavG.skip (fun _ => rfl) ?_; simp only [Act.put, List.setIfInBounds_toArray, List.set_cons_zero, List.set_cons_succ])
      | (refine HavG.val (fun _ => rfl) ?_ (fun x w hw _ => ?_) ?_; rotate_left; (focus (have hc := hw.cells; clear hw; go_simp; first | done | rfl)); simp only [Act.put, List.setIfInBounds_toArray, List.set_cons_zero, List.set_cons_succ]))
    refine HavG.tail (by kernel_rfl) (by kernel_rfl) (fun x wz hw _ => ?_)
    have HW := Lib.hid (show Grew w1 wz from hw)
    clear hw
    go_wp2_with fail
    go_ret2
    exact ⟨_, rfl, HAL.out.grew (HG.out.trans HW.out), HG.out.trans HW.out⟩

theorem rdecided_ok (k : Int) (W : World) : Calls Tryd.prog 53 #[.int .i64 k] W fun e W' => e = .returned (.bool (decK k)) ∧ Grew W W' := by
  unfold decK
  by_cases h : k = 1
  · subst h
    go_enter Tryd.func53, Tryd.ntmps53
    go_wp2_with fail
    go_ret
    exact ⟨rfl, Grew.refl _⟩
  · have h1 : (k == 1) = false := beq_eq_false_iff_ne.2 h
    have H1 := Lib.hid h1
    clear h
    go_enter Tryd.func53, Tryd.ntmps53
    go_wp2_with fail
    go_ret
    exact ⟨by rw [H1.out]; rfl, Grew.refl _⟩

set_option maxHeartbeats 2000000 in
theorem rstep_ok (a : Aut) (ha : a.Few) (ok : Okay a) (i : Nat) (hi : i < a.length) (tok : Int) (W : World) (v : Value) (hA : AutV .i64 W W.heap.size v a) : Calls Tryd.prog 56 #[.agg #[v], .int .i64 i, .int .i64 tok] W fun e W' => e = .returned (.int .i64 (oi (a.go i tok))) ∧ Grew W W' := by
  obtain ⟨ad, cap, rfl, _, hA⟩ := hA
  have hl := ha.states
  obtain ⟨w1, hw1⟩ : ∃ w1, W.alloc (.cells #[.slice ad a.length cap] 31) = w1 := ⟨_, rfl⟩
  have g1 : Grew W w1 := hw1 ▸ grew_alloc W _
  have o1 : Owns w1 W.heap.size [.slice ad a.length cap] 31 := hw1 ▸ Owns.alloc W _ _
  have HG := Lib.hid g1
  have q0 := o1.cell_at (i := 0) rfl
  have ql := o1.lt
  obtain ⟨b, off, v0, v1, v2, rfl, hbl, e0, e1, e2, hst⟩ := hA i hi
  obtain ⟨rfl, hal, hE⟩ := hst
  obtain ⟨x2, n2, rfl, _, hE⟩ := hE
  have r2 := (g1.cells _ _ hbl).trans e2
  have lb : b < w1.heap.size := Nat.lt_of_lt_of_le hbl g1.size
  have hae := ha.edges _ (List.getElem_mem hi)
  have hK := (Aut.at hi).2.2
  obtain ⟨l, hel⟩ : ∃ l, a[i].edges = l := ⟨_, rfl⟩
  rw [hel] at r2 hE hae hK
  have HOI : Hid (∀ e ∈ l, e.tgt = ((e.tgt.toNat : Nat) : Int)) := Lib.hid fun e he => by
    obtain ⟨k, h1, _⟩ := ok.tgt i e (by rw [hK]; exact he)
    omega
  have hgo : a.go i tok = (stepE l tok).map fun e => e.tgt.toNat := by unfold Aut.go; rw [hK]
  have HGO := Lib.hid hgo
  have HE := Lib.hid hE
  obtain ⟨m, hm⟩ : ∃ m, l.length = m := ⟨_, rfl⟩
  have HM := Lib.hid hm
  rw [hm] at r2 hae
  clear hel hE hgo e0 e1 e2 hal g1 o1 hA hbl hm hK
  go_enter Tryd.func56, Tryd.ntmps56
  go_upto_region 2 with fail
  clear r2 lb q0 ql hw1
  go_wp2_with fail
  go_loopw [8] (fun ci wr => ∃ c : Nat, ci = .int .i64 c ∧ c ≤ m ∧ Hid (stepE (l.drop c) tok = stepE l tok) ∧ Hid (Grew w1 wr)) (fun ci _ => m - (intOf ci).toNat)
  case atStart => exact ⟨0, rfl, by omega, rfl, Grew.refl _⟩
  case round =>
    obtain ⟨c, rfl, hc, HS, HGR⟩ := hrel
    have HGW := Lib.hid (HG.out.trans HGR.out)
    by_cases hcm : c < m
    · have d1 : decide ((c : Int) < (m : Int)) = true := decide_eq_true (by omega)
      have hcl : c < l.length := by rw [HM.out]; exact hcm
      obtain ⟨b6, off6, rfl, hb6, f0, f1⟩ := HE.out c hcl
      have f0 := (HGW.out.cells _ _ hb6).trans f0
      have f1 := (HGW.out.cells _ _ hb6).trans f1
      have fl : b6 < wr.heap.size := Nat.lt_of_lt_of_le hb6 HGW.out.size
      have hst := HS.out
      have hmem : l[c] ∈ l := List.getElem_mem hcl
      unfold stepE at hst
      rw [List.drop_eq_getElem_cons hcl, List.find?_cons] at hst
      obtain ⟨ed, hed⟩ : ∃ ed, l[c] = ed := ⟨_, rfl⟩
      rw [hed] at f0 f1 hst hmem
      obtain ⟨y, t⟩ := ed
      simp only at f0 f1 hst
      by_cases hy : y = tok
      · subst hy
        have h1 : (y == y) = true := by simp
        rw [h1] at hst
        have hx : oi (a.go i y) = t := by
          rw [HGO.out]
          unfold stepE
          rw [← hst]
          show ((t.toNat : Nat) : Int) = t
          exact (HOI.out _ hmem).symm
        have HX := Lib.hid hx
        clear hst hmem hed hx
        go_wp2_with fail
        go_ret
        exact ⟨by rw [HX.out]; rfl, HGW.out⟩
      · have h1 : (y == tok) = false := beq_eq_false_iff_ne.2 hy
        rw [h1] at hst
        have HST := Lib.hid (show stepE (l.drop (c + 1)) tok = stepE l tok from hst)
        clear hst hmem hed
        go_wp2_with fail
        exact ⟨⟨c + 1, by go_num, by omega, HST.out, HGR.out⟩, by simp [intOf]; omega⟩
    · have d1 : decide ((c : Int) < (m : Int)) = false := decide_eq_false (by omega)
      have hx : oi (a.go i tok) = -1 := by
        rw [HGO.out, ← HS.out, List.drop_of_length_le (by rw [HM.out]; omega)]
        rfl
      have HX := Lib.hid hx
      clear hx
      go_wp2_with fail
      go_ret
      exact ⟨by rw [HX.out]; rfl, HGW.out⟩

set_option maxHeartbeats 2000000 in
theorem rlike_ok (l m : List Int) (W : World) (v u : Value) (_hl : l.length ≤ 1000000) (_hm : m.length ≤ 1000000) (hv : IntsV W W.heap.size v l) (hu : IntsV W W.heap.size u m) :
    Calls Tryd.prog 54 #[v, u] W fun e W' => e = .returned (.bool (decide (l = m))) ∧ Grew W W' := by
  obtain ⟨a, cap, rfl, _, hA⟩ := hv
  obtain ⟨b, cap', rfl, _, hB⟩ := hu
  have HA := Lib.hid hA
  have HB := Lib.hid hB
  clear hA hB
  by_cases hlen : l.length = m.length
  · have hne : ((l.length : Int) != (m.length : Int)) = false := by simp; omega
    have HLN := Lib.hid hlen
    obtain ⟨n, hn⟩ : ∃ n, l.length = n := ⟨_, rfl⟩
    have hn2 : m.length = n := by omega
    have HN := Lib.hid hn
    have HN2 := Lib.hid hn2
    rw [hn] at _hl hne ⊢
    rw [hn2] at _hm hne ⊢
    clear hlen hn hn2
    go_enter Tryd.func54, Tryd.ntmps54
    go_wp2_with fail
    clear hne
    go_loopw [5] (fun ci wr => ∃ j : Nat, ci = .int .i64 j ∧ j ≤ n ∧ Hid (∀ i (h1 : i < l.length) (h2 : i < m.length), i < j → l[i] = m[i]) ∧ Hid (Grew W wr)) (fun ci _ => n - (intOf ci).toNat)
    case atStart => exact ⟨0, rfl, by omega, fun _ _ _ h => absurd h (by omega), Grew.refl _⟩
    case round =>
      obtain ⟨j, rfl, hj, HEQ, HGR⟩ := hrel
      by_cases hjn : j < n
      · have d1 : decide ((j : Int) < (n : Int)) = true := decide_eq_true (by omega)
        have h1 : j < l.length := by rw [HN.out]; exact hjn
        have h2 : j < m.length := by rw [HN2.out]; exact hjn
        obtain ⟨b1, o1, rfl, hb1, c1⟩ := HA.out j h1
        obtain ⟨b2, o2, rfl, hb2, c2⟩ := HB.out j h2
        have c1 := (HGR.out.cells _ _ hb1).trans c1
        have c2 := (HGR.out.cells _ _ hb2).trans c2
        have l1 : b1 < wr.heap.size := Nat.lt_of_lt_of_le hb1 HGR.out.size
        have l2 : b2 < wr.heap.size := Nat.lt_of_lt_of_le hb2 HGR.out.size
        have hnext : l[j] = m[j] → ∀ i (h1 : i < l.length) (h2 : i < m.length), i < j + 1 → l[i] = m[i] := fun e i g1 g2 hi => by
          rcases Nat.lt_or_ge i j with g | g
          · exact HEQ.out i g1 g2 g
          · obtain rfl : i = j := by omega
            exact e
        have hstop : l[j] ≠ m[j] → l ≠ m := fun h e => by subst e; exact h rfl
        have HNX := Lib.hid hnext
        have HST := Lib.hid hstop
        obtain ⟨x, hx⟩ : ∃ x, l[j] = x := ⟨_, rfl⟩
        obtain ⟨y, hy⟩ : ∃ y, m[j] = y := ⟨_, rfl⟩
        rw [hx] at c1 HNX HST
        rw [hy] at c2 HNX HST
        clear hnext hstop hx hy
        by_cases he : x = y
        · subst he
          have hne : (x != x) = false := by simp
          have HE := Lib.hid (HNX.out rfl)
          go_wp2_with fail
          refine wp_region_hav_lit follows (by kernel_rfl) ?_
          repeat (first
            | (refine HavG.skip (fun _ => rfl) ?_; simp only [Act.put, List.setIfInBounds_toArray, List.set_cons_zero, List.set_cons_succ])
            | (refine HavG.val (fun _ => rfl) ?_ (fun x w hw _ => ?_) ?_; rotate_left; (focus (have hc := hw.cells; clear hw; go_simp; first | done | rfl)); simp only [Act.put, List.setIfInBounds_toArray, List.set_cons_zero, List.set_cons_succ]))
          refine HavG.tail (by kernel_rfl) (by kernel_rfl) (fun x wz hw _ => ?_)
          have HW := Lib.hid (show Grew wr wz from hw)
          clear hw
          go_wp2_with fail
          exact ⟨⟨j + 1, by go_num, by omega, HE.out, HGR.out.trans HW.out⟩, by simp [intOf]; omega⟩
        · have hne : (x != y) = true := by simpa using he
          have HE := Lib.hid (decide_eq_false (HST.out he))
          clear he
          go_wp2_with fail
          refine wp_region_hav_lit follows (by kernel_rfl) ?_
          repeat (first
            | (refine HavG.skip (fun _ => rfl) ?_; simp only [Act.put, List.setIfInBounds_toArray, List.set_cons_zero, List.set_cons_succ])
            | (refine HavG.val (fun _ => rfl) ?_ (fun x w hw _ => ?_) ?_; rotate_left; (focus (have hc := hw.cells; clear hw; go_simp; first | done | rfl)); simp only [Act.put, List.setIfInBounds_toArray, List.set_cons_zero, List.set_cons_succ]))
          refine HavG.tail (by kernel_rfl) (by kernel_rfl) (fun x wz hw _ => ?_)
          have HW := Lib.hid (show Grew wr wz from hw)
          clear hw
          go_wp2_with fail
          go_ret
          exact ⟨by rw [HE.out]; rfl, HGR.out.trans HW.out⟩
      · have d1 : decide ((j : Int) < (n : Int)) = false := decide_eq_false (by omega)
        have HE := Lib.hid (decide_eq_true (List.ext_getElem HLN.out fun i h1 h2 => HEQ.out i h1 h2 (by have := HN.out; omega)))
        go_wp2_with fail
        go_ret
        exact ⟨by rw [HE.out]; rfl, HGR.out⟩
  · have hne : ((l.length : Int) != (m.length : Int)) = true := by simp; omega
    have HE := Lib.hid (decide_eq_false (fun e : l = m => hlen (by rw [e])))
    clear hlen
    go_enter Tryd.func54, Tryd.ntmps54
    go_wp2_with fail
    go_ret
    exact ⟨by rw [HE.out]; rfl, Grew.refl _⟩

theorem last_sure {a : Aut} {s : Option Nat} (h : (a.tells s).1 ≠ 0) : a.last s = a.tells s := by unfold Aut.last; rw [if_neg h]
theorem last_open {a : Aut} {s : Option Nat} (h : (a.tells s).1 = 0) : a.last s = if (a.tells (a.goO s (-1))).1 = 0 then (2, []) else a.tells (a.goO s (-1)) := by unfold Aut.last; rw [if_pos h]

set_option maxHeartbeats 2000000 in
theorem rlast_ok (a : Aut) (ha : a.Few) (ok : Okay a) (s : Option Nat) (hs : OIn a.length s) (W : World) (v : Value) (hA : AutV .i64 W W.heap.size v a) : Calls Tryd.prog 55 #[.agg #[v], .int .i64 (oi s)] W (TellIs (a.last s) W) := by
  have hA2 := hA
  obtain ⟨ad, cap, rfl, _, hA⟩ := hA
  have hl := ha.states
  obtain ⟨w1, hw1⟩ : ∃ w1, W.alloc (.cells #[.slice ad a.length cap] 31) = w1 := ⟨_, rfl⟩
  have g1 : Grew W w1 := hw1 ▸ grew_alloc W _
  have o1 : Owns w1 W.heap.size [.slice ad a.length cap] 31 := hw1 ▸ Owns.alloc W _ _
  have HG := Lib.hid g1
  have HO := Lib.hid o1
  have q0 := o1.cell_at (i := 0) rfl
  have HT1 := Lib.hid (rtells_ok a s hs w1 _ (hA2.grew g1))
  have HTS : Hid (∀ u t, Grew w1 u → OIn a.length t → Calls Tryd.prog 52 #[.agg #[.slice ad a.length cap], .int .i64 (oi t)] u (TellIs (a.tells t) u)) := Lib.hid fun u t hg ht => rtells_ok a t ht u _ (hA2.grew (g1.trans hg))
  have HST : Hid (∀ u i, Grew w1 u → i < a.length → Calls Tryd.prog 56 #[.agg #[.slice ad a.length cap], .int .i64 i, .int .i64 (-1)] u fun e W' => e = .returned (.int .i64 (oi (a.go i (-1)))) ∧ Grew u W') := Lib.hid fun u i hg hi => rstep_ok a ha ok i hi (-1) u _ (hA2.grew (g1.trans hg))
  have HOK := Lib.hid ok
  have HSS := Lib.hid hs
  obtain ⟨z, hz⟩ : ∃ z, oi s = z := ⟨_, rfl⟩
  have HZ := Lib.hid hz
  rw [hz] at HT1 ⊢
  obtain ⟨p, hp⟩ : ∃ p, a.tells s = p := ⟨_, rfl⟩
  have HP := Lib.hid hp
  rw [hp] at HT1
  obtain ⟨kd, al⟩ := p
  clear g1 o1 hA hA2 ok hs hz hp
  go_enter Tryd.func55, Tryd.ntmps55
  go_wp2_with fail
  clear hw1
  refine HT1.out.mono ?_
  rintro e w2 ⟨av, rfl, hav, hg2⟩
  simp only at hav ⊢
  have HAV := Lib.hid hav
  obtain ⟨xa, xc, rfl, _, _⟩ := id hav
  have HG2 := Lib.hid hg2
  have q2 := (HO.out.keep hg2).cell_at (i := 0) rfl
  clear hav hg2 HT1
  by_cases hk : kd = 0
  · subst hk
    obtain ⟨i, hi⟩ : ∃ i, s = some i := by
      cases s with
      | none => have := HP.out; unfold Aut.tells at this; cases this
      | some i => exact ⟨i, rfl⟩
    subst hi
    have hzi : z = (i : Int) := HZ.out.symm
    subst hzi
    have HGO := Lib.hid (go_in HOK.out i (-1))
    have HLS := Lib.hid (last_open (a := a) (s := some i) (by rw [HP.out]))
    have HC1 := Lib.hid (HST.out w2 i HG2.out (HSS.out i rfl))
    obtain ⟨t, ht⟩ : ∃ t, a.go i (-1) = t := ⟨_, rfl⟩
    rw [ht] at HGO HC1
    have HTT := Lib.hid (show a.goO (some i) (-1) = t from ht)
    obtain ⟨zt, hzt⟩ : ∃ zt, oi t = zt := ⟨_, rfl⟩
    have HZT := Lib.hid hzt
    rw [hzt] at HC1
    clear ht hzt
    go_upto_region 4 with fail
    have HC2 : Hid (∀ u, Grew w1 u → Calls Tryd.prog 52 #[.agg #[.slice ad a.length cap], .int .i64 zt] u (TellIs (a.tells t) u)) := Lib.hid fun u hg => by
      rw [← HZT.out]
      exact HTS.out u t hg HGO.out
    obtain ⟨p2, hp2⟩ : ∃ p2, a.tells t = p2 := ⟨_, rfl⟩
    rw [hp2] at HC2
    have HP2 := Lib.hid hp2
    clear hp2
    obtain ⟨k2, l2⟩ := p2
    have HST2 : Hid (∀ u, Grew w2 u → Calls Tryd.prog 56 #[.agg #[.slice ad a.length cap], .int .i64 i, .int .i64 (-1)] u fun e W' => e = .returned (.int .i64 zt) ∧ Grew u W') := Lib.hid fun u hg => by
      have := HST.out u i (HG2.out.trans hg) (HSS.out i rfl)
      rw [show a.go i (-1) = t from HTT.out, HZT.out] at this
      exact this
    rw [HTT.out, HP2.out] at HLS
    simp only at HLS
    have ql2 := (HO.out.keep HG2.out).lt
    clear HC1
    refine wp_region_hav_lit follows (by kernel_rfl) ?_
    repeat (first
      | (refine HavG.skip (fun _ => rfl) ?_; simp only [Act.put, List.setIfInBounds_toArray, List.set_cons_zero, List.set_cons_succ])
      | (refine HavG.val (fun _ => rfl) ?_ (fun x w hw _ => ?_) ?_; rotate_left; (focus (have hc := hw.cells; clear hw; go_simp; first | done | rfl)); simp only [Act.put, List.setIfInBounds_toArray, List.set_cons_zero, List.set_cons_succ]))
    refine HavG.det (fun _ => rfl) (.int .i64 zt) (fun x w hw _ => ?_) ?_
    · have HW := Lib.hid hw
      clear hw
      go_simp
      refine (HST2.out _ HW.out).mono ?_
      rintro e w' ⟨rfl, hb⟩
      exact ⟨rfl, hb⟩
    simp only [Act.put, List.setIfInBounds_toArray, List.set_cons_zero, List.set_cons_succ]
    refine HavG.any (fun _ => rfl) (TupAt k2 l2) (fun _ _ _ hg h => h.keep hg) (fun x u hw hd => ?_) ?_
    · have HW := Lib.hid hw
      clear hw
      go_simp
      refine (HC2.out _ (HG2.out.trans HW.out)).mono ?_
      rintro e w' ⟨bv, rfl, hbv, hb⟩
      exact ⟨hb, bv, rfl, hbv⟩
    simp only [Act.put, List.setIfInBounds_toArray, List.set_cons_zero, List.set_cons_succ]
    refine HavG.any (fun _ => rfl) (TupAt k2 l2) (fun _ _ _ hg h => h.keep hg) (fun x u hw hd => ?_) ?_
    · have h7 := hd _ (List.mem_append_right _ (List.mem_singleton.2 rfl)) (by kernel_rfl)
      dsimp only at h7
      clear hd hw
      generalize x (0 + 1 + 1 + 1 + 1) = y4 at *
      have H7 := Lib.hid h7
      clear h7
      go_simp
      exact ⟨Grew.refl _, H7.out⟩
    simp only [Act.put, List.setIfInBounds_toArray, List.set_cons_zero, List.set_cons_succ]
    refine HavG.det (fun _ => rfl) (.int .i64 k2) (fun x u hw hd => ?_) ?_
    · have h8 := hd _ (List.mem_append_right _ (List.mem_singleton.2 rfl)) (by kernel_rfl)
      dsimp only at h8
      clear hd hw
      generalize x (0 + 1 + 1 + 1 + 1 + 1) = y5 at *
      obtain ⟨oc, rfl, ho⟩ := h8
      clear ho
      go_simp
      exact Grew.refl _
    simp only [Act.put, List.setIfInBounds_toArray, List.set_cons_zero, List.set_cons_succ]
    refine HavG.any (fun _ => rfl) (IvAt l2) (fun _ _ _ hg h => h.keep hg) (fun x u hw hd => ?_) ?_
    · have h8 := hd _ (List.mem_append_right _ (List.mem_singleton.2 rfl)) (by kernel_rfl)
      dsimp only at h8
      clear hd hw
      generalize x (0 + 1 + 1 + 1 + 1 + 1) = y5 at *
      obtain ⟨oc, rfl, ho⟩ := h8
      have HO' := Lib.hid ho
      clear ho
      go_simp
      exact ⟨Grew.refl _, HO'.out⟩
    simp only [Act.put, List.setIfInBounds_toArray, List.set_cons_zero, List.set_cons_succ]
    repeat (first
      | (refine HavG.skip (fun _ => rfl) ?_; simp only [Act.put, List.setIfInBounds_toArray, List.set_cons_zero, List.set_cons_succ])
      | (refine HavG.val (fun _ => rfl) ?_ (fun x w hw _ => ?_) ?_; rotate_left; (focus (have hc := hw.cells; clear hw; go_simp; first | done | rfl)); simp only [Act.put, List.setIfInBounds_toArray, List.set_cons_zero, List.set_cons_succ]))
    refine HavG.tail (by kernel_rfl) (by kernel_rfl) (fun x w3 hw hx => ?_)
    have hx8 := hx _ (List.mem_append_right _ (List.mem_singleton.2 rfl))
    clear hx
    dsimp only at hx8
    generalize x (0 + 1 + 1 + 1 + 1) = y4 at *
    generalize x (0 + 1 + 1 + 1 + 1 + 1) = y5 at *
    generalize x (0 + 1 + 1 + 1 + 1 + 1 + 1 + 1) = y7 at *
    obtain ⟨ba, bc, rfl, _, _⟩ := id hx8
    have HX8 := Lib.hid hx8
    have HG3 := Lib.hid (HG.out.trans (HG2.out.trans hw))
    clear hx8 hw
    by_cases hk2 : k2 = 0
    · subst hk2
      have HLS2 := Lib.hid (show a.last (some i) = (2, []) by rw [HLS.out]; rfl)
      go_wp2_with fail
      go_ret2
      exact tellIs_of HLS2.out (show IntsV _ _ _ [] from ⟨none, 0, rfl, Nat.le_refl _, fun k hk => absurd hk (by simp)⟩) HG3.out
    · have h1 : (k2 == 0) = false := beq_eq_false_iff_ne.2 hk2
      have HLS2 := Lib.hid (show a.last (some i) = (k2, l2) by rw [HLS.out, if_neg hk2])
      clear hk2
      go_wp2_with fail
      go_ret2
      exact tellIs_of HLS2.out HX8.out HG3.out
  · have h1 : (kd != 0) = true := by simpa using hk
    have HLS := Lib.hid (last_sure (a := a) (s := s) (by rw [HP.out]; exact hk))
    rw [HP.out] at HLS
    clear hk
    go_wp2_with fail
    go_ret2
    exact tellIs_of HLS.out HAV.out (HG.out.trans HG2.out)
end Go.Proofs.YtogmlonhciiomaaDoor
