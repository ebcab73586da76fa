/- The document's May. -/
import Derived.Test.YtogmlonhciiomaaDoorPrRRun
import Derived.Deep.DeepCutAuto
namespace Go.Proofs.YtogmlonhciiomaaDoor
open Go.RowKit

theorem may_no {a : Aut} {i : Nat} {al tk : Int} (hi : i < a.length) (h : a[i].fineB a.length al tk = false) : a.mayB al tk = false := by
  unfold Aut.mayB
  have : (a.all fun s => s.fineB a.length al tk) = false := by
    rw [List.all_eq_false]
    exact ⟨a[i], List.getElem_mem hi, by simp [h]⟩
  rw [this, Bool.and_false]
theorem may_len0 {a : Aut} {al tk : Int} (h : a.length < 1 ∨ 4096 < a.length) : a.mayB al tk = false := by
  unfold Aut.mayB
  rcases h with h | h
  · rw [decide_eq_false (by omega), Bool.false_and, Bool.false_and]
  · rw [decide_eq_false (show ¬ a.length ≤ 4096 by omega), Bool.and_false, Bool.false_and]
theorem may_yes {a : Aut} {al tk : Int} (h1 : 1 ≤ a.length) (h2 : a.length ≤ 4096) (h : ∀ k (hk : k < a.length), a[k].fineB a.length al tk = true) : a.mayB al tk = true := by
  unfold Aut.mayB
  rw [decide_eq_true h1, decide_eq_true h2, Bool.true_and, Bool.true_and, List.all_eq_true]
  intro s hs
  obtain ⟨k, hk, rfl⟩ := List.mem_iff_getElem.1 hs
  exact h k hk
/-- a state's kind, and what it may hold -/
def Stt.kindB (s : Stt) : Bool := if s.kind = 0 then s.alts.isEmpty else if s.kind = 1 then s.alts.length == 1 && s.edges.isEmpty else if s.kind = 3 then decide (1 < s.alts.length) && s.edges.isEmpty else s.kind == 2 && s.alts.isEmpty && s.edges.isEmpty
def Stt.toB (s : Stt) (n : Int) : Bool := s.edges.all fun e => decide (0 ≤ e.tgt) && decide (e.tgt < n)
theorem fine_is (s : Stt) (n al tk : Int) : s.fineB n al tk = (s.toB n && riseB s.alts 0 al && riseB (s.edges.map (·.tok)) (-1) tk && s.kindB) := rfl
/-- how far a rising row has come -/
structure RiseAt (l : List Int) (b most : Int) (c : Nat) (lo : Int) : Prop where
  eq : riseB l b most = riseB (l.drop c) lo most
  ge : b ≤ lo
  prev : ∀ p, 0 < c → l[c - 1]? = some p → lo = p + 1
  first : c = 0 → lo = b
theorem RiseAt.start (l : List Int) (b most : Int) : RiseAt l b most 0 b := ⟨rfl, Int.le_refl _, fun _ h => absurd h (by omega), fun _ => rfl⟩
theorem RiseAt.fail {l : List Int} {b most : Int} {c : Nat} {lo : Int} (h : RiseAt l b most c lo) (hc : c < l.length) (hb : l[c] < b ∨ most ≤ l[c] ∨ (0 < c ∧ ∃ p, l[c - 1]? = some p ∧ l[c] ≤ p)) : riseB l b most = false := by
  rw [h.eq, List.drop_eq_getElem_cons hc, riseB, if_pos]
  simp only [Bool.or_eq_true, decide_eq_true_eq]
  have hge := h.ge
  rcases hb with g | g | ⟨g1, p, g2, g3⟩
  · exact .inl (by omega)
  · exact .inr g
  · have := h.prev p g1 g2
    exact .inl (by omega)
theorem RiseAt.next {l : List Int} {b most : Int} {c : Nat} {lo : Int} (h : RiseAt l b most c lo) (hc : c < l.length) (h1 : b ≤ l[c]) (h2 : l[c] < most) (h3 : 0 < c → ∀ p, l[c - 1]? = some p → p < l[c]) : RiseAt l b most (c + 1) (l[c] + 1) := by
  refine ⟨?_, by omega, fun p _ hp => ?_, fun h => absurd h (by omega)⟩
  · rw [h.eq, List.drop_eq_getElem_cons hc, riseB, if_neg]
    simp only [Bool.or_eq_true, decide_eq_true_eq, not_or, Int.not_lt, Int.not_le]
    refine ⟨?_, h2⟩
    rcases Nat.eq_zero_or_pos c with hc0 | hc0
    · rw [h.first hc0]; exact h1
    · have hp : l[c - 1]? = some l[c - 1] := List.getElem?_eq_getElem (by omega)
      rw [h.prev _ hc0 hp]
      have := h3 hc0 _ hp
      omega
  · rw [Nat.add_sub_cancel, List.getElem?_eq_getElem hc] at hp
    rw [Option.some.inj hp]
theorem RiseAt.fin {l : List Int} {b most : Int} {c : Nat} {lo : Int} (h : RiseAt l b most c lo) (hc : l.length ≤ c) : riseB l b most = true := by
  rw [h.eq, List.drop_of_length_le hc]
  rfl
theorem fine_alts {s : Stt} {n al tk : Int} (h : riseB s.alts 0 al = false) : s.fineB n al tk = false := by
  rw [fine_is, h]
  simp
theorem fine_toks {s : Stt} {n al tk : Int} (h : riseB (s.edges.map (·.tok)) (-1) tk = false) : s.fineB n al tk = false := by
  rw [fine_is, h]
  simp
theorem fine_to {s : Stt} {n al tk : Int} {c : Nat} (hc : c < s.edges.length) (h : s.edges[c].tgt < 0 ∨ n ≤ s.edges[c].tgt) : s.fineB n al tk = false := by
  have : s.toB n = false := by
    unfold Stt.toB
    rw [List.all_eq_false]
    refine ⟨s.edges[c], List.getElem_mem hc, ?_⟩
    rcases h with h | h <;> simp <;> omega
  rw [fine_is, this]
  simp
theorem fine_kind {s : Stt} {n al tk : Int} (h : s.kindB = false) : s.fineB n al tk = false := by
  rw [fine_is, h, Bool.and_false]
theorem kindB_of {s : Stt} {kd : Int} {p m : Nat} (h1 : s.kind = kd) (h2 : s.alts.length = p) (h3 : s.edges.length = m) : s.kindB = (if kd = 0 then decide (p = 0) else if kd = 1 then decide (p = 1) && decide (m = 0) else if kd = 3 then decide (1 < p) && decide (m = 0) else decide (kd = 2) && decide (p = 0) && decide (m = 0)) := by
  have e : ∀ {α : Type} (l : List α), l.isEmpty = decide (l.length = 0) := fun l => by cases l <;> simp
  unfold Stt.kindB
  rw [e, e, h1, h2, h3]
  have e1 : (p == 1) = decide (p = 1) := rfl
  have e2 : (kd == 2) = decide (kd = 2) := rfl
  rw [e1, e2]

set_option maxHeartbeats 4000000 in
set_option maxRecDepth 20000 in
theorem rMay_ok (a : Aut) (ha : a.Few) (hn : a.length ≤ reachN) (al tk : Int) (W : World) (v : Value) (hA : AutV .i64 W W.heap.size v a) :
    Calls Tryd.prog 16 #[.agg #[v], .int .i64 al, .int .i64 tk] W fun e W' => e = .returned (.bool (a.mayB al tk)) ∧ Grew W W' := by
  obtain ⟨ad, cap, rfl, hcap, hA⟩ := hA
  obtain ⟨w1, hw1⟩ : ∃ w1, W.alloc (.cells #[.slice ad a.length cap] 31) = w1 := ⟨_, rfl⟩
  have g1 : Grew W w1 := hw1 ▸ grew_alloc W _
  have o1 : Owns w1 W.heap.size [.slice ad a.length cap] 31 := hw1 ▸ Owns.alloc W _ _
  have HG := Lib.hid g1
  have HO := Lib.hid o1
  have HA := Lib.hid hA
  have HFEW := Lib.hid ha
  have q0 := o1.cell_at (i := 0) rfl
  have ql := o1.lt
  obtain ⟨S, hS⟩ : ∃ S, a.length = S := ⟨_, rfl⟩
  have HS := Lib.hid hS
  rw [hS] at q0 hn hw1 ⊢
  unfold reachN at hn
  clear g1 o1 hA ha hS hcap
  by_cases hs1 : S < 1 ∨ 4096 < S
  · have HB := Lib.hid (may_len0 (al := al) (tk := tk) (a := a) (by rw [HS.out]; exact hs1))
    by_cases hs0 : S < 1
    · have d1 : decide ((S : Int) < 1) = true := decide_eq_true (by omega)
      obtain rfl : S = 0 := by omega
      go_enter Tryd.func16, Tryd.ntmps16
      go_wp2_with fail
      go_ret
      exact ⟨by rw [HB.out]; rfl, HG.out⟩
    · have d1 : decide ((S : Int) < 1) = false := decide_eq_false (by omega)
      have d2 : decide ((4096 : Int) < (S : Int)) = true := decide_eq_true (by omega)
      go_enter Tryd.func16, Tryd.ntmps16
      go_wp2_with fail
      go_ret
      exact ⟨by rw [HB.out]; rfl, HG.out⟩
  · have d1 : decide ((S : Int) < 1) = false := decide_eq_false (by omega)
    have d2 : decide ((4096 : Int) < (S : Int)) = false := decide_eq_false (by omega)
    have HL1 : Hid (1 ≤ a.length ∧ a.length ≤ 4096) := Lib.hid (by rw [HS.out]; omega)
    have hs4 : S ≤ 4096 := by omega
    clear hs1
    go_enter Tryd.func16, Tryd.ntmps16
    go_wp2_with fail
    clear hw1 q0 ql d1 d2
    go_loopw [8] (fun ci wr => ∃ i : Nat, ci = .int .i64 i ∧ i ≤ S ∧ Hid (∀ k (hk : k < a.length), k < i → a[k].fineB a.length al tk = true) ∧ Hid (Grew w1 wr)) (fun ci _ => S - (intOf ci).toNat)
    case atStart => exact ⟨0, rfl, by omega, fun _ _ h => absurd h (by omega), Grew.refl _⟩
    case round =>
      obtain ⟨i, rfl, hi, HI, HGR⟩ := hrel
      have HGW := Lib.hid (HG.out.trans HGR.out)
      have q0 := (HO.out.keep HGR.out).cell_at (i := 0) rfl
      rw [HS.out] at q0
      have ql := (HO.out.keep HGR.out).lt
      by_cases his : i < S
      · have hil : i < a.length := by rw [HS.out]; exact his
        have d1 : decide ((i : Int) < (S : Int)) = true := decide_eq_true (by omega)
        obtain ⟨b, off, v0, v1, v2, rfl, hbl, e0, e1, e2, hs⟩ := HA.out i hil
        obtain ⟨rfl, hal, hE⟩ := hs
        obtain ⟨x1, n1, rfl, hc1, hI1⟩ := hal
        obtain ⟨x2, c2, rfl, hc2, hE⟩ := hE
        have hxm : a[i] ∈ a := List.getElem_mem hil
        have hae := HFEW.out.edges _ hxm
        have haa := HFEW.out.alts _ hxm
        have HNO : Hid (a[i].fineB a.length al tk = false → a.mayB al tk = false) := Lib.hid (may_no hil)
        have HYES : Hid (a[i].fineB a.length al tk = true → ∀ k (hk : k < a.length), k < i + 1 → a[k].fineB a.length al tk = true) := Lib.hid fun h k hk hki => by
          rcases Nat.lt_or_ge k i with g | g
          · exact HI.out k hk g
          · obtain rfl : k = i := by omega
            exact h
        obtain ⟨x, hx⟩ : ∃ x, a[i] = x := ⟨_, rfl⟩
        rw [hx] at e0 e1 e2 hI1 hE hae haa HNO HYES
        have r0 := (HGW.out.cells _ _ hbl).trans e0
        have r1 := (HGW.out.cells _ _ hbl).trans e1
        have r2 := (HGW.out.cells _ _ hbl).trans e2
        have lb : b < wr.heap.size := Nat.lt_of_lt_of_le hbl HGW.out.size
        obtain ⟨kd, hkd⟩ : ∃ kd, x.kind = kd := ⟨_, rfl⟩
        obtain ⟨p, hp⟩ : ∃ p, x.alts.length = p := ⟨_, rfl⟩
        obtain ⟨m, hm⟩ : ∃ m, x.edges.length = m := ⟨_, rfl⟩
        rw [hkd] at r0
        rw [hp] at r1 haa
        rw [hm] at r2 hae
        have HKD := Lib.hid hkd
        have HP := Lib.hid hp
        have HM := Lib.hid hm
        have HIA := Lib.hid hI1
        have HEA := Lib.hid hE
        obtain ⟨w2, hw2⟩ : ∃ w2, wr.alloc (.cells #[.int .i64 kd, .slice x1 p n1, .slice x2 m c2] 63) = w2 := ⟨_, rfl⟩
        have g2 : Grew wr w2 := hw2 ▸ grew_alloc wr _
        have HO2 := Lib.hid (hw2 ▸ Owns.alloc wr _ _ : Owns w2 wr.heap.size [.int .i64 kd, .slice x1 p n1, .slice x2 m c2] 63)
        have HG2 := Lib.hid (HGW.out.trans g2)
        have HGR2 := Lib.hid (HGR.out.trans g2)
        obtain ⟨B, hB⟩ : ∃ B, wr.heap.size = B := ⟨_, rfl⟩
        clear hxm e0 e1 e2 hI1 hE hx hkd hp hm g2 hc1 hc2 hbl
        go_upto_region 8 with fail
        clear hw2 r0 r1 r2 lb d1
        rw [hB] at HO2
        clear hB ql
        go_wp2_with fail
        go_loopw [10] (fun cc wr => ∃ (c : Nat) (lo : Int), cc = .int .i64 c ∧ c ≤ p ∧ Hid (RiseAt x.alts 0 al c lo) ∧ Hid (Grew w2 wr)) (fun cc _ => p - (intOf cc).toNat)
        case atStart => exact ⟨0, 0, rfl, by omega, RiseAt.start _ _ _, Grew.refl _⟩
        case round =>
          obtain ⟨c, lo, rfl, hc, HRI, HGA⟩ := hrel
          have s1 := (HO2.out.keep HGA.out).cell_at (i := 1) rfl
          have sl := (HO2.out.keep HGA.out).lt
          have HGZ := Lib.hid (HG2.out.trans HGA.out)
          by_cases hcp : c < p
          · have hcl : c < x.alts.length := by rw [HP.out]; exact hcp
            have d1 : decide ((c : Int) < (p : Int)) = true := decide_eq_true (by omega)
            obtain ⟨b6, off6, rfl, hb6, f0⟩ := HIA.out c hcl
            have f0 := (HGZ.out.cells _ _ hb6).trans f0
            have fl : b6 < wr.heap.size := Nat.lt_of_lt_of_le hb6 HGZ.out.size
            have HFAIL : Hid ((x.alts[c] < 0 ∨ al ≤ x.alts[c] ∨ (0 < c ∧ ∃ p, x.alts[c - 1]? = some p ∧ x.alts[c] ≤ p)) → a.mayB al tk = false) := Lib.hid fun h => HNO.out (fine_alts (HRI.out.fail hcl h))
            have HNEXT : Hid (0 ≤ x.alts[c] → x.alts[c] < al → (0 < c → ∀ p, x.alts[c - 1]? = some p → p < x.alts[c]) → RiseAt x.alts 0 al (c + 1) (x.alts[c] + 1)) := Lib.hid (HRI.out.next hcl)
            have hprev : ∀ c', c = c' + 1 → ∃ q, x.alts[c - 1]? = some q ∧ wr.cell? ⟨b6, off6 + c', none⟩ = some (.int .i64 q) := fun c' e => by
              obtain ⟨b7, off7, e7, hb7, f7⟩ := HIA.out c' (by omega)
              cases e7
              refine ⟨_, ?_, (HGZ.out.cells _ _ hb6).trans f7⟩
              rw [show c - 1 = c' by omega]
              exact List.getElem?_eq_getElem (by omega)
            obtain ⟨y, hy⟩ : ∃ y, x.alts[c] = y := ⟨_, rfl⟩
            rw [hy] at f0 HFAIL HNEXT
            have HPREV := Lib.hid hprev
            clear hy hprev hb6
            by_cases h1 : y < 0
            · have e1 : decide (y < 0) = true := decide_eq_true h1
              have HB := Lib.hid (HFAIL.out (.inl h1))
              go_wp2_with fail
              refine wp_region_hav_lit follows (by kernel_rfl) ?_
              repeat (first
                | (refine HavG.skip (fun _ => rfl) ?_; simp only [Act.put, List.setIfInBounds_toArray, List.set_cons_zero, List.set_cons_succ])
                | (refine HavG.val (fun _ => rfl) ?_ (fun x w hw _ => ?_) ?_; rotate_left; (focus (have hc := hw.cells; clear hw; go_simp; first | done | rfl)); simp only [Act.put, List.setIfInBounds_toArray, List.set_cons_zero, List.set_cons_succ]))
              refine HavG.tail (by kernel_rfl) (by kernel_rfl) (fun x w9 hw _ => ?_)
              have HQ := Lib.hid (show Grew wr w9 from hw)
              clear hw
              go_wp2_with fail
              go_ret
              exact ⟨by rw [HB.out]; rfl, HGZ.out.trans HQ.out⟩
            · have e1 : decide (y < 0) = false := decide_eq_false h1
              by_cases h2 : al ≤ y
              · have e2 : decide (al ≤ y) = true := decide_eq_true h2
                have HB := Lib.hid (HFAIL.out (.inr (.inl h2)))
                go_wp2_with fail
                refine wp_region_hav_lit follows (by kernel_rfl) ?_
                repeat (first
                  | (refine HavG.skip (fun _ => rfl) ?_; simp only [Act.put, List.setIfInBounds_toArray, List.set_cons_zero, List.set_cons_succ])
                  | (refine HavG.val (fun _ => rfl) ?_ (fun x w hw _ => ?_) ?_; rotate_left; (focus (have hc := hw.cells; clear hw; go_simp; first | done | rfl)); simp only [Act.put, List.setIfInBounds_toArray, List.set_cons_zero, List.set_cons_succ]))
                refine HavG.tail (by kernel_rfl) (by kernel_rfl) (fun x w9 hw _ => ?_)
                have HQ := Lib.hid (show Grew wr w9 from hw)
                clear hw
                go_wp2_with fail
                go_ret
                exact ⟨by rw [HB.out]; rfl, HGZ.out.trans HQ.out⟩
              · have e2 : decide (al ≤ y) = false := decide_eq_false h2
                cases c with
                | zero =>
                  rw [Nat.add_zero] at f0
                  have HNX := Lib.hid (HNEXT.out (by omega) (by omega) (fun h => absurd h (by omega)))
                  go_wp2_with fail
                  refine wp_region_hav_lit follows (by kernel_rfl) ?_
                  repeat (first
                    | (refine HavG.skip (fun _ => rfl) ?_; simp only [Act.put, List.setIfInBounds_toArray, List.set_cons_zero, List.set_cons_succ])
                    | (refine HavG.val (fun _ => rfl) ?_ (fun x w hw _ => ?_) ?_; rotate_left; (focus (have hc := hw.cells; clear hw; go_simp; first | done | rfl)); simp only [Act.put, List.setIfInBounds_toArray, List.set_cons_zero, List.set_cons_succ]))
                  refine HavG.tail (by kernel_rfl) (by kernel_rfl) (fun x w9 hw _ => ?_)
                  have HQ := Lib.hid (show Grew wr w9 from hw)
                  clear hw
                  go_wp2_with fail
                  exact ⟨⟨1, _, rfl, by omega, HNX.out, HGA.out.trans HQ.out⟩, by simp [intOf]; omega⟩
                | succ c =>
                  obtain ⟨q, hq1, hq2⟩ := HPREV.out c rfl
                  have hwc : IntKind.i64.wrap (c : Int) = (c : Int) := wrap_small _ (by omega) (by omega)
                  have d3 : decide ((0 : Int) < ((c + 1 : Nat) : Int)) = true := decide_eq_true (by omega)
                  have hcp2 : c < p := by omega
                  by_cases h3 : y ≤ q
                  · have e3 : decide (y ≤ q) = true := decide_eq_true h3
                    have HB := Lib.hid (HFAIL.out (.inr (.inr ⟨by omega, q, hq1, h3⟩)))
                    clear hq1
                    go_wp2_with fail
                    refine wp_region_hav_lit follows (by kernel_rfl) ?_
                    repeat (first
                      | (refine HavG.skip (fun _ => rfl) ?_; simp only [Act.put, List.setIfInBounds_toArray, List.set_cons_zero, List.set_cons_succ])
                      | (refine HavG.val (fun _ => rfl) ?_ (fun x w hw _ => ?_) ?_; rotate_left; (focus (have hc := hw.cells; clear hw; go_simp; first | done | rfl)); simp only [Act.put, List.setIfInBounds_toArray, List.set_cons_zero, List.set_cons_succ]))
                    refine HavG.tail (by kernel_rfl) (by kernel_rfl) (fun x w9 hw _ => ?_)
                    have HQ := Lib.hid (show Grew wr w9 from hw)
                    clear hw
                    go_wp2_with fail
                    go_ret
                    exact ⟨by rw [HB.out]; rfl, HGZ.out.trans HQ.out⟩
                  · have e3 : decide (y ≤ q) = false := decide_eq_false h3
                    have HNX := Lib.hid (HNEXT.out (by omega) (by omega) (fun _ p' hp' => by rw [hq1] at hp'; cases hp'; omega))
                    clear hq1
                    go_wp2_with fail
                    refine wp_region_hav_lit follows (by kernel_rfl) ?_
                    repeat (first
                      | (refine HavG.skip (fun _ => rfl) ?_; simp only [Act.put, List.setIfInBounds_toArray, List.set_cons_zero, List.set_cons_succ])
                      | (refine HavG.val (fun _ => rfl) ?_ (fun x w hw _ => ?_) ?_; rotate_left; (focus (have hc := hw.cells; clear hw; go_simp; first | done | rfl)); simp only [Act.put, List.setIfInBounds_toArray, List.set_cons_zero, List.set_cons_succ]))
                    refine HavG.tail (by kernel_rfl) (by kernel_rfl) (fun x w9 hw _ => ?_)
                    have HQ := Lib.hid (show Grew wr w9 from hw)
                    clear hw
                    go_wp2_with fail
                    exact ⟨⟨c + 1 + 1, _, by go_num, by omega, HNX.out, HGA.out.trans HQ.out⟩, by simp [intOf]; omega⟩
          · have d1 : decide ((c : Int) < (p : Int)) = false := decide_eq_false (by omega)
            have HRA := Lib.hid (HRI.out.fin (by rw [HP.out]; omega))
            clear HRI
            obtain ⟨wa, rfl⟩ : ∃ z, z = wr := ⟨_, rfl⟩
            go_upto_region 13 with fail
            clear s1 sl d1 q0
            go_wp2_with fail
            go_loopw [11] (fun cc wr => ∃ (c : Nat) (lo : Int), cc = .int .i64 c ∧ c ≤ m ∧ Hid (RiseAt (x.edges.map (·.tok)) (-1) tk c lo) ∧ Hid (∀ k (h : k < x.edges.length), k < c → 0 ≤ x.edges[k].tgt ∧ x.edges[k].tgt < S) ∧ Hid (Grew wa wr)) (fun cc _ => m - (intOf cc).toNat)
            case atStart => exact ⟨0, -1, rfl, by omega, RiseAt.start _ _ _, fun _ _ h => absurd h (by omega), Grew.refl _⟩
            case round =>
              obtain ⟨c, lo, rfl, hc, HRI, HTO, HGB⟩ := hrel
              have HGC := Lib.hid (HGA.out.trans HGB.out)
              have s2 := (HO2.out.keep HGC.out).cell_at (i := 2) rfl
              have sl := (HO2.out.keep HGC.out).lt
              have HGZ := Lib.hid (HG2.out.trans HGC.out)
              by_cases hcp : c < m
              · have hcl : c < x.edges.length := by rw [HM.out]; exact hcp
                have hcm : c < (x.edges.map (·.tok)).length := by rw [List.length_map]; exact hcl
                have d1 : decide ((c : Int) < (m : Int)) = true := decide_eq_true (by omega)
                obtain ⟨b6, off6, rfl, hb6, f0, f1⟩ := HEA.out c hcl
                have f0 := (HGZ.out.cells _ _ hb6).trans f0
                have f1 := (HGZ.out.cells _ _ hb6).trans f1
                have fl : b6 < wr.heap.size := Nat.lt_of_lt_of_le hb6 HGZ.out.size
                have hfail := fun h => HNO.out (fine_toks (HRI.out.fail hcm h))
                have hnext := HRI.out.next hcm
                have hto : (x.edges[c].tgt < 0 ∨ (S : Int) ≤ x.edges[c].tgt) → a.mayB al tk = false := fun h => HNO.out (fine_to hcl (by rw [HS.out]; exact h))
                have htn : 0 ≤ x.edges[c].tgt → x.edges[c].tgt < S → ∀ k (h : k < x.edges.length), k < c + 1 → 0 ≤ x.edges[k].tgt ∧ x.edges[k].tgt < S := fun g1 g2 k h hk => by
                  rcases Nat.lt_or_ge k c with g | g
                  · exact HTO.out k h g
                  · obtain rfl : k = c := by omega
                    exact ⟨g1, g2⟩
                have hprev : ∀ c', c = c' + 1 → ∃ q, (x.edges.map (·.tok))[c - 1]? = some q ∧ wr.cell? ⟨b6, off6 + c' * 2, none⟩ = some (.int .i64 q) := fun c' e => by
                  obtain ⟨b7, off7, e7, hb7, f7, _⟩ := HEA.out c' (by omega)
                  cases e7
                  refine ⟨_, ?_, (HGZ.out.cells _ _ hb6).trans f7⟩
                  rw [show c - 1 = c' by omega, List.getElem?_map, List.getElem?_eq_getElem (by omega)]
                  rfl
                rw [List.getElem_map] at hfail hnext
                obtain ⟨ed, hy⟩ : ∃ ed, x.edges[c] = ed := ⟨_, rfl⟩
                rw [hy] at f0 f1 hfail hnext hto htn
                obtain ⟨y, t⟩ := ed
                simp only at f0 f1 hfail hnext hto htn
                have HFAIL := Lib.hid hfail
                have HNEXT := Lib.hid hnext
                have HTO2 := Lib.hid hto
                have HTN := Lib.hid htn
                have HPREV := Lib.hid hprev
                obtain ⟨w8, hw8⟩ : ∃ w8, wr.alloc (.cells #[.int .i64 y, .int .i64 t] 64) = w8 := ⟨_, rfl⟩
                have g8 : Grew wr w8 := hw8 ▸ grew_alloc wr _
                have o8 := (hw8 ▸ Owns.alloc wr _ _ : Owns w8 wr.heap.size [.int .i64 y, .int .i64 t] 64)
                have z0 := o8.cell_at (i := 0) rfl
                have z1 := o8.cell_at (i := 1) rfl
                have zl := o8.lt
                have s28 := (HO2.out.keep (HGC.out.trans g8)).cell_at (i := 2) rfl
                have sl8 := (HO2.out.keep (HGC.out.trans g8)).lt
                have fl8 : b6 < w8.heap.size := Nat.lt_of_lt_of_le fl g8.size
                have HG8 := Lib.hid g8
                have fl9 := Lib.hid fl
                clear hy hprev hfail hnext hto htn g8 o8 hcm
                go_upto_region 17 with fail
                clear f0 f1 fl hw8 s2 sl d1
                by_cases h1 : y < -1
                · have e1 : decide (y < -1) = true := decide_eq_true h1
                  have HB := Lib.hid (HFAIL.out (.inl h1))
                  refine wp_region_hav_lit follows (by kernel_rfl) ?_
                  repeat (first
                    | (refine HavG.skip (fun _ => rfl) ?_; simp only [Act.put, List.setIfInBounds_toArray, List.set_cons_zero, List.set_cons_succ])
                    | (refine HavG.val (fun _ => rfl) ?_ (fun x w hw _ => ?_) ?_; rotate_left; (focus (have hc := hw.cells; clear hw; go_simp; first | done | rfl)); simp only [Act.put, List.setIfInBounds_toArray, List.set_cons_zero, List.set_cons_succ]))
                  refine HavG.tail (by kernel_rfl) (by kernel_rfl) (fun x w9 hw _ => ?_)
                  have HQ := Lib.hid (show Grew w8 w9 from hw)
                  clear hw
                  go_wp2_with fail
                  go_ret
                  exact ⟨by rw [HB.out]; rfl, (HGZ.out.trans HG8.out).trans HQ.out⟩
                · have e1 : decide (y < -1) = false := decide_eq_false h1
                  by_cases h2 : tk ≤ y
                  · have e2 : decide (tk ≤ y) = true := decide_eq_true h2
                    have HB := Lib.hid (HFAIL.out (.inr (.inl h2)))
                    refine wp_region_hav_lit follows (by kernel_rfl) ?_
                    repeat (first
                      | (refine HavG.skip (fun _ => rfl) ?_; simp only [Act.put, List.setIfInBounds_toArray, List.set_cons_zero, List.set_cons_succ])
                      | (refine HavG.val (fun _ => rfl) ?_ (fun x w hw _ => ?_) ?_; rotate_left; (focus (have hc := hw.cells; clear hw; go_simp; first | done | rfl)); simp only [Act.put, List.setIfInBounds_toArray, List.set_cons_zero, List.set_cons_succ]))
                    refine HavG.tail (by kernel_rfl) (by kernel_rfl) (fun x w9 hw _ => ?_)
                    have HQ := Lib.hid (show Grew w8 w9 from hw)
                    clear hw
                    go_wp2_with fail
                    go_ret
                    exact ⟨by rw [HB.out]; rfl, (HGZ.out.trans HG8.out).trans HQ.out⟩
                  · have e2 : decide (tk ≤ y) = false := decide_eq_false h2
                    by_cases h4 : t < 0
                    · have e4 : decide (t < 0) = true := decide_eq_true h4
                      have HB := Lib.hid (HTO2.out (.inl h4))
                      refine wp_region_hav_lit follows (by kernel_rfl) ?_
                      repeat (first
                        | (refine HavG.skip (fun _ => rfl) ?_; simp only [Act.put, List.setIfInBounds_toArray, List.set_cons_zero, List.set_cons_succ])
                        | (refine HavG.val (fun _ => rfl) ?_ (fun x w hw _ => ?_) ?_; rotate_left; (focus (have hc := hw.cells; clear hw; go_simp; first | done | rfl)); simp only [Act.put, List.setIfInBounds_toArray, List.set_cons_zero, List.set_cons_succ]))
                      refine HavG.tail (by kernel_rfl) (by kernel_rfl) (fun x w9 hw _ => ?_)
                      have HQ := Lib.hid (show Grew w8 w9 from hw)
                      clear hw
                      go_wp2_with fail
                      go_ret
                      exact ⟨by rw [HB.out]; rfl, (HGZ.out.trans HG8.out).trans HQ.out⟩
                    · have e4 : decide (t < 0) = false := decide_eq_false h4
                      by_cases h5 : (S : Int) ≤ t
                      · have e5 : decide ((S : Int) ≤ t) = true := decide_eq_true h5
                        have HB := Lib.hid (HTO2.out (.inr h5))
                        refine wp_region_hav_lit follows (by kernel_rfl) ?_
                        repeat (first
                          | (refine HavG.skip (fun _ => rfl) ?_; simp only [Act.put, List.setIfInBounds_toArray, List.set_cons_zero, List.set_cons_succ])
                          | (refine HavG.val (fun _ => rfl) ?_ (fun x w hw _ => ?_) ?_; rotate_left; (focus (have hc := hw.cells; clear hw; go_simp; first | done | rfl)); simp only [Act.put, List.setIfInBounds_toArray, List.set_cons_zero, List.set_cons_succ]))
                        refine HavG.tail (by kernel_rfl) (by kernel_rfl) (fun x w9 hw _ => ?_)
                        have HQ := Lib.hid (show Grew w8 w9 from hw)
                        clear hw
                        go_wp2_with fail
                        go_ret
                        exact ⟨by rw [HB.out]; rfl, (HGZ.out.trans HG8.out).trans HQ.out⟩
                      · have e5 : decide ((S : Int) ≤ t) = false := decide_eq_false h5
                        have HTX := Lib.hid (HTN.out (by omega) (by omega))
                        cases c with
                        | zero =>
                          have HNX := Lib.hid (HNEXT.out (by omega) (by omega) (fun h => absurd h (by omega)))
                          refine wp_region_hav_lit follows (by kernel_rfl) ?_
                          repeat (first
                            | (refine HavG.skip (fun _ => rfl) ?_; simp only [Act.put, List.setIfInBounds_toArray, List.set_cons_zero, List.set_cons_succ])
                            | (refine HavG.val (fun _ => rfl) ?_ (fun x w hw _ => ?_) ?_; rotate_left; (focus (have hc := hw.cells; clear hw; go_simp; first | done | rfl)); simp only [Act.put, List.setIfInBounds_toArray, List.set_cons_zero, List.set_cons_succ]))
                          refine HavG.tail (by kernel_rfl) (by kernel_rfl) (fun x w9 hw _ => ?_)
                          have HQ := Lib.hid (show Grew w8 w9 from hw)
                          clear hw
                          go_wp2_with fail
                          exact ⟨⟨1, _, rfl, by omega, HNX.out, HTX.out, HGB.out.trans (HG8.out.trans HQ.out)⟩, by simp [intOf]; omega⟩
                        | succ c =>
                          obtain ⟨q, hq1, hq2⟩ := HPREV.out c rfl
                          have hq2 := (HG8.out.cells _ _ fl9.out).trans hq2
                          have hwc : IntKind.i64.wrap (c : Int) = (c : Int) := wrap_small _ (by omega) (by omega)
                          have d3 : decide ((0 : Int) < ((c + 1 : Nat) : Int)) = true := decide_eq_true (by omega)
                          have hcp2 : c < m := by omega
                          by_cases h3 : y ≤ q
                          · have e3 : decide (y ≤ q) = true := decide_eq_true h3
                            have HB := Lib.hid (HFAIL.out (.inr (.inr ⟨by omega, q, hq1, h3⟩)))
                            clear hq1
                            refine wp_region_hav_lit follows (by kernel_rfl) ?_
                            repeat (first
                              | (refine HavG.skip (fun _ => rfl) ?_; simp only [Act.put, List.setIfInBounds_toArray, List.set_cons_zero, List.set_cons_succ])
                              | (refine HavG.val (fun _ => rfl) ?_ (fun x w hw _ => ?_) ?_; rotate_left; (focus (have hc := hw.cells; clear hw; go_simp; first | done | rfl)); simp only [Act.put, List.setIfInBounds_toArray, List.set_cons_zero, List.set_cons_succ]))
                            refine HavG.tail (by kernel_rfl) (by kernel_rfl) (fun x w9 hw _ => ?_)
                            have HQ := Lib.hid (show Grew w8 w9 from hw)
                            clear hw
                            go_wp2_with fail
                            go_ret
                            exact ⟨by rw [HB.out]; rfl, (HGZ.out.trans HG8.out).trans HQ.out⟩
                          · have e3 : decide (y ≤ q) = false := decide_eq_false h3
                            have HNX := Lib.hid (HNEXT.out (by omega) (by omega) (fun _ p' hp' => by rw [hq1] at hp'; cases hp'; omega))
                            clear hq1
                            refine wp_region_hav_lit follows (by kernel_rfl) ?_
                            repeat (first
                              | (refine HavG.skip (fun _ => rfl) ?_; simp only [Act.put, List.setIfInBounds_toArray, List.set_cons_zero, List.set_cons_succ])
                              | (refine HavG.val (fun _ => rfl) ?_ (fun x w hw _ => ?_) ?_; rotate_left; (focus (have hc := hw.cells; clear hw; go_simp; first | done | rfl)); simp only [Act.put, List.setIfInBounds_toArray, List.set_cons_zero, List.set_cons_succ]))
                            refine HavG.tail (by kernel_rfl) (by kernel_rfl) (fun x w9 hw _ => ?_)
                            have HQ := Lib.hid (show Grew w8 w9 from hw)
                            clear hw
                            go_wp2_with fail
                            exact ⟨⟨c + 1 + 1, _, by go_num, by omega, HNX.out, HTX.out, HGB.out.trans (HG8.out.trans HQ.out)⟩, by simp [intOf]; omega⟩
              · have d1 : decide ((c : Int) < (m : Int)) = false := decide_eq_false (by omega)
                have HRE := Lib.hid (HRI.out.fin (by rw [List.length_map, HM.out]; omega))
                have HTB : Hid (x.toB S = true) := Lib.hid (by
                  unfold Stt.toB
                  rw [List.all_eq_true]
                  intro e he
                  obtain ⟨k, hk, rfl⟩ := List.mem_iff_getElem.1 he
                  have := HTO.out k hk (by have := HM.out; omega)
                  simp [this.1, this.2])
                clear HRI HTO
                obtain ⟨wb, rfl⟩ : ∃ z, z = wr := ⟨_, rfl⟩
                have s0 := (HO2.out.keep HGC.out).cell_at (i := 0) rfl
                have s1 := (HO2.out.keep HGC.out).cell_at (i := 1) rfl
                have HFIN : Hid (x.kindB = true → x.fineB a.length al tk = true) := Lib.hid fun h => by
                  rw [fine_is, HS.out, HTB.out, HRA.out, HRE.out, h]
                  rfl
                have HBAD : Hid (x.kindB = false → a.mayB al tk = false) := Lib.hid fun h => HNO.out (fine_kind h)
                obtain ⟨kb, hkb⟩ : ∃ kb, x.kindB = kb := ⟨_, rfl⟩
                have HKB := Lib.hid hkb
                rw [hkb] at HFIN HBAD
                clear hkb
                go_upto_region 19 with fail
                clear d1
                by_cases hm : m = 0
                · have m0 : ((m : Int) == 0) = true := beq_iff_eq.2 (by omega)
                  by_cases hk0 : kd = 0
                  · subst hk0
                    by_cases hp : p = 0
                    · have p0 : ((p : Int) == 0) = true := beq_iff_eq.2 (by omega)
                      have HK2 := Lib.hid (HYES.out (HFIN.out (show kb = true by rw [← HKB.out, kindB_of HKD.out HP.out HM.out]; simp [hp])))
                      clear hp
                      go_wp2_with fail
                      exact ⟨⟨i + 1, by go_num, by omega, HK2.out, HGR2.out.trans HGC.out⟩, by simp [intOf]; omega⟩
                    · have p0 : ((p : Int) == 0) = false := beq_eq_false_iff_ne.2 (by omega)
                      have HB := Lib.hid (HBAD.out (show kb = false by rw [← HKB.out, kindB_of HKD.out HP.out HM.out]; simp [hp]))
                      clear hp
                      go_wp2_with fail
                      go_ret
                      exact ⟨by rw [HB.out]; rfl, HGZ.out⟩
                  · have k0 : (kd == 0) = false := beq_eq_false_iff_ne.2 hk0
                    by_cases hk1 : kd = 1
                    · subst hk1
                      by_cases hp : p = 1
                      · have p1 : ((p : Int) == 1) = true := beq_iff_eq.2 (by omega)
                        have HK2 := Lib.hid (HYES.out (HFIN.out (show kb = true by rw [← HKB.out, kindB_of HKD.out HP.out HM.out]; simp [hp, hm])))
                        clear hp
                        go_wp2_with fail
                        exact ⟨⟨i + 1, by go_num, by omega, HK2.out, HGR2.out.trans HGC.out⟩, by simp [intOf]; omega⟩
                      · have p1 : ((p : Int) == 1) = false := beq_eq_false_iff_ne.2 (by omega)
                        have HB := Lib.hid (HBAD.out (show kb = false by rw [← HKB.out, kindB_of HKD.out HP.out HM.out]; simp [hp]))
                        clear hp
                        go_wp2_with fail
                        go_ret
                        exact ⟨by rw [HB.out]; rfl, HGZ.out⟩
                    · have k1 : (kd == 1) = false := beq_eq_false_iff_ne.2 hk1
                      by_cases hk3 : kd = 3
                      · subst hk3
                        by_cases hp : 1 < p
                        · have p1 : decide ((1 : Int) < (p : Int)) = true := decide_eq_true (by omega)
                          have HK2 := Lib.hid (HYES.out (HFIN.out (show kb = true by rw [← HKB.out, kindB_of HKD.out HP.out HM.out]; simp [hp, hm])))
                          clear hp
                          go_wp2_with fail
                          exact ⟨⟨i + 1, by go_num, by omega, HK2.out, HGR2.out.trans HGC.out⟩, by simp [intOf]; omega⟩
                        · have p1 : decide ((1 : Int) < (p : Int)) = false := decide_eq_false (by omega)
                          have HB := Lib.hid (HBAD.out (show kb = false by rw [← HKB.out, kindB_of HKD.out HP.out HM.out]; simp [hp]))
                          clear hp
                          go_wp2_with fail
                          go_ret
                          exact ⟨by rw [HB.out]; rfl, HGZ.out⟩
                      · have k3 : (kd == 3) = false := beq_eq_false_iff_ne.2 hk3
                        by_cases hk2 : kd = 2
                        · subst hk2
                          by_cases hp : p = 0
                          · have p0 : ((p : Int) == 0) = true := beq_iff_eq.2 (by omega)
                            have HK2 := Lib.hid (HYES.out (HFIN.out (show kb = true by rw [← HKB.out, kindB_of HKD.out HP.out HM.out]; simp [hp, hm])))
                            clear hp
                            go_wp2_with fail
                            exact ⟨⟨i + 1, by go_num, by omega, HK2.out, HGR2.out.trans HGC.out⟩, by simp [intOf]; omega⟩
                          · have p0 : ((p : Int) == 0) = false := beq_eq_false_iff_ne.2 (by omega)
                            have HB := Lib.hid (HBAD.out (show kb = false by rw [← HKB.out, kindB_of HKD.out HP.out HM.out]; simp [hp]))
                            clear hp
                            go_wp2_with fail
                            go_ret
                            exact ⟨by rw [HB.out]; rfl, HGZ.out⟩
                        · have k2 : (kd == 2) = false := beq_eq_false_iff_ne.2 hk2
                          have HB := Lib.hid (HBAD.out (show kb = false by rw [← HKB.out, kindB_of HKD.out HP.out HM.out]; simp [hk0, hk1, hk3, hk2]))
                          clear hk0 hk1 hk2 hk3
                          go_wp2_with fail
                          go_ret
                          exact ⟨by rw [HB.out]; rfl, HGZ.out⟩
                · have m0 : ((m : Int) == 0) = false := beq_eq_false_iff_ne.2 (by omega)
                  by_cases hk0 : kd = 0
                  · subst hk0
                    by_cases hp : p = 0
                    · have p0 : ((p : Int) == 0) = true := beq_iff_eq.2 (by omega)
                      have HK2 := Lib.hid (HYES.out (HFIN.out (show kb = true by rw [← HKB.out, kindB_of HKD.out HP.out HM.out]; simp [hp])))
                      clear hp
                      go_wp2_with fail
                      exact ⟨⟨i + 1, by go_num, by omega, HK2.out, HGR2.out.trans HGC.out⟩, by simp [intOf]; omega⟩
                    · have p0 : ((p : Int) == 0) = false := beq_eq_false_iff_ne.2 (by omega)
                      have HB := Lib.hid (HBAD.out (show kb = false by rw [← HKB.out, kindB_of HKD.out HP.out HM.out]; simp [hp]))
                      clear hp
                      go_wp2_with fail
                      go_ret
                      exact ⟨by rw [HB.out]; rfl, HGZ.out⟩
                  · have k0 : (kd == 0) = false := beq_eq_false_iff_ne.2 hk0
                    have HB := Lib.hid (HBAD.out (show kb = false by rw [← HKB.out, kindB_of HKD.out HP.out HM.out]; simp [hk0, hm]))
                    clear hm
                    go_wp2_with fail
                    go_ret
                    exact ⟨by rw [HB.out]; rfl, HGZ.out⟩
      · obtain rfl : i = S := by omega
        have d1 : decide ((i : Int) < (i : Int)) = false := decide_eq_false (by omega)
        have HB := Lib.hid (may_yes HL1.out.1 HL1.out.2 fun k hk => HI.out k hk (by rw [← HS.out]; exact hk))
        go_wp2_with fail
        go_ret
        exact ⟨by rw [HB.out]; rfl, HGW.out⟩
end Go.Proofs.YtogmlonhciiomaaDoor
