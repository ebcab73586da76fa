/- Same: is an automaton the document's? -/
import Derived.Test.YtogmlonhciiomaaDoorPrSame
import Derived.Deep.CutBlock
import Derived.Deep.DeepCutAuto
namespace Go.Proofs.YtogmlonhciiomaaDoor
open Go.RowKit

def Aut.U8 (a : Aut) : Prop := ∀ s ∈ a, 0 ≤ s.kind ∧ s.kind ≤ 255
/-- as far as k alike -/
def AlikeTo {α : Type} (l m : List α) (k : Nat) : Prop := ∀ i (h1 : i < l.length) (h2 : i < m.length), i < k → l[i] = m[i]
theorem AlikeTo.start {α : Type} (l m : List α) : AlikeTo l m 0 := fun i _ _ h => absurd h (by omega)
theorem AlikeTo.next {α : Type} {l m : List α} {k : Nat} (h : AlikeTo l m k) (h1 : k < l.length) (h2 : k < m.length) (e : l[k] = m[k]) : AlikeTo l m (k + 1) := fun i g1 g2 g3 => by
  by_cases x : i = k
  · subst x; exact e
  · exact h i g1 g2 (by omega)
theorem AlikeTo.all {α : Type} {l m : List α} (h : AlikeTo l m l.length) (hl : l.length = m.length) : l = m := List.ext_getElem hl fun i h1 h2 => h i h1 h2 h1
theorem Stt.ext' {s t : Stt} (h1 : s.kind = t.kind) (h2 : s.alts = t.alts) (h3 : s.edges = t.edges) : s = t := by
  cases s; cases t; simp only at h1 h2 h3; subst h1 h2 h3; rfl

set_option maxHeartbeats 4000000 in
set_option maxRecDepth 20000 in
theorem psame_ok (a b : Aut) (ha : a.Few) (hb : b.Few) (hu : a.U8) (W : World) (v u : Value) (hA : AutV .u8 W W.heap.size v a) (hB : AutV .i64 W W.heap.size u b) :
    Calls Tryd.prog 17 #[.agg #[v], .agg #[u]] W fun e W' => e = .returned (.bool (decide (a = b))) ∧ Grew W W' := by
  obtain ⟨a1, c1, rfl, _, hA⟩ := hA
  obtain ⟨a2, c2, rfl, _, hB⟩ := hB
  have hna := ha.states
  have hnb := hb.states
  obtain ⟨w1, hw1⟩ : ∃ w1, W.alloc (.cells #[.slice a1 a.length c1] 24) = w1 := ⟨_, rfl⟩
  obtain ⟨w2, hw2⟩ : ∃ w2, w1.alloc (.cells #[.slice a2 b.length c2] 31) = w2 := ⟨_, rfl⟩
  have z1 : w1.heap.size = W.heap.size + 1 := by rw [← hw1]; simp
  have g1 : Grew W w1 := hw1 ▸ grew_alloc W _
  have g2 : Grew w1 w2 := hw2 ▸ grew_alloc w1 _
  have o1 : Owns w2 W.heap.size [.slice a1 a.length c1] 24 := (hw1 ▸ Owns.alloc W _ _ : Owns w1 W.heap.size [.slice a1 a.length c1] 24).keep g2
  have o2 : Owns w2 (W.heap.size + 1) [.slice a2 b.length c2] 31 := z1 ▸ hw2 ▸ Owns.alloc w1 _ _
  have q0 := o1.cell_at (i := 0) rfl
  have q1 := o2.cell_at (i := 0) rfl
  have HG := Lib.hid (g1.trans g2)
  have HO1 := Lib.hid o1
  have HO2 := Lib.hid o2
  have HA := Lib.hid hA
  have HB := Lib.hid hB
  clear g1 g2 o1 o2 hA hB
  by_cases hlen : a.length = b.length
  · have hne : ((a.length : Int) != (b.length : Int)) = false := by rw [hlen]; simp
    have HLN := Lib.hid hlen
    clear hlen
    go_enter Tryd.func17, Tryd.ntmps17
    go_wp2_with fail
    clear hne hw1 hw2 z1 q0 q1
    go_loopw [5] (fun i wr => ∃ (n : Nat), i = .int .i64 n ∧ n ≤ a.length ∧ Hid (AlikeTo a b n) ∧ Hid (Grew w2 wr)) (fun i _ => a.length - (intOf i).toNat)
    case atStart => exact ⟨0, rfl, by omega, AlikeTo.start _ _, Grew.refl _⟩
    case round =>
      obtain ⟨n, rfl, hn, HAL, HGR⟩ := hrel
      have q0 := (HO1.out.keep HGR.out).cell_at (i := 0) rfl
      have q1 := (HO2.out.keep HGR.out).cell_at (i := 0) rfl
      have HGW := Lib.hid (HG.out.trans HGR.out)
      by_cases hlt : n < a.length
      · have hltb : n < b.length := by rw [← HLN.out]; exact hlt
        obtain ⟨b1, f1, v0, v1, v2, rfl, hbl1, e0, e1, e2, hs⟩ := HA.out n hlt
        obtain ⟨b2, f2, u0, u1, u2, rfl, hbl2, d0, d1, d2, ht⟩ := HB.out n hltb
        obtain ⟨rfl, hal1, hE1⟩ := hs
        obtain ⟨rfl, hal2, hE2⟩ := ht
        have hal1' := hal1
        have hal2' := hal2
        obtain ⟨x1, m1, rfl, _, _⟩ := hal1
        obtain ⟨y1, p1, rfl, _, _⟩ := hal2
        obtain ⟨x2, m2, rfl, _, hE1⟩ := hE1
        obtain ⟨y2, p2, rfl, _, hE2⟩ := hE2
        obtain ⟨s, hs⟩ : ∃ s, a[n] = s := ⟨_, rfl⟩
        obtain ⟨t, ht⟩ : ∃ t, b[n] = t := ⟨_, rfl⟩
        rw [hs] at e0 e1 e2 hal1' hE1
        rw [ht] at d0 d1 d2 hal2' hE2
        have hsm : s ∈ a := by rw [← hs]; exact List.getElem_mem hlt
        have htm : t ∈ b := by rw [← ht]; exact List.getElem_mem hltb
        have hsu := hu s hsm
        have hsa := ha.alts s hsm
        have hse := ha.edges s hsm
        have hta := hb.alts t htm
        have hte := hb.edges t htm
        have r0 : wr.cell? ⟨b1, f1 + n * 3, none⟩ = some (.int .u8 s.kind) := by rw [HGW.out.cells _ _ hbl1]; exact e0
        have r1 : wr.cell? ⟨b1, f1 + n * 3 + 1, none⟩ = some (.slice x1 s.alts.length m1) := by rw [HGW.out.cells _ _ hbl1]; exact e1
        have r2 : wr.cell? ⟨b1, f1 + n * 3 + 2, none⟩ = some (.slice x2 s.edges.length m2) := by rw [HGW.out.cells _ _ hbl1]; exact e2
        obtain ⟨w3, hw3⟩ : ∃ w3, wr.alloc (.cells #[.int .u8 s.kind, .slice x1 s.alts.length m1, .slice x2 s.edges.length m2] 51) = w3 := ⟨_, rfl⟩
        have g3 : Grew wr w3 := hw3 ▸ grew_alloc wr _
        have o3 : Owns w3 wr.heap.size [.int .u8 s.kind, .slice x1 s.alts.length m1, .slice x2 s.edges.length m2] 51 := hw3 ▸ Owns.alloc wr _ _
        have t0 : w3.cell? ⟨b2, f2 + n * 3, none⟩ = some (.int .i64 t.kind) := by rw [(HGW.out.trans g3).cells _ _ hbl2]; exact d0
        have t1 : w3.cell? ⟨b2, f2 + n * 3 + 1, none⟩ = some (.slice y1 t.alts.length p1) := by rw [(HGW.out.trans g3).cells _ _ hbl2]; exact d1
        have t2 : w3.cell? ⟨b2, f2 + n * 3 + 2, none⟩ = some (.slice y2 t.edges.length p2) := by rw [(HGW.out.trans g3).cells _ _ hbl2]; exact d2
        have q1' := ((HO2.out.keep HGR.out).keep g3).cell_at (i := 0) rfl
        obtain ⟨w4, hw4⟩ : ∃ w4, w3.alloc (.cells #[.int .i64 t.kind, .slice y1 t.alts.length p1, .slice y2 t.edges.length p2] 63) = w4 := ⟨_, rfl⟩
        have g4 : Grew w3 w4 := hw4 ▸ grew_alloc w3 _
        have o4 : Owns w4 w3.heap.size [.int .i64 t.kind, .slice y1 t.alts.length p1, .slice y2 t.edges.length p2] 63 := hw4 ▸ Owns.alloc w3 _ _
        have o34 := o3.keep g4
        have k0 := o34.cell_at (i := 0) rfl
        have k1 := o34.cell_at (i := 1) rfl
        have k2 := o34.cell_at (i := 2) rfl
        have l0 := o4.cell_at (i := 0) rfl
        have l1 := o4.cell_at (i := 1) rfl
        have l2 := o4.cell_at (i := 2) rfl
        have HG4 := Lib.hid (HGW.out.trans (g3.trans g4))
        have HGR4 := Lib.hid (HGR.out.trans (g3.trans g4))
        have HSN := Lib.hid (psameNums_ok s.alts t.alts w4 _ _ (by omega) (by omega) (hal1'.grew (HGW.out.trans (g3.trans g4))) (hal2'.grew (HGW.out.trans (g3.trans g4))))
        have HZ3 : Hid (wr.heap.size < w4.heap.size) := Lib.hid (by rw [← hw4, ← hw3]; simp; omega)
        have HZ4 : Hid (w3.heap.size < w4.heap.size) := Lib.hid (by rw [← hw4]; simp)
        have HE1 := Lib.hid hE1
        have HE2 := Lib.hid hE2
        have HO3 := Lib.hid o34
        have HO4 := Lib.hid o4
        have HST := Lib.hid (show a[n] = b[n] ↔ s = t by rw [hs, ht])
        have HNE : Hid (a[n] ≠ b[n] → decide (a = b) = false) := Lib.hid fun h => by
          rw [decide_eq_false_iff_not]
          intro e
          subst e
          exact h rfl
        clear hs ht hsm htm e0 e1 e2 d0 d1 d2 hal1' hal2' hE1 hE2 g3 o3 g4 o4 o34
        by_cases hk : s.kind = t.kind
        · have hk' : (s.kind != t.kind) = false := by simpa using hk
          have HK := Lib.hid hk
          have hl1 : s.edges.length ≤ 400 := hse
          have hl2 : t.edges.length ≤ 400 := hte
          by_cases hal : s.alts = t.alts
          · have hsn := HSN.out
            rw [decide_eq_true hal] at hsn
            have HSN := Lib.hid hsn
            have HAT := Lib.hid hal
            clear hsn hal
            by_cases hel : s.edges.length = t.edges.length
            · have hel' : ((s.edges.length : Int) != (t.edges.length : Int)) = false := by rw [hel]; simp
              have HEL := Lib.hid hel
              clear hel
              rw [hk] at hsu k0
              have hkk : (t.kind != t.kind) = false := by simp
              clear hk hk'
              go_wp2_with (go_at_call 13; refine HSN.out.mono ?_; rintro e w5 ⟨rfl, hb5⟩; have k2 := (HO3.out.keep hb5).cell_at (i := 2) rfl; have l2 := (HO4.out.keep hb5).cell_at (i := 2) rfl; have HB5 := Lib.hid hb5; clear hb5)
              clear k0 k1 l0 l1 q0 q1 q1' r0 r1 r2 t0 t1 t2 k2 l2
              go_loopw [8] (fun i wr => ∃ (k : Nat), i = .int .i64 k ∧ k ≤ s.edges.length ∧ Hid (AlikeTo s.edges t.edges k) ∧ Hid (Grew w5 wr)) (fun i _ => s.edges.length - (intOf i).toNat)
              case atStart => exact ⟨0, rfl, by omega, AlikeTo.start _ _, Grew.refl _⟩
              case round =>
                obtain ⟨k, rfl, hk, HAK, HGK⟩ := hrel
                have k2 := (HO3.out.keep (HB5.out.trans HGK.out)).cell_at (i := 2) rfl
                have l2 := (HO4.out.keep (HB5.out.trans HGK.out)).cell_at (i := 2) rfl
                by_cases hlk : k < s.edges.length
                · have hlk' : k < t.edges.length := by rw [← HEL.out]; exact hlk
                  obtain ⟨c1, i1, rfl, hcl1, x0, x1'⟩ := HE1.out k hlk
                  obtain ⟨c2, i2, rfl, hcl2, y0, y1'⟩ := HE2.out k hlk'
                  have HGV := Lib.hid (HG4.out.trans (HB5.out.trans HGK.out))
                  have x0 : wr.cell? ⟨c1, i1 + k * 2, none⟩ = some (.int .i64 s.edges[k].tok) := by rw [HGV.out.cells _ _ hcl1]; exact x0
                  have x1' : wr.cell? ⟨c1, i1 + k * 2 + 1, none⟩ = some (.int .i64 s.edges[k].tgt) := by rw [HGV.out.cells _ _ hcl1]; exact x1'
                  have y0 : wr.cell? ⟨c2, i2 + k * 2, none⟩ = some (.int .i64 t.edges[k].tok) := by rw [HGV.out.cells _ _ hcl2]; exact y0
                  have y1' : wr.cell? ⟨c2, i2 + k * 2 + 1, none⟩ = some (.int .i64 t.edges[k].tgt) := by rw [HGV.out.cells _ _ hcl2]; exact y1'
                  have hz := HGV.out.size
                  have hc1 : c1 < wr.heap.size := by omega
                  have hc2 : c2 < wr.heap.size := by omega
                  have hc3 := Nat.lt_of_lt_of_le HZ3.out (HB5.out.trans HGK.out).size
                  have hc4 := Nat.lt_of_lt_of_le HZ4.out (HB5.out.trans HGK.out).size
                  obtain ⟨p, hp⟩ : ∃ p, s.edges[k] = p := ⟨_, rfl⟩
                  obtain ⟨q, hq⟩ : ∃ q, t.edges[k] = q := ⟨_, rfl⟩
                  have HPQ := Lib.hid (show s.edges[k] = t.edges[k] ↔ p = q by rw [hp, hq])
                  have HNQ : Hid (p ≠ q → s ≠ t) := Lib.hid fun h e => h (by
                    rw [← hp, ← hq]
                    subst e
                    rfl)
                  rw [hp] at x0 x1'
                  rw [hq] at y0 y1'
                  clear hp hq hz hcl1 hcl2
                  by_cases htk : p.tok = q.tok
                  · rw [htk] at x0
                    have h1 : (q.tok != q.tok) = false := by simp
                    have HTK := Lib.hid htk
                    clear htk
                    by_cases htg : p.tgt = q.tgt
                    · rw [htg] at x1'
                      have h2 : (q.tgt != q.tgt) = false := by simp
                      have HTG := Lib.hid htg
                      clear htg
                      go_wp2_with fail
                      refine wp_region_hav_lit follows (by kernel_rfl) ?_
                      repeat (first
                        | (refine HavG.skip (fun _ => rfl) ?_; simp only [Act.put, List.setIfInBounds_toArray, List.set_cons_zero, List.set_cons_succ])
                        | (refine HavG.val (fun _ => rfl) ?_ (fun x w hw _ => ?_) ?_; rotate_left; (focus (have hc := hw.cells; clear hw; go_simp; first | done | rfl)); simp only [Act.put, List.setIfInBounds_toArray, List.set_cons_zero, List.set_cons_succ]))
                      refine HavG.tail (by kernel_rfl) (by kernel_rfl) (fun x w6 hw _ => ?_)
                      have HW := Lib.hid hw
                      clear hw
                      go_wp2_with fail
                      go_round
                      case rel => exact ⟨k + 1, by go_num, by omega, HAK.out.next hlk hlk' (HPQ.out.2 (Ed.ext' HTK.out HTG.out)), HGK.out.trans HW.out⟩
                      case measure => simp [intOf]; omega
                    · have h2 : (p.tgt != q.tgt) = true := by simpa using htg
                      have HTG := Lib.hid htg
                      clear htg
                      go_wp2_with fail
                      refine wp_region_hav_lit follows (by kernel_rfl) ?_
                      repeat (first
                        | (refine HavG.skip (fun _ => rfl) ?_; simp only [Act.put, List.setIfInBounds_toArray, List.set_cons_zero, List.set_cons_succ])
                        | (refine HavG.val (fun _ => rfl) ?_ (fun x w hw _ => ?_) ?_; rotate_left; (focus (have hc := hw.cells; clear hw; go_simp; first | done | rfl)); simp only [Act.put, List.setIfInBounds_toArray, List.set_cons_zero, List.set_cons_succ]))
                      refine HavG.tail (by kernel_rfl) (by kernel_rfl) (fun x w6 hw _ => ?_)
                      have HW := Lib.hid hw
                      clear hw
                      go_wp2_with fail
                      go_ret
                      exact ⟨ret_bool (HNE.out (fun e => HNQ.out (fun e => HTG.out (by rw [e])) (HST.out.1 e))).symm, HGV.out.trans HW.out⟩
                  · have h1 : (p.tok != q.tok) = true := by simpa using htk
                    have HTK := Lib.hid htk
                    clear htk
                    go_wp2_with fail
                    refine wp_region_hav_lit follows (by kernel_rfl) ?_
                    repeat (first
                      | (refine HavG.skip (fun _ => rfl) ?_; simp only [Act.put, List.setIfInBounds_toArray, List.set_cons_zero, List.set_cons_succ])
                      | (refine HavG.val (fun _ => rfl) ?_ (fun x w hw _ => ?_) ?_; rotate_left; (focus (have hc := hw.cells; clear hw; go_simp; first | done | rfl)); simp only [Act.put, List.setIfInBounds_toArray, List.set_cons_zero, List.set_cons_succ]))
                    refine HavG.tail (by kernel_rfl) (by kernel_rfl) (fun x w6 hw _ => ?_)
                    have HW := Lib.hid hw
                    clear hw
                    go_wp2_with fail
                    go_ret
                    exact ⟨ret_bool (HNE.out (fun e => HNQ.out (fun e => HTK.out (by rw [e])) (HST.out.1 e))).symm, HGV.out.trans HW.out⟩
                · have hkn : k = s.edges.length := by omega
                  subst hkn
                  go_wp2_with fail
                  go_round
                  case rel => exact ⟨n + 1, by go_num, by omega, HAL.out.next hlt hltb (HST.out.2 (Stt.ext' HK.out HAT.out (HAK.out.all HEL.out))), HGR4.out.trans (HB5.out.trans HGK.out)⟩
                  case measure => simp [intOf]; omega
            · have hel' : ((s.edges.length : Int) != (t.edges.length : Int)) = true := by simp; omega
              have HEL := Lib.hid hel
              clear hel
              rw [hk] at hsu k0
              have hkk : (t.kind != t.kind) = false := by simp
              clear hk hk'
              go_wp2_with (go_at_call 13; refine HSN.out.mono ?_; rintro e w5 ⟨rfl, hb5⟩; have k2 := (HO3.out.keep hb5).cell_at (i := 2) rfl; have l2 := (HO4.out.keep hb5).cell_at (i := 2) rfl; have HB5 := Lib.hid hb5; clear hb5)
              go_ret
              exact ⟨ret_bool (HNE.out (fun e => HEL.out (by rw [HST.out.1 e]))).symm, HG4.out.trans HB5.out⟩
          · have hsn := HSN.out
            rw [decide_eq_false hal] at hsn
            have HSN := Lib.hid hsn
            have HAT := Lib.hid hal
            clear hsn hal
            rw [hk] at hsu k0
            have hkk : (t.kind != t.kind) = false := by simp
            clear hk hk'
            go_wp2_with (go_at_call 13; refine HSN.out.mono ?_; rintro e w5 ⟨rfl, hb5⟩; have HB5 := Lib.hid hb5; clear hb5)
            go_ret
            exact ⟨ret_bool (HNE.out (fun e => HAT.out (by rw [HST.out.1 e]))).symm, HG4.out.trans HB5.out⟩
        · have hk' : (s.kind != t.kind) = true := by simpa using hk
          have HK := Lib.hid hk
          clear hk
          go_wp2_with fail
          go_ret
          exact ⟨ret_bool (HNE.out (fun e => HK.out (by rw [HST.out.1 e]))).symm, HG4.out⟩
      · have hne : n = a.length := by omega
        subst hne
        go_wp2_with fail
        go_ret
        exact ⟨ret_bool (by rw [decide_eq_true (HAL.out.all HLN.out)]), HGW.out⟩
  · have hne : ((a.length : Int) != (b.length : Int)) = true := by simp; omega
    have HLN := Lib.hid hlen
    clear hlen
    go_enter Tryd.func17, Tryd.ntmps17
    go_wp2_with fail
    go_ret
    exact ⟨ret_bool (by symm; rw [decide_eq_false_iff_not]; exact fun e => HLN.out (by rw [e])), HG.out⟩
end Go.Proofs.YtogmlonhciiomaaDoor
