/- Ends: as often as may be. Printed by gennfends.py. -/
import Derived.Test.YtkinlcichclnkaaDoorQT38
import Derived.Test.YtkinlcichclnkaaDoorQT39
import Derived.Test.YtkinlcichclnkaaDoorQT40
namespace Go.Proofs.YtkinlcichclnkaaDoor
open Go.RowKit

set_option maxHeartbeats 8000000 in
set_option maxRecDepth 40000 in
theorem en_star {lim : Nat} {g : Gr} {la : Option Addr} {lc : Nat} {l : List Int} (hl12 : l.length ≤ 100) (nm tx : ByteArray) (set : List (Int × Int)) (subs : List Nd) (hone : Hid (subs.length = 1)) (hrec : ∀ s ∈ subs, EndsC lim g la lc l s) (ht : ∀ s (_ : s ∈ subs) u, Tx g.lk (.mk 3 nm tx set subs) u ↔ u = [] ∨ Plus (Tx g.lk s) u) : EndsC lim g la lc l (.mk 3 nm tx set subs) := by
  intro W g0 g1 g2 g3 v0 v1 v2 v3 v4 vin inn hG hR hlim hA hV hin
  have HND := Lib.hid hA
  rw [NodeAt] at hA
  obtain ⟨hkk, h1, h2, h3, h4, h5, ⟨sa, sc, h6, h6', h7⟩, na, nc, h8, h8', h9⟩ := hA
  obtain rfl := Option.some.inj h3
  obtain rfl := Option.some.inj h4
  obtain rfl := Option.some.inj h5
  obtain rfl := Option.some.inj h6
  obtain rfl := Option.some.inj h8
  clear h3 h4 h5 h6 h8
  unfold reachN at h1 h2 h6' h8'
  have HG := Lib.hid hG
  obtain ⟨q1, q2, q3, q4, q5, q6, ra, rc, q7, q8, q9⟩ := hG
  obtain rfl := Option.some.inj q1
  obtain rfl := Option.some.inj q3
  obtain rfl := Option.some.inj q4
  obtain rfl := Option.some.inj q7
  clear q1 q2 q3 q4 q5 q6 q7
  unfold reachN at q8
  have H7 := Lib.hid h7
  have H9 := Lib.hid h9
  have HQ9 := Lib.hid q9
  have HR := Lib.hid hR
  have HLIM := Lib.hid hlim
  have HIN := Lib.hid hin
  obtain ⟨va, vc, rfl⟩ := brow_form hV
  obtain ⟨f, hf⟩ : ∃ f, W.heap.size = f := ⟨_, rfl⟩
  obtain ⟨w1, hw1⟩ : ∃ w1, W.alloc (.cells #[.string g.name, .int .i64 g.bound, .int .i64 g.states, .slice ra g.rules.length rc] 26) = w1 := ⟨_, rfl⟩
  obtain ⟨w2, hw2⟩ : ∃ w2, w1.alloc (.cells #[.int .u8 3, .string nm, .string tx, .slice sa set.length sc, .slice na subs.length nc] 34) = w2 := ⟨_, rfl⟩
  obtain ⟨w3, hw3⟩ : ∃ w3, w2.alloc (.cells (List.replicate inn.length (.bool false)).toArray 4) = w3 := ⟨_, rfl⟩
  have z1 : w1.heap.size = f + 1 := by rw [← hw1, ← hf]; exact World.size_alloc _ _
  have z2 : w2.heap.size = f + 1 + 1 := by rw [← hw2, ← z1]; exact World.size_alloc _ _
  have g1 : Grew W w1 := hw1 ▸ grew_alloc W _
  have g2 : Grew w1 w2 := hw2 ▸ grew_alloc w1 _
  have g3 : Grew w2 w3 := hw3 ▸ grew_alloc w2 _
  have o1 : Owns w1 f [.string g.name, .int .i64 g.bound, .int .i64 g.states, .slice ra g.rules.length rc] 26 := hf ▸ hw1 ▸ Owns.alloc W _ _
  have o2 : Owns w2 (f + 1) [.int .u8 3, .string nm, .string tx, .slice sa set.length sc, .slice na subs.length nc] 34 := z1 ▸ hw2 ▸ Owns.alloc w1 _ _
  have o3 : BRow w3 (.slice (some ⟨f + 1 + 1, 0, none⟩) inn.length inn.length) (List.replicate inn.length false) := by
    have := owns_bools (w := w3) (b := f + 1 + 1) (l := List.replicate inn.length false) (by rw [List.map_replicate, ← z2, ← hw3]; exact Owns.alloc w2 _ _) (by rw [List.length_replicate]; omega)
    rw [List.length_replicate] at this
    exact this
  have hmb := make_bools inn.length (by unfold reachN; omega) w2
  rw [hw3, z2] at hmb
  have HO1 := Lib.hid ((o1.keep g2).keep g3)
  have HO2 := Lib.hid (o2.keep g3)
  have HO3 := Lib.hid o3
  have G3 := Lib.hid ((g1.trans g2).trans g3)
  have HV3 := Lib.hid (hV.grew G3.out)
  have HSM := Lib.hid (some8_ok inn (by omega) w3 _ HV3.out)
  obtain ⟨N, hN⟩ : ∃ N, inn.length = N := ⟨_, rfl⟩
  have HN := Lib.hid hN
  rw [hN] at hmb HO3 HV3 HSM ⊢
  rw [hN] at hin
  have HIN2 := Lib.hid hin
  clear hV hlim hR h7 h9 q9 g1 g2 g3 o1 o2 o3 hw3 hN hin
  go_enter Tryd.func12, Tryd.ntmps12
  go_wp2_with fail
  refine HSM.out.mono ?_
  rintro e w4 ⟨rfl, hg4⟩
  clear hw1 hw2 hmb HSM z1 z2 hf
  have G4 := Lib.hid (G3.out.trans hg4)
  have OG := Lib.hid (HO1.out.keep hg4)
  have ON := Lib.hid (HO2.out.keep hg4)
  have BO := Lib.hid (HO3.out.grew hg4)
  have HV4 := Lib.hid (HV3.out.grew hg4)
  clear HO1 HO2 HO3 HV3 G3 hg4
  obtain ⟨s, hs⟩ : ∃ s, inn.any id = s := ⟨_, rfl⟩
  have HS := Lib.hid hs
  rw [hs]
  clear hs
  cases s
  · go_wp2_with fail
    go_ret
    exact ⟨_, _, rfl, BO.out, SetIs.empty _ HIN2.out (fun j ⟨i, _, h, _⟩ => SetIs.none HS.out ⟨i, h⟩), G4.out⟩
  have n0 := ON.out.cell_at (i := 0) rfl
  have n1 := ON.out.cell_at (i := 1) rfl
  have n2 := ON.out.cell_at (i := 2) rfl
  have n3 := ON.out.cell_at (i := 3) rfl
  have n4 := ON.out.cell_at (i := 4) rfl
  have nl := ON.out.lt
  have HT := Lib.hid ht
  have HREC := Lib.hid hrec
  clear ht hrec
  have hidx : 0 < subs.length := by have := hone.out; omega
  obtain ⟨bq, off, hna, hbq, hnode⟩ := H9.out.get hidx
  simp only [Nat.zero_mul, Nat.add_zero] at hnode
  obtain ⟨s, hs9⟩ : ∃ s, subs[0] = s := ⟨_, rfl⟩
  have HMEM := Lib.hid (hs9 ▸ List.getElem_mem hidx)
  rw [hs9] at hnode
  have hbW : bq < W.heap.size := Nat.lt_of_lt_of_le hbq HLIM.out
  have hb4 : bq < w4.heap.size := Nat.lt_of_lt_of_le hbW G4.out.size
  have ecell : ∀ o, w4.cell? ⟨bq, o, none⟩ = W.cell? ⟨bq, o, none⟩ := fun o => G4.out.cells _ _ hbW
  obtain ⟨u0, u1, u2, u3, u4, e0, e1, e2, e3, e4, hnode⟩ := hnode.vals
  obtain ⟨m0, m1, m2, m3, m4, m5, m6, m7, m8, rfl, rfl, rfl, rfl, rfl⟩ := hnode.forms
  rw [← ecell] at e0 e1 e2 e3 e4
  have HC : Hid (∀ (w : World) (v : Value) (inn' : List Bool), Grew w4 w → BRow w v inn' → inn'.length = l.length + 1 → Calls Tryd.prog 12 #[.agg #[.string g.name, .int .i64 g.bound, .int .i64 g.states, .slice ra g.rules.length rc], .agg #[.int .u8 m0, .string m1, .string m2, .slice m3 m4 m5, .slice m6 m7 m8], .slice la l.length lc, v] w (EndsR g.lk l s inn' w)) := Lib.hid fun w v inn' hw hv hi =>
    HREC.out s HMEM.out w _ _ _ _ _ _ _ _ _ v inn' (HG.out.keep (show Below lim W w from (G4.out.trans hw).mono HLIM.out)) (HR.out.keep ((G4.out.trans hw).mono HLIM.out)) (Nat.le_trans HLIM.out (G4.out.trans hw).size) (hnode.keep ((G4.out.trans hw).mono HLIM.out)) hv hi
  clear hnode ecell hbq hbW
  subst hna
  have hlen : (0 : Int) < (subs.length : Int) := by omega
  go_upto_region 21 with fail
  go_wp2_with fail
  clear n0 n1 n2 n3 n4 nl
  have HE0 := Lib.hid e0
  have HE1 := Lib.hid e1
  have HE2 := Lib.hid e2
  have HE3 := Lib.hid e3
  have HE4 := Lib.hid e4
  have HBQ := Lib.hid hb4
  clear e0 e1 e2 e3 e4 hb4 hs9
  have hN101 : N ≤ 101 := by have := HIN2.out; omega
  go_loopw [9, 12, 13] (fun a9 a12 c wr => ∃ (m : Nat) (x9 x12 : Value) (out was : List Bool), a9 = x9 ∧ a12 = x12 ∧ c = .int .i64 m ∧ m ≤ N ∧ Hid (Grew w4 wr) ∧ Hid (BRow wr x9 out) ∧ Hid (BRow wr x12 was) ∧ Hid (SetIs l was (Rc l (Rep (Tx g.lk s) m) inn)) ∧ Hid (SetIs l out (Rc l (fun u => ∃ k, 1 ≤ k ∧ k ≤ m ∧ Rep (Tx g.lk s) k u) inn))) (fun _ _ c _ => N - (intOf c).toNat)
  case atStart => exact ⟨0, _, _, _, inn, rfl, rfl, rfl, Nat.zero_le _, Grew.refl _, BO.out, HV4.out, SetIs.self HIN.out, SetIs.empty _ HIN2.out (fun j ⟨i, _, _, k, h1, h2, _⟩ => by omega)⟩
  case round =>
    obtain ⟨m, x9, x12, out, was, rfl, rfl, rfl, hm, GR, BX, BW, SW, SX⟩ := hrel
    by_cases hlt : m < N
    · have GW := Lib.hid (G4.out.trans GR.out)
      have e0 := (GR.out.cells _ _ HBQ.out).trans HE0.out
      have e1 := (GR.out.cells _ _ HBQ.out).trans HE1.out
      have e2 := (GR.out.cells _ _ HBQ.out).trans HE2.out
      have e3 := (GR.out.cells _ _ HBQ.out).trans HE3.out
      have e4 := (GR.out.cells _ _ HBQ.out).trans HE4.out
      have hb4 := Nat.lt_of_lt_of_le HBQ.out GR.out.size
      have hON := ON.out.keep GR.out
      have n4 := hON.cell_at (i := 4) rfl
      have nl := hON.lt
      have hOG := OG.out.keep GR.out
      have a0 := hOG.cell_at (i := 0) rfl
      have a1 := hOG.cell_at (i := 1) rfl
      have a2 := hOG.cell_at (i := 2) rfl
      have a3 := hOG.cell_at (i := 3) rfl
      have al := hOG.lt
      clear hON hOG
      go_upto_region 25 with fail
      refine wp_region_hav_lit follows (by kernel_rfl) ?_
      iterate 7 (first
        | (refine HavG.skip (fun _ => rfl) ?_; simp only [Act.put, List.setIfInBounds_toArray, List.set_cons_zero, List.set_cons_succ])
        | (refine HavG.val (fun _ => rfl) ?_ (fun x w hw _ => ?_) ?_; rotate_left; (focus (have hc := hw.cells; clear hw; go_simp; first | done | rfl)); simp only [Act.put, List.setIfInBounds_toArray, List.set_cons_zero, List.set_cons_succ]))
      refine HavG.any (fun _ => rfl) (SetV l (Rc l (Tx g.lk s) was)) (fun _ _ _ hg h => SetV.keep hg h) (fun x w hw _ => ?_) ?_
      · have HW := Lib.hid hw
        clear hw
        go_simp
        refine (HC.out w _ was (GR.out.trans HW.out) (BW.out.grew HW.out) SW.out.len).mono ?_
        rintro e w' ⟨x, out, rfl, h1, h2, h3⟩
        exact ⟨h3, out, h1, h2⟩
      simp only [Act.put, List.setIfInBounds_toArray, List.set_cons_zero, List.set_cons_succ]
      refine HavG.tail (by kernel_rfl) (by kernel_rfl) (fun x w9 hw9 hx => ?_)
      have hx9 := hx _ (List.mem_append_right _ (List.mem_singleton.2 rfl))
      clear hx
      dsimp only at hx9
      generalize x _ = y9 at *
      obtain ⟨out9, hb9, hs9⟩ := hx9
      have HB9 := Lib.hid hb9
      have HS9 := Lib.hid hs9
      have G9 := Lib.hid (GR.out.trans hw9)
      have BX9 := Lib.hid (BX.out.grew hw9)
      have SW9 : Hid (SetIs l out9 (Rc l (Rep (Tx g.lk s) (m + 1)) inn)) := Lib.hid (HS9.out.imp fun t ht9 => Rc.cat SW.out ht9)
      have HON1 := Lib.hid (one8_ok out out9 (by rw [SX.out.len, SW9.out.len]) (by rw [SX.out.len]; omega) w9 _ _ BX9.out HB9.out)
      clear hb9 hs9 hw9 e0 e1 e2 e3 e4 hb4 n4 nl a0 a1 a2 a3 al
      go_wp2_with fail
      refine HON1.out.mono ?_
      rintro e wA ⟨xA, rfl, hxA, hgA⟩
      have HXA := Lib.hid hxA
      have GA := Lib.hid (G9.out.trans hgA)
      have HBA := Lib.hid (HB9.out.grew hgA)
      have SXA : Hid (SetIs l (oneB out out9) (Rc l (fun u => ∃ k, 1 ≤ k ∧ k ≤ m + 1 ∧ Rep (Tx g.lk s) k u) inn)) := Lib.hid ((SetIs.or SX.out SW9.out).imp fun t _ => by
        rw [← Rc.or]
        refine Rc.iff (fun u => ⟨?_, ?_⟩) t
        · rintro (⟨k, h1, h2, h3⟩ | h)
          · exact ⟨k, h1, by omega, h3⟩
          · exact ⟨m + 1, by omega, Nat.le_refl _, h⟩
        · rintro ⟨k, h1, h2, h3⟩
          by_cases e : k = m + 1
          · subst e; exact .inr h3
          · exact .inl ⟨k, h1, by omega, h3⟩)
      have HSO := Lib.hid (some8_ok out9 (by rw [SW9.out.len]; omega) wA _ HBA.out)
      clear hxA hgA HON1
      go_wp2_with fail
      refine HSO.out.mono ?_
      rintro e wB ⟨rfl, hgB⟩
      have GB := Lib.hid (GA.out.trans hgB)
      have HXB := Lib.hid (HXA.out.grew hgB)
      have HBB := Lib.hid (HBA.out.grew hgB)
      obtain ⟨s9, hs9⟩ : ∃ s, out9.any id = s := ⟨_, rfl⟩
      have HS99 := Lib.hid hs9
      rw [hs9]
      clear hs9 hgB HSO
      cases s9
      · have HPL := Lib.hid (plus_end SXA.out (.inr fun t ht9 h => SetIs.none HS99.out ⟨t, (SW9.out.iff t).2 ⟨ht9, h⟩⟩))
        have HBE := HXB
        have HPE := HPL
        have HGE := GB
        have hK := ON.out.keep HGE.out
        have nK := hK.cell_at (i := 0) rfl
        have nKl := hK.lt
        clear hK
        have HNEW := Lib.hid (one8_ok _ inn (by rw [HPE.out.len, HIN.out]) (by rw [HPE.out.len]; omega) wB _ _ HBE.out (HV4.out.grew HGE.out))
        go_wp2_with fail
        refine HNEW.out.mono ?_
        rintro e wF ⟨x, rfl, hx, hgF⟩
        have HXF := Lib.hid hx
        have GF := Lib.hid ((G4.out.trans HGE.out).trans hgF)
        clear hx hgF nK nKl
        go_wp2_with fail
        go_ret
        exact ⟨_, _, rfl, HXF.out, (SetIs.or HPE.out (SetIs.self HIN.out)).imp fun t _ => by rw [or_comm, ← Rc.or]; exact Rc.iff (fun u => (HT.out s HMEM.out u).symm) t, GF.out⟩
      · go_wp2_with fail
        exact ⟨⟨m + 1, _, _, _, out9, rfl, rfl, by go_num, by omega, GB.out, HXB.out, HBB.out, SW9.out, SXA.out⟩, by simp [intOf]; omega⟩
    · obtain rfl : m = N := by omega
      have HPL := Lib.hid (plus_end SX.out (.inl (by have := HIN2.out; omega)))
      have HBE := BX
      have HPE := HPL
      have HGE := GR
      have hK := ON.out.keep HGE.out
      have nK := hK.cell_at (i := 0) rfl
      have nKl := hK.lt
      clear hK
      have HNEW := Lib.hid (one8_ok _ inn (by rw [HPE.out.len, HIN.out]) (by rw [HPE.out.len]; omega) wr _ _ HBE.out (HV4.out.grew HGE.out))
      go_wp2_with fail
      refine HNEW.out.mono ?_
      rintro e wF ⟨x, rfl, hx, hgF⟩
      have HXF := Lib.hid hx
      have GF := Lib.hid ((G4.out.trans HGE.out).trans hgF)
      clear hx hgF nK nKl
      go_wp2_with fail
      go_ret
      exact ⟨_, _, rfl, HXF.out, (SetIs.or HPE.out (SetIs.self HIN.out)).imp fun t _ => by rw [or_comm, ← Rc.or]; exact Rc.iff (fun u => (HT.out s HMEM.out u).symm) t, GF.out⟩
set_option maxHeartbeats 8000000 in
set_option maxRecDepth 40000 in
theorem en_plus {lim : Nat} {g : Gr} {la : Option Addr} {lc : Nat} {l : List Int} (hl12 : l.length ≤ 100) (nm tx : ByteArray) (set : List (Int × Int)) (subs : List Nd) (hone : Hid (subs.length = 1)) (hrec : ∀ s ∈ subs, EndsC lim g la lc l s) (ht : ∀ s (_ : s ∈ subs) u, Tx g.lk (.mk 4 nm tx set subs) u ↔ Plus (Tx g.lk s) u) : EndsC lim g la lc l (.mk 4 nm tx set subs) := by
  intro W g0 g1 g2 g3 v0 v1 v2 v3 v4 vin inn hG hR hlim hA hV hin
  have HND := Lib.hid hA
  rw [NodeAt] at hA
  obtain ⟨hkk, h1, h2, h3, h4, h5, ⟨sa, sc, h6, h6', h7⟩, na, nc, h8, h8', h9⟩ := hA
  obtain rfl := Option.some.inj h3
  obtain rfl := Option.some.inj h4
  obtain rfl := Option.some.inj h5
  obtain rfl := Option.some.inj h6
  obtain rfl := Option.some.inj h8
  clear h3 h4 h5 h6 h8
  unfold reachN at h1 h2 h6' h8'
  have HG := Lib.hid hG
  obtain ⟨q1, q2, q3, q4, q5, q6, ra, rc, q7, q8, q9⟩ := hG
  obtain rfl := Option.some.inj q1
  obtain rfl := Option.some.inj q3
  obtain rfl := Option.some.inj q4
  obtain rfl := Option.some.inj q7
  clear q1 q2 q3 q4 q5 q6 q7
  unfold reachN at q8
  have H7 := Lib.hid h7
  have H9 := Lib.hid h9
  have HQ9 := Lib.hid q9
  have HR := Lib.hid hR
  have HLIM := Lib.hid hlim
  have HIN := Lib.hid hin
  obtain ⟨va, vc, rfl⟩ := brow_form hV
  obtain ⟨f, hf⟩ : ∃ f, W.heap.size = f := ⟨_, rfl⟩
  obtain ⟨w1, hw1⟩ : ∃ w1, W.alloc (.cells #[.string g.name, .int .i64 g.bound, .int .i64 g.states, .slice ra g.rules.length rc] 26) = w1 := ⟨_, rfl⟩
  obtain ⟨w2, hw2⟩ : ∃ w2, w1.alloc (.cells #[.int .u8 4, .string nm, .string tx, .slice sa set.length sc, .slice na subs.length nc] 34) = w2 := ⟨_, rfl⟩
  obtain ⟨w3, hw3⟩ : ∃ w3, w2.alloc (.cells (List.replicate inn.length (.bool false)).toArray 4) = w3 := ⟨_, rfl⟩
  have z1 : w1.heap.size = f + 1 := by rw [← hw1, ← hf]; exact World.size_alloc _ _
  have z2 : w2.heap.size = f + 1 + 1 := by rw [← hw2, ← z1]; exact World.size_alloc _ _
  have g1 : Grew W w1 := hw1 ▸ grew_alloc W _
  have g2 : Grew w1 w2 := hw2 ▸ grew_alloc w1 _
  have g3 : Grew w2 w3 := hw3 ▸ grew_alloc w2 _
  have o1 : Owns w1 f [.string g.name, .int .i64 g.bound, .int .i64 g.states, .slice ra g.rules.length rc] 26 := hf ▸ hw1 ▸ Owns.alloc W _ _
  have o2 : Owns w2 (f + 1) [.int .u8 4, .string nm, .string tx, .slice sa set.length sc, .slice na subs.length nc] 34 := z1 ▸ hw2 ▸ Owns.alloc w1 _ _
  have o3 : BRow w3 (.slice (some ⟨f + 1 + 1, 0, none⟩) inn.length inn.length) (List.replicate inn.length false) := by
    have := owns_bools (w := w3) (b := f + 1 + 1) (l := List.replicate inn.length false) (by rw [List.map_replicate, ← z2, ← hw3]; exact Owns.alloc w2 _ _) (by rw [List.length_replicate]; omega)
    rw [List.length_replicate] at this
    exact this
  have hmb := make_bools inn.length (by unfold reachN; omega) w2
  rw [hw3, z2] at hmb
  have HO1 := Lib.hid ((o1.keep g2).keep g3)
  have HO2 := Lib.hid (o2.keep g3)
  have HO3 := Lib.hid o3
  have G3 := Lib.hid ((g1.trans g2).trans g3)
  have HV3 := Lib.hid (hV.grew G3.out)
  have HSM := Lib.hid (some8_ok inn (by omega) w3 _ HV3.out)
  obtain ⟨N, hN⟩ : ∃ N, inn.length = N := ⟨_, rfl⟩
  have HN := Lib.hid hN
  rw [hN] at hmb HO3 HV3 HSM ⊢
  rw [hN] at hin
  have HIN2 := Lib.hid hin
  clear hV hlim hR h7 h9 q9 g1 g2 g3 o1 o2 o3 hw3 hN hin
  go_enter Tryd.func12, Tryd.ntmps12
  go_wp2_with fail
  refine HSM.out.mono ?_
  rintro e w4 ⟨rfl, hg4⟩
  clear hw1 hw2 hmb HSM z1 z2 hf
  have G4 := Lib.hid (G3.out.trans hg4)
  have OG := Lib.hid (HO1.out.keep hg4)
  have ON := Lib.hid (HO2.out.keep hg4)
  have BO := Lib.hid (HO3.out.grew hg4)
  have HV4 := Lib.hid (HV3.out.grew hg4)
  clear HO1 HO2 HO3 HV3 G3 hg4
  obtain ⟨s, hs⟩ : ∃ s, inn.any id = s := ⟨_, rfl⟩
  have HS := Lib.hid hs
  rw [hs]
  clear hs
  cases s
  · go_wp2_with fail
    go_ret
    exact ⟨_, _, rfl, BO.out, SetIs.empty _ HIN2.out (fun j ⟨i, _, h, _⟩ => SetIs.none HS.out ⟨i, h⟩), G4.out⟩
  have n0 := ON.out.cell_at (i := 0) rfl
  have n1 := ON.out.cell_at (i := 1) rfl
  have n2 := ON.out.cell_at (i := 2) rfl
  have n3 := ON.out.cell_at (i := 3) rfl
  have n4 := ON.out.cell_at (i := 4) rfl
  have nl := ON.out.lt
  have HT := Lib.hid ht
  have HREC := Lib.hid hrec
  clear ht hrec
  have hidx : 0 < subs.length := by have := hone.out; omega
  obtain ⟨bq, off, hna, hbq, hnode⟩ := H9.out.get hidx
  simp only [Nat.zero_mul, Nat.add_zero] at hnode
  obtain ⟨s, hs9⟩ : ∃ s, subs[0] = s := ⟨_, rfl⟩
  have HMEM := Lib.hid (hs9 ▸ List.getElem_mem hidx)
  rw [hs9] at hnode
  have hbW : bq < W.heap.size := Nat.lt_of_lt_of_le hbq HLIM.out
  have hb4 : bq < w4.heap.size := Nat.lt_of_lt_of_le hbW G4.out.size
  have ecell : ∀ o, w4.cell? ⟨bq, o, none⟩ = W.cell? ⟨bq, o, none⟩ := fun o => G4.out.cells _ _ hbW
  obtain ⟨u0, u1, u2, u3, u4, e0, e1, e2, e3, e4, hnode⟩ := hnode.vals
  obtain ⟨m0, m1, m2, m3, m4, m5, m6, m7, m8, rfl, rfl, rfl, rfl, rfl⟩ := hnode.forms
  rw [← ecell] at e0 e1 e2 e3 e4
  have HC : Hid (∀ (w : World) (v : Value) (inn' : List Bool), Grew w4 w → BRow w v inn' → inn'.length = l.length + 1 → Calls Tryd.prog 12 #[.agg #[.string g.name, .int .i64 g.bound, .int .i64 g.states, .slice ra g.rules.length rc], .agg #[.int .u8 m0, .string m1, .string m2, .slice m3 m4 m5, .slice m6 m7 m8], .slice la l.length lc, v] w (EndsR g.lk l s inn' w)) := Lib.hid fun w v inn' hw hv hi =>
    HREC.out s HMEM.out w _ _ _ _ _ _ _ _ _ v inn' (HG.out.keep (show Below lim W w from (G4.out.trans hw).mono HLIM.out)) (HR.out.keep ((G4.out.trans hw).mono HLIM.out)) (Nat.le_trans HLIM.out (G4.out.trans hw).size) (hnode.keep ((G4.out.trans hw).mono HLIM.out)) hv hi
  clear hnode ecell hbq hbW
  subst hna
  have hlen : (0 : Int) < (subs.length : Int) := by omega
  go_upto_region 21 with fail
  go_wp2_with fail
  clear n0 n1 n2 n3 n4 nl
  have HE0 := Lib.hid e0
  have HE1 := Lib.hid e1
  have HE2 := Lib.hid e2
  have HE3 := Lib.hid e3
  have HE4 := Lib.hid e4
  have HBQ := Lib.hid hb4
  clear e0 e1 e2 e3 e4 hb4 hs9
  have hN101 : N ≤ 101 := by have := HIN2.out; omega
  go_loopw [9, 12, 13] (fun a9 a12 c wr => ∃ (m : Nat) (x9 x12 : Value) (out was : List Bool), a9 = x9 ∧ a12 = x12 ∧ c = .int .i64 m ∧ m ≤ N ∧ Hid (Grew w4 wr) ∧ Hid (BRow wr x9 out) ∧ Hid (BRow wr x12 was) ∧ Hid (SetIs l was (Rc l (Rep (Tx g.lk s) m) inn)) ∧ Hid (SetIs l out (Rc l (fun u => ∃ k, 1 ≤ k ∧ k ≤ m ∧ Rep (Tx g.lk s) k u) inn))) (fun _ _ c _ => N - (intOf c).toNat)
  case atStart => exact ⟨0, _, _, _, inn, rfl, rfl, rfl, Nat.zero_le _, Grew.refl _, BO.out, HV4.out, SetIs.self HIN.out, SetIs.empty _ HIN2.out (fun j ⟨i, _, _, k, h1, h2, _⟩ => by omega)⟩
  case round =>
    obtain ⟨m, x9, x12, out, was, rfl, rfl, rfl, hm, GR, BX, BW, SW, SX⟩ := hrel
    by_cases hlt : m < N
    · have GW := Lib.hid (G4.out.trans GR.out)
      have e0 := (GR.out.cells _ _ HBQ.out).trans HE0.out
      have e1 := (GR.out.cells _ _ HBQ.out).trans HE1.out
      have e2 := (GR.out.cells _ _ HBQ.out).trans HE2.out
      have e3 := (GR.out.cells _ _ HBQ.out).trans HE3.out
      have e4 := (GR.out.cells _ _ HBQ.out).trans HE4.out
      have hb4 := Nat.lt_of_lt_of_le HBQ.out GR.out.size
      have hON := ON.out.keep GR.out
      have n4 := hON.cell_at (i := 4) rfl
      have nl := hON.lt
      have hOG := OG.out.keep GR.out
      have a0 := hOG.cell_at (i := 0) rfl
      have a1 := hOG.cell_at (i := 1) rfl
      have a2 := hOG.cell_at (i := 2) rfl
      have a3 := hOG.cell_at (i := 3) rfl
      have al := hOG.lt
      clear hON hOG
      go_upto_region 25 with fail
      refine wp_region_hav_lit follows (by kernel_rfl) ?_
      iterate 7 (first
        | (refine HavG.skip (fun _ => rfl) ?_; simp only [Act.put, List.setIfInBounds_toArray, List.set_cons_zero, List.set_cons_succ])
        | (refine HavG.val (fun _ => rfl) ?_ (fun x w hw _ => ?_) ?_; rotate_left; (focus (have hc := hw.cells; clear hw; go_simp; first | done | rfl)); simp only [Act.put, List.setIfInBounds_toArray, List.set_cons_zero, List.set_cons_succ]))
      refine HavG.any (fun _ => rfl) (SetV l (Rc l (Tx g.lk s) was)) (fun _ _ _ hg h => SetV.keep hg h) (fun x w hw _ => ?_) ?_
      · have HW := Lib.hid hw
        clear hw
        go_simp
        refine (HC.out w _ was (GR.out.trans HW.out) (BW.out.grew HW.out) SW.out.len).mono ?_
        rintro e w' ⟨x, out, rfl, h1, h2, h3⟩
        exact ⟨h3, out, h1, h2⟩
      simp only [Act.put, List.setIfInBounds_toArray, List.set_cons_zero, List.set_cons_succ]
      refine HavG.tail (by kernel_rfl) (by kernel_rfl) (fun x w9 hw9 hx => ?_)
      have hx9 := hx _ (List.mem_append_right _ (List.mem_singleton.2 rfl))
      clear hx
      dsimp only at hx9
      generalize x _ = y9 at *
      obtain ⟨out9, hb9, hs9⟩ := hx9
      have HB9 := Lib.hid hb9
      have HS9 := Lib.hid hs9
      have G9 := Lib.hid (GR.out.trans hw9)
      have BX9 := Lib.hid (BX.out.grew hw9)
      have SW9 : Hid (SetIs l out9 (Rc l (Rep (Tx g.lk s) (m + 1)) inn)) := Lib.hid (HS9.out.imp fun t ht9 => Rc.cat SW.out ht9)
      have HON1 := Lib.hid (one8_ok out out9 (by rw [SX.out.len, SW9.out.len]) (by rw [SX.out.len]; omega) w9 _ _ BX9.out HB9.out)
      clear hb9 hs9 hw9 e0 e1 e2 e3 e4 hb4 n4 nl a0 a1 a2 a3 al
      go_wp2_with fail
      refine HON1.out.mono ?_
      rintro e wA ⟨xA, rfl, hxA, hgA⟩
      have HXA := Lib.hid hxA
      have GA := Lib.hid (G9.out.trans hgA)
      have HBA := Lib.hid (HB9.out.grew hgA)
      have SXA : Hid (SetIs l (oneB out out9) (Rc l (fun u => ∃ k, 1 ≤ k ∧ k ≤ m + 1 ∧ Rep (Tx g.lk s) k u) inn)) := Lib.hid ((SetIs.or SX.out SW9.out).imp fun t _ => by
        rw [← Rc.or]
        refine Rc.iff (fun u => ⟨?_, ?_⟩) t
        · rintro (⟨k, h1, h2, h3⟩ | h)
          · exact ⟨k, h1, by omega, h3⟩
          · exact ⟨m + 1, by omega, Nat.le_refl _, h⟩
        · rintro ⟨k, h1, h2, h3⟩
          by_cases e : k = m + 1
          · subst e; exact .inr h3
          · exact .inl ⟨k, h1, by omega, h3⟩)
      have HSO := Lib.hid (some8_ok out9 (by rw [SW9.out.len]; omega) wA _ HBA.out)
      clear hxA hgA HON1
      go_wp2_with fail
      refine HSO.out.mono ?_
      rintro e wB ⟨rfl, hgB⟩
      have GB := Lib.hid (GA.out.trans hgB)
      have HXB := Lib.hid (HXA.out.grew hgB)
      have HBB := Lib.hid (HBA.out.grew hgB)
      obtain ⟨s9, hs9⟩ : ∃ s, out9.any id = s := ⟨_, rfl⟩
      have HS99 := Lib.hid hs9
      rw [hs9]
      clear hs9 hgB HSO
      cases s9
      · have HPL := Lib.hid (plus_end SXA.out (.inr fun t ht9 h => SetIs.none HS99.out ⟨t, (SW9.out.iff t).2 ⟨ht9, h⟩⟩))
        have HBE := HXB
        have HPE := HPL
        have HGE := GB
        have hK := ON.out.keep HGE.out
        have nK := hK.cell_at (i := 0) rfl
        have nKl := hK.lt
        clear hK
        have HNEW : True := trivial
        go_wp2_with fail
        go_ret
        exact ⟨_, _, rfl, HBE.out, HPE.out.imp fun t _ => Rc.iff (fun u => (HT.out s HMEM.out u).symm) t, G4.out.trans HGE.out⟩
      · go_wp2_with fail
        exact ⟨⟨m + 1, _, _, _, out9, rfl, rfl, by go_num, by omega, GB.out, HXB.out, HBB.out, SW9.out, SXA.out⟩, by simp [intOf]; omega⟩
    · obtain rfl : m = N := by omega
      have HPL := Lib.hid (plus_end SX.out (.inl (by have := HIN2.out; omega)))
      have HBE := BX
      have HPE := HPL
      have HGE := GR
      have hK := ON.out.keep HGE.out
      have nK := hK.cell_at (i := 0) rfl
      have nKl := hK.lt
      clear hK
      have HNEW : True := trivial
      go_wp2_with fail
      go_ret
      exact ⟨_, _, rfl, HBE.out, HPE.out.imp fun t _ => Rc.iff (fun u => (HT.out s HMEM.out u).symm) t, G4.out.trans HGE.out⟩
end Go.Proofs.YtkinlcichclnkaaDoor

/- Ends, whatever it is of. -/
namespace Go.Proofs.YtkinlcichclnkaaDoor
open Go.RowKit

section
variable {lk : ByteArray → Nd} {nm tx : ByteArray} {set : List (Int × Int)} {subs : List Nd} {u : List Int}
theorem tx_0 : Tx lk (.mk 0 nm tx set subs) u ↔ ∃ s ∈ subs, Tx lk s u :=
  ⟨fun h => by cases h with
    | alt hx h => exact ⟨_, hx, h⟩
    | other hk => omega, fun ⟨_, h1, h2⟩ => .alt h1 h2⟩
theorem tx_1 : Tx lk (.mk 1 nm tx set subs) u ↔ TxL lk subs u :=
  ⟨fun h => by cases h with
    | seq h => exact h
    | other hk => omega, .seq⟩
theorem tx_8 : Tx lk (.mk 8 nm tx set subs) u ↔ u = runesOf tx :=
  ⟨fun h => by cases h with
    | lit => rfl
    | other hk => omega, fun e => e ▸ .lit⟩
theorem tx_9 : Tx lk (.mk 9 nm tx set subs) u ↔ ∃ r, u = [r] ∧ holdsR set r :=
  ⟨fun h => by cases h with
    | set h => exact ⟨_, rfl, h⟩
    | other hk => omega, fun ⟨_, e, h⟩ => e ▸ .set h⟩
theorem tx_6 : Tx lk (.mk 6 nm tx set subs) u ↔ Tx lk (lk nm) u :=
  ⟨fun h => by cases h with
    | tok h => exact h
    | other hk => omega, .tok⟩
theorem tx_2 (h1 : subs.length = 1) {s : Nd} (hs : s ∈ subs) : Tx lk (.mk 2 nm tx set subs) u ↔ u = [] ∨ Tx lk s u := by
  obtain ⟨x, rfl⟩ := List.length_eq_one_iff.1 h1
  obtain rfl := List.mem_singleton.1 hs
  exact ⟨fun h => by cases h with
    | opt0 => exact .inl rfl
    | opt h => exact .inr h
    | other hk => omega, fun h => h.elim (fun e => e ▸ .opt0) .opt⟩
theorem tx_3 (h1 : subs.length = 1) {s : Nd} (hs : s ∈ subs) : Tx lk (.mk 3 nm tx set subs) u ↔ u = [] ∨ Plus (Tx lk s) u := by
  obtain ⟨x, rfl⟩ := List.length_eq_one_iff.1 h1
  obtain rfl := List.mem_singleton.1 hs
  exact ⟨fun h => by cases h with
    | star0 => exact .inl rfl
    | star h => exact .inr (plus_iff.1 h)
    | other hk => omega, fun h => h.elim (fun e => e ▸ .star0) fun h => .star (plus_iff.2 h)⟩
theorem tx_4 (h1 : subs.length = 1) {s : Nd} (hs : s ∈ subs) : Tx lk (.mk 4 nm tx set subs) u ↔ Plus (Tx lk s) u := by
  obtain ⟨x, rfl⟩ := List.length_eq_one_iff.1 h1
  obtain rfl := List.mem_singleton.1 hs
  exact ⟨fun h => by cases h with
    | plus h => exact plus_iff.1 h
    | other hk => omega, fun h => .plus (plus_iff.2 h)⟩
theorem tx_other {k : Int} (h0 : k ≠ 0) (h1 : k ≠ 1) (h2 : k ≠ 2) (h3 : k ≠ 3) (h4 : k ≠ 4) (h6 : k ≠ 6) (h8 : k ≠ 8) (h9 : k ≠ 9) : Tx lk (.mk k nm tx set subs) u ↔ u = [] :=
  ⟨fun h => by cases h <;> first | rfl | contradiction, fun e => e ▸ .other (by omega)⟩
end
theorem ends_ok {lim : Nat} {g : Gr} {la : Option Addr} {lc : Nat} {l : List Int} (hl : l.length ≤ 100) (rk : Nat → Nat) (hrk : ∀ i (hi : i < g.rules.length), g.rules[i].parser = false → Lx g rk (rk i) g.rules[i].body) (hw : ∀ i (hi : i < g.rules.length), g.rules[i].body.whole) (hf : GrFit g) :
    ∀ (R : Nat) (n : Nd), Lx g rk R n → n.whole → NdFit g n → EndsC lim g la lc l n := by
  intro R
  induction R using Nat.strongRecOn with
  | _ R ihR =>
    refine Nd.ind ?_
    intro kd nm tx set subs ih hx hwh hfit
    have hrec : ∀ s ∈ subs, EndsC lim g la lc l s := fun s hs => by
      obtain ⟨i, hi, rfl⟩ := List.getElem_of_mem hs
      exact ih i hi (hx.sub hs) (whole_sub hwh hs) (hfit.sub hs)
    have hls : subs.length ≤ 3000 := hfit.subs _ (all_self _)
    have hone := hwh _ (all_self _)
    simp only [Nd.kind, Nd.subs] at hone
    by_cases e0 : kd = 0
    · subst e0; exact en_alts hl nm tx set subs hls hrec fun u => tx_0
    by_cases e1 : kd = 1
    · subst e1; exact en_seq hl nm tx set subs hls hrec fun u => tx_1
    by_cases e8 : kd = 8
    · subst e8; exact en_lit hl nm tx set subs fun u => tx_8
    by_cases e9 : kd = 9
    · subst e9; exact en_set hl nm tx set subs (hfit.set _ (all_self _)) fun u => tx_9
    by_cases e6 : kd = 6
    · subst e6
      obtain ⟨k, hk, h1, h2, h3⟩ := hx _ (all_self _) rfl
      simp only [Nd.name] at h1
      exact en_tok hl nm tx set subs k hk h1 (ihR _ h2 _ (hrk k hk h3) (hw k hk) (hf.rule k hk)) fun u => by rw [tx_6, Gr.lk_at hk h1]
    by_cases e2 : kd = 2
    · subst e2; exact en_opt hl nm tx set subs (hone (.inl rfl)) hrec fun s hs u => tx_2 (hone (.inl rfl)) hs
    by_cases e3 : kd = 3
    · subst e3; exact en_star hl nm tx set subs (hone (.inr (.inl rfl))) hrec fun s hs u => tx_3 (hone (.inr (.inl rfl))) hs
    by_cases e4 : kd = 4
    · subst e4; exact en_plus hl nm tx set subs (hone (.inr (.inr rfl))) hrec fun s hs u => tx_4 (hone (.inr (.inr rfl))) hs
    exact en_other hl kd nm tx set subs e0 e1 e2 e3 e4 e6 e8 e9 fun u => tx_other e0 e1 e2 e3 e4 e6 e8 e9
end Go.Proofs.YtkinlcichclnkaaDoor
