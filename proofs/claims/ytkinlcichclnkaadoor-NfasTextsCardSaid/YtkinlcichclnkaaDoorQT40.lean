/- Ends: at most once. Printed by gennfends.py. -/
import Derived.Test.YtkinlcichclnkaaDoorQT38
namespace Go.Proofs.YtkinlcichclnkaaDoor
open Go.RowKit

set_option maxHeartbeats 8000000 in
set_option maxRecDepth 40000 in
theorem en_opt {lim : Nat} {g : Gr} {la : Option Addr} {lc : Nat} {l : List Int} (hl12 : l.length ≤ 100) (nm tx : ByteArray) (set : List (Int × Int)) (subs : List Nd) (hone : Hid (subs.length = 1)) (hrec : ∀ s ∈ subs, EndsC lim g la lc l s) (ht : ∀ s (_ : s ∈ subs) u, Tx g.lk (.mk 2 nm tx set subs) u ↔ u = [] ∨ Tx g.lk s u) : EndsC lim g la lc l (.mk 2 nm tx set subs) := by
  intro W g0 g1 g2 g3 v0 v1 v2 v3 v4 vin inn hG hR hlim hA hV hin
  have HND := Lib.hid hA
  rw [NodeAt] at hA
  obtain ⟨hkk, h1, h2, h3, h4, h5, ⟨sa, sc, h6, h6', h7⟩, na, nc, h8, h8', h9⟩ := hA
  obtain rfl := Option.some.inj h3
  obtain rfl := Option.some.inj h4
  obtain rfl := Option.some.inj h5
  obtain rfl := Option.some.inj h6
  obtain rfl := Option.some.inj h8
  clear h3 h4 h5 h6 h8
  unfold reachN at h1 h2 h6' h8'
  have HG := Lib.hid hG
  obtain ⟨q1, q2, q3, q4, q5, q6, ra, rc, q7, q8, q9⟩ := hG
  obtain rfl := Option.some.inj q1
  obtain rfl := Option.some.inj q3
  obtain rfl := Option.some.inj q4
  obtain rfl := Option.some.inj q7
  clear q1 q2 q3 q4 q5 q6 q7
  unfold reachN at q8
  have H7 := Lib.hid h7
  have H9 := Lib.hid h9
  have HQ9 := Lib.hid q9
  have HR := Lib.hid hR
  have HLIM := Lib.hid hlim
  have HIN := Lib.hid hin
  obtain ⟨va, vc, rfl⟩ := brow_form hV
  obtain ⟨f, hf⟩ : ∃ f, W.heap.size = f := ⟨_, rfl⟩
  obtain ⟨w1, hw1⟩ : ∃ w1, W.alloc (.cells #[.string g.name, .int .i64 g.bound, .int .i64 g.states, .slice ra g.rules.length rc] 26) = w1 := ⟨_, rfl⟩
  obtain ⟨w2, hw2⟩ : ∃ w2, w1.alloc (.cells #[.int .u8 2, .string nm, .string tx, .slice sa set.length sc, .slice na subs.length nc] 34) = w2 := ⟨_, rfl⟩
  obtain ⟨w3, hw3⟩ : ∃ w3, w2.alloc (.cells (List.replicate inn.length (.bool false)).toArray 4) = w3 := ⟨_, rfl⟩
  have z1 : w1.heap.size = f + 1 := by rw [← hw1, ← hf]; exact World.size_alloc _ _
  have z2 : w2.heap.size = f + 1 + 1 := by rw [← hw2, ← z1]; exact World.size_alloc _ _
  have g1 : Grew W w1 := hw1 ▸ grew_alloc W _
  have g2 : Grew w1 w2 := hw2 ▸ grew_alloc w1 _
  have g3 : Grew w2 w3 := hw3 ▸ grew_alloc w2 _
  have o1 : Owns w1 f [.string g.name, .int .i64 g.bound, .int .i64 g.states, .slice ra g.rules.length rc] 26 := hf ▸ hw1 ▸ Owns.alloc W _ _
  have o2 : Owns w2 (f + 1) [.int .u8 2, .string nm, .string tx, .slice sa set.length sc, .slice na subs.length nc] 34 := z1 ▸ hw2 ▸ Owns.alloc w1 _ _
  have o3 : BRow w3 (.slice (some ⟨f + 1 + 1, 0, none⟩) inn.length inn.length) (List.replicate inn.length false) := by
    have := owns_bools (w := w3) (b := f + 1 + 1) (l := List.replicate inn.length false) (by rw [List.map_replicate, ← z2, ← hw3]; exact Owns.alloc w2 _ _) (by rw [List.length_replicate]; omega)
    rw [List.length_replicate] at this
    exact this
  have hmb := make_bools inn.length (by unfold reachN; omega) w2
  rw [hw3, z2] at hmb
  have HO1 := Lib.hid ((o1.keep g2).keep g3)
  have HO2 := Lib.hid (o2.keep g3)
  have HO3 := Lib.hid o3
  have G3 := Lib.hid ((g1.trans g2).trans g3)
  have HV3 := Lib.hid (hV.grew G3.out)
  have HSM := Lib.hid (some8_ok inn (by omega) w3 _ HV3.out)
  obtain ⟨N, hN⟩ : ∃ N, inn.length = N := ⟨_, rfl⟩
  have HN := Lib.hid hN
  rw [hN] at hmb HO3 HV3 HSM ⊢
  rw [hN] at hin
  have HIN2 := Lib.hid hin
  clear hV hlim hR h7 h9 q9 g1 g2 g3 o1 o2 o3 hw3 hN hin
  go_enter Tryd.func12, Tryd.ntmps12
  go_wp2_with fail
  refine HSM.out.mono ?_
  rintro e w4 ⟨rfl, hg4⟩
  clear hw1 hw2 hmb HSM z1 z2 hf
  have G4 := Lib.hid (G3.out.trans hg4)
  have OG := Lib.hid (HO1.out.keep hg4)
  have ON := Lib.hid (HO2.out.keep hg4)
  have BO := Lib.hid (HO3.out.grew hg4)
  have HV4 := Lib.hid (HV3.out.grew hg4)
  clear HO1 HO2 HO3 HV3 G3 hg4
  obtain ⟨s, hs⟩ : ∃ s, inn.any id = s := ⟨_, rfl⟩
  have HS := Lib.hid hs
  rw [hs]
  clear hs
  cases s
  · go_wp2_with fail
    go_ret
    exact ⟨_, _, rfl, BO.out, SetIs.empty _ HIN2.out (fun j ⟨i, _, h, _⟩ => SetIs.none HS.out ⟨i, h⟩), G4.out⟩
  have n0 := ON.out.cell_at (i := 0) rfl
  have n1 := ON.out.cell_at (i := 1) rfl
  have n2 := ON.out.cell_at (i := 2) rfl
  have n3 := ON.out.cell_at (i := 3) rfl
  have n4 := ON.out.cell_at (i := 4) rfl
  have nl := ON.out.lt
  have HT := Lib.hid ht
  have HREC := Lib.hid hrec
  clear ht hrec
  have hidx : 0 < subs.length := by have := hone.out; omega
  obtain ⟨bq, off, hna, hbq, hnode⟩ := H9.out.get hidx
  simp only [Nat.zero_mul, Nat.add_zero] at hnode
  obtain ⟨s, hs9⟩ : ∃ s, subs[0] = s := ⟨_, rfl⟩
  have HMEM := Lib.hid (hs9 ▸ List.getElem_mem hidx)
  rw [hs9] at hnode
  have hbW : bq < W.heap.size := Nat.lt_of_lt_of_le hbq HLIM.out
  have hb4 : bq < w4.heap.size := Nat.lt_of_lt_of_le hbW G4.out.size
  have ecell : ∀ o, w4.cell? ⟨bq, o, none⟩ = W.cell? ⟨bq, o, none⟩ := fun o => G4.out.cells _ _ hbW
  obtain ⟨u0, u1, u2, u3, u4, e0, e1, e2, e3, e4, hnode⟩ := hnode.vals
  obtain ⟨m0, m1, m2, m3, m4, m5, m6, m7, m8, rfl, rfl, rfl, rfl, rfl⟩ := hnode.forms
  rw [← ecell] at e0 e1 e2 e3 e4
  have HC : Hid (∀ (w : World) (v : Value) (inn' : List Bool), Grew w4 w → BRow w v inn' → inn'.length = l.length + 1 → Calls Tryd.prog 12 #[.agg #[.string g.name, .int .i64 g.bound, .int .i64 g.states, .slice ra g.rules.length rc], .agg #[.int .u8 m0, .string m1, .string m2, .slice m3 m4 m5, .slice m6 m7 m8], .slice la l.length lc, v] w (EndsR g.lk l s inn' w)) := Lib.hid fun w v inn' hw hv hi =>
    HREC.out s HMEM.out w _ _ _ _ _ _ _ _ _ v inn' (HG.out.keep (show Below lim W w from (G4.out.trans hw).mono HLIM.out)) (HR.out.keep ((G4.out.trans hw).mono HLIM.out)) (Nat.le_trans HLIM.out (G4.out.trans hw).size) (hnode.keep ((G4.out.trans hw).mono HLIM.out)) hv hi
  clear hnode ecell hbq hbW
  subst hna
  have a0 := OG.out.cell_at (i := 0) rfl
  have a1 := OG.out.cell_at (i := 1) rfl
  have a2 := OG.out.cell_at (i := 2) rfl
  have a3 := OG.out.cell_at (i := 3) rfl
  have al := OG.out.lt
  have hlen : (0 : Int) < (subs.length : Int) := by omega
  go_upto_region 18 with fail
  refine wp_region_hav_lit follows (by kernel_rfl) ?_
  iterate 8 (first
    | (refine HavG.skip (fun _ => rfl) ?_; simp only [Act.put, List.setIfInBounds_toArray, List.set_cons_zero, List.set_cons_succ])
    | (refine HavG.val (fun _ => rfl) ?_ (fun x w hw _ => ?_) ?_; rotate_left; (focus (have hc := hw.cells; clear hw; go_simp; first | done | rfl)); simp only [Act.put, List.setIfInBounds_toArray, List.set_cons_zero, List.set_cons_succ]))
  refine HavG.any (fun _ => rfl) (SetV l (Rc l (Tx g.lk s) inn)) (fun _ _ _ hg h => SetV.keep hg h) (fun x w hw _ => ?_) ?_
  · have HW := Lib.hid hw
    clear hw
    go_simp
    refine (HC.out w _ inn HW.out (HV4.out.grew HW.out) HIN.out).mono ?_
    rintro e w' ⟨x, out, rfl, h1, h2, h3⟩
    exact ⟨h3, out, h1, h2⟩
  simp only [Act.put, List.setIfInBounds_toArray, List.set_cons_zero, List.set_cons_succ]
  refine HavG.any (fun _ => rfl) (SetV l (fun j9 => (Rc l (· = []) inn) j9 ∨ (Rc l (Tx g.lk s) inn) j9)) (fun _ _ _ hg h => SetV.keep hg h) (fun x w hw hd => ?_) ?_
  · have hd9 := hd _ (List.mem_append_right _ (List.mem_singleton.2 rfl)) (by kernel_rfl)
    clear hd
    dsimp only at hd9
    generalize x _ = y9 at *
    obtain ⟨o9, hb9, hs9⟩ := hd9
    have HO := Lib.hid (one8_ok _ o9 (by rw [hs9.len, (SetIs.self HIN.out).len]) (by rw [(SetIs.self HIN.out).len]; omega) w _ _ (HV4.out.grew hw) hb9)
    have HS9 := Lib.hid hs9
    clear hw hb9 hs9
    go_simp
    refine HO.out.mono ?_
    rintro e w' ⟨x, rfl, h1, h2⟩
    exact ⟨h2, _, h1, SetIs.or (SetIs.self HIN.out) HS9.out⟩
  simp only [Act.put, List.setIfInBounds_toArray, List.set_cons_zero, List.set_cons_succ]
  refine HavG.tail (by kernel_rfl) (by kernel_rfl) (fun x w9 hw9 hx => ?_)
  have hx9 := hx _ (List.mem_append_right _ (List.mem_singleton.2 rfl))
  clear hx
  dsimp only at hx9
  generalize x _ = y9 at *
  obtain ⟨out9, hb9, hs9⟩ := hx9
  have HB9 := Lib.hid hb9
  have HS9 := Lib.hid hs9
  have G9 := Lib.hid (G4.out.trans hw9)
  clear hb9 hs9 hw9
  go_wp2_with fail
  go_ret
  exact ⟨_, out9, rfl, HB9.out, HS9.out.imp fun j _ => by rw [← Rc.or]; exact Rc.iff (fun u => (HT.out s HMEM.out u).symm) j, G9.out⟩
end Go.Proofs.YtkinlcichclnkaaDoor

/- Ends: the subs, one of them. Printed by gennfends.py. -/
namespace Go.Proofs.YtkinlcichclnkaaDoor
open Go.RowKit

set_option maxHeartbeats 8000000 in
set_option maxRecDepth 40000 in
theorem en_alts {lim : Nat} {g : Gr} {la : Option Addr} {lc : Nat} {l : List Int} (hl12 : l.length ≤ 100) (nm tx : ByteArray) (set : List (Int × Int)) (subs : List Nd) (hls : subs.length ≤ 3000) (hrec : ∀ s ∈ subs, EndsC lim g la lc l s) (ht : ∀ u, Tx g.lk (.mk 0 nm tx set subs) u ↔ ∃ s ∈ subs, Tx g.lk s u) : EndsC lim g la lc l (.mk 0 nm tx set subs) := by
  intro W g0 g1 g2 g3 v0 v1 v2 v3 v4 vin inn hG hR hlim hA hV hin
  have HND := Lib.hid hA
  rw [NodeAt] at hA
  obtain ⟨hkk, h1, h2, h3, h4, h5, ⟨sa, sc, h6, h6', h7⟩, na, nc, h8, h8', h9⟩ := hA
  obtain rfl := Option.some.inj h3
  obtain rfl := Option.some.inj h4
  obtain rfl := Option.some.inj h5
  obtain rfl := Option.some.inj h6
  obtain rfl := Option.some.inj h8
  clear h3 h4 h5 h6 h8
  unfold reachN at h1 h2 h6' h8'
  have HG := Lib.hid hG
  obtain ⟨q1, q2, q3, q4, q5, q6, ra, rc, q7, q8, q9⟩ := hG
  obtain rfl := Option.some.inj q1
  obtain rfl := Option.some.inj q3
  obtain rfl := Option.some.inj q4
  obtain rfl := Option.some.inj q7
  clear q1 q2 q3 q4 q5 q6 q7
  unfold reachN at q8
  have H7 := Lib.hid h7
  have H9 := Lib.hid h9
  have HQ9 := Lib.hid q9
  have HR := Lib.hid hR
  have HLIM := Lib.hid hlim
  have HIN := Lib.hid hin
  obtain ⟨va, vc, rfl⟩ := brow_form hV
  obtain ⟨f, hf⟩ : ∃ f, W.heap.size = f := ⟨_, rfl⟩
  obtain ⟨w1, hw1⟩ : ∃ w1, W.alloc (.cells #[.string g.name, .int .i64 g.bound, .int .i64 g.states, .slice ra g.rules.length rc] 26) = w1 := ⟨_, rfl⟩
  obtain ⟨w2, hw2⟩ : ∃ w2, w1.alloc (.cells #[.int .u8 0, .string nm, .string tx, .slice sa set.length sc, .slice na subs.length nc] 34) = w2 := ⟨_, rfl⟩
  obtain ⟨w3, hw3⟩ : ∃ w3, w2.alloc (.cells (List.replicate inn.length (.bool false)).toArray 4) = w3 := ⟨_, rfl⟩
  have z1 : w1.heap.size = f + 1 := by rw [← hw1, ← hf]; exact World.size_alloc _ _
  have z2 : w2.heap.size = f + 1 + 1 := by rw [← hw2, ← z1]; exact World.size_alloc _ _
  have g1 : Grew W w1 := hw1 ▸ grew_alloc W _
  have g2 : Grew w1 w2 := hw2 ▸ grew_alloc w1 _
  have g3 : Grew w2 w3 := hw3 ▸ grew_alloc w2 _
  have o1 : Owns w1 f [.string g.name, .int .i64 g.bound, .int .i64 g.states, .slice ra g.rules.length rc] 26 := hf ▸ hw1 ▸ Owns.alloc W _ _
  have o2 : Owns w2 (f + 1) [.int .u8 0, .string nm, .string tx, .slice sa set.length sc, .slice na subs.length nc] 34 := z1 ▸ hw2 ▸ Owns.alloc w1 _ _
  have o3 : BRow w3 (.slice (some ⟨f + 1 + 1, 0, none⟩) inn.length inn.length) (List.replicate inn.length false) := by
    have := owns_bools (w := w3) (b := f + 1 + 1) (l := List.replicate inn.length false) (by rw [List.map_replicate, ← z2, ← hw3]; exact Owns.alloc w2 _ _) (by rw [List.length_replicate]; omega)
    rw [List.length_replicate] at this
    exact this
  have hmb := make_bools inn.length (by unfold reachN; omega) w2
  rw [hw3, z2] at hmb
  have HO1 := Lib.hid ((o1.keep g2).keep g3)
  have HO2 := Lib.hid (o2.keep g3)
  have HO3 := Lib.hid o3
  have G3 := Lib.hid ((g1.trans g2).trans g3)
  have HV3 := Lib.hid (hV.grew G3.out)
  have HSM := Lib.hid (some8_ok inn (by omega) w3 _ HV3.out)
  obtain ⟨N, hN⟩ : ∃ N, inn.length = N := ⟨_, rfl⟩
  have HN := Lib.hid hN
  rw [hN] at hmb HO3 HV3 HSM ⊢
  rw [hN] at hin
  have HIN2 := Lib.hid hin
  clear hV hlim hR h7 h9 q9 g1 g2 g3 o1 o2 o3 hw3 hN hin
  go_enter Tryd.func12, Tryd.ntmps12
  go_wp2_with fail
  refine HSM.out.mono ?_
  rintro e w4 ⟨rfl, hg4⟩
  clear hw1 hw2 hmb HSM z1 z2 hf
  have G4 := Lib.hid (G3.out.trans hg4)
  have OG := Lib.hid (HO1.out.keep hg4)
  have ON := Lib.hid (HO2.out.keep hg4)
  have BO := Lib.hid (HO3.out.grew hg4)
  have HV4 := Lib.hid (HV3.out.grew hg4)
  clear HO1 HO2 HO3 HV3 G3 hg4
  obtain ⟨s, hs⟩ : ∃ s, inn.any id = s := ⟨_, rfl⟩
  have HS := Lib.hid hs
  rw [hs]
  clear hs
  cases s
  · go_wp2_with fail
    go_ret
    exact ⟨_, _, rfl, BO.out, SetIs.empty _ HIN2.out (fun j ⟨i, _, h, _⟩ => SetIs.none HS.out ⟨i, h⟩), G4.out⟩
  have n0 := ON.out.cell_at (i := 0) rfl
  have n1 := ON.out.cell_at (i := 1) rfl
  have n2 := ON.out.cell_at (i := 2) rfl
  have n3 := ON.out.cell_at (i := 3) rfl
  have n4 := ON.out.cell_at (i := 4) rfl
  have nl := ON.out.lt
  have HT := Lib.hid ht
  have HREC := Lib.hid hrec
  clear ht hrec
  go_upto_region 7 with fail
  go_wp2_with fail
  clear n0 n1 n2 n3 n4 nl
  go_loopw [9, 10] (fun a9 c wr => ∃ (j : Nat) (x9 : Value) (out : List Bool), a9 = x9 ∧ c = .int .i64 j ∧ j ≤ subs.length ∧ Hid (Grew w4 wr) ∧ Hid (BRow wr x9 out) ∧ Hid (SetIs l out (fun t => ∃ s ∈ subs.take j, Rc l (Tx g.lk s) inn t))) (fun _ c _ => subs.length - (intOf c).toNat)
  case atStart => exact ⟨0, _, _, rfl, rfl, Nat.zero_le _, Grew.refl _, BO.out, SetIs.empty _ HIN2.out (fun j ⟨s, h, _⟩ => by simp at h)⟩
  case round =>
    obtain ⟨j, x9, out, rfl, rfl, hj, GR, BX, SX⟩ := hrel
    have GW := Lib.hid (G4.out.trans GR.out)
    have hON := ON.out.keep GR.out
    have n4 := hON.cell_at (i := 4) rfl
    have nl := hON.lt
    by_cases hlt : j < subs.length
    · have hidx := hlt
      obtain ⟨bq, off, hna, hbq, hnode⟩ := H9.out.get hidx
      simp only [Nat.zero_add] at hnode
      obtain ⟨s, hs9⟩ : ∃ s, subs[j] = s := ⟨_, rfl⟩
      have HMEM := Lib.hid (hs9 ▸ List.getElem_mem hidx)
      rw [hs9] at hnode
      have hbW : bq < W.heap.size := Nat.lt_of_lt_of_le hbq HLIM.out
      have hb4 : bq < wr.heap.size := Nat.lt_of_lt_of_le hbW GW.out.size
      have ecell : ∀ o, wr.cell? ⟨bq, o, none⟩ = W.cell? ⟨bq, o, none⟩ := fun o => GW.out.cells _ _ hbW
      obtain ⟨u0, u1, u2, u3, u4, e0, e1, e2, e3, e4, hnode⟩ := hnode.vals
      obtain ⟨m0, m1, m2, m3, m4, m5, m6, m7, m8, rfl, rfl, rfl, rfl, rfl⟩ := hnode.forms
      rw [← ecell] at e0 e1 e2 e3 e4
      have HC : Hid (∀ (w : World) (v : Value) (inn' : List Bool), Grew wr w → BRow w v inn' → inn'.length = l.length + 1 → Calls Tryd.prog 12 #[.agg #[.string g.name, .int .i64 g.bound, .int .i64 g.states, .slice ra g.rules.length rc], .agg #[.int .u8 m0, .string m1, .string m2, .slice m3 m4 m5, .slice m6 m7 m8], .slice la l.length lc, v] w (EndsR g.lk l s inn' w)) := Lib.hid fun w v inn' hw hv hi =>
        HREC.out s HMEM.out w _ _ _ _ _ _ _ _ _ v inn' (HG.out.keep (show Below lim W w from (GW.out.trans hw).mono HLIM.out)) (HR.out.keep ((GW.out.trans hw).mono HLIM.out)) (Nat.le_trans HLIM.out (GW.out.trans hw).size) (hnode.keep ((GW.out.trans hw).mono HLIM.out)) hv hi
      clear hnode ecell hbq hbW
      subst hna
      have hdr := List.take_succ_eq_append_getElem hidx
      rw [hs9] at hdr
      have HDR := Lib.hid hdr
      have hOG := OG.out.keep GR.out
      have a0 := hOG.cell_at (i := 0) rfl
      have a1 := hOG.cell_at (i := 1) rfl
      have a2 := hOG.cell_at (i := 2) rfl
      have a3 := hOG.cell_at (i := 3) rfl
      have al := hOG.lt
      have HVR := Lib.hid (HV4.out.grew GR.out)
      clear hs9 hdr hOG hON
      go_upto_region 10 with fail
      refine wp_region_hav_lit follows (by kernel_rfl) ?_
      iterate 9 (first
          | (refine HavG.skip (fun _ => rfl) ?_; simp only [Act.put, List.setIfInBounds_toArray, List.set_cons_zero, List.set_cons_succ])
          | (refine HavG.val (fun _ => rfl) ?_ (fun x w hw _ => ?_) ?_; rotate_left; (focus (have hc := hw.cells; clear hw; go_simp; first | done | rfl)); simp only [Act.put, List.setIfInBounds_toArray, List.set_cons_zero, List.set_cons_succ]))
      refine HavG.any (fun _ => rfl) (SetV l (Rc l (Tx g.lk s) inn)) (fun _ _ _ hg h => SetV.keep hg h) (fun x w hw _ => ?_) ?_
      · have HW := Lib.hid hw
        clear hw
        go_simp
        refine (HC.out w _ inn HW.out (HVR.out.grew HW.out) HIN.out).mono ?_
        rintro e w' ⟨x, out, rfl, h1, h2, h3⟩
        exact ⟨h3, out, h1, h2⟩
      simp only [Act.put, List.setIfInBounds_toArray, List.set_cons_zero, List.set_cons_succ]
      refine HavG.any (fun _ => rfl) (SetV l (fun j9 => ((fun t => ∃ s ∈ subs.take j, Rc l (Tx g.lk s) inn t)) j9 ∨ (Rc l (Tx g.lk s) inn) j9)) (fun _ _ _ hg h => SetV.keep hg h) (fun x w hw hd => ?_) ?_
      · have hd9 := hd _ (List.mem_append_right _ (List.mem_singleton.2 rfl)) (by kernel_rfl)
        clear hd
        dsimp only at hd9
        generalize x _ = y9 at *
        obtain ⟨o9, hb9, hs9⟩ := hd9
        have HO := Lib.hid (one8_ok _ o9 (by rw [hs9.len, (SX.out).len]) (by rw [(SX.out).len]; omega) w _ _ (BX.out.grew hw) hb9)
        have HS9 := Lib.hid hs9
        clear hw hb9 hs9
        go_simp
        refine HO.out.mono ?_
        rintro e w' ⟨x, rfl, h1, h2⟩
        exact ⟨h2, _, h1, SetIs.or (SX.out) HS9.out⟩
      simp only [Act.put, List.setIfInBounds_toArray, List.set_cons_zero, List.set_cons_succ]
      refine HavG.tail (by kernel_rfl) (by kernel_rfl) (fun x w9 hw9 hx => ?_)
      have hx9 := hx _ (List.mem_append_right _ (List.mem_singleton.2 rfl))
      clear hx
      dsimp only at hx9
      generalize x _ = y9 at *
      obtain ⟨out9, hb9, hs9⟩ := hx9
      have HB9 := Lib.hid hb9
      have HS9 := Lib.hid hs9
      have G9 := Lib.hid (GR.out.trans hw9)
      clear hb9 hs9 hw9
      go_wp2_with fail
      refine ⟨⟨j + 1, _, out9, rfl, by go_num, by omega, G9.out, HB9.out, ?_⟩, by simp [intOf]; omega⟩
      refine Lib.hid (HS9.out.imp fun t _ => ?_)
      rw [HDR.out]
      constructor
      · rintro (⟨s', h1, h2⟩ | h)
        · exact ⟨s', List.mem_append_left _ h1, h2⟩
        · exact ⟨s, by simp, h⟩
      · rintro ⟨s', h1, h2⟩
        rcases List.mem_append.1 h1 with h1 | h1
        · exact .inl ⟨s', h1, h2⟩
        · rw [List.mem_singleton.1 h1] at h2
          exact .inr h2
    · obtain rfl : j = subs.length := by omega
      have hSX := SX.out
      rw [List.take_length] at hSX
      have HSX := Lib.hid hSX
      clear hSX hON
      go_wp2_with fail
      go_ret
      refine ⟨_, out, rfl, BX.out, HSX.out.imp fun t _ => ⟨?_, ?_⟩, GW.out⟩
      · rintro ⟨s, h1, i, h2, h3, h4⟩
        exact ⟨i, h2, h3, (HT.out _).2 ⟨s, h1, h4⟩⟩
      · rintro ⟨i, h2, h3, h4⟩
        obtain ⟨s, h1, h5⟩ := (HT.out _).1 h4
        exact ⟨s, h1, i, h2, h3, h5⟩
end Go.Proofs.YtkinlcichclnkaaDoor

/- Ends: the subs, one behind the other. Printed by gennfends.py. -/
namespace Go.Proofs.YtkinlcichclnkaaDoor
open Go.RowKit

set_option maxHeartbeats 8000000 in
set_option maxRecDepth 40000 in
theorem en_seq {lim : Nat} {g : Gr} {la : Option Addr} {lc : Nat} {l : List Int} (hl12 : l.length ≤ 100) (nm tx : ByteArray) (set : List (Int × Int)) (subs : List Nd) (hls : subs.length ≤ 3000) (hrec : ∀ s ∈ subs, EndsC lim g la lc l s) (ht : ∀ u, Tx g.lk (.mk 1 nm tx set subs) u ↔ TxL g.lk subs u) : EndsC lim g la lc l (.mk 1 nm tx set subs) := by
  intro W g0 g1 g2 g3 v0 v1 v2 v3 v4 vin inn hG hR hlim hA hV hin
  have HND := Lib.hid hA
  rw [NodeAt] at hA
  obtain ⟨hkk, h1, h2, h3, h4, h5, ⟨sa, sc, h6, h6', h7⟩, na, nc, h8, h8', h9⟩ := hA
  obtain rfl := Option.some.inj h3
  obtain rfl := Option.some.inj h4
  obtain rfl := Option.some.inj h5
  obtain rfl := Option.some.inj h6
  obtain rfl := Option.some.inj h8
  clear h3 h4 h5 h6 h8
  unfold reachN at h1 h2 h6' h8'
  have HG := Lib.hid hG
  obtain ⟨q1, q2, q3, q4, q5, q6, ra, rc, q7, q8, q9⟩ := hG
  obtain rfl := Option.some.inj q1
  obtain rfl := Option.some.inj q3
  obtain rfl := Option.some.inj q4
  obtain rfl := Option.some.inj q7
  clear q1 q2 q3 q4 q5 q6 q7
  unfold reachN at q8
  have H7 := Lib.hid h7
  have H9 := Lib.hid h9
  have HQ9 := Lib.hid q9
  have HR := Lib.hid hR
  have HLIM := Lib.hid hlim
  have HIN := Lib.hid hin
  obtain ⟨va, vc, rfl⟩ := brow_form hV
  obtain ⟨f, hf⟩ : ∃ f, W.heap.size = f := ⟨_, rfl⟩
  obtain ⟨w1, hw1⟩ : ∃ w1, W.alloc (.cells #[.string g.name, .int .i64 g.bound, .int .i64 g.states, .slice ra g.rules.length rc] 26) = w1 := ⟨_, rfl⟩
  obtain ⟨w2, hw2⟩ : ∃ w2, w1.alloc (.cells #[.int .u8 1, .string nm, .string tx, .slice sa set.length sc, .slice na subs.length nc] 34) = w2 := ⟨_, rfl⟩
  obtain ⟨w3, hw3⟩ : ∃ w3, w2.alloc (.cells (List.replicate inn.length (.bool false)).toArray 4) = w3 := ⟨_, rfl⟩
  have z1 : w1.heap.size = f + 1 := by rw [← hw1, ← hf]; exact World.size_alloc _ _
  have z2 : w2.heap.size = f + 1 + 1 := by rw [← hw2, ← z1]; exact World.size_alloc _ _
  have g1 : Grew W w1 := hw1 ▸ grew_alloc W _
  have g2 : Grew w1 w2 := hw2 ▸ grew_alloc w1 _
  have g3 : Grew w2 w3 := hw3 ▸ grew_alloc w2 _
  have o1 : Owns w1 f [.string g.name, .int .i64 g.bound, .int .i64 g.states, .slice ra g.rules.length rc] 26 := hf ▸ hw1 ▸ Owns.alloc W _ _
  have o2 : Owns w2 (f + 1) [.int .u8 1, .string nm, .string tx, .slice sa set.length sc, .slice na subs.length nc] 34 := z1 ▸ hw2 ▸ Owns.alloc w1 _ _
  have o3 : BRow w3 (.slice (some ⟨f + 1 + 1, 0, none⟩) inn.length inn.length) (List.replicate inn.length false) := by
    have := owns_bools (w := w3) (b := f + 1 + 1) (l := List.replicate inn.length false) (by rw [List.map_replicate, ← z2, ← hw3]; exact Owns.alloc w2 _ _) (by rw [List.length_replicate]; omega)
    rw [List.length_replicate] at this
    exact this
  have hmb := make_bools inn.length (by unfold reachN; omega) w2
  rw [hw3, z2] at hmb
  have HO1 := Lib.hid ((o1.keep g2).keep g3)
  have HO2 := Lib.hid (o2.keep g3)
  have HO3 := Lib.hid o3
  have G3 := Lib.hid ((g1.trans g2).trans g3)
  have HV3 := Lib.hid (hV.grew G3.out)
  have HSM := Lib.hid (some8_ok inn (by omega) w3 _ HV3.out)
  obtain ⟨N, hN⟩ : ∃ N, inn.length = N := ⟨_, rfl⟩
  have HN := Lib.hid hN
  rw [hN] at hmb HO3 HV3 HSM ⊢
  rw [hN] at hin
  have HIN2 := Lib.hid hin
  clear hV hlim hR h7 h9 q9 g1 g2 g3 o1 o2 o3 hw3 hN hin
  go_enter Tryd.func12, Tryd.ntmps12
  go_wp2_with fail
  refine HSM.out.mono ?_
  rintro e w4 ⟨rfl, hg4⟩
  clear hw1 hw2 hmb HSM z1 z2 hf
  have G4 := Lib.hid (G3.out.trans hg4)
  have OG := Lib.hid (HO1.out.keep hg4)
  have ON := Lib.hid (HO2.out.keep hg4)
  have BO := Lib.hid (HO3.out.grew hg4)
  have HV4 := Lib.hid (HV3.out.grew hg4)
  clear HO1 HO2 HO3 HV3 G3 hg4
  obtain ⟨s, hs⟩ : ∃ s, inn.any id = s := ⟨_, rfl⟩
  have HS := Lib.hid hs
  rw [hs]
  clear hs
  cases s
  · go_wp2_with fail
    go_ret
    exact ⟨_, _, rfl, BO.out, SetIs.empty _ HIN2.out (fun j ⟨i, _, h, _⟩ => SetIs.none HS.out ⟨i, h⟩), G4.out⟩
  have n0 := ON.out.cell_at (i := 0) rfl
  have n1 := ON.out.cell_at (i := 1) rfl
  have n2 := ON.out.cell_at (i := 2) rfl
  have n3 := ON.out.cell_at (i := 3) rfl
  have n4 := ON.out.cell_at (i := 4) rfl
  have nl := ON.out.lt
  have HT := Lib.hid ht
  have HREC := Lib.hid hrec
  clear ht hrec
  go_upto_region 12 with fail
  go_wp2_with fail
  clear n0 n1 n2 n3 n4 nl
  have HNIL : Hid (∀ u, u = [] ↔ TxL g.lk [] u) := Lib.hid fun u => ⟨fun e => by rw [e]; exact .nil, fun h => by cases h; rfl⟩
  go_loopw [9, 11] (fun a9 c wr => ∃ (j : Nat) (x9 : Value) (out : List Bool), a9 = x9 ∧ c = .int .i64 j ∧ j ≤ subs.length ∧ Hid (Grew w4 wr) ∧ Hid (BRow wr x9 out) ∧ Hid (SetIs l out (Rc l (TxL g.lk (subs.take j)) inn))) (fun _ c _ => subs.length - (intOf c).toNat)
  case atStart => exact ⟨0, _, inn, rfl, rfl, Nat.zero_le _, Grew.refl _, HV4.out, (SetIs.self HIN.out).imp fun j _ => Rc.iff HNIL.out j⟩
  case round =>
    obtain ⟨j, x9, out, rfl, rfl, hj, GR, BX, SX⟩ := hrel
    have GW := Lib.hid (G4.out.trans GR.out)
    have hON := ON.out.keep GR.out
    have n4 := hON.cell_at (i := 4) rfl
    have nl := hON.lt
    by_cases hlt : j < subs.length
    · have hidx := hlt
      obtain ⟨bq, off, hna, hbq, hnode⟩ := H9.out.get hidx
      simp only [Nat.zero_add] at hnode
      obtain ⟨s, hs9⟩ : ∃ s, subs[j] = s := ⟨_, rfl⟩
      have HMEM := Lib.hid (hs9 ▸ List.getElem_mem hidx)
      rw [hs9] at hnode
      have hbW : bq < W.heap.size := Nat.lt_of_lt_of_le hbq HLIM.out
      have hb4 : bq < wr.heap.size := Nat.lt_of_lt_of_le hbW GW.out.size
      have ecell : ∀ o, wr.cell? ⟨bq, o, none⟩ = W.cell? ⟨bq, o, none⟩ := fun o => GW.out.cells _ _ hbW
      obtain ⟨u0, u1, u2, u3, u4, e0, e1, e2, e3, e4, hnode⟩ := hnode.vals
      obtain ⟨m0, m1, m2, m3, m4, m5, m6, m7, m8, rfl, rfl, rfl, rfl, rfl⟩ := hnode.forms
      rw [← ecell] at e0 e1 e2 e3 e4
      have HC : Hid (∀ (w : World) (v : Value) (inn' : List Bool), Grew wr w → BRow w v inn' → inn'.length = l.length + 1 → Calls Tryd.prog 12 #[.agg #[.string g.name, .int .i64 g.bound, .int .i64 g.states, .slice ra g.rules.length rc], .agg #[.int .u8 m0, .string m1, .string m2, .slice m3 m4 m5, .slice m6 m7 m8], .slice la l.length lc, v] w (EndsR g.lk l s inn' w)) := Lib.hid fun w v inn' hw hv hi =>
        HREC.out s HMEM.out w _ _ _ _ _ _ _ _ _ v inn' (HG.out.keep (show Below lim W w from (GW.out.trans hw).mono HLIM.out)) (HR.out.keep ((GW.out.trans hw).mono HLIM.out)) (Nat.le_trans HLIM.out (GW.out.trans hw).size) (hnode.keep ((GW.out.trans hw).mono HLIM.out)) hv hi
      clear hnode ecell hbq hbW
      subst hna
      have hdr := List.take_succ_eq_append_getElem hidx
      rw [hs9] at hdr
      have HDR := Lib.hid hdr
      have hOG := OG.out.keep GR.out
      have a0 := hOG.cell_at (i := 0) rfl
      have a1 := hOG.cell_at (i := 1) rfl
      have a2 := hOG.cell_at (i := 2) rfl
      have a3 := hOG.cell_at (i := 3) rfl
      have al := hOG.lt
      clear hs9 hdr hOG hON
      go_upto_region 16 with fail
      refine wp_region_hav_lit follows (by kernel_rfl) ?_
      iterate 8 (first
        | (refine HavG.skip (fun _ => rfl) ?_; simp only [Act.put, List.setIfInBounds_toArray, List.set_cons_zero, List.set_cons_succ])
        | (refine HavG.val (fun _ => rfl) ?_ (fun x w hw _ => ?_) ?_; rotate_left; (focus (have hc := hw.cells; clear hw; go_simp; first | done | rfl)); simp only [Act.put, List.setIfInBounds_toArray, List.set_cons_zero, List.set_cons_succ]))
      refine HavG.any (fun _ => rfl) (SetV l (Rc l (Tx g.lk s) out)) (fun _ _ _ hg h => SetV.keep hg h) (fun x w hw _ => ?_) ?_
      · have HW := Lib.hid hw
        clear hw
        go_simp
        refine (HC.out w _ out HW.out (BX.out.grew HW.out) SX.out.len).mono ?_
        rintro e w' ⟨x, out, rfl, h1, h2, h3⟩
        exact ⟨h3, out, h1, h2⟩
      simp only [Act.put, List.setIfInBounds_toArray, List.set_cons_zero, List.set_cons_succ]
      refine HavG.tail (by kernel_rfl) (by kernel_rfl) (fun x w9 hw9 hx => ?_)
      have hx9 := hx _ (List.mem_append_right _ (List.mem_singleton.2 rfl))
      clear hx
      dsimp only at hx9
      generalize x _ = y9 at *
      obtain ⟨out9, hb9, hs9⟩ := hx9
      have HB9 := Lib.hid hb9
      have HS9 := Lib.hid hs9
      have G9 := Lib.hid (GR.out.trans hw9)
      clear hb9 hs9 hw9
      go_wp2_with fail
      refine ⟨⟨j + 1, _, out9, rfl, by go_num, by omega, G9.out, HB9.out, ?_⟩, by simp [intOf]; omega⟩
      refine Lib.hid (HS9.out.imp fun t ht9 => ?_)
      rw [HDR.out, Rc.cat SX.out ht9]
      exact Rc.iff (fun u => txl_snoc.symm) t
    · obtain rfl : j = subs.length := by omega
      have hSX := SX.out
      rw [List.take_length] at hSX
      have HSX := Lib.hid hSX
      clear hSX hON
      go_wp2_with fail
      go_ret
      exact ⟨_, out, rfl, BX.out, HSX.out.imp fun t _ => Rc.iff (fun u => (HT.out u).symm) t, GW.out⟩
end Go.Proofs.YtkinlcichclnkaaDoor
