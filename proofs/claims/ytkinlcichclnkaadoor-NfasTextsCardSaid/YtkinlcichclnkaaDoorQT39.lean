/- Ends: whatever else; a set. Printed by gennfends.py. -/
import Derived.Test.YtkinlcichclnkaaDoorQT38
namespace Go.Proofs.YtkinlcichclnkaaDoor
open Go.RowKit

set_option maxHeartbeats 8000000 in
set_option maxRecDepth 40000 in
theorem en_other {lim : Nat} {g : Gr} {la : Option Addr} {lc : Nat} {l : List Int} (hl12 : l.length ≤ 100) (kd : Int) (nm tx : ByteArray) (set : List (Int × Int)) (subs : List Nd) (e0 : kd ≠ 0) (e1 : kd ≠ 1) (e2 : kd ≠ 2) (e3 : kd ≠ 3) (e4 : kd ≠ 4) (e6 : kd ≠ 6) (e8 : kd ≠ 8) (e9 : kd ≠ 9) (ht : ∀ u, Tx g.lk (.mk kd nm tx set subs) u ↔ u = []) : EndsC lim g la lc l (.mk kd nm tx set subs) := by
  intro W g0 g1 g2 g3 v0 v1 v2 v3 v4 vin inn hG hR hlim hA hV hin
  have HND := Lib.hid hA
  rw [NodeAt] at hA
  obtain ⟨hkk, h1, h2, h3, h4, h5, ⟨sa, sc, h6, h6', h7⟩, na, nc, h8, h8', h9⟩ := hA
  obtain rfl := Option.some.inj h3
  obtain rfl := Option.some.inj h4
  obtain rfl := Option.some.inj h5
  obtain rfl := Option.some.inj h6
  obtain rfl := Option.some.inj h8
  clear h3 h4 h5 h6 h8
  unfold reachN at h1 h2 h6' h8'
  have HG := Lib.hid hG
  obtain ⟨q1, q2, q3, q4, q5, q6, ra, rc, q7, q8, q9⟩ := hG
  obtain rfl := Option.some.inj q1
  obtain rfl := Option.some.inj q3
  obtain rfl := Option.some.inj q4
  obtain rfl := Option.some.inj q7
  clear q1 q2 q3 q4 q5 q6 q7
  unfold reachN at q8
  have H7 := Lib.hid h7
  have H9 := Lib.hid h9
  have HQ9 := Lib.hid q9
  have HR := Lib.hid hR
  have HLIM := Lib.hid hlim
  have HIN := Lib.hid hin
  obtain ⟨va, vc, rfl⟩ := brow_form hV
  obtain ⟨f, hf⟩ : ∃ f, W.heap.size = f := ⟨_, rfl⟩
  obtain ⟨w1, hw1⟩ : ∃ w1, W.alloc (.cells #[.string g.name, .int .i64 g.bound, .int .i64 g.states, .slice ra g.rules.length rc] 26) = w1 := ⟨_, rfl⟩
  obtain ⟨w2, hw2⟩ : ∃ w2, w1.alloc (.cells #[.int .u8 kd, .string nm, .string tx, .slice sa set.length sc, .slice na subs.length nc] 34) = w2 := ⟨_, rfl⟩
  obtain ⟨w3, hw3⟩ : ∃ w3, w2.alloc (.cells (List.replicate inn.length (.bool false)).toArray 4) = w3 := ⟨_, rfl⟩
  have z1 : w1.heap.size = f + 1 := by rw [← hw1, ← hf]; exact World.size_alloc _ _
  have z2 : w2.heap.size = f + 1 + 1 := by rw [← hw2, ← z1]; exact World.size_alloc _ _
  have g1 : Grew W w1 := hw1 ▸ grew_alloc W _
  have g2 : Grew w1 w2 := hw2 ▸ grew_alloc w1 _
  have g3 : Grew w2 w3 := hw3 ▸ grew_alloc w2 _
  have o1 : Owns w1 f [.string g.name, .int .i64 g.bound, .int .i64 g.states, .slice ra g.rules.length rc] 26 := hf ▸ hw1 ▸ Owns.alloc W _ _
  have o2 : Owns w2 (f + 1) [.int .u8 kd, .string nm, .string tx, .slice sa set.length sc, .slice na subs.length nc] 34 := z1 ▸ hw2 ▸ Owns.alloc w1 _ _
  have o3 : BRow w3 (.slice (some ⟨f + 1 + 1, 0, none⟩) inn.length inn.length) (List.replicate inn.length false) := by
    have := owns_bools (w := w3) (b := f + 1 + 1) (l := List.replicate inn.length false) (by rw [List.map_replicate, ← z2, ← hw3]; exact Owns.alloc w2 _ _) (by rw [List.length_replicate]; omega)
    rw [List.length_replicate] at this
    exact this
  have hmb := make_bools inn.length (by unfold reachN; omega) w2
  rw [hw3, z2] at hmb
  have HO1 := Lib.hid ((o1.keep g2).keep g3)
  have HO2 := Lib.hid (o2.keep g3)
  have HO3 := Lib.hid o3
  have G3 := Lib.hid ((g1.trans g2).trans g3)
  have HV3 := Lib.hid (hV.grew G3.out)
  have HSM := Lib.hid (some8_ok inn (by omega) w3 _ HV3.out)
  obtain ⟨N, hN⟩ : ∃ N, inn.length = N := ⟨_, rfl⟩
  have HN := Lib.hid hN
  rw [hN] at hmb HO3 HV3 HSM ⊢
  rw [hN] at hin
  have HIN2 := Lib.hid hin
  clear hV hlim hR h7 h9 q9 g1 g2 g3 o1 o2 o3 hw3 hN hin
  go_enter Tryd.func12, Tryd.ntmps12
  go_wp2_with fail
  refine HSM.out.mono ?_
  rintro e w4 ⟨rfl, hg4⟩
  clear hw1 hw2 hmb HSM z1 z2 hf
  have G4 := Lib.hid (G3.out.trans hg4)
  have OG := Lib.hid (HO1.out.keep hg4)
  have ON := Lib.hid (HO2.out.keep hg4)
  have BO := Lib.hid (HO3.out.grew hg4)
  have HV4 := Lib.hid (HV3.out.grew hg4)
  clear HO1 HO2 HO3 HV3 G3 hg4
  obtain ⟨s, hs⟩ : ∃ s, inn.any id = s := ⟨_, rfl⟩
  have HS := Lib.hid hs
  rw [hs]
  clear hs
  cases s
  · go_wp2_with fail
    go_ret
    exact ⟨_, _, rfl, BO.out, SetIs.empty _ HIN2.out (fun j ⟨i, _, h, _⟩ => SetIs.none HS.out ⟨i, h⟩), G4.out⟩
  have n0 := ON.out.cell_at (i := 0) rfl
  have n1 := ON.out.cell_at (i := 1) rfl
  have n2 := ON.out.cell_at (i := 2) rfl
  have n3 := ON.out.cell_at (i := 3) rfl
  have n4 := ON.out.cell_at (i := 4) rfl
  have nl := ON.out.lt
  have e0' : (kd == 0) = false := beq_eq_false_iff_ne.2 e0
  have e1' : (kd == 1) = false := beq_eq_false_iff_ne.2 e1
  have e2' : (kd == 2) = false := beq_eq_false_iff_ne.2 e2
  have e3' : (kd == 3) = false := beq_eq_false_iff_ne.2 e3
  have e4' : (kd == 4) = false := beq_eq_false_iff_ne.2 e4
  have e6' : (kd == 6) = false := beq_eq_false_iff_ne.2 e6
  have e8' : (kd == 8) = false := beq_eq_false_iff_ne.2 e8
  have e9' : (kd == 9) = false := beq_eq_false_iff_ne.2 e9
  clear e0 e1 e2 e3 e4 e6 e8 e9
  have HT := Lib.hid ht
  clear ht
  go_wp2_with fail
  go_ret
  exact ⟨_, inn, rfl, HV4.out, (SetIs.self HIN.out).imp fun j _ => Rc.iff (fun u => (HT.out u).symm) j, G4.out⟩
set_option maxHeartbeats 8000000 in
set_option maxRecDepth 40000 in
theorem en_set {lim : Nat} {g : Gr} {la : Option Addr} {lc : Nat} {l : List Int} (hl12 : l.length ≤ 100) (nm tx : ByteArray) (set : List (Int × Int)) (subs : List Nd) (hsl : set.length ≤ 3000) (ht : ∀ u, Tx g.lk (.mk 9 nm tx set subs) u ↔ ∃ r, u = [r] ∧ holdsR set r) : EndsC lim g la lc l (.mk 9 nm tx set subs) := by
  intro W g0 g1 g2 g3 v0 v1 v2 v3 v4 vin inn hG hR hlim hA hV hin
  have HND := Lib.hid hA
  rw [NodeAt] at hA
  obtain ⟨hkk, h1, h2, h3, h4, h5, ⟨sa, sc, h6, h6', h7⟩, na, nc, h8, h8', h9⟩ := hA
  obtain rfl := Option.some.inj h3
  obtain rfl := Option.some.inj h4
  obtain rfl := Option.some.inj h5
  obtain rfl := Option.some.inj h6
  obtain rfl := Option.some.inj h8
  clear h3 h4 h5 h6 h8
  unfold reachN at h1 h2 h6' h8'
  have HG := Lib.hid hG
  obtain ⟨q1, q2, q3, q4, q5, q6, ra, rc, q7, q8, q9⟩ := hG
  obtain rfl := Option.some.inj q1
  obtain rfl := Option.some.inj q3
  obtain rfl := Option.some.inj q4
  obtain rfl := Option.some.inj q7
  clear q1 q2 q3 q4 q5 q6 q7
  unfold reachN at q8
  have H7 := Lib.hid h7
  have H9 := Lib.hid h9
  have HQ9 := Lib.hid q9
  have HR := Lib.hid hR
  have HLIM := Lib.hid hlim
  have HIN := Lib.hid hin
  obtain ⟨va, vc, rfl⟩ := brow_form hV
  obtain ⟨f, hf⟩ : ∃ f, W.heap.size = f := ⟨_, rfl⟩
  obtain ⟨w1, hw1⟩ : ∃ w1, W.alloc (.cells #[.string g.name, .int .i64 g.bound, .int .i64 g.states, .slice ra g.rules.length rc] 26) = w1 := ⟨_, rfl⟩
  obtain ⟨w2, hw2⟩ : ∃ w2, w1.alloc (.cells #[.int .u8 9, .string nm, .string tx, .slice sa set.length sc, .slice na subs.length nc] 34) = w2 := ⟨_, rfl⟩
  obtain ⟨w3, hw3⟩ : ∃ w3, w2.alloc (.cells (List.replicate inn.length (.bool false)).toArray 4) = w3 := ⟨_, rfl⟩
  have z1 : w1.heap.size = f + 1 := by rw [← hw1, ← hf]; exact World.size_alloc _ _
  have z2 : w2.heap.size = f + 1 + 1 := by rw [← hw2, ← z1]; exact World.size_alloc _ _
  have g1 : Grew W w1 := hw1 ▸ grew_alloc W _
  have g2 : Grew w1 w2 := hw2 ▸ grew_alloc w1 _
  have g3 : Grew w2 w3 := hw3 ▸ grew_alloc w2 _
  have o1 : Owns w1 f [.string g.name, .int .i64 g.bound, .int .i64 g.states, .slice ra g.rules.length rc] 26 := hf ▸ hw1 ▸ Owns.alloc W _ _
  have o2 : Owns w2 (f + 1) [.int .u8 9, .string nm, .string tx, .slice sa set.length sc, .slice na subs.length nc] 34 := z1 ▸ hw2 ▸ Owns.alloc w1 _ _
  have o3 : BRow w3 (.slice (some ⟨f + 1 + 1, 0, none⟩) inn.length inn.length) (List.replicate inn.length false) := by
    have := owns_bools (w := w3) (b := f + 1 + 1) (l := List.replicate inn.length false) (by rw [List.map_replicate, ← z2, ← hw3]; exact Owns.alloc w2 _ _) (by rw [List.length_replicate]; omega)
    rw [List.length_replicate] at this
    exact this
  have hmb := make_bools inn.length (by unfold reachN; omega) w2
  rw [hw3, z2] at hmb
  have HO1 := Lib.hid ((o1.keep g2).keep g3)
  have HO2 := Lib.hid (o2.keep g3)
  have HO3 := Lib.hid o3
  have G3 := Lib.hid ((g1.trans g2).trans g3)
  have HV3 := Lib.hid (hV.grew G3.out)
  have HSM := Lib.hid (some8_ok inn (by omega) w3 _ HV3.out)
  obtain ⟨N, hN⟩ : ∃ N, inn.length = N := ⟨_, rfl⟩
  have HN := Lib.hid hN
  rw [hN] at hmb HO3 HV3 HSM ⊢
  rw [hN] at hin
  have HIN2 := Lib.hid hin
  clear hV hlim hR h7 h9 q9 g1 g2 g3 o1 o2 o3 hw3 hN hin
  go_enter Tryd.func12, Tryd.ntmps12
  go_wp2_with fail
  refine HSM.out.mono ?_
  rintro e w4 ⟨rfl, hg4⟩
  clear hw1 hw2 hmb HSM z1 z2 hf
  have G4 := Lib.hid (G3.out.trans hg4)
  have OG := Lib.hid (HO1.out.keep hg4)
  have ON := Lib.hid (HO2.out.keep hg4)
  have BO := Lib.hid (HO3.out.grew hg4)
  have HV4 := Lib.hid (HV3.out.grew hg4)
  clear HO1 HO2 HO3 HV3 G3 hg4
  obtain ⟨s, hs⟩ : ∃ s, inn.any id = s := ⟨_, rfl⟩
  have HS := Lib.hid hs
  rw [hs]
  clear hs
  cases s
  · go_wp2_with fail
    go_ret
    exact ⟨_, _, rfl, BO.out, SetIs.empty _ HIN2.out (fun j ⟨i, _, h, _⟩ => SetIs.none HS.out ⟨i, h⟩), G4.out⟩
  have n0 := ON.out.cell_at (i := 0) rfl
  have n1 := ON.out.cell_at (i := 1) rfl
  have n2 := ON.out.cell_at (i := 2) rfl
  have n3 := ON.out.cell_at (i := 3) rfl
  have n4 := ON.out.cell_at (i := 4) rfl
  have nl := ON.out.lt
  have HT := Lib.hid ht
  clear ht
  have HR4 : Hid (RunesAt w4 w4.heap.size la l) := Lib.hid ((HR.out.mono HLIM.out).keep G4.out |>.mono G4.out.size)
  have HST := Lib.hid (step8_ok l set inn HIN.out (by omega) (by omega) w4 _ la lc sa sc HV4.out HR4.out (((H7.out.mono HLIM.out).keep G4.out).mono G4.out.size))
  go_wp2_with fail
  refine HST.out.mono ?_
  rintro e w5 ⟨x, rfl, hx, hg5⟩
  clear n0 n1 n2 n3 n4 nl HST
  have HX := Lib.hid hx
  have G5 := Lib.hid (G4.out.trans hg5)
  clear hx hg5
  go_wp2_with fail
  go_ret
  exact ⟨_, _, rfl, HX.out, (SetIs.step HIN.out set).imp fun j _ => Rc.iff (fun u => (HT.out u).symm) j, G5.out⟩
end Go.Proofs.YtkinlcichclnkaaDoor

/- Ends: a literal. Printed by gennfends.py. -/
namespace Go.Proofs.YtkinlcichclnkaaDoor
open Go.RowKit

theorem range_step {l : List Int} {inn out : List Bool} {u : List Int} {r : Int} (h : SetIs l out (Rc l (· = u) inn)) : SetIs l (stepB l [(r, r)] out) (Rc l (· = u ++ [r]) inn) := by
  refine (SetIs.step h.len [(r, r)]).imp fun j hj => ?_
  rw [Rc.cat h hj]
  refine Rc.iff (fun v => ⟨?_, ?_⟩) j
  · rintro ⟨a, b, rfl, rfl, q, rfl, p, hp, h1, h2⟩
    obtain rfl := List.mem_singleton.1 hp
    have : q = r := by dsimp only at h1 h2; omega
    rw [this]
  · rintro rfl
    exact ⟨u, [r], rfl, rfl, r, rfl, (r, r), List.mem_singleton.2 rfl, Int.le_refl _, Int.le_refl _⟩
set_option maxHeartbeats 8000000 in
set_option maxRecDepth 40000 in
theorem en_lit {lim : Nat} {g : Gr} {la : Option Addr} {lc : Nat} {l : List Int} (hl12 : l.length ≤ 100) (nm tx : ByteArray) (set : List (Int × Int)) (subs : List Nd) (ht : ∀ u, Tx g.lk (.mk 8 nm tx set subs) u ↔ u = runesOf tx) : EndsC lim g la lc l (.mk 8 nm tx set subs) := by
  intro W g0 g1 g2 g3 v0 v1 v2 v3 v4 vin inn hG hR hlim hA hV hin
  have HND := Lib.hid hA
  rw [NodeAt] at hA
  obtain ⟨hkk, h1, h2, h3, h4, h5, ⟨sa, sc, h6, h6', h7⟩, na, nc, h8, h8', h9⟩ := hA
  obtain rfl := Option.some.inj h3
  obtain rfl := Option.some.inj h4
  obtain rfl := Option.some.inj h5
  obtain rfl := Option.some.inj h6
  obtain rfl := Option.some.inj h8
  clear h3 h4 h5 h6 h8
  unfold reachN at h1 h2 h6' h8'
  have HG := Lib.hid hG
  obtain ⟨q1, q2, q3, q4, q5, q6, ra, rc, q7, q8, q9⟩ := hG
  obtain rfl := Option.some.inj q1
  obtain rfl := Option.some.inj q3
  obtain rfl := Option.some.inj q4
  obtain rfl := Option.some.inj q7
  clear q1 q2 q3 q4 q5 q6 q7
  unfold reachN at q8
  have H7 := Lib.hid h7
  have H9 := Lib.hid h9
  have HQ9 := Lib.hid q9
  have HR := Lib.hid hR
  have HLIM := Lib.hid hlim
  have HIN := Lib.hid hin
  obtain ⟨va, vc, rfl⟩ := brow_form hV
  obtain ⟨f, hf⟩ : ∃ f, W.heap.size = f := ⟨_, rfl⟩
  obtain ⟨w1, hw1⟩ : ∃ w1, W.alloc (.cells #[.string g.name, .int .i64 g.bound, .int .i64 g.states, .slice ra g.rules.length rc] 26) = w1 := ⟨_, rfl⟩
  obtain ⟨w2, hw2⟩ : ∃ w2, w1.alloc (.cells #[.int .u8 8, .string nm, .string tx, .slice sa set.length sc, .slice na subs.length nc] 34) = w2 := ⟨_, rfl⟩
  obtain ⟨w3, hw3⟩ : ∃ w3, w2.alloc (.cells (List.replicate inn.length (.bool false)).toArray 4) = w3 := ⟨_, rfl⟩
  have z1 : w1.heap.size = f + 1 := by rw [← hw1, ← hf]; exact World.size_alloc _ _
  have z2 : w2.heap.size = f + 1 + 1 := by rw [← hw2, ← z1]; exact World.size_alloc _ _
  have g1 : Grew W w1 := hw1 ▸ grew_alloc W _
  have g2 : Grew w1 w2 := hw2 ▸ grew_alloc w1 _
  have g3 : Grew w2 w3 := hw3 ▸ grew_alloc w2 _
  have o1 : Owns w1 f [.string g.name, .int .i64 g.bound, .int .i64 g.states, .slice ra g.rules.length rc] 26 := hf ▸ hw1 ▸ Owns.alloc W _ _
  have o2 : Owns w2 (f + 1) [.int .u8 8, .string nm, .string tx, .slice sa set.length sc, .slice na subs.length nc] 34 := z1 ▸ hw2 ▸ Owns.alloc w1 _ _
  have o3 : BRow w3 (.slice (some ⟨f + 1 + 1, 0, none⟩) inn.length inn.length) (List.replicate inn.length false) := by
    have := owns_bools (w := w3) (b := f + 1 + 1) (l := List.replicate inn.length false) (by rw [List.map_replicate, ← z2, ← hw3]; exact Owns.alloc w2 _ _) (by rw [List.length_replicate]; omega)
    rw [List.length_replicate] at this
    exact this
  have hmb := make_bools inn.length (by unfold reachN; omega) w2
  rw [hw3, z2] at hmb
  have HO1 := Lib.hid ((o1.keep g2).keep g3)
  have HO2 := Lib.hid (o2.keep g3)
  have HO3 := Lib.hid o3
  have G3 := Lib.hid ((g1.trans g2).trans g3)
  have HV3 := Lib.hid (hV.grew G3.out)
  have HSM := Lib.hid (some8_ok inn (by omega) w3 _ HV3.out)
  obtain ⟨N, hN⟩ : ∃ N, inn.length = N := ⟨_, rfl⟩
  have HN := Lib.hid hN
  rw [hN] at hmb HO3 HV3 HSM ⊢
  rw [hN] at hin
  have HIN2 := Lib.hid hin
  clear hV hlim hR h7 h9 q9 g1 g2 g3 o1 o2 o3 hw3 hN hin
  go_enter Tryd.func12, Tryd.ntmps12
  go_wp2_with fail
  refine HSM.out.mono ?_
  rintro e w4 ⟨rfl, hg4⟩
  clear hw1 hw2 hmb HSM z1 z2 hf
  have G4 := Lib.hid (G3.out.trans hg4)
  have OG := Lib.hid (HO1.out.keep hg4)
  have ON := Lib.hid (HO2.out.keep hg4)
  have BO := Lib.hid (HO3.out.grew hg4)
  have HV4 := Lib.hid (HV3.out.grew hg4)
  clear HO1 HO2 HO3 HV3 G3 hg4
  obtain ⟨s, hs⟩ : ∃ s, inn.any id = s := ⟨_, rfl⟩
  have HS := Lib.hid hs
  rw [hs]
  clear hs
  cases s
  · go_wp2_with fail
    go_ret
    exact ⟨_, _, rfl, BO.out, SetIs.empty _ HIN2.out (fun j ⟨i, _, h, _⟩ => SetIs.none HS.out ⟨i, h⟩), G4.out⟩
  have n0 := ON.out.cell_at (i := 0) rfl
  have n1 := ON.out.cell_at (i := 1) rfl
  have n2 := ON.out.cell_at (i := 2) rfl
  have n3 := ON.out.cell_at (i := 3) rfl
  have n4 := ON.out.cell_at (i := 4) rfl
  have nl := ON.out.lt
  have HT := Lib.hid ht
  clear ht
  obtain ⟨w5, hw5⟩ : ∃ w5, w4.iter tx 0 = w5 := ⟨_, rfl⟩
  have g5 : Grew w4 w5 := hw5 ▸ grew_alloc w4 _
  have I5 := Lib.hid (show w5.heap[w4.heap.size]? = some (.stringIter tx 0) from hw5 ▸ World.iter_heap w4 tx 0)
  have HV5 := Lib.hid (HV4.out.grew g5)
  have G5 := Lib.hid (G4.out.trans g5)
  have HK := Lib.hid (show W.heap.size ≤ w4.heap.size from G4.out.size)
  obtain ⟨kb, hkb⟩ : ∃ k, w4.heap.size = k := ⟨_, rfl⟩
  have HW4K := Lib.hid hkb
  rw [hkb] at I5 HK
  clear g5
  go_upto_region 35 with fail
  clear n0 n1 n2 n3 n4 nl
  have HRB : Hid (∀ w, Below W.heap.size W w → RunesAt w w.heap.size la l) := Lib.hid fun w hw => ((HR.out.mono HLIM.out).keep hw).mono hw.size
  go_loopw [9, 128] (fun a9 _ wr => ∃ (pos fu : Nat) (done : List Int) (out : List Bool) (x9 : Value), a9 = x9 ∧ wr.heap[kb]? = some (.stringIter tx pos) ∧ tx.size ≤ pos + fu ∧ Hid (Below W.heap.size W wr) ∧ Hid (BRow wr x9 out) ∧ Hid (SetIs l out (Rc l (· = done) inn)) ∧ Hid (done ++ runesAt tx fu pos = runesOf tx)) (fun _ _ wr => tx.size + 4 - wr.iterPos kb)
  case atStart => exact ⟨0, tx.size, [], inn, _, rfl, I5.out, by omega, G5.out, HV5.out, SetIs.self HIN.out, rfl⟩
  case round =>
    obtain ⟨pos, fu, done, out, x9, rfl, hit, hfu, BW, BX, SX, HEQ⟩ := hrel
    by_cases hlt : pos < tx.size
    · have hnx : ∀ ty, (Instr.next (.pointer (some ⟨kb, 0, none⟩)) true ty).run Tryd.prog wr = _ := fun ty => Lib.run_next_any_at wr kb tx pos ty hit hlt
      obtain ⟨fu', hfu', hru⟩ := runesAt_step hlt hfu
      have hz := width_posN tx pos hlt
      generalize Utf8.decode tx pos = dd at *
      obtain ⟨r, z⟩ := dd
      simp only at hnx hfu' hru hz
      have HRU := Lib.hid hru
      have HZ := Lib.hid hz
      clear hru hz
      have bi := iter_but (w := wr) kb tx (pos + z)
      have hit1 := Lib.iterAt_heap wr _ tx pos (pos + z) hit
      obtain ⟨wi, hwi⟩ : ∃ wi, wr.iterAt kb tx (pos + z) = wi := ⟨_, rfl⟩
      rw [hwi] at bi hit1
      have BWI : Below W.heap.size W wi := BW.out.trans (But.below bi BW.out.size fun q e => by have := HK.out; omega)
      have BXI := show BRow wi _ out from bi.row BX.out fun g hg e => row_iter_ne BX.out hit g hg e
      obtain ⟨w6, hw6⟩ : ∃ w6, wi.alloc (.cells #[.int .i32 (r : Int), .int .i32 (r : Int)] 58) = w6 := ⟨_, rfl⟩
      have g6 : Grew wi w6 := hw6 ▸ grew_alloc wi _
      have o6 : Owns w6 wi.heap.size [.int .i32 (r : Int), .int .i32 (r : Int)] 58 := hw6 ▸ Owns.alloc wi _ _
      have BW6 := Lib.hid (BWI.trans (Below.mono g6 BWI.size))
      have HST := Lib.hid (step8_ok l [((r : Int), (r : Int))] out SX.out.len (by omega) (by simp) w6 _ la lc (some ⟨wi.heap.size, 0, none⟩) 1 (BXI.grew g6) (HRB.out w6 BW6.out) (rg_at o6))
      have HIT := Lib.hid ((g6.block kb (Array.getElem?_eq_some_iff.1 hit1).1).trans hit1)
      clear bi hit1 BWI BXI g6 o6
      go_wp2_with fail
      refine HST.out.mono ?_
      rintro e w7 ⟨x, rfl, hx, hg7⟩
      have hi7 := (hg7.block kb (Array.getElem?_eq_some_iff.1 HIT.out).1).trans HIT.out
      have HX := Lib.hid hx
      have BW7 := Lib.hid (BW6.out.trans (Below.mono hg7 BW6.out.size))
      clear hnx hwi hw6 hx hg7 HST
      go_wp2_with fail
      refine ⟨⟨pos + z, fu', done ++ [(r : Int)], _, _, rfl, hi7, hfu', BW7.out, HX.out, range_step SX.out, ?_⟩, ?_⟩
      · refine Lib.hid ?_
        rw [List.append_assoc, List.singleton_append, ← HRU.out]
        exact HEQ.out
      · unfold World.iterPos
        rw [hi7, hit]
        simp only
        have := HZ.out
        omega
    · have hnx : ∀ ty, (Instr.next (.pointer (some ⟨kb, 0, none⟩)) true ty).run Tryd.prog wr = _ := fun ty => Lib.run_next_end_at wr kb tx pos ty hit hlt
      have heq := HEQ.out
      rw [runesAt_end hlt, List.append_nil] at heq
      have HEQ9 := Lib.hid heq
      clear heq
      go_wp2_with fail
      go_ret
      exact ⟨_, out, rfl, BX.out, SX.out.imp fun j _ => Rc.iff (fun u => by rw [HEQ9.out]; exact (HT.out u).symm) j, BW.out⟩
end Go.Proofs.YtkinlcichclnkaaDoor

/- Ends: a token. Printed by gennfends.py. -/
namespace Go.Proofs.YtkinlcichclnkaaDoor
open Go.RowKit

set_option maxHeartbeats 8000000 in
set_option maxRecDepth 40000 in
theorem en_tok {lim : Nat} {g : Gr} {la : Option Addr} {lc : Nat} {l : List Int} (hl12 : l.length ≤ 100) (nm tx : ByteArray) (set : List (Int × Int)) (subs : List Nd) (j : Nat) (hj : j < g.rules.length) (hfj : g.find nm = (j : Int)) (hrec : EndsC lim g la lc l g.rules[j].body) (ht : ∀ u, Tx g.lk (.mk 6 nm tx set subs) u ↔ Tx g.lk g.rules[j].body u) : EndsC lim g la lc l (.mk 6 nm tx set subs) := by
  intro W g0 g1 g2 g3 v0 v1 v2 v3 v4 vin inn hG hR hlim hA hV hin
  have HND := Lib.hid hA
  rw [NodeAt] at hA
  obtain ⟨hkk, h1, h2, h3, h4, h5, ⟨sa, sc, h6, h6', h7⟩, na, nc, h8, h8', h9⟩ := hA
  obtain rfl := Option.some.inj h3
  obtain rfl := Option.some.inj h4
  obtain rfl := Option.some.inj h5
  obtain rfl := Option.some.inj h6
  obtain rfl := Option.some.inj h8
  clear h3 h4 h5 h6 h8
  unfold reachN at h1 h2 h6' h8'
  have HG := Lib.hid hG
  obtain ⟨q1, q2, q3, q4, q5, q6, ra, rc, q7, q8, q9⟩ := hG
  obtain rfl := Option.some.inj q1
  obtain rfl := Option.some.inj q3
  obtain rfl := Option.some.inj q4
  obtain rfl := Option.some.inj q7
  clear q1 q2 q3 q4 q5 q6 q7
  unfold reachN at q8
  have H7 := Lib.hid h7
  have H9 := Lib.hid h9
  have HQ9 := Lib.hid q9
  have HR := Lib.hid hR
  have HLIM := Lib.hid hlim
  have HIN := Lib.hid hin
  obtain ⟨va, vc, rfl⟩ := brow_form hV
  obtain ⟨f, hf⟩ : ∃ f, W.heap.size = f := ⟨_, rfl⟩
  obtain ⟨w1, hw1⟩ : ∃ w1, W.alloc (.cells #[.string g.name, .int .i64 g.bound, .int .i64 g.states, .slice ra g.rules.length rc] 26) = w1 := ⟨_, rfl⟩
  obtain ⟨w2, hw2⟩ : ∃ w2, w1.alloc (.cells #[.int .u8 6, .string nm, .string tx, .slice sa set.length sc, .slice na subs.length nc] 34) = w2 := ⟨_, rfl⟩
  obtain ⟨w3, hw3⟩ : ∃ w3, w2.alloc (.cells (List.replicate inn.length (.bool false)).toArray 4) = w3 := ⟨_, rfl⟩
  have z1 : w1.heap.size = f + 1 := by rw [← hw1, ← hf]; exact World.size_alloc _ _
  have z2 : w2.heap.size = f + 1 + 1 := by rw [← hw2, ← z1]; exact World.size_alloc _ _
  have g1 : Grew W w1 := hw1 ▸ grew_alloc W _
  have g2 : Grew w1 w2 := hw2 ▸ grew_alloc w1 _
  have g3 : Grew w2 w3 := hw3 ▸ grew_alloc w2 _
  have o1 : Owns w1 f [.string g.name, .int .i64 g.bound, .int .i64 g.states, .slice ra g.rules.length rc] 26 := hf ▸ hw1 ▸ Owns.alloc W _ _
  have o2 : Owns w2 (f + 1) [.int .u8 6, .string nm, .string tx, .slice sa set.length sc, .slice na subs.length nc] 34 := z1 ▸ hw2 ▸ Owns.alloc w1 _ _
  have o3 : BRow w3 (.slice (some ⟨f + 1 + 1, 0, none⟩) inn.length inn.length) (List.replicate inn.length false) := by
    have := owns_bools (w := w3) (b := f + 1 + 1) (l := List.replicate inn.length false) (by rw [List.map_replicate, ← z2, ← hw3]; exact Owns.alloc w2 _ _) (by rw [List.length_replicate]; omega)
    rw [List.length_replicate] at this
    exact this
  have hmb := make_bools inn.length (by unfold reachN; omega) w2
  rw [hw3, z2] at hmb
  have HO1 := Lib.hid ((o1.keep g2).keep g3)
  have HO2 := Lib.hid (o2.keep g3)
  have HO3 := Lib.hid o3
  have G3 := Lib.hid ((g1.trans g2).trans g3)
  have HV3 := Lib.hid (hV.grew G3.out)
  have HSM := Lib.hid (some8_ok inn (by omega) w3 _ HV3.out)
  obtain ⟨N, hN⟩ : ∃ N, inn.length = N := ⟨_, rfl⟩
  have HN := Lib.hid hN
  rw [hN] at hmb HO3 HV3 HSM ⊢
  rw [hN] at hin
  have HIN2 := Lib.hid hin
  clear hV hlim hR h7 h9 q9 g1 g2 g3 o1 o2 o3 hw3 hN hin
  go_enter Tryd.func12, Tryd.ntmps12
  go_wp2_with fail
  refine HSM.out.mono ?_
  rintro e w4 ⟨rfl, hg4⟩
  clear hw1 hw2 hmb HSM z1 z2 hf
  have G4 := Lib.hid (G3.out.trans hg4)
  have OG := Lib.hid (HO1.out.keep hg4)
  have ON := Lib.hid (HO2.out.keep hg4)
  have BO := Lib.hid (HO3.out.grew hg4)
  have HV4 := Lib.hid (HV3.out.grew hg4)
  clear HO1 HO2 HO3 HV3 G3 hg4
  obtain ⟨s, hs⟩ : ∃ s, inn.any id = s := ⟨_, rfl⟩
  have HS := Lib.hid hs
  rw [hs]
  clear hs
  cases s
  · go_wp2_with fail
    go_ret
    exact ⟨_, _, rfl, BO.out, SetIs.empty _ HIN2.out (fun j ⟨i, _, h, _⟩ => SetIs.none HS.out ⟨i, h⟩), G4.out⟩
  have n0 := ON.out.cell_at (i := 0) rfl
  have n1 := ON.out.cell_at (i := 1) rfl
  have n2 := ON.out.cell_at (i := 2) rfl
  have n3 := ON.out.cell_at (i := 3) rfl
  have n4 := ON.out.cell_at (i := 4) rfl
  have nl := ON.out.lt
  have HT := Lib.hid ht
  have HREC := Lib.hid hrec
  clear ht hrec
  obtain ⟨rb, ro, rfl, hrb, hrule⟩ := HQ9.out.get hj
  simp only [Nat.zero_add] at hrule
  obtain ⟨y0, y1, y2, y3, y4, -, -, c2, c3, c4, c5, c6, -, -, -, -, hnode⟩ := hrule.vals
  obtain ⟨p0, p1, p2, p3, p4, p5, p6, p7, p8, rfl, rfl, rfl, rfl, rfl⟩ := hnode.forms
  have hrbW : rb < W.heap.size := Nat.lt_of_lt_of_le hrb HLIM.out
  have hrb4 : rb < w4.heap.size := Nat.lt_of_lt_of_le hrbW G4.out.size
  have ecell : ∀ o, w4.cell? ⟨rb, o, none⟩ = W.cell? ⟨rb, o, none⟩ := fun o => G4.out.cells _ _ hrbW
  rw [← ecell] at c2 c3 c4 c5 c6
  have HFIND := Lib.hid (fun (w : World) (hw : Grew w4 w) => find_ok g nm w _ _ _ _ (((HG.out.mono HLIM.out).keep (G4.out.trans hw)).mono (G4.out.trans hw).size))
  rw [hfj] at HFIND
  have HC := Lib.hid (fun (w : World) (hw : Grew w4 w) => HREC.out w _ _ _ _ _ _ _ _ _ _ inn (HG.out.keep (show Below lim W w from (G4.out.trans hw).mono HLIM.out)) (HR.out.keep ((G4.out.trans hw).mono HLIM.out)) (Nat.le_trans HLIM.out (G4.out.trans hw).size) (hnode.keep ((G4.out.trans hw).mono HLIM.out)) (HV4.out.grew hw) HIN.out)
  have a0 := OG.out.cell_at (i := 0) rfl
  have a1 := OG.out.cell_at (i := 1) rfl
  have a2 := OG.out.cell_at (i := 2) rfl
  have a3 := OG.out.cell_at (i := 3) rfl
  have al := OG.out.lt
  have hjl : (j : Int) < (g.rules.length : Int) := by omega
  clear hrule hnode ecell hfj hrb hrbW
  go_upto_region 31 with fail
  refine wp_region_hav_lit follows (by kernel_rfl) ?_
  iterate 6 (first
    | (refine HavG.skip (fun _ => rfl) ?_; simp only [Act.put, List.setIfInBounds_toArray, List.set_cons_zero, List.set_cons_succ])
    | (refine HavG.val (fun _ => rfl) ?_ (fun x w hw _ => ?_) ?_; rotate_left; (focus (have hc := hw.cells; clear hw; go_simp; first | done | rfl)); simp only [Act.put, List.setIfInBounds_toArray, List.set_cons_zero, List.set_cons_succ]))
  refine HavG.det (fun _ => rfl) (.int .i64 (j : Int)) (fun x w hw _ => ?_) ?_
  · have HW := Lib.hid hw
    clear hw
    go_simp
    refine (HFIND.out w HW.out).mono ?_
    rintro e w' ⟨rfl, hb2⟩
    exact ⟨rfl, hb2⟩
  simp only [Act.put, List.setIfInBounds_toArray, List.set_cons_zero, List.set_cons_succ]
  iterate 5 (first
    | (refine HavG.skip (fun _ => rfl) ?_; simp only [Act.put, List.setIfInBounds_toArray, List.set_cons_zero, List.set_cons_succ])
    | (refine HavG.val (fun _ => rfl) ?_ (fun x w hw _ => ?_) ?_; rotate_left; (focus (have hc := hw.cells; clear hw; go_simp; first | done | rfl)); simp only [Act.put, List.setIfInBounds_toArray, List.set_cons_zero, List.set_cons_succ]))
  refine HavG.any (fun _ => rfl) (SetV l (Rc l (Tx g.lk g.rules[j].body) inn)) (fun _ _ _ hg h => SetV.keep hg h) (fun x w hw _ => ?_) ?_
  · have HW := Lib.hid hw
    clear hw
    go_simp
    refine (HC.out w HW.out).mono ?_
    rintro e w' ⟨x, out, rfl, h1, h2, h3⟩
    exact ⟨h3, out, h1, h2⟩
  simp only [Act.put, List.setIfInBounds_toArray, List.set_cons_zero, List.set_cons_succ]
  refine HavG.tail (by kernel_rfl) (by kernel_rfl) (fun x w9 hw9 hx => ?_)
  have hx9 := hx _ (List.mem_append_right _ (List.mem_singleton.2 rfl))
  clear hx
  dsimp only at hx9
  generalize x _ = y9 at *
  obtain ⟨out9, hb9, hs9⟩ := hx9
  have HB9 := Lib.hid hb9
  have HS9 := Lib.hid hs9
  have G9 := Lib.hid (G4.out.trans hw9)
  clear hb9 hs9 hw9
  go_wp2_with fail
  go_ret
  exact ⟨_, out9, rfl, HB9.out, HS9.out.imp fun j _ => Rc.iff (fun u => (HT.out u).symm) j, G9.out⟩
end Go.Proofs.YtkinlcichclnkaaDoor
