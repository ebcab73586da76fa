/- places: each goes on from the one ahead. -/
import Derived.Test.YtdgkpmpakkfgbaaGreatDoorScPl
import Derived.Test.YtdgkpmpakkfgbaaGreatDoorScCon
import Derived.Deep.Cut
import Derived.Test.YtdgkpmpakkfgbaaGreatDoorScWr
namespace Go.Proofs.YtdgkpmpakkfgbaaGreatDoor
open Go.RowKit

theorem place_small (l : List UInt8) : (placeOf l 1 1).1 ≤ 1 + l.length ∧ (placeOf l 1 1).2 ≤ 2 + l.length ∧ 1 ≤ (placeOf l 1 1).1 ∧ 1 ≤ (placeOf l 1 1).2 := by
  have h1 := placeL_le l.length l 1 1
  have h2 := placeL_pos l.length l 1 1 (by omega) (by omega)
  unfold placeOf
  omega

theorem wrap_smallS (x : Int) (h0 : -9223372036854775808 ≤ x) (h1 : x ≤ 9223372036854775807) : IntKind.i64.wrap x = x := by rw [IntKind.wrap_i64]; omega
/-- a block of the call's own -/
def NewAt (lim : Nat) (cs : List Value) (T : Nat) (v : Value) (w : World) : Prop := ∃ b, v = .pointer (some ⟨b, 0, none⟩) ∧ lim ≤ b ∧ Owns w b cs T
theorem NewAt.keep {lim : Nat} {cs : List Value} {T : Nat} {v : Value} {w w' : World} (hg : Grew w w') (h : NewAt lim cs T v w) : NewAt lim cs T v w' := by
  obtain ⟨b, h1, h2, h3⟩ := h
  exact ⟨b, h1, h2, h3.keep hg⟩
/-- the places' boxes -/
structure PlAt (W : World) (sb pb : Nat) (s : ByteArray) (q : Nat) : Prop where
  str : Owns W sb [.string s] 9
  pos : Owns W pb [.int .i64 (q : Nat), .int .i64 ((placeOf (s.data.toList.take q) 1 1).1 : Nat), .int .i64 ((placeOf (s.data.toList.take q) 1 1).2 : Nat)] 26
  le : q ≤ s.size
  few : s.size ≤ 65536

set_option maxHeartbeats 8000000 in
set_option maxRecDepth 20000 in
theorem places1_ok (W : World) (sb pb : Nat) (s : ByteArray) (p q : Nat) (h : PlAt W sb pb s p) (hne : sb ≠ pb) (hpq : p ≤ q) (hq : q ≤ s.size) :
    Calls Tryz.prog 24 #[.int .i64 (q : Nat), .pointer (some ⟨sb, 0, none⟩), .pointer (some ⟨pb, 0, none⟩)] W fun r W' => ∃ A C : Int, r = .returned (.agg #[.int .i64 (q : Nat), .int .i64 A, .int .i64 C]) ∧ Upd pb W W' ∧ (badOf (s.data.toList.take p) 0 = -1 → A = ((placeOf (s.data.toList.take q) 1 1).1 : Nat) ∧ C = ((placeOf (s.data.toList.take q) 1 1).2 : Nat) ∧ PlAt W' sb pb s q) := by
  have hgo := fun hb => place_go s.data.toList p q hpq hb
  have hs1 := place_small (s.data.toList.take p)
  have hs2 := place_small ((s.data.toList.drop p).take (q - p))
  have hs3 := place_small (s.data.toList.take q)
  have hle := h.le
  have hfew := h.few
  have hPL : Hid (∀ w, Calls Tryz.prog 10 #[.string (s.extract p s.size), .int .i64 ((q : Int) - p)] w fun e W' => e = .returned (.agg #[.int .i64 ((q : Int) - p), .int .i64 ((placeOf ((s.data.toList.drop p).take (q - p)) 1 1).1 : Nat), .int .i64 ((placeOf ((s.data.toList.drop p).take (q - p)) 1 1).2 : Nat)]) ∧ Grew w W') := fun w => by
    have hz : (s.extract p s.size).size = s.size - p := by rw [Lib.size_eq, rest_facts, List.length_drop, ← Lib.size_eq]
    have := place_ok (s.extract p s.size) ((q : Int) - p) w (by omega) (by omega) (by omega)
    unfold PlaceIs at this
    rw [place_L, rest_facts, show within (s.extract p s.size) ((q : Int) - p) = q - p by unfold within; omega, show (((q - p : Nat) : Int)) = (q : Int) - p by omega] at this
    exact this
  have H := Lib.hid h
  have hO1 := Owns.alloc W [.int .i64 0, .int .i64 0, .int .i64 0] 26
  have hg1 := grew_alloc W (.cells #[.int .i64 0, .int .i64 0, .int .i64 0] 26)
  rw [List.length_take, List.length_drop, ← Lib.size_eq] at hs2
  rw [List.length_take, ← Lib.size_eq] at hs1 hs3
  have hsb0 := h.str.lt
  have hpb0 := h.pos.lt
  obtain ⟨o1, ho1⟩ : ∃ x, placeOf (s.data.toList.take p) 1 1 = x := ⟨_, rfl⟩
  obtain ⟨o2, ho2⟩ : ∃ x, placeOf ((s.data.toList.drop p).take (q - p)) 1 1 = x := ⟨_, rfl⟩
  obtain ⟨o3, ho3⟩ : ∃ x, placeOf (s.data.toList.take q) 1 1 = x := ⟨_, rfl⟩
  have hpos := h.pos
  have hstr := h.str
  rw [ho1] at hs1 hgo hpos
  rw [ho2] at hs2 hgo hPL
  rw [ho3] at hs3 hgo
  have HO3 := Lib.hid ho3
  obtain ⟨l1, k1⟩ := o1
  obtain ⟨l2, k2⟩ := o2
  simp only at hs1 hs2 hgo hpos hPL
  clear ho1 ho2 ho3 h
  go_enter Tryz.func24, Tryz.ntmps24
  go_wp2_with fail
  generalize W.alloc (.cells #[.int .i64 0, .int .i64 0, .int .i64 0] 26) = w1 at *
  have c0 := (hstr.keep hg1).cell_at (i := 0) rfl
  have d0 := (hpos.keep hg1).cell_at (i := 0) rfl
  have hsb := (hstr.keep hg1).lt
  have hpb := (hpos.keep hg1).lt
  have P1 := Lib.hid (hpos.keep hg1)
  have T1 := Lib.hid (hstr.keep hg1)
  have R1 := Lib.hid hO1
  have G1 := Lib.hid hg1
  clear hpos hstr hO1 hg1
  refine wp_region_hav_lit follows (by kernel_rfl) ?_
  iterate 8 (first
    | (refine HavG.skip (fun _ => rfl) ?_; simp only [Act.put, List.setIfInBounds_toArray, List.set_cons_zero, List.set_cons_succ])
    | (refine HavG.val (fun _ => rfl) ?_ (fun x w hw _ => ?_) ?_; rotate_left; (focus (have hc := hw.cells; clear hw; go_simp; first | done | rfl)); simp only [Act.put, List.setIfInBounds_toArray, List.set_cons_zero, List.set_cons_succ]))
  refine HavG.det (fun _ => rfl) (.agg #[.int .i64 ((q : Int) - p), .int .i64 (l2 : Nat), .int .i64 (k2 : Nat)]) (fun x w hw hd => ?_) ?_
  · clear hd
    have HW := Lib.hid hw
    clear hw
    go_simp
    rw [wrap_smallS _ (by omega) (by omega)]
    refine (hPL.out w).mono ?_
    rintro e w' ⟨rfl, hg⟩
    exact ⟨rfl, hg⟩
  simp only [Act.put, List.setIfInBounds_toArray, List.set_cons_zero, List.set_cons_succ]
  refine HavG.any (fun _ => rfl) (NewAt w1.heap.size [.int .i64 0, .int .i64 0, .int .i64 0] 26) (fun _ _ _ hg h => h.keep hg) (fun x w hw _ => ?_) ?_
  · have hsz := hw.size
    clear hw
    go_simp
    exact ⟨grew_alloc _ _, _, rfl, hsz, Owns.alloc _ _ _⟩
  simp only [Act.put, List.setIfInBounds_toArray, List.set_cons_zero, List.set_cons_succ]
  refine HavG.tail (by kernel_rfl) (by kernel_rfl) (fun x w2 hw hx => ?_)
  have hx8 := hx _ (List.mem_append_right _ (List.mem_singleton.2 rfl))
  clear hx
  dsimp only at hx8
  generalize x (0 + 1 + 1 + 1 + 1 + 1 + 1 + 1 + 1 + 1) = y9 at *
  obtain ⟨nb, rfl, hnb, hO⟩ := hx8
  have e0 := hO.cell_at (i := 0) rfl
  have e1 := hO.cell_at (i := 1) rfl
  have e2 := hO.cell_at (i := 2) rfl
  have ef := hO.free
  have N3 := Lib.hid (((hO.set 0 (.int .i64 ((q : Int) - p))).set 1 (.int .i64 (l2 : Nat))).set 2 (.int .i64 (k2 : Nat)))
  have P3 := Lib.hid ((((P1.out.keep hw).other (a := ⟨nb, 0, none⟩) (by simp; omega) (.int .i64 ((q : Int) - p))).other (a := ⟨nb, 1, none⟩) (by simp; omega) (.int .i64 (l2 : Nat))).other (a := ⟨nb, 2, none⟩) (by simp; omega) (.int .i64 (k2 : Nat)))
  have T3 := Lib.hid ((((T1.out.keep hw).other (a := ⟨nb, 0, none⟩) (by simp; omega) (.int .i64 ((q : Int) - p))).other (a := ⟨nb, 1, none⟩) (by simp; omega) (.int .i64 (l2 : Nat))).other (a := ⟨nb, 2, none⟩) (by simp; omega) (.int .i64 (k2 : Nat)))
  have hrb := R1.out.lt
  have R3 := Lib.hid ((((R1.out.keep hw).other (a := ⟨nb, 0, none⟩) (by simp; omega) (.int .i64 ((q : Int) - p))).other (a := ⟨nb, 1, none⟩) (by simp; omega) (.int .i64 (l2 : Nat))).other (a := ⟨nb, 2, none⟩) (by simp; omega) (.int .i64 (k2 : Nat)))
  have hsz2 := hw.size
  have hlim : W.heap.size ≤ nb := by omega
  have B3 := Lib.hid (((((G1.out.trans hw) : Below W.heap.size W w2).setCell (p := ⟨nb, 0, none⟩) hlim (.int .i64 ((q : Int) - p))).setCell (p := ⟨nb, 1, none⟩) hlim (.int .i64 (l2 : Nat))).setCell (p := ⟨nb, 2, none⟩) hlim (.int .i64 (k2 : Nat)))
  have HNB := Lib.hid hnb
  clear c0 d0 hw hO hsb hpb P1 T1 R1 G1 hnb
  go_upto_region 2 with fail
  clear e0 e1 e2 ef
  generalize ((w2.setCell ⟨nb, 0, none⟩ (.int .i64 ((q : Int) - p))).setCell ⟨nb, 1, none⟩ (.int .i64 (l2 : Nat))).setCell ⟨nb, 2, none⟩ (.int .i64 (k2 : Nat)) = w3 at *
  by_cases hl : 1 < l2
  · have hl2 : (1 : Int) < (l2 : Int) := by omega
    have HGO := Lib.hid (fun hb => by have := hgo hb; rw [if_pos hl] at this; exact this : badOf (s.data.toList.take p) 0 = -1 → o3 = (l1 + l2 - 1, k2))
    clear hl hgo
    have N3c := N3.out
    have f0 := P3.out.cell_at (i := 0) rfl
    have f1 := P3.out.cell_at (i := 1) rfl
    have f2 := P3.out.cell_at (i := 2) rfl
    have ff := P3.out.free
    have g1 : w3.cell? ⟨nb, 1, none⟩ = some (.int .i64 (l2 : Nat)) := N3c.cell_at (i := 1) rfl
    have g2 : w3.cell? ⟨nb, 2, none⟩ = some (.int .i64 (k2 : Nat)) := N3c.cell_at (i := 2) rfl
    have P4 : Hid (Owns (((w3.setCell ⟨pb, 0, none⟩ (.int .i64 (q : Nat))).setCell ⟨pb, 1, none⟩ (.int .i64 ((l1 : Int) + l2 - 1))).setCell ⟨pb, 2, none⟩ (.int .i64 (k2 : Nat))) pb [.int .i64 (q : Nat), .int .i64 ((l1 : Int) + l2 - 1), .int .i64 (k2 : Nat)] 26) := ((P3.out.set 0 _).set 1 _).set 2 _
    have T4 := Lib.hid (((T3.out.other (a := ⟨pb, 0, none⟩) (by simp; omega) (.int .i64 (q : Nat))).other (a := ⟨pb, 1, none⟩) (by simp; omega) (.int .i64 ((l1 : Int) + l2 - 1))).other (a := ⟨pb, 2, none⟩) (by simp; omega) (.int .i64 (k2 : Nat)))
    have R4 := Lib.hid (((R3.out.other (a := ⟨pb, 0, none⟩) (by simp; omega) (.int .i64 (q : Nat))).other (a := ⟨pb, 1, none⟩) (by simp; omega) (.int .i64 ((l1 : Int) + l2 - 1))).other (a := ⟨pb, 2, none⟩) (by simp; omega) (.int .i64 (k2 : Nat)))
    have U4 := Lib.hid (((((Upd.refl pb W).more B3.out (Nat.le_refl _)).setCell 0 (.int .i64 (q : Nat))).setCell 1 (.int .i64 ((l1 : Int) + l2 - 1))).setCell 2 (.int .i64 (k2 : Nat)))
    clear N3c
    go_upto_region 5 with fail
    clear f0 f1 f2 ff g1 g2
    generalize ((w3.setCell ⟨pb, 0, none⟩ (.int .i64 (q : Nat))).setCell ⟨pb, 1, none⟩ (.int .i64 ((l1 : Int) + l2 - 1))).setCell ⟨pb, 2, none⟩ (.int .i64 (k2 : Nat)) = w4 at *
    have f0 := P4.out.cell_at (i := 0) rfl
    have f1 := P4.out.cell_at (i := 1) rfl
    have f2 := P4.out.cell_at (i := 2) rfl
    have r0 := R4.out.cell_at (i := 0) rfl
    have r1 := R4.out.cell_at (i := 1) rfl
    have r2 := R4.out.cell_at (i := 2) rfl
    have rf := R4.out.free
    have R5 : Hid (Owns (((w4.setCell ⟨W.heap.size, 0, none⟩ (.int .i64 (q : Nat))).setCell ⟨W.heap.size, 1, none⟩ (.int .i64 ((l1 : Int) + l2 - 1))).setCell ⟨W.heap.size, 2, none⟩ (.int .i64 (k2 : Nat))) W.heap.size [.int .i64 (q : Nat), .int .i64 ((l1 : Int) + l2 - 1), .int .i64 (k2 : Nat)] 26) := ((R4.out.set 0 _).set 1 _).set 2 _
    have B5 := Lib.hid ((((Below.refl W.heap.size w4).setCell (p := ⟨W.heap.size, 0, none⟩) (Nat.le_refl _) (.int .i64 (q : Nat))).setCell (p := ⟨W.heap.size, 1, none⟩) (Nat.le_refl _) (.int .i64 ((l1 : Int) + l2 - 1))).setCell (p := ⟨W.heap.size, 2, none⟩) (Nat.le_refl _) (.int .i64 (k2 : Nat)))
    go_wp2_with fail
    refine bodyPost_ret (results_cell_row (d := Tryz.prog.underlying 26 |>.getD default) rfl _ _ W.heap.size 26 _ (0, 0) rfl R5.out rfl rfl rfl) rfl ?_
    refine ⟨((l1 : Int) + l2 - 1), (k2 : Nat), rfl, U4.out.more B5.out (Nat.le_refl _), fun hb => ?_⟩
    have ho := HO3.out
    rw [HGO.out hb] at ho
    have a1 : ((l1 : Int) + l2 - 1) = ((l1 + l2 - 1 : Nat) : Int) := by omega
    have a2 : (k2 : Nat) = ((k2 : Nat) : Int) := by omega
    rw [ho]
    refine ⟨a1, a2, T4.out.below B5.out hsb0, ?_, hq, hfew⟩
    rw [ho]
    simp only
    rw [← a1, ← a2]
    exact P4.out.below B5.out hpb0
  · have hl2 : ¬ (1 : Int) < (l2 : Int) := by omega
    have HGO := Lib.hid (fun hb => by have := hgo hb; rw [if_neg hl] at this; exact this : badOf (s.data.toList.take p) 0 = -1 → o3 = (l1, k1 + k2 - 1))
    clear hl hgo
    have N3c := N3.out
    have f0 := P3.out.cell_at (i := 0) rfl
    have f1 := P3.out.cell_at (i := 1) rfl
    have f2 := P3.out.cell_at (i := 2) rfl
    have ff := P3.out.free
    have g1 : w3.cell? ⟨nb, 1, none⟩ = some (.int .i64 (l2 : Nat)) := N3c.cell_at (i := 1) rfl
    have g2 : w3.cell? ⟨nb, 2, none⟩ = some (.int .i64 (k2 : Nat)) := N3c.cell_at (i := 2) rfl
    have P4 : Hid (Owns (((w3.setCell ⟨pb, 0, none⟩ (.int .i64 (q : Nat))).setCell ⟨pb, 1, none⟩ (.int .i64 (l1 : Nat))).setCell ⟨pb, 2, none⟩ (.int .i64 ((k1 : Int) + k2 - 1))) pb [.int .i64 (q : Nat), .int .i64 (l1 : Nat), .int .i64 ((k1 : Int) + k2 - 1)] 26) := ((P3.out.set 0 _).set 1 _).set 2 _
    have T4 := Lib.hid (((T3.out.other (a := ⟨pb, 0, none⟩) (by simp; omega) (.int .i64 (q : Nat))).other (a := ⟨pb, 1, none⟩) (by simp; omega) (.int .i64 (l1 : Nat))).other (a := ⟨pb, 2, none⟩) (by simp; omega) (.int .i64 ((k1 : Int) + k2 - 1)))
    have R4 := Lib.hid (((R3.out.other (a := ⟨pb, 0, none⟩) (by simp; omega) (.int .i64 (q : Nat))).other (a := ⟨pb, 1, none⟩) (by simp; omega) (.int .i64 (l1 : Nat))).other (a := ⟨pb, 2, none⟩) (by simp; omega) (.int .i64 ((k1 : Int) + k2 - 1)))
    have U4 := Lib.hid (((((Upd.refl pb W).more B3.out (Nat.le_refl _)).setCell 0 (.int .i64 (q : Nat))).setCell 1 (.int .i64 (l1 : Nat))).setCell 2 (.int .i64 ((k1 : Int) + k2 - 1)))
    clear N3c
    go_upto_region 5 with fail
    clear f0 f1 f2 ff g1 g2
    generalize ((w3.setCell ⟨pb, 0, none⟩ (.int .i64 (q : Nat))).setCell ⟨pb, 1, none⟩ (.int .i64 (l1 : Nat))).setCell ⟨pb, 2, none⟩ (.int .i64 ((k1 : Int) + k2 - 1)) = w4 at *
    have f0 := P4.out.cell_at (i := 0) rfl
    have f1 := P4.out.cell_at (i := 1) rfl
    have f2 := P4.out.cell_at (i := 2) rfl
    have r0 := R4.out.cell_at (i := 0) rfl
    have r1 := R4.out.cell_at (i := 1) rfl
    have r2 := R4.out.cell_at (i := 2) rfl
    have rf := R4.out.free
    have R5 : Hid (Owns (((w4.setCell ⟨W.heap.size, 0, none⟩ (.int .i64 (q : Nat))).setCell ⟨W.heap.size, 1, none⟩ (.int .i64 (l1 : Nat))).setCell ⟨W.heap.size, 2, none⟩ (.int .i64 ((k1 : Int) + k2 - 1))) W.heap.size [.int .i64 (q : Nat), .int .i64 (l1 : Nat), .int .i64 ((k1 : Int) + k2 - 1)] 26) := ((R4.out.set 0 _).set 1 _).set 2 _
    have B5 := Lib.hid ((((Below.refl W.heap.size w4).setCell (p := ⟨W.heap.size, 0, none⟩) (Nat.le_refl _) (.int .i64 (q : Nat))).setCell (p := ⟨W.heap.size, 1, none⟩) (Nat.le_refl _) (.int .i64 (l1 : Nat))).setCell (p := ⟨W.heap.size, 2, none⟩) (Nat.le_refl _) (.int .i64 ((k1 : Int) + k2 - 1)))
    go_wp2_with fail
    refine bodyPost_ret (results_cell_row (d := Tryz.prog.underlying 26 |>.getD default) rfl _ _ W.heap.size 26 _ (0, 0) rfl R5.out rfl rfl rfl) rfl ?_
    refine ⟨(l1 : Nat), ((k1 : Int) + k2 - 1), rfl, U4.out.more B5.out (Nat.le_refl _), fun hb => ?_⟩
    have ho := HO3.out
    rw [HGO.out hb] at ho
    have a1 : (l1 : Nat) = ((l1 : Nat) : Int) := by omega
    have a2 : ((k1 : Int) + k2 - 1) = ((k1 + k2 - 1 : Nat) : Int) := by omega
    rw [ho]
    refine ⟨a1, a2, T4.out.below B5.out hsb0, ?_, hq, hfew⟩
    rw [ho]
    simp only
    rw [← a1, ← a2]
    exact P4.out.below B5.out hpb0
end Go.Proofs.YtdgkpmpakkfgbaaGreatDoor
