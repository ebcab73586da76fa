/- A word. -/
import Derived.Test.YtdgkpmpakkfgbaaGreatDoorScSet
import Derived.Test.YtdgkpmpakkfgbaaGreatDoorScMark
import Derived.Deep.Cut
namespace Go.Proofs.YtdgkpmpakkfgbaaGreatDoor
open Go.RowKit

theorem loose_mono {W : World} {b b' e size n : Nat} {v : Value} {xs : List Value} (h : looseRow W b e size v n xs) (hb : b' ≤ b) : looseRow W b' e size v n xs := by
  refine ⟨h.1, h.2.imp id ?_⟩
  rintro ⟨g, cap, cur, h1, h2, h3⟩
  exact ⟨g, cap, cur, h1, by omega, h3⟩

/-- a word as it is told; its place: bytes ahead of it -/
def wordV (k : Nat) (t : ByteArray) (v : Value) (p : Nat) : Value := .agg #[.int .u8 (k : Nat), .string t, v, .int .i64 (p : Nat), .int .i64 0, .int .i64 0]
def WordIs (W : World) (cb : Nat) (s : ByteArray) (o : Wd × Nat × Nat) (r : Ending) (W' : World) : Prop :=
  ∃ (t : ByteArray) (v : Value), t.data.toList = o.1.text ∧ (o.2.2 = 0 → RangesV W' W.heap.size v o.1.set) ∧ (∃ a n c, v = .slice a n c) ∧ GoesTo W cb s o.2.1 o.2.2 (wordV o.1.kind t v o.1.at_) r W'

def setSix (w : World) (b : Nat) (a0 a1 a2 a3 a4 a5 : Value) : World := (((((w.setCell ⟨b, 0, none⟩ a0).setCell ⟨b, 1, none⟩ a1).setCell ⟨b, 2, none⟩ a2).setCell ⟨b, 3, none⟩ a3).setCell ⟨b, 4, none⟩ a4).setCell ⟨b, 5, none⟩ a5
theorem row_six {w : World} {b T : Nat} {a0 a1 a2 a3 a4 a5 : Value} (h : Owns w b [a0, a1, a2, a3, a4, a5] T) : Owns (setSix w b a0 a1 a2 a3 a4 a5) b [a0, a1, a2, a3, a4, a5] T :=
  (((((h.set 0 a0).set 1 a1).set 2 a2).set 3 a3).set 4 a4).set 5 a5
theorem below_six {B : Nat} {w0 w : World} (h : Below B w0 w) {b : Nat} (hb : B ≤ b) (a0 a1 a2 a3 a4 a5 : Value) : Below B w0 (setSix w b a0 a1 a2 a3 a4 a5) :=
  (((((h.setCell (p := ⟨b, 0, none⟩) hb a0).setCell (p := ⟨b, 1, none⟩) hb a1).setCell (p := ⟨b, 2, none⟩) hb a2).setCell (p := ⟨b, 3, none⟩) hb a3).setCell (p := ⟨b, 4, none⟩) hb a4).setCell (p := ⟨b, 5, none⟩) hb a5
theorem upd_six {w0 w : World} {b : Nat} (h : Upd b w0 w) (a0 a1 a2 a3 a4 a5 : Value) : Upd b w0 (setSix w b a0 a1 a2 a3 a4 a5) :=
  (((((h.setCell 0 a0).setCell 1 a1).setCell 2 a2).setCell 3 a3).setCell 4 a4).setCell 5 a5
/-- the word's box, written and told -/
theorem word_told {W w4 : World} {cb q f : Nat} {s : ByteArray} {a0 a1 a2 a3 a4 a5 : Value} (k : Nat) (t : ByteArray) (v : Value) (p : Nat) (i j : Nat) (x y : Value) (hO : Owns w4 W.heap.size [a0, a1, a2, a3, a4, a5] 38) (hU : Upd cb W w4) (hS : ScanAt w4 cb s q f) (hc : cb < W.heap.size)
    (he : ([a0, a1, a2, a3, a4, a5].set i x).set j y = [.int .u8 (k : Nat), .string t, v, .int .i64 (p : Nat), .int .i64 0, .int .i64 0]) :
    Owns (setSix ((w4.setCell ⟨W.heap.size, i, none⟩ x).setCell ⟨W.heap.size, j, none⟩ y) W.heap.size (.int .u8 (k : Nat)) (.string t) v (.int .i64 (p : Nat)) (.int .i64 0) (.int .i64 0)) W.heap.size [.int .u8 (k : Nat), .string t, v, .int .i64 (p : Nat), .int .i64 0, .int .i64 0] 38 ∧
      GoesTo W cb s q f (wordV k t v p) (.returned (wordV k t v p)) (setSix ((w4.setCell ⟨W.heap.size, i, none⟩ x).setCell ⟨W.heap.size, j, none⟩ y) W.heap.size (.int .u8 (k : Nat)) (.string t) v (.int .i64 (p : Nat)) (.int .i64 0) (.int .i64 0)) ∧
      Upd W.heap.size w4 (setSix ((w4.setCell ⟨W.heap.size, i, none⟩ x).setCell ⟨W.heap.size, j, none⟩ y) W.heap.size (.int .u8 (k : Nat)) (.string t) v (.int .i64 (p : Nat)) (.int .i64 0) (.int .i64 0)) := by
  have h1 := (hO.set i x).set j y
  rw [he] at h1
  have hb := below_six (((Below.refl W.heap.size w4).setCell (p := ⟨W.heap.size, i, none⟩) (Nat.le_refl _) x).setCell (p := ⟨W.heap.size, j, none⟩) (Nat.le_refl _) y) (Nat.le_refl W.heap.size) (.int .u8 (k : Nat)) (.string t) v (.int .i64 (p : Nat)) (.int .i64 0) (.int .i64 0)
  exact ⟨row_six h1, ⟨rfl, hU.more hb (Nat.le_refl _), hS.below hb hc⟩, upd_six (((Upd.refl W.heap.size w4).setCell i x).setCell j y) _ _ _ _ _ _⟩

set_option maxHeartbeats 8000000 in
set_option maxRecDepth 20000 in
theorem word_ok (W : World) (cb : Nat) (s : ByteArray) (p : Nat) (h : ScanAt W cb s p 0) (hp : p < s.size) :
    Calls Tryz.prog 13 #[.pointer (some ⟨cb, 0, none⟩)] W (WordIs W cb s (wordF s.data.toList p)) := by
  have hle := h.box.le
  have hfew := h.box.few
  have hLs : s.data.toList.length = s.size := (Lib.size_eq s).symm
  have c1 := h.box.c1
  have fr := h.box.fr
  have hcb := h.box.owns.lt
  have H := Lib.hid h
  obtain ⟨o, ho⟩ : ∃ o, wordF s.data.toList p = o := ⟨_, rfl⟩
  rw [ho]
  unfold wordF at ho
  simp only at ho
  obtain ⟨c0, tl, hct⟩ : ∃ c t, s.data.toList.drop p = c :: t := by
    cases hd : s.data.toList.drop p with
    | nil =>
      have := congrArg List.length hd
      rw [List.length_drop, hLs] at this
      simp at this
      omega
    | cons c t => exact ⟨c, t, rfl⟩
  have hr := rest_facts s p
  obtain ⟨t0, ht0⟩ : ∃ t, s.extract p s.size = t := ⟨_, rfl⟩
  rw [ht0, hct] at hr
  obtain ⟨h0, hv⟩ := head_get t0 c0 tl hr
  have hg1 := grew_alloc W (.cells #[.int .u8 0, .string { data := #[] }, .slice none 0 0, .int .i64 (p : Nat), .int .i64 0, .int .i64 0] 38)
  have hO1 := Owns.alloc W [.int .u8 0, .string { data := #[] }, .slice none 0 0, .int .i64 (p : Nat), .int .i64 0, .int .i64 0] 38
  have hI1 := fun w => Tryz.strings_IndexByte { data := lettersL.toArray } (c0.toNat : Int) w
  have hI2 := fun w => Tryz.strings_IndexByte { data := digitsL.toArray } (c0.toNat : Int) w
  rw [toU8, show (({ data := lettersL.toArray } : ByteArray).data.toList) = lettersL from rfl] at hI1
  rw [toU8, show (({ data := digitsL.toArray } : ByteArray).data.toList) = digitsL from rfl] at hI2
  rw [hct, List.getD_cons_zero, show amongB lettersL c0 = decide (0 ≤ Lib.indexByte lettersL c0) from rfl, show amongB digitsL c0 = decide (0 ≤ Lib.indexByte digitsL c0) from rfl] at ho
  obtain ⟨ib1, hib1⟩ : ∃ x, Lib.indexByte lettersL c0 = x := ⟨_, rfl⟩
  obtain ⟨ib2, hib2⟩ : ∃ x, Lib.indexByte digitsL c0 = x := ⟨_, rfl⟩
  rw [hib1] at hI1
  rw [hib2] at hI2
  rw [hib1, hib2] at ho
  have HI1 := Lib.hid hI1
  have HI2 := Lib.hid hI2
  have hM := mark_ok t0
  rw [hr] at hM
  have H1 := Lib.hid (H.out.keep hg1)
  have G1 := Lib.hid hg1
  have O1 := Lib.hid hO1
  have hL := Lib.hid (left_ok (W.alloc (.cells #[.int .u8 0, .string { data := #[] }, .slice none 0 0, .int .i64 (p : Nat), .int .i64 0, .int .i64 0] 38)) cb s p 0 H1.out.box)
  unfold LeftIs at hL
  rw [ht0] at hL
  have HO := Lib.hid ho
  clear h hI1 hI2 hg1 hO1 hib1 hib2 ho
  go_enter Tryz.func13, Tryz.ntmps13
  go_wp2_with fail
  generalize W.alloc (.cells #[.int .u8 0, .string { data := #[] }, .slice none 0 0, .int .i64 (p : Nat), .int .i64 0, .int .i64 0] 38) = w1 at *
  refine hL.out.mono ?_
  rintro r w2 ⟨rfl, hg2, hb2⟩
  have G2 := Lib.hid hg2
  have S2 := Lib.hid (H1.out.keep hg2)
  have O2 := Lib.hid (O1.out.keep hg2)
  clear hg2 hb2 H1 O1 hL
  go_wp2_with fail
  refine (HI1.out _).mono ?_
  rintro e w3 ⟨rfl, rfl⟩
  have hwb := O2.out.lt
  by_cases h1 : 0 ≤ ib1
  · have HN := Lib.hid (many_ok _ cb s { data := nameL.toArray } p 64 (by omega) S2.out (by decide +kernel) (by decide +kernel))
    rw [show (({ data := nameL.toArray } : ByteArray).data.toList) = nameL from rfl, hct] at HN
    have ho := HO.out
    rw [if_pos (decide_eq_true h1)] at ho
    obtain ⟨n, hn⟩ : ∃ n, manyN (c0 :: tl) nameL = n := ⟨_, rfl⟩
    rw [hn] at HN ho
    have HO2 := Lib.hid ho
    clear ho HO HI1 HI2 hn hM
    go_wp2_with fail
    refine HN.out.mono ?_
    rintro e w4 ⟨t, ht, rfl, hu4, hS4⟩
    have HT := Lib.hid ht
    have S4 := Lib.hid hS4
    have U4 := Lib.hid (((G1.out.trans G2.out).upd cb).trans hu4)
    have O4 := O2.out.upd hu4 (by omega)
    have d0 := O4.cell_at (i := 0) rfl
    have d1 := O4.cell_at (i := 1) rfl
    have d2 := O4.cell_at (i := 2) rfl
    have d3 := O4.cell_at (i := 3) rfl
    have d4 := O4.cell_at (i := 4) rfl
    have d5 := O4.cell_at (i := 5) rfl
    have df := O4.free
    have HE := Lib.hid (word_told 0 t (.slice none 0 0) p 0 1 (.int .u8 ((0 : Nat) : Int)) (.string t) O4 U4.out S4.out hcb rfl)
    clear ht hS4 hu4 O4
    go_wp2_with fail
    refine bodyPost_ret (results_cell_row (d := Tryz.prog.underlying 38 |>.getD default) rfl _ _ W.heap.size 38 _ (0, 0) rfl HE.out.1 rfl rfl rfl) rfl ?_
    by_cases hgt : 64 < n
    · have ho := HO2.out
      rw [if_pos hgt] at ho
      subst ho
      exact ⟨t, _, by rw [HT.out, if_pos hgt], fun h => absurd h (by simp), ⟨_, _, _, rfl⟩, by have := HE.out.2.1; rw [if_pos hgt, if_pos hgt] at this; exact this⟩
    · have ho := HO2.out
      rw [if_neg hgt] at ho
      subst ho
      exact ⟨t, _, by rw [HT.out, if_neg hgt], fun _ => ⟨rfl, .inl ⟨rfl, rfl⟩⟩, ⟨_, _, _, rfl⟩, by have := HE.out.2.1; rw [if_neg hgt, if_neg hgt] at this; exact this⟩
  have n1 : ib1 < 0 := by omega
  have HOa := HO.out
  rw [if_neg (by simpa using h1)] at HOa
  clear HO
  clear h1
  go_wp2_with fail
  refine (HI2.out _).mono ?_
  rintro e w3' ⟨rfl, rfl⟩
  by_cases h2 : 0 ≤ ib2
  · have HN := Lib.hid (many_ok _ cb s { data := digitsL.toArray } p 9 (by omega) S2.out (by decide +kernel) (by decide +kernel))
    rw [show (({ data := digitsL.toArray } : ByteArray).data.toList) = digitsL from rfl, hct] at HN
    rw [if_pos (decide_eq_true h2)] at HOa
    obtain ⟨n, hn⟩ : ∃ n, manyN (c0 :: tl) digitsL = n := ⟨_, rfl⟩
    rw [hn] at HN HOa
    have HO2 := Lib.hid HOa
    clear HOa HI1 HI2 hn hM
    go_wp2_with fail
    refine HN.out.mono ?_
    rintro e w4 ⟨t, ht, rfl, hu4, hS4⟩
    have HT := Lib.hid ht
    have S4 := Lib.hid hS4
    have U4 := Lib.hid (((G1.out.trans G2.out).upd cb).trans hu4)
    have O4 := O2.out.upd hu4 (by omega)
    have d0 := O4.cell_at (i := 0) rfl
    have d1 := O4.cell_at (i := 1) rfl
    have d2 := O4.cell_at (i := 2) rfl
    have d3 := O4.cell_at (i := 3) rfl
    have d4 := O4.cell_at (i := 4) rfl
    have d5 := O4.cell_at (i := 5) rfl
    have df := O4.free
    have HE := Lib.hid (word_told 1 t (.slice none 0 0) p 0 1 (.int .u8 ((1 : Nat) : Int)) (.string t) O4 U4.out S4.out hcb rfl)
    clear ht hS4 hu4 O4
    go_wp2_with fail
    refine bodyPost_ret (results_cell_row (d := Tryz.prog.underlying 38 |>.getD default) rfl _ _ W.heap.size 38 _ (0, 0) rfl HE.out.1 rfl rfl rfl) rfl ?_
    by_cases hgt : 9 < n
    · have ho := HO2.out
      rw [if_pos hgt] at ho
      subst ho
      exact ⟨t, _, by rw [HT.out, if_pos hgt], fun h => absurd h (by simp), ⟨_, _, _, rfl⟩, by have := HE.out.2.1; rw [if_pos hgt, if_pos hgt] at this; exact this⟩
    · have ho := HO2.out
      rw [if_neg hgt] at ho
      subst ho
      exact ⟨t, _, by rw [HT.out, if_neg hgt], fun _ => ⟨rfl, .inl ⟨rfl, rfl⟩⟩, ⟨_, _, _, rfl⟩, by have := HE.out.2.1; rw [if_neg hgt, if_neg hgt] at this; exact this⟩
  have n2 : ib2 < 0 := by omega
  rw [if_neg (by simpa using h2)] at HOa
  clear h2
  by_cases h39 : c0 = 39
  · rw [if_pos h39] at HOa
    subst h39
    have HN := Lib.hid (text_ok _ cb s p S2.out hp)
    have HO2 := Lib.hid HOa
    obtain ⟨P, hP⟩ : ∃ P, textF s.data.toList p (s.data.toList.length + 1) (p + 1) [] = P := ⟨_, rfl⟩
    rw [hP] at HN HO2
    clear HOa HI1 HI2 hM hP
    go_wp2_with fail
    refine HN.out.mono ?_
    rintro e w4 ⟨t, ht, rfl, hu4, hS4⟩
    have HT := Lib.hid ht
    have S4 := Lib.hid hS4
    have U4 := Lib.hid (((G1.out.trans G2.out).upd cb).trans hu4)
    have O4 := O2.out.upd hu4 (by omega)
    have d0 := O4.cell_at (i := 0) rfl
    have d1 := O4.cell_at (i := 1) rfl
    have d2 := O4.cell_at (i := 2) rfl
    have d3 := O4.cell_at (i := 3) rfl
    have d4 := O4.cell_at (i := 4) rfl
    have d5 := O4.cell_at (i := 5) rfl
    have df := O4.free
    have HE := Lib.hid (word_told 2 t (.slice none 0 0) p 0 1 (.int .u8 ((2 : Nat) : Int)) (.string t) O4 U4.out S4.out hcb rfl)
    clear ht hS4 hu4 O4
    go_wp2_with fail
    refine bodyPost_ret (results_cell_row (d := Tryz.prog.underlying 38 |>.getD default) rfl _ _ W.heap.size 38 _ (0, 0) rfl HE.out.1 rfl rfl rfl) rfl ?_
    have ho := HO2.out
    subst ho
    exact ⟨t, _, HT.out, fun _ => ⟨rfl, .inl ⟨rfl, rfl⟩⟩, ⟨_, _, _, rfl⟩, HE.out.2.1⟩
  have n39 : ((c0.toNat : Int) == 39) = false := by
    rw [beq_eq_false_iff_ne]
    intro h
    exact h39 (UInt8.toNat_inj.1 (show c0.toNat = 39 by omega))
  rw [if_neg h39] at HOa
  by_cases h91 : c0 = 91
  · rw [if_pos h91] at HOa
    subst h91
    have HN := Lib.hid (set_ok _ cb s p S2.out hp)
    have HO2 := Lib.hid HOa
    obtain ⟨P, hP⟩ : ∃ P, setF s.data.toList p (s.data.toList.length + 1) (p + 1) [] = P := ⟨_, rfl⟩
    rw [hP] at HN HO2
    clear HOa HI1 HI2 hM hP h39
    go_wp2_with fail
    refine HN.out.mono ?_
    rintro e w4 ⟨v, hv4, ⟨va, vn, vc, rfl⟩, rfl, hu4, hS4⟩
    have HT := Lib.hid hv4
    have S4 := Lib.hid hS4
    have U4 := Lib.hid (((G1.out.trans G2.out).upd cb).trans hu4)
    have O4 := O2.out.upd hu4 (by omega)
    have d0 := O4.cell_at (i := 0) rfl
    have d1 := O4.cell_at (i := 1) rfl
    have d2 := O4.cell_at (i := 2) rfl
    have d3 := O4.cell_at (i := 3) rfl
    have d4 := O4.cell_at (i := 4) rfl
    have d5 := O4.cell_at (i := 5) rfl
    have df := O4.free
    have HE := Lib.hid (word_told 3 { data := #[] } (.slice va vn vc) p 0 2 (.int .u8 ((3 : Nat) : Int)) (.slice va vn vc) O4 U4.out S4.out hcb rfl)
    clear hv4 hS4 hu4 O4
    go_wp2_with fail
    refine bodyPost_ret (results_cell_row (d := Tryz.prog.underlying 38 |>.getD default) rfl _ _ W.heap.size 38 _ (0, 0) rfl HE.out.1 rfl rfl rfl) rfl ?_
    have ho := HO2.out
    subst ho
    exact ⟨_, _, rfl, fun h => loose_mono (loose_upd (HT.out h) HE.out.2.2 hwb) (by omega), ⟨_, _, _, rfl⟩, HE.out.2.1⟩
  have n91 : ((c0.toNat : Int) == 91) = false := by
    rw [beq_eq_false_iff_ne]
    intro h
    exact h91 (UInt8.toNat_inj.1 (show c0.toNat = 91 by omega))
  rw [if_neg h91] at HOa
  have hL2 := Lib.hid (left_ok _ cb s p 0 S2.out.box)
  unfold LeftIs at hL2
  rw [ht0] at hL2
  have HO2 := Lib.hid HOa
  have HM := Lib.hid hM
  have ht0s : t0.size ≤ 65536 := by rw [← ht0, Lib.size_eq, rest_facts, List.length_drop, ← Lib.size_eq]; omega
  have hmin := (markF_in (c0 :: tl) (by simp)).1
  have hctl : (c0 :: tl).length = s.size - p := by rw [← hct, List.length_drop, hLs]
  clear HOa HI1 HI2 hM h39 h91
  obtain ⟨n, hn⟩ : ∃ n, markF (c0 :: tl) = n := ⟨_, rfl⟩
  rw [hn] at HM HO2 hmin
  go_wp2_with fail
  refine hL2.out.mono ?_
  rintro r w4 ⟨rfl, hg4, hb4⟩
  have S4 := Lib.hid (S2.out.keep hg4)
  have G4 := Lib.hid hg4
  clear hg4 hb4
  go_wp2_with fail
  refine (HM.out w4 h0 ht0s).mono ?_
  rintro e w5 ⟨u, hu, rfl, hg5⟩
  have S5 := Lib.hid (S4.out.keep hg5)
  have G5 := Lib.hid (G4.out.trans hg5)
  have HU := Lib.hid hu
  have hus : u.size = n := by rw [Lib.size_eq, hu, List.length_take]; omega
  have hue := empty_iff u
  clear hg5
  have U5 := Lib.hid (((G1.out.trans G2.out).trans G5.out).upd cb)
  by_cases hn0 : n = 0
  · have hue1 : u.toList.isEmpty = true := by
      rw [hue]
      apply decide_eq_true
      rw [hu, hn0]
      rfl
    have HW := Lib.hid (wrong_ok w5 cb s p p 4 S5.out.box hle)
    have c5 := S5.out.box.c1
    subst hn0
    clear hu hue
    go_wp2_with fail
    refine HW.out.mono ?_
    rintro e w6 ⟨rfl, hu6, hb6⟩
    have S6 := Lib.hid (S5.out.upd hu6 hb6)
    have U6 := Lib.hid (U5.out.trans hu6)
    have O6 := (O2.out.keep G5.out).upd hu6 (by omega)
    have d0 := O6.cell_at (i := 0) rfl
    have d1 := O6.cell_at (i := 1) rfl
    have df := O6.free
    have O7 := Lib.hid ((O6.set 0 (.int .u8 ((4 : Nat) : Int))).set 1 (.string u))
    have hb7 := ((Below.refl W.heap.size w6).setCell (p := ⟨W.heap.size, 0, none⟩) (Nat.le_refl _) (.int .u8 ((4 : Nat) : Int))).setCell (p := ⟨W.heap.size, 1, none⟩) (Nat.le_refl _) (.string u)
    have S7 := Lib.hid (S6.out.below hb7 hcb)
    have U7 := Lib.hid (U6.out.more hb7 (Nat.le_refl _))
    clear hb7 O6 hu6 hb6
    go_upto_region 7 with fail
    clear d0 d1 df
    generalize (w6.setCell ⟨W.heap.size, 0, none⟩ (.int .u8 ((4 : Nat) : Int))).setCell ⟨W.heap.size, 1, none⟩ (.string u) = w7 at *
    have e1 := S7.out.box.c1
    have ef := S7.out.box.fr
    have P8 := Lib.hid (S7.out.put U7.out (p + 0) (p : Int) (by omega) (by omega))
    have O8 := Lib.hid (O7.out.other (a := ⟨cb, 1, none⟩) (by simp; omega) (.int .i64 (p : Int)))
    go_upto_region 16 with fail
    clear e1 ef
    generalize w7.setCell ⟨cb, 1, none⟩ (.int .i64 (p : Int)) = w8 at *
    have O8' : Hid (Owns w8 W.heap.size [.int .u8 ((4 : Nat) : Int), .string u, .slice none 0 0, .int .i64 (p : Nat), .int .i64 0, .int .i64 0] 38) := O8.out
    have d0 := O8'.out.cell_at (i := 0) rfl
    have d1 := O8'.out.cell_at (i := 1) rfl
    have d2 := O8'.out.cell_at (i := 2) rfl
    have d3 := O8'.out.cell_at (i := 3) rfl
    have d4 := O8'.out.cell_at (i := 4) rfl
    have d5 := O8'.out.cell_at (i := 5) rfl
    have df := O8'.out.free
    have O9 := Lib.hid (row_six O8'.out)
    have hb9 := below_six (Below.refl W.heap.size w8) (Nat.le_refl W.heap.size) (.int .u8 ((4 : Nat) : Int)) (.string u) (.slice none 0 0) (.int .i64 (p : Nat)) (.int .i64 0) (.int .i64 0)
    have S9 := Lib.hid (P8.out.2.below hb9 hcb)
    have U9 := Lib.hid (P8.out.1.more hb9 (Nat.le_refl _))
    clear hb9
    go_wp2_with fail
    refine bodyPost_ret (results_cell_row (d := Tryz.prog.underlying 38 |>.getD default) rfl _ _ W.heap.size 38 _ (0, 0) rfl O9.out rfl rfl rfl) rfl ?_
    have ho : ((⟨4, List.take 0 (c0 :: tl), [], p⟩, p + 0, 4) : Wd × Nat × Nat) = o := HO2.out
    subst ho
    exact ⟨u, .slice none 0 0, HU.out, fun _ => ⟨rfl, .inl ⟨rfl, rfl⟩⟩, ⟨_, _, _, rfl⟩, rfl, U9.out, S9.out⟩
  · have hue1 : u.toList.isEmpty = false := by
      rw [hue]
      apply decide_eq_false
      intro e
      rw [Lib.size_eq, e] at hus
      simp at hus
      omega
    have hn1 : 1 ≤ n := by omega
    have HN0 := Lib.hid hn0
    clear hu hue hn0
    have O6 := (O2.out.keep G5.out).keep (Grew.refl _)
    have d0 := O6.cell_at (i := 0) rfl
    have d1 := O6.cell_at (i := 1) rfl
    have df := O6.free
    have O7 := Lib.hid ((O6.set 0 (.int .u8 ((4 : Nat) : Int))).set 1 (.string u))
    have hb7 := ((Below.refl W.heap.size w5).setCell (p := ⟨W.heap.size, 0, none⟩) (Nat.le_refl _) (.int .u8 ((4 : Nat) : Int))).setCell (p := ⟨W.heap.size, 1, none⟩) (Nat.le_refl _) (.string u)
    have S7 := Lib.hid (S5.out.below hb7 hcb)
    have U7 := Lib.hid (U5.out.more hb7 (Nat.le_refl _))
    clear hb7 O6
    go_upto_region 7 with fail
    clear d0 d1 df
    generalize (w5.setCell ⟨W.heap.size, 0, none⟩ (.int .u8 ((4 : Nat) : Int))).setCell ⟨W.heap.size, 1, none⟩ (.string u) = w7 at *
    have e1 := S7.out.box.c1
    have ef := S7.out.box.fr
    have P8 := Lib.hid (S7.out.put U7.out (p + n) ((p : Int) + n) (by omega) (by omega))
    have O8 := Lib.hid (O7.out.other (a := ⟨cb, 1, none⟩) (by simp; omega) (.int .i64 ((p : Int) + n)))
    go_upto_region 16 with fail
    clear e1 ef
    generalize w7.setCell ⟨cb, 1, none⟩ (.int .i64 ((p : Int) + n)) = w8 at *
    have O8' : Hid (Owns w8 W.heap.size [.int .u8 ((4 : Nat) : Int), .string u, .slice none 0 0, .int .i64 (p : Nat), .int .i64 0, .int .i64 0] 38) := O8.out
    have d0 := O8'.out.cell_at (i := 0) rfl
    have d1 := O8'.out.cell_at (i := 1) rfl
    have d2 := O8'.out.cell_at (i := 2) rfl
    have d3 := O8'.out.cell_at (i := 3) rfl
    have d4 := O8'.out.cell_at (i := 4) rfl
    have d5 := O8'.out.cell_at (i := 5) rfl
    have df := O8'.out.free
    have O9 := Lib.hid (row_six O8'.out)
    have hb9 := below_six (Below.refl W.heap.size w8) (Nat.le_refl W.heap.size) (.int .u8 ((4 : Nat) : Int)) (.string u) (.slice none 0 0) (.int .i64 (p : Nat)) (.int .i64 0) (.int .i64 0)
    have S9 := Lib.hid (P8.out.2.below hb9 hcb)
    have U9 := Lib.hid (P8.out.1.more hb9 (Nat.le_refl _))
    clear hb9
    go_wp2_with fail
    refine bodyPost_ret (results_cell_row (d := Tryz.prog.underlying 38 |>.getD default) rfl _ _ W.heap.size 38 _ (0, 0) rfl O9.out rfl rfl rfl) rfl ?_
    have ho := HO2.out
    rw [if_neg HN0.out] at ho
    subst ho
    exact ⟨u, .slice none 0 0, HU.out, fun _ => ⟨rfl, .inl ⟨rfl, rfl⟩⟩, ⟨_, _, _, rfl⟩, rfl, U9.out, S9.out⟩
end Go.Proofs.YtdgkpmpakkfgbaaGreatDoor
