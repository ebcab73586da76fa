/- Plain laws of runes' bytes, as lists: what stands behind a rune makes no difference to it; a rune's bytes are it. -/
import Derived.Lib.MapLaws
import Derived.Lib.Hide
namespace Go.Proofs.YtdgkpmpakkfgbaaGreatDoor
open Go.Lib

/-- whether no rune begins there -/
def badAt (l : List UInt8) : Prop := (decodeL l).1 = 65533 ∧ (decodeL l).2 = 1
instance (l : List UInt8) : Decidable (badAt l) := by unfold badAt; exact inferInstance

theorem decodeL_ext (l m : List UInt8) (h : ¬ badAt l) (hne : l ≠ []) : decodeL (l ++ m) = decodeL l ∧ 1 ≤ (decodeL l).2 ∧ (decodeL l).2 ≤ l.length := by
  unfold badAt at h
  rw [decodeL_N] at h ⊢
  rw [decodeL_N]
  have hl : 0 < l.length := List.length_pos_iff.2 hne
  have g : ∀ i, i < l.length → (l ++ m).getD i 0 = l.getD i 0 := fun i hi => by
    rw [List.getD_eq_getElem?_getD, List.getD_eq_getElem?_getD, List.getElem?_append_left hi]
  have g0 := g 0 hl
  rw [g0]
  have hL : l.length ≤ (l ++ m).length := by simp
  generalize (l ++ m).length = n at *
  rcases decodeN_shape l.length (l.getD 0 0).toNat (l.getD 1 0).toNat (l.getD 2 0).toNat (l.getD 3 0).toNat with ⟨c, e⟩ | ⟨c1, c2, c3, cv, e⟩ | ⟨c1, c2, c3, c4, cv, cs, e⟩ | ⟨c1, c2, c3, c4, c5, cv, cw, e⟩ | e
  · rw [e]
    refine ⟨?_, Nat.le_refl 1, hl⟩
    unfold decodeN
    rw [if_pos c]
  · rw [e, g 1 c2]
    refine ⟨?_, by simp, by simp only; omega⟩
    rw [← e]
    unfold decodeN
    have a1 : 1 < n := by omega
    simp only [c1, c2, c3, a1, true_and, if_true]
  · rw [e, g 1 (by omega), g 2 c2]
    refine ⟨?_, by simp, by simp only; omega⟩
    rw [← e]
    have a1 : 1 < n := by omega
    have a2 : 2 < n := by omega
    have b1 : 1 < l.length := by omega
    unfold decodeN
    simp only [c1, c2, c3, c4, a1, a2, b1, true_and, and_self, if_true]
  · rw [e, g 1 (by omega), g 2 (by omega), g 3 c2]
    refine ⟨?_, by simp, by simp only; omega⟩
    rw [← e]
    have a1 : 1 < n := by omega
    have a2 : 2 < n := by omega
    have a3 : 3 < n := by omega
    have b1 : 1 < l.length := by omega
    have b2 : 2 < l.length := by omega
    unfold decodeN
    simp only [c1, c2, c3, c4, c5, a1, a2, a3, b1, b2, and_self, if_true]
  · rw [e] at h
    exact absurd ⟨rfl, rfl⟩ h

/-- a line's end is one byte; no other rune has it among its bytes -/
theorem decodeL_ten (l : List UInt8) (hne : l ≠ []) : ((decodeL l).1 = 10 → (decodeL l).2 = 1 ∧ l.getD 0 0 = 10) ∧ ((decodeL l).1 ≠ 10 → ∀ b ∈ l.take (decodeL l).2, b ≠ 10) := by
  rw [decodeL_N]
  have hl : 0 < l.length := List.length_pos_iff.2 hne
  have tn : ∀ b : UInt8, b.toNat = 10 → b = 10 := fun b h => by
    apply UInt8.toNat_inj.1
    exact h
  have nt : ∀ b : UInt8, b = 10 → b.toNat = 10 := fun b h => by
    subst h
    rfl
  rcases decodeN_shape l.length (l.getD 0 0).toNat (l.getD 1 0).toNat (l.getD 2 0).toNat (l.getD 3 0).toNat with ⟨c, e⟩ | ⟨c1, c2, c3, cv, e⟩ | ⟨c1, c2, c3, c4, cv, cs, e⟩ | ⟨c1, c2, c3, c4, c5, cv, cw, e⟩ | e
  · rw [e]
    refine ⟨fun h => ⟨rfl, tn _ h⟩, fun h b hb he => ?_⟩
    simp only [takeA l hl, List.mem_singleton] at hb
    subst hb
    exact h (nt _ he)
  · rw [e]
    refine ⟨fun h => absurd h (by simp only; omega), fun h b hb he => ?_⟩
    simp only [takeB l c2, List.mem_cons, List.not_mem_nil, or_false] at hb
    have := nt _ he
    rcases hb with rfl | rfl <;> omega
  · rw [e]
    refine ⟨fun h => absurd h (by simp only; omega), fun h b hb he => ?_⟩
    simp only [takeC l c2, List.mem_cons, List.not_mem_nil, or_false] at hb
    have := nt _ he
    rcases hb with rfl | rfl | rfl <;> omega
  · rw [e]
    refine ⟨fun h => absurd h (by simp only; omega), fun h b hb he => ?_⟩
    simp only [takeD l c2, List.mem_cons, List.not_mem_nil, or_false] at hb
    have := nt _ he
    rcases hb with rfl | rfl | rfl | rfl <;> omega
  · rw [e]
    refine ⟨fun h => absurd h (by simp), fun h b hb he => ?_⟩
    simp only [takeA l hl, List.mem_singleton] at hb
    subst hb
    have h10 := nt _ he
    unfold decodeN at e
    rw [h10] at e
    simp at e

theorem decodeL_pos (l : List UInt8) : 1 ≤ (decodeL l).2 := by
  rw [decodeL_N]
  unfold decodeN
  repeat' split
  all_goals simp

/-- a rune's bytes -/
def bytesOf (r : Int) : List UInt8 := if Lib.validRune r then (Utf8.encode r).data.toList else []

theorem bytesOf_shape (r : Int) (h : Lib.validRune r = true) :
    (r < 128 ∧ bytesOf r = [UInt8.ofNat r.toNat]) ∨
    (128 ≤ r ∧ r < 2048 ∧ bytesOf r = [UInt8.ofNat (192 + r.toNat / 64), UInt8.ofNat (128 + r.toNat % 64)]) ∨
    (2048 ≤ r ∧ r < 65536 ∧ bytesOf r = [UInt8.ofNat (224 + r.toNat / 4096), UInt8.ofNat (128 + r.toNat / 64 % 64), UInt8.ofNat (128 + r.toNat % 64)]) ∨
    (65536 ≤ r ∧ bytesOf r = [UInt8.ofNat (240 + r.toNat / 262144), UInt8.ofNat (128 + r.toNat / 4096 % 64), UInt8.ofNat (128 + r.toNat / 64 % 64), UInt8.ofNat (128 + r.toNat % 64)]) := by
  have hv : (0 ≤ r ∧ r < 0xD800) ∨ (0xDFFF < r ∧ r ≤ 0x10FFFF) := of_decide_eq_true h
  have hu : Utf8.valid r = true := by
    unfold Utf8.valid
    simp only [Bool.or_eq_true, Bool.and_eq_true, decide_eq_true_eq]
    omega
  unfold bytesOf
  rw [if_pos h]
  unfold Utf8.encode
  simp only [hu, if_true]
  by_cases h1 : r < 128
  · left
    rw [if_pos (by omega)]
    exact ⟨h1, rfl⟩
  · by_cases h2 : r < 2048
    · right; left
      rw [if_neg (by omega), if_pos (by omega)]
      exact ⟨by omega, h2, rfl⟩
    · by_cases h3 : r < 65536
      · right; right; left
        rw [if_neg (by omega), if_neg (by omega), if_pos (by omega)]
        exact ⟨by omega, h3, rfl⟩
      · right; right; right
        rw [if_neg (by omega), if_neg (by omega), if_neg (by omega)]
        exact ⟨by omega, rfl⟩

theorem ofNat_n (n : Nat) (h : n < 256) : (UInt8.ofNat n).toNat = n := by simp; omega

/-- a rune's bytes are it, whatever stands behind -/
theorem decode_bytes (r : Int) (h : Lib.validRune r = true) (m : List UInt8) : decodeL (bytesOf r ++ m) = (r.toNat, (bytesOf r).length) ∧ 1 ≤ (bytesOf r).length := by
  have hv : (0 ≤ r ∧ r < 0xD800) ∨ (0xDFFF < r ∧ r ≤ 0x10FFFF) := of_decide_eq_true h
  rw [decodeL_N]
  rcases bytesOf_shape r h with ⟨c, e⟩ | ⟨c1, c2, e⟩ | ⟨c1, c2, e⟩ | ⟨c1, e⟩
  · rw [e]
    refine ⟨?_, by simp⟩
    simp only [List.cons_append, List.nil_append, List.getD_cons_zero, List.getD_cons_succ, List.length_cons, List.length_nil]
    rw [ofNat_n _ (by omega)]
    unfold decodeN
    rw [if_pos (by omega)]
  · rw [e]
    refine ⟨?_, by simp⟩
    simp only [List.cons_append, List.nil_append, List.getD_cons_zero, List.getD_cons_succ, List.length_cons, List.length_nil]
    rw [ofNat_n _ (by omega), ofNat_n _ (by omega)]
    unfold decodeN
    rw [if_neg (by omega), if_pos ⟨by omega, by omega, by omega⟩, if_pos (by omega)]
    congr 1
    omega
  · rw [e]
    refine ⟨?_, by simp⟩
    simp only [List.cons_append, List.nil_append, List.getD_cons_zero, List.getD_cons_succ, List.length_cons, List.length_nil]
    rw [ofNat_n _ (by omega), ofNat_n _ (by omega), ofNat_n _ (by omega)]
    unfold decodeN
    rw [if_neg (by omega), if_neg (by omega), if_pos ⟨by omega, ⟨by omega, by omega⟩, by omega, by omega⟩, if_pos (by omega)]
    congr 1
    omega
  · rw [e]
    refine ⟨?_, by simp⟩
    simp only [List.cons_append, List.nil_append, List.getD_cons_zero, List.getD_cons_succ, List.length_cons, List.length_nil]
    rw [ofNat_n _ (by omega), ofNat_n _ (by omega), ofNat_n _ (by omega), ofNat_n _ (by omega)]
    unfold decodeN
    rw [if_neg (by omega), if_neg (by omega), if_neg (by omega), if_pos ⟨by omega, ⟨by omega, by omega⟩, ⟨by omega, by omega⟩, by omega, by omega⟩, if_pos (by omega)]
    congr 1
    omega

theorem bytes_good (r : Int) (h : Lib.validRune r = true) (m : List UInt8) : ¬ badAt (bytesOf r ++ m) := by
  have hd := (decode_bytes r h m).1
  have hv : (0 ≤ r ∧ r < 0xD800) ∨ (0xDFFF < r ∧ r ≤ 0x10FFFF) := of_decide_eq_true h
  intro hb
  unfold badAt at hb
  rw [hd] at hb
  simp only at hb
  rcases bytesOf_shape r h with ⟨c, e⟩ | ⟨c1, c2, e⟩ | ⟨c1, c2, e⟩ | ⟨c1, e⟩
  all_goals rw [e] at hb
  all_goals simp at hb
  omega

/-! ### where the first rune is that is none -/
def badL : Nat → List UInt8 → Nat → Int
  | 0, _, _ => -1
  | f + 1, l, p => if l = [] then -1 else if badAt l then p else badL f (l.drop (decodeL l).2) (p + (decodeL l).2)
theorem badL_fuel : ∀ (f g : Nat) (l : List UInt8) (p : Nat), l.length ≤ f → l.length ≤ g → badL f l p = badL g l p
  | 0, 0, _, _, _, _ => rfl
  | 0, g + 1, l, p, h, _ => by
    have : l = [] := List.length_eq_zero_iff.1 (by omega)
    subst this
    rfl
  | f + 1, 0, l, p, _, h => by
    have : l = [] := List.length_eq_zero_iff.1 (by omega)
    subst this
    rfl
  | f + 1, g + 1, l, p, h1, h2 => by
    rw [badL, badL]
    split
    · rfl
    · split
      · rfl
      · next hne _ =>
        have := decodeL_pos l
        exact badL_fuel f g _ _ (by rw [List.length_drop]; omega) (by rw [List.length_drop]; omega)
def badOf (l : List UInt8) (p : Nat) : Int := badL l.length l p
theorem badOf_nil (p : Nat) : badOf [] p = -1 := rfl
theorem badOf_cons (l : List UInt8) (p : Nat) (hne : l ≠ []) : badOf l p = if badAt l then (p : Int) else badOf (l.drop (decodeL l).2) (p + (decodeL l).2) := by
  unfold badOf
  obtain ⟨n, hn⟩ : ∃ n, l.length = n + 1 := ⟨l.length - 1, by have := List.length_pos_iff.2 hne; omega⟩
  have hp := decodeL_pos l
  rw [hn, badL, if_neg hne]
  split
  · rfl
  · exact badL_fuel _ _ _ _ (by rw [List.length_drop]; omega) (Nat.le_refl _)
theorem badOf_bytes (r : Int) (h : Lib.validRune r = true) (m : List UInt8) (p : Nat) : badOf (bytesOf r ++ m) p = badOf m (p + (bytesOf r).length) := by
  have hd := decode_bytes r h m
  rw [badOf_cons _ _ (by intro h0; have := congrArg List.length h0; simp at this; rw [this.1] at hd; simp at hd), if_neg (bytes_good r h m), hd.1]
  simp only [List.drop_left]
theorem badOf_none (r : Int) (h : Lib.validRune r = false) : bytesOf r = [] := by
  unfold bytesOf
  rw [h]
  rfl
theorem badOf_ff (m : List UInt8) (p : Nat) : badOf ((255 : UInt8) :: m) p = p := by
  rw [badOf_cons _ _ (by simp), if_pos]
  unfold badAt
  rw [decodeL_N]
  unfold decodeN
  simp
/-- all the numbers' bytes -/
def allBytes : List Int → List UInt8
  | [] => []
  | r :: t => bytesOf r ++ allBytes t
theorem allBytes_append : ∀ a b, allBytes (a ++ b) = allBytes a ++ allBytes b
  | [], b => rfl
  | r :: t, b => by rw [List.cons_append, allBytes, allBytes, allBytes_append t b, List.append_assoc]
theorem badOf_all : ∀ (l : List Int) (m : List UInt8) (p : Nat), badOf (allBytes l ++ m) p = badOf m (p + (allBytes l).length)
  | [], m, p => rfl
  | r :: t, m, p => by
    rw [allBytes, List.append_assoc]
    cases h : Lib.validRune r
    · rw [badOf_none r h, List.nil_append, List.nil_append]
      exact badOf_all t m p
    · rw [badOf_bytes r h, badOf_all t m, List.length_append]
      congr 1
      omega

/-! ### places -/
def placeL : Nat → List UInt8 → Nat → Nat → Nat × Nat
  | 0, _, l, c => (l, c)
  | f + 1, x, l, c => if x = [] then (l, c) else if (decodeL x).1 = 10 then placeL f (x.drop (decodeL x).2) (l + 1) 1 else placeL f (x.drop (decodeL x).2) l (c + 1)
theorem placeL_fuel : ∀ (f g : Nat) (x : List UInt8) (l c : Nat), x.length ≤ f → x.length ≤ g → placeL f x l c = placeL g x l c
  | 0, 0, _, _, _, _, _ => rfl
  | 0, g + 1, x, l, c, h, _ => by
    have : x = [] := List.length_eq_zero_iff.1 (by omega)
    subst this
    rfl
  | f + 1, 0, x, l, c, _, h => by
    have : x = [] := List.length_eq_zero_iff.1 (by omega)
    subst this
    rfl
  | f + 1, g + 1, x, l, c, h1, h2 => by
    rw [placeL, placeL]
    have hp := decodeL_pos x
    split
    · rfl
    · split
      · exact placeL_fuel f g _ _ _ (by rw [List.length_drop]; omega) (by rw [List.length_drop]; omega)
      · exact placeL_fuel f g _ _ _ (by rw [List.length_drop]; omega) (by rw [List.length_drop]; omega)
def placeOf (x : List UInt8) (l c : Nat) : Nat × Nat := placeL x.length x l c
theorem placeOf_nil (l c : Nat) : placeOf [] l c = (l, c) := rfl
theorem placeOf_cons (x : List UInt8) (l c : Nat) (hne : x ≠ []) : placeOf x l c = if (decodeL x).1 = 10 then placeOf (x.drop (decodeL x).2) (l + 1) 1 else placeOf (x.drop (decodeL x).2) l (c + 1) := by
  unfold placeOf
  obtain ⟨n, hn⟩ : ∃ n, x.length = n + 1 := ⟨x.length - 1, by have := List.length_pos_iff.2 hne; omega⟩
  have hp := decodeL_pos x
  rw [hn, placeL, if_neg hne]
  split
  · exact placeL_fuel _ _ _ _ _ (by rw [List.length_drop]; omega) (Nat.le_refl _)
  · exact placeL_fuel _ _ _ _ _ (by rw [List.length_drop]; omega) (Nat.le_refl _)

theorem drop_lt (x : List UInt8) (hne : x ≠ []) : (x.drop (decodeL x).2).length < x.length := by
  have := decodeL_pos x
  have := List.length_pos_iff.2 hne
  rw [List.length_drop]
  omega

/-- a place's line is one more than the bytes 10 ahead of it -/
theorem placeOf_line : ∀ (n : Nat) (x : List UInt8) (l c : Nat), x.length ≤ n → (placeOf x l c).1 = l + x.count 10
  | 0, x, l, c, h => by
    have : x = [] := List.length_eq_zero_iff.1 (by omega)
    subst this
    rfl
  | n + 1, x, l, c, h => by
    by_cases hne : x = []
    · subst hne; rfl
    · have hd := drop_lt x hne
      have ht := decodeL_ten x hne
      rw [placeOf_cons x l c hne]
      have hc : x.count 10 = (x.take (decodeL x).2).count 10 + (x.drop (decodeL x).2).count 10 := by rw [← List.count_append, List.take_append_drop]
      split
      · next h10 =>
        rw [placeOf_line n _ _ _ (by omega), hc]
        obtain ⟨h1, h2⟩ := ht.1 h10
        rw [h1, takeA x (List.length_pos_iff.2 hne), h2]
        simp
        omega
      · next h10 =>
        rw [placeOf_line n _ _ _ (by omega), hc]
        have : (x.take (decodeL x).2).count 10 = 0 := List.count_eq_zero.2 fun hm => ht.2 h10 _ hm rfl
        omega
/-- behind a byte 10 the column is 1 -/
theorem placeOf_one : ∀ (n : Nat) (x : List UInt8) (l c : Nat), x.length ≤ n → x.getLast? = some 10 → (placeOf x l c).2 = 1
  | 0, x, l, c, h, hg => by
    have : x = [] := List.length_eq_zero_iff.1 (by omega)
    subst this
    simp at hg
  | n + 1, x, l, c, h, hg => by
    have hne : x ≠ [] := by rintro rfl; simp at hg
    have hd := drop_lt x hne
    have ht := decodeL_ten x hne
    rw [placeOf_cons x l c hne]
    by_cases hr : x.drop (decodeL x).2 = []
    · have h10 : (decodeL x).1 = 10 := by
        apply Classical.byContradiction
        intro hno
        have hx : x.take (decodeL x).2 = x := by
          have := List.take_append_drop (decodeL x).2 x
          rw [hr, List.append_nil] at this
          exact this
        have := ht.2 hno
        rw [hx] at this
        exact this 10 (List.mem_of_getLast? hg) rfl
      rw [if_pos h10, hr, placeOf_nil]
    · have hg2 : (x.drop (decodeL x).2).getLast? = some 10 := by
        rw [← hg, List.getLast?_drop]
        rw [if_neg]
        intro hle
        exact hr (List.drop_eq_nil_of_le hle)
      split
      · exact placeOf_one n _ _ _ (by omega) hg2
      · exact placeOf_one n _ _ _ (by omega) hg2

/-- how a place moves on over a text, wherever it begins -/
theorem placeOf_shift : ∀ (n : Nat) (x : List UInt8), x.length ≤ n → ∃ k m d, ∀ l c, placeOf x l c = if k = 0 then (l, c + m) else (l + k, d)
  | 0, x, h => by
    have : x = [] := List.length_eq_zero_iff.1 (by omega)
    subst this
    exact ⟨0, 0, 0, fun l c => rfl⟩
  | n + 1, x, h => by
    by_cases hne : x = []
    · subst hne
      exact ⟨0, 0, 0, fun l c => rfl⟩
    · have hd := drop_lt x hne
      obtain ⟨k, m, d, hk⟩ := placeOf_shift n (x.drop (decodeL x).2) (by omega)
      by_cases h10 : (decodeL x).1 = 10
      · refine ⟨k + 1, 0, (if k = 0 then 1 + m else d), fun l c => ?_⟩
        rw [placeOf_cons x l c hne, if_pos h10, hk]
        rw [show (if k + 1 = 0 then (l, c + 0) else (l + (k + 1), if k = 0 then 1 + m else d)) = (l + (k + 1), if k = 0 then 1 + m else d) from if_neg (by omega)]
        by_cases h0 : k = 0
        · subst h0; rfl
        · rw [if_neg h0, if_neg h0]
          congr 1
          omega
      · refine ⟨k, m + 1, d, fun l c => ?_⟩
        rw [placeOf_cons x l c hne, if_neg h10, hk]
        by_cases h0 : k = 0
        · subst h0
          simp
          omega
        · rw [if_neg h0, if_neg h0]

/-- a text that is runes throughout, and one behind it -/
theorem placeOf_app : ∀ (n : Nat) (a t : List UInt8) (l c p : Nat), a.length ≤ n → badOf a p = -1 → placeOf (a ++ t) l c = placeOf t (placeOf a l c).1 (placeOf a l c).2
  | 0, a, t, l, c, p, h, _ => by
    have : a = [] := List.length_eq_zero_iff.1 (by omega)
    subst this
    rfl
  | n + 1, a, t, l, c, p, h, hb => by
    by_cases hne : a = []
    · subst hne
      rfl
    · rw [badOf_cons a p hne] at hb
      by_cases hbad : badAt a
      · rw [if_pos hbad] at hb
        omega
      · rw [if_neg hbad] at hb
        obtain ⟨he, h1, h2⟩ := decodeL_ext a t hbad hne
        have hd := drop_lt a hne
        rw [placeOf_cons (a ++ t) l c (by simp [hne]), placeOf_cons a l c hne, he, List.drop_append_of_le_length h2]
        split
        · exact placeOf_app n _ t _ _ _ (by omega) hb
        · exact placeOf_app n _ t _ _ _ (by omega) hb
end Go.Proofs.YtdgkpmpakkfgbaaGreatDoor
