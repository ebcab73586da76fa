/- Where a word stands: places one behind the other. -/
import Derived.Test.YtdgkpmpakkfgbaaGreatDoorRu2
import Derived.Test.YtdgkpmpakkfgbaaGreatDoorScLaw2
namespace Go.Proofs.YtdgkpmpakkfgbaaGreatDoor
open Go.RowKit

theorem placeFrom_L (t : ByteArray) : ∀ (f pos l c : Nat), placeFrom t f pos l c = placeL f (t.data.toList.drop pos) l c
  | 0, _, _, _ => rfl
  | f + 1, pos, l, c => by
    rw [placeFrom, placeL]
    by_cases h : pos < t.size
    · have hne : t.data.toList.drop pos ≠ [] := by
        intro h0
        have := congrArg List.length h0
        rw [List.length_drop, ← Lib.size_eq] at this
        simp at this
        omega
      rw [if_pos h, if_neg hne, Lib.decodeL_drop, List.drop_drop, placeFrom_L t f, placeFrom_L t f]
    · rw [if_neg h, if_pos (List.drop_eq_nil_of_le (by rw [← Lib.size_eq]; omega))]
/-- a place, by the text's bytes -/
theorem place_L (s : ByteArray) (at_ : Int) : place s at_ = placeOf (s.data.toList.take (within s at_)) 1 1 := by
  have hk : within s at_ ≤ s.size := by
    unfold within
    omega
  unfold place placeOf
  rw [placeFrom_L, List.drop_zero, Lib.extract_data, List.drop_zero, Nat.sub_zero, List.length_take, ← Lib.size_eq, Nat.min_eq_left hk]
theorem within_nat (s : ByteArray) (k : Nat) (h : k ≤ s.size) : within s (k : Int) = k := by
  unfold within
  omega
theorem placeL_pos : ∀ (f : Nat) (x : List UInt8) (l c : Nat), 1 ≤ l → 1 ≤ c → 1 ≤ (placeL f x l c).1 ∧ 1 ≤ (placeL f x l c).2
  | 0, _, _, _, h1, h2 => ⟨h1, h2⟩
  | f + 1, x, l, c, h1, h2 => by
    rw [placeL]
    split
    · exact ⟨h1, h2⟩
    · split
      · exact placeL_pos f _ _ _ (by omega) (Nat.le_refl _)
      · exact placeL_pos f _ _ _ h1 (by omega)
theorem placeL_le : ∀ (f : Nat) (x : List UInt8) (l c : Nat), (placeL f x l c).1 ≤ l + x.length ∧ (placeL f x l c).2 ≤ c + x.length + 1
  | 0, x, l, c => ⟨by simp [placeL], by simp [placeL]; omega⟩
  | f + 1, x, l, c => by
    rw [placeL]
    by_cases h : x = []
    · rw [if_pos h]
      exact ⟨by simp, by simp; omega⟩
    · rw [if_neg h]
      have := drop_lt x h
      split
      · have := placeL_le f (x.drop (Lib.decodeL x).2) (l + 1) 1
        omega
      · have := placeL_le f (x.drop (Lib.decodeL x).2) l (c + 1)
        omega
/-- a place, by one ahead of it -/
theorem place_go (l : List UInt8) (p q : Nat) (hp : p ≤ q) (hb : badOf (l.take p) 0 = -1) :
    placeOf (l.take q) 1 1 = (if 1 < (placeOf ((l.drop p).take (q - p)) 1 1).1 then ((placeOf (l.take p) 1 1).1 + (placeOf ((l.drop p).take (q - p)) 1 1).1 - 1, (placeOf ((l.drop p).take (q - p)) 1 1).2)
      else ((placeOf (l.take p) 1 1).1, (placeOf (l.take p) 1 1).2 + (placeOf ((l.drop p).take (q - p)) 1 1).2 - 1)) := by
  have e : l.take q = l.take p ++ (l.drop p).take (q - p) := by
    rw [← List.take_add, Nat.add_sub_cancel' hp]
  rw [e, placeOf_app _ _ _ 1 1 0 (Nat.le_refl _) hb]
  obtain ⟨k, m, d, hs⟩ := placeOf_shift _ ((l.drop p).take (q - p)) (Nat.le_refl _)
  rw [hs, hs]
  by_cases hk : k = 0
  · rw [if_pos hk, if_pos hk, if_neg (by simp)]
    ext <;> simp <;> omega
  · rw [if_neg hk, if_neg hk, if_pos (by simp only; omega)]
    ext <;> simp <;> omega
/-- the place of a text, as the words tell it -/
def posV (l : List UInt8) (q : Nat) : Value := .agg #[.int .i64 (q : Nat), .int .i64 ((placeOf (l.take q) 1 1).1 : Nat), .int .i64 ((placeOf (l.take q) 1 1).2 : Nat)]
end Go.Proofs.YtdgkpmpakkfgbaaGreatDoor
