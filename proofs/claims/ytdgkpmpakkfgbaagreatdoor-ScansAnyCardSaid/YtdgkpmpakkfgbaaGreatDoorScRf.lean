/- The document's decoding, places and escapes are the scan's: plain laws. -/
import Derived.Test.YtdgkpmpakkfgbaaGreatDoorScLaw2
import Derived.Test.YtdgkpmpakkfgbaaGreatDoorRuHex
namespace Go.Proofs.YtdgkpmpakkfgbaaGreatDoor
open Go.Lib

/-- the number that the first i bytes of k give -/
def partN (k : Nat) (l : List UInt8) : Nat → Nat
  | 0 => 0
  | 1 => if 1 < k then (l.getD 0 0).toNat % 2 ^ (7 - k) else (l.getD 0 0).toNat
  | i + 2 => 64 * partN k l (i + 1) + (l.getD (i + 1) 0).toNat % 64
def numN (k : Nat) (l : List UInt8) : Nat := partN k l k

theorem ref_hit (l : List UInt8) (k n : Nat) (hk : 1 ≤ k) (hl : k ≤ l.length) (h : bytesOf (n : Int) = l.take k) : ¬ badAt l ∧ decodeL l = (n, k) := by
  have hlt : (l.take k).length = k := by rw [List.length_take]; omega
  have hv : Lib.validRune (n : Int) = true := by
    cases hx : Lib.validRune (n : Int)
    · rw [badOf_none _ hx] at h
      rw [← h] at hlt
      simp at hlt
      omega
    · rfl
  have e : l = bytesOf (n : Int) ++ l.drop k := by rw [h, List.take_append_drop]
  have hd := (decode_bytes (n : Int) hv (l.drop k)).1
  have hb := bytes_good (n : Int) hv (l.drop k)
  rw [← e] at hd hb
  refine ⟨hb, ?_⟩
  rw [hd, h, hlt]
  simp

theorem u8_eq (n : Nat) (b : UInt8) (h : n = b.toNat) : UInt8.ofNat n = b := by
  subst h
  exact UInt8.ofNat_toNat
theorem ref_good (l : List UInt8) (hne : l ≠ []) (hb : ¬ badAt l) : ∃ k, 1 ≤ k ∧ k ≤ 4 ∧ k ≤ l.length ∧ bytesOf ((numN k l : Nat) : Int) = l.take k := by
  have hl := List.length_pos_iff.2 hne
  unfold badAt at hb
  rw [decodeL_N] at hb
  have t0 := (l.getD 0 0).toNat_lt
  have t1 := (l.getD 1 0).toNat_lt
  have t2 := (l.getD 2 0).toNat_lt
  have t3 := (l.getD 3 0).toNat_lt
  rcases decodeN_shape l.length (l.getD 0 0).toNat (l.getD 1 0).toNat (l.getD 2 0).toNat (l.getD 3 0).toNat with ⟨c, e⟩ | ⟨c1, c2, c3, cv, e⟩ | ⟨c1, c2, c3, c4, cv, cs, e⟩ | ⟨c1, c2, c3, c4, c5, cv, cw, e⟩ | e
  · refine ⟨1, by omega, by omega, hl, ?_⟩
    have hn : numN 1 l = (l.getD 0 0).toNat := rfl
    rw [hn, takeA l hl]
    rcases bytesOf_shape (((l.getD 0 0).toNat : Nat) : Int) (decide_eq_true (.inl (by omega))) with ⟨_, e⟩ | ⟨_, _, e⟩ | ⟨_, _, e⟩ | ⟨_, e⟩
    · rw [e, Int.toNat_natCast, u8_eq _ _ rfl]
    · omega
    · omega
    · omega
  · refine ⟨2, by omega, by omega, c2, ?_⟩
    have hn : numN 2 l = 64 * ((l.getD 0 0).toNat % 32) + (l.getD 1 0).toNat % 64 := rfl
    rw [hn, takeB l c2]
    generalize l.getD 0 0 = u at *
    generalize l.getD 1 0 = v at *
    rcases bytesOf_shape ((64 * (u.toNat % 32) + v.toNat % 64 : Nat) : Int) (decide_eq_true (by omega)) with ⟨x, _⟩ | ⟨_, _, e⟩ | ⟨x, _, _⟩ | ⟨x, _⟩
    · omega
    · rw [e, Int.toNat_natCast, u8_eq _ u (by omega), u8_eq _ v (by omega)]
    · omega
    · omega
  · refine ⟨3, by omega, by omega, c2, ?_⟩
    have hn : numN 3 l = 64 * (64 * ((l.getD 0 0).toNat % 16) + (l.getD 1 0).toNat % 64) + (l.getD 2 0).toNat % 64 := rfl
    rw [hn, takeC l c2]
    generalize l.getD 0 0 = u at *
    generalize l.getD 1 0 = v at *
    generalize l.getD 2 0 = w at *
    rcases bytesOf_shape ((64 * (64 * (u.toNat % 16) + v.toNat % 64) + w.toNat % 64 : Nat) : Int) (decide_eq_true (by omega)) with ⟨x, _⟩ | ⟨_, x, _⟩ | ⟨_, _, e⟩ | ⟨x, _⟩
    · omega
    · omega
    · rw [e, Int.toNat_natCast, u8_eq _ u (by omega), u8_eq _ v (by omega), u8_eq _ w (by omega)]
    · omega
  · refine ⟨4, by omega, by omega, c2, ?_⟩
    have hn : numN 4 l = 64 * (64 * (64 * ((l.getD 0 0).toNat % 8) + (l.getD 1 0).toNat % 64) + (l.getD 2 0).toNat % 64) + (l.getD 3 0).toNat % 64 := rfl
    rw [hn, takeD l c2]
    generalize l.getD 0 0 = u at *
    generalize l.getD 1 0 = v at *
    generalize l.getD 2 0 = w at *
    generalize l.getD 3 0 = z at *
    rcases bytesOf_shape ((64 * (64 * (64 * (u.toNat % 8) + v.toNat % 64) + w.toNat % 64) + z.toNat % 64 : Nat) : Int) (decide_eq_true (by omega)) with ⟨x, _⟩ | ⟨_, x, _⟩ | ⟨_, x, _⟩ | ⟨_, e⟩
    · omega
    · omega
    · omega
    · rw [e, Int.toNat_natCast, u8_eq _ u (by omega), u8_eq _ v (by omega), u8_eq _ w (by omega), u8_eq _ z (by omega)]
  · rw [e] at hb
    exact absurd ⟨rfl, rfl⟩ hb
end Go.Proofs.YtdgkpmpakkfgbaaGreatDoor
