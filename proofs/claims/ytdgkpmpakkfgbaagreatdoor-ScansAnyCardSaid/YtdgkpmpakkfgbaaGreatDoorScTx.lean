/- A rune's text, and that it is read as the rune. -/
import Derived.Test.YtdgkpmpakkfgbaaGreatDoorScLaw2
import Derived.Test.YtdgkpmpakkfgbaaGreatDoorRuHex
namespace Go.Proofs.YtdgkpmpakkfgbaaGreatDoor
open Go.Lib

/-- a rune's text -/
def textL (r : Int) : List UInt8 :=
  if Lib.validRune r = false then [] else if r = 10 then [92, 110] else if r = 13 then [92, 114] else if r = 9 then [92, 116]
  else if r = 92 ∨ r = 39 ∨ r = 93 ∨ r = 91 ∨ r = 45 then [92, UInt8.ofNat r.toNat] else if 32 ≤ r ∧ r ≤ 126 then [UInt8.ofNat r.toNat]
  else [92, 117, 123] ++ hexL r.toNat ++ [125]

theorem textL_ways (r : Int) (h : Lib.validRune r = true) :
    (∃ c : UInt8, textL r = [92, c] ∧ ((c = 110 ∧ r = 10) ∨ (c = 114 ∧ r = 13) ∨ (c = 116 ∧ r = 9) ∨ (c = 92 ∧ r = 92) ∨ (c = 39 ∧ r = 39) ∨ (c = 93 ∧ r = 93) ∨ (c = 91 ∧ r = 91) ∨ (c = 45 ∧ r = 45))) ∨
    (32 ≤ r ∧ r ≤ 126 ∧ ¬ (r = 92 ∨ r = 39 ∨ r = 93 ∨ r = 91 ∨ r = 45) ∧ textL r = [UInt8.ofNat r.toNat]) ∨ textL r = [92, 117, 123] ++ hexL r.toNat ++ [125] := by
  by_cases h10 : r = 10
  · subst h10
    exact .inl ⟨110, by decide +kernel, by simp⟩
  by_cases h13 : r = 13
  · subst h13
    exact .inl ⟨114, by decide +kernel, by simp⟩
  by_cases h9 : r = 9
  · subst h9
    exact .inl ⟨116, by decide +kernel, by simp⟩
  by_cases hp : r = 92 ∨ r = 39 ∨ r = 93 ∨ r = 91 ∨ r = 45
  · rcases hp with rfl | rfl | rfl | rfl | rfl
    · exact .inl ⟨92, by decide +kernel, by simp⟩
    · exact .inl ⟨39, by decide +kernel, by simp⟩
    · exact .inl ⟨93, by decide +kernel, by simp⟩
    · exact .inl ⟨91, by decide +kernel, by simp⟩
    · exact .inl ⟨45, by decide +kernel, by simp⟩
  have ht : textL r = if 32 ≤ r ∧ r ≤ 126 then [UInt8.ofNat r.toNat] else [92, 117, 123] ++ hexL r.toNat ++ [125] := by
    unfold textL
    rw [if_neg (by rw [h]; decide), if_neg h10, if_neg h13, if_neg h9, if_neg hp]
  by_cases hin : 32 ≤ r ∧ r ≤ 126
  · right; left
    rw [if_pos hin] at ht
    exact ⟨hin.1, hin.2, hp, ht⟩
  · right; right
    rw [if_neg hin] at ht
    exact ht

theorem valid_in (r : Int) (h : Lib.validRune r = true) : 0 ≤ r ∧ r ≤ 1114111 := by
  have hv : (0 ≤ r ∧ r < 0xD800) ∨ (0xDFFF < r ∧ r ≤ 0x10FFFF) := of_decide_eq_true h
  omega

theorem isHex_A (b : UInt8) (h : isHex b) : isHexA b = true ∧ undigA b = undig b ∧ b.toNat < 128 ∧ b ≠ 125 := by
  unfold isHex at h
  unfold isHexA undigA undig
  simp only [Bool.or_eq_true, Bool.and_eq_true, decide_eq_true_eq]
  refine ⟨by omega, ?_, by omega, fun e => by subst e; revert h; decide⟩
  split
  · rfl
  · rw [if_neg (by omega)]
theorem hexVA_hex : ∀ (l : List UInt8) (acc : Nat), (∀ b ∈ l, isHex b) → hexVA acc l = hexV acc l
  | [], _, _ => rfl
  | b :: l, acc, h => by
    rw [hexVA, hexV, (isHex_A b (h b (by simp))).2.1]
    exact hexVA_hex l _ fun x hx => h x (by simp [hx])

theorem cut_here : ∀ (a b : List UInt8) (c : UInt8), (∀ x ∈ a, x ≠ c) → cut (a ++ c :: b) [c] = (a, b, true) := by
  intro a b c h
  have hi : index (a ++ c :: b) [c] = a.length := by
    induction a with
    | nil => simp [index]
    | cons x a ih =>
      have hx : x ≠ c := h x (by simp)
      have := ih fun y hy => h y (by simp [hy])
      rw [List.cons_append, index]
      rw [this]
      simp [Ne.symm hx]
  unfold cut
  rw [hi, if_pos (by omega)]
  simp

theorem numF_text (r : Nat) (h : Lib.validRune (r : Int) = true) (m : List UInt8) : numF (hexL r ++ 125 :: m) = some (r, (hexL r).length + 1) := by
  have hv := valid_in r h
  have hl := hexL_len r
  have hx := hexL_hex r
  unfold numF
  rw [cut_here (hexL r) m 125 fun x hx2 => (isHex_A x (hx x hx2)).2.2.2]
  simp only
  rw [hexVA_hex _ _ hx, hexL_val r (by omega)]
  rw [if_pos]
  refine ⟨trivial, fun e => by rw [e] at hl; simp at hl, hl.2, ?_, h⟩
  rw [List.all_eq_true]
  exact fun x hx2 => (isHex_A x (hx x hx2)).1

/-- a rune's text is read as the rune, whatever stands behind -/
theorem runeF_text (but : List UInt8) (hb : ∀ c ∈ but, c = 39 ∨ c = 91 ∨ c = 93 ∨ c = 45) (r : Int) (h : Lib.validRune r = true) (m : List UInt8) : runeF but (textL r ++ m) = some (r.toNat, (textL r).length) := by
  have hv := valid_in r h
  unfold runeF
  rcases textL_ways r h with ⟨c, ht, hc⟩ | ⟨h1, h2, h3, ht⟩ | ht
  · have : escF (textL r ++ m) = some (r.toNat, 2) := by
      rw [ht]
      rcases hc with ⟨rfl, rfl⟩ | ⟨rfl, rfl⟩ | ⟨rfl, rfl⟩ | ⟨rfl, rfl⟩ | ⟨rfl, rfl⟩ | ⟨rfl, rfl⟩ | ⟨rfl, rfl⟩ | ⟨rfl, rfl⟩ <;> rfl
    rw [this, ht]
    rfl
  · obtain ⟨n, rfl⟩ := Int.eq_ofNat_of_zero_le hv.1
    rw [ht]
    have hn : (UInt8.ofNat n).toNat = n := ofNat_n n (by omega)
    simp only [Int.toNat_natCast, List.singleton_append] at *
    have h92 : UInt8.ofNat n ≠ 92 := fun e => by rw [e] at hn; simp at hn; omega
    have he : escF (UInt8.ofNat n :: m) = none := by
      unfold escF
      split
      · next e => exact absurd (List.cons.inj e).1 h92
      · rfl
    have hd : decodeL (UInt8.ofNat n :: m) = (n, 1) := by
      rw [decodeL_N]
      unfold decodeN
      simp only [List.getD_cons_zero]
      rw [hn, if_pos (by omega)]
    rw [he]
    simp only
    rw [hd]
    have hba : ¬ badAt (UInt8.ofNat n :: m) := by
      unfold badAt
      rw [hd]
      simp
      omega
    rw [if_neg]
    · simp
    · rintro (e | e | e | e | ⟨_, e⟩)
      · simp at e
      · exact hba e
      · simp only at e; omega
      · simp only at e; omega
      · have hm := among_mem _ _ e
        have := hb _ hm
        rcases this with e | e | e | e <;> (rw [e] at hn; simp at hn; omega)
  · obtain ⟨n, rfl⟩ := Int.eq_ofNat_of_zero_le hv.1
    rw [ht]
    simp only [Int.toNat_natCast] at *
    have he : escF ([92, 117, 123] ++ hexL n ++ [125] ++ m) = some (n, (hexL n).length + 1 + 3) := by
      rw [List.append_assoc, List.append_assoc]
      show (numF (hexL n ++ 125 :: m)).map (fun (r, n) => (r, n + 3)) = _
      rw [numF_text n h m]
      rfl
    rw [he]
    simp

theorem textL_head (r : Int) (h : Lib.validRune r = true) : ∃ c t, textL r = c :: t ∧ c ≠ 39 ∧ c ≠ 93 ∧ c ≠ 45 ∧ c ≠ 91 := by
  rcases textL_ways r h with ⟨c, ht, hc⟩ | ⟨h1, h2, h3, ht⟩ | ht
  · exact ⟨_, _, ht, by decide, by decide, by decide, by decide⟩
  · have hn : (UInt8.ofNat r.toNat).toNat = r.toNat := ofNat_n _ (by omega)
    refine ⟨_, _, ht, ?_, ?_, ?_, ?_⟩ <;> (intro e; rw [e] at hn; simp at hn; omega)
  · exact ⟨_, _, ht, by decide, by decide, by decide, by decide⟩
theorem textL_len (r : Int) (h : Lib.validRune r = true) : 1 ≤ (textL r).length ∧ (textL r).length ≤ 10 := by
  rcases textL_ways r h with ⟨c, ht, hc⟩ | ⟨h1, h2, h3, ht⟩ | ht
  · rw [ht]; simp
  · rw [ht]; simp
  · have := hexL_len r.toNat
    rw [ht]; simp; omega
theorem textL_asc (r : Int) (h : Lib.validRune r = true) : ∀ b ∈ textL r, b.toNat < 128 := by
  intro b hb
  rcases textL_ways r h with ⟨c, ht, hc⟩ | ⟨h1, h2, h3, ht⟩ | ht
  · rw [ht] at hb
    simp only [List.mem_cons, List.not_mem_nil, or_false] at hb
    rcases hb with rfl | rfl
    · decide
    · rcases hc with ⟨rfl, _⟩ | ⟨rfl, _⟩ | ⟨rfl, _⟩ | ⟨rfl, _⟩ | ⟨rfl, _⟩ | ⟨rfl, _⟩ | ⟨rfl, _⟩ | ⟨rfl, _⟩ <;> decide
  · rw [ht, List.mem_singleton] at hb
    rw [hb, ofNat_n _ (by omega)]
    omega
  · rw [ht] at hb
    simp only [List.mem_append, List.mem_cons, List.not_mem_nil, or_false] at hb
    rcases hb with ((rfl | rfl | rfl) | hb) | rfl
    · decide
    · decide
    · decide
    · exact (isHex_A b (hexL_hex _ b hb)).2.2.1
    · decide
end Go.Proofs.YtdgkpmpakkfgbaaGreatDoor
