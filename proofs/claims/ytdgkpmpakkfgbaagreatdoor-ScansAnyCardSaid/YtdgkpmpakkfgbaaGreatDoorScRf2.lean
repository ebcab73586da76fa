/- The document's places and escapes are the scan's: plain laws. -/
import Derived.Test.YtdgkpmpakkfgbaaGreatDoorScRf
namespace Go.Proofs.YtdgkpmpakkfgbaaGreatDoor
open Go.Lib

/-! ### places -/
def colF : Nat → List UInt8 → Nat → Nat
  | 0, _, c => c
  | f + 1, x, c => if x = [] then c else colF f (x.drop (decodeL x).2) (c + 1)
theorem colF_fuel : ∀ (f g : Nat) (x : List UInt8) (c : Nat), x.length ≤ f → x.length ≤ g → colF f x c = colF g x c
  | 0, 0, _, _, _, _ => rfl
  | 0, g + 1, x, c, h, _ => by
    have : x = [] := List.length_eq_zero_iff.1 (by omega)
    subst this
    rfl
  | f + 1, 0, x, c, _, h => by
    have : x = [] := List.length_eq_zero_iff.1 (by omega)
    subst this
    rfl
  | f + 1, g + 1, x, c, h1, h2 => by
    rw [colF, colF]
    have hp := decodeL_pos x
    split
    · rfl
    · exact colF_fuel f g _ _ (by rw [List.length_drop]; omega) (by rw [List.length_drop]; omega)
def colL (x : List UInt8) (c : Nat) : Nat := colF x.length x c
theorem colL_nil (c : Nat) : colL [] c = c := rfl
theorem colL_cons (x : List UInt8) (c : Nat) (hne : x ≠ []) : colL x c = colL (x.drop (decodeL x).2) (c + 1) := by
  unfold colL
  obtain ⟨n, hn⟩ : ∃ n, x.length = n + 1 := ⟨x.length - 1, by have := List.length_pos_iff.2 hne; omega⟩
  have hp := decodeL_pos x
  rw [hn, colF, if_neg hne]
  exact colF_fuel _ _ _ _ (by rw [List.length_drop]; omega) (Nat.le_refl _)

theorem ref_col : ∀ (n : Nat) (x : List UInt8) (l c f : Nat), x.length ≤ n → f ≤ x.length → (f = 0 ∨ x[f - 1]? = some 10) → (∀ b ∈ x.drop f, b ≠ 10) → (placeOf x l c).2 = if f = 0 then colL x c else colL (x.drop f) 1
  | n, [], l, c, f, _, hf, _, _ => by
    have : f = 0 := by simpa using hf
    subst this
    rfl
  | 0, _ :: _, _, _, _, h, _, _, _ => by simp at h
  | n + 1, b :: x, l, c, f, h, hf, h1, h2 => by
    have hne : b :: x ≠ [] := by simp
    have ht := decodeL_ten (b :: x) hne
    have hp := decodeL_pos (b :: x)
    have hlt := drop_lt (b :: x) hne
    rw [placeOf_cons _ l c hne]
    by_cases hd : (decodeL (b :: x)).1 = 10
    · rw [if_pos hd]
      obtain ⟨hw, hb⟩ := ht.1 hd
      rw [hw] at hlt ⊢
      have hb' : b = 10 := by simpa using hb
      have hf0 : f ≠ 0 := by
        rintro rfl
        exact h2 b (by simp) hb'
      obtain ⟨g, rfl⟩ : ∃ g, f = g + 1 := ⟨f - 1, by omega⟩
      have ih := ref_col n ((b :: x).drop 1) (l + 1) 1 g (by omega) (by simp at hf ⊢; omega) (by
        rcases Nat.eq_zero_or_pos g with rfl | hg
        · exact .inl rfl
        · refine .inr ?_
          rcases h1 with h1 | h1
          · omega
          · rw [List.getElem?_drop, show 1 + (g - 1) = g + 1 - 1 by omega]
            exact h1) (by
        intro y hy
        rw [List.drop_drop, show 1 + g = g + 1 by omega] at hy
        exact h2 y hy)
      rw [ih, if_neg hf0]
      split
      · next hg => subst hg; rfl
      · rw [List.drop_drop, show 1 + g = g + 1 by omega]
    · rw [if_neg hd]
      have hnt := ht.2 hd
      generalize hw : (decodeL (b :: x)).2 = w at *
      rcases Nat.eq_zero_or_pos f with rfl | hf0
      · have ih := ref_col n ((b :: x).drop w) l (c + 1) 0 (by omega) (by omega) (.inl rfl) (fun y hy => h2 y (List.mem_of_mem_drop hy))
        rw [ih, if_pos rfl, if_pos rfl, colL_cons _ c hne, hw]
      · have hx : (b :: x)[f - 1]? = some 10 := by
          rcases h1 with h1 | h1
          · omega
          · exact h1
        have hwf : w < f := by
          apply Classical.byContradiction
          intro hn
          refine hnt 10 ?_ rfl
          rw [List.mem_iff_getElem?]
          exact ⟨f - 1, by rw [List.getElem?_take, if_pos (by omega)]; exact hx⟩
        have ih := ref_col n ((b :: x).drop w) l (c + 1) (f - w) (by omega) (by rw [List.length_drop]; omega) (.inr (by
          rw [List.getElem?_drop, show w + (f - w - 1) = f - 1 by omega]
          exact hx)) (by
          rw [List.drop_drop, show w + (f - w) = f by omega]
          exact h2)
        rw [ih, if_neg (by omega), if_neg (by omega), List.drop_drop, show w + (f - w) = f by omega]

theorem ref_place (x : List UInt8) (f : Nat) (hf : f ≤ x.length) (h1 : f = 0 ∨ x[f - 1]? = some 10) (h2 : ∀ b ∈ x.drop f, b ≠ 10) : placeOf x 1 1 = (1 + x.count 10, colL (x.drop f) 1) := by
  apply Prod.ext
  · exact placeOf_line _ x 1 1 (Nat.le_refl _)
  · rw [ref_col _ x 1 1 f (Nat.le_refl _) hf h1 h2]
    split
    · next h => subst h; rfl
    · rfl
end Go.Proofs.YtdgkpmpakkfgbaaGreatDoor
