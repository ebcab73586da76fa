/- A text of words and gaps is read as these words. -/
import Derived.Test.YtglnnjcapcpkfacDoorScBk2
namespace Go.Proofs.YtglnnjcapcpkfacDoor
open Go.Lib

/-- the six gaps -/
def gapL (i : Nat) : List UInt8 :=
  match i with
  | 0 => [32]
  | 1 => [10]
  | 2 => [47, 42, 32, 39, 32, 42, 47]
  | 3 => [47, 47, 32, 91, 10]
  | 4 => [9, 13]
  | _ => [47, 42, 42, 47]

/-- what stands there is no gap -/
def NoGap (m : List UInt8) : Prop := ∀ c, m.head? = some c → c ∉ blanksL ∧ c ≠ 47

theorem gapF_stop (l : List UInt8) (k p : Nat) (m : List UInt8) (h : l.drop p = m) (hm : NoGap m) : gapF l k p = (p, 0) := by
  cases k with
  | zero => rfl
  | succ k =>
    rw [gapF, h]
    cases m with
    | nil => simp [hasPrefix, List.isPrefixOf]
    | cons c t =>
      obtain ⟨h1, h2⟩ := hm c rfl
      rw [if_neg (by simp [not_among h1]), if_neg (by simp [hasPrefix, List.isPrefixOf, Ne.symm h2]), if_neg (by simp [hasPrefix, List.isPrefixOf, Ne.symm h2])]
theorem gapF_blank (l : List UInt8) (k p : Nat) (c : UInt8) (m : List UInt8) (h : l.drop p = c :: m) (hc : c ∈ blanksL) : gapF l (k + 1) p = gapF l k (p + 1) ∧ l.drop (p + 1) = m := by
  refine ⟨?_, by rw [← List.drop_drop, h]; rfl⟩
  rw [gapF, h, if_pos ⟨by simp, by simpa using among_of_mem hc⟩]

theorem gapF_gap (l : List UInt8) (k p i : Nat) (m : List UInt8) (hk : (gapL i).length ≤ k) (h : l.drop p = gapL i ++ m) (hm : NoGap m) : gapF l (k + 1) p = (p + (gapL i).length, 0) := by
  have hstop : ∀ k, gapF l k (p + (gapL i).length) = (p + (gapL i).length, 0) := fun k => gapF_stop l k _ m (drop_more h) hm
  revert hk h hstop
  unfold gapL
  split
  · intro hk h hs
    rw [(gapF_blank l k p 32 m h (by decide)).1]
    exact hs k
  · intro hk h hs
    rw [(gapF_blank l k p 10 m h (by decide)).1]
    exact hs k
  · intro hk h hs
    have h2 : index (([47, 42, 32, 39, 32, 42, 47] ++ m).drop 2) [42, 47] = 3 := by
      simp [index, List.isPrefixOf]
    rw [gapF, h, if_neg (by simp [amongB]; decide), if_neg (by simp [hasPrefix, List.isPrefixOf]), if_pos (by simp [hasPrefix, List.isPrefixOf]), h2, if_neg (by decide)]
    exact hs k
  · intro hk h hs
    simp only [List.length_cons, List.length_nil] at hk
    obtain ⟨k, rfl⟩ : ∃ k', k = k' + 1 := ⟨k - 1, by omega⟩
    have h2 : indexByte ([47, 47, 32, 91, 10] ++ m) 10 = 4 := by
      simp [indexByte]
    rw [gapF, h, if_neg (by simp [amongB]; decide), if_pos (by simp [hasPrefix, List.isPrefixOf]), h2, if_pos (by decide)]
    have h3 : l.drop (p + 4) = 10 :: m := by rw [← List.drop_drop, h]; rfl
    rw [show p + (4 : Int).toNat = p + 4 from rfl, (gapF_blank l k (p + 4) 10 m h3 (by decide)).1]
    exact hs k
  · intro hk h hs
    simp only [List.length_cons, List.length_nil] at hk
    obtain ⟨k, rfl⟩ : ∃ k', k = k' + 1 := ⟨k - 1, by omega⟩
    have h3 := gapF_blank l (k + 1) p 9 (13 :: m) h (by decide)
    rw [h3.1, (gapF_blank l k (p + 1) 13 m h3.2 (by decide)).1]
    exact hs k
  · intro hk h hs
    have h2 : index (([47, 42, 42, 47] ++ m).drop 2) [42, 47] = 0 := by
      simp [index, List.isPrefixOf]
    rw [gapF, h, if_neg (by simp [amongB]; decide), if_neg (by simp [hasPrefix, List.isPrefixOf]), if_pos (by simp [hasPrefix, List.isPrefixOf]), h2, if_neg (by decide)]
    exact hs k

/-- words, each with the runes of its text and the gap behind it, as a text -/
def textOf : List (Wd × List Int × Nat) → List UInt8
  | [] => []
  | (w, R, i) :: ws => writtenL w R ++ (gapL i ++ textOf ws)
/-- the same words, at their places in the text -/
def placedAt : Nat → List (Wd × List Int × Nat) → List Wd
  | _, [] => []
  | p, (w, R, i) :: ws => { w with at_ := p } :: placedAt (p + (writtenL w R).length + (gapL i).length) ws

theorem gapL_head (i : Nat) (m : List UInt8) : GapHead (gapL i ++ m) := by
  intro c hc
  unfold gapL at hc
  split at hc <;> simp only [List.cons_append, List.head?_cons, Option.some.injEq] at hc <;> subst hc <;> exact ⟨by decide +kernel, by decide, by decide⟩
theorem gapL_len (i : Nat) : 1 ≤ (gapL i).length ∧ (gapL i).length ≤ 7 := by
  unfold gapL
  split <;> simp

theorem written_head (w : Wd) (R : List Int) (hw : Whole w R) : ∃ c t, writtenL w R = c :: t ∧ c ∉ blanksL ∧ c ≠ 47 := by
  obtain ⟨kind, text, set, at_⟩ := w
  have hk := hw.kind
  simp only at hk
  rcases kind_ways hk with rfl | rfl | rfl | rfl | rfl
  · obtain ⟨_, ⟨c, t, h2, h3⟩, _, _⟩ := hw.name rfl
    have : ∀ c ∈ lettersL, c ∉ blanksL ∧ c ≠ 47 := by decide +kernel
    exact ⟨c, t, h2, this c (among_mem _ _ h3)⟩
  · obtain ⟨_, ⟨c, t, h2, h3⟩, _, _⟩ := hw.num rfl
    have : ∀ c ∈ digitsL, c ∉ blanksL ∧ c ≠ 47 := by decide +kernel
    exact ⟨c, t, h2, this c (among_mem _ _ h3)⟩
  · exact ⟨39, _, rfl, by decide, by decide⟩
  · exact ⟨91, _, rfl, by decide, by decide⟩
  · obtain ⟨_, h2⟩ := hw.mark rfl
    simp only at h2
    have : ∀ c ∈ marksL, c ∉ blanksL ∧ c ≠ 47 := by decide +kernel
    rcases h2 with rfl | rfl | ⟨c, rfl, hc⟩
    · exact ⟨61, _, rfl, by decide, by decide⟩
    · exact ⟨46, _, rfl, by decide, by decide⟩
    · exact ⟨c, _, rfl, this c hc⟩
theorem textOf_noGap (ws : List (Wd × List Int × Nat)) (h : ∀ x ∈ ws, Whole x.1 x.2.1) : NoGap (textOf ws) := by
  intro c hc
  cases ws with
  | nil => simp [textOf] at hc
  | cons x ws =>
    obtain ⟨w, R, i⟩ := x
    obtain ⟨d, t, h1, h2⟩ := written_head w R (h (w, R, i) (by simp))
    rw [textOf, h1] at hc
    simp at hc
    subst hc
    exact h2

theorem wordsF_back (l : List UInt8) : ∀ (ws : List (Wd × List Int × Nat)) (k p q : Nat) (acc : List Wd), ws.length < k → (∀ x ∈ ws, Whole x.1 x.2.1) → gapF l (l.length + 1) p = (q, 0) → l.drop q = textOf ws → q ≤ l.length →
    wordsF l k p acc = (acc ++ placedAt q ws, 0, 0)
  | _, 0, _, _, _, hk, _, _, _, _ => by simp at hk
  | [], k + 1, p, q, acc, _, _, hg, hq, hle => by
    rw [wordsF]
    simp only
    rw [hg]
    have : l.length ≤ q := by
      have := congrArg List.length hq
      rw [List.length_drop, textOf, List.length_nil] at this
      omega
    simp [this, placedAt]
  | (w, R, i) :: ws, k + 1, p, q, acc, hk, hw, hg, hq, hle => by
    have hw0 := hw (w, R, i) (by simp)
    have hq2 : l.drop q = writtenL w R ++ (gapL i ++ textOf ws) := hq
    have hwd := wordF_back l q w R (gapL i ++ textOf ws) hw0 (gapL_head i _) hq2
    obtain ⟨c, t, hct, _⟩ := written_head w R hw0
    have hlq := congrArg List.length hq2
    rw [List.length_drop, List.length_append, List.length_append] at hlq
    have hw1 : 1 ≤ (writtenL w R).length := by rw [hct]; simp
    rw [wordsF]
    simp only
    rw [hg]
    simp only
    rw [if_neg (by simp), if_neg (by omega), hwd]
    simp only
    rw [if_neg (by simp)]
    have hd := drop_more hq2
    have hgl := gapL_len i
    have hgap := gapF_gap l l.length (q + (writtenL w R).length) i (textOf ws) (by omega) hd (textOf_noGap ws fun x hx => hw x (List.mem_cons_of_mem _ hx))
    rw [wordsF_back l ws k _ (q + (writtenL w R).length + (gapL i).length) _ (by simp at hk; omega) (fun x hx => hw x (List.mem_cons_of_mem _ hx)) hgap (drop_more hd) (by omega)]
    rw [placedAt, List.append_assoc]
    rfl

theorem badOf_asc : ∀ (n : Nat) (l : List UInt8) (p : Nat), l.length ≤ n → (∀ b ∈ l, b.toNat < 128) → badOf l p = -1
  | 0, l, p, h, _ => by
    have : l = [] := List.length_eq_zero_iff.1 (by omega)
    subst this
    exact badOf_nil p
  | n + 1, l, p, h, ha => by
    cases l with
    | nil => exact badOf_nil p
    | cons c t =>
      have hd : decodeL (c :: t) = (c.toNat, 1) := by
        rw [decodeL_N]
        unfold decodeN
        simp only [List.getD_cons_zero]
        rw [if_pos (ha c (by simp))]
      have hb : ¬ badAt (c :: t) := by
        have := ha c (by simp)
        unfold badAt
        rw [hd]
        simp only
        omega
      rw [badOf_cons _ _ (by simp), if_neg hb, hd]
      exact badOf_asc n t _ (by simp at h; omega) fun b hb => ha b (by simp [hb])

theorem textOf_len (ws : List (Wd × List Int × Nat)) : ws.length ≤ (textOf ws).length := by
  induction ws with
  | nil => exact Nat.zero_le _
  | cons x ws ih =>
    obtain ⟨w, R, i⟩ := x
    have := gapL_len i
    rw [textOf, List.length_append, List.length_append, List.length_cons]
    omega

/-- the stage's theorem, in plain words -/
theorem scanF_back (ws : List (Wd × List Int × Nat)) (hw : ∀ x ∈ ws, Whole x.1 x.2.1) (ha : ∀ x ∈ ws, ∀ b ∈ writtenL x.1 x.2.1, b.toNat < 128) (hs : (textOf ws).length ≤ 65536) :
    scanF (textOf ws) = (placedAt 0 ws, 0, 0) := by
  have hasc : ∀ b ∈ textOf ws, b.toNat < 128 := by
    clear hw hs
    induction ws with
    | nil => simp [textOf]
    | cons x ws ih =>
      obtain ⟨w, R, i⟩ := x
      have h1 := ha (w, R, i) (by simp)
      have h2 := ih fun x hx => ha x (List.mem_cons_of_mem _ hx)
      have h3 : ∀ b ∈ gapL i, b.toNat < 128 := by
        unfold gapL
        split <;> decide
      intro b hb
      rw [textOf] at hb
      rcases List.mem_append.1 hb with hb | hb
      · exact h1 b hb
      · rcases List.mem_append.1 hb with hb | hb
        · exact h3 b hb
        · exact h2 b hb
  have hb := badOf_asc _ (textOf ws) 0 (Nat.le_refl _) hasc
  have hlen := textOf_len ws
  unfold scanF
  rw [if_neg (by omega), hb, if_neg (by decide)]
  have := wordsF_back (textOf ws) ws ((textOf ws).length + 1) 0 0 [] (by omega) hw (gapF_stop _ _ _ (textOf ws) rfl (textOf_noGap ws hw)) rfl (Nat.zero_le _)
  rw [this]
  rfl

/-- the words that were read are whole, and not long -/
theorem wordsF_whole (l : List UInt8) : ∀ (k p : Nat) (acc : List Wd), p ≤ l.length → (wordsF l k p acc).2.2 = 0 →
    (∃ xs : List (Wd × List Int), xs.map (·.1) = acc ∧ (∀ x ∈ xs, Whole x.1 x.2 ∧ ∀ b ∈ writtenL x.1 x.2, b.toNat < 128) ∧ (xs.map fun x => (writtenL x.1 x.2).length + 7).sum ≤ 28 * p) →
    ∃ xs : List (Wd × List Int), xs.map (·.1) = (wordsF l k p acc).1 ∧ (∀ x ∈ xs, Whole x.1 x.2 ∧ ∀ b ∈ writtenL x.1 x.2, b.toNat < 128) ∧ (xs.map fun x => (writtenL x.1 x.2).length + 7).sum ≤ 28 * l.length
  | 0, p, acc, hp, _, ⟨xs, h1, h2, h3⟩ => ⟨xs, h1, h2, by omega⟩
  | k + 1, p, acc, hp, h, ⟨xs, h1, h2, h3⟩ => by
    have hg := gapF_le l (l.length + 1) p hp
    rw [wordsF] at h ⊢
    simp only at h ⊢
    by_cases c1 : (gapF l (l.length + 1) p).2 ≠ 0
    · rw [if_pos c1] at h
      exact absurd h c1
    · rw [if_neg c1] at h ⊢
      by_cases c2 : l.length ≤ (gapF l (l.length + 1) p).1
      · rw [if_pos c2]
        exact ⟨xs, h1, h2, by omega⟩
      · rw [if_neg c2] at h ⊢
        by_cases c3 : (wordF l (gapF l (l.length + 1) p).1).2.2 ≠ 0
        · rw [if_pos c3] at h
          exact absurd h c3
        · rw [if_neg c3] at h ⊢
          have hz : (wordF l (gapF l (l.length + 1) p).1).2.2 = 0 := by simpa using c3
          obtain ⟨R, w1, w2, w3⟩ := wordF_whole l (gapF l (l.length + 1) p).1 (by omega) hz
          have hok := (wordF_ok l (gapF l (l.length + 1) p).1 (by omega)).2.1 hz
          refine wordsF_whole l k _ _ hok.2.2 h ⟨xs ++ [((wordF l (gapF l (l.length + 1) p).1).1, R)], by simp [h1], fun x hx => ?_, ?_⟩
          · rcases List.mem_append.1 hx with hx | hx
            · exact h2 x hx
            · rw [List.mem_singleton.1 hx]
              exact ⟨w1, w3⟩
          · rw [List.map_append, List.sum_append, List.map_singleton, List.sum_singleton]
            simp only
            omega
theorem scanF_whole (l : List UInt8) (h : (scanF l).2.2 = 0) :
    ∃ xs : List (Wd × List Int), xs.map (·.1) = (scanF l).1 ∧ (∀ x ∈ xs, Whole x.1 x.2 ∧ ∀ b ∈ writtenL x.1 x.2, b.toNat < 128) ∧ (xs.map fun x => (writtenL x.1 x.2).length + 7).sum ≤ 28 * l.length := by
  unfold scanF at h ⊢
  by_cases c1 : 65536 < l.length
  · rw [if_pos c1] at h; exact absurd h (by simp)
  · rw [if_neg c1] at h ⊢
    by_cases c2 : 0 ≤ badOf l 0
    · rw [if_pos c2] at h; exact absurd h (by simp)
    · rw [if_neg c2] at h ⊢
      exact wordsF_whole l _ 0 [] (Nat.zero_le _) h ⟨[], rfl, by simp, by simp⟩
end Go.Proofs.YtglnnjcapcpkfacDoor
