/- Words that were read are whole; a text of words and gaps is read as these words. -/
import Derived.Test.YtglnnjcapcpkfacDoorScBk
namespace Go.Proofs.YtglnnjcapcpkfacDoor
open Go.Lib

theorem allBytes_one (r : Int) : allBytes [r] = bytesOf r := by simp [allBytes]
theorem textF_runes (l : List UInt8) (f : Nat) : ∀ (k p : Nat) (acc : List UInt8) (R : List Int), p ≤ l.length → acc = allBytes R → (∀ r ∈ R, Lib.validRune r = true) → (textF l f k p acc).2.1 = 0 →
    ∃ R', (textF l f k p acc).2.2 = allBytes R' ∧ (∀ r ∈ R', Lib.validRune r = true) ∧ R'.length + p + 1 ≤ R.length + (textF l f k p acc).1
  | 0, p, acc, R, _, _, _, h => absurd h (by simp [textF])
  | k + 1, p, acc, R, hp, ha, hv, h => by
    rw [textF] at h ⊢
    by_cases h1 : (l.drop p).head? = some 39
    · rw [if_pos h1] at h ⊢
      by_cases h2 : acc = []
      · rw [if_pos h2] at h; exact absurd h (by simp)
      · rw [if_neg h2] at h ⊢
        exact ⟨R, ha, hv, by simp only; omega⟩
    · rw [if_neg h1] at h ⊢
      cases hr : runeF [39] (l.drop p) with
      | none => rw [hr] at h; exact absurd h (by simp)
      | some x =>
        obtain ⟨r, n⟩ := x
        have hin := runeF_in _ _ _ _ hr
        rw [List.length_drop] at hin
        rw [hr] at h
        simp only at h ⊢
        obtain ⟨R', e1, e2, e3⟩ := textF_runes l f k (p + n) (acc ++ bytesOf r) (R ++ [(r : Int)]) (by omega) (by rw [ha, allBytes_append, allBytes_one]) (fun x hx => by
          rcases List.mem_append.1 hx with hx | hx
          · exact hv x hx
          · rw [List.mem_singleton.1 hx]; exact hin.2.2) h
        refine ⟨R', e1, e2, ?_⟩
        rw [List.length_append, List.length_singleton] at e3
        omega

theorem setF_ranges (l : List UInt8) (f : Nat) : ∀ (k p : Nat) (acc : List (Nat × Nat)), p ≤ l.length → (∀ x ∈ acc, Lib.validRune (x.1 : Int) = true ∧ Lib.validRune (x.2 : Int) = true ∧ x.1 ≤ x.2) → (setF l f k p acc).2.1 = 0 →
    (∀ x ∈ (setF l f k p acc).2.2, Lib.validRune (x.1 : Int) = true ∧ Lib.validRune (x.2 : Int) = true ∧ x.1 ≤ x.2) ∧ (setF l f k p acc).2.2 ≠ [] ∧ (setF l f k p acc).2.2.length + p + 1 ≤ acc.length + (setF l f k p acc).1
  | 0, p, acc, _, _, h => absurd h (by simp [setF])
  | k + 1, p, acc, hp, hv, h => by
    rw [setF] at h ⊢
    by_cases h1 : (l.drop p).head? = some 93
    · rw [if_pos h1] at h ⊢
      by_cases h2 : acc = []
      · rw [if_pos h2] at h; exact absurd h (by simp)
      · rw [if_neg h2] at h ⊢
        exact ⟨hv, h2, by simp only; omega⟩
    · rw [if_neg h1] at h ⊢
      cases hr : rangeF l p with
      | none => rw [hr] at h; exact absurd h (by simp)
      | some x =>
        obtain ⟨x, q⟩ := x
        have hin := rangeF_in _ _ _ _ hp hr
        rw [hr] at h
        simp only at h ⊢
        obtain ⟨e1, e2, e3⟩ := setF_ranges l f k q (acc ++ [x]) (by omega) (fun y hy => by
          rcases List.mem_append.1 hy with hy | hy
          · exact hv y hy
          · rw [List.mem_singleton.1 hy]; exact ⟨hin.2.2.1, hin.2.2.2.1, hin.2.2.2.2⟩) h
        refine ⟨e1, e2, ?_⟩
        rw [List.length_append, List.length_singleton] at e3
        omega

theorem manyN_mem (cs : List UInt8) : ∀ (s : List UInt8), ∀ c ∈ s.take (manyN s cs), c ∈ cs
  | [], c, h => by simp at h
  | x :: s, c, h => by
    by_cases hx : cs.contains x = true
    · have e : manyN (x :: s) cs = manyN s cs + 1 := by
        unfold manyN trimLeftS
        rw [List.dropWhile_cons, if_pos hx]
        have := (List.dropWhile_sublist (l := s) (cs.contains ·)).length_le
        simp only [List.length_cons]
        omega
      rw [e, List.take_succ_cons, List.mem_cons] at h
      rcases h with rfl | h
      · simpa using hx
      · exact manyN_mem cs s c h
    · have e : manyN (x :: s) cs = 0 := by
        unfold manyN trimLeftS
        rw [List.dropWhile_cons, if_neg hx]
        simp
      rw [e] at h
      simp at h

theorem wordF_whole (l : List UInt8) (p : Nat) (hp : p < l.length) (h : (wordF l p).2.2 = 0) :
    ∃ R, Whole (wordF l p).1 R ∧ (writtenL (wordF l p).1 R).length + p ≤ 21 * ((wordF l p).2.1 - p) + p ∧ ∀ b ∈ writtenL (wordF l p).1 R, b.toNat < 128 := by
  have hok := (wordF_ok l p hp).2.1 h
  have hne : l.drop p ≠ [] := by
    intro h
    have := congrArg List.length h
    rw [List.length_drop] at this
    simp at this
    omega
  obtain ⟨c, t, hct⟩ : ∃ c t, l.drop p = c :: t := by
    cases hd : l.drop p with
    | nil => exact absurd hd hne
    | cons c t => exact ⟨c, t, rfl⟩
  have hN : ∀ x ∈ nameL, x.toNat < 128 := by decide +kernel
  have hD : ∀ x ∈ digitsL, x.toNat < 128 := by decide +kernel
  have hM : ∀ x ∈ marksL, x.toNat < 128 := by decide +kernel
  revert h hok
  unfold wordF
  simp only
  rw [hct, List.getD_cons_zero]
  by_cases c1 : amongB lettersL c = true
  · rw [if_pos c1]
    by_cases c2 : 64 < manyN (c :: t) nameL
    · rw [if_pos c2]
      intro h
      exact absurd h (by simp)
    · rw [if_neg c2]
      intro _ hok
      have hm := manyN_mem nameL (c :: t)
      have hpos := manyN_pos (c :: t) nameL (by simp) (by rw [List.getD_cons_zero]; unfold nameL; simp [among_mem _ _ c1])
      have hle := manyN_le (c :: t) nameL
      have hln : ((c :: t).take (manyN (c :: t) nameL)).length = manyN (c :: t) nameL := by rw [List.length_take]; omega
      obtain ⟨n, hn⟩ : ∃ n, manyN (c :: t) nameL = n + 1 := ⟨_, (Nat.succ_pred_eq_of_pos hpos).symm⟩
      refine ⟨[], ⟨fun _ => ⟨rfl, ⟨c, t.take n, by simp only; rw [hn, List.take_succ_cons], c1⟩, hm, by simp only; omega⟩, fun h => absurd h (by simp), fun h => absurd h (by simp), fun h => absurd h (by simp), fun h => absurd h (by simp), by simp⟩, ?_, ?_⟩
      · show ((c :: t).take (manyN (c :: t) nameL)).length + p ≤ _
        simp only
        omega
      · exact fun b hb => hN b (hm b hb)
  rw [if_neg c1]
  by_cases c2 : amongB digitsL c = true
  · rw [if_pos c2]
    by_cases c3 : 9 < manyN (c :: t) digitsL
    · rw [if_pos c3]
      intro h
      exact absurd h (by simp)
    · rw [if_neg c3]
      intro _ hok
      have hm := manyN_mem digitsL (c :: t)
      have hpos := manyN_pos (c :: t) digitsL (by simp) (by rw [List.getD_cons_zero]; exact among_mem _ _ c2)
      have hle := manyN_le (c :: t) digitsL
      have hln : ((c :: t).take (manyN (c :: t) digitsL)).length = manyN (c :: t) digitsL := by rw [List.length_take]; omega
      obtain ⟨n, hn⟩ : ∃ n, manyN (c :: t) digitsL = n + 1 := ⟨_, (Nat.succ_pred_eq_of_pos hpos).symm⟩
      refine ⟨[], ⟨fun h => absurd h (by simp), fun _ => ⟨rfl, ⟨c, t.take n, by simp only; rw [hn, List.take_succ_cons], c2⟩, hm, by simp only; omega⟩, fun h => absurd h (by simp), fun h => absurd h (by simp), fun h => absurd h (by simp), by simp⟩, ?_, ?_⟩
      · show ((c :: t).take (manyN (c :: t) digitsL)).length + p ≤ _
        simp only
        omega
      · exact fun b hb => hD b (hm b hb)
  rw [if_neg c2]
  by_cases c3 : c = 39
  · rw [if_pos c3]
    intro h hok
    obtain ⟨R, e1, e2, e3⟩ := textF_runes l p (l.length + 1) (p + 1) [] [] (by omega) rfl (by simp) h
    have hne := ((textF_in l p (l.length + 1) (p + 1) [] (by omega)).1 h).2.2
    have hlen : ∀ R : List Int, (∀ r ∈ R, Lib.validRune r = true) → (textsL R).length ≤ 10 * R.length ∧ ∀ b ∈ textsL R, b.toNat < 128 := by
      intro R
      induction R with
      | nil => exact fun _ => ⟨Nat.zero_le _, by simp [textsL]⟩
      | cons r R ih =>
        intro hv
        have h1 := ih fun x hx => hv x (List.mem_cons_of_mem _ hx)
        have h2 := textL_len r (hv r (by simp))
        have h3 := textL_asc r (hv r (by simp))
        rw [textsL, List.length_append, List.length_cons]
        generalize (textL r).length = n at *
        refine ⟨by omega, fun b hb => ?_⟩
        rcases List.mem_append.1 hb with hb | hb
        · exact h3 b hb
        · exact h1.2 b hb
    have hl2 := hlen R e2
    refine ⟨R, ⟨fun h => absurd h (by simp), fun h => absurd h (by simp), fun _ => ⟨rfl, fun e => ?_, e2, e1⟩, fun h => absurd h (by simp), fun h => absurd h (by simp), by simp⟩, ?_, ?_⟩
    · subst e
      rw [e1] at hne
      exact hne rfl
    · show (39 :: (textsL R ++ [39])).length + p ≤ _
      rw [List.length_cons, List.length_append, List.length_singleton]
      simp only at e3 ⊢
      simp only [List.length_nil] at e3
      omega
    · intro b hb
      have hb : b ∈ 39 :: (textsL R ++ [39]) := hb
      simp only [List.mem_cons, List.mem_append, List.not_mem_nil, or_false] at hb
      rcases hb with rfl | hb | rfl
      · decide
      · exact hl2.2 b hb
      · decide
  rw [if_neg c3]
  by_cases c4 : c = 91
  · rw [if_pos c4]
    intro h hok
    obtain ⟨e1, e2, e3⟩ := setF_ranges l p (l.length + 1) (p + 1) [] (by omega) (by simp) h
    have hlen : ∀ R : List (Nat × Nat), (∀ x ∈ R, Lib.validRune (x.1 : Int) = true ∧ Lib.validRune (x.2 : Int) = true ∧ x.1 ≤ x.2) → (rangesL R).length ≤ 21 * R.length ∧ ∀ b ∈ rangesL R, b.toNat < 128 := by
      intro R
      induction R with
      | nil => exact fun _ => ⟨Nat.zero_le _, by simp [rangesL]⟩
      | cons x R ih =>
        intro hv
        obtain ⟨a, b⟩ := x
        have h0 := hv (a, b) (by simp)
        have h1 := ih fun x hx => hv x (List.mem_cons_of_mem _ hx)
        have h2 := textL_len (a : Int) h0.1
        have h3 := textL_len (b : Int) h0.2.1
        have h4 := textL_asc (a : Int) h0.1
        have h5 := textL_asc (b : Int) h0.2.1
        rw [rangesL, List.length_append, List.length_cons, List.length_append, List.length_cons]
        clear h0 hv ih
        generalize textL (a : Int) = x at *
        generalize textL (b : Int) = y at *
        refine ⟨by omega, fun b hb => ?_⟩
        rcases List.mem_append.1 hb with hb | hb
        · exact h4 b hb
        · rcases List.mem_cons.1 hb with rfl | hb
          · decide
          · rcases List.mem_append.1 hb with hb | hb
            · exact h5 b hb
            · exact h1.2 b hb
    have hl2 := hlen _ e1
    refine ⟨[], ⟨fun h => absurd h (by simp), fun h => absurd h (by simp), fun h => absurd h (by simp), fun _ => ⟨rfl, e2, e1⟩, fun h => absurd h (by simp), by simp⟩, ?_, ?_⟩
    · show (91 :: (rangesL _ ++ [93])).length + p ≤ _
      rw [List.length_cons, List.length_append, List.length_singleton]
      simp only at e3 ⊢
      simp only [List.length_nil] at e3
      omega
    · intro b hb
      have hb : b ∈ 91 :: (rangesL (setF l p (l.length + 1) (p + 1) []).2.2 ++ [93]) := hb
      simp only [List.mem_cons, List.mem_append, List.not_mem_nil, or_false] at hb
      rcases hb with rfl | hb | rfl
      · decide
      · exact hl2.2 b hb
      · decide
  rw [if_neg c4]
  intro h hok
  simp only at h
  have hm0 : markF (c :: t) ≠ 0 := by
    intro e
    rw [e] at h
    exact absurd h (by simp)
  have hmk : (c :: t).take (markF (c :: t)) = [61, 62] ∨ (c :: t).take (markF (c :: t)) = [46, 46] ∨ ∃ c', (c :: t).take (markF (c :: t)) = [c'] ∧ c' ∈ marksL := by
    revert hm0
    unfold markF
    by_cases p1 : hasPrefix (c :: t) [61, 62] = true
    · rw [if_pos p1]
      intro _
      left
      unfold hasPrefix at p1
      simpa using (List.prefix_iff_eq_take.1 (List.isPrefixOf_iff_prefix.1 p1)).symm
    · rw [if_neg p1]
      by_cases p2 : hasPrefix (c :: t) [46, 46] = true
      · rw [if_pos p2]
        intro _
        right; left
        unfold hasPrefix at p2
        simpa using (List.prefix_iff_eq_take.1 (List.isPrefixOf_iff_prefix.1 p2)).symm
      · rw [if_neg p2, List.getD_cons_zero]
        by_cases p3 : amongB marksL c = true
        · rw [if_pos p3]
          intro _
          exact .inr (.inr ⟨c, rfl, among_mem _ _ p3⟩)
        · rw [if_neg p3]
          exact fun h => absurd rfl h
  have hle := (markF_in (c :: t) (by simp)).1
  refine ⟨[], ⟨fun h => absurd h (by simp), fun h => absurd h (by simp), fun h => absurd h (by simp), fun h => absurd h (by simp), fun _ => ⟨rfl, hmk⟩, by simp⟩, ?_, ?_⟩
  · show ((c :: t).take (markF (c :: t))).length + p ≤ _
    rw [List.length_take]
    simp only
    omega
  · intro b hb
    have hb : b ∈ (c :: t).take (markF (c :: t)) := hb
    rcases hmk with e | e | ⟨c', e, hc⟩ <;> rw [e] at hb <;> simp only [List.mem_cons, List.not_mem_nil, or_false] at hb
    · rcases hb with rfl | rfl <;> decide
    · rcases hb with rfl | rfl <;> decide
    · subst hb; exact hM _ hc
end Go.Proofs.YtglnnjcapcpkfacDoor
