/- A word's set is no longer than the text. -/
import Derived.Test.YtdgkpmpakkfgbaaGreatDoorScLaw2
namespace Go.Proofs.YtdgkpmpakkfgbaaGreatDoor
open Go.Lib

theorem setF_few (l : List UInt8) (f : Nat) : ∀ k p acc, p ≤ l.length → acc.length ≤ p → (setF l f k p acc).2.2.length ≤ l.length
  | 0, p, acc, h, ha => by simp [setF]
  | k + 1, p, acc, h, ha => by
    rw [setF]
    split
    · split
      · simp
      · simp only; omega
    · cases hr : rangeF l p with
      | none => simp
      | some x =>
        obtain ⟨r, q⟩ := x
        have := rangeF_in _ _ _ _ h hr
        simp only
        exact setF_few l f k q (acc ++ [r]) (by omega) (by rw [List.length_append, List.length_singleton]; omega)
theorem wordF_few (l : List UInt8) (p : Nat) (hp : p < l.length) : (wordF l p).1.set.length ≤ l.length := by
  have := setF_few l p (l.length + 1) (p + 1) [] (by omega) (by simp)
  unfold wordF
  simp only
  split
  · split <;> simp
  · split
    · split <;> simp
    · split
      · simp
      · split
        · exact this
        · simp
theorem wordsF_few (l : List UInt8) : ∀ k p acc, p ≤ l.length → (∀ w ∈ acc, w.set.length ≤ l.length) → ∀ w ∈ (wordsF l k p acc).1, w.set.length ≤ l.length
  | 0, p, acc, hp, ha => ha
  | k + 1, p, acc, hp, ha => by
    have hg := gapF_le l (l.length + 1) p hp
    rw [wordsF]
    simp only
    split
    · simp
    · split
      · exact ha
      · next hge =>
        have hw := wordF_ok l (gapF l (l.length + 1) p).1 (by omega)
        have hf := wordF_few l (gapF l (l.length + 1) p).1 (by omega)
        split
        · simp
        · next he =>
          obtain ⟨h1, h2, h3⟩ := hw.2.1 (by simpa using he)
          refine wordsF_few l k _ _ h3 fun w hm => ?_
          rcases List.mem_append.1 hm with h | h
          · exact ha w h
          · rw [List.mem_singleton.1 h]; exact hf
theorem scanF_few (l : List UInt8) : ∀ w ∈ (scanF l).1, w.set.length ≤ l.length := by
  unfold scanF
  split
  · simp
  · split
    · simp
    · exact wordsF_few l _ _ _ (Nat.zero_le _) (by simp)
theorem words_few (L : Nat) : ∀ (ws : List Wd) (m : Nat), (∀ w ∈ ws, m ≤ w.at_ ∧ w.at_ < L) → ws.Pairwise (fun a b => a.at_ < b.at_) → ws = [] ∨ m + ws.length ≤ L
  | [], _, _, _ => .inl rfl
  | w :: ws, m, h, hp => by
    have h0 := h w (by simp)
    rw [List.pairwise_cons] at hp
    rcases words_few L ws (m + 1) (fun x hx => ⟨by have := hp.1 x hx; omega, (h x (List.mem_cons_of_mem _ hx)).2⟩) hp.2 with rfl | h2
    · right; simp; omega
    · right; rw [List.length_cons]; omega
/-- what is known of the words -/
theorem scanF_sizes (l : List UInt8) (h : (scanF l).2.2 = 0) : (scanF l).1.length ≤ l.length ∧ ∀ w ∈ (scanF l).1, w.set.length ≤ l.length ∧ w.kind ≤ 4 := by
  obtain ⟨_, hws, _⟩ := (scanF_ok l).1 h
  refine ⟨?_, fun w hw => ⟨scanF_few l w hw, (hws.1 w hw).2.2.1⟩⟩
  rcases words_few l.length (scanF l).1 0 (fun w hw => ⟨Nat.zero_le _, (hws.1 w hw).1⟩) hws.2 with h | h
  · rw [h]; simp
  · omega
end Go.Proofs.YtdgkpmpakkfgbaaGreatDoor
