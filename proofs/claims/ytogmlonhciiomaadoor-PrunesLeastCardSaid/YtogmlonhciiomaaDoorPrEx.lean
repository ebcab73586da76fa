/- The chapter's example, and its least one. No program in sight. -/
import Derived.Test.YtogmlonhciiomaaDoorPrLaw
namespace Go.Proofs.YtogmlonhciiomaaDoor

def exA : Aut := [⟨0, [], [⟨1, 1⟩, ⟨2, 2⟩, ⟨3, 4⟩]⟩, ⟨0, [], [⟨1, 3⟩]⟩, ⟨0, [], [⟨1, 3⟩]⟩, ⟨1, [0], []⟩, ⟨0, [], [⟨1, 4⟩]⟩]
def exT : Aut := [⟨0, [], [⟨1, 1⟩, ⟨2, 2⟩]⟩, ⟨0, [], [⟨1, 3⟩]⟩, ⟨0, [], [⟨1, 3⟩]⟩, ⟨1, [0], []⟩, ⟨0, [], []⟩]
def exX : Aut := [⟨0, [], [⟨1, 1⟩, ⟨2, 1⟩]⟩, ⟨0, [], [⟨1, 2⟩]⟩, ⟨1, [0], []⟩]
def exS (i j : Nat) : Bool := i == j || i == 1 && j == 2 || i == 2 && j == 1
theorem exA_4 {i : Nat} (h : exA.Live i) : i ≠ 4 := by
  induction h with
  | dec h => rintro rfl; simp [Aut.dec, Aut.kind, exA] at h
  | @step i e he _ _ ih =>
    rintro rfl
    have : e = ⟨1, 4⟩ := by simpa [exA, Aut.edges] using he
    subst this
    exact ih rfl
theorem exA_lt {i : Nat} (h : exA.Live i) : i < 4 := by
  have h1 := exA_4 h
  have h2 := h.lt
  have : exA.length = 5 := rfl
  omega
theorem exA_3 : exA.Live 3 := .dec (by decide)
theorem exA_2 : exA.Live 2 := .step (e := ⟨1, 3⟩) (by simp [exA, Aut.edges]) exA_3 (.inl (by decide))
theorem exA_1 : exA.Live 1 := .step (e := ⟨1, 3⟩) (by simp [exA, Aut.edges]) exA_3 (.inl (by decide))
theorem exA_0 : exA.Live 0 := .step (e := ⟨1, 1⟩) (by simp [exA, Aut.edges]) exA_1 (.inl (by decide))
theorem exA_live {i : Nat} : exA.Live i ↔ i < 4 := ⟨exA_lt, fun h => by
  match i, h with
  | 0, _ => exact exA_0
  | 1, _ => exact exA_1
  | 2, _ => exact exA_2
  | 3, _ => exact exA_3
  | n + 4, h => omega⟩
theorem exA_trim : Trim exA exT where
  len := rfl
  kind i := by
    match i with
    | 0 | 1 | 2 | 3 | 4 => rfl
    | n + 5 => rfl
  alts i := by
    match i with
    | 0 | 1 | 2 | 3 | 4 => rfl
    | n + 5 => rfl
  edges i := by
    have key : ∀ e ∈ exA.edges i, (decide (e.tgt ≠ 4) = true ↔ exA.Counts e) := by
      intro e he
      have hc : exA.Counts e ↔ exA.Live e.tgt.toNat := ⟨fun h => h.1, fun h => ⟨h, fun h2 => by
        have : e.tok ≠ -1 := by
          match i, he with
          | 0, he => simp [exA, Aut.edges] at he; rcases he with rfl | rfl | rfl <;> decide
          | 1, he => simp [exA, Aut.edges] at he; subst he; decide
          | 2, he => simp [exA, Aut.edges] at he; subst he; decide
          | 3, he => simp [exA, Aut.edges] at he
          | 4, he => simp [exA, Aut.edges] at he; subst he; decide
          | n + 5, he => simp [exA, Aut.edges] at he
        exact this h2.1⟩⟩
      rw [hc, exA_live]
      match i, he with
      | 0, he => simp [exA, Aut.edges] at he; rcases he with rfl | rfl | rfl <;> decide
      | 1, he => simp [exA, Aut.edges] at he; subst he; decide
      | 2, he => simp [exA, Aut.edges] at he; subst he; decide
      | 3, he => simp [exA, Aut.edges] at he
      | 4, he => simp [exA, Aut.edges] at he; subst he; decide
      | n + 5, he => simp [exA, Aut.edges] at he
    refine ⟨fun e => decide (e.tgt ≠ 4), key, ?_⟩
    match i with
    | 0 | 1 | 2 | 3 | 4 => rfl
    | n + 5 => rfl
theorem exT_12 : exT.Like 1 2 := Aut.Like.of (fun i j => i = j ∨ i = 1 ∧ j = 2) (fun i j h => by
  rcases h with rfl | ⟨rfl, rfl⟩
  · exact ⟨rfl, rfl, rfl, fun _ _ _ => ⟨rfl, .inl rfl⟩⟩
  · refine ⟨rfl, rfl, rfl, fun m h1 h2 => ?_⟩
    have : m = 0 := by simp [exT, Aut.edges] at h1; omega
    subst this
    exact ⟨rfl, .inl rfl⟩) (.inr ⟨rfl, rfl⟩)
theorem exS_like {i j : Nat} (hi : exA.Live i) (hj : exA.Live j) : exS i j = true ↔ exT.Like i j := by
  have h1 := exA_lt hi
  have h2 := exA_lt hj
  have ne : ∀ {i j : Nat}, (exT.edges i).length ≠ (exT.edges j).length → ¬ exT.Like i j := fun h g => h g.step.2.2.1
  match i, j, h1, h2 with
  | 0, 0, _, _ | 1, 1, _, _ | 2, 2, _, _ | 3, 3, _, _ => exact ⟨fun _ => Aut.Like.refl _ _, fun _ => by decide⟩
  | 1, 2, _, _ => exact ⟨fun _ => exT_12, fun _ => by decide⟩
  | 2, 1, _, _ => exact ⟨fun _ => exT_12.symm, fun _ => by decide⟩
  | 0, 1, _, _ | 0, 2, _, _ | 0, 3, _, _ | 1, 0, _, _ | 1, 3, _, _ | 2, 0, _, _ | 2, 3, _, _ | 3, 0, _, _ | 3, 1, _, _ | 3, 2, _, _ =>
    exact ⟨fun h => absurd h (by decide), fun h => absurd h (ne (by decide))⟩
  | n + 4, _, h, _ => omega
  | _, n + 4, _, h => omega
theorem exA_least : IsLeast exA exX := .inr ⟨exA_0, exT, exS, exA_trim, fun _ _ hi hj => exS_like hi hj, by decide⟩
theorem exA_runs : runR exA 0 0 [1, 1] = (1, [0], 2) ∧ runR exA 0 0 [2] = (2, [], 1) ∧ runR exA 0 0 [3, 1, 1] = (2, [], 3) ∧ exA.mayB 1 4 = true ∧ exA.mayB 1 3 = false := by decide
end Go.Proofs.YtogmlonhciiomaaDoor
