/- May, by the document: it says what the program's May says. -/
import Derived.Test.YtgdcnndmdgcjlaaPTkMem
import Derived.Test.YtgdcnndmdgcjlaaPOpen
namespace Go.Proofs.Ytgdcnndmdgcjlaa
open Go.RowKit

theorem decsTo_prefix (l : List Sta) {i j : Nat} (h : i ≤ j) : decsTo l i <+: decsTo l j := by
  induction h with
  | refl => exact List.prefix_refl _
  | @step m hm ih => exact ih.trans (by rw [decsTo]; exact List.prefix_append _ _)
section
variable {N : Net}
theorem may_parts (h : N.mayB = true) : N.starts.length = N.stops.length ∧ (∀ i ∈ N.starts ++ N.stops, 0 ≤ i ∧ i < N.states.length) ∧ (∀ i ∈ N.preds, 0 ≤ i ∧ i < (N.states.length : Int) - 1) ∧ (∀ s ∈ N.states, s.fineB N = true) ∧ decsTo N.states N.states.length = N.decisions := by
  unfold Net.mayB at h
  simp only [Bool.and_eq_true, decide_eq_true_eq, Bool.not_eq_true'] at h
  obtain ⟨⟨⟨⟨h1, h2⟩, h3⟩, h4⟩, h5⟩ := h
  refine ⟨h1, not_any_okN h2, fun i hi => ?_, fun s hs => List.all_eq_true.1 h4 s hs, h5⟩
  rw [List.any_eq_false] at h3
  have := h3 i hi
  simp only [Bool.or_eq_true, decide_eq_true_eq, not_or] at this
  omega
theorem may_of (h1 : N.starts.length = N.stops.length) (h2 : ∀ i ∈ N.starts ++ N.stops, 0 ≤ i ∧ i < N.states.length) (h3 : ∀ i ∈ N.preds, 0 ≤ i ∧ i < (N.states.length : Int) - 1) (h4 : ∀ s ∈ N.states, s.fineB N = true) (h5 : decsTo N.states N.states.length = N.decisions) : N.mayB = true := by
  unfold Net.mayB
  simp only [Bool.and_eq_true, decide_eq_true_eq, Bool.not_eq_true']
  refine ⟨⟨⟨⟨h1, ?_⟩, ?_⟩, List.all_eq_true.2 h4⟩, h5⟩
  · rw [List.any_eq_false]
    intro i hi
    have := okN_iff.2 (h2 i hi)
    simp [this]
  · rw [List.any_eq_false]
    intro i hi
    have := h3 i hi
    simp only [Bool.or_eq_true, decide_eq_true_eq, not_or]
    omega
theorem not_may {p : Prop} (h : N.mayB = true → p) (hp : ¬p) : N.mayB = false := by
  cases hM : N.mayB
  · rfl
  · exact absurd (h hM) hp
theorem edge_fine {e : Edg} (h0 : 0 ≤ e.kind) : e.mayB N = true ↔ e.kind ≤ 3 ∧ 0 ≤ e.what ∧ (0 ≤ e.to ∧ e.to < N.states.length) ∧ (e.kind = 0 → e.what = 0) ∧ (e.kind = 2 → e.what < N.starts.length) ∧ (e.kind = 3 → e.what < N.preds.length) := by
  unfold Edg.mayB
  simp only [Bool.not_eq_true', Bool.or_eq_false_iff, decide_eq_false_iff_not, Bool.and_eq_false_iff, Bool.not_eq_false', okN_iff]
  unfold Net.mostOf
  constructor
  · rintro ⟨⟨⟨h1, h2⟩, h3⟩, h4⟩
    refine ⟨by omega, by omega, h4, fun hk => ?_, fun hk => ?_, fun hk => ?_⟩
    · rcases h3 with h3 | h3
      · simp [hk] at h3
      · simp [hk] at h3; omega
    · rcases h3 with h3 | h3
      · simp [hk] at h3
      · simp [hk] at h3; omega
    · rcases h3 with h3 | h3
      · simp [hk] at h3
      · simp [hk] at h3; omega
  · rintro ⟨h1, h2, h3, h4, h5, h6⟩
    refine ⟨⟨⟨by omega, by omega⟩, ?_⟩, h3⟩
    have hk : e.kind = 0 ∨ e.kind = 1 ∨ e.kind = 2 ∨ e.kind = 3 := by omega
    rcases hk with hk | hk | hk | hk
    · have := h4 hk; right; simp [hk]; omega
    · left; simp [hk]
    · have := h5 hk; right; simp [hk]; omega
    · have := h6 hk; right; simp [hk]; omega
theorem state_fine {s : Sta} : s.fineB N = true ↔ (0 ≤ s.rule ∧ s.rule < N.starts.length) ∧ (∀ e ∈ s.edges, e.mayB N = true) ∧ (s.ends.length = 0 ∨ (s.ends.length = s.edges.length ∧ 2 ≤ s.ends.length ∧ (∀ e ∈ s.edges, e.kind = 0) ∧ ∀ i ∈ s.ends, 0 ≤ i ∧ i < N.states.length)) := by
  unfold Sta.fineB Sta.mayB Sta.decides
  simp only [Bool.and_eq_true, Bool.or_eq_true, decide_eq_true_eq, Bool.not_eq_true', decide_eq_false_iff_not, List.all_eq_true]
  have h1 : ((s.edges.any fun e => !(e.kind == 0)) = false) ↔ ∀ e ∈ s.edges, e.kind = 0 := by
    rw [List.any_eq_false]
    constructor
    · intro h e he; have := h e he; simpa using this
    · intro h e he; have := h e he; simp [this]
  have h2 : ((s.ends.any fun i => !okN N.states.length i) = false) ↔ ∀ i ∈ s.ends, 0 ≤ i ∧ i < N.states.length := by
    constructor
    · exact not_any_okN
    · intro h
      rw [List.any_eq_false]
      intro i hi
      have := okN_iff.2 (h i hi)
      simp [this]
  rw [h1, h2]
  constructor
  · rintro ⟨⟨⟨ha, hb⟩, hc⟩, hd⟩
    refine ⟨by omega, ha, ?_⟩
    rcases hb with hb | ⟨⟨⟨h3, h4⟩, h5⟩, h6⟩
    · exact .inl hb
    · exact .inr ⟨h3, h4, h5, h6⟩
  · rintro ⟨ha, hb, hc⟩
    refine ⟨⟨⟨hb, ?_⟩, by omega⟩, by omega⟩
    rcases hc with hc | ⟨h3, h4, h5, h6⟩
    · exact .inl hc
    · exact .inr ⟨⟨⟨h3, h4⟩, h5⟩, h6⟩
end
end Go.Proofs.Ytgdcnndmdgcjlaa
