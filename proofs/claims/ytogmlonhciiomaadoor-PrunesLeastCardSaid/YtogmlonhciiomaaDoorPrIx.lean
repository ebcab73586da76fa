/- The first place in a list. -/
import Derived.Test.YtogmlonhciiomaaDoorPrMem
import Derived.Lib.Hide
import Derived.Outline
namespace Go.Proofs.YtogmlonhciiomaaDoor
open Go.RowKit

/-- the first place in a list; below 0: none -/
def ixOf {α : Type} (l : List α) (q : α → Bool) : Int :=
  match l.findIdx? q with
  | some i => i
  | none => -1

theorem ixOf_at {α : Type} {l : List α} {q : α → Bool} {j : Nat} (hj : j < l.length) (h : ∀ i (hi : i < l.length), i < j → q l[i] = false) (hq : q l[j] = true) : ixOf l q = j := by
  unfold ixOf
  have : l.findIdx? q = some j := by
    rw [List.findIdx?_eq_some_iff_getElem]
    exact ⟨hj, hq, fun i hi => by simpa using h i (by omega) hi⟩
  rw [this]
theorem ixOf_none {α : Type} {l : List α} {q : α → Bool} (h : ∀ i (hi : i < l.length), q l[i] = false) : ixOf l q = -1 := by
  unfold ixOf
  have : l.findIdx? q = none := by
    rw [List.findIdx?_eq_none_iff]
    intro x hx
    obtain ⟨i, hi, rfl⟩ := List.mem_iff_getElem.1 hx
    simpa using h i hi
  rw [this]

theorem ixOf_cases {α : Type} (l : List α) (q : α → Bool) : (ixOf l q = -1 ∧ ∀ i (hi : i < l.length), q l[i] = false) ∨ ∃ j, ∃ hj : j < l.length, ixOf l q = j ∧ q l[j] = true ∧ ∀ i (hi : i < l.length), i < j → q l[i] = false := by
  unfold ixOf
  cases h : l.findIdx? q with
  | none =>
    rw [List.findIdx?_eq_none_iff] at h
    exact .inl ⟨rfl, fun i hi => by simpa using h _ (List.getElem_mem hi)⟩
  | some j =>
    rw [List.findIdx?_eq_some_iff_getElem] at h
    obtain ⟨hj, hq, hn⟩ := h
    exact .inr ⟨j, hj, rfl, hq, fun i hi hlt => by simpa using hn i hlt⟩

/-- so far none -/
def NoneTo {α : Type} (l : List α) (q : α → Bool) (j : Nat) : Prop := ∀ i (hi : i < l.length), i < j → q l[i] = false
theorem noneTo_next {α : Type} {l : List α} {q : α → Bool} {j : Nat} (h : NoneTo l q j) (hj : j < l.length) (hq : q l[j] = false) : NoneTo l q (j + 1) := by
  intro i hi hlt
  by_cases e : i = j
  · subst e; exact hq
  · exact h i hi (by omega)

/-- a function with a body is entered -/
def Enters (F : Nat) : Prop := ∀ (args : Array Value) (w : World), (callFunc F args).run Tryd.prog w = .ok (.enter F args) w

theorem pixOf_any {α : Type} (l : List α) (q : α → Bool) : decide (0 ≤ ixOf l q) = l.any q := by
  rcases ixOf_cases l q with ⟨h, hn⟩ | ⟨j, hj, h, hq, _⟩
  · rw [h]
    symm
    have : l.any q = false := by
      rw [List.any_eq_false]
      intro x hx
      obtain ⟨i, hi, rfl⟩ := List.mem_iff_getElem.1 hx
      simp [hn i hi]
    rw [this]; rfl
  · rw [h]
    have : l.any q = true := List.any_eq_true.2 ⟨l[j], List.getElem_mem hj, hq⟩
    rw [this]
    simp

end Go.Proofs.YtogmlonhciiomaaDoor
