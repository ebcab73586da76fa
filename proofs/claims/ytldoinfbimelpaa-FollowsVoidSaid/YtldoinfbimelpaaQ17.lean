/- Making a slice lays a new block, whatever is asked. -/
import Derived.Test.YtldoinfbimelpaaQ4
import Derived.Test.YtldoinfbimelpaaQ1
namespace Go.Proofs.Ytldoinfbimelpaa
open Go.RowKit

def NewV (v : Value) (w w' : World) : Prop := ∃ g, v.ownBlock = some g ∧ w.heap.size ≤ g ∧ g < w'.heap.size
theorem run_make_new {P : Program} {w : World} {t e : TypeId} {i : TypeInfo} {z : Value} (ht : P.underlying t = some (.slice e)) (hi : P.info? e = some i) (hz : i.zero = some z) (x y : Value) (v : Value) (w' : World)
    (h : (Instr.makeSlice t x y).run P w = .ok v w') : NewV v w w' := by
  unfold Instr.makeSlice at h
  simp only [Sem.run_bind, run_underlying ht, Result.andThen_ok] at h
  have hx : (∃ a, (asInt x).run P w = .ok a w) ∨ (∃ q u, (asInt x).run P w = .halt q u) := by
    cases x <;> first | exact .inl ⟨_, rfl⟩ | exact .inr ⟨_, _, rfl⟩ | (rename_i o; cases o <;> first | exact .inl ⟨_, rfl⟩ | exact .inr ⟨_, _, rfl⟩)
  have hy : (∃ a, (asInt y).run P w = .ok a w) ∨ (∃ q u, (asInt y).run P w = .halt q u) := by
    cases y <;> first | exact .inl ⟨_, rfl⟩ | exact .inr ⟨_, _, rfl⟩ | (rename_i o; cases o <;> first | exact .inl ⟨_, rfl⟩ | exact .inr ⟨_, _, rfl⟩)
  rcases hx with ⟨a, hx⟩ | ⟨q, u, hx⟩
  · rcases hy with ⟨b, hy⟩ | ⟨q, u, hy⟩
    · rw [hx] at h
      simp only [Result.andThen_ok] at h
      rw [hy] at h
      simp only [Result.andThen_ok] at h
      have hti : (typeInfo e).run P w = .ok i w := by simp [typeInfo, hi]
      rw [hti] at h
      simp only [Result.andThen_ok] at h
      split at h
      · split at h
        · simp [Sem.run_bind, runtimePanic, goPanic, Result.andThen] at h
        · split at h
          · simp [Sem.run_bind, runtimePanic, goPanic, Result.andThen] at h
          · simp [Sem.run_bind, runtimePanic, goPanic, Result.andThen] at h
            revert h
            cases (Question.extern "makeslice.lenOrCap" 2).forced <;> intro h <;> simp at h
      · simp only [Sem.run_bind, run_askRoom, Result.andThen_ok, sizeOf, hti, Sem.run_pure] at h
        split at h
        · simp [newRow] at h
          obtain ⟨rfl, rfl⟩ := h
          exact ⟨_, rfl, Nat.le_refl _, by simp⟩
        · simp [newRow, zeroValue, hti, hz] at h
          obtain ⟨rfl, rfl⟩ := h
          exact ⟨_, rfl, Nat.le_refl _, by simp⟩
    · rw [hx] at h
      simp only [Result.andThen_ok] at h
      rw [hy] at h
      cases h
  · rw [hx] at h
    cases h
end Go.Proofs.Ytldoinfbimelpaa
