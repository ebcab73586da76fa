/- A block of the call's own, known whole; a scope with a label to which it jumps back. -/
import Derived.Test.YtdgkpmpakkfgbaaGreatDoorHav
import Derived.Lib.Hide
import Derived.ScopeJumps
import Derived.Laws.OwnMore
namespace Go.Proofs.YtdgkpmpakkfgbaaGreatDoor
open Go.RowKit

/-- block b holds these cells, and may be written -/
def Owns (W : World) (b : Nat) (cs : List Value) (T : Nat) : Prop := W.heap[b]? = some (.cells cs.toArray T (0, 0))

theorem Owns.lt {W : World} {b : Nat} {cs : List Value} {T : Nat} (h : Owns W b cs T) : b < W.heap.size := (Array.getElem?_eq_some_iff.1 h).1
theorem Owns.cell {W : World} {b : Nat} {cs : List Value} {T : Nat} (h : Owns W b cs T) (i : Nat) : W.cell? ⟨b, i, none⟩ = cs[i]? := by
  unfold Owns at h
  simp [World.cell?, h]
theorem Owns.free {W : World} {b : Nat} {cs : List Value} {T : Nat} (h : Owns W b cs T) (i : Nat) : W.frozen? ⟨b, i, none⟩ = false := by
  unfold Owns at h
  simp [World.frozen?, h]
theorem Owns.keep {W W' : World} {b : Nat} {cs : List Value} {T : Nat} (h : Owns W b cs T) (hg : Grew W W') : Owns W' b cs T := by
  unfold Owns at *
  rw [hg.block b (Owns.lt h)]; exact h
theorem Owns.below {W W' : World} {b lim : Nat} {cs : List Value} {T : Nat} (h : Owns W b cs T) (hg : Below lim W W') (hb : b < lim) : Owns W' b cs T := by
  unfold Owns at *
  rw [hg.block b hb]; exact h
theorem Owns.set {W : World} {b : Nat} {cs : List Value} {T : Nat} (h : Owns W b cs T) (i : Nat) (v : Value) : Owns (W.setCell ⟨b, i, none⟩ v) b (cs.set i v) T := by
  unfold Owns at *
  simp [World.setCell, Array.getElem?_modify, h]
theorem Owns.other {W : World} {b : Nat} {cs : List Value} {T : Nat} (h : Owns W b cs T) {a : Addr} (hne : a.block ≠ b) (v : Value) : Owns (W.setCell a v) b cs T := by
  unfold Owns at *
  rw [Below.heap_setCell _ _ _ _ (fun e => hne e.symm)]; exact h
theorem Owns.alloc (W : World) (cs : List Value) (T : Nat) : Owns (W.alloc (.cells cs.toArray T)) W.heap.size cs T := by
  unfold Owns
  show (W.heap.push _)[W.heap.size]? = _
  simp
theorem Owns.cell_at {W : World} {b : Nat} {cs : List Value} {T : Nat} (h : Owns W b cs T) {i : Nat} {v : Value} (hi : cs[i]? = some v) : W.cell? ⟨b, i, none⟩ = some v := by rw [h.cell, hi]

section
variable {P : Program} {a : Act} {w : World} {Q : Exit → Act → World → Prop}
/-- a scope whose first statement stands ahead of a label to which it jumps back -/
theorem wp_scope_again {r1 rest : Code} {l : Nat} (J : Act → World → Prop) (μ : Act → World → Nat) (hf : findLabel (.seq r1 (.seq (.label l) rest)) l = some (.seq .skip rest))
    (first : r1.wp P (fun e a w => e = .normal ∧ J a w) a w)
    (pass : ∀ a w, J a w → rest.wp P (Exit.jump l (fun a' w' => J a' w' ∧ μ a' w' < μ a w) Q) a w) : (Code.scope (.seq r1 (.seq (.label l) rest))).wp P Q a w := by
  refine wp_scope_jumps l J μ hf ?_ fun a w hJ => wp_seq (wp_skip (pass a w hJ))
  refine wp_seq (Code.wp_mono ?_ first)
  rintro e a w ⟨rfl, hJ⟩
  refine wp_seq (wp_label (Code.wp_mono ?_ (pass a w hJ)))
  intro e a w hq
  cases e <;> first | exact hq | exact ⟨hq.1, hq.2.1⟩
end

/-- a frame, written out slot by slot -/
theorem act_lit (a : Act) (n : Nat) (hd : a.defers = []) (hs : a.tmps.size = n) : ∃ u : Nat → Value, (∀ k, a.tmps.getD k undef = u k) ∧ a = ⟨((List.range n).map u).toArray, []⟩ := by
  refine ⟨fun k => a.tmps.getD k undef, fun _ => rfl, ?_⟩
  obtain ⟨t, d⟩ := a
  simp only at hd hs
  subst hd
  congr 1
  apply Array.ext
  · simp [hs]
  · intro i h1 h2
    simp [h1]

theorem made_bools (n : Nat) : madeCells #[.bool false] n = (List.replicate n (Value.bool false)).toArray := by
  apply Array.toList_inj.1
  rw [toList_madeCells_one]
end Go.Proofs.YtdgkpmpakkfgbaaGreatDoor
