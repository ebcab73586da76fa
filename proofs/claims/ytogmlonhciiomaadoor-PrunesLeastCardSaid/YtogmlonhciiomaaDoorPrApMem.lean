/- The matrix of the document's Apart in memory. -/
import Derived.Test.YtogmlonhciiomaaDoorPrApLaw
import Derived.Test.YtogmlonhciiomaaDoorPrRef2
namespace Go.Proofs.YtogmlonhciiomaaDoor
open Go.RowKit

theorem info_pbools : (Tryd.prog.info? 72).map (fun i => (i.zero, i.size, i.bytes)) = some (some (.slice none 0 0), 1, 24) := by kernel_rfl
theorem pmake_rows (n : Nat) (hn : n ≤ 1048576) (u : World) : (Instr.makeSlice 79 (.int .i64 (n : Int)) (.int .i64 (n : Int))).run Tryd.prog u =
    .ok (.slice (some ⟨u.heap.size, 0, none⟩) n n) (u.alloc (.cells (List.replicate n (.slice none 0 0)).toArray 72)) := by
  obtain ⟨i0, hi, hz0, hz1, hz2⟩ := info_parts info_pbools
  have h := run_make (P := Tryd.prog) u 79 72 i0 (.slice none 0 0) Tryd.underlying79 hi hz0 .i64 .i64 (n : Int) (n : Int) (by omega) (Int.le_refl _) (by rw [hz2]; omega) (by omega)
  rw [Int.toNat_natCast, hz1, Nat.mul_one] at h
  rw [h, ← pmade_ones]
  rfl
/-- the cells of a row of bools -/
def bcells (n : Nat) (h : Nat → Bool) : List Value := (List.range (n + 1)).map fun i => .bool (h i)
theorem bcells_at {n i : Nat} (h : Nat → Bool) (hi : i ≤ n) : (bcells n h)[i]? = some (.bool (h i)) := by
  unfold bcells
  rw [List.getElem?_map, List.getElem?_range (by omega)]
  rfl
theorem bcells_false (n : Nat) : List.replicate (n + 1) (Value.bool false) = bcells n fun _ => false := by
  unfold bcells
  apply List.ext_getElem <;> simp
theorem bcells_set {n i : Nat} (h : Nat → Bool) (b : Bool) : (bcells n h).set i (.bool b) = bcells n fun j => if j = i then b else h j := by
  unfold bcells
  apply List.ext_getElem
  · simp
  · intro k h1 h2
    rw [List.getElem_set]
    simp only [List.getElem_map, List.getElem_range]
    by_cases e : i = k
    · subst e; simp
    · have e' : ¬ k = i := fun x => e x.symm
      rw [if_neg e, if_neg e']
/-- the slices of the rows, the first j of them made -/
def mrows (f : Nat → Nat) (n j : Nat) : List Value := (List.range (n + 1)).map fun k => if k < j then .slice (some ⟨f k, 0, none⟩) (n + 1) (n + 1) else .slice none 0 0
theorem mrows_at (f : Nat → Nat) (n j k : Nat) (hk : k ≤ n) (hj : k < j) : (mrows f n j)[k]? = some (.slice (some ⟨f k, 0, none⟩) (n + 1) (n + 1)) := by
  unfold mrows
  rw [List.getElem?_map, List.getElem?_range (by omega)]
  simp [hj]
theorem mrows_get (f : Nat → Nat) (n j k : Nat) (hk : k ≤ n) : ∃ v, (mrows f n j)[k]? = some v := by
  unfold mrows
  rw [List.getElem?_map, List.getElem?_range (by omega)]
  exact ⟨_, rfl⟩
theorem mrows_zero (f : Nat → Nat) (n : Nat) : List.replicate (n + 1) (Value.slice none 0 0) = mrows f n 0 := by
  apply List.ext_getElem (by simp [mrows])
  intro i h1 h2
  simp [mrows]
theorem mrows_next (f : Nat → Nat) (n j t : Nat) : (mrows f n j).set j (.slice (some ⟨t, 0, none⟩) (n + 1) (n + 1)) = mrows (fun k => if k = j then t else f k) n (j + 1) := by
  apply List.ext_getElem (by simp [mrows])
  intro i h1 h2
  rw [List.getElem_set]
  split
  · rename_i e; subst e; simp [mrows]
  · rename_i e
    simp only [mrows, List.getElem_map, List.getElem_range]
    have : ¬ i = j := fun x => e x.symm
    by_cases h : i < j
    · have h' : i < j + 1 := by omega
      simp [h, h', this]
    · have h' : ¬ i < j + 1 := by omega
      simp [h, h']

/-- the matrix, the first J rows of it made; bv: what the argument's box holds -/
structure MAt (W w : World) (bv : Value) (X n J : Nat) (f : Nat → Nat) (g : Nat → Nat → Bool) : Prop where
  low : Grew W w
  box : Owns w W.heap.size [bv] 31
  tab : Owns w X (mrows f n J) 72
  cells : ∀ s, s < J → Owns w (f s) (bcells n (g s)) 4
  lo : ∀ s, s < J → W.heap.size < f s
  xlo : W.heap.size < X
  inj : ∀ s s', s < J → s' < J → f s = f s' → s = s'
  ne : ∀ s, s < J → f s ≠ X

section
variable {W w w' : World} {bv : Value} {X n J : Nat} {f : Nat → Nat} {g : Nat → Nat → Bool}
theorem MAt.keep (h : MAt W w bv X n J f g) (hg : Grew w w') : MAt W w' bv X n J f g :=
  ⟨h.low.trans hg, h.box.keep hg, h.tab.keep hg, fun s hs => (h.cells s hs).keep hg, h.lo, h.xlo, h.inj, h.ne⟩
theorem MAt.cell (h : MAt W w bv X n J f g) {s i : Nat} (hs : s < J) (hi : i ≤ n) : w.cell? ⟨f s, i, none⟩ = some (.bool (g s i)) := (h.cells s hs).cell_at (bcells_at _ hi)
theorem MAt.row (h : MAt W w bv X n J f g) {s : Nat} (hs : s < J) (hn : s ≤ n) : w.cell? ⟨X, s, none⟩ = some (.slice (some ⟨f s, 0, none⟩) (n + 1) (n + 1)) := h.tab.cell_at (mrows_at f n J s hn hs)
theorem MAt.put (h : MAt W w bv X n J f g) {s i : Nat} (hs : s < J) (b : Bool) : MAt W (w.setCell ⟨f s, i, none⟩ (.bool b)) bv X n J f (updG g s i b) := by
  have h1 := h.lo s hs
  refine ⟨Below.setCell h.low (p := ⟨f s, i, none⟩) (Nat.le_of_lt h1) _, h.box.other (by show f s ≠ W.heap.size; omega) _, h.tab.other (h.ne s hs) _, fun s' hs' => ?_, h.lo, h.xlo, h.inj, h.ne⟩
  by_cases e : s' = s
  · subst e
    have := (h.cells s' hs').set i (.bool b)
    rw [bcells_set] at this
    have he : (fun j => if j = i then b else g s' j) = updG g s' i b s' := by
      funext j
      unfold updG
      simp
    rwa [he] at this
  · have he : updG g s i b s' = g s' := by
      funext j
      exact updG_ne fun x => e x.1
    rw [he]
    exact (h.cells s' hs').other (by show f s ≠ f s'; exact fun x => e (h.inj _ _ hs' hs x.symm)) _
theorem MAt.congr (h : MAt W w bv X n J f g) {g' : Nat → Nat → Bool} (he : ∀ s, s < J → ∀ i, i ≤ n → g s i = g' s i) : MAt W w bv X n J f g' :=
  ⟨h.low, h.box, h.tab, fun s hs => by
    have : bcells n (g' s) = bcells n (g s) := by
      unfold bcells
      apply List.map_congr_left
      intro i hi
      rw [List.mem_range] at hi
      rw [he s hs i (by omega)]
    rw [this]
    exact h.cells s hs, h.lo, h.xlo, h.inj, h.ne⟩
/-- a row more -/
theorem MAt.next (h : MAt W w bv X n J f g) (hg : Grew w w') {t : Nat} (ht : Owns w' t (bcells n fun _ => false) 4) (hb : w.heap.size ≤ t) :
    MAt W (w'.setCell ⟨X, J, none⟩ (.slice (some ⟨t, 0, none⟩) (n + 1) (n + 1))) bv X n (J + 1) (fun s => if s = J then t else f s) (fun s => if s = J then (fun _ => false) else g s) := by
  have hx := h.tab.lt
  have hbx := h.box.lt
  have hlt : ∀ s, s < J → f s < w.heap.size := fun s hs => (h.cells s hs).lt
  have hxl := h.xlo
  refine ⟨Below.setCell (h.low.trans hg) (p := ⟨X, J, none⟩) (Nat.le_of_lt h.xlo) _, (h.box.keep hg).other (by show X ≠ W.heap.size; omega) _, ?_, fun s hs => ?_, fun s hs => ?_, h.xlo, fun s s' hs hs' e => ?_, fun s hs => ?_⟩
  · have := (h.tab.keep hg).set J (.slice (some ⟨t, 0, none⟩) (n + 1) (n + 1))
    rwa [mrows_next] at this
  · by_cases e : s = J
    · simp only [e, if_true]
      exact ht.other (by show X ≠ t; omega) _
    · have hs' : s < J := by omega
      simp only [e, if_false]
      exact ((h.cells s hs').keep hg).other (fun x => h.ne s hs' x.symm) _
  · by_cases e : s = J
    · simp only [e, if_true]; omega
    · simp only [e, if_false]; exact h.lo s (by omega)
  · by_cases e1 : s = J
    · by_cases e2 : s' = J
      · omega
      · simp only [e1, e2, if_true, if_false] at e
        have := hlt s' (by omega)
        omega
    · by_cases e2 : s' = J
      · simp only [e1, e2, if_true, if_false] at e
        have := hlt s (by omega)
        omega
      · simp only [e1, e2, if_false] at e
        exact h.inj _ _ (by omega) (by omega) e
  · by_cases e : s = J
    · simp only [e, if_true]; omega
    · simp only [e, if_false]; exact h.ne s (by omega)
theorem MAt.start (hg : Grew W w) (hb : Owns w W.heap.size [bv] 31) (ht : Owns w X (List.replicate (n + 1) (.slice none 0 0)) 72) (hx : W.heap.size < X) : MAt W w bv X n 0 (fun _ => 0) (fun _ _ => false) :=
  ⟨hg, hb, by rw [← mrows_zero]; exact ht, fun s h => absurd h (by omega), fun s h => absurd h (by omega), hx, fun s s' h => absurd h (by omega), fun s h => absurd h (by omega)⟩
end
end Go.Proofs.YtogmlonhciiomaaDoor
