/- The rows of nulls.Reach in memory. -/
import Derived.Test.YtnopnihdobedcaaReachLaw
namespace Go.Proofs.Ytnopnihdobedcaa
open Go.RowKit

theorem info_bools : (Try.prog.info? 29).map (fun i => (i.zero, i.size, i.bytes)) = some (some (.slice none 0 0), 1, 24) := by kernel_rfl
theorem made_ones (z : Value) (n : Nat) : madeCells #[z] n = (List.replicate n z).toArray := by
  apply Array.toList_inj.1
  rw [toList_madeCells_one]
theorem make_rows (n : Nat) (hn : n ≤ 1048576) (u : World) : (Instr.makeSlice 43 (.int .i64 (n : Int)) (.int .i64 (n : Int))).run Try.prog u =
    .ok (.slice (some ⟨u.heap.size, 0, none⟩) n n) (u.alloc (.cells (List.replicate n (.slice none 0 0)).toArray 29)) := by
  obtain ⟨i0, hi, hz0, hz1, hz2⟩ := info_parts info_bools
  have h := run_make (P := Try.prog) u 43 29 i0 (.slice none 0 0) Try.underlying43 hi hz0 .i64 .i64 (n : Int) (n : Int) (by omega) (Int.le_refl _) (by rw [hz2]; omega) (by omega)
  rw [Int.toNat_natCast, hz1, Nat.mul_one] at h
  rw [h, ← made_ones]
  rfl

/-- the slices of the rows, the first j of them made -/
def rowsL (f : Nat → Nat) (n j : Nat) : List Value := (List.range n).map fun k => if k < j then .slice (some ⟨f k, 0, none⟩) n n else .slice none 0 0
theorem rowsL_at (f : Nat → Nat) (n j k : Nat) (hk : k < n) : (rowsL f n j)[k]? = some (if k < j then .slice (some ⟨f k, 0, none⟩) n n else .slice none 0 0) := by
  simp [rowsL, hk]
theorem rowsL_zero (f : Nat → Nat) (n : Nat) : rowsL f n 0 = List.replicate n (.slice none 0 0) := by
  apply List.ext_getElem (by simp [rowsL])
  intro i h1 h2
  simp [rowsL]
theorem rowsL_next (f : Nat → Nat) (n j t : Nat) : (rowsL f n j).set j (.slice (some ⟨t, 0, none⟩) n n) = rowsL (fun k => if k = j then t else f k) n (j + 1) := by
  apply List.ext_getElem (by simp [rowsL])
  intro i h1 h2
  have hi : i < n := by simpa [rowsL] using h2
  rw [List.getElem_set]
  split
  · rename_i e; subst e; simp [rowsL]
  · rename_i e
    simp only [rowsL, List.getElem_map, List.getElem_range]
    have : ¬ i = j := fun x => e x.symm
    by_cases h : i < j
    · have h' : i < j + 1 := by omega
      simp [h, h', this]
    · have h' : ¬ i < j + 1 := by omega
      simp [h, h']

/-- the rows, the first j of them made -/
structure Mat (W : World) (B ob rb n j : Nat) (f : Nat → Nat) (row : Nat → List Bool) : Prop where
  o : Owns W ob [.slice (some ⟨rb, 0, none⟩) n n] 43
  r : Owns W rb (rowsL f n j) 29
  rows : ∀ i, i < j → Owns W (f i) ((row i).map .bool) 4
  len : ∀ i, i < j → (row i).length = n
  inj : ∀ i k, i < j → k < j → i ≠ k → f i ≠ f k
  lo : ∀ i, i < j → B ≤ f i
  ob_lt : ob < B
  rb_lt : rb < B
  ne : ob ≠ rb
  jn : j ≤ n

theorem Mat.keep {W W' : World} {B ob rb n j : Nat} {f : Nat → Nat} {row : Nat → List Bool} (h : Mat W B ob rb n j f row) (hg : Grew W W') : Mat W' B ob rb n j f row :=
  ⟨h.o.keep hg, h.r.keep hg, fun i hi => (h.rows i hi).keep hg, h.len, h.inj, h.lo, h.ob_lt, h.rb_lt, h.ne, h.jn⟩

/-- a row more -/
theorem Mat.next {W W' : World} {B ob rb n j t : Nat} {f : Nat → Nat} {row : Nat → List Bool} {l : List Bool} (h : Mat W B ob rb n j f row) (hg : Upd t (W.setCell ⟨rb, j, none⟩ (.slice (some ⟨t, 0, none⟩) n n)) W') (ht : Owns W' t (l.map .bool) 4) (hl : l.length = n)
    (hB : B ≤ t) (hnew : ∀ i, i < j → f i ≠ t) (hj : j < n) : Mat W' B ob rb n (j + 1) (fun k => if k = j then t else f k) (fun k => if k = j then l else row k) := by
  have hb : rb < B := h.rb_lt
  have ho : ob < B := h.ob_lt
  refine ⟨(h.o.other (by simpa using fun e => h.ne e.symm) _).upd hg (by omega), ?_, fun i hi => ?_, fun i hi => ?_, fun i k hi hk hne => ?_, fun i hi => ?_, ho, hb, h.ne, by omega⟩
  · have := (h.r.set j (.slice (some ⟨t, 0, none⟩) n n)).upd hg (by omega)
    rwa [rowsL_next] at this
  · by_cases e : i = j
    · subst e; simpa using ht
    · have hi' : i < j := by omega
      have h1 := h.lo i hi'
      have := ((h.rows i hi').other (a := ⟨rb, j, none⟩) (by show rb ≠ f i; omega) (.slice (some ⟨t, 0, none⟩) n n)).upd hg (hnew i hi')
      simpa [e] using this
  · by_cases e : i = j
    · subst e; simpa using hl
    · simpa [e] using h.len i (by omega)
  · by_cases e : i = j
    · subst e
      have : ¬ k = i := fun x => hne x.symm
      simp only [if_true, this, if_false]
      exact fun x => hnew k (by omega) x.symm
    · by_cases e2 : k = j
      · subst e2
        simp only [e, if_false, if_true]
        exact hnew i (by omega)
      · simp only [e, e2, if_false]
        exact h.inj i k (by omega) (by omega) hne
  · by_cases e : i = j
    · subst e; simpa using hB
    · simpa [e] using h.lo i (by omega)

/-- one cell of the square is written -/
theorem Mat.put {W : World} {B ob rb n : Nat} {f : Nat → Nat} {M : List (List Bool)} (h : Mat W B ob rb n n f (fun i => M.getD i [])) (hs : Square n M) {i k : Nat} (hi : i < n) (b : Bool) :
    Mat (W.setCell ⟨f i, k, none⟩ (.bool b)) B ob rb n n f (fun j => (set2 M i k b).getD j []) := by
  have h1 := h.lo i hi
  have hb : rb < B := h.rb_lt
  have ho : ob < B := h.ob_lt
  have hget : ∀ j, (set2 M i k b).getD j [] = if j = i then (M.getD i []).set k b else M.getD j [] := by
    intro j
    unfold set2
    by_cases e : j = i
    · subst e; simp [List.getD_eq_getElem?_getD, hs.1, hi]
    · simp only [List.getD_eq_getElem?_getD, List.getElem?_set_ne (fun x => e x.symm), e, if_false]
  refine ⟨h.o.other (by show f i ≠ ob; omega) _, h.r.other (by show f i ≠ rb; omega) _, fun j hj => ?_, fun j hj => ?_, h.inj, h.lo, ho, hb, h.ne, h.jn⟩
  · rw [hget]
    by_cases e : j = i
    · subst e
      simp only [if_true]
      have := (h.rows j hj).set k (.bool b)
      rwa [← List.map_set] at this
    · simp only [e, if_false]
      exact (h.rows j hj).other (by show f i ≠ f j; exact h.inj i j hi hj (fun x => e x.symm)) _
  · rw [hget]
    split
    · rename_i e; subst e; simpa using h.len j hj
    · exact h.len j hj

theorem Mat.cell {W : World} {B ob rb n : Nat} {f : Nat → Nat} {M : List (List Bool)} (h : Mat W B ob rb n n f (fun i => M.getD i [])) {i k : Nat} (hi : i < n) (hk : k < n) : W.cell? ⟨f i, k, none⟩ = some (.bool (at2 M i k)) := by
  have h1 := h.rows i hi
  have h2 := h.len i hi
  refine h1.cell_at ?_
  unfold at2
  rw [List.getElem?_map, List.getElem?_eq_getElem (by omega), List.getD_eq_getElem?_getD (l := M.getD i []), List.getElem?_eq_getElem (by omega)]
  rfl
theorem Mat.row {W : World} {B ob rb n j : Nat} {f : Nat → Nat} {row : Nat → List Bool} (h : Mat W B ob rb n j f row) {i : Nat} (hi : i < j) : W.cell? ⟨rb, i, none⟩ = some (.slice (some ⟨f i, 0, none⟩) n n) := by
  have := h.jn
  rw [h.r.cell, rowsL_at _ _ _ _ (by omega), if_pos hi]
theorem Mat.congr {W : World} {B ob rb n j : Nat} {f : Nat → Nat} {row row' : Nat → List Bool} (h : Mat W B ob rb n j f row) (he : ∀ i, i < j → row i = row' i) : Mat W B ob rb n j f row' :=
  ⟨h.o, h.r, fun i hi => by rw [← he i hi]; exact h.rows i hi, fun i hi => by rw [← he i hi]; exact h.len i hi, h.inj, h.lo, h.ob_lt, h.rb_lt, h.ne, h.jn⟩
end Go.Proofs.Ytnopnihdobedcaa
