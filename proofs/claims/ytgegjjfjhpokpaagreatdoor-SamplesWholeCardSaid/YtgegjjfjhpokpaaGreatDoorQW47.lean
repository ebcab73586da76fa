/- Plain law: who goes on to whom, of rules that are no parser's, as it is marked node by node. -/
import Derived.Test.YtgegjjfjhpokpaaGreatDoorQW26
import Derived.Test.YtgegjjfjhpokpaaGreatDoorQW31
namespace Go.Proofs.YtgegjjfjhpokpaaGreatDoor

/-- is a rule marked for this node? -/
def Gr.rdHit (g : Gr) (r : Rl) (n : Nd) : Bool := n.isName && (!r.parser && (decide (0 ≤ g.find n.name) && !(g.sortAt (g.find n.name) == 0)))
def Gr.rdMark (g : Gr) (r : Rl) (l : List Bool) (n : Nd) : List Bool := if g.rdHit r n then l.set (g.find n.name).toNat true else l
def Gr.rdMarks (g : Gr) (r : Rl) (ns : List Nd) : List Bool := ns.foldl (g.rdMark r) (List.replicate g.rules.length false)
theorem rdMarks_snoc (g : Gr) (r : Rl) (ns : List Nd) (n : Nd) : g.rdMarks r (ns ++ [n]) = g.rdMark r (g.rdMarks r ns) n := by
  unfold Gr.rdMarks
  rw [List.foldl_append]
  rfl
theorem rdMark_length (g : Gr) (r : Rl) (l : List Bool) (n : Nd) : (g.rdMark r l n).length = l.length := by
  unfold Gr.rdMark
  split <;> simp
theorem rdMarks_length (g : Gr) (r : Rl) (ns : List Nd) : (g.rdMarks r ns).length = g.rules.length := by
  unfold Gr.rdMarks
  have : ∀ (ns : List Nd) (l : List Bool), (ns.foldl (g.rdMark r) l).length = l.length := by
    intro ns
    induction ns with
    | nil => intro l; rfl
    | cons n ns ih => intro l; rw [List.foldl_cons, ih, rdMark_length]
  rw [this]
  simp
theorem rdMarks_iff (g : Gr) (r : Rl) (k : Nat) (hk : k < g.rules.length) : ∀ (ns : List Nd) (l : List Bool), l.length = g.rules.length →
    ((ns.foldl (g.rdMark r) l).getD k false = true ↔ l.getD k false = true ∨ ∃ m ∈ ns, g.rdHit r m = true ∧ g.find m.name = (k : Int)) := by
  intro ns
  induction ns with
  | nil => intro l _; simp
  | cons n ns ih =>
    intro l hl
    rw [List.foldl_cons, ih _ (by rw [rdMark_length, hl])]
    have h1 : (g.rdMark r l n).getD k false = true ↔ l.getD k false = true ∨ (g.rdHit r n = true ∧ g.find n.name = (k : Int)) := by
      unfold Gr.rdMark
      split
      · next hh =>
        rw [getD_set]
        have hpos : 0 ≤ g.find n.name := by
          unfold Gr.rdHit at hh
          simp only [Bool.and_eq_true, decide_eq_true_eq] at hh
          exact hh.2.2.1
        split
        · next he =>
          refine ⟨fun _ => .inr ⟨hh, by omega⟩, fun _ => rfl⟩
        · next he =>
          refine ⟨.inl, fun h => h.elim id fun h => absurd ⟨by omega, by omega⟩ he⟩
      · next hh => exact ⟨.inl, fun h => h.elim id fun h => absurd h.1 hh⟩
    rw [h1]
    constructor
    · rintro ((h | h) | ⟨m, hm, h⟩)
      · exact .inl h
      · exact .inr ⟨n, List.mem_cons_self .., h⟩
      · exact .inr ⟨m, List.mem_cons_of_mem _ hm, h⟩
    · rintro (h | ⟨m, hm, h⟩)
      · exact .inl (.inl h)
      · rcases List.mem_cons.1 hm with rfl | hm
        · exact .inl (.inr h)
        · exact .inr ⟨m, hm, h⟩

def Gr.rdM (g : Gr) : List (List Bool) := g.rules.map fun r => g.rdMarks r r.body.all
theorem rdM_square (g : Gr) : Square g.rules.length g.rdM := by
  refine ⟨by simp [Gr.rdM], fun i h => ?_⟩
  simp only [Gr.rdM, List.getElem_map]
  exact rdMarks_length ..
theorem rdM_at (g : Gr) (i k : Nat) (hi : i < g.rules.length) : at2 g.rdM i k = (g.rdMarks g.rules[i] g.rules[i].body.all).getD k false := by
  unfold at2 Gr.rdM
  rw [List.getD_eq_getElem?_getD (l := List.map _ _), List.getElem?_map, List.getElem?_eq_getElem hi]
  rfl
theorem rdM_iff (g : Gr) (i k : Nat) : at2 g.rdM i k = true ↔ g.rd0 i k := by
  constructor
  · intro h
    obtain ⟨hi, hk⟩ := at2_lt (rdM_square g) h
    rw [rdM_at g i k hi] at h
    unfold Gr.rdMarks at h
    rw [rdMarks_iff g _ k hk _ _ (by simp)] at h
    rcases h with h | ⟨m, hm, h1, h2⟩
    · rw [List.getD_eq_getElem?_getD, List.getElem?_replicate] at h
      split at h <;> simp at h
    · unfold Gr.rdHit at h1
      rw [h2, sortAt_nat g k hk] at h1
      simp only [Bool.and_eq_true, Bool.not_eq_true'] at h1
      exact ⟨hi, hk, h1.2.1, h1.2.2.2, m, hm, h1.1, h2⟩
  · rintro ⟨hi, hk, h1, h2, m, hm, h3, h4⟩
    rw [rdM_at g i k hi]
    unfold Gr.rdMarks
    rw [rdMarks_iff g _ k hk _ _ (by simp)]
    refine .inr ⟨m, hm, ?_, h4⟩
    unfold Gr.rdHit
    rw [h3, h1, h4, sortAt_nat g k hk]
    have : (g.rules[k].sort == 0) = false := h2
    rw [this]
    simp
end Go.Proofs.YtgegjjfjhpokpaaGreatDoor

/- The rows of a square of bools in memory: the slices of the rows in block rb, the rows in blocks of their own. -/
namespace Go.Proofs.YtgegjjfjhpokpaaGreatDoor
open Go.RowKit

/-- the rows, the first j of them made -/
structure MatR (W : World) (B rb n j : Nat) (f : Nat → Nat) (row : Nat → List Bool) : Prop where
  r : Owns W rb (rowsL f n j) 119
  rows : ∀ i, i < j → Owns W (f i) ((row i).map .bool) 4
  len : ∀ i, i < j → (row i).length = n
  inj : ∀ i k, i < j → k < j → i ≠ k → f i ≠ f k
  lo : ∀ i, i < j → B ≤ f i
  rb_lt : rb < B
  jn : j ≤ n

theorem MatR.keep {W W' : World} {B rb n j : Nat} {f : Nat → Nat} {row : Nat → List Bool} (h : MatR W B rb n j f row) (hg : Grew W W') : MatR W' B rb n j f row :=
  ⟨h.r.keep hg, fun i hi => (h.rows i hi).keep hg, h.len, h.inj, h.lo, h.rb_lt, h.jn⟩
/-- wherever its blocks are kept -/
theorem MatR.of {W W' : World} {B rb n j : Nat} {f : Nat → Nat} {row : Nat → List Bool} (h : MatR W B rb n j f row) (hk : ∀ b cs T, (T = 119 ∨ T = 4) → Owns W b cs T → Owns W' b cs T) : MatR W' B rb n j f row :=
  ⟨hk _ _ _ (.inl rfl) h.r, fun i hi => hk _ _ _ (.inr rfl) (h.rows i hi), h.len, h.inj, h.lo, h.rb_lt, h.jn⟩

/-- a row more -/
theorem MatR.next {W W' : World} {B rb n j t : Nat} {f : Nat → Nat} {row : Nat → List Bool} {l : List Bool} (h : MatR W B rb n j f row) (hg : Upd t (W.setCell ⟨rb, j, none⟩ (.slice (some ⟨t, 0, none⟩) n n)) W') (ht : Owns W' t (l.map .bool) 4) (hl : l.length = n)
    (hB : B ≤ t) (hnew : ∀ i, i < j → f i ≠ t) (hj : j < n) : MatR W' B rb n (j + 1) (fun k => if k = j then t else f k) (fun k => if k = j then l else row k) := by
  have hb : rb < B := h.rb_lt
  refine ⟨?_, fun i hi => ?_, fun i hi => ?_, fun i k hi hk hne => ?_, fun i hi => ?_, hb, by omega⟩
  · have := (h.r.set j (.slice (some ⟨t, 0, none⟩) n n)).upd hg (by omega)
    rwa [rowsL_next] at this
  · by_cases e : i = j
    · subst e; simpa using ht
    · have hi' : i < j := by omega
      have h1 := h.lo i hi'
      have := ((h.rows i hi').other (a := ⟨rb, j, none⟩) (by show rb ≠ f i; omega) (.slice (some ⟨t, 0, none⟩) n n)).upd hg (hnew i hi')
      simpa [e] using this
  · by_cases e : i = j
    · subst e; simpa using hl
    · simpa [e] using h.len i (by omega)
  · by_cases e : i = j
    · subst e
      have : ¬ k = i := fun x => hne x.symm
      simp only [if_true, this, if_false]
      exact fun x => hnew k (by omega) x.symm
    · by_cases e2 : k = j
      · subst e2
        simp only [e, if_false, if_true]
        exact hnew i (by omega)
      · simp only [e, e2, if_false]
        exact h.inj i k (by omega) (by omega) hne
  · by_cases e : i = j
    · subst e; simpa using hB
    · simpa [e] using h.lo i (by omega)

/-- one cell of the square is written -/
theorem MatR.put {W : World} {B rb n : Nat} {f : Nat → Nat} {M : List (List Bool)} (h : MatR W B rb n n f (fun i => M.getD i [])) (hs : Square n M) {i k : Nat} (hi : i < n) (b : Bool) :
    MatR (W.setCell ⟨f i, k, none⟩ (.bool b)) B rb n n f (fun j => (set2 M i k b).getD j []) := by
  have h1 := h.lo i hi
  have hb : rb < B := h.rb_lt
  have hget : ∀ j, (set2 M i k b).getD j [] = if j = i then (M.getD i []).set k b else M.getD j [] := by
    intro j
    unfold set2
    by_cases e : j = i
    · subst e; simp [List.getD_eq_getElem?_getD, hs.1, hi]
    · simp only [List.getD_eq_getElem?_getD, List.getElem?_set_ne (fun x => e x.symm), e, if_false]
  refine ⟨h.r.other (by show f i ≠ rb; omega) _, fun j hj => ?_, fun j hj => ?_, h.inj, h.lo, hb, h.jn⟩
  · rw [hget]
    by_cases e : j = i
    · subst e
      simp only [if_true]
      have := (h.rows j hj).set k (.bool b)
      rwa [← List.map_set] at this
    · simp only [e, if_false]
      exact (h.rows j hj).other (by show f i ≠ f j; exact h.inj i j hi hj (fun x => e x.symm)) _
  · rw [hget]
    split
    · rename_i e; subst e; simpa using h.len j hj
    · exact h.len j hj

theorem MatR.cell {W : World} {B rb n : Nat} {f : Nat → Nat} {M : List (List Bool)} (h : MatR W B rb n n f (fun i => M.getD i [])) {i k : Nat} (hi : i < n) (hk : k < n) : W.cell? ⟨f i, k, none⟩ = some (.bool (at2 M i k)) := by
  have h1 := h.rows i hi
  have h2 := h.len i hi
  refine h1.cell_at ?_
  unfold at2
  rw [List.getElem?_map, List.getElem?_eq_getElem (by omega), List.getD_eq_getElem?_getD (l := M.getD i []), List.getElem?_eq_getElem (by omega)]
  rfl
theorem MatR.row {W : World} {B rb n j : Nat} {f : Nat → Nat} {row : Nat → List Bool} (h : MatR W B rb n j f row) {i : Nat} (hi : i < j) : W.cell? ⟨rb, i, none⟩ = some (.slice (some ⟨f i, 0, none⟩) n n) := by
  have := h.jn
  rw [h.r.cell, rowsL_at _ _ _ _ (by omega), if_pos hi]
theorem MatR.congr {W : World} {B rb n j : Nat} {f : Nat → Nat} {row row' : Nat → List Bool} (h : MatR W B rb n j f row) (he : ∀ i, i < j → row i = row' i) : MatR W B rb n j f row' :=
  ⟨h.r, fun i hi => by rw [← he i hi]; exact h.rows i hi, fun i hi => by rw [← he i hi]; exact h.len i hi, h.inj, h.lo, h.rb_lt, h.jn⟩
/-- of a square that nulls.Reach made -/
theorem Mat.matR {W : World} {B ob rb n j : Nat} {f : Nat → Nat} {row : Nat → List Bool} (h : Mat W B ob rb n j f row) : MatR W B rb n j f row := ⟨h.r, h.rows, h.len, h.inj, h.lo, h.rb_lt, h.jn⟩
end Go.Proofs.YtgegjjfjhpokpaaGreatDoor
