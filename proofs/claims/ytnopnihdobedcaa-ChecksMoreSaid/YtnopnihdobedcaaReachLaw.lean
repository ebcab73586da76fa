/- What is reached from rule to rule: rounds over those that lie between. No program in sight. -/
import Derived.Test.YtnopnihdobedcaaReaches
namespace Go.Proofs.Ytnopnihdobedcaa
open Go.RowKit

def at2 (M : List (List Bool)) (i k : Nat) : Bool := (M.getD i []).getD k false
def set2 (M : List (List Bool)) (i k : Nat) (b : Bool) : List (List Bool) := M.set i ((M.getD i []).set k b)

/-- reached, by so many steps as there are -/
inductive Tc (O : Nat → Nat → Prop) : Nat → Nat → Prop
  | one {i k : Nat} (h : O i k) : Tc O i k
  | more {i j k : Nat} (h : O i j) (t : Tc O j k) : Tc O i k
theorem Tc.trans {O : Nat → Nat → Prop} {i j k : Nat} (h : Tc O i j) (t : Tc O j k) : Tc O i k := by
  induction h with
  | one h => exact .more h t
  | more h _ ih => exact .more h (ih t)

/-- reached, by way of those below b -/
def Via (O : Nat → Nat → Prop) : Nat → Nat → Nat → Prop
  | 0, i, k => O i k
  | b + 1, i, k => Via O b i k ∨ (Via O b i b ∧ Via O b b k)
theorem Via.once {O : Nat → Nat → Prop} : ∀ (b : Nat) {i k : Nat}, O i k → Via O b i k
  | 0, _, _, h => h
  | b + 1, _, _, h => .inl (Via.once b h)
theorem Via.trans {O : Nat → Nat → Prop} : ∀ (b : Nat) {i j k : Nat}, j < b → Via O b i j → Via O b j k → Via O b i k
  | 0, _, _, _, h, _, _ => absurd h (by omega)
  | b + 1, i, j, k, hj, h1, h2 => by
    by_cases e : j = b
    · subst e
      have a : Via O j i j := h1.elim id (·.1)
      have c : Via O j j k := h2.elim id (·.2)
      exact .inr ⟨a, c⟩
    · have hlt : j < b := by omega
      rcases h1 with h1 | ⟨h1, h1'⟩ <;> rcases h2 with h2 | ⟨h2, h2'⟩
      · exact .inl (Via.trans b hlt h1 h2)
      · exact .inr ⟨Via.trans b hlt h1 h2, h2'⟩
      · exact .inr ⟨h1, Via.trans b hlt h1' h2⟩
      · exact .inr ⟨h1, h2'⟩
theorem Via.of_tc {O : Nat → Nat → Prop} {n : Nat} (hO : ∀ i k, O i k → k < n) {i k : Nat} (h : Tc O i k) : Via O n i k := by
  induction h with
  | one h => exact Via.once n h
  | more h _ ih => exact Via.trans n (hO _ _ h) (Via.once n h) ih

/-- a square of bools -/
def Square (n : Nat) (M : List (List Bool)) : Prop := M.length = n ∧ ∀ i (h : i < M.length), M[i].length = n
theorem Square.set {n : Nat} {M : List (List Bool)} (h : Square n M) (i k : Nat) (b : Bool) : Square n (set2 M i k b) := by
  unfold set2
  refine ⟨by simp [h.1], fun j hj => ?_⟩
  rw [List.getElem_set]
  have hj' : j < M.length := by simpa using hj
  split
  · rename_i e
    subst e
    simp [List.getD_eq_getElem?_getD, hj', h.2 i hj']
  · exact h.2 j hj'
theorem at2_set {n : Nat} {M : List (List Bool)} (h : Square n M) {i k : Nat} (hi : i < n) (hk : k < n) (b : Bool) (i' k' : Nat) : at2 (set2 M i k b) i' k' = if i' = i ∧ k' = k then b else at2 M i' k' := by
  have hi' : i < M.length := by rw [h.1]; exact hi
  have hk' : k < M[i].length := by rw [h.2 i hi']; exact hk
  unfold at2 set2
  by_cases e : i' = i
  · subst e
    simp only [List.getD_eq_getElem?_getD, List.getElem?_set_self hi', Option.getD_some, List.getElem?_eq_getElem hi', true_and]
    by_cases e2 : k' = k
    · subst e2
      simp [hk']
    · rw [List.getElem?_set_ne (fun x => e2 x.symm)]
      simp [e2]
  · simp only [List.getD_eq_getElem?_getD, List.getElem?_set_ne (fun x => e x.symm)]
    simp [e]

/-- between rounds, and within one: all below (i, k) are done -/
def Round (O : Nat → Nat → Prop) (n : Nat) (M : List (List Bool)) (by_ i k : Nat) : Prop :=
  Square n M ∧ (∀ a b, at2 M a b = true → Tc O a b) ∧ (∀ a b, a < n → b < n → Via O by_ a b → at2 M a b = true) ∧
    ∀ a b, a < n → b < n → (a < i ∨ (a = i ∧ b < k)) → Via O (by_ + 1) a b → at2 M a b = true

theorem Round.step {O : Nat → Nat → Prop} {n : Nat} {M : List (List Bool)} {by_ i k : Nat} (h : Round O n M by_ i k) (hb : by_ < n) (hi : i < n) (hk : k < n) :
    Round O n (set2 M i k (at2 M i k || (at2 M i by_ && at2 M by_ k))) by_ i (k + 1) := by
  obtain ⟨h1, h2, h3, h4⟩ := h
  have hs := at2_set h1 hi hk (at2 M i k || (at2 M i by_ && at2 M by_ k))
  refine ⟨h1.set i k _, fun a b hab => ?_, fun a b ha hb' hv => ?_, fun a b ha hb' hd hv => ?_⟩
  · rw [hs] at hab
    split at hab
    · rename_i e
      obtain ⟨rfl, rfl⟩ := e
      simp only [Bool.or_eq_true, Bool.and_eq_true] at hab
      rcases hab with hab | ⟨hab, hab'⟩
      · exact h2 _ _ hab
      · exact (h2 _ _ hab).trans (h2 _ _ hab')
    · exact h2 _ _ hab
  · rw [hs]
    have := h3 a b ha hb' hv
    split
    · rename_i e; obtain ⟨rfl, rfl⟩ := e; rw [this]; rfl
    · exact this
  · rw [hs]
    split
    · rename_i e
      obtain ⟨rfl, rfl⟩ := e
      rcases hv with hv | ⟨hv, hv'⟩
      · rw [h3 _ _ ha hb' hv]; rfl
      · rw [h3 _ _ ha hb hv, h3 _ _ hb hb' hv']; simp
    · rename_i e
      refine h4 a b ha hb' ?_ hv
      rcases hd with hd | ⟨hd, hd'⟩
      · exact .inl hd
      · refine .inr ⟨hd, ?_⟩
        have : b ≠ k := fun x => e ⟨hd, x⟩
        omega
theorem Round.row {O : Nat → Nat → Prop} {n : Nat} {M : List (List Bool)} {by_ i : Nat} (h : Round O n M by_ i n) : Round O n M by_ (i + 1) 0 :=
  ⟨h.1, h.2.1, h.2.2.1, fun a b ha hb hd hv => h.2.2.2 a b ha hb (by omega) hv⟩
theorem Round.next {O : Nat → Nat → Prop} {n : Nat} {M : List (List Bool)} {by_ : Nat} (h : Round O n M by_ n 0) : Round O n M (by_ + 1) 0 0 :=
  ⟨h.1, h.2.1, fun a b ha hb hv => h.2.2.2 a b ha hb (by omega) hv, fun a b _ _ hd => absurd hd (by omega)⟩
theorem Round.start {O : Nat → Nat → Prop} {n : Nat} {M : List (List Bool)} (hs : Square n M) (h : ∀ a b, at2 M a b = true ↔ O a b) : Round O n M 0 0 0 :=
  ⟨hs, fun a b hab => .one ((h a b).1 hab), fun a b _ _ hv => (h a b).2 hv, fun a b _ _ hd => absurd hd (by omega)⟩

/-- a square that tells what is reached -/
structure IsReach (O : Nat → Nat → Prop) (n : Nat) (M : List (List Bool)) : Prop where
  sq : Square n M
  tc : ∀ a b, at2 M a b = true ↔ Tc O a b
theorem Round.done {O : Nat → Nat → Prop} {n : Nat} {M : List (List Bool)} (h : Round O n M n 0 0) (hO : ∀ i k, O i k → i < n ∧ k < n) : IsReach O n M := by
  refine ⟨h.1, fun a b => ⟨h.2.1 a b, fun ht => ?_⟩⟩
  have hab : a < n ∧ b < n := by
    induction ht with
    | one h => exact hO _ _ h
    | more h _ ih => exact ⟨(hO _ _ h).1, ih.2⟩
  exact h.2.2.1 a b hab.1 hab.2 (Via.of_tc (fun i k h => (hO i k h).2) ht)

/-- the row of a rule, at once -/
def Gr.onceRow (g : Gr) (es : List Bool) (i : Nat) : List Bool :=
  match g.rules[i]? with
  | some r => g.marks es r.token r.body (List.replicate g.rules.length false)
  | none => []
def Gr.onceM (g : Gr) (es : List Bool) : List (List Bool) := (List.range g.rules.length).map (g.onceRow es)
def Gr.Once (g : Gr) (es : List Bool) (i k : Nat) : Prop := at2 (g.onceM es) i k = true

mutual
theorem marks_length (g : Gr) (es : List Bool) (token : Bool) : ∀ (n : Nd) (l : List Bool), (g.marks es token n l).length = l.length
  | .mk k nm tx set subs, l => by
    rw [Gr.marks]
    split
    · exact marksSeq_length g es token subs l
    · split
      · exact marksAll_length g es token subs l
      · split
        · split <;> simp
        · rfl
theorem marksSeq_length (g : Gr) (es : List Bool) (token : Bool) : ∀ (ns : List Nd) (l : List Bool), (g.marksSeq es token ns l).length = l.length
  | [], l => rfl
  | n :: r, l => by
    rw [Gr.marksSeq]
    split
    · rw [marksSeq_length g es token r, marks_length g es token n]
    · exact marks_length g es token n l
theorem marksAll_length (g : Gr) (es : List Bool) (token : Bool) : ∀ (ns : List Nd) (l : List Bool), (g.marksAll es token ns l).length = l.length
  | [], l => rfl
  | n :: r, l => by rw [Gr.marksAll, marksAll_length g es token r, marks_length g es token n]
end
theorem onceRow_length (g : Gr) (es : List Bool) (i : Nat) (hi : i < g.rules.length) : (g.onceRow es i).length = g.rules.length := by
  unfold Gr.onceRow
  simp [hi, marks_length]
theorem onceM_square (g : Gr) (es : List Bool) : Square g.rules.length (g.onceM es) := by
  refine ⟨by simp [Gr.onceM], fun i hi => ?_⟩
  have hi' : i < g.rules.length := by simpa [Gr.onceM] using hi
  simp only [Gr.onceM, List.getElem_map, List.getElem_range]
  exact onceRow_length g es i hi'
theorem at2_lt {n : Nat} {M : List (List Bool)} (h : Square n M) {i k : Nat} (ha : at2 M i k = true) : i < n ∧ k < n := by
  unfold at2 at ha
  have hi : i < M.length := by
    rcases Nat.lt_or_ge i M.length with h' | h'
    · exact h'
    · simp [List.getD_eq_getElem?_getD, List.getElem?_eq_none h'] at ha
  refine ⟨by rw [← h.1]; exact hi, ?_⟩
  rw [← h.2 i hi]
  rcases Nat.lt_or_ge k M[i].length with h' | h'
  · exact h'
  · simp [List.getD_eq_getElem?_getD, hi, List.getElem?_eq_none h'] at ha
end Go.Proofs.Ytnopnihdobedcaa
