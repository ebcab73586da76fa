/- What the loops of the document's Apart keep. No program in sight. -/
import Derived.Test.YtogmlonhciiomaaDoorPrRef
namespace Go.Proofs.YtogmlonhciiomaaDoor

/-- a state's place, or none: behind all -/
def optN (n i : Nat) : Option Nat := if i = n then none else some i
def ixN (n : Nat) : Option Nat → Nat
  | none => n
  | some j => j
theorem optN_in {n i : Nat} (h : i ≤ n) : OIn n (optN n i) := fun j hj => by
  unfold optN at hj
  split at hj
  · cases hj
  · cases hj; omega
theorem optN_ix {n : Nat} {s : Option Nat} (h : OIn n s) : optN n (ixN n s) = s := by
  cases s with
  | none => simp [ixN, optN]
  | some j =>
    have := h j rfl
    unfold ixN optN
    rw [if_neg (by simp only; omega)]
theorem ixN_le {n : Nat} {s : Option Nat} (h : OIn n s) : ixN n s ≤ n := by
  cases s with
  | none => exact Nat.le_refl _
  | some j => have := h j rfl; show j ≤ n; omega
theorem oi_optN {n i : Nat} : oi (optN n i) = if i = n then -1 else (i : Int) := by
  unfold optN
  split <;> rfl

def updG (g : Nat → Nat → Bool) (s i : Nat) (b : Bool) : Nat → Nat → Bool := fun s' i' => if s' = s ∧ i' = i then b else g s' i'
theorem updG_same (g : Nat → Nat → Bool) (s i : Nat) (b : Bool) : updG g s i b s i = b := by simp [updG]
theorem updG_ne {g : Nat → Nat → Bool} {s i s' i' : Nat} {b : Bool} (h : ¬ (s' = s ∧ i' = i)) : updG g s i b s' i' = g s' i' := by unfold updG; rw [if_neg h]
theorem updG_old {g : Nat → Nat → Bool} {s i s' i' : Nat} (h : g s' i' = true) : updG g s i true s' i' = true := by unfold updG; split <;> simp_all

theorem filter_less {α : Type} {p q : α → Bool} : ∀ {l : List α}, (∀ x ∈ l, p x = true → q x = true) → ∀ {y : α}, y ∈ l → q y = true → p y = false → (l.filter p).length < (l.filter q).length
  | [], _, _, hy, _, _ => by cases hy
  | x :: r, h, y, hy, hq, hp => by
    have hle : (r.filter p).length ≤ (r.filter q).length := by
      clear hy hq hp
      induction r with
      | nil => simp
      | cons z r ih =>
        have ih := ih fun w hw => h w (by simp only [List.mem_cons] at hw ⊢; rcases hw with hw | hw <;> simp [hw])
        have hz := h z (by simp)
        cases hpz : p z <;> cases hqz : q z <;> simp [hpz, hqz]
        · exact ih
        · omega
        · rw [hz hpz] at hqz; cases hqz
        · exact ih
    rcases List.mem_cons.1 hy with rfl | hy'
    · simp only [List.filter_cons, hp, hq]
      simp; omega
    · have := filter_less (l := r) (fun w hw => h w (List.mem_cons_of_mem _ hw)) hy' hq hp
      have hz := h x (by simp)
      cases hpz : p x <;> cases hqz : q x <;> simp [hpz, hqz]
      · exact this
      · omega
      · rw [hz hpz] at hqz; cases hqz
      · exact this
/-- pairs up to n -/
def prsN (n : Nat) : List (Nat × Nat) := (List.range (n + 1)).flatMap fun s => (List.range (n + 1)).map fun i => (s, i)
theorem mem_prsN {n s i : Nat} : (s, i) ∈ prsN n ↔ s ≤ n ∧ i ≤ n := by
  unfold prsN
  simp only [List.mem_flatMap, List.mem_range, List.mem_map, Prod.mk.injEq]
  constructor
  · rintro ⟨a, ha, b, hb, rfl, rfl⟩; exact ⟨by omega, by omega⟩
  · rintro ⟨h1, h2⟩; exact ⟨s, by omega, i, by omega, rfl, rfl⟩
/-- how many are not yet there -/
def cntN (n : Nat) (g : Nat → Nat → Bool) : Nat := ((prsN n).filter fun p => !g p.1 p.2).length
theorem cntN_upd {n s i : Nat} {g : Nat → Nat → Bool} (hs : s ≤ n) (hi : i ≤ n) (h : g s i = false) : cntN n (updG g s i true) < cntN n g := by
  unfold cntN
  refine filter_less (fun x _ hx => ?_) (y := (s, i)) (mem_prsN.2 ⟨hs, hi⟩) (by simp [h]) (by simp [updG_same])
  simp only [Bool.not_eq_true'] at hx ⊢
  cases hg : g x.1 x.2
  · rfl
  · rw [updG_old hg] at hx; cases hx

structure ApS (a : Aut) (T : Int) (g : Nat → Nat → Bool) : Prop where
  base : ∀ i k, i ≤ a.length → k ≤ a.length → a.differ (optN a.length i) (optN a.length k) = true → g i k = true
  snd : ∀ i k, i ≤ a.length → k ≤ a.length → g i k = true → Apt a T (optN a.length i) (optN a.length k)
theorem ApS.start {a : Aut} {T : Int} {g : Nat → Nat → Bool} (h : ∀ i k, i ≤ a.length → k ≤ a.length → g i k = a.differ (optN a.length i) (optN a.length k)) : ApS a T g :=
  ⟨fun i k hi hk hd => by rw [h i k hi hk]; exact hd, fun i k hi hk hg => .now (by rw [← h i k hi hk]; exact hg)⟩
/-- where a token leads from a pair -/
def aft (a : Aut) (i : Nat) (t : Int) : Nat := ixN a.length (a.after (optN a.length i) t)
theorem aft_le {a : Aut} (ok : Okay a) {i : Nat} (hi : i ≤ a.length) (t : Int) : aft a i t ≤ a.length := ixN_le (after_in ok (optN_in hi) t)
theorem aft_opt {a : Aut} (ok : Okay a) {i : Nat} (hi : i ≤ a.length) (t : Int) : optN a.length (aft a i t) = a.after (optN a.length i) t := optN_ix (after_in ok (optN_in hi) t)
def ApCl (a : Aut) (g : Nat → Nat → Bool) (i k : Nat) (t : Int) : Prop := g (aft a i t) (aft a k t) = true → g i k = true
/-- all up to here are closed -/
def ApTo (a : Aut) (T : Int) (g : Nat → Nat → Bool) (i k : Nat) (t : Int) : Prop :=
  ∀ i' k' (t' : Int), i' ≤ a.length → k' ≤ a.length → 0 ≤ t' → t' < T → (i' < i ∨ i' = i ∧ (k' < k ∨ k' = k ∧ t' < t)) → ApCl a g i' k' t'
theorem ApTo.zero {a : Aut} {T : Int} {g : Nat → Nat → Bool} : ApTo a T g 0 0 0 := fun i' k' t' _ _ h0 _ h => by omega
theorem ApTo.tok {a : Aut} {T : Int} {g : Nat → Nat → Bool} {i k : Nat} {t : Int} (h : ApTo a T g i k t) (hc : ApCl a g i k t) : ApTo a T g i k (t + 1) := by
  intro i' k' t' h1 h2 h3 h4 hl
  by_cases hx : i' = i ∧ k' = k ∧ t' = t
  · obtain ⟨rfl, rfl, rfl⟩ := hx; exact hc
  · exact h i' k' t' h1 h2 h3 h4 (by omega)
theorem ApTo.col {a : Aut} {T : Int} {g : Nat → Nat → Bool} {i k : Nat} {t : Int} (h : ApTo a T g i k t) (hc : T ≤ t ∨ g i k = true) : ApTo a T g i (k + 1) 0 := by
  intro i' k' t' h1 h2 h3 h4 hl
  by_cases hx : i' = i ∧ k' = k
  · obtain ⟨rfl, rfl⟩ := hx
    rcases hc with hc | hc
    · exact h i' k' t' h1 h2 h3 h4 (by omega)
    · exact fun _ => hc
  · exact h i' k' t' h1 h2 h3 h4 (by omega)
theorem ApTo.row {a : Aut} {T : Int} {g : Nat → Nat → Bool} {i : Nat} (h : ApTo a T g i (a.length + 1) 0) : ApTo a T g (i + 1) 0 0 := by
  intro i' k' t' h1 h2 h3 h4 hl
  exact h i' k' t' h1 h2 h3 h4 (by omega)
theorem ApS.mark {a : Aut} {T : Int} {g : Nat → Nat → Bool} (h : ApS a T g) (ok : Okay a) {i k : Nat} {t : Int} (hi : i ≤ a.length) (hk : k ≤ a.length) (h0 : 0 ≤ t) (hT : t < T) (hg : g (aft a i t) (aft a k t) = true) : ApS a T (updG g i k true) := by
  refine ⟨fun i' k' hi' hk' hd => updG_old (h.base i' k' hi' hk' hd), fun i' k' hi' hk' hx => ?_⟩
  by_cases e : i' = i ∧ k' = k
  · obtain ⟨rfl, rfl⟩ := e
    have := h.snd _ _ (aft_le ok hi' t) (aft_le ok hk' t) hg
    rw [aft_opt ok hi', aft_opt ok hk'] at this
    exact .step h0 hT this
  · rw [updG_ne e] at hx
    exact h.snd i' k' hi' hk' hx
/-- closed throughout: all is there -/
theorem ApS.full {a : Aut} {T : Int} {g : Nat → Nat → Bool} (h : ApS a T g) (ok : Okay a) (hc : ApTo a T g (a.length + 1) 0 0) : ∀ i k, i ≤ a.length → k ≤ a.length → (g i k = true ↔ Apt a T (optN a.length i) (optN a.length k)) := by
  have key : ∀ s t, Apt a T s t → OIn a.length s → OIn a.length t → g (ixN a.length s) (ixN a.length t) = true := by
    intro s t hst
    induction hst with
    | @now s t hd => intro hs ht; exact h.base _ _ (ixN_le hs) (ixN_le ht) (by rw [optN_ix hs, optN_ix ht]; exact hd)
    | @step s t tok h0 h1 hst ih =>
      intro hs ht
      have := ih (after_in ok hs tok) (after_in ok ht tok)
      refine hc _ _ tok (ixN_le hs) (ixN_le ht) h0 h1 (by have := ixN_le hs; omega) ?_
      unfold aft
      rw [optN_ix hs, optN_ix ht]
      exact this
  intro i k hi hk
  refine ⟨h.snd i k hi hk, fun hA => ?_⟩
  have := key _ _ hA (optN_in hi) (optN_in hk)
  have e : ∀ {i}, i ≤ a.length → ixN a.length (optN a.length i) = i := by
    intro i hi
    unfold optN
    split
    · rename_i e; exact e.symm
    · rfl
  rwa [e hi, e hk] at this
end Go.Proofs.YtogmlonhciiomaaDoor
