/- A state's sign as bytes: no two signs are the same bytes. -/
import Derived.Lib.ItoaNum
import Derived.Lib.ItoaLen
namespace Go.Proofs.YtogmlonhciiomaaDoor

theorem dec_val : ∀ u : Nat, (Lib.decDigits u).foldl (fun a (d : UInt8) => a * 10 + (d.toNat - 48)) 0 = u := by
  intro u
  induction u using Nat.strongRecOn with
  | _ u ih =>
    rw [Lib.decDigits]
    split
    · rename_i h
      simp
      omega
    · rename_i h
      rw [List.foldl_append, ih (u / 10) (by omega)]
      simp
      omega
theorem dec_inj {u v : Nat} (h : Lib.decDigits u = Lib.decDigits v) : u = v := by rw [← dec_val u, ← dec_val v, h]
/-- a sign of a numeral -/
def numB (c : UInt8) : Bool := c == 45 || (48 ≤ c && c ≤ 57)
theorem dec_digit : ∀ u : Nat, ∀ c ∈ Lib.decDigits u, (48 ≤ c && c ≤ 57) = true := by
  intro u
  induction u using Nat.strongRecOn with
  | _ u ih =>
    rw [Lib.decDigits]
    have dig : ∀ k, k < 10 → (48 ≤ UInt8.ofNat (48 + k) && UInt8.ofNat (48 + k) ≤ 57) = true := by decide
    split
    · rename_i h
      intro c hc
      simp only [List.mem_singleton] at hc
      subst hc
      exact dig u h
    · intro c hc
      rcases List.mem_append.1 hc with hc | hc
      · exact ih (u / 10) (by omega) c hc
      · simp only [List.mem_singleton] at hc
        subst hc
        exact dig (u % 10) (by omega)
theorem dec_ne (u : Nat) : Lib.decDigits u ≠ [] := by
  rw [Lib.decDigits]
  split <;> simp
theorem itoa_num (n : Int) : ∀ c ∈ Lib.itoa n, numB c = true := by
  intro c hc
  unfold Lib.itoa at hc
  unfold numB
  split at hc
  · rcases List.mem_cons.1 hc with rfl | hc
    · rfl
    · rw [dec_digit _ c hc, Bool.or_true]
  · rw [dec_digit _ c hc, Bool.or_true]
theorem itoa_inj {n m : Int} (h : Lib.itoa n = Lib.itoa m) : n = m := by
  have no : ∀ u v : Nat, 45 :: Lib.decDigits u ≠ Lib.decDigits v := by
    intro u v e
    have := dec_digit v 45 (by rw [← e]; exact .head _)
    revert this
    decide
  unfold Lib.itoa at h
  split at h
  · split at h
    · have := dec_inj (List.cons.inj h).2
      omega
    · exact absurd h (no _ _)
  · split at h
    · exact absurd h.symm (no _ _)
    · have := dec_inj h
      omega

/-- numbers, each with what stands behind it -/
def segB (l : List (Int × UInt8)) : List UInt8 := l.flatMap fun x => Lib.itoa x.1 ++ [x.2]
theorem split_num {a b : List UInt8} {c d : UInt8} {r s : List UInt8} (ha : ∀ x ∈ a, numB x = true) (hb : ∀ x ∈ b, numB x = true) (hc : numB c = false) (hd : numB d = false) (h : a ++ c :: r = b ++ d :: s) : a = b ∧ c = d ∧ r = s := by
  induction a generalizing b with
  | nil =>
    cases b with
    | nil => simp only [List.nil_append, List.cons.injEq] at h; exact ⟨rfl, h.1, h.2⟩
    | cons y b =>
      simp only [List.nil_append, List.cons_append, List.cons.injEq] at h
      have := hb y (.head _)
      rw [← h.1, hc] at this; cases this
  | cons x a ih =>
    cases b with
    | nil =>
      simp only [List.nil_append, List.cons_append, List.cons.injEq] at h
      have := ha x (.head _)
      rw [h.1, hd] at this; cases this
    | cons y b =>
      simp only [List.cons_append, List.cons.injEq] at h
      obtain ⟨h1, h2⟩ := h
      obtain ⟨h3, h4, h5⟩ := ih (fun z hz => ha z (.tail _ hz)) (fun z hz => hb z (.tail _ hz)) h2
      exact ⟨by rw [h1, h3], h4, h5⟩
theorem segB_inj : ∀ (l m : List (Int × UInt8)), (∀ x ∈ l, numB x.2 = false) → (∀ x ∈ m, numB x.2 = false) → segB l = segB m → l = m
  | [], [], _, _, _ => rfl
  | [], y :: m, _, _, h => by simp [segB] at h
  | x :: l, [], _, _, h => by simp [segB] at h
  | x :: l, y :: m, hl, hm, h => by
    simp only [segB, List.flatMap_cons, List.append_assoc, List.singleton_append] at h
    obtain ⟨h1, h2, h3⟩ := split_num (itoa_num _) (itoa_num _) (hl x (.head _)) (hm y (.head _)) h
    have := segB_inj l m (fun z hz => hl z (.tail _ hz)) (fun z hz => hm z (.tail _ hz)) h3
    rw [this, Prod.ext (itoa_inj h1) h2]

def segsOf (alts : List Int) (es : List (Int × Int)) : List (Int × UInt8) := alts.map (fun n => (n, 44)) ++ es.flatMap fun e => [(e.1, 58), (e.2, 59)]
theorem segsOf_sep (alts : List Int) (es : List (Int × Int)) : ∀ x ∈ segsOf alts es, numB x.2 = false := by
  intro x hx
  rcases List.mem_append.1 hx with hx | hx
  · obtain ⟨n, _, rfl⟩ := List.mem_map.1 hx; show numB 44 = false; decide
  · obtain ⟨e, _, he⟩ := List.mem_flatMap.1 hx
    simp only [List.mem_cons, List.not_mem_nil, or_false] at he
    rcases he with rfl | rfl
    · show numB 58 = false; decide
    · show numB 59 = false; decide
theorem segsOf_inj : ∀ (a b : List Int) (e g : List (Int × Int)), segsOf a e = segsOf b g → a = b ∧ e = g
  | [], [], e, g, h => by
    refine ⟨rfl, ?_⟩
    simp only [segsOf, List.map_nil, List.nil_append] at h
    induction e generalizing g with
    | nil => cases g with
      | nil => rfl
      | cons y g => simp at h
    | cons x e ih => cases g with
      | nil => simp at h
      | cons y g =>
        simp only [List.flatMap_cons, List.cons_append, List.nil_append, List.cons.injEq, Prod.mk.injEq, and_true] at h
        rw [ih g h.2.2, Prod.ext h.1 h.2.1]
  | [], y :: b, e, g, h => by
    cases e with
    | nil => simp [segsOf] at h
    | cons x e =>
      simp only [segsOf, List.map_nil, List.nil_append, List.flatMap_cons, List.cons_append, List.map_cons, List.cons.injEq, Prod.mk.injEq] at h
      exact absurd h.1.2 (by decide)
  | x :: a, [], e, g, h => by
    cases g with
    | nil => simp [segsOf] at h
    | cons y g =>
      simp only [segsOf, List.map_nil, List.nil_append, List.flatMap_cons, List.cons_append, List.map_cons, List.cons.injEq, Prod.mk.injEq] at h
      exact absurd h.1.2 (by decide)
  | x :: a, y :: b, e, g, h => by
    simp only [segsOf, List.map_cons, List.cons_append, List.cons.injEq, Prod.mk.injEq, and_true] at h
    obtain ⟨h1, h2⟩ := segsOf_inj a b e g h.2
    exact ⟨by rw [h.1, h1], h2⟩
/-- a sign's bytes -/
def sgB (kind : Int) (alts : List Int) (es : List (Int × Int)) : List UInt8 := UInt8.ofNat kind.toNat :: segB (segsOf alts es)
theorem sgB_inj {k k' : Int} {a a' : List Int} {e e' : List (Int × Int)} (hk : 0 ≤ k ∧ k ≤ 255) (hk' : 0 ≤ k' ∧ k' ≤ 255) (h : sgB k a e = sgB k' a' e') : k = k' ∧ a = a' ∧ e = e' := by
  unfold sgB at h
  obtain ⟨h1, h2⟩ := List.cons.inj h
  have h3 := segsOf_inj _ _ _ _ (segB_inj _ _ (segsOf_sep _ _) (segsOf_sep _ _) h2)
  refine ⟨?_, h3⟩
  have := congrArg UInt8.toNat h1
  simp only [UInt8.toNat_ofNat'] at this
  omega
theorem segB_append (l m : List (Int × UInt8)) : segB (l ++ m) = segB l ++ segB m := by simp [segB]
end Go.Proofs.YtogmlonhciiomaaDoor
