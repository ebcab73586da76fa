/- As XHav, but what follows the head is met in whatever order it may come. Printed by genhava.py; tail0 added by hand. -/
import Derived.Orders
import Derived.Test.YtkinlcichclnkaaDoorQT2
namespace Go.Proofs.YtkinlcichclnkaaDoor
open Go.RowKit

/-- as HavG, the tail in whatever order -/
inductive HavA (P : Program) (ops : Array Oper) (Q : Exit → Act → World → Prop) (w0 : World) : List Oper → Nat → ((Nat → Value) → Act) → List (Nat × (Value → World → Prop)) → Prop
  | tail {rest : List Oper} {n : Nat} {A : (Nat → Value) → Act} {Rs : List (Nat × (Value → World → Prop))} (hh : headB ops n = true)
      (h : ∀ x w, Grew w0 w → (∀ p ∈ Rs, p.2 (x p.1) w) → wpAny P .any ops Q rest.length (doneTo ops n) (A x) w) : HavA P ops Q w0 rest n A Rs
  | tail0 {rest : List Oper} {n : Nat} {A : (Nat → Value) → Act} {Rs : List (Nat × (Value → World → Prop))} (hh : headP ops n (fun i => i == 0) = true) (hm : move0B ops = true) (hQ : ∀ c a d v w, Q (.panic c) (Act.put a d v) w → Q (.panic c) a w) (hn : 0 < n)
      (h : ∀ x w, Grew w0 w → (∀ p ∈ Rs, p.2 (x p.1) w) → wpAny P .any ops Q rest.length (doneTo ops n) (A x) w) : HavA P ops Q w0 rest n A Rs
  | skip {o : Oper} {rest : List Oper} {n : Nat} {A : (Nat → Value) → Act} {Rs : List (Nat × (Value → World → Prop))} (hw : ∀ x, Region.wanted o (yielded ops (A x).tmps) = false)
      (h : HavA P ops Q w0 rest (n + 1) (fun x => (A x).put o.dst undef) Rs) : HavA P ops Q w0 (o :: rest) n A Rs
  | det {o : Oper} {rest : List Oper} {n : Nat} {A : (Nat → Value) → Act} {Rs : List (Nat × (Value → World → Prop))} (hw : ∀ x, Region.wanted o (yielded ops (A x).tmps) = true) (c : Value)
      (hc : ∀ x w, Grew w0 w → (∀ p ∈ Rs, befB ops ops.size n p.1 = true → p.2 (x p.1) w) → uponV P (fun v w' => v = c ∧ Grew w w') ((execOp (A x).eval o).run P w))
      (h : HavA P ops Q w0 rest (n + 1) (fun x => (A x).put o.dst c) Rs) : HavA P ops Q w0 (o :: rest) n A Rs
  | any {o : Oper} {rest : List Oper} {n : Nat} {A : (Nat → Value) → Act} {Rs : List (Nat × (Value → World → Prop))} (hw : ∀ x, Region.wanted o (yielded ops (A x).tmps) = true) (R : Value → World → Prop)
      (hR : ∀ v w w', Grew w w' → R v w → R v w')
      (hc : ∀ x w, Grew w0 w → (∀ p ∈ Rs, befB ops ops.size n p.1 = true → p.2 (x p.1) w) → uponV P (fun v w' => Grew w w' ∧ R v w') ((execOp (A x).eval o).run P w))
      (h : HavA P ops Q w0 rest (n + 1) (fun x => (A x).put o.dst (x n)) (Rs ++ [(n, R)])) : HavA P ops Q w0 (o :: rest) n A Rs

theorem HavA.val {P : Program} {ops : Array Oper} {Q : Exit → Act → World → Prop} {w0 : World} {o : Oper} {rest : List Oper} {n : Nat} {A : (Nat → Value) → Act} {Rs : List (Nat × (Value → World → Prop))} (hw : ∀ x, Region.wanted o (yielded ops (A x).tmps) = true) (c : Value)
      (hc : ∀ x w, Grew w0 w → (∀ p ∈ Rs, befB ops ops.size n p.1 = true → p.2 (x p.1) w) → (execOp (A x).eval o).run P w = .ok (.value c) w)
      (h : HavA P ops Q w0 rest (n + 1) (fun x => (A x).put o.dst c) Rs) : HavA P ops Q w0 (o :: rest) n A Rs :=
  .det hw c (fun x w h1 h2 => by rw [hc x w h1 h2]; exact ⟨rfl, Grew.refl w⟩) h

section sound
variable {P : Program} {ops : Array Oper} {Q : Exit → Act → World → Prop} {w0 : World} {a0 : Act}

theorem HavA.flat {rest : List Oper} {k : Nat} {A : (Nat → Value) → Act} {Rs : List (Nat × (Value → World → Prop))} (h : HavA P ops Q w0 rest k A Rs) :
    ∀ (val : Nat → Option Value) (R : Nat → Value → World → Prop), ops.toList.drop k = rest → k ≤ ops.size → (∀ x, A x = actTo ops val x a0 k) →
      (∀ p ∈ Rs, p.1 < k ∧ val p.1 = none ∧ p.2 = R p.1) → (∀ j, j < k → val j = none → (j, R j) ∈ Rs) → (∀ j, j < k → ∀ v w w', Grew w w' → good val R j v w → good val R j v w') → (∀ j, j < k → Obl P ops w0 a0 val R j) →
      ∃ (n : Nat) (val : Nat → Option Value) (R : Nat → Value → World → Prop), n ≤ ops.size ∧ (headB ops n = true ∨ (headP ops n (fun i => i == 0) = true ∧ move0B ops = true ∧ (∀ c a d v w, Q (.panic c) (Act.put a d v) w → Q (.panic c) a w) ∧ 0 < n)) ∧
        (∀ j, j < n → ∀ v w w', Grew w w' → good val R j v w → good val R j v w') ∧ (∀ j, j < n → Obl P ops w0 a0 val R j) ∧
        ∀ x w, Grew w0 w → (∀ j, j < n → good val R j (x j) w) → wpAny P .any ops Q (ops.size - n) (doneTo ops n) (actTo ops val x a0 n) w := by
  induction h with
  | @tail rest n A Rs hh h =>
    intro val R hd hk hA hRs hRs' hst hob
    refine ⟨n, val, R, hk, .inl hh, hst, hob, fun x w hw hg => ?_⟩
    have hl : rest.length = ops.size - n := by rw [← hd]; simp
    rw [← hl, ← hA]
    refine h x w hw fun p hp => ?_
    obtain ⟨h1, h2, h3⟩ := hRs p hp
    have := hg p.1 h1
    simp only [good, h2] at this
    rw [h3]; exact this
  | @tail0 rest n A Rs hh hm hQ hn0 h =>
    intro val R hd hk hA hRs hRs' hst hob
    refine ⟨n, val, R, hk, .inr ⟨hh, hm, hQ, hn0⟩, hst, hob, fun x w hw hg => ?_⟩
    have hl : rest.length = ops.size - n := by rw [← hd]; simp
    rw [← hl, ← hA]
    refine h x w hw fun p hp => ?_
    obtain ⟨h1, h2, h3⟩ := hRs p hp
    have := hg p.1 h1
    simp only [good, h2] at this
    rw [h3]; exact this
  | @skip o rest n A Rs hw h ih =>
    intro val R hd hk hA hRs hRs' hst hob
    have hn : n < ops.size := by
      rcases Nat.lt_or_ge n ops.size with h | h
      · exact h
      · rw [List.drop_of_length_le (by simpa using h)] at hd; cases hd
    have ho : ops[n]? = some o := by
      have := congrArg List.head? hd
      rw [List.head?_drop] at this
      simpa using this
    have hpre : ∀ (val' : Nat → Option Value) x i, i ≤ n → (∀ j, j < n → val' j = val j) → actTo ops val' x a0 i = actTo ops val x a0 i := by
      intro val' x i
      induction i with
      | zero => intro _ _; rfl
      | succ i ihi => intro hi hv; simp only [actTo]; rw [ihi (by omega) hv, hv i (by omega)]
    have key : ∀ (val' : Nat → Option Value), (∀ j, j < n → val' j = val j) → ∀ j, j < n → ∀ v w, good val' R j v w ↔ good val R j v w := fun val' hv j hj v w => by simp only [good, hv j hj]
    let val' : Nat → Option Value := fun j => if j = n then some undef else val j
    have hv : ∀ j, j < n → val' j = val j := fun j hj => by simp [val', Nat.ne_of_lt hj]
    have hvn : val' n = some undef := by simp [val']
    refine ih val' R ?_ hn ?_ ?_ ?_ ?_ ?_
    · rw [← List.tail_drop, hd]; rfl
    · intro x; simp only [actTo, ho, Option.bind_some, hvn, Option.getD_some]; rw [hpre val' x n (Nat.le_refl _) hv, hA]
    · intro p hp; obtain ⟨h1, h2, h3⟩ := hRs p hp; exact ⟨by omega, by rw [hv _ h1]; exact h2, h3⟩
    · intro j hj hj'
      by_cases e : j = n
      · subst e; rw [hvn] at hj'; cases hj'
      · exact hRs' j (by omega) (by rw [← hv j (by omega)]; exact hj')
    · intro j hj v w w' hg hgd
      by_cases e : j = n
      · subst e; simp only [good, hvn] at hgd ⊢; exact hgd
      · exact (key val' hv j (by omega) v w').2 (hst j (by omega) v w w' hg ((key val' hv j (by omega) v w).1 hgd))
    · intro j hj
      by_cases e : j = n
      · subst e
        intro o' ho' x w hw' hg
        have : o' = o := by rw [ho] at ho'; exact (Option.some.inj ho').symm
        subst this
        rw [hpre val' x j (Nat.le_refl _) hv, ← hA, if_neg (by rw [hw]; simp)]
        simp [good, hvn]
      · have hjn : j < n := by omega
        intro o' ho' x w hw' hg
        rw [hpre val' x j (by omega) hv]
        have := hob j hjn o' ho' x w hw' fun i hi hb => (key val' hv i (by omega) _ _).1 (hg i hi hb)
        split
        · rename_i hif; rw [if_pos hif] at this; exact uponV_mono (fun v w' hx => ⟨hx.1, (key val' hv j hjn v w').2 hx.2⟩) this
        · rename_i hif; rw [if_neg hif] at this; exact (key val' hv j hjn _ _).2 this
  | @det o rest n A Rs hw c hc h ih =>
    intro val R hd hk hA hRs hRs' hst hob
    have hn : n < ops.size := by
      rcases Nat.lt_or_ge n ops.size with h | h
      · exact h
      · rw [List.drop_of_length_le (by simpa using h)] at hd; cases hd
    have ho : ops[n]? = some o := by
      have := congrArg List.head? hd
      rw [List.head?_drop] at this
      simpa using this
    have hpre : ∀ (val' : Nat → Option Value) x i, i ≤ n → (∀ j, j < n → val' j = val j) → actTo ops val' x a0 i = actTo ops val x a0 i := by
      intro val' x i
      induction i with
      | zero => intro _ _; rfl
      | succ i ihi => intro hi hv; simp only [actTo]; rw [ihi (by omega) hv, hv i (by omega)]
    have key : ∀ (val' : Nat → Option Value), (∀ j, j < n → val' j = val j) → ∀ j, j < n → ∀ v w, good val' R j v w ↔ good val R j v w := fun val' hv j hj v w => by simp only [good, hv j hj]
    let val' : Nat → Option Value := fun j => if j = n then some c else val j
    have hv : ∀ j, j < n → val' j = val j := fun j hj => by simp [val', Nat.ne_of_lt hj]
    have hvn : val' n = some c := by simp [val']
    refine ih val' R ?_ hn ?_ ?_ ?_ ?_ ?_
    · rw [← List.tail_drop, hd]; rfl
    · intro x; simp only [actTo, ho, Option.bind_some, hvn, Option.getD_some]; rw [hpre val' x n (Nat.le_refl _) hv, hA]
    · intro p hp; obtain ⟨h1, h2, h3⟩ := hRs p hp; exact ⟨by omega, by rw [hv _ h1]; exact h2, h3⟩
    · intro j hj hj'
      by_cases e : j = n
      · subst e; rw [hvn] at hj'; cases hj'
      · exact hRs' j (by omega) (by rw [← hv j (by omega)]; exact hj')
    · intro j hj v w w' hg hgd
      by_cases e : j = n
      · subst e; simp only [good, hvn] at hgd ⊢; exact hgd
      · exact (key val' hv j (by omega) v w').2 (hst j (by omega) v w w' hg ((key val' hv j (by omega) v w).1 hgd))
    · intro j hj
      by_cases e : j = n
      · subst e
        intro o' ho' x w hw' hg
        have : o' = o := by rw [ho] at ho'; exact (Option.some.inj ho').symm
        subst this
        have hfacts : ∀ p ∈ Rs, befB ops ops.size j p.1 = true → p.2 (x p.1) w := fun p hp hb => by
          obtain ⟨h1, h2, h3⟩ := hRs p hp
          have := (key val' hv p.1 h1 _ _).1 (hg p.1 h1 hb)
          simp only [good, h2] at this
          rw [h3]; exact this
        rw [hpre val' x j (Nat.le_refl _) hv, ← hA, if_pos (hw x)]
        exact uponV_mono (fun v w' hx => ⟨hx.2, by simp [good, hvn, hx.1]⟩) (hc x w hw' hfacts)
      · have hjn : j < n := by omega
        intro o' ho' x w hw' hg
        rw [hpre val' x j (by omega) hv]
        have := hob j hjn o' ho' x w hw' fun i hi hb => (key val' hv i (by omega) _ _).1 (hg i hi hb)
        split
        · rename_i hif; rw [if_pos hif] at this; exact uponV_mono (fun v w' hx => ⟨hx.1, (key val' hv j hjn v w').2 hx.2⟩) this
        · rename_i hif; rw [if_neg hif] at this; exact (key val' hv j hjn _ _).2 this
  | @any o rest n A Rs hw R1 hR1 hc h ih =>
    intro val R hd hk hA hRs hRs' hst hob
    have hn : n < ops.size := by
      rcases Nat.lt_or_ge n ops.size with h | h
      · exact h
      · rw [List.drop_of_length_le (by simpa using h)] at hd; cases hd
    have ho : ops[n]? = some o := by
      have := congrArg List.head? hd
      rw [List.head?_drop] at this
      simpa using this
    have hpre : ∀ (val' : Nat → Option Value) x i, i ≤ n → (∀ j, j < n → val' j = val j) → actTo ops val' x a0 i = actTo ops val x a0 i := by
      intro val' x i
      induction i with
      | zero => intro _ _; rfl
      | succ i ihi => intro hi hv; simp only [actTo]; rw [ihi (by omega) hv, hv i (by omega)]
    let val' : Nat → Option Value := fun j => if j = n then none else val j
    let R' : Nat → Value → World → Prop := fun j => if j = n then R1 else R j
    have hv : ∀ j, j < n → val' j = val j := fun j hj => by simp [val', Nat.ne_of_lt hj]
    have hvn : val' n = none := by simp [val']
    have hr : ∀ j, j < n → R' j = R j := fun j hj => by simp [R', Nat.ne_of_lt hj]
    have hrn : R' n = R1 := by simp [R']
    have key : ∀ j, j < n → ∀ v w, good val' R' j v w ↔ good val R j v w := fun j hj v w => by simp only [good, hv j hj, hr j hj]
    refine ih val' R' ?_ hn ?_ ?_ ?_ ?_ ?_
    · rw [← List.tail_drop, hd]; rfl
    · intro x; simp only [actTo, ho, Option.bind_some, hvn, Option.getD_none]; rw [hpre val' x n (Nat.le_refl _) hv, hA]
    · intro p hp
      rcases List.mem_append.1 hp with hp | hp
      · obtain ⟨h1, h2, h3⟩ := hRs p hp; exact ⟨by omega, by rw [hv _ h1]; exact h2, by rw [hr _ h1]; exact h3⟩
      · have : p = (n, R1) := by simpa using hp
        subst this
        exact ⟨by omega, hvn, hrn.symm⟩
    · intro j hj hj'
      by_cases e : j = n
      · subst e; rw [hrn]; simp
      · rw [hr j (by omega)]; exact List.mem_append_left _ (hRs' j (by omega) (by rw [← hv j (by omega)]; exact hj'))
    · intro j hj v w w' hg hgd
      by_cases e : j = n
      · subst e; simp only [good, hvn, hrn] at hgd ⊢; exact hR1 v w w' hg hgd
      · exact (key j (by omega) v w').2 (hst j (by omega) v w w' hg ((key j (by omega) v w).1 hgd))
    · intro j hj
      by_cases e : j = n
      · subst e
        intro o' ho' x w hw' hg
        have : o' = o := by rw [ho] at ho'; exact (Option.some.inj ho').symm
        subst this
        rw [hpre val' x j (Nat.le_refl _) hv, ← hA, if_pos (hw x)]
        have hfacts : ∀ p ∈ Rs, befB ops ops.size j p.1 = true → p.2 (x p.1) w := fun p hp hb => by
          obtain ⟨h1, h2, h3⟩ := hRs p hp
          have := (key p.1 h1 _ _).1 (hg p.1 h1 hb)
          simp only [good, h2] at this
          rw [h3]; exact this
        refine uponV_mono (fun v w' hx => ⟨hx.1, ?_⟩) (hc x w hw' hfacts)
        simp only [good, hvn, hrn]; exact hx.2
      · have hjn : j < n := by omega
        intro o' ho' x w hw' hg
        rw [hpre val' x j (by omega) hv]
        have := hob j hjn o' ho' x w hw' fun i hi hb => (key i (by omega) _ _).1 (hg i hi hb)
        split
        · rename_i hif; rw [if_pos hif] at this; exact uponV_mono (fun v w' hx => ⟨hx.1, (key j hjn v w').2 hx.2⟩) this
        · rename_i hif; rw [if_neg hif] at this; exact (key j hjn _ _).2 this

theorem hav_anyA (hn : Region.noSelect ops = true) (he : edgesB ops = true) (hs : slotsB ops = true) {n : Nat} {pre : Nat → Bool} {val : Nat → Option Value} {R : Nat → Value → World → Prop} (hnle : n ≤ ops.size)
    (hhead : headP ops n pre = true) (hst : ∀ j, j < n → ∀ v w w', Grew w w' → good val R j v w → good val R j v w')
    (hob : ∀ j, j < n → Obl P ops w0 a0 val R j) (htail : ∀ x w, Grew w0 w → (∀ j, j < n → good val R j (x j) w) → wpAny P .any ops Q (ops.size - n) (doneTo ops n) (actTo ops val x a0 n) w) :
    ∀ (f : Nat) (S : Array Bool) (a : Act) (w : World) (x : Nat → Value), S.size = ops.size → Closed ops S → (∀ i, i < n → pre i = true → S.getD i false = true) → (∀ t, n ≤ t → S.getD t false = false) → toCome S n ≤ f → Grew w0 w →
      (∀ j, j < n → S.getD j false = true → good val R j (x j) w) → FrameIs ops a0 S x a → wpAny P .any ops Q (f + (ops.size - n)) S a w := by
  have hvalx : ∀ (S : Array Bool) (x : Nat → Value) w, (∀ t, n ≤ t → S.getD t false = false) → (∀ j, j < n → S.getD j false = true → good val R j (x j) w) → ∀ j, S.getD j false = true → (val j).getD (x j) = x j := by
    intro S x w ht hg j hj
    have hjn : j < n := by
      rcases Nat.lt_or_ge j n with h | h
      · exact h
      · rw [ht j h] at hj; cases hj
    have := hg j hjn hj
    unfold good at this
    cases hv : val j with
    | none => rfl
    | some c => rw [hv] at this; simp [this]
  intro f
  induction f with
  | zero =>
    intro S a w x hsz hcl hpre ht hto hw hg hf
    have hall : ∀ j, j < n → S.getD j false = true := fun j hj => by
      cases h : S.getD j false with
      | true => rfl
      | false => have := toCome_pos S j h n hj; omega
    have hS : S = doneTo ops n := by
      apply Array.ext_getElem?
      intro j
      by_cases h : j < ops.size
      · have h1 : S.getD j false = (doneTo ops n).getD j false := by
          rw [doneTo_at]
          by_cases hj : j < n
          · rw [hall j hj]; simp [hj, h]
          · rw [ht j (by omega)]; simp [hj]
        have h2 : j < S.size := by omega
        have h3 : j < (doneTo ops n).size := by simp [doneTo, h]
        simp only [Array.getD_eq_getD_getElem?, Array.getElem?_eq_getElem h2, Array.getElem?_eq_getElem h3, Option.getD_some] at h1 ⊢
        rw [h1]
      · rw [Array.getElem?_eq_none (by omega), Array.getElem?_eq_none (by simp [doneTo]; omega)]
    have ha : a = actTo ops val x a0 n := by
      have h1 : a.tmps = (actTo ops val x a0 n).tmps := by
        apply Array.ext_getElem?
        intro t
        by_cases hex : ∃ (j : Nat) (oj : Oper), ops[j]? = some oj ∧ oj.dst = some t ∧ j < n
        · obtain ⟨j, oj, hj, hd, hjn⟩ := hex
          by_cases htz : t < a0.tmps.size
          · rw [hf.done j oj t hj hd (hall j hjn) htz, actTo_done hs val x hj hd htz n hjn, hvalx S x w ht hg j (hall j hjn)]
          · rw [Array.getElem?_eq_none (by rw [hf.size]; omega), Array.getElem?_eq_none (by rw [actTo_size]; omega)]
        · rw [hf.rest t fun j o h1 h2 => ?_, actTo_rest val x t n fun j o h1 h2 h3 => hex ⟨j, o, h2, h3, h1⟩]
          rcases Nat.lt_or_ge j n with h3 | h3
          · exact absurd ⟨j, o, h1, h2, h3⟩ hex
          · exact ht j h3
      have h2 : a.defers = (actTo ops val x a0 n).defers := by rw [hf.defers, actTo_defers]
      cases a
      cases hb : actTo ops val x a0 n
      rw [hb] at h1 h2
      simp only at h1 h2
      rw [h1, h2]
    have := htail x w hw fun j hj => hg j hj (hall j hj)
    rw [← ha] at this
    rw [hS, Nat.zero_add]
    exact this
  | succ f ih =>
    intro S a w x hsz hcl hpre ht hto hw hg hf
    by_cases hall : ∃ i, i < n ∧ S.getD i false = false
    · have hready : ∀ i ∈ Region.ready .any ops S, i < n := by
        intro t hr
        rcases Nat.lt_or_ge t n with h | h
        · exact h
        · obtain ⟨_, ot, hot, hall'⟩ := mem_ready.1 hr
          have htlt : t < ops.size := (Array.getElem?_eq_some_iff.1 hot).1
          obtain ⟨i, hi, hu⟩ := hall
          have h1 := List.all_eq_true.1 hhead t (List.mem_range.2 htlt)
          simp only [Bool.or_eq_true, decide_eq_true_eq] at h1
          have h2 := List.all_eq_true.1 (h1.resolve_left (by omega)) i (List.mem_range.2 hi)
          rcases (Bool.or_eq_true _ _).mp h2 with h2 | h2
          · have h3 := hpre i hi h2
            rw [hu] at h3; cases h3
          · have h3 := hcl.bef ops.size t i ot hot hall' h2
            rw [hu] at h3; cases h3
      rw [show f + 1 + (ops.size - n) = (f + (ops.size - n)) + 1 by omega]
      refine ⟨fun hnil => ?_, fun i hi => ?_⟩
      · obtain ⟨i, hi, hu, hmin⟩ := minimal n hall
        have hilt : i < ops.size := by omega
        have hio : ops[i]? = some ops[i] := Array.getElem?_eq_getElem hilt
        have : i ∈ Region.ready .any ops S := mem_ready.2 ⟨getD_in (by omega) hu, ops[i], hio, fun e hee hb => hmin _ (edges_lt he hio e hee hb)⟩
        rw [hnil] at this; cases this
      · have hin := hready i hi
        obtain ⟨hu, o, ho, hr⟩ := mem_ready.1 hi
        have hun := getD_both hu
        have hilt : i < ops.size := by omega
        have hsame := same_slots he hs hcl hf (hvalx S x w ht hg) ho hun hr
        have hobl := hob i hin o ho x w hw fun j hj hb => hg j (by omega) (hcl.bef ops.size i j o ho hr hb)
        rw [← wanted_same hsame, ← exec_same hn ho hsame] at hobl
        have hnext : ∀ v w', Grew w w' → good val R i v w' → wpAny P .any ops Q (f + (ops.size - n)) (S.setIfInBounds i true) (a.put o.dst v) w' := by
          intro v w' hgw hgv
          let x' : Nat → Value := fun j => if j = i then v else x j
          have hx'i : x' i = v := by simp [x']
          have hx'j : ∀ j, j ≠ i → x' j = x j := fun j hj => by simp [x', hj]
          have hset : ∀ j, (S.setIfInBounds i true).getD j false = true → j = i ∨ S.getD j false = true := fun j hj => by
            by_cases e : i = j
            · exact .inl e.symm
            · rw [getD_set_ne false e] at hj; exact .inr hj
          refine ih (S.setIfInBounds i true) (a.put o.dst v) w' x' (by simp [hsz]) ?_ (fun k hk hp => getD_set_true (hpre k hk hp)) ?_ ?_ (hw.trans hgw) ?_ ?_
          · intro j oj hj hl e hee hb
            rcases hset j hl with h1 | h1
            · subst h1
              have : oj = o := by rw [ho] at hj; exact (Option.some.inj hj).symm
              subst this
              exact getD_set_true (hr e hee hb)
            · exact getD_set_true (hcl j oj hj h1 e hee hb)
          · intro t htn
            rw [getD_set_ne false (by omega)]
            exact ht t htn
          · have := (toCome_set S i (by omega) hun n).1 hin; omega
          · intro j hj hl
            rcases hset j hl with h1 | h1
            · subst h1; rw [hx'i]; exact hgv
            · by_cases e : j = i
              · subst e; rw [hx'i]; exact hgv
              · rw [hx'j j e]; exact hst j hj _ _ _ hgw (hg j hj h1)
          · refine ⟨by rw [put_defers']; exact hf.defers, by rw [put_size]; exact hf.size, fun j oj t hj hd hl htz => ?_, fun t hno => ?_⟩
            · by_cases e : j = i
              · subst e
                have : oj = o := by rw [ho] at hj; exact (Option.some.inj hj).symm
                subst this
                rw [hd, put_at _ _ _ (by rw [hf.size]; exact htz), hx'i]
              · have hdne : o.dst ≠ some t := ((slots_of hs ho hj hd).1).resolve_left (fun h => e h.symm)
                rw [put_ne _ _ _ _ hdne, hx'j j e]
                exact hf.done j oj t hj hd ((hset j hl).resolve_left e) htz
            · have hdne : o.dst ≠ some t := fun h => by
                have := hno i o ho h
                simp [hsz, hilt] at this
              rw [put_ne _ _ _ _ hdne]
              refine hf.rest t fun j oj hj hd => ?_
              cases h : S.getD j false with
              | false => rfl
              | true => have := hno j oj hj hd; rw [getD_set_true h] at this; cases this
        unfold wpOp
        simp only [ho]
        split
        · rename_i hwn
          rw [if_pos hwn] at hobl
          exact .inl (upon_of_uponV (fun v w' hv => hnext v w' hv.1 hv.2) hobl)
        · rename_i hwn
          rw [if_neg hwn] at hobl
          exact hnext undef w (Grew.refl w) hobl
    · have hto0 : toCome S n ≤ f := by
        have : ∀ m, m ≤ n → toCome S m = 0 := by
          intro m
          induction m with
          | zero => intro _; rfl
          | succ m ihm =>
            intro hm
            simp only [toCome]
            rw [ihm (by omega)]
            cases h : S.getD m false with
            | true => simp
            | false => exact absurd ⟨m, by omega, h⟩ hall
        rw [this n (Nat.le_refl _)]; omega
      rw [show f + 1 + (ops.size - n) = 1 + (f + (ops.size - n)) by omega]
      exact wpAny_add _ 1 (ih S a w x hsz hcl hpre ht hto0 hw hg hf)

theorem wpAny_havA {w : World} (hok : havB ops = true) (h : HavA P ops Q w ops.toList 0 (fun _ => a0) []) : wpAny P .any ops Q ops.size (Array.replicate ops.size false) a0 { w with drawn := w.drawn + 1 } := by
  simp only [havB, Bool.and_eq_true] at hok
  obtain ⟨n, val, R, h1, h3, h4, h5, h6⟩ := h.flat (fun _ => none) (fun _ _ _ => True) (by simp) (by simp) (fun _ => rfl) (by simp) (fun j hj => absurd hj (by omega)) (fun j hj => absurd hj (by omega)) (fun j hj => absurd hj (by omega))
  have hnone : ∀ t, (Array.replicate ops.size false).getD t false = false := fun t => getD_replicate_false _ _
  have hto : ∀ m, toCome (Array.replicate ops.size false) m = m := by
    intro m
    induction m with
    | zero => rfl
    | succ m ih => simp only [toCome]; rw [ih, hnone]; simp
  have hdraw : Grew w { w with drawn := w.drawn + 1 } := (Below.refl _ w).drew
  rcases h3 with h3 | ⟨h3, hm, hQ, hn0⟩
  · have := hav_anyA (x := fun _ => undef) hok.1.1 hok.1.2 hok.2 h1 (headP_of h3) h4 h5 h6 n (Array.replicate ops.size false) a0 { w with drawn := w.drawn + 1 } (by simp) (fun j oj _ hl => by rw [hnone] at hl; cases hl) (fun _ _ hp => by cases hp) (fun t _ => hnone t) (by rw [hto]; exact Nat.le_refl _) hdraw
      (fun j _ hl => by rw [hnone] at hl; cases hl) ⟨rfl, rfl, (fun j o t _ _ hl => by rw [hnone] at hl; cases hl), fun t _ => rfl⟩
    rw [show n + (ops.size - n) = ops.size by omega] at this
    exact this
  · unfold move0B at hm
    cases ho : ops[0]? with
    | none => rw [ho] at hm; cases hm
    | some o =>
      rw [ho] at hm
      simp only [Bool.and_eq_true] at hm
      obtain ⟨⟨⟨⟨hm1, hm2⟩, hm3⟩, hm4⟩, hm5⟩ := hm
      have hlt : 0 < ops.size := (Array.getElem?_eq_some_iff.1 ho).1
      cases hop : o.op with
      | move y =>
        have hg : o.guard = none := by simpa using hm2
        have hrun : ∀ w, (execOp a0.eval o).run P w = .ok (.value (a0.eval y)) w := fun w => by unfold execOp; simp only [hop]; rfl
        have hwant : Region.wanted o (yielded ops a0.tmps) = true := by unfold Region.wanted; rw [hg]
        have hob := h5 0 hn0 o ho (fun _ => a0.eval y) { w with drawn := w.drawn + 1 } hdraw fun j hj => absurd hj (by omega)
        simp only [actTo, hwant, if_true] at hob
        have hob2 : uponV P (fun v w' => Grew { w with drawn := w.drawn + 1 } w' ∧ good val R 0 v w') ((execOp a0.eval o).run P { w with drawn := w.drawn + 1 }) := hob
        rw [hrun] at hob2
        obtain ⟨_, hgd⟩ := hob2
        have hset : ∀ j, ((Array.replicate ops.size false).setIfInBounds 0 true).getD j false = true → j = 0 := fun j hj => by
          by_cases e : 0 = j
          · exact e.symm
          · rw [getD_set_ne false e, hnone] at hj; cases hj
        have hset0 : ((Array.replicate ops.size false).setIfInBounds 0 true).getD 0 false = true := by simp [hlt]
        have hc := (toCome_set (Array.replicate ops.size false) 0 (by simpa using hlt) (hnone 0) n).1 hn0
        rw [hto] at hc
        have := hav_anyA (x := fun _ => a0.eval y) hok.1.1 hok.1.2 hok.2 h1 h3 h4 h5 h6 (n - 1) ((Array.replicate ops.size false).setIfInBounds 0 true) (a0.put o.dst (a0.eval y)) { w with drawn := w.drawn + 1 } (by simp) (fun j oj hj hl e he _ => by
            have := hset j hl
            subst this
            have : oj = o := by rw [ho] at hj; exact (Option.some.inj hj).symm
            subst this
            have h0 : oj.after = #[] := by simpa using hm3
            rw [h0] at he
            simp at he) (fun i _ hp => by simp at hp; subst hp; exact hset0) (fun t ht => by rw [getD_set_ne false (by omega)]; exact hnone t) (by omega) hdraw
          (fun j _ hl => by have := hset j hl; subst this; exact hgd)
          ⟨put_defers' _ _ _, put_size _ _ _, fun j oj t hj hd hl htz => by
            have := hset j hl
            subst this
            have : oj = o := by rw [ho] at hj; exact (Option.some.inj hj).symm
            subst this
            rw [hd]
            exact put_at _ _ _ htz, fun t hno => put_ne _ _ _ _ fun hd => by
            have := hno 0 o ho hd
            rw [hset0] at this
            cases this⟩
        have h7 := wpAny_take (P := P) (Q := Q) (md := .any) (i := 0) (v := a0.eval y) ho hok.1.1 hm4 hm5 (fun c a w => hQ c a o.dst (a0.eval y) w) (.inl ⟨hwant, hrun⟩) this
        rw [show n - 1 + (ops.size - n) + 1 = ops.size by omega] at h7
        exact h7
      | _ => rw [hop] at hm1; cases hm1
theorem wp_region_havA_lit {id : Nat} {w : World} {l : List Oper} (hm : P.follows .mixedOrders = true) (hok : havB l.toArray = true) (h : HavA P l.toArray Q w l 0 (fun _ => a0) []) : (Code.region id l.toArray true).wp P Q a0 w :=
  wp_region_any hm (wpAny_havA hok (by simpa using h))
end sound
end Go.Proofs.YtkinlcichclnkaaDoor
