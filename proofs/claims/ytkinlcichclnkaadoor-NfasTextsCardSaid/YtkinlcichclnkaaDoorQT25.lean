/- A region that draws its order: one operation of its head turns a state, the others keep it. Printed by genhavj.py out of HavB. -/
import Derived.Test.YtkinlcichclnkaaDoorQT2
namespace Go.Proofs.YtkinlcichclnkaaDoor
open Go.RowKit

/-- how worlds may go on -/
structure Rel (G : World → World → Prop) : Prop where
  refl : ∀ w, G w w
  trans : ∀ {a b c}, G a b → G b c → G a c
  drew : ∀ w : World, G w { w with drawn := w.drawn + 1 }

/-- the head of a region, operation by operation: what is known of a value that is none of the text's own (Rs); then the tail, in its one order -/
inductive HavJ (G : World → World → Prop) (p0 : Nat) (J : Bool → World → Prop) (P : Program) (ops : Array Oper) (Q : Exit → Act → World → Prop) (w0 : World) : List Oper → Nat → ((Nat → Value) → Act) → List (Nat × (Value → World → Prop)) → Prop
  | tail {rest : List Oper} {n : Nat} {A : (Nat → Value) → Act} {Rs : List (Nat × (Value → World → Prop))} (hp : p0 < n) (hs : Region.seqB .any ops rest.length n (doneTo ops n) = true) (hh : headB ops n = true)
      (h : ∀ x w, G w0 w → J true w → (∀ p ∈ Rs, p.2 (x p.1) w) → wpList P ops Q rest (A x) w) : HavJ G p0 J P ops Q w0 rest n A Rs
  | skip {o : Oper} {rest : List Oper} {n : Nat} {A : (Nat → Value) → Act} {Rs : List (Nat × (Value → World → Prop))} (hp : n ≠ p0) (hw : ∀ x, Region.wanted o (yielded ops (A x).tmps) = false)
      (h : HavJ G p0 J P ops Q w0 rest (n + 1) (fun x => (A x).put o.dst undef) Rs) : HavJ G p0 J P ops Q w0 (o :: rest) n A Rs
  | det {o : Oper} {rest : List Oper} {n : Nat} {A : (Nat → Value) → Act} {Rs : List (Nat × (Value → World → Prop))} (hp : n ≠ p0) (hw : ∀ x, Region.wanted o (yielded ops (A x).tmps) = true) (c : Value)
      (hc : ∀ x w b, G w0 w → J b w → (∀ p ∈ Rs, befB ops ops.size n p.1 = true → p.2 (x p.1) w) → uponV P (fun v w' => v = c ∧ G w w' ∧ J b w') ((execOp (A x).eval o).run P w))
      (h : HavJ G p0 J P ops Q w0 rest (n + 1) (fun x => (A x).put o.dst c) Rs) : HavJ G p0 J P ops Q w0 (o :: rest) n A Rs
  | any {o : Oper} {rest : List Oper} {n : Nat} {A : (Nat → Value) → Act} {Rs : List (Nat × (Value → World → Prop))} (hp : n ≠ p0) (hw : ∀ x, Region.wanted o (yielded ops (A x).tmps) = true) (R : Value → World → Prop)
      (hR : ∀ v w w', G w w' → R v w → R v w')
      (hc : ∀ x w b, G w0 w → J b w → (∀ p ∈ Rs, befB ops ops.size n p.1 = true → p.2 (x p.1) w) → uponV P (fun v w' => (G w w' ∧ J b w') ∧ R v w') ((execOp (A x).eval o).run P w))
      (h : HavJ G p0 J P ops Q w0 rest (n + 1) (fun x => (A x).put o.dst (x n)) (Rs ++ [(n, R)])) : HavJ G p0 J P ops Q w0 (o :: rest) n A Rs
  | one {o : Oper} {rest : List Oper} {n : Nat} {A : (Nat → Value) → Act} {Rs : List (Nat × (Value → World → Prop))} (hp : n = p0) (hw : ∀ x, Region.wanted o (yielded ops (A x).tmps) = true) (R : Value → World → Prop)
      (hR : ∀ v w w', G w w' → R v w → R v w')
      (hc : ∀ x w, G w0 w → J false w → (∀ p ∈ Rs, befB ops ops.size n p.1 = true → p.2 (x p.1) w) → uponV P (fun v w' => (G w w' ∧ J true w') ∧ R v w') ((execOp (A x).eval o).run P w))
      (h : HavJ G p0 J P ops Q w0 rest (n + 1) (fun x => (A x).put o.dst (x n)) (Rs ++ [(n, R)])) : HavJ G p0 J P ops Q w0 (o :: rest) n A Rs

theorem HavJ.val {G : World → World → Prop} {p0 : Nat} {J : Bool → World → Prop} (hG : Rel G) {P : Program} {ops : Array Oper} {Q : Exit → Act → World → Prop} {w0 : World} {o : Oper} {rest : List Oper} {n : Nat} {A : (Nat → Value) → Act} {Rs : List (Nat × (Value → World → Prop))} (hp : n ≠ p0) (hw : ∀ x, Region.wanted o (yielded ops (A x).tmps) = true) (c : Value)
      (hc : ∀ x w, G w0 w → (∀ p ∈ Rs, befB ops ops.size n p.1 = true → p.2 (x p.1) w) → (execOp (A x).eval o).run P w = .ok (.value c) w)
      (h : HavJ G p0 J P ops Q w0 rest (n + 1) (fun x => (A x).put o.dst c) Rs) : HavJ G p0 J P ops Q w0 (o :: rest) n A Rs :=
  .det hp hw c (fun x w b h1 hb h2 => by rw [hc x w h1 h2]; exact ⟨rfl, hG.refl w, hb⟩) h

section sound
variable {G : World → World → Prop} {p0 : Nat} {J : Bool → World → Prop} {P : Program} {ops : Array Oper} {Q : Exit → Act → World → Prop} {w0 : World} {a0 : Act}

/-- what one operation gives -/
def OblJ (G : World → World → Prop) (p0 : Nat) (J : Bool → World → Prop) (P : Program) (ops : Array Oper) (w0 : World) (a0 : Act) (val : Nat → Option Value) (R : Nat → Value → World → Prop) (i : Nat) : Prop :=
  ∀ o, ops[i]? = some o → ∀ x w b, (i = p0 → b = false) → G w0 w → J b w → (∀ j, j < i → befB ops ops.size i j = true → good val R j (x j) w) →
    if Region.wanted o (yielded ops (actTo ops val x a0 i).tmps) then uponV P (fun v w' => (G w w' ∧ J (if i = p0 then true else b) w') ∧ good val R i v w') ((execOp (actTo ops val x a0 i).eval o).run P w)
    else i ≠ p0 ∧ good val R i undef w

/-- HavJ, laid flat -/
theorem HavJ.flat {rest : List Oper} {k : Nat} {A : (Nat → Value) → Act} {Rs : List (Nat × (Value → World → Prop))} (h : HavJ G p0 J P ops Q w0 rest k A Rs) :
    ∀ (val : Nat → Option Value) (R : Nat → Value → World → Prop), ops.toList.drop k = rest → k ≤ ops.size → (∀ x, A x = actTo ops val x a0 k) →
      (∀ p ∈ Rs, p.1 < k ∧ val p.1 = none ∧ p.2 = R p.1) → (∀ j, j < k → val j = none → (j, R j) ∈ Rs) → (∀ j, j < k → ∀ v w w', G w w' → good val R j v w → good val R j v w') → (∀ j, j < k → OblJ G p0 J P ops w0 a0 val R j) →
      ∃ (n : Nat) (val : Nat → Option Value) (R : Nat → Value → World → Prop), n ≤ ops.size ∧ p0 < n ∧ Region.seqB .any ops (ops.size - n) n (doneTo ops n) = true ∧ headB ops n = true ∧
        (∀ j, j < n → ∀ v w w', G w w' → good val R j v w → good val R j v w') ∧ (∀ j, j < n → OblJ G p0 J P ops w0 a0 val R j) ∧
        ∀ x w, G w0 w → J true w → (∀ j, j < n → good val R j (x j) w) → wpList P ops Q (ops.toList.drop n) (actTo ops val x a0 n) w := by
  induction h with
  | @tail rest n A Rs hp0 hs hh h =>
    intro val R hd hk hA hRs hRs' hst hob
    refine ⟨n, val, R, hk, hp0, ?_, hh, hst, hob, fun x w hw hJ hg => ?_⟩
    · have : rest.length = ops.size - n := by rw [← hd]; simp
      rw [← this]; exact hs
    · rw [hd, ← hA]
      refine h x w hw hJ fun p hp => ?_
      obtain ⟨h1, h2, h3⟩ := hRs p hp
      have := hg p.1 h1
      simp only [good, h2] at this
      rw [h3]; exact this
  | @skip o rest n A Rs hp0 hw h ih =>
    intro val R hd hk hA hRs hRs' hst hob
    have hn : n < ops.size := by
      rcases Nat.lt_or_ge n ops.size with h | h
      · exact h
      · rw [List.drop_of_length_le (by simpa using h)] at hd; cases hd
    have ho : ops[n]? = some o := by
      have := congrArg List.head? hd
      rw [List.head?_drop] at this
      simpa using this
    have hpre : ∀ (val' : Nat → Option Value) x i, i ≤ n → (∀ j, j < n → val' j = val j) → actTo ops val' x a0 i = actTo ops val x a0 i := by
      intro val' x i
      induction i with
      | zero => intro _ _; rfl
      | succ i ihi => intro hi hv; simp only [actTo]; rw [ihi (by omega) hv, hv i (by omega)]
    have key : ∀ (val' : Nat → Option Value), (∀ j, j < n → val' j = val j) → ∀ j, j < n → ∀ v w, good val' R j v w ↔ good val R j v w := fun val' hv j hj v w => by simp only [good, hv j hj]
    let val' : Nat → Option Value := fun j => if j = n then some undef else val j
    have hv : ∀ j, j < n → val' j = val j := fun j hj => by simp [val', Nat.ne_of_lt hj]
    have hvn : val' n = some undef := by simp [val']
    refine ih val' R ?_ hn ?_ ?_ ?_ ?_ ?_
    · rw [← List.tail_drop, hd]; rfl
    · intro x; simp only [actTo, ho, Option.bind_some, hvn, Option.getD_some]; rw [hpre val' x n (Nat.le_refl _) hv, hA]
    · intro p hp; obtain ⟨h1, h2, h3⟩ := hRs p hp; exact ⟨by omega, by rw [hv _ h1]; exact h2, h3⟩
    · intro j hj hj'
      by_cases e : j = n
      · subst e; rw [hvn] at hj'; cases hj'
      · exact hRs' j (by omega) (by rw [← hv j (by omega)]; exact hj')
    · intro j hj v w w' hg hgd
      by_cases e : j = n
      · subst e; simp only [good, hvn] at hgd ⊢; exact hgd
      · exact (key val' hv j (by omega) v w').2 (hst j (by omega) v w w' hg ((key val' hv j (by omega) v w).1 hgd))
    · intro j hj
      by_cases e : j = n
      · subst e
        intro o' ho' x w bb hb0 hw' hJ hg
        have : o' = o := by rw [ho] at ho'; exact (Option.some.inj ho').symm
        subst this
        rw [hpre val' x j (Nat.le_refl _) hv, ← hA, if_neg (by rw [hw]; simp)]
        exact ⟨hp0, by simp [good, hvn]⟩
      · have hjn : j < n := by omega
        intro o' ho' x w bb hb0 hw' hJ hg
        rw [hpre val' x j (by omega) hv]
        have := hob j hjn o' ho' x w bb hb0 hw' hJ fun i hi hb => (key val' hv i (by omega) _ _).1 (hg i hi hb)
        split
        · rename_i hif; rw [if_pos hif] at this; exact uponV_mono (fun v w' hx => ⟨hx.1, (key val' hv j hjn v w').2 hx.2⟩) this
        · rename_i hif; rw [if_neg hif] at this; exact ⟨this.1, (key val' hv j hjn _ _).2 this.2⟩
  | @det o rest n A Rs hp0 hw c hc h ih =>
    intro val R hd hk hA hRs hRs' hst hob
    have hn : n < ops.size := by
      rcases Nat.lt_or_ge n ops.size with h | h
      · exact h
      · rw [List.drop_of_length_le (by simpa using h)] at hd; cases hd
    have ho : ops[n]? = some o := by
      have := congrArg List.head? hd
      rw [List.head?_drop] at this
      simpa using this
    have hpre : ∀ (val' : Nat → Option Value) x i, i ≤ n → (∀ j, j < n → val' j = val j) → actTo ops val' x a0 i = actTo ops val x a0 i := by
      intro val' x i
      induction i with
      | zero => intro _ _; rfl
      | succ i ihi => intro hi hv; simp only [actTo]; rw [ihi (by omega) hv, hv i (by omega)]
    have key : ∀ (val' : Nat → Option Value), (∀ j, j < n → val' j = val j) → ∀ j, j < n → ∀ v w, good val' R j v w ↔ good val R j v w := fun val' hv j hj v w => by simp only [good, hv j hj]
    let val' : Nat → Option Value := fun j => if j = n then some c else val j
    have hv : ∀ j, j < n → val' j = val j := fun j hj => by simp [val', Nat.ne_of_lt hj]
    have hvn : val' n = some c := by simp [val']
    refine ih val' R ?_ hn ?_ ?_ ?_ ?_ ?_
    · rw [← List.tail_drop, hd]; rfl
    · intro x; simp only [actTo, ho, Option.bind_some, hvn, Option.getD_some]; rw [hpre val' x n (Nat.le_refl _) hv, hA]
    · intro p hp; obtain ⟨h1, h2, h3⟩ := hRs p hp; exact ⟨by omega, by rw [hv _ h1]; exact h2, h3⟩
    · intro j hj hj'
      by_cases e : j = n
      · subst e; rw [hvn] at hj'; cases hj'
      · exact hRs' j (by omega) (by rw [← hv j (by omega)]; exact hj')
    · intro j hj v w w' hg hgd
      by_cases e : j = n
      · subst e; simp only [good, hvn] at hgd ⊢; exact hgd
      · exact (key val' hv j (by omega) v w').2 (hst j (by omega) v w w' hg ((key val' hv j (by omega) v w).1 hgd))
    · intro j hj
      by_cases e : j = n
      · subst e
        intro o' ho' x w bb hb0 hw' hJ hg
        have : o' = o := by rw [ho] at ho'; exact (Option.some.inj ho').symm
        subst this
        have hfacts : ∀ p ∈ Rs, befB ops ops.size j p.1 = true → p.2 (x p.1) w := fun p hp hb => by
          obtain ⟨h1, h2, h3⟩ := hRs p hp
          have := (key val' hv p.1 h1 _ _).1 (hg p.1 h1 hb)
          simp only [good, h2] at this
          rw [h3]; exact this
        rw [hpre val' x j (Nat.le_refl _) hv, ← hA, if_pos (hw x)]
        exact uponV_mono (fun v w' hx => ⟨by rw [if_neg hp0]; exact hx.2, by simp [good, hvn, hx.1]⟩) (hc x w bb hw' hJ hfacts)
      · have hjn : j < n := by omega
        intro o' ho' x w bb hb0 hw' hJ hg
        rw [hpre val' x j (by omega) hv]
        have := hob j hjn o' ho' x w bb hb0 hw' hJ fun i hi hb => (key val' hv i (by omega) _ _).1 (hg i hi hb)
        split
        · rename_i hif; rw [if_pos hif] at this; exact uponV_mono (fun v w' hx => ⟨hx.1, (key val' hv j hjn v w').2 hx.2⟩) this
        · rename_i hif; rw [if_neg hif] at this; exact ⟨this.1, (key val' hv j hjn _ _).2 this.2⟩
  | @any o rest n A Rs hp0 hw R1 hR1 hc h ih =>
    intro val R hd hk hA hRs hRs' hst hob
    have hn : n < ops.size := by
      rcases Nat.lt_or_ge n ops.size with h | h
      · exact h
      · rw [List.drop_of_length_le (by simpa using h)] at hd; cases hd
    have ho : ops[n]? = some o := by
      have := congrArg List.head? hd
      rw [List.head?_drop] at this
      simpa using this
    have hpre : ∀ (val' : Nat → Option Value) x i, i ≤ n → (∀ j, j < n → val' j = val j) → actTo ops val' x a0 i = actTo ops val x a0 i := by
      intro val' x i
      induction i with
      | zero => intro _ _; rfl
      | succ i ihi => intro hi hv; simp only [actTo]; rw [ihi (by omega) hv, hv i (by omega)]
    let val' : Nat → Option Value := fun j => if j = n then none else val j
    let R' : Nat → Value → World → Prop := fun j => if j = n then R1 else R j
    have hv : ∀ j, j < n → val' j = val j := fun j hj => by simp [val', Nat.ne_of_lt hj]
    have hvn : val' n = none := by simp [val']
    have hr : ∀ j, j < n → R' j = R j := fun j hj => by simp [R', Nat.ne_of_lt hj]
    have hrn : R' n = R1 := by simp [R']
    have key : ∀ j, j < n → ∀ v w, good val' R' j v w ↔ good val R j v w := fun j hj v w => by simp only [good, hv j hj, hr j hj]
    refine ih val' R' ?_ hn ?_ ?_ ?_ ?_ ?_
    · rw [← List.tail_drop, hd]; rfl
    · intro x; simp only [actTo, ho, Option.bind_some, hvn, Option.getD_none]; rw [hpre val' x n (Nat.le_refl _) hv, hA]
    · intro p hp
      rcases List.mem_append.1 hp with hp | hp
      · obtain ⟨h1, h2, h3⟩ := hRs p hp; exact ⟨by omega, by rw [hv _ h1]; exact h2, by rw [hr _ h1]; exact h3⟩
      · have : p = (n, R1) := by simpa using hp
        subst this
        exact ⟨by omega, hvn, hrn.symm⟩
    · intro j hj hj'
      by_cases e : j = n
      · subst e; rw [hrn]; simp
      · rw [hr j (by omega)]; exact List.mem_append_left _ (hRs' j (by omega) (by rw [← hv j (by omega)]; exact hj'))
    · intro j hj v w w' hg hgd
      by_cases e : j = n
      · subst e; simp only [good, hvn, hrn] at hgd ⊢; exact hR1 v w w' hg hgd
      · exact (key j (by omega) v w').2 (hst j (by omega) v w w' hg ((key j (by omega) v w).1 hgd))
    · intro j hj
      by_cases e : j = n
      · subst e
        intro o' ho' x w bb hb0 hw' hJ hg
        have : o' = o := by rw [ho] at ho'; exact (Option.some.inj ho').symm
        subst this
        rw [hpre val' x j (Nat.le_refl _) hv, ← hA, if_pos (hw x)]
        have hfacts : ∀ p ∈ Rs, befB ops ops.size j p.1 = true → p.2 (x p.1) w := fun p hp hb => by
          obtain ⟨h1, h2, h3⟩ := hRs p hp
          have := (key p.1 h1 _ _).1 (hg p.1 h1 hb)
          simp only [good, h2] at this
          rw [h3]; exact this
        refine uponV_mono (fun v w' hx => ⟨by rw [if_neg hp0]; exact hx.1, ?_⟩) (hc x w bb hw' hJ hfacts)
        simp only [good, hvn, hrn]; exact hx.2
      · have hjn : j < n := by omega
        intro o' ho' x w bb hb0 hw' hJ hg
        rw [hpre val' x j (by omega) hv]
        have := hob j hjn o' ho' x w bb hb0 hw' hJ fun i hi hb => (key i (by omega) _ _).1 (hg i hi hb)
        split
        · rename_i hif; rw [if_pos hif] at this; exact uponV_mono (fun v w' hx => ⟨hx.1, (key j hjn v w').2 hx.2⟩) this
        · rename_i hif; rw [if_neg hif] at this; exact ⟨this.1, (key j hjn _ _).2 this.2⟩
  | @one o rest n A Rs hp0 hw R1 hR1 hc h ih =>
    intro val R hd hk hA hRs hRs' hst hob
    have hn : n < ops.size := by
      rcases Nat.lt_or_ge n ops.size with h | h
      · exact h
      · rw [List.drop_of_length_le (by simpa using h)] at hd; cases hd
    have ho : ops[n]? = some o := by
      have := congrArg List.head? hd
      rw [List.head?_drop] at this
      simpa using this
    have hpre : ∀ (val' : Nat → Option Value) x i, i ≤ n → (∀ j, j < n → val' j = val j) → actTo ops val' x a0 i = actTo ops val x a0 i := by
      intro val' x i
      induction i with
      | zero => intro _ _; rfl
      | succ i ihi => intro hi hv; simp only [actTo]; rw [ihi (by omega) hv, hv i (by omega)]
    let val' : Nat → Option Value := fun j => if j = n then none else val j
    let R' : Nat → Value → World → Prop := fun j => if j = n then R1 else R j
    have hv : ∀ j, j < n → val' j = val j := fun j hj => by simp [val', Nat.ne_of_lt hj]
    have hvn : val' n = none := by simp [val']
    have hr : ∀ j, j < n → R' j = R j := fun j hj => by simp [R', Nat.ne_of_lt hj]
    have hrn : R' n = R1 := by simp [R']
    have key : ∀ j, j < n → ∀ v w, good val' R' j v w ↔ good val R j v w := fun j hj v w => by simp only [good, hv j hj, hr j hj]
    refine ih val' R' ?_ hn ?_ ?_ ?_ ?_ ?_
    · rw [← List.tail_drop, hd]; rfl
    · intro x; simp only [actTo, ho, Option.bind_some, hvn, Option.getD_none]; rw [hpre val' x n (Nat.le_refl _) hv, hA]
    · intro p hp
      rcases List.mem_append.1 hp with hp | hp
      · obtain ⟨h1, h2, h3⟩ := hRs p hp; exact ⟨by omega, by rw [hv _ h1]; exact h2, by rw [hr _ h1]; exact h3⟩
      · have : p = (n, R1) := by simpa using hp
        subst this
        exact ⟨by omega, hvn, hrn.symm⟩
    · intro j hj hj'
      by_cases e : j = n
      · subst e; rw [hrn]; simp
      · rw [hr j (by omega)]; exact List.mem_append_left _ (hRs' j (by omega) (by rw [← hv j (by omega)]; exact hj'))
    · intro j hj v w w' hg hgd
      by_cases e : j = n
      · subst e; simp only [good, hvn, hrn] at hgd ⊢; exact hR1 v w w' hg hgd
      · exact (key j (by omega) v w').2 (hst j (by omega) v w w' hg ((key j (by omega) v w).1 hgd))
    · intro j hj
      by_cases e : j = n
      · subst e
        intro o' ho' x w bb hb0 hw' hJ hg
        have : o' = o := by rw [ho] at ho'; exact (Option.some.inj ho').symm
        subst this
        rw [hpre val' x j (Nat.le_refl _) hv, ← hA, if_pos (hw x)]
        have hfacts : ∀ p ∈ Rs, befB ops ops.size j p.1 = true → p.2 (x p.1) w := fun p hp hb => by
          obtain ⟨h1, h2, h3⟩ := hRs p hp
          have := (key p.1 h1 _ _).1 (hg p.1 h1 hb)
          simp only [good, h2] at this
          rw [h3]; exact this
        refine uponV_mono (fun v w' hx => ⟨by rw [if_pos hp0]; exact hx.1, ?_⟩) (hc x w hw' (by rw [← hb0 hp0]; exact hJ) hfacts)
        simp only [good, hvn, hrn]; exact hx.2
      · have hjn : j < n := by omega
        intro o' ho' x w bb hb0 hw' hJ hg
        rw [hpre val' x j (by omega) hv]
        have := hob j hjn o' ho' x w bb hb0 hw' hJ fun i hi hb => (key i (by omega) _ _).1 (hg i hi hb)
        split
        · rename_i hif; rw [if_pos hif] at this; exact uponV_mono (fun v w' hx => ⟨hx.1, (key j hjn v w').2 hx.2⟩) this
        · rename_i hif; rw [if_neg hif] at this; exact ⟨this.1, (key j hjn _ _).2 this.2⟩

theorem hav_anyJ (hG : Rel G) (hn : Region.noSelect ops = true) (he : edgesB ops = true) (hs : slotsB ops = true) {n : Nat} {pre : Nat → Bool} {val : Nat → Option Value} {R : Nat → Value → World → Prop} (hnle : n ≤ ops.size) (hp0 : p0 < n)
    (hseq : Region.seqB .any ops (ops.size - n) n (doneTo ops n) = true) (hhead : headP ops n pre = true) (hst : ∀ j, j < n → ∀ v w w', G w w' → good val R j v w → good val R j v w')
    (hob : ∀ j, j < n → OblJ G p0 J P ops w0 a0 val R j) (htail : ∀ x w, G w0 w → J true w → (∀ j, j < n → good val R j (x j) w) → wpList P ops Q (ops.toList.drop n) (actTo ops val x a0 n) w) :
    ∀ (f : Nat) (S : Array Bool) (a : Act) (w : World) (x : Nat → Value), S.size = ops.size → Closed ops S → (∀ i, i < n → pre i = true → S.getD i false = true) → (∀ t, n ≤ t → S.getD t false = false) → toCome S n ≤ f → G w0 w → J (S.getD p0 false) w →
      (∀ j, j < n → S.getD j false = true → good val R j (x j) w) → FrameIs ops a0 S x a → wpAny P .any ops Q (f + (ops.size - n)) S a w := by
  have hvalx : ∀ (S : Array Bool) (x : Nat → Value) w, (∀ t, n ≤ t → S.getD t false = false) → (∀ j, j < n → S.getD j false = true → good val R j (x j) w) → ∀ j, S.getD j false = true → (val j).getD (x j) = x j := by
    intro S x w ht hg j hj
    have hjn : j < n := by
      rcases Nat.lt_or_ge j n with h | h
      · exact h
      · rw [ht j h] at hj; cases hj
    have := hg j hjn hj
    unfold good at this
    cases hv : val j with
    | none => rfl
    | some c => rw [hv] at this; simp [this]
  intro f
  induction f with
  | zero =>
    intro S a w x hsz hcl hpre ht hto hw hJ hg hf
    have hall : ∀ j, j < n → S.getD j false = true := fun j hj => by
      cases h : S.getD j false with
      | true => rfl
      | false => have := toCome_pos S j h n hj; omega
    have hS : S = doneTo ops n := by
      apply Array.ext_getElem?
      intro j
      by_cases h : j < ops.size
      · have h1 : S.getD j false = (doneTo ops n).getD j false := by
          rw [doneTo_at]
          by_cases hj : j < n
          · rw [hall j hj]; simp [hj, h]
          · rw [ht j (by omega)]; simp [hj]
        have h2 : j < S.size := by omega
        have h3 : j < (doneTo ops n).size := by simp [doneTo, h]
        simp only [Array.getD_eq_getD_getElem?, Array.getElem?_eq_getElem h2, Array.getElem?_eq_getElem h3, Option.getD_some] at h1 ⊢
        rw [h1]
      · rw [Array.getElem?_eq_none (by omega), Array.getElem?_eq_none (by simp [doneTo]; omega)]
    have ha : a = actTo ops val x a0 n := by
      have h1 : a.tmps = (actTo ops val x a0 n).tmps := by
        apply Array.ext_getElem?
        intro t
        by_cases hex : ∃ (j : Nat) (oj : Oper), ops[j]? = some oj ∧ oj.dst = some t ∧ j < n
        · obtain ⟨j, oj, hj, hd, hjn⟩ := hex
          by_cases htz : t < a0.tmps.size
          · rw [hf.done j oj t hj hd (hall j hjn) htz, actTo_done hs val x hj hd htz n hjn, hvalx S x w ht hg j (hall j hjn)]
          · rw [Array.getElem?_eq_none (by rw [hf.size]; omega), Array.getElem?_eq_none (by rw [actTo_size]; omega)]
        · rw [hf.rest t fun j o h1 h2 => ?_, actTo_rest val x t n fun j o h1 h2 h3 => hex ⟨j, o, h2, h3, h1⟩]
          rcases Nat.lt_or_ge j n with h3 | h3
          · exact absurd ⟨j, o, h1, h2, h3⟩ hex
          · exact ht j h3
      have h2 : a.defers = (actTo ops val x a0 n).defers := by rw [hf.defers, actTo_defers]
      cases a
      cases hb : actTo ops val x a0 n
      rw [hb] at h1 h2
      simp only at h1 h2
      rw [h1, h2]
    have := htail x w hw (by rw [hall p0 hp0] at hJ; exact hJ) fun j hj => hg j hj (hall j hj)
    rw [← ha] at this
    have hlen : (ops.toList.drop n).length = ops.size - n := by simp
    have h3 := wpAny_of_seq (P := P) (ops := ops) (md := .any) (Q' := Q) (ops.toList.drop n) n S a w (fun j => by rw [List.getElem?_drop]; simp) (by rw [hS, hlen]; exact hseq) this
    rw [hlen] at h3
    simpa using h3
  | succ f ih =>
    intro S a w x hsz hcl hpre ht hto hw hJ hg hf
    by_cases hall : ∃ i, i < n ∧ S.getD i false = false
    · have hready : ∀ i ∈ Region.ready .any ops S, i < n := by
        intro t hr
        rcases Nat.lt_or_ge t n with h | h
        · exact h
        · obtain ⟨_, ot, hot, hall'⟩ := mem_ready.1 hr
          have htlt : t < ops.size := (Array.getElem?_eq_some_iff.1 hot).1
          obtain ⟨i, hi, hu⟩ := hall
          have h1 := List.all_eq_true.1 hhead t (List.mem_range.2 htlt)
          simp only [Bool.or_eq_true, decide_eq_true_eq] at h1
          have h2 := List.all_eq_true.1 (h1.resolve_left (by omega)) i (List.mem_range.2 hi)
          rcases (Bool.or_eq_true _ _).mp h2 with h2 | h2
          · have h3 := hpre i hi h2
            rw [hu] at h3; cases h3
          · have h3 := hcl.bef ops.size t i ot hot hall' h2
            rw [hu] at h3; cases h3
      rw [show f + 1 + (ops.size - n) = (f + (ops.size - n)) + 1 by omega]
      refine ⟨fun hnil => ?_, fun i hi => ?_⟩
      · obtain ⟨i, hi, hu, hmin⟩ := minimal n hall
        have hilt : i < ops.size := by omega
        have hio : ops[i]? = some ops[i] := Array.getElem?_eq_getElem hilt
        have : i ∈ Region.ready .any ops S := mem_ready.2 ⟨getD_in (by omega) hu, ops[i], hio, fun e hee hb => hmin _ (edges_lt he hio e hee hb)⟩
        rw [hnil] at this; cases this
      · have hin := hready i hi
        obtain ⟨hu, o, ho, hr⟩ := mem_ready.1 hi
        have hun := getD_both hu
        have hilt : i < ops.size := by omega
        have hsame := same_slots he hs hcl hf (hvalx S x w ht hg) ho hun hr
        have hobl := hob i hin o ho x w (S.getD p0 false) (fun e => by rw [← e]; exact hun) hw hJ fun j hj hb => hg j (by omega) (hcl.bef ops.size i j o ho hr hb)
        rw [← wanted_same hsame, ← exec_same hn ho hsame] at hobl
        have hnext : ∀ v w', G w w' → J (if i = p0 then true else S.getD p0 false) w' → good val R i v w' → wpAny P .any ops Q (f + (ops.size - n)) (S.setIfInBounds i true) (a.put o.dst v) w' := by
          intro v w' hgw hgj hgv
          have hj2 : J ((S.setIfInBounds i true).getD p0 false) w' := by
            by_cases e : i = p0
            · rw [if_pos e] at hgj
              rw [← e, show (S.setIfInBounds i true).getD i false = true by simp [hsz, hilt]]
              exact hgj
            · rw [if_neg e] at hgj
              rw [getD_set_ne false e]
              exact hgj
          let x' : Nat → Value := fun j => if j = i then v else x j
          have hx'i : x' i = v := by simp [x']
          have hx'j : ∀ j, j ≠ i → x' j = x j := fun j hj => by simp [x', hj]
          have hset : ∀ j, (S.setIfInBounds i true).getD j false = true → j = i ∨ S.getD j false = true := fun j hj => by
            by_cases e : i = j
            · exact .inl e.symm
            · rw [getD_set_ne false e] at hj; exact .inr hj
          refine ih (S.setIfInBounds i true) (a.put o.dst v) w' x' (by simp [hsz]) ?_ (fun k hk hp => getD_set_true (hpre k hk hp)) ?_ ?_ (hG.trans hw hgw) hj2 ?_ ?_
          · intro j oj hj hl e hee hb
            rcases hset j hl with h1 | h1
            · subst h1
              have : oj = o := by rw [ho] at hj; exact (Option.some.inj hj).symm
              subst this
              exact getD_set_true (hr e hee hb)
            · exact getD_set_true (hcl j oj hj h1 e hee hb)
          · intro t htn
            rw [getD_set_ne false (by omega)]
            exact ht t htn
          · have := (toCome_set S i (by omega) hun n).1 hin; omega
          · intro j hj hl
            rcases hset j hl with h1 | h1
            · subst h1; rw [hx'i]; exact hgv
            · by_cases e : j = i
              · subst e; rw [hx'i]; exact hgv
              · rw [hx'j j e]; exact hst j hj _ _ _ hgw (hg j hj h1)
          · refine ⟨by rw [put_defers']; exact hf.defers, by rw [put_size]; exact hf.size, fun j oj t hj hd hl htz => ?_, fun t hno => ?_⟩
            · by_cases e : j = i
              · subst e
                have : oj = o := by rw [ho] at hj; exact (Option.some.inj hj).symm
                subst this
                rw [hd, put_at _ _ _ (by rw [hf.size]; exact htz), hx'i]
              · have hdne : o.dst ≠ some t := ((slots_of hs ho hj hd).1).resolve_left (fun h => e h.symm)
                rw [put_ne _ _ _ _ hdne, hx'j j e]
                exact hf.done j oj t hj hd ((hset j hl).resolve_left e) htz
            · have hdne : o.dst ≠ some t := fun h => by
                have := hno i o ho h
                simp [hsz, hilt] at this
              rw [put_ne _ _ _ _ hdne]
              refine hf.rest t fun j oj hj hd => ?_
              cases h : S.getD j false with
              | false => rfl
              | true => have := hno j oj hj hd; rw [getD_set_true h] at this; cases this
        unfold wpOp
        simp only [ho]
        split
        · rename_i hwn
          rw [if_pos hwn] at hobl
          exact .inl (upon_of_uponV (fun v w' hv => hnext v w' hv.1.1 hv.1.2 hv.2) hobl)
        · rename_i hwn
          rw [if_neg hwn] at hobl
          exact hnext undef w (hG.refl w) (by rw [if_neg hobl.1]; exact hJ) hobl.2
    · have hto0 : toCome S n ≤ f := by
        have : ∀ m, m ≤ n → toCome S m = 0 := by
          intro m
          induction m with
          | zero => intro _; rfl
          | succ m ihm =>
            intro hm
            simp only [toCome]
            rw [ihm (by omega)]
            cases h : S.getD m false with
            | true => simp
            | false => exact absurd ⟨m, by omega, h⟩ hall
        rw [this n (Nat.le_refl _)]; omega
      rw [show f + 1 + (ops.size - n) = 1 + (f + (ops.size - n)) by omega]
      exact wpAny_add _ 1 (ih S a w x hsz hcl hpre ht hto0 hw hJ hg hf)

theorem wpAny_havJ {w : World} (hG : Rel G) (hJ : J false { w with drawn := w.drawn + 1 }) (hok : havB ops = true) (h : HavJ G p0 J P ops Q w ops.toList 0 (fun _ => a0) []) : wpAny P .any ops Q ops.size (Array.replicate ops.size false) a0 { w with drawn := w.drawn + 1 } := by
  simp only [havB, Bool.and_eq_true] at hok
  obtain ⟨n, val, R, h1, hp, h2, h3, h4, h5, h6⟩ := h.flat (fun _ => none) (fun _ _ _ => True) (by simp) (by simp) (fun _ => rfl) (by simp) (fun j hj => absurd hj (by omega)) (fun j hj => absurd hj (by omega)) (fun j hj => absurd hj (by omega))
  have hnone : ∀ t, (Array.replicate ops.size false).getD t false = false := fun t => getD_replicate_false _ _
  have hto : ∀ m, toCome (Array.replicate ops.size false) m = m := by
    intro m
    induction m with
    | zero => rfl
    | succ m ih => simp only [toCome]; rw [ih, hnone]; simp
  have hdraw : G w { w with drawn := w.drawn + 1 } := hG.drew w
  have := hav_anyJ hG (x := fun _ => undef) hok.1.1 hok.1.2 hok.2 h1 hp h2 (headP_of h3) h4 h5 h6 n (Array.replicate ops.size false) a0 { w with drawn := w.drawn + 1 } (by simp) (fun j oj _ hl => by rw [hnone] at hl; cases hl) (fun _ _ hp => by cases hp) (fun t _ => hnone t) (by rw [hto]; exact Nat.le_refl _) hdraw
    (by rw [hnone]; exact hJ) (fun j _ hl => by rw [hnone] at hl; cases hl) ⟨rfl, rfl, (fun j o t _ _ hl => by rw [hnone] at hl; cases hl), fun t _ => rfl⟩
  rw [show n + (ops.size - n) = ops.size by omega] at this
  exact this
theorem wp_region_hav_litJ {id : Nat} {w : World} {l : List Oper} (hG : Rel G) (hJ : J false { w with drawn := w.drawn + 1 }) (hm : P.follows .mixedOrders = true) (hok : havB l.toArray = true) (h : HavJ G p0 J P l.toArray Q w l 0 (fun _ => a0) []) : (Code.region id l.toArray true).wp P Q a0 w :=
  wp_region_any hm (wpAny_havJ hG hJ hok (by simpa using h))
end sound
end Go.Proofs.YtkinlcichclnkaaDoor
