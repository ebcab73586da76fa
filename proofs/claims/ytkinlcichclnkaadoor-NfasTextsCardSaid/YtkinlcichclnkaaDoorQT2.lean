/-
  A statement whose order Go leaves open: each operation is run once, in the text's order, but in whatever world has grown out of the first one: what was there stays. No program in sight.
-/
import Derived.Test.YtkinlcichclnkaaDoorRows
import Derived.StillTail
import Derived.WalkKit
namespace Go.Proofs.YtkinlcichclnkaaDoor
open Go.RowKit

/-- all that was there is as it was -/
def Grew (w w' : World) : Prop := Below w.heap.size w w'
theorem Grew.refl (w : World) : Grew w w := Below.refl _ _
theorem Grew.trans {a b c : World} (h : Grew a b) (k : Grew b c) : Grew a c := Below.trans h (Below.mono k h.size)
theorem Grew.cells {w w' : World} (h : Grew w w') : ∀ b o, b < w.heap.size → w'.cell? ⟨b, o, none⟩ = w.cell? ⟨b, o, none⟩ := fun b o hb => Below.cell (p := ⟨b, o, none⟩) h hb
theorem Grew.frees {w w' : World} (h : Grew w w') : ∀ b o, b < w.heap.size → w'.frozen? ⟨b, o, none⟩ = w.frozen? ⟨b, o, none⟩ := fun b o hb => Below.frozen (p := ⟨b, o, none⟩) h hb

/-- does number i wait for number j? -/
def befB (ops : Array Oper) : Nat → Nat → Nat → Bool
  | 0, _, _ => false
  | f + 1, i, j => match ops[i]? with
    | some o => (o.after.any fun e => Region.binds .any e && e.on == j) || (o.after.any fun e => Region.binds .any e && (decide (j < e.on) && befB ops f e.on j))
    | none => false

def edgesB (ops : Array Oper) : Bool := (List.range ops.size).all fun i => match ops[i]? with | some o => o.after.all fun e => !Region.binds .any e || decide (e.on < i) | none => true
def slotsB (ops : Array Oper) : Bool := (List.range ops.size).all fun i => (List.range ops.size).all fun j =>
  match ops[j]?, ops[i]? with
  | some oj, some oi => (match oj.dst with
    | some t => (i == j || oi.dst != some t) && (!(oi.looksAt ops).contains t || befB ops ops.size i j || (decide (i < j) && befB ops ops.size j i))
    | none => true)
  | _, _ => true
def havB (ops : Array Oper) : Bool := Region.noSelect ops && edgesB ops && slotsB ops
def headB (ops : Array Oper) (n : Nat) : Bool := (List.range ops.size).all fun t => decide (t < n) || (List.range n).all fun i => befB ops ops.size t i
/-- as headB, but for what stands in pre -/
def headP (ops : Array Oper) (n : Nat) (pre : Nat → Bool) : Bool := (List.range ops.size).all fun t => decide (t < n) || (List.range n).all fun i => pre i || befB ops ops.size t i
/-- does the first operation move a value, which it may do at any time? -/
def move0B (ops : Array Oper) : Bool :=
  match ops[0]? with
  | some o => (match o.op with | .move _ => true | _ => false) && o.guard.isNone && o.after.isEmpty && Region.free .any ops (Array.replicate ops.size false) 0 && (Region.ready .any ops (Array.replicate ops.size false)).contains 0
  | none => false
theorem headP_of {ops : Array Oper} {n : Nat} (h : headB ops n = true) : headP ops n (fun _ => false) = true := by
  unfold headB at h
  unfold headP
  simpa using h
def doneTo (ops : Array Oper) (n : Nat) : Array Bool := ((List.range ops.size).map fun i => decide (i < n)).toArray

/-- what an operation comes to, by its value -/
def uponV (P : Program) (G : Value → World → Prop) : Result Next → Prop
  | .ok (.value v) w' => G v w'
  | .ok .skip w' => G undef w'
  | .ok (.enter f args) w' => Calls P f args w' fun
      | .returned v, w'' => G v w''
      | _, _ => False
  | _ => False
section
variable (P : Program) (G : Value → World → Prop) (w : World)
theorem uponV_value (v : Value) : uponV P G (.ok (.value v) w) = G v w := rfl
theorem uponV_skip : uponV P G (.ok .skip w) = G undef w := rfl
theorem uponV_enter (f : FuncId) (args : Array Value) : uponV P G (.ok (.enter f args) w) = Calls P f args w fun
      | .returned v, w'' => G v w''
      | _, _ => False := rfl
end
attribute [go_sem] uponV_value uponV_skip uponV_enter

/-- the head of a region, operation by operation: what is known of a value that is none of the text's own (Rs); then the tail, in its one order -/
inductive HavG (P : Program) (ops : Array Oper) (Q : Exit → Act → World → Prop) (w0 : World) : List Oper → Nat → ((Nat → Value) → Act) → List (Nat × (Value → World → Prop)) → Prop
  | tail {rest : List Oper} {n : Nat} {A : (Nat → Value) → Act} {Rs : List (Nat × (Value → World → Prop))} (hs : Region.seqB .any ops rest.length n (doneTo ops n) = true) (hh : headB ops n = true)
      (h : ∀ x w, Grew w0 w → (∀ p ∈ Rs, p.2 (x p.1) w) → wpList P ops Q rest (A x) w) : HavG P ops Q w0 rest n A Rs
  | tail0 {rest : List Oper} {n : Nat} {A : (Nat → Value) → Act} {Rs : List (Nat × (Value → World → Prop))} (hs : Region.seqB .any ops rest.length n (doneTo ops n) = true) (hh : headP ops n (fun i => i == 0) = true) (hm : move0B ops = true) (hQ : ∀ c a d v w, Q (.panic c) (Act.put a d v) w → Q (.panic c) a w) (hn : 0 < n)
      (h : ∀ x w, Grew w0 w → (∀ p ∈ Rs, p.2 (x p.1) w) → wpList P ops Q rest (A x) w) : HavG P ops Q w0 rest n A Rs
  | skip {o : Oper} {rest : List Oper} {n : Nat} {A : (Nat → Value) → Act} {Rs : List (Nat × (Value → World → Prop))} (hw : ∀ x, Region.wanted o (yielded ops (A x).tmps) = false)
      (h : HavG P ops Q w0 rest (n + 1) (fun x => (A x).put o.dst undef) Rs) : HavG P ops Q w0 (o :: rest) n A Rs
  | det {o : Oper} {rest : List Oper} {n : Nat} {A : (Nat → Value) → Act} {Rs : List (Nat × (Value → World → Prop))} (hw : ∀ x, Region.wanted o (yielded ops (A x).tmps) = true) (c : Value)
      (hc : ∀ x w, Grew w0 w → (∀ p ∈ Rs, befB ops ops.size n p.1 = true → p.2 (x p.1) w) → uponV P (fun v w' => v = c ∧ Grew w w') ((execOp (A x).eval o).run P w))
      (h : HavG P ops Q w0 rest (n + 1) (fun x => (A x).put o.dst c) Rs) : HavG P ops Q w0 (o :: rest) n A Rs
  | any {o : Oper} {rest : List Oper} {n : Nat} {A : (Nat → Value) → Act} {Rs : List (Nat × (Value → World → Prop))} (hw : ∀ x, Region.wanted o (yielded ops (A x).tmps) = true) (R : Value → World → Prop)
      (hR : ∀ v w w', Grew w w' → R v w → R v w')
      (hc : ∀ x w, Grew w0 w → (∀ p ∈ Rs, befB ops ops.size n p.1 = true → p.2 (x p.1) w) → uponV P (fun v w' => Grew w w' ∧ R v w') ((execOp (A x).eval o).run P w))
      (h : HavG P ops Q w0 rest (n + 1) (fun x => (A x).put o.dst (x n)) (Rs ++ [(n, R)])) : HavG P ops Q w0 (o :: rest) n A Rs

theorem HavG.val {P : Program} {ops : Array Oper} {Q : Exit → Act → World → Prop} {w0 : World} {o : Oper} {rest : List Oper} {n : Nat} {A : (Nat → Value) → Act} {Rs : List (Nat × (Value → World → Prop))} (hw : ∀ x, Region.wanted o (yielded ops (A x).tmps) = true) (c : Value)
      (hc : ∀ x w, Grew w0 w → (∀ p ∈ Rs, befB ops ops.size n p.1 = true → p.2 (x p.1) w) → (execOp (A x).eval o).run P w = .ok (.value c) w)
      (h : HavG P ops Q w0 rest (n + 1) (fun x => (A x).put o.dst c) Rs) : HavG P ops Q w0 (o :: rest) n A Rs :=
  .det hw c (fun x w h1 h2 => by rw [hc x w h1 h2]; exact ⟨rfl, Grew.refl w⟩) h

section sound
variable {P : Program} {ops : Array Oper} {Q : Exit → Act → World → Prop} {w0 : World} {a0 : Act}

def good (val : Nat → Option Value) (R : Nat → Value → World → Prop) (j : Nat) (v : Value) (w : World) : Prop :=
  match val j with
  | some c => v = c
  | none => R j v w
def actTo (ops : Array Oper) (val : Nat → Option Value) (x : Nat → Value) (a : Act) : Nat → Act
  | 0 => a
  | i + 1 => (actTo ops val x a i).put ((ops[i]?).bind (·.dst)) ((val i).getD (x i))

/-- what one operation gives -/
def Obl (P : Program) (ops : Array Oper) (w0 : World) (a0 : Act) (val : Nat → Option Value) (R : Nat → Value → World → Prop) (i : Nat) : Prop :=
  ∀ o, ops[i]? = some o → ∀ x w, Grew w0 w → (∀ j, j < i → befB ops ops.size i j = true → good val R j (x j) w) →
    if Region.wanted o (yielded ops (actTo ops val x a0 i).tmps) then uponV P (fun v w' => Grew w w' ∧ good val R i v w') ((execOp (actTo ops val x a0 i).eval o).run P w)
    else good val R i undef w

theorem uponV_mono {G G' : Value → World → Prop} (h : ∀ v w, G v w → G' v w) {r : Result Next} (hr : uponV P G r) : uponV P G' r := by
  cases r with
  | halt x w => exact hr
  | ok n w =>
    cases n <;> first
      | exact h _ _ hr
      | exact hr
      | (refine Calls.mono hr fun e w' he => ?_; cases e <;> first | exact h _ _ he | exact he)

theorem upon_of_uponV {o : Oper} {a : Act} {K : Act → World → Prop} {G : Value → World → Prop} (h : ∀ v w, G v w → K (a.put o.dst v) w) {r : Result Next} (hr : uponV P G r) : o.upon P a K Q r := by
  cases r with
  | halt x w => exact hr.elim
  | ok n w =>
    cases n <;> first
      | exact h _ _ hr
      | exact hr.elim
      | (refine Calls.mono hr fun e w' he => ?_; cases e <;> first | exact h _ _ he | exact he.elim)

/-- HavG, laid flat -/
theorem HavG.flat {rest : List Oper} {k : Nat} {A : (Nat → Value) → Act} {Rs : List (Nat × (Value → World → Prop))} (h : HavG P ops Q w0 rest k A Rs) :
    ∀ (val : Nat → Option Value) (R : Nat → Value → World → Prop), ops.toList.drop k = rest → k ≤ ops.size → (∀ x, A x = actTo ops val x a0 k) →
      (∀ p ∈ Rs, p.1 < k ∧ val p.1 = none ∧ p.2 = R p.1) → (∀ j, j < k → val j = none → (j, R j) ∈ Rs) → (∀ j, j < k → ∀ v w w', Grew w w' → good val R j v w → good val R j v w') → (∀ j, j < k → Obl P ops w0 a0 val R j) →
      ∃ (n : Nat) (val : Nat → Option Value) (R : Nat → Value → World → Prop), n ≤ ops.size ∧ Region.seqB .any ops (ops.size - n) n (doneTo ops n) = true ∧ (headB ops n = true ∨ (headP ops n (fun i => i == 0) = true ∧ move0B ops = true ∧ (∀ c a d v w, Q (.panic c) (Act.put a d v) w → Q (.panic c) a w) ∧ 0 < n)) ∧
        (∀ j, j < n → ∀ v w w', Grew w w' → good val R j v w → good val R j v w') ∧ (∀ j, j < n → Obl P ops w0 a0 val R j) ∧
        ∀ x w, Grew w0 w → (∀ j, j < n → good val R j (x j) w) → wpList P ops Q (ops.toList.drop n) (actTo ops val x a0 n) w := by
  induction h with
  | @tail rest n A Rs hs hh h =>
    intro val R hd hk hA hRs hRs' hst hob
    refine ⟨n, val, R, hk, ?_, .inl hh, hst, hob, fun x w hw hg => ?_⟩
    · have : rest.length = ops.size - n := by rw [← hd]; simp
      rw [← this]; exact hs
    · rw [hd, ← hA]
      refine h x w hw fun p hp => ?_
      obtain ⟨h1, h2, h3⟩ := hRs p hp
      have := hg p.1 h1
      simp only [good, h2] at this
      rw [h3]; exact this
  | @tail0 rest n A Rs hs hh hm hQ hn0 h =>
    intro val R hd hk hA hRs hRs' hst hob
    refine ⟨n, val, R, hk, ?_, .inr ⟨hh, hm, hQ, hn0⟩, hst, hob, fun x w hw hg => ?_⟩
    · have : rest.length = ops.size - n := by rw [← hd]; simp
      rw [← this]; exact hs
    · rw [hd, ← hA]
      refine h x w hw fun p hp => ?_
      obtain ⟨h1, h2, h3⟩ := hRs p hp
      have := hg p.1 h1
      simp only [good, h2] at this
      rw [h3]; exact this
  | @skip o rest n A Rs hw h ih =>
    intro val R hd hk hA hRs hRs' hst hob
    have hn : n < ops.size := by
      rcases Nat.lt_or_ge n ops.size with h | h
      · exact h
      · rw [List.drop_of_length_le (by simpa using h)] at hd; cases hd
    have ho : ops[n]? = some o := by
      have := congrArg List.head? hd
      rw [List.head?_drop] at this
      simpa using this
    have hpre : ∀ (val' : Nat → Option Value) x i, i ≤ n → (∀ j, j < n → val' j = val j) → actTo ops val' x a0 i = actTo ops val x a0 i := by
      intro val' x i
      induction i with
      | zero => intro _ _; rfl
      | succ i ihi => intro hi hv; simp only [actTo]; rw [ihi (by omega) hv, hv i (by omega)]
    have key : ∀ (val' : Nat → Option Value), (∀ j, j < n → val' j = val j) → ∀ j, j < n → ∀ v w, good val' R j v w ↔ good val R j v w := fun val' hv j hj v w => by simp only [good, hv j hj]
    let val' : Nat → Option Value := fun j => if j = n then some undef else val j
    have hv : ∀ j, j < n → val' j = val j := fun j hj => by simp [val', Nat.ne_of_lt hj]
    have hvn : val' n = some undef := by simp [val']
    refine ih val' R ?_ hn ?_ ?_ ?_ ?_ ?_
    · rw [← List.tail_drop, hd]; rfl
    · intro x; simp only [actTo, ho, Option.bind_some, hvn, Option.getD_some]; rw [hpre val' x n (Nat.le_refl _) hv, hA]
    · intro p hp; obtain ⟨h1, h2, h3⟩ := hRs p hp; exact ⟨by omega, by rw [hv _ h1]; exact h2, h3⟩
    · intro j hj hj'
      by_cases e : j = n
      · subst e; rw [hvn] at hj'; cases hj'
      · exact hRs' j (by omega) (by rw [← hv j (by omega)]; exact hj')
    · intro j hj v w w' hg hgd
      by_cases e : j = n
      · subst e; simp only [good, hvn] at hgd ⊢; exact hgd
      · exact (key val' hv j (by omega) v w').2 (hst j (by omega) v w w' hg ((key val' hv j (by omega) v w).1 hgd))
    · intro j hj
      by_cases e : j = n
      · subst e
        intro o' ho' x w hw' hg
        have : o' = o := by rw [ho] at ho'; exact (Option.some.inj ho').symm
        subst this
        rw [hpre val' x j (Nat.le_refl _) hv, ← hA, if_neg (by rw [hw]; simp)]
        simp [good, hvn]
      · have hjn : j < n := by omega
        intro o' ho' x w hw' hg
        rw [hpre val' x j (by omega) hv]
        have := hob j hjn o' ho' x w hw' fun i hi hb => (key val' hv i (by omega) _ _).1 (hg i hi hb)
        split
        · rename_i hif; rw [if_pos hif] at this; exact uponV_mono (fun v w' hx => ⟨hx.1, (key val' hv j hjn v w').2 hx.2⟩) this
        · rename_i hif; rw [if_neg hif] at this; exact (key val' hv j hjn _ _).2 this
  | @det o rest n A Rs hw c hc h ih =>
    intro val R hd hk hA hRs hRs' hst hob
    have hn : n < ops.size := by
      rcases Nat.lt_or_ge n ops.size with h | h
      · exact h
      · rw [List.drop_of_length_le (by simpa using h)] at hd; cases hd
    have ho : ops[n]? = some o := by
      have := congrArg List.head? hd
      rw [List.head?_drop] at this
      simpa using this
    have hpre : ∀ (val' : Nat → Option Value) x i, i ≤ n → (∀ j, j < n → val' j = val j) → actTo ops val' x a0 i = actTo ops val x a0 i := by
      intro val' x i
      induction i with
      | zero => intro _ _; rfl
      | succ i ihi => intro hi hv; simp only [actTo]; rw [ihi (by omega) hv, hv i (by omega)]
    have key : ∀ (val' : Nat → Option Value), (∀ j, j < n → val' j = val j) → ∀ j, j < n → ∀ v w, good val' R j v w ↔ good val R j v w := fun val' hv j hj v w => by simp only [good, hv j hj]
    let val' : Nat → Option Value := fun j => if j = n then some c else val j
    have hv : ∀ j, j < n → val' j = val j := fun j hj => by simp [val', Nat.ne_of_lt hj]
    have hvn : val' n = some c := by simp [val']
    refine ih val' R ?_ hn ?_ ?_ ?_ ?_ ?_
    · rw [← List.tail_drop, hd]; rfl
    · intro x; simp only [actTo, ho, Option.bind_some, hvn, Option.getD_some]; rw [hpre val' x n (Nat.le_refl _) hv, hA]
    · intro p hp; obtain ⟨h1, h2, h3⟩ := hRs p hp; exact ⟨by omega, by rw [hv _ h1]; exact h2, h3⟩
    · intro j hj hj'
      by_cases e : j = n
      · subst e; rw [hvn] at hj'; cases hj'
      · exact hRs' j (by omega) (by rw [← hv j (by omega)]; exact hj')
    · intro j hj v w w' hg hgd
      by_cases e : j = n
      · subst e; simp only [good, hvn] at hgd ⊢; exact hgd
      · exact (key val' hv j (by omega) v w').2 (hst j (by omega) v w w' hg ((key val' hv j (by omega) v w).1 hgd))
    · intro j hj
      by_cases e : j = n
      · subst e
        intro o' ho' x w hw' hg
        have : o' = o := by rw [ho] at ho'; exact (Option.some.inj ho').symm
        subst this
        have hfacts : ∀ p ∈ Rs, befB ops ops.size j p.1 = true → p.2 (x p.1) w := fun p hp hb => by
          obtain ⟨h1, h2, h3⟩ := hRs p hp
          have := (key val' hv p.1 h1 _ _).1 (hg p.1 h1 hb)
          simp only [good, h2] at this
          rw [h3]; exact this
        rw [hpre val' x j (Nat.le_refl _) hv, ← hA, if_pos (hw x)]
        exact uponV_mono (fun v w' hx => ⟨hx.2, by simp [good, hvn, hx.1]⟩) (hc x w hw' hfacts)
      · have hjn : j < n := by omega
        intro o' ho' x w hw' hg
        rw [hpre val' x j (by omega) hv]
        have := hob j hjn o' ho' x w hw' fun i hi hb => (key val' hv i (by omega) _ _).1 (hg i hi hb)
        split
        · rename_i hif; rw [if_pos hif] at this; exact uponV_mono (fun v w' hx => ⟨hx.1, (key val' hv j hjn v w').2 hx.2⟩) this
        · rename_i hif; rw [if_neg hif] at this; exact (key val' hv j hjn _ _).2 this
  | @any o rest n A Rs hw R1 hR1 hc h ih =>
    intro val R hd hk hA hRs hRs' hst hob
    have hn : n < ops.size := by
      rcases Nat.lt_or_ge n ops.size with h | h
      · exact h
      · rw [List.drop_of_length_le (by simpa using h)] at hd; cases hd
    have ho : ops[n]? = some o := by
      have := congrArg List.head? hd
      rw [List.head?_drop] at this
      simpa using this
    have hpre : ∀ (val' : Nat → Option Value) x i, i ≤ n → (∀ j, j < n → val' j = val j) → actTo ops val' x a0 i = actTo ops val x a0 i := by
      intro val' x i
      induction i with
      | zero => intro _ _; rfl
      | succ i ihi => intro hi hv; simp only [actTo]; rw [ihi (by omega) hv, hv i (by omega)]
    let val' : Nat → Option Value := fun j => if j = n then none else val j
    let R' : Nat → Value → World → Prop := fun j => if j = n then R1 else R j
    have hv : ∀ j, j < n → val' j = val j := fun j hj => by simp [val', Nat.ne_of_lt hj]
    have hvn : val' n = none := by simp [val']
    have hr : ∀ j, j < n → R' j = R j := fun j hj => by simp [R', Nat.ne_of_lt hj]
    have hrn : R' n = R1 := by simp [R']
    have key : ∀ j, j < n → ∀ v w, good val' R' j v w ↔ good val R j v w := fun j hj v w => by simp only [good, hv j hj, hr j hj]
    refine ih val' R' ?_ hn ?_ ?_ ?_ ?_ ?_
    · rw [← List.tail_drop, hd]; rfl
    · intro x; simp only [actTo, ho, Option.bind_some, hvn, Option.getD_none]; rw [hpre val' x n (Nat.le_refl _) hv, hA]
    · intro p hp
      rcases List.mem_append.1 hp with hp | hp
      · obtain ⟨h1, h2, h3⟩ := hRs p hp; exact ⟨by omega, by rw [hv _ h1]; exact h2, by rw [hr _ h1]; exact h3⟩
      · have : p = (n, R1) := by simpa using hp
        subst this
        exact ⟨by omega, hvn, hrn.symm⟩
    · intro j hj hj'
      by_cases e : j = n
      · subst e; rw [hrn]; simp
      · rw [hr j (by omega)]; exact List.mem_append_left _ (hRs' j (by omega) (by rw [← hv j (by omega)]; exact hj'))
    · intro j hj v w w' hg hgd
      by_cases e : j = n
      · subst e; simp only [good, hvn, hrn] at hgd ⊢; exact hR1 v w w' hg hgd
      · exact (key j (by omega) v w').2 (hst j (by omega) v w w' hg ((key j (by omega) v w).1 hgd))
    · intro j hj
      by_cases e : j = n
      · subst e
        intro o' ho' x w hw' hg
        have : o' = o := by rw [ho] at ho'; exact (Option.some.inj ho').symm
        subst this
        rw [hpre val' x j (Nat.le_refl _) hv, ← hA, if_pos (hw x)]
        have hfacts : ∀ p ∈ Rs, befB ops ops.size j p.1 = true → p.2 (x p.1) w := fun p hp hb => by
          obtain ⟨h1, h2, h3⟩ := hRs p hp
          have := (key p.1 h1 _ _).1 (hg p.1 h1 hb)
          simp only [good, h2] at this
          rw [h3]; exact this
        refine uponV_mono (fun v w' hx => ⟨hx.1, ?_⟩) (hc x w hw' hfacts)
        simp only [good, hvn, hrn]; exact hx.2
      · have hjn : j < n := by omega
        intro o' ho' x w hw' hg
        rw [hpre val' x j (by omega) hv]
        have := hob j hjn o' ho' x w hw' fun i hi hb => (key i (by omega) _ _).1 (hg i hi hb)
        split
        · rename_i hif; rw [if_pos hif] at this; exact uponV_mono (fun v w' hx => ⟨hx.1, (key j hjn v w').2 hx.2⟩) this
        · rename_i hif; rw [if_neg hif] at this; exact (key j hjn _ _).2 this

theorem edges_lt (h : edgesB ops = true) {i : Nat} {o : Oper} (ho : ops[i]? = some o) : ∀ e ∈ o.after, Region.binds .any e = true → e.on < i := by
  intro e he hb
  have hi : i < ops.size := (Array.getElem?_eq_some_iff.1 ho).1
  have h1 := List.all_eq_true.1 h i (List.mem_range.2 hi)
  rw [ho] at h1
  have h2 := Array.all_eq_true_iff_forall_mem.1 h1 e he
  simpa [hb] using h2
theorem befB_lt (h : edgesB ops = true) : ∀ (f i j : Nat), befB ops f i j = true → j < i
  | 0, _, _, hb => by simp [befB] at hb
  | f + 1, i, j, hb => by
    unfold befB at hb
    cases ho : ops[i]? with
    | none => simp [ho] at hb
    | some o =>
      simp only [ho] at hb
      rcases (Bool.or_eq_true _ _).mp hb with hb | hb
      · obtain ⟨e, he, hb⟩ := Array.any_eq_true'.1 hb
        simp only [Bool.and_eq_true, beq_iff_eq] at hb
        have h1 := edges_lt h ho e he hb.1
        omega
      · obtain ⟨e, he, hb⟩ := Array.any_eq_true'.1 hb
        simp only [Bool.and_eq_true] at hb
        have h1 := edges_lt h ho e he hb.1
        have := befB_lt h f e.on j hb.2.2
        omega

def Closed (ops : Array Oper) (S : Array Bool) : Prop := ∀ j oj, ops[j]? = some oj → S.getD j false = true → ∀ e ∈ oj.after, Region.binds .any e = true → S.getD e.on false = true
theorem Closed.bef {S : Array Bool} (h : Closed ops S) : ∀ (f i j : Nat) (o : Oper), ops[i]? = some o → (∀ e ∈ o.after, Region.binds .any e = true → S.getD e.on false = true) → befB ops f i j = true → S.getD j false = true
  | 0, _, _, _, _, _, hb => by simp [befB] at hb
  | f + 1, i, j, o, ho, hr, hb => by
    unfold befB at hb
    simp only [ho] at hb
    rcases (Bool.or_eq_true _ _).mp hb with hb | hb
    · obtain ⟨e, he, hb⟩ := Array.any_eq_true'.1 hb
      simp only [Bool.and_eq_true, beq_iff_eq] at hb
      have h1 := hr e he hb.1
      rw [← hb.2]
      exact h1
    · obtain ⟨e, he, hb⟩ := Array.any_eq_true'.1 hb
      simp only [Bool.and_eq_true] at hb
      have h1 := hr e he hb.1
      have h2 := hb.2.2
      cases ho' : ops[e.on]? with
      | none => cases f with
        | zero => simp [befB] at h2
        | succ f => unfold befB at h2; simp [ho'] at h2
      | some o' => exact Closed.bef h f e.on j o' ho' (h e.on o' ho' h1) h2

/-- how the frame stands -/
structure FrameIs (ops : Array Oper) (a0 : Act) (S : Array Bool) (x : Nat → Value) (a : Act) : Prop where
  defers : a.defers = a0.defers
  size : a.tmps.size = a0.tmps.size
  done : ∀ j o t, ops[j]? = some o → o.dst = some t → S.getD j false = true → t < a0.tmps.size → a.tmps[t]? = some (x j)
  rest : ∀ t, (∀ j o, ops[j]? = some o → o.dst = some t → S.getD j false = false) → a.tmps[t]? = a0.tmps[t]?

theorem slots_of (h : slotsB ops = true) {i j : Nat} {oi oj : Oper} {t : Nat} (hi : ops[i]? = some oi) (hj : ops[j]? = some oj) (ht : oj.dst = some t) :
    (i = j ∨ oi.dst ≠ some t) ∧ (t ∈ oi.looksAt ops → befB ops ops.size i j = true ∨ (i < j ∧ befB ops ops.size j i = true)) := by
  have hi' : i < ops.size := (Array.getElem?_eq_some_iff.1 hi).1
  have hj' : j < ops.size := (Array.getElem?_eq_some_iff.1 hj).1
  have h1 := List.all_eq_true.1 (List.all_eq_true.1 h i (List.mem_range.2 hi')) j (List.mem_range.2 hj')
  simp only [hi, hj, ht, Bool.and_eq_true, Bool.or_eq_true, beq_iff_eq, bne_iff_ne, decide_eq_true_eq, Bool.not_eq_true', List.contains_eq_mem, decide_eq_false_iff_not] at h1
  refine ⟨h1.1, fun hm => ?_⟩
  rcases h1.2 with (h2 | h2) | h2
  · exact absurd hm h2
  · exact .inl h2
  · exact .inr h2

theorem put_size (a : Act) (d : Option Tmp) (v : Value) : (a.put d v).tmps.size = a.tmps.size := by cases d <;> simp [Act.put]
theorem put_at (a : Act) (d : Tmp) (v : Value) (h : d < a.tmps.size) : (a.put (some d) v).tmps[d]? = some v := by simp [Act.put, h]
theorem put_ne (a : Act) (d : Option Tmp) (v : Value) (t : Nat) (h : d ≠ some t) : (a.put d v).tmps[t]? = a.tmps[t]? := by
  cases d with
  | none => rfl
  | some d =>
    have hne : d ≠ t := fun e => h (by rw [e])
    simp [Act.put, Array.getElem?_setIfInBounds_ne hne]
theorem put_defers' (a : Act) (d : Option Tmp) (v : Value) : (a.put d v).defers = a.defers := by cases d <;> rfl

theorem actTo_defers (val : Nat → Option Value) (x : Nat → Value) : ∀ i, (actTo ops val x a0 i).defers = a0.defers
  | 0 => rfl
  | i + 1 => by simp only [actTo, put_defers']; exact actTo_defers val x i
theorem actTo_size (val : Nat → Option Value) (x : Nat → Value) : ∀ i, (actTo ops val x a0 i).tmps.size = a0.tmps.size
  | 0 => rfl
  | i + 1 => by simp only [actTo, put_size]; exact actTo_size val x i
theorem actTo_rest (val : Nat → Option Value) (x : Nat → Value) (t : Nat) : ∀ i, (∀ j o, j < i → ops[j]? = some o → o.dst ≠ some t) → (actTo ops val x a0 i).tmps[t]? = a0.tmps[t]?
  | 0, _ => rfl
  | i + 1, h => by
    simp only [actTo]
    rw [put_ne]
    · exact actTo_rest val x t i fun j o hj => h j o (by omega)
    · cases ho : ops[i]? with
      | none => simp
      | some o => simpa using h i o (by omega) ho
theorem actTo_done (hs : slotsB ops = true) (val : Nat → Option Value) (x : Nat → Value) {j : Nat} {o : Oper} {t : Nat} (ho : ops[j]? = some o) (ht : o.dst = some t) (hsz : t < a0.tmps.size) :
    ∀ i, j < i → (actTo ops val x a0 i).tmps[t]? = some ((val j).getD (x j))
  | 0, h => absurd h (by omega)
  | i + 1, h => by
    simp only [actTo]
    by_cases e : j = i
    · subst e
      simp only [ho, Option.bind_some, ht]
      exact put_at _ _ _ (by rw [actTo_size]; exact hsz)
    · rw [put_ne]
      · exact actTo_done hs val x ho ht hsz i (by omega)
      · cases ho' : ops[i]? with
        | none => simp
        | some o' =>
          have := (slots_of hs ho' ho ht).1
          rcases this with h1 | h1
          · omega
          · simpa using h1

/-- the frame as it is, and as the text has it: an operation that may come up sees no difference -/
theorem same_slots (he : edgesB ops = true) (hs : slotsB ops = true) {val : Nat → Option Value} {S : Array Bool} (hcl : Closed ops S) {x : Nat → Value} {a : Act} (hf : FrameIs ops a0 S x a)
    (hx : ∀ j, S.getD j false = true → (val j).getD (x j) = x j) {i : Nat} {o : Oper} (ho : ops[i]? = some o) (hun : S.getD i false = false) (hr : ∀ e ∈ o.after, Region.binds .any e = true → S.getD e.on false = true) :
    ∀ t ∈ o.looksAt ops, a.tmps[t]? = (actTo ops val x a0 i).tmps[t]? := by
  intro t ht
  by_cases hex : ∃ (j : Nat) (oj : Oper), ops[j]? = some oj ∧ oj.dst = some t
  · obtain ⟨j, oj, hj, hd⟩ := hex
    have hdist : ∀ j' o', ops[j']? = some o' → o'.dst = some t → j' = j := fun j' o' h1 h2 => ((slots_of hs h1 hj hd).1).resolve_right (fun h => h h2)
    by_cases hsz : t < a0.tmps.size
    · rcases (slots_of hs ho hj hd).2 ht with h1 | ⟨h1, h2⟩
      · have hl := hcl.bef ops.size i j o ho hr h1
        have hlt := befB_lt he _ _ _ h1
        rw [hf.done j oj t hj hd hl hsz, actTo_done hs val x hj hd hsz i hlt, hx j hl]
      · have hl : S.getD j false = false := by
          cases h3 : S.getD j false with
          | false => rfl
          | true =>
            have := hcl.bef ops.size j i oj hj (hcl j oj hj h3) h2
            rw [hun] at this; cases this
        rw [hf.rest t fun j' o' h3 h4 => by rw [hdist j' o' h3 h4]; exact hl, actTo_rest val x t i fun j' o' h3 h4 h5 => by have := hdist j' o' h4 h5; omega]
    · rw [Array.getElem?_eq_none (by rw [hf.size]; exact Nat.not_lt.1 hsz), Array.getElem?_eq_none (by rw [actTo_size]; exact Nat.not_lt.1 hsz)]
  · rw [hf.rest t fun j' o' h3 h4 => absurd ⟨j', o', h3, h4⟩ hex, actTo_rest val x t i fun j' o' h3 h4 h5 => hex ⟨j', o', h4, h5⟩]

theorem eval_same {a b : Act} {l : List Operand} (h : ∀ t, Operand.tmp t ∈ l → a.tmps[t]? = b.tmps[t]?) : ∀ y ∈ l, a.eval y = b.eval y := by
  intro y hy
  cases y with
  | tmp t => simp [Act.eval, h t hy]
  | _ => rfl
theorem exec_same {a b : Act} {i : Nat} {o : Oper} (hn : Region.noSelect ops = true) (ho : ops[i]? = some o) (h : ∀ t ∈ o.looksAt ops, a.tmps[t]? = b.tmps[t]?) : execOp a.eval o = execOp b.eval o := by
  refine execOp_congr o (fun cs b => Region.noSelect_spec hn i o cs b ho) fun y hy => ?_
  refine eval_same (l := o.op.operands.toList) (fun t ht => h t (List.mem_append_left _ (List.mem_filterMap.2 ⟨.tmp t, ht, rfl⟩))) y (by simpa using hy)
theorem wanted_same {a b : Act} {o : Oper} (h : ∀ t ∈ o.looksAt ops, a.tmps[t]? = b.tmps[t]?) : Region.wanted o (yielded ops a.tmps) = Region.wanted o (yielded ops b.tmps) := by
  unfold Region.wanted
  cases hg : o.guard with
  | none => rfl
  | some g =>
    obtain ⟨j, want⟩ := g
    have : yielded ops a.tmps j = yielded ops b.tmps j := by
      unfold yielded
      cases hd : (ops[j]?).bind (·.dst) with
      | none => rfl
      | some t => simp only [Option.bind_some]; rw [h t (by simp [Oper.looksAt, hg, hd])]
    simp only [this]

/-- how many are still to come -/
def toCome (S : Array Bool) : Nat → Nat
  | 0 => 0
  | n + 1 => toCome S n + if S.getD n false then 0 else 1
theorem toCome_set (S : Array Bool) (i : Nat) (hi : i < S.size) (hun : S.getD i false = false) : ∀ n, (i < n → toCome (S.setIfInBounds i true) n + 1 = toCome S n) ∧ (n ≤ i → toCome (S.setIfInBounds i true) n = toCome S n)
  | 0 => ⟨fun h => absurd h (by omega), fun _ => rfl⟩
  | n + 1 => by
    have ih := toCome_set S i hi hun n
    simp only [toCome]
    by_cases e : i = n
    · subst e
      have h1 : (S.setIfInBounds i true).getD i false = true := by simp [hi]
      rw [ih.2 (Nat.le_refl _), h1, hun]
      exact ⟨fun _ => by simp, fun h => absurd h (by omega)⟩
    · have h1 : (S.setIfInBounds i true).getD n false = S.getD n false := getD_set_ne false e
      rw [h1]
      refine ⟨fun h => ?_, fun h => ?_⟩
      · have := ih.1 (by omega); omega
      · have := ih.2 (by omega); omega
theorem toCome_pos (S : Array Bool) (i : Nat) (hun : S.getD i false = false) : ∀ n, i < n → 0 < toCome S n
  | 0, h => absurd h (by omega)
  | n + 1, h => by
    simp only [toCome]
    by_cases e : i = n
    · subst e; rw [hun]; simp
    · have := toCome_pos S i hun n (by omega); omega

theorem wpAny_more {S : Array Bool} {a : Act} {w : World} : ∀ (f : Nat), wpAny P .any ops Q f S a w → wpAny P .any ops Q (f + 1) S a w := by
  intro f
  induction f generalizing S a w with
  | zero => intro h; exact ⟨fun _ => h.2, fun i hi => by rw [h.1] at hi; cases hi⟩
  | succ f ih => intro h; exact ⟨h.1, fun i hi => wpOp_mono (fun a w h' => ih h') (h.2 i hi)⟩
theorem wpAny_add {S : Array Bool} {a : Act} {w : World} (f : Nat) : ∀ g, wpAny P .any ops Q f S a w → wpAny P .any ops Q (g + f) S a w
  | 0, h => by simpa using h
  | g + 1, h => by rw [show g + 1 + f = (g + f) + 1 by omega]; exact wpAny_more _ (wpAny_add f g h)

theorem doneTo_at (ops : Array Oper) (n j : Nat) : (doneTo ops n).getD j false = (decide (j < n) && decide (j < ops.size)) := by
  unfold doneTo
  by_cases h : j < ops.size
  · simp [h]
  · simp [h]

theorem minimal {S : Array Bool} : ∀ (n : Nat), (∃ i, i < n ∧ S.getD i false = false) → ∃ i, i < n ∧ S.getD i false = false ∧ ∀ j, j < i → S.getD j false = true
  | 0, h => by obtain ⟨i, hi, _⟩ := h; omega
  | n + 1, h => by
    by_cases hp : ∃ i, i < n ∧ S.getD i false = false
    · obtain ⟨i, h1, h2, h3⟩ := minimal n hp
      exact ⟨i, by omega, h2, h3⟩
    · obtain ⟨i, hi, hu⟩ := h
      have hin : i = n := by
        rcases Nat.lt_or_ge i n with h | h
        · exact absurd ⟨i, h, hu⟩ hp
        · omega
      subst hin
      refine ⟨i, by omega, hu, fun j hj => ?_⟩
      cases hs : S.getD j false with
      | true => rfl
      | false => exact absurd ⟨j, hj, hs⟩ hp

theorem hav_any (hn : Region.noSelect ops = true) (he : edgesB ops = true) (hs : slotsB ops = true) {n : Nat} {pre : Nat → Bool} {val : Nat → Option Value} {R : Nat → Value → World → Prop} (hnle : n ≤ ops.size)
    (hseq : Region.seqB .any ops (ops.size - n) n (doneTo ops n) = true) (hhead : headP ops n pre = true) (hst : ∀ j, j < n → ∀ v w w', Grew w w' → good val R j v w → good val R j v w')
    (hob : ∀ j, j < n → Obl P ops w0 a0 val R j) (htail : ∀ x w, Grew w0 w → (∀ j, j < n → good val R j (x j) w) → wpList P ops Q (ops.toList.drop n) (actTo ops val x a0 n) w) :
    ∀ (f : Nat) (S : Array Bool) (a : Act) (w : World) (x : Nat → Value), S.size = ops.size → Closed ops S → (∀ i, i < n → pre i = true → S.getD i false = true) → (∀ t, n ≤ t → S.getD t false = false) → toCome S n ≤ f → Grew w0 w →
      (∀ j, j < n → S.getD j false = true → good val R j (x j) w) → FrameIs ops a0 S x a → wpAny P .any ops Q (f + (ops.size - n)) S a w := by
  have hvalx : ∀ (S : Array Bool) (x : Nat → Value) w, (∀ t, n ≤ t → S.getD t false = false) → (∀ j, j < n → S.getD j false = true → good val R j (x j) w) → ∀ j, S.getD j false = true → (val j).getD (x j) = x j := by
    intro S x w ht hg j hj
    have hjn : j < n := by
      rcases Nat.lt_or_ge j n with h | h
      · exact h
      · rw [ht j h] at hj; cases hj
    have := hg j hjn hj
    unfold good at this
    cases hv : val j with
    | none => rfl
    | some c => rw [hv] at this; simp [this]
  intro f
  induction f with
  | zero =>
    intro S a w x hsz hcl hpre ht hto hw hg hf
    have hall : ∀ j, j < n → S.getD j false = true := fun j hj => by
      cases h : S.getD j false with
      | true => rfl
      | false => have := toCome_pos S j h n hj; omega
    have hS : S = doneTo ops n := by
      apply Array.ext_getElem?
      intro j
      by_cases h : j < ops.size
      · have h1 : S.getD j false = (doneTo ops n).getD j false := by
          rw [doneTo_at]
          by_cases hj : j < n
          · rw [hall j hj]; simp [hj, h]
          · rw [ht j (by omega)]; simp [hj]
        have h2 : j < S.size := by omega
        have h3 : j < (doneTo ops n).size := by simp [doneTo, h]
        simp only [Array.getD_eq_getD_getElem?, Array.getElem?_eq_getElem h2, Array.getElem?_eq_getElem h3, Option.getD_some] at h1 ⊢
        rw [h1]
      · rw [Array.getElem?_eq_none (by omega), Array.getElem?_eq_none (by simp [doneTo]; omega)]
    have ha : a = actTo ops val x a0 n := by
      have h1 : a.tmps = (actTo ops val x a0 n).tmps := by
        apply Array.ext_getElem?
        intro t
        by_cases hex : ∃ (j : Nat) (oj : Oper), ops[j]? = some oj ∧ oj.dst = some t ∧ j < n
        · obtain ⟨j, oj, hj, hd, hjn⟩ := hex
          by_cases htz : t < a0.tmps.size
          · rw [hf.done j oj t hj hd (hall j hjn) htz, actTo_done hs val x hj hd htz n hjn, hvalx S x w ht hg j (hall j hjn)]
          · rw [Array.getElem?_eq_none (by rw [hf.size]; omega), Array.getElem?_eq_none (by rw [actTo_size]; omega)]
        · rw [hf.rest t fun j o h1 h2 => ?_, actTo_rest val x t n fun j o h1 h2 h3 => hex ⟨j, o, h2, h3, h1⟩]
          rcases Nat.lt_or_ge j n with h3 | h3
          · exact absurd ⟨j, o, h1, h2, h3⟩ hex
          · exact ht j h3
      have h2 : a.defers = (actTo ops val x a0 n).defers := by rw [hf.defers, actTo_defers]
      cases a
      cases hb : actTo ops val x a0 n
      rw [hb] at h1 h2
      simp only at h1 h2
      rw [h1, h2]
    have := htail x w hw fun j hj => hg j hj (hall j hj)
    rw [← ha] at this
    have hlen : (ops.toList.drop n).length = ops.size - n := by simp
    have h3 := wpAny_of_seq (P := P) (ops := ops) (md := .any) (Q' := Q) (ops.toList.drop n) n S a w (fun j => by rw [List.getElem?_drop]; simp) (by rw [hS, hlen]; exact hseq) this
    rw [hlen] at h3
    simpa using h3
  | succ f ih =>
    intro S a w x hsz hcl hpre ht hto hw hg hf
    by_cases hall : ∃ i, i < n ∧ S.getD i false = false
    · have hready : ∀ i ∈ Region.ready .any ops S, i < n := by
        intro t hr
        rcases Nat.lt_or_ge t n with h | h
        · exact h
        · obtain ⟨_, ot, hot, hall'⟩ := mem_ready.1 hr
          have htlt : t < ops.size := (Array.getElem?_eq_some_iff.1 hot).1
          obtain ⟨i, hi, hu⟩ := hall
          have h1 := List.all_eq_true.1 hhead t (List.mem_range.2 htlt)
          simp only [Bool.or_eq_true, decide_eq_true_eq] at h1
          have h2 := List.all_eq_true.1 (h1.resolve_left (by omega)) i (List.mem_range.2 hi)
          rcases (Bool.or_eq_true _ _).mp h2 with h2 | h2
          · have h3 := hpre i hi h2
            rw [hu] at h3; cases h3
          · have h3 := hcl.bef ops.size t i ot hot hall' h2
            rw [hu] at h3; cases h3
      rw [show f + 1 + (ops.size - n) = (f + (ops.size - n)) + 1 by omega]
      refine ⟨fun hnil => ?_, fun i hi => ?_⟩
      · obtain ⟨i, hi, hu, hmin⟩ := minimal n hall
        have hilt : i < ops.size := by omega
        have hio : ops[i]? = some ops[i] := Array.getElem?_eq_getElem hilt
        have : i ∈ Region.ready .any ops S := mem_ready.2 ⟨getD_in (by omega) hu, ops[i], hio, fun e hee hb => hmin _ (edges_lt he hio e hee hb)⟩
        rw [hnil] at this; cases this
      · have hin := hready i hi
        obtain ⟨hu, o, ho, hr⟩ := mem_ready.1 hi
        have hun := getD_both hu
        have hilt : i < ops.size := by omega
        have hsame := same_slots he hs hcl hf (hvalx S x w ht hg) ho hun hr
        have hobl := hob i hin o ho x w hw fun j hj hb => hg j (by omega) (hcl.bef ops.size i j o ho hr hb)
        rw [← wanted_same hsame, ← exec_same hn ho hsame] at hobl
        have hnext : ∀ v w', Grew w w' → good val R i v w' → wpAny P .any ops Q (f + (ops.size - n)) (S.setIfInBounds i true) (a.put o.dst v) w' := by
          intro v w' hgw hgv
          let x' : Nat → Value := fun j => if j = i then v else x j
          have hx'i : x' i = v := by simp [x']
          have hx'j : ∀ j, j ≠ i → x' j = x j := fun j hj => by simp [x', hj]
          have hset : ∀ j, (S.setIfInBounds i true).getD j false = true → j = i ∨ S.getD j false = true := fun j hj => by
            by_cases e : i = j
            · exact .inl e.symm
            · rw [getD_set_ne false e] at hj; exact .inr hj
          refine ih (S.setIfInBounds i true) (a.put o.dst v) w' x' (by simp [hsz]) ?_ (fun k hk hp => getD_set_true (hpre k hk hp)) ?_ ?_ (hw.trans hgw) ?_ ?_
          · intro j oj hj hl e hee hb
            rcases hset j hl with h1 | h1
            · subst h1
              have : oj = o := by rw [ho] at hj; exact (Option.some.inj hj).symm
              subst this
              exact getD_set_true (hr e hee hb)
            · exact getD_set_true (hcl j oj hj h1 e hee hb)
          · intro t htn
            rw [getD_set_ne false (by omega)]
            exact ht t htn
          · have := (toCome_set S i (by omega) hun n).1 hin; omega
          · intro j hj hl
            rcases hset j hl with h1 | h1
            · subst h1; rw [hx'i]; exact hgv
            · by_cases e : j = i
              · subst e; rw [hx'i]; exact hgv
              · rw [hx'j j e]; exact hst j hj _ _ _ hgw (hg j hj h1)
          · refine ⟨by rw [put_defers']; exact hf.defers, by rw [put_size]; exact hf.size, fun j oj t hj hd hl htz => ?_, fun t hno => ?_⟩
            · by_cases e : j = i
              · subst e
                have : oj = o := by rw [ho] at hj; exact (Option.some.inj hj).symm
                subst this
                rw [hd, put_at _ _ _ (by rw [hf.size]; exact htz), hx'i]
              · have hdne : o.dst ≠ some t := ((slots_of hs ho hj hd).1).resolve_left (fun h => e h.symm)
                rw [put_ne _ _ _ _ hdne, hx'j j e]
                exact hf.done j oj t hj hd ((hset j hl).resolve_left e) htz
            · have hdne : o.dst ≠ some t := fun h => by
                have := hno i o ho h
                simp [hsz, hilt] at this
              rw [put_ne _ _ _ _ hdne]
              refine hf.rest t fun j oj hj hd => ?_
              cases h : S.getD j false with
              | false => rfl
              | true => have := hno j oj hj hd; rw [getD_set_true h] at this; cases this
        unfold wpOp
        simp only [ho]
        split
        · rename_i hwn
          rw [if_pos hwn] at hobl
          exact .inl (upon_of_uponV (fun v w' hv => hnext v w' hv.1 hv.2) hobl)
        · rename_i hwn
          rw [if_neg hwn] at hobl
          exact hnext undef w (Grew.refl w) hobl
    · have hto0 : toCome S n ≤ f := by
        have : ∀ m, m ≤ n → toCome S m = 0 := by
          intro m
          induction m with
          | zero => intro _; rfl
          | succ m ihm =>
            intro hm
            simp only [toCome]
            rw [ihm (by omega)]
            cases h : S.getD m false with
            | true => simp
            | false => exact absurd ⟨m, by omega, h⟩ hall
        rw [this n (Nat.le_refl _)]; omega
      rw [show f + 1 + (ops.size - n) = 1 + (f + (ops.size - n)) by omega]
      exact wpAny_add _ 1 (ih S a w x hsz hcl hpre ht hto0 hw hg hf)

theorem wpAny_hav {w : World} (hok : havB ops = true) (h : HavG P ops Q w ops.toList 0 (fun _ => a0) []) : wpAny P .any ops Q ops.size (Array.replicate ops.size false) a0 { w with drawn := w.drawn + 1 } := by
  simp only [havB, Bool.and_eq_true] at hok
  obtain ⟨n, val, R, h1, h2, h3, h4, h5, h6⟩ := h.flat (fun _ => none) (fun _ _ _ => True) (by simp) (by simp) (fun _ => rfl) (by simp) (fun j hj => absurd hj (by omega)) (fun j hj => absurd hj (by omega)) (fun j hj => absurd hj (by omega))
  have hnone : ∀ t, (Array.replicate ops.size false).getD t false = false := fun t => getD_replicate_false _ _
  have hto : ∀ m, toCome (Array.replicate ops.size false) m = m := by
    intro m
    induction m with
    | zero => rfl
    | succ m ih => simp only [toCome]; rw [ih, hnone]; simp
  have hdraw : Grew w { w with drawn := w.drawn + 1 } := (Below.refl _ w).drew
  rcases h3 with h3 | ⟨h3, hm, hQ, hn0⟩
  · have := hav_any (x := fun _ => undef) hok.1.1 hok.1.2 hok.2 h1 h2 (headP_of h3) h4 h5 h6 n (Array.replicate ops.size false) a0 { w with drawn := w.drawn + 1 } (by simp) (fun j oj _ hl => by rw [hnone] at hl; cases hl) (fun _ _ hp => by cases hp) (fun t _ => hnone t) (by rw [hto]; exact Nat.le_refl _) hdraw
      (fun j _ hl => by rw [hnone] at hl; cases hl) ⟨rfl, rfl, (fun j o t _ _ hl => by rw [hnone] at hl; cases hl), fun t _ => rfl⟩
    rw [show n + (ops.size - n) = ops.size by omega] at this
    exact this
  · unfold move0B at hm
    cases ho : ops[0]? with
    | none => rw [ho] at hm; cases hm
    | some o =>
      rw [ho] at hm
      simp only [Bool.and_eq_true] at hm
      obtain ⟨⟨⟨⟨hm1, hm2⟩, hm3⟩, hm4⟩, hm5⟩ := hm
      have hlt : 0 < ops.size := (Array.getElem?_eq_some_iff.1 ho).1
      cases hop : o.op with
      | move y =>
        have hg : o.guard = none := by simpa using hm2
        have hrun : ∀ w, (execOp a0.eval o).run P w = .ok (.value (a0.eval y)) w := fun w => by unfold execOp; simp only [hop]; rfl
        have hwant : Region.wanted o (yielded ops a0.tmps) = true := by unfold Region.wanted; rw [hg]
        have hob := h5 0 hn0 o ho (fun _ => a0.eval y) { w with drawn := w.drawn + 1 } hdraw fun j hj => absurd hj (by omega)
        simp only [actTo, hwant, if_true] at hob
        have hob2 : uponV P (fun v w' => Grew { w with drawn := w.drawn + 1 } w' ∧ good val R 0 v w') ((execOp a0.eval o).run P { w with drawn := w.drawn + 1 }) := hob
        rw [hrun] at hob2
        obtain ⟨_, hgd⟩ := hob2
        have hset : ∀ j, ((Array.replicate ops.size false).setIfInBounds 0 true).getD j false = true → j = 0 := fun j hj => by
          by_cases e : 0 = j
          · exact e.symm
          · rw [getD_set_ne false e, hnone] at hj; cases hj
        have hset0 : ((Array.replicate ops.size false).setIfInBounds 0 true).getD 0 false = true := by simp [hlt]
        have hc := (toCome_set (Array.replicate ops.size false) 0 (by simpa using hlt) (hnone 0) n).1 hn0
        rw [hto] at hc
        have := hav_any (x := fun _ => a0.eval y) hok.1.1 hok.1.2 hok.2 h1 h2 h3 h4 h5 h6 (n - 1) ((Array.replicate ops.size false).setIfInBounds 0 true) (a0.put o.dst (a0.eval y)) { w with drawn := w.drawn + 1 } (by simp) (fun j oj hj hl e he _ => by
            have := hset j hl
            subst this
            have : oj = o := by rw [ho] at hj; exact (Option.some.inj hj).symm
            subst this
            have h0 : oj.after = #[] := by simpa using hm3
            rw [h0] at he
            simp at he) (fun i _ hp => by simp at hp; subst hp; exact hset0) (fun t ht => by rw [getD_set_ne false (by omega)]; exact hnone t) (by omega) hdraw
          (fun j _ hl => by have := hset j hl; subst this; exact hgd)
          ⟨put_defers' _ _ _, put_size _ _ _, fun j oj t hj hd hl htz => by
            have := hset j hl
            subst this
            have : oj = o := by rw [ho] at hj; exact (Option.some.inj hj).symm
            subst this
            rw [hd]
            exact put_at _ _ _ htz, fun t hno => put_ne _ _ _ _ fun hd => by
            have := hno 0 o ho hd
            rw [hset0] at this
            cases this⟩
        have h7 := wpAny_take (P := P) (Q := Q) (md := .any) (i := 0) (v := a0.eval y) ho hok.1.1 hm4 hm5 (fun c a w => hQ c a o.dst (a0.eval y) w) (.inl ⟨hwant, hrun⟩) this
        rw [show n - 1 + (ops.size - n) + 1 = ops.size by omega] at h7
        exact h7
      | _ => rw [hop] at hm1; cases hm1
/-- THE RULE -/
theorem wp_region_hav {id : Nat} {w : World} (hm : P.follows .mixedOrders = true) (hok : havB ops = true) (h : HavG P ops Q w ops.toList 0 (fun _ => a0) []) : (Code.region id ops true).wp P Q a0 w :=
  wp_region_any hm (wpAny_hav hok h)
theorem wp_region_hav_lit {id : Nat} {w : World} {l : List Oper} (hm : P.follows .mixedOrders = true) (hok : havB l.toArray = true) (h : HavG P l.toArray Q w l 0 (fun _ => a0) []) : (Code.region id l.toArray true).wp P Q a0 w :=
  wp_region_hav hm hok (by simpa using h)
theorem grew_alloc (w : World) (o : Obj) : Grew w (w.alloc o) := (Below.refl _ _).alloc (Nat.le_refl _) o
end sound
end Go.Proofs.YtkinlcichclnkaaDoor
