/- Automata, in plain Lean: what they are; which states are alive; what two states have in common; the parts' law. No program in sight. -/
namespace Go.Proofs.YtogmlonhciiomaaDoor

/-- an edge, by a token to a state -/
structure Ed where
  tok : Int
  tgt : Int
  deriving DecidableEq
/-- a state -/
structure Stt where
  kind : Int
  alts : List Int
  edges : List Ed
  deriving DecidableEq
/-- an automaton -/
abbrev Aut := List Stt

theorem Ed.ext' {a b : Ed} (h : a.tok = b.tok) (h' : a.tgt = b.tgt) : a = b := by cases a; cases b; simp only at h h'; subst h; subst h'; rfl

/-- do numbers rise, each above the one ahead, from least on, below most? -/
def riseB : List Int → Int → Int → Bool
  | [], _, _ => true
  | n :: r, least, most => if n < least || most ≤ n then false else riseB r (n + 1) most
theorem riseB_iff : ∀ (l : List Int) (least most : Int), riseB l least most = true ↔ (∀ n ∈ l, least ≤ n ∧ n < most) ∧ l.Pairwise (· < ·)
  | [], _, _ => by simp [riseB]
  | n :: r, least, most => by
    have ih := riseB_iff r (n + 1) most
    simp only [riseB, List.mem_cons, forall_eq_or_imp, List.pairwise_cons]
    by_cases h : n < least || decide (most ≤ n)
    · rw [if_pos h]
      simp only [Bool.or_eq_true, decide_eq_true_eq] at h
      constructor
      · intro h'; cases h'
      · rintro ⟨⟨⟨h1, h2⟩, _⟩, _⟩; omega
    · rw [if_neg h, ih]
      simp only [Bool.or_eq_true, decide_eq_true_eq, not_or, Int.not_lt, Int.not_le] at h
      constructor
      · rintro ⟨h1, h2⟩
        exact ⟨⟨⟨h.1, h.2⟩, fun m hm => ⟨by have := (h1 m hm).1; omega, (h1 m hm).2⟩⟩, fun m hm => by have := (h1 m hm).1; omega, h2⟩
      · rintro ⟨⟨_, h1⟩, h2, h3⟩
        exact ⟨fun m hm => ⟨by have := h2 m hm; omega, (h1 m hm).2⟩, h3⟩

/-- may a state be, among so many? -/
def Stt.fineB (s : Stt) (states alts tokens : Int) : Bool :=
  s.edges.all (fun e => decide (0 ≤ e.tgt) && decide (e.tgt < states)) && riseB s.alts 0 alts && riseB (s.edges.map (·.tok)) (-1) tokens &&
    (if s.kind = 0 then s.alts.isEmpty else if s.kind = 1 then s.alts.length == 1 && s.edges.isEmpty else if s.kind = 3 then decide (1 < s.alts.length) && s.edges.isEmpty else s.kind == 2 && s.alts.isEmpty && s.edges.isEmpty)
/-- may an automaton be? -/
def Aut.mayB (a : Aut) (alts tokens : Int) : Bool := decide (1 ≤ a.length) && decide (a.length ≤ 4096) && a.all fun s => s.fineB a.length alts tokens

namespace Aut
/-- a state's kind; 0 beyond -/
def kind (a : Aut) (i : Nat) : Int := (a[i]?.map (·.kind)).getD 0
def alts (a : Aut) (i : Nat) : List Int := (a[i]?.map (·.alts)).getD []
def edges (a : Aut) (i : Nat) : List Ed := (a[i]?.map (·.edges)).getD []
/-- is something taken, or tried? -/
def dec (a : Aut) (i : Nat) : Bool := a.kind i == 1 || a.kind i == 3
end Aut

/-- what is needed of an automaton that may be -/
structure Okay (a : Aut) : Prop where
  kinds : ∀ i, a.kind i = 0 ∨ a.kind i = 1 ∨ a.kind i = 2 ∨ a.kind i = 3
  open0 : ∀ i, a.kind i = 0 → a.alts i = []
  fail2 : ∀ i, a.kind i = 2 → a.alts i = []
  bare : ∀ i, a.kind i ≠ 0 → a.edges i = []
  tgt : ∀ i, ∀ e ∈ a.edges i, ∃ j : Nat, e.tgt = j ∧ j < a.length
  rise : ∀ i, ((a.edges i).map (·.tok)).Pairwise (· < ·)
  toks : ∀ i, ∀ e ∈ a.edges i, -1 ≤ e.tok

theorem Aut.at {a : Aut} {i : Nat} (h : i < a.length) : a.kind i = a[i].kind ∧ a.alts i = a[i].alts ∧ a.edges i = a[i].edges := by
  simp [Aut.kind, Aut.alts, Aut.edges, h]
theorem Aut.out {a : Aut} {i : Nat} (h : a.length ≤ i) : a.kind i = 0 ∧ a.alts i = [] ∧ a.edges i = [] := by
  simp [Aut.kind, Aut.alts, Aut.edges, List.getElem?_eq_none h]

theorem okay_of_may {a : Aut} {alts tokens : Int} (h : a.mayB alts tokens = true) : Okay a := by
  have key : ∀ i (hi : i < a.length), a[i].fineB a.length alts tokens = true := by
    intro i hi
    simp only [Aut.mayB, Bool.and_eq_true, List.all_eq_true] at h
    exact h.2 _ (List.getElem_mem hi)
  have K : ∀ i (hi : i < a.length), (∀ e ∈ a[i].edges, 0 ≤ e.tgt ∧ e.tgt < a.length) ∧ (∀ e ∈ a[i].edges, -1 ≤ e.tok) ∧ (a[i].edges.map (·.tok)).Pairwise (· < ·) ∧
      ((a[i].kind = 0 ∧ a[i].alts = []) ∨ (a[i].kind = 1 ∧ a[i].edges = []) ∨ (a[i].kind = 3 ∧ a[i].edges = []) ∨ (a[i].kind = 2 ∧ a[i].alts = [] ∧ a[i].edges = [])) := by
    intro i hi
    have h := key i hi
    simp only [Stt.fineB, Bool.and_eq_true, List.all_eq_true, decide_eq_true_eq] at h
    obtain ⟨⟨⟨h1, h2⟩, h3⟩, h4⟩ := h
    have h5 := (riseB_iff _ _ _).1 h3
    refine ⟨h1, fun e he => (h5.1 _ (List.mem_map_of_mem he)).1, h5.2, ?_⟩
    split at h4
    · exact .inl ⟨‹_›, by simpa using h4⟩
    · split at h4
      · simp only [Bool.and_eq_true, List.isEmpty_iff] at h4
        exact .inr (.inl ⟨‹_›, h4.2⟩)
      · split at h4
        · simp only [Bool.and_eq_true, List.isEmpty_iff] at h4
          exact .inr (.inr (.inl ⟨‹_›, h4.2⟩))
        · simp only [Bool.and_eq_true, List.isEmpty_iff, beq_iff_eq] at h4
          exact .inr (.inr (.inr ⟨h4.1.1, h4.1.2, h4.2⟩))
  have both : ∀ i, (∃ hi : i < a.length, a.kind i = a[i].kind ∧ a.alts i = a[i].alts ∧ a.edges i = a[i].edges) ∨ (a.kind i = 0 ∧ a.alts i = [] ∧ a.edges i = []) := by
    intro i
    rcases Nat.lt_or_ge i a.length with hi | hi
    · exact .inl ⟨hi, Aut.at hi⟩
    · exact .inr (Aut.out hi)
  constructor
  · intro i
    rcases both i with ⟨hi, e1, e2, e3⟩ | ⟨e1, e2, e3⟩
    · rw [e1]; have := (K i hi).2.2.2; omega
    · exact .inl e1
  · intro i hk
    rcases both i with ⟨hi, e1, e2, e3⟩ | ⟨e1, e2, e3⟩
    · rw [e1] at hk; rw [e2]
      rcases (K i hi).2.2.2 with h | h | h | h
      · exact h.2
      · omega
      · omega
      · exact h.2.1
    · exact e2
  · intro i hk
    rcases both i with ⟨hi, e1, e2, e3⟩ | ⟨e1, e2, e3⟩
    · rw [e1] at hk; rw [e2]
      rcases (K i hi).2.2.2 with h | h | h | h
      · exact h.2
      · omega
      · omega
      · exact h.2.1
    · exact e2
  · intro i hk
    rcases both i with ⟨hi, e1, e2, e3⟩ | ⟨e1, e2, e3⟩
    · rw [e1] at hk; rw [e3]
      rcases (K i hi).2.2.2 with h | h | h | h
      · omega
      · exact h.2
      · exact h.2
      · exact h.2.2
    · exact e3
  · intro i e he
    rcases both i with ⟨hi, e1, e2, e3⟩ | ⟨e1, e2, e3⟩
    · rw [e3] at he
      obtain ⟨h1, h2⟩ := (K i hi).1 e he
      exact ⟨e.tgt.toNat, by omega, by omega⟩
    · rw [e3] at he; cases he
  · intro i
    rcases both i with ⟨hi, e1, e2, e3⟩ | ⟨e1, e2, e3⟩
    · rw [e3]; exact (K i hi).2.2.1
    · rw [e3]; simp
  · intro i e he
    rcases both i with ⟨hi, e1, e2, e3⟩ | ⟨e1, e2, e3⟩
    · rw [e3] at he; exact (K i hi).2.1 e he
    · rw [e3] at he; cases he

/-- from which states something is taken, or tried -/
inductive Aut.Live (a : Aut) : Nat → Prop
  | dec {i : Nat} (h : a.dec i = true) : Live a i
  | step {i : Nat} {e : Ed} (he : e ∈ a.edges i) (h : Live a e.tgt.toNat) (hd : e.tok ≠ -1 ∨ a.dec e.tgt.toNat = true) : Live a i

/-- an edge that counts -/
def Aut.Counts (a : Aut) (e : Ed) : Prop := a.Live e.tgt.toNat ∧ ¬ (e.tok = -1 ∧ a.kind e.tgt.toNat = 0)

/-- the automaton with the edges that count alone -/
structure Trim (a t : Aut) : Prop where
  len : t.length = a.length
  kind : ∀ i, t.kind i = a.kind i
  alts : ∀ i, t.alts i = a.alts i
  edges : ∀ i, ∃ p : Ed → Bool, (∀ e ∈ a.edges i, p e = true ↔ a.Counts e) ∧ t.edges i = (a.edges i).filter p

/-- two states have in common so many steps -/
def Aut.Eqv (t : Aut) : Nat → Nat → Nat → Prop
  | 0, _, _ => True
  | k + 1, i, j => t.kind i = t.kind j ∧ t.alts i = t.alts j ∧ (t.edges i).length = (t.edges j).length ∧
      ∀ m (h1 : m < (t.edges i).length) (h2 : m < (t.edges j).length), ((t.edges i)[m]).tok = ((t.edges j)[m]).tok ∧ Aut.Eqv t k ((t.edges i)[m]).tgt.toNat ((t.edges j)[m]).tgt.toNat
/-- two states are alike -/
def Aut.Like (t : Aut) (i j : Nat) : Prop := ∀ k, t.Eqv k i j

theorem Aut.Eqv.refl (t : Aut) : ∀ k i, t.Eqv k i i
  | 0, _ => trivial
  | k + 1, _ => ⟨rfl, rfl, rfl, fun _ _ _ => ⟨rfl, Aut.Eqv.refl t k _⟩⟩
theorem Aut.Eqv.symm {t : Aut} : ∀ {k i j}, t.Eqv k i j → t.Eqv k j i
  | 0, _, _, _ => trivial
  | _ + 1, _, _, ⟨h1, h2, h3, h4⟩ => ⟨h1.symm, h2.symm, h3.symm, fun m a b => ⟨(h4 m b a).1.symm, Aut.Eqv.symm (h4 m b a).2⟩⟩
theorem Aut.Eqv.trans {t : Aut} : ∀ {k i j l}, t.Eqv k i j → t.Eqv k j l → t.Eqv k i l
  | 0, _, _, _, _, _ => trivial
  | _ + 1, _, _, _, ⟨h1, h2, h3, h4⟩, ⟨g1, g2, g3, g4⟩ => ⟨h1.trans g1, h2.trans g2, h3.trans g3, fun m a b =>
      ⟨(h4 m a (by omega)).1.trans (g4 m (by omega) b).1, Aut.Eqv.trans (h4 m a (by omega)).2 (g4 m (by omega) b).2⟩⟩
theorem Aut.Eqv.less {t : Aut} : ∀ {k i j}, t.Eqv (k + 1) i j → t.Eqv k i j
  | 0, _, _, _ => trivial
  | _ + 1, _, _, ⟨h1, h2, h3, h4⟩ => ⟨h1, h2, h3, fun m a b => ⟨(h4 m a b).1, Aut.Eqv.less (h4 m a b).2⟩⟩
theorem Aut.Like.refl (t : Aut) (i : Nat) : t.Like i i := fun k => Aut.Eqv.refl t k i
theorem Aut.Like.symm {t : Aut} {i j : Nat} (h : t.Like i j) : t.Like j i := fun k => (h k).symm
theorem Aut.Like.trans {t : Aut} {i j l : Nat} (h : t.Like i j) (g : t.Like j l) : t.Like i l := fun k => (h k).trans (g k)
theorem Aut.Like.step {t : Aut} {i j : Nat} (h : t.Like i j) : t.kind i = t.kind j ∧ t.alts i = t.alts j ∧ (t.edges i).length = (t.edges j).length ∧
    ∀ m (h1 : m < (t.edges i).length) (h2 : m < (t.edges j).length), ((t.edges i)[m]).tok = ((t.edges j)[m]).tok ∧ t.Like ((t.edges i)[m]).tgt.toNat ((t.edges j)[m]).tgt.toNat :=
  ⟨(h 1).1, (h 1).2.1, (h 1).2.2.1, fun m h1 h2 => ⟨((h 1).2.2.2 m h1 h2).1, fun k => ((h (k + 1)).2.2.2 m h1 h2).2⟩⟩
/-- who stays alike step by step is alike -/
theorem Aut.Like.of {t : Aut} (R : Nat → Nat → Prop) (hR : ∀ i j, R i j → t.kind i = t.kind j ∧ t.alts i = t.alts j ∧ (t.edges i).length = (t.edges j).length ∧
    ∀ m (h1 : m < (t.edges i).length) (h2 : m < (t.edges j).length), ((t.edges i)[m]).tok = ((t.edges j)[m]).tok ∧ R ((t.edges i)[m]).tgt.toNat ((t.edges j)[m]).tgt.toNat) {i j : Nat} (h : R i j) : t.Like i j := by
  have : ∀ k i j, R i j → t.Eqv k i j := by
    intro k
    induction k with
    | zero => intro i j _; trivial
    | succ k ih =>
      intro i j h
      obtain ⟨h1, h2, h3, h4⟩ := hR i j h
      exact ⟨h1, h2, h3, fun m a b => ⟨(h4 m a b).1, ih _ _ (h4 m a b).2⟩⟩
  exact fun k => this k i j h

/-! ## The numbering -/
def numE (same : Nat → Nat → Bool) : List Ed → List Nat → List Ed × List Nat
  | [], come => ([], come)
  | e :: r, come =>
    match come.findIdx? (fun c => same c e.tgt.toNat) with
    | some k => (⟨e.tok, k⟩ :: (numE same r come).1, (numE same r come).2)
    | none => (⟨e.tok, come.length⟩ :: (numE same r (come ++ [e.tgt.toNat])).1, (numE same r (come ++ [e.tgt.toNat])).2)
def numAll (t : Aut) (same : Nat → Nat → Bool) : Nat → Nat → List Nat → Aut → Aut
  | 0, _, _, out => out
  | f + 1, i, come, out =>
    match come[i]? with
    | none => out
    | some c => numAll t same f (i + 1) (numE same (t.edges c) come).2 (out ++ [⟨t.kind c, t.alts c, (numE same (t.edges c) come).1⟩])
def numM (t : Aut) (same : Nat → Nat → Bool) : Aut := numAll t same 5000 0 [0] []

/-- x is a's least one -/
def IsLeast (a x : Aut) : Prop :=
  (¬ a.Live 0 ∧ x = [⟨2, [], []⟩]) ∨ (a.Live 0 ∧ ∃ t same, Trim a t ∧ (∀ i j, a.Live i → a.Live j → (same i j = true ↔ t.Like i j)) ∧ x = numM t same)

/-- two automata go along, from related states -/
structure Sim (t1 t2 : Aut) (s1 s2 : Nat → Nat → Bool) (R : Nat → Nat → Prop) : Prop where
  kind : ∀ {i j}, R i j → t1.kind i = t2.kind j
  alts : ∀ {i j}, R i j → t1.alts i = t2.alts j
  len : ∀ {i j}, R i j → (t1.edges i).length = (t2.edges j).length
  edge : ∀ {i j}, R i j → ∀ m (h1 : m < (t1.edges i).length) (h2 : m < (t2.edges j).length), ((t1.edges i)[m]).tok = ((t2.edges j)[m]).tok ∧ R ((t1.edges i)[m]).tgt.toNat ((t2.edges j)[m]).tgt.toNat
  same : ∀ {i j i' j'}, R i j → R i' j' → s1 i i' = s2 j j'

/-- related lists -/
def Rels (R : Nat → Nat → Prop) (l m : List Nat) : Prop := l.length = m.length ∧ ∀ k (h1 : k < l.length) (h2 : k < m.length), R l[k] m[k]
theorem Rels.snoc {R : Nat → Nat → Prop} {l m : List Nat} (h : Rels R l m) {x y : Nat} (hx : R x y) : Rels R (l ++ [x]) (m ++ [y]) := by
  obtain ⟨h1, h2⟩ := h
  refine ⟨by simp [h1], fun k a b => ?_⟩
  simp only [List.length_append, List.length_cons, List.length_nil] at a b
  by_cases e : k < l.length
  · rw [List.getElem_append_left e, List.getElem_append_left (by omega)]; exact h2 k e (by omega)
  · have e1 : k = l.length := by omega
    subst e1
    simp only [List.getElem_concat_length, h1]
    exact hx
theorem Rels.find {R : Nat → Nat → Prop} {p q : Nat → Bool} : ∀ {l m : List Nat}, Rels R l m → (∀ x y, R x y → p x = q y) → l.findIdx? p = m.findIdx? q
  | [], [], _, _ => rfl
  | [], _ :: _, h, _ => by have := h.1; simp at this
  | _ :: _, [], h, _ => by have := h.1; simp at this
  | x :: l, y :: m, h, hp => by
    have h0 : R x y := h.2 0 (by simp) (by simp)
    have ht : Rels R l m := ⟨by have := h.1; simpa using this, fun k a b => by have := h.2 (k + 1) (by simpa using a) (by simpa using b); simpa using this⟩
    rw [List.findIdx?_cons, List.findIdx?_cons, hp x y h0, ht.find hp]

theorem Sim.numE {t1 t2 : Aut} {s1 s2 : Nat → Nat → Bool} {R : Nat → Nat → Prop} (S : Sim t1 t2 s1 s2 R) : ∀ (l m : List Ed) (c d : List Nat), l.length = m.length →
    (∀ k (h1 : k < l.length) (h2 : k < m.length), l[k].tok = m[k].tok ∧ R l[k].tgt.toNat m[k].tgt.toNat) → Rels R c d → (Go.Proofs.YtogmlonhciiomaaDoor.numE s1 l c).1 = (Go.Proofs.YtogmlonhciiomaaDoor.numE s2 m d).1 ∧ Rels R (Go.Proofs.YtogmlonhciiomaaDoor.numE s1 l c).2 (Go.Proofs.YtogmlonhciiomaaDoor.numE s2 m d).2
  | [], [], c, d, _, _, h => ⟨rfl, h⟩
  | [], _ :: _, _, _, h, _, _ => by simp at h
  | _ :: _, [], _, _, h, _, _ => by simp at h
  | e :: l, g :: m, c, d, hl, he, h => by
    obtain ⟨h1, h2⟩ := he 0 (by simp) (by simp)
    simp only [List.getElem_cons_zero] at h1 h2
    have hr : ∀ k (h1 : k < l.length) (h2 : k < m.length), l[k].tok = m[k].tok ∧ R l[k].tgt.toNat m[k].tgt.toNat := fun k a b => by
      have := he (k + 1) (by simpa using a) (by simpa using b); simpa using this
    have hf : c.findIdx? (fun x => s1 x e.tgt.toNat) = d.findIdx? (fun x => s2 x g.tgt.toNat) := h.find fun x y hxy => S.same hxy h2
    have hl' : l.length = m.length := by simpa using hl
    simp only [Go.Proofs.YtogmlonhciiomaaDoor.numE]
    rw [hf, h1]
    cases hd : d.findIdx? (fun x => s2 x g.tgt.toNat) with
    | some k =>
      have ih := S.numE l m c d hl' hr h
      exact ⟨by simp only [ih.1], ih.2⟩
    | none =>
      have ih := S.numE l m _ _ hl' hr (h.snoc h2)
      exact ⟨by simp only [ih.1, h.1], ih.2⟩
theorem Sim.numAll {t1 t2 : Aut} {s1 s2 : Nat → Nat → Bool} {R : Nat → Nat → Prop} (S : Sim t1 t2 s1 s2 R) : ∀ (f i : Nat) (c d : List Nat) (out : Aut), Rels R c d → Go.Proofs.YtogmlonhciiomaaDoor.numAll t1 s1 f i c out = Go.Proofs.YtogmlonhciiomaaDoor.numAll t2 s2 f i d out
  | 0, _, _, _, _, _ => rfl
  | f + 1, i, c, d, out, h => by
    simp only [Go.Proofs.YtogmlonhciiomaaDoor.numAll]
    by_cases hi : i < c.length
    · have hj : i < d.length := by rw [← h.1]; exact hi
      rw [List.getElem?_eq_getElem hi, List.getElem?_eq_getElem hj]
      have hR := h.2 i hi hj
      have hn := S.numE _ _ c d (S.len hR) (S.edge hR) h
      simp only
      rw [S.kind hR, S.alts hR, hn.1]
      exact S.numAll f (i + 1) _ _ _ hn.2
    · rw [List.getElem?_eq_none (by omega), List.getElem?_eq_none (by have := h.1; omega)]
/-- who goes along has the same numbering -/
theorem Sim.num {t1 t2 : Aut} {s1 s2 : Nat → Nat → Bool} {R : Nat → Nat → Prop} (S : Sim t1 t2 s1 s2 R) (h : R 0 0) : numM t1 s1 = numM t2 s2 :=
  S.numAll _ _ _ _ _ ⟨rfl, fun k a b => by
    have : k = 0 := by simpa using a
    subst this
    exact h⟩

/-! ## What trimming does -/
theorem Trim.mem {a t : Aut} (T : Trim a t) {i : Nat} {e : Ed} : e ∈ t.edges i ↔ e ∈ a.edges i ∧ a.Counts e := by
  obtain ⟨p, hp, he⟩ := T.edges i
  rw [he, List.mem_filter]
  constructor
  · rintro ⟨h1, h2⟩; exact ⟨h1, (hp e h1).1 h2⟩
  · rintro ⟨h1, h2⟩; exact ⟨h1, (hp e h1).2 h2⟩
theorem Trim.same {a t u : Aut} (T : Trim a t) (U : Trim a u) (i : Nat) : t.edges i = u.edges i := by
  obtain ⟨p, hp, he⟩ := T.edges i
  obtain ⟨q, hq, hf⟩ := U.edges i
  rw [he, hf]
  refine List.filter_congr fun e h => ?_
  rw [Bool.eq_iff_iff, hp e h, hq e h]
theorem Trim.dec {a t : Aut} (T : Trim a t) (i : Nat) : t.dec i = a.dec i := by simp [Aut.dec, T.kind]
theorem dec_iff (a : Aut) (i : Nat) : a.dec i = true ↔ a.kind i = 1 ∨ a.kind i = 3 := by simp [Aut.dec]
/-- who is alive is so by edges that count -/
theorem Aut.Live.trim {a t : Aut} (T : Trim a t) {i : Nat} (h : a.Live i) : t.Live i := by
  induction h with
  | dec h => exact .dec (by rw [T.dec]; exact h)
  | @step i e he h hd ih =>
    refine .step (T.mem.2 ⟨he, h, ?_⟩) ih (by rw [T.dec]; exact hd)
    rintro ⟨h1, h2⟩
    rcases hd with hd | hd
    · exact hd h1
    · rw [dec_iff] at hd; omega
theorem Aut.Live.kind {a : Aut} (ok : Okay a) {i : Nat} (h : a.Live i) : a.dec i = true ∨ a.kind i = 0 := by
  cases h with
  | dec h => exact .inl h
  | step he h hd =>
    refine .inr ?_
    by_cases hk : a.kind i = 0
    · exact hk
    · rw [ok.bare i hk] at he; cases he
/-- an edge that counts by End leads to who decides -/
theorem Aut.Counts.fin {a : Aut} (ok : Okay a) {e : Ed} (h : a.Counts e) (he : e.tok = -1) : a.dec e.tgt.toNat = true := by
  rcases h.1.kind ok with hk | hk
  · exact hk
  · exact absurd ⟨he, hk⟩ h.2

/-- the least one is one -/
theorem IsLeast.uniq {a x y : Aut} (hx : IsLeast a x) (hy : IsLeast a y) : x = y := by
  rcases hx with ⟨h1, rfl⟩ | ⟨h1, t, s, T, hs, rfl⟩
  · rcases hy with ⟨_, rfl⟩ | ⟨h2, _⟩
    · rfl
    · exact absurd h2 h1
  · rcases hy with ⟨h2, _⟩ | ⟨_, u, s', U, hs', rfl⟩
    · exact absurd h1 h2
    · have hT := fun i => T.same U i
      have hlike : ∀ i j, t.Like i j → u.Like i j := fun i j h => Aut.Like.of (fun i j => t.Like i j) (fun i j h => by
        obtain ⟨h1, h2, h3, h4⟩ := h.step
        rw [← hT i, ← hT j, U.kind, U.kind, U.alts, U.alts, ← T.kind, ← T.kind, ← T.alts, ← T.alts]
        exact ⟨h1, h2, h3, h4⟩) h
      have hlike' : ∀ i j, u.Like i j → t.Like i j := fun i j h => Aut.Like.of (fun i j => u.Like i j) (fun i j h => by
        obtain ⟨h1, h2, h3, h4⟩ := h.step
        rw [hT i, hT j, T.kind, T.kind, T.alts, T.alts, ← U.kind, ← U.kind, ← U.alts, ← U.alts]
        exact ⟨h1, h2, h3, h4⟩) h
      refine Sim.num (R := fun i j => i = j ∧ a.Live i) ⟨?_, ?_, ?_, ?_, ?_⟩ ⟨rfl, h1⟩
      · rintro i j ⟨rfl, _⟩; rw [T.kind, U.kind]
      · rintro i j ⟨rfl, _⟩; rw [T.alts, U.alts]
      · rintro i j ⟨rfl, _⟩; rw [hT]
      · rintro i j ⟨rfl, _⟩ m a1 a2
        have hm : (t.edges i)[m] = (u.edges i)[m] := by simp only [hT]
        rw [hm]
        exact ⟨rfl, rfl, (U.mem.1 (List.getElem_mem a2)).2.1⟩
      · rintro i j i' j' ⟨rfl, g1⟩ ⟨rfl, g2⟩
        rw [Bool.eq_iff_iff, hs _ _ g1 g2, hs' _ _ g1 g2]
        exact ⟨hlike _ _, hlike' _ _⟩

/-! ## The numbering, once more: what it is like -/
/-- come and out hang together: i states are done -/
structure NInv (t : Aut) (same : Nat → Nat → Bool) (i : Nat) (come : List Nat) (out : Aut) : Prop where
  olen : out.length = i
  ile : i ≤ come.length
  pos : 0 < come.length
  head : come[0]? = some 0
  apart : ∀ k l (h1 : k < come.length) (h2 : l < come.length), k < l → same come[k] come[l] = false
  state : ∀ k (h1 : k < out.length) (h2 : k < come.length), out[k].kind = t.kind come[k] ∧ out[k].alts = t.alts come[k] ∧ out[k].edges.length = (t.edges come[k]).length ∧
    ∀ m (g1 : m < out[k].edges.length) (g2 : m < (t.edges come[k]).length), out[k].edges[m].tok = ((t.edges come[k])[m]).tok ∧ ∃ c : Nat, out[k].edges[m].tgt = c ∧ ∃ hc : c < come.length, same come[c] ((t.edges come[k])[m]).tgt.toNat = true
  by' : ∀ k (_ : k < come.length), 0 < k → ∃ j, ∃ hj : j < come.length, ∃ e ∈ t.edges come[j], e.tgt.toNat = come[k]

theorem numE_some {same : Nat → Nat → Bool} {e : Ed} {l : List Ed} {come : List Nat} {k : Nat} (hf : come.findIdx? (fun c => same c e.tgt.toNat) = some k) :
    numE same (e :: l) come = (⟨e.tok, k⟩ :: (numE same l come).1, (numE same l come).2) := by simp only [numE, hf]
theorem numE_none {same : Nat → Nat → Bool} {e : Ed} {l : List Ed} {come : List Nat} (hf : come.findIdx? (fun c => same c e.tgt.toNat) = none) :
    numE same (e :: l) come = (⟨e.tok, come.length⟩ :: (numE same l (come ++ [e.tgt.toNat])).1, (numE same l (come ++ [e.tgt.toNat])).2) := by simp only [numE, hf]
theorem numE_len (same : Nat → Nat → Bool) : ∀ (l : List Ed) (come : List Nat), (numE same l come).1.length = l.length
  | [], _ => rfl
  | e :: l, come => by
    simp only [numE]
    split <;> simp [numE_len same l]
/-- what has come stays -/
theorem numE_pre (same : Nat → Nat → Bool) : ∀ (l : List Ed) (come : List Nat), ∃ more, (numE same l come).2 = come ++ more ∧ ∀ x ∈ more, ∃ e ∈ l, e.tgt.toNat = x
  | [], come => ⟨[], by simp [numE], by simp⟩
  | e :: l, come => by
    simp only [numE]
    split
    · obtain ⟨more, h, hm⟩ := numE_pre same l come
      exact ⟨more, h, fun x hx => by obtain ⟨g, hg, e'⟩ := hm x hx; exact ⟨g, .tail _ hg, e'⟩⟩
    · obtain ⟨more, h, hm⟩ := numE_pre same l (come ++ [e.tgt.toNat])
      refine ⟨e.tgt.toNat :: more, by rw [h]; simp, fun x hx => ?_⟩
      rcases List.mem_cons.1 hx with rfl | hx
      · exact ⟨e, .head _, rfl⟩
      · obtain ⟨g, hg, e'⟩ := hm x hx; exact ⟨g, .tail _ hg, e'⟩
theorem numE_apart (same : Nat → Nat → Bool) : ∀ (l : List Ed) (come : List Nat), (∀ a b (h1 : a < come.length) (h2 : b < come.length), a < b → same come[a] come[b] = false) →
    ∀ a b (h1 : a < (numE same l come).2.length) (h2 : b < (numE same l come).2.length), a < b → same (numE same l come).2[a] (numE same l come).2[b] = false
  | [], _, h => h
  | e :: l, come, h => by
    cases hf : come.findIdx? (fun c => same c e.tgt.toNat) with
    | some k => simp only [numE_some hf]; exact numE_apart same l come h
    | none =>
      have hn := hf
      simp only [numE_none hf]
      refine numE_apart same l (come ++ [e.tgt.toNat]) ?_
      intro a b h1 h2 hab
      simp only [List.length_append, List.length_cons, List.length_nil] at h1 h2
      by_cases eb : b < come.length
      · rw [List.getElem_append_left (by omega), List.getElem_append_left eb]; exact h a b (by omega) eb hab
      · have : b = come.length := by omega
        subst this
        rw [List.getElem_append_left hab, List.getElem_concat_length rfl]
        rw [List.findIdx?_eq_none_iff] at hn
        simpa using hn _ (List.getElem_mem hab)
theorem numE_edge (same : Nat → Nat → Bool) : ∀ (l : List Ed) (come : List Nat), (∀ e ∈ l, same e.tgt.toNat e.tgt.toNat = true) →
    ∀ m (g1 : m < (numE same l come).1.length) (g2 : m < l.length), (numE same l come).1[m].tok = l[m].tok ∧ ∃ c : Nat, (numE same l come).1[m].tgt = c ∧ ∃ hc : c < (numE same l come).2.length, same (numE same l come).2[c] l[m].tgt.toNat = true
  | [], _, _, m, _, g2 => absurd g2 (by simp)
  | e :: l, come, hs, m, g1, g2 => by
    have hs' : ∀ e ∈ l, same e.tgt.toNat e.tgt.toNat = true := fun x hx => hs x (.tail _ hx)
    cases hf : come.findIdx? (fun c => same c e.tgt.toNat) with
    | some k =>
      have h1 := numE_some (l := l) hf
      simp only [h1] at g1 ⊢
      cases m with
      | zero =>
        rw [List.findIdx?_eq_some_iff_getElem] at hf
        obtain ⟨hk, hq, _⟩ := hf
        obtain ⟨more, hp, _⟩ := numE_pre same l come
        refine ⟨rfl, k, rfl, by simp only [hp, List.length_append]; omega, ?_⟩
        simp only [hp]
        rw [List.getElem_append_left hk]
        exact hq
      | succ m =>
        have := numE_edge same l come hs' m (by simpa using g1) (by simpa using g2)
        simpa using this
    | none =>
      have h1 := numE_none (l := l) hf
      simp only [h1] at g1 ⊢
      cases m with
      | zero =>
        obtain ⟨more, hp, _⟩ := numE_pre same l (come ++ [e.tgt.toNat])
        refine ⟨rfl, come.length, rfl, by simp only [hp, List.length_append, List.length_cons]; omega, ?_⟩
        simp only [hp]
        rw [List.getElem_append_left (by simp), List.getElem_concat_length rfl]
        exact hs e (.head _)
      | succ m =>
        have := numE_edge same l (come ++ [e.tgt.toNat]) hs' m (by simpa using g1) (by simpa using g2)
        simpa using this

theorem NInv.next {t : Aut} {same : Nat → Nat → Bool} {i : Nat} {come : List Nat} {out : Aut} (h : NInv t same i come out) {c : Nat} (hc : come[i]? = some c) (hs : ∀ e ∈ t.edges c, same e.tgt.toNat e.tgt.toNat = true) :
    NInv t same (i + 1) (numE same (t.edges c) come).2 (out ++ [⟨t.kind c, t.alts c, (numE same (t.edges c) come).1⟩]) := by
  obtain ⟨hi, hci⟩ := List.getElem?_eq_some_iff.1 hc
  obtain ⟨more, hp, hm⟩ := numE_pre same (t.edges c) come
  have hle : come.length ≤ (numE same (t.edges c) come).2.length := by rw [hp]; simp
  have hget : ∀ k (h1 : k < come.length) (h2 : k < (numE same (t.edges c) come).2.length), (numE same (t.edges c) come).2[k] = come[k] := fun k h1 h2 => by
    simp only [hp]; exact List.getElem_append_left h1
  refine ⟨by simp [h.olen], by omega, by have := h.pos; omega, ?_, numE_apart same _ _ h.apart, ?_, ?_⟩
  · rw [hp, List.getElem?_append_left h.pos]; exact h.head
  · intro k h1 h2
    by_cases hk : k < out.length
    · rw [List.getElem_append_left hk]
      have hkc : k < come.length := by have := h.olen; omega
      obtain ⟨s1, s2, s3, s4⟩ := h.state k hk hkc
      rw [hget k hkc h2]
      refine ⟨s1, s2, s3, fun m g1 g2 => ?_⟩
      obtain ⟨e1, c', e2, hc', e3⟩ := s4 m g1 g2
      exact ⟨e1, c', e2, by omega, by rw [hget c' hc']; exact e3⟩
    · have hk' : k = out.length := by simp only [List.length_append, List.length_cons, List.length_nil] at h1; omega
      have hki : k = i := by rw [hk', h.olen]
      subst hki
      have e0 : (numE same (t.edges c) come).2[k] = c := by rw [hget k hi]; exact hci
      have e1 : (out ++ [⟨t.kind c, t.alts c, (numE same (t.edges c) come).1⟩])[k] = ⟨t.kind c, t.alts c, (numE same (t.edges c) come).1⟩ := by
        simp only [hk', List.getElem_concat_length]
      rw [e1, e0]
      refine ⟨rfl, rfl, numE_len _ _ _, fun m g1 g2 => numE_edge same _ _ hs m g1 g2⟩
  · intro k hk h0
    by_cases hkc : k < come.length
    · obtain ⟨j, hj, e, he, hx⟩ := h.by' k hkc h0
      exact ⟨j, by omega, e, by rw [hget j hj]; exact he, by rw [hget k hkc]; exact hx⟩
    · have hmem : (numE same (t.edges c) come).2[k] ∈ more := by
        simp only [hp]
        rw [List.getElem_append_right (by omega)]
        exact List.getElem_mem _
      obtain ⟨e, he, hx⟩ := hm _ hmem
      exact ⟨i, by omega, e, by rw [hget i hi, hci]; exact he, hx⟩

theorem nodup_below : ∀ (n : Nat) (l : List Nat), l.Nodup → (∀ x ∈ l, x < n) → l.length ≤ n
  | 0, l, _, h => by
    cases l with
    | nil => simp
    | cons x l => exact absurd (h x (.head _)) (by omega)
  | n + 1, l, hn, h => by
    have h1 : (l.filter fun x => x != n).length ≤ n := nodup_below n _ (hn.filter _) fun x hx => by
      rw [List.mem_filter] at hx
      have := h x hx.1
      have h2 : x ≠ n := by simpa using hx.2
      omega
    have h2 : ∀ (m : List Nat), m.Nodup → m.length ≤ (m.filter fun x => x != n).length + 1 := by
      intro m hm
      induction m with
      | nil => simp
      | cons y m ih =>
        obtain ⟨hy, hm'⟩ := List.nodup_cons.1 hm
        by_cases e : y = n
        · subst e
          have : m.filter (fun x => x != y) = m := by
            rw [List.filter_eq_self]
            intro x hx
            have : x ≠ y := fun e => hy (e ▸ hx)
            simpa using this
          simp [this]
        · have := ih hm'
          simp only [List.filter_cons, bne_iff_ne, ne_eq, e, not_false_eq_true, if_true, List.length_cons]
          omega
    have := h2 l hn
    omega
/-- who has all below n has n at least -/
theorem cover_len : ∀ (n : Nat) (l : List Nat), (∀ d, d < n → d ∈ l) → n ≤ l.length
  | 0, _, _ => Nat.zero_le _
  | n + 1, l, h => by
    have hn := h n (by omega)
    have h1 : n ≤ (l.erase n).length := cover_len n _ fun d hd => (List.mem_erase_of_ne (by omega)).2 (h d (by omega))
    rw [List.length_erase_of_mem hn] at h1
    have : 0 < l.length := List.length_pos_of_mem hn
    omega
theorem cover_nodup : ∀ (n : Nat) (l : List Nat), l.length = n → (∀ d, d < n → d ∈ l) → l.Nodup := by
  intro n l hl h
  -- each value below n, as it stands there alone
  have key : ∀ i j (hi : i < l.length) (hj : j < l.length), i < j → l[i] ≠ l[j] := by
    intro i j hi hj hij e
    have : n ≤ (l.eraseIdx j).length := cover_len n _ fun d hd => by
      obtain ⟨k, hk, rfl⟩ := List.mem_iff_getElem.1 (h d hd)
      rcases Nat.lt_trichotomy k j with hkj | rfl | hkj
      · rw [List.mem_iff_getElem]
        exact ⟨k, by rw [List.length_eraseIdx_of_lt hj]; omega, by rw [List.getElem_eraseIdx_of_lt]; exact hkj⟩
      · rw [← e, List.mem_iff_getElem]
        exact ⟨i, by rw [List.length_eraseIdx_of_lt hj]; omega, by rw [List.getElem_eraseIdx_of_lt]; exact hij⟩
      · rw [List.mem_iff_getElem]
        refine ⟨k - 1, by rw [List.length_eraseIdx_of_lt hj]; omega, ?_⟩
        rw [List.getElem_eraseIdx_of_ge]
        · simp only [show k - 1 + 1 = k by omega]
        · omega
    rw [List.length_eraseIdx_of_lt hj] at this
    omega
  rw [List.nodup_iff_pairwise_ne, List.pairwise_iff_getElem]
  exact fun i j hi hj hij => key i j hi hj hij

/-! ## How states are come by -/
def nextE : List Ed → Int → Option Int
  | [], n => some n
  | e :: r, n => if e.tgt = n then (if n + 1 ≤ e.tgt then none else nextE r (n + 1)) else if n ≤ e.tgt then none else nextE r n
def bfsL : Aut → Nat → Int → Option Int
  | [], _, n => some n
  | s :: r, i, n => if (i : Int) < n then (match nextE s.edges n with | none => none | some m => bfsL r (i + 1) m) else some n
theorem numE_next (same : Nat → Nat → Bool) : ∀ (l : List Ed) (come : List Nat), nextE (numE same l come).1 come.length = some ((numE same l come).2.length : Int)
  | [], _ => rfl
  | e :: l, come => by
    cases hf : come.findIdx? (fun c => same c e.tgt.toNat) with
    | some k =>
      rw [numE_some hf]
      rw [List.findIdx?_eq_some_iff_getElem] at hf
      obtain ⟨hk, _⟩ := hf
      simp only [nextE]
      rw [if_neg (by omega), if_neg (by omega)]
      exact numE_next same l come
    | none =>
      rw [numE_none hf]
      simp only [nextE]
      rw [if_pos trivial, if_neg (by omega)]
      have := numE_next same l (come ++ [e.tgt.toNat])
      simp only [List.length_append, List.length_cons, List.length_nil, Nat.zero_add] at this
      exact this

/-- two automata go along, whatever is held for the same -/
structure Sim0 (t1 t2 : Aut) (R : Nat → Nat → Prop) : Prop where
  kind : ∀ {i j}, R i j → t1.kind i = t2.kind j
  alts : ∀ {i j}, R i j → t1.alts i = t2.alts j
  len : ∀ {i j}, R i j → (t1.edges i).length = (t2.edges j).length
  edge : ∀ {i j}, R i j → ∀ m (h1 : m < (t1.edges i).length) (h2 : m < (t2.edges j).length), ((t1.edges i)[m]).tok = ((t2.edges j)[m]).tok ∧ R ((t1.edges i)[m]).tgt.toNat ((t2.edges j)[m]).tgt.toNat
theorem Sim0.eqv {t1 t2 : Aut} {R : Nat → Nat → Prop} (S : Sim0 t1 t2 R) : ∀ (k : Nat) {i j i' j' : Nat}, R i j → R i' j' → (t1.Eqv k i i' ↔ t2.Eqv k j j')
  | 0, _, _, _, _, _, _ => Iff.rfl
  | k + 1, i, j, i', j', h, h' => by
    have l1 := S.len h
    have l2 := S.len h'
    constructor
    · rintro ⟨e1, e2, e3, H⟩
      refine ⟨by rw [← S.kind h, ← S.kind h']; exact e1, by rw [← S.alts h, ← S.alts h']; exact e2, by omega, ?_⟩
      intro m g1 g2
      have a1 := S.edge h m (by omega) g1
      have a2 := S.edge h' m (by omega) g2
      have := H m (by omega) (by omega)
      exact ⟨by rw [← a1.1, ← a2.1]; exact this.1, (S.eqv k a1.2 a2.2).1 this.2⟩
    · rintro ⟨e1, e2, e3, H⟩
      refine ⟨by rw [S.kind h, S.kind h']; exact e1, by rw [S.alts h, S.alts h']; exact e2, by omega, ?_⟩
      intro m g1 g2
      have a1 := S.edge h m g1 (by omega)
      have a2 := S.edge h' m g2 (by omega)
      have := H m (by omega) (by omega)
      exact ⟨by rw [a1.1, a2.1]; exact this.1, (S.eqv k a1.2 a2.2).2 this.2⟩
theorem Sim0.like {t1 t2 : Aut} {R : Nat → Nat → Prop} (S : Sim0 t1 t2 R) {i j i' j' : Nat} (h : R i j) (h' : R i' j') : t1.Like i i' ↔ t2.Like j j' :=
  forall_congr' fun k => S.eqv k h h'
/-- two automata whose living states go along have the same least one -/
theorem IsLeast.along {a b x y : Aut} (hx : IsLeast a x) (hy : IsLeast b y) (R : Nat → Nat → Prop) (h0 : a.Live 0 → R 0 0) (h0' : a.Live 0 ↔ b.Live 0) (hR : ∀ i j, R i j → a.Live i ∧ b.Live j)
    (hS : ∀ t u, Trim a t → Trim b u → Sim0 t u R) : x = y := by
  rcases hx with ⟨h1, rfl⟩ | ⟨h1, t, s, T, hs, rfl⟩
  · rcases hy with ⟨_, rfl⟩ | ⟨h2, _⟩
    · rfl
    · exact absurd (h0'.2 h2) h1
  · rcases hy with ⟨h2, _⟩ | ⟨_, u, s', U, hs', rfl⟩
    · exact absurd (h0'.1 h1) h2
    · have S := hS t u T U
      refine Sim.num (R := R) ⟨S.kind, S.alts, S.len, S.edge, fun {i j i' j'} g1 g2 => ?_⟩ (h0 h1)
      rw [Bool.eq_iff_iff, hs _ _ (hR _ _ g1).1 (hR _ _ g2).1, hs' _ _ (hR _ _ g1).2 (hR _ _ g2).2]
      exact S.like g1 g2

theorem Aut.Live.lt {a : Aut} {i : Nat} (h : a.Live i) : i < a.length := by
  rcases Nat.lt_or_ge i a.length with g | g
  · exact g
  · obtain ⟨e1, _, e3⟩ := Aut.out g
    cases h with
    | dec h => rw [dec_iff, e1] at h; omega
    | step he _ _ => rw [e3] at he; cases he

/-- the numbering comes to its end -/
theorem num_fin {a t : Aut} {same : Nat → Nat → Bool} (T : Trim a t) (hs : ∀ i j, a.Live i → a.Live j → (same i j = true ↔ t.Like i j)) : ∀ (f i : Nat) (come : List Nat) (out : Aut),
    NInv t same i come out → (∀ x ∈ come, a.Live x) → a.length < i + f → ∃ come' rest, NInv t same come'.length come' (numAll t same f i come out) ∧ (∀ x ∈ come', a.Live x) ∧ numAll t same f i come out = out ++ rest ∧ bfsL rest i come.length = some (come'.length : Int)
  | 0, i, come, out, h, hl, hf => by
    have hnd : come.Nodup := by
      rw [List.nodup_iff_pairwise_ne, List.pairwise_iff_getElem]
      intro k l h1 h2 hkl e
      have := h.apart k l h1 h2 hkl
      rw [e, (hs _ _ (hl _ (List.getElem_mem h2)) (hl _ (List.getElem_mem h2))).2 (Aut.Like.refl _ _)] at this
      cases this
    have := nodup_below a.length come hnd fun x hx => (hl x hx).lt
    have := h.ile
    omega
  | f + 1, i, come, out, h, hl, hf => by
    simp only [numAll]
    cases hc : come[i]? with
    | none =>
      have : come.length ≤ i := List.getElem?_eq_none_iff.1 hc
      have e : i = come.length := by have := h.ile; omega
      subst e
      exact ⟨come, [], h, hl, by simp, rfl⟩
    | some c =>
      have hcl : ∀ e ∈ t.edges c, a.Live e.tgt.toNat := fun e he => (T.mem.1 he).2.1
      obtain ⟨more, hp, hm⟩ := numE_pre same (t.edges c) come
      have hlt := (List.getElem?_eq_some_iff.1 hc).1
      obtain ⟨come', rest, g1, g2, g3, g4⟩ := num_fin T hs f (i + 1) _ _ (h.next hc fun e he => (hs _ _ (hcl e he) (hcl e he)).2 (Aut.Like.refl _ _)) (by
        rw [hp]
        intro x hx
        rcases List.mem_append.1 hx with hx | hx
        · exact hl x hx
        · obtain ⟨e, he, rfl⟩ := hm x hx
          exact hcl e he) (by omega)
      refine ⟨come', ⟨t.kind c, t.alts c, (numE same (t.edges c) come).1⟩ :: rest, g1, g2, g3.trans (by simp), ?_⟩
      simp only [bfsL]
      rw [if_pos (by omega), numE_next]
      exact g4
theorem NInv.start (t : Aut) (same : Nat → Nat → Bool) : NInv t same 0 [0] [] :=
  ⟨rfl, by simp, by simp, rfl, fun k l h1 h2 h => by simp only [List.length_cons, List.length_nil] at h1 h2; omega, fun k h => absurd h (by simp), fun k h h0 => by simp only [List.length_cons, List.length_nil] at h; omega⟩

/-- what a least one is like -/
structure Lst (a t x : Aut) (come : List Nat) : Prop where
  trim : Trim a t
  len : x.length = come.length
  pos : 0 < come.length
  head : come[0]? = some 0
  live : ∀ k (h : k < come.length), a.Live come[k]
  apart : ∀ k l (h1 : k < come.length) (h2 : l < come.length), t.Like come[k] come[l] → k = l
  kind : ∀ k (h : k < come.length), x.kind k = a.kind come[k]
  alts : ∀ k (h : k < come.length), x.alts k = a.alts come[k]
  elen : ∀ k (h : k < come.length), (x.edges k).length = (t.edges come[k]).length
  edge : ∀ k (h : k < come.length), ∀ m (g1 : m < (x.edges k).length) (g2 : m < (t.edges come[k]).length), ((x.edges k)[m]).tok = ((t.edges come[k])[m]).tok ∧
    ∃ c : Nat, ((x.edges k)[m]).tgt = c ∧ ∃ hc : c < come.length, t.Like ((t.edges come[k])[m]).tgt.toNat come[c]
  bfs : bfsL x 0 1 = some (x.length : Int)
theorem lst_of {a t : Aut} {same : Nat → Nat → Bool} (T : Trim a t) (hs : ∀ i j, a.Live i → a.Live j → (same i j = true ↔ t.Like i j)) (h0 : a.Live 0) (hn : a.length ≤ 4096) : ∃ come, Lst a t (numM t same) come := by
  obtain ⟨come, rest, h, hl, hr, hb⟩ := num_fin T hs 5000 0 [0] [] (NInv.start _ _) (fun x hx => by simp only [List.mem_singleton] at hx; subst hx; exact h0) (by omega)
  have hl' : ∀ k (h : k < come.length), a.Live come[k] := fun k h => hl _ (List.getElem_mem h)
  have hx : (numM t same).length = come.length := h.olen
  have hat : ∀ k (hk : k < come.length), ∃ hk' : k < (numM t same).length, (numM t same).kind k = (numM t same)[k].kind ∧ (numM t same).alts k = (numM t same)[k].alts ∧ (numM t same).edges k = (numM t same)[k].edges := fun k hk =>
    ⟨by omega, Aut.at (by omega)⟩
  refine ⟨come, T, hx, h.pos, h.head, hl', ?_, ?_, ?_, ?_, ?_, ?_⟩
  · intro k l h1 h2 hlk
    rcases Nat.lt_trichotomy k l with g | g | g
    · have := h.apart k l h1 h2 g
      rw [(hs _ _ (hl' k h1) (hl' l h2)).2 hlk] at this
      cases this
    · exact g
    · have := h.apart l k h2 h1 g
      rw [(hs _ _ (hl' l h2) (hl' k h1)).2 hlk.symm] at this
      cases this
  · intro k hk
    obtain ⟨hk', e1, e2, e3⟩ := hat k hk
    rw [e1, ← T.kind]
    exact (h.state k hk' hk).1
  · intro k hk
    obtain ⟨hk', e1, e2, e3⟩ := hat k hk
    rw [e2, ← T.alts]
    exact (h.state k hk' hk).2.1
  · intro k hk
    obtain ⟨hk', e1, e2, e3⟩ := hat k hk
    rw [e3]
    exact (h.state k hk' hk).2.2.1
  · intro k hk m g1 g2
    obtain ⟨hk', e1, e2, e3⟩ := hat k hk
    simp only [e3] at g1 ⊢
    obtain ⟨a1, c, a2, hc, a3⟩ := (h.state k hk' hk).2.2.2 m g1 g2
    exact ⟨a1, c, a2, hc, ((hs _ _ (hl' c hc) (T.mem.1 (List.getElem_mem g2)).2.1).1 a3).symm⟩
  · have e : numM t same = rest := by unfold numM; rw [hr]; rfl
    rw [hx]
    rw [e]
    exact hb

namespace Lst
variable {a t x : Aut} {come : List Nat}
/-- i is the least one's k -/
def R (a t : Aut) (come : List Nat) (i k : Nat) : Prop := ∃ hk : k < come.length, a.Live i ∧ t.Like i come[k]
theorem sim (L : Lst a t x come) : Sim0 t x (R a t come) where
  kind := by
    rintro i k ⟨hk, _, h⟩
    rw [L.kind k hk, ← L.trim.kind]; exact h.step.1
  alts := by
    rintro i k ⟨hk, _, h⟩
    rw [L.alts k hk, ← L.trim.alts]; exact h.step.2.1
  len := by
    rintro i k ⟨hk, _, h⟩
    rw [L.elen k hk]; exact h.step.2.2.1
  edge := by
    rintro i k ⟨hk, hl, h⟩ m h1 h2
    obtain ⟨_, _, s3, s4⟩ := h.step
    have g2 : m < (t.edges come[k]).length := by omega
    obtain ⟨e1, c, e2, hc, e3⟩ := L.edge k hk m h2 g2
    obtain ⟨f1, f2⟩ := s4 m h1 g2
    refine ⟨f1.trans e1.symm, by rw [e2]; exact hc, (L.trim.mem.1 (List.getElem_mem h1)).2.1, ?_⟩
    simp only [e2, Int.toNat_natCast]
    exact f2.trans e3
theorem head' (L : Lst a t x come) : R a t come 0 0 := by
  obtain ⟨h1, h2⟩ := List.getElem?_eq_some_iff.1 L.head
  exact ⟨L.pos, by rw [← h2]; exact L.live 0 h1, by rw [h2]; exact Aut.Like.refl _ _⟩
theorem self (L : Lst a t x come) {k : Nat} (hk : k < come.length) : R a t come come[k] k := ⟨hk, L.live k hk, Aut.Like.refl _ _⟩
theorem len_le (L : Lst a t x come) : x.length ≤ a.length := by
  rw [L.len]
  refine nodup_below a.length come ?_ fun y hy => ?_
  · rw [List.nodup_iff_pairwise_ne, List.pairwise_iff_getElem]
    intro k l h1 h2 hkl e
    have := L.apart k l h1 h2 (by rw [e]; exact Aut.Like.refl _ _)
    omega
  · obtain ⟨k, hk, rfl⟩ := List.mem_iff_getElem.1 hy
    exact (L.live k hk).lt
/-- each state of it is alive -/
theorem alive (L : Lst a t x come) {k : Nat} (hk : k < come.length) : x.Live k := by
  have key : ∀ i, t.Live i → ∀ k, R a t come i k → x.Live k := by
    intro i h
    induction h with
    | @dec i h =>
      intro k hR
      refine .dec ?_
      rw [dec_iff] at h ⊢
      rw [← L.sim.kind hR]; exact h
    | @step i e he hl hd ih =>
      intro k hR
      obtain ⟨m, hm, rfl⟩ := List.mem_iff_getElem.1 he
      have hm2 : m < (x.edges k).length := by rw [← L.sim.len hR]; exact hm
      obtain ⟨f1, f2⟩ := L.sim.edge hR m hm hm2
      refine .step (List.getElem_mem hm2) (ih _ f2) ?_
      rw [← f1]
      rcases hd with hd | hd
      · exact .inl hd
      · refine .inr ?_
        rw [dec_iff] at hd ⊢
        rw [← L.sim.kind f2]; exact hd
  exact key _ ((L.live k hk).trim L.trim) k (L.self hk)
/-- all edges of it count -/
theorem counts (L : Lst a t x come) (ok : Okay a) {k : Nat} {e : Ed} (he : e ∈ x.edges k) : x.Counts e := by
  have hk : k < come.length := by
    rcases Nat.lt_or_ge k come.length with h | h
    · exact h
    · rw [(Aut.out (a := x) (i := k) (by rw [L.len]; exact h)).2.2] at he; cases he
  obtain ⟨m, hm, rfl⟩ := List.mem_iff_getElem.1 he
  have hm2 : m < (t.edges come[k]).length := by rw [← L.elen k hk]; exact hm
  obtain ⟨f1, f2⟩ := L.sim.edge (L.self hk) m hm2 hm
  refine ⟨L.alive f2.1, ?_⟩
  rintro ⟨h1, h2⟩
  have h3 := Aut.Counts.fin ok (L.trim.mem.1 (List.getElem_mem hm2)).2 (by rw [f1]; exact h1)
  rw [dec_iff, ← L.trim.kind, L.sim.kind f2, h2] at h3
  omega
/-- it is its own least one -/
theorem own (L : Lst a t x come) (ok : Okay a) (hx : IsLeast a x) : IsLeast x x := by
  have T : Trim x x := ⟨rfl, fun _ => rfl, fun _ => rfl, fun i => ⟨fun _ => true, fun e he => ⟨fun _ => L.counts ok he, fun _ => rfl⟩, (List.filter_eq_self.2 fun _ _ => rfl).symm⟩⟩
  have hinj : ∀ k l, x.Live k → x.Live l → ((k == l) = true ↔ x.Like k l) := by
    intro k l h1 h2
    have g1 : k < come.length := by rw [← L.len]; exact h1.lt
    have g2 : l < come.length := by rw [← L.len]; exact h2.lt
    rw [beq_iff_eq]
    constructor
    · rintro rfl; exact Aut.Like.refl _ _
    · intro h
      exact L.apart k l g1 g2 ((L.sim.like (L.self g1) (L.self g2)).2 h)
  have h0 : x.Live 0 := L.alive L.pos
  have hy : IsLeast x (numM x fun k l => k == l) := .inr ⟨h0, x, _, T, hinj, rfl⟩
  have e : x = numM x fun k l => k == l := hx.along hy (R a t come) (fun _ => L.head') ⟨fun _ => h0, fun _ => L.head'.2.1⟩
    (fun i k h => ⟨h.2.1, L.alive h.1⟩) fun t' u T' U => by
      have e1 := fun i => T'.same L.trim i
      have e2 := fun i => U.same T i
      exact ⟨fun {i j} h => by rw [T'.kind, U.kind, ← L.trim.kind]; exact L.sim.kind h, fun {i j} h => by rw [T'.alts, U.alts, ← L.trim.alts]; exact L.sim.alts h,
        fun {i j} h => by rw [e1, e2]; exact L.sim.len h, fun {i j} h m g1 g2 => by
          have := L.sim.edge h m (by rw [← e1]; exact g1) (by rw [← e2]; exact g2)
          simpa only [e1, e2] using this⟩
  rw [← e] at hy
  exact hy
end Lst

/-! ## A run over tokens -/
def stepE (l : List Ed) (t : Int) : Option Ed := l.find? fun e => e.tok == t
def Aut.at? (a : Aut) (s : Int) : Option Stt := if s < 0 then none else a[s.toNat]?
def runEnd (a : Aut) (s : Int) (n : Nat) : Int × List Int × Nat :=
  match a.at? s with
  | none => (2, [], n)
  | some x => if x.kind = 0 then (2, [], n) else (x.kind, x.alts, n)
def runR (a : Aut) : Int → Nat → List Int → Int × List Int × Nat
  | s, n, [] =>
    match a.at? s with
    | none => (2, [], n)
    | some x => if x.kind = 0 then (match stepE x.edges (-1) with | none => (2, [], n) | some e => runEnd a e.tgt (n + 1)) else (x.kind, x.alts, n)
  | s, n, t :: r =>
    match a.at? s with
    | none => (2, [], n)
    | some x => if x.kind = 0 then (if t < 0 then (2, [], n) else match stepE x.edges t with | none => (2, [], n) | some e => runR a e.tgt (n + 1) r) else (x.kind, x.alts, n)

theorem Aut.at?_nat {a : Aut} {i : Nat} (h : i < a.length) : ∃ x, a.at? i = some x ∧ x.kind = a.kind i ∧ x.alts = a.alts i ∧ x.edges = a.edges i := by
  obtain ⟨e1, e2, e3⟩ := Aut.at h
  refine ⟨a[i], ?_, e1.symm, e2.symm, e3.symm⟩
  unfold Aut.at?
  rw [if_neg (by omega), Int.toNat_natCast, List.getElem?_eq_getElem h]
theorem stepE_some {l : List Ed} {t : Int} {e : Ed} (h : stepE l t = some e) : e ∈ l ∧ e.tok = t := by
  unfold stepE at h
  exact ⟨List.mem_of_find?_eq_some h, by simpa using List.find?_some h⟩
theorem stepE_none {l : List Ed} {t : Int} (h : stepE l t = none) : ∀ e ∈ l, e.tok ≠ t := by
  unfold stepE at h
  rw [List.find?_eq_none] at h
  intro e he
  simpa using h e he
theorem rise_inj {l : List Ed} (h : (l.map (·.tok)).Pairwise (· < ·)) {e g : Ed} (he : e ∈ l) (hg : g ∈ l) (ht : e.tok = g.tok) : e = g := by
  rw [List.pairwise_map, List.pairwise_iff_getElem] at h
  obtain ⟨i, hi, rfl⟩ := List.mem_iff_getElem.1 he
  obtain ⟨j, hj, rfl⟩ := List.mem_iff_getElem.1 hg
  rcases Nat.lt_trichotomy i j with g | rfl | g
  · have := h i j hi hj g; omega
  · rfl
  · have := h j i hj hi g; omega
theorem stepE_mem {l : List Ed} (h : (l.map (·.tok)).Pairwise (· < ·)) {e : Ed} (he : e ∈ l) : stepE l e.tok = some e := by
  cases hf : stepE l e.tok with
  | none => exact absurd rfl (stepE_none hf e he)
  | some g =>
    obtain ⟨h1, h2⟩ := stepE_some hf
    rw [rise_inj h h1 he h2]

/-- from a dead state nothing comes -/
theorem runEnd_dead {a : Aut} (ok : Okay a) {i : Nat} (h : a.dec i = false) (n : Nat) : ∃ m, runEnd a i n = (2, [], m) := by
  unfold runEnd
  rcases Nat.lt_or_ge i a.length with hi | hi
  · obtain ⟨x, e, e1, e2, _⟩ := Aut.at?_nat hi
    simp only [e]
    by_cases hk : x.kind = 0
    · rw [if_pos hk]; exact ⟨_, rfl⟩
    · rw [if_neg hk, e1, e2]
      have h2 : a.kind i = 2 := by
        have := ok.kinds i
        have h' : ¬ (a.kind i = 1 ∨ a.kind i = 3) := by rw [← dec_iff, h]; simp
        rw [e1] at hk
        omega
      rw [h2, ok.fail2 i h2]
      exact ⟨_, rfl⟩
  · have : a.at? i = none := by
      unfold Aut.at?
      rw [if_neg (by omega), Int.toNat_natCast, List.getElem?_eq_none hi]
    rw [this]
    exact ⟨_, rfl⟩
theorem dead_dec {a : Aut} {i : Nat} (h : ¬ a.Live i) : a.dec i = false := by
  cases hd : a.dec i
  · rfl
  · exact absurd (.dec hd) h
theorem runR_dead {a : Aut} (ok : Okay a) : ∀ (w : List Int) (i n : Nat), ¬ a.Live i → ∃ m, runR a i n w = (2, [], m) := by
  intro w
  induction w with
  | nil =>
    intro i n h
    rw [runR]
    rcases Nat.lt_or_ge i a.length with hi | hi
    · obtain ⟨x, e, e1, e2, e3⟩ := Aut.at?_nat hi
      simp only [e]
      by_cases hk : x.kind = 0
      · rw [if_pos hk]
        cases hf : stepE x.edges (-1) with
        | none => exact ⟨_, rfl⟩
        | some g =>
          obtain ⟨h1, h2⟩ := stepE_some hf
          rw [e3] at h1
          obtain ⟨j, hj, _⟩ := ok.tgt i g h1
          simp only [hj]
          refine runEnd_dead ok ?_ _
          cases hd : a.dec j
          · rfl
          · exact absurd (.step h1 (by rw [hj]; exact .dec hd) (.inr (by rw [hj]; exact hd))) h
      · have := runEnd_dead ok (dead_dec h) n
        unfold runEnd at this
        simp only [e, if_neg hk] at this ⊢
        exact this
    · have : a.at? i = none := by
        unfold Aut.at?
        rw [if_neg (by omega), Int.toNat_natCast, List.getElem?_eq_none hi]
      rw [this]
      exact ⟨_, rfl⟩
  | cons t r ih =>
    intro i n h
    rw [runR]
    rcases Nat.lt_or_ge i a.length with hi | hi
    · obtain ⟨x, e, e1, e2, e3⟩ := Aut.at?_nat hi
      simp only [e]
      by_cases hk : x.kind = 0
      · rw [if_pos hk]
        by_cases ht : t < 0
        · rw [if_pos ht]; exact ⟨_, rfl⟩
        · rw [if_neg ht]
          cases hf : stepE x.edges t with
          | none => exact ⟨_, rfl⟩
          | some g =>
            obtain ⟨h1, h2⟩ := stepE_some hf
            rw [e3] at h1
            obtain ⟨j, hj, _⟩ := ok.tgt i g h1
            simp only [hj]
            exact ih j (n + 1) fun hl => h (.step h1 (by rw [hj]; exact hl) (.inl (by omega)))
      · have := runEnd_dead ok (dead_dec h) n
        unfold runEnd at this
        simp only [e, if_neg hk] at this ⊢
        exact this
    · have : a.at? i = none := by
        unfold Aut.at?
        rw [if_neg (by omega), Int.toNat_natCast, List.getElem?_eq_none hi]
      rw [this]
      exact ⟨_, rfl⟩

/-- runs tell the same -/
def Alike (r s : Int × List Int × Nat) : Prop := r.1 = s.1 ∧ r.2.1 = s.2.1 ∧ (r.1 = 2 ∨ r.2.2 = s.2.2)
theorem alike_fail {m n : Nat} : Alike (2, [], m) (2, [], n) := ⟨rfl, rfl, .inl rfl⟩

namespace Lst
variable {a t x : Aut} {come : List Nat}
theorem riseT (L : Lst a t x come) (ok : Okay a) (i : Nat) : ((t.edges i).map (·.tok)).Pairwise (· < ·) := by
  obtain ⟨p, _, he⟩ := L.trim.edges i
  rw [he]
  have := ok.rise i
  rw [List.pairwise_map] at this ⊢
  exact this.filter _
theorem toks (L : Lst a t x come) {k : Nat} (hk : k < come.length) : (x.edges k).map (·.tok) = (t.edges come[k]).map (·.tok) := by
  refine List.ext_getElem (by simp [L.elen k hk]) fun m h1 h2 => ?_
  simp only [List.length_map] at h1 h2
  simp only [List.getElem_map]
  exact (L.edge k hk m h1 h2).1
/-- where a goes on, to who is alive, x does; where it does not, x stops -/
theorem step (L : Lst a t x come) (ok : Okay a) {i k : Nat} (hR : R a t come i k) (tok : Int) :
    (∃ e g, stepE (a.edges i) tok = some e ∧ a.Counts e ∧ stepE (x.edges k) tok = some g ∧ R a t come e.tgt.toNat g.tgt.toNat ∧ ∃ c : Nat, g.tgt = c) ∨
    (stepE (x.edges k) tok = none ∧ ∀ e, stepE (a.edges i) tok = some e → e ∈ a.edges i ∧ e.tok = tok ∧ ¬ a.Counts e) := by
  obtain ⟨hk, hl, hlike⟩ := hR
  have hx : ((x.edges k).map (·.tok)).Pairwise (· < ·) := by rw [L.toks hk]; exact L.riseT ok _
  cases hf : stepE (x.edges k) tok with
  | none =>
    refine .inr ⟨rfl, fun e he => ?_⟩
    obtain ⟨h1, h2⟩ := stepE_some he
    refine ⟨h1, h2, fun hc => ?_⟩
    obtain ⟨m, hm, hme⟩ := List.mem_iff_getElem.1 (L.trim.mem.2 ⟨h1, hc⟩)
    have hm2 : m < (x.edges k).length := by rw [← L.sim.len ⟨hk, hl, hlike⟩]; exact hm
    have := (L.sim.edge ⟨hk, hl, hlike⟩ m hm hm2).1
    rw [hme, h2] at this
    exact stepE_none hf _ (List.getElem_mem hm2) this.symm
  | some g =>
    obtain ⟨h1, h2⟩ := stepE_some hf
    obtain ⟨m, hm2, rfl⟩ := List.mem_iff_getElem.1 h1
    have hm : m < (t.edges i).length := by rw [L.sim.len ⟨hk, hl, hlike⟩]; exact hm2
    obtain ⟨f1, f2⟩ := L.sim.edge ⟨hk, hl, hlike⟩ m hm hm2
    have hmem := L.trim.mem.1 (List.getElem_mem hm)
    have hc := L.edge k hk m hm2 (by rw [← L.elen k hk]; exact hm2)
    refine .inl ⟨_, _, ?_, hmem.2, rfl, f2, ?_⟩
    · rw [← h2, ← f1]
      exact stepE_mem (ok.rise i) hmem.1
    · obtain ⟨_, c, hc, _⟩ := hc
      exact ⟨c, hc⟩
theorem alikeEnd (L : Lst a t x come) {i k : Nat} (hR : R a t come i k) (n : Nat) : Alike (runEnd a i n) (runEnd x k n) := by
  have hi : i < a.length := hR.2.1.lt
  have hk : k < x.length := by rw [L.len]; exact hR.1
  obtain ⟨y, e, e1, e2, _⟩ := Aut.at?_nat hi
  obtain ⟨z, g, g1, g2, _⟩ := Aut.at?_nat hk
  have a1 := L.sim.kind hR
  have a2 := L.sim.alts hR
  rw [L.trim.kind] at a1
  rw [L.trim.alts] at a2
  unfold runEnd
  simp only [e, g, e1, g1, e2, g2, a1, a2]
  split
  · exact alike_fail
  · exact ⟨rfl, rfl, .inr rfl⟩
theorem alike (L : Lst a t x come) (ok : Okay a) : ∀ (w : List Int) (i k n : Nat), R a t come i k → Alike (runR a i n w) (runR x k n w) := by
  intro w
  induction w with
  | nil =>
    intro i k n hR
    have hi : i < a.length := hR.2.1.lt
    have hk : k < x.length := by rw [L.len]; exact hR.1
    obtain ⟨y, e, e1, e2, e3⟩ := Aut.at?_nat hi
    obtain ⟨z, g, g1, g2, g3⟩ := Aut.at?_nat hk
    have a1 := L.sim.kind hR
    have a2 := L.sim.alts hR
    rw [L.trim.kind] at a1
    rw [L.trim.alts] at a2
    rw [runR, runR]
    simp only [e, g, e1, g1, e2, g2, e3, g3, a1, a2]
    split
    · rcases L.step ok hR (-1) with ⟨c, d, h1, h2, h3, h4, q, hq⟩ | ⟨h1, h2⟩
      · simp only [h1, h3]
        obtain ⟨j, hj, _⟩ := ok.tgt i c (stepE_some h1).1
        rw [hj, hq] at h4 ⊢
        exact L.alikeEnd h4 _
      · simp only [h1]
        cases hc : stepE (a.edges i) (-1) with
        | none => exact alike_fail
        | some c =>
          obtain ⟨h3, h4, h5⟩ := h2 c hc
          obtain ⟨j, hj, _⟩ := ok.tgt i c h3
          simp only [hj]
          have hd : a.dec j = false := by
            cases hd : a.dec j
            · rfl
            · refine absurd ⟨?_, ?_⟩ h5
              · rw [hj]; exact .dec hd
              · rintro ⟨_, h6⟩
                rw [hj] at h6
                rw [dec_iff] at hd
                simp only [Int.toNat_natCast] at h6
                omega
          obtain ⟨m, hm⟩ := runEnd_dead ok hd (n + 1)
          rw [hm]
          exact alike_fail
    · exact ⟨rfl, rfl, .inr rfl⟩
  | cons tk r ih =>
    intro i k n hR
    have hi : i < a.length := hR.2.1.lt
    have hk : k < x.length := by rw [L.len]; exact hR.1
    obtain ⟨y, e, e1, e2, e3⟩ := Aut.at?_nat hi
    obtain ⟨z, g, g1, g2, g3⟩ := Aut.at?_nat hk
    have a1 := L.sim.kind hR
    have a2 := L.sim.alts hR
    rw [L.trim.kind] at a1
    rw [L.trim.alts] at a2
    rw [runR, runR]
    simp only [e, g, e1, g1, e2, g2, e3, g3, a1, a2]
    split
    · split
      · exact alike_fail
      · rename_i ht
        rcases L.step ok hR tk with ⟨c, d, h1, h2, h3, h4, q, hq⟩ | ⟨h1, h2⟩
        · simp only [h1, h3]
          obtain ⟨j, hj, _⟩ := ok.tgt i c (stepE_some h1).1
          rw [hj, hq] at h4 ⊢
          exact ih _ _ _ h4
        · simp only [h1]
          cases hc : stepE (a.edges i) tk with
          | none => exact alike_fail
          | some c =>
            obtain ⟨h3, h4, h5⟩ := h2 c hc
            obtain ⟨j, hj, _⟩ := ok.tgt i c h3
            simp only [hj]
            have hd : ¬ a.Live j := fun hl => h5 ⟨by rw [hj]; exact hl, fun h6 => by omega⟩
            obtain ⟨m, hm⟩ := runR_dead ok r j (n + 1) hd
            rw [hm]
            exact alike_fail
    · exact ⟨rfl, rfl, .inr rfl⟩

theorem may (L : Lst a t x come) (ok : Okay a) {n m : Int} (h : a.mayB n m = true) : x.mayB n m = true := by
  simp only [Aut.mayB, Bool.and_eq_true, decide_eq_true_eq, List.all_eq_true] at h ⊢
  obtain ⟨⟨h1, h2⟩, h3⟩ := h
  have hp := L.pos
  have hl := L.len_le
  refine ⟨⟨by rw [L.len]; omega, by omega⟩, fun s hs => ?_⟩
  obtain ⟨k, hk', rfl⟩ := List.mem_iff_getElem.1 hs
  have hk : k < come.length := by rw [← L.len]; exact hk'
  have hc := (L.live k hk).lt
  have hf := h3 _ (List.getElem_mem hc)
  obtain ⟨x1, x2, x3⟩ := Aut.at hk'
  obtain ⟨c1, c2, c3⟩ := Aut.at hc
  have k1 := L.kind k hk
  have k2 := L.alts k hk
  rw [x1, c1] at k1
  rw [x2, c2] at k2
  simp only [Stt.fineB, Bool.and_eq_true, List.all_eq_true, decide_eq_true_eq] at hf ⊢
  obtain ⟨⟨⟨f1, f2⟩, f3⟩, f4⟩ := hf
  have hx3 : x[k].edges = x.edges k := x3.symm
  have hmem : ∀ e ∈ x[k].edges, ∃ g ∈ a[come[k]].edges, g.tok = e.tok := by
    intro e he
    rw [hx3] at he
    have : e.tok ∈ (t.edges come[k]).map (·.tok) := by rw [← L.toks hk]; exact List.mem_map_of_mem he
    obtain ⟨g, hg, hge⟩ := List.mem_map.1 this
    exact ⟨g, by rw [← c3]; exact (L.trim.mem.1 hg).1, hge⟩
  refine ⟨⟨⟨?_, by rw [k2]; exact f2⟩, ?_⟩, ?_⟩
  · intro e he
    rw [hx3] at he
    obtain ⟨q, hq, rfl⟩ := List.mem_iff_getElem.1 he
    obtain ⟨_, c, e2, hc', _⟩ := L.edge k hk q hq (by rw [← L.elen k hk]; exact hq)
    rw [e2, L.len]
    omega
  · rw [riseB_iff] at f3 ⊢
    refine ⟨?_, ?_⟩
    · intro q hq
      obtain ⟨e, he, rfl⟩ := List.mem_map.1 hq
      obtain ⟨g, hg, hge⟩ := hmem e he
      rw [← hge]
      exact f3.1 _ (List.mem_map_of_mem hg)
    · rw [hx3, L.toks hk]; exact L.riseT ok _
  · have hnil : a[come[k]].edges = [] → x[k].edges = [] := by
      intro h
      cases hx : x[k].edges with
      | nil => rfl
      | cons e r =>
        obtain ⟨g, hg, _⟩ := hmem e (by rw [hx]; exact .head _)
        rw [h] at hg; cases hg
    rw [k1, k2]
    by_cases k0 : a[come[k]].kind = 0
    · rw [if_pos k0] at f4 ⊢; exact f4
    · rw [if_neg k0] at f4 ⊢
      by_cases k1 : a[come[k]].kind = 1
      · rw [if_pos k1] at f4 ⊢
        simp only [Bool.and_eq_true, List.isEmpty_iff] at f4 ⊢
        exact ⟨f4.1, hnil f4.2⟩
      · rw [if_neg k1] at f4 ⊢
        by_cases k3 : a[come[k]].kind = 3
        · rw [if_pos k3] at f4 ⊢
          simp only [Bool.and_eq_true, List.isEmpty_iff] at f4 ⊢
          exact ⟨f4.1, hnil f4.2⟩
        · rw [if_neg k3] at f4 ⊢
          simp only [Bool.and_eq_true, List.isEmpty_iff] at f4 ⊢
          exact ⟨f4.1, hnil f4.2⟩
end Lst

/-! ## Parts, told apart by signs -/
/-- what tells a state from others, by the parts of those that it leads to -/
def Sg (t : Aut) (p : List Nat) (i : Nat) : Int × List Int × List (Int × Int) := (t.kind i, t.alts i, (t.edges i).map fun e => (e.tok, ((p.getD e.tgt.toNat 0 : Nat) : Int)))
/-- parted anew -/
structure Parted (t : Aut) (p q : List Nat) (m : Nat) : Prop where
  len : q.length = t.length
  lt : ∀ i (h : i < q.length), q[i] < m
  surj : ∀ c, c < m → ∃ i, ∃ h : i < q.length, q[i] = c
  sg : ∀ i j (h : i < q.length) (g : j < q.length), q[i] = q[j] ↔ Sg t p i = Sg t p j
/-- parts by so many steps -/
structure Part (t : Aut) (k : Nat) (p : List Nat) (m : Nat) : Prop where
  len : p.length = t.length
  lt : ∀ i (h : i < p.length), p[i] < m
  surj : ∀ c, c < m → ∃ i, ∃ h : i < p.length, p[i] = c
  eqv : ∀ i j (h : i < p.length) (g : j < p.length), p[i] = p[j] ↔ t.Eqv k i j
theorem Part.start {t : Aut} (h : 0 < t.length) : Part t 0 (List.replicate t.length 0) 1 :=
  ⟨by simp, fun i h => by simp, fun c hc => ⟨0, by simpa using h, by simp; omega⟩, fun i j h g => by simp [Aut.Eqv]⟩
theorem Part.most {t : Aut} {k m : Nat} {p : List Nat} (h : Part t k p m) : m ≤ t.length := by
  rw [← h.len]
  refine cover_len m p fun d hd => ?_
  obtain ⟨i, hi, e⟩ := h.surj d hd
  rw [← e]; exact List.getElem_mem hi
/-- all edges lead to states -/
def Inside (t : Aut) : Prop := ∀ i, ∀ e ∈ t.edges i, ∃ j : Nat, e.tgt = j ∧ j < t.length
theorem Part.next {t : Aut} {k m m' : Nat} {p q : List Nat} (h : Part t k p m) (ht : Inside t) (g : Parted t p q m') : Part t (k + 1) q m' := by
  refine ⟨g.len, g.lt, g.surj, fun i j hi hj => ?_⟩
  rw [g.sg i j hi hj]
  have hat : ∀ i, ∀ e ∈ t.edges i, ∃ hb : e.tgt.toNat < p.length, p.getD e.tgt.toNat 0 = p[e.tgt.toNat] := fun i e he => by
    obtain ⟨j, hj, hl⟩ := ht i e he
    have hb : e.tgt.toNat < p.length := by rw [h.len, hj]; exact hl
    exact ⟨hb, by simp [List.getD, hb]⟩
  simp only [Sg, Prod.mk.injEq, Aut.Eqv]
  refine and_congr_right fun _ => and_congr_right fun _ => ?_
  constructor
  · intro H
    have hl : (t.edges i).length = (t.edges j).length := by have := congrArg List.length H; simpa using this
    refine ⟨hl, fun m h1 h2 => ?_⟩
    have e : ((t.edges i).map fun e => (e.tok, ((p.getD e.tgt.toNat 0 : Nat) : Int)))[m]? = ((t.edges j).map fun e => (e.tok, ((p.getD e.tgt.toNat 0 : Nat) : Int)))[m]? := by rw [H]
    simp only [List.getElem?_map, List.getElem?_eq_getElem h1, List.getElem?_eq_getElem h2, Option.map_some, Option.some.injEq, Prod.mk.injEq] at e
    obtain ⟨b1, c1⟩ := hat i _ (List.getElem_mem h1)
    obtain ⟨b2, c2⟩ := hat j _ (List.getElem_mem h2)
    exact ⟨e.1, (h.eqv _ _ b1 b2).1 (by have := e.2; omega)⟩
  · rintro ⟨hl, H⟩
    refine List.ext_getElem (by simpa using hl) fun m h1 h2 => ?_
    simp only [List.length_map] at h1 h2
    obtain ⟨b1, c1⟩ := hat i _ (List.getElem_mem h1)
    obtain ⟨b2, c2⟩ := hat j _ (List.getElem_mem h2)
    obtain ⟨f1, f2⟩ := H m h1 h2
    have := (h.eqv _ _ b1 b2).2 f2
    simp only [List.getElem_map, Prod.mk.injEq]
    exact ⟨f1, by omega⟩
/-- who stands for a part of the finer ones -/
theorem Part.rep {t : Aut} {k m : Nat} {q : List Nat} (h : Part t k q m) : ∃ r : Nat → Nat, ∀ c, c < m → ∃ hr : r c < q.length, q[r c] = c := by
  refine ⟨fun c => if hc : c < m then (h.surj c hc).choose else 0, fun c hc => ?_⟩
  simp only [dif_pos hc]
  exact (h.surj c hc).choose_spec
/-- finer parts are more, or the same -/
theorem Part.grow {t : Aut} {k m m' : Nat} {p q : List Nat} (h : Part t k p m) (g : Part t (k + 1) q m') : m ≤ m' ∧ (m' = m → ∀ i j, i < t.length → j < t.length → t.Eqv k i j → t.Eqv (k + 1) i j) := by
  obtain ⟨r, hr⟩ := g.rep
  have hlen : q.length = p.length := by rw [g.len, h.len]
  -- the coarser part of each finer one
  have hcov : ∀ d, d < m → d ∈ (List.range m').map fun c => p.getD (r c) 0 := by
    intro d hd
    obtain ⟨i, hi, rfl⟩ := h.surj d hd
    have hiq : i < q.length := by omega
    obtain ⟨h1, h2⟩ := hr q[i] (g.lt i hiq)
    refine List.mem_map.2 ⟨q[i], List.mem_range.2 (g.lt i hiq), ?_⟩
    have h1' : r q[i] < p.length := by omega
    simp only [List.getD, List.getElem?_eq_getElem h1', Option.getD_some]
    exact (h.eqv _ _ h1' hi).2 ((g.eqv _ _ h1 hiq).1 h2).less
  have hle : m ≤ m' := by have := cover_len m _ hcov; simpa using this
  refine ⟨hle, ?_⟩
  intro e i j hi hj hE
  subst e
  have hnd := cover_nodup m' _ (by simp) hcov
  have hiq : i < q.length := by rw [g.len]; exact hi
  have hjq : j < q.length := by rw [g.len]; exact hj
  refine (g.eqv i j hiq hjq).1 ?_
  obtain ⟨a1, a2⟩ := hr q[i] (g.lt i hiq)
  obtain ⟨b1, b2⟩ := hr q[j] (g.lt j hjq)
  have a1' : r q[i] < p.length := by omega
  have b1' : r q[j] < p.length := by omega
  have hsame : p.getD (r q[i]) 0 = p.getD (r q[j]) 0 := by
    simp only [List.getD, List.getElem?_eq_getElem a1', List.getElem?_eq_getElem b1', Option.getD_some]
    refine (h.eqv _ _ a1' b1').2 ?_
    exact (((g.eqv _ _ a1 hiq).1 a2).less.trans hE).trans ((g.eqv _ _ b1 hjq).1 b2).less.symm
  rw [List.nodup_iff_pairwise_ne, List.pairwise_iff_getElem] at hnd
  rcases Nat.lt_trichotomy q[i] q[j] with hlt | heq | hlt
  · exact absurd (by simpa using hsame) (hnd q[i] q[j] (by simpa using g.lt i hiq) (by simpa using g.lt j hjq) hlt)
  · exact heq
  · exact absurd (by simpa using hsame.symm) (hnd q[j] q[i] (by simpa using g.lt j hjq) (by simpa using g.lt i hiq) hlt)
/-- as many parts as ahead: these are they -/
theorem Part.stop {t : Aut} {k m : Nat} {p q : List Nat} (h : Part t k p m) (g : Part t (k + 1) q m) (ht : Inside t) : ∀ i j (hi : i < q.length) (hj : j < q.length), q[i] = q[j] ↔ t.Like i j := by
  have hG := (h.grow g).2 rfl
  intro i j hi hj
  rw [g.eqv i j hi hj]
  constructor
  · intro hE
    refine Aut.Like.of (fun i j => i < t.length ∧ j < t.length ∧ t.Eqv (k + 1) i j) ?_ ⟨by rw [← g.len]; exact hi, by rw [← g.len]; exact hj, hE⟩
    rintro i j ⟨h1, h2, h3, h4, h5, h6⟩
    refine ⟨h3, h4, h5, fun m a1 a2 => ?_⟩
    obtain ⟨c1, d1, l1⟩ := ht i _ (List.getElem_mem a1)
    obtain ⟨c2, d2, l2⟩ := ht j _ (List.getElem_mem a2)
    obtain ⟨f1, f2⟩ := h6 m a1 a2
    rw [d1, d2] at f2 ⊢
    simp only [Int.toNat_natCast] at f2 ⊢
    exact ⟨f1, l1, l2, hG _ _ l1 l2 f2⟩
  · intro h; exact h _

theorem Trim.inside {a t : Aut} (T : Trim a t) (ok : Okay a) : Inside t := fun i e he => by
  obtain ⟨j, h1, h2⟩ := ok.tgt i e (T.mem.1 he).1
  exact ⟨j, h1, by rw [T.len]; exact h2⟩
/-- the parts give the least one -/
theorem isLeast_parts {a t : Aut} {k m : Nat} {p q : List Nat} (ok : Okay a) (T : Trim a t) (h0 : a.Live 0) (h : Part t k p m) (g : Part t (k + 1) q m) : IsLeast a (numM t fun i j => q.getD i 0 == q.getD j 0) := by
  refine .inr ⟨h0, t, _, T, fun i j hi hj => ?_, rfl⟩
  have hi' : i < q.length := by rw [g.len, T.len]; exact hi.lt
  have hj' : j < q.length := by rw [g.len, T.len]; exact hj.lt
  rw [beq_iff_eq]
  simp only [List.getD, List.getElem?_eq_getElem hi', List.getElem?_eq_getElem hj', Option.getD_some]
  exact h.stop g (T.inside ok) i j hi' hj'

/-! ## Told apart, pair by pair -/
def Aut.tells (a : Aut) : Option Nat → Int × List Int
  | none => (2, [])
  | some i => (a.kind i, a.alts i)
def Aut.go (a : Aut) (i : Nat) (tok : Int) : Option Nat := (stepE (a.edges i) tok).map fun e => e.tgt.toNat
def Aut.goO (a : Aut) : Option Nat → Int → Option Nat
  | none, _ => none
  | some i, tok => a.go i tok
def Aut.last (a : Aut) (s : Option Nat) : Int × List Int :=
  if (a.tells s).1 = 0 then (if (a.tells (a.goO s (-1))).1 = 0 then (2, []) else a.tells (a.goO s (-1))) else a.tells s
def Aut.after (a : Aut) : Option Nat → Int → Option Nat
  | none, _ => none
  | some i, tok => if a.kind i = 0 then a.go i tok else some i
def decK (k : Int) : Bool := k == 1 || k == 3
def Aut.differ (a : Aut) (s t : Option Nat) : Bool :=
  if decK (a.tells s).1 || decK (a.tells t).1 then !decide (a.tells s = a.tells t) else !decide (a.last s = a.last t)
inductive Apt (a : Aut) (tokens : Int) : Option Nat → Option Nat → Prop
  | now {s t : Option Nat} (h : a.differ s t = true) : Apt a tokens s t
  | step {s t : Option Nat} {tok : Int} (h0 : 0 ≤ tok) (h1 : tok < tokens) (h : Apt a tokens (a.after s tok) (a.after t tok)) : Apt a tokens s t
theorem differ_symm (a : Aut) (s t : Option Nat) : a.differ s t = a.differ t s := by
  unfold Aut.differ
  rw [Bool.or_comm]
  simp only [eq_comm]
theorem Apt.symm {a : Aut} {n : Int} {s t : Option Nat} (h : Apt a n s t) : Apt a n t s := by
  induction h with
  | now h => exact .now (by rw [differ_symm]; exact h)
  | step h0 h1 _ ih => exact .step h0 h1 ih
/-- is it alive? -/
def Aut.LiveO (a : Aut) : Option Nat → Prop
  | none => False
  | some i => a.Live i
theorem decK_dec (a : Aut) (i : Nat) : decK (a.tells (some i)).1 = a.dec i := rfl
theorem dead_last {a : Aut} (ok : Okay a) {s : Option Nat} (h : ¬ a.LiveO s) : decK (a.tells s).1 = false ∧ a.last s = (2, []) := by
  cases s with
  | none => exact ⟨rfl, rfl⟩
  | some i =>
    have hd := dead_dec h
    refine ⟨hd, ?_⟩
    unfold Aut.last
    have hk := ok.kinds i
    have h' : ¬ (a.kind i = 1 ∨ a.kind i = 3) := by rw [← dec_iff, hd]; simp
    by_cases h0 : a.kind i = 0
    · rw [if_pos (by exact h0)]
      cases hg : a.goO (some i) (-1) with
      | none => rfl
      | some j =>
        have hj : ¬ (a.kind j = 1 ∨ a.kind j = 3) := by
          simp only [Aut.goO, Aut.go, Option.map_eq_some_iff] at hg
          obtain ⟨e, he, rfl⟩ := hg
          rw [← dec_iff]
          intro hd'
          exact h (.step (stepE_some he).1 (.dec hd') (.inr hd'))
        have hkj := ok.kinds j
        by_cases h2 : a.kind j = 0
        · rw [if_pos (by exact h2)]
        · have h3 : a.kind j = 2 := by omega
          rw [if_neg (by simp only [Aut.tells]; omega)]
          simp only [Aut.tells, h3, ok.fail2 j h3]
    · have h2 : a.kind i = 2 := by omega
      rw [if_neg (by simp only [Aut.tells]; omega)]
      simp only [Aut.tells, h2, ok.fail2 i h2]
theorem dead_after {a : Aut} {s : Option Nat} (h : ¬ a.LiveO s) {tok : Int} (h0 : 0 ≤ tok) : ¬ a.LiveO (a.after s tok) := by
  cases s with
  | none => exact h
  | some i =>
    unfold Aut.after
    simp only
    split
    · cases hg : a.go i tok with
      | none => exact fun h => h
      | some j =>
        simp only [Aut.go, Option.map_eq_some_iff] at hg
        obtain ⟨e, he, rfl⟩ := hg
        obtain ⟨h1, h2⟩ := stepE_some he
        exact fun hl => h (.step h1 hl (.inl (by omega)))
    · exact h
/-- who is dead is not told from who is -/
theorem Apt.dead {a : Aut} {n : Int} (ok : Okay a) {s t : Option Nat} (h : Apt a n s t) : ¬ a.LiveO s → ¬ a.LiveO t → False := by
  induction h with
  | now h =>
    intro h1 h2
    obtain ⟨a1, a2⟩ := dead_last ok h1
    obtain ⟨b1, b2⟩ := dead_last ok h2
    unfold Aut.differ at h
    rw [a1, b1, a2, b2] at h
    simp at h
  | step h0 h1 _ ih => exact fun g1 g2 => ih (dead_after g1 h0) (dead_after g2 h0)
theorem live_tells {a : Aut} {i : Nat} (h : a.dec i = true) {x : Int × List Int} (hx : decK x.1 = false) : a.tells (some i) ≠ x := by
  intro e
  have h1 := decK_dec a i
  rw [e, hx, h] at h1
  cases h1
theorem go_mem {a : Aut} (ok : Okay a) {i : Nat} {e : Ed} (he : e ∈ a.edges i) : a.go i e.tok = some e.tgt.toNat := by
  unfold Aut.go
  rw [stepE_mem (ok.rise i) he]
  rfl
theorem edge_kind {a : Aut} (ok : Okay a) {i : Nat} {e : Ed} (he : e ∈ a.edges i) : a.kind i = 0 := by
  by_cases h : a.kind i = 0
  · exact h
  · rw [ok.bare i h] at he; cases he
theorem dec_pos {a : Aut} {i : Nat} (h : a.dec i = true) : a.kind i ≠ 0 := by rw [dec_iff] at h; omega
/-- who is alive is told from nothing -/
theorem Apt.live {a : Aut} {n : Int} (ok : Okay a) (hn : ∀ i, ∀ e ∈ a.edges i, e.tok < n) {i : Nat} (h : a.Live i) : Apt a n (some i) none := by
  induction h with
  | @dec i h =>
    refine .now ?_
    unfold Aut.differ
    rw [decK_dec, h, Bool.true_or, if_pos rfl]
    simpa using live_tells (x := a.tells none) h rfl
  | @step i e he hl hd ih =>
    have hk := edge_kind ok he
    have hg := go_mem ok he
    by_cases ht : e.tok = -1
    · have hdt : a.dec e.tgt.toNat = true := by
        rcases hd with hd | hd
        · exact absurd ht hd
        · exact hd
      refine .now ?_
      have h1 : decK (a.tells (some i)).1 = false := by
        rw [decK_dec]
        cases h : a.dec i
        · rfl
        · exact absurd hk (dec_pos h)
      have h2 : a.last (some i) = a.tells (some e.tgt.toNat) := by
        unfold Aut.last
        rw [if_pos (by exact hk), show a.goO (some i) (-1) = some e.tgt.toNat by rw [← ht]; exact hg, if_neg (by exact dec_pos hdt)]
      have h3 : decK (a.tells none).1 = false := rfl
      unfold Aut.differ
      rw [h1, h2, h3]
      simpa using live_tells (x := a.last none) hdt rfl
    · have h0 := ok.toks i e he
      refine .step (tok := e.tok) (by omega) (hn i e he) ?_
      have : a.after (some i) e.tok = some e.tgt.toNat := by
        unfold Aut.after
        simp only [hk, if_true]
        exact hg
      rw [this]
      exact ih
theorem Apt.swap {a : Aut} {n : Int} (ok : Okay a) {s u : Option Nat} (h : Apt a n s u) : ∀ t, ¬ a.LiveO u → ¬ a.LiveO t → Apt a n s t := by
  induction h with
  | @now s u h =>
    intro t hu ht
    obtain ⟨a1, a2⟩ := dead_last ok hu
    obtain ⟨b1, b2⟩ := dead_last ok ht
    refine .now ?_
    unfold Aut.differ at h ⊢
    rw [a1, a2] at h
    rw [b1, b2]
    cases hs : decK (a.tells s).1
    · simpa [hs] using h
    · simp only [Bool.true_or, if_true]
      have : a.tells s ≠ a.tells t := fun e => by rw [e, b1] at hs; cases hs
      simpa using this
  | step h0 h1 _ ih => exact fun t hu ht => .step h0 h1 (ih _ (dead_after hu h0) (dead_after ht h0))
/-- the living are told from the dead -/
theorem Apt.liveDead {a : Aut} {n : Int} (ok : Okay a) (hn : ∀ i, ∀ e ∈ a.edges i, e.tok < n) {i : Nat} (h : a.Live i) {t : Option Nat} (ht : ¬ a.LiveO t) : Apt a n (some i) t :=
  (Apt.live ok hn h).swap ok t (fun h => h) ht
/-- who decides the same stays the same -/
theorem Apt.dec {a : Aut} {n : Int} {s t : Option Nat} (h : Apt a n s t) : ∀ {i j}, s = some i → t = some j → a.dec i = true → a.dec j = true → a.tells (some i) = a.tells (some j) → False := by
  induction h with
  | now h =>
    rintro i j rfl rfl h1 h2 h3
    unfold Aut.differ at h
    rw [decK_dec, h1, h3] at h
    simp at h
  | step h0 h1 _ ih =>
    rintro i j rfl rfl g1 g2 g3
    refine ih ?_ ?_ g1 g2 g3
    · unfold Aut.after; simp only [dec_pos g1, if_false]
    · unfold Aut.after; simp only [dec_pos g2, if_false]

theorem last_not {a : Aut} (ok : Okay a) {i : Nat} (hk : a.kind i = 0) (h : ∀ e, stepE (a.edges i) (-1) = some e → ¬ a.Counts e) : a.last (some i) = (2, []) := by
  unfold Aut.last
  rw [if_pos (by exact hk)]
  cases hs : stepE (a.edges i) (-1) with
  | none =>
    have hg : a.goO (some i) (-1) = none := by simp only [Aut.goO, Aut.go, hs, Option.map_none]
    rw [hg]; rfl
  | some e =>
    have hg : a.goO (some i) (-1) = some e.tgt.toNat := by simp only [Aut.goO, Aut.go, hs, Option.map_some]
    rw [hg]
    have hd : a.dec e.tgt.toNat = false := by
      cases hd : a.dec e.tgt.toNat
      · rfl
      · exact absurd ⟨.dec hd, fun h => dec_pos hd h.2⟩ (h e hs)
    have h' : ¬ (a.kind e.tgt.toNat = 1 ∨ a.kind e.tgt.toNat = 3) := by rw [← dec_iff, hd]; simp
    have hkj := ok.kinds e.tgt.toNat
    by_cases h2 : a.kind e.tgt.toNat = 0
    · rw [if_pos (show (a.tells (some e.tgt.toNat)).1 = 0 from h2)]
    · have h3 : a.kind e.tgt.toNat = 2 := by omega
      rw [if_neg (show ¬ (a.tells (some e.tgt.toNat)).1 = 0 from h2)]
      simp only [Aut.tells, h3, ok.fail2 _ h3]
theorem last_counts {a : Aut} (ok : Okay a) {i : Nat} (hk : a.kind i = 0) {e : Ed} (hs : stepE (a.edges i) (-1) = some e) (hc : a.Counts e) : a.last (some i) = a.tells (some e.tgt.toNat) := by
  have hd := hc.fin ok (stepE_some hs).2
  unfold Aut.last
  have hg : a.goO (some i) (-1) = some e.tgt.toNat := by simp only [Aut.goO, Aut.go, hs, Option.map_some]
  rw [if_pos (by exact hk), hg, if_neg (by exact dec_pos hd)]

/-- who is alike goes on alike -/
theorem like_step {a t : Aut} (ok : Okay a) (T : Trim a t) {i j : Nat} (h : t.Like i j) (tok : Int) :
    (∃ e g, stepE (a.edges i) tok = some e ∧ a.Counts e ∧ stepE (a.edges j) tok = some g ∧ a.Counts g ∧ t.Like e.tgt.toNat g.tgt.toNat) ∨
    ((∀ e, stepE (a.edges i) tok = some e → ¬ a.Counts e) ∧ (∀ e, stepE (a.edges j) tok = some e → ¬ a.Counts e)) := by
  have half : ∀ {i j}, t.Like i j → ∀ e, stepE (a.edges i) tok = some e → a.Counts e → ∃ g, stepE (a.edges j) tok = some g ∧ a.Counts g ∧ t.Like e.tgt.toNat g.tgt.toNat := by
    intro i j h e he hc
    obtain ⟨h1, h2⟩ := stepE_some he
    obtain ⟨m, hm, hme⟩ := List.mem_iff_getElem.1 (T.mem.2 ⟨h1, hc⟩)
    obtain ⟨_, _, s3, s4⟩ := h.step
    obtain ⟨f1, f2⟩ := s4 m hm (by omega)
    have hg := T.mem.1 (List.getElem_mem (show m < (t.edges j).length by omega))
    refine ⟨_, ?_, hg.2, by rw [← hme]; exact f2⟩
    rw [← h2, ← hme, f1]
    exact stepE_mem (ok.rise j) hg.1
  by_cases hx : ∃ e, stepE (a.edges i) tok = some e ∧ a.Counts e
  · obtain ⟨e, h1, h2⟩ := hx
    obtain ⟨g, h3, h4, h5⟩ := half h e h1 h2
    exact .inl ⟨e, g, h1, h2, h3, h4, h5⟩
  · refine .inr ⟨fun e he hc => hx ⟨e, he, hc⟩, fun e he hc => ?_⟩
    obtain ⟨g, h3, h4, _⟩ := half h.symm e he hc
    exact hx ⟨g, h3, h4⟩
theorem Apt.notLike {a t : Aut} {n : Int} (ok : Okay a) (T : Trim a t) {s u : Option Nat} (h : Apt a n s u) : ∀ {i j}, s = some i → u = some j → a.Live i → a.Live j → t.Like i j → False := by
  induction h with
  | now h =>
    rintro i j rfl rfl hi hj hl
    obtain ⟨s1, s2, _, _⟩ := hl.step
    rw [T.kind, T.kind] at s1
    rw [T.alts, T.alts] at s2
    have ht : a.tells (some i) = a.tells (some j) := by simp only [Aut.tells, s1, s2]
    unfold Aut.differ at h
    rw [ht] at h
    cases hd : decK (a.tells (some j)).1
    · rw [hd] at h
      simp only [Bool.or_self, Bool.false_eq_true, if_false, Bool.not_eq_true', decide_eq_false_iff_not] at h
      rw [decK_dec] at hd
      have hkj : a.kind j = 0 := by
        rcases hj.kind ok with h | h
        · rw [hd] at h; cases h
        · exact h
      have hki : a.kind i = 0 := by rw [s1]; exact hkj
      apply h
      rcases like_step ok T hl (-1) with ⟨e, g, h1, h2, h3, h4, h5⟩ | ⟨h1, h2⟩
      · rw [last_counts ok hki h1 h2, last_counts ok hkj h3 h4]
        obtain ⟨r1, r2, _⟩ := h5.step
        rw [T.kind, T.kind] at r1
        rw [T.alts, T.alts] at r2
        simp only [Aut.tells, r1, r2]
      · rw [last_not ok hki h1, last_not ok hkj h2]
    · rw [hd] at h
      simp at h
  | @step s u tok h0 h1 hA ih =>
    rintro i j rfl rfl hi hj hl
    obtain ⟨s1, s2, _, _⟩ := hl.step
    rw [T.kind, T.kind] at s1
    by_cases hk : a.kind i = 0
    · have hkj : a.kind j = 0 := by rw [← s1]; exact hk
      have e1 : a.after (some i) tok = a.go i tok := by unfold Aut.after; simp only [hk, if_true]
      have e2 : a.after (some j) tok = a.go j tok := by unfold Aut.after; simp only [hkj, if_true]
      rcases like_step ok T hl tok with ⟨e, g, h1, h2, h3, h4, h5⟩ | ⟨h1, h2⟩
      · exact ih (by rw [e1]; unfold Aut.go; rw [h1]; rfl) (by rw [e2]; unfold Aut.go; rw [h3]; rfl) h2.1 h4.1 h5
      · have dead : ∀ i, (∀ e, stepE (a.edges i) tok = some e → ¬ a.Counts e) → ¬ a.LiveO (a.go i tok) := by
          intro i h
          unfold Aut.go
          cases hs : stepE (a.edges i) tok with
          | none => exact fun h => h
          | some e => exact fun hl => h e hs ⟨hl, fun h => by have := (stepE_some hs).2; omega⟩
        refine hA.dead ok ?_ ?_
        · rw [e1]; exact dead i h1
        · rw [e2]; exact dead j h2
    · have hkj : ¬ a.kind j = 0 := by rw [← s1]; exact hk
      refine ih ?_ ?_ hi hj hl
      · unfold Aut.after; simp only [hk, if_false]
      · unfold Aut.after; simp only [hkj, if_false]

theorem rise_eq : ∀ {l m : List Int}, l.Pairwise (· < ·) → m.Pairwise (· < ·) → (∀ x, x ∈ l ↔ x ∈ m) → l = m
  | [], [], _, _, _ => rfl
  | [], y :: m, _, _, h => absurd ((h y).2 (.head _)) (by simp)
  | x :: l, [], _, _, h => absurd ((h x).1 (.head _)) (by simp)
  | x :: l, y :: m, hl, hm, h => by
    rw [List.pairwise_cons] at hl hm
    have e : x = y := by
      rcases List.mem_cons.1 ((h x).1 (.head _)) with e | hx
      · exact e
      · rcases List.mem_cons.1 ((h y).2 (.head _)) with e | hy
        · exact e.symm
        · have := hm.1 x hx; have := hl.1 y hy; omega
    subst e
    congr 1
    refine rise_eq hl.2 hm.2 fun z => ⟨fun hz => ?_, fun hz => ?_⟩
    · rcases List.mem_cons.1 ((h z).1 (.tail _ hz)) with e | h'
      · have := hl.1 z hz; omega
      · exact h'
    · rcases List.mem_cons.1 ((h z).2 (.tail _ hz)) with e | h'
      · have := hm.1 z hz; omega
      · exact h'
theorem Trim.rise {a t : Aut} (T : Trim a t) (ok : Okay a) (i : Nat) : ((t.edges i).map (·.tok)).Pairwise (· < ·) := by
  obtain ⟨p, _, he⟩ := T.edges i
  rw [he]
  have := ok.rise i
  rw [List.pairwise_map] at this ⊢
  exact this.filter _
theorem like_of_notApt {a t : Aut} {n : Int} (ok : Okay a) (hn : ∀ i, ∀ e ∈ a.edges i, e.tok < n) (T : Trim a t) {i j : Nat} (hi : a.Live i) (hj : a.Live j) (h : ¬ Apt a n (some i) (some j)) : t.Like i j := by
  -- one edge of one of both has its like in the other one
  have half : ∀ {i j}, a.Live i → a.Live j → ¬ Apt a n (some i) (some j) → a.kind i = 0 → a.kind j = 0 → ∀ e ∈ t.edges i, ∃ g ∈ t.edges j, g.tok = e.tok ∧ ¬ Apt a n (some e.tgt.toNat) (some g.tgt.toNat) := by
    intro i j hi hj h hki hkj e he
    obtain ⟨h1, h2⟩ := T.mem.1 he
    by_cases ht : e.tok = -1
    · have hs : stepE (a.edges i) (-1) = some e := by rw [← ht]; exact stepE_mem (ok.rise i) h1
      have hde := h2.fin ok ht
      have hdi : a.dec i = false := by cases hd : a.dec i; rfl; exact absurd hki (dec_pos hd)
      have hdj : a.dec j = false := by cases hd : a.dec j; rfl; exact absurd hkj (dec_pos hd)
      have hlast : a.last (some i) = a.last (some j) := by
        by_cases hq : a.last (some i) = a.last (some j)
        · exact hq
        · refine absurd (.now ?_) h
          unfold Aut.differ
          rw [decK_dec, decK_dec, hdi, hdj]
          simpa using hq
      rw [last_counts ok hki hs h2] at hlast
      by_cases hx : ∃ g, stepE (a.edges j) (-1) = some g ∧ a.Counts g
      · obtain ⟨g, g1, g2⟩ := hx
        rw [last_counts ok hkj g1 g2] at hlast
        obtain ⟨g3, g4⟩ := stepE_some g1
        exact ⟨g, T.mem.2 ⟨g3, g2⟩, by omega, fun hA => hA.dec rfl rfl hde (g2.fin ok g4) hlast⟩
      · rw [last_not ok hkj fun g hg hc => hx ⟨g, hg, hc⟩] at hlast
        exact absurd hlast (live_tells hde rfl)
    · have h0 : 0 ≤ e.tok := by have := ok.toks i e h1; omega
      have hA : ¬ Apt a n (a.after (some i) e.tok) (a.after (some j) e.tok) := fun hA => h (.step h0 (hn i e h1) hA)
      have e1 : a.after (some i) e.tok = some e.tgt.toNat := by
        unfold Aut.after
        simp only [hki, if_true]
        exact go_mem ok h1
      have e2 : a.after (some j) e.tok = a.go j e.tok := by unfold Aut.after; simp only [hkj, if_true]
      rw [e1, e2] at hA
      unfold Aut.go at hA
      cases hs : stepE (a.edges j) e.tok with
      | none => rw [hs] at hA; exact absurd (Apt.live ok hn h2.1) hA
      | some g =>
        rw [hs] at hA
        obtain ⟨g3, g4⟩ := stepE_some hs
        have hg : a.Live g.tgt.toNat := by
          by_cases hg : a.Live g.tgt.toNat
          · exact hg
          · exact absurd (Apt.liveDead ok hn h2.1 (t := some g.tgt.toNat) hg) hA
        exact ⟨g, T.mem.2 ⟨g3, hg, fun h => by omega⟩, g4, hA⟩
  refine Aut.Like.of (fun i j => a.Live i ∧ a.Live j ∧ ¬ Apt a n (some i) (some j)) ?_ ⟨hi, hj, h⟩
  rintro i j ⟨hi, hj, h⟩
  have hdf : a.differ (some i) (some j) = false := by
    cases hd : a.differ (some i) (some j)
    · rfl
    · exact absurd (.now hd) h
  rw [T.kind, T.kind, T.alts, T.alts]
  by_cases hd : a.dec i = true ∨ a.dec j = true
  · have hte : a.tells (some i) = a.tells (some j) := by
      unfold Aut.differ at hdf
      rw [decK_dec, decK_dec, if_pos (by simpa using hd)] at hdf
      simpa using hdf
    have k1 : a.kind i = a.kind j := congrArg Prod.fst hte
    have k2 : a.alts i = a.alts j := congrArg Prod.snd hte
    have nk : a.kind i ≠ 0 := by
      rcases hd with hd | hd
      · exact dec_pos hd
      · rw [k1]; exact dec_pos hd
    have none : ∀ i, a.kind i ≠ 0 → t.edges i = [] := by
      intro i hk
      cases hx : t.edges i with
      | nil => rfl
      | cons e r =>
        have := (T.mem (i := i) (e := e)).1 (by rw [hx]; exact .head _)
        exact absurd (edge_kind ok this.1) hk
    have n1 := none i nk
    have n2 := none j (by rw [← k1]; exact nk)
    exact ⟨k1, k2, by rw [n1, n2], fun m h1 => absurd h1 (by rw [n1]; simp)⟩
  · have hdi : a.dec i = false := by cases hx : a.dec i; rfl; exact absurd (.inl hx) hd
    have hdj : a.dec j = false := by cases hx : a.dec j; rfl; exact absurd (.inr hx) hd
    have hki : a.kind i = 0 := by
      rcases hi.kind ok with h | h
      · rw [hdi] at h; cases h
      · exact h
    have hkj : a.kind j = 0 := by
      rcases hj.kind ok with h | h
      · rw [hdj] at h; cases h
      · exact h
    have hs : ¬ Apt a n (some j) (some i) := fun hA => h hA.symm
    have hm : (t.edges i).map (·.tok) = (t.edges j).map (·.tok) := by
      refine rise_eq (T.rise ok i) (T.rise ok j) fun z => ⟨fun hz => ?_, fun hz => ?_⟩
      · obtain ⟨e, he, rfl⟩ := List.mem_map.1 hz
        obtain ⟨g, hg, h1, _⟩ := half hi hj h hki hkj e he
        rw [← h1]; exact List.mem_map_of_mem hg
      · obtain ⟨e, he, rfl⟩ := List.mem_map.1 hz
        obtain ⟨g, hg, h1, _⟩ := half hj hi hs hkj hki e he
        rw [← h1]; exact List.mem_map_of_mem hg
    have hl : (t.edges i).length = (t.edges j).length := by have := congrArg List.length hm; simpa using this
    refine ⟨by rw [hki, hkj], by rw [ok.open0 i hki, ok.open0 j hkj], hl, fun m h1 h2 => ?_⟩
    have e1 : ((t.edges i)[m]).tok = ((t.edges j)[m]).tok := by
      have e : ((t.edges i).map (·.tok))[m]? = ((t.edges j).map (·.tok))[m]? := by rw [hm]
      simpa [h1, h2] using e
    refine ⟨e1, (T.mem.1 (List.getElem_mem h1)).2.1, (T.mem.1 (List.getElem_mem h2)).2.1, ?_⟩
    obtain ⟨g, hg, g1, g2⟩ := half hi hj h hki hkj _ (List.getElem_mem h1)
    have : g = (t.edges j)[m] := rise_inj (T.rise ok j) hg (List.getElem_mem h2) (by rw [g1]; exact e1)
    rw [← this]
    exact g2
/-- told apart: not alike -/
theorem apt_iff {a t : Aut} {n : Int} (ok : Okay a) (hn : ∀ i, ∀ e ∈ a.edges i, e.tok < n) (T : Trim a t) {i j : Nat} (hi : a.Live i) (hj : a.Live j) : Apt a n (some i) (some j) ↔ ¬ t.Like i j :=
  ⟨fun h hl => h.notLike ok T rfl rfl hi hj hl, fun h => by
    by_cases hA : Apt a n (some i) (some j)
    · exact hA
    · exact absurd (like_of_notApt ok hn T hi hj hA) h⟩
/-- told from nothing: alive -/
theorem apt_none {a : Aut} {n : Int} (ok : Okay a) (hn : ∀ i, ∀ e ∈ a.edges i, e.tok < n) {i : Nat} : Apt a n (some i) none ↔ a.Live i :=
  ⟨fun h => by
    by_cases hl : a.Live i
    · exact hl
    · exact (h.dead ok hl fun h => h).elim, Apt.live ok hn⟩

/-! ## The stage's theorem, in plain Lean -/
/-- what is said of a least one -/
structure Best (a x : Aut) : Prop where
  most : x.length ≤ a.length
  may : ∀ n m, a.mayB n m = true → x.mayB n m = true
  alike : ∀ w, Alike (runR a 0 0 w) (runR x 0 0 w)
  own : IsLeast x x
  bfs : bfsL x 0 1 = some (x.length : Int)
theorem IsLeast.best {a x : Aut} (h : IsLeast a x) (ok : Okay a) (h1 : 1 ≤ a.length) (hn : a.length ≤ 4096) : Best a x := by
  have h' := h
  rcases h with ⟨h0, rfl⟩ | ⟨h0, t, same, T, hs, rfl⟩
  · refine ⟨h1, fun n m _ => by simp [Aut.mayB, Stt.fineB, riseB], fun w => ?_, .inl ⟨?_, rfl⟩, by simp [bfsL, nextE]⟩
    · obtain ⟨m, hm⟩ := runR_dead ok w 0 0 h0
      have e : runR a 0 0 w = runR a ((0 : Nat) : Int) 0 w := rfl
      rw [e, hm]
      have e2 : runR [⟨2, [], []⟩] 0 0 w = (2, [], 0) := by cases w <;> rfl
      rw [e2]
      exact alike_fail
    · intro hl
      cases hl with
      | dec h => simp [Aut.dec, Aut.kind] at h
      | step he _ _ => simp [Aut.edges] at he
  · obtain ⟨come, L⟩ := lst_of T hs h0 hn
    exact ⟨L.len_le, fun n m hm => L.may ok hm, fun w => L.alike ok w 0 0 0 L.head', L.own ok h', L.bfs⟩

/-! ## The doubled automaton -/
/-- b is a, each state twice, and a dead one behind -/
structure Twice (a b : Aut) : Prop where
  kind : ∀ j, j < 2 * a.length → b.kind j = a.kind (j % a.length)
  alts : ∀ j, j < 2 * a.length → b.alts j = a.alts (j % a.length)
  edges : ∀ j, j < 2 * a.length → ∃ l more, b.edges j = l ++ more ∧ l.length = (a.edges (j % a.length)).length ∧
    (∀ m (h1 : m < l.length) (h2 : m < (a.edges (j % a.length)).length), l[m].tok = ((a.edges (j % a.length))[m]).tok ∧ (l[m].tgt = ((a.edges (j % a.length))[m]).tgt ∨ l[m].tgt = ((a.edges (j % a.length))[m]).tgt + a.length)) ∧
    ∀ e ∈ more, e.tgt = 2 * (a.length : Int) ∧ e.tok ≠ -1
  dead : b.kind (2 * a.length) = 0 ∧ ∀ e ∈ b.edges (2 * a.length), e.tok = -1 ∧ e.tgt = 2 * (a.length : Int)
namespace Twice
variable {a b : Aut}
theorem noLive (D : Twice a b) : ¬ b.Live (2 * a.length) := by
  intro h
  generalize hj : 2 * a.length = j at h
  induction h with
  | dec h => subst hj; exact dec_pos h D.dead.1
  | step he hl hd _ =>
    subst hj
    obtain ⟨e1, e2⟩ := D.dead.2 _ he
    rcases hd with hd | hd
    · exact hd e1
    · rw [e2] at hd
      rw [show (2 * (a.length : Int)).toNat = 2 * a.length by omega] at hd
      exact dec_pos hd D.dead.1
theorem tgt (ok : Okay a) {j m : Nat} (h2 : m < (a.edges (j % a.length)).length) {e : Ed} (he : e.tgt = ((a.edges (j % a.length))[m]).tgt ∨ e.tgt = ((a.edges (j % a.length))[m]).tgt + a.length) :
    e.tgt.toNat < 2 * a.length ∧ e.tgt.toNat % a.length = ((a.edges (j % a.length))[m]).tgt.toNat := by
  obtain ⟨c, hc, hl⟩ := ok.tgt _ _ (List.getElem_mem h2)
  rw [hc] at he ⊢
  rcases he with he | he
  · rw [he]
    simp only [Int.toNat_natCast]
    exact ⟨by omega, Nat.mod_eq_of_lt hl⟩
  · rw [he, show ((c : Int) + (a.length : Int)).toNat = c + a.length by omega]
    simp only [Int.toNat_natCast]
    exact ⟨by omega, by rw [Nat.add_mod_right, Nat.mod_eq_of_lt hl]⟩
theorem dec (D : Twice a b) {j : Nat} (hj : j < 2 * a.length) : b.dec j = a.dec (j % a.length) := by unfold Aut.dec; rw [D.kind j hj]
theorem up (D : Twice a b) (ok : Okay a) {i : Nat} (h : a.Live i) : ∀ j, j < 2 * a.length → j % a.length = i → b.Live j := by
  induction h with
  | dec h =>
    rintro j hj rfl
    exact .dec (by rw [D.dec hj]; exact h)
  | step he hl hd ih =>
    rintro j hj rfl
    obtain ⟨l, more, e1, e2, e3, e4⟩ := D.edges j hj
    obtain ⟨m, hm, rfl⟩ := List.mem_iff_getElem.1 he
    obtain ⟨f1, f2⟩ := e3 m (by omega) hm
    obtain ⟨t1, t2⟩ := tgt ok hm f2
    refine .step (e := l[m]) (by rw [e1]; exact List.mem_append_left _ (List.getElem_mem _)) (ih _ t1 t2) ?_
    rw [f1, D.dec t1, t2]
    exact hd
theorem down (D : Twice a b) (ok : Okay a) {j : Nat} (h : b.Live j) : j < 2 * a.length → a.Live (j % a.length) := by
  induction h with
  | dec h =>
    intro hj
    exact .dec (by rw [← D.dec hj]; exact h)
  | @step j e he hl hd ih =>
    intro hj
    obtain ⟨l, more, e1, e2, e3, e4⟩ := D.edges _ hj
    rw [e1] at he
    rcases List.mem_append.1 he with he | he
    · obtain ⟨m, hm, rfl⟩ := List.mem_iff_getElem.1 he
      have hm2 : m < (a.edges (j % a.length)).length := by rw [← e2]; exact hm
      obtain ⟨f1, f2⟩ := e3 m hm hm2
      obtain ⟨t1, t2⟩ := tgt ok hm2 f2
      have h1 := ih t1
      rw [t2] at h1
      refine .step (List.getElem_mem hm2) h1 ?_
      rw [← f1, ← t2, ← D.dec t1]
      exact hd
    · rw [(e4 _ he).1, show (2 * (a.length : Int)).toNat = 2 * a.length by omega] at hl
      exact absurd hl D.noLive
/-- doubled, the least one is the same -/
theorem least {x y : Aut} (D : Twice a b) (ok : Okay a) (h1 : 1 ≤ a.length) (hx : IsLeast a x) (hy : IsLeast b y) : x = y := by
  refine hx.along hy (fun i j => a.Live i ∧ j < 2 * a.length ∧ j % a.length = i) (fun h => ⟨h, by omega, by simp⟩) ⟨fun h => D.up ok h 0 (by omega) (by simp), fun h => ?_⟩
    (fun i j ⟨h, h2, h3⟩ => ⟨h, D.up ok h j h2 h3⟩) fun t u T U => ?_
  · have := D.down ok h (by omega)
    simpa using this
  -- the edges that count
  have key : ∀ j, j < 2 * a.length → ∀ (l : List Ed) (k : List Ed), l.length = k.length → (∀ m (h1 : m < l.length) (h2 : m < k.length), l[m].tok = k[m].tok ∧ l[m].tgt.toNat < 2 * a.length ∧ l[m].tgt.toNat % a.length = k[m].tgt.toNat) →
      ∀ (p q : Ed → Bool), (∀ e ∈ k, p e = true ↔ a.Counts e) → (∀ e ∈ l, q e = true ↔ b.Counts e) →
      (k.filter p).length = (l.filter q).length ∧ ∀ m (h1 : m < (k.filter p).length) (h2 : m < (l.filter q).length), ((k.filter p)[m]).tok = ((l.filter q)[m]).tok ∧
        a.Live ((k.filter p)[m]).tgt.toNat ∧ ((l.filter q)[m]).tgt.toNat < 2 * a.length ∧ ((l.filter q)[m]).tgt.toNat % a.length = ((k.filter p)[m]).tgt.toNat := by
    intro j _ l
    induction l with
    | nil =>
      intro k hl _ p q _ _
      cases k with
      | nil => exact ⟨rfl, fun m h => absurd h (by simp)⟩
      | cons _ _ => simp at hl
    | cons e l ih =>
      intro k hl hm p q hp hq
      cases k with
      | nil => simp at hl
      | cons g k =>
        obtain ⟨f1, f2, f3⟩ := hm 0 (by simp) (by simp)
        simp only [List.getElem_cons_zero] at f1 f2 f3
        have hpe := hp g (.head _)
        have hqe := hq e (.head _)
        have hc : a.Counts g ↔ b.Counts e := by
          unfold Aut.Counts
          rw [f1, D.kind _ f2, f3]
          refine and_congr_left fun _ => ⟨fun h => D.up ok h _ f2 f3, fun h => ?_⟩
          have := D.down ok h f2
          rwa [f3] at this
        obtain ⟨i1, i2⟩ := ih k (by simpa using hl) (fun m a1 a2 => by have := hm (m + 1) (by simpa using a1) (by simpa using a2); simpa using this) p q (fun x hx => hp x (.tail _ hx)) fun x hx => hq x (.tail _ hx)
        have hpq : p g = q e := by rw [Bool.eq_iff_iff, hpe, hqe, hc]
        cases hb : q e
        · have hb' : p g = false := by rw [hpq]; exact hb
          simp only [List.filter_cons, hb, hb', Bool.false_eq_true, if_false]
          exact ⟨i1, i2⟩
        · have hb' : p g = true := by rw [hpq]; exact hb
          simp only [List.filter_cons, hb, hb', if_true]
          refine ⟨by simpa using i1, fun m a1 a2 => ?_⟩
          cases m with
          | zero =>
            simp only [List.getElem_cons_zero]
            exact ⟨f1.symm, (hpe.1 hb').1, f2, f3⟩
          | succ m =>
            simp only [List.getElem_cons_succ]
            exact i2 m (by simpa using a1) (by simpa using a2)
  have edges : ∀ i j, a.Live i → j < 2 * a.length → j % a.length = i → (t.edges i).length = (u.edges j).length ∧ ∀ m (h1 : m < (t.edges i).length) (h2 : m < (u.edges j).length), ((t.edges i)[m]).tok = ((u.edges j)[m]).tok ∧
      a.Live ((t.edges i)[m]).tgt.toNat ∧ ((u.edges j)[m]).tgt.toNat < 2 * a.length ∧ ((u.edges j)[m]).tgt.toNat % a.length = ((t.edges i)[m]).tgt.toNat := by
    rintro i j _ hj rfl
    obtain ⟨p, hp, he⟩ := T.edges (j % a.length)
    obtain ⟨q, hq, hf⟩ := U.edges j
    obtain ⟨l, more, e1, e2, e3, e4⟩ := D.edges j hj
    have hmore : more.filter q = [] := by
      rw [List.filter_eq_nil_iff]
      intro e hm hqe
      have := (hq e (by rw [e1]; exact List.mem_append_right _ hm)).1 hqe
      have h2 := this.1
      rw [(e4 e hm).1, show (2 * (a.length : Int)).toNat = 2 * a.length by omega] at h2
      exact D.noLive h2
    have hu : u.edges j = l.filter q := by rw [hf, e1, List.filter_append, hmore, List.append_nil]
    have := key j hj l (a.edges (j % a.length)) e2 (fun m a1 a2 => ⟨(e3 m a1 a2).1, tgt ok a2 (e3 m a1 a2).2⟩) p q hp fun e hm => hq e (by rw [e1]; exact List.mem_append_left _ hm)
    simp only [he, hu]
    exact this
  refine ⟨?_, ?_, ?_, ?_⟩
  · rintro i j ⟨_, h2, rfl⟩; rw [T.kind, U.kind, D.kind j h2]
  · rintro i j ⟨_, h2, rfl⟩; rw [T.alts, U.alts, D.alts j h2]
  · rintro i j ⟨h1, h2, h3⟩; exact (edges i j h1 h2 h3).1
  · rintro i j ⟨h1, h2, h3⟩ m a1 a2; exact (edges i j h1 h2 h3).2 m a1 a2
end Twice
end Go.Proofs.YtogmlonhciiomaaDoor
