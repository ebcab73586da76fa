/- What a piece of a net is: each state that it makes has edges, all of them within; its end is reached from its beginning. No program in sight. -/
import Derived.Test.YtiiffcmojkdlaaaGreatDoorQ23
import Derived.Test.YtiiffcmojkdlaaaGreatDoorQ8
namespace Go.Proofs.YtiiffcmojkdlaaaGreatDoor
theorem nf_of_le {k : Nat} {m m' : Mk} (h : Mk.Le k m m') (hf : m'.full = false) : m.full = false := by
  cases hm : m.full with
  | false => rfl
  | true => rw [h.full hm] at hf; cases hf
theorem Nd.piece_nf (P : Nums) (n : Nd) (a b : Nat) (m : Mk) (h : (n.piece P a b m).full = false) : m.full = false := nf_of_le (Nd.piece_le P n a b m) h
theorem Nd.piece1_nf (P : Nums) (l : List Nd) (a b : Nat) (m : Mk) (h : (Nd.piece1 P l a b m).full = false) : m.full = false := nf_of_le (Nd.piece1_le P l a b m) h
theorem Nd.pieces_nf (P : Nums) (l : List Nd) (a b : Nat) (m : Mk) (h : (Nd.pieces P l a b m).full = false) : m.full = false := nf_of_le (Nd.pieces_le P l a b m) h
theorem Nd.palts_nf (P : Nums) (l : List Nd) (e d : Nat) (m : Mk) (h : (Nd.palts P l e d m).full = false) : m.full = false := nf_of_le (Nd.palts_le P l e d m) h
/- DEV -/
def Mk.len (m : Mk) : Nat := m.N.states.length
def Mk.st (m : Mk) (q : Nat) : Sta := (m.N.states[q]?).getD ⟨0, [], []⟩
theorem st_past (m : Mk) (q : Nat) (h : m.len ≤ q) : m.st q = ⟨0, [], []⟩ := by
  unfold Mk.st
  rw [List.getElem?_eq_none h]
  rfl
theorem state_facts (m : Mk) (h : m.state.2.full = false) : m.full = false ∧ m.state.1 = m.len ∧ m.state.2.len = m.len + 1 ∧ (∀ q, m.state.2.st q = if q = m.len then ⟨m.rule, [], []⟩ else m.st q) ∧ m.state.2.rule = m.rule ∧ m.state.2.waits = m.waits ∧ m.state.2.many = m.many := by
  unfold Mk.state at *
  split at h
  · cases h
  · next hc =>
    rw [if_neg hc]
    simp only [Bool.or_eq_true, not_or, Bool.not_eq_true] at hc
    refine ⟨hc.1, rfl, by simp [Mk.len], fun q => ?_, rfl, rfl, rfl⟩
    unfold Mk.st Mk.len
    by_cases hq : q = m.N.states.length
    · subst hq; simp
    · rw [if_neg hq]
      by_cases hl : q < m.N.states.length
      · rw [List.getElem?_append_left hl]
      · rw [List.getElem?_eq_none (by simp; omega), List.getElem?_eq_none (by omega)]
theorem edge_facts (m : Mk) (a : Nat) (k w : Int) (b : Nat) (h : m.full = false) (ha : a < m.len) : (m.edge a k w b).full = false ∧ (m.edge a k w b).len = m.len ∧ (∀ q, (m.edge a k w b).st q = if q = a then (m.st a).addEdge ⟨k, w, b⟩ else m.st q) ∧ (m.edge a k w b).rule = m.rule ∧ (m.edge a k w b).waits = m.waits ∧ (m.edge a k w b).many = m.many := by
  unfold Mk.edge
  rw [h]
  refine ⟨rfl, by simp [Mk.len], fun q => ?_, rfl, rfl, rfl⟩
  unfold Mk.st
  unfold Mk.len at ha
  by_cases hq : q = a
  · subst hq
    simp [ha]
  · rw [if_neg hq]
    simp [Ne.symm hq]
theorem alt_facts (m : Mk) (d x e : Nat) (h : m.full = false) (hd : d < m.len) : (m.alt d x e).full = false ∧ (m.alt d x e).len = m.len ∧ (∀ q, (m.alt d x e).st q = if q = d then ((m.st d).addEdge ⟨0, 0, x⟩).addEnd e else m.st q) ∧ (m.alt d x e).rule = m.rule ∧ (m.alt d x e).waits = m.waits ∧ (m.alt d x e).many = m.many := by
  obtain ⟨h1, h2, h3, h4, h5, h6⟩ := edge_facts m d 0 0 x h hd
  unfold Mk.alt Mk.empty
  rw [h1]
  refine ⟨h1, by simpa [Mk.len] using h2, fun q => ?_, h4, h5, h6⟩
  unfold Mk.st
  unfold Mk.len at hd h2
  by_cases hq : q = d
  · subst hq
    have := h3 q
    rw [if_pos rfl] at this
    unfold Mk.st at this
    rw [List.getElem?_eq_getElem (by omega)] at this
    simp only [Option.getD_some] at this
    simp [h2, hd, this]
  · have := h3 q
    rw [if_neg hq] at this
    rw [if_neg hq]
    unfold Mk.st at this
    simp only [Bool.false_eq_true, if_false, List.getElem?_modify, Ne.symm hq]
    simpa using this

def EOk (NR many : Nat) (e : Edg) : Prop := (e.kind = 0 ∧ e.what = 0) ∨ (e.kind = 1 ∧ 0 ≤ e.what) ∨ (e.kind = 2 ∧ 0 ≤ e.what ∧ e.what < NR) ∨ (e.kind = 3 ∧ 0 ≤ e.what ∧ e.what < many)
theorem EOk.mono {NR k j : Nat} {e : Edg} (h : EOk NR k e) (hk : k ≤ j) : EOk NR j e := by
  rcases h with h | h | h | ⟨h1, h2, h3⟩
  · exact .inl h
  · exact .inr (.inl h)
  · exact .inr (.inr (.inl h))
  · exact .inr (.inr (.inr ⟨h1, h2, by omega⟩))
/-- a state among the new ones, or the end -/
def Tg (lo hi b : Nat) (t : Int) : Prop := ((lo : Int) ≤ t ∧ t < hi) ∨ t = b
theorem Tg.mono {lo hi hi' b : Nat} {t : Int} (h : Tg lo hi b t) (hh : hi ≤ hi') : Tg lo hi' b t := h.imp (fun h => ⟨h.1, by omega⟩) id
def Bal (s : Sta) : Prop := s.ends.length = s.edges.length ∧ ∀ e ∈ s.edges, e.kind = 0
structure PartOk (NR many : Nat) (R : Int) (T : Int → Prop) (s : Sta) : Prop where
  rule : s.rule = R
  edges : ∀ e ∈ s.edges, EOk NR many e ∧ T e.to
  bal : s.ends = [] ∨ Bal s
  ends : ∀ i ∈ s.ends, T i
theorem PartOk.mono {NR k j : Nat} {R : Int} {T T' : Int → Prop} {s : Sta} (h : PartOk NR k R T s) (hk : k ≤ j) (hT : ∀ t, T t → T' t) : PartOk NR j R T' s :=
  ⟨h.rule, fun e he => ⟨(h.edges e he).1.mono hk, hT _ (h.edges e he).2⟩, h.bal, fun i hi => hT _ (h.ends i hi)⟩
def DoneOk (s : Sta) : Prop := s.edges ≠ [] ∧ (s.ends = [] ∨ 2 ≤ s.ends.length)

/-- m is m0, made on between a and b; those of I are not whole yet -/
structure Inv (NR : Nat) (Fit : Nd → Prop) (m0 : Mk) (a b : Nat) (I : List Nat) (m : Mk) : Prop where
  nf : m.full = false
  alt : a < m0.len
  le : m0.len ≤ m.len
  rule : m.rule = m0.rule
  old : ∀ q, q < m0.len → q ≠ a → m.st q = m0.st q
  atA : ∃ es fs, m.st a = ⟨(m0.st a).rule, (m0.st a).edges ++ es, (m0.st a).ends ++ fs⟩ ∧ (∀ e ∈ es, EOk NR m.many e ∧ Tg m0.len m.len b e.to) ∧ ∀ i ∈ fs, Tg m0.len m.len b i
  part : ∀ q, m0.len ≤ q → q < m.len → PartOk NR m.many m0.rule (Tg m0.len m.len b) (m.st q)
  done : ∀ q, m0.len ≤ q → q < m.len → q ∉ I → DoneOk (m.st q)
  wts : ∃ ws : List (Int × Nd), m.waits = m0.waits ++ ws ∧ m.many = m0.many + ws.length ∧ ∀ x ∈ ws, x.1 = m0.rule ∧ Fit x.2
section
variable {NR : Nat} {Fit : Nd → Prop} {m0 m m' : Mk} {a b : Nat} {I : List Nat}
theorem Inv.start (h : m0.full = false) (ha : a < m0.len) : Inv NR Fit m0 a b [] m0 :=
  ⟨h, ha, Nat.le_refl _, rfl, fun _ _ _ => rfl, ⟨[], [], by simp, by simp, by simp⟩, fun q h1 h2 => by omega, fun q h1 h2 => by omega, ⟨[], by simp, by simp, by simp⟩⟩
theorem Inv.many (h : Inv NR Fit m0 a b I m) : m0.many ≤ m.many := by
  obtain ⟨ws, -, h2, -⟩ := h.wts
  omega
theorem Inv.state (h : Inv NR Fit m0 a b I m) (hf : m.state.2.full = false) : Inv NR Fit m0 a b (m.len :: I) m.state.2 ∧ m.state.1 = m.len ∧ m.state.2.st m.len = ⟨m0.rule, [], []⟩ ∧ (∀ q, q ≠ m.len → m.state.2.st q = m.st q) ∧ m.state.2.len = m.len + 1 := by
  obtain ⟨-, f1, f2, f3, f4, f5, f6⟩ := state_facts m hf
  have hle := h.le
  have halt := h.alt
  refine ⟨⟨hf, h.alt, by omega, f4.trans h.rule, fun q h1 h2 => ?_, ?_, fun q h1 h2 => ?_, fun q h1 h2 h3 => ?_, ?_⟩, f1, ?_, fun q hq => by rw [f3, if_neg hq], f2⟩
  · rw [f3, if_neg (by omega)]; exact h.old q h1 h2
  · obtain ⟨es, fs, e1, e2, e3⟩ := h.atA
    refine ⟨es, fs, by rw [f3, if_neg (by omega)]; exact e1, fun e he => ?_, fun i hi => (e3 i hi).mono (by omega)⟩
    rw [f6]
    exact ⟨(e2 e he).1, (e2 e he).2.mono (by omega)⟩
  · rw [f3, f6]
    split
    · exact ⟨h.rule, by simp, .inl rfl, by simp⟩
    · exact (h.part q h1 (by omega)).mono (Nat.le_refl _) fun t ht => ht.mono (by omega)
  · rw [f3]
    simp only [List.mem_cons, not_or] at h3
    rw [if_neg h3.1]
    exact h.done q h1 (by omega) h3.2
  · obtain ⟨ws, w1, w2, w3⟩ := h.wts
    exact ⟨ws, f5.trans w1, f6.trans w2, w3⟩
  · rw [f3, if_pos rfl, h.rule]
theorem Inv.edgeA (h : Inv NR Fit m0 a b I m) {k w : Int} {t : Nat} (he : EOk NR m.many ⟨k, w, t⟩) (ht : Tg m0.len m.len b t) : Inv NR Fit m0 a b I (m.edge a k w t) := by
  have hle := h.le
  have halt := h.alt
  obtain ⟨f0, f2, f3, f4, f5, f6⟩ := edge_facts m a k w t h.nf (by omega)
  refine ⟨f0, h.alt, by omega, f4.trans h.rule, fun q h1 h2 => by rw [f3, if_neg h2]; exact h.old q h1 h2, ?_, fun q h1 h2 => ?_, fun q h1 h2 h3 => ?_, ?_⟩
  · obtain ⟨es, fs, e1, e2, e3⟩ := h.atA
    refine ⟨es ++ [⟨k, w, t⟩], fs, by rw [f3, if_pos rfl, e1]; simp [Sta.addEdge], fun e hm => ?_, fun i hi => by rw [f2]; exact e3 i hi⟩
    rw [f2, f6]
    rcases List.mem_append.1 hm with hm | hm
    · exact e2 e hm
    · rw [List.mem_singleton.1 hm]; exact ⟨he, ht⟩
  · rw [f3, if_neg (by omega), f2, f6]; exact h.part q h1 (by omega)
  · rw [f3, if_neg (by omega)]; exact h.done q h1 (by omega) h3
  · obtain ⟨ws, w1, w2, w3⟩ := h.wts
    exact ⟨ws, f5.trans w1, f6.trans w2, w3⟩
theorem Inv.edgeN (h : Inv NR Fit m0 a b I m) {k w : Int} {t x : Nat} (he : EOk NR m.many ⟨k, w, t⟩) (ht : Tg m0.len m.len b t) (hx : m0.len ≤ x) (hx2 : x < m.len) (hends : (m.st x).ends = []) : Inv NR Fit m0 a b I (m.edge x k w t) := by
  have hle := h.le
  have halt := h.alt
  obtain ⟨f0, f2, f3, f4, f5, f6⟩ := edge_facts m x k w t h.nf hx2
  refine ⟨f0, h.alt, by omega, f4.trans h.rule, fun q h1 h2 => by rw [f3, if_neg (by omega)]; exact h.old q h1 h2, ?_, fun q h1 h2 => ?_, fun q h1 h2 h3 => ?_, ?_⟩
  · rw [f3, if_neg (by omega), f2, f6]; exact h.atA
  · rw [f3, f2, f6]
    split
    · have hp := h.part x hx hx2
      refine ⟨hp.rule, fun e hm => ?_, .inl hends, hp.ends⟩
      rcases List.mem_append.1 hm with hm | hm
      · exact hp.edges e hm
      · rw [List.mem_singleton.1 hm]; exact ⟨he, ht⟩
    · exact h.part q h1 (by omega)
  · rw [f3]
    split
    · exact ⟨by simp [Sta.addEdge], .inl hends⟩
    · exact h.done q h1 (by omega) h3
  · obtain ⟨ws, w1, w2, w3⟩ := h.wts
    exact ⟨ws, f5.trans w1, f6.trans w2, w3⟩
theorem bal_add {s : Sta} (h : Bal s) (x e : Nat) : Bal ((s.addEdge ⟨0, 0, x⟩).addEnd e) := by
  refine ⟨by simp [Sta.addEdge, Sta.addEnd, h.1], fun e' he => ?_⟩
  rcases List.mem_append.1 (show e' ∈ s.edges ++ [_] from he) with he | he
  · exact h.2 e' he
  · rw [List.mem_singleton.1 he]
theorem Inv.altN (h : Inv NR Fit m0 a b I m) {d x e : Nat} (hx : Tg m0.len m.len b x) (he : Tg m0.len m.len b e) (hd : m0.len ≤ d) (hd2 : d < m.len) (hb : Bal (m.st d)) (hI : d ∈ I) : Inv NR Fit m0 a b I (m.alt d x e) := by
  have hle := h.le
  have halt := h.alt
  obtain ⟨f0, f2, f3, f4, f5, f6⟩ := alt_facts m d x e h.nf hd2
  refine ⟨f0, h.alt, by omega, f4.trans h.rule, fun q h1 h2 => by rw [f3, if_neg (by omega)]; exact h.old q h1 h2, ?_, fun q h1 h2 => ?_, fun q h1 h2 h3 => ?_, ?_⟩
  · rw [f3, if_neg (by omega), f2, f6]; exact h.atA
  · rw [f3, f2, f6]
    split
    · have hp := h.part d hd hd2
      refine ⟨hp.rule, fun e' hm => ?_, .inr (bal_add hb x e), fun i hi => ?_⟩
      · rcases List.mem_append.1 (show e' ∈ (m.st d).edges ++ [_] from hm) with hm | hm
        · exact hp.edges e' hm
        · rw [List.mem_singleton.1 hm]; exact ⟨.inl ⟨rfl, rfl⟩, hx⟩
      · rcases List.mem_append.1 (show i ∈ (m.st d).ends ++ [_] from hi) with hi | hi
        · exact hp.ends i hi
        · rw [List.mem_singleton.1 hi]; exact he
    · exact h.part q h1 (by omega)
  · rw [f3]
    split
    · next hq => subst hq; exact absurd hI h3
    · exact h.done q h1 (by omega) h3
  · obtain ⟨ws, w1, w2, w3⟩ := h.wts
    exact ⟨ws, f5.trans w1, f6.trans w2, w3⟩
theorem Inv.altA (h : Inv NR Fit m0 a b I m) {x e : Nat} (hx : Tg m0.len m.len b x) (he : Tg m0.len m.len b e) : Inv NR Fit m0 a b I (m.alt a x e) := by
  have hle := h.le
  have halt := h.alt
  obtain ⟨f0, f2, f3, f4, f5, f6⟩ := alt_facts m a x e h.nf (by omega)
  refine ⟨f0, h.alt, by omega, f4.trans h.rule, fun q h1 h2 => by rw [f3, if_neg h2]; exact h.old q h1 h2, ?_, fun q h1 h2 => ?_, fun q h1 h2 h3 => ?_, ?_⟩
  · obtain ⟨es, fs, e1, e2, e3⟩ := h.atA
    refine ⟨es ++ [⟨0, 0, x⟩], fs ++ [(e : Int)], by rw [f3, if_pos rfl, e1]; simp [Sta.addEdge, Sta.addEnd], fun e' hm => ?_, fun i hi => ?_⟩
    · rw [f2, f6]
      rcases List.mem_append.1 hm with hm | hm
      · exact e2 e' hm
      · rw [List.mem_singleton.1 hm]; exact ⟨.inl ⟨rfl, rfl⟩, hx⟩
    · rw [f2]
      rcases List.mem_append.1 hi with hi | hi
      · exact e3 i hi
      · rw [List.mem_singleton.1 hi]; exact he
  · rw [f3, if_neg (by omega), f2, f6]; exact h.part q h1 (by omega)
  · rw [f3, if_neg (by omega)]; exact h.done q h1 (by omega) h3
  · obtain ⟨ws, w1, w2, w3⟩ := h.wts
    exact ⟨ws, f5.trans w1, f6.trans w2, w3⟩
theorem Inv.close {x : Nat} (h : Inv NR Fit m0 a b (x :: I) m) (hx : DoneOk (m.st x)) : Inv NR Fit m0 a b I m :=
  ⟨h.nf, h.alt, h.le, h.rule, h.old, h.atA, h.part, fun q h1 h2 h3 => by
    by_cases hq : q = x
    · subst hq; exact hx
    · exact h.done q h1 h2 (by simp only [List.mem_cons, not_or]; exact ⟨hq, h3⟩), h.wts⟩
theorem Inv.perm {J : List Nat} (h : Inv NR Fit m0 a b I m) (hJ : ∀ q, q ∈ I → q ∈ J) : Inv NR Fit m0 a b J m :=
  ⟨h.nf, h.alt, h.le, h.rule, h.old, h.atA, h.part, fun q h1 h2 h3 => h.done q h1 h2 (fun hi => h3 (hJ q hi)), h.wts⟩
theorem tg_sub {lo mid hi y b : Nat} (h1 : lo ≤ mid) (hy : Tg lo hi b y) : ∀ t, Tg mid hi y t → Tg lo hi b t := by
  rintro t (⟨h2, h3⟩ | rfl)
  · exact .inl ⟨by omega, h3⟩
  · exact hy
/-- a piece from a new state on -/
theorem Inv.pieceN {x y : Nat} (h : Inv NR Fit m0 a b I m) (g : Inv NR Fit m x y [] m') (hx : m0.len ≤ x) (hy : Tg m0.len m'.len b y) (hb : (m'.st x).ends = [] ∨ Bal (m'.st x)) (hI : x ∈ I) : Inv NR Fit m0 a b I m' := by
  have h1 := h.le
  have h2 := g.le
  have h3 := h.alt
  have h4 := g.alt
  have hk := g.many
  refine ⟨g.nf, h.alt, by omega, g.rule.trans h.rule, fun q q1 q2 => (g.old q (by omega) (by omega)).trans (h.old q q1 q2), ?_, fun q q1 q2 => ?_, fun q q1 q2 q3 => ?_, ?_⟩
  · obtain ⟨es, fs, e1, e2, e3⟩ := h.atA
    exact ⟨es, fs, (g.old a (by omega) (by omega)).trans e1, fun e he => ⟨(e2 e he).1.mono hk, (e2 e he).2.mono h2⟩, fun i hi => (e3 i hi).mono h2⟩
  · by_cases hq : q < m.len
    · by_cases hqx : q = x
      · subst hqx
        obtain ⟨es, fs, e1, e2, e3⟩ := g.atA
        have hp := h.part q q1 hq
        rw [e1] at hb ⊢
        refine ⟨hp.rule, fun e he => ?_, hb, fun i hi => ?_⟩
        · rcases List.mem_append.1 he with he | he
          · exact ⟨(hp.edges e he).1.mono hk, (hp.edges e he).2.mono h2⟩
          · exact ⟨(e2 e he).1, tg_sub h1 hy _ (e2 e he).2⟩
        · rcases List.mem_append.1 hi with hi | hi
          · exact (hp.ends i hi).mono h2
          · exact tg_sub h1 hy _ (e3 i hi)
      · rw [g.old q hq hqx]
        exact (h.part q q1 hq).mono hk fun t ht => ht.mono h2
    · have := g.part q (by omega) q2
      rw [h.rule] at this
      exact this.mono (Nat.le_refl _) (tg_sub h1 hy)
  · by_cases hq : q < m.len
    · rw [g.old q hq (fun e => by subst e; exact q3 hI)]
      exact h.done q q1 hq q3
    · exact g.done q (by omega) q2 (by simp)
  · obtain ⟨ws, w1, w2, w3⟩ := h.wts
    obtain ⟨us, u1, u2, u3⟩ := g.wts
    refine ⟨ws ++ us, by rw [u1, w1, List.append_assoc], by rw [List.length_append]; omega, fun x hx => ?_⟩
    rcases List.mem_append.1 hx with hx | hx
    · exact w3 x hx
    · have := u3 x hx; rw [h.rule] at this; exact this
/-- a piece from a on -/
theorem Inv.pieceA {y : Nat} (h : Inv NR Fit m0 a b I m) (g : Inv NR Fit m a y [] m') (hy : Tg m0.len m'.len b y) : Inv NR Fit m0 a b I m' := by
  have h1 := h.le
  have h2 := g.le
  have h3 := h.alt
  have hk := g.many
  refine ⟨g.nf, h.alt, by omega, g.rule.trans h.rule, fun q q1 q2 => (g.old q (by omega) q2).trans (h.old q q1 q2), ?_, fun q q1 q2 => ?_, fun q q1 q2 q3 => ?_, ?_⟩
  · obtain ⟨es, fs, e1, e2, e3⟩ := h.atA
    obtain ⟨gs, hs, g1, g2, g3⟩ := g.atA
    refine ⟨es ++ gs, fs ++ hs, by rw [g1, e1]; simp, fun e he => ?_, fun i hi => ?_⟩
    · rcases List.mem_append.1 he with he | he
      · exact ⟨(e2 e he).1.mono hk, (e2 e he).2.mono h2⟩
      · exact ⟨(g2 e he).1, tg_sub h1 hy _ (g2 e he).2⟩
    · rcases List.mem_append.1 hi with hi | hi
      · exact (e3 i hi).mono h2
      · exact tg_sub h1 hy _ (g3 i hi)
  · by_cases hq : q < m.len
    · rw [g.old q hq (by omega)]
      exact (h.part q q1 hq).mono hk fun t ht => ht.mono h2
    · have := g.part q (by omega) q2
      rw [h.rule] at this
      exact this.mono (Nat.le_refl _) (tg_sub h1 hy)
  · by_cases hq : q < m.len
    · rw [g.old q hq (by omega)]
      exact h.done q q1 hq q3
    · exact g.done q (by omega) q2 (by simp)
  · obtain ⟨ws, w1, w2, w3⟩ := h.wts
    obtain ⟨us, u1, u2, u3⟩ := g.wts
    refine ⟨ws ++ us, by rw [u1, w1, List.append_assoc], by rw [List.length_append]; omega, fun x hx => ?_⟩
    rcases List.mem_append.1 hx with hx | hx
    · exact w3 x hx
    · have := u3 x hx; rw [h.rule] at this; exact this
/-- a predicate -/
theorem Inv.pred (h : m0.full = false) (ha : a < m0.len) {n : Nd} (hn : Fit n) : Inv NR Fit m0 a b [] ((m0.edge a 3 m0.many b).wait n) := by
  obtain ⟨f0, f2, f3, f4, f5, f6⟩ := edge_facts m0 a 3 m0.many b h ha
  have e1 : ∀ q, ((m0.edge a 3 m0.many b).wait n).st q = (m0.edge a 3 m0.many b).st q := fun _ => rfl
  have e2 : ((m0.edge a 3 m0.many b).wait n).len = (m0.edge a 3 m0.many b).len := rfl
  have e3 : ((m0.edge a 3 m0.many b).wait n).many = m0.many + 1 := by show (m0.edge a 3 m0.many b).many + 1 = _; rw [f6]
  refine ⟨f0, ha, by omega, f4, fun q h1 h2 => by rw [e1, f3, if_neg h2], ⟨[⟨3, m0.many, b⟩], [], by rw [e1, f3, if_pos rfl]; simp [Sta.addEdge], fun e he => ?_, by simp⟩, fun q h1 h2 => by omega, fun q h1 h2 => by omega, ⟨[(m0.rule, n)], ?_, e3, ?_⟩⟩
  · rw [List.mem_singleton.1 he, e3]
    exact ⟨.inr (.inr (.inr ⟨rfl, by simp only; omega, by simp only; omega⟩)), .inr rfl⟩
  · show (m0.edge a 3 m0.many b).waits ++ [((m0.edge a 3 m0.many b).rule, n)] = _
    rw [f5, f4]
  · intro x hx
    rw [List.mem_singleton.1 hx]
    exact ⟨rfl, hn⟩
end

/-- over edges -/
inductive Path (m : Mk) : Nat → Nat → Prop
  | refl (x : Nat) : Path m x x
  | head {x y z : Nat} (e : Edg) (he : e ∈ (m.st x).edges) (ht : e.to = (y : Int)) (h : Path m y z) : Path m x z
theorem Path.trans {m : Mk} {x y z : Nat} (h : Path m x y) (g : Path m y z) : Path m x z := by
  induction h with
  | refl => exact g
  | head e he ht _ ih => exact .head e he ht (ih g)
def Grows (m m' : Mk) : Prop := ∀ q, ∃ es, (m'.st q).edges = (m.st q).edges ++ es
theorem Grows.refl (m : Mk) : Grows m m := fun _ => ⟨[], by simp⟩
theorem Grows.trans {a b c : Mk} (h : Grows a b) (g : Grows b c) : Grows a c := fun q => by
  obtain ⟨es, e1⟩ := h q
  obtain ⟨fs, e2⟩ := g q
  exact ⟨es ++ fs, by rw [e2, e1, List.append_assoc]⟩
theorem Path.mono {m m' : Mk} (hg : Grows m m') {x y : Nat} (h : Path m x y) : Path m' x y := by
  induction h with
  | refl => exact .refl _
  | @head x y z e he ht _ ih =>
    obtain ⟨es, e1⟩ := hg x
    exact .head e (by rw [e1]; exact List.mem_append_left _ he) ht ih
theorem Inv.grows {NR : Nat} {Fit : Nd → Prop} {m0 m : Mk} {a b : Nat} {I : List Nat} (h : Inv NR Fit m0 a b I m) : Grows m0 m := fun q => by
  by_cases hq : q < m0.len
  · by_cases ha : q = a
    · subst ha
      obtain ⟨es, fs, e1, -⟩ := h.atA
      exact ⟨es, by rw [e1]⟩
    · exact ⟨[], by rw [h.old q hq ha]; simp⟩
  · exact ⟨(m.st q).edges, by rw [st_past m0 q (by omega)]; simp⟩
theorem edge_grows (m : Mk) (a : Nat) (k w : Int) (b : Nat) (h : m.full = false) (ha : a < m.len) : Grows m (m.edge a k w b) := fun q => by
  obtain ⟨-, -, f3, -⟩ := edge_facts m a k w b h ha
  rw [f3]
  split
  · next e => subst e; exact ⟨[_], rfl⟩
  · exact ⟨[], by simp⟩
theorem alt_grows (m : Mk) (d x e : Nat) (h : m.full = false) (ha : d < m.len) : Grows m (m.alt d x e) := fun q => by
  obtain ⟨-, -, f3, -⟩ := alt_facts m d x e h ha
  rw [f3]
  split
  · next e => subst e; exact ⟨[_], rfl⟩
  · exact ⟨[], by simp⟩
theorem state_grows (m : Mk) (h : m.state.2.full = false) : Grows m m.state.2 := fun q => by
  obtain ⟨-, -, -, f3, -⟩ := state_facts m h
  rw [f3]
  split
  · next e => subst e; exact ⟨[], by rw [st_past m _ (Nat.le_refl _)]; rfl⟩
  · exact ⟨[], by simp⟩
theorem wait_grows (m : Mk) (n : Nd) : Grows m (m.wait n) := fun _ => ⟨[], (List.append_nil _).symm⟩
theorem edge_path (m : Mk) (a : Nat) (k w : Int) (b : Nat) (h : m.full = false) (ha : a < m.len) : Path (m.edge a k w b) a b := by
  obtain ⟨-, -, f3, -⟩ := edge_facts m a k w b h ha
  exact .head ⟨k, w, b⟩ (by rw [f3, if_pos rfl]; simp [Sta.addEdge]) rfl (.refl _)
theorem alt_path (m : Mk) (d x e : Nat) (h : m.full = false) (ha : d < m.len) : Path (m.alt d x e) d x := by
  obtain ⟨-, -, f3, -⟩ := alt_facts m d x e h ha
  exact .head ⟨0, 0, x⟩ (by rw [f3, if_pos rfl]; simp [Sta.addEdge, Sta.addEnd]) rfl (.refl _)
theorem edge_nf {m : Mk} {a : Nat} {k w : Int} {b : Nat} (h : (m.edge a k w b).full = false) : m.full = false := by
  cases hm : m.full with
  | false => rfl
  | true =>
    unfold Mk.edge at h
    rw [hm] at h
    simp only [if_true, hm] at h
    cases h
theorem alt_nf {m : Mk} {d x e : Nat} (h : (m.alt d x e).full = false) : m.full = false := by
  unfold Mk.alt at h
  split at h
  · exact edge_nf h
  · exact edge_nf (show (m.empty d x).full = false from h)
theorem state_nf {m : Mk} (h : m.state.2.full = false) : m.full = false := (state_facts m h).1

def Fits (P : Nums) (NR : Nat) (n : Nd) : Prop := ∀ x ∈ n.all, (x.kind = 6 → 0 ≤ P.tok x.name) ∧ (x.kind = 5 → 0 ≤ P.rule x.name ∧ P.rule x.name < NR) ∧ (x.kind = 0 → 2 ≤ x.subs.length)
theorem mem_allL : ∀ (l : List Nd) (s : Nd), s ∈ l → ∀ x ∈ s.all, x ∈ Nd.allL l
  | [], s, h, _, _ => absurd h (by simp)
  | n :: r, s, h, x, hx => by
    rw [Nd.allL]
    rcases List.mem_cons.1 h with rfl | h
    · exact List.mem_append_left _ hx
    · exact List.mem_append_right _ (mem_allL r s h x hx)
theorem Fits.subs {P : Nums} {NR : Nat} {k : Int} {nm tx : ByteArray} {set : List (Int × Int)} {subs : List Nd} (h : Fits P NR (.mk k nm tx set subs)) : ∀ s ∈ subs, Fits P NR s := fun s hs x hx =>
  h x (by rw [Nd.all]; exact List.mem_cons_of_mem _ (mem_allL subs s hs x hx))
theorem fits_no (P : Nums) (NR : Nat) : Fits P NR noNd := fun x hx => by
  unfold noNd at hx
  rw [Nd.all, Nd.allL, List.mem_singleton] at hx
  subst hx
  exact ⟨fun h => absurd h (by simp [Nd.kind]), fun h => absurd h (by simp [Nd.kind]), fun h => absurd h (by simp [Nd.kind])⟩
/-- a piece, from a to b -/
structure Pc (P : Nums) (NR : Nat) (a b : Nat) (m m' : Mk) : Prop where
  inv : Inv NR (Fits P NR) m a b [] m'
  path : Path m' a b
  ends : (m'.st a).ends = (m.st a).ends
  ne : (m'.st a).edges ≠ []
section
variable {P : Nums} {NR : Nat}
theorem fits_first : ∀ (l : List Nd), (∀ s ∈ l, Fits P NR s) → Fits P NR (match l with | [] => noNd | s :: _ => s)
  | [], _ => fits_no P NR
  | s :: _, h => h s (by simp)
theorem pc_edge {m : Mk} {a b : Nat} {k w : Int} (h : m.full = false) (ha : a < m.len) (he : EOk NR m.many ⟨k, w, b⟩) : Pc P NR a b m (m.edge a k w b) := by
  obtain ⟨-, -, f3, -⟩ := edge_facts m a k w b h ha
  exact ⟨(Inv.start h ha).edgeA he (.inr rfl), edge_path m a k w b h ha, by rw [f3, if_pos rfl]; rfl, by rw [f3, if_pos rfl]; simp [Sta.addEdge]⟩
theorem eok_empty {many b : Nat} : EOk NR many ⟨0, 0, b⟩ := .inl ⟨rfl, rfl⟩
/-- the leaving of a loop -/
theorem leaving_inv {m0 m : Mk} {a b d e : Nat} {I : List Nat} (h : Inv NR (Fits P NR) m0 a b I m) (hf : (m.leaving d e b).full = false) (hd : m0.len ≤ d) (hd2 : d < m.len) (he : m0.len ≤ e) (he2 : e < m.len) (hde : d ≠ e) (hb : Bal (m.st d)) (hE : (m.st e).ends = []) (hdI : d ∈ I) (h1 : (m.st d).edges.length = 1) :
    Inv NR (Fits P NR) m0 a b I (m.leaving d e b) ∧ Path (m.leaving d e b) d b ∧ DoneOk ((m.leaving d e b).st d) ∧ DoneOk ((m.leaving d e b).st e) ∧ (∀ q, q < m.len → q ≠ d → q ≠ e → (m.leaving d e b).st q = m.st q) ∧ Grows m (m.leaving d e b) := by
  unfold Mk.leaving Mk.empty at *
  have n3 := edge_nf hf
  have n2 := edge_nf n3
  have n1 := alt_nf n2
  obtain ⟨i1, f1, f2, f3, f4⟩ := h.state n1
  rw [f1] at n2 n3 hf ⊢
  have i2 := i1.altN (d := d) (x := m.len) (e := e) (.inl ⟨by have := h.le; omega, by omega⟩) (.inl ⟨by omega, by omega⟩) hd (by omega) (by rw [f3 d (by omega)]; exact hb) (List.mem_cons_of_mem _ hdI)
  obtain ⟨-, a2, a3, -, -, -⟩ := alt_facts m.state.2 d m.len e n1 (by omega)
  have g1 := state_grows m n1
  have g2 := alt_grows m.state.2 d m.len e n1 (by omega)
  have p1 := alt_path m.state.2 d m.len e n1 (by omega)
  generalize hm2 : m.state.2.alt d m.len e = m2 at *
  have hy : m2.st m.len = ⟨m0.rule, [], []⟩ := by rw [a3, if_neg (by omega), f2]
  have hle := h.le
  have i3 := i2.edgeN (k := 0) (w := 0) (t := e) (x := m.len) eok_empty (.inl ⟨by omega, by omega⟩) (by omega) (by omega) (by rw [hy])
  obtain ⟨-, b2, b3, -, -, -⟩ := edge_facts m2 m.len 0 0 e n2 (by omega)
  have g3 := edge_grows m2 m.len 0 0 e n2 (by omega)
  have p2 := edge_path m2 m.len 0 0 e n2 (by omega)
  generalize hm3 : m2.edge m.len 0 0 e = m3 at *
  have hes : m3.st e = m.st e := by rw [b3, if_neg (by omega), a3, if_neg (by omega), f3 e (by omega)]
  have i4 := i3.edgeN (k := 0) (w := 0) (t := b) (x := e) eok_empty (.inr rfl) he (by omega) (by rw [hes]; exact hE)
  obtain ⟨-, c2, c3, -, -, -⟩ := edge_facts m3 e 0 0 b n3 (by omega)
  have g4 := edge_grows m3 e 0 0 b n3 (by omega)
  have p3 := edge_path m3 e 0 0 b n3 (by omega)
  have hds : (m3.edge e 0 0 b).st d = ((m.st d).addEdge ⟨0, 0, m.len⟩).addEnd e := by rw [c3, if_neg hde, b3, if_neg (by omega), a3, if_pos rfl, f3 d (by omega)]
  have hys : (m3.edge e 0 0 b).st m.len = (m2.st m.len).addEdge ⟨0, 0, e⟩ := by rw [c3, if_neg (by omega), b3, if_pos rfl]
  refine ⟨i4.close ?_, ?_, ?_, ?_, fun q h5 h6 h7 => ?_, g1.trans (g2.trans (g3.trans g4))⟩
  · rw [hys, hy]
    exact ⟨by simp [Sta.addEdge], .inl rfl⟩
  · exact ((p1.mono (g3.trans g4)).trans (p2.mono g4)).trans p3
  · rw [hds]
    refine ⟨by simp [Sta.addEdge, Sta.addEnd], .inr ?_⟩
    have := hb.1
    simp only [Sta.addEdge, Sta.addEnd, List.length_append, List.length_singleton]
    omega
  · rw [c3, if_pos rfl, hes]
    exact ⟨by simp [Sta.addEdge], .inl (by simpa [Sta.addEdge] using hE)⟩
  · rw [c3, if_neg h7, b3, if_neg (by omega), a3, if_neg h6, f3 q (by omega)]

/-- one or none, or a loop that asks first: its decision d leads into it, and over y out of it -/
theorem loop_inv {m : Mk} {a b : Nat} {subs : List Nd} {t : Nat} (hnf : m.full = false) (ha : a < m.len) (ht : t = m.len ∨ t = m.len + 1)
    (H : ∀ (x : Nat) (ma : Mk), x < ma.len → (Nd.piece1 P subs x t ma).full = false → Pc P NR x t ma (Nd.piece1 P subs x t ma))
    (hf : ((Nd.piece1 P subs (m.state.2.state.2.edge a 0 0 m.len).state.1 t ((m.state.2.state.2.edge a 0 0 m.len).state.2.alt m.len (m.state.2.state.2.edge a 0 0 m.len).state.1 t)).leaving m.len m.state.2.len b).full = false)
    (n4 : (Nd.piece1 P subs (m.state.2.state.2.edge a 0 0 m.len).state.1 t ((m.state.2.state.2.edge a 0 0 m.len).state.2.alt m.len (m.state.2.state.2.edge a 0 0 m.len).state.1 t)).full = false) :
    Pc P NR a b m ((Nd.piece1 P subs (m.state.2.state.2.edge a 0 0 m.len).state.1 t ((m.state.2.state.2.edge a 0 0 m.len).state.2.alt m.len (m.state.2.state.2.edge a 0 0 m.len).state.1 t)).leaving m.len m.state.2.len b) := by
  have n3 := Nd.piece1_nf P _ _ _ _ n4
  have n3' := alt_nf n3
  have n2' := state_nf n3'
  have n2 := edge_nf n2'
  have n1 := state_nf n2
  obtain ⟨i1, f1, f2, f3, f4⟩ := (Inv.start (NR := NR) (Fit := Fits P NR) (b := b) hnf ha).state n1
  obtain ⟨i2, g1, g2, g3, g4⟩ := i1.state n2
  have i3 := i2.edgeA (k := 0) (w := 0) (t := m.len) eok_empty (.inl ⟨by omega, by omega⟩)
  obtain ⟨-, a2, a3, -, -, -⟩ := edge_facts m.state.2.state.2 a 0 0 m.len n2 (by omega)
  have p3 := edge_path m.state.2.state.2 a 0 0 m.len n2 (by omega)
  generalize hm1 : m.state.2.state.2.edge a 0 0 m.len = m1 at *
  obtain ⟨i4, k1, k2, k3, k4⟩ := i3.state n3'
  rw [k1] at n3 n4 hf ⊢
  have hd4 : m1.state.2.st m.len = ⟨m.rule, [], []⟩ := by rw [k3 _ (by omega), a3, if_neg (by omega), g3 _ (by omega), f2]
  have he4 : m1.state.2.st m.state.2.len = ⟨m.rule, [], []⟩ := by rw [k3 _ (by omega), a3, if_neg (by omega), g2]
  have hbd : Bal (m1.state.2.st m.len) := by rw [hd4]; exact ⟨rfl, by simp⟩
  have i5 := i4.altN (d := m.len) (x := m1.len) (e := t) (.inl ⟨by omega, by omega⟩) (.inl ⟨by omega, by omega⟩) (Nat.le_refl _) (by omega) hbd (by simp)
  obtain ⟨-, b2, b3, -, -, -⟩ := alt_facts m1.state.2 m.len m1.len t n3' (by omega)
  have g5 := (state_grows m1 n3').trans (alt_grows m1.state.2 m.len m1.len t n3' (by omega))
  generalize hma : m1.state.2.alt m.len m1.len t = ma at *
  have hx5 : ma.st m1.len = ⟨m.rule, [], []⟩ := by rw [b3, if_neg (by omega), k2]
  have h := H m1.len ma (by omega) n4
  generalize hm2 : Nd.piece1 P subs m1.len t ma = m2 at *
  have l2 := h.inv.le
  have hx6 : (m2.st m1.len).ends = [] := by rw [h.ends, hx5]
  have i6 := (i5.pieceN h.inv (by omega) (.inl ⟨by omega, by omega⟩) (.inl hx6) (by simp)).close ⟨h.ne, .inl hx6⟩
  have hd6 : m2.st m.len = ((m1.state.2.st m.len).addEdge ⟨0, 0, m1.len⟩).addEnd t := by rw [h.inv.old _ (by omega) (by omega), b3, if_pos rfl]
  have he6 : m2.st m.state.2.len = ⟨m.rule, [], []⟩ := by rw [h.inv.old _ (by omega) (by omega), b3, if_neg (by omega), he4]
  obtain ⟨j1, j2, j3, j4, j5, j6⟩ := leaving_inv i6 hf (Nat.le_refl _) (by omega) (by omega) (by omega) (by omega) (by rw [hd6]; exact bal_add hbd _ _) (by rw [he6]) (by simp) (by rw [hd6, hd4]; rfl)
  have ha1 : (m2.leaving m.len m.state.2.len b).st a = (m.st a).addEdge ⟨0, 0, m.len⟩ := by rw [j5 a (by omega) (by omega) (by omega), h.inv.old _ (by omega) (by omega), b3, if_neg (by omega), k3 _ (by omega), a3, if_pos rfl, g3 _ (by omega), f3 _ (by omega)]
  refine ⟨(j1.close j4).close j3, ((p3.mono (g5.trans (h.inv.grows.trans j6))).trans j2), by rw [ha1]; rfl, by rw [ha1]; simp [Sta.addEdge]⟩
/-- one or more -/
theorem plus_inv {m : Mk} {a b : Nat} {subs : List Nd} (hnf : m.full = false) (ha : a < m.len)
    (H : ∀ (x t : Nat) (ma : Mk), x < ma.len → (Nd.piece1 P subs x t ma).full = false → Pc P NR x t ma (Nd.piece1 P subs x t ma))
    (hf : (((Nd.piece1 P subs m.len m.state.2.len (m.state.2.state.2.state.2.edge a 0 0 m.len)).alt m.state.2.len m.len m.state.2.len).leaving m.state.2.len m.state.2.state.2.len b).full = false)
    (n5 : ((Nd.piece1 P subs m.len m.state.2.len (m.state.2.state.2.state.2.edge a 0 0 m.len)).alt m.state.2.len m.len m.state.2.len).full = false) :
    Pc P NR a b m (((Nd.piece1 P subs m.len m.state.2.len (m.state.2.state.2.state.2.edge a 0 0 m.len)).alt m.state.2.len m.len m.state.2.len).leaving m.state.2.len m.state.2.state.2.len b) := by
  have n4 := alt_nf n5
  have n3 := Nd.piece1_nf P _ _ _ _ n4
  have n3' := edge_nf n3
  have n2 := state_nf n3'
  have n1 := state_nf n2
  obtain ⟨i1, f1, f2, f3, f4⟩ := (Inv.start (NR := NR) (Fit := Fits P NR) (b := b) hnf ha).state n1
  obtain ⟨i2, g1, g2, g3, g4⟩ := i1.state n2
  obtain ⟨i3, k1, k2, k3, k4⟩ := i2.state n3'
  have i4 := i3.edgeA (k := 0) (w := 0) (t := m.len) eok_empty (.inl ⟨by omega, by omega⟩)
  obtain ⟨-, a2, a3, -, -, -⟩ := edge_facts m.state.2.state.2.state.2 a 0 0 m.len n3' (by omega)
  have p3 := edge_path m.state.2.state.2.state.2 a 0 0 m.len n3' (by omega)
  generalize hm1 : m.state.2.state.2.state.2.edge a 0 0 m.len = m1 at *
  have hx1 : m1.st m.len = ⟨m.rule, [], []⟩ := by rw [a3, if_neg (by omega), k3 _ (by omega), g3 _ (by omega), f2]
  have hd1 : m1.st m.state.2.len = ⟨m.rule, [], []⟩ := by rw [a3, if_neg (by omega), k3 _ (by omega), g2]
  have he1 : m1.st m.state.2.state.2.len = ⟨m.rule, [], []⟩ := by rw [a3, if_neg (by omega), k2]
  have h := H m.len m.state.2.len m1 (by omega) n4
  generalize hm2 : Nd.piece1 P subs m.len m.state.2.len m1 = m2 at *
  have l2 := h.inv.le
  have hx2 : (m2.st m.len).ends = [] := by rw [h.ends, hx1]
  have i5 := i4.pieceN h.inv (Nat.le_refl _) (.inl ⟨by omega, by omega⟩) (.inl hx2) (by simp)
  have hd2 : m2.st m.state.2.len = ⟨m.rule, [], []⟩ := by rw [h.inv.old _ (by omega) (by omega), hd1]
  have he2 : m2.st m.state.2.state.2.len = ⟨m.rule, [], []⟩ := by rw [h.inv.old _ (by omega) (by omega), he1]
  have hbd : Bal (m2.st m.state.2.len) := by rw [hd2]; exact ⟨rfl, by simp⟩
  have i6 := i5.altN (d := m.state.2.len) (x := m.len) (e := m.state.2.len) (.inl ⟨by omega, by omega⟩) (.inl ⟨by omega, by omega⟩) (by omega) (by omega) hbd (by simp)
  obtain ⟨-, b2, b3, -, -, -⟩ := alt_facts m2 m.state.2.len m.len m.state.2.len n4 (by omega)
  have g6 := alt_grows m2 m.state.2.len m.len m.state.2.len n4 (by omega)
  generalize hm3 : m2.alt m.state.2.len m.len m.state.2.len = m3 at *
  have i7 := (i6.perm (J := [m.len, m.state.2.state.2.len, m.state.2.len]) (by simp)).close ⟨by rw [b3, if_neg (by omega)]; exact h.ne, .inl (by rw [b3, if_neg (by omega)]; exact hx2)⟩
  obtain ⟨j1, j2, j3, j4, j5, j6⟩ := leaving_inv i7 hf (by omega) (by omega) (by omega) (by omega) (by omega) (by rw [b3, if_pos rfl]; exact bal_add hbd _ _) (by rw [b3, if_neg (by omega), he2]) (by simp) (by rw [b3, if_pos rfl, hd2]; rfl)
  have ha1 : (m3.leaving m.state.2.len m.state.2.state.2.len b).st a = (m.st a).addEdge ⟨0, 0, m.len⟩ := by rw [j5 a (by omega) (by omega) (by omega), b3, if_neg (by omega), h.inv.old _ (by omega) (by omega), a3, if_pos rfl, k3 _ (by omega), g3 _ (by omega), f3 _ (by omega)]
  refine ⟨(j1.close j4).close j3, ((p3.mono (h.inv.grows.trans (g6.trans j6))).trans (h.path.mono (g6.trans j6))).trans j2, by rw [ha1]; rfl, by rw [ha1]; simp [Sta.addEdge]⟩
theorem leaving_nf {m : Mk} {d e b : Nat} (h : (m.leaving d e b).full = false) : m.full = false := by
  unfold Mk.leaving Mk.empty at h
  exact state_nf (alt_nf (edge_nf (edge_nf h)))

mutual
theorem Nd.piece_inv : ∀ (n : Nd) (a b : Nat) (m : Mk), Fits P NR n → a < m.len → (n.piece P a b m).full = false → Pc P NR a b m (n.piece P a b m)
  | .mk k nm tx set subs, a, b, m, hF, ha, hf => by
    have hself := hF _ (all_self _)
    have hsub := hF.subs
    have hnf : m.full = false := Nd.piece_nf P _ a b m hf
    obtain ⟨m', hm'⟩ : ∃ m', (Nd.mk k nm tx set subs).piece P a b m = m' := ⟨_, rfl⟩
    rw [hm'] at hf ⊢
    rw [Nd.piece.eq_def] at hm'
    dsimp only at hm'
    rw [if_neg (by rw [hnf]; simp)] at hm'
    split at hm'
    · next hk =>
      subst hm'
      exact pc_edge hnf ha (.inr (.inl ⟨rfl, hself.1 hk⟩))
    split at hm'
    · next hk =>
      subst hm'
      exact pc_edge hnf ha (.inr (.inr (.inl ⟨rfl, (hself.2.1 hk).1, (hself.2.1 hk).2⟩)))
    split at hm'
    · next hk =>
      subst hm'
      obtain ⟨-, -, f3, -⟩ := edge_facts m a 3 m.many b hnf ha
      exact ⟨Inv.pred hnf ha (fits_first subs hsub), (edge_path m a 3 m.many b hnf ha).mono (wait_grows _ _), by show ((m.edge a 3 m.many b).st a).ends = _; rw [f3, if_pos rfl]; rfl, by show ((m.edge a 3 m.many b).st a).edges ≠ _; rw [f3, if_pos rfl]; simp [Sta.addEdge]⟩
    split at hm'
    · next hk =>
      subst hm'
      exact Nd.pieces_inv subs a b m hk.2 hsub ha hf
    split at hm'
    · next hk =>
      have h2s : 2 ≤ subs.length := hself.2.2 hk
      subst hm'
      unfold Mk.empty at *
      have n4 := edge_nf hf
      have n3 := Nd.palts_nf P _ _ _ _ n4
      have n2 := edge_nf n3
      have n1 := state_nf n2
      obtain ⟨i1, f1, f2, f3, f4⟩ := (Inv.start (NR := NR) (Fit := Fits P NR) (b := b) hnf ha).state n1
      obtain ⟨i2, g1, g2, g3, g4⟩ := i1.state n2
      rw [f1] at n3
      rw [f1, g1] at n4 hf ⊢
      have hle : m.len + 1 = m.state.2.len := f4.symm
      have i3 := i2.edgeA (k := 0) (w := 0) (t := m.len) eok_empty (.inl ⟨by omega, by omega⟩)
      obtain ⟨-, a2, a3, -, -, -⟩ := edge_facts m.state.2.state.2 a 0 0 m.len n2 (by omega)
      have p3 := edge_path m.state.2.state.2 a 0 0 m.len n2 (by omega)
      generalize hm3 : m.state.2.state.2.edge a 0 0 m.len = m3 at *
      have hd3 : m3.st m.len = ⟨m.rule, [], []⟩ := by rw [a3, if_neg (by omega), g3 _ (by omega), f2]
      have he3 : m3.st m.state.2.len = ⟨m.rule, [], []⟩ := by rw [a3, if_neg (by omega), g2]
      have hP := Nd.palts_inv subs m.state.2.len m.len m3 hsub (by omega) (by omega) (by omega) n4
      generalize hm4 : Nd.palts P subs m.state.2.len m.len m3 = m4 at *
      obtain ⟨j1, j2, j3, j4⟩ := hP
      have hlen4 := j1.le
      have hbal : Bal (m4.st m.len) := j3 (by rw [hd3]; exact ⟨rfl, by simp⟩)
      have i4 := i3.pieceN j1 (by omega) (.inl ⟨by omega, by omega⟩) (.inr hbal) (by simp)
      have he4 : m4.st m.state.2.len = ⟨m.rule, [], []⟩ := by rw [j1.old _ (by omega) (by omega), he3]
      have i5 := i4.edgeN (k := 0) (w := 0) (t := b) (x := m.state.2.len) eok_empty (.inr rfl) (by omega) (by omega) (by rw [he4])
      obtain ⟨-, b2, b3, -, -, -⟩ := edge_facts m4 m.state.2.len 0 0 b n4 (by omega)
      have p5 := edge_path m4 m.state.2.len 0 0 b n4 (by omega)
      have g5 := edge_grows m4 m.state.2.len 0 0 b n4 (by omega)
      have hne : subs ≠ [] := fun e => by rw [e] at h2s; simp at h2s
      refine ⟨(i5.close ?_).close ?_, ((p3.mono (j1.grows.trans g5)).trans ((j2 hne).mono g5)).trans p5, ?_, ?_⟩
      · rw [b3, if_pos rfl]; exact ⟨by simp [Sta.addEdge], .inl (by rw [he4]; rfl)⟩
      · rw [b3, if_neg (by omega)]
        rw [hd3] at j4
        simp only [List.length_nil, Nat.zero_add] at j4
        refine ⟨fun e => ?_, .inr (by omega)⟩
        have := hbal.1
        rw [e] at this
        simp only [List.length_nil] at this
        omega
      · rw [b3, if_neg (by omega), j1.old _ (by omega) (by omega), a3, if_pos rfl, g3 _ (by omega), f3 _ (by omega)]; rfl
      · rw [b3, if_neg (by omega), j1.old _ (by omega) (by omega), a3, if_pos rfl]; simp [Sta.addEdge]
    split at hm'
    · next hk =>
      have hm2 : (Nd.piece1 P subs (m.state.2.state.2.empty a m.state.1).state.1 m.state.2.state.1 ((m.state.2.state.2.empty a m.state.1).state.2.alt m.state.1 (m.state.2.state.2.empty a m.state.1).state.1 m.state.2.state.1)).leaving m.state.1 m.state.2.state.1 b = m' := by
        rw [← hm']
        unfold Mk.leaving
        split
        · next hfull =>
          rw [← hm', if_pos hfull] at hf
          exact absurd (edge_nf hf) (by rw [hfull]; simp)
        · rfl
      subst hm2
      have nl := leaving_nf hf
      unfold Mk.empty at *
      have n2 := edge_nf (state_nf (alt_nf (Nd.piece1_nf P _ _ _ _ nl)))
      have n1 := state_nf n2
      have f1 := (state_facts m n1).2.1
      have f4 := (state_facts m n1).2.2.1
      have g1 := (state_facts m.state.2 n2).2.1
      rw [f1, g1] at hf nl ⊢
      exact loop_inv hnf ha (.inr f4) (fun x ma h1 h2 => Nd.piece1_inv subs x _ ma hsub h1 h2) hf nl
    split at hm'
    · next hk =>
      subst hm'
      have nl := leaving_nf hf
      unfold Mk.empty at *
      have n2 := edge_nf (state_nf (alt_nf (Nd.piece1_nf P _ _ _ _ nl)))
      have n1 := state_nf n2
      have f1 := (state_facts m n1).2.1
      have g1 := (state_facts m.state.2 n2).2.1
      rw [f1] at hf nl ⊢
      rw [g1] at hf ⊢
      exact loop_inv hnf ha (.inl rfl) (fun x ma h1 h2 => Nd.piece1_inv subs x _ ma hsub h1 h2) hf nl
    split at hm'
    · next hk =>
      subst hm'
      have nl := leaving_nf hf
      unfold Mk.empty at *
      have n3 := edge_nf (Nd.piece1_nf P _ _ _ _ (alt_nf nl))
      have n2 := state_nf n3
      have n1 := state_nf n2
      have f1 := (state_facts m n1).2.1
      have g1 := (state_facts m.state.2 n2).2.1
      have k1 := (state_facts m.state.2.state.2 n3).2.1
      rw [f1, g1] at hf nl ⊢
      rw [k1] at hf ⊢
      exact plus_inv hnf ha (fun x t ma h1 h2 => Nd.piece1_inv subs x t ma hsub h1 h2) hf nl
    · subst hm'
      exact pc_edge hnf ha eok_empty
theorem Nd.piece1_inv : ∀ (l : List Nd) (a b : Nat) (m : Mk), (∀ s ∈ l, Fits P NR s) → a < m.len → (Nd.piece1 P l a b m).full = false → Pc P NR a b m (Nd.piece1 P l a b m)
  | [], a, b, m, _, ha, hf => by
    have hnf : m.full = false := Nd.piece1_nf P _ a b m hf
    rw [Nd.piece1, if_neg (by rw [hnf]; simp)]
    exact pc_edge hnf ha eok_empty
  | s :: r, a, b, m, hF, ha, hf => by
    rw [Nd.piece1] at hf ⊢
    exact Nd.piece_inv s a b m (hF s (by simp)) ha hf
theorem Nd.pieces_inv : ∀ (l : List Nd) (a b : Nat) (m : Mk), l ≠ [] → (∀ s ∈ l, Fits P NR s) → a < m.len → (Nd.pieces P l a b m).full = false → Pc P NR a b m (Nd.pieces P l a b m)
  | [], _, _, _, h, _, _, _ => absurd rfl h
  | s :: r, a, b, m, _, hF, ha, hf => by
    have hnf : m.full = false := Nd.pieces_nf P _ a b m hf
    rw [Nd.pieces] at hf ⊢
    split at hf
    · next hr =>
      rw [if_pos hr]
      exact Nd.piece_inv s a b m (hF s (by simp)) ha hf
    · next hr =>
      rw [if_neg hr]
      have n2 := Nd.pieces_nf P _ _ _ _ hf
      have n1 := Nd.piece_nf P _ _ _ _ n2
      obtain ⟨i1, f1, f2, f3, f4⟩ := (Inv.start (NR := NR) (Fit := Fits P NR) (b := b) hnf ha).state n1
      rw [f1] at n2 hf ⊢
      have h1 := Nd.piece_inv s a m.len m.state.2 (hF s (by simp)) (by omega) n2
      generalize hm2 : Nd.piece P s a m.len m.state.2 = m2 at *
      have l1 := h1.inv.le
      have h2 := Nd.pieces_inv r m.len b m2 hr (fun x hx => hF x (List.mem_cons_of_mem _ hx)) (by omega) hf
      generalize hm3 : Nd.pieces P r m.len b m2 = m3 at *
      have l2 := h2.inv.le
      have i2 := i1.pieceA h1.inv (.inl ⟨by omega, by omega⟩)
      have hto : (m3.st m.len).ends = [] := by rw [h2.ends, h1.inv.old _ (by omega) (by omega), f2]
      have i3 := i2.pieceN h2.inv (Nat.le_refl _) (.inr rfl) (.inl hto) (by simp)
      refine ⟨i3.close ⟨h2.ne, .inl hto⟩, (h1.path.mono h2.inv.grows).trans h2.path, ?_, ?_⟩
      · rw [h2.inv.old _ (by omega) (by omega), h1.ends, f3 _ (by omega)]
      · rw [h2.inv.old _ (by omega) (by omega)]; exact h1.ne
theorem Nd.palts_inv : ∀ (l : List Nd) (e d : Nat) (m : Mk), (∀ s ∈ l, Fits P NR s) → d < m.len → e < m.len → d ≠ e → (Nd.palts P l e d m).full = false →
    Inv NR (Fits P NR) m d e [] (Nd.palts P l e d m) ∧ (l ≠ [] → Path (Nd.palts P l e d m) d e) ∧ (Bal (m.st d) → Bal ((Nd.palts P l e d m).st d)) ∧ ((Nd.palts P l e d m).st d).ends.length = (m.st d).ends.length + l.length
  | [], e, d, m, _, hd, _, _, hf => by
    rw [Nd.palts] at hf ⊢
    exact ⟨Inv.start hf hd, fun h => absurd rfl h, id, rfl⟩
  | s :: r, e, d, m, hF, hd, he, hde, hf => by
    rw [Nd.palts] at hf ⊢
    have n3 := Nd.palts_nf P _ _ _ _ hf
    have n2 := Nd.piece_nf P _ _ _ _ n3
    have n1 := alt_nf n2
    have hnf := state_nf n1
    obtain ⟨i1, f1, f2, f3, f4⟩ := (Inv.start (NR := NR) (Fit := Fits P NR) (b := e) hnf hd).state n1
    rw [f1] at n2 n3 hf ⊢
    have i2 := i1.altA (x := m.len) (e := e) (.inl ⟨by omega, by omega⟩) (.inr rfl)
    obtain ⟨-, a2, a3, -, -, -⟩ := alt_facts m.state.2 d m.len e n1 (by omega)
    have p2 := alt_path m.state.2 d m.len e n1 (by omega)
    generalize hm2 : m.state.2.alt d m.len e = m2 at *
    have hx2 : m2.st m.len = ⟨m.rule, [], []⟩ := by rw [a3, if_neg (by omega), f2]
    have h3 := Nd.piece_inv s m.len e m2 (hF s (by simp)) (by omega) n3
    generalize hm3 : Nd.piece P s m.len e m2 = m3 at *
    have l3 := h3.inv.le
    have hx3 : (m3.st m.len).ends = [] := by rw [h3.ends, hx2]
    have i3 := (i2.pieceN h3.inv (Nat.le_refl _) (.inr rfl) (.inl hx3) (by simp)).close ⟨h3.ne, .inl hx3⟩
    have h4 := Nd.palts_inv r e d m3 (fun x hx => hF x (List.mem_cons_of_mem _ hx)) (by omega) (by omega) hde hf
    generalize hm4 : Nd.palts P r e d m3 = m4 at *
    obtain ⟨j1, j2, j3, j4⟩ := h4
    have hd3 : m3.st d = ((m.st d).addEdge ⟨0, 0, m.len⟩).addEnd e := by rw [h3.inv.old _ (by omega) (by omega), a3, if_pos rfl, f3 _ (by omega)]
    refine ⟨i3.pieceA j1 (.inr rfl), fun _ => ((p2.mono (h3.inv.grows.trans j1.grows)).trans (h3.path.mono j1.grows)), fun hb => j3 (by rw [hd3]; exact bal_add hb _ _), ?_⟩
    rw [j4, hd3]
    show ((m.st d).ends ++ [_]).length + _ = _
    rw [List.length_append, List.length_singleton, List.length_cons]
    omega
end
end
end Go.Proofs.YtiiffcmojkdlaaaGreatDoor
