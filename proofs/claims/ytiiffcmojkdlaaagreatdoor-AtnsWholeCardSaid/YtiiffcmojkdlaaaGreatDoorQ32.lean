/- What holds of all that is made: plain laws of the mirror. No program in sight. -/
import Derived.Test.YtiiffcmojkdlaaaGreatDoorQ23
import Derived.Test.YtiiffcmojkdlaaaGreatDoorQ28
import Derived.Test.YtiiffcmojkdlaaaGreatDoorQ29
import Derived.Test.YtiiffcmojkdlaaaGreatDoorQ31
import Derived.Test.YtiiffcmojkdlaaaGreatDoorQ24
namespace Go.Proofs.YtiiffcmojkdlaaaGreatDoor

/-- a relation that each small step keeps -/
structure StepRel (C : Nat) (R : Mk → Mk → Prop) : Prop where
  refl : ∀ m, R m m
  trans : ∀ {a b c}, R a b → R b c → R a c
  state : ∀ m : Mk, R m m.state.2
  edge : ∀ (m : Mk) a kd wh b, 0 ≤ kd ∧ kd ≤ 3 → R m (m.edge a kd wh b)
  alt : ∀ (m : Mk) d x e, R m (m.alt d x e)
  wait : ∀ (m : Mk) n, n.cnt ≤ C → R m (m.wait n)
section
variable {C : Nat} {R : Mk → Mk → Prop}
theorem StepRel.empty (h : StepRel C R) (m : Mk) (a b : Nat) : R m (m.empty a b) := h.edge m a 0 0 b (by omega)
theorem StepRel.leaving (h : StepRel C R) (m : Mk) (d e b : Nat) : R m (m.leaving d e b) := by
  unfold Mk.leaving
  exact h.trans (h.trans (h.trans (h.state _) (h.alt _ _ _ _)) (h.empty _ _ _)) (h.empty _ _ _)
theorem sub1_cnt (subs : List Nd) : (match subs with | [] => noNd | s :: _ => s).cnt ≤ 1 + Nd.cnts subs := by
  cases subs with
  | nil => exact Nat.le_refl _
  | cons s r => rw [Nd.cnts]; show s.cnt ≤ _; omega
mutual
theorem Nd.piece_rel (h : StepRel C R) (P : Nums) : ∀ (n : Nd) (a b : Nat) (m : Mk), n.cnt ≤ C → R m (n.piece P a b m)
  | .mk k nm tx set subs, a, b, m, hc => by
    rw [Nd.cnt] at hc
    have hw := sub1_cnt subs
    rw [Nd.piece.eq_def]
    dsimp only
    have hone := fun a b m => Nd.piece1_rel h P subs a b m (by omega)
    split
    · exact h.refl m
    split
    · exact h.edge _ _ _ _ _ (by omega)
    split
    · exact h.edge _ _ _ _ _ (by omega)
    split
    · exact h.trans (h.edge _ _ _ _ _ (by omega)) (h.wait _ _ (Nat.le_trans hw hc))
    split
    · exact Nd.pieces_rel h P subs a b m (by omega)
    split
    · exact h.trans (h.trans (h.trans (h.trans (h.state _) (h.state _)) (h.empty _ _ _)) (Nd.palts_rel h P subs _ _ _ (by omega))) (h.empty _ _ _)
    split
    · have h1 := h.trans (h.trans (h.trans (h.trans (h.state m) (h.state _)) (h.empty _ a m.state.1)) (h.state _)) (h.alt _ m.state.1 (m.state.2.state.2.empty a m.state.1).state.1 m.state.2.state.1)
      have h2 := h.trans h1 (hone (m.state.2.state.2.empty a m.state.1).state.1 m.state.2.state.1 _)
      generalize Nd.piece1 P subs (m.state.2.state.2.empty a m.state.1).state.1 m.state.2.state.1 _ = m2 at *
      have h3 := h.trans h2 (h.trans (h.state m2) (h.alt _ m.state.1 m2.state.1 m.state.2.state.1))
      generalize m2.state.2.alt m.state.1 m2.state.1 m.state.2.state.1 = m3 at *
      split
      · exact h.trans h3 (h.empty _ _ _)
      · exact h.trans (h.trans h3 (h.empty _ _ _)) (h.empty _ _ _)
    split
    · exact h.trans (h.trans (h.trans (h.trans (h.trans (h.trans (h.state m) (h.state _)) (h.empty _ a m.state.1)) (h.state _)) (h.alt _ _ _ _)) (hone _ _ _)) (h.leaving _ _ _ _)
    split
    · exact h.trans (h.trans (h.trans (h.trans (h.trans (h.trans (h.state m) (h.state _)) (h.state _)) (h.empty _ a m.state.1)) (hone _ _ _)) (h.alt _ _ _ _)) (h.leaving _ _ _ _)
    · exact h.empty _ _ _
theorem Nd.piece1_rel (h : StepRel C R) (P : Nums) : ∀ (l : List Nd) (a b : Nat) (m : Mk), Nd.cnts l ≤ C → R m (Nd.piece1 P l a b m)
  | [], a, b, m, _ => by
    rw [Nd.piece1]
    split
    · exact h.refl m
    · exact h.empty _ _ _
  | s :: r, a, b, m, hc => by
    rw [Nd.cnts] at hc
    rw [Nd.piece1]
    exact Nd.piece_rel h P s a b m (by omega)
theorem Nd.pieces_rel (h : StepRel C R) (P : Nums) : ∀ (l : List Nd) (a b : Nat) (m : Mk), Nd.cnts l ≤ C → R m (Nd.pieces P l a b m)
  | [], _, _, m, _ => by rw [Nd.pieces]; exact h.refl m
  | s :: r, a, b, m, hc => by
    rw [Nd.cnts] at hc
    rw [Nd.pieces]
    split
    · exact Nd.piece_rel h P s a b m (by omega)
    · exact h.trans (h.trans (h.state m) (Nd.piece_rel h P s a m.state.1 _ (by omega))) (Nd.pieces_rel h P r m.state.1 b _ (by omega))
theorem Nd.palts_rel (h : StepRel C R) (P : Nums) : ∀ (l : List Nd) (e d : Nat) (m : Mk), Nd.cnts l ≤ C → R m (Nd.palts P l e d m)
  | [], _, _, m, _ => by rw [Nd.palts]; exact h.refl m
  | s :: r, e, d, m, hc => by
    rw [Nd.cnts] at hc
    rw [Nd.palts]
    exact h.trans (h.trans (h.trans (h.state m) (h.alt _ d m.state.1 e)) (Nd.piece_rel h P s m.state.1 e _ (by omega))) (Nd.palts_rel h P r e d _ (by omega))
end
end

/-- nodes that wait are small -/
def Mk.WSmall (C : Nat) (m : Mk) : Prop := ∀ x ∈ m.waits, x.2.cnt ≤ C
theorem wsmall_rel (C : Nat) : StepRel C fun m m' => m.WSmall C → m'.WSmall C where
  refl _ h := h
  trans h g x := g (h x)
  state m h := by
    unfold Mk.state
    split <;> exact h
  edge m a kd wh b _ h := by
    unfold Mk.edge
    split <;> exact h
  alt m d x e h := by
    unfold Mk.alt Mk.empty Mk.edge
    split <;> exact h
  wait m n hn h x hx := by
    rcases List.mem_append.1 hx with hx | hx
    · exact h x hx
    · have : x = (m.rule, n) := by simpa using hx
      rw [this]; exact hn
/-- kinds of edges are four -/
def Net.Kinds3 (N : Net) : Prop := ∀ s ∈ N.states, ∀ e ∈ s.edges, 0 ≤ e.kind ∧ e.kind ≤ 3
theorem mem_modify {α : Type} {l : List α} {a : Nat} {f : α → α} {s : α} (h : s ∈ l.modify a f) : s ∈ l ∨ ∃ t ∈ l, s = f t := by
  obtain ⟨i, hi, rfl⟩ := List.mem_iff_getElem.1 h
  have hi' : i < l.length := by simpa using hi
  rw [List.getElem_modify]
  split
  · exact .inr ⟨l[i], List.getElem_mem hi', rfl⟩
  · exact .inl (List.getElem_mem hi')
theorem kinds_rel (C : Nat) : StepRel C fun m m' => m.N.Kinds3 → m'.N.Kinds3 where
  refl _ h := h
  trans h g x := g (h x)
  state m h := by
    unfold Mk.state
    split
    · exact h
    · intro s hs e he
      rcases List.mem_append.1 hs with hs | hs
      · exact h s hs e he
      · have : s = ⟨m.rule, [], []⟩ := by simpa using hs
        rw [this] at he; simp at he
  edge m a kd wh b hk h := by
    unfold Mk.edge
    split
    · exact h
    · intro s hs e he
      rcases mem_modify hs with hs | ⟨t, ht, rfl⟩
      · exact h s hs e he
      · rcases List.mem_append.1 he with he | he
        · exact h t ht e he
        · have : e = ⟨kd, wh, b⟩ := by simpa using he
          rw [this]; exact hk
  alt m d x e h := by
    have h1 : (m.empty d x).N.Kinds3 := by
      unfold Mk.empty Mk.edge
      split
      · exact h
      · intro s hs e he
        rcases mem_modify hs with hs | ⟨t, ht, rfl⟩
        · exact h s hs e he
        · rcases List.mem_append.1 he with he | he
          · exact h t ht e he
          · have : e = ⟨0, 0, x⟩ := by simpa using he
            rw [this]; exact ⟨Int.le_refl 0, (by decide : (0 : Int) ≤ 3)⟩
    unfold Mk.alt
    split
    · exact h1
    · intro s hs e he
      rcases mem_modify hs with hs | ⟨t, ht, rfl⟩
      · exact h1 s hs e he
      · exact h1 t ht e he
  wait m n _ h := h

/-! ### Build -/
def Mk.m0 : Mk := ⟨0, ⟨[], [], [], [], []⟩, [], 0, false⟩
def Mk.setRule (m : Mk) (r : Int) : Mk := { m with rule := r }
def Mk.addSS (m : Mk) (a b : Nat) : Mk := { m with N := { m.N with starts := m.N.starts ++ [(a : Int)], stops := m.N.stops ++ [(b : Int)] } }
def Mk.addPred (m : Mk) (a : Nat) : Mk := { m with N := { m.N with preds := m.N.preds ++ [(a : Int)] } }
def Mk.addDec (m : Mk) (i : Nat) : Mk := { m with N := { m.N with decisions := m.N.decisions ++ [(i : Int)] } }
/-- the body of a rule -/
def Gr.body (g : Gr) (x : Int) : Nd := match g.rules[x.toNat]? with
  | some r => r.body
  | none => noNd
def Mk.ruleStep (P : Nums) (body : Nd) (i : Int) (m : Mk) : Mk :=
  body.piece P (m.setRule i).state.1 (m.setRule i).state.2.state.1 ((m.setRule i).state.2.state.2.addSS (m.setRule i).state.1 (m.setRule i).state.2.state.1)
def Mk.rulesTo (P : Nums) (g : Gr) (l : List Int) : Nat → Mk
  | 0 => Mk.m0
  | j + 1 => (Mk.rulesTo P g l j).ruleStep P (g.body ((l[j]?).getD 0)) j
def Mk.waitStep (P : Nums) (m : Mk) : Mk := match m.waits with
  | [] => m
  | x :: _ => x.2.piece P (m.dropWait.setRule x.1).state.1 (m.dropWait.setRule x.1).state.2.state.1 ((m.dropWait.setRule x.1).state.2.state.2.addPred (m.dropWait.setRule x.1).state.1)
/-- waits are worked off -/
inductive Mk.Wts (P : Nums) (m : Mk) : Mk → Prop
  | refl : Mk.Wts P m m
  | step {m'} (h : Mk.Wts P m m') (hf : m'.full = false) (hw : m'.waits ≠ []) : Mk.Wts P m (m'.waitStep P)
def Mk.decsTo (m : Mk) : Nat → Mk
  | 0 => m
  | i + 1 => if 0 < (m.N.ends i).length then (Mk.decsTo m i).addDec i else Mk.decsTo m i
/-- what Build makes -/
def Built (P : Nums) (g : Gr) (rules : List Int) (m : Mk) : Prop := Mk.Wts P (Mk.rulesTo P g rules rules.length) m ∧ (m.full = true ∨ m.waits = [])
end Go.Proofs.YtiiffcmojkdlaaaGreatDoor

/- What holds of the whole net that Build makes: each state belongs to a rule, from each beginning its end is reached, nothing but an end is without an edge, no edge leads to a beginning. No program in sight. -/
namespace Go.Proofs.YtiiffcmojkdlaaaGreatDoor
theorem Nd.piece_ss (P : Nums) (n : Nd) (a b : Nat) (m : Mk) : (n.piece P a b m).N.starts = m.N.starts ∧ (n.piece P a b m).N.stops = m.N.stops ∧ (n.piece P a b m).N.preds = m.N.preds ∧ (n.piece P a b m).N.decisions = m.N.decisions := by
  have h := Nd.piece_le P n a b m
  exact ⟨h.starts, h.stops, h.preds, h.decs⟩
/- DEV -/
/-- a state of the same rule, no beginning -/
def Fwd (m : Mk) (bs : List Nat) (q : Nat) (t : Int) : Prop := ∃ j : Nat, t = (j : Int) ∧ j < m.len ∧ (m.st j).rule = (m.st q).rule ∧ j ∉ bs
/-- the states, with these beginnings -/
structure Glob (NR : Nat) (bs : List Nat) (m : Mk) : Prop where
  part : ∀ q, q < m.len → PartOk NR m.many (m.st q).rule (Fwd m bs q) (m.st q)
  ends : ∀ q, q < m.len → (m.st q).ends = [] ∨ 2 ≤ (m.st q).ends.length
  over : ∀ q, q < m.len → ((m.st q).edges = [] ↔ ∃ b ∈ bs, q = b + 1)
  path : ∀ b ∈ bs, b + 1 < m.len ∧ Path m b (b + 1) ∧ (m.st (b + 1)).rule = (m.st b).rule
section
variable {P : Nums} {NR : Nat}
theorem glob_group {bs : List Nat} {m m3 m4 : Mk} {R : Int} (h : Glob NR bs m) (h1 : m3.len = m.len + 2) (h2 : ∀ q, q < m.len → m3.st q = m.st q) (h3 : m3.st m.len = ⟨R, [], []⟩) (h4 : m3.st (m.len + 1) = ⟨R, [], []⟩) (h5 : m3.rule = R) (h6 : m3.many = m.many)
    (hp : Pc P NR m.len (m.len + 1) m3 m4) : Glob NR (m.len :: bs) m4 ∧ (∀ q, q < m.len → m4.st q = m.st q) ∧ (∀ q, m.len ≤ q → q < m4.len → (m4.st q).rule = R) := by
  have hle := hp.inv.le
  have hk := hp.inv.many
  have hold : ∀ q, q < m.len → m4.st q = m.st q := fun q hq => by rw [hp.inv.old q (by omega) (by omega), h2 q hq]
  obtain ⟨es, fs, e1, e2, e3⟩ := hp.inv.atA
  have hends := hp.ends
  rw [h3] at e1 hends
  simp only [List.nil_append] at e1
  have hfs : fs = [] := by rw [e1] at hends; exact hends
  subst hfs
  have hb : m4.st (m.len + 1) = ⟨R, [], []⟩ := by rw [hp.inv.old _ (by omega) (by omega), h4]
  have hbs : ∀ b ∈ bs, b + 1 < m.len := fun b hb => (h.path b hb).1
  have hrule : ∀ q, m.len ≤ q → q < m4.len → (m4.st q).rule = R := fun q q1 q2 => by
    by_cases qa : q = m.len
    · subst qa; rw [e1]
    · by_cases qb : q = m.len + 1
      · subst qb; rw [hb]
      · rw [(hp.inv.part q (by omega) q2).rule, h5]
  have htg : ∀ (q : Nat) (t : Int), m.len ≤ q → q < m4.len → Tg m3.len m4.len (m.len + 1) t → Fwd m4 (m.len :: bs) q t := by
    intro q t q1 q2 ht
    obtain ⟨j, rfl, j1, j2⟩ : ∃ j : Nat, t = (j : Int) ∧ m.len + 1 ≤ j ∧ j < m4.len := by
      rcases ht with ⟨t1, t2⟩ | rfl
      · exact ⟨t.toNat, by omega, by omega, by omega⟩
      · exact ⟨m.len + 1, rfl, Nat.le_refl _, by omega⟩
    refine ⟨j, rfl, j2, by rw [hrule j (by omega) j2, hrule q q1 q2], fun hj => ?_⟩
    rcases List.mem_cons.1 hj with hj | hj
    · omega
    · have := hbs j hj; omega
  have hgr : Grows m m4 := fun q => by
    by_cases hq : q < m.len
    · exact ⟨[], by rw [hold q hq]; simp⟩
    · exact ⟨(m4.st q).edges, by rw [st_past m q (by omega)]; simp⟩
  refine ⟨⟨fun q hq => ?_, fun q hq => ?_, fun q hq => ?_, fun b hbm => ?_⟩, hold, hrule⟩
  · by_cases q1 : q < m.len
    · rw [hold q q1]
      refine (h.part q q1).mono (by omega) fun t ⟨j, t1, t2, t3, t4⟩ => ⟨j, t1, by omega, by rw [hold j t2, hold q q1, t3], fun hj => ?_⟩
      rcases List.mem_cons.1 hj with hj | hj
      · omega
      · exact t4 hj
    · by_cases qa : q = m.len
      · subst qa
        rw [e1]
        refine ⟨rfl, fun e he => ⟨(e2 e he).1, htg _ _ (Nat.le_refl _) hq (e2 e he).2⟩, .inl rfl, by simp⟩
      · by_cases qb : q = m.len + 1
        · subst qb
          rw [hb]
          exact ⟨rfl, by simp, .inl rfl, by simp⟩
        · have := hp.inv.part q (by omega) hq
          rw [← this.rule] at this
          exact this.mono (Nat.le_refl _) fun t ht => htg q t (by omega) hq ht
  · by_cases q1 : q < m.len
    · rw [hold q q1]; exact h.ends q q1
    · by_cases qa : q = m.len
      · subst qa; rw [e1]; exact .inl rfl
      · by_cases qb : q = m.len + 1
        · subst qb; rw [hb]; exact .inl rfl
        · exact (hp.inv.done q (by omega) hq (by simp)).2
  · by_cases q1 : q < m.len
    · rw [hold q q1, h.over q q1]
      constructor
      · rintro ⟨b, b1, b2⟩
        exact ⟨b, List.mem_cons_of_mem _ b1, b2⟩
      · rintro ⟨b, b1, b2⟩
        rcases List.mem_cons.1 b1 with b1 | b1
        · omega
        · exact ⟨b, b1, b2⟩
    · by_cases qb : q = m.len + 1
      · subst qb
        rw [hb]
        exact ⟨fun _ => ⟨m.len, by simp, rfl⟩, fun _ => rfl⟩
      · have hne : (m4.st q).edges ≠ [] := by
          by_cases qa : q = m.len
          · subst qa; exact hp.ne
          · exact (hp.inv.done q (by omega) hq (by simp)).1
        refine ⟨fun e => absurd e hne, ?_⟩
        rintro ⟨b, b1, b2⟩
        rcases List.mem_cons.1 b1 with b1 | b1
        · omega
        · have := hbs b b1; omega
  · rcases List.mem_cons.1 hbm with rfl | hbm
    · exact ⟨by omega, hp.path, by rw [hb, e1]⟩
    · obtain ⟨p1, p2, p3⟩ := h.path b hbm
      exact ⟨by omega, p2.mono hgr, by rw [hold _ p1, hold _ (by omega), p3]⟩

/-- the making, j rules done: who begins where, who waits -/
structure Whole (P : Nums) (NR j : Nat) (bs : List Nat) (m : Mk) : Prop where
  glob : Glob NR bs m
  nf : m.full = false
  rules : ∀ q, q < m.len → 0 ≤ (m.st q).rule ∧ (m.st q).rule < j
  wts : ∀ x ∈ m.waits, Fits P NR x.2 ∧ 0 ≤ x.1 ∧ x.1 < j
  many : m.many = m.N.preds.length + m.waits.length
  lens : m.N.starts.length = j ∧ m.N.stops.length = j
  ss : ∀ i < j, ∃ b ∈ bs, m.N.starts[i]? = some (b : Int) ∧ m.N.stops[i]? = some ((b + 1 : Nat) : Int) ∧ (m.st b).rule = i
  pp : ∀ p ∈ m.N.preds, ∃ b ∈ bs, p = (b : Int)
  all : ∀ b ∈ bs, (b : Int) ∈ m.N.starts ∨ (b : Int) ∈ m.N.preds
  decs : m.N.decisions = []

/-- two states more, of a rule -/
theorem two_states (m : Mk) (h : m.state.2.state.2.full = false) : m.full = false ∧ m.state.1 = m.len ∧ m.state.2.state.1 = m.len + 1 ∧ m.state.2.state.2.len = m.len + 2 ∧ (∀ q, q < m.len → m.state.2.state.2.st q = m.st q) ∧ m.state.2.state.2.st m.len = ⟨m.rule, [], []⟩ ∧ m.state.2.state.2.st (m.len + 1) = ⟨m.rule, [], []⟩ ∧
    m.state.2.state.2.rule = m.rule ∧ m.state.2.state.2.waits = m.waits ∧ m.state.2.state.2.many = m.many ∧ m.state.2.state.2.N.starts = m.N.starts ∧ m.state.2.state.2.N.stops = m.N.stops ∧ m.state.2.state.2.N.preds = m.N.preds ∧ m.state.2.state.2.N.decisions = m.N.decisions := by
  obtain ⟨n1, g1, g2, g3, g4, g5, g6⟩ := state_facts m.state.2 h
  obtain ⟨n0, f1, f2, f3, f4, f5, f6⟩ := state_facts m n1
  have hN : ∀ m : Mk, m.state.2.N.starts = m.N.starts ∧ m.state.2.N.stops = m.N.stops ∧ m.state.2.N.preds = m.N.preds ∧ m.state.2.N.decisions = m.N.decisions := fun m => by
    unfold Mk.state
    split <;> exact ⟨rfl, rfl, rfl, rfl⟩
  obtain ⟨s1, s2, s3, s4⟩ := hN m
  obtain ⟨t1, t2, t3, t4⟩ := hN m.state.2
  refine ⟨n0, f1, by rw [g1, f2], by rw [g2, f2], fun q hq => by rw [g3, if_neg (by omega), f3, if_neg (by omega)], by rw [g3, if_neg (by omega), f3, if_pos rfl], by rw [g3, if_pos (by omega), f4], g4.trans f4, g5.trans f5, g6.trans f6, t1.trans s1, t2.trans s2, t3.trans s3, t4.trans s4⟩

theorem whole_rule {j : Nat} {bs : List Nat} {m : Mk} (h : Whole P NR j bs m) {body : Nd} (hF : Fits P NR body) (hf : (m.ruleStep P body j).full = false) : ∃ bs', Whole P NR (j + 1) bs' (m.ruleStep P body j) := by
  unfold Mk.ruleStep at *
  have n3 := Nd.piece_nf P _ _ _ _ hf
  have n2 : (m.setRule j).state.2.state.2.full = false := n3
  obtain ⟨-, a1, a2, a3, a4, a5, a6, a7, a8, a9, s1, s2, s3, s4⟩ := two_states (m.setRule j) n2
  rw [a1, a2] at hf ⊢
  simp only [show (m.setRule j).len = m.len from rfl] at a3 a4 a5 a6 hf ⊢
  obtain ⟨m3, hm3⟩ : ∃ m3, (m.setRule j).state.2.state.2.addSS m.len (m.len + 1) = m3 := ⟨_, rfl⟩
  rw [hm3] at hf ⊢
  have st3 : ∀ q, m3.st q = (m.setRule j).state.2.state.2.st q := fun q => by rw [← hm3]; rfl
  have b3 : m3.len = m.len + 2 := by rw [← a3, ← hm3]; rfl
  have b4 : ∀ q, q < m.len → m3.st q = m.st q := fun q hq => by rw [st3, a4 q hq]; rfl
  have b5 : m3.st m.len = ⟨j, [], []⟩ := by rw [st3, a5]; rfl
  have b6 : m3.st (m.len + 1) = ⟨j, [], []⟩ := by rw [st3, a6]; rfl
  have b7 : m3.rule = j := by rw [← hm3]; exact a7
  have b8 : m3.waits = m.waits := by rw [← hm3]; exact a8
  have b9 : m3.many = m.many := by rw [← hm3]; exact a9
  have t1 : m3.N.starts = m.N.starts ++ [(m.len : Int)] := by rw [← hm3]; show (m.setRule j).state.2.state.2.N.starts ++ _ = _; rw [s1]; rfl
  have t2 : m3.N.stops = m.N.stops ++ [((m.len + 1 : Nat) : Int)] := by rw [← hm3]; show (m.setRule j).state.2.state.2.N.stops ++ _ = _; rw [s2]; rfl
  have t3 : m3.N.preds = m.N.preds := by rw [← hm3]; exact s3
  have t4 : m3.N.decisions = m.N.decisions := by rw [← hm3]; exact s4
  have hp := Nd.piece_inv (P := P) (NR := NR) body m.len (m.len + 1) m3 hF (by omega) hf
  obtain ⟨u1, u2, u3, u4⟩ := Nd.piece_ss P body m.len (m.len + 1) m3
  generalize Nd.piece P body m.len (m.len + 1) m3 = m4 at *
  obtain ⟨g1, g2, g3⟩ := glob_group h.glob b3 b4 b5 b6 b7 b9 hp
  obtain ⟨ws, w1, w2, w3⟩ := hp.inv.wts
  have hle := hp.inv.le
  refine ⟨m.len :: bs, ⟨g1, hf, fun q hq => ?_, fun x hx => ?_, ?_, ?_, fun i hi => ?_, fun p hpm => ?_, fun b hb => ?_, by rw [u4, t4, h.decs]⟩⟩
  · by_cases hq2 : q < m.len
    · rw [g2 q hq2]; have := h.rules q hq2; omega
    · rw [g3 q (by omega) hq]; omega
  · rw [w1, b8] at hx
    rcases List.mem_append.1 hx with hx | hx
    · have := h.wts x hx; exact ⟨this.1, this.2.1, by omega⟩
    · have := w3 x hx
      rw [b7] at this
      exact ⟨this.2, by omega, by omega⟩
  · rw [w2, b9, u3, t3, w1, b8, List.length_append, h.many]; omega
  · rw [u1, u2, t1, t2, List.length_append, List.length_append, h.lens.1, h.lens.2]; exact ⟨rfl, rfl⟩
  · rw [u1, u2, t1, t2]
    by_cases hij : i < j
    · obtain ⟨b, c1, c2, c3, c4⟩ := h.ss i hij
      have := (h.glob.path b c1).1
      exact ⟨b, List.mem_cons_of_mem _ c1, by rw [List.getElem?_append_left (by rw [h.lens.1]; exact hij)]; exact c2, by rw [List.getElem?_append_left (by rw [h.lens.2]; exact hij)]; exact c3, by rw [g2 b (by omega)]; exact c4⟩
    · obtain rfl : i = j := by omega
      refine ⟨m.len, by simp, ?_, ?_, g3 _ (Nat.le_refl _) (by omega)⟩
      · rw [List.getElem?_append_right (by rw [h.lens.1]; exact Nat.le_refl _), h.lens.1]; simp
      · rw [List.getElem?_append_right (by rw [h.lens.2]; exact Nat.le_refl _), h.lens.2]; simp
  · rw [u3, t3] at hpm
    obtain ⟨b, c1, c2⟩ := h.pp p hpm
    exact ⟨b, List.mem_cons_of_mem _ c1, c2⟩
  · rw [u1, u3, t1, t3]
    rcases List.mem_cons.1 hb with rfl | hb
    · exact .inl (by simp)
    · exact (h.all b hb).imp (List.mem_append_left _) id
theorem whole_wait {j : Nat} {bs : List Nat} {m : Mk} (h : Whole P NR j bs m) (hw : m.waits ≠ []) (hf : (m.waitStep P).full = false) : ∃ bs', Whole P NR j bs' (m.waitStep P) := by
  unfold Mk.waitStep at *
  cases hx : m.waits with
  | nil => exact absurd hx hw
  | cons x r =>
  rw [hx] at hf
  dsimp only at hf ⊢
  have hxw := h.wts x (by rw [hx]; simp)
  have n3 := Nd.piece_nf P _ _ _ _ hf
  have n2 : (m.dropWait.setRule x.1).state.2.state.2.full = false := n3
  obtain ⟨-, a1, a2, a3, a4, a5, a6, a7, a8, a9, s1, s2, s3, s4⟩ := two_states (m.dropWait.setRule x.1) n2
  rw [a1, a2] at hf ⊢
  rw [a1] at n3
  simp only [show (m.dropWait.setRule x.1).len = m.len from rfl] at a3 a4 a5 a6 hf n3 ⊢
  obtain ⟨m3, hm3⟩ : ∃ m3, (m.dropWait.setRule x.1).state.2.state.2.addPred m.len = m3 := ⟨_, rfl⟩
  rw [hm3] at hf n3 ⊢
  have st3 : ∀ q, m3.st q = (m.dropWait.setRule x.1).state.2.state.2.st q := fun q => by rw [← hm3]; rfl
  have b3 : m3.len = m.len + 2 := by rw [← a3, ← hm3]; rfl
  have b4 : ∀ q, q < m.len → m3.st q = m.st q := fun q hq => by rw [st3, a4 q hq]; rfl
  have b5 : m3.st m.len = ⟨x.1, [], []⟩ := by rw [st3, a5]; rfl
  have b6 : m3.st (m.len + 1) = ⟨x.1, [], []⟩ := by rw [st3, a6]; rfl
  have b7 : m3.rule = x.1 := by rw [← hm3]; exact a7
  have b8 : m3.waits = r := by rw [← hm3]; exact a8.trans (by show m.waits.tail = r; rw [hx]; rfl)
  have b9 : m3.many = m.many := by rw [← hm3]; exact a9
  have t1 : m3.N.starts = m.N.starts := by rw [← hm3]; exact s1
  have t2 : m3.N.stops = m.N.stops := by rw [← hm3]; exact s2
  have t3 : m3.N.preds = m.N.preds ++ [(m.len : Int)] := by rw [← hm3]; show (m.dropWait.setRule x.1).state.2.state.2.N.preds ++ _ = _; rw [s3]; rfl
  have t4 : m3.N.decisions = m.N.decisions := by rw [← hm3]; exact s4
  have hp := Nd.piece_inv (P := P) (NR := NR) x.2 m.len (m.len + 1) m3 hxw.1 (by omega) hf
  obtain ⟨u1, u2, u3, u4⟩ := Nd.piece_ss P x.2 m.len (m.len + 1) m3
  generalize Nd.piece P x.2 m.len (m.len + 1) m3 = m4 at *
  obtain ⟨g1, g2, g3⟩ := glob_group h.glob b3 b4 b5 b6 b7 b9 hp
  obtain ⟨ws, w1, w2, w3⟩ := hp.inv.wts
  have hle := hp.inv.le
  have hmany := h.many
  rw [hx, List.length_cons] at hmany
  refine ⟨m.len :: bs, ⟨g1, hf, fun q hq => ?_, fun y hy => ?_, ?_, ?_, fun i hi => ?_, fun p hpm => ?_, fun b hb => ?_, by rw [u4, t4, h.decs]⟩⟩
  · by_cases hq2 : q < m.len
    · rw [g2 q hq2]; exact h.rules q hq2
    · rw [g3 q (by omega) hq]; exact ⟨hxw.2.1, hxw.2.2⟩
  · rw [w1, b8] at hy
    rcases List.mem_append.1 hy with hy | hy
    · exact h.wts y (by rw [hx]; exact List.mem_cons_of_mem _ hy)
    · have := w3 y hy
      rw [b7] at this
      exact ⟨this.2, by rw [this.1]; exact hxw.2.1, by rw [this.1]; exact hxw.2.2⟩
  · rw [w2, b9, u3, t3, w1, b8, List.length_append, List.length_append, List.length_singleton]; omega
  · rw [u1, u2, t1, t2]; exact h.lens
  · rw [u1, u2, t1, t2]
    obtain ⟨b, c1, c2, c3, c4⟩ := h.ss i hi
    have := (h.glob.path b c1).1
    exact ⟨b, List.mem_cons_of_mem _ c1, c2, c3, by rw [g2 b (by omega)]; exact c4⟩
  · rw [u3, t3] at hpm
    rcases List.mem_append.1 hpm with hpm | hpm
    · obtain ⟨b, c1, c2⟩ := h.pp p hpm
      exact ⟨b, List.mem_cons_of_mem _ c1, c2⟩
    · exact ⟨m.len, by simp, by simpa using hpm⟩
  · rw [u1, u3, t1, t3]
    rcases List.mem_cons.1 hb with rfl | hb
    · exact .inr (by simp)
    · exact (h.all b hb).imp id (List.mem_append_left _)
theorem whole_start : Whole P NR 0 [] Mk.m0 :=
  ⟨⟨fun q h => absurd h (by simp [Mk.m0, Mk.len]), fun q h => absurd h (by simp [Mk.m0, Mk.len]), fun q h => absurd h (by simp [Mk.m0, Mk.len]), fun b h => absurd h (by simp)⟩, rfl, fun q h => absurd h (by simp [Mk.m0, Mk.len]), fun x h => absurd h (by simp [Mk.m0]), rfl, ⟨rfl, rfl⟩, fun i h => by omega, fun p h => absurd h (by simp [Mk.m0]), fun b h => absurd h (by simp), rfl⟩
theorem whole_rules {g : Gr} {l : List Int} (hF : ∀ x ∈ l, Fits P NR (g.body x)) : ∀ j, j ≤ l.length → (Mk.rulesTo P g l j).full = false → ∃ bs, Whole P NR j bs (Mk.rulesTo P g l j)
  | 0, _, _ => ⟨[], whole_start⟩
  | j + 1, hj, hf => by
    rw [Mk.rulesTo] at hf ⊢
    have n1 : (Mk.rulesTo P g l j).full = false := by
      unfold Mk.ruleStep at hf
      have n2 : ((Mk.rulesTo P g l j).setRule j).state.2.state.2.full = false := Nd.piece_nf P _ _ _ (((Mk.rulesTo P g l j).setRule j).state.2.state.2.addSS _ _) hf
      exact (two_states ((Mk.rulesTo P g l j).setRule j) n2).1
    obtain ⟨bs, h⟩ := whole_rules hF j (by omega) n1
    rw [List.getElem?_eq_getElem (by omega)] at hf ⊢
    exact whole_rule h (hF _ (List.getElem_mem _)) hf
theorem whole_wts {j : Nat} {m m' : Mk} (hw : Mk.Wts P m m') (hf : m'.full = false) (h : m.full = false → ∃ bs, Whole P NR j bs m) : ∃ bs, Whole P NR j bs m' := by
  induction hw with
  | refl => exact h hf
  | step _ hnf hne ih =>
    obtain ⟨bs, hb⟩ := ih hnf
    exact whole_wait hb hne hf
/-- what is built -/
theorem built_whole {g : Gr} {l : List Int} {m : Mk} (hb : Built P g l m) (hf : m.full = false) (hF : ∀ x ∈ l, Fits P NR (g.body x)) : (∃ bs, Whole P NR l.length bs m) ∧ m.waits = [] :=
  ⟨whole_wts hb.1 hf fun h => whole_rules hF l.length (Nat.le_refl _) h, hb.2.resolve_left (by rw [hf]; simp)⟩
end
end Go.Proofs.YtiiffcmojkdlaaaGreatDoor
