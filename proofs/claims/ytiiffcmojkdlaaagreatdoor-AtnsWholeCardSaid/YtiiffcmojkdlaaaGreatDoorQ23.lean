/- How much a making grows: plain laws of the mirror. No program in sight. -/
import Derived.Test.YtiiffcmojkdlaaaGreatDoorQ22
import Derived.Test.YtiiffcmojkdlaaaGreatDoorQ17
namespace Go.Proofs.YtiiffcmojkdlaaaGreatDoor

/-- m' is m, made on, with k edges more at a state at most -/
structure Mk.Le (k : Nat) (m m' : Mk) : Prop where
  full : m.full = true → m'.full = true
  len : m.N.states.length ≤ m'.N.states.length
  cap : m.N.states.length ≤ 4096 → m'.N.states.length ≤ 4096
  edges : ∀ q, (m'.N.edges q).length ≤ (m.N.edges q).length + k
  ends : ∀ q, (m'.N.ends q).length ≤ (m.N.ends q).length + k
  many : m'.many ≤ m.many + k
  waits : m'.waits.length ≤ m.waits.length + k
  rule : m'.rule = m.rule
  starts : m'.N.starts = m.N.starts
  stops : m'.N.stops = m.N.stops
  preds : m'.N.preds = m.N.preds
  decs : m'.N.decisions = m.N.decisions
theorem Mk.Le.refl (m : Mk) : Mk.Le 0 m m := ⟨id, Nat.le_refl _, id, fun _ => Nat.le_refl _, fun _ => Nat.le_refl _, Nat.le_refl _, Nat.le_refl _, rfl, rfl, rfl, rfl, rfl⟩
theorem Mk.Le.trans {k j : Nat} {a b c : Mk} (h : Mk.Le k a b) (g : Mk.Le j b c) : Mk.Le (k + j) a c :=
  ⟨fun x => g.full (h.full x), Nat.le_trans h.len g.len, fun x => g.cap (h.cap x), fun q => by have := h.edges q; have := g.edges q; omega, fun q => by have := h.ends q; have := g.ends q; omega, by have := h.many; have := g.many; omega, by have := h.waits; have := g.waits; omega,
    g.rule.trans h.rule, g.starts.trans h.starts, g.stops.trans h.stops, g.preds.trans h.preds, g.decs.trans h.decs⟩
theorem Mk.Le.mono {k j : Nat} {a b : Mk} (h : Mk.Le k a b) (hk : k ≤ j) : Mk.Le j a b :=
  ⟨h.full, h.len, h.cap, fun q => by have := h.edges q; omega, fun q => by have := h.ends q; omega, by have := h.many; omega, by have := h.waits; omega, h.rule, h.starts, h.stops, h.preds, h.decs⟩
theorem edges_past {N : Net} {q : Nat} (h : N.states.length ≤ q) : N.edges q = [] := by unfold Net.edges; rw [List.getElem?_eq_none h]; rfl
theorem ends_past {N : Net} {q : Nat} (h : N.states.length ≤ q) : N.ends q = [] := by unfold Net.ends; rw [List.getElem?_eq_none h]; rfl
theorem Mk.state_le (m : Mk) : Mk.Le 0 m m.state.2 := by
  unfold Mk.state
  cases h : (m.full || decide (maxStates ≤ m.N.states.length))
  · rw [Bool.or_eq_false_iff, decide_eq_false_iff_not] at h
    unfold maxStates at h
    refine ⟨fun x => by simpa using x, by simp, fun _ => by simp; omega, fun q => ?_, fun q => ?_, Nat.le_refl _, Nat.le_refl _, rfl, rfl, rfl, rfl, rfl⟩
    · unfold Net.edges
      simp only [Bool.false_eq_true, if_false]
      by_cases hq : q < m.N.states.length
      · rw [List.getElem?_append_left hq]; exact Nat.le_add_right _ _
      · rw [List.getElem?_append_right (by omega)]
        rcases Nat.eq_zero_or_pos (q - m.N.states.length) with e | e
        · rw [e]; simp
        · rw [List.getElem?_eq_none (by simp; omega)]; simp
    · unfold Net.ends
      simp only [Bool.false_eq_true, if_false]
      by_cases hq : q < m.N.states.length
      · rw [List.getElem?_append_left hq]; exact Nat.le_add_right _ _
      · rw [List.getElem?_append_right (by omega)]
        rcases Nat.eq_zero_or_pos (q - m.N.states.length) with e | e
        · rw [e]; simp
        · rw [List.getElem?_eq_none (by simp; omega)]; simp
  · exact ⟨fun _ => rfl, Nat.le_refl _, id, fun _ => Nat.le_refl _, fun _ => Nat.le_refl _, Nat.le_refl _, Nat.le_refl _, rfl, rfl, rfl, rfl, rfl⟩
/-- a new state is one, or all is full -/
theorem Mk.state_new (m : Mk) : m.state.2.full = true ∨ m.state.1 < m.state.2.N.states.length := by
  unfold Mk.state
  cases h : (m.full || decide (maxStates ≤ m.N.states.length))
  · right; simp
  · left; rfl
theorem Mk.edge_le (m : Mk) (a : Nat) (kd wh : Int) (b : Nat) : Mk.Le 1 m (m.edge a kd wh b) := by
  unfold Mk.edge
  split
  · exact (Mk.Le.refl m).mono (by omega)
  · refine ⟨id, by simp, fun h => by simpa using h, fun q => ?_, fun q => ?_, by simp, by simp, rfl, rfl, rfl, rfl, rfl⟩
    · by_cases ha : a < m.N.states.length
      · rw [mod_edges m.N a q _ ha]
        split
        · rename_i e; subst e; simp
        · omega
      · rw [List.modify_eq_self (by omega)]
        exact Nat.le_add_right _ _
    · rw [mod_edges_ends]; omega
theorem Mk.empty_le (m : Mk) (a b : Nat) : Mk.Le 1 m (m.empty a b) := m.edge_le a 0 0 b
theorem Mk.alt_le (m : Mk) (d x e : Nat) : Mk.Le 1 m (m.alt d x e) := by
  unfold Mk.alt
  have h1 := m.empty_le d x
  split
  · exact h1
  · rename_i hf
    have hz : ∀ q, (m.empty d x).N.ends q = m.N.ends q := fun q => by
      unfold Mk.empty Mk.edge
      split
      · rfl
      · exact mod_edges_ends m.N d q _
    refine ⟨h1.full, by simpa using h1.len, fun h => by simpa using h1.cap h, fun q => ?_, fun q => ?_, h1.many, h1.waits, h1.rule, h1.starts, h1.stops, h1.preds, h1.decs⟩
    · rw [mod_ends_edges]; exact h1.edges q
    · by_cases hd : d < (m.empty d x).N.states.length
      · rw [mod_ends (m.empty d x).N d q _ hd]
        split
        · rename_i e; subst e; rw [hz]; simp
        · rw [hz]; omega
      · rw [List.modify_eq_self (by omega)]
        show ((m.empty d x).N.ends q).length ≤ _
        rw [hz]; omega
theorem Mk.leaving_le (m : Mk) (d e b : Nat) : Mk.Le 3 m (m.leaving d e b) := by
  unfold Mk.leaving
  exact (((m.state_le).trans (Mk.alt_le _ _ _ _)).trans (Mk.empty_le _ _ _)).trans (Mk.empty_le _ _ _)
theorem Mk.wait_le (m : Mk) (n : Nd) : Mk.Le 1 m (m.wait n) :=
  ⟨id, Nat.le_refl _, id, fun _ => Nat.le_add_right _ _, fun _ => Nat.le_add_right _ _, Nat.le_refl _, by simp [Mk.wait], rfl, rfl, rfl, rfl, rfl⟩
mutual
/-- how many steps a node's piece takes, at the most -/
def Nd.req : Nd → Nat
  | .mk k _ _ _ subs => if k = 1 ∧ subs.length = 0 then 1 else 9 + Nd.reqs subs
def Nd.reqs : List Nd → Nat
  | [] => 0
  | n :: r => 1 + n.req + Nd.reqs r
end
theorem Nd.reqs_snoc (l : List Nd) (n : Nd) : Nd.reqs (l ++ [n]) = Nd.reqs l + (1 + n.req) := by
  induction l with
  | nil => simp [Nd.reqs]
  | cons x r ih => simp only [List.cons_append, Nd.reqs, ih]; omega
theorem Nd.reqs_take (l : List Nd) (k : Nat) (h : k < l.length) : Nd.reqs (l.take (k + 1)) = Nd.reqs (l.take k) + (1 + l[k].req) := by
  rw [List.take_succ_eq_append_getElem h, Nd.reqs_snoc]
theorem Nd.reqs_take_le (l : List Nd) (k : Nat) : Nd.reqs (l.take k) ≤ Nd.reqs l := by
  induction l generalizing k with
  | nil => simp [Nd.reqs]
  | cons x r ih =>
    cases k with
    | zero => simp [Nd.reqs]
    | succ k => have := ih k; simp only [List.take_succ_cons, Nd.reqs]; omega
theorem Nd.req_pos (n : Nd) : 0 < n.req := by cases n; rw [Nd.req]; split <;> omega
mutual
theorem Nd.req_le : ∀ n : Nd, n.req + 1 ≤ 10 * n.cnt
  | .mk k nm tx set subs => by have := Nd.reqs_le subs; rw [Nd.req, Nd.cnt]; split <;> omega
theorem Nd.reqs_le : ∀ l : List Nd, Nd.reqs l ≤ 10 * Nd.cnts l
  | [] => by simp [Nd.reqs, Nd.cnts]
  | n :: r => by have := Nd.req_le n; have := Nd.reqs_le r; rw [Nd.reqs, Nd.cnts]; omega
end

mutual
theorem Nd.piece_le (P : Nums) : ∀ (n : Nd) (a b : Nat) (m : Mk), Mk.Le n.req m (n.piece P a b m)
  | .mk k nm tx set subs, a, b, m => by
    have hpos := Nd.req_pos (.mk k nm tx set subs)
    have h9 : ¬(k = 1 ∧ subs.length = 0) → (Nd.mk k nm tx set subs).req = 9 + Nd.reqs subs := fun h => by rw [Nd.req, if_neg h]
    rw [Nd.piece.eq_def]
    dsimp only
    have hone := Nd.piece1_le P subs
    split
    · exact (Mk.Le.refl m).mono (by omega)
    split
    · exact (m.edge_le _ _ _ _).mono (by omega)
    split
    · exact (m.edge_le _ _ _ _).mono (by omega)
    split
    · rename_i hk
      exact ((m.edge_le _ _ _ _).trans (Mk.wait_le _ _)).mono (by have := h9 (by omega); omega)
    split
    · rename_i hk
      exact (Nd.pieces_le P subs a b m).mono (by have := h9 (by rintro ⟨_, h⟩; exact hk.2 (List.eq_nil_of_length_eq_zero h)); omega)
    split
    · rename_i hk
      exact ((((m.state_le).trans (Mk.state_le _)).trans (Mk.empty_le _ _ _)).trans (Nd.palts_le P subs _ _ _)).trans (Mk.empty_le _ _ _) |>.mono (by have := h9 (by omega); omega)
    split
    · rename_i hk
      have h9 := h9 (by omega)
      have h1 := ((((m.state_le).trans (Mk.state_le _)).trans (Mk.empty_le _ a m.state.1)).trans (Mk.state_le _)).trans (Mk.alt_le _ m.state.1 (m.state.2.state.2.empty a m.state.1).state.1 m.state.2.state.1)
      have h2 := h1.trans (hone (m.state.2.state.2.empty a m.state.1).state.1 m.state.2.state.1 _)
      generalize Nd.piece1 P subs (m.state.2.state.2.empty a m.state.1).state.1 m.state.2.state.1 _ = m2 at *
      have h3 := h2.trans ((m2.state_le).trans (Mk.alt_le _ m.state.1 m2.state.1 m.state.2.state.1))
      generalize m2.state.2.alt m.state.1 m2.state.1 m.state.2.state.1 = m3 at *
      split
      · exact (h3.trans (Mk.empty_le _ _ _)).mono (by omega)
      · exact ((h3.trans (Mk.empty_le _ _ _)).trans (Mk.empty_le _ _ _)).mono (by omega)
    split
    · rename_i hk
      have h9 := h9 (by omega)
      have h1 := ((((m.state_le).trans (Mk.state_le _)).trans (Mk.empty_le _ a m.state.1)).trans (Mk.state_le _)).trans (Mk.alt_le _ m.state.1 (m.state.2.state.2.empty a m.state.1).state.1 m.state.1)
      have h2 := h1.trans (hone (m.state.2.state.2.empty a m.state.1).state.1 m.state.1 _)
      exact (h2.trans (Mk.leaving_le _ _ _ _)).mono (by omega)
    split
    · rename_i hk
      have h9 := h9 (by omega)
      have h1 := (((m.state_le).trans (Mk.state_le _)).trans (Mk.state_le _)).trans (Mk.empty_le _ a m.state.1)
      have h2 := (h1.trans (hone m.state.1 m.state.2.state.1 _)).trans (Mk.alt_le _ m.state.2.state.1 m.state.1 m.state.2.state.1)
      exact (h2.trans (Mk.leaving_le _ _ _ _)).mono (by omega)
    · exact (m.empty_le _ _).mono (by omega)
theorem Nd.piece1_le (P : Nums) : ∀ (l : List Nd) (a b : Nat) (m : Mk), Mk.Le (1 + Nd.reqs l) m (Nd.piece1 P l a b m)
  | [], a, b, m => by
    rw [Nd.piece1]
    split
    · exact (Mk.Le.refl m).mono (by omega)
    · exact (m.empty_le _ _).mono (by omega)
  | s :: r, a, b, m => by
    rw [Nd.piece1, Nd.reqs]
    exact (Nd.piece_le P s a b m).mono (by omega)
theorem Nd.pieces_le (P : Nums) : ∀ (l : List Nd) (a b : Nat) (m : Mk), Mk.Le (Nd.reqs l) m (Nd.pieces P l a b m)
  | [], _, _, m => by rw [Nd.pieces]; exact (Mk.Le.refl m).mono (by omega)
  | s :: r, a, b, m => by
    rw [Nd.pieces, Nd.reqs]
    split
    · exact (Nd.piece_le P s a b m).mono (by omega)
    · exact (((m.state_le).trans (Nd.piece_le P s a m.state.1 _)).trans (Nd.pieces_le P r m.state.1 b _)).mono (by omega)
theorem Nd.palts_le (P : Nums) : ∀ (l : List Nd) (e d : Nat) (m : Mk), Mk.Le (Nd.reqs l) m (Nd.palts P l e d m)
  | [], _, _, m => by rw [Nd.palts]; exact (Mk.Le.refl m).mono (by omega)
  | s :: r, e, d, m => by
    rw [Nd.palts, Nd.reqs]
    exact ((((m.state_le).trans (Mk.alt_le _ d m.state.1 e)).trans (Nd.piece_le P s m.state.1 e _)).trans (Nd.palts_le P r e d _)).mono (by omega)
end

/-- room for k steps more -/
structure Mk.Slim (k : Nat) (m : Mk) : Prop where
  edges : ∀ q, (m.N.edges q).length + k ≤ 1000000000
  ends : ∀ q, (m.N.ends q).length + k ≤ 1000000000
  many : m.many + k ≤ 1000000000
  waits : m.waits.length + k ≤ 1000000000
  cap : m.N.states.length ≤ 4096
theorem Mk.Slim.next {k j : Nat} {m m' : Mk} (h : m.Slim (k + j)) (hl : Mk.Le k m m') : m'.Slim j :=
  ⟨fun q => by have := h.edges q; have := hl.edges q; omega, fun q => by have := h.ends q; have := hl.ends q; omega, by have := h.many; have := hl.many; omega, by have := h.waits; have := hl.waits; omega, hl.cap h.cap⟩
theorem Mk.Slim.mono {k j : Nat} {m : Mk} (h : m.Slim k) (hk : j ≤ k) : m.Slim j :=
  ⟨fun q => by have := h.edges q; omega, fun q => by have := h.ends q; omega, by have := h.many; omega, by have := h.waits; omega, h.cap⟩
/-- a state is one, or all is full -/
def Mk.has (m : Mk) (a : Nat) : Prop := m.full = true ∨ a < m.N.states.length
theorem Mk.has.next {k : Nat} {m m' : Mk} {a : Nat} (h : m.has a) (hl : Mk.Le k m m') : m'.has a := h.imp hl.full fun x => Nat.lt_of_lt_of_le x hl.len
theorem Mk.state_has (m : Mk) : m.state.2.has m.state.1 := m.state_new
end Go.Proofs.YtiiffcmojkdlaaaGreatDoor
