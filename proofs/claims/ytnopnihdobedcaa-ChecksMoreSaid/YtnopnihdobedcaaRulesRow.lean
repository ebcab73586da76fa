/- A row of rules as the call's own copy of it. -/
import Derived.Test.YtnopnihdobedcaaLives5
import Derived.Deep.AppendLies
namespace Go.Proofs.Ytnopnihdobedcaa
open Go.RowKit

/-- block b begins with these cells, and may be written -/
def OwnsPre (W : World) (b : Nat) (cs : List Value) (T : Nat) : Prop := ∃ tl, Owns W b (cs ++ tl) T
theorem OwnsPre.lt {W : World} {b : Nat} {cs : List Value} {T : Nat} (h : OwnsPre W b cs T) : b < W.heap.size := h.elim fun _ h => h.lt
theorem OwnsPre.cell {W : World} {b : Nat} {cs : List Value} {T : Nat} (h : OwnsPre W b cs T) {i : Nat} (hi : i < cs.length) : W.cell? ⟨b, i, none⟩ = cs[i]? := by
  obtain ⟨tl, h⟩ := h
  rw [h.cell, List.getElem?_append_left hi]
theorem OwnsPre.free {W : World} {b : Nat} {cs : List Value} {T : Nat} (h : OwnsPre W b cs T) (i : Nat) : W.frozen? ⟨b, i, none⟩ = false := h.elim fun _ h => h.free i
theorem OwnsPre.keep {W W' : World} {b : Nat} {cs : List Value} {T : Nat} (h : OwnsPre W b cs T) (hg : Grew W W') : OwnsPre W' b cs T := h.elim fun tl h => ⟨tl, h.keep hg⟩
theorem OwnsPre.set {W : World} {b : Nat} {cs : List Value} {T : Nat} (h : OwnsPre W b cs T) {i : Nat} (hi : i < cs.length) (v : Value) : OwnsPre (W.setCell ⟨b, i, none⟩ v) b (cs.set i v) T := by
  obtain ⟨tl, h⟩ := h
  refine ⟨tl, ?_⟩
  have := h.set i v
  rwa [List.set_append_left _ _ hi] at this
theorem OwnsPre.upd {W W' : World} {b t : Nat} {cs : List Value} {T : Nat} (h : OwnsPre W b cs T) (hg : Upd t W W') (hn : b ≠ t) : OwnsPre W' b cs T := h.elim fun tl h => ⟨tl, h.upd hg hn⟩
theorem OwnsPre.of_row {W : World} {base e n b cap : Nat} {size : Nat} {xs : List Value} (h : W.ownsRow base e size (.slice (some ⟨b, 0, none⟩) n cap) n xs) : OwnsPre W b xs e ∧ base ≤ b := by
  obtain ⟨h1, h2⟩ := h
  rcases h2 with ⟨h2, _⟩ | ⟨g, cap', cur, hv, hb, hg, h3, h4, h5, h6⟩
  · cases h2
  · have e1 : g = b := by simp at hv; exact hv.1.symm
    subst e1
    refine ⟨⟨cur.toList.drop (n * size), ?_⟩, hb⟩
    unfold Owns
    rw [← h6, List.take_append_drop]
    exact hg

/-- the cells of a row of rules -/
def RowsIs (W : World) (lim : Nat) (cs : List Value) (l : List Rl) : Prop :=
  cs.length = l.length * 10 ∧ ∀ k (h : k < l.length), RuleAt W lim (cs[k * 10]?) (cs[k * 10 + 1]?) (cs[k * 10 + 2]?) (cs[k * 10 + 3]?) (cs[k * 10 + 4]?) (cs[k * 10 + 5]?) (cs[k * 10 + 6]?) (cs[k * 10 + 7]?) (cs[k * 10 + 8]?) (cs[k * 10 + 9]?) l[k]

theorem RowsIs.keep {W W' : World} {lim : Nat} {cs : List Value} {l : List Rl} (h : RowsIs W lim cs l) (hb : Below lim W W') : RowsIs W' lim cs l := ⟨h.1, fun k hk => (h.2 k hk).keep hb⟩
theorem RowsIs.mono {W : World} {lim lim' : Nat} {cs : List Value} {l : List Rl} (h : RowsIs W lim cs l) (hl : lim ≤ lim') : RowsIs W lim' cs l := ⟨h.1, fun k hk => (h.2 k hk).mono hl⟩

theorem RulesAt.mk {W : World} {lim b : Nat} : ∀ {l : List Rl} {i : Nat}, b < lim → (∀ k (h : k < l.length), RuleAt W lim (W.cell? ⟨b, (i + k) * 10, none⟩) (W.cell? ⟨b, (i + k) * 10 + 1, none⟩) (W.cell? ⟨b, (i + k) * 10 + 2, none⟩) (W.cell? ⟨b, (i + k) * 10 + 3, none⟩) (W.cell? ⟨b, (i + k) * 10 + 4, none⟩)
      (W.cell? ⟨b, (i + k) * 10 + 5, none⟩) (W.cell? ⟨b, (i + k) * 10 + 6, none⟩) (W.cell? ⟨b, (i + k) * 10 + 7, none⟩) (W.cell? ⟨b, (i + k) * 10 + 8, none⟩) (W.cell? ⟨b, (i + k) * 10 + 9, none⟩) l[k]) → RulesAt W lim (some ⟨b, 0, none⟩) i l
  | [], _, _, _ => trivial
  | r :: l, i, hb, h => by
    refine ⟨⟨b, 0, rfl, hb, ?_⟩, RulesAt.mk hb fun k hk => ?_⟩
    · have := h 0 (by simp)
      simpa using this
    · have := h (k + 1) (by simpa using hk)
      have e : i + (k + 1) = i + 1 + k := by omega
      rw [e] at this
      simpa using this

/-- the rules, out of a block known by its cells -/
theorem RowsIs.at {W : World} {lim b T : Nat} {cs : List Value} {l : List Rl} (h : RowsIs W lim cs l) (ho : OwnsPre W b cs T) (hb : b < lim) : RulesAt W lim (some ⟨b, 0, none⟩) 0 l := by
  refine RulesAt.mk hb fun k hk => ?_
  have hl := h.1
  have h1 := h.2 k hk
  have hc : ∀ j, j < 10 → W.cell? ⟨b, (0 + k) * 10 + j, none⟩ = cs[k * 10 + j]? := fun j hj => by
    have hlt : k * 10 + j < cs.length := by rw [hl]; omega
    rw [Nat.zero_add]
    exact ho.cell hlt
  have h0 := hc 0 (by omega)
  simp only [Nat.add_zero] at h0
  rw [h0, hc 1 (by omega), hc 2 (by omega), hc 3 (by omega), hc 4 (by omega), hc 5 (by omega), hc 6 (by omega), hc 7 (by omega), hc 8 (by omega), hc 9 (by omega)]
  exact h1

/-- the cells of rules that lie in memory -/
theorem RulesAt.cells {W : World} {lim b off : Nat} : ∀ {l : List Rl} {i : Nat}, RulesAt W lim (some ⟨b, off, none⟩) i l →
    ∃ cs : List Value, RowsIs W lim cs l ∧ (∀ j u, cs[j]? = some u → W.cell? ⟨b, off + i * 10 + j, none⟩ = some u) ∧ ∀ u ∈ cs, u.oneCell' = true
  | [], i, _ => ⟨[], ⟨rfl, fun k h => absurd h (by simp)⟩, fun j u h => by simp at h, fun u h => by simp at h⟩
  | r :: l, i, h => by
    obtain ⟨⟨b', off', he, hb, hr⟩, h2⟩ := h
    have e1 : b = b' ∧ off = off' := by simpa using he
    obtain ⟨rfl, rfl⟩ := e1
    obtain ⟨cs, h3, h4, h5⟩ := RulesAt.cells h2
    obtain ⟨v2, v3, v4, v5, v6, c0, c1, c2, c3, c4, c5, c6, c7, c8, c9, hr', hn⟩ := hr.vals
    obtain ⟨bk, bnm, btx, bsa, bsl, bsc, bna, bnl, bnc, rfl, rfl, rfl, rfl, rfl⟩ := hn.forms
    refine ⟨[.string r.name, .int .u8 r.sort, .int .u8 bk, .string bnm, .string btx, .slice bsa bsl bsc, .slice bna bnl bnc, .int .i64 r.p0, .int .i64 r.p1, .int .i64 r.p2] ++ cs, ⟨by simp [h3.1]; omega, fun k hk => ?_⟩, fun j u hj => ?_, fun u hu => ?_⟩
    · cases k with
      | zero => simpa using hr'
      | succ k =>
        have hk' : k < l.length := by simpa using hk
        have h6 := h3.2 k hk'
        have e : ∀ j, ([Value.string r.name, .int .u8 r.sort, .int .u8 bk, .string bnm, .string btx, .slice bsa bsl bsc, .slice bna bnl bnc, .int .i64 r.p0, .int .i64 r.p1, .int .i64 r.p2] ++ cs)[(k + 1) * 10 + j]? = cs[k * 10 + j]? := fun j => by
          rw [List.getElem?_append_right (by simp; omega)]
          congr 1
          simp
          omega
        have e0 := e 0
        simp only [Nat.add_zero] at e0
        rw [e0, e 1, e 2, e 3, e 4, e 5, e 6, e 7, e 8, e 9]
        simpa using h6
    · by_cases hj10 : j < 10
      · have hj' : j = 0 ∨ j = 1 ∨ j = 2 ∨ j = 3 ∨ j = 4 ∨ j = 5 ∨ j = 6 ∨ j = 7 ∨ j = 8 ∨ j = 9 := by omega
        rcases hj' with rfl | rfl | rfl | rfl | rfl | rfl | rfl | rfl | rfl | rfl <;> (simp at hj; subst hj; simpa using by assumption)
      · rw [List.getElem?_append_right (by simp; omega)] at hj
        have := h4 _ u hj
        have e : off + (i + 1) * 10 + (j - 10) = off + i * 10 + j := by omega
        simp only [List.length_cons, List.length_nil] at this
        rw [← e]
        simpa using this
    · rcases List.mem_append.1 hu with hu | hu
      · simp at hu
        rcases hu with rfl | rfl | rfl | rfl | rfl | rfl | rfl | rfl | rfl | rfl <;> rfl
      · exact h5 u hu

/-- a grammar with another body in one rule -/
def Gr.put (g : Gr) (i : Nat) (n : Nd) : Gr := { g with rules := match g.rules[i]? with | some r => g.rules.set i { r with body := n } | none => g.rules }

theorem RowsIs.put {W : World} {lim : Nat} {cs : List Value} {l : List Rl} (h : RowsIs W lim cs l) {i : Nat} (hi : i < l.length) {n : Nd} {v0 v1 v2 v3 v4 : Value} (hn : NodeAt W lim (some v0) (some v1) (some v2) (some v3) (some v4) n) :
    RowsIs W lim (((((cs.set (i * 10 + 2) v0).set (i * 10 + 2 + 1) v1).set (i * 10 + 2 + 2) v2).set (i * 10 + 2 + 3) v3).set (i * 10 + 2 + 4) v4) (l.set i { l[i] with body := n }) := by
  have hlen := h.1
  refine ⟨by simp [hlen], fun k hk => ?_⟩
  have hk' : k < l.length := by simpa using hk
  have h1 := h.2 k hk'
  have hb : ∀ j, j < 5 → i * 10 + 2 + j < cs.length := fun j hj => by omega
  have hb0 : i * 10 + 2 < cs.length := hb 0 (by omega)
  have hget : ∀ m, (((((cs.set (i * 10 + 2) v0).set (i * 10 + 2 + 1) v1).set (i * 10 + 2 + 2) v2).set (i * 10 + 2 + 3) v3).set (i * 10 + 2 + 4) v4)[m]? =
      if i * 10 + 2 + 4 = m then some v4 else if i * 10 + 2 + 3 = m then some v3 else if i * 10 + 2 + 2 = m then some v2 else if i * 10 + 2 + 1 = m then some v1 else if i * 10 + 2 = m then some v0 else cs[m]? := by
    intro m
    simp only [List.getElem?_set, List.length_set, hb 1 (by omega), hb 2 (by omega), hb 3 (by omega), hb 4 (by omega), hb0, if_true]
  by_cases e : k = i
  · subst e
    have g0 := hget (k * 10)
    have g1 := hget (k * 10 + 1)
    have g2 := hget (k * 10 + 2)
    have g3 := hget (k * 10 + 3)
    have g4 := hget (k * 10 + 4)
    have g5 := hget (k * 10 + 5)
    have g6 := hget (k * 10 + 6)
    have g7 := hget (k * 10 + 7)
    have g8 := hget (k * 10 + 8)
    have g9 := hget (k * 10 + 9)
    rw [if_neg (by omega), if_neg (by omega), if_neg (by omega), if_neg (by omega), if_neg (by omega)] at g0 g1 g7 g8 g9
    rw [if_neg (by omega), if_neg (by omega), if_neg (by omega), if_neg (by omega), if_pos (by omega)] at g2
    rw [if_neg (by omega), if_neg (by omega), if_neg (by omega), if_pos (by omega)] at g3
    rw [if_neg (by omega), if_neg (by omega), if_pos (by omega)] at g4
    rw [if_neg (by omega), if_pos (by omega)] at g5
    rw [if_pos (by omega)] at g6
    rw [g0, g1, g2, g3, g4, g5, g6, g7, g8, g9]
    simp only [List.getElem_set_self]
    exact ⟨h1.1, h1.2.1, h1.2.2.1, h1.2.2.2.1, hn, h1.2.2.2.2.2⟩
  · have hsame : ∀ j, j < 10 → (((((cs.set (i * 10 + 2) v0).set (i * 10 + 2 + 1) v1).set (i * 10 + 2 + 2) v2).set (i * 10 + 2 + 3) v3).set (i * 10 + 2 + 4) v4)[k * 10 + j]? = cs[k * 10 + j]? := by
      intro j hj
      rw [hget, if_neg (by omega), if_neg (by omega), if_neg (by omega), if_neg (by omega), if_neg (by omega)]
    have hs0 := hsame 0 (by omega)
    simp only [Nat.add_zero] at hs0
    rw [hs0, hsame 1 (by omega), hsame 2 (by omega), hsame 3 (by omega), hsame 4 (by omega), hsame 5 (by omega), hsame 6 (by omega), hsame 7 (by omega), hsame 8 (by omega), hsame 9 (by omega)]
    rw [List.getElem_set_ne (fun x => e x.symm)]
    exact h1
theorem put_rules (g : Gr) (i : Nat) (hi : i < g.rules.length) (n : Nd) : (g.put i n).rules = g.rules.set i { g.rules[i] with body := n } := by
  simp [Gr.put, hi]
theorem put_length (g : Gr) (i : Nat) (n : Nd) : (g.put i n).rules.length = g.rules.length := by
  unfold Gr.put
  dsimp only
  split <;> simp
end Go.Proofs.Ytnopnihdobedcaa
