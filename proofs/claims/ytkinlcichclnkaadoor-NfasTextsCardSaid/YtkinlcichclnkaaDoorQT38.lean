/- Where texts of a node may end. Plain. -/
import Derived.Test.YtkinlcichclnkaaDoorQT37
import Derived.Test.YtkinlcichclnkaaDoorQT8
import Derived.Test.YtkinlcichclnkaaDoorQT13
import Derived.Test.YtkinlcichclnkaaDoorQT34
import Derived.Test.YtkinlcichclnkaaDoorQT5
namespace Go.Proofs.YtkinlcichclnkaaDoor

/-- a part of a text -/
def seg (l : List Int) (i j : Nat) : List Int := (l.take j).drop i
theorem seg_len (l : List Int) (i j : Nat) (h : j ≤ l.length) : (seg l i j).length = j - i := by unfold seg; rw [List.length_drop, List.length_take]; omega
theorem seg_app {l : List Int} {i k j : Nat} (h1 : i ≤ k) (h2 : k ≤ j) : seg l i k ++ seg l k j = seg l i j := by
  unfold seg
  have e : l.take k = (l.take j).take k := by rw [List.take_take, Nat.min_eq_left h2]
  rw [e]
  generalize l.take j = m
  have h3 : (m.take k).drop i = (m.drop i).take (k - i) := by rw [List.drop_take]
  have h4 : m.drop k = (m.drop i).drop (k - i) := by rw [List.drop_drop]; congr 1; omega
  rw [h3, h4, List.take_append_drop]
theorem seg_cut {l : List Int} {i j : Nat} {u v : List Int} (hij : i ≤ j) (hj : j ≤ l.length) (h : seg l i j = u ++ v) : i + u.length ≤ j ∧ seg l i (i + u.length) = u ∧ seg l (i + u.length) j = v := by
  have hl := seg_len l i j hj
  rw [h, List.length_append] at hl
  have h1 : i + u.length ≤ j := by omega
  have h2 := seg_app (l := l) (i := i) (k := i + u.length) (j := j) (by omega) h1
  rw [h] at h2
  have h3 := List.append_inj h2 (by rw [seg_len l _ _ (by omega)]; omega)
  exact ⟨h1, h3.1, h3.2⟩
theorem seg_self (l : List Int) (i : Nat) : seg l i i = [] := by
  unfold seg
  rw [List.drop_eq_nil_iff, List.length_take]
  omega
theorem seg_nil {l : List Int} {i j : Nat} (hij : i ≤ j) (hj : j ≤ l.length) (h : seg l i j = []) : i = j := by
  have := seg_len l i j hj
  rw [h, List.length_nil] at this
  omega
theorem seg_one {l : List Int} {i : Nat} (hi : i < l.length) : seg l i (i + 1) = [l.getD i 0] := by
  unfold seg
  rw [List.take_succ_eq_append_getElem hi, List.drop_append, List.length_take, Nat.min_eq_left (by omega), Nat.sub_self, List.drop_of_length_le (by rw [List.length_take]; omega)]
  rw [List.getD_eq_getElem?_getD, List.getElem?_eq_getElem hi]
  rfl
theorem seg_all (l : List Int) : seg l 0 l.length = l := by unfold seg; rw [List.take_length, List.drop_zero]
/-- where a text that begins at a place of inn may end -/
def Rc (l : List Int) (T : List Int → Prop) (inn : List Bool) (j : Nat) : Prop := ∃ i, i ≤ j ∧ inn.getD i false = true ∧ T (seg l i j)
structure SetIs (l : List Int) (out : List Bool) (P : Nat → Prop) : Prop where
  len : out.length = l.length + 1
  iff : ∀ j, out.getD j false = true ↔ j ≤ l.length ∧ P j
section
variable {l : List Int} {a b c : List Bool} {P Q : Nat → Prop} {T U : List Int → Prop}
theorem SetIs.imp (h : SetIs l a P) (hq : ∀ j, j ≤ l.length → (P j ↔ Q j)) : SetIs l a Q := ⟨h.len, fun j => (h.iff j).trans ⟨fun ⟨h1, h2⟩ => ⟨h1, (hq j h1).1 h2⟩, fun ⟨h1, h2⟩ => ⟨h1, (hq j h1).2 h2⟩⟩⟩
theorem SetIs.lt (h : SetIs l a P) {j : Nat} (hj : a.getD j false = true) : j ≤ l.length := ((h.iff j).1 hj).1
theorem getD_map_range (f : Nat → Bool) (n j : Nat) : ((List.range n).map f).getD j false = (decide (j < n) && f j) := by
  rw [List.getD_eq_getElem?_getD, List.getElem?_map]
  by_cases h : j < n
  · rw [List.getElem?_range h, decide_eq_true h]; rfl
  · rw [List.getElem?_eq_none (by rw [List.length_range]; omega), decide_eq_false h]; rfl
theorem SetIs.or (h : SetIs l a P) (k : SetIs l b Q) : SetIs l (oneB a b) fun j => P j ∨ Q j := by
  refine ⟨by rw [oneB_len]; exact h.len, fun j => ?_⟩
  unfold oneB
  rw [getD_map_range, h.len, Bool.and_eq_true, decide_eq_true_eq, Bool.or_eq_true, h.iff, k.iff]
  constructor
  · rintro ⟨h1, h2 | h2⟩
    · exact ⟨h2.1, .inl h2.2⟩
    · exact ⟨h2.1, .inr h2.2⟩
  · rintro ⟨h1, h2 | h2⟩
    · exact ⟨by omega, .inl ⟨h1, h2⟩⟩
    · exact ⟨by omega, .inr ⟨h1, h2⟩⟩
theorem SetIs.self {inn : List Bool} (hl : inn.length = l.length + 1) : SetIs l inn (Rc l (· = []) inn) := by
  refine ⟨hl, fun j => ⟨fun h => ?_, ?_⟩⟩
  · have hj : j < inn.length := by
      rcases Nat.lt_or_ge j inn.length with h1 | h1
      · exact h1
      · rw [List.getD_eq_getElem?_getD, List.getElem?_eq_none h1] at h; cases h
    exact ⟨by omega, j, Nat.le_refl _, h, seg_self l j⟩
  · rintro ⟨hj, i, h1, h2, h3⟩
    rw [← seg_nil h1 hj h3]
    exact h2
theorem SetIs.none (hn : a.any id = false) : ¬ ∃ i, a.getD i false = true := by
  rintro ⟨i, hi⟩
  have hlt : i < a.length := by
    rcases Nat.lt_or_ge i a.length with h | h
    · exact h
    · rw [List.getD_eq_getElem?_getD, List.getElem?_eq_none h] at hi; cases hi
  rw [List.getD_eq_getElem?_getD, List.getElem?_eq_getElem hlt] at hi
  have : a.any id = true := List.any_eq_true.2 ⟨a[i], List.getElem_mem hlt, hi⟩
  rw [hn] at this
  cases this
theorem SetIs.empty (n : Nat) (hn : n = l.length + 1) (hP : ∀ j, ¬ P j) : SetIs l (List.replicate n false) P := by
  refine ⟨by rw [List.length_replicate]; exact hn, fun j => ⟨fun h => ?_, fun h => absurd h.2 (hP j)⟩⟩
  rw [List.getD_eq_getElem?_getD, List.getElem?_replicate] at h
  split at h <;> cases h
theorem SetIs.step {inn : List Bool} (hl : inn.length = l.length + 1) (set : List (Int × Int)) : SetIs l (stepB l set inn) (Rc l (fun u => ∃ r, u = [r] ∧ holdsR set r) inn) := by
  refine ⟨by rw [stepB_len]; exact hl, fun j => ?_⟩
  unfold stepB
  rw [getD_map_range, hl, Bool.and_eq_true, decide_eq_true_eq]
  constructor
  · rintro ⟨h1, h2⟩
    cases j with
    | zero => cases h2
    | succ k =>
      have h3 : (inn.getD k false && holdsB set (l.getD k 0)) = true := h2
      rw [Bool.and_eq_true, holdsB_iff] at h3
      exact ⟨by omega, k, by omega, h3.1, _, seg_one (by omega), h3.2⟩
  · rintro ⟨hj, i, h1, h2, r, h3, h4⟩
    have hln := seg_len l i j hj
    rw [h3] at hln
    simp only [List.length_cons, List.length_nil] at hln
    have e : j = i + 1 := by omega
    subst e
    rw [seg_one (by omega)] at h3
    refine ⟨by omega, ?_⟩
    show (inn.getD i false && holdsB set (l.getD i 0)) = true
    rw [Bool.and_eq_true, holdsB_iff]
    simp only [List.cons.injEq, and_true] at h3
    rw [h3]
    exact ⟨h2, h4⟩
/-- one behind the other -/
theorem Rc.cat {inn : List Bool} (h : SetIs l a (Rc l T inn)) {j : Nat} (hj : j ≤ l.length) : Rc l U a j ↔ Rc l (Cat T U) inn j := by
  constructor
  · rintro ⟨k, h1, h2, h3⟩
    obtain ⟨h4, i, h5, h6, h7⟩ := (h.iff k).1 h2
    exact ⟨i, by omega, h6, _, _, (seg_app h5 h1).symm, h7, h3⟩
  · rintro ⟨i, h1, h2, u, v, h3, h4, h5⟩
    obtain ⟨k1, k2, k3⟩ := seg_cut h1 hj h3
    exact ⟨i + u.length, k1, (h.iff _).2 ⟨by omega, i, by omega, h2, by rw [k2]; exact h4⟩, by rw [k3]; exact h5⟩
theorem Rc.iff {inn : List Bool} (h : ∀ u, T u ↔ U u) (j : Nat) : Rc l T inn j ↔ Rc l U inn j := ⟨fun ⟨i, h1, h2, h3⟩ => ⟨i, h1, h2, (h _).1 h3⟩, fun ⟨i, h1, h2, h3⟩ => ⟨i, h1, h2, (h _).2 h3⟩⟩
theorem Rc.or {inn : List Bool} (j : Nat) : Rc l (fun u => T u ∨ U u) inn j ↔ Rc l T inn j ∨ Rc l U inn j := by
  constructor
  · rintro ⟨i, h1, h2, h3 | h3⟩
    · exact .inl ⟨i, h1, h2, h3⟩
    · exact .inr ⟨i, h1, h2, h3⟩
  · rintro (⟨i, h1, h2, h3⟩ | ⟨i, h1, h2, h3⟩)
    · exact ⟨i, h1, h2, .inl h3⟩
    · exact ⟨i, h1, h2, .inr h3⟩
end
/-- as often as m -/
def Rep (T : List Int → Prop) : Nat → List Int → Prop
  | 0, u => u = []
  | m + 1, u => Cat (Rep T m) T u
theorem Rep.front {T : List Int → Prop} : ∀ {m : Nat} {u v : List Int}, T u → Rep T m v → Rep T (m + 1) (u ++ v)
  | 0, u, v, h, k => by
    have e : v = [] := k
    subst e
    exact ⟨[], u, by simp, rfl, h⟩
  | m + 1, u, v, h, ⟨v1, v2, e, h1, h2⟩ => by
    subst e
    exact ⟨u ++ v1, v2, by rw [List.append_assoc], Rep.front h h1, h2⟩
theorem Rep.plus {T : List Int → Prop} {u : List Int} (h : Plus T u) : ∃ m, 1 ≤ m ∧ m ≤ max 1 u.length ∧ Rep T m u := by
  induction h with
  | one h => exact ⟨1, Nat.le_refl _, by omega, [], _, by simp, rfl, h⟩
  | @more u v h _ ih =>
    obtain ⟨m, h1, h2, h3⟩ := ih
    cases u with
    | nil => exact ⟨m, h1, h2, h3⟩
    | cons x r =>
      cases v with
      | nil =>
        rw [List.append_nil]
        exact ⟨1, Nat.le_refl _, by omega, [], x :: r, rfl, rfl, h⟩
      | cons y s =>
        refine ⟨m + 1, by omega, ?_, Rep.front h h3⟩
        simp only [List.length_append, List.length_cons] at h2 ⊢
        omega
theorem Plus.of_rep {T : List Int → Prop} : ∀ {m : Nat} {u : List Int}, Rep T (m + 1) u → Plus T u
  | 0, u, ⟨v, w, e, h1, h2⟩ => by
    have e1 : v = [] := h1
    subst e1
    subst e
    exact .one (by simpa using h2)
  | m + 1, u, ⟨v, w, e, h1, h2⟩ => by
    subst e
    have := Plus.of_rep h1
    clear h1
    induction this with
    | one h => exact .more h (.one h2)
    | more h _ ih => rw [List.append_assoc]; exact .more h ih
theorem rep_prefix {T : List Int → Prop} {m : Nat} : ∀ {k : Nat} {u : List Int}, m ≤ k → Rep T k u → ∃ v w, u = v ++ w ∧ Rep T m v
  | 0, u, h, hr => ⟨u, [], by simp, by
    have : m = 0 := by omega
    rw [this]
    exact hr⟩
  | k + 1, u, h, hr => by
    by_cases e : m = k + 1
    · subst e
      exact ⟨u, [], by simp, hr⟩
    · obtain ⟨v, w, rfl, h1, -⟩ := hr
      have hmk : m ≤ k := by omega
      obtain ⟨v1, v2, rfl, h3⟩ := rep_prefix hmk h1
      exact ⟨v1, v2 ++ w, by rw [List.append_assoc], h3⟩
/-- enough rounds, or nothing is left -/
theorem plus_end {l : List Int} {T : List Int → Prop} {inn out : List Bool} {m : Nat} (ho : SetIs l out (Rc l (fun u => ∃ k, 1 ≤ k ∧ k ≤ m ∧ Rep T k u) inn)) (hm : l.length + 1 ≤ m ∨ ∀ t, t ≤ l.length → ¬ Rc l (Rep T m) inn t) : SetIs l out (Rc l (Plus T) inn) := by
  refine ho.imp fun j hj => ⟨?_, ?_⟩
  · rintro ⟨i, h1, h2, k, h3, h4, h5⟩
    obtain ⟨k, rfl⟩ : ∃ k', k = k' + 1 := ⟨k - 1, by omega⟩
    exact ⟨i, h1, h2, Plus.of_rep h5⟩
  · rintro ⟨i, h1, h2, hp⟩
    obtain ⟨k, h3, h4, h5⟩ := Rep.plus hp
    rw [seg_len l i j hj] at h4
    refine ⟨i, h1, h2, k, h3, ?_, h5⟩
    rcases hm with hm | hm
    · omega
    · rcases Nat.lt_or_ge m k with h6 | h6
      · obtain ⟨v, w, e, h7⟩ := rep_prefix (Nat.le_of_lt h6) h5
        obtain ⟨k1, k2, -⟩ := seg_cut h1 hj e
        exact absurd ⟨i, by omega, h2, by rw [k2]; exact h7⟩ (hm (i + v.length) (by omega))
      · exact h6
theorem txl_snoc {lk : ByteArray → Nd} : ∀ {ns : List Nd} {s : Nd} {u : List Int}, TxL lk (ns ++ [s]) u ↔ Cat (TxL lk ns) (Tx lk s) u
  | [], s, u => by
    constructor
    · rintro (_ | ⟨h, hr⟩)
      cases hr
      exact ⟨[], _, by simp, .nil, h⟩
    · rintro ⟨v, w, rfl, h1, h2⟩
      cases h1
      have := TxL.cons h2 (.nil (lk := lk))
      simpa using this
  | n :: ns, s, u => by
    constructor
    · intro h
      cases h with
      | cons h hr =>
        obtain ⟨v, w, rfl, h1, h2⟩ := txl_snoc.1 hr
        exact ⟨_ ++ v, w, by rw [List.append_assoc], .cons h h1, h2⟩
    · rintro ⟨v, w, rfl, h1, h2⟩
      cases h1 with
      | cons h hr =>
        rw [List.append_assoc]
        exact .cons h (txl_snoc.2 ⟨_, _, rfl, hr, h2⟩)
end Go.Proofs.YtkinlcichclnkaaDoor

/- Along the places, rune by rune. Plain. -/
namespace Go.Proofs.YtkinlcichclnkaaDoor

theorem Run.snoc {out : List NPl} {r : Int} {z' : Nat} : ∀ {u : List Int} {p : Nat}, u ≠ [] → (Run out p (u ++ [r]) z' ↔ ∃ z zl pl, Run out p u z ∧ out[z]? = some zl ∧ zl.fol.testBit z' = true ∧ out[z']? = some pl ∧ holdsR pl.set r)
  | [], p, h => absurd rfl h
  | [r0], p, _ => by
    constructor
    · intro h
      cases h with
      | step hp hh hf hr =>
        cases hr with
        | one hp' hh' => exact ⟨p, _, _, .one hp hh, hp, hf, hp', hh'⟩
        | step _ _ _ hr' => exact absurd rfl hr'.ne
    · rintro ⟨z, zl, pl, h1, h2, h3, h4, h5⟩
      exact h1.app h2 h3 (.one h4 h5)
  | r0 :: r1 :: u, p, _ => by
    constructor
    · intro h
      cases h with
      | step hp hh hf hr =>
        obtain ⟨z, zl, pl, h1, h2⟩ := (Run.snoc (u := r1 :: u) (by simp)).1 hr
        exact ⟨z, zl, pl, .step hp hh hf h1, h2⟩
    · rintro ⟨z, zl, pl, h1, h2, h3, h4, h5⟩
      exact h1.app h2 h3 (.one h4 h5)
/-- where a kind's text may be, behind n runes -/
def Way (out : List NPl) (F : Nat) (k : Int) (l : List Int) : Nat → Nat → Prop
  | 0, _ => False
  | n + 1, z => ∃ p pl, F.testBit p = true ∧ out[p]? = some pl ∧ pl.kind = k ∧ Run out p (l.take (n + 1)) z
theorem Way.succ {out : List NPl} {F : Nat} {k : Int} {l : List Int} {n z : Nat} : Way out F k l (n + 1) z ↔ ∃ p pl, F.testBit p = true ∧ out[p]? = some pl ∧ pl.kind = k ∧ Run out p (l.take (n + 1)) z := Iff.rfl
theorem Way.step {out : List NPl} {F : Nat} {k : Int} {l : List Int} {n z : Nat} (hn : n < l.length) : Way out F k l (n + 1) z ↔ (∃ pl, out[z]? = some pl ∧ holdsR pl.set (l.getD n 0)) ∧ ((n = 0 ∧ F.testBit z = true ∧ ∃ pl, out[z]? = some pl ∧ pl.kind = k) ∨ ∃ p pl, Way out F k l n p ∧ out[p]? = some pl ∧ pl.fol.testBit z = true) := by
  have hg : l.take (n + 1) = l.take n ++ [l.getD n 0] := by
    rw [List.take_succ_eq_append_getElem hn, List.getD_eq_getElem?_getD, List.getElem?_eq_getElem hn]
    rfl
  rw [Way.succ, hg]
  cases n with
  | zero =>
    rw [List.take_zero, List.nil_append]
    constructor
    · rintro ⟨p, pl, h1, h2, h3, h4⟩
      cases h4 with
      | one hp hh => exact ⟨⟨_, hp, hh⟩, .inl ⟨rfl, h1, pl, h2, h3⟩⟩
      | step _ _ _ hr => exact absurd rfl hr.ne
    · rintro ⟨⟨pl, h1, h2⟩, ⟨-, h3, pl', h4, h5⟩ | ⟨_, _, h, _⟩⟩
      · exact ⟨z, pl', h3, h4, h5, .one h1 h2⟩
      · exact h.elim
  | succ n =>
    have hne : l.take (n + 1) ≠ [] := by
      intro e
      have := congrArg List.length e
      rw [List.length_take, List.length_nil] at this
      omega
    constructor
    · rintro ⟨p, pl, h1, h2, h3, h4⟩
      obtain ⟨y, yl, pz, h5, h6, h7, h8, h9⟩ := (Run.snoc hne).1 h4
      exact ⟨⟨pz, h8, h9⟩, .inr ⟨y, yl, ⟨p, pl, h1, h2, h3, h5⟩, h6, h7⟩⟩
    · rintro ⟨⟨pz, h8, h9⟩, ⟨h, -⟩ | ⟨y, yl, ⟨p, pl, h1, h2, h3, h5⟩, h6, h7⟩⟩
      · omega
      · exact ⟨p, pl, h1, h2, h3, (Run.snoc hne).2 ⟨y, yl, pz, h5, h6, h7, h8, h9⟩⟩
theorem Way.lt {out : List NPl} {F : Nat} {k : Int} {l : List Int} {n z : Nat} (h : Way out F k l n z) : z < out.length := by
  cases n with
  | zero => exact h.elim
  | succ n =>
    obtain ⟨p, pl, _, _, _, hr⟩ := h
    obtain ⟨_, zl, hz⟩ := hr.there
    exact (List.getElem?_eq_some_iff.1 hz).1
/-- the stage's theorem: a rule's texts are those that lead to a last place -/
theorem made_law {g : Gr} (hfull : g.made.2.full = false) : RulesOk g.lk 0 (g.toks.map Rl.body) 0 0 ⟨[], 65536, false⟩ g.made.1.1 g.made.1.2 g.made.2 :=
  rules_ok g.lk _ 0 0 0 _ ⟨Nat.zero_le _, fun p hp => absurd hp (by simp)⟩ (by simp) (by simp) hfull
theorem made_way {g : Gr} (hfull : g.made.2.full = false) {l : List Int} (hl : l ≠ []) {k : Nat} (hk : k < g.toks.length) : Tx g.lk g.toks[k].body l ↔ ∃ z, Way g.made.2.out g.made.1.1 (k : Int) l l.length z ∧ g.made.1.2.testBit z = true := by
  have h := (made_law hfull).lang k (by rw [List.length_map]; exact hk) l hl
  rw [List.getElem_map, Nat.zero_add] at h
  rw [h]
  obtain ⟨n, hn⟩ : ∃ n, l.length = n + 1 := ⟨l.length - 1, by have := List.length_pos_iff.2 hl; omega⟩
  rw [hn]
  simp only [Way.succ]
  have ht : l.take (n + 1) = l := List.take_of_length_le (by omega)
  simp only [ht]
  constructor
  · rintro ⟨p, z, pl, -, h1, h2, h3, h4, h5⟩
    exact ⟨z, ⟨p, pl, h1, h2, h3, h5⟩, h4⟩
  · rintro ⟨z, ⟨p, pl, h1, h2, h3, h5⟩, h4⟩
    exact ⟨p, z, pl, Nat.zero_le _, h1, h2, h3, h4, h5⟩
theorem made_fol {g : Gr} (hfull : g.made.2.full = false) {p q : Nat} {pl : NPl} (hp : g.made.2.out[p]? = some pl) (hq : pl.fol.testBit q = true) : ∃ ql, g.made.2.out[q]? = some ql ∧ ql.kind = pl.kind := by
  obtain ⟨ql, -, h1, h2⟩ := (made_law hfull).fol p pl (Nat.zero_le _) hp q hq
  exact ⟨ql, h1, h2⟩
theorem made_first {g : Gr} (hfull : g.made.2.full = false) {q : Nat} (hq : g.made.1.1.testBit q = true) : q < g.made.2.out.length := by
  rcases Nat.lt_or_ge q g.made.2.out.length with h | h
  · exact h
  · rw [bit_lt (made_law hfull).fin.1 h] at hq
    cases hq
theorem ends_whole {l : List Int} {T : List Int → Prop} {inn out : List Bool} (hin : ∀ i, inn.getD i false = true ↔ i = 0) (ho : SetIs l out (Rc l T inn)) : out.getD l.length false = true ↔ T l := by
  rw [ho.iff]
  constructor
  · rintro ⟨-, i, -, h1, h2⟩
    obtain rfl := (hin i).1 h1
    rw [seg_all] at h2
    exact h2
  · intro h
    exact ⟨Nat.le_refl _, 0, Nat.zero_le _, (hin 0).2 rfl, by rw [seg_all]; exact h⟩
end Go.Proofs.YtkinlcichclnkaaDoor

/- Tokens' rules rank above those that they name. Plain. -/
namespace Go.Proofs.YtkinlcichclnkaaDoor

theorem filter_less8 {α : Type} {p q : α → Bool} : ∀ {l : List α} {x : α}, (∀ k ∈ l, p k = true → q k = true) → x ∈ l → q x = true → p x = false → (l.filter p).length < (l.filter q).length
  | y :: r, x, h, hx, h1, h2 => by
    have hle : (r.filter p).length ≤ (r.filter q).length := by
      have : ∀ (l : List α), (∀ k ∈ l, p k = true → q k = true) → (l.filter p).length ≤ (l.filter q).length := by
        intro l
        induction l with
        | nil => intro _; simp
        | cons z l ih =>
          intro h
          have h3 := ih fun k hk => h k (List.mem_cons_of_mem _ hk)
          have h4 := h z (List.mem_cons_self ..)
          rw [List.filter_cons, List.filter_cons]
          cases hp : p z
          · cases hq : q z
            · simpa using h3
            · simp; omega
          · rw [h4 hp]
            simpa using h3
      exact this r fun k hk => h k (List.mem_cons_of_mem _ hk)
    rw [List.filter_cons, List.filter_cons]
    rcases List.mem_cons.1 hx with rfl | hx
    · rw [h1, h2]
      simp
      omega
    · have h3 := filter_less8 (fun k hk => h k (List.mem_cons_of_mem _ hk)) hx h1 h2
      have h4 := h y (List.mem_cons_self ..)
      cases hp : p y
      · cases hq : q y
        · simpa using h3
        · simp; omega
      · rw [h4 hp]
        simpa using h3
/-- what a node names ranks below R -/
def Lx (g : Gr) (rk : Nat → Nat) (R : Nat) (n : Nd) : Prop := ∀ m ∈ n.all, m.kind = 6 → ∃ k, ∃ hk : k < g.rules.length, g.find m.name = (k : Int) ∧ rk k < R ∧ g.rules[k].parser = false
theorem Lx.sub {g : Gr} {rk : Nat → Nat} {R : Nat} {k : Int} {nm tx : ByteArray} {set : List (Int × Int)} {subs : List Nd} (h : Lx g rk R (.mk k nm tx set subs)) {s : Nd} (hs : s ∈ subs) : Lx g rk R s := fun m hm => h m (by
  rw [Nd.all]
  exact List.mem_cons_of_mem _ (allL_mem.2 ⟨s, hs, hm⟩))
theorem Gr.Tidy.ranked {g : Gr} (h : g.Tidy) : ∃ rk : Nat → Nat, ∀ i (hi : i < g.rules.length), g.rules[i].parser = false → Lx g rk (rk i) g.rules[i].body := by
  obtain ⟨es, M, N, ht, he, hM, hN⟩ := h
  have hq : ∀ i (hi : i < g.rules.length), Quiet g es (at2 M) (at2 N) i g.rules[i] := fun i hi => by
    unfold Gr.told at ht
    have := rulesTold_at g.rules 0 (List.append_eq_nil_iff.1 ht).1 i hi
    rw [Nat.zero_add] at this
    exact quiet_of this
  refine ⟨fun i => ((List.range g.rules.length).filter fun k => at2 N i k).length, fun i hi hp m hm hk => ?_⟩
  have h1 := (hq i hi).none_ m hm
  have h2 := (hq i hi).sorts m hm
  have hn : m.isName = true := by unfold Nd.isName; rw [hk]; rfl
  unfold Gr.noneBad at h1
  unfold Gr.sortBad at h2
  rw [hn, Bool.true_and] at h1 h2
  have h0 : 0 ≤ g.find m.name := by have := of_decide_eq_false h1; omega
  obtain ⟨k, hkl, hfk⟩ := Gr.find_lt h0
  have hsk : g.sortAt (g.find m.name) = g.rules[k].sort := by
    rw [hfk]
    unfold Gr.sortAt
    rw [Int.toNat_natCast, List.getElem?_eq_getElem hkl]
  rw [decide_eq_true h0, Bool.true_and, hsk] at h2
  unfold sortedB at h2
  rw [hk, hp] at h2
  have hs2 : g.rules[k].sort = 2 := by simpa using h2
  have hpk : g.rules[k].parser = false := by unfold Rl.parser; rw [hs2]; rfl
  have hrd : g.rd0 i k := ⟨hi, hkl, hp, hpk, m, hm, hn, hfk⟩
  refine ⟨k, hkl, hfk, ?_, hpk⟩
  exact filter_less8 (fun j _ hj => (hN.tc _ _).2 (.more hrd ((hN.tc _ _).1 hj))) (List.mem_range.2 hkl) ((hN.tc _ _).2 (.one hrd)) (hq k hkl).ring
/-- what is asked for a sub has one -/
def Nd.whole (n : Nd) : Prop := ∀ m ∈ n.all, m.kind = 2 ∨ m.kind = 3 ∨ m.kind = 4 → m.subs.length = 1
theorem whole_sub {k : Int} {nm tx : ByteArray} {set : List (Int × Int)} {subs : List Nd} (h : (Nd.mk k nm tx set subs).whole) {s : Nd} (hs : s ∈ subs) : s.whole := fun m hm => h m (by
  rw [Nd.all]
  exact List.mem_cons_of_mem _ (allL_mem.2 ⟨s, hs, hm⟩))
end Go.Proofs.YtkinlcichclnkaaDoor

/- Ends: what is said of it. Printed by gennfends.py. -/
namespace Go.Proofs.YtkinlcichclnkaaDoor
open Go.RowKit

def EndsR (lk : ByteArray → Nd) (l : List Int) (n : Nd) (inn : List Bool) (W : World) (e : Ending) (W' : World) : Prop := ∃ x out, e = .returned x ∧ BRow W' x out ∧ SetIs l out (Rc l (Tx lk n) inn) ∧ Grew W W'
def EndsC (lim : Nat) (g : Gr) (la : Option Addr) (lc : Nat) (l : List Int) (n : Nd) : Prop := ∀ (W : World) (g0 g1 g2 g3 v0 v1 v2 v3 v4 vin : Value) (inn : List Bool), GrAt W lim (some g0) (some g1) (some g2) (some g3) g → RunesAt W lim la l → lim ≤ W.heap.size → NodeAt W lim (some v0) (some v1) (some v2) (some v3) (some v4) n → BRow W vin inn → inn.length = l.length + 1 →
  Calls Tryd.prog 12 #[.agg #[g0, g1, g2, g3], .agg #[v0, v1, v2, v3, v4], .slice la l.length lc, vin] W (EndsR g.lk l n inn W)
/-- a value that is a set of ends -/
def SetV (l : List Int) (P : Nat → Prop) (v : Value) (w : World) : Prop := ∃ out, BRow w v out ∧ SetIs l out P
theorem SetV.keep {l : List Int} {P : Nat → Prop} {v : Value} {w w' : World} (hg : Grew w w') (h : SetV l P v w) : SetV l P v w' := by
  obtain ⟨out, h1, h2⟩ := h
  exact ⟨out, h1.grew hg, h2⟩
theorem set_rg {W : World} {a : Option Addr} {set : List (Int × Int)} (h : RangesAt W W.heap.size a 0 set) {W' : World} (hg : Grew W W') : RangesAt W' W'.heap.size a 0 set := (h.keep hg).mono hg.size
end Go.Proofs.YtkinlcichclnkaaDoor
