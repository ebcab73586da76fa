/- What a node's texts are; that what it is made to goes along just these. Plain. -/
import Derived.Test.YtkinlcichclnkaaDoorQT6
namespace Go.Proofs.YtkinlcichclnkaaDoor

def holdsR (set : List (Int × Int)) (r : Int) : Prop := ∃ p ∈ set, p.1 ≤ r ∧ r ≤ p.2
section
variable (lk : ByteArray → Nd)
mutual
/-- u is a text of n -/
inductive Tx : Nd → List Int → Prop
  | alt {nm tx : ByteArray} {set : List (Int × Int)} {subs : List Nd} {u : List Int} {x : Nd} (hx : x ∈ subs) (h : Tx x u) : Tx (.mk 0 nm tx set subs) u
  | seq {nm tx : ByteArray} {set : List (Int × Int)} {subs : List Nd} {u : List Int} (h : TxL subs u) : Tx (.mk 1 nm tx set subs) u
  | lit {nm tx : ByteArray} {set : List (Int × Int)} {subs : List Nd} : Tx (.mk 8 nm tx set subs) (runesOf tx)
  | set {nm tx : ByteArray} {set : List (Int × Int)} {subs : List Nd} {r : Int} (h : holdsR set r) : Tx (.mk 9 nm tx set subs) [r]
  | tok {nm tx : ByteArray} {set : List (Int × Int)} {subs : List Nd} {u : List Int} (h : Tx (lk nm) u) : Tx (.mk 6 nm tx set subs) u
  | opt0 {nm tx : ByteArray} {set : List (Int × Int)} {subs : List Nd} : Tx (.mk 2 nm tx set subs) []
  | opt {nm tx : ByteArray} {set : List (Int × Int)} {x : Nd} {l : List Nd} {u : List Int} (h : Tx x u) : Tx (.mk 2 nm tx set (x :: l)) u
  | star0 {nm tx : ByteArray} {set : List (Int × Int)} {subs : List Nd} : Tx (.mk 3 nm tx set subs) []
  | star {nm tx : ByteArray} {set : List (Int × Int)} {x : Nd} {l : List Nd} {u : List Int} (h : TxP x u) : Tx (.mk 3 nm tx set (x :: l)) u
  | plus {nm tx : ByteArray} {set : List (Int × Int)} {x : Nd} {l : List Nd} {u : List Int} (h : TxP x u) : Tx (.mk 4 nm tx set (x :: l)) u
  | other {k : Int} {nm tx : ByteArray} {set : List (Int × Int)} {subs : List Nd} (hk : k = 5 ∨ k = 7 ∨ k < 0 ∨ 9 < k) : Tx (.mk k nm tx set subs) []
inductive TxL : List Nd → List Int → Prop
  | nil : TxL [] []
  | cons {x : Nd} {l : List Nd} {u v : List Int} (h : Tx x u) (hr : TxL l v) : TxL (x :: l) (u ++ v)
inductive TxP : Nd → List Int → Prop
  | one {x : Nd} {u : List Int} (h : Tx x u) : TxP x u
  | more {x : Nd} {u v : List Int} (h : Tx x u) (hr : TxP x v) : TxP x (u ++ v)
end
end

/-! ### ways -/
inductive Run (out : List NPl) : Nat → List Int → Nat → Prop
  | one {p : Nat} {r : Int} {pl : NPl} (hp : out[p]? = some pl) (h : holdsR pl.set r) : Run out p [r] p
  | step {p q z : Nat} {r : Int} {u : List Int} {pl : NPl} (hp : out[p]? = some pl) (h : holdsR pl.set r) (hf : pl.fol.testBit q = true) (hr : Run out q u z) : Run out p (r :: u) z
def Acc (out : List NPl) (x : NPart) (u : List Int) : Prop := ∃ p z, x.first.testBit p = true ∧ x.last.testBit z = true ∧ Run out p u z
/-- more may follow -/
def Subs8 (out out' : List NPl) (P : Nat → Prop) : Prop := ∀ i pl, P i → out[i]? = some pl → ∃ pl', out'[i]? = some pl' ∧ pl'.set = pl.set ∧ ∀ q, pl.fol.testBit q = true → pl'.fol.testBit q = true ∧ P q
theorem Run.mono {out out' : List NPl} {P : Nat → Prop} (h : Subs8 out out' P) {p z : Nat} {u : List Int} (hr : Run out p u z) : P p → Run out' p u z ∧ P z := by
  induction hr with
  | @one p r pl hp hh =>
    intro hP
    obtain ⟨pl', h1, h2, _⟩ := h _ _ hP hp
    exact ⟨.one h1 (h2 ▸ hh), hP⟩
  | @step p q z r u pl hp hh hf _ ih =>
    intro hP
    obtain ⟨pl', h1, h2, h3⟩ := h _ _ hP hp
    obtain ⟨k1, k2⟩ := h3 _ hf
    obtain ⟨i1, i2⟩ := ih k2
    exact ⟨.step h1 (h2 ▸ hh) k1 i1, i2⟩
theorem Run.ne {out : List NPl} {p z : Nat} {u : List Int} (h : Run out p u z) : u ≠ [] := by cases h <;> simp
theorem Run.app {out : List NPl} {p z q z' : Nat} {u v : List Int} (h : Run out p u z) {pl : NPl} (hp : out[z]? = some pl) (hf : pl.fol.testBit q = true) (k : Run out q v z') : Run out p (u ++ v) z' := by
  induction h with
  | one hp' hh =>
    rw [hp'] at hp
    cases hp
    exact .step hp' hh hf k
  | step hp' hh hf' _ ih => exact .step hp' hh hf' (ih hp)
theorem Run.there {out : List NPl} {p z : Nat} {u : List Int} (h : Run out p u z) : (∃ pl, out[p]? = some pl) ∧ ∃ pl, out[z]? = some pl := by
  induction h with
  | one hp _ => exact ⟨⟨_, hp⟩, _, hp⟩
  | step hp _ _ _ ih => exact ⟨⟨_, hp⟩, ih.2⟩

/-! ### parts -/
/-- x, built from b to c, goes along just L -/
structure PartOk (kind : Int) (L : List Int → Prop) (x : NPart) (b c : NB) : Prop where
  len : b.out.length ≤ c.out.length
  same : ∀ i, i < b.out.length → c.out[i]? = b.out[i]?
  first : ∀ p, x.first.testBit p = true → b.out.length ≤ p ∧ p < c.out.length
  last : ∀ p, x.last.testBit p = true → b.out.length ≤ p ∧ p < c.out.length
  fol : ∀ p pl, b.out.length ≤ p → c.out[p]? = some pl → (∀ q, pl.fol.testBit q = true → b.out.length ≤ q ∧ q < c.out.length) ∧ pl.kind = kind
  eps : x.empty = true ↔ L []
  lang : ∀ u, u ≠ [] → (L u ↔ Acc c.out x u)
section
variable {kind : Int} {L M : List Int → Prop} {x y : NPart} {b c d : NB}
theorem PartOk.iff (h : PartOk kind L x b c) (hL : ∀ u, M u ↔ L u) : PartOk kind M x b c := ⟨h.len, h.same, h.first, h.last, h.fol, h.eps.trans (hL []).symm, fun u hu => (hL u).trans (h.lang u hu)⟩
theorem PartOk.none (e : Bool) : PartOk kind (fun u => e = true ∧ u = []) ⟨0, 0, e⟩ b b := by
  refine ⟨Nat.le_refl _, fun _ _ => rfl, fun p h => ?_, fun p h => ?_, fun p pl h1 h2 => ?_, by simp, fun u hu => ?_⟩
  · rw [Nat.zero_testBit] at h; cases h
  · rw [Nat.zero_testBit] at h; cases h
  · have := (List.getElem?_eq_some_iff.1 h2).1
    omega
  · constructor
    · rintro ⟨_, h⟩
      exact absurd h hu
    · rintro ⟨p, z, h, _⟩
      rw [Nat.zero_testBit] at h
      cases h
theorem PartOk.place (set : List (Int × Int)) (hf : (b.place kind set).2.full = false) : PartOk kind (fun u => ∃ r, u = [r] ∧ holdsR set r) (b.place kind set).1 b (b.place kind set).2 := by
  unfold NB.place at hf ⊢
  split at hf
  · cases hf
  · rename_i hc
    rw [if_neg hc]
    have hnew : (b.out ++ [(⟨set, kind, 0⟩ : NPl)])[b.out.length]? = some ⟨set, kind, 0⟩ := by simp
    have hone : ∀ p, (2 ^ b.out.length).testBit p = true → p = b.out.length := fun p h => by
      rw [Nat.testBit_two_pow, decide_eq_true_eq] at h
      exact h.symm
    refine ⟨by simp, fun i hi => List.getElem?_append_left hi, fun p h => ?_, fun p h => ?_, fun p pl h1 h2 => ?_, ?_, fun u hu => ?_⟩
    · obtain rfl := hone p h; simp
    · obtain rfl := hone p h; simp
    · have hp := (List.getElem?_eq_some_iff.1 h2).1
      simp only [List.length_append, List.length_cons, List.length_nil] at hp
      obtain rfl : p = b.out.length := by omega
      dsimp only at h2
      rw [hnew] at h2
      cases h2
      exact ⟨fun q hq => (by rw [Nat.zero_testBit] at hq; cases hq), rfl⟩
    · constructor
      · intro h; cases h
      · rintro ⟨r, h, _⟩; cases h
    · constructor
      · rintro ⟨r, rfl, h⟩
        exact ⟨_, _, Nat.testBit_two_pow_self, Nat.testBit_two_pow_self, .one hnew h⟩
      · rintro ⟨p, z, h1, h2, h3⟩
        obtain rfl := hone p h1
        cases h3 with
        | one hp h =>
          dsimp only at hp
          rw [hnew] at hp
          cases hp
          exact ⟨_, rfl, h⟩
        | step hp h hq hr =>
          dsimp only at hp
          rw [hnew] at hp
          cases hp
          rw [Nat.zero_testBit] at hq
          cases hq
/-- ways of a part stay within it -/
theorem PartOk.closed (h : PartOk kind L x b c) : Subs8 c.out c.out fun p => b.out.length ≤ p ∧ p < c.out.length := fun i pl hi hp => ⟨pl, hp, rfl, fun q hq => ⟨hq, (h.fol i pl hi.1 hp).1 q hq⟩⟩
theorem PartOk.keep (h : PartOk kind L x b c) (k : PartOk kind M y c d) : Subs8 c.out d.out fun p => b.out.length ≤ p ∧ p < c.out.length := fun i pl hi hp => ⟨pl, by rw [k.same i hi.2]; exact hp, rfl, fun q hq => ⟨hq, (h.fol i pl hi.1 hp).1 q hq⟩⟩
theorem PartOk.back (h : PartOk kind L x b c) (k : PartOk kind M y c d) : Subs8 d.out c.out fun p => b.out.length ≤ p ∧ p < c.out.length := fun i pl hi hp => by
  rw [k.same i hi.2] at hp
  exact ⟨pl, hp, rfl, fun q hq => ⟨hq, (h.fol i pl hi.1 hp).1 q hq⟩⟩
theorem PartOk.either (h : PartOk kind L x b c) (k : PartOk kind M y c d) : PartOk kind (fun u => L u ∨ M u) (eitherN x y) b d := by
  have hl := h.len
  have kl := k.len
  refine ⟨by omega, fun i hi => by rw [k.same i (by omega), h.same i hi], fun p hp => ?_, fun p hp => ?_, fun p pl h1 h2 => ?_, ?_, fun u hu => ?_⟩
  · unfold eitherN at hp
    dsimp only at hp
    rw [Nat.testBit_or, Bool.or_eq_true] at hp
    rcases hp with hp | hp
    · have := h.first p hp; omega
    · have := k.first p hp; omega
  · unfold eitherN at hp
    dsimp only at hp
    rw [Nat.testBit_or, Bool.or_eq_true] at hp
    rcases hp with hp | hp
    · have := h.last p hp; omega
    · have := k.last p hp; omega
  · by_cases hpc : p < c.out.length
    · rw [k.same p hpc] at h2
      have := h.fol p pl h1 h2
      exact ⟨fun q hq => by have := this.1 q hq; omega, this.2⟩
    · have := k.fol p pl (by omega) h2
      exact ⟨fun q hq => by have := this.1 q hq; omega, this.2⟩
  · unfold eitherN
    dsimp only
    rw [Bool.or_eq_true, h.eps, k.eps]
  · rw [h.lang u hu, k.lang u hu]
    unfold Acc eitherN
    dsimp only
    constructor
    · rintro (⟨p, z, h1, h2, h3⟩ | ⟨p, z, h1, h2, h3⟩)
      · exact ⟨p, z, by rw [Nat.testBit_or, h1]; rfl, by rw [Nat.testBit_or, h2]; rfl, (h3.mono (h.keep k) (h.first p h1)).1⟩
      · exact ⟨p, z, by rw [Nat.testBit_or, h1, Bool.or_true], by rw [Nat.testBit_or, h2, Bool.or_true], h3⟩
    · rintro ⟨p, z, h1, h2, h3⟩
      rw [Nat.testBit_or, Bool.or_eq_true] at h1 h2
      rcases h1 with h1 | h1
      · obtain ⟨h4, h5⟩ := h3.mono (h.back k) (h.first p h1)
        rcases h2 with h2 | h2
        · exact .inl ⟨p, z, h1, h2, h4⟩
        · have := k.last z h2; omega
      · obtain ⟨h4, h5⟩ := h3.mono k.closed (k.first p h1)
        rcases h2 with h2 | h2
        · have := h.last z h2; omega
        · exact .inr ⟨p, z, h1, h2, h3⟩
theorem PartOk.opt (h : PartOk kind L x b c) : PartOk kind (fun u => u = [] ∨ L u) ⟨x.first, x.last, true⟩ b c :=
  ⟨h.len, h.same, h.first, h.last, h.fol, by simp, fun u hu => by
    rw [show (u = [] ∨ L u) ↔ L u from ⟨fun e => e.elim (fun e => absurd e hu) id, .inr⟩, h.lang u hu]
    exact Iff.rfl⟩
theorem follow_get (d : NB) (a e : Nat) (i : Nat) : (d.follow a e).out[i]? = (d.out[i]?).map fun p => if a.testBit i then p.more e else p := by
  unfold NB.follow
  dsimp only
  by_cases hi : i < d.out.length
  · rw [List.getElem?_eq_getElem (by rw [folL_len]; exact hi), folL_get a e d.out 0 i hi, List.getElem?_eq_getElem hi, Nat.zero_add]
    rfl
  · rw [List.getElem?_eq_none (by rw [folL_len]; omega), List.getElem?_eq_none (by omega)]
    rfl
theorem follow_len2 (d : NB) (a e : Nat) : (d.follow a e).out.length = d.out.length := by unfold NB.follow; dsimp only; exact folL_len ..
/-- one behind the other -/
def Cat (L M : List Int → Prop) (u : List Int) : Prop := ∃ v w, u = v ++ w ∧ L v ∧ M w
theorem PartOk.join (h : PartOk kind L x b c) (k : PartOk kind M y c d) : PartOk kind (Cat L M) (joinP x y) b (d.follow x.last y.first) := by
  have hl := h.len
  have kl := k.len
  have hold : ∀ i pl, d.out[i]? = some pl → ∃ pl', (d.follow x.last y.first).out[i]? = some pl' ∧ pl'.set = pl.set ∧ pl'.kind = pl.kind ∧ ∀ q, (pl'.fol.testBit q = true ↔ pl.fol.testBit q = true ∨ (x.last.testBit i = true ∧ y.first.testBit q = true)) := fun i pl hp => by
    rw [follow_get, hp]
    refine ⟨_, rfl, ?_, ?_, fun q => ?_⟩
    · split <;> rfl
    · split <;> rfl
    · split
      · rename_i hx
        unfold NPl.more
        dsimp only
        rw [Nat.testBit_or, Bool.or_eq_true, hx]
        simp
      · rename_i hx
        constructor
        · exact .inl
        · rintro (e | ⟨e, _⟩)
          · exact e
          · exact absurd e hx
  have hnew : ∀ i pl', (d.follow x.last y.first).out[i]? = some pl' → ∃ pl, d.out[i]? = some pl ∧ pl'.set = pl.set ∧ pl'.kind = pl.kind ∧ ∀ q, (pl'.fol.testBit q = true ↔ pl.fol.testBit q = true ∨ (x.last.testBit i = true ∧ y.first.testBit q = true)) := fun i pl' hp => by
    have hp0 := hp
    rw [follow_get] at hp
    cases hd : d.out[i]? with
    | none => rw [hd] at hp; cases hp
    | some pl =>
      obtain ⟨pl2, h1, h2⟩ := hold i pl hd
      rw [hp0] at h1
      cases h1
      exact ⟨pl, rfl, h2⟩
  have up : ∀ P : Nat → Prop, (∀ i pl, P i → d.out[i]? = some pl → ∀ q, pl.fol.testBit q = true → P q) → Subs8 d.out (d.follow x.last y.first).out P := fun P hP i pl hi hp => by
    obtain ⟨pl', h1, h2, _, h3⟩ := hold i pl hp
    exact ⟨pl', h1, h2, fun q hq => ⟨(h3 q).2 (.inl hq), hP i pl hi hp q hq⟩⟩
  have upx : ∀ {p z : Nat} {u : List Int}, Run c.out p u z → (b.out.length ≤ p ∧ p < c.out.length) → Run (d.follow x.last y.first).out p u z := fun hr hp => by
    obtain ⟨h1, h2⟩ := hr.mono (h.keep k) hp
    exact (h1.mono (up _ (fun i pl (hi : b.out.length ≤ i ∧ i < c.out.length) hd q hq => by rw [k.same i hi.2] at hd; exact (h.fol i pl hi.1 hd).1 q hq)) hp).1
  have upy : ∀ {p z : Nat} {u : List Int}, Run d.out p u z → (c.out.length ≤ p ∧ p < d.out.length) → Run (d.follow x.last y.first).out p u z := fun hr hp =>
    (hr.mono (up _ (fun i pl hi hd q hq => (k.fol i pl hi.1 hd).1 q hq)) hp).1
  have downy : ∀ {p z : Nat} {u : List Int}, Run (d.follow x.last y.first).out p u z → (c.out.length ≤ p ∧ p < d.out.length) → Run d.out p u z ∧ (c.out.length ≤ z ∧ z < d.out.length) := fun hr hp =>
    hr.mono (P := fun p => c.out.length ≤ p ∧ p < d.out.length) (fun i pl hi hd => by
      obtain ⟨pl0, h1, h2, _, h3⟩ := hnew i pl hd
      refine ⟨pl0, h1, h2.symm, fun q hq => ?_⟩
      rcases (h3 q).1 hq with h4 | ⟨h4, _⟩
      · exact ⟨h4, (k.fol i pl0 hi.1 h1).1 q h4⟩
      · have := h.last i h4; omega) hp
  have downx : ∀ {p z : Nat} {u : List Int}, Run (d.follow x.last y.first).out p u z → (b.out.length ≤ p ∧ p < c.out.length) → (z < c.out.length ∧ Run c.out p u z) ∨ ∃ u1 u2 z1 q, u = u1 ++ u2 ∧ x.last.testBit z1 = true ∧ y.first.testBit q = true ∧ Run c.out p u1 z1 ∧ Run d.out q u2 z ∧ c.out.length ≤ z := by
    intro p z u hr
    induction hr with
    | @one p r pl hp hh =>
      intro hb
      obtain ⟨pl0, h1, h2, _, _⟩ := hnew p pl hp
      rw [k.same p hb.2] at h1
      exact .inl ⟨hb.2, .one h1 (h2 ▸ hh)⟩
    | @step p q z r u pl hp hh hf hr ih =>
      intro hb
      obtain ⟨pl0, h1, h2, _, h3⟩ := hnew p pl hp
      rw [k.same p hb.2] at h1
      rcases (h3 q).1 hf with h4 | ⟨h4, h5⟩
      · rcases ih ((h.fol p pl0 hb.1 h1).1 q h4) with ⟨i1, i2⟩ | ⟨u1, u2, z1, q1, rfl, i2, i3, i4, i5⟩
        · exact .inl ⟨i1, .step h1 (h2 ▸ hh) h4 i2⟩
        · exact .inr ⟨r :: u1, u2, z1, q1, rfl, i2, i3, .step h1 (h2 ▸ hh) h4 i4, i5⟩
      · have hq := k.first q h5
        obtain ⟨i1, i2⟩ := downy hr hq
        exact .inr ⟨[r], u, p, q, rfl, h4, h5, .one h1 (h2 ▸ hh), i1, i2.1⟩
  refine ⟨by rw [follow_len2]; omega, fun i hi => ?_, fun p hp => ?_, fun p hp => ?_, fun p pl h1 h2 => ?_, ?_, fun u hu => ?_⟩
  · rw [follow_get, k.same i (by omega), h.same i hi]
    have hx : x.last.testBit i = false := by
      cases e : x.last.testBit i
      · rfl
      · have := h.last i e; omega
    rw [hx]
    simp
  · rw [follow_len2]
    unfold joinP at hp
    dsimp only at hp
    split at hp
    · rw [Nat.testBit_or, Bool.or_eq_true] at hp
      rcases hp with hp | hp
      · have := h.first p hp; omega
      · have := k.first p hp; omega
    · have := h.first p hp; omega
  · rw [follow_len2]
    unfold joinP at hp
    dsimp only at hp
    split at hp
    · rw [Nat.testBit_or, Bool.or_eq_true] at hp
      rcases hp with hp | hp
      · have := h.last p hp; omega
      · have := k.last p hp; omega
    · have := k.last p hp; omega
  · rw [follow_len2]
    obtain ⟨pl0, e1, e2, e3, e4⟩ := hnew p pl h2
    rw [e3]
    by_cases hpc : p < c.out.length
    · rw [k.same p hpc] at e1
      have := h.fol p pl0 h1 e1
      refine ⟨fun q hq => ?_, this.2⟩
      rcases (e4 q).1 hq with e5 | ⟨_, e5⟩
      · have := this.1 q e5; omega
      · have := k.first q e5; omega
    · have := k.fol p pl0 (by omega) e1
      refine ⟨fun q hq => ?_, this.2⟩
      rcases (e4 q).1 hq with e5 | ⟨_, e5⟩
      · have := this.1 q e5; omega
      · have := k.first q e5; omega
  · unfold joinP
    dsimp only
    rw [Bool.and_eq_true, h.eps, k.eps]
    constructor
    · rintro ⟨e1, e2⟩
      exact ⟨[], [], rfl, e1, e2⟩
    · rintro ⟨v, w, e, e1, e2⟩
      obtain ⟨rfl, rfl⟩ := List.append_eq_nil_iff.1 e.symm
      exact ⟨e1, e2⟩
  · constructor
    · rintro ⟨v, w, rfl, e1, e2⟩
      by_cases hv : v = []
      · subst hv
        by_cases hw : w = []
        · subst hw; exact absurd rfl hu
        · obtain ⟨p, z, f1, f2, f3⟩ := (k.lang w hw).1 e2
          refine ⟨p, z, ?_, ?_, ?_⟩
          · unfold joinP; dsimp only; rw [if_pos (h.eps.2 e1), Nat.testBit_or, f1, Bool.or_true]
          · unfold joinP; dsimp only; split
            · rw [Nat.testBit_or, f2, Bool.or_true]
            · exact f2
          · exact upy f3 (k.first p f1)
      · obtain ⟨p, z, f1, f2, f3⟩ := (h.lang v hv).1 e1
        have f4 := upx f3 (h.first p f1)
        have f5 : (joinP x y).first.testBit p = true := by
          unfold joinP; dsimp only; split
          · rw [Nat.testBit_or, f1]; rfl
          · exact f1
        by_cases hw : w = []
        · subst hw
          refine ⟨p, z, f5, ?_, by rw [List.append_nil]; exact f4⟩
          unfold joinP; dsimp only; rw [if_pos (k.eps.2 e2), Nat.testBit_or, f2]; rfl
        · obtain ⟨q, z', g1, g2, g3⟩ := (k.lang w hw).1 e2
          obtain ⟨pl, hpl⟩ := f3.there.2
          obtain ⟨pl', m1, _, _, m2⟩ := hold z pl (by rw [k.same z (h.last z f2).2]; exact hpl)
          refine ⟨p, z', f5, ?_, f4.app m1 ((m2 q).2 (.inr ⟨f2, g1⟩)) (upy g3 (k.first q g1))⟩
          unfold joinP; dsimp only; split
          · rw [Nat.testBit_or, g2, Bool.or_true]
          · exact g2
    · rintro ⟨p, z, f1, f2, f3⟩
      have hlast : ∀ z, (joinP x y).last.testBit z = true → (y.last.testBit z = true) ∨ (y.empty = true ∧ x.last.testBit z = true) := fun z hz => by
        unfold joinP at hz
        dsimp only at hz
        split at hz
        · rename_i hy
          rw [Nat.testBit_or, Bool.or_eq_true] at hz
          rcases hz with hz | hz
          · exact .inr ⟨hy, hz⟩
          · exact .inl hz
        · exact .inl hz
      have fromx : x.first.testBit p = true → Cat L M u := fun hx => by
        rcases downx f3 (h.first p hx) with ⟨i1, i2⟩ | ⟨u1, u2, z1, q, rfl, i2, i3, i4, i5, i6⟩
        · rcases hlast z f2 with e | ⟨e1, e2⟩
          · have := k.last z e; omega
          · exact ⟨u, [], by rw [List.append_nil], (h.lang u hu).2 ⟨p, z, hx, e2, i2⟩, k.eps.1 e1⟩
        · rcases hlast z f2 with e | ⟨e1, e2⟩
          · exact ⟨u1, u2, rfl, (h.lang u1 i4.ne).2 ⟨p, z1, hx, i2, i4⟩, (k.lang u2 i5.ne).2 ⟨q, z, i3, e, i5⟩⟩
          · have := h.last z e2; omega
      have fromy : x.empty = true → y.first.testBit p = true → Cat L M u := fun he hy => by
        obtain ⟨i1, i2⟩ := downy f3 (k.first p hy)
        rcases hlast z f2 with e | ⟨e1, e2⟩
        · exact ⟨[], u, rfl, h.eps.1 he, (k.lang u hu).2 ⟨p, z, hy, e, i1⟩⟩
        · have := h.last z e2; omega
      unfold joinP at f1
      dsimp only at f1
      split at f1
      · rename_i he
        rw [Nat.testBit_or, Bool.or_eq_true] at f1
        rcases f1 with f1 | f1
        · exact fromx f1
        · exact fromy he f1
      · exact fromx f1
end
end Go.Proofs.YtkinlcichclnkaaDoor
