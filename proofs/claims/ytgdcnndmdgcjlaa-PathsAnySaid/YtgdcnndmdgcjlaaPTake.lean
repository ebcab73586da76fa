/- Ways through a net by what rules take: who takes what is the least; that is what is reached. No program in sight. -/
import Derived.Test.YtgdcnndmdgcjlaaPInv
namespace Go.Proofs.Ytgdcnndmdgcjlaa

/-- a walk, in which rules take what E says -/
inductive Wk (N : Net) (w : List Int) (E : Nat → Nat → Nat → Prop) (p0 : Pl) (over : Int) : Pl → Prop
  | root : Wk N w E p0 over p0
  | eps {s i : Nat} {e : Edg} (h : Wk N w E p0 over (s, i)) (hg : (s : Int) ≠ over) (he : e ∈ N.edges s) (hk : e.kind ≠ 2) (hk' : e.kind ≠ 1) : Wk N w E p0 over (e.to.toNat, i)
  | tok {s i : Nat} {e : Edg} (h : Wk N w E p0 over (s, i)) (hg : (s : Int) ≠ over) (he : e ∈ N.edges s) (hk : e.kind = 1) (hw : w[i]? = some e.what) : Wk N w E p0 over (e.to.toNat, i + 1)
  | rule {s i j : Nat} {e : Edg} (h : Wk N w E p0 over (s, i)) (hg : (s : Int) ≠ over) (he : e ∈ N.edges s) (hk : e.kind = 2) (hE : E e.what.toNat i j) : Wk N w E p0 over (e.to.toNat, j)
/-- are all tokens taken somewhere? -/
def WkAll (N : Net) (w : List Int) (E : Nat → Nat → Nat → Prop) (A : Nat → Nat → Prop) (p0 : Pl) (over : Int) : Prop :=
  (∃ p, Wk N w E p0 over p ∧ p.2 = w.length) ∨ ∃ s i e, Wk N w E p0 over (s, i) ∧ (s : Int) ≠ over ∧ e ∈ N.edges s ∧ e.kind = 2 ∧ A e.what.toNat i

/-- what a rule takes behind so many tokens, at the least -/
inductive Tg (N : Net) (w : List Int) : Nat × Nat → Pl → Prop
  | root (c : Nat × Nat) : Tg N w c (N.start c.1, c.2)
  | eps {c : Nat × Nat} {s i : Nat} {e : Edg} (h : Tg N w c (s, i)) (he : e ∈ N.edges s) (hk : e.kind ≠ 2) (hk' : e.kind ≠ 1) : Tg N w c (e.to.toNat, i)
  | tok {c : Nat × Nat} {s i : Nat} {e : Edg} (h : Tg N w c (s, i)) (he : e ∈ N.edges s) (hk : e.kind = 1) (hw : w[i]? = some e.what) : Tg N w c (e.to.toNat, i + 1)
  | rule {c : Nat × Nat} {s i j : Nat} {e : Edg} (h : Tg N w c (s, i)) (he : e ∈ N.edges s) (hk : e.kind = 2) (hc : Tg N w (e.what.toNat, i) (N.stop e.what.toNat, j)) : Tg N w c (e.to.toNat, j)
def TgE (N : Net) (w : List Int) (r i j : Nat) : Prop := Tg N w (r, i) (N.stop r, j)
inductive Ag (N : Net) (w : List Int) : Nat × Nat → Prop
  | here {c : Nat × Nat} {p : Pl} (h : Tg N w c p) (hp : p.2 = w.length) : Ag N w c
  | sub {c : Nat × Nat} {s i : Nat} {e : Edg} (h : Tg N w c (s, i)) (he : e ∈ N.edges s) (hk : e.kind = 2) (ha : Ag N w (e.what.toNat, i)) : Ag N w c
def AgP (N : Net) (w : List Int) (r i : Nat) : Prop := Ag N w (r, i)

section
variable {N : Net} {w : List Int}
theorem nat_ne (s : Nat) : (s : Int) ≠ -1 := by omega

/-- no more is taken than there is; all lies in the net -/
theorem Tg.most {c : Nat × Nat} {p : Pl} (h : Tg N w c p) (h0 : c.2 ≤ w.length) : p.2 ≤ w.length := by
  induction h with
  | root c => exact h0
  | eps h he hk hk' ih => exact ih h0
  | tok h he hk hw ih =>
    have := (List.getElem?_eq_some_iff.1 hw).1
    simp only
    omega
  | rule h he hk hc ih ih2 => exact ih2 (ih h0)
theorem Wk.mono {E E' : Nat → Nat → Nat → Prop} (hE : ∀ r i j, E r i j → E' r i j) {p0 : Pl} {over : Int} {p : Pl} (h : Wk N w E p0 over p) : Wk N w E' p0 over p := by
  induction h with
  | root => exact .root
  | eps h hg he hk hk' ih => exact .eps ih hg he hk hk'
  | tok h hg he hk hw ih => exact .tok ih hg he hk hw
  | rule h hg he hk hc ih => exact .rule ih hg he hk (hE _ _ _ hc)
theorem WkAll.mono {E E' : Nat → Nat → Nat → Prop} {A A' : Nat → Nat → Prop} (hE : ∀ r i j, E r i j → E' r i j) (hA : ∀ r i, A r i → A' r i) {p0 : Pl} {over : Int} (h : WkAll N w E A p0 over) : WkAll N w E' A' p0 over := by
  rcases h with ⟨p, h1, h2⟩ | ⟨s, i, e, h1, h2, h3, h4, h5⟩
  · exact .inl ⟨p, h1.mono hE, h2⟩
  · exact .inr ⟨s, i, e, h1.mono hE, h2, h3, h4, hA _ _ h5⟩
/-- what walks give by what rules take at the least is no more than that -/
theorem Wk.tg {c : Nat × Nat} {p : Pl} (h : Wk N w (TgE N w) (N.start c.1, c.2) (-1) p) : Tg N w c p := by
  induction h with
  | root => exact .root c
  | eps h hg he hk hk' ih => exact .eps ih he hk hk'
  | tok h hg he hk hw ih => exact .tok ih he hk hw
  | rule h hg he hk hc ih => exact .rule ih he hk hc
theorem WkAll.ag {c : Nat × Nat} (h : WkAll N w (TgE N w) (AgP N w) (N.start c.1, c.2) (-1)) : Ag N w c := by
  rcases h with ⟨p, h1, h2⟩ | ⟨s, i, e, h1, h2, h3, h4, h5⟩
  · exact .here h1.tg h2
  · exact .sub h1.tg h3 h4 h5
/-- who grows no more has all -/
theorem Tg.wk {E : Nat → Nat → Nat → Prop} (hN : N.Ok) (hE : ∀ r i j, r < N.starts.length → i ≤ w.length → j ≤ w.length → Wk N w E (N.start r, i) (-1) (N.stop r, j) → E r i j) {c : Nat × Nat} {p : Pl} (h : Tg N w c p) (h0 : c.2 ≤ w.length) :
    Wk N w E (N.start c.1, c.2) (-1) p := by
  induction h with
  | root c => exact .root
  | eps h he hk hk' ih => exact .eps (ih h0) (nat_ne _) he hk hk'
  | tok h he hk hw ih => exact .tok (ih h0) (nat_ne _) he hk hw
  | @rule c s i j e h he hk hc ih ih2 =>
    have hi : i ≤ w.length := h.most h0
    have hj : j ≤ w.length := hc.most hi
    exact .rule (ih h0) (nat_ne _) he hk (hE _ _ _ ((hN.edge s e he).2.2 hk) hi hj (ih2 hi))
theorem Ag.wk {E : Nat → Nat → Nat → Prop} {A : Nat → Nat → Prop} (hN : N.Ok) (hE : ∀ r i j, r < N.starts.length → i ≤ w.length → j ≤ w.length → Wk N w E (N.start r, i) (-1) (N.stop r, j) → E r i j)
    (hA : ∀ r i, r < N.starts.length → i ≤ w.length → WkAll N w E A (N.start r, i) (-1) → A r i) {c : Nat × Nat} (h : Ag N w c) (h0 : c.2 ≤ w.length) : WkAll N w E A (N.start c.1, c.2) (-1) := by
  induction h with
  | here h hp => exact .inl ⟨_, h.wk hN hE h0, hp⟩
  | @sub c s i e h he hk ha ih =>
    have hi : i ≤ w.length := h.most h0
    exact .inr ⟨s, i, e, h.wk hN hE h0, nat_ne _, he, hk, hA _ _ ((hN.edge s e he).2.2 hk) hi (ih hi)⟩

/-- what is reached of a rule that was begun is what it takes -/
theorem Tg.lv {p0 : Pl} {over : Int} {c : Nat × Nat} {p : Pl} (h : Tg N w c p) (h0 : Lv N w p0 over (some c) (N.start c.1, c.2)) : Lv N w p0 over (some c) p := by
  induction h with
  | root c => exact h0
  | eps h he hk hk' ih => exact .eps (ih h0) (fun h => by cases h) he hk hk'
  | tok h he hk hw ih => exact .tok (ih h0) (fun h => by cases h) he hk hw
  | rule h he hk hc ih ih2 => exact .back (ih h0) (fun h => by cases h) he hk (ih2 (.begin (ih h0) (fun h => by cases h) he hk))
theorem Lv.wk {p0 : Pl} {over : Int} {κ : Key} {p : Pl} (h : Lv N w p0 over κ p) : (κ = none → Wk N w (TgE N w) p0 over p) ∧ ∀ c, κ = some c → Tg N w c p := by
  induction h with
  | root => exact ⟨fun _ => .root, fun c h => (by cases h)⟩
  | begin h hg he hk ih => exact ⟨fun h => (by cases h), fun c h => (by cases h; exact .root _)⟩
  | eps h hg he hk hk' ih => exact ⟨fun h => .eps (ih.1 h) (hg h) he hk hk', fun c h => .eps (ih.2 c h) he hk hk'⟩
  | tok h hg he hk hw ih => exact ⟨fun h => .tok (ih.1 h) (hg h) he hk hw, fun c h => .tok (ih.2 c h) he hk hw⟩
  | back h hg he hk hc ih ih2 => exact ⟨fun h => .rule (ih.1 h) (hg h) he hk (ih2.2 _ rfl), fun c h => .rule (ih.2 c h) he hk (ih2.2 _ rfl)⟩
theorem Wk.lv {p0 : Pl} {over : Int} {p : Pl} (h : Wk N w (TgE N w) p0 over p) : Lv N w p0 over none p := by
  induction h with
  | root => exact .root
  | eps h hg he hk hk' ih => exact .eps ih (fun _ => hg) he hk hk'
  | tok h hg he hk hw ih => exact .tok ih (fun _ => hg) he hk hw
  | rule h hg he hk hc ih => exact .back ih (fun _ => hg) he hk (Tg.lv hc (.begin ih (fun _ => hg) he hk))
theorem lv_iff {p0 : Pl} {over : Int} {p : Pl} : Lv N w p0 over none p ↔ Wk N w (TgE N w) p0 over p := ⟨fun h => h.wk.1 rfl, Wk.lv⟩

theorem Lv.ag {p0 : Pl} {over : Int} {κ : Key} {p : Pl} (h : Lv N w p0 over κ p) : ∀ c, κ = some c → Ag N w c → WkAll N w (TgE N w) (AgP N w) p0 over := by
  induction h with
  | root => exact fun c h => by cases h
  | @begin κ s i e h hg he hk ih =>
    intro c hc ha
    cases hc
    cases κ with
    | none => exact .inr ⟨s, i, e, h.wk.1 rfl, hg rfl, he, hk, ha⟩
    | some c0 => exact ih c0 rfl (.sub (h.wk.2 c0 rfl) he hk ha)
  | eps h hg he hk hk' ih => exact ih
  | tok h hg he hk hw ih => exact ih
  | back h hg he hk hc ih ih2 => exact ih
theorem Ag.lv {p0 : Pl} {over : Int} {c : Nat × Nat} (h : Ag N w c) (h0 : Lv N w p0 over (some c) (N.start c.1, c.2)) : ∃ κ p, Lv N w p0 over κ p ∧ p.2 = w.length := by
  induction h with
  | here h hp => exact ⟨_, _, h.lv h0, hp⟩
  | sub h he hk ha ih => exact ih (.begin (h.lv h0) (fun h => by cases h) he hk)
theorem all_iff {p0 : Pl} {over : Int} : (∃ κ p, Lv N w p0 over κ p ∧ p.2 = w.length) ↔ WkAll N w (TgE N w) (AgP N w) p0 over := by
  constructor
  · rintro ⟨κ, p, h, hp⟩
    cases κ with
    | none => exact .inl ⟨p, h.wk.1 rfl, hp⟩
    | some c => exact h.ag c rfl (.here (h.wk.2 c rfl) hp)
  · rintro (⟨p, h1, h2⟩ | ⟨s, i, e, h1, h2, h3, h4, h5⟩)
    · exact ⟨none, p, h1.lv, h2⟩
    · exact Ag.lv h5 (.begin h1.lv (fun _ => h2) h3 h4)
theorem along_iff {p0 : Pl} {over : Int} : AlongIs N w p0 over ↔ WkAll N w (TgE N w) (AgP N w) p0 over ∨ ∃ i, i ≤ w.length ∧ Wk N w (TgE N w) p0 over (over.toNat, i) := by
  unfold AlongIs
  rw [all_iff]
  constructor
  · rintro (h | ⟨i, hi, h⟩)
    · exact .inl h
    · exact .inr ⟨i, hi, lv_iff.1 h⟩
  · rintro (h | ⟨i, hi, h⟩)
    · exact .inl h
    · exact .inr ⟨i, hi, lv_iff.2 h⟩
end
end Go.Proofs.Ytgdcnndmdgcjlaa
