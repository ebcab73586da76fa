/- The mirror of follows: what stays so while sets grow. Plain. -/
import Derived.Test.YtldoinfbimelpaaQ4
namespace Go.Proofs.Ytldoinfbimelpaa

/-- what is so of sets, whoever they are -/
structure FS.Wf (S : FS) : Prop where
  len : S.rules.length ≤ 1000
  places : ∀ nm i, lookB S.places nm = some i → i < S.rules.length
  tokens : ∀ nm i, lookB S.tokens nm = some i → i + 1 < S.n
  n : S.n ≤ 1000
  any : ∃ i r, S.at i = some r
  first : ∀ i r, S.at i = some r → r.first.length = S.n ∧ r.follow.length = S.n
  low : ∀ i r, S.at i = some r → -1 ≤ r.low ∧ r.low ≤ 1000000
theorem FS.at_lt {S : FS} {i : Nat} {r : FR} (h : S.at i = some r) : i < S.rules.length := by
  unfold FS.at at h
  rcases Nat.lt_or_ge i S.rules.length with h1 | h1
  · exact h1
  · rw [List.getElem?_eq_none h1] at h; cases h
def FS.mod (S : FS) (i : Nat) (f : FR → FR) : FS := { S with rules := S.rules.modify i fun o => o.map f }
theorem FS.mod_at (S : FS) (i j : Nat) (f : FR → FR) : (S.mod i f).at j = if i = j then (S.at j).map f else S.at j := by
  unfold FS.at FS.mod
  simp only [List.getElem?_modify]
  split
  · cases S.rules[j]? with
    | none => rfl
    | some o => cases o <;> rfl
  · cases S.rules[j]? with
    | none => rfl
    | some o => cases o <;> rfl
theorem FS.mod_len (S : FS) (i : Nat) (f : FR → FR) : (S.mod i f).rules.length = S.rules.length := by simp [FS.mod]
theorem FS.Wf.mod {S : FS} (h : S.Wf) (i : Nat) (f : FR → FR) (hf : ∀ r, S.at i = some r → (f r).first.length = S.n ∧ (f r).follow.length = S.n ∧ -1 ≤ (f r).low ∧ (f r).low ≤ 1000000) : (S.mod i f).Wf := by
  have hat : ∀ j r, (S.mod i f).at j = some r → ∃ r0, S.at j = some r0 ∧ (i = j ∧ r = f r0 ∨ i ≠ j ∧ r = r0) := by
    intro j r hj
    rw [FS.mod_at] at hj
    split at hj
    · rename_i e
      cases hq : S.at j with
      | none => rw [hq] at hj; cases hj
      | some r0 => rw [hq] at hj; exact ⟨r0, rfl, .inl ⟨e, (Option.some.inj hj).symm⟩⟩
    · rename_i e
      exact ⟨r, hj, .inr ⟨e, rfl⟩⟩
  refine ⟨by rw [FS.mod_len]; exact h.len, fun nm j hj => by rw [FS.mod_len]; exact h.places nm j hj, h.tokens, h.n, ?_, ?_, ?_⟩
  · obtain ⟨j, r, hj⟩ := h.any
    by_cases e : i = j
    · exact ⟨j, f r, by rw [FS.mod_at, if_pos e, hj]; rfl⟩
    · exact ⟨j, r, by rw [FS.mod_at, if_neg e, hj]⟩
  · intro j r hj
    obtain ⟨r0, h0, ⟨rfl, rfl⟩ | ⟨-, rfl⟩⟩ := hat j r hj
    · exact ⟨(hf r0 h0).1, (hf r0 h0).2.1⟩
    · exact h.first j r h0
  · intro j r hj
    obtain ⟨r0, h0, ⟨rfl, rfl⟩ | ⟨-, rfl⟩⟩ := hat j r hj
    · exact (hf r0 h0).2.2
    · exact h.low j r h0
theorem FS.setFol_eq (S : FS) (i : Nat) (l : List Bool) : S.setFol i l = S.mod i fun r => { r with follow := l } := rfl
theorem FS.setFst_eq (S : FS) (i : Nat) (l : List Bool) : S.setFst i l = S.mod i fun r => { r with first := l } := rfl
theorem FS.setLow_eq (S : FS) (i : Nat) (l : Int) : S.setLow i l = S.mod i fun r => { r with low := l } := rfl
theorem FS.none_len (S : FS) : S.none.length = S.n := by simp [FS.none]
theorem row_len (S : FS) : ∀ (l : List Nd) (_ : ∀ j (h : j < l.length), (S.begin l[j]).1.length = S.n) (out : List Bool), out.length = S.n → (S.row l out).1.length = S.n
  | [], _, _, ho => by rw [FS.row]; exact ho
  | x :: r, h, out, ho => by
    have hx := h 0 (by simp)
    rw [FS.row]
    split
    · exact row_len S r (fun j hj => h (j + 1) (by simpa using hj)) _ (orB_len ho hx)
    · exact orB_len ho hx
theorem alts_len (S : FS) : ∀ (l : List Nd) (_ : ∀ j (h : j < l.length), (S.begin l[j]).1.length = S.n) (out : List Bool) (e : Bool), out.length = S.n → (S.alts l out e).1.length = S.n
  | [], _, _, _, ho => by rw [FS.alts]; exact ho
  | x :: r, h, out, e, ho => by
    rw [FS.alts]
    exact alts_len S r (fun j hj => h (j + 1) (by simpa using hj)) _ _ (orB_len ho (h 0 (by simp)))
theorem begin_len {S : FS} (hw : S.Wf) (n : Nd) : (S.begin n).1.length = S.n := by
  refine Nd.ind (P := fun n => (S.begin n).1.length = S.n) ?_ n
  intro k nm tx set subs ih
  rw [FS.begin]
  split
  · split <;> simp [FS.none]
  split
  · split
    · rename_i r hr
      unfold FS.named at hr
      cases hl : lookB S.places nm with
      | none => rw [hl] at hr; cases hr
      | some i => rw [hl] at hr; exact orB_len S.none_len (hw.first i r hr).1
    · exact S.none_len
  split
  · exact S.none_len
  split
  · exact row_len S subs ih _ S.none_len
  split
  · exact alts_len S subs ih _ _ S.none_len
  · exact S.none_len
/-- the same rules, grown -/
structure Kin (S S' : FS) : Prop where
  places : S'.places = S.places
  tokens : S'.tokens = S.tokens
  n : S'.n = S.n
  len : S'.rules.length = S.rules.length
  body : ∀ i, (S'.at i).map FR.body = (S.at i).map FR.body
theorem Kin.refl (S : FS) : Kin S S := ⟨rfl, rfl, rfl, rfl, fun _ => rfl⟩
theorem Kin.trans {A B C : FS} (h : Kin A B) (k : Kin B C) : Kin A C := ⟨k.places.trans h.places, k.tokens.trans h.tokens, k.n.trans h.n, k.len.trans h.len, fun i => (k.body i).trans (h.body i)⟩
theorem Kin.mod (S : FS) (i : Nat) (f : FR → FR) (hf : ∀ r, (f r).body = r.body) : Kin S (S.mod i f) := ⟨rfl, rfl, rfl, S.mod_len i f, fun j => by
  rw [FS.mod_at]
  split
  · cases S.at j with
    | none => rfl
    | some r => simp [hf]
  · rfl⟩
theorem Kin.some {S S' : FS} (h : Kin S S') {i : Nat} {r' : FR} (hi : S'.at i = some r') : ∃ r, S.at i = some r ∧ r.body = r'.body := by
  have := h.body i
  rw [hi] at this
  cases hr : S.at i with
  | none => rw [hr] at this; cases this
  | some r => rw [hr] at this; exact ⟨r, rfl, (Option.some.inj this).symm⟩
theorem FS.fol_len {S : FS} (hw : S.Wf) {i : Nat} {r : FR} (h : S.at i = some r) : (S.fol i).length = S.n := by unfold FS.fol; rw [h]; exact (hw.first i r h).2
theorem FS.Wf.setFol {S : FS} (hw : S.Wf) (i : Nat) {l : List Bool} (hl : l.length = S.n) : (S.setFol i l).Wf := hw.mod i _ fun r hr => ⟨(hw.first i r hr).1, hl, hw.low i r hr⟩
theorem FS.Wf.setFst {S : FS} (hw : S.Wf) (i : Nat) {l : List Bool} (hl : l.length = S.n) : (S.setFst i l).Wf := hw.mod i _ fun r hr => ⟨hl, (hw.first i r hr).2, hw.low i r hr⟩
theorem FS.Wf.setLow {S : FS} (hw : S.Wf) (i : Nat) {l : Int} (h1 : -1 ≤ l) (h2 : l ≤ 1000000) : (S.setLow i l).Wf := hw.mod i _ fun r hr => ⟨(hw.first i r hr).1, (hw.first i r hr).2, h1, h2⟩
theorem ix_cases (S : FS) (nm : ByteArray) : (S.ix nm = none ∧ S.named nm = none) ∨ ∃ i r, S.ix nm = some i ∧ S.at i = some r ∧ S.named nm = some r := by
  unfold FS.ix FS.named
  cases lookB S.places nm with
  | none => exact .inl ⟨rfl, rfl⟩
  | some i =>
    simp only [Option.bind_some]
    cases h : S.at i with
    | none => exact .inl ⟨rfl, rfl⟩
    | some r => exact .inr ⟨i, r, rfl, h, rfl⟩
end Go.Proofs.Ytldoinfbimelpaa

/- Ways through a net, in plain Lean: what is reached by whom; the laws of joining and of fewer tokens. No program in sight. -/
namespace Go.Proofs.Ytldoinfbimelpaa

/-- an edge -/
structure Edg where
  kind : Int
  what : Int
  to : Int
/-- a state -/
structure Sta where
  rule : Int
  edges : List Edg
  ends : List Int
/-- a net -/
structure Net where
  states : List Sta
  starts : List Int
  stops : List Int
  preds : List Int
  decisions : List Int

/-- who walks: none: from the place that is asked; else a rule, behind so many tokens -/
abbrev Key := Option (Nat × Nat)
/-- a state, behind so many tokens -/
abbrev Pl := Nat × Nat

namespace Net
def edges (N : Net) (s : Nat) : List Edg := (N.states[s]?.map (·.edges)).getD []
def ends (N : Net) (s : Nat) : List Int := (N.states[s]?.map (·.ends)).getD []
def start (N : Net) (r : Nat) : Nat := (N.starts.getD r 0).toNat
def stop (N : Net) (r : Nat) : Nat := (N.stops.getD r 0).toNat
end Net

/-- what is reached: from over nothing is gone on by the first walk -/
inductive Lv (N : Net) (w : List Int) (p0 : Pl) (over : Int) : Key → Pl → Prop
  | root : Lv N w p0 over none p0
  | begin {κ : Key} {s i : Nat} {e : Edg} (h : Lv N w p0 over κ (s, i)) (hg : κ = none → (s : Int) ≠ over) (he : e ∈ N.edges s) (hk : e.kind = 2) : Lv N w p0 over (some (e.what.toNat, i)) (N.start e.what.toNat, i)
  | eps {κ : Key} {s i : Nat} {e : Edg} (h : Lv N w p0 over κ (s, i)) (hg : κ = none → (s : Int) ≠ over) (he : e ∈ N.edges s) (hk : e.kind ≠ 2) (hk' : e.kind ≠ 1) : Lv N w p0 over κ (e.to.toNat, i)
  | tok {κ : Key} {s i : Nat} {e : Edg} (h : Lv N w p0 over κ (s, i)) (hg : κ = none → (s : Int) ≠ over) (he : e ∈ N.edges s) (hk : e.kind = 1) (hw : w[i]? = some e.what) : Lv N w p0 over κ (e.to.toNat, i + 1)
  | back {κ : Key} {s i j : Nat} {e : Edg} (h : Lv N w p0 over κ (s, i)) (hg : κ = none → (s : Int) ≠ over) (he : e ∈ N.edges s) (hk : e.kind = 2) (hc : Lv N w p0 over (some (e.what.toNat, i)) (N.stop e.what.toNat, j)) : Lv N w p0 over κ (e.to.toNat, j)

section
variable {N : Net} {w : List Int} {p0 : Pl} {over : Int}

def Key.at : Key → Nat
  | none => 0
  | some (_, t) => t
/-- a walk goes on from where it began -/
theorem Lv.least {κ : Key} {p : Pl} (h : Lv N w p0 over κ p) : Key.at κ ≤ p.2 := by
  induction h with
  | root => exact Nat.zero_le _
  | begin h hg he hk ih => exact Nat.le_refl _
  | eps h hg he hk hk' ih => exact ih
  | tok h hg he hk hw ih => exact Nat.le_succ_of_le ih
  | back h hg he hk hc ih ih2 => exact Nat.le_trans ih ih2
/-- no more tokens are taken than there are -/
theorem Lv.most {κ : Key} {p : Pl} (h : Lv N w p0 over κ p) (h0 : p0.2 ≤ w.length) : p.2 ≤ w.length := by
  induction h with
  | root => exact h0
  | begin h hg he hk ih => exact ih
  | eps h hg he hk hk' ih => exact ih
  | tok h hg he hk hw ih =>
    have := (List.getElem?_eq_some_iff.1 hw).1
    simp only
    omega
  | back h hg he hk hc ih ih2 => exact ih2

/-- with more tokens behind, all is reached that was -/
theorem Lv.more {κ : Key} {p : Pl} {cut : Nat} (h : Lv N (w.take cut) p0 over κ p) : Lv N w p0 over κ p := by
  induction h with
  | root => exact .root
  | begin h hg he hk ih => exact .begin ih hg he hk
  | eps h hg he hk hk' ih => exact .eps ih hg he hk hk'
  | tok h hg he hk hw ih =>
    refine .tok ih hg he hk ?_
    rw [List.getElem?_take] at hw
    split at hw
    · exact hw
    · cases hw
  | back h hg he hk hc ih ih2 => exact .back ih hg he hk ih2
/-- what is reached by the first tokens hangs on these -/
theorem Lv.fewer {κ : Key} {p : Pl} {cut : Nat} (h : Lv N w p0 over κ p) (hp : p.2 ≤ cut) : Lv N (w.take cut) p0 over κ p := by
  induction h with
  | root => exact .root
  | begin h hg he hk ih => exact .begin (ih hp) hg he hk
  | eps h hg he hk hk' ih => exact .eps (ih hp) hg he hk hk'
  | @tok κ s i e h hg he hk hw ih =>
    simp only at hp
    refine .tok (ih (by simp only; omega)) hg he hk ?_
    rw [List.getElem?_take, if_pos (by omega)]
    exact hw
  | back h hg he hk hc ih ih2 =>
    have := hc.least
    simp only [Key.at] at this
    exact .back (ih (Nat.le_trans this hp)) hg he hk (ih2 hp)

/-- who comes further comes by -/
theorem Lv.by {κ : Key} {p : Pl} {cut : Nat} (h : Lv N w p0 over κ p) (h0 : p0.2 ≤ cut) (hp : cut ≤ p.2) : ∃ κ' p', Lv N w p0 over κ' p' ∧ p'.2 = cut := by
  induction h with
  | root => exact ⟨none, p0, .root, by omega⟩
  | begin h hg he hk ih => exact ih hp
  | eps h hg he hk hk' ih => exact ih hp
  | @tok κ s i e h hg he hk hw ih =>
    simp only at hp
    rcases Nat.lt_or_ge i cut with hi | hi
    · exact ⟨κ, _, .tok h hg he hk hw, by simp only; omega⟩
    · exact ih hi
  | back h hg he hk hc ih ih2 => exact ih2 hp

def Key.shift (n : Nat) : Key → Key
  | none => none
  | some (r, t) => some (r, n + t)
/-- one way behind another one -/
theorem Lv.join {κ : Key} {p : Pl} {n mid : Nat} (h1 : Lv N w p0 over none (mid, n)) (h : Lv N (w.drop n) (mid, 0) over κ p) : Lv N w p0 over (Key.shift n κ) (p.1, n + p.2) := by
  have gd : ∀ {κ : Key} {s : Nat}, (κ = none → (s : Int) ≠ over) → (Key.shift n κ = none → (s : Int) ≠ over) := by
    intro κ s hg hs
    cases κ with
    | none => exact hg rfl
    | some c => cases hs
  induction h with
  | root => exact h1
  | begin h hg he hk ih => exact .begin ih (gd hg) he hk
  | eps h hg he hk hk' ih => exact .eps ih (gd hg) he hk hk'
  | tok h hg he hk hw ih =>
    rw [List.getElem?_drop] at hw
    exact .tok ih (gd hg) he hk hw
  | back h hg he hk hc ih ih2 => exact .back ih (gd hg) he hk ih2
end

/-- does an alternative go along? -/
def AlongIs (N : Net) (w : List Int) (p0 : Pl) (over : Int) : Prop :=
  (∃ κ p, Lv N w p0 over κ p ∧ p.2 = w.length) ∨ ∃ i, i ≤ w.length ∧ Lv N w p0 over none (over.toNat, i)
theorem AlongIs.fewer {N : Net} {w : List Int} {p0 : Pl} {over : Int} {cut : Nat} (h0 : p0.2 = 0) (hc : cut ≤ w.length) (h : AlongIs N w p0 over) : AlongIs N (w.take cut) p0 over := by
  have hl : (w.take cut).length = cut := by rw [List.length_take]; omega
  have key : ∀ κ p, Lv N w p0 over κ p → cut ≤ p.2 → AlongIs N (w.take cut) p0 over := by
    intro κ p hl' hp
    obtain ⟨κ', p', h1, h2⟩ := hl'.by (by omega) hp
    exact .inl ⟨κ', p', h1.fewer (by omega), by rw [hl]; exact h2⟩
  rcases h with ⟨κ, p, h1, h2⟩ | ⟨i, hi, h1⟩
  · exact key κ p h1 (by omega)
  · rcases Nat.lt_or_ge cut i with h | h
    · exact key _ _ h1 (by simp only; omega)
    · exact .inr ⟨i, by rw [hl]; exact h, h1.fewer h⟩
theorem AlongIs.nil {N : Net} {p0 : Pl} {over : Int} (h0 : p0.2 = 0) : AlongIs N [] p0 over := .inl ⟨none, p0, .root, h0⟩
end Go.Proofs.Ytldoinfbimelpaa
