/- Ways through a net, in plain Lean: what is reached by whom; the laws of joining and of fewer tokens. No program in sight. -/
namespace Go.Proofs.YtkinlcichclnkaaDoor

/-- an edge -/
structure Edg where
  kind : Int
  what : Int
  to : Int
/-- a state -/
structure Sta where
  rule : Int
  edges : List Edg
  ends : List Int
/-- a net -/
structure Net where
  states : List Sta
  starts : List Int
  stops : List Int
  preds : List Int
  decisions : List Int

/-- who walks: none: from the place that is asked; else a rule, behind so many tokens -/
abbrev Key := Option (Nat × Nat)
/-- a state, behind so many tokens -/
abbrev Pl := Nat × Nat

namespace Net
def edges (N : Net) (s : Nat) : List Edg := (N.states[s]?.map (·.edges)).getD []
def ends (N : Net) (s : Nat) : List Int := (N.states[s]?.map (·.ends)).getD []
def start (N : Net) (r : Nat) : Nat := (N.starts.getD r 0).toNat
def stop (N : Net) (r : Nat) : Nat := (N.stops.getD r 0).toNat
end Net

/-- what is reached: from over nothing is gone on by the first walk -/
inductive Lv (N : Net) (w : List Int) (p0 : Pl) (over : Int) : Key → Pl → Prop
  | root : Lv N w p0 over none p0
  | begin {κ : Key} {s i : Nat} {e : Edg} (h : Lv N w p0 over κ (s, i)) (hg : κ = none → (s : Int) ≠ over) (he : e ∈ N.edges s) (hk : e.kind = 2) : Lv N w p0 over (some (e.what.toNat, i)) (N.start e.what.toNat, i)
  | eps {κ : Key} {s i : Nat} {e : Edg} (h : Lv N w p0 over κ (s, i)) (hg : κ = none → (s : Int) ≠ over) (he : e ∈ N.edges s) (hk : e.kind ≠ 2) (hk' : e.kind ≠ 1) : Lv N w p0 over κ (e.to.toNat, i)
  | tok {κ : Key} {s i : Nat} {e : Edg} (h : Lv N w p0 over κ (s, i)) (hg : κ = none → (s : Int) ≠ over) (he : e ∈ N.edges s) (hk : e.kind = 1) (hw : w[i]? = some e.what) : Lv N w p0 over κ (e.to.toNat, i + 1)
  | back {κ : Key} {s i j : Nat} {e : Edg} (h : Lv N w p0 over κ (s, i)) (hg : κ = none → (s : Int) ≠ over) (he : e ∈ N.edges s) (hk : e.kind = 2) (hc : Lv N w p0 over (some (e.what.toNat, i)) (N.stop e.what.toNat, j)) : Lv N w p0 over κ (e.to.toNat, j)

section
variable {N : Net} {w : List Int} {p0 : Pl} {over : Int}

def Key.at : Key → Nat
  | none => 0
  | some (_, t) => t
/-- a walk goes on from where it began -/
theorem Lv.least {κ : Key} {p : Pl} (h : Lv N w p0 over κ p) : Key.at κ ≤ p.2 := by
  induction h with
  | root => exact Nat.zero_le _
  | begin h hg he hk ih => exact Nat.le_refl _
  | eps h hg he hk hk' ih => exact ih
  | tok h hg he hk hw ih => exact Nat.le_succ_of_le ih
  | back h hg he hk hc ih ih2 => exact Nat.le_trans ih ih2
/-- no more tokens are taken than there are -/
theorem Lv.most {κ : Key} {p : Pl} (h : Lv N w p0 over κ p) (h0 : p0.2 ≤ w.length) : p.2 ≤ w.length := by
  induction h with
  | root => exact h0
  | begin h hg he hk ih => exact ih
  | eps h hg he hk hk' ih => exact ih
  | tok h hg he hk hw ih =>
    have := (List.getElem?_eq_some_iff.1 hw).1
    simp only
    omega
  | back h hg he hk hc ih ih2 => exact ih2

/-- with more tokens behind, all is reached that was -/
theorem Lv.more {κ : Key} {p : Pl} {cut : Nat} (h : Lv N (w.take cut) p0 over κ p) : Lv N w p0 over κ p := by
  induction h with
  | root => exact .root
  | begin h hg he hk ih => exact .begin ih hg he hk
  | eps h hg he hk hk' ih => exact .eps ih hg he hk hk'
  | tok h hg he hk hw ih =>
    refine .tok ih hg he hk ?_
    rw [List.getElem?_take] at hw
    split at hw
    · exact hw
    · cases hw
  | back h hg he hk hc ih ih2 => exact .back ih hg he hk ih2
/-- what is reached by the first tokens hangs on these -/
theorem Lv.fewer {κ : Key} {p : Pl} {cut : Nat} (h : Lv N w p0 over κ p) (hp : p.2 ≤ cut) : Lv N (w.take cut) p0 over κ p := by
  induction h with
  | root => exact .root
  | begin h hg he hk ih => exact .begin (ih hp) hg he hk
  | eps h hg he hk hk' ih => exact .eps (ih hp) hg he hk hk'
  | @tok κ s i e h hg he hk hw ih =>
    simp only at hp
    refine .tok (ih (by simp only; omega)) hg he hk ?_
    rw [List.getElem?_take, if_pos (by omega)]
    exact hw
  | back h hg he hk hc ih ih2 =>
    have := hc.least
    simp only [Key.at] at this
    exact .back (ih (Nat.le_trans this hp)) hg he hk (ih2 hp)

/-- who comes further comes by -/
theorem Lv.by {κ : Key} {p : Pl} {cut : Nat} (h : Lv N w p0 over κ p) (h0 : p0.2 ≤ cut) (hp : cut ≤ p.2) : ∃ κ' p', Lv N w p0 over κ' p' ∧ p'.2 = cut := by
  induction h with
  | root => exact ⟨none, p0, .root, by omega⟩
  | begin h hg he hk ih => exact ih hp
  | eps h hg he hk hk' ih => exact ih hp
  | @tok κ s i e h hg he hk hw ih =>
    simp only at hp
    rcases Nat.lt_or_ge i cut with hi | hi
    · exact ⟨κ, _, .tok h hg he hk hw, by simp only; omega⟩
    · exact ih hi
  | back h hg he hk hc ih ih2 => exact ih2 hp

def Key.shift (n : Nat) : Key → Key
  | none => none
  | some (r, t) => some (r, n + t)
/-- one way behind another one -/
theorem Lv.join {κ : Key} {p : Pl} {n mid : Nat} (h1 : Lv N w p0 over none (mid, n)) (h : Lv N (w.drop n) (mid, 0) over κ p) : Lv N w p0 over (Key.shift n κ) (p.1, n + p.2) := by
  have gd : ∀ {κ : Key} {s : Nat}, (κ = none → (s : Int) ≠ over) → (Key.shift n κ = none → (s : Int) ≠ over) := by
    intro κ s hg hs
    cases κ with
    | none => exact hg rfl
    | some c => cases hs
  induction h with
  | root => exact h1
  | begin h hg he hk ih => exact .begin ih (gd hg) he hk
  | eps h hg he hk hk' ih => exact .eps ih (gd hg) he hk hk'
  | tok h hg he hk hw ih =>
    rw [List.getElem?_drop] at hw
    exact .tok ih (gd hg) he hk hw
  | back h hg he hk hc ih ih2 => exact .back ih (gd hg) he hk ih2
end

/-- does an alternative go along? -/
def AlongIs (N : Net) (w : List Int) (p0 : Pl) (over : Int) : Prop :=
  (∃ κ p, Lv N w p0 over κ p ∧ p.2 = w.length) ∨ ∃ i, i ≤ w.length ∧ Lv N w p0 over none (over.toNat, i)
theorem AlongIs.fewer {N : Net} {w : List Int} {p0 : Pl} {over : Int} {cut : Nat} (h0 : p0.2 = 0) (hc : cut ≤ w.length) (h : AlongIs N w p0 over) : AlongIs N (w.take cut) p0 over := by
  have hl : (w.take cut).length = cut := by rw [List.length_take]; omega
  have key : ∀ κ p, Lv N w p0 over κ p → cut ≤ p.2 → AlongIs N (w.take cut) p0 over := by
    intro κ p hl' hp
    obtain ⟨κ', p', h1, h2⟩ := hl'.by (by omega) hp
    exact .inl ⟨κ', p', h1.fewer (by omega), by rw [hl]; exact h2⟩
  rcases h with ⟨κ, p, h1, h2⟩ | ⟨i, hi, h1⟩
  · exact key κ p h1 (by omega)
  · rcases Nat.lt_or_ge cut i with h | h
    · exact key _ _ h1 (by simp only; omega)
    · exact .inr ⟨i, by rw [hl]; exact h, h1.fewer h⟩
theorem AlongIs.nil {N : Net} {p0 : Pl} {over : Int} (h0 : p0.2 = 0) : AlongIs N [] p0 over := .inl ⟨none, p0, .root, h0⟩
end Go.Proofs.YtkinlcichclnkaaDoor
