/- A grammar's rules, and how they lie in memory. -/
import Derived.Test.YtgdcnndmdgcjlaaNd
namespace Go.Proofs.Ytgdcnndmdgcjlaa
open Go.RowKit

/-- a rule -/
structure Rl where
  name : ByteArray
  sort : Int
  body : Nd
  p0 : Int
  p1 : Int
  p2 : Int

/-- a grammar -/
structure Gr where
  name : ByteArray
  bound : Int
  states : Int
  rules : List Rl

def InI64 (n : Int) : Prop := -9223372036854775808 ≤ n ∧ n ≤ 9223372036854775807

/-- ten cells read as a rule -/
def RuleAt (W : World) (lim : Nat) (c0 c1 c2 c3 c4 c5 c6 c7 c8 c9 : Option Value) (r : Rl) : Prop :=
  c0 = some (.string r.name) ∧ r.name.size ≤ reachN ∧ c1 = some (.int .u8 r.sort) ∧ (0 ≤ r.sort ∧ r.sort ≤ 255) ∧ NodeAt W lim c2 c3 c4 c5 c6 r.body ∧
  c7 = some (.int .i64 r.p0) ∧ c8 = some (.int .i64 r.p1) ∧ c9 = some (.int .i64 r.p2) ∧ InI64 r.p0 ∧ InI64 r.p1 ∧ InI64 r.p2

def RulesAt (W : World) (lim : Nat) (a : Option Addr) (i : Nat) : List Rl → Prop
  | [] => True
  | n :: r => (∃ b off, a = some ⟨b, off, none⟩ ∧ b < lim ∧ RuleAt W lim (W.cell? ⟨b, off + i * 10, none⟩) (W.cell? ⟨b, off + i * 10 + 1, none⟩) (W.cell? ⟨b, off + i * 10 + 2, none⟩) (W.cell? ⟨b, off + i * 10 + 3, none⟩) (W.cell? ⟨b, off + i * 10 + 4, none⟩)
      (W.cell? ⟨b, off + i * 10 + 5, none⟩) (W.cell? ⟨b, off + i * 10 + 6, none⟩) (W.cell? ⟨b, off + i * 10 + 7, none⟩) (W.cell? ⟨b, off + i * 10 + 8, none⟩) (W.cell? ⟨b, off + i * 10 + 9, none⟩) n) ∧ RulesAt W lim a (i + 1) r

/-- four cells read as a grammar -/
def GrAt (W : World) (lim : Nat) (c0 c1 c2 c3 : Option Value) (g : Gr) : Prop :=
  c0 = some (.string g.name) ∧ g.name.size ≤ reachN ∧ c1 = some (.int .i64 g.bound) ∧ c2 = some (.int .i64 g.states) ∧ InI64 g.bound ∧ InI64 g.states ∧
  ∃ a cap, c3 = some (.slice a g.rules.length cap) ∧ g.rules.length ≤ reachN ∧ RulesAt W lim a 0 g.rules

theorem RulesAt.get {W : World} {lim : Nat} {a : Option Addr} : ∀ {l : List Rl} {i k : Nat} (_ : RulesAt W lim a i l) (hk : k < l.length),
    ∃ b off, a = some ⟨b, off, none⟩ ∧ b < lim ∧ RuleAt W lim (W.cell? ⟨b, off + (i + k) * 10, none⟩) (W.cell? ⟨b, off + (i + k) * 10 + 1, none⟩) (W.cell? ⟨b, off + (i + k) * 10 + 2, none⟩) (W.cell? ⟨b, off + (i + k) * 10 + 3, none⟩) (W.cell? ⟨b, off + (i + k) * 10 + 4, none⟩)
      (W.cell? ⟨b, off + (i + k) * 10 + 5, none⟩) (W.cell? ⟨b, off + (i + k) * 10 + 6, none⟩) (W.cell? ⟨b, off + (i + k) * 10 + 7, none⟩) (W.cell? ⟨b, off + (i + k) * 10 + 8, none⟩) (W.cell? ⟨b, off + (i + k) * 10 + 9, none⟩) l[k]
  | [], _, _, _, hk => absurd hk (by simp)
  | n :: r, i, 0, h, _ => by simpa using h.1
  | n :: r, i, k + 1, h, hk => by
    obtain ⟨b, off, h1, h2, h3⟩ := RulesAt.get (k := k) h.2 (by simpa using hk)
    refine ⟨b, off, h1, h2, ?_⟩
    have e : i + 1 + k = i + (k + 1) := by omega
    rw [e] at h3
    simpa using h3

theorem RuleAt.keep {W W' : World} {lim : Nat} (hb : Below lim W W') {c0 c1 c2 c3 c4 c5 c6 c7 c8 c9 : Option Value} {r : Rl} (h : RuleAt W lim c0 c1 c2 c3 c4 c5 c6 c7 c8 c9 r) : RuleAt W' lim c0 c1 c2 c3 c4 c5 c6 c7 c8 c9 r :=
  ⟨h.1, h.2.1, h.2.2.1, h.2.2.2.1, h.2.2.2.2.1.keep hb, h.2.2.2.2.2⟩
theorem RuleAt.mono {W : World} {lim lim' : Nat} (hl : lim ≤ lim') {c0 c1 c2 c3 c4 c5 c6 c7 c8 c9 : Option Value} {r : Rl} (h : RuleAt W lim c0 c1 c2 c3 c4 c5 c6 c7 c8 c9 r) : RuleAt W lim' c0 c1 c2 c3 c4 c5 c6 c7 c8 c9 r :=
  ⟨h.1, h.2.1, h.2.2.1, h.2.2.2.1, h.2.2.2.2.1.mono hl, h.2.2.2.2.2⟩
theorem RulesAt.keep {W W' : World} {lim : Nat} (hb : Below lim W W') {a : Option Addr} : ∀ {l : List Rl} {i : Nat}, RulesAt W lim a i l → RulesAt W' lim a i l
  | [], _, _ => trivial
  | n :: r, i, h => by
    obtain ⟨⟨b, off, h1, h2, h3⟩, h5⟩ := h
    refine ⟨⟨b, off, h1, h2, ?_⟩, RulesAt.keep hb h5⟩
    have e : ∀ o, W'.cell? ⟨b, o, none⟩ = W.cell? ⟨b, o, none⟩ := fun o => hb.cell h2
    simp only [e]
    exact h3.keep hb
theorem RulesAt.mono {W : World} {lim lim' : Nat} (hl : lim ≤ lim') {a : Option Addr} : ∀ {l : List Rl} {i : Nat}, RulesAt W lim a i l → RulesAt W lim' a i l
  | [], _, _ => trivial
  | n :: r, i, h => by
    obtain ⟨⟨b, off, h1, h2, h3⟩, h5⟩ := h
    exact ⟨⟨b, off, h1, by omega, h3.mono hl⟩, RulesAt.mono hl h5⟩
theorem GrAt.keep {W W' : World} {lim : Nat} (hb : Below lim W W') {c0 c1 c2 c3 : Option Value} {g : Gr} (h : GrAt W lim c0 c1 c2 c3 g) : GrAt W' lim c0 c1 c2 c3 g := by
  obtain ⟨h1, h2, h3, h4, h5, h6, a, cap, h7, h8, h9⟩ := h
  exact ⟨h1, h2, h3, h4, h5, h6, a, cap, h7, h8, h9.keep hb⟩
theorem GrAt.mono {W : World} {lim lim' : Nat} (hl : lim ≤ lim') {c0 c1 c2 c3 : Option Value} {g : Gr} (h : GrAt W lim c0 c1 c2 c3 g) : GrAt W lim' c0 c1 c2 c3 g := by
  obtain ⟨h1, h2, h3, h4, h5, h6, a, cap, h7, h8, h9⟩ := h
  exact ⟨h1, h2, h3, h4, h5, h6, a, cap, h7, h8, h9.mono hl⟩

theorem RuleAt.vals {W : World} {lim : Nat} {c0 c1 c2 c3 c4 c5 c6 c7 c8 c9 : Option Value} {r : Rl} (h : RuleAt W lim c0 c1 c2 c3 c4 c5 c6 c7 c8 c9 r) :
    ∃ v2 v3 v4 v5 v6, c0 = some (.string r.name) ∧ c1 = some (.int .u8 r.sort) ∧ c2 = some v2 ∧ c3 = some v3 ∧ c4 = some v4 ∧ c5 = some v5 ∧ c6 = some v6 ∧
      c7 = some (.int .i64 r.p0) ∧ c8 = some (.int .i64 r.p1) ∧ c9 = some (.int .i64 r.p2) ∧
      RuleAt W lim (some (.string r.name)) (some (.int .u8 r.sort)) (some v2) (some v3) (some v4) (some v5) (some v6) (some (.int .i64 r.p0)) (some (.int .i64 r.p1)) (some (.int .i64 r.p2)) r ∧
      NodeAt W lim (some v2) (some v3) (some v4) (some v5) (some v6) r.body := by
  have h' := h
  obtain ⟨rfl, h2, rfl, h4, h5, rfl, rfl, rfl, h9⟩ := h
  obtain ⟨u0, u1, u2, u3, u4, rfl, rfl, rfl, rfl, rfl, hn⟩ := h5.vals
  exact ⟨_, _, _, _, _, rfl, rfl, rfl, rfl, rfl, rfl, rfl, rfl, rfl, rfl, h', hn⟩
end Go.Proofs.Ytgdcnndmdgcjlaa
