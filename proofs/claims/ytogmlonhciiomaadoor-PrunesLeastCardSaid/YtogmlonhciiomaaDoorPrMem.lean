/- Automata in memory. -/
import Derived.Test.YtogmlonhciiomaaDoorPrLaw
import Derived.Test.YtogmlonhciiomaaDoorNd
import Derived.Test.YtogmlonhciiomaaDoorOwn
namespace Go.Proofs.YtogmlonhciiomaaDoor
open Go.RowKit

def IntsAt (W : World) (lim : Nat) (a : Option Addr) (l : List Int) : Prop := ∀ k (h : k < l.length), ∃ b off, a = some ⟨b, off, none⟩ ∧ b < lim ∧ W.cell? ⟨b, off + k, none⟩ = some (.int .i64 l[k])
/-- a slice of integers -/
def IntsV (W : World) (lim : Nat) (v : Value) (l : List Int) : Prop := ∃ a cap, v = .slice a l.length cap ∧ l.length ≤ cap ∧ IntsAt W lim a l
def EdsAt (W : World) (lim : Nat) (a : Option Addr) (l : List Ed) : Prop := ∀ k (h : k < l.length), ∃ b off, a = some ⟨b, off, none⟩ ∧ b < lim ∧
  W.cell? ⟨b, off + k * 2, none⟩ = some (.int .i64 l[k].tok) ∧ W.cell? ⟨b, off + k * 2 + 1, none⟩ = some (.int .i64 l[k].tgt)
def EdsV (W : World) (lim : Nat) (v : Value) (l : List Ed) : Prop := ∃ a cap, v = .slice a l.length cap ∧ l.length ≤ cap ∧ EdsAt W lim a l
/-- three values read as a state -/
def SttV (K : IntKind) (W : World) (lim : Nat) (v0 v1 v2 : Value) (s : Stt) : Prop := v0 = .int K s.kind ∧ IntsV W lim v1 s.alts ∧ EdsV W lim v2 s.edges
def StsAt (K : IntKind) (W : World) (lim : Nat) (a : Option Addr) (l : Aut) : Prop := ∀ k (h : k < l.length), ∃ b off v0 v1 v2, a = some ⟨b, off, none⟩ ∧ b < lim ∧
  W.cell? ⟨b, off + k * 3, none⟩ = some v0 ∧ W.cell? ⟨b, off + k * 3 + 1, none⟩ = some v1 ∧ W.cell? ⟨b, off + k * 3 + 2, none⟩ = some v2 ∧ SttV K W lim v0 v1 v2 l[k]
/-- the slice of an automaton's states -/
def AutV (K : IntKind) (W : World) (lim : Nat) (v : Value) (l : Aut) : Prop := ∃ a cap, v = .slice a l.length cap ∧ l.length ≤ cap ∧ StsAt K W lim a l

section
variable {W W' : World} {lim : Nat} {K : IntKind}
theorem IntsAt.keep (hb : Below lim W W') {a : Option Addr} {l : List Int} (h : IntsAt W lim a l) : IntsAt W' lim a l := fun k hk => by
  obtain ⟨b, off, h1, h2, h3⟩ := h k hk
  exact ⟨b, off, h1, h2, by rw [hb.cell h2]; exact h3⟩
theorem IntsV.keep (hb : Below lim W W') {v : Value} {l : List Int} (h : IntsV W lim v l) : IntsV W' lim v l := by
  obtain ⟨a, cap, h1, h2, h3⟩ := h
  exact ⟨a, cap, h1, h2, h3.keep hb⟩
theorem EdsAt.keep (hb : Below lim W W') {a : Option Addr} {l : List Ed} (h : EdsAt W lim a l) : EdsAt W' lim a l := fun k hk => by
  obtain ⟨b, off, h1, h2, h3, h4⟩ := h k hk
  exact ⟨b, off, h1, h2, by rw [hb.cell h2]; exact h3, by rw [hb.cell h2]; exact h4⟩
theorem EdsV.keep (hb : Below lim W W') {v : Value} {l : List Ed} (h : EdsV W lim v l) : EdsV W' lim v l := by
  obtain ⟨a, cap, h1, h2, h3⟩ := h
  exact ⟨a, cap, h1, h2, h3.keep hb⟩
theorem SttV.keep (hb : Below lim W W') {v0 v1 v2 : Value} {s : Stt} (h : SttV K W lim v0 v1 v2 s) : SttV K W' lim v0 v1 v2 s := ⟨h.1, h.2.1.keep hb, h.2.2.keep hb⟩
theorem StsAt.keep (hb : Below lim W W') {a : Option Addr} {l : Aut} (h : StsAt K W lim a l) : StsAt K W' lim a l := fun k hk => by
  obtain ⟨b, off, v0, v1, v2, h1, h2, h3, h4, h5, h6⟩ := h k hk
  exact ⟨b, off, v0, v1, v2, h1, h2, by rw [hb.cell h2]; exact h3, by rw [hb.cell h2]; exact h4, by rw [hb.cell h2]; exact h5, h6.keep hb⟩
theorem AutV.keep (hb : Below lim W W') {v : Value} {l : Aut} (h : AutV K W lim v l) : AutV K W' lim v l := by
  obtain ⟨a, cap, h1, h2, h3⟩ := h
  exact ⟨a, cap, h1, h2, h3.keep hb⟩
variable {lim' : Nat}
theorem IntsAt.mono (hl : lim ≤ lim') {a : Option Addr} {l : List Int} (h : IntsAt W lim a l) : IntsAt W lim' a l := fun k hk => by
  obtain ⟨b, off, h1, h2, h3⟩ := h k hk
  exact ⟨b, off, h1, by omega, h3⟩
theorem IntsV.mono (hl : lim ≤ lim') {v : Value} {l : List Int} (h : IntsV W lim v l) : IntsV W lim' v l := by
  obtain ⟨a, cap, h1, h2, h3⟩ := h
  exact ⟨a, cap, h1, h2, h3.mono hl⟩
theorem EdsAt.mono (hl : lim ≤ lim') {a : Option Addr} {l : List Ed} (h : EdsAt W lim a l) : EdsAt W lim' a l := fun k hk => by
  obtain ⟨b, off, h1, h2, h3⟩ := h k hk
  exact ⟨b, off, h1, by omega, h3⟩
theorem EdsV.mono (hl : lim ≤ lim') {v : Value} {l : List Ed} (h : EdsV W lim v l) : EdsV W lim' v l := by
  obtain ⟨a, cap, h1, h2, h3⟩ := h
  exact ⟨a, cap, h1, h2, h3.mono hl⟩
theorem SttV.mono (hl : lim ≤ lim') {v0 v1 v2 : Value} {s : Stt} (h : SttV K W lim v0 v1 v2 s) : SttV K W lim' v0 v1 v2 s := ⟨h.1, h.2.1.mono hl, h.2.2.mono hl⟩
theorem StsAt.mono (hl : lim ≤ lim') {a : Option Addr} {l : Aut} (h : StsAt K W lim a l) : StsAt K W lim' a l := fun k hk => by
  obtain ⟨b, off, v0, v1, v2, h1, h2, h3, h4, h5, h6⟩ := h k hk
  exact ⟨b, off, v0, v1, v2, h1, by omega, h3, h4, h5, h6.mono hl⟩
theorem AutV.mono (hl : lim ≤ lim') {v : Value} {l : Aut} (h : AutV K W lim v l) : AutV K W lim' v l := by
  obtain ⟨a, cap, h1, h2, h3⟩ := h
  exact ⟨a, cap, h1, h2, h3.mono hl⟩
theorem IntsV.grew (hb : Grew W W') {v : Value} {l : List Int} (h : IntsV W W.heap.size v l) : IntsV W' W'.heap.size v l := (h.keep hb).mono hb.size
theorem EdsV.grew (hb : Grew W W') {v : Value} {l : List Ed} (h : EdsV W W.heap.size v l) : EdsV W' W'.heap.size v l := (h.keep hb).mono hb.size
theorem SttV.grew (hb : Grew W W') {v0 v1 v2 : Value} {s : Stt} (h : SttV K W W.heap.size v0 v1 v2 s) : SttV K W' W'.heap.size v0 v1 v2 s := (h.keep hb).mono hb.size
theorem AutV.grew (hb : Grew W W') {v : Value} {l : Aut} (h : AutV K W W.heap.size v l) : AutV K W' W'.heap.size v l := (h.keep hb).mono hb.size
/-- its states, as values -/
theorem AutV.get {v : Value} {l : Aut} (h : AutV K W lim v l) : ∃ a cap, v = .slice a l.length cap ∧ l.length ≤ cap ∧ ∀ k (hk : k < l.length), ∃ b off v0 v1 v2, a = some ⟨b, off, none⟩ ∧ b < lim ∧
  W.cell? ⟨b, off + k * 3, none⟩ = some v0 ∧ W.cell? ⟨b, off + k * 3 + 1, none⟩ = some v1 ∧ W.cell? ⟨b, off + k * 3 + 2, none⟩ = some v2 ∧ SttV K W lim v0 v1 v2 l[k] := h
end
/-- no more than is gone through -/
structure Aut.Few (a : Aut) : Prop where
  states : a.length ≤ 4096
  alts : ∀ s ∈ a, s.alts.length ≤ 400
  edges : ∀ s ∈ a, s.edges.length ≤ 400
end Go.Proofs.YtogmlonhciiomaaDoor
