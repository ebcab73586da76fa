/- What a grammar's nodes are, as a type of its own, and how one lies in memory. -/
import Derived.Test.YtogmlonhciiomaaDoorRows
import Derived.WalkKit
import Derived.ProofKit
namespace Go.Proofs.YtogmlonhciiomaaDoor
open Go.RowKit

/-- the most letters of a string, and cells of a slice, that can be read -/
def reachN : Nat := 140737488355328

theorem ret_int {k : IntKind} {a b : Int} (h : a = b) : Ending.returned (.int k a) = .returned (.int k b) := by rw [h]
theorem ret_bool {a b : Bool} (h : a = b) : Ending.returned (.bool a) = .returned (.bool b) := by rw [h]
/-- the same letters -/
def sameB (a b : ByteArray) : Bool := a.toList == b.toList
theorem sameB_refl (a : ByteArray) : sameB a a = true := by simp [sameB]
theorem sameB_iff (a b : ByteArray) : sameB a b = true ↔ a.toList = b.toList := by simp [sameB]

/-- a node -/
inductive Nd where
  | mk (kind : Int) (name text : ByteArray) (set : List (Int × Int)) (subs : List Nd)

namespace Nd
def kind : Nd → Int | .mk k _ _ _ _ => k
def name : Nd → ByteArray | .mk _ n _ _ _ => n
def text : Nd → ByteArray | .mk _ _ t _ _ => t
def set : Nd → List (Int × Int) | .mk _ _ _ s _ => s
def subs : Nd → List Nd | .mk _ _ _ _ l => l
end Nd

/-- where a slice's cells are: they lie in a block below lim -/
def RangesAt (W : World) (lim : Nat) (a : Option Addr) (i : Nat) : List (Int × Int) → Prop
  | [] => True
  | x :: r => (∃ b off, a = some ⟨b, off, none⟩ ∧ b < lim ∧ W.cell? ⟨b, off + i * 2, none⟩ = some (.int .i32 x.1) ∧ W.cell? ⟨b, off + i * 2 + 1, none⟩ = some (.int .i32 x.2)) ∧ RangesAt W lim a (i + 1) r

mutual
/-- the five cells c read as the node, in W, through blocks below lim -/
def NodeAt (W : World) (lim : Nat) (c0 c1 c2 c3 c4 : Option Value) : Nd → Prop
  | .mk k nm tx set subs => (0 ≤ k ∧ k ≤ 255) ∧ nm.size ≤ reachN ∧ tx.size ≤ reachN ∧ c0 = some (.int .u8 k) ∧ c1 = some (.string nm) ∧ c2 = some (.string tx) ∧
      (∃ a cap, c3 = some (.slice a set.length cap) ∧ set.length ≤ reachN ∧ RangesAt W lim a 0 set) ∧ (∃ a cap, c4 = some (.slice a subs.length cap) ∧ subs.length ≤ reachN ∧ NodesAt W lim a 0 subs)
def NodesAt (W : World) (lim : Nat) (a : Option Addr) (i : Nat) : List Nd → Prop
  | [] => True
  | n :: r => (∃ b off, a = some ⟨b, off, none⟩ ∧ b < lim ∧ NodeAt W lim (W.cell? ⟨b, off + i * 5, none⟩) (W.cell? ⟨b, off + i * 5 + 1, none⟩) (W.cell? ⟨b, off + i * 5 + 2, none⟩) (W.cell? ⟨b, off + i * 5 + 3, none⟩) (W.cell? ⟨b, off + i * 5 + 4, none⟩) n) ∧ NodesAt W lim a (i + 1) r
end

theorem NodesAt.get {W : World} {lim : Nat} {a : Option Addr} : ∀ {l : List Nd} {i k : Nat} (_ : NodesAt W lim a i l) (hk : k < l.length),
    ∃ b off, a = some ⟨b, off, none⟩ ∧ b < lim ∧ NodeAt W lim (W.cell? ⟨b, off + (i + k) * 5, none⟩) (W.cell? ⟨b, off + (i + k) * 5 + 1, none⟩) (W.cell? ⟨b, off + (i + k) * 5 + 2, none⟩) (W.cell? ⟨b, off + (i + k) * 5 + 3, none⟩) (W.cell? ⟨b, off + (i + k) * 5 + 4, none⟩) l[k]
  | [], _, _, _, hk => absurd hk (by simp)
  | n :: r, i, 0, h, _ => by rw [NodesAt] at h; simpa using h.1
  | n :: r, i, k + 1, h, hk => by
    rw [NodesAt] at h
    obtain ⟨b, off, h1, h2, h3⟩ := NodesAt.get (k := k) h.2 (by simpa using hk)
    refine ⟨b, off, h1, h2, ?_⟩
    have e : i + 1 + k = i + (k + 1) := by omega
    rw [e] at h3
    simpa using h3

theorem RangesAt.keep {W W' : World} {lim : Nat} (hb : Below lim W W') {a : Option Addr} : ∀ {l : List (Int × Int)} {i : Nat}, RangesAt W lim a i l → RangesAt W' lim a i l
  | [], _, _ => trivial
  | x :: r, i, h => by
    obtain ⟨⟨b, off, h1, h2, h3, h4⟩, h5⟩ := h
    exact ⟨⟨b, off, h1, h2, by rw [hb.cell h2]; exact h3, by rw [hb.cell h2]; exact h4⟩, RangesAt.keep hb h5⟩

mutual
theorem NodeAt.keep {W W' : World} {lim : Nat} (hb : Below lim W W') {c0 c1 c2 c3 c4 : Option Value} : ∀ {n : Nd}, NodeAt W lim c0 c1 c2 c3 c4 n → NodeAt W' lim c0 c1 c2 c3 c4 n
  | .mk k nm tx set subs, h => by
    rw [NodeAt] at h ⊢
    obtain ⟨hk, h1, h2, h3, h4, h5, ⟨a, cap, h6, h6', h7⟩, a', cap', h8, h8', h9⟩ := h
    exact ⟨hk, h1, h2, h3, h4, h5, ⟨a, cap, h6, h6', h7.keep hb⟩, a', cap', h8, h8', NodesAt.keep hb h9⟩
theorem NodesAt.keep {W W' : World} {lim : Nat} (hb : Below lim W W') {a : Option Addr} : ∀ {l : List Nd} {i : Nat}, NodesAt W lim a i l → NodesAt W' lim a i l
  | [], _, _ => by rw [NodesAt]; trivial
  | n :: r, i, h => by
    rw [NodesAt] at h ⊢
    obtain ⟨⟨b, off, h1, h2, h3⟩, h5⟩ := h
    refine ⟨⟨b, off, h1, h2, ?_⟩, NodesAt.keep hb h5⟩
    have e : ∀ o, W'.cell? ⟨b, o, none⟩ = W.cell? ⟨b, o, none⟩ := fun o => hb.cell h2
    rw [e, e, e, e, e]
    exact NodeAt.keep hb h3
end

theorem RangesAt.mono {W : World} {lim lim' : Nat} (hl : lim ≤ lim') {a : Option Addr} : ∀ {l : List (Int × Int)} {i : Nat}, RangesAt W lim a i l → RangesAt W lim' a i l
  | [], _, _ => trivial
  | x :: r, i, h => by
    obtain ⟨⟨b, off, h1, h2, h3, h4⟩, h5⟩ := h
    exact ⟨⟨b, off, h1, by omega, h3, h4⟩, RangesAt.mono hl h5⟩
mutual
theorem NodeAt.mono {W : World} {lim lim' : Nat} (hl : lim ≤ lim') {c0 c1 c2 c3 c4 : Option Value} : ∀ {n : Nd}, NodeAt W lim c0 c1 c2 c3 c4 n → NodeAt W lim' c0 c1 c2 c3 c4 n
  | .mk k nm tx set subs, h => by
    rw [NodeAt] at h ⊢
    obtain ⟨hk, h1, h2, h3, h4, h5, ⟨a, cap, h6, h6', h7⟩, a', cap', h8, h8', h9⟩ := h
    exact ⟨hk, h1, h2, h3, h4, h5, ⟨a, cap, h6, h6', h7.mono hl⟩, a', cap', h8, h8', NodesAt.mono hl h9⟩
theorem NodesAt.mono {W : World} {lim lim' : Nat} (hl : lim ≤ lim') {a : Option Addr} : ∀ {l : List Nd} {i : Nat}, NodesAt W lim a i l → NodesAt W lim' a i l
  | [], _, _ => by rw [NodesAt]; trivial
  | n :: r, i, h => by
    rw [NodesAt] at h ⊢
    obtain ⟨⟨b, off, h1, h2, h3⟩, h5⟩ := h
    exact ⟨⟨b, off, h1, by omega, NodeAt.mono hl h3⟩, NodesAt.mono hl h5⟩
end

/-- the five cells are there -/
theorem NodeAt.vals {W : World} {lim : Nat} {c0 c1 c2 c3 c4 : Option Value} {n : Nd} (h : NodeAt W lim c0 c1 c2 c3 c4 n) :
    ∃ v0 v1 v2 v3 v4, c0 = some v0 ∧ c1 = some v1 ∧ c2 = some v2 ∧ c3 = some v3 ∧ c4 = some v4 ∧ NodeAt W lim (some v0) (some v1) (some v2) (some v3) (some v4) n := by
  cases n with
  | mk k nm tx set subs =>
    have h' := h
    rw [NodeAt] at h
    obtain ⟨hk, h1, h2, rfl, rfl, rfl, ⟨a, cap, rfl, h6', h7⟩, a', cap', rfl, h8', h9⟩ := h
    exact ⟨_, _, _, _, _, rfl, rfl, rfl, rfl, rfl, h'⟩

/-- of what form they are -/
theorem NodeAt.forms {W : World} {lim : Nat} {v0 v1 v2 v3 v4 : Value} {n : Nd} (h : NodeAt W lim (some v0) (some v1) (some v2) (some v3) (some v4) n) :
    ∃ k nm tx sa sl sc na nl nc, v0 = .int .u8 k ∧ v1 = .string nm ∧ v2 = .string tx ∧ v3 = .slice sa sl sc ∧ v4 = .slice na nl nc := by
  cases n with
  | mk k nm tx set subs =>
    rw [NodeAt] at h
    obtain ⟨hk, h1, h2, h3, h4, h5, ⟨a, cap, h6, h6', h7⟩, a', cap', h8, h8', h9⟩ := h
    exact ⟨k, nm, tx, a, _, cap, a', _, cap', Option.some.inj h3, Option.some.inj h4, Option.some.inj h5, Option.some.inj h6, Option.some.inj h8⟩

theorem Nd.ind {P : Nd → Prop} (h : ∀ k nm tx set subs, (∀ i (hi : i < subs.length), P subs[i]) → P (.mk k nm tx set subs)) : ∀ n, P n
  | .mk k nm tx set subs => h k nm tx set subs fun i hi => Nd.ind h subs[i]
termination_by n => SizeOf.sizeOf n
decreasing_by
  have := List.sizeOf_lt_of_mem (List.getElem_mem hi)
  simp only [Nd.mk.sizeOf_spec]
  omega
end Go.Proofs.YtogmlonhciiomaaDoor
