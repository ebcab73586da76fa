/- A net in memory; a search of ways in memory: who lies where, and what stays. -/
import Derived.Deep.CutBlock
import Derived.Deep.DeepCutAuto
import Derived.Deep.LoopGhost
import Derived.Deep.RegionLaw
import Derived.Test.YtldoinfbimelpaaQ5
import Derived.Test.YtldoinfbimelpaaQ6
import Derived.Test.YtldoinfbimelpaaQ2
import Derived.Test.YtldoinfbimelpaaQ1
import Derived.Test.YtldoinfbimelpaaQ4
namespace Go.Proofs.Ytldoinfbimelpaa
open Go.RowKit

/-! ### a net -/
def IntsAt (W : World) (lim : Nat) (a : Option Addr) (l : List Int) : Prop := ∀ k (h : k < l.length), ∃ b off, a = some ⟨b, off, none⟩ ∧ b < lim ∧ W.cell? ⟨b, off + k, none⟩ = some (.int .i64 l[k])
def EdgesAt (W : World) (lim : Nat) (a : Option Addr) (l : List Edg) : Prop := ∀ k (h : k < l.length), ∃ b off, a = some ⟨b, off, none⟩ ∧ b < lim ∧
  W.cell? ⟨b, off + k * 3, none⟩ = some (.int .u8 l[k].kind) ∧ W.cell? ⟨b, off + k * 3 + 1, none⟩ = some (.int .i64 l[k].what) ∧ W.cell? ⟨b, off + k * 3 + 2, none⟩ = some (.int .i64 l[k].to)
def SttAt (W : World) (lim : Nat) (c0 c1 c2 : Option Value) (s : Sta) : Prop :=
  c0 = some (.int .i64 s.rule) ∧ (∃ a cap, c1 = some (.slice a s.edges.length cap) ∧ EdgesAt W lim a s.edges) ∧ ∃ a cap, c2 = some (.slice a s.ends.length cap) ∧ IntsAt W lim a s.ends
def StatesAt (W : World) (lim : Nat) (a : Option Addr) (l : List Sta) : Prop := ∀ k (h : k < l.length), ∃ b off, a = some ⟨b, off, none⟩ ∧ b < lim ∧
  SttAt W lim (W.cell? ⟨b, off + k * 3, none⟩) (W.cell? ⟨b, off + k * 3 + 1, none⟩) (W.cell? ⟨b, off + k * 3 + 2, none⟩) l[k]
/-- a slice of integers -/
def IntsV (W : World) (lim : Nat) (v : Value) (l : List Int) : Prop := ∃ a cap, v = .slice a l.length cap ∧ IntsAt W lim a l
structure NetAt (W : World) (lim : Nat) (v0 v1 v2 v3 v4 : Value) (N : Net) : Prop where
  states : ∃ a cap, v0 = .slice a N.states.length cap ∧ StatesAt W lim a N.states
  starts : IntsV W lim v1 N.starts
  stops : IntsV W lim v2 N.stops
  preds : IntsV W lim v3 N.preds
  decisions : IntsV W lim v4 N.decisions

section
variable {W W' : World} {lim : Nat}
theorem IntsAt.keep (hb : Below lim W W') {a : Option Addr} {l : List Int} (h : IntsAt W lim a l) : IntsAt W' lim a l := fun k hk => by
  obtain ⟨b, off, h1, h2, h3⟩ := h k hk
  exact ⟨b, off, h1, h2, by rw [hb.cell h2]; exact h3⟩
theorem EdgesAt.keep (hb : Below lim W W') {a : Option Addr} {l : List Edg} (h : EdgesAt W lim a l) : EdgesAt W' lim a l := fun k hk => by
  obtain ⟨b, off, h1, h2, h3, h4, h5⟩ := h k hk
  exact ⟨b, off, h1, h2, by rw [hb.cell h2]; exact h3, by rw [hb.cell h2]; exact h4, by rw [hb.cell h2]; exact h5⟩
theorem SttAt.keep (hb : Below lim W W') {c0 c1 c2 : Option Value} {s : Sta} (h : SttAt W lim c0 c1 c2 s) : SttAt W' lim c0 c1 c2 s := by
  obtain ⟨h1, ⟨a, cap, h2, h3⟩, a', cap', h4, h5⟩ := h
  exact ⟨h1, ⟨a, cap, h2, h3.keep hb⟩, a', cap', h4, h5.keep hb⟩
theorem StatesAt.keep (hb : Below lim W W') {a : Option Addr} {l : List Sta} (h : StatesAt W lim a l) : StatesAt W' lim a l := fun k hk => by
  obtain ⟨b, off, h1, h2, h3⟩ := h k hk
  have e : ∀ o, W'.cell? ⟨b, o, none⟩ = W.cell? ⟨b, o, none⟩ := fun o => hb.cell h2
  exact ⟨b, off, h1, h2, by rw [e, e, e]; exact h3.keep hb⟩
theorem IntsV.keep (hb : Below lim W W') {v : Value} {l : List Int} (h : IntsV W lim v l) : IntsV W' lim v l := by
  obtain ⟨a, cap, h1, h2⟩ := h
  exact ⟨a, cap, h1, h2.keep hb⟩
theorem NetAt.keep (hb : Below lim W W') {v0 v1 v2 v3 v4 : Value} {N : Net} (h : NetAt W lim v0 v1 v2 v3 v4 N) : NetAt W' lim v0 v1 v2 v3 v4 N := by
  obtain ⟨⟨a, cap, h1, h2⟩, h3, h4, h5, h6⟩ := h
  exact ⟨⟨a, cap, h1, h2.keep hb⟩, h3.keep hb, h4.keep hb, h5.keep hb, h6.keep hb⟩
theorem IntsAt.mono {lim' : Nat} (hl : lim ≤ lim') {a : Option Addr} {l : List Int} (h : IntsAt W lim a l) : IntsAt W lim' a l := fun k hk => by
  obtain ⟨b, off, h1, h2, h3⟩ := h k hk
  exact ⟨b, off, h1, by omega, h3⟩
theorem IntsV.mono {lim' : Nat} (hl : lim ≤ lim') {v : Value} {l : List Int} (h : IntsV W lim v l) : IntsV W lim' v l := by
  obtain ⟨a, cap, h1, h2⟩ := h
  exact ⟨a, cap, h1, h2.mono hl⟩
theorem EdgesAt.mono {lim' : Nat} (hl : lim ≤ lim') {a : Option Addr} {l : List Edg} (h : EdgesAt W lim a l) : EdgesAt W lim' a l := fun k hk => by
  obtain ⟨b, off, h1, h2, h3⟩ := h k hk
  exact ⟨b, off, h1, by omega, h3⟩
theorem SttAt.mono {lim' : Nat} (hl : lim ≤ lim') {c0 c1 c2 : Option Value} {s : Sta} (h : SttAt W lim c0 c1 c2 s) : SttAt W lim' c0 c1 c2 s := by
  obtain ⟨h1, ⟨a, cap, h2, h3⟩, a', cap', h4, h5⟩ := h
  exact ⟨h1, ⟨a, cap, h2, h3.mono hl⟩, a', cap', h4, h5.mono hl⟩
theorem NetAt.mono {lim' : Nat} (hl : lim ≤ lim') {v0 v1 v2 v3 v4 : Value} {N : Net} (h : NetAt W lim v0 v1 v2 v3 v4 N) : NetAt W lim' v0 v1 v2 v3 v4 N := by
  obtain ⟨⟨a, cap, h1, h2⟩, h3, h4, h5, h6⟩ := h
  refine ⟨⟨a, cap, h1, fun k hk => ?_⟩, h3.mono hl, h4.mono hl, h5.mono hl, h6.mono hl⟩
  obtain ⟨b, off, h7, h8, h9⟩ := h2 k hk
  exact ⟨b, off, h7, by omega, h9.mono hl⟩
end

/-! ### all blocks but some stay -/
structure But (F : Nat → Prop) (w w' : World) : Prop where
  os : w'.os = w.os
  tape : w'.tape = w.tape
  output : w'.output = w.output
  size : w.heap.size ≤ w'.heap.size
  block : ∀ k, k < w.heap.size → ¬F k → w'.heap[k]? = w.heap[k]?
theorem But.refl (F : Nat → Prop) (w : World) : But F w w := ⟨rfl, rfl, rfl, Nat.le_refl _, fun _ _ _ => rfl⟩
theorem But.trans {F G : Nat → Prop} {a b c : World} (h : But F a b) (k : But G b c) (hG : ∀ i, i < a.heap.size → G i → F i) : But F a c :=
  ⟨k.os.trans h.os, k.tape.trans h.tape, k.output.trans h.output, Nat.le_trans h.size k.size, fun i hi hn => (k.block i (Nat.lt_of_lt_of_le hi h.size) (fun g => hn (hG i hi g))).trans (h.block i hi hn)⟩
theorem But.of_grew {F : Nat → Prop} {a b : World} (h : Grew a b) : But F a b := ⟨h.os, h.tape, h.output, h.size, fun k hk _ => h.block k hk⟩
theorem But.put {w : World} {b : Nat} {o : Obj} {F : Nat → Prop} (hb : F b) : But F w (putObj w b o) :=
  ⟨rfl, rfl, rfl, by rw [putObj_size]; exact Nat.le_refl _, fun k _ hn => putObj_other (fun e => hn (by rw [e]; exact hb)) o⟩
theorem But.below {F : Nat → Prop} {w w' : World} {lim : Nat} (h : But F w w') (hl : lim ≤ w.heap.size) (hF : ∀ k, F k → lim ≤ k) : Below lim w w' :=
  ⟨h.os, h.tape, h.output, h.size, fun k hk => h.block k (by omega) (fun hf => by have := hF k hf; omega)⟩
theorem But.drew {F : Nat → Prop} {a b : World} (h : But F a b) : But F a b.drew := ⟨h.os, h.tape, h.output, h.size, h.block⟩
theorem But.owns {F : Nat → Prop} {w w' : World} {b T : Nat} {cs : List Value} (h : But F w w') (ho : Owns w b cs T) (hn : ¬F b) : Owns w' b cs T := by
  have := ho.lt
  unfold Owns at *
  rw [h.block b this hn]; exact ho

theorem setCell_put {w : World} {b T i : Nat} {cs : List Value} (h : Owns w b cs T) (v : Value) : w.setCell ⟨b, i, none⟩ v = putObj w b (.cells (cs.set i v).toArray T (0, 0)) := by
  have hlt := h.lt
  unfold Owns at h
  unfold World.setCell putObj
  have hget : w.heap[b] = .cells cs.toArray T (0, 0) := by
    have := Array.getElem?_eq_getElem hlt
    rw [h] at this
    exact (Option.some.inj this).symm
  congr 1
  apply Array.ext
  · simp
  · intro j h1 h2
    by_cases e : j = b
    · subst e
      simp [Array.getElem_modify, hget]
    · rw [Array.getElem_setIfInBounds_ne (by simpa using h1) (Ne.symm e)]
      simp [Array.getElem_modify, Ne.symm e]

section
variable {w w' : World}
theorem row_own {base e size n : Nat} {v : Value} {xs : List Value} (h : looseRow w base e size v n xs) {g : Nat} (hg : v.ownBlock = some g) : base ≤ g ∧ ∃ cs, w.heap[g]? = some (.cells cs e (0, 0)) := by
  rcases h.2 with ⟨rfl, _⟩ | ⟨g', cap, cur, rfl, h1, h2, _⟩
  · simp [Value.ownBlock] at hg
  · simp only [Value.ownBlock, Option.some.injEq] at hg
    subst hg
    exact ⟨h1, cur, h2⟩
theorem row_but {base e size n : Nat} {v : Value} {xs : List Value} (h : looseRow w base e size v n xs) {F : Nat → Prop} (hb : But F w w') (hn : ∀ g, v.ownBlock = some g → ¬F g) : looseRow w' base e size v n xs := by
  refine ⟨h.1, ?_⟩
  rcases h.2 with h2 | ⟨g, cap, cur, rfl, h1, h2, h3⟩
  · exact .inl h2
  · exact .inr ⟨g, cap, cur, rfl, h1, by rw [hb.block g (Array.getElem?_eq_some_iff.1 h2).1 (hn g rfl)]; exact h2, h3⟩
end
theorem padd_off (b o j : Nat) : (⟨b, o, none⟩ : Addr).add j = ⟨b, o + j, none⟩ := by
  unfold Addr.add
  split
  · rename_i h; rw [h]; rfl
  · rfl
end Go.Proofs.Ytldoinfbimelpaa

/- Two small laws. -/
namespace Go.Proofs.Ytldoinfbimelpaa
open Go.RowKit
theorem put_heap {w : World} {a : Addr} {v : Value} {i : Nat} (h : a.block ≠ i) : (w.setCell a v).heap[i]? = w.heap[i]? := Below.heap_setCell _ _ _ _ (fun e => h e.symm)

theorem owns_newsO {w : World} {b T : Nat} {cs : List Value} (h : Owns w b cs T) : ∀ j u, cs[j]? = some u → w.cell? ((⟨b, 0, none⟩ : Addr).add j) = some u := by
  intro j u hj
  rw [padd_off, Nat.zero_add, h.cell, hj]
end Go.Proofs.Ytldoinfbimelpaa

/- Sets of a grammar in memory. -/
namespace Go.Proofs.Ytldoinfbimelpaa
open Go.RowKit

def fbs (l : List Bool) : List Value := l.map .bool
theorem fbs_len (l : List Bool) : (fbs l).length = l.length := by simp [fbs]
theorem fbs_get {l : List Bool} {k : Nat} (h : k < l.length) : (fbs l)[k]? = some (.bool l[k]) := by simp [fbs, h]
theorem fbs_set (l : List Bool) (k : Nat) (b : Bool) : (fbs l).set k (.bool b) = fbs (l.set k b) := by simp [fbs, List.map_set]
theorem fbs_rep (n : Nat) : List.replicate n (Value.bool false) = fbs (List.replicate n false) := by simp [fbs]
structure FV where
  sb : Nat
  pm : Nat
  tm : Nat
  rb : Nat
  rk : Nat → Nat
  fk : Nat → Nat
  gk : Nat → Nat
  bv : Nat → List Value
def mapL (l : List (ByteArray × Nat)) : List (Value × Value) := l.map fun x => (.string x.1, .int .i64 x.2)
def FV.ptr (V : FV) (S : FS) (i : Nat) : Value := .pointer (if (S.at i).isSome then some ⟨V.rk i, 0, none⟩ else .none)
def FV.ptrs (V : FV) (S : FS) : List Value := (List.range S.rules.length).map (V.ptr S)
theorem FV.ptrs_at (V : FV) (S : FS) {i : Nat} (h : i < S.rules.length) : (V.ptrs S)[i]? = some (V.ptr S i) := by simp [FV.ptrs, h]
def FV.rcs (V : FV) (n i : Nat) (r : FR) : List Value := V.bv i ++ [.bool r.empty, .slice (some ⟨V.fk i, 0, none⟩) n n, .slice (some ⟨V.gk i, 0, none⟩) n n, .int .i64 r.low]
structure SetsAt (w : World) (V : FV) (S : FS) : Prop where
  box : Owns w V.sb [.map (some V.pm), .map (some V.tm), .slice (some ⟨V.rb, 0, none⟩) S.rules.length S.rules.length] 32
  places : w.heap[V.pm]? = some (mapObj (mapL S.places))
  tokens : w.heap[V.tm]? = some (mapObj (mapL S.tokens))
  row : Owns w V.rb (V.ptrs S) 64
  rule : ∀ i r, S.at i = some r → Owns w (V.rk i) (V.rcs S.n i r) 67 ∧ Owns w (V.fk i) (fbs r.first) 4 ∧ Owns w (V.gk i) (fbs r.follow) 4 ∧ (V.bv i).length = 5
/-- the rules' bodies, in blocks below lim; what is the sets' own lies from lim on -/
structure BodiesAt (w : World) (lim : Nat) (V : FV) (S : FS) : Prop where
  body : ∀ i r, S.at i = some r → ∃ b0 b1 b2 b3 b4, V.bv i = [b0, b1, b2, b3, b4] ∧ NodeAt w lim (some b0) (some b1) (some b2) (some b3) (some b4) r.body
  lo : lim ≤ w.heap.size
  lof : ∀ i r, S.at i = some r → lim ≤ V.fk i ∧ lim ≤ V.gk i ∧ lim ≤ V.rk i
theorem SetsAt.keep {w w' : World} {V : FV} {S : FS} (h : SetsAt w V S) (hg : Grew w w') : SetsAt w' V S := by
  have hb : ∀ {b : Nat} {o : Obj}, w.heap[b]? = some o → w'.heap[b]? = some o := fun {b o} hb => by rw [hg.block b (Array.getElem?_eq_some_iff.1 hb).1]; exact hb
  exact ⟨h.box.keep hg, hb h.places, hb h.tokens, h.row.keep hg, fun i r hi => by obtain ⟨h1, h2, h3, h4⟩ := h.rule i r hi; exact ⟨h1.keep hg, h2.keep hg, h3.keep hg, h4⟩⟩
theorem BodiesAt.keep {w w' : World} {lim : Nat} {V : FV} {S : FS} (h : BodiesAt w lim V S) (hg : Below lim w w') : BodiesAt w' lim V S :=
  ⟨fun i r hi => by obtain ⟨b0, b1, b2, b3, b4, h1, h2⟩ := h.body i r hi; exact ⟨b0, b1, b2, b3, b4, h1, h2.keep hg⟩, Nat.le_trans h.lo hg.size, h.lof⟩
end Go.Proofs.Ytldoinfbimelpaa
