/- An automaton that is built, state by state. -/
import Derived.Test.YtogmlonhciiomaaDoorPrOnFew
namespace Go.Proofs.YtogmlonhciiomaaDoor
open Go.RowKit

structure BdAt (l : Aut) (W wr : World) (X : Nat) (v : Value) (i : Nat) (vs : List (Value × Value × Value)) : Prop where
  low : Grew W wr
  above : W.heap.size ≤ X
  box : Owns wr X [v] 24
  row : looseRow wr W.heap.size 51 3 v i (triVs vs)
  len : vs.length = i
  st : ∀ k (h : k < l.length) (h' : k < vs.length), vs[k].1 = .int .u8 l[k].kind ∧ looseRow wr W.heap.size 3 1 vs[k].2.1 l[k].alts.length (intVs l[k].alts) ∧ looseRow wr W.heap.size 53 2 vs[k].2.2 l[k].edges.length (edVs l[k].edges)
theorem BdAt.keep {l : Aut} {W w w' : World} {X : Nat} {v : Value} {i : Nat} {vs : List (Value × Value × Value)} (h : BdAt l W w X v i vs) (hg : Grew w w') : BdAt l W w' X v i vs :=
  ⟨h.low.trans hg, h.above, h.box.keep hg, h.row.keep hg, h.len, fun k hk hi => ⟨(h.st k hk hi).1, (h.st k hk hi).2.1.keep hg, (h.st k hk hi).2.2.keep hg⟩⟩
theorem BdAt.next {l : Aut} {W w w1 : World} {X : Nat} {v v' u z : Value} {i : Nat} {vs : List (Value × Value × Value)} (h : BdAt l W w X v i vs) (hi : i < l.length) (hg : w.grownBy w1 v.ownBlock) (hr : looseRow w1 W.heap.size 51 3 v' (i + 1) (triVs vs ++ [.int .u8 l[i].kind, u, z]))
    (hu : looseRow w W.heap.size 3 1 u l[i].alts.length (intVs l[i].alts)) (hz : looseRow w W.heap.size 53 2 z l[i].edges.length (edVs l[i].edges)) :
    BdAt l W (w1.setCell ⟨X, 0, none⟩ v') X v' (i + 1) (vs ++ [(.int .u8 l[i].kind, u, z)]) := by
  have hb : But (fun k => v.ownBlock = some k) w w1 := But.grown hg fun k e => e
  have ne : ∀ {k T : Nat}, (∃ cur, w.heap[k]? = some (.cells cur T (0, 0))) → 51 ≠ T → ¬ v.ownBlock = some k := fun hk hT e => type_ne (row_type h.row e) hk hT rfl
  have hm1 := hb.owns h.box (ne (owns_type h.box) (by decide))
  have hs : But (fun k => k = X) w1 (w1.setCell ⟨X, 0, none⟩ v') := But.set (F := fun k => k = X) (a := ⟨X, 0, none⟩) rfl _
  have ne2 : ∀ {k T : Nat}, (∃ cur, w1.heap[k]? = some (.cells cur T (0, 0))) → 24 ≠ T → ¬ k = X := fun hk hT e => type_ne (owns_type hm1) hk hT e.symm
  have rows : ∀ {base e size n : Nat} {x : Value} {xs : List Value}, 51 ≠ e → 24 ≠ e → looseRow w base e size x n xs → looseRow (w1.setCell ⟨X, 0, none⟩ v') base e size x n xs := fun h1 h2 hx => by
    have hx1 := hb.row hx fun k hk => ne (row_type hx hk) h1
    exact hs.row hx1 fun k hk => ne2 (row_type hx1 hk) h2
  have e : triVs (vs ++ [(.int .u8 l[i].kind, u, z)]) = triVs vs ++ [.int .u8 l[i].kind, u, z] := by simp [triVs, triF]
  have hlen := h.len
  have hsz := h.low.size
  have hab := h.above
  refine ⟨?_, hab, hm1.set 0 v', ?_, by simp [hlen], fun k hk hk' => ?_⟩
  · exact ((⟨h.low.os ▸ hg.os, h.low.tape ▸ hg.tape, h.low.output ▸ hg.output, Nat.le_trans hsz hg.size, fun k hk => (hb.block k (by omega) fun e => by have := (row_lt h.row e).1; omega).trans (h.low.block k hk)⟩ : Grew W w1)).setCell hab _
  · rw [e]
    exact hs.row hr fun k hk => ne2 (row_type hr hk) (by decide)
  · by_cases hki : k < vs.length
    · have := h.st k hk hki
      rw [List.getElem_append_left hki]
      exact ⟨this.1, rows (by decide) (by decide) this.2.1, rows (by decide) (by decide) this.2.2⟩
    · have : k = i := by simp at hk'; omega
      subst this
      rw [List.getElem_append_right (by omega)]
      simp only [hlen, Nat.sub_self, List.getElem_cons_zero]
      exact ⟨trivial, rows (by decide) (by decide) hu, rows (by decide) (by decide) hz⟩

/-- all states are there -/
theorem BdAt.aut {l : Aut} {W w : World} {X : Nat} {v : Value} {i : Nat} {vs : List (Value × Value × Value)} (h : BdAt l W w X v i vs) (hi : i = l.length) : AutV .u8 w w.heap.size v l := by
  have hlen := h.len
  refine sts_of_row (by rw [← hi]; exact h.row) ⟨by omega, fun k hk hk' => ?_⟩
  obtain ⟨h1, h2, h3⟩ := h.st k hk hk'
  exact ⟨h1, ints_of_row h2, eds_of_row h3⟩
theorem BdAt.start {l : Aut} {W w : World} {X : Nat} (hg : Grew W w) (hX : W.heap.size ≤ X) (hb : Owns w X [.slice none 0 0] 24) : BdAt l W w X (.slice none 0 0) 0 [] :=
  ⟨hg, hX, hb, ⟨rfl, .inl ⟨rfl, rfl⟩⟩, rfl, fun k _ h => absurd h (by simp)⟩
end Go.Proofs.YtogmlonhciiomaaDoor
