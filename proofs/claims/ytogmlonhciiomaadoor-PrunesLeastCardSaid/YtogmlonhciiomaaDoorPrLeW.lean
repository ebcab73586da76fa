/- PrunesLeast: the walk. -/
import Derived.Test.YtogmlonhciiomaaDoorPrRLeast
import Derived.Test.YtogmlonhciiomaaDoorPrSmLaw
namespace Go.Proofs.YtogmlonhciiomaaDoor
open Go.RowKit

/-- a row, whatever is written into a block -/
theorem row_set {w : World} {base e size n : Nat} {v : Value} {xs : List Value} (h : looseRow w base e size v n xs) (g i : Nat) (u : Value) : ∃ ys, looseRow (w.setCell ⟨g, i, none⟩ u) base e size v n ys := by
  by_cases hg : v.ownBlock = some g
  · rcases h.2 with ⟨h1, h0⟩ | ⟨b, cap, cur, h1, h2, h3, h4, h5, h6, h7⟩
    · subst h1; simp [Value.ownBlock] at hg
    · subst h1
      simp only [Value.ownBlock, Option.some.injEq] at hg
      subst hg
      have hh : (w.setCell ⟨b, i, none⟩ u).heap[b]? = some (.cells (cur.setIfInBounds i u) e (0, 0)) := by
        simp [World.setCell, Array.getElem?_modify, h3]
      refine ⟨(cur.setIfInBounds i u).toList.take (n * size), ?_, .inr ⟨b, cap, _, rfl, h2, hh, h4, h5, by simpa using h6, rfl⟩⟩
      simp only [List.length_take, Array.length_toList, Array.size_setIfInBounds]
      have := Nat.mul_le_mul_right size h4
      omega
  · exact ⟨xs, h.off (a := ⟨g, i, none⟩) (fun e => hg e) u⟩
theorem row_block2 {w : World} {base e size n cap g : Nat} {xs : List Value} (h : looseRow w base e size (.slice (some ⟨g, 0, none⟩) n cap) n xs) : base ≤ g ∧ ∃ cs, Owns w g cs e ∧ n * size ≤ cs.length := by
  rcases h.2 with ⟨h1, _⟩ | ⟨g', cap', cur, h1, h2, h3, h4, h5, h6, h7⟩
  · cases h1
  · cases h1
    refine ⟨h2, cur.toList, h3, ?_⟩
    rw [Array.length_toList]
    exact Nat.le_trans (Nat.mul_le_mul_right size h4) h6
theorem row_some {w : World} {base e size n cap : Nat} {a : Option Addr} {xs : List Value} (h : looseRow w base e size (.slice a n cap) n xs) (h0 : 0 < n) : ∃ g, a = some ⟨g, 0, none⟩ := by
  rcases row_cells h with ⟨_, h1⟩ | ⟨g, cap', h1, _⟩
  · omega
  · exact ⟨g, (Value.slice.inj h1).1⟩

/-- an automaton of the call's own, into whose rows is written -/
structure LwAt (W wr : World) (X : Nat) (v : Value) (vs : List (Value × Value × Value)) (x : Aut) : Prop where
  low : Grew W wr
  xlo : W.heap.size ≤ X
  box : Owns wr X [v] 24
  row : looseRow wr W.heap.size 51 3 v x.length (triVs vs)
  len : vs.length = x.length
  slots : ∀ k (h : k < x.length) (h' : k < vs.length), (∃ xs, looseRow wr W.heap.size 3 1 vs[k].2.1 x[k].alts.length xs) ∧ ∃ xs, looseRow wr W.heap.size 53 2 vs[k].2.2 x[k].edges.length xs
theorem LwAt.keep {W w w' : World} {X : Nat} {v : Value} {vs : List (Value × Value × Value)} {x : Aut} (h : LwAt W w X v vs x) (hg : Grew w w') : LwAt W w' X v vs x :=
  ⟨h.low.trans hg, h.xlo, h.box.keep hg, h.row.keep hg, h.len, fun k a b => ⟨(h.slots k a b).1.imp fun _ r => r.keep hg, (h.slots k a b).2.imp fun _ r => r.keep hg⟩⟩
theorem LwAt.write {W w : World} {X : Nat} {v : Value} {vs : List (Value × Value × Value)} {x : Aut} (h : LwAt W w X v vs x) {g T : Nat} (hg : ∃ cur, w.heap[g]? = some (.cells cur T (0, 0))) (h1 : T ≠ 51) (h2 : T ≠ 24) (hb : W.heap.size ≤ g) (i : Nat) (u : Value) : LwAt W (w.setCell ⟨g, i, none⟩ u) X v vs x := by
  refine ⟨Below.setCell h.low (p := ⟨g, i, none⟩) hb u, h.xlo, h.box.other (fun e => type_ne hg (owns_type h.box) h2 e) u, h.row.off (a := ⟨g, i, none⟩) (fun e => type_ne hg (row_type h.row e) h1 rfl) u, h.len, fun k a b => ?_⟩
  obtain ⟨⟨xs, r1⟩, ys, r2⟩ := h.slots k a b
  exact ⟨row_set r1 g i u, row_set r2 g i u⟩
theorem LwAt.state {W w : World} {X : Nat} {v : Value} {vs : List (Value × Value × Value)} {x : Aut} (h : LwAt W w X v vs x) {k : Nat} (hk : k < x.length) : ∃ g cap, v = .slice (some ⟨g, 0, none⟩) x.length cap ∧ g < w.heap.size ∧ ∃ h' : k < vs.length, w.cell? ⟨g, k * 3 + 1, none⟩ = some vs[k].2.1 ∧ w.cell? ⟨g, k * 3 + 2, none⟩ = some vs[k].2.2 := by
  have hv : k < vs.length := by rw [h.len]; exact hk
  rcases row_cells h.row with ⟨_, h0⟩ | ⟨g, cap, h1, _, _, h3, h4⟩
  · omega
  · refine ⟨g, cap, h1, h3, hv, h4 _ _ ?_, h4 _ _ ?_⟩
    · unfold triVs
      rw [flat_get _ _ triF_len vs k 1 (by omega), List.getElem?_eq_getElem hv]
      rfl
    · unfold triVs
      rw [flat_get _ _ triF_len vs k 2 (by omega), List.getElem?_eq_getElem hv]
      rfl
end Go.Proofs.YtogmlonhciiomaaDoor
