/- The document's words in memory. -/
import Derived.Test.YtdgkpmpakkfgbaaGreatDoorScGet
import Derived.Test.YtdgkpmpakkfgbaaGreatDoorScR9
namespace Go.Proofs.YtdgkpmpakkfgbaaGreatDoor
open Go.RowKit

theorem info_rword : (Tryz.prog.info? 54).map (fun i => (i.zero, i.size, i.bytes)) = some (some (.agg #[.int .i64 0, .string { data := #[] }, .slice none 0 0, .int .i64 0, .int .i64 0, .int .i64 0]), 6, 72) := by kernel_rfl
/-- the cells of words -/
def RWCells (W : World) (base : Nat) (l : List UInt8) : List Wd → List Value → Prop
  | [], cs => cs = []
  | w :: ws, cs => ∃ (t : ByteArray) (sv : Value) (rest : List Value), cs = .int .i64 (w.kind : Nat) :: .string t :: sv :: .int .i64 (w.at_ : Nat) :: .int .i64 ((placeOf (l.take w.at_) 1 1).1 : Nat) :: .int .i64 ((placeOf (l.take w.at_) 1 1).2 : Nat) :: rest ∧
      t.data.toList = w.text ∧ RangesV W base sv w.set ∧ (∃ a n c, sv = .slice a n c) ∧ RWCells W base l ws rest
theorem RWCells.snoc {W : World} {base : Nat} {l : List UInt8} {w : Wd} {t : ByteArray} {sv : Value} (ht : t.data.toList = w.text) (hr : RangesV W base sv w.set) (hs : ∃ a n c, sv = .slice a n c) : ∀ {ws : List Wd} {cs : List Value}, RWCells W base l ws cs →
    RWCells W base l (ws ++ [w]) (cs ++ [.int .i64 (w.kind : Nat), .string t, sv, .int .i64 (w.at_ : Nat), .int .i64 ((placeOf (l.take w.at_) 1 1).1 : Nat), .int .i64 ((placeOf (l.take w.at_) 1 1).2 : Nat)])
  | [], cs, h => by
    rw [show cs = [] from h]
    exact ⟨t, sv, [], rfl, ht, hr, hs, rfl⟩
  | x :: ws, cs, h => by
    obtain ⟨t', sv', rest, rfl, h1, h2, h3, h4⟩ := h
    exact ⟨t', sv', _, rfl, h1, h2, h3, RWCells.snoc ht hr hs h4⟩
theorem RWCells.map {W W' : World} {base base' : Nat} {l : List UInt8} (hm : ∀ sv set, RangesV W base sv set → RangesV W' base' sv set) : ∀ {ws : List Wd} {cs : List Value}, RWCells W base l ws cs → RWCells W' base' l ws cs
  | [], _, h => h
  | _ :: _, _, h => by
    obtain ⟨t, sv, rest, rfl, h1, h2, h3, h4⟩ := h
    exact ⟨t, sv, rest, rfl, h1, hm _ _ h2, h3, RWCells.map hm h4⟩
theorem RWCells.length {W : World} {base : Nat} {l : List UInt8} : ∀ {ws : List Wd} {cs : List Value}, RWCells W base l ws cs → cs.length = ws.length * 6
  | [], cs, h => by rw [show cs = [] from h]; rfl
  | _ :: ws, _, h => by
    obtain ⟨t, sv, rest, rfl, h1, h2, h3, h4⟩ := h
    have := RWCells.length h4
    simp only [List.length_cons, this]
    omega
theorem RWCells.ones {W : World} {base : Nat} {l : List UInt8} : ∀ {ws : List Wd} {cs : List Value}, RWCells W base l ws cs → ∀ u ∈ cs, u.oneCell' = true
  | [], cs, h => by rw [show cs = [] from h]; simp
  | _ :: ws, _, h => by
    obtain ⟨t, sv, rest, rfl, h1, h2, ⟨a, n, c, rfl⟩, h4⟩ := h
    intro u hu
    simp only [List.mem_cons] at hu
    rcases hu with rfl | rfl | rfl | rfl | rfl | rfl | hu
    · rfl
    · rfl
    · rfl
    · rfl
    · rfl
    · rfl
    · exact RWCells.ones h4 u hu
/-- a row of words -/
def RWordsV (W : World) (base : Nat) (l : List UInt8) (v : Value) (ws : List Wd) : Prop := ∃ cs, looseRow W base 54 6 v ws.length cs ∧ RWCells W base l ws cs
/-- blocks of another element's type may turn -/
theorem rranges_other {W W' : World} {base : Nat} {row : Option Nat} {v : Value} {l : List (Nat × Nat)} (h : RangesV W base v l) (hg : W.grownBy W' row) (hr : ∀ k, row = some k → ∃ cur fr, W.heap[k]? = some (.cells cur 54 fr)) : RangesV W' base v l := by
  refine ⟨h.1, h.2.imp id ?_⟩
  rintro ⟨g, cap, cur, h1, h2, h3, h4, h5, h6, h7⟩
  have hlt : g < W.heap.size := (Array.getElem?_eq_some_iff.1 h3).1
  refine ⟨g, cap, cur, h1, h2, (hg.block g hlt fun e => ?_).trans h3, h4, h5, h6, h7⟩
  obtain ⟨c2, f2, hc⟩ := hr g e.symm
  rw [h3] at hc
  simp at hc
theorem RWordsV.grew {W W' : World} {base : Nat} {l : List UInt8} {v : Value} {ws : List Wd} (h : RWordsV W base l v ws) (hg : Grew W W') : RWordsV W' base l v ws := by
  obtain ⟨cs, h1, h2⟩ := h
  have hl : ∀ {e size n : Nat} {v : Value} {xs : List Value}, looseRow W base e size v n xs → looseRow W' base e size v n xs := by
    intro e size n v xs h
    refine ⟨h.1, h.2.imp id ?_⟩
    rintro ⟨g, cap, cur, h1, h2, h3, h4, h5, h6, h7⟩
    exact ⟨g, cap, cur, h1, h2, (hg.block g (Array.getElem?_eq_some_iff.1 h3).1).trans h3, h4, h5, h6, h7⟩
  exact ⟨cs, hl h1, h2.map fun _ _ h => hl h⟩
theorem RWCells.get {W : World} {base : Nat} {l : List UInt8} : ∀ {ws : List Wd} {cs : List Value}, RWCells W base l ws cs → ∀ (i : Nat) (h : i < ws.length),
    cs[i * 6]? = some (.int .i64 (ws[i].kind : Nat)) ∧ cs[i * 6 + 1]? = some (.string ⟨ws[i].text.toArray⟩) ∧ (∃ sv, cs[i * 6 + 2]? = some sv ∧ RangesV W base sv ws[i].set) ∧
    cs[i * 6 + 3]? = some (.int .i64 (ws[i].at_ : Nat)) ∧ cs[i * 6 + 4]? = some (.int .i64 ((placeOf (l.take ws[i].at_) 1 1).1 : Nat)) ∧ cs[i * 6 + 5]? = some (.int .i64 ((placeOf (l.take ws[i].at_) 1 1).2 : Nat))
  | [], _, _, i, h => absurd h (by simp)
  | w :: ws, _, h, 0, _ => by
    obtain ⟨t, sv, rest, rfl, h1, h2, h3, h4⟩ := h
    rw [text_det h1]
    exact ⟨rfl, rfl, ⟨sv, rfl, h2⟩, rfl, rfl, rfl⟩
  | w :: ws, _, h, i + 1, hi => by
    obtain ⟨t, sv, rest, rfl, h1, h2, h3, h4⟩ := h
    have := RWCells.get h4 i (by simpa using hi)
    simpa [Nat.add_mul, Nat.add_assoc] using this
/-- what stands in a row of words -/
structure RWordCell (W : World) (base g i : Nat) (l : List UInt8) (w : Wd) : Prop where
  kind : W.cell? ⟨g, i * 6, none⟩ = some (.int .i64 (w.kind : Nat))
  text : W.cell? ⟨g, i * 6 + 1, none⟩ = some (.string ⟨w.text.toArray⟩)
  set : ∃ sv, W.cell? ⟨g, i * 6 + 2, none⟩ = some sv ∧ RangesV W base sv w.set
  at_ : W.cell? ⟨g, i * 6 + 3, none⟩ = some (.int .i64 (w.at_ : Nat))
  line : W.cell? ⟨g, i * 6 + 4, none⟩ = some (.int .i64 ((placeOf (l.take w.at_) 1 1).1 : Nat))
  col : W.cell? ⟨g, i * 6 + 5, none⟩ = some (.int .i64 ((placeOf (l.take w.at_) 1 1).2 : Nat))
theorem RWordsV.get {W : World} {base : Nat} {l : List UInt8} {v : Value} {ws : List Wd} (h : RWordsV W base l v ws) (hne : ws ≠ []) : ∃ g c, v = .slice (some ⟨g, 0, none⟩) ws.length c ∧ base ≤ g ∧ g < W.heap.size ∧ ws.length ≤ c ∧ ∀ (i : Nat) (hi : i < ws.length), RWordCell W base g i l ws[i] := by
  obtain ⟨cs, h1, h2⟩ := h
  have hpos := List.length_pos_iff.2 hne
  rcases h1.2 with ⟨_, h0⟩ | ⟨g, cap, cur, rfl, hb, hg, hc, hm, hsz, htk⟩
  · omega
  · refine ⟨g, cap, rfl, hb, (Array.getElem?_eq_some_iff.1 hg).1, hc, fun i hi => ?_⟩
    have hl := looseRow_cells h1 (g := g) rfl
    obtain ⟨a1, a2, ⟨sv, a3, a3'⟩, a4, a5, a6⟩ := h2.get i hi
    exact ⟨hl _ _ a1, hl _ _ a2, ⟨sv, hl _ _ a3, a3'⟩, hl _ _ a4, hl _ _ a5, hl _ _ a6⟩
theorem RWordCell.grew {W W' : World} {base g i : Nat} {l : List UInt8} {w : Wd} (h : RWordCell W base g i l w) (hg : Grew W W') (hlt : g < W.heap.size) : RWordCell W' base g i l w := by
  obtain ⟨h1, h2, ⟨sv, h3, h3'⟩, h4, h5, h6⟩ := h
  exact ⟨(hg.cells _ _ hlt).trans h1, (hg.cells _ _ hlt).trans h2, ⟨sv, (hg.cells _ _ hlt).trans h3, loose_grew h3' hg⟩, (hg.cells _ _ hlt).trans h4, (hg.cells _ _ hlt).trans h5, (hg.cells _ _ hlt).trans h6⟩

end Go.Proofs.YtdgkpmpakkfgbaaGreatDoor
