/- Bytes that are handed in, read as such. -/
import Derived.Test.YtogmlonhciiomaaDoorPrOpen
namespace Go.Proofs.YtogmlonhciiomaaDoor
open Go.RowKit Go.ChangeShapes Go.WideShapes

set_option maxRecDepth 20000 in
theorem bytes_open {H : Type} {enc : TypeId × Value → H} {base : Nat} {spare : Nat → Bool} {held : Bool} {W : World} {v : Value} {d : DataW H} {ps : List MemPlace} {b0 : Nat} (hval : Value.okWide Tryd.prog W .any b0 59 v) (h : DataW.Trod enc Tryd.prog W base spare held 59 v d ps) (hw : Light Tryd.prog 59 d) :
    ∃ how : List Int, (∃ a cap, v = .slice a how.length cap ∧ ∀ k (h : k < how.length), ∃ b off, a = some ⟨b, off, none⟩ ∧ b < W.heap.size ∧ W.cell? ⟨b, off + k, none⟩ = some (.int .u8 how[k])) ∧ how.length ≤ reachN ∧ ∀ l ∈ how, 0 ≤ l ∧ l ≤ 255 := by
  have hpc : Tryd.prog.cellsOf 5 = 1 := by kernel_rfl
  obtain ⟨a9, n9, c9, rfl⟩ := okWide_slice Tryd.underlying59 hval
  obtain ⟨fuel, h⟩ := h
  obtain ⟨a, len, cap, n, -, hcs, hlen, hel⟩ := trod_elems Tryd.underlying59 (of_decide_eq_true (by kernel_rfl)) (by rw [hpc]; decide) h hw
  simp [Value.cells] at hcs
  obtain ⟨rfl, rfl, rfl⟩ := hcs
  obtain ⟨l, hl, hq⟩ := row_of (Q := fun i (p : Int) => (∃ b off, a9 = some ⟨b, off, none⟩ ∧ b < W.heap.size ∧ W.cell? ⟨b, off + i, none⟩ = some (.int .u8 p)) ∧ 0 ≤ p ∧ p ≤ 255) n9 0 (fun k hk => by
    obtain ⟨b, off, cs', y, e1, e2, e3, e4, e5, e6⟩ := hel k hk
    obtain ⟨p, rfl, p0, p1⟩ := light_int (k := .u8) (by kernel_rfl) e5
    rw [hpc] at e4
    rw [Nat.zero_add]
    have := e4 0 (by decide)
    rw [Nat.mul_one, Nat.add_zero] at this
    exact ⟨p, ⟨b, off, e1, e2, this⟩, p0, p1⟩)
  subst hl
  refine ⟨l, ⟨a9, c9, rfl, fun k hk => ?_⟩, hlen, fun s hs => ?_⟩
  · obtain ⟨⟨b, off, h1, h2, h3⟩, -⟩ := hq k hk
    rw [Nat.zero_add] at h3
    exact ⟨b, off, h1, h2, h3⟩
  · obtain ⟨k, hk, rfl⟩ := List.mem_iff_getElem.1 hs
    exact (hq k hk).2
end Go.Proofs.YtogmlonhciiomaaDoor
