/- Numbers that are handed in, read as such. -/
import Derived.Test.YtogmlonhciiomaaDoorPrOpen
namespace Go.Proofs.YtogmlonhciiomaaDoor
open Go.RowKit Go.ChangeShapes Go.WideShapes

set_option maxRecDepth 20000 in
theorem nums_open {H : Type} {enc : TypeId × Value → H} {base : Nat} {spare : Nat → Bool} {held : Bool} {W : World} {v : Value} {d : DataW H} {ps : List MemPlace} {b0 : Nat} (hval : Value.okWide Tryd.prog W .any b0 26 v) (h : DataW.Trod enc Tryd.prog W base spare held 26 v d ps) (hw : Light Tryd.prog 26 d) :
    ∃ l : List Int, IntsV W W.heap.size v l := by
  obtain ⟨a9, n9, c9, rfl⟩ := okWide_slice Tryd.underlying26 hval
  obtain ⟨fuel, h⟩ := h
  obtain ⟨u, l, hcs, _, hl⟩ := ints_open h hw
  simp [Value.cells] at hcs
  subst hcs
  exact ⟨l, hl⟩
end Go.Proofs.YtogmlonhciiomaaDoor
