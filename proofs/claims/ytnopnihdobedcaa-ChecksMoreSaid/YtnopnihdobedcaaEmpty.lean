/- nulls.Empty. -/
import Derived.Test.YtnopnihdobedcaaReach
namespace Go.Proofs.Ytnopnihdobedcaa
open Go.RowKit

def EmptyIs (g : Gr) (W : World) (e : Ending) (W' : World) : Prop :=
  ∃ eb es, e = .returned (.slice (some ⟨eb, 0, none⟩) g.rules.length g.rules.length) ∧ g.IsEmpty es ∧ Owns W' eb (es.map .bool) 4 ∧ W.heap.size ≤ eb ∧ Below W.heap.size W W'

set_option maxRecDepth 20000 in
theorem empty_ok (g : Gr) (W : World) (v0 v1 v2 v3 : Value) (hG : GrAt W W.heap.size (some v0) (some v1) (some v2) (some v3) g) :
    Calls Try.prog 11 #[.agg #[v0, v1, v2, v3]] W fun e W' => EmptyIs g W e W' := by
  have hgr := grew_alloc W (.cells #[v0, v1, v2, v3] 26)
  have hK := Lib.hid (known_ok g _ _ _ _ _ ((hG.keep hgr).mono hgr.size))
  have HGR := Lib.hid hgr
  clear hgr hG
  go_enter Try.func11, Try.ntmps11
  go_wp2_with fail
  refine hK.out.mono ?_
  rintro e w1 ⟨ab, eb, es, rfl, hes, hask, hb1⟩
  have ha := hask.ask.ea
  have hle := hask.le
  have HES := Lib.hid hes
  have HO := Lib.hid hask.oe
  have HB := Lib.hid (HGR.out.trans hb1)
  simp at hle
  clear hes hask hb1
  go_wp2_with fail
  go_ret
  exact ⟨eb, es, rfl, HES.out, HO.out, by omega, HB.out⟩
end Go.Proofs.Ytnopnihdobedcaa
