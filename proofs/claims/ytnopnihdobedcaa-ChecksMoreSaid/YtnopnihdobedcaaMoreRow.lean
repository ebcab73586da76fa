/- ChecksMore's row: with any grammar and any number it answers true, and the grammar reads as it did. -/
import Derived.Test.YtnopnihdobedcaaMoreW
import Derived.Test.YtnopnihdobedcaaOpen
import Derived.Test.YtnopnihdobedcaaShut
import Derived.OpenShut
import Derived.Carry
namespace Go.Proofs.Ytnopnihdobedcaa
open Go.ChangeShapes Go.WideShapes Go.ChangeAt Go.RowKit

theorem mown : ownKnob Try.prog.godebug = none := by kernel_rfl
theorem mlaidOut : laidOutB Try.prog = true := by kernel_rfl

theorem mu8_wf {x : Int} (h : (Lit.int .u8 x).wf = true) : 0 ≤ x ∧ x ≤ 255 := by
  simpa [Lit.wf, IntKind.min, IntKind.max, IntKind.signed, IntKind.bits] using h

set_option maxRecDepth 20000 in
theorem more_contract (H : Type) (enc : TypeId × Value → H) (W : World) (base : Nat) (args : Array Value) (ds gs : List (DataW H)) (before : List MemPlace)
    (hval : ∀ (j : Nat) t v, Try.f6.params[j]? = some t → args[j]? = some v → Value.okWide Try.prog W .any base t v)
    (hW : DataW.Whole enc Try.prog Try.f6.params.toList Rows.checksMoreSpec.vars false W args.toList ds gs before)
    (hL : (DataW.weightsEach Try.prog (Try.f6.params.toList ++ Rows.checksMoreSpec.plain.varTypes Try.prog) (ds ++ gs)).all (· ≤ reachBytes) = true) :
    Calls Try.prog 6 args W fun e W' => ∃ v, e = .returned v ∧ Rows.checksMoreSpec.post enc Try.prog Try.f6 false true false false W args v W' := by
  have hW' := hW
  obtain ⟨p, q, hA0, hV, rfl, hfz, hnd⟩ := hW
  have hA : DataW.TrodAll enc Try.prog W 0 (fun _ => true) true Try.f6.params.toList args.toList ds p := hA0
  rw [Try.params6] at hA hval hL
  obtain ⟨v0, v1, d0, d1, p0, p1, rfl, rfl, rfl, h0, h1⟩ := trodAll_two hA
  obtain ⟨rfl, rfl⟩ := trodVars_none hV
  have hLt : Light Try.prog 26 d0 := by
    simp only [List.all_eq_true, decide_eq_true_eq] at hL
    exact light_each ((#[26, 5] : Array TypeId).toList ++ Rows.checksMoreSpec.plain.varTypes Try.prog) ([d0, d1] ++ []) hL 0 26 d0 rfl rfl
  have h0k := h0
  have hv0 : Value.okWide Try.prog W .any base 26 v0 := hval 0 26 v0 rfl rfl
  obtain ⟨x0, x1, x2, x3, g, rfl, hG⟩ := gr_open hv0 h0 hLt
  obtain ⟨x, rfl, rfl, rfl, wx⟩ := open_int Try.underlying5 (hval 1 5 v1 rfl rfl) h1
  have hx : 0 ≤ x ∧ x ≤ 255 := mu8_wf wx
  clear hA0
  simp only [List.append_nil] at hW'
  refine (checksMore_ok g x W x0 x1 x2 x3 hx.1 hx.2 hG).mono fun e W' ⟨he, hb⟩ => ?_
  subst he
  have hlt : ∀ y ∈ p0, y.block < W.heap.size := hW'.lt
  refine ⟨_, rfl, post_below hb hW' (fun _ _ _ => trodAll_cons_mk (shut_bool Try.underlying4 _) trodAll_mk0) (fun sp hsp => ?_) (fun _ => rfl) (ok_one (by kernel_rfl) rfl (okWide_bool_mk Try.underlying4 _))⟩
  have h2 := trodAll_mk2 (WideElems.Trod_stays mlaidOut (by kernel_rfl) (of_decide_eq_true (by kernel_rfl)) h0k (fun y hy => hb.same (hlt y hy)) hsp) (shut_int (enc := enc) (w := W') (base := 0) (spare := sp) (held := true) Try.underlying5 wx)
  rw [List.append_nil] at h2
  exact h2

set_option maxRecDepth 100000 in
theorem more_lifted (os : Os) (started : os.Started) (H : Type) (enc : TypeId × Value → H) :
    ReturnsInHanded {} Try.checked os 6 .any (Rows.checksMoreSpec.pre6 enc Try.prog Try.f6 Rows.checksMoreRow.domain false) (Rows.checksMoreSpec.post enc Try.prog Try.f6 false true false false) := by
  refine returnsInHanded_of_change_sized (C := Try.checked) mown started (by kernel_rfl) Try.func6
    (ChangeSpec.witness6 (enc := enc) (C := Try.checked) false ⟨#[], #[.agg #[.string .empty, .int .i64 0, .int .i64 0, .slice none 0 0], .int .u8 0], []⟩ 8 (by kernel_rfl) (by kernel_rfl) (by kernel_rfl) (by kernel_rfl)) ?_
  intro W base args ds gs before hval hW _ hL _
  exact more_contract H enc W base args ds gs before hval hW hL

/-- WHAT IS ASKED: ChecksMore answers true for every grammar and every number, and leaves them as they were. -/
theorem checksMore_said : Rows.ChecksMoreSaid :=
  OpenClaim.holds_of_wide 6 Try.f6 rfl rfl rfl rfl rfl rfl rfl ⟨rfl, rfl, rfl, rfl, rfl⟩ rfl rfl rfl rfl rfl (by kernel_rfl) Try.func6 (by kernel_rfl)
    (of_decide_eq_true (by kernel_rfl)) (by unfold Func.isWrapper; first | (rw [if_pos (by decide +kernel)]; kernel_rfl) | (rw [if_neg (by decide +kernel)]; exact ⟨rfl, rfl⟩))
    (fun os started H enc _ => more_lifted os started H enc)
end Go.Proofs.Ytnopnihdobedcaa
