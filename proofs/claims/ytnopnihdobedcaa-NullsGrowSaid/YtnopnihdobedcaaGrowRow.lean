/- NullsGrow's row: with any grammar and any number it answers true, and the grammar reads as it did. -/
import Derived.Test.YtnopnihdobedcaaGrow
import Derived.Test.YtnopnihdobedcaaOpen
import Derived.Test.YtnopnihdobedcaaShut
import Derived.OpenShut
import Derived.Carry
namespace Go.Proofs.Ytnopnihdobedcaa
open Go.ChangeShapes Go.WideShapes Go.ChangeAt Go.RowKit

theorem own : ownKnob Try.prog.godebug = none := by kernel_rfl
theorem laidOut : laidOutB Try.prog = true := by kernel_rfl

theorem u8_wf {x : Int} (h : (Lit.int .u8 x).wf = true) : 0 ≤ x ∧ x ≤ 255 := by
  simpa [Lit.wf, IntKind.min, IntKind.max, IntKind.signed, IntKind.bits] using h

set_option maxRecDepth 20000 in
theorem grow_contract (H : Type) (enc : TypeId × Value → H) (W : World) (base : Nat) (args : Array Value) (ds gs : List (DataW H)) (before : List MemPlace)
    (hval : ∀ (j : Nat) t v, Try.f3.params[j]? = some t → args[j]? = some v → Value.okWide Try.prog W .any base t v)
    (hW : DataW.Whole enc Try.prog Try.f3.params.toList Rows.nullsGrowSpec.vars false W args.toList ds gs before)
    (hL : (DataW.weightsEach Try.prog (Try.f3.params.toList ++ Rows.nullsGrowSpec.plain.varTypes Try.prog) (ds ++ gs)).all (· ≤ reachBytes) = true) :
    Calls Try.prog 3 args W fun e W' => ∃ v, e = .returned v ∧ Rows.nullsGrowSpec.post enc Try.prog Try.f3 false true false false W args v W' := by
  have hW' := hW
  obtain ⟨p, q, hA0, hV, rfl, hfz, hnd⟩ := hW
  have hA : DataW.TrodAll enc Try.prog W 0 (fun _ => true) true Try.f3.params.toList args.toList ds p := hA0
  rw [Try.params3] at hA hval hL
  obtain ⟨v0, v1, d0, d1, p0, p1, rfl, rfl, rfl, h0, h1⟩ := trodAll_two hA
  obtain ⟨rfl, rfl⟩ := trodVars_none hV
  have hLt : Light Try.prog 26 d0 := by
    simp only [List.all_eq_true, decide_eq_true_eq] at hL
    exact light_each ((#[26, 5] : Array TypeId).toList ++ Rows.nullsGrowSpec.plain.varTypes Try.prog) ([d0, d1] ++ []) hL 0 26 d0 rfl rfl
  have h0k := h0
  have hv0 : Value.okWide Try.prog W .any base 26 v0 := hval 0 26 v0 rfl rfl
  obtain ⟨x0, x1, x2, x3, g, rfl, hG⟩ := gr_open hv0 h0 hLt
  obtain ⟨x, rfl, rfl, rfl, wx⟩ := open_int Try.underlying5 (hval 1 5 v1 rfl rfl) h1
  have hx : 0 ≤ x ∧ x ≤ 255 := u8_wf wx
  clear hA0
  simp only [List.append_nil] at hW'
  refine (grow_ok g x W x0 x1 x2 x3 hx.1 hx.2 hG).mono fun e W' ⟨he, hb⟩ => ?_
  subst he
  have hlt : ∀ y ∈ p0, y.block < W.heap.size := hW'.lt
  refine ⟨_, rfl, post_below hb hW' (fun _ _ _ => trodAll_cons_mk (shut_bool Try.underlying4 _) trodAll_mk0) (fun sp hsp => ?_) (fun _ => rfl) (ok_one (by kernel_rfl) rfl (okWide_bool_mk Try.underlying4 _))⟩
  have h2 := trodAll_mk2 (WideElems.Trod_stays laidOut (by kernel_rfl) (of_decide_eq_true (by kernel_rfl)) h0k (fun y hy => hb.same (hlt y hy)) hsp) (shut_int (enc := enc) (w := W') (base := 0) (spare := sp) (held := true) Try.underlying5 wx)
  rw [List.append_nil] at h2
  exact h2

set_option maxRecDepth 100000 in
theorem grow_lifted (os : Os) (started : os.Started) (H : Type) (enc : TypeId × Value → H) :
    ReturnsInHanded {} Try.checked os 3 .any (Rows.nullsGrowSpec.pre6 enc Try.prog Try.f3 Rows.nullsGrowRow.domain false) (Rows.nullsGrowSpec.post enc Try.prog Try.f3 false true false false) := by
  refine returnsInHanded_of_change_sized (C := Try.checked) own started (by kernel_rfl) Try.func3
    (ChangeSpec.witness6 (enc := enc) (C := Try.checked) false ⟨#[], #[.agg #[.string .empty, .int .i64 0, .int .i64 0, .slice none 0 0], .int .u8 0], []⟩ 8 (by kernel_rfl) (by kernel_rfl) (by kernel_rfl) (by kernel_rfl)) ?_
  intro W base args ds gs before hval hW _ hL _
  exact grow_contract H enc W base args ds gs before hval hW hL

/-- WHAT IS ASKED: NullsGrow answers true for every grammar and every number, and leaves them as they were. -/
theorem nullsGrow_said : Rows.NullsGrowSaid :=
  OpenClaim.holds_of_wide 3 Try.f3 rfl rfl rfl rfl rfl rfl rfl ⟨rfl, rfl, rfl, rfl, rfl⟩ rfl rfl rfl rfl rfl (by kernel_rfl) Try.func3 (by kernel_rfl)
    (of_decide_eq_true (by kernel_rfl)) (by unfold Func.isWrapper; first | (rw [if_pos (by decide +kernel)]; kernel_rfl) | (rw [if_neg (by decide +kernel)]; exact ⟨rfl, rfl⟩))
    (fun os started H enc _ => grow_lifted os started H enc)
end Go.Proofs.Ytnopnihdobedcaa
