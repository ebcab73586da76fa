/- ChecksFine's row: with any grammar it answers true, and the grammar reads as it did. -/
import Derived.Test.YtnopnihdobedcaaFineW
import Derived.Test.YtnopnihdobedcaaOpen
import Derived.Test.YtnopnihdobedcaaShut
import Derived.OpenShut
import Derived.Carry
namespace Go.Proofs.Ytnopnihdobedcaa
open Go.ChangeShapes Go.WideShapes Go.ChangeAt Go.RowKit

theorem cown : ownKnob Try.prog.godebug = none := by kernel_rfl
theorem claidOut : laidOutB Try.prog = true := by kernel_rfl

set_option maxRecDepth 20000 in
theorem fine_contract (H : Type) (enc : TypeId × Value → H) (W : World) (base : Nat) (args : Array Value) (ds gs : List (DataW H)) (before : List MemPlace)
    (hval : ∀ (j : Nat) t v, Try.f5.params[j]? = some t → args[j]? = some v → Value.okWide Try.prog W .any base t v)
    (hW : DataW.Whole enc Try.prog Try.f5.params.toList Rows.checksFineSpec.vars false W args.toList ds gs before)
    (hL : (DataW.weightsEach Try.prog (Try.f5.params.toList ++ Rows.checksFineSpec.plain.varTypes Try.prog) (ds ++ gs)).all (· ≤ reachBytes) = true) :
    Calls Try.prog 5 args W fun e W' => ∃ v, e = .returned v ∧ Rows.checksFineSpec.post enc Try.prog Try.f5 false true false false W args v W' := by
  have hW' := hW
  obtain ⟨p, q, hA0, hV, rfl, hfz, hnd⟩ := hW
  have hA : DataW.TrodAll enc Try.prog W 0 (fun _ => true) true Try.f5.params.toList args.toList ds p := hA0
  rw [Try.params5] at hA hval hL
  obtain ⟨v0, d0, rfl, rfl, h0⟩ := trodAll_one hA
  obtain ⟨rfl, rfl⟩ := trodVars_none hV
  have hLt : Light Try.prog 26 d0 := by
    simp only [List.all_eq_true, decide_eq_true_eq] at hL
    exact light_each ((#[26] : Array TypeId).toList ++ Rows.checksFineSpec.plain.varTypes Try.prog) ([d0] ++ []) hL 0 26 d0 rfl rfl
  have h0k := h0
  have hv0 : Value.okWide Try.prog W .any base 26 v0 := hval 0 26 v0 rfl rfl
  obtain ⟨x0, x1, x2, x3, g, rfl, hG⟩ := gr_open hv0 h0 hLt
  clear hA0
  simp only [List.append_nil] at hW'
  refine (checksFine_ok g W x0 x1 x2 x3 hG).mono fun e W' ⟨he, hb⟩ => ?_
  subst he
  have hlt : ∀ y ∈ p, y.block < W.heap.size := hW'.lt
  refine ⟨_, rfl, post_below hb hW' (fun _ _ _ => trodAll_cons_mk (shut_bool Try.underlying4 _) trodAll_mk0) (fun sp hsp => ?_) (fun _ => rfl) (ok_one (by kernel_rfl) rfl (okWide_bool_mk Try.underlying4 _))⟩
  exact trodAll_mk1 (WideElems.Trod_stays claidOut (by kernel_rfl) (of_decide_eq_true (by kernel_rfl)) h0k (fun y hy => hb.same (hlt y hy)) hsp)

set_option maxRecDepth 100000 in
theorem fine_lifted (os : Os) (started : os.Started) (H : Type) (enc : TypeId × Value → H) :
    ReturnsInHanded {} Try.checked os 5 .any (Rows.checksFineSpec.pre6 enc Try.prog Try.f5 Rows.checksFineRow.domain false) (Rows.checksFineSpec.post enc Try.prog Try.f5 false true false false) := by
  refine returnsInHanded_of_change_sized (C := Try.checked) cown started (by kernel_rfl) Try.func5
    (ChangeSpec.witness6 (enc := enc) (C := Try.checked) false ⟨#[], #[.agg #[.string .empty, .int .i64 0, .int .i64 0, .slice none 0 0]], []⟩ 8 (by kernel_rfl) (by kernel_rfl) (by kernel_rfl) (by kernel_rfl)) ?_
  intro W base args ds gs before hval hW _ hL _
  exact fine_contract H enc W base args ds gs before hval hW hL

/-- WHAT IS ASKED: ChecksFine answers true for every grammar, and leaves it as it was. -/
theorem checksFine_said : Rows.ChecksFineSaid :=
  OpenClaim.holds_of_wide 5 Try.f5 rfl rfl rfl rfl rfl rfl rfl ⟨rfl, rfl, rfl, rfl, rfl⟩ rfl rfl rfl rfl rfl (by kernel_rfl) Try.func5 (by kernel_rfl)
    (of_decide_eq_true (by kernel_rfl)) (by unfold Func.isWrapper; first | (rw [if_pos (by decide +kernel)]; kernel_rfl) | (rw [if_neg (by decide +kernel)]; exact ⟨rfl, rfl⟩))
    (fun os started H enc _ => fine_lifted os started H enc)
end Go.Proofs.Ytnopnihdobedcaa
