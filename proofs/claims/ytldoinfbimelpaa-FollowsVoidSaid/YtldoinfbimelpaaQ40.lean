/- FollowsVoid's row: with any number and any node it answers true, and the node reads as it did. -/
import Derived.OpenShut
import Derived.Carry
import Derived.Test.YtldoinfbimelpaaQ38
import Derived.Test.YtldoinfbimelpaaQ39
namespace Go.Proofs.Ytldoinfbimelpaa
open Go.ChangeShapes Go.WideShapes Go.ChangeAt Go.RowKit

theorem own : ownKnob Try.prog.godebug = none := by kernel_rfl
theorem laidOut : laidOutB Try.prog = true := by kernel_rfl

set_option maxRecDepth 20000 in
theorem void_contract (H : Type) (enc : TypeId × Value → H) (W : World) (base : Nat) (args : Array Value) (ds gs : List (DataW H)) (before : List MemPlace)
    (hval : ∀ (j : Nat) t v, Try.f3.params[j]? = some t → args[j]? = some v → Value.okWide Try.prog W .any base t v)
    (hW : DataW.Whole enc Try.prog Try.f3.params.toList Rows.followsVoidSpec.vars false W args.toList ds gs before)
    (hL : (DataW.weightsEach Try.prog (Try.f3.params.toList ++ Rows.followsVoidSpec.plain.varTypes Try.prog) (ds ++ gs)).all (· ≤ reachBytes) = true) :
    Calls Try.prog 3 args W fun e W' => ∃ v, e = .returned v ∧ Rows.followsVoidSpec.post enc Try.prog Try.f3 false true false false W args v W' := by
  have hW' := hW
  obtain ⟨p, q, hA0, hV, rfl, hfz, hnd⟩ := hW
  have hA : DataW.TrodAll enc Try.prog W 0 (fun _ => true) true Try.f3.params.toList args.toList ds p := hA0
  rw [Try.params3] at hA hval hL
  obtain ⟨v0, v1, d0, d1, p0, p1, rfl, rfl, rfl, h0, h1⟩ := trodAll_two hA
  obtain ⟨rfl, rfl⟩ := trodVars_none hV
  have hLt : Light Try.prog 26 d1 := by
    simp only [List.all_eq_true, decide_eq_true_eq] at hL
    exact light_each ((#[3, 26] : Array TypeId).toList ++ Rows.followsVoidSpec.plain.varTypes Try.prog) ([d0, d1] ++ []) hL 1 26 d1 rfl rfl
  have h1k := h1
  have hv1 : Value.okWide Try.prog W .any base 26 v1 := hval 1 26 v1 rfl rfl
  obtain ⟨cs, rfl, hsz⟩ := okWide_struct Try.underlying26 hv1
  obtain ⟨fuel, h1⟩ := h1
  obtain ⟨x0, x1, x2, x3, x4, n, hcs, hN⟩ := node_open fuel h1 hLt
  obtain rfl : cs = #[x0, x1, x2, x3, x4] := Array.ext' hcs
  obtain ⟨x, rfl, rfl, rfl, wx⟩ := open_int Try.underlying3 (hval 0 3 v0 rfl rfl) h0
  clear hA0
  simp only [List.append_nil, List.nil_append] at hW'
  refine (void_ok n x W x0 x1 x2 x3 x4 hN).mono fun e W' ⟨he, hb⟩ => ?_
  subst he
  have hlt : ∀ y ∈ p1, y.block < W.heap.size := hW'.lt
  refine ⟨_, rfl, post_below hb hW' (fun _ _ _ => trodAll_cons_mk (shut_bool Try.underlying4 _) trodAll_mk0) (fun sp hsp => ?_) (fun _ => rfl) (ok_one (by kernel_rfl) rfl (okWide_bool_mk Try.underlying4 _))⟩
  exact trodAll_mk2 (shut_int (enc := enc) (w := W') (base := 0) (spare := sp) (held := true) Try.underlying3 wx) (WideElems.Trod_stays laidOut (by kernel_rfl) (of_decide_eq_true (by kernel_rfl)) h1k (fun y hy => hb.same (hlt y hy)) hsp)

set_option maxRecDepth 100000 in
theorem void_lifted (os : Os) (started : os.Started) (H : Type) (enc : TypeId × Value → H) :
    ReturnsInHanded {} Try.checked os 3 .any (Rows.followsVoidSpec.pre6 enc Try.prog Try.f3 Rows.followsVoidRow.domain false) (Rows.followsVoidSpec.post enc Try.prog Try.f3 false true false false) := by
  refine returnsInHanded_of_change_sized (C := Try.checked) own started (by kernel_rfl) Try.func3
    (ChangeSpec.witness6 (enc := enc) (C := Try.checked) false ⟨#[], #[.int .i64 0, .agg #[.int .u8 0, .string .empty, .string .empty, .slice none 0 0, .slice none 0 0]], []⟩ 8 (by kernel_rfl) (by kernel_rfl) (by kernel_rfl) (by kernel_rfl)) ?_
  intro W base args ds gs before hval hW _ hL _
  exact void_contract H enc W base args ds gs before hval hW hL

/-- WHAT IS ASKED: FollowsVoid answers true for every number and every node, and leaves them as they were. -/
theorem followsVoid_said : Rows.FollowsVoidSaid :=
  OpenClaim.holds_of_wide 3 Try.f3 rfl rfl rfl rfl rfl rfl rfl ⟨rfl, rfl, rfl, rfl, rfl⟩ rfl rfl rfl rfl rfl (by kernel_rfl) Try.func3 (by kernel_rfl)
    (of_decide_eq_true (by kernel_rfl)) (by unfold Func.isWrapper; first | (rw [if_pos (by decide +kernel)]; kernel_rfl) | (rw [if_neg (by decide +kernel)]; exact ⟨rfl, rfl⟩))
    (fun os started H enc _ => void_lifted os started H enc)
end Go.Proofs.Ytldoinfbimelpaa
