/- PathsJoin's row: with any grammar and any number it answers true, and the grammar reads as it did. -/
import Derived.Test.YtgdcnndmdgcjlaaPJoinW
import Derived.Test.YtgdcnndmdgcjlaaPOpen
import Derived.Test.YtgdcnndmdgcjlaaShut
import Derived.OpenShut
import Derived.Carry
namespace Go.Proofs.Ytgdcnndmdgcjlaa
open Go.ChangeShapes Go.WideShapes Go.ChangeAt Go.RowKit

theorem mown : ownKnob Try.prog.godebug = none := by kernel_rfl
theorem mlaidOut : laidOutB Try.prog = true := by kernel_rfl

theorem mu8_wf {x : Int} (h : (Lit.int .u8 x).wf = true) : 0 ≤ x ∧ x ≤ 255 := by
  simpa [Lit.wf, IntKind.min, IntKind.max, IntKind.signed, IntKind.bits] using h

set_option maxRecDepth 20000 in
theorem more_contract (H : Type) (enc : TypeId × Value → H) (W : World) (base : Nat) (args : Array Value) (ds gs : List (DataW H)) (before : List MemPlace)
    (hval : ∀ (j : Nat) t v, Try.f4.params[j]? = some t → args[j]? = some v → Value.okWide Try.prog W .any base t v)
    (hW : DataW.Whole enc Try.prog Try.f4.params.toList Rows.pathsJoinSpec.vars false W args.toList ds gs before)
    (hL : (DataW.weightsEach Try.prog (Try.f4.params.toList ++ Rows.pathsJoinSpec.plain.varTypes Try.prog) (ds ++ gs)).all (· ≤ reachBytes) = true) :
    Calls Try.prog 4 args W fun e W' => ∃ v, e = .returned v ∧ Rows.pathsJoinSpec.post enc Try.prog Try.f4 false true false false W args v W' := by
  have hW' := hW
  obtain ⟨p, q, hA0, hV, rfl, hfz, hnd⟩ := hW
  have hA : DataW.TrodAll enc Try.prog W 0 (fun _ => true) true Try.f4.params.toList args.toList ds p := hA0
  rw [Try.params4] at hA hval hL
  obtain ⟨v0, v1, v2, d0, d1, d2, p0, p1, p2, rfl, rfl, rfl, h0, h1, h2⟩ := trodAll_three hA
  obtain ⟨rfl, rfl⟩ := trodVars_none hV
  have hL' : ∀ i t d, (#[25, 27, 46] : Array TypeId).toList[i]? = some t → ([d0, d1, d2] : List _)[i]? = some d → Light Try.prog t d := fun i t d ht hd => by
    simp only [List.all_eq_true, decide_eq_true_eq] at hL
    exact light_each ((#[25, 27, 46] : Array TypeId).toList ++ Rows.pathsJoinSpec.plain.varTypes Try.prog) ([d0, d1, d2] ++ []) hL i t d (by rw [List.getElem?_append_left (by have := (List.getElem?_eq_some_iff.1 ht).1; exact this)]; exact ht) (by rw [List.append_nil]; exact hd)
  have h0k := h0
  have h1k := h1
  have h2k := h2
  obtain ⟨n0, n1, n2, n3, n4, N, rfl, hN, hR, -⟩ := net_open (hval 0 25 v0 rfl rfl) h0 (hL' 0 _ _ rfl rfl)
  obtain ⟨x0, x1, x2, rfl⟩ := ask_open (hval 1 27 v1 rfl rfl) h1 (hL' 1 _ _ rfl rfl)
  obtain ⟨wv, l, m, c, rfl, hc, hl, hwv, hcap⟩ := cut_open (hval 2 46 v2 rfl rfl) h2 (hL' 2 _ _ rfl rfl)
  clear hA0
  simp only [List.append_nil] at hW'
  refine (join_ok N hR l hl x0 x1 x2 m c hc W n0 n1 n2 n3 n4 wv hN hwv hcap).mono fun e W' ⟨he, hb⟩ => ?_
  subst he
  have hlt := hW'.lt
  refine ⟨_, rfl, post_below hb hW' (fun _ _ _ => trodAll_cons_mk (shut_bool Try.underlying4 _) trodAll_mk0) (fun sp hsp => ?_) (fun _ => rfl) (ok_one (by kernel_rfl) rfl (okWide_bool_mk Try.underlying4 _))⟩
  have h3 := trodAll_mk3 (WideElems.Trod_stays mlaidOut (by kernel_rfl) (of_decide_eq_true (by kernel_rfl)) h0k (fun y hy => hb.same (hlt y (by simp [hy]))) (fun y hy => hsp y (by simp [hy])))
    (WideElems.Trod_stays mlaidOut (by kernel_rfl) (of_decide_eq_true (by kernel_rfl)) h1k (fun y hy => hb.same (hlt y (by simp [hy]))) (fun y hy => hsp y (by simp [hy])))
    (WideElems.Trod_stays mlaidOut (by kernel_rfl) (of_decide_eq_true (by kernel_rfl)) h2k (fun y hy => hb.same (hlt y (by simp [hy]))) (fun y hy => hsp y (by simp [hy])))
  first
    | exact h3
    | (simp only [List.append_nil, List.append_assoc] at h3 ⊢; exact h3)
    | (rw [List.append_assoc]; simpa using h3)

set_option maxRecDepth 100000 in
theorem more_lifted (os : Os) (started : os.Started) (H : Type) (enc : TypeId × Value → H) :
    ReturnsInHanded {} Try.checked os 4 .any (Rows.pathsJoinSpec.pre6 enc Try.prog Try.f4 Rows.pathsJoinRow.domain false) (Rows.pathsJoinSpec.post enc Try.prog Try.f4 false true false false) := by
  refine returnsInHanded_of_change_sized (C := Try.checked) mown started (by kernel_rfl) Try.func4
    (ChangeSpec.witness6 (enc := enc) (C := Try.checked) false ⟨#[], #[.agg #[.slice none 0 0, .slice none 0 0, .slice none 0 0, .slice none 0 0, .slice none 0 0], .agg #[.int .i64 0, .int .i64 0, .int .i64 0], .agg #[.slice none 0 0, .int .i64 0, .int .u8 0]], []⟩ 8 (by kernel_rfl) (by kernel_rfl) (by kernel_rfl) (by kernel_rfl)) ?_
  intro W base args ds gs before hval hW _ hL _
  exact more_contract H enc W base args ds gs before hval hW hL

/-- WHAT IS ASKED: PathsJoin answers true for every grammar and every number, and leaves them as they were. -/
theorem pathsJoin_said : Rows.PathsJoinSaid :=
  OpenClaim.holds_of_wide 4 Try.f4 rfl rfl rfl rfl rfl rfl rfl ⟨rfl, rfl, rfl, rfl, rfl⟩ rfl rfl rfl rfl rfl (by kernel_rfl) Try.func4 (by kernel_rfl)
    (of_decide_eq_true (by kernel_rfl)) (by unfold Func.isWrapper; first | (rw [if_pos (by decide +kernel)]; kernel_rfl) | (rw [if_neg (by decide +kernel)]; exact ⟨rfl, rfl⟩))
    (fun os started H enc _ => more_lifted os started H enc)
end Go.Proofs.Ytgdcnndmdgcjlaa
