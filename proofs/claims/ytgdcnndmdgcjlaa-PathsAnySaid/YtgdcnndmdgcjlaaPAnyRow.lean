/- PathsAny's row: with any net and any tokens, whatever is asked, it answers true, and all read as they did. No conditions. -/
import Derived.Test.YtgdcnndmdgcjlaaPAny
import Derived.Test.YtgdcnndmdgcjlaaPOpen
import Derived.Test.YtgdcnndmdgcjlaaShut
import Derived.OpenShut
import Derived.Carry
namespace Go.Proofs.Ytgdcnndmdgcjlaa
open Go.ChangeShapes Go.WideShapes Go.ChangeAt Go.RowKit

theorem anown : ownKnob Try.prog.godebug = none := by kernel_rfl
theorem anlaidOut : laidOutB Try.prog = true := by kernel_rfl

set_option maxRecDepth 20000 in
theorem toks_open {H : Type} {enc : TypeId × Value → H} {base : Nat} {spare : Nat → Bool} {held : Bool} {W : World} {v : Value} {d : DataW H} {ps : List MemPlace} {b0 : Nat} (hval : Value.okWide Try.prog W .any b0 23 v) (h : DataW.Trod enc Try.prog W base spare held 23 v d ps) (hw : Light Try.prog 23 d) :
    ∃ l : List Int, l.length ≤ reachN ∧ IntsV W W.heap.size v l := by
  obtain ⟨a, n, c, rfl⟩ := okWide_slice Try.underlying23 hval
  obtain ⟨fuel, h⟩ := h
  obtain ⟨a0, k0, l0, e0, n0, q0⟩ := pints_open h hw
  simp [Value.cells] at e0
  obtain ⟨rfl, rfl, rfl⟩ := e0
  exact ⟨l0, n0, _, _, rfl, q0⟩

set_option maxRecDepth 20000 in
theorem any_contract (H : Type) (enc : TypeId × Value → H) (W : World) (base : Nat) (args : Array Value) (ds gs : List (DataW H)) (before : List MemPlace)
    (hval : ∀ (j : Nat) t v, Try.f3.params[j]? = some t → args[j]? = some v → Value.okWide Try.prog W .any base t v)
    (hW : DataW.Whole enc Try.prog Try.f3.params.toList Rows.pathsAnySpec.vars false W args.toList ds gs before)
    (hL : (DataW.weightsEach Try.prog (Try.f3.params.toList ++ Rows.pathsAnySpec.plain.varTypes Try.prog) (ds ++ gs)).all (· ≤ reachBytes) = true) :
    Calls Try.prog 3 args W fun e W' => ∃ v, e = .returned v ∧ Rows.pathsAnySpec.post enc Try.prog Try.f3 false true false false W args v W' := by
  have hW' := hW
  obtain ⟨p, q, hA0, hV, rfl, hfz, hnd⟩ := hW
  have hA : DataW.TrodAll enc Try.prog W 0 (fun _ => true) true Try.f3.params.toList args.toList ds p := hA0
  rw [Try.params3] at hA hval hL
  obtain ⟨v0, v1, v2, d0, d1, d2, p0, p1, p2, rfl, rfl, rfl, h0, h1, h2⟩ := trodAll_three hA
  obtain ⟨rfl, rfl⟩ := trodVars_none hV
  have hL' : ∀ i t d, (#[25, 27, 23] : Array TypeId).toList[i]? = some t → ([d0, d1, d2] : List _)[i]? = some d → Light Try.prog t d := fun i t d ht hd => by
    simp only [List.all_eq_true, decide_eq_true_eq] at hL
    exact light_each ((#[25, 27, 23] : Array TypeId).toList ++ Rows.pathsAnySpec.plain.varTypes Try.prog) ([d0, d1, d2] ++ []) hL i t d (by rw [List.getElem?_append_left (by have := (List.getElem?_eq_some_iff.1 ht).1; exact this)]; exact ht) (by rw [List.append_nil]; exact hd)
  have h0k := h0
  have h1k := h1
  have h2k := h2
  obtain ⟨n0, n1, n2, n3, n4, N, rfl, hN, hR, hK⟩ := net_open (hval 0 25 v0 rfl rfl) h0 (hL' 0 _ _ rfl rfl)
  obtain ⟨x0, x1, x2, rfl⟩ := ask_open (hval 1 27 v1 rfl rfl) h1 (hL' 1 _ _ rfl rfl)
  obtain ⟨l, hl, hwv⟩ := toks_open (hval 2 23 v2 rfl rfl) h2 (hL' 2 _ _ rfl rfl)
  clear hA0
  simp only [List.append_nil] at hW'
  refine (any_ok N hR hK l hl x0 x1 x2 W n0 n1 n2 n3 n4 v2 hN hwv).mono fun e W' ⟨he, hb⟩ => ?_
  subst he
  have hlt := hW'.lt
  refine ⟨_, rfl, post_below hb hW' (fun _ _ _ => trodAll_cons_mk (shut_bool Try.underlying4 _) trodAll_mk0) (fun sp hsp => ?_) (fun _ => rfl) (ok_one (by kernel_rfl) rfl (okWide_bool_mk Try.underlying4 _))⟩
  have h3 := trodAll_mk3 (WideElems.Trod_stays anlaidOut (by kernel_rfl) (of_decide_eq_true (by kernel_rfl)) h0k (fun y hy => hb.same (hlt y (by simp [hy]))) (fun y hy => hsp y (by simp [hy])))
    (WideElems.Trod_stays anlaidOut (by kernel_rfl) (of_decide_eq_true (by kernel_rfl)) h1k (fun y hy => hb.same (hlt y (by simp [hy]))) (fun y hy => hsp y (by simp [hy])))
    (WideElems.Trod_stays anlaidOut (by kernel_rfl) (of_decide_eq_true (by kernel_rfl)) h2k (fun y hy => hb.same (hlt y (by simp [hy]))) (fun y hy => hsp y (by simp [hy])))
  first
    | exact h3
    | (simp only [List.append_nil, List.append_assoc] at h3 ⊢; exact h3)
    | (rw [List.append_assoc]; simpa using h3)

set_option maxRecDepth 100000 in
theorem any_lifted (os : Os) (started : os.Started) (H : Type) (enc : TypeId × Value → H) :
    ReturnsInHanded {} Try.checked os 3 .any (Rows.pathsAnySpec.pre6 enc Try.prog Try.f3 Rows.pathsAnyRow.domain false) (Rows.pathsAnySpec.post enc Try.prog Try.f3 false true false false) := by
  refine returnsInHanded_of_change_sized (C := Try.checked) anown started (by kernel_rfl) Try.func3
    (ChangeSpec.witness6 (enc := enc) (C := Try.checked) false ⟨#[], #[.agg #[.slice none 0 0, .slice none 0 0, .slice none 0 0, .slice none 0 0, .slice none 0 0], .agg #[.int .i64 0, .int .i64 0, .int .i64 0], .slice none 0 0], []⟩ 8 (by kernel_rfl) (by kernel_rfl) (by kernel_rfl) (by kernel_rfl)) ?_
  intro W base args ds gs before hval hW _ hL _
  exact any_contract H enc W base args ds gs before hval hW hL

/-- WHAT IS ASKED: PathsAny answers true for every net, whatever is asked of it, and all tokens, and leaves them as they were. -/
theorem pathsAny_said : Rows.PathsAnySaid :=
  OpenClaim.holds_of_wide 3 Try.f3 rfl rfl rfl rfl rfl rfl rfl ⟨rfl, rfl, rfl, rfl, rfl⟩ rfl rfl rfl rfl rfl (by kernel_rfl) Try.func3 (by kernel_rfl)
    (of_decide_eq_true (by kernel_rfl)) (by unfold Func.isWrapper; first | (rw [if_pos (by decide +kernel)]; kernel_rfl) | (rw [if_neg (by decide +kernel)]; exact ⟨rfl, rfl⟩))
    (fun os started H enc _ => any_lifted os started H enc)
end Go.Proofs.Ytgdcnndmdgcjlaa
