/- NfasTexts's tied card: it answers true whatever comes in, which reads as it did; the variables that the row lists hold what the program's text lays. Printed by gennfrow.py. -/
import Derived.Test.YtkinlcichclnkaaDoorQT47
import Derived.Test.YtkinlcichclnkaaDoorQT48
namespace Go.Proofs.YtkinlcichclnkaaDoor
open Go.ChangeShapes Go.WideShapes Go.ChangeAt Go.RowKit

theorem nt_tab {W : World} (h : laidMetH Tryd.prog Rows.nfasTextsRow.laid W) : BruAt W := by
  rw [MakeChecks.laidMetH_plain Tryd.prog Rows.nfasTextsRow.laid W (by kernel_rfl)] at h
  exact bru_of (Lib.laidMet.reads h (by simp [Rows.nfasTextsRow]))
set_option maxRecDepth 20000 in
theorem nt_contract (H : Type) (enc : TypeId × Value → H) (W : World) (base : Nat) (args : Array Value) (ds gs : List (DataW H)) (before : List MemPlace)
    (hval : ∀ (j : Nat) t v, Tryd.f4.params[j]? = some t → args[j]? = some v → Value.okWide Tryd.prog W .any base t v)
    (hW : DataW.Whole enc Tryd.prog Tryd.f4.params.toList Rows.nfasTextsSpec.vars false W args.toList ds gs before)
    (hL : (DataW.weightsEach Tryd.prog (Tryd.f4.params.toList ++ (OpenSpec.ofChange Rows.nfasTextsSpec).bare.plain.varTypes Tryd.prog) (ds ++ gs)).all (· ≤ reachBytes) = true)
    (hT : laidMetH Tryd.prog Rows.nfasTextsRow.laid W) :
    Calls Tryd.prog 4 args W fun e W' => ∃ v, e = .returned v ∧ Rows.nfasTextsSpec.post enc Tryd.prog Tryd.f4 false true false false W args v W' := by
  have hW' := hW
  obtain ⟨p, q, hA0, hV, rfl, hfz, hnd⟩ := hW
  have hA : DataW.TrodAll enc Tryd.prog W 0 (fun _ => true) true Tryd.f4.params.toList args.toList ds p := hA0
  rw [Tryd.params4] at hA hval hL
  obtain ⟨v0, v1, d0, d1, p0, p1, rfl, rfl, rfl, h0, h1⟩ := trodAll_two hA
  obtain ⟨rfl, rfl⟩ := trodVars_none hV
  have hL' : ∀ i t d, (#[26, 50] : Array TypeId).toList[i]? = some t → ([d0, d1] : List _)[i]? = some d → Light Tryd.prog t d := fun i t d ht hd => by
    simp only [List.all_eq_true, decide_eq_true_eq] at hL
    exact light_each ((#[26, 50] : Array TypeId).toList ++ (OpenSpec.ofChange Rows.nfasTextsSpec).bare.plain.varTypes Tryd.prog) ([d0, d1] ++ []) hL i t d (by rw [List.getElem?_append_left (by have := (List.getElem?_eq_some_iff.1 ht).1; exact this)]; exact ht) (by rw [List.append_nil]; exact hd)
  have h0k := h0
  have h1k := h1
  obtain ⟨x0, x1, x2, x3, g, rfl, hG⟩ := gr_open (hval 0 26 v0 rfl rfl) h0 (hL' 0 _ _ rfl rfl)
  obtain ⟨l, la, lc, rfl, hR, hll⟩ := runes_open (hval 1 50 v1 rfl rfl) h1 (hL' 1 _ _ rfl rfl)
  have htab := nt_tab hT
  clear hA0
  simp only [List.append_nil] at hW'
  refine (texts8_ok g l W x0 x1 x2 x3 la lc hG hR hll htab htab.1).mono fun e W' ⟨he, hb⟩ => ?_
  subst he
  have hlt := hW'.lt
  refine ⟨_, rfl, post_below hb hW' (fun _ _ _ => trodAll_cons_mk (shut_bool Tryd.underlying4 _) trodAll_mk0) (fun sp hsp => ?_) (fun _ => rfl) (ok_one (by kernel_rfl) rfl (okWide_bool_mk Tryd.underlying4 _))⟩
  have h3 := trodAll_mk2 (WideElems.Trod_stays nlaidOut (by kernel_rfl) (of_decide_eq_true (by kernel_rfl)) h0k (fun y hy => hb.same (hlt y (by simp [hy]))) (fun y hy => hsp y (by simp [hy]))) (WideElems.Trod_stays nlaidOut (by kernel_rfl) (of_decide_eq_true (by kernel_rfl)) h1k (fun y hy => hb.same (hlt y (by simp [hy]))) (fun y hy => hsp y (by simp [hy])))
  first
    | exact h3
    | (simp only [List.append_nil, List.append_assoc] at h3 ⊢; exact h3)
    | simpa using h3

theorem nt_lays (os : Os) (args : Array Value) : laidMet Tryd.prog Rows.nfasTextsRow.laid ((World.laidAll Tryd.prog os Rows.nfasTextsRow.laid).forCall (fun _ _ => 0) ⟨#[], args, []⟩).memory :=
  laidMet_laidAll _ (by kernel_rfl) (by kernel_rfl)
theorem nt_reads (os : Os) {H : Type} (enc : TypeId × Value → H) : ∃ places, DataW.whole enc Tryd.prog ((World.laidAll Tryd.prog os Rows.nfasTextsRow.laid).forCall (fun _ _ => 0) ⟨#[], #[.agg #[.string .empty, .int .i64 0, .int .i64 0, .slice none 0 0], .slice none 0 0], []⟩).memory Tryd.f4.params.toList Rows.nfasTextsSpec.vars false (#[.agg #[.string .empty, .int .i64 0, .int .i64 0, .slice none 0 0], .slice none 0 0] : Array Value).toList 8 = some ([.agg [.lit (.string []), .agg [.lit (.int .i64 0), .lit (.int .i64 0)], .nil], .nil], [], places) :=
  ⟨[], by kernel_rfl⟩

set_option maxRecDepth 100000 in
theorem nt_lifted (os : Os) (started : os.Started) (H : Type) (enc : TypeId × Value → H) (F : Stop.Interp) :
    ReturnsInHanded {} Tryd.checked os 4 .any ((OpenSpec.ofChange Rows.nfasTextsSpec).preRow enc Tryd.prog Tryd.f4 Rows.nfasTextsRow.domain false Rows.nfasTextsRow.laid) (((OpenSpec.ofChange Rows.nfasTextsSpec).at F).post enc Tryd.prog Tryd.f4 false true false false) := by
  obtain ⟨places, hx⟩ := nt_reads os enc
  have hok : Input.okWideB Tryd.prog ((World.laidAll Tryd.prog os Rows.nfasTextsRow.laid).forCall (fun _ _ => 0) ⟨#[], #[.agg #[.string .empty, .int .i64 0, .int .i64 0, .slice none 0 0], .slice none 0 0], []⟩) 4 ⟨#[], #[.agg #[.string .empty, .int .i64 0, .int .i64 0, .slice none 0 0], .slice none 0 0], []⟩ = true := by kernel_rfl
  refine returnsInHanded_of_row (C := Tryd.checked) (s := OpenSpec.ofChange Rows.nfasTextsSpec) nown started (by kernel_rfl) Tryd.func4
    ⟨World.laidAll Tryd.prog os Rows.nfasTextsRow.laid, fun _ _ => 0, ⟨#[], #[.agg #[.string .empty, .int .i64 0, .int .i64 0, .slice none 0 0], .slice none 0 0], []⟩, World.laidAll_os _ _ _, World.shaped_of_ZipB (by kernel_rfl) (by kernel_rfl), (Input.okWide_of_okWideB (base := 0) hok).1, (Input.okWide_of_okWideB hok).2,
      OpenSpec.preRow_of_cond 8 hx (by kernel_rfl) (fun k hk => by cases hk) (by kernel_rfl) (nt_lays os _), by
        simp only [Assume.holds]
        exact ⟨by simp, by simp, fun _ => Modest.zero, by simp, by simp⟩⟩ ?_
  intro W base args ds gs before hval hW _ _ hw hT _ _
  exact nt_contract H enc W base args ds gs before hval hW hw hT

theorem nt_row : Rows.NfasTextsSaid :=
  OpenClaim.holds_of_cond 4 Tryd.f4 rfl rfl rfl rfl rfl rfl rfl ⟨rfl, rfl, rfl, rfl, rfl⟩ rfl rfl rfl rfl rfl (by kernel_rfl) Tryd.func4 (by kernel_rfl)
    (of_decide_eq_true (by kernel_rfl)) (by unfold Func.isWrapper; first | (rw [if_pos (by decide +kernel)]; kernel_rfl) | (rw [if_neg (by decide +kernel)]; exact ⟨rfl, rfl⟩))
    (fun os started H enc _ F => by rw [OpenClaim.pre_eq_preRow]; exact nt_lifted os started H enc F)

theorem nt_plain (f : FuncId) (fn : Func) (hf : Tryd.pinned.checked.prog.funcNamed "harbinger/harbingerlaw08.NfasTexts" = some f) (hfn : Tryd.pinned.checked.prog.funcs[f]? = some fn) :
    false = Tryd.pinned.checked.prog.looks [] ∧ ∀ (j : Nat) t, fn.params[j]? = some t → Tryd.pinned.checked.prog.wantsStandIn t = false := by
  obtain rfl : f = 4 := Option.some.inj ((show Tryd.prog.funcNamed "harbinger/harbingerlaw08.NfasTexts" = some 4 by kernel_rfl).symm.trans hf) |>.symm
  obtain rfl : fn = Tryd.f4 := (Option.some.inj (Tryd.func4.symm.trans hfn)).symm
  refine ⟨by kernel_rfl, fun j t ht => ?_⟩
  rw [Tryd.params4] at ht
  have hm : t ∈ ([26, 50] : List TypeId) := by simpa using Array.mem_of_getElem? ht
  simp only [List.mem_cons, List.not_mem_nil, or_false] at hm
  rcases hm with rfl | rfl
  · exact (show Tryd.prog.wantsStandIn 26 = false by kernel_rfl)
  · exact (show Tryd.prog.wantsStandIn 50 = false by kernel_rfl)

/-- WHAT IS ASKED: NfasTexts's card. -/
theorem nfasTexts_card : Rows.NfasTextsCardSaid :=
  Claim7.holds_tied_plain_at .later [] _ _ _ _ nt_row (fun _ h => by cases h) (by kernel_rfl) (fun _ h => by cases h) nfasTexts_row_tie rfl ⟨rfl, rfl⟩ (by kernel_rfl) rfl nt_plain (by kernel_rfl)
end Go.Proofs.YtkinlcichclnkaaDoor
