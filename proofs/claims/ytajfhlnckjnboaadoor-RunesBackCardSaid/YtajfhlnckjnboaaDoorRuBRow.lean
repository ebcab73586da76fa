/- RunesBack' tied card: it answers true whatever comes in, which reads as it did; the variables that the row lists hold what the program's text lays. -/
import Derived.Test.YtajfhlnckjnboaaDoorRuBW
import Derived.Test.YtajfhlnckjnboaaDoorRuLaid
import Derived.Test.YtajfhlnckjnboaaDoorShut
namespace Go.Proofs.YtajfhlnckjnboaaDoor
open Go.ChangeShapes Go.WideShapes Go.ChangeAt Go.RowKit Go.ChangeMaps

/-- two numbers that came in -/
theorem pair_open {W : World} {b0 : Nat} {v : Value} (hval : Value.okWide Tryd.prog W .any b0 29 v) : ∃ r q : Int, v = .agg #[.int .i32 r, .int .i32 q] := by
  unfold Value.okWide at hval
  rw [show Tryd.prog.underlying 29 = some (.array 2 21) by kernel_rfl] at hval
  obtain ⟨cs, rfl, hs, ts, hts, _, hall⟩ := hval
  rw [show Tryd.prog.cellsOf 29 = 2 by kernel_rfl] at hs
  obtain rfl := Option.some.inj ((show Tryd.prog.cellTypes Tryd.prog.depth 29 = some [21, 21] by kernel_rfl).symm.trans hts)
  have hi : ∀ x, Cell.okWide Tryd.prog W .any b0 21 x → ∃ n, x = .int .i32 n := fun x hx => by
    refine okWide_int (P := Tryd.prog) (w := W) (r := .any) (base := b0) (t := 21) (by kernel_rfl) ?_
    unfold Value.okWide
    rw [show Tryd.prog.underlying 21 = some (.int .i32) by kernel_rfl]
    exact hx
  obtain ⟨l⟩ := cs
  match l, hs, hall with
  | [x, y], _, hall =>
    obtain ⟨u, hu, hx⟩ := hall 0 x rfl
    obtain ⟨u', hu', hy⟩ := hall 1 y rfl
    obtain rfl : u = 21 := (Option.some.inj hu).symm
    obtain rfl : u' = 21 := (Option.some.inj hu').symm
    obtain ⟨m, rfl⟩ := hi x hx
    obtain ⟨n, rfl⟩ := hi y hy
    exact ⟨m, n, rfl⟩

set_option maxRecDepth 20000 in
theorem back_contract (H : Type) (enc : TypeId × Value → H) (W : World) (base : Nat) (args : Array Value) (ds gs : List (DataW H)) (before : List MemPlace)
    (hval : ∀ (j : Nat) t v, Tryd.f5.params[j]? = some t → args[j]? = some v → Value.okWide Tryd.prog W .any base t v)
    (hW : DataW.Whole enc Tryd.prog Tryd.f5.params.toList Rows.runesBackSpec.vars false W args.toList ds gs before) (hL : laidMetH Tryd.prog Rows.runesBackRow.laid W) (hS : W.ShapedOpen Tryd.prog) :
    Calls Tryd.prog 5 args W fun e W' => ∃ v, e = .returned v ∧ Rows.runesBackSpec.post enc Tryd.prog Tryd.f5 false true false false W args v W' := by
  have hW' := hW
  obtain ⟨p, q, hA0, hV, rfl, hfz, hnd⟩ := hW
  have hA : DataW.TrodAll enc Tryd.prog W 0 (fun _ => true) true Tryd.f5.params.toList args.toList ds p := hA0
  rw [Tryd.params5] at hA hval
  obtain ⟨v0, v1, v2, d0, d1, d2, p0, p1, p2, rfl, rfl, rfl, h0, h1, h2⟩ := trodAll_three hA
  obtain ⟨rfl, rfl⟩ := trodVars_none hV
  obtain ⟨a, rfl, rfl, rfl, hs0⟩ := open_string Tryd.underlying9 (hval 1 9 v1 rfl rfl) h1
  obtain ⟨b, rfl, rfl, rfl, hs1⟩ := open_string Tryd.underlying9 (hval 2 9 v2 rfl rfl) h2
  obtain ⟨r, q, rfl⟩ := pair_open (hval 0 29 v0 rfl rfl)
  have h0k := h0
  clear hA0
  simp only [List.append_nil] at hW'
  have hLd : Laid W := laid_row (show laidMetH Tryd.prog Rows.runesPlacesRow.laid W from hL) hS
  refine (back_ok r q a b W hLd).mono fun e W' ⟨he, hb⟩ => ?_
  subst he
  have hlt : ∀ y ∈ p0, y.block < W.heap.size := fun y hy => hW'.lt y (by simpa using hy)
  refine ⟨_, rfl, post_below hb hW' (fun _ _ _ => trodAll_cons_mk (shut_bool Tryd.underlying4 _) trodAll_mk0) (fun sp hsp => ?_) (fun _ => rfl) (ok_one (by kernel_rfl) rfl (okWide_bool_mk Tryd.underlying4 _))⟩
  have h3 := trodAll_mk3 (WideElems.Trod_stays laidOut (by kernel_rfl) (of_decide_eq_true (by kernel_rfl)) h0k (fun y hy => hb.same (hlt y hy)) (fun y hy => hsp y (by simpa using hy))) (shut_string (enc := enc) (w := W') (base := 0) (sp := sp) (held := true) Tryd.underlying9 hs0) (shut_string (enc := enc) (w := W') (base := 0) (sp := sp) (held := true) Tryd.underlying9 hs1)
  simp only [List.append_nil] at h3
  exact h3

theorem back_lays (os : Os) (args : Array Value) : laidMet Tryd.prog Rows.runesBackRow.laid ((World.laidAll Tryd.prog os Rows.runesBackRow.laid).forCall (fun _ _ => 0) ⟨#[], args, []⟩).memory :=
  laidMet_laidAll _ (by kernel_rfl) (by kernel_rfl)
theorem back_reads (os : Os) {H : Type} (enc : TypeId × Value → H) : ∃ places, DataW.whole enc Tryd.prog ((World.laidAll Tryd.prog os Rows.runesBackRow.laid).forCall (fun _ _ => 0) ⟨#[], #[.agg #[.int .i32 0, .int .i32 0], .string .empty, .string .empty], []⟩).memory Tryd.f5.params.toList Rows.runesBackSpec.vars false (#[.agg #[.int .i32 0, .int .i32 0], .string .empty, .string .empty] : Array Value).toList 8 = some ([.agg [.lit (.int .i32 0), .lit (.int .i32 0)], .lit (.string []), .lit (.string [])], [], places) :=
  ⟨[], by kernel_rfl⟩

set_option maxRecDepth 100000 in
theorem back_lifted (os : Os) (started : os.Started) (H : Type) (enc : TypeId × Value → H) (F : Stop.Interp) :
    ReturnsInHanded {} Tryd.checked os 5 .any ((OpenSpec.ofChange Rows.runesBackSpec).preRow enc Tryd.prog Tryd.f5 Rows.runesBackRow.domain false Rows.runesBackRow.laid) (((OpenSpec.ofChange Rows.runesBackSpec).at F).post enc Tryd.prog Tryd.f5 false true false false) := by
  obtain ⟨places, hx⟩ := back_reads os enc
  have hok : Input.okWideB Tryd.prog ((World.laidAll Tryd.prog os Rows.runesBackRow.laid).forCall (fun _ _ => 0) ⟨#[], #[.agg #[.int .i32 0, .int .i32 0], .string .empty, .string .empty], []⟩) 5 ⟨#[], #[.agg #[.int .i32 0, .int .i32 0], .string .empty, .string .empty], []⟩ = true := by kernel_rfl
  refine returnsInHanded_of_row (C := Tryd.checked) (s := OpenSpec.ofChange Rows.runesBackSpec) own started (by kernel_rfl) Tryd.func5
    ⟨World.laidAll Tryd.prog os Rows.runesBackRow.laid, fun _ _ => 0, ⟨#[], #[.agg #[.int .i32 0, .int .i32 0], .string .empty, .string .empty], []⟩, World.laidAll_os _ _ _, World.shaped_of_ZipB (by kernel_rfl) (by kernel_rfl), (Input.okWide_of_okWideB (base := 0) hok).1, (Input.okWide_of_okWideB hok).2,
      OpenSpec.preRow_of_cond 8 hx (by kernel_rfl) (fun k hk => by cases hk) (by kernel_rfl) (back_lays os _), by
        simp only [Assume.holds]
        exact ⟨by simp, by simp, fun _ => Modest.zero, by simp, by simp⟩⟩ ?_
  intro W base args ds gs before hval hW _ _ _ hL hS _
  exact back_contract H enc W base args ds gs before hval hW hL hS

theorem back_row : Rows.RunesBackSaid :=
  OpenClaim.holds_of_cond 5 Tryd.f5 rfl rfl rfl rfl rfl rfl rfl ⟨rfl, rfl, rfl, rfl, rfl⟩ rfl rfl rfl rfl rfl (by kernel_rfl) Tryd.func5 (by kernel_rfl)
    (of_decide_eq_true (by kernel_rfl)) (by unfold Func.isWrapper; first | (rw [if_pos (by decide +kernel)]; kernel_rfl) | (rw [if_neg (by decide +kernel)]; exact ⟨rfl, rfl⟩))
    (fun os started H enc _ F => by rw [OpenClaim.pre_eq_preRow]; exact back_lifted os started H enc F)

theorem back_plain (f : FuncId) (fn : Func) (hf : Tryd.pinned.checked.prog.funcNamed "harbinger/harbingerlaw01.RunesBack" = some f) (hfn : Tryd.pinned.checked.prog.funcs[f]? = some fn) :
    true = Tryd.pinned.checked.prog.looks [] ∧ ∀ (j : Nat) t, fn.params[j]? = some t → Tryd.pinned.checked.prog.wantsStandIn t = false := by
  obtain rfl : f = 5 := Option.some.inj ((show Tryd.prog.funcNamed "harbinger/harbingerlaw01.RunesBack" = some 5 by kernel_rfl).symm.trans hf) |>.symm
  obtain rfl : fn = Tryd.f5 := (Option.some.inj (Tryd.func5.symm.trans hfn)).symm
  refine ⟨by kernel_rfl, fun j t ht => ?_⟩
  rw [Tryd.params5] at ht
  have hm : t ∈ ([29, 9, 9] : List TypeId) := by simpa using Array.mem_of_getElem? ht
  simp only [List.mem_cons, List.not_mem_nil, or_false] at hm
  rcases hm with rfl | rfl | rfl
  · exact (show Tryd.prog.wantsStandIn 29 = false by kernel_rfl)
  · exact (show Tryd.prog.wantsStandIn 9 = false by kernel_rfl)
  · exact (show Tryd.prog.wantsStandIn 9 = false by kernel_rfl)

/-- WHAT IS ASKED: RunesBack' card. -/
theorem runesBack_card : Rows.RunesBackCardSaid :=
  Claim7.holds_tied_plain_at .later [] _ _ _ _ back_row (fun _ h => by cases h) (by kernel_rfl) (fun _ h => by cases h) runesBack_row_tie rfl ⟨rfl, rfl⟩ (by kernel_rfl) rfl back_plain (by kernel_rfl)
end Go.Proofs.YtajfhlnckjnboaaDoor
