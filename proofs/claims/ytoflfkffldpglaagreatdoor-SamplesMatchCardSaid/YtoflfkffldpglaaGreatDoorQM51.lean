/- SamplesMatch's tied card: it answers true whatever comes in, which reads as it did; the variables that the row lists hold what the program's text lays. -/
import Derived.Test.YtoflfkffldpglaaGreatDoorRows
import Derived.Test.YtoflfkffldpglaaGreatDoorCards
import Derived.Test.YtoflfkffldpglaaGreatDoorTie
import Derived.Lib.LaidU8
import Derived.PinnedBridge
import Derived.Shelf.Vars
import Derived.WalkKit
import Derived.ProofKit
import Derived.OpenShut
import Derived.Carry
import Derived.ChangeMaps5
import Derived.Deep.DeepHandedRow
import Derived.Lay
import Derived.LaidOnce
import Derived.SevenTiedAt
import Derived.Test.YtoflfkffldpglaaGreatDoorQM49
import Derived.Test.YtoflfkffldpglaaGreatDoorQM50
namespace Go.Proofs.YtoflfkffldpglaaGreatDoor
open Go.ChangeShapes Go.WideShapes Go.ChangeAt Go.RowKit
section
variable {H : Type} {enc : TypeId × Value → H} {w : World} {base : Nat} {spare : Nat → Bool} {held : Bool}
theorem scells : Tryz.prog.cellsOf 3 = 1 ∧ Tryz.prog.cellsOf 27 = 1 ∧ 1 ≤ Tryz.prog.bytesOf 3 :=
  ⟨by kernel_rfl, by kernel_rfl, of_decide_eq_true (by kernel_rfl)⟩
theorem sints_open {fuel : Nat} {cs : List Value} {x : DataW H × List MemPlace} (h : DataW.trod enc Tryz.prog w base spare held fuel 27 cs = some x) (hw : Light Tryz.prog 27 x.1) :
    ∃ a cap, ∃ l : List Int, cs = [.slice a l.length cap] ∧ l.length ≤ reachN ∧ IntsAt w w.heap.size a l := by
  obtain ⟨a, len, cap, n, -, rfl, hlen, hel⟩ := trod_elems Tryz.underlying27 scells.2.2 (by rw [scells.1]; decide) h hw
  obtain ⟨l, hl, hq⟩ := row_of (Q := fun i (p : Int) => ∃ b off, a = some ⟨b, off, none⟩ ∧ b < w.heap.size ∧ w.cell? ⟨b, off + i, none⟩ = some (.int .i64 p)) len 0 (fun k hk => by
    obtain ⟨b, off, cs', y, e1, e2, e3, e4, e5, e6⟩ := hel k hk
    obtain ⟨p, rfl, -⟩ := light_int Tryz.underlying3 e5
    rw [scells.1] at e4
    rw [Nat.zero_add]
    have := e4 0 (by decide)
    rw [Nat.mul_one, Nat.add_zero] at this
    exact ⟨p, b, off, e1, e2, this⟩)
  subst hl
  refine ⟨a, cap, l, rfl, hlen, fun k hk => ?_⟩
  obtain ⟨b, off, h1, h2, h3⟩ := hq k hk
  rw [Nat.zero_add] at h3
  exact ⟨b, off, h1, h2, h3⟩
end
set_option maxRecDepth 20000 in
theorem toks_open {H : Type} {enc : TypeId × Value → H} {base : Nat} {spare : Nat → Bool} {held : Bool} {W : World} {v : Value} {d : DataW H} {ps : List MemPlace} {b0 : Nat} (hval : Value.okWide Tryz.prog W .any b0 27 v) (h : DataW.Trod enc Tryz.prog W base spare held 27 v d ps) (hw : Light Tryz.prog 27 d) :
    ∃ a c, ∃ l : List Int, v = .slice a l.length c ∧ IntsAt W W.heap.size a l := by
  obtain ⟨a, n, c, rfl⟩ := okWide_slice Tryz.underlying27 hval
  obtain ⟨fuel, h⟩ := h
  obtain ⟨a0, k0, l0, e0, -, q0⟩ := sints_open h hw
  simp [Value.cells] at e0
  obtain ⟨rfl, rfl, rfl⟩ := e0
  exact ⟨_, _, l0, rfl, q0⟩
theorem smown : ownKnob Tryz.prog.godebug = none := by kernel_rfl
theorem smlaidOut : laidOutB Tryz.prog = true := by kernel_rfl
set_option maxRecDepth 100000 in
theorem sm_tabs {W : World} (h : laidMetH Tryz.prog Rows.samplesMatchRow.laid W) : Lib.Utf8Tabs 1 2 W := by
  rw [MakeChecks.laidMetH_plain Tryz.prog Rows.samplesMatchRow.laid W (by kernel_rfl)] at h
  exact utf8Tabs_of_reads (ρ := Tryz.lays260_ren) { Tryz.lays260 with } ⟨by kernel_rfl, by kernel_rfl, by kernel_rfl, by kernel_rfl, by kernel_rfl, by kernel_rfl, by kernel_rfl⟩
    (Pinned.utf8First_eq ▸ Lib.laidMet.reads h (by simp [Rows.samplesMatchRow, Rows.laid_unicode_utf8_first])) ((show Rows.laid_unicode_utf8_acceptRanges = Lib.acceptData by kernel_rfl) ▸ Lib.laidMet.reads h (by simp [Rows.samplesMatchRow]))
set_option maxRecDepth 20000 in
theorem sm_contract (H : Type) (enc : TypeId × Value → H) (W : World) (base : Nat) (args : Array Value) (ds gs : List (DataW H)) (before : List MemPlace)
    (hval : ∀ (j : Nat) t v, Tryz.f3.params[j]? = some t → args[j]? = some v → Value.okWide Tryz.prog W .any base t v)
    (hW : DataW.Whole enc Tryz.prog Tryz.f3.params.toList Rows.samplesMatchSpec.vars false W args.toList ds gs before)
    (hL : (DataW.weightsEach Tryz.prog (Tryz.f3.params.toList ++ (OpenSpec.ofChange Rows.samplesMatchSpec).bare.plain.varTypes Tryz.prog) (ds ++ gs)).all (· ≤ reachBytes) = true)
    (hT : laidMetH Tryz.prog Rows.samplesMatchRow.laid W) :
    Calls Tryz.prog 3 args W fun e W' => ∃ v, e = .returned v ∧ Rows.samplesMatchSpec.post enc Tryz.prog Tryz.f3 false true false false W args v W' := by
  have hW' := hW
  obtain ⟨p, q, hA0, hV, rfl, hfz, hnd⟩ := hW
  have hA : DataW.TrodAll enc Tryz.prog W 0 (fun _ => true) true Tryz.f3.params.toList args.toList ds p := hA0
  rw [Tryz.params3] at hA hval hL
  obtain ⟨v0, v1, d0, d1, p0, p1, rfl, rfl, rfl, h0, h1⟩ := trodAll_two hA
  obtain ⟨rfl, rfl⟩ := trodVars_none hV
  have hL' : ∀ i t d, (#[26, 27] : Array TypeId).toList[i]? = some t → ([d0, d1] : List _)[i]? = some d → Light Tryz.prog t d := fun i t d ht hd => by
    simp only [List.all_eq_true, decide_eq_true_eq] at hL
    exact light_each ((#[26, 27] : Array TypeId).toList ++ (OpenSpec.ofChange Rows.samplesMatchSpec).bare.plain.varTypes Tryz.prog) ([d0, d1] ++ []) hL i t d (by rw [List.getElem?_append_left (by have := (List.getElem?_eq_some_iff.1 ht).1; exact this)]; exact ht) (by rw [List.append_nil]; exact hd)
  have h0k := h0
  have h1k := h1
  obtain ⟨z0, z1, z2, z3, g, rfl, hG⟩ := gr_open (hval 0 26 v0 rfl rfl) h0 (hL' 0 _ _ rfl rfl)
  obtain ⟨ya, yc, l, rfl, hi⟩ := toks_open (hval 1 27 v1 rfl rfl) h1 (hL' 1 _ _ rfl rfl)
  clear hA0
  simp only [List.append_nil] at hW'
  refine (match27_ok g ya yc l W (sm_tabs hT) z0 z1 z2 z3 hG hi).mono fun e W' ⟨he, hb⟩ => ?_
  subst he
  have hlt := hW'.lt
  refine ⟨_, rfl, post_below hb hW' (fun _ _ _ => trodAll_cons_mk (shut_bool Tryz.underlying4 _) trodAll_mk0) (fun sp hsp => ?_) (fun _ => rfl) (ok_one (by kernel_rfl) rfl (okWide_bool_mk Tryz.underlying4 _))⟩
  have h3 := trodAll_mk2 (WideElems.Trod_stays smlaidOut (by kernel_rfl) (of_decide_eq_true (by kernel_rfl)) h0k (fun y hy => hb.same (hlt y (by simp [hy]))) (fun y hy => hsp y (by simp [hy]))) (WideElems.Trod_stays smlaidOut (by kernel_rfl) (of_decide_eq_true (by kernel_rfl)) h1k (fun y hy => hb.same (hlt y (by simp [hy]))) (fun y hy => hsp y (by simp [hy])))
  first
    | exact h3
    | (simp only [List.append_nil, List.append_assoc] at h3 ⊢; exact h3)
    | simpa using h3
theorem sm_lays (os : Os) (args : Array Value) : laidMet Tryz.prog Rows.samplesMatchRow.laid ((World.laidAll Tryz.prog os Rows.samplesMatchRow.laid).forCall (fun _ _ => 0) ⟨#[], args, []⟩).memory :=
  laidMet_laidAll _ (by kernel_rfl) (by kernel_rfl)
theorem sm_reads (os : Os) {H : Type} (enc : TypeId × Value → H) : ∃ places, DataW.whole enc Tryz.prog ((World.laidAll Tryz.prog os Rows.samplesMatchRow.laid).forCall (fun _ _ => 0) ⟨#[], #[.agg #[.string .empty, .int .i64 0, .int .i64 0, .slice none 0 0], .slice none 0 0], []⟩).memory Tryz.f3.params.toList Rows.samplesMatchSpec.vars false (#[.agg #[.string .empty, .int .i64 0, .int .i64 0, .slice none 0 0], .slice none 0 0] : Array Value).toList 8 = some ([.agg [.lit (.string []), .agg [.lit (.int .i64 0), .lit (.int .i64 0)], .nil], .nil], [], places) :=
  ⟨[], by kernel_rfl⟩
set_option maxRecDepth 100000 in
theorem sm_lifted (os : Os) (started : os.Started) (H : Type) (enc : TypeId × Value → H) (F : Stop.Interp) :
    ReturnsInHanded {} Tryz.checked os 3 .any ((OpenSpec.ofChange Rows.samplesMatchSpec).preRow enc Tryz.prog Tryz.f3 Rows.samplesMatchRow.domain false Rows.samplesMatchRow.laid) (((OpenSpec.ofChange Rows.samplesMatchSpec).at F).post enc Tryz.prog Tryz.f3 false true false false) := by
  obtain ⟨places, hx⟩ := sm_reads os enc
  have hok : Input.okWideB Tryz.prog ((World.laidAll Tryz.prog os Rows.samplesMatchRow.laid).forCall (fun _ _ => 0) ⟨#[], #[.agg #[.string .empty, .int .i64 0, .int .i64 0, .slice none 0 0], .slice none 0 0], []⟩) 3 ⟨#[], #[.agg #[.string .empty, .int .i64 0, .int .i64 0, .slice none 0 0], .slice none 0 0], []⟩ = true := by kernel_rfl
  refine returnsInHanded_of_row (C := Tryz.checked) (s := OpenSpec.ofChange Rows.samplesMatchSpec) smown started (by kernel_rfl) Tryz.func3
    ⟨World.laidAll Tryz.prog os Rows.samplesMatchRow.laid, fun _ _ => 0, ⟨#[], #[.agg #[.string .empty, .int .i64 0, .int .i64 0, .slice none 0 0], .slice none 0 0], []⟩, World.laidAll_os _ _ _, World.shaped_of_ZipB (by kernel_rfl) (by kernel_rfl), (Input.okWide_of_okWideB (base := 0) hok).1, (Input.okWide_of_okWideB hok).2,
      OpenSpec.preRow_of_cond 8 hx (by kernel_rfl) (fun k hk => by cases hk) (by kernel_rfl) (sm_lays os _), by
        simp only [Assume.holds]
        exact ⟨by simp, by simp, fun _ => Modest.zero, by simp, by simp⟩⟩ ?_
  intro W base args ds gs before hval hW _ _ hw hT _ _
  exact sm_contract H enc W base args ds gs before hval hW hw hT
theorem sm_row : Rows.SamplesMatchSaid :=
  OpenClaim.holds_of_cond 3 Tryz.f3 rfl rfl rfl rfl rfl rfl rfl ⟨rfl, rfl, rfl, rfl, rfl⟩ rfl rfl rfl rfl rfl (by kernel_rfl) Tryz.func3 (by kernel_rfl)
    (of_decide_eq_true (by kernel_rfl)) (by unfold Func.isWrapper; first | (rw [if_pos (by decide +kernel)]; kernel_rfl) | (rw [if_neg (by decide +kernel)]; exact ⟨rfl, rfl⟩))
    (fun os started H enc _ F => by rw [OpenClaim.pre_eq_preRow]; exact sm_lifted os started H enc F)
theorem sm_plain (f : FuncId) (fn : Func) (hf : Tryz.pinned.checked.prog.funcNamed "harbinger/harbingerlaw27.SamplesMatch" = some f) (hfn : Tryz.pinned.checked.prog.funcs[f]? = some fn) :
    false = Tryz.pinned.checked.prog.looks [] ∧ ∀ (j : Nat) t, fn.params[j]? = some t → Tryz.pinned.checked.prog.wantsStandIn t = false := by
  obtain rfl : f = 3 := Option.some.inj ((show Tryz.prog.funcNamed "harbinger/harbingerlaw27.SamplesMatch" = some 3 by kernel_rfl).symm.trans hf) |>.symm
  obtain rfl : fn = Tryz.f3 := (Option.some.inj (Tryz.func3.symm.trans hfn)).symm
  refine ⟨by kernel_rfl, fun j t ht => ?_⟩
  rw [Tryz.params3] at ht
  have hm : t ∈ ([26, 27] : List TypeId) := by simpa using Array.mem_of_getElem? ht
  simp only [List.mem_cons, List.not_mem_nil, or_false] at hm
  rcases hm with rfl | rfl
  · exact (show Tryz.prog.wantsStandIn 26 = false by kernel_rfl)
  · exact (show Tryz.prog.wantsStandIn 27 = false by kernel_rfl)
theorem samplesMatch_card : Rows.SamplesMatchCardSaid :=
  Claim7.holds_tied_plain_at .later [] _ _ _ _ sm_row (fun _ h => by cases h) (by kernel_rfl) (fun _ h => by cases h) samplesMatch_row_tie rfl ⟨rfl, rfl⟩ (by kernel_rfl) rfl sm_plain (by kernel_rfl)
end Go.Proofs.YtoflfkffldpglaaGreatDoor
