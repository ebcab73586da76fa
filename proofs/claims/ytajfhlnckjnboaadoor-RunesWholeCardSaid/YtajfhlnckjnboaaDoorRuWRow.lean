/- RunesWhole' tied card: it answers true whatever comes in, which reads as it did; the variables that the row lists hold what the program's text lays. -/
import Derived.Test.YtajfhlnckjnboaaDoorRuW
import Derived.Test.YtajfhlnckjnboaaDoorRuLaid
import Derived.Test.YtajfhlnckjnboaaDoorShut
import Derived.Deep.Slices
namespace Go.Proofs.YtajfhlnckjnboaaDoor
open Go.ChangeShapes Go.WideShapes Go.ChangeAt Go.RowKit Go.ChangeMaps

theorem spot_none {w : World} {a : Addr} {v : Value} (h : w.cell? a = some v) : ∃ b o, a = ⟨b, o, none⟩ := by
  obtain ⟨b, o, sp⟩ := a
  cases sp with
  | none => exact ⟨b, o, rfl⟩
  | some x =>
    unfold World.cell? at h
    split at h <;> simp at h
/-- a list of runes that came in -/
theorem runes_open {H : Type} {enc : TypeId × Value → H} {W : World} {base : Nat} {sp : Nat → Bool} {held : Bool} {v : Value} {d : DataW H} {ps : List MemPlace} {b0 : Nat} (hval : Value.okWide Tryd.prog W .any b0 36 v) (h : DataW.Trod enc Tryd.prog W base sp held 36 v d ps) :
    ∃ (l : List Int) (x : Option Addr) (c : Nat), v = .slice x l.length c ∧ ∀ (j : Nat) (h : j < l.length), ∃ b off, x = some ⟨b, off, none⟩ ∧ W.cell? ⟨b, off + j, none⟩ = some (.int .i32 l[j]) := by
  obtain ⟨sa, sl, sc, rfl⟩ := okWide_slice (e := 21) (by kernel_rfl) hval
  obtain ⟨fuel, hf⟩ := h
  rcases Go.Deep.open_slice1 (e := 21) (by kernel_rfl) (by kernel_rfl) hf with ⟨hv, _⟩ | ⟨a, len, cap, m, n, V, D, Pl, hv, hb, hl, hm, hmm, hx, hall⟩
  · simp only [Value.cells, List.cons.injEq, Value.slice.injEq, and_true] at hv
    obtain ⟨rfl, rfl, rfl⟩ := hv
    exact ⟨[], none, 0, rfl, fun j h => absurd h (by simp)⟩
  · simp only [Value.cells, List.cons.injEq, Value.slice.injEq, and_true] at hv
    obtain ⟨rfl, rfl, rfl⟩ := hv
    have hlm : sl ≤ m := by
      rw [hmm]
      split <;> omega
    have hV : ∀ j, ∃ z : Int, j < sl → V j = .int .i32 z := by
      intro j
      by_cases hj : j < sl
      · obtain ⟨z, hz, _⟩ := DataW.trod_int (k := .i32) (by kernel_rfl) (hall j (by omega)).2
        exact ⟨z, fun _ => (List.cons.inj hz).1⟩
      · exact ⟨0, fun h => absurd h hj⟩
    obtain ⟨Z, hZ⟩ : ∃ Z : Nat → Int, ∀ j, j < sl → V j = .int .i32 (Z j) := ⟨fun j => (hV j).choose, fun j => (hV j).choose_spec⟩
    refine ⟨(List.range sl).map Z, some a, sc, by simp, fun j hj => ?_⟩
    have hj' : j < sl := by simpa using hj
    obtain ⟨b, o, rfl⟩ : ∃ b o, a = ⟨b, o, none⟩ := by
      have h0 := (hall 0 (by omega)).1
      have : a.add 0 = a := by unfold Addr.add; rfl
      rw [this] at h0
      exact spot_none h0
    refine ⟨b, o, rfl, ?_⟩
    have h1 := (hall j (by omega)).1
    rw [hZ j hj'] at h1
    have e : (⟨b, o, none⟩ : Addr).add j = ⟨b, o + j, none⟩ := by unfold Addr.add; split <;> simp_all
    rw [e] at h1
    rw [h1]
    simp

set_option maxRecDepth 20000 in
theorem whole_contract (H : Type) (enc : TypeId × Value → H) (W : World) (base : Nat) (args : Array Value) (ds gs : List (DataW H)) (before : List MemPlace)
    (hval : ∀ (j : Nat) t v, Tryd.f7.params[j]? = some t → args[j]? = some v → Value.okWide Tryd.prog W .any base t v)
    (hW : DataW.Whole enc Tryd.prog Tryd.f7.params.toList Rows.runesWholeSpec.vars false W args.toList ds gs before) (hL : laidMetH Tryd.prog Rows.runesWholeRow.laid W) (hS : W.ShapedOpen Tryd.prog) :
    Calls Tryd.prog 7 args W fun e W' => ∃ v, e = .returned v ∧ Rows.runesWholeSpec.post enc Tryd.prog Tryd.f7 false true false false W args v W' := by
  have hW' := hW
  obtain ⟨p, q, hA0, hV, rfl, hfz, hnd⟩ := hW
  have hA : DataW.TrodAll enc Tryd.prog W 0 (fun _ => true) true Tryd.f7.params.toList args.toList ds p := hA0
  rw [Tryd.params7] at hA hval
  have hA2 := hA
  obtain ⟨v0, v1, d0, d1, p0, p1, rfl, rfl, rfl, h0, h1⟩ := trodAll_two hA
  obtain ⟨rfl, rfl⟩ := trodVars_none hV
  have h0k := h0
  obtain ⟨x, rfl, rfl, rfl, wx⟩ := open_int Tryd.underlying5 (hval 1 5 v1 rfl rfl) h1
  have hx : 0 ≤ x ∧ x ≤ 255 := by simpa [Lit.wf, IntKind.min, IntKind.max, IntKind.signed, IntKind.bits] using wx
  obtain ⟨n, rfl⟩ := Int.eq_ofNat_of_zero_le hx.1
  obtain ⟨l, sx, c, rfl, hcells⟩ := runes_open (hval 0 36 v0 rfl rfl) h0
  clear hA0
  simp only [List.append_nil] at hW'
  have hLd : Laid W := laid_row (show laidMetH Tryd.prog Rows.runesPlacesRow.laid W from hL) hS
  refine (whole_ok l sx c n (by omega) W hLd hcells).mono fun e W' ⟨he, hb⟩ => ?_
  subst he
  have hlt : ∀ y ∈ p0, y.block < W.heap.size := fun y hy => hW'.lt y (by simpa using hy)
  refine ⟨_, rfl, post_below hb hW' (fun _ _ _ => trodAll_cons_mk (shut_bool Tryd.underlying4 _) trodAll_mk0) (fun sp hsp => ?_) (fun _ => rfl) (ok_one (by kernel_rfl) rfl (okWide_bool_mk Tryd.underlying4 _))⟩
  have h2 := trodAll_mk2 (WideElems.Trod_stays laidOut (by kernel_rfl) (of_decide_eq_true (by kernel_rfl)) h0k (fun y hy => hb.same (hlt y hy)) (fun y hy => hsp y (by simpa using hy))) (shut_int (enc := enc) (w := W') (base := 0) (spare := sp) (held := true) Tryd.underlying5 wx)
  first | exact h2 | (rw [List.append_nil] at h2; exact h2)

theorem whole_lays (os : Os) (args : Array Value) : laidMet Tryd.prog Rows.runesWholeRow.laid ((World.laidAll Tryd.prog os Rows.runesWholeRow.laid).forCall (fun _ _ => 0) ⟨#[], args, []⟩).memory :=
  laidMet_laidAll _ (by kernel_rfl) (by kernel_rfl)
theorem whole_reads (os : Os) {H : Type} (enc : TypeId × Value → H) : ∃ places, DataW.whole enc Tryd.prog ((World.laidAll Tryd.prog os Rows.runesWholeRow.laid).forCall (fun _ _ => 0) ⟨#[], #[.slice none 0 0, .int .u8 0], []⟩).memory Tryd.f7.params.toList Rows.runesWholeSpec.vars false (#[.slice none 0 0, .int .u8 0] : Array Value).toList 8 = some ([.nil, .lit (.int .u8 0)], [], places) :=
  ⟨[], by kernel_rfl⟩

set_option maxRecDepth 100000 in
theorem whole_lifted (os : Os) (started : os.Started) (H : Type) (enc : TypeId × Value → H) (F : Stop.Interp) :
    ReturnsInHanded {} Tryd.checked os 7 .any ((OpenSpec.ofChange Rows.runesWholeSpec).preRow enc Tryd.prog Tryd.f7 Rows.runesWholeRow.domain false Rows.runesWholeRow.laid) (((OpenSpec.ofChange Rows.runesWholeSpec).at F).post enc Tryd.prog Tryd.f7 false true false false) := by
  obtain ⟨places, hx⟩ := whole_reads os enc
  have hok : Input.okWideB Tryd.prog ((World.laidAll Tryd.prog os Rows.runesWholeRow.laid).forCall (fun _ _ => 0) ⟨#[], #[.slice none 0 0, .int .u8 0], []⟩) 7 ⟨#[], #[.slice none 0 0, .int .u8 0], []⟩ = true := by kernel_rfl
  refine returnsInHanded_of_row (C := Tryd.checked) (s := OpenSpec.ofChange Rows.runesWholeSpec) own started (by kernel_rfl) Tryd.func7
    ⟨World.laidAll Tryd.prog os Rows.runesWholeRow.laid, fun _ _ => 0, ⟨#[], #[.slice none 0 0, .int .u8 0], []⟩, World.laidAll_os _ _ _, World.shaped_of_ZipB (by kernel_rfl) (by kernel_rfl), (Input.okWide_of_okWideB (base := 0) hok).1, (Input.okWide_of_okWideB hok).2,
      OpenSpec.preRow_of_cond 8 hx (by kernel_rfl) (fun k hk => by cases hk) (by kernel_rfl) (whole_lays os _), by
        simp only [Assume.holds]
        exact ⟨by simp, by simp, fun _ => Modest.zero, by simp, by simp⟩⟩ ?_
  intro W base args ds gs before hval hW _ _ _ hL hS _
  exact whole_contract H enc W base args ds gs before hval hW hL hS

theorem whole_row : Rows.RunesWholeSaid :=
  OpenClaim.holds_of_cond 7 Tryd.f7 rfl rfl rfl rfl rfl rfl rfl ⟨rfl, rfl, rfl, rfl, rfl⟩ rfl rfl rfl rfl rfl (by kernel_rfl) Tryd.func7 (by kernel_rfl)
    (of_decide_eq_true (by kernel_rfl)) (by unfold Func.isWrapper; first | (rw [if_pos (by decide +kernel)]; kernel_rfl) | (rw [if_neg (by decide +kernel)]; exact ⟨rfl, rfl⟩))
    (fun os started H enc _ F => by rw [OpenClaim.pre_eq_preRow]; exact whole_lifted os started H enc F)

theorem whole_plain (f : FuncId) (fn : Func) (hf : Tryd.pinned.checked.prog.funcNamed "harbinger/harbingerlaw01.RunesWhole" = some f) (hfn : Tryd.pinned.checked.prog.funcs[f]? = some fn) :
    true = Tryd.pinned.checked.prog.looks [] ∧ ∀ (j : Nat) t, fn.params[j]? = some t → Tryd.pinned.checked.prog.wantsStandIn t = false := by
  obtain rfl : f = 7 := Option.some.inj ((show Tryd.prog.funcNamed "harbinger/harbingerlaw01.RunesWhole" = some 7 by kernel_rfl).symm.trans hf) |>.symm
  obtain rfl : fn = Tryd.f7 := (Option.some.inj (Tryd.func7.symm.trans hfn)).symm
  refine ⟨by kernel_rfl, fun j t ht => ?_⟩
  rw [Tryd.params7] at ht
  have hm : t ∈ ([36, 5] : List TypeId) := by simpa using Array.mem_of_getElem? ht
  simp only [List.mem_cons, List.not_mem_nil, or_false] at hm
  rcases hm with rfl | rfl
  · exact (show Tryd.prog.wantsStandIn 36 = false by kernel_rfl)
  · exact (show Tryd.prog.wantsStandIn 5 = false by kernel_rfl)

/-- WHAT IS ASKED: RunesWhole' card. -/
theorem runesWhole_card : Rows.RunesWholeCardSaid :=
  Claim7.holds_tied_plain_at .later [] _ _ _ _ whole_row (fun _ h => by cases h) (by kernel_rfl) (fun _ h => by cases h) runesWhole_row_tie rfl ⟨rfl, rfl⟩ (by kernel_rfl) rfl whole_plain (by kernel_rfl)
end Go.Proofs.YtajfhlnckjnboaaDoor
