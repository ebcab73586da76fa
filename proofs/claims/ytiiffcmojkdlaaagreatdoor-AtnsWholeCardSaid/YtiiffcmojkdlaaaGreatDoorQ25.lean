/- The making's small steps: a state, an edge, an alternative more. -/
import Derived.Test.YtiiffcmojkdlaaaGreatDoorQ22
namespace Go.Proofs.YtiiffcmojkdlaaaGreatDoor
open Go.RowKit

theorem info_pstate : (Tryz.prog.info? 41).map (fun i => (i.zero, i.size, i.bytes)) = some (some (.agg #[.int .i64 0, .slice none 0 0, .slice none 0 0]), 3, 56) := by kernel_rfl
theorem info_pedge : (Tryz.prog.info? 44).map (fun i => (i.zero, i.size, i.bytes)) = some (some (.agg #[.int .u8 0, .int .i64 0, .int .i64 0]), 3, 24) := by kernel_rfl
theorem loose_form {w : World} {base e size n : Nat} {v : Value} {xs : List Value} (h : looseRow w base e size v n xs) : ∃ a c, v = .slice a n c := by
  rcases h.2 with ⟨h1, h0⟩ | ⟨b, cap, cur, h1, h2, h3, h4⟩
  · exact ⟨none, 0, by rw [h1, h0]⟩
  · exact ⟨_, cap, h1⟩
theorem state_full {m : Mk} (h : (m.full || decide (maxStates ≤ m.N.states.length)) = true) : m.state = (0, { m with full := true }) := by unfold Mk.state; rw [h]; rfl
theorem state_more {m : Mk} (h : (m.full || decide (maxStates ≤ m.N.states.length)) = false) : m.state = (m.N.states.length, m.addState) := by unfold Mk.state; rw [h]; rfl
/-- the slice of a new state -/
def NewS (r : Int) (v : Value) (w : World) : Prop := ∃ b, v = .slice (some ⟨b, 0, none⟩) 1 1 ∧ Owns w b [.int .i64 r, .slice none 0 0, .slice none 0 0] 41
theorem NewS.keep {r : Int} {v : Value} {w w' : World} (hg : Grew w w') (h : NewS r v w) : NewS r v w' := by
  obtain ⟨b, h1, h2⟩ := h
  exact ⟨b, h1, h2.keep hg⟩

/-- what a step of the making leaves -/
def Made (E : MkE) (m : Mk) (V : MkV) (m' : Mk) (w w' : World) : Prop := ∃ V', MkAt E w' m' V' ∧ Frk E m V m' V' w w'

set_option maxHeartbeats 2000000 in
set_option maxRecDepth 20000 in
theorem mstate_ok (E : MkE) (m : Mk) (V : MkV) (W : World) (h : MkAt E W m V) (hlen : m.N.states.length ≤ 4096) : Calls Tryz.prog 19 #[.pointer (some ⟨E.mb, 0, none⟩)] W fun e W' => e = .returned (.int .i64 m.state.1) ∧ Made E m V m.state.2 W W' := by
  have c14 := h.box.cell_at (i := 14) rfl
  have f14 := h.box.free 14
  have bl := h.box.lt
  obtain ⟨sa, sc, hsv⟩ := loose_form h.states
  have c7 := h.box.cell_at (i := 7) rfl
  rw [hsv] at c7
  cases hf : (m.full || decide (maxStates ≤ m.N.states.length))
  · have hsm := state_more hf
    rw [hsm]
    rw [Bool.or_eq_false_iff] at hf
    obtain ⟨hf1, hf2⟩ := hf
    rw [decide_eq_false_iff_not] at hf2
    unfold maxStates at hf2
    rw [hf1] at c14
    have hlt : ¬ 4096 ≤ m.N.states.length := hf2
    have hd : decide (4096 ≤ m.N.states.length) = false := decide_eq_false hlt
    have hfield := h.field (m' := m) (i := 14) (x := .bool false) rfl rfl (by unfold MkV.box; rw [hf1]; rfl)
    have HF := Lib.hid hfield
    have HL := Lib.hid hlt
    have HFU := Lib.hid hf1
    obtain ⟨n, hn⟩ : ∃ n, m.N.states.length = n := ⟨_, rfl⟩
    have HN := Lib.hid hn
    have HSV := Lib.hid hsv
    have hn96 : n < 4096 := by omega
    rw [hn] at c7 hlt hd
    have hdi : decide ((4096 : Int) ≤ (n : Int)) = false := decide_eq_false (by omega)
    clear h hsm hf1 hf2 hfield hn hsv hlen
    go_enter Tryz.func19, Tryz.ntmps19
    go_upto_region 2 with fail
    have hM := HF.out.1
    have d14 := hM.box.cell_at (i := 14) rfl
    have d6 := hM.box.cell_at (i := 6) rfl
    have d7 := hM.box.cell_at (i := 7) rfl
    have dl := hM.box.lt
    have HF1 := Lib.hid hM
    have HF2 := Lib.hid HF.out.2
    rw [HSV.out, HN.out] at d7
    rw [HFU.out] at d14
    clear hM HF c14 f14 bl c7
    generalize W.setCell ⟨E.mb, 14, none⟩ (.bool false) = w1 at *
    obtain ⟨i0, hi, hz0, hz1, hz2⟩ := info_parts info_pstate
    have HI := Lib.hid hi
    have HZ0 := Lib.hid hz0
    have HZ1 := Lib.hid hz1
    have HZ2 := Lib.hid hz2
    clear hi hz0 hz1 hz2
    go_wp2_with fail
    refine wp_region_hav_lit follows (by kernel_rfl) ?_
    repeat (first
      | (refine HavG.skip (fun _ => rfl) ?_; simp only [Act.put, List.setIfInBounds_toArray, List.set_cons_zero, List.set_cons_succ])
      | (refine HavG.val (fun _ => rfl) ?_ (fun x w hw _ => ?_) ?_; rotate_left; (focus (have hc := hw.cells; clear hw; go_simp; first | done | rfl)); simp only [Act.put, List.setIfInBounds_toArray, List.set_cons_zero, List.set_cons_succ]))
    refine HavG.any (fun _ => rfl) (NewS m.rule) (fun _ _ _ hg h => NewS.keep hg h) (fun x w hw _ => ?_) ?_
    · clear hw
      go_simp
      exact ⟨grew_alloc _ _, _, rfl, Owns.alloc _ _ _⟩
    simp only [Act.put, List.setIfInBounds_toArray, List.set_cons_zero, List.set_cons_succ]
    refine HavG.tail0 (by kernel_rfl) (by kernel_rfl) (by kernel_rfl) (fun _ _ d _ _ h => by cases d <;> exact h) (by decide) (fun x w2 hw hx => ?_)
    have hx8 := hx _ (List.mem_append_right _ (List.mem_singleton.2 rfl))
    clear hx
    dsimp only at hx8
    generalize x (0 + 1 + 1 + 1 + 1 + 1 + 1 + 1 + 1 + 1 + 1 + 1) = y11 at *
    obtain ⟨nb, rfl, hnb⟩ := hx8
    have hM2 := HF1.out.grew hw
    have HM2 := Lib.hid hM2
    have HG2 := Lib.hid (HF2.out.trans (Frk.grew (E := E) (m := m) (V := V) hw))
    have hrow : looseRow w2 E.base 41 3 (.slice sa n sc) n (V.srow m) := by have := hM2.states; rw [HSV.out, HN.out] at this; exact this
    have HROW := Lib.hid hrow
    have HNS := Lib.hid (owns_newsO hnb)
    have H63 := Lib.hid (show n + 1 ≤ maxLen by unfold maxLen; omega)
    have H64 := Lib.hid (show (n + 1) * 56 ≤ 140737488355328 by omega)
    have HLIM := Lib.hid hM2.lim
    have HL1 := Lib.hid (show ∀ u ∈ [Value.int .i64 m.rule, .slice none 0 0, .slice none 0 0], u.oneCell' = true by
      intro u hu
      simp only [List.mem_cons, List.not_mem_nil, or_false] at hu
      rcases hu with rfl | rfl | rfl <;> rfl)
    clear hw hnb hM2 hrow d14 d6 d7 dl
    go_wp2_with (at_builtin; refine wpList_append_loose w2 rfl _ _ 29 rfl E.base 41 i0 _ 3 56 Tryz.underlying29 HI.out HZ0.out HZ1.out HZ2.out rfl (by decide) (.slice sa n sc) n (V.srow m) rfl HROW.out ⟨nb, 0, none⟩ 1 1 [.int .i64 m.rule, .slice none 0 0, .slice none 0 0] rfl rfl HNS.out HL1.out (by decide) H63.out H64.out HLIM.out _ rfl ?_; intro gb cap w3 hown hgrow hat hlt3; have HOWN := Lib.hid hown; have HGROW := Lib.hid hgrow; have HAT := Lib.hid hat; have hb4 := owns_far HM2.out.box hgrow (own_box HROW.out HM2.out.box (by decide)); have b18 : w3.cell? ⟨E.mb, 7, none⟩ = some V.sv := hb4.cell_at (i := 7) rfl; rw [HSV.out, HN.out] at b18; have f18 : w3.frozen? ⟨E.mb, 7, none⟩ = false := hb4.free 7; have l18 := hb4.lt; clear hb4 hown hgrow hat hlt3)
    have hrow2 : looseRow w2 E.base 41 3 V.sv m.N.states.length (V.srow m) := HM2.out.states
    have hpush := HM2.out.pushState (w1 := w3) (g := gb) (v := .slice (some ⟨gb, 0, none⟩) (n + 1) cap) (by rw [HSV.out, HN.out]; exact HGROW.out) (by rw [HN.out]; exact HOWN.out) rfl (by rw [HSV.out, HN.out]; exact HAT.out)
    have HPU := Lib.hid hpush
    have e7 : (w3.setCell ⟨E.mb, 7, none⟩ (.slice (some ⟨gb, 0, none⟩) (n + 1) cap)).cell? ⟨E.mb, 7, none⟩ = some (.slice (some ⟨gb, 0, none⟩) (n + 1) cap) := by
      have := hpush.1.box.cell_at (i := 7) rfl
      exact this
    have el := hpush.1.box.lt
    clear hpush hrow2
    go_upto_region 5 with fail
    clear b18 f18 l18
    generalize w3.setCell ⟨E.mb, 7, none⟩ (.slice (some ⟨gb, 0, none⟩) (n + 1) cap) = w4 at *
    have hsub : IntKind.i64.wrap (((n + 1 : Nat) : Int) - 1) = (n : Int) := by rw [IntKind.wrap_i64]; omega
    have hsub2 : IntKind.i64.wrap ((n : Int) + 1 - 1) = (n : Int) := by rw [IntKind.wrap_i64]; omega
    go_wp2_with fail
    go_ret
    exact ⟨ret_int (by rw [HN.out]), _, HPU.out.1, HG2.out.trans HPU.out.2⟩
  · have hsm := state_full hf
    rw [hsm]
    have hfield := h.field (m' := { m with full := true }) (i := 14) (x := .bool true) rfl rfl rfl
    have HF := Lib.hid hfield
    cases hf1 : m.full
    · rw [hf1, Bool.false_or, decide_eq_true_iff] at hf
      unfold maxStates at hf
      rw [hf1] at c14
      obtain ⟨n, hn⟩ : ∃ n, m.N.states.length = n := ⟨_, rfl⟩
      rw [hn] at hf c7
      have hd : decide (4096 ≤ n) = true := decide_eq_true hf
      have hdi : decide ((4096 : Int) ≤ (n : Int)) = true := decide_eq_true (by omega)
      clear h hsm hf1 hfield hn hsv hlen
      go_enter Tryz.func19, Tryz.ntmps19
      go_upto_region 2 with fail
      have d14 := HF.out.1.box.cell_at (i := 14) rfl
      have dl := HF.out.1.box.lt
      clear c14 f14 bl c7
      generalize W.setCell ⟨E.mb, 14, none⟩ (.bool true) = w1 at *
      go_wp2_with fail
      go_ret
      exact ⟨rfl, _, HF.out.1, HF.out.2⟩
    · rw [hf1] at c14
      clear h hsm hf1 hfield hsv hlen hf
      go_enter Tryz.func19, Tryz.ntmps19
      go_upto_region 2 with fail
      have d14 := HF.out.1.box.cell_at (i := 14) rfl
      have dl := HF.out.1.box.lt
      clear c14 f14 bl c7
      generalize W.setCell ⟨E.mb, 14, none⟩ (.bool true) = w1 at *
      go_wp2_with fail
      go_ret
      exact ⟨rfl, _, HF.out.1, HF.out.2⟩

theorem loose_free {w : World} {base e size n g : Nat} {v : Value} {xs : List Value} (h : looseRow w base e size v n xs) (hv : v.ownBlock = some g) : (∀ o, w.frozen? ⟨g, o, none⟩ = false) ∧ g < w.heap.size := by
  obtain ⟨_, cs, h3⟩ := row_own h hv
  exact ⟨fun o => by simp [World.frozen?, h3], (Array.getElem?_eq_some_iff.1 h3).1⟩
/-- the row of states has a block, where there is a state -/
theorem MkAt.sblock {E : MkE} {m : Mk} {V : MkV} {W : World} (h : MkAt E W m V) {a : Nat} (ha : a < m.N.states.length) : ∃ sb sc, V.sv = .slice (some ⟨sb, 0, none⟩) m.N.states.length sc ∧ sb < W.heap.size ∧ V.sv.ownBlock = some sb ∧
    W.cell? ⟨sb, a * 3 + 1, none⟩ = some (V.ev a) ∧ W.cell? ⟨sb, a * 3 + 2, none⟩ = some (V.iv (.ends a)) ∧ W.frozen? ⟨sb, a * 3 + 1, none⟩ = false ∧ W.frozen? ⟨sb, a * 3 + 2, none⟩ = false := by
  rcases h.states.2 with ⟨_, h0⟩ | ⟨b, cap, cur, h1, h2, h3, h4⟩
  · omega
  · have hc := looseRow_cells h.states (g := b) (by rw [h1]; rfl)
    have hs := srow_at (V := V) ha
    have hfr : ∀ o, W.frozen? ⟨b, o, none⟩ = false := fun o => by simp [World.frozen?, h3]
    exact ⟨b, cap, h1, (Array.getElem?_eq_some_iff.1 h3).1, by rw [h1]; rfl, hc _ _ hs.2.1, hc _ _ hs.2.2, hfr _, hfr _⟩

set_option maxHeartbeats 2000000 in
set_option maxRecDepth 20000 in
theorem medge_ok (E : MkE) (m : Mk) (V : MkV) (W : World) (h : MkAt E W m V) (a : Nat) (kd wh : Int) (b : Nat) (ha : m.full = true ∨ a < m.N.states.length) (hln : (m.N.edges a).length ≤ 1000000000) :
    Calls Tryz.prog 36 #[.pointer (some ⟨E.mb, 0, none⟩), .int .i64 a, .int .u8 kd, .int .i64 wh, .int .i64 b] W fun e W' => (∃ v, e = .returned v) ∧ Made E m V (m.edge a kd wh b) W W' := by
  have c14 := h.box.cell_at (i := 14) rfl
  have bl := h.box.lt
  cases hf : m.full
  · have ha' : a < m.N.states.length := ha.resolve_left (by rw [hf]; simp)
    rw [hf] at c14
    obtain ⟨sb, sc, hsv, hsl, hsb, s1, -, g1, -⟩ := h.sblock ha'
    have c7 := h.box.cell_at (i := 7) rfl
    rw [hsv] at c7
    obtain ⟨ea, ec, hev⟩ := loose_form (h.edges a ha')
    rw [hev] at s1
    obtain ⟨n, hn⟩ : ∃ n, m.N.states.length = n := ⟨_, rfl⟩
    obtain ⟨k, hk⟩ : ∃ k, (m.N.edges a).length = k := ⟨_, rfl⟩
    rw [hn] at c7 hsv
    rw [hk] at s1 hev hln
    have han : a < n := by omega
    have HA := Lib.hid ha'
    have HH := Lib.hid h
    have HFU := Lib.hid hf
    have HN := Lib.hid hn
    have HK := Lib.hid hk
    have HSV := Lib.hid hsv
    have HSB := Lib.hid hsb
    have HEV := Lib.hid hev
    obtain ⟨w2, hw2⟩ : ∃ w2, W.alloc (.cells #[.int .u8 kd, .int .i64 wh, .int .i64 b] 44) = w2 := ⟨_, rfl⟩
    have hg2 : Grew W w2 := hw2 ▸ grew_alloc W _
    have o2 : Owns w2 W.heap.size [.int .u8 kd, .int .i64 wh, .int .i64 b] 44 := hw2 ▸ Owns.alloc W _ _
    have hM2 := h.grew hg2
    have hrow : looseRow w2 E.base 44 3 (.slice ea k ec) k (ecells8 (m.N.edges a)) := by have := hM2.edges a ha'; rw [hev, hk] at this; exact this
    have HM2 := Lib.hid hM2
    have HG2 := Lib.hid (Frk.grew (E := E) (m := m) (V := V) hg2)
    have HROW := Lib.hid hrow
    have HNS := Lib.hid (owns_newsO o2)
    have H63 := Lib.hid (show k + 1 ≤ maxLen by unfold maxLen; omega)
    have H64 := Lib.hid (show (k + 1) * 24 ≤ 140737488355328 by omega)
    have HLIM := Lib.hid hM2.lim
    have HL1 := Lib.hid (show ∀ u ∈ [Value.int .u8 kd, .int .i64 wh, .int .i64 b], u.oneCell' = true by
      intro u hu
      simp only [List.mem_cons, List.not_mem_nil, or_false] at hu
      rcases hu with rfl | rfl | rfl <;> rfl)
    have HSR := Lib.hid hM2.states
    obtain ⟨i0, hi, hz0, hz1, hz2⟩ := info_parts info_pedge
    have HI := Lib.hid hi
    have HZ0 := Lib.hid hz0
    have HZ1 := Lib.hid hz1
    have HZ2 := Lib.hid hz2
    clear hi hz0 hz1 hz2 hg2 o2 hM2 hrow h ha ha' hf hsv hsb hev hn hk
    go_enter Tryz.func36, Tryz.ntmps36
    go_wp2_with (at_builtin; refine wpList_append_loose w2 rfl _ _ 39 rfl E.base 44 i0 _ 3 24 Tryz.underlying39 HI.out HZ0.out HZ1.out HZ2.out rfl (by decide) (.slice ea k ec) k (ecells8 (m.N.edges a)) rfl HROW.out ⟨W.heap.size, 0, none⟩ 1 1 [.int .u8 kd, .int .i64 wh, .int .i64 b] rfl rfl HNS.out HL1.out (by decide) H63.out H64.out HLIM.out _ rfl ?_; intro gb cap w3 hown hgrow hat hlt3; have HOWN := Lib.hid hown; have HGROW := Lib.hid hgrow; have HAT := Lib.hid hat; have hs3 := loose_far HSR.out hgrow (fun c hc hc2 => own_ne HSR.out HROW.out (by decide) c hc hc2); have b18 : w3.cell? ⟨sb, a * 3 + 1, none⟩ = some (V.ev a) := looseRow_cells hs3 HSB.out _ _ (srow_at HA.out).2.1; rw [HEV.out] at b18; have f18 := (loose_free hs3 HSB.out).1 (a * 3 + 1); have l18 := (loose_free hs3 HSB.out).2; clear hs3 hown hgrow hat hlt3)
    have hpush := HM2.out.pushEdge (w1 := w3) HFU.out HA.out (kd := kd) (wh := wh) (b := b) (sb := sb) (g := gb) (v := .slice (some ⟨gb, 0, none⟩) (k + 1) cap) HSB.out (by rw [HEV.out]; exact HGROW.out) (by rw [HK.out]; exact HOWN.out) rfl (by rw [HEV.out]; exact HAT.out)
    have HPU := Lib.hid hpush
    clear hpush
    go_end0
    exact ⟨⟨_, rfl⟩, _, HPU.out.1, HG2.out.trans HPU.out.2⟩
  · have hm : m.edge a kd wh b = m := by unfold Mk.edge; rw [hf]; rfl
    rw [hm]
    rw [hf] at c14
    have HH := Lib.hid h
    clear hm h hf ha hln
    go_enter Tryz.func36, Tryz.ntmps36
    go_wp2_with fail
    go_end0
    exact ⟨⟨_, rfl⟩, V, HH.out, Frk.refl _ _ _ _⟩

theorem mempty_ok (E : MkE) (m : Mk) (V : MkV) (W : World) (h : MkAt E W m V) (a b : Nat) (ha : m.full = true ∨ a < m.N.states.length) (hln : (m.N.edges a).length ≤ 1000000000) :
    Calls Tryz.prog 41 #[.pointer (some ⟨E.mb, 0, none⟩), .int .i64 a, .int .i64 b] W fun e W' => (∃ v, e = .returned v) ∧ Made E m V (m.empty a b) W W' := by
  have HC := Lib.hid (medge_ok E m V W h a 0 0 b ha hln)
  clear h ha hln
  go_enter Tryz.func41, Tryz.ntmps41
  go_wp2_with (refine HC.out.mono ?_; rintro e w1 ⟨⟨v, rfl⟩, hm⟩; have HM := Lib.hid hm; clear hm)
  go_end0
  exact ⟨⟨_, rfl⟩, HM.out⟩
theorem empty_full (m : Mk) (a b : Nat) : (m.empty a b).full = m.full := by unfold Mk.empty Mk.edge; split <;> rfl
theorem empty_states (m : Mk) (a b : Nat) : (m.empty a b).N.states.length = m.N.states.length := by
  unfold Mk.empty Mk.edge
  split
  · rfl
  · exact mod_len _ _ _
theorem empty_ends (m : Mk) (a b q : Nat) : (m.empty a b).N.ends q = m.N.ends q := by
  unfold Mk.empty Mk.edge
  split
  · rfl
  · exact mod_edges_ends m.N a q _
end Go.Proofs.YtiiffcmojkdlaaaGreatDoor
