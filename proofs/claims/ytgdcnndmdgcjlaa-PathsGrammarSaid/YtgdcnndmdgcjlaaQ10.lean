/- The making's small steps: a state, an edge, an alternative more. -/
import Derived.StillTailTactics
import Derived.Deep.CutBlock
import Derived.Deep.DeepCutAuto
import Derived.Test.YtgdcnndmdgcjlaaQ9
import Derived.Test.YtgdcnndmdgcjlaaQ2
import Derived.Test.YtgdcnndmdgcjlaaQ3
import Derived.Test.YtgdcnndmdgcjlaaQ8
import Derived.Test.YtgdcnndmdgcjlaaQ5
import Derived.Test.YtgdcnndmdgcjlaaQ4
namespace Go.Proofs.Ytgdcnndmdgcjlaa
open Go.RowKit
theorem info_pstate : (Try.prog.info? 51).map (fun i => (i.zero, i.size, i.bytes)) = some (some (.agg #[.int .i64 0, .slice none 0 0, .slice none 0 0]), 3, 56) := by kernel_rfl
theorem info_pedge : (Try.prog.info? 87).map (fun i => (i.zero, i.size, i.bytes)) = some (some (.agg #[.int .u8 0, .int .i64 0, .int .i64 0]), 3, 24) := by kernel_rfl
theorem loose_form {w : World} {base e size n : Nat} {v : Value} {xs : List Value} (h : looseRow w base e size v n xs) : ∃ a c, v = .slice a n c := by
  rcases h.2 with ⟨h1, h0⟩ | ⟨b, cap, cur, h1, h2, h3, h4⟩
  · exact ⟨none, 0, by rw [h1, h0]⟩
  · exact ⟨_, cap, h1⟩
theorem state_full {m : Mk} (h : (m.full || decide (maxStates ≤ m.N.states.length)) = true) : m.state = (0, { m with full := true }) := by unfold Mk.state; rw [h]; rfl
theorem state_more {m : Mk} (h : (m.full || decide (maxStates ≤ m.N.states.length)) = false) : m.state = (m.N.states.length, m.addState) := by unfold Mk.state; rw [h]; rfl
def NewS (r : Int) (v : Value) (w : World) : Prop := ∃ b, v = .slice (some ⟨b, 0, none⟩) 1 1 ∧ Owns w b [.int .i64 r, .slice none 0 0, .slice none 0 0] 51
theorem NewS.keep {r : Int} {v : Value} {w w' : World} (hg : Grew w w') (h : NewS r v w) : NewS r v w' := by
  obtain ⟨b, h1, h2⟩ := h
  exact ⟨b, h1, h2.keep hg⟩
def Made (E : MkE) (m : Mk) (V : MkV) (m' : Mk) (w w' : World) : Prop := ∃ V', MkAt E w' m' V' ∧ Frk E m V m' V' w w'
set_option maxHeartbeats 2000000 in
set_option maxRecDepth 20000 in
theorem mstate_ok (E : MkE) (m : Mk) (V : MkV) (W : World) (h : MkAt E W m V) (hlen : m.N.states.length ≤ 4096) : Calls Try.prog 43 #[.pointer (some ⟨E.mb, 0, none⟩)] W fun e W' => e = .returned (.int .i64 m.state.1) ∧ Made E m V m.state.2 W W' := by
  have c14 := h.box.cell_at (i := 14) rfl
  have f14 := h.box.free 14
  have bl := h.box.lt
  obtain ⟨sa, sc, hsv⟩ := loose_form h.states
  have c7 := h.box.cell_at (i := 7) rfl
  rw [hsv] at c7
  cases hf : (m.full || decide (maxStates ≤ m.N.states.length))
  · have hsm := state_more hf
    rw [hsm]
    rw [Bool.or_eq_false_iff] at hf
    obtain ⟨hf1, hf2⟩ := hf
    rw [decide_eq_false_iff_not] at hf2
    unfold maxStates at hf2
    rw [hf1] at c14
    have hlt : ¬ 4096 ≤ m.N.states.length := hf2
    have hd : decide (4096 ≤ m.N.states.length) = false := decide_eq_false hlt
    have hfield := h.field (m' := m) (i := 14) (x := .bool false) rfl rfl (by unfold MkV.box; rw [hf1]; rfl)
    have HF := Lib.hid hfield
    have HL := Lib.hid hlt
    have HFU := Lib.hid hf1
    obtain ⟨n, hn⟩ : ∃ n, m.N.states.length = n := ⟨_, rfl⟩
    have HN := Lib.hid hn
    have HSV := Lib.hid hsv
    have hn96 : n < 4096 := by omega
    rw [hn] at c7 hlt hd
    have hdi : decide ((4096 : Int) ≤ (n : Int)) = false := decide_eq_false (by omega)
    clear h hsm hf1 hf2 hfield hn hsv hlen
    go_enter Try.func43, Try.ntmps43
    go_upto_region 2 with fail
    have hM := HF.out.1
    have d14 := hM.box.cell_at (i := 14) rfl
    have d6 := hM.box.cell_at (i := 6) rfl
    have d7 := hM.box.cell_at (i := 7) rfl
    have dl := hM.box.lt
    have HF1 := Lib.hid hM
    have HF2 := Lib.hid HF.out.2
    rw [HSV.out, HN.out] at d7
    rw [HFU.out] at d14
    clear hM HF c14 f14 bl c7
    generalize W.setCell ⟨E.mb, 14, none⟩ (.bool false) = w1 at *
    obtain ⟨i0, hi, hz0, hz1, hz2⟩ := info_parts info_pstate
    have HI := Lib.hid hi
    have HZ0 := Lib.hid hz0
    have HZ1 := Lib.hid hz1
    have HZ2 := Lib.hid hz2
    clear hi hz0 hz1 hz2
    go_wp2_with fail
    refine wp_region_hav_lit follows (by kernel_rfl) ?_
    repeat (first
      | (refine HavG.skip (fun _ => rfl) ?_; simp only [Act.put, List.setIfInBounds_toArray, List.set_cons_zero, List.set_cons_succ])
      | (refine HavG.val (fun _ => rfl) ?_ (fun x w hw _ => ?_) ?_; rotate_left; (focus (have hc := hw.cells; clear hw; go_simp; first | done | rfl)); simp only [Act.put, List.setIfInBounds_toArray, List.set_cons_zero, List.set_cons_succ]))
    refine HavG.any (fun _ => rfl) (NewS m.rule) (fun _ _ _ hg h => NewS.keep hg h) (fun x w hw _ => ?_) ?_
    · clear hw
      go_simp
      exact ⟨grew_alloc _ _, _, rfl, Owns.alloc _ _ _⟩
    simp only [Act.put, List.setIfInBounds_toArray, List.set_cons_zero, List.set_cons_succ]
    refine HavG.tail0 (by kernel_rfl) (by kernel_rfl) (by kernel_rfl) (fun _ _ d _ _ h => by cases d <;> exact h) (by decide) (fun x w2 hw hx => ?_)
    have hx8 := hx _ (List.mem_append_right _ (List.mem_singleton.2 rfl))
    clear hx
    dsimp only at hx8
    generalize x (0 + 1 + 1 + 1 + 1 + 1 + 1 + 1 + 1 + 1 + 1 + 1) = y11 at *
    obtain ⟨nb, rfl, hnb⟩ := hx8
    have hM2 := HF1.out.grew hw
    have HM2 := Lib.hid hM2
    have HG2 := Lib.hid (HF2.out.trans (Frk.grew (E := E) (m := m) (V := V) hw))
    have hrow : looseRow w2 E.base 51 3 (.slice sa n sc) n (V.srow m) := by have := hM2.states; rw [HSV.out, HN.out] at this; exact this
    have HROW := Lib.hid hrow
    have HNS := Lib.hid (owns_newsO hnb)
    have H63 := Lib.hid (show n + 1 ≤ maxLen by unfold maxLen; omega)
    have H64 := Lib.hid (show (n + 1) * 56 ≤ 140737488355328 by omega)
    have HLIM := Lib.hid hM2.lim
    have HL1 := Lib.hid (show ∀ u ∈ [Value.int .i64 m.rule, .slice none 0 0, .slice none 0 0], u.oneCell' = true by
      intro u hu
      simp only [List.mem_cons, List.not_mem_nil, or_false] at hu
      rcases hu with rfl | rfl | rfl <;> rfl)
    clear hw hnb hM2 hrow d14 d6 d7 dl
    go_wp2_with (at_builtin; refine wpList_append_loose w2 rfl _ _ 22 rfl E.base 51 i0 _ 3 56 Try.underlying22 HI.out HZ0.out HZ1.out HZ2.out rfl (by decide) (.slice sa n sc) n (V.srow m) rfl HROW.out ⟨nb, 0, none⟩ 1 1 [.int .i64 m.rule, .slice none 0 0, .slice none 0 0] rfl rfl HNS.out HL1.out (by decide) H63.out H64.out HLIM.out _ rfl ?_; intro gb cap w3 hown hgrow hat hlt3; have HOWN := Lib.hid hown; have HGROW := Lib.hid hgrow; have HAT := Lib.hid hat; have hb4 := owns_far HM2.out.box hgrow (own_box HROW.out HM2.out.box (by decide)); have b18 : w3.cell? ⟨E.mb, 7, none⟩ = some V.sv := hb4.cell_at (i := 7) rfl; rw [HSV.out, HN.out] at b18; have f18 : w3.frozen? ⟨E.mb, 7, none⟩ = false := hb4.free 7; have l18 := hb4.lt; clear hb4 hown hgrow hat hlt3)
    have hrow2 : looseRow w2 E.base 51 3 V.sv m.N.states.length (V.srow m) := HM2.out.states
    have hpush := HM2.out.pushState (w1 := w3) (g := gb) (v := .slice (some ⟨gb, 0, none⟩) (n + 1) cap) (by rw [HSV.out, HN.out]; exact HGROW.out) (by rw [HN.out]; exact HOWN.out) rfl (by rw [HSV.out, HN.out]; exact HAT.out)
    have HPU := Lib.hid hpush
    have e7 : (w3.setCell ⟨E.mb, 7, none⟩ (.slice (some ⟨gb, 0, none⟩) (n + 1) cap)).cell? ⟨E.mb, 7, none⟩ = some (.slice (some ⟨gb, 0, none⟩) (n + 1) cap) := by
      have := hpush.1.box.cell_at (i := 7) rfl
      exact this
    have el := hpush.1.box.lt
    clear hpush hrow2
    go_upto_region 5 with fail
    clear b18 f18 l18
    generalize w3.setCell ⟨E.mb, 7, none⟩ (.slice (some ⟨gb, 0, none⟩) (n + 1) cap) = w4 at *
    have hsub : IntKind.i64.wrap (((n + 1 : Nat) : Int) - 1) = (n : Int) := by rw [IntKind.wrap_i64]; omega
    have hsub2 : IntKind.i64.wrap ((n : Int) + 1 - 1) = (n : Int) := by rw [IntKind.wrap_i64]; omega
    go_wp2_with fail
    go_ret
    exact ⟨ret_int (by rw [HN.out]), _, HPU.out.1, HG2.out.trans HPU.out.2⟩
  · have hsm := state_full hf
    rw [hsm]
    have hfield := h.field (m' := { m with full := true }) (i := 14) (x := .bool true) rfl rfl rfl
    have HF := Lib.hid hfield
    cases hf1 : m.full
    · rw [hf1, Bool.false_or, decide_eq_true_iff] at hf
      unfold maxStates at hf
      rw [hf1] at c14
      obtain ⟨n, hn⟩ : ∃ n, m.N.states.length = n := ⟨_, rfl⟩
      rw [hn] at hf c7
      have hd : decide (4096 ≤ n) = true := decide_eq_true hf
      have hdi : decide ((4096 : Int) ≤ (n : Int)) = true := decide_eq_true (by omega)
      clear h hsm hf1 hfield hn hsv hlen
      go_enter Try.func43, Try.ntmps43
      go_upto_region 2 with fail
      have d14 := HF.out.1.box.cell_at (i := 14) rfl
      have dl := HF.out.1.box.lt
      clear c14 f14 bl c7
      generalize W.setCell ⟨E.mb, 14, none⟩ (.bool true) = w1 at *
      go_wp2_with fail
      go_ret
      exact ⟨rfl, _, HF.out.1, HF.out.2⟩
    · rw [hf1] at c14
      clear h hsm hf1 hfield hsv hlen hf
      go_enter Try.func43, Try.ntmps43
      go_upto_region 2 with fail
      have d14 := HF.out.1.box.cell_at (i := 14) rfl
      have dl := HF.out.1.box.lt
      clear c14 f14 bl c7
      generalize W.setCell ⟨E.mb, 14, none⟩ (.bool true) = w1 at *
      go_wp2_with fail
      go_ret
      exact ⟨rfl, _, HF.out.1, HF.out.2⟩
theorem loose_free {w : World} {base e size n g : Nat} {v : Value} {xs : List Value} (h : looseRow w base e size v n xs) (hv : v.ownBlock = some g) : (∀ o, w.frozen? ⟨g, o, none⟩ = false) ∧ g < w.heap.size := by
  obtain ⟨_, cs, h3⟩ := row_own h hv
  exact ⟨fun o => by simp [World.frozen?, h3], (Array.getElem?_eq_some_iff.1 h3).1⟩
theorem MkAt.sblock {E : MkE} {m : Mk} {V : MkV} {W : World} (h : MkAt E W m V) {a : Nat} (ha : a < m.N.states.length) : ∃ sb sc, V.sv = .slice (some ⟨sb, 0, none⟩) m.N.states.length sc ∧ sb < W.heap.size ∧ V.sv.ownBlock = some sb ∧
    W.cell? ⟨sb, a * 3 + 1, none⟩ = some (V.ev a) ∧ W.cell? ⟨sb, a * 3 + 2, none⟩ = some (V.iv (.ends a)) ∧ W.frozen? ⟨sb, a * 3 + 1, none⟩ = false ∧ W.frozen? ⟨sb, a * 3 + 2, none⟩ = false := by
  rcases h.states.2 with ⟨_, h0⟩ | ⟨b, cap, cur, h1, h2, h3, h4⟩
  · omega
  · have hc := looseRow_cells h.states (g := b) (by rw [h1]; rfl)
    have hs := srow_at (V := V) ha
    have hfr : ∀ o, W.frozen? ⟨b, o, none⟩ = false := fun o => by simp [World.frozen?, h3]
    exact ⟨b, cap, h1, (Array.getElem?_eq_some_iff.1 h3).1, by rw [h1]; rfl, hc _ _ hs.2.1, hc _ _ hs.2.2, hfr _, hfr _⟩
set_option maxHeartbeats 2000000 in
set_option maxRecDepth 20000 in
theorem medge_ok (E : MkE) (m : Mk) (V : MkV) (W : World) (h : MkAt E W m V) (a : Nat) (kd wh : Int) (b : Nat) (ha : m.full = true ∨ a < m.N.states.length) (hln : (m.N.edges a).length ≤ 1000000000) :
    Calls Try.prog 59 #[.pointer (some ⟨E.mb, 0, none⟩), .int .i64 a, .int .u8 kd, .int .i64 wh, .int .i64 b] W fun e W' => (∃ v, e = .returned v) ∧ Made E m V (m.edge a kd wh b) W W' := by
  have c14 := h.box.cell_at (i := 14) rfl
  have bl := h.box.lt
  cases hf : m.full
  · have ha' : a < m.N.states.length := ha.resolve_left (by rw [hf]; simp)
    rw [hf] at c14
    obtain ⟨sb, sc, hsv, hsl, hsb, s1, -, g1, -⟩ := h.sblock ha'
    have c7 := h.box.cell_at (i := 7) rfl
    rw [hsv] at c7
    obtain ⟨ea, ec, hev⟩ := loose_form (h.edges a ha')
    rw [hev] at s1
    obtain ⟨n, hn⟩ : ∃ n, m.N.states.length = n := ⟨_, rfl⟩
    obtain ⟨k, hk⟩ : ∃ k, (m.N.edges a).length = k := ⟨_, rfl⟩
    rw [hn] at c7 hsv
    rw [hk] at s1 hev hln
    have han : a < n := by omega
    have HA := Lib.hid ha'
    have HH := Lib.hid h
    have HFU := Lib.hid hf
    have HN := Lib.hid hn
    have HK := Lib.hid hk
    have HSV := Lib.hid hsv
    have HSB := Lib.hid hsb
    have HEV := Lib.hid hev
    obtain ⟨w2, hw2⟩ : ∃ w2, W.alloc (.cells #[.int .u8 kd, .int .i64 wh, .int .i64 b] 87) = w2 := ⟨_, rfl⟩
    have hg2 : Grew W w2 := hw2 ▸ grew_alloc W _
    have o2 : Owns w2 W.heap.size [.int .u8 kd, .int .i64 wh, .int .i64 b] 87 := hw2 ▸ Owns.alloc W _ _
    have hM2 := h.grew hg2
    have hrow : looseRow w2 E.base 87 3 (.slice ea k ec) k (ecells8 (m.N.edges a)) := by have := hM2.edges a ha'; rw [hev, hk] at this; exact this
    have HM2 := Lib.hid hM2
    have HG2 := Lib.hid (Frk.grew (E := E) (m := m) (V := V) hg2)
    have HROW := Lib.hid hrow
    have HNS := Lib.hid (owns_newsO o2)
    have H63 := Lib.hid (show k + 1 ≤ maxLen by unfold maxLen; omega)
    have H64 := Lib.hid (show (k + 1) * 24 ≤ 140737488355328 by omega)
    have HLIM := Lib.hid hM2.lim
    have HL1 := Lib.hid (show ∀ u ∈ [Value.int .u8 kd, .int .i64 wh, .int .i64 b], u.oneCell' = true by
      intro u hu
      simp only [List.mem_cons, List.not_mem_nil, or_false] at hu
      rcases hu with rfl | rfl | rfl <;> rfl)
    have HSR := Lib.hid hM2.states
    obtain ⟨i0, hi, hz0, hz1, hz2⟩ := info_parts info_pedge
    have HI := Lib.hid hi
    have HZ0 := Lib.hid hz0
    have HZ1 := Lib.hid hz1
    have HZ2 := Lib.hid hz2
    clear hi hz0 hz1 hz2 hg2 o2 hM2 hrow h ha ha' hf hsv hsb hev hn hk
    go_enter Try.func59, Try.ntmps59
    go_wp2_with (at_builtin; refine wpList_append_loose w2 rfl _ _ 49 rfl E.base 87 i0 _ 3 24 Try.underlying49 HI.out HZ0.out HZ1.out HZ2.out rfl (by decide) (.slice ea k ec) k (ecells8 (m.N.edges a)) rfl HROW.out ⟨W.heap.size, 0, none⟩ 1 1 [.int .u8 kd, .int .i64 wh, .int .i64 b] rfl rfl HNS.out HL1.out (by decide) H63.out H64.out HLIM.out _ rfl ?_; intro gb cap w3 hown hgrow hat hlt3; have HOWN := Lib.hid hown; have HGROW := Lib.hid hgrow; have HAT := Lib.hid hat; have hs3 := loose_far HSR.out hgrow (fun c hc hc2 => own_ne HSR.out HROW.out (by decide) c hc hc2); have b18 : w3.cell? ⟨sb, a * 3 + 1, none⟩ = some (V.ev a) := looseRow_cells hs3 HSB.out _ _ (srow_at HA.out).2.1; rw [HEV.out] at b18; have f18 := (loose_free hs3 HSB.out).1 (a * 3 + 1); have l18 := (loose_free hs3 HSB.out).2; clear hs3 hown hgrow hat hlt3)
    have hpush := HM2.out.pushEdge (w1 := w3) HFU.out HA.out (kd := kd) (wh := wh) (b := b) (sb := sb) (g := gb) (v := .slice (some ⟨gb, 0, none⟩) (k + 1) cap) HSB.out (by rw [HEV.out]; exact HGROW.out) (by rw [HK.out]; exact HOWN.out) rfl (by rw [HEV.out]; exact HAT.out)
    have HPU := Lib.hid hpush
    clear hpush
    go_end0
    exact ⟨⟨_, rfl⟩, _, HPU.out.1, HG2.out.trans HPU.out.2⟩
  · have hm : m.edge a kd wh b = m := by unfold Mk.edge; rw [hf]; rfl
    rw [hm]
    rw [hf] at c14
    have HH := Lib.hid h
    clear hm h hf ha hln
    go_enter Try.func59, Try.ntmps59
    go_wp2_with fail
    go_end0
    exact ⟨⟨_, rfl⟩, V, HH.out, Frk.refl _ _ _ _⟩
theorem mempty_ok (E : MkE) (m : Mk) (V : MkV) (W : World) (h : MkAt E W m V) (a b : Nat) (ha : m.full = true ∨ a < m.N.states.length) (hln : (m.N.edges a).length ≤ 1000000000) :
    Calls Try.prog 64 #[.pointer (some ⟨E.mb, 0, none⟩), .int .i64 a, .int .i64 b] W fun e W' => (∃ v, e = .returned v) ∧ Made E m V (m.empty a b) W W' := by
  have HC := Lib.hid (medge_ok E m V W h a 0 0 b ha hln)
  clear h ha hln
  go_enter Try.func64, Try.ntmps64
  go_wp2_with (refine HC.out.mono ?_; rintro e w1 ⟨⟨v, rfl⟩, hm⟩; have HM := Lib.hid hm; clear hm)
  go_end0
  exact ⟨⟨_, rfl⟩, HM.out⟩
theorem empty_full (m : Mk) (a b : Nat) : (m.empty a b).full = m.full := by unfold Mk.empty Mk.edge; split <;> rfl
theorem empty_states (m : Mk) (a b : Nat) : (m.empty a b).N.states.length = m.N.states.length := by
  unfold Mk.empty Mk.edge
  split
  · rfl
  · exact mod_len _ _ _
theorem empty_ends (m : Mk) (a b q : Nat) : (m.empty a b).N.ends q = m.N.ends q := by
  unfold Mk.empty Mk.edge
  split
  · rfl
  · exact mod_edges_ends m.N a q _
end Go.Proofs.Ytgdcnndmdgcjlaa

/- An alternative more of a decision. -/
namespace Go.Proofs.Ytgdcnndmdgcjlaa
open Go.RowKit
def NewI (F : Option Nat) (x : Int) (v : Value) (w : World) : Prop := ∃ b, v = .slice (some ⟨b, 0, none⟩) 1 1 ∧ Owns w b [.int .i64 x] 3 ∧ F ≠ some b
theorem NewI.keep {F : Option Nat} {N : Obj} {x : Int} {v : Value} {w w' : World} (hg : Once F N w w') (h : NewI F x v w) : NewI F x v w' := by
  obtain ⟨b, h1, h2, h3⟩ := h
  exact ⟨b, h1, hg.owns h2 h3, h3⟩
theorem upon_app {P : Program} {o : Oper} {a : Act} {w w' : World} {G : Value → World → Prop} {v vs vx : Value} (s x : Operand) (t : TypeId) (ho : o.op = .call { callee := .builtin .append, args := #[s, x], argTypes := #[t, t] }) (hs : a.eval s = vs) (hx : a.eval x = vx)
    (hr : (Builtin.append_ #[t, t] o.type #[vs, vx]).run P w = .ok v w') (hG : G v w') : uponV P G ((execOp a.eval o).run P w) := by
  unfold execOp
  simp only [ho, resolve, invoke, builtin, Sem.run_bind, Sem.run_pure, Result.andThen_ok, List.map_toArray, List.map_cons, List.map_nil, hs, hx, hr]
  exact hG
set_option maxHeartbeats 2000000 in
set_option maxRecDepth 20000 in
theorem malt_ok (E : MkE) (m : Mk) (V : MkV) (W : World) (h : MkAt E W m V) (d tt over : Nat) (ha : m.full = true ∨ d < m.N.states.length) (hln : (m.N.edges d).length ≤ 1000000000) (hle : (m.N.ends d).length ≤ 1000000000) :
    Calls Try.prog 65 #[.pointer (some ⟨E.mb, 0, none⟩), .int .i64 d, .int .i64 tt, .int .i64 over] W fun e W' => (∃ v, e = .returned v) ∧ Made E m V (m.alt d tt over) W W' := by
  have HC := Lib.hid (mempty_ok E m V W h d tt ha hln)
  have HLE := Lib.hid hle
  have HA := Lib.hid ha
  clear h ha hln hle
  cases hf : (m.empty d tt).full
  · have hmf : m.full = false := by rw [← empty_full m d tt]; exact hf
    have ha' : d < (m.empty d tt).N.states.length := by rw [empty_states]; exact HA.out.resolve_left (by rw [hmf]; simp)
    have hend : ((m.empty d tt).N.ends d).length ≤ 1000000000 := by rw [empty_ends]; exact HLE.out
    have hres : m.alt d tt over = (m.empty d tt).addEnd d over := by unfold Mk.alt; rw [hf]; rfl
    rw [hres]
    generalize m.empty d tt = m1 at *
    have HFU := Lib.hid hf
    have HA2 := Lib.hid ha'
    have HEND := Lib.hid hend
    clear hf hmf hres HA HLE ha' hend
    go_enter Try.func65, Try.ntmps65
    go_wp2_with fail
    refine HC.out.mono ?_
    rintro e w1 ⟨⟨v, rfl⟩, V1, hM1, hF1⟩
    have c14 := hM1.box.cell_at (i := 14) rfl
    have bl := hM1.box.lt
    have HF1 := Lib.hid hF1
    clear hF1 HC
    rw [HFU.out] at c14
    have ha' := HA2.out
    have hend := HEND.out
    obtain ⟨sb, sc, hsv, hsl, hsb, -, s2, -, g2⟩ := hM1.sblock ha'
    have c7 := hM1.box.cell_at (i := 7) rfl
    rw [hsv] at c7
    obtain ⟨ea, ec, hev⟩ := loose_form (hM1.ints (.ends d) ha')
    rw [hev] at s2
    have hlen0 : E.ints m1 (.ends d) = m1.N.ends d := rfl
    rw [hlen0] at s2 hev
    obtain ⟨n, hn⟩ : ∃ n, m1.N.states.length = n := ⟨_, rfl⟩
    obtain ⟨k, hk⟩ : ∃ k, (m1.N.ends d).length = k := ⟨_, rfl⟩
    rw [hn] at c7 hsv
    rw [hk] at s2 hev hend
    have han : d < n := by omega
    have HAA := Lib.hid ha'
    have HM1 := Lib.hid hM1
    have HN := Lib.hid hn
    have HK := Lib.hid hk
    have HSB := Lib.hid hsb
    have HEV := Lib.hid hev
    obtain ⟨i0, hi, hz0, hz1, hz2⟩ := info_parts info_int
    have hrow : looseRow w1 E.base 3 1 (.slice ea k ec) k (intVs (m1.N.ends d)) := by have := hM1.ints (.ends d) ha'; rw [hev, hlen0, hk] at this; exact this
    obtain ⟨F, N, hFo, happ⟩ := append_once (P := Try.prog) w1 23 23 E.base 3 i0 _ 1 8 rfl hi hz0 hz1 hz2 rfl (.slice ea k ec) k (intVs (m1.N.ends d)) hrow 1 [.int .i64 over] rfl (by intro u hu; simp only [List.mem_singleton] at hu; subst hu; rfl) (by decide) (by unfold maxLen; omega) (by omega) hM1.lim
    have hFm : F ≠ some E.mb := fun e => own_box (hM1.ints (.ends d) ha') hM1.box (by decide) (by rw [hev]; exact (hFo _ e).1)
    have hFs : F ≠ some sb := fun e => own_ne (hM1.ints (.ends d) ha') hM1.states (by decide) _ (by rw [hev]; exact (hFo _ e).1) hsb
    have HFO := Lib.hid hFo
    have HAPP := Lib.hid happ
    have HFM := Lib.hid hFm
    have HFS := Lib.hid hFs
    have HC7 := Lib.hid c7
    have HS2 := Lib.hid s2
    clear hi hz0 hz1 hz2 hM1 ha' hsv hsb hev hn hk hlen0 hrow hFo happ hFm hFs
    go_wp2_with fail
    refine wp_region_hav_litB (Once.rel F N) follows (by kernel_rfl) ?_
    repeat (first
      | (refine HavB.skip (fun _ => rfl) ?_; simp only [Act.put, List.setIfInBounds_toArray, List.set_cons_zero, List.set_cons_succ])
      | (refine HavB.val (Once.rel F N) (fun _ => rfl) ?_ (fun x w hw _ => ?_) ?_; rotate_left; (focus (have q7 := hw.cell HC7.out HFM.out; have q2 := hw.cell HS2.out HFS.out; clear hw; go_simp; first | done | rfl)); simp only [Act.put, List.setIfInBounds_toArray, List.set_cons_zero, List.set_cons_succ]))
    refine HavB.any (fun _ => rfl) (NewI F over) (fun _ _ _ hg h => NewI.keep hg h) (fun x w hw _ => ?_) ?_
    · have hfl : ∀ b, F = some b → b < w.heap.size := fun b hb => Nat.lt_of_lt_of_le (HFO.out b hb).2 hw.size
      have HFL := Lib.hid hfl
      clear hw hfl
      go_simp
      exact ⟨Once.grew (grew_alloc _ _) HFL.out, _, rfl, Owns.alloc _ _ _, fun e => absurd (HFL.out _ e) (Nat.lt_irrefl _)⟩
    simp only [Act.put, List.setIfInBounds_toArray, List.set_cons_zero, List.set_cons_succ]
    refine HavB.any (fun _ => rfl) (AppR F N w1.heap.size E.base 3 1 (k + 1) (intVs (m1.N.ends d) ++ [.int .i64 over])) (fun _ _ _ hg h => AppR.keep hg h) (fun x w hw hd => ?_) ?_
    · have hd16 := hd _ (List.mem_append_right _ (List.mem_singleton.2 rfl)) (by kernel_rfl)
      clear hd
      dsimp only at hd16
      generalize x (0 + 1 + 1 + 1 + 1 + 1 + 1 + 1 + 1 + 1 + 1 + 1 + 1 + 1 + 1 + 1 + 1) = y16 at *
      obtain ⟨nb, rfl, hnb, -⟩ := hd16
      obtain ⟨r, w', hr, ho, hR⟩ := HAPP.out w ⟨nb, 0, none⟩ 1 hw (owns_newsO hnb)
      exact upon_app _ _ 23 rfl rfl rfl hr ⟨ho, hR⟩
    simp only [Act.put, List.setIfInBounds_toArray, List.set_cons_zero, List.set_cons_succ]
    refine HavB.tail (by kernel_rfl) (by kernel_rfl) (fun x w2 hw hx => ?_)
    have hx17 := hx _ (List.mem_append_right _ (List.mem_singleton.2 rfl))
    clear hx
    dsimp only at hx17
    generalize x (0 + 1 + 1 + 1 + 1 + 1 + 1 + 1 + 1 + 1 + 1 + 1 + 1 + 1 + 1 + 1 + 1 + 1) = y17 at *
    obtain ⟨gb, cap, rfl, hrow, hgl, hcase⟩ := hx17
    have hgrow : w1.grownBy w2 (V1.iv (.ends d)).ownBlock := ⟨hw.but.os, hw.but.tape, hw.but.output, hw.size, fun q hq hn => hw.but.block q hq fun e => hn (by rw [HEV.out]; exact (HFO.out q e).1.symm)⟩
    have hat : (V1.iv (.ends d)).ownBlock = some gb ∨ w1.heap.size ≤ gb := by
      rcases hcase with ⟨h1, -⟩ | ⟨-, h1⟩
      · exact .inl (by rw [HEV.out]; exact (HFO.out gb h1).1)
      · exact .inr h1
    have hpush := HM1.out.pushEnd (w1 := w2) HAA.out (x := over) (sb := sb) (g := gb) (v := .slice (some ⟨gb, 0, none⟩) (k + 1) cap) HSB.out hgrow (by rw [HK.out]; exact hrow) rfl hat
    have HPU := Lib.hid hpush
    have r18 : w2.cell? ⟨sb, d * 3 + 2, none⟩ = some (.slice ea k ec) := hw.cell HS2.out HFS.out
    have hs3 := loose_far HM1.out.states hgrow (fun c hc hc2 => own_ne HM1.out.states (HM1.out.ints (.ends d) HAA.out) (by decide) c hc hc2)
    have f18 := (loose_free hs3 HSB.out).1 (d * 3 + 2)
    have l18 := (loose_free hs3 HSB.out).2
    clear hrow hgl hcase hgrow hat hpush hw c7 s2 g2 c14 hs3
    go_wp2_with fail
    go_end0
    exact ⟨⟨_, rfl⟩, _, HPU.out.1, HF1.out.trans HPU.out.2⟩
  · have hres : m.alt d tt over = m.empty d tt := by unfold Mk.alt; rw [hf]; rfl
    rw [hres]
    generalize m.empty d tt = m1 at *
    have HFU := Lib.hid hf
    clear hf hres HA HLE
    go_enter Try.func65, Try.ntmps65
    go_wp2_with fail
    refine HC.out.mono ?_
    rintro e w1 ⟨⟨v, rfl⟩, V1, hM1, hF1⟩
    have c14 := hM1.box.cell_at (i := 14) rfl
    have bl := hM1.box.lt
    have HF1 := Lib.hid hF1
    clear hF1 HC
    rw [HFU.out] at c14
    have HM1 := Lib.hid hM1
    clear hM1
    go_wp2_with fail
    go_end0
    exact ⟨⟨_, rfl⟩, V1, HM1.out, HF1.out⟩
end Go.Proofs.Ytgdcnndmdgcjlaa

/- A loop's way out. -/
namespace Go.Proofs.Ytgdcnndmdgcjlaa
open Go.RowKit
set_option maxHeartbeats 2000000 in
set_option maxRecDepth 20000 in
theorem mleaving_ok (E : MkE) (m0 : Mk) (V0 : MkV) (w0 : World) (h : MkAt E w0 m0 V0) (d e b : Nat) (hd : m0.has d) (he : m0.has e) (hs : m0.Slim 3) :
    Calls Try.prog 66 #[.pointer (some ⟨E.mb, 0, none⟩), .int .i64 d, .int .i64 e, .int .i64 b] w0 fun e' W' => (∃ v, e' = .returned v) ∧ Made E m0 V0 (m0.leaving d e b) w0 W' := by
  have HM0 := Lib.hid h
  have HF0 := Lib.hid (Frk.refl E m0 V0 w0)
  have HL0 := Lib.hid (Mk.Le.refl m0)
  have HS := Lib.hid hs
  have HX_d := Lib.hid hd
  have HX_e := Lib.hid he
  clear h hs hd he
  go_enter Try.func66, Try.ntmps66
  have HC := Lib.hid (mstate_ok E m0 V0 w0 HM0.out ((HS.out.mono (show 0 + 0 ≤ 3 by omega)).next HL0.out).cap)
  go_wp2_with fail
  refine HC.out.mono ?_
  clear HC
  rintro e9 w1 ⟨rfl, V1, hM, hF⟩
  obtain ⟨m1, hm⟩ : ∃ m9, m9 = m0.state.2 := ⟨_, rfl⟩
  rw [← hm] at hM hF
  have hle : Mk.Le 0 m0 m1 := hm ▸ m0.state_le
  obtain ⟨y, hx⟩ : ∃ x9, x9 = m0.state.1 := ⟨_, rfl⟩
  rw [← hx]
  have HX_y : Hid (m1.has y) := Lib.hid (by rw [hm, hx]; exact m0.state_has)
  have HEX_y := Lib.hid hx
  clear hx
  have HX_d := Lib.hid (HX_d.out.next hle)
  have HX_e := Lib.hid (HX_e.out.next hle)
  have HL1 : Hid (Mk.Le 0 m0 m1) := Lib.hid ((HL0.out.trans hle).mono (by omega))
  have HM1 := Lib.hid hM
  have HF1 := Lib.hid (HF0.out.trans hF)
  have HEM1 := Lib.hid hm
  clear hM hF hm hle HM0 HF0 HL0
  have HC := Lib.hid (malt_ok E m1 V1 w1 HM1.out d y e HX_d.out (by have := ((HS.out.mono (show 0 + 1 ≤ 3 by omega)).next HL1.out).edges d; omega) (by have := ((HS.out.mono (show 0 + 1 ≤ 3 by omega)).next HL1.out).ends d; omega))
  go_wp2_with fail
  refine HC.out.mono ?_
  clear HC
  rintro e9 w2 ⟨⟨v, rfl⟩, V2, hM, hF⟩
  obtain ⟨m2, hm⟩ : ∃ m9, m9 = m1.alt d y e := ⟨_, rfl⟩
  rw [← hm] at hM hF
  have hle : Mk.Le 1 m1 m2 := hm ▸ m1.alt_le d y e
  have HX_d := Lib.hid (HX_d.out.next hle)
  have HX_e := Lib.hid (HX_e.out.next hle)
  have HX_y := Lib.hid (HX_y.out.next hle)
  have HL2 : Hid (Mk.Le 1 m0 m2) := Lib.hid ((HL1.out.trans hle).mono (by omega))
  have HM2 := Lib.hid hM
  have HF2 := Lib.hid (HF1.out.trans hF)
  have HEM2 := Lib.hid hm
  clear hM hF hm hle HM1 HF1 HL1
  have HC := Lib.hid (mempty_ok E m2 V2 w2 HM2.out y e HX_y.out (by have := ((HS.out.mono (show 1 + 1 ≤ 3 by omega)).next HL2.out).edges y; omega))
  go_wp2_with fail
  refine HC.out.mono ?_
  clear HC
  rintro e9 w3 ⟨⟨v, rfl⟩, V3, hM, hF⟩
  obtain ⟨m3, hm⟩ : ∃ m9, m9 = m2.empty y e := ⟨_, rfl⟩
  rw [← hm] at hM hF
  have hle : Mk.Le 1 m2 m3 := hm ▸ m2.empty_le y e
  have HX_d := Lib.hid (HX_d.out.next hle)
  have HX_e := Lib.hid (HX_e.out.next hle)
  have HX_y := Lib.hid (HX_y.out.next hle)
  have HL3 : Hid (Mk.Le (1 + 1) m0 m3) := Lib.hid ((HL2.out.trans hle).mono (by omega))
  have HM3 := Lib.hid hM
  have HF3 := Lib.hid (HF2.out.trans hF)
  have HEM3 := Lib.hid hm
  clear hM hF hm hle HM2 HF2 HL2
  have HC := Lib.hid (mempty_ok E m3 V3 w3 HM3.out e b HX_e.out (by have := ((HS.out.mono (show (1 + 1) + 1 ≤ 3 by omega)).next HL3.out).edges e; omega))
  go_wp2_with fail
  refine HC.out.mono ?_
  clear HC
  rintro e9 w4 ⟨⟨v, rfl⟩, V4, hM, hF⟩
  obtain ⟨m4, hm⟩ : ∃ m9, m9 = m3.empty e b := ⟨_, rfl⟩
  rw [← hm] at hM hF
  have hle : Mk.Le 1 m3 m4 := hm ▸ m3.empty_le e b
  have HX_d := Lib.hid (HX_d.out.next hle)
  have HX_e := Lib.hid (HX_e.out.next hle)
  have HX_y := Lib.hid (HX_y.out.next hle)
  have HL4 : Hid (Mk.Le ((1 + 1) + 1) m0 m4) := Lib.hid ((HL3.out.trans hle).mono (by omega))
  have HM4 := Lib.hid hM
  have HF4 := Lib.hid (HF3.out.trans hF)
  have HEM4 := Lib.hid hm
  clear hM hF hm hle HM3 HF3 HL3
  go_wp2_with fail
  go_end0
  have hres : m0.leaving d e b = m4 := by
    unfold Mk.leaving
    rw [HEM4.out, HEM3.out, HEM2.out, HEM1.out, HEX_y.out]
  rw [hres]
  exact ⟨⟨_, rfl⟩, _, HM4.out, HF4.out⟩
end Go.Proofs.Ytgdcnndmdgcjlaa

/- The number of a name's rule among some. -/
namespace Go.Proofs.Ytgdcnndmdgcjlaa
open Go.RowKit
set_option maxHeartbeats 1000000 in
set_option maxRecDepth 20000 in
theorem indexInt_ok (l : List Int) (x : Int) (W : World) (v : Value) (hl : l.length ≤ reachN) (hR : IntsV W W.heap.size v l) :
    Calls Try.prog 79 #[v, .int .i64 x] W fun e W' => e = .returned (.int .i64 (ixOf l fun y => x == y)) ∧ Grew W W' := by
  obtain ⟨a, cap, rfl, hR⟩ := hR
  unfold reachN at hl
  go_enter Try.func79, Try.ntmps79
  go_wp2
  go_loopw [8] (fun i wr => ∃ (j : Nat), i = .int .i64 j ∧ j ≤ l.length ∧ Hid (NoneTo l (fun y => x == y) j) ∧ Hid (Grew W wr)) (fun i _ => l.length - (intOf i).toNat)
  case atStart =>
    exact ⟨0, rfl, by omega, fun i hi h => absurd h (by omega), Grew.refl W⟩
  case round =>
    obtain ⟨j, rfl, hj, hf, hbw⟩ := hrel
    by_cases hlt : j < l.length
    · obtain ⟨b, off, rfl, hb, hc⟩ := hR j hlt
      have hc' : wr.cell? ⟨b, off + j, none⟩ = some (.int .i64 l[j]) := by rw [hbw.out.cells _ _ hb]; exact hc
      clear hR hc hb
      obtain ⟨t, ht⟩ : ∃ t, (x == l[j]) = t := ⟨_, rfl⟩
      cases t
      · have HQ := Lib.hid ht
        go_wp2_with fail
        exact ⟨⟨j + 1, by go_num, by omega, noneTo_next hf.out hlt HQ.out, hbw.out⟩, by simp [intOf]; omega⟩
      · have HQ := Lib.hid ht
        go_wp2_with fail
        go_ret
        exact ⟨ret_int (ixOf_at hlt hf.out HQ.out).symm, hbw.out⟩
    · go_wp2_with fail
      go_ret
      exact ⟨ret_int (ixOf_none fun i hi => hf.out i hi (by omega)).symm, hbw.out⟩
theorem loose_ints {w : World} {base : Nat} {v : Value} {l : List Int} (h : looseRow w base 3 1 v l.length (intVs l)) : IntsV w w.heap.size v l := by
  rcases h.2 with ⟨h1, h0⟩ | ⟨b, cap, cur, h1, h2, h3, h4⟩
  · have hn : l = [] := List.eq_nil_of_length_eq_zero h0
    subst hn
    exact ⟨none, 0, h1, fun k hk => absurd hk (by simp)⟩
  · refine ⟨some ⟨b, 0, none⟩, cap, h1, fun k hk => ⟨b, 0, rfl, (Array.getElem?_eq_some_iff.1 h3).1, ?_⟩⟩
    rw [Nat.zero_add]
    exact looseRow_cells h (g := b) (by rw [h1]; rfl) k _ (by simp [intVs, hk])
def MkE.nums (E : MkE) (g : Gr) : Nums := ⟨fun nm => ixOf E.tokens fun y => g.find nm == y, fun nm => ixOf E.rules fun y => g.find nm == y⟩
set_option maxHeartbeats 2000000 in
set_option maxRecDepth 20000 in
theorem mnumber_ok (E : MkE) (m : Mk) (V : MkV) (W : World) (h : MkAt E W m V) (g : Gr) (hG : GrAt W E.base (some E.g0) (some E.g1) (some E.g2) (some E.g3) g) (l : List Int) (v : Value) (hl : l.length ≤ reachN) (hR : IntsV W W.heap.size v l) (n : Nd) (v0 v1 v2 v3 v4 : Value) (hN : NodeAt W E.base (some v0) (some v1) (some v2) (some v3) (some v4) n) :
    Calls Try.prog 60 #[.pointer (some ⟨E.mb, 0, none⟩), .agg #[v0, v1, v2, v3, v4], v] W fun e W' => e = .returned (.int .i64 (ixOf l fun y => g.find n.name == y)) ∧ Grew W W' := by
  have hN9 := hN
  obtain ⟨bk, bnm, btx, bsa, bsl, bsc, bna, bnl, bnc, rfl, rfl, rfl, rfl, rfl⟩ := hN.forms
  have hnm : bnm = n.name := by
    cases n
    rw [NodeAt] at hN9
    obtain ⟨-, -, -, -, h1, -⟩ := hN9
    exact Value.string.inj (Option.some.inj h1)
  obtain ⟨la, lc, rfl, -⟩ := id hR
  have hg0 := hG
  obtain ⟨q1, -, q2, q3, q4, q5, ra, rc, q6, -, -⟩ := hG
  have q1 := Option.some.inj q1
  have q2 := Option.some.inj q2
  have q3 := Option.some.inj q3
  have q6 := Option.some.inj q6
  have b0 := h.box.cell_at (i := 0) rfl
  have b1 := h.box.cell_at (i := 1) rfl
  have b2 := h.box.cell_at (i := 2) rfl
  have b3 := h.box.cell_at (i := 3) rfl
  have bl := h.box.lt
  rw [q1] at b0
  rw [q2] at b1
  rw [q3] at b2
  rw [q6] at b3
  rw [q1, q2, q3, q6] at hg0
  obtain ⟨w1, hw1⟩ : ∃ w1, W.alloc (.cells #[.int .u8 bk, .string bnm, .string btx, .slice bsa bsl bsc, .slice bna bnl bnc] 104) = w1 := ⟨_, rfl⟩
  have g1 : Grew W w1 := hw1 ▸ grew_alloc W _
  have o1 : Owns w1 W.heap.size [.int .u8 bk, .string bnm, .string btx, .slice bsa bsl bsc, .slice bna bnl bnc] 104 := hw1 ▸ Owns.alloc W _ _
  have d0 : w1.cell? ⟨E.mb, 0, none⟩ = some (.string g.name) := (g1.cells _ _ bl).trans b0
  have d1 : w1.cell? ⟨E.mb, 1, none⟩ = some (.int .i64 g.bound) := (g1.cells _ _ bl).trans b1
  have d2 : w1.cell? ⟨E.mb, 2, none⟩ = some (.int .i64 g.states) := (g1.cells _ _ bl).trans b2
  have d3 : w1.cell? ⟨E.mb, 3, none⟩ = some (.slice ra g.rules.length rc) := (g1.cells _ _ bl).trans b3
  have c1 := o1.cell_at (i := 1) rfl
  have dl := Nat.lt_of_lt_of_le bl g1.size
  have cl := o1.lt
  have HG := Lib.hid g1
  have HF : Hid (∀ w, Grew w1 w → Calls Try.prog 80 #[.agg #[.string g.name, .int .i64 g.bound, .int .i64 g.states, .slice ra g.rules.length rc], .string bnm] w fun e W' => e = .returned (.int .i64 (g.find bnm)) ∧ Grew w W') :=
    Lib.hid fun w hw => by
      have hgr : GrAt w w.heap.size _ _ _ _ g := (hg0.keep ((g1.trans hw).mono h.lim)).mono (Nat.le_trans h.lim (g1.trans hw).size)
      exact find_ok g bnm w _ _ _ _ hgr
  have HI : Hid (∀ w, Grew w1 w → Calls Try.prog 79 #[.slice la l.length lc, .int .i64 (g.find bnm)] w fun e W' => e = .returned (.int .i64 (ixOf l fun y => g.find bnm == y)) ∧ Grew w W') :=
    Lib.hid fun w hw => indexInt_ok l (g.find bnm) w _ hl ((hR.keep (g1.trans hw)).mono (g1.trans hw).size)
  rw [← hnm]
  clear hN hN9 hg0 hR b0 b1 b2 b3 q1 q2 q3 q6 q4 q5 h hnm g1 o1 bl hl
  go_enter Try.func60, Try.ntmps60
  go_wp2_with fail
  refine wp_region_hav_lit follows (by kernel_rfl) ?_
  repeat (first
    | (refine HavG.skip (fun _ => rfl) ?_; simp only [Act.put, List.setIfInBounds_toArray, List.set_cons_zero, List.set_cons_succ])
    | (refine HavG.val (fun _ => rfl) ?_ (fun x w hw _ => ?_) ?_; rotate_left; (focus (have hc := hw.cells; clear hw; go_simp; first | done | rfl)); simp only [Act.put, List.setIfInBounds_toArray, List.set_cons_zero, List.set_cons_succ]))
  refine HavG.det (fun _ => rfl) (.int .i64 (g.find bnm)) (fun x w hw _ => ?_) ?_
  · have HW := Lib.hid hw
    clear hw
    go_simp
    refine (HF.out _ HW.out).mono ?_
    rintro e w' ⟨rfl, hb⟩
    exact ⟨rfl, hb⟩
  simp only [Act.put, List.setIfInBounds_toArray, List.set_cons_zero, List.set_cons_succ]
  refine HavG.det (fun _ => rfl) (.int .i64 (ixOf l fun y => g.find bnm == y)) (fun x w hw _ => ?_) ?_
  · have HW := Lib.hid hw
    clear hw
    go_simp
    refine (HI.out _ HW.out).mono ?_
    rintro e w' ⟨rfl, hb⟩
    exact ⟨rfl, hb⟩
  simp only [Act.put, List.setIfInBounds_toArray, List.set_cons_zero, List.set_cons_succ]
  refine HavG.tail (by kernel_rfl) (by kernel_rfl) (fun x w hw _ => ?_)
  have HW := Lib.hid (HG.out.trans hw)
  clear hw
  go_wp2_with fail
  go_ret
  exact ⟨rfl, HW.out⟩
end Go.Proofs.Ytgdcnndmdgcjlaa

/- The rules of some sorts, by their numbers. -/
namespace Go.Proofs.Ytgdcnndmdgcjlaa
open Go.RowKit
def SortsAt (W : World) (b : Nat) (l : List Int) : Prop := b < W.heap.size ∧ ∀ k (h : k < l.length), W.cell? ⟨b, k, none⟩ = some (.int .u8 l[k])
theorem SortsAt.keep {W W' : World} {b : Nat} {l : List Int} (h : SortsAt W b l) (hg : Grew W W') : SortsAt W' b l := ⟨Nat.lt_of_lt_of_le h.1 hg.size, fun k hk => (hg.cells _ _ h.1).trans (h.2 k hk)⟩
set_option maxHeartbeats 1000000 in
set_option maxRecDepth 20000 in
theorem indexSort_ok (l : List Int) (x : Int) (W : World) (b cap : Nat) (hl : l.length ≤ reachN) (hR : SortsAt W b l) :
    Calls Try.prog 78 #[.slice (some ⟨b, 0, none⟩) l.length cap, .int .u8 x] W fun e W' => e = .returned (.int .i64 (ixOf l fun y => x == y)) ∧ Grew W W' := by
  obtain ⟨hb, hR⟩ := hR
  unfold reachN at hl
  go_enter Try.func78, Try.ntmps78
  go_wp2
  go_loopw [8] (fun i wr => ∃ (j : Nat), i = .int .i64 j ∧ j ≤ l.length ∧ Hid (NoneTo l (fun y => x == y) j) ∧ Hid (Grew W wr)) (fun i _ => l.length - (intOf i).toNat)
  case atStart =>
    exact ⟨0, rfl, by omega, fun i hi h => absurd h (by omega), Grew.refl W⟩
  case round =>
    obtain ⟨j, rfl, hj, hf, hbw⟩ := hrel
    by_cases hlt : j < l.length
    · have hc' : wr.cell? ⟨b, j, none⟩ = some (.int .u8 l[j]) := by rw [hbw.out.cells _ _ hb]; exact hR j hlt
      have hb' : b < wr.heap.size := Nat.lt_of_lt_of_le hb hbw.out.size
      clear hR
      obtain ⟨t, ht⟩ : ∃ t, (x == l[j]) = t := ⟨_, rfl⟩
      cases t
      · have HQ := Lib.hid ht
        go_wp2_with fail
        exact ⟨⟨j + 1, by go_num, by omega, noneTo_next hf.out hlt HQ.out, hbw.out⟩, by simp [intOf]; omega⟩
      · have HQ := Lib.hid ht
        go_wp2_with fail
        go_ret
        exact ⟨ret_int (ixOf_at hlt hf.out HQ.out).symm, hbw.out⟩
    · go_wp2_with fail
      go_ret
      exact ⟨ret_int (ixOf_none fun i hi => hf.out i hi (by omega)).symm, hbw.out⟩
theorem ixOf_anyS {α : Type} (l : List α) (q : α → Bool) : decide (0 ≤ ixOf l q) = l.any q := by
  rcases ixOf_cases l q with ⟨h, hn⟩ | ⟨j, hj, h, hq, _⟩
  · rw [h]
    symm
    have : l.any q = false := by
      rw [List.any_eq_false]
      intro x hx
      obtain ⟨i, hi, rfl⟩ := List.mem_iff_getElem.1 hx
      simp [hn i hi]
    rw [this]; rfl
  · rw [h]
    have : l.any q = true := List.any_eq_true.2 ⟨l[j], List.getElem_mem hj, hq⟩
    rw [this]
    simp
theorem contSort_ok (l : List Int) (x : Int) (W : World) (b cap : Nat) (hl : l.length ≤ reachN) (hR : SortsAt W b l) :
    Calls Try.prog 57 #[.slice (some ⟨b, 0, none⟩) l.length cap, .int .u8 x] W fun e W' => e = .returned (.bool (l.any fun y => x == y)) ∧ Grew W W' := by
  have HC := Lib.hid (indexSort_ok l x W b cap hl hR)
  have HA := Lib.hid (ixOf_anyS l fun y => x == y)
  clear hR
  go_enter Try.func57, Try.ntmps57
  go_wp2_with (refine HC.out.mono ?_; rintro e w ⟨rfl, hb⟩; have HB := Lib.hid hb; clear hb)
  go_ret
  exact ⟨ret_bool HA.out, HB.out⟩
theorem clipInt_ok (W : World) (base : Nat) (v : Value) (l : List Int) (h : looseRow W base 3 1 v l.length (intVs l)) :
    Calls Try.prog 58 #[v] W fun e W' => (∃ u, e = .returned u ∧ looseRow W base 3 1 u l.length (intVs l)) ∧ W = W' := by
  rcases h.2 with ⟨rfl, h0⟩ | ⟨b, cap, cur, rfl, h1, h2, h3, h4, h5, h6⟩
  · have hn : l = [] := List.eq_nil_of_length_eq_zero h0
    subst hn
    go_enter Try.func58, Try.ntmps58
    go_wp2
    go_ret
    exact ⟨⟨_, rfl, rfl, .inl ⟨rfl, rfl⟩⟩, rfl⟩
  · have HL : Hid (looseRow W base 3 1 (.slice (some ⟨b, 0, none⟩) l.length l.length) l.length (intVs l)) := ⟨h.1, .inr ⟨b, _, cur, rfl, h1, h2, Nat.le_refl _, Nat.le_trans h3 h4, by omega, h6⟩⟩
    unfold maxLen at h4
    obtain ⟨n, hn⟩ : ∃ n, l.length = n := ⟨_, rfl⟩
    rw [hn] at h3 HL ⊢
    clear h h2 h5 h6 hn
    go_enter Try.func58, Try.ntmps58
    go_wp2
    go_ret
    exact ⟨⟨_, rfl, HL.out⟩, rfl⟩
def Gr.isAt (g : Gr) (S : List Int) (j : Nat) : Bool := match g.rules[j]? with
  | some r => S.any fun y => r.sort == y
  | none => false
def Gr.ofTo (g : Gr) (S : List Int) : Nat → List Int
  | 0 => []
  | j + 1 => if g.isAt S j = true then Gr.ofTo g S j ++ [(j : Int)] else Gr.ofTo g S j
theorem Gr.isAt_get {g : Gr} {S : List Int} {j : Nat} (h : j < g.rules.length) : g.isAt S j = S.any fun y => g.rules[j].sort == y := by unfold Gr.isAt; rw [List.getElem?_eq_getElem h]
def Gr.of (g : Gr) (S : List Int) : List Int := g.ofTo S g.rules.length
theorem Gr.ofTo_len (g : Gr) (S : List Int) : ∀ j, (g.ofTo S j).length ≤ j
  | 0 => Nat.le_refl _
  | j + 1 => by have := Gr.ofTo_len g S j; rw [Gr.ofTo]; split <;> simp <;> omega
theorem Gr.ofTo_mem (g : Gr) (S : List Int) : ∀ j x, x ∈ g.ofTo S j → ∃ i, ∃ h : i < g.rules.length, i < j ∧ x = i ∧ (S.any fun y => g.rules[i].sort == y) = true
  | 0, x, h => by simp [Gr.ofTo] at h
  | j + 1, x, h => by
    rw [Gr.ofTo] at h
    have old : x ∈ g.ofTo S j → ∃ i, ∃ h : i < g.rules.length, i < j + 1 ∧ x = i ∧ (S.any fun y => g.rules[i].sort == y) = true := fun hx => by
      obtain ⟨i, h1, h2, h3⟩ := Gr.ofTo_mem g S j x hx
      exact ⟨i, h1, by omega, h3⟩
    split at h
    · rename_i hc
      rcases List.mem_append.1 h with h | h
      · exact old h
      · have hx : x = (j : Int) := by simpa using h
        rcases Nat.lt_or_ge j g.rules.length with hj | hj
        · rw [Gr.isAt_get hj] at hc
          exact ⟨j, hj, by omega, hx, hc⟩
        · unfold Gr.isAt at hc
          rw [List.getElem?_eq_none hj] at hc
          cases hc
    · exact old h
theorem intVs_snoc (l : List Int) (x : Int) : intVs (l ++ [x]) = intVs l ++ [.int .i64 x] := by unfold intVs; rw [List.map_append]; rfl
theorem grew_loose {W w w' : World} {e size n : Nat} {v : Value} {xs : List Value} (h : looseRow w W.heap.size e size v n xs) (hg : Grew W w) (hgr : w.grownBy w' v.ownBlock) : Grew W w' :=
  ⟨hgr.os.trans hg.os, hgr.tape.trans hg.tape, hgr.output.trans hg.output, Nat.le_trans hg.size hgr.size, fun k hk => by
    rw [hgr.block k (Nat.lt_of_lt_of_le hk hg.size) (fun e => by have := (row_own h e.symm).1; omega), hg.block k hk]⟩
set_option maxHeartbeats 2000000 in
set_option maxRecDepth 20000 in
theorem mof_ok (g : Gr) (S : List Int) (hS : S.length ≤ 100) (W : World) (v0 v1 v2 v3 : Value) (hG : GrAt W W.heap.size (some v0) (some v1) (some v2) (some v3) g) (hn : g.rules.length ≤ 1000000) (sb sc : Nat) (hs : SortsAt W sb S) :
    Calls Try.prog 42 #[.agg #[v0, v1, v2, v3], .slice (some ⟨sb, 0, none⟩) S.length sc] W fun e W' => ∃ v, e = .returned v ∧ looseRow W' W.heap.size 3 1 v (g.of S).length (intVs (g.of S)) ∧ Grew W W' := by
  obtain ⟨q1, -, q2, q3, q4, q5, ra, rc, q6, -, hrules⟩ := hG
  obtain rfl := Option.some.inj q1
  obtain rfl := Option.some.inj q2
  obtain rfl := Option.some.inj q3
  obtain rfl := Option.some.inj q6
  obtain ⟨w1, hw1⟩ : ∃ w1, W.alloc (.cells #[.string g.name, .int .i64 g.bound, .int .i64 g.states, .slice ra g.rules.length rc] 57) = w1 := ⟨_, rfl⟩
  have g1 : Grew W w1 := hw1 ▸ grew_alloc W _
  have o1 : Owns w1 W.heap.size [.string g.name, .int .i64 g.bound, .int .i64 g.states, .slice ra g.rules.length rc] 57 := hw1 ▸ Owns.alloc W _ _
  have c3 := o1.cell_at (i := 3) rfl
  have cl := o1.lt
  have G1 := Lib.hid g1
  have HR := Lib.hid hrules
  have HSS := Lib.hid hs
  obtain ⟨i0, hi, hz0, hz1, hz2⟩ := info_parts info_int
  have HI := Lib.hid hi
  have HZ0 := Lib.hid hz0
  have HZ1 := Lib.hid hz1
  have HZ2 := Lib.hid hz2
  clear hi hz0 hz1 hz2 g1 o1 hrules hs q1 q2 q3 q4 q5 q6
  go_enter Try.func42, Try.ntmps42
  go_wp2_with fail
  go_loopw [4, 10] (fun v c w => ∃ (j : Nat), c = .int .i64 j ∧ j ≤ g.rules.length ∧ Hid (looseRow w W.heap.size 3 1 v (g.ofTo S j).length (intVs (g.ofTo S j))) ∧ Hid (Grew W w)) (fun _ c _ => g.rules.length - (intOf c).toNat)
  case atStart => exact ⟨0, rfl, by omega, ⟨rfl, .inl ⟨rfl, rfl⟩⟩, G1.out⟩
  case round =>
    obtain ⟨j, rfl, hj, hrow, hgw⟩ := hrel
    clear c3 cl
    by_cases hlt : j < g.rules.length
    · obtain ⟨b, off, rfl, hb, hrule⟩ := (HR.out.keep hgw.out).get hlt
      simp only [Nat.zero_add] at hrule
      obtain ⟨u2, u3, u4, u5, u6, e0, e1, e2, e3, e4, e5, e6, e7, e8, e9, hrule, hnode⟩ := hrule.vals
      obtain ⟨ck, cnm, ctx, csa, csl, csc, cna, cnl, cnc, rfl, rfl, rfl, rfl, rfl⟩ := hnode.forms
      have hbl : b < wr.heap.size := Nat.lt_of_lt_of_le hb hgw.out.size
      obtain ⟨w2, hw2⟩ : ∃ w2, wr.alloc (.cells #[.string g.rules[j].name, .int .u8 g.rules[j].sort, .int .u8 ck, .string cnm, .string ctx, .slice csa csl csc, .slice cna cnl cnc, .int .i64 g.rules[j].p0, .int .i64 g.rules[j].p1, .int .i64 g.rules[j].p2] 108) = w2 := ⟨_, rfl⟩
      have g2 : Grew wr w2 := hw2 ▸ grew_alloc wr _
      have o2 : Owns w2 wr.heap.size [.string g.rules[j].name, .int .u8 g.rules[j].sort, .int .u8 ck, .string cnm, .string ctx, .slice csa csl csc, .slice cna cnl cnc, .int .i64 g.rules[j].p0, .int .i64 g.rules[j].p1, .int .i64 g.rules[j].p2] 108 := hw2 ▸ Owns.alloc wr _ _
      have f1 := o2.cell_at (i := 1) rfl
      have fl := o2.lt
      have HG2 := Lib.hid (hgw.out.trans g2)
      have HC := Lib.hid (contSort_ok S g.rules[j].sort w2 sb sc (by unfold reachN; omega) (HSS.out.keep (hgw.out.trans g2)))
      have HRW := Lib.hid (row_but hrow.out (But.of_grew (F := fun _ => False) g2) fun _ _ => id)
      have hnx : g.ofTo S (j + 1) = if (S.any fun y => g.rules[j].sort == y) = true then g.ofTo S j ++ [(j : Int)] else g.ofTo S j := by rw [Gr.ofTo, Gr.isAt_get hlt]
      have hnl := Gr.ofTo_len g S j
      clear g2 o2 hrule hnode hrow hgw
      obtain ⟨t, ht⟩ : ∃ t, (S.any fun y => g.rules[j].sort == y) = t := ⟨_, rfl⟩
      rw [ht] at HC hnx
      clear ht
      cases t
      · simp only [Bool.false_eq_true, if_false] at hnx
        rw [← hnx] at HRW
        clear hnx hnl
        go_wp2_with (refine HC.out.mono ?_; rintro e w3 ⟨rfl, hb3⟩; have HB3 := Lib.hid hb3; clear hb3)
        exact ⟨⟨j + 1, by go_num, by omega, row_but HRW.out (But.of_grew (F := fun _ => False) HB3.out) (fun _ _ => id), HG2.out.trans HB3.out⟩, by simp [intOf]; omega⟩
      · simp only [if_true] at hnx
        have HNX := Lib.hid hnx
        clear hnx
        obtain ⟨n, hn9⟩ : ∃ n, (g.ofTo S j).length = n := ⟨_, rfl⟩
        rw [hn9] at HRW hnl
        have HN9 := Lib.hid hn9
        clear hn9
        go_wp2_with fail
        refine HC.out.mono ?_
        rintro e w3 ⟨rfl, hb3⟩
        obtain ⟨w4, hw4⟩ : ∃ w4, w3.alloc (.cells #[.int .i64 j] 3) = w4 := ⟨_, rfl⟩
        have g4 : Grew w3 w4 := hw4 ▸ grew_alloc w3 _
        have o4 : Owns w4 w3.heap.size [.int .i64 j] 3 := hw4 ▸ Owns.alloc w3 _ _
        have HR4 := Lib.hid (row_but HRW.out (But.of_grew (F := fun _ => False) (hb3.trans g4)) fun _ _ => id)
        have HG4 := Lib.hid (HG2.out.trans (hb3.trans g4))
        have HNS := Lib.hid (owns_newsO o4)
        have H63 := Lib.hid (show n + 1 ≤ maxLen by unfold maxLen; omega)
        have H64 := Lib.hid (show (n + 1) * 8 ≤ 140737488355328 by omega)
        have HLIM := Lib.hid HG4.out.size
        clear hb3 g4 o4
        go_wp2_with (at_builtin; refine wpList_append_loose w4 rfl _ _ 23 rfl W.heap.size 3 i0 _ 1 8 Try.underlying23 HI.out HZ0.out HZ1.out HZ2.out rfl (by decide) _ n (intVs (g.ofTo S j)) rfl HR4.out ⟨w3.heap.size, 0, none⟩ 1 1 [.int .i64 j] rfl rfl HNS.out (fun u hu => by rw [List.mem_singleton.1 hu]; rfl) (by decide) H63.out H64.out HLIM.out _ rfl ?_; intro gb cap w5 hown hgrow hat hlt5; have HOWN := Lib.hid hown; have HGROW := Lib.hid hgrow; clear hown hgrow hat hlt5)
        refine ⟨⟨j + 1, by go_num, by omega, ?_, grew_loose HR4.out HG4.out HGROW.out⟩, by simp [intOf]; omega⟩
        have hlen : (g.ofTo S j ++ [(j : Int)]).length = n + 1 := by simp [HN9.out]
        unfold Hid
        rw [HNX.out, hlen, intVs_snoc]
        exact HOWN.out
    · obtain rfl : j = g.rules.length := by omega
      have HC := Lib.hid (clipInt_ok wr W.heap.size _ (g.of S) hrow.out)
      go_wp2_with (refine HC.out.mono ?_; rintro e w3 ⟨⟨u, rfl, hu⟩, rfl⟩; have HU := Lib.hid hu; clear hu)
      go_ret
      exact ⟨u, rfl, HU.out, hgw.out⟩
end Go.Proofs.Ytgdcnndmdgcjlaa

/- An append onto a row that may begin behind its block's beginning. -/
namespace Go.Proofs.Ytgdcnndmdgcjlaa
open Go.RowKit
theorem tail_form {w : World} {base e size n : Nat} {v : Value} {xs : List Value} (h : tailRow w base e size v n xs) : ∃ a c, v = .slice a n c := by
  rcases h with h | ⟨_, g, off, cur, h1, _⟩
  · rcases h.2 with ⟨h1, h0⟩ | ⟨b, cap, cur, h1, h2, h3, h4⟩
    · exact ⟨none, 0, by rw [h1, h0]⟩
    · exact ⟨_, cap, h1⟩
  · exact ⟨_, _, h1⟩
theorem tail_len {w : World} {base e size n : Nat} {v : Value} {xs : List Value} (h : tailRow w base e size v n xs) : xs.length = n * size := by
  rcases h with h | h
  · exact h.1
  · exact h.1
theorem tail_cell {w : World} {base e size n : Nat} {v : Value} {xs : List Value} (h : tailRow w base e size v n xs) (hn : 0 < n) : ∃ g off cap, v = .slice (some ⟨g, off, none⟩) n cap ∧ base ≤ g ∧ g < w.heap.size ∧ n ≤ cap ∧ ∀ (j : Nat) u, xs[j]? = some u → w.cell? ⟨g, off + j, none⟩ = some u := by
  rcases h with h | ⟨h0, g, off, cur, h1, h2, h3, h4, h5, h6⟩
  · rcases h.2 with ⟨_, h0⟩ | ⟨g, cap, cur, h1, h2, h3, h4, _⟩
    · omega
    · refine ⟨g, 0, cap, h1, h2, (Array.getElem?_eq_some_iff.1 h3).1, h4, fun j u hj => ?_⟩
      rw [Nat.zero_add]
      exact looseRow_cells h (g := g) (by rw [h1]; rfl) j u hj
  · refine ⟨g, off, n, h1, h2, (Array.getElem?_eq_some_iff.1 h3).1, Nat.le_refl _, fun j u hj => ?_⟩
    rw [← h6, List.getElem?_take] at hj
    split at hj
    · rw [cell_of_row w g (off + j) cur e (0, 0) h3]
      simpa using hj
    · cases hj
section
variable {P : Program} (w : World)
theorem run_append_tail (t ty : TypeId) (base : Nat) (e : TypeId) (i : TypeInfo) (z : Value) (size bytes : Nat) (ht : P.underlying t = some (.slice e)) (hi : P.info? e = some i) (hz : i.zero = some z)
    (hsize : i.size = size) (hby : i.bytes = bytes) (hzs : z.cells.size = size) (hsz : 0 < size)
    (v : Value) (n : Nat) (xs : List Value) (hown : tailRow w base e size v n xs)
    (ad : Addr) (m c : Nat) (news : List Value) (hl : news.length = m * size) (hnews : ∀ j u, news[j]? = some u → w.cell? (ad.add j) = some u) (h1 : ∀ u ∈ news, u.oneCell' = true)
    (hm : 0 < m) (h63 : n + m ≤ maxLen) (hbytes : (n + m) * bytes ≤ 140737488355328) (hbase : base ≤ w.heap.size) (H : Nat) (hH : w.heap.size = H) :
    ∃ g cap w', (Builtin.append_ #[t, t] ty #[v, .slice (some ad) m c]).run P w = .ok (.slice (some ⟨g, 0, none⟩) (n + m) cap) w' ∧
      looseRow w' base e size (.slice (some ⟨g, 0, none⟩) (n + m) cap) (n + m) (xs ++ news) ∧ w.grownBy w' v.ownBlock ∧ (v.ownBlock = some g ∨ g = H) ∧ g < w'.heap.size := by
  rcases hown with hown | ⟨h0, g, off, cur, rfl, h2, h3, h4, h5, h6⟩
  · exact run_append_loose w t ty base e i z size bytes ht hi hz hsize hby hzs hsz v n xs hown ad m c news hl hnews h1 hm h63 hbytes hbase H hH
  · subst hsize
    subst hby
    subst hH
    have hlen : (xs ++ news).length = (n + m) * i.size := by rw [List.length_append, h0, hl, Nat.add_mul]
    have hsmall : n + m ≤ 9223372036854775807 := by simp only [maxLen] at h63; omega
    have holds : ∀ j u, xs[j]? = some u → w.cell? ((⟨g, off, none⟩ : Addr).add j) = some u := fun j u hj => by
      rw [show (⟨g, off, none⟩ : Addr).add j = ⟨g, off + j, none⟩ by unfold Addr.add; split <;> simp_all]
      rw [← h6, List.getElem?_take] at hj
      split at hj
      · rw [cell_of_row w g (off + j) cur e (0, 0) h3]
        simpa using hj
      · cases hj
    have hr := run_append_grow (P := P) w t ty e i z ht hi hz ⟨g, off, none⟩ n n xs h0 holds ad m c news hl hnews (by omega) (by omega) (growslice_fits (by omega) hbytes)
    have hge := grownCap_ge w (n + m) n e
    have hcm : grownCap w (n + m) n e ≤ maxLen := grownCap_le_maxLen w (n + m) n e h63
    refine ⟨_, _, _, hr, ⟨hlen, .inr ⟨w.heap.size, _, _, rfl, hbase, heap_alloc_new w.drew _, hge, hcm, ?_, ?_⟩⟩, ⟨rfl, rfl, rfl, by simp, fun k hk _ => (Below.refl _ w.drew).alloc (Nat.le_refl _) _ |>.block k hk⟩, .inr rfl, by simp⟩
    · apply Nat.le_of_eq
      simp only [Array.size_append, List.size_toArray, size_zeroCells, hzs, h0, hl, ← Nat.add_mul]
      congr 1
      omega
    · simp only [Array.toList_append, List.append_assoc]
      rw [← List.append_assoc, ← hlen]
      exact List.take_left
theorem wpList_append_tail {ops : Array Oper} {rest : List Oper} {o : Oper} {a : Act} {Q : Exit → Act → World → Prop} (hgd : o.guard = none) (s x : Operand) (t : TypeId)
    (ho : o.op = .call { callee := .builtin .append, args := #[s, x], argTypes := #[t, t] })
    (base : Nat) (e : TypeId) (i : TypeInfo) (z : Value) (size bytes : Nat) (ht : P.underlying t = some (.slice e)) (hi : P.info? e = some i) (hz : i.zero = some z)
    (hsize : i.size = size) (hby : i.bytes = bytes) (hzs : z.cells.size = size) (hsz : 0 < size)
    (v : Value) (n : Nat) (xs : List Value) (hs : a.eval s = v) (hown : tailRow w base e size v n xs)
    (ad : Addr) (m c : Nat) (news : List Value) (hx : a.eval x = .slice (some ad) m c) (hl : news.length = m * size) (hnews : ∀ j u, news[j]? = some u → w.cell? (ad.add j) = some u) (h1 : ∀ u ∈ news, u.oneCell' = true)
    (hm : 0 < m) (h63 : n + m ≤ maxLen) (hbytes : (n + m) * bytes ≤ 140737488355328) (hbase : base ≤ w.heap.size) (H : Nat) (hH : w.heap.size = H)
    (h : ∀ g cap w', looseRow w' base e size (.slice (some ⟨g, 0, none⟩) (n + m) cap) (n + m) (xs ++ news) → w.grownBy w' v.ownBlock → (v.ownBlock = some g ∨ g = H) → g < w'.heap.size → wpList P ops Q rest (a.put o.dst (.slice (some ⟨g, 0, none⟩) (n + m) cap)) w') : wpList P ops Q (o :: rest) a w :=
  wpList_plain hgd fun K hK => by
    obtain ⟨g, cap, w', hr, h2, h3, h4, h5⟩ := run_append_tail (P := P) w t o.type base e i z size bytes ht hi hz hsize hby hzs hsz v n xs hown ad m c news hl hnews h1 hm h63 hbytes hbase H hH
    unfold Oper.wp execOp
    simp only [ho, resolve, invoke, builtin, Sem.run_bind, Sem.run_pure, Result.andThen_ok, List.map_toArray, List.map_cons, List.map_nil, hs, hx, hr]
    exact hK _ _ (h g cap w' h2 h3 h4 h5)
end
theorem tail_drop {w : World} {base e size n : Nat} {v : Value} {xs : List Value} (h : tailRow w base e size v (n + 1) xs) : ∃ g off cap, v = .slice (some ⟨g, off, none⟩) (n + 1) cap ∧ n + 1 ≤ cap ∧ tailRow w base e size (.slice (some ⟨g, off + size, none⟩) n n) n (xs.drop size) := by
  have hl : (xs.drop size).length = n * size := by rw [List.length_drop, tail_len h, Nat.add_mul]; omega
  have hm : (n + 1) * size = n * size + size := by rw [Nat.add_mul, Nat.one_mul]
  rcases h with h | ⟨h0, g, off, cur, h1, h2, h3, h4, h5, h6⟩
  · rcases h.2 with ⟨_, h0⟩ | ⟨g, cap, cur, h1, h2, h3, h4, h5, h6, h7⟩
    · omega
    · have hc : (n + 1) * size ≤ cap * size := Nat.mul_le_mul_right _ h4
      refine ⟨g, 0, cap, h1, h4, .inr ⟨hl, g, 0 + size, cur, rfl, h2, h3, by omega, by omega, ?_⟩⟩
      rw [← h7, List.drop_take, Nat.zero_add, hm, Nat.add_sub_cancel]
  · refine ⟨g, off, n + 1, h1, Nat.le_refl _, .inr ⟨hl, g, off + size, cur, rfl, h2, h3, by omega, by omega, ?_⟩⟩
    rw [← h6, List.drop_take, List.drop_drop, hm, Nat.add_sub_cancel]
theorem tail_zero {w : World} {base e size n g off cap : Nat} {xs : List Value} (h : tailRow w base e size (.slice (some ⟨g, off, none⟩) n cap) n xs) : tailRow w base e size (.slice (some ⟨g, off, none⟩) 0 0) 0 [] := by
  rcases h with h | ⟨h0, g', off', cur, h1, h2, h3, h4, h5, h6⟩
  · rcases h.2 with ⟨h1, _⟩ | ⟨g', cap', cur, h1, h2, h3, h4, h5, h6, h7⟩
    · cases h1
    · cases h1
      exact .inr ⟨by simp, g, 0, cur, rfl, h2, h3, Nat.zero_le _, by omega, by simp⟩
  · cases h1
    exact .inr ⟨by simp, g, off, cur, rfl, h2, h3, Nat.zero_le _, by omega, by simp⟩
def restV (wg woff rn : Nat) : Value := if rn = 0 then .slice (some ⟨wg, woff, none⟩) 0 0 else .slice (some ⟨wg, woff + 6, none⟩) rn rn
theorem restV_form (wg woff rn : Nat) : ∃ off, restV wg woff rn = .slice (some ⟨wg, off, none⟩) rn rn := by
  unfold restV
  split
  · rename_i h; subst h; exact ⟨_, rfl⟩
  · exact ⟨_, rfl⟩
def Mk.dropWait (m : Mk) : Mk := { m with waits := m.waits.tail }
theorem MkAt.dropWait {E : MkE} {m : Mk} {V : MkV} {w : World} (h : MkAt E w m V) {v : Value} {cs' : List Value} (hr : tailRow w E.base 117 6 v m.waits.tail.length cs') (hw : WaitsAt w E.base m.waits.tail cs') (hown : v.ownBlock = V.wv.ownBlock) :
    MkAt E (w.setCell ⟨E.mb, 12, none⟩ v) m.dropWait (V.withW v) ∧ Frk E m V m.dropWait (V.withW v) w (w.setCell ⟨E.mb, 12, none⟩ v) := by
  have hbx := h.box
  have hmine : ∀ c, (V.withW v).mine E m.dropWait c → V.mine E m c := by
    intro c hc
    rcases hc with hc | hc | hc | ⟨r, hr', hc⟩ | ⟨k, hk, hc⟩
    · exact .inl hc
    · exact .inr (.inl hc)
    · have hc : v.ownBlock = some c := hc
      rw [hown] at hc
      exact .inr (.inr (.inl hc))
    · exact .inr (.inr (.inr (.inl ⟨r, by cases r <;> exact hr', hc⟩)))
    · exact .inr (.inr (.inr (.inr ⟨k, hk, hc⟩)))
  have hi : ∀ r, E.ints m.dropWait r = E.ints m r := fun r => by cases r <;> rfl
  have hl : ∀ r, m.dropWait.live r → m.live r := fun r hr => by cases r <;> exact hr
  refine ⟨⟨hbx.set 12 v, fun r hr' => ?_, fun k hk => ?_, ?_, ?_, fun r1 r2 h1 h2 => h.iinj r1 r2 (hl r1 h1) (hl r2 h2), h.einj, h.lo⟩, ⟨⟨rfl, rfl, rfl, by simp [World.setCell], fun k _ hn => put_heap (a := ⟨E.mb, 12, none⟩) (fun e => hn (.inl (by have e : E.mb = k := e; exact e.symm)))⟩, fun b hb => .inl (hmine b hb), fun _ _ => rfl⟩⟩
  · rw [hi]
    have h1 := h.ints r (hl r hr')
    exact loose_put h1 (own_box h1 hbx (by decide))
  · have h1 := h.edges k hk
    exact loose_put h1 (own_box h1 hbx (by decide))
  · exact loose_put h.states (own_box h.states hbx (by decide))
  · refine ⟨cs', loose_putT hr (own_boxT hr hbx (by decide)), hw.keep ?_⟩
    exact Below.setCell (Below.refl _ _) (p := ⟨E.mb, 12, none⟩) h.lo v
end Go.Proofs.Ytgdcnndmdgcjlaa

/- lives: the chapter's examples. -/
namespace Go.Proofs.Ytgdcnndmdgcjlaa
open Go.RowKit
theorem exN_edge {s : Nat} {e : Edg} (h : e ∈ exN.edges s) : (s = 0 ∧ e = ⟨0, 0, 2⟩) ∨ (s = 2 ∧ (e = ⟨0, 0, 4⟩ ∨ e = ⟨0, 0, 5⟩)) ∨ (s = 3 ∧ e = ⟨0, 0, 1⟩) ∨ (s = 4 ∧ e = ⟨1, 0, 3⟩) ∨ (s = 5 ∧ e = ⟨1, 1, 3⟩) := by
  match s with
  | 0 => exact .inl ⟨rfl, List.mem_singleton.1 h⟩
  | 1 => exact absurd h (by simp [exN, Net.edges])
  | 2 => exact .inr (.inl ⟨rfl, by simpa [exN, Net.edges] using h⟩)
  | 3 => exact .inr (.inr (.inl ⟨rfl, List.mem_singleton.1 h⟩))
  | 4 => exact .inr (.inr (.inr (.inl ⟨rfl, List.mem_singleton.1 h⟩)))
  | 5 => exact .inr (.inr (.inr (.inr ⟨rfl, List.mem_singleton.1 h⟩)))
  | n + 6 => exact absurd h (by simp [exN, Net.edges])
theorem exN_kind {s : Nat} {e : Edg} (h : e ∈ exN.edges s) : e.kind ≠ 2 := by
  rcases exN_edge h with ⟨_, rfl⟩ | ⟨_, rfl | rfl⟩ | ⟨_, rfl⟩ | ⟨_, rfl⟩ | ⟨_, rfl⟩ <;> decide
theorem ex_a {κ : Key} {p : Pl} (h : Lv exN [0] (0, 0) (-1) κ p) : κ = none ∧ (p.2 = 0 → p.1 = 0 ∨ p.1 = 2 ∨ p.1 = 4 ∨ p.1 = 5) := by
  induction h with
  | root => exact ⟨rfl, fun _ => .inl rfl⟩
  | begin _ _ he hk => exact absurd hk (exN_kind he)
  | eps _ _ he hk hk' ih =>
    refine ⟨ih.1, fun h0 => ?_⟩
    rcases exN_edge he with ⟨_, rfl⟩ | ⟨_, rfl | rfl⟩ | ⟨hs, rfl⟩ | ⟨_, rfl⟩ | ⟨_, rfl⟩
    · exact .inr (.inl rfl)
    · exact .inr (.inr (.inl rfl))
    · exact .inr (.inr (.inr rfl))
    · have := ih.2 h0
      simp only at this
      omega
    · exact absurd rfl hk'
    · exact absurd rfl hk'
  | tok _ _ _ _ _ ih => exact ⟨ih.1, fun h0 => absurd h0 (by simp)⟩
  | back _ _ he hk => exact absurd hk (exN_kind he)
theorem ex_b : Lv exN [0] (0, 0) (-1) none (1, 1) := by
  have h0 : Lv exN [0] (0, 0) (-1) none (0, 0) := .root
  have h1 : Lv exN [0] (0, 0) (-1) none (2, 0) := .eps (e := ⟨0, 0, 2⟩) h0 (fun _ => by decide) (by simp [exN, Net.edges]) (by decide) (by decide)
  have h2 : Lv exN [0] (0, 0) (-1) none (4, 0) := .eps (e := ⟨0, 0, 4⟩) h1 (fun _ => by decide) (by simp [exN, Net.edges]) (by decide) (by decide)
  have h3 : Lv exN [0] (0, 0) (-1) none (3, 1) := .tok (e := ⟨1, 0, 3⟩) h2 (fun _ => by decide) (by simp [exN, Net.edges]) (by decide) rfl
  exact .eps (e := ⟨0, 0, 1⟩) h3 (fun _ => by decide) (by simp [exN, Net.edges]) (by decide) (by decide)
theorem ex_c : AlongIs exN [0, 1] (4, 0) 3 :=
  .inr ⟨1, by decide, .tok (e := ⟨1, 0, 3⟩) .root (fun _ => by decide) (by simp [exN, Net.edges]) (by decide) rfl⟩
theorem ex_d {κ : Key} {p : Pl} (h : Lv exN [1] (4, 0) 3 κ p) : κ = none ∧ p = (4, 0) := by
  induction h with
  | root => exact ⟨rfl, rfl⟩
  | begin _ _ he hk => exact absurd hk (exN_kind he)
  | eps _ _ he hk hk' ih =>
    obtain ⟨ih1, ih2⟩ := ih
    rw [Prod.mk.injEq] at ih2
    obtain ⟨rfl, rfl⟩ := ih2
    rw [List.mem_singleton.1 he] at hk'
    exact absurd rfl hk'
  | tok _ _ he _ hw ih =>
    obtain ⟨ih1, ih2⟩ := ih
    rw [Prod.mk.injEq] at ih2
    obtain ⟨rfl, rfl⟩ := ih2
    rw [List.mem_singleton.1 he] at hw
    simp at hw
  | back _ _ he hk => exact absurd hk (exN_kind he)
theorem ex_e : ¬ AlongIs exN [1] (4, 0) 3 := by
  rintro (⟨κ, p, h, hp⟩ | ⟨i, _, h⟩)
  · rw [(ex_d h).2] at hp; simp at hp
  · have := (ex_d h).2; simp at this
theorem intsV_one {W : World} {b n : Nat} {l : List Int} (hn : n = l.length) (h : Owns W b (l.map fun i => .int .i64 i) 3) : IntsV W W.heap.size (.slice (some ⟨b, 0, none⟩) n n) l := ⟨_, _, by rw [hn], ints_one h.lt h⟩
theorem NetAt.forms {W : World} {lim : Nat} {n0 n1 n2 n3 n4 : Value} {N : Net} (h : NetAt W lim n0 n1 n2 n3 n4 N) : ∃ a0 k0 a1 k1 a2 k2 a3 k3 a4 k4, n0 = .slice a0 N.states.length k0 ∧ n1 = .slice a1 N.starts.length k1 ∧ n2 = .slice a2 N.stops.length k2 ∧ n3 = .slice a3 N.preds.length k3 ∧ n4 = .slice a4 N.decisions.length k4 := by
  obtain ⟨a0, k0, e0, _⟩ := h.states
  obtain ⟨a1, k1, e1, _⟩ := h.starts
  obtain ⟨a2, k2, e2, _⟩ := h.stops
  obtain ⟨a3, k3, e3, _⟩ := h.preds
  obtain ⟨a4, k4, e4, _⟩ := h.decisions
  exact ⟨a0, k0, a1, k1, a2, k2, a3, k3, a4, k4, e0, e1, e2, e3, e4⟩
set_option maxHeartbeats 4000000 in
set_option maxRecDepth 40000 in
theorem lives13_ok (W : World) : Calls Try.prog 7 #[] W fun e W' => e = .returned (.bool true) ∧ Grew W W' := by
  go_enter Try.func7, Try.ntmps7
  go_wp2_with fail
  refine (net13_ok _).mono ?_
  rintro e w1 ⟨n0, n1, n2, n3, n4, rfl, hN, hg1⟩
  obtain ⟨w2, hw2⟩ : ∃ w2, w1.alloc (.cells #[.int .i64 0] 3) = w2 := ⟨_, rfl⟩
  have g2 : Grew w1 w2 := hw2 ▸ grew_alloc w1 _
  have o2 : Owns w2 w1.heap.size [.int .i64 0] 3 := hw2 ▸ Owns.alloc w1 _ _
  have HC := Lib.hid (show Calls Try.prog 9 #[.agg #[n0, n1, n2, n3, n4], .int .i64 0, .int .i64 1, .slice (some ⟨w1.heap.size, 0, none⟩) 1 1] w2 (WaysAt exN [0] 0 1 w2) from ways_ok exN exN_small exN_may [0] (by decide) 0 1 (by decide) (by decide) w2 n0 n1 n2 n3 n4 (.slice (some ⟨w1.heap.size, 0, none⟩) 1 1) ((hN.keep g2).mono g2.size) (intsV_one rfl o2))
  have HG := Lib.hid (hg1.trans g2)
  clear hN hg1 g2 o2
  go_wp2_with fail
  refine HC.out.mono ?_
  rintro e w3 ⟨ob, g, rfl, hgv, hob, hlo, hg3⟩
  have q0 : g 0 = false := by
    cases hq : g 0
    · rfl
    · have := (ex_a ((hgv 0).1 hq)).2 rfl
      simp at this
  have q1 : g 1 = true := (hgv 1).2 ex_b
  have o3 : Owns w3 ob [.bool (g 0), .bool (g 1)] 4 := hob
  rw [q0, q1] at o3
  have x0 := o3.cell_at (i := 0) rfl
  have x1 := o3.cell_at (i := 1) rfl
  have HG3 := Lib.hid (HG.out.trans hg3)
  have HN3 := Lib.hid (net13_ok w3)
  clear hgv hob hlo hg3 o3 HC HG q0 q1 hw2
  go_wp2_with fail
  refine HN3.out.mono ?_
  rintro e w4 ⟨m0, m1, m2, m3, m4, rfl, hN, hg4⟩
  obtain ⟨w5, hw5⟩ : ∃ w5, w4.alloc (.cells #[.int .i64 0, .int .i64 1] 3) = w5 := ⟨_, rfl⟩
  have g5 : Grew w4 w5 := hw5 ▸ grew_alloc w4 _
  have o5 : Owns w5 w4.heap.size [.int .i64 0, .int .i64 1] 3 := hw5 ▸ Owns.alloc w4 _ _
  have HC := Lib.hid (show Calls Try.prog 13 #[.agg #[m0, m1, m2, m3, m4], .int .i64 2, .int .i64 0, .slice (some ⟨w4.heap.size, 0, none⟩) 2 2] w5 (AlongAt exN [0, 1] 4 3 w5) from
    along_ok exN exN_small exN_may [0, 1] (by decide) 2 0 (by decide) (by decide) (by decide) w5 m0 m1 m2 m3 m4 (.slice (some ⟨w4.heap.size, 0, none⟩) 2 2) ((hN.keep g5).mono g5.size) (intsV_one rfl o5))
  have HG5 := Lib.hid ((HG3.out.trans hg4).trans g5)
  clear hN hg4 g5 o5 HN3 HG3 x0 x1
  go_wp2_with fail
  refine HC.out.mono ?_
  rintro e w6 ⟨c, rfl, hc, hg6⟩
  have hct : c = true := hc.2 ex_c
  subst hct
  have HG6 := Lib.hid (HG5.out.trans hg6)
  have HN6 := Lib.hid (net13_ok w6)
  clear hc hg6 HC HG5 hw5
  go_wp2_with fail
  refine HN6.out.mono ?_
  rintro e w7 ⟨l0, l1, l2, l3, l4, rfl, hN, hg7⟩
  obtain ⟨w8, hw8⟩ : ∃ w8, w7.alloc (.cells #[.int .i64 1] 3) = w8 := ⟨_, rfl⟩
  have g8 : Grew w7 w8 := hw8 ▸ grew_alloc w7 _
  have o8 : Owns w8 w7.heap.size [.int .i64 1] 3 := hw8 ▸ Owns.alloc w7 _ _
  have HC := Lib.hid (show Calls Try.prog 13 #[.agg #[l0, l1, l2, l3, l4], .int .i64 2, .int .i64 0, .slice (some ⟨w7.heap.size, 0, none⟩) 1 1] w8 (AlongAt exN [1] 4 3 w8) from
    along_ok exN exN_small exN_may [1] (by decide) 2 0 (by decide) (by decide) (by decide) w8 l0 l1 l2 l3 l4 (.slice (some ⟨w7.heap.size, 0, none⟩) 1 1) ((hN.keep g8).mono g8.size) (intsV_one rfl o8))
  have HG8 := Lib.hid ((HG6.out.trans hg7).trans g8)
  clear hN hg7 g8 o8 HN6 HG6
  go_wp2_with fail
  refine HC.out.mono ?_
  rintro e w9 ⟨c, rfl, hc, hg9⟩
  have hcf : c = false := by
    cases c
    · rfl
    · exact absurd (hc.1 rfl) ex_e
  subst hcf
  have HG9 := Lib.hid (HG8.out.trans hg9)
  clear hc hg9 HC HG8 hw8
  go_wp2_with fail
  go_ret
  exact ⟨rfl, HG9.out⟩
end Go.Proofs.Ytgdcnndmdgcjlaa

/- Ways and Along as fixed functions of the net and the tokens; the law of joining on them. -/
namespace Go.Proofs.Ytgdcnndmdgcjlaa
open Go.RowKit
open Classical in
noncomputable def wayB (N : Net) (w : List Int) (f t i : Nat) : Bool := decide (Lv N w (f, 0) (-1) none (t, i))
open Classical in
noncomputable def alongB (N : Net) (w : List Int) (t : Nat) (o : Int) : Bool := decide (AlongIs N w (t, 0) o)
noncomputable def wayCells (N : Net) (w : List Int) (f t : Nat) : List Value := (List.range (w.length + 1)).map fun i => .bool (wayB N w f t i)
theorem wayB_iff {N : Net} {w : List Int} {f t i : Nat} : wayB N w f t i = true ↔ Lv N w (f, 0) (-1) none (t, i) := by unfold wayB; exact @decide_eq_true_iff _ (Classical.propDecidable _)
theorem alongB_iff {N : Net} {w : List Int} {t : Nat} {o : Int} : alongB N w t o = true ↔ AlongIs N w (t, 0) o := by unfold alongB; exact @decide_eq_true_iff _ (Classical.propDecidable _)
theorem bool_iff {a b : Bool} (h : a = true ↔ b = true) : a = b := by cases a <;> cases b <;> simp_all
def WayR (N : Net) (w : List Int) (f t : Nat) (v : Value) (W' : World) : Prop := ∃ ob, v = .tuple #[.slice (some ⟨ob, 0, none⟩) (w.length + 1) (w.length + 1), .int .i64 0] ∧ Owns W' ob (wayCells N w f t) 4
theorem ways_fix {N : Net} {w : List Int} {f t : Nat} {W W' : World} {e : Ending} (h : WaysAt N w f t W e W') : (∃ v, e = .returned v ∧ WayR N w f t v W') ∧ Grew W W' := by
  obtain ⟨ob, g, rfl, hg, ho, _, hG⟩ := h
  have : g = wayB N w f t := funext fun i => bool_iff ((hg i).trans wayB_iff.symm)
  subst this
  exact ⟨⟨_, rfl, ob, rfl, ho⟩, hG⟩
theorem along_fix {N : Net} {w : List Int} {t : Nat} {o : Int} {W W' : World} {e : Ending} (h : AlongAt N w t o W e W') : e = .returned (.bool (alongB N w t o)) ∧ Grew W W' := by
  obtain ⟨b, rfl, hb, hG⟩ := h
  have : b = alongB N w t o := bool_iff (hb.trans alongB_iff.symm)
  subst this
  exact ⟨rfl, hG⟩
theorem wayCells_at {N : Net} {w : List Int} {f t : Nat} {W : World} {ob : Nat} (h : Owns W ob (wayCells N w f t) 4) {i : Nat} (hi : i < w.length + 1) : W.cell? ⟨ob, i, none⟩ = some (.bool (wayB N w f t i)) := by
  refine h.cell_at ?_
  unfold wayCells
  rw [List.getElem?_map, List.getElem?_range hi]
  rfl
end Go.Proofs.Ytgdcnndmdgcjlaa

/- Copies of numbers, whether they were left; whether flags are the same. -/
namespace Go.Proofs.Ytgdcnndmdgcjlaa
open Go.RowKit
def BoolsV (W : World) (v : Value) (n : Nat) (h : Nat → Bool) : Prop := (n = 0 ∧ ∃ c, v = .slice none 0 c) ∨ ∃ b c, v = .slice (some ⟨b, 0, none⟩) n c ∧ b < W.heap.size ∧ ∀ k, k < n → W.cell? ⟨b, k, none⟩ = some (.bool (h k))
set_option maxHeartbeats 2000000 in
theorem Flags5_ok (n : Nat) (hn : n ≤ 1000) (h : Nat → Bool) (W : World) (u v : Value) (hu : BoolsV W u n h) (hv : BoolsV W v n h) : Calls Try.prog 30 #[u, v] W fun e W' => e = .returned (.bool true) ∧ Grew W W' := by
  obtain ⟨ua, uc, rfl, hA⟩ : ∃ a c, u = .slice a n c ∧ ∀ k, k < n → ∃ b, a = some ⟨b, 0, none⟩ ∧ b < W.heap.size ∧ W.cell? ⟨b, k, none⟩ = some (.bool (h k)) := by
    rcases hu with ⟨rfl, c, rfl⟩ | ⟨b, c, rfl, h1, h2⟩
    · exact ⟨none, c, rfl, fun k hk => absurd hk (by omega)⟩
    · exact ⟨_, c, rfl, fun k hk => ⟨b, rfl, h1, h2 k hk⟩⟩
  obtain ⟨va, vc, rfl, hB⟩ : ∃ a c, v = .slice a n c ∧ ∀ k, k < n → ∃ b, a = some ⟨b, 0, none⟩ ∧ b < W.heap.size ∧ W.cell? ⟨b, k, none⟩ = some (.bool (h k)) := by
    rcases hv with ⟨rfl, c, rfl⟩ | ⟨b, c, rfl, h1, h2⟩
    · exact ⟨none, c, rfl, fun k hk => absurd hk (by omega)⟩
    · exact ⟨_, c, rfl, fun k hk => ⟨b, rfl, h1, h2 k hk⟩⟩
  have HA := Lib.hid hA
  have HB := Lib.hid hB
  clear hA hB hu hv
  go_enter Try.func30, Try.ntmps30
  go_wp2_with fail
  go_loopw [5] (fun i wr => ∃ (j : Nat), i = .int .i64 j ∧ j ≤ n ∧ Hid (Grew W wr)) (fun i _ => n - (intOf i).toNat)
  case atStart => exact ⟨0, rfl, by omega, Grew.refl _⟩
  case round =>
    obtain ⟨j, rfl, hj, hg⟩ := hrel
    by_cases hlt : j < n
    · obtain ⟨b, rfl, hb, hc⟩ := HA.out j hlt
      obtain ⟨b2, rfl, hb2, hc2⟩ := HB.out j hlt
      have c1 := (hg.out.cells _ j hb).trans hc
      have c2 := (hg.out.cells _ j hb2).trans hc2
      have l1 : b < wr.heap.size := Nat.lt_of_lt_of_le hb hg.out.size
      have l2 : b2 < wr.heap.size := Nat.lt_of_lt_of_le hb2 hg.out.size
      generalize h j = x at *
      clear hc hc2
      go_wp2_with fail
      go_quiet (fail)
      go_wp2_with fail
      have hb3 := drewN_below wr nq
      exact ⟨⟨j + 1, by go_num, by omega, hg.out.trans hb3⟩, by simp [intOf]; omega⟩
    · obtain rfl : j = n := by omega
      go_wp2_with fail
      go_ret
      exact ⟨rfl, hg.out⟩
theorem Flags13_ok (n : Nat) (hn : n ≤ 1000) (h : Nat → Bool) (W : World) (u v : Value) (hu : BoolsV W u n h) (hv : BoolsV W v n h) : Calls Try.prog 12 #[u, v] W fun e W' => e = .returned (.bool true) ∧ Grew W W' := by
  have HC := Lib.hid (Flags5_ok n hn h W u v hu hv)
  clear hv hu
  go_enter Try.func12, Try.ntmps12
  go_wp2_with (refine HC.out.mono ?_; rintro e w1 ⟨rfl, hg⟩; have HG := Lib.hid hg; clear hg)
  go_ret
  exact ⟨rfl, HG.out⟩
end Go.Proofs.Ytgdcnndmdgcjlaa
