/- Whether a grammar is more than is gone through: the further functions. -/
import Derived.Test.YtnopnihdobedcaaGreat
import Derived.BigQuiet
namespace Go.Proofs.Ytnopnihdobedcaa
open Go.RowKit

/-- what is known of a grammar that is not too great -/
structure Gr.Fair4 (g : Gr) : Prop where
  len : g.rules.length ≤ 80
  name : g.name.size ≤ 200
  rule : ∀ i (h : i < g.rules.length), g.rules[i].body.total ≤ 3000 ∧ g.rules[i].name.size ≤ 200

def Fair4To (g : Gr) (j : Nat) : Prop := ∀ i (h : i < g.rules.length), i < j → g.rules[i].body.total ≤ 3000 ∧ g.rules[i].name.size ≤ 200

theorem fair4_next {g : Gr} {j : Nat} (h : Fair4To g j) (hj : j < g.rules.length) (h1 : g.rules[j].body.total ≤ 3000) (h2 : g.rules[j].name.size ≤ 200) : Fair4To g (j + 1) := by
  intro i hi hlt
  by_cases e : i = j
  · subst e; exact ⟨h1, h2⟩
  · exact h i hi (by omega)

set_option maxHeartbeats 1000000 in
theorem great4_ok (g : Gr) (W : World) (v0 v1 v2 v3 : Value) (hG : GrAt W W.heap.size (some v0) (some v1) (some v2) (some v3) g) :
    Calls Try.prog 34 #[.agg #[v0, v1, v2, v3]] W fun e W' => BoolTells g.Fair4 e ∧ Below W.heap.size W W' := by
  obtain ⟨h1, hs, h2, h3, h4, h5, ra, rc, h6, h7, h8⟩ := hG
  obtain rfl := Option.some.inj h1
  obtain rfl := Option.some.inj h2
  obtain rfl := Option.some.inj h3
  obtain rfl := Option.some.inj h6
  clear h1 h2 h3 h4 h5 h6
  unfold reachN at hs h7
  by_cases hlen : g.rules.length ≤ 80
  · go_enter Try.func34, Try.ntmps34
    go_wp2
    go_loopw [3] (fun i wr => ∃ (j : Nat), i = .int .i64 j ∧ j ≤ g.rules.length ∧ Hid (Fair4To g j) ∧ Below W.heap.size W wr ∧ W.heap.size < wr.heap.size ∧ wr.cell? ⟨W.heap.size, 0, none⟩ = some (.string g.name) ∧ wr.cell? ⟨W.heap.size, 3, none⟩ = some (.slice ra g.rules.length rc)) (fun i _ => g.rules.length - (intOf i).toNat)
    case atStart =>
      refine ⟨0, rfl, by omega, fun i hi h => absurd h (by omega), ?_, by simp, ?_, ?_⟩
      · exact (Below.refl _ _).alloc (Nat.le_refl _) _
      · simp [go_sem]
      · simp [go_sem]
    case round =>
      obtain ⟨j, rfl, hj, hf, hbw, hsz, hbox0, hbox⟩ := hrel
      by_cases hlt : j < g.rules.length
      · obtain ⟨b, off, rfl, hb, hrule⟩ := (h8.keep hbw).get hlt
        simp only [Nat.zero_add] at hrule
        obtain ⟨u2, u3, u4, u5, u6, e0, e1, e2, e3, e4, e5, e6, e7, e8, e9, hrule, hnode⟩ := hrule.vals
        have hrs := hrule.2.1
        unfold reachN at hrs
        have HS := Lib.hid (great3_ok _ wr _ _ _ _ _ (hnode.mono hbw.size))
        clear hrule hnode h8
        by_cases h200 : g.rules[j].name.size ≤ 200
        · go_wp2_with (go_at_call 66; refine HS.out.mono ?_; rintro e w' ⟨(rfl | ⟨rfl, ht⟩), hb2⟩ <;> (have ec : ∀ o, w'.cell? ⟨b, o, none⟩ = wr.cell? ⟨b, o, none⟩ := (fun o => hb2.cell (p := ⟨b, o, none⟩) (by show b < _; omega)); have eb : w'.cell? ⟨W.heap.size, 3, none⟩ = wr.cell? ⟨W.heap.size, 3, none⟩ := hb2.cell hsz))
          all_goals first
            | (go_ret; exact ⟨.inl rfl, hbw.trans (hb2.mono (by omega))⟩)
            | exact ⟨⟨j + 1, by go_num, by omega, fair4_next hf hlt ht h200, hbw.trans (hb2.mono (by omega)), by have := hb2.size; omega, by rw [hb2.cell hsz]; exact hbox0, by rw [hb2.cell hsz]; exact hbox⟩, by simp [intOf]; omega⟩
        · go_wp2_with (go_at_call 66; refine HS.out.mono ?_; rintro e w' ⟨(rfl | ⟨rfl, ht⟩), hb2⟩ <;> (have ec : ∀ o, w'.cell? ⟨b, o, none⟩ = wr.cell? ⟨b, o, none⟩ := (fun o => hb2.cell (p := ⟨b, o, none⟩) (by show b < _; omega)); have eb : w'.cell? ⟨W.heap.size, 3, none⟩ = wr.cell? ⟨W.heap.size, 3, none⟩ := hb2.cell hsz))
          all_goals (go_ret; exact ⟨.inl rfl, hbw.trans (hb2.mono (by omega))⟩)
      · clear h8
        go_wp2_with fail
        go_ret
        refine ⟨boolTells_mk _ fun h => ⟨hlen, by simp at h; omega, fun i hi => hf.out i hi (by omega)⟩, hbw⟩
  · go_enter Try.func34, Try.ntmps34
    go_wp2
    go_ret
    exact ⟨.inl rfl, (Below.refl _ _).alloc (Nat.le_refl _) _⟩

def Gr.cnts (g : Gr) (j : Nat) : Nat := Nd.cnts ((g.rules.take j).map (·.body))
theorem Gr.cnts_next (g : Gr) (j : Nat) (h : j < g.rules.length) : g.cnts (j + 1) = g.cnts j + g.rules[j].body.cnt := by
  unfold Gr.cnts
  rw [List.take_succ_eq_append_getElem h, List.map_append, List.map_cons, List.map_nil, Nd.cnts_snoc]
/-- what is known of a grammar that is gone through -/
structure Gr.Fair (g : Gr) : Prop where
  len : g.rules.length ≤ 20
  name : g.name.size ≤ 200
  rule : ∀ i (h : i < g.rules.length), g.rules[i].body.total ≤ 3000 ∧ g.rules[i].name.size ≤ 200
  cnt : g.cnts g.rules.length ≤ 500

set_option maxHeartbeats 1000000 in
theorem great5_ok (g : Gr) (W : World) (v0 v1 v2 v3 : Value) (hG : GrAt W W.heap.size (some v0) (some v1) (some v2) (some v3) g) :
    Calls Try.prog 9 #[.agg #[v0, v1, v2, v3]] W fun e W' => BoolTells g.Fair e ∧ Below W.heap.size W W' := by
  have hB : Below W.heap.size W (W.alloc (.cells #[v0, v1, v2, v3] 26)) := (Below.refl _ _).alloc (Nat.le_refl _) _
  have hS := Lib.hid (great4_ok g (W.alloc (.cells #[v0, v1, v2, v3] 26)) v0 v1 v2 v3 ((hG.keep hB).mono hB.size))
  have HB := Lib.hid hB
  clear hB
  obtain ⟨h1, hs, h2, h3, h4, h5, ra, rc, h6, h7, h8⟩ := hG
  obtain rfl := Option.some.inj h1
  obtain rfl := Option.some.inj h2
  obtain rfl := Option.some.inj h3
  obtain rfl := Option.some.inj h6
  clear h1 h2 h3 h4 h5 h6
  unfold reachN at hs h7
  by_cases hlen : g.rules.length ≤ 20
  · go_enter Try.func9, Try.ntmps9
    go_wp2_with (go_at_call 34; refine hS.out.mono ?_; rintro e w' ⟨(rfl | ⟨rfl, ht⟩), hb2⟩ <;> (have eb : ∀ o, w'.cell? ⟨W.heap.size, o, none⟩ = (W.alloc (.cells #[.string g.name, .int .i64 g.bound, .int .i64 g.states, .slice ra g.rules.length rc] 26)).cell? ⟨W.heap.size, o, none⟩ := (fun o => hb2.cell (p := ⟨W.heap.size, o, none⟩) (by show W.heap.size < _; simp)); have HB2 := Lib.hid hb2; clear hb2))
    · go_ret
      exact ⟨.inl rfl, HB.out.trans (HB2.out.mono (by simp))⟩
    · have hf := Lib.hid ht
      have hbw : Below W.heap.size W w' := HB.out.trans (HB2.out.mono (by simp))
      have hsz : W.heap.size < w'.heap.size := by have := HB2.out.size; simp at this; omega
      go_loopw [3, 4] (fun v i wr => ∃ (q j : Nat), v = .int .i64 q ∧ i = .int .i64 j ∧ j ≤ g.rules.length ∧ Hid (q = g.cnts j) ∧ q ≤ j * 3000 ∧ Below W.heap.size W wr ∧ W.heap.size < wr.heap.size ∧ wr.cell? ⟨W.heap.size, 3, none⟩ = some (.slice ra g.rules.length rc)) (fun _ i _ => g.rules.length - (intOf i).toNat)
      case atStart =>
        refine ⟨0, 0, rfl, rfl, by omega, rfl, by omega, hbw, hsz, ?_⟩
        rw [eb]
        simp [go_sem]
      case round =>
        clear eb
        obtain ⟨q, j, rfl, rfl, hj, hq, hq1, hbw2, hsz2, hbox⟩ := hrel
        by_cases hlt : j < g.rules.length
        · obtain ⟨b, off, rfl, hb, hrule⟩ := (h8.keep hbw2).get hlt
          simp only [Nat.zero_add] at hrule
          obtain ⟨u2, u3, u4, u5, u6, e0, e1, e2, e3, e4, e5, e6, e7, e8, e9, hrule, hnode⟩ := hrule.vals
          have hc : g.rules[j].body.cnt ≤ 3000 := Nat.le_trans (Nd.cnt_le_total _) (hf.out.rule j hlt).1
          have HS := Lib.hid (many_ok _ wr _ _ _ _ _ (by omega) (hnode.mono hbw2.size))
          clear hrule hnode h8
          go_wp2_with (go_at_call 35; refine HS.out.mono ?_; rintro e w2 ⟨rfl, hb2⟩)
          exact ⟨⟨q + g.rules[j].body.cnt, j + 1, by go_num, by go_num, by omega, by have := hq.out; unfold Hid; rw [g.cnts_next j hlt, this], by omega, hbw2.trans (hb2.mono (by omega)), by have := hb2.size; omega, by rw [hb2.cell hsz2]; exact hbox⟩, by simp [intOf]; omega⟩
        · clear h8
          go_wp2_with fail
          go_ret
          refine ⟨boolTells_mk _ fun h => ?_, hbw2⟩
          have e1 := hq.out
          have e2 : j = g.rules.length := by omega
          simp at h
          exact ⟨hlen, hf.out.name, hf.out.rule, by rw [← e2, ← e1]; omega⟩
  · go_enter Try.func9, Try.ntmps9
    go_wp2_with (go_at_call 34; refine hS.out.mono ?_; rintro e w' ⟨(rfl | ⟨rfl, ht⟩), hb2⟩ <;> (have eb : ∀ o, w'.cell? ⟨W.heap.size, o, none⟩ = (W.alloc (.cells #[.string g.name, .int .i64 g.bound, .int .i64 g.states, .slice ra g.rules.length rc] 26)).cell? ⟨W.heap.size, o, none⟩ := (fun o => hb2.cell (p := ⟨W.heap.size, o, none⟩) (by show W.heap.size < _; simp)); have HB2 := Lib.hid hb2; clear hb2))
    all_goals (go_ret; exact ⟨.inl rfl, HB.out.trans (HB2.out.mono (by simp))⟩)
end Go.Proofs.Ytnopnihdobedcaa
