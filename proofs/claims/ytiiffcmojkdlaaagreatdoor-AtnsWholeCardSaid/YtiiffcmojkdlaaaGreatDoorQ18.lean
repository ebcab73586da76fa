/- Whether a grammar is more than is gone through: the further functions. -/
import Derived.BigQuiet
import Derived.Test.YtiiffcmojkdlaaaGreatDoorQ17
namespace Go.Proofs.YtiiffcmojkdlaaaGreatDoor
open Go.RowKit

/-- what is known of a grammar that is not too great -/
structure Gr.Fair4 (g : Gr) : Prop where
  len : g.rules.length ≤ 80
  name : g.name.size ≤ 200
  rule : ∀ i (h : i < g.rules.length), g.rules[i].body.total ≤ 3000 ∧ g.rules[i].name.size ≤ 200

def Fair4To (g : Gr) (j : Nat) : Prop := ∀ i (h : i < g.rules.length), i < j → g.rules[i].body.total ≤ 3000 ∧ g.rules[i].name.size ≤ 200

theorem fair4_next {g : Gr} {j : Nat} (h : Fair4To g j) (hj : j < g.rules.length) (h1 : g.rules[j].body.total ≤ 3000) (h2 : g.rules[j].name.size ≤ 200) : Fair4To g (j + 1) := by
  intro i hi hlt
  by_cases e : i = j
  · subst e; exact ⟨h1, h2⟩
  · exact h i hi (by omega)

set_option maxHeartbeats 1000000 in
theorem great4_ok (g : Gr) (W : World) (v0 v1 v2 v3 : Value) (hG : GrAt W W.heap.size (some v0) (some v1) (some v2) (some v3) g) :
    Calls Tryz.prog 10 #[.agg #[v0, v1, v2, v3]] W fun e W' => BoolTells g.Fair4 e ∧ Below W.heap.size W W' := by
  obtain ⟨h1, hs, h2, h3, h4, h5, ra, rc, h6, h7, h8⟩ := hG
  obtain rfl := Option.some.inj h1
  obtain rfl := Option.some.inj h2
  obtain rfl := Option.some.inj h3
  obtain rfl := Option.some.inj h6
  clear h1 h2 h3 h4 h5 h6
  unfold reachN at hs h7
  by_cases hlen : g.rules.length ≤ 80
  · go_enter Tryz.func10, Tryz.ntmps10
    go_wp2
    go_loopw [3] (fun i wr => ∃ (j : Nat), i = .int .i64 j ∧ j ≤ g.rules.length ∧ Hid (Fair4To g j) ∧ Below W.heap.size W wr ∧ W.heap.size < wr.heap.size ∧ wr.cell? ⟨W.heap.size, 0, none⟩ = some (.string g.name) ∧ wr.cell? ⟨W.heap.size, 3, none⟩ = some (.slice ra g.rules.length rc)) (fun i _ => g.rules.length - (intOf i).toNat)
    case atStart =>
      refine ⟨0, rfl, by omega, fun i hi h => absurd h (by omega), ?_, by simp, ?_, ?_⟩
      · exact (Below.refl _ _).alloc (Nat.le_refl _) _
      · simp [go_sem]
      · simp [go_sem]
    case round =>
      obtain ⟨j, rfl, hj, hf, hbw, hsz, hbox0, hbox⟩ := hrel
      by_cases hlt : j < g.rules.length
      · obtain ⟨b, off, rfl, hb, hrule⟩ := (h8.keep hbw).get hlt
        simp only [Nat.zero_add] at hrule
        obtain ⟨u2, u3, u4, u5, u6, e0, e1, e2, e3, e4, e5, e6, e7, e8, e9, hrule, hnode⟩ := hrule.vals
        have hrs := hrule.2.1
        unfold reachN at hrs
        have HS := Lib.hid (great3_ok _ wr _ _ _ _ _ (hnode.mono hbw.size))
        clear hrule hnode h8
        by_cases h200 : g.rules[j].name.size ≤ 200
        · go_wp2_with (go_at_call 28; refine HS.out.mono ?_; rintro e w' ⟨(rfl | ⟨rfl, ht⟩), hb2⟩ <;> (have ec : ∀ o, w'.cell? ⟨b, o, none⟩ = wr.cell? ⟨b, o, none⟩ := (fun o => hb2.cell (p := ⟨b, o, none⟩) (by show b < _; omega)); have eb : w'.cell? ⟨W.heap.size, 3, none⟩ = wr.cell? ⟨W.heap.size, 3, none⟩ := hb2.cell hsz))
          all_goals first
            | (go_ret; exact ⟨.inl rfl, hbw.trans (hb2.mono (by omega))⟩)
            | exact ⟨⟨j + 1, by go_num, by omega, fair4_next hf hlt ht h200, hbw.trans (hb2.mono (by omega)), by have := hb2.size; omega, by rw [hb2.cell hsz]; exact hbox0, by rw [hb2.cell hsz]; exact hbox⟩, by simp [intOf]; omega⟩
        · go_wp2_with (go_at_call 28; refine HS.out.mono ?_; rintro e w' ⟨(rfl | ⟨rfl, ht⟩), hb2⟩ <;> (have ec : ∀ o, w'.cell? ⟨b, o, none⟩ = wr.cell? ⟨b, o, none⟩ := (fun o => hb2.cell (p := ⟨b, o, none⟩) (by show b < _; omega)); have eb : w'.cell? ⟨W.heap.size, 3, none⟩ = wr.cell? ⟨W.heap.size, 3, none⟩ := hb2.cell hsz))
          all_goals (go_ret; exact ⟨.inl rfl, hbw.trans (hb2.mono (by omega))⟩)
      · clear h8
        go_wp2_with fail
        go_ret
        refine ⟨boolTells_mk _ fun h => ⟨hlen, by simp at h; omega, fun i hi => hf.out i hi (by omega)⟩, hbw⟩
  · go_enter Tryz.func10, Tryz.ntmps10
    go_wp2
    go_ret
    exact ⟨.inl rfl, (Below.refl _ _).alloc (Nat.le_refl _) _⟩

def Gr.cnts (g : Gr) (j : Nat) : Nat := Nd.cnts ((g.rules.take j).map (·.body))
theorem Gr.cnts_next (g : Gr) (j : Nat) (h : j < g.rules.length) : g.cnts (j + 1) = g.cnts j + g.rules[j].body.cnt := by
  unfold Gr.cnts
  rw [List.take_succ_eq_append_getElem h, List.map_append, List.map_cons, List.map_nil, Nd.cnts_snoc]
/-- what is known of a grammar that is gone through -/
structure Gr.Fair (g : Gr) : Prop where
  len : g.rules.length ≤ 20
  name : g.name.size ≤ 200
  rule : ∀ i (h : i < g.rules.length), g.rules[i].body.total ≤ 3000 ∧ g.rules[i].name.size ≤ 200
  cnt : g.cnts g.rules.length ≤ 500

set_option maxHeartbeats 1000000 in
theorem great5_ok (g : Gr) (W : World) (v0 v1 v2 v3 : Value) (hG : GrAt W W.heap.size (some v0) (some v1) (some v2) (some v3) g) :
    Calls Tryz.prog 4 #[.agg #[v0, v1, v2, v3]] W fun e W' => BoolTells g.Fair e ∧ Below W.heap.size W W' := by
  have hB : Below W.heap.size W (W.alloc (.cells #[v0, v1, v2, v3] 26)) := (Below.refl _ _).alloc (Nat.le_refl _) _
  have hS := Lib.hid (great4_ok g (W.alloc (.cells #[v0, v1, v2, v3] 26)) v0 v1 v2 v3 ((hG.keep hB).mono hB.size))
  have HB := Lib.hid hB
  clear hB
  obtain ⟨h1, hs, h2, h3, h4, h5, ra, rc, h6, h7, h8⟩ := hG
  obtain rfl := Option.some.inj h1
  obtain rfl := Option.some.inj h2
  obtain rfl := Option.some.inj h3
  obtain rfl := Option.some.inj h6
  clear h1 h2 h3 h4 h5 h6
  unfold reachN at hs h7
  by_cases hlen : g.rules.length ≤ 20
  · go_enter Tryz.func4, Tryz.ntmps4
    go_wp2_with (go_at_call 10; refine hS.out.mono ?_; rintro e w' ⟨(rfl | ⟨rfl, ht⟩), hb2⟩ <;> (have eb : ∀ o, w'.cell? ⟨W.heap.size, o, none⟩ = (W.alloc (.cells #[.string g.name, .int .i64 g.bound, .int .i64 g.states, .slice ra g.rules.length rc] 26)).cell? ⟨W.heap.size, o, none⟩ := (fun o => hb2.cell (p := ⟨W.heap.size, o, none⟩) (by show W.heap.size < _; simp)); have HB2 := Lib.hid hb2; clear hb2))
    · go_ret
      exact ⟨.inl rfl, HB.out.trans (HB2.out.mono (by simp))⟩
    · have hf := Lib.hid ht
      have hbw : Below W.heap.size W w' := HB.out.trans (HB2.out.mono (by simp))
      have hsz : W.heap.size < w'.heap.size := by have := HB2.out.size; simp at this; omega
      go_loopw [3, 4] (fun v i wr => ∃ (q j : Nat), v = .int .i64 q ∧ i = .int .i64 j ∧ j ≤ g.rules.length ∧ Hid (q = g.cnts j) ∧ q ≤ j * 3000 ∧ Below W.heap.size W wr ∧ W.heap.size < wr.heap.size ∧ wr.cell? ⟨W.heap.size, 3, none⟩ = some (.slice ra g.rules.length rc)) (fun _ i _ => g.rules.length - (intOf i).toNat)
      case atStart =>
        refine ⟨0, 0, rfl, rfl, by omega, rfl, by omega, hbw, hsz, ?_⟩
        rw [eb]
        simp [go_sem]
      case round =>
        clear eb
        obtain ⟨q, j, rfl, rfl, hj, hq, hq1, hbw2, hsz2, hbox⟩ := hrel
        by_cases hlt : j < g.rules.length
        · obtain ⟨b, off, rfl, hb, hrule⟩ := (h8.keep hbw2).get hlt
          simp only [Nat.zero_add] at hrule
          obtain ⟨u2, u3, u4, u5, u6, e0, e1, e2, e3, e4, e5, e6, e7, e8, e9, hrule, hnode⟩ := hrule.vals
          have hc : g.rules[j].body.cnt ≤ 3000 := Nat.le_trans (Nd.cnt_le_total _) (hf.out.rule j hlt).1
          have HS := Lib.hid (many_ok _ wr _ _ _ _ _ (by omega) (hnode.mono hbw2.size))
          clear hrule hnode h8
          go_wp2_with (go_at_call 11; refine HS.out.mono ?_; rintro e w2 ⟨rfl, hb2⟩)
          exact ⟨⟨q + g.rules[j].body.cnt, j + 1, by go_num, by go_num, by omega, by have := hq.out; unfold Hid; rw [g.cnts_next j hlt, this], by omega, hbw2.trans (hb2.mono (by omega)), by have := hb2.size; omega, by rw [hb2.cell hsz2]; exact hbox⟩, by simp [intOf]; omega⟩
        · clear h8
          go_wp2_with fail
          go_ret
          refine ⟨boolTells_mk _ fun h => ?_, hbw2⟩
          have e1 := hq.out
          have e2 : j = g.rules.length := by omega
          simp at h
          exact ⟨hlen, hf.out.name, hf.out.rule, by rw [← e2, ← e1]; omega⟩
  · go_enter Tryz.func4, Tryz.ntmps4
    go_wp2_with (go_at_call 10; refine hS.out.mono ?_; rintro e w' ⟨(rfl | ⟨rfl, ht⟩), hb2⟩ <;> (have eb : ∀ o, w'.cell? ⟨W.heap.size, o, none⟩ = (W.alloc (.cells #[.string g.name, .int .i64 g.bound, .int .i64 g.states, .slice ra g.rules.length rc] 26)).cell? ⟨W.heap.size, o, none⟩ := (fun o => hb2.cell (p := ⟨W.heap.size, o, none⟩) (by show W.heap.size < _; simp)); have HB2 := Lib.hid hb2; clear hb2))
    all_goals (go_ret; exact ⟨.inl rfl, HB.out.trans (HB2.out.mono (by simp))⟩)
end Go.Proofs.YtiiffcmojkdlaaaGreatDoor

/- grams.kept, word, named: they come back with a bool. -/
namespace Go.Proofs.YtiiffcmojkdlaaaGreatDoor
open Go.RowKit Go.Shelf

def SomeBool (W : World) (e : Ending) (W' : World) : Prop := (∃ b, e = .returned (.bool b)) ∧ Grew W W'
theorem lit_node (W : World) (k : Int) (hk : 0 ≤ k ∧ k ≤ 255) (s : ByteArray) (hs : s.size ≤ reachN) : NodeAt W W.heap.size (some (.int .u8 k)) (some (.string s)) (some (.string ⟨#[]⟩)) (some (.slice none 0 0)) (some (.slice none 0 0)) (.mk k s ⟨#[]⟩ [] []) := by
  rw [NodeAt]
  refine ⟨hk, hs, by show (0 : Nat) ≤ _; omega, rfl, rfl, rfl, ⟨none, 0, rfl, by simp [reachN], ?_⟩, none, 0, rfl, by simp [reachN], ?_⟩
  · rw [RangesAt]; trivial
  · rw [NodesAt]; trivial

set_option maxRecDepth 20000 in
theorem kept_ok (s : ByteArray) (W : World) : Calls Tryz.prog 30 #[.string s] W (SomeBool W) := by
  have hg := grew_alloc W (.cells #[.string ⟨#[103, 114, 97, 109, 109, 97, 114]⟩, .string ⟨#[111, 112, 116, 105, 111, 110, 115]⟩, .string ⟨#[102, 114, 97, 103, 109, 101, 110, 116]⟩, .string ⟨#[115, 107, 105, 112]⟩] 9)
  have ho := Owns.alloc W [.string ⟨#[103, 114, 97, 109, 109, 97, 114]⟩, .string ⟨#[111, 112, 116, 105, 111, 110, 115]⟩, .string ⟨#[102, 114, 97, 103, 109, 101, 110, 116]⟩, .string ⟨#[115, 107, 105, 112]⟩] 9
  have hS := Lib.hid (Tryz.slices_Contains_string W.heap.size 0 4 4 [⟨#[103, 114, 97, 109, 109, 97, 114]⟩, ⟨#[111, 112, 116, 105, 111, 110, 115]⟩, ⟨#[102, 114, 97, 103, 109, 101, 110, 116]⟩, ⟨#[115, 107, 105, 112]⟩] s _ (by simp) (by omega) (fun j hj => by
    rw [Nat.zero_add]
    match j, hj with
    | 0, _ => exact ho.cell_at rfl
    | 1, _ => exact ho.cell_at rfl
    | 2, _ => exact ho.cell_at rfl
    | 3, _ => exact ho.cell_at rfl))
  clear ho
  go_enter Tryz.func30, Tryz.ntmps30
  go_wp2_with (refine hS.out.mono ?_; rintro e w' ⟨rfl, rfl⟩)
  go_ret
  exact ⟨⟨_, rfl⟩, hg⟩

set_option maxRecDepth 20000 in
theorem lit_plain (k : Int) (hk : 0 ≤ k ∧ k ≤ 255) (s : ByteArray) (hs : s.size ≤ reachN) (W : World) (hT : Lib.Utf8Tabs 1 2 W) : Calls Tryz.prog 16 #[.agg #[.int .u8 k, .string s, .string ⟨#[]⟩, .slice none 0 0, .slice none 0 0], .bool false] W (SomeBool W) :=
  (nPlain_ok false _ W hT _ _ _ _ _ (lit_node W k hk s hs)).mono fun _ _ ⟨⟨b, h, _⟩, hg⟩ => ⟨⟨b, h⟩, hg⟩

set_option maxRecDepth 20000 in
theorem word_ok (s : ByteArray) (hs : s.size ≤ reachN) (W : World) (hT : Lib.Utf8Tabs 1 2 W) : Calls Tryz.prog 12 #[.string s] W (SomeBool W) := by
  have h1 := Lib.hid (lit_plain 5 (by omega) s hs W hT)
  have h2 := Lib.hid (fun w (hg : Grew W w) => lit_plain 6 (by omega) s hs w (tabs_grew hT hg))
  clear hT
  go_enter Tryz.func12, Tryz.ntmps12
  go_wp2_with fail
  refine h1.out.mono ?_
  rintro e w ⟨⟨b, rfl⟩, hg⟩
  have HG := Lib.hid hg
  clear hg
  cases b with
  | true =>
    go_wp2_with fail
    go_ret
    exact ⟨⟨_, rfl⟩, HG.out⟩
  | false =>
    go_wp2_with fail
    refine (h2.out w HG.out).mono ?_
    rintro e w2 ⟨⟨b, rfl⟩, hg⟩
    have HG2 := Lib.hid (HG.out.trans hg)
    clear hg
    go_wp2_with fail
    go_ret
    exact ⟨⟨_, rfl⟩, HG2.out⟩

set_option maxRecDepth 20000 in
theorem gnamed_ok (s : ByteArray) (hs : s.size ≤ reachN) (sort : Int) (W : World) (hT : Lib.Utf8Tabs 1 2 W) : Calls Tryz.prog 15 #[.string s, .int .u8 sort] W (SomeBool W) := by
  have h1 := Lib.hid (lit_plain 5 (by omega) s hs W hT)
  have h2 := Lib.hid (lit_plain 6 (by omega) s hs W hT)
  have h3 := Lib.hid (fun w => kept_ok s w)
  clear hT
  by_cases h0 : sort = 0
  · subst h0
    go_enter Tryz.func15, Tryz.ntmps15
    go_wp2_with fail
    refine h1.out.mono ?_
    rintro e w ⟨⟨b, rfl⟩, hg⟩
    have HG := Lib.hid hg
    clear hg
    cases b with
    | false =>
      go_wp2_with fail
      go_ret
      exact ⟨⟨_, rfl⟩, HG.out⟩
    | true =>
      go_wp2_with fail
      refine (h3.out w).mono ?_
      rintro e w2 ⟨⟨b, rfl⟩, hg⟩
      have HG2 := Lib.hid (HG.out.trans hg)
      clear hg
      go_wp2_with fail
      go_ret
      exact ⟨⟨_, rfl⟩, HG2.out⟩
  · have h0b : (sort == 0) = false := beq_eq_false_iff_ne.2 h0
    go_enter Tryz.func15, Tryz.ntmps15
    go_wp2_with fail
    refine h2.out.mono ?_
    rintro e w ⟨⟨b, rfl⟩, hg⟩
    have HG := Lib.hid hg
    clear hg
    cases b with
    | false =>
      go_wp2_with fail
      go_ret
      exact ⟨⟨_, rfl⟩, HG.out⟩
    | true =>
      go_wp2_with fail
      refine (h3.out w).mono ?_
      rintro e w2 ⟨⟨b, rfl⟩, hg⟩
      have HG2 := Lib.hid (HG.out.trans hg)
      clear hg
      go_wp2_with fail
      go_ret
      exact ⟨⟨_, rfl⟩, HG2.out⟩

/-- of a rule: what Sound asks of its body -/
def RulePlain (r : Rl) : Prop := PlainAll (r.sort != 0) r.body.all
def NotPost (r : Rl) (W : World) (e : Ending) (W' : World) : Prop := (∃ b, e = .returned (.bool b) ∧ (b = false → RulePlain r)) ∧ Grew W W'

set_option maxRecDepth 20000 in
theorem sound1_ok (r : Rl) (W : World) (hT : Lib.Utf8Tabs 1 2 W) (v0 v1 v2 v3 v4 v5 v6 v7 v8 v9 : Value) (hR : RuleAt W W.heap.size (some v0) (some v1) (some v2) (some v3) (some v4) (some v5) (some v6) (some v7) (some v8) (some v9) r) :
    Calls Tryz.prog 14 #[.agg #[v0, v1, v2, v3, v4, v5, v6, v7, v8, v9]] W (NotPost r W) := by
  obtain ⟨h1, hs, h2, hso, hn, h7, h8, h9, i7, i8, i9⟩ := hR
  obtain rfl := Option.some.inj h1
  obtain rfl := Option.some.inj h2
  obtain rfl := Option.some.inj h7
  obtain rfl := Option.some.inj h8
  obtain rfl := Option.some.inj h9
  obtain ⟨k0, k1, k2, k3, k4, k5, k6, k7, k8, rfl, rfl, rfl, rfl, rfl⟩ := hn.forms
  have hg := grew_alloc W (.cells #[.string r.name, .int .u8 r.sort, .int .u8 k0, .string k1, .string k2, .slice k3 k4 k5, .slice k6 k7 k8, .int .i64 r.p0, .int .i64 r.p1, .int .i64 r.p2] 55)
  have ho := Owns.alloc W [.string r.name, .int .u8 r.sort, .int .u8 k0, .string k1, .string k2, .slice k3 k4 k5, .slice k6 k7 k8, .int .i64 r.p0, .int .i64 r.p1, .int .i64 r.p2] 55
  have HNM := Lib.hid (gnamed_ok r.name hs r.sort _ (tabs_grew hT hg))
  have HPL := Lib.hid (fun w (hg : Grew W w) => nPlain_ok (r.sort != 0) r.body w (tabs_grew hT hg) _ _ _ _ _ ((hn.keep hg).mono hg.size))
  have HO := Lib.hid ho
  have HG := Lib.hid hg
  clear hT hn h1 h2 h7 h8 h9 i7 i8 i9 hg ho hs
  by_cases h3 : (3 : Int) < r.sort
  · go_enter Tryz.func14, Tryz.ntmps14
    go_wp2_with fail
    go_ret
    exact ⟨⟨_, rfl, fun h => by cases h⟩, HG.out⟩
  · go_enter Tryz.func14, Tryz.ntmps14
    go_wp2_with fail
    refine HNM.out.mono ?_
    rintro e w ⟨⟨b, rfl⟩, hb⟩
    have o2 := HO.out.keep hb
    have c2 := o2.cell_at (i := 2) rfl
    have c1 := o2.cell_at (i := 1) rfl
    have c3 := o2.cell_at (i := 3) rfl
    have c4 := o2.cell_at (i := 4) rfl
    have c5 := o2.cell_at (i := 5) rfl
    have c6 := o2.cell_at (i := 6) rfl
    have cl := o2.lt
    have HG2 := Lib.hid (HG.out.trans hb)
    clear hb o2
    cases b with
    | false =>
      go_wp2_with fail
      go_ret
      exact ⟨⟨_, rfl, fun h => by cases h⟩, HG2.out⟩
    | true =>
      have HP := Lib.hid (HPL.out w HG2.out)
      clear HPL
      go_wp2_with fail
      refine HP.out.mono ?_
      rintro e w2 ⟨⟨b, rfl, hb⟩, hg⟩
      have HG3 := Lib.hid (HG2.out.trans hg)
      have HB := Lib.hid hb
      clear hg hb
      go_wp2_with fail
      go_ret
      exact ⟨⟨_, rfl, fun h => HB.out (by simpa using h)⟩, HG3.out⟩
end Go.Proofs.YtiiffcmojkdlaaaGreatDoor

/- Ways through a net, in plain Lean: what is reached by whom; the laws of joining and of fewer tokens. No program in sight. -/
namespace Go.Proofs.YtiiffcmojkdlaaaGreatDoor

/-- an edge -/
structure Edg where
  kind : Int
  what : Int
  to : Int
/-- a state -/
structure Sta where
  rule : Int
  edges : List Edg
  ends : List Int
/-- a net -/
structure Net where
  states : List Sta
  starts : List Int
  stops : List Int
  preds : List Int
  decisions : List Int

/-- who walks: none: from the place that is asked; else a rule, behind so many tokens -/
abbrev Key := Option (Nat × Nat)
/-- a state, behind so many tokens -/
abbrev Pl := Nat × Nat

namespace Net
def edges (N : Net) (s : Nat) : List Edg := (N.states[s]?.map (·.edges)).getD []
def ends (N : Net) (s : Nat) : List Int := (N.states[s]?.map (·.ends)).getD []
def start (N : Net) (r : Nat) : Nat := (N.starts.getD r 0).toNat
def stop (N : Net) (r : Nat) : Nat := (N.stops.getD r 0).toNat
end Net

/-- what is reached: from over nothing is gone on by the first walk -/
inductive Lv (N : Net) (w : List Int) (p0 : Pl) (over : Int) : Key → Pl → Prop
  | root : Lv N w p0 over none p0
  | begin {κ : Key} {s i : Nat} {e : Edg} (h : Lv N w p0 over κ (s, i)) (hg : κ = none → (s : Int) ≠ over) (he : e ∈ N.edges s) (hk : e.kind = 2) : Lv N w p0 over (some (e.what.toNat, i)) (N.start e.what.toNat, i)
  | eps {κ : Key} {s i : Nat} {e : Edg} (h : Lv N w p0 over κ (s, i)) (hg : κ = none → (s : Int) ≠ over) (he : e ∈ N.edges s) (hk : e.kind ≠ 2) (hk' : e.kind ≠ 1) : Lv N w p0 over κ (e.to.toNat, i)
  | tok {κ : Key} {s i : Nat} {e : Edg} (h : Lv N w p0 over κ (s, i)) (hg : κ = none → (s : Int) ≠ over) (he : e ∈ N.edges s) (hk : e.kind = 1) (hw : w[i]? = some e.what) : Lv N w p0 over κ (e.to.toNat, i + 1)
  | back {κ : Key} {s i j : Nat} {e : Edg} (h : Lv N w p0 over κ (s, i)) (hg : κ = none → (s : Int) ≠ over) (he : e ∈ N.edges s) (hk : e.kind = 2) (hc : Lv N w p0 over (some (e.what.toNat, i)) (N.stop e.what.toNat, j)) : Lv N w p0 over κ (e.to.toNat, j)

section
variable {N : Net} {w : List Int} {p0 : Pl} {over : Int}

def Key.at : Key → Nat
  | none => 0
  | some (_, t) => t
/-- a walk goes on from where it began -/
theorem Lv.least {κ : Key} {p : Pl} (h : Lv N w p0 over κ p) : Key.at κ ≤ p.2 := by
  induction h with
  | root => exact Nat.zero_le _
  | begin h hg he hk ih => exact Nat.le_refl _
  | eps h hg he hk hk' ih => exact ih
  | tok h hg he hk hw ih => exact Nat.le_succ_of_le ih
  | back h hg he hk hc ih ih2 => exact Nat.le_trans ih ih2
/-- no more tokens are taken than there are -/
theorem Lv.most {κ : Key} {p : Pl} (h : Lv N w p0 over κ p) (h0 : p0.2 ≤ w.length) : p.2 ≤ w.length := by
  induction h with
  | root => exact h0
  | begin h hg he hk ih => exact ih
  | eps h hg he hk hk' ih => exact ih
  | tok h hg he hk hw ih =>
    have := (List.getElem?_eq_some_iff.1 hw).1
    simp only
    omega
  | back h hg he hk hc ih ih2 => exact ih2

/-- with more tokens behind, all is reached that was -/
theorem Lv.more {κ : Key} {p : Pl} {cut : Nat} (h : Lv N (w.take cut) p0 over κ p) : Lv N w p0 over κ p := by
  induction h with
  | root => exact .root
  | begin h hg he hk ih => exact .begin ih hg he hk
  | eps h hg he hk hk' ih => exact .eps ih hg he hk hk'
  | tok h hg he hk hw ih =>
    refine .tok ih hg he hk ?_
    rw [List.getElem?_take] at hw
    split at hw
    · exact hw
    · cases hw
  | back h hg he hk hc ih ih2 => exact .back ih hg he hk ih2
/-- what is reached by the first tokens hangs on these -/
theorem Lv.fewer {κ : Key} {p : Pl} {cut : Nat} (h : Lv N w p0 over κ p) (hp : p.2 ≤ cut) : Lv N (w.take cut) p0 over κ p := by
  induction h with
  | root => exact .root
  | begin h hg he hk ih => exact .begin (ih hp) hg he hk
  | eps h hg he hk hk' ih => exact .eps (ih hp) hg he hk hk'
  | @tok κ s i e h hg he hk hw ih =>
    simp only at hp
    refine .tok (ih (by simp only; omega)) hg he hk ?_
    rw [List.getElem?_take, if_pos (by omega)]
    exact hw
  | back h hg he hk hc ih ih2 =>
    have := hc.least
    simp only [Key.at] at this
    exact .back (ih (Nat.le_trans this hp)) hg he hk (ih2 hp)

/-- who comes further comes by -/
theorem Lv.by {κ : Key} {p : Pl} {cut : Nat} (h : Lv N w p0 over κ p) (h0 : p0.2 ≤ cut) (hp : cut ≤ p.2) : ∃ κ' p', Lv N w p0 over κ' p' ∧ p'.2 = cut := by
  induction h with
  | root => exact ⟨none, p0, .root, by omega⟩
  | begin h hg he hk ih => exact ih hp
  | eps h hg he hk hk' ih => exact ih hp
  | @tok κ s i e h hg he hk hw ih =>
    simp only at hp
    rcases Nat.lt_or_ge i cut with hi | hi
    · exact ⟨κ, _, .tok h hg he hk hw, by simp only; omega⟩
    · exact ih hi
  | back h hg he hk hc ih ih2 => exact ih2 hp

def Key.shift (n : Nat) : Key → Key
  | none => none
  | some (r, t) => some (r, n + t)
/-- one way behind another one -/
theorem Lv.join {κ : Key} {p : Pl} {n mid : Nat} (h1 : Lv N w p0 over none (mid, n)) (h : Lv N (w.drop n) (mid, 0) over κ p) : Lv N w p0 over (Key.shift n κ) (p.1, n + p.2) := by
  have gd : ∀ {κ : Key} {s : Nat}, (κ = none → (s : Int) ≠ over) → (Key.shift n κ = none → (s : Int) ≠ over) := by
    intro κ s hg hs
    cases κ with
    | none => exact hg rfl
    | some c => cases hs
  induction h with
  | root => exact h1
  | begin h hg he hk ih => exact .begin ih (gd hg) he hk
  | eps h hg he hk hk' ih => exact .eps ih (gd hg) he hk hk'
  | tok h hg he hk hw ih =>
    rw [List.getElem?_drop] at hw
    exact .tok ih (gd hg) he hk hw
  | back h hg he hk hc ih ih2 => exact .back ih (gd hg) he hk ih2
end

/-- does an alternative go along? -/
def AlongIs (N : Net) (w : List Int) (p0 : Pl) (over : Int) : Prop :=
  (∃ κ p, Lv N w p0 over κ p ∧ p.2 = w.length) ∨ ∃ i, i ≤ w.length ∧ Lv N w p0 over none (over.toNat, i)
theorem AlongIs.fewer {N : Net} {w : List Int} {p0 : Pl} {over : Int} {cut : Nat} (h0 : p0.2 = 0) (hc : cut ≤ w.length) (h : AlongIs N w p0 over) : AlongIs N (w.take cut) p0 over := by
  have hl : (w.take cut).length = cut := by rw [List.length_take]; omega
  have key : ∀ κ p, Lv N w p0 over κ p → cut ≤ p.2 → AlongIs N (w.take cut) p0 over := by
    intro κ p hl' hp
    obtain ⟨κ', p', h1, h2⟩ := hl'.by (by omega) hp
    exact .inl ⟨κ', p', h1.fewer (by omega), by rw [hl]; exact h2⟩
  rcases h with ⟨κ, p, h1, h2⟩ | ⟨i, hi, h1⟩
  · exact key κ p h1 (by omega)
  · rcases Nat.lt_or_ge cut i with h | h
    · exact key _ _ h1 (by simp only; omega)
    · exact .inr ⟨i, by rw [hl]; exact h, h1.fewer h⟩
theorem AlongIs.nil {N : Net} {p0 : Pl} {over : Int} (h0 : p0.2 = 0) : AlongIs N [] p0 over := .inl ⟨none, p0, .root, h0⟩
end Go.Proofs.YtiiffcmojkdlaaaGreatDoor
