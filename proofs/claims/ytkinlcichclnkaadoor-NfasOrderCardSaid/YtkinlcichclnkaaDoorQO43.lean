/- NfasOrder, walked. Printed by gennford.py. -/
import Derived.Test.YtkinlcichclnkaaDoorQO42
namespace Go.Proofs.YtkinlcichclnkaaDoor
open Go.RowKit

theorem ruVs_snoc (rv : Nat → List Value) (l : List Nat) (j : Nat) : ruVs rv (l ++ [j]) = ruVs rv l ++ rv j := by unfold ruVs; rw [List.flatMap_append, List.flatMap_singleton]
theorem owns_rule {w : World} {b : Nat} {c : List Value} (h : Owns w b c 38) (hl : c.length = 10) : looseRow w 0 38 10 (.slice (some ⟨b, 0, none⟩) 1 1) 1 c :=
  ⟨by rw [hl], .inr ⟨b, 1, c.toArray, rfl, Nat.zero_le _, h, Nat.le_refl _, by decide, by rw [List.size_toArray, hl]; decide, by simp [← hl]⟩⟩
/-- the other grammar -/
def Gr.turned (g : Gr) : Gr := ⟨g.name, g.bound, g.states, (g.sel fragR g.rules.length ++ g.sel tokR g.rules.length ++ g.sel restR g.rules.length).map g.ruleD⟩
theorem Gr.turned_rules (g : Gr) : g.turned.rules = sortedL g.rules := by
  unfold Gr.turned sortedL
  rw [List.map_append, List.map_append, Gr.sel_map g _ _ (Nat.le_refl _), Gr.sel_map g _ _ (Nat.le_refl _), Gr.sel_map g _ _ (Nat.le_refl _), List.take_length]
theorem filter3 (l : List Rl) : (l.filter fragR).length + (l.filter tokR).length + (l.filter restR).length = l.length := by
  induction l with
  | nil => rfl
  | cons x r ih =>
    cases h1 : fragR x
    · cases h2 : tokR x
      · have h3 : restR x = true := by unfold restR; rw [h1, h2]; rfl
        rw [List.filter_cons_of_neg (by rw [h1]; decide), List.filter_cons_of_neg (by rw [h2]; decide), List.filter_cons_of_pos h3]
        simp only [List.length_cons]
        omega
      · have h3 : ¬ restR x = true := by unfold restR; rw [h1, h2]; decide
        rw [List.filter_cons_of_neg (by rw [h1]; decide), List.filter_cons_of_pos h2, List.filter_cons_of_neg h3]
        simp only [List.length_cons]
        omega
    · have h2 := frag_tok x h1
      have h3 : ¬ restR x = true := by unfold restR; rw [h1, h2]; decide
      rw [List.filter_cons_of_pos h1, List.filter_cons_of_neg (by rw [h2]; decide), List.filter_cons_of_neg h3]
      simp only [List.length_cons]
      omega
theorem Gr.turned_slight {g : Gr} (h : g.Slight) : g.turned.Slight := by
  refine ⟨?_, fun i hi => ?_⟩
  · rw [Gr.turned_rules]
    unfold sortedL
    rw [List.length_append, List.length_append, filter3]
    exact h.few
  · have hm : g.turned.rules[i] ∈ g.rules := by
      rw [sorted_mem, ← Gr.turned_rules]
      exact List.getElem_mem hi
    obtain ⟨j, hj, e⟩ := List.getElem_of_mem hm
    rw [← e]
    exact h.tot j hj
theorem Gr.of_len (g : Gr) : (g.of [1, 3]).length = g.toks.length := by
  have := congrArg List.length (Gr.of_toks g g.rules.length (Nat.le_refl _))
  rw [List.length_map, List.length_map, List.take_length] at this
  exact this
theorem Gr.turned_of (g : Gr) : (g.turned.of [1, 3]).length = (g.of [1, 3]).length := by
  rw [Gr.of_len, Gr.of_len]
  unfold Gr.toks
  rw [Gr.turned_rules, sorted_toks]
theorem rule_one {W : World} {lim : Nat} {c : List Value} {r : Rl} (hl : c.length = 10) (h : RuleAt W lim c[0]? c[1]? c[2]? c[3]? c[4]? c[5]? c[6]? c[7]? c[8]? c[9]? r) : ∀ u ∈ c, u.oneCell' = true := by
  obtain ⟨a0, a1, a2, a3, a4, a5, a6, a7, a8, a9, rfl⟩ := ten_form hl
  simp only [List.getElem?_cons_zero, List.getElem?_cons_succ] at h
  obtain ⟨y2, y3, y4, y5, y6, e0, e1, e2, e3, e4, e5, e6, e7, e8, e9, -, hnode⟩ := h.vals
  obtain ⟨p0, p1, p2, p3, p4, p5, p6, p7, p8, rfl, rfl, rfl, rfl, rfl⟩ := hnode.forms
  obtain rfl := Option.some.inj e0
  obtain rfl := Option.some.inj e1
  obtain rfl := Option.some.inj e2
  obtain rfl := Option.some.inj e3
  obtain rfl := Option.some.inj e4
  obtain rfl := Option.some.inj e5
  obtain rfl := Option.some.inj e6
  obtain rfl := Option.some.inj e7
  obtain rfl := Option.some.inj e8
  obtain rfl := Option.some.inj e9
  intro y hy
  simp only [List.mem_cons, List.not_mem_nil, or_false] at hy
  rcases hy with rfl | rfl | rfl | rfl | rfl | rfl | rfl | rfl | rfl | rfl <;> rfl
theorem ruVs_one {rv : Nat → List Value} {l : List Nat} (h : ∀ i ∈ l, ∀ u ∈ rv i, u.oneCell' = true) : ∀ u ∈ ruVs rv l, u.oneCell' = true := by
  intro u hu
  obtain ⟨i, hi, h2⟩ := List.mem_flatMap.1 hu
  exact h i hi u h2
theorem ruVs_app (rv : Nat → List Value) (l m : List Nat) : ruVs rv (l ++ m) = ruVs rv l ++ ruVs rv m := by unfold ruVs; rw [List.flatMap_append]
/-- two automata that are one -/
structure Two (W : World) (q : (Nat × Nat) × NB) (pv fv pv' fv' : Value) (sv fl sv' fl' : Nat → Value) : Prop where
  rowA : looseRow W 0 48 4 pv q.2.out.length (plVs sv fl q.1.2.testBit q.2.out q.2.out.length)
  rowB : looseRow W 0 48 4 pv' q.2.out.length (plVs sv' fl' q.1.2.testBit q.2.out q.2.out.length)
  setA : ∀ i (h : i < q.2.out.length), looseRow W 0 58 2 (sv i) q.2.out[i].set.length (rgVs q.2.out[i].set)
  setB : ∀ i (h : i < q.2.out.length), looseRow W 0 58 2 (sv' i) q.2.out[i].set.length (rgVs q.2.out[i].set)
  folA : ∀ i (h : i < q.2.out.length), looseRow W 0 3 1 (fl i) (placesL q.2.out[i].fol).length (intVs (placesL q.2.out[i].fol))
  folB : ∀ i (h : i < q.2.out.length), looseRow W 0 3 1 (fl' i) (placesL q.2.out[i].fol).length (intVs (placesL q.2.out[i].fol))
  firstA : looseRow W 0 3 1 fv (placesL q.1.1).length (intVs (placesL q.1.1))
  firstB : looseRow W 0 3 1 fv' (placesL q.1.1).length (intVs (placesL q.1.1))
theorem Two.grew {W W' : World} {q : (Nat × Nat) × NB} {pv fv pv' fv' : Value} {sv fl sv' fl' : Nat → Value} (h : Two W q pv fv pv' fv' sv fl sv' fl') (hg : Grew W W') : Two W' q pv fv pv' fv' sv fl sv' fl' := by
  have hb := But.of_grew (F := fun _ => False) hg
  exact ⟨hb.row h.rowA fun _ _ e => e, hb.row h.rowB fun _ _ e => e, fun i hi => hb.row (h.setA i hi) fun _ _ e => e, fun i hi => hb.row (h.setB i hi) fun _ _ e => e, fun i hi => hb.row (h.folA i hi) fun _ _ e => e, fun i hi => hb.row (h.folB i hi) fun _ _ e => e, hb.row h.firstA fun _ _ e => e, hb.row h.firstB fun _ _ e => e⟩
theorem Two.of {W : World} {g h : Gr} {pv fv pv' fv' : Value} {sv fl sv' fl' : Nat → Value} {k k' : Int} (ha : AutoAt W pv fv k sv fl g) (hb : AutoAt W pv' fv' k' sv' fl' h) (e : g.made = h.made) : Two W g.made pv fv pv' fv' sv fl sv' fl' :=
  ⟨ha.row, e ▸ hb.row, ha.set, e ▸ hb.set, ha.fol, e ▸ hb.fol, ha.first, e ▸ hb.first⟩
/-- a place of a row -/
theorem pl_at {w : World} {v : Value} {sv fl : Nat → Value} {ls : Nat → Bool} {out : List NPl} {i : Nat} (h : looseRow w 0 48 4 v out.length (plVs sv fl ls out out.length)) (hi : i < out.length) : ∃ g cap, v = .slice (some ⟨g, 0, none⟩) out.length cap ∧ g < w.heap.size ∧ w.cell? ⟨g, i * 4, none⟩ = some (sv i) ∧ w.cell? ⟨g, i * 4 + 1, none⟩ = some (.int .i64 out[i].kind) ∧ w.cell? ⟨g, i * 4 + 2, none⟩ = some (.bool (ls i)) ∧ w.cell? ⟨g, i * 4 + 3, none⟩ = some (fl i) := by
  rcases h.2 with ⟨_, h0⟩ | ⟨g, cap, cur, h1, h2, h3, h4⟩
  · omega
  · have hc := looseRow_cells h (g := g) (by rw [h1]; rfl)
    refine ⟨g, cap, h1, (Array.getElem?_eq_some_iff.1 h3).1, hc (i * 4) _ (plVs_get sv fl ls out hi (k := 0) (by decide)), ?_, hc _ _ (plVs_get sv fl ls out hi (k := 2) (by decide)), hc _ _ (plVs_get sv fl ls out hi (k := 3) (by decide))⟩
    refine hc _ _ ((plVs_get sv fl ls out hi (k := 1) (by decide)).trans ?_)
    unfold plF
    rw [List.getElem?_eq_getElem hi]
    rfl
/-- a rule's cells, as they lie -/
theorem rule_cells {W : World} {P : Nat} {g : Gr} {a : Option Addr} (h : RulesAt W P a 0 g.rules) : ∃ rv : Nat → List Value, (∀ i, (rv i).length = 10) ∧ (∀ i, i < g.rules.length → ∃ b off, a = some ⟨b, off, none⟩ ∧ b < P ∧ ∀ t u, (rv i)[t]? = some u → W.cell? ⟨b, off + i * 10 + t, none⟩ = some u) ∧
    ∀ i (h : i < g.rules.length), RuleAt W P (rv i)[0]? (rv i)[1]? (rv i)[2]? (rv i)[3]? (rv i)[4]? (rv i)[5]? (rv i)[6]? (rv i)[7]? (rv i)[8]? (rv i)[9]? g.rules[i] := by
  cases a with
  | none =>
    have hz : g.rules = [] := by
      cases hr : g.rules with
      | nil => rfl
      | cons x r =>
        rw [hr] at h
        obtain ⟨⟨b, o, e, -⟩, -⟩ := h
        cases e
    refine ⟨fun _ => List.replicate 10 undef, fun _ => List.length_replicate, fun i hi => ?_, fun i hi => ?_⟩
    · rw [hz] at hi; exact absurd hi (by simp)
    · exfalso; rw [hz] at hi; exact absurd hi (by simp)
  | some ad =>
    refine ⟨fun i => (List.range 10).map fun t => (W.cell? ⟨ad.block, ad.off + i * 10 + t, none⟩).getD undef, fun i => by rw [List.length_map, List.length_range], fun i hi => ?_, fun i hi => ?_⟩
    all_goals
      obtain ⟨b, off, e, hb, hr⟩ := h.get hi
      obtain rfl := Option.some.inj e
      rw [Nat.zero_add] at hr
      obtain ⟨u2, u3, u4, u5, u6, c0, c1, c2, c3, c4, c5, c6, c7, c8, c9, hr', -⟩ := hr.vals
    · refine ⟨b, off, rfl, hb, fun t u hu => ?_⟩
      have ht : t < 10 := by
        have := (List.getElem?_eq_some_iff.1 hu).1
        rw [List.length_map, List.length_range] at this
        exact this
      rw [List.getElem?_map, List.getElem?_range ht] at hu
      simp only [Option.map_some, Option.some.injEq] at hu
      rw [← hu]
      match t, ht with
      | 0, _ => rw [Nat.add_zero, c0]; rfl
      | 1, _ => rw [c1]; rfl
      | 2, _ => rw [c2]; rfl
      | 3, _ => rw [c3]; rfl
      | 4, _ => rw [c4]; rfl
      | 5, _ => rw [c5]; rfl
      | 6, _ => rw [c6]; rfl
      | 7, _ => rw [c7]; rfl
      | 8, _ => rw [c8]; rfl
      | 9, _ => rw [c9]; rfl
    · simp only [List.getElem?_map, List.getElem?_range (show 0 < 10 by decide), List.getElem?_range (show 1 < 10 by decide), List.getElem?_range (show 2 < 10 by decide), List.getElem?_range (show 3 < 10 by decide), List.getElem?_range (show 4 < 10 by decide), List.getElem?_range (show 5 < 10 by decide), List.getElem?_range (show 6 < 10 by decide), List.getElem?_range (show 7 < 10 by decide), List.getElem?_range (show 8 < 10 by decide), List.getElem?_range (show 9 < 10 by decide), Option.map_some, Nat.add_zero, c0, c1, c2, c3, c4, c5, c6, c7, c8, c9, Option.getD_some]
      exact hr'
set_option maxHeartbeats 8000000 in
set_option maxRecDepth 40000 in
theorem order8_ok (g : Gr) (W : World) (v0 v1 v2 v3 : Value) (hG : GrAt W W.heap.size (some v0) (some v1) (some v2) (some v3) g) (hT : BruAt W) (hpos : 0 < W.heap.size) :
    Calls Tryd.prog 3 #[.agg #[v0, v1, v2, v3]] W fun e W' => e = .returned (.bool true) ∧ Grew W W' := by
  obtain ⟨q1, q1', q2, q3, q4, q5, ra, rc, q6, q7, q8⟩ := id hG
  obtain rfl := Option.some.inj q1
  obtain rfl := Option.some.inj q2
  obtain rfl := Option.some.inj q3
  obtain rfl := Option.some.inj q6
  obtain ⟨P, hP⟩ : ∃ P, W.heap.size = P := ⟨_, rfl⟩
  have HPP := Lib.hid hP
  rw [hP] at q8
  obtain ⟨rv, hrl, hrc, hrr⟩ := rule_cells q8
  have HRL := Lib.hid hrl
  have HRC := Lib.hid hrc
  have HRR := Lib.hid hrr
  have HG0 := Lib.hid hG
  have HT := Lib.hid hT
  have HPOS := Lib.hid hpos
  have HIN := Lib.hid (And.intro q1' (And.intro q4 q5))
  clear q1 q1' q2 q3 q4 q5 q6 q8 hrl hrc hrr hG hT hpos
  obtain ⟨w1, hw1⟩ : ∃ w1, W.alloc (.cells #[.string g.name, .int .i64 g.bound, .int .i64 g.states, .slice ra g.rules.length rc] 26) = w1 := ⟨_, rfl⟩
  have g1 : Grew W w1 := hw1 ▸ grew_alloc W _
  have o1 : Owns w1 P [.string g.name, .int .i64 g.bound, .int .i64 g.states, .slice ra g.rules.length rc] 26 := hP ▸ hw1 ▸ Owns.alloc W _ _
  have HO1 := Lib.hid o1
  have G1 := Lib.hid g1
  have HGT := Lib.hid (great5_ok g w1 _ _ _ _ ((HG0.out.keep g1).mono g1.size))
  have c0 := o1.cell_at (i := 0) rfl
  have c1 := o1.cell_at (i := 1) rfl
  have c2 := o1.cell_at (i := 2) rfl
  have c3 := o1.cell_at (i := 3) rfl
  have cl := o1.lt
  clear g1 o1
  go_enter Tryd.func3, Tryd.ntmps3
  go_wp2_with fail
  refine HGT.out.mono ?_
  clear HGT hw1 hP
  rintro e w2 ⟨(rfl | ⟨rfl, hfair⟩), hb2⟩
  · have G2 := Lib.hid (G1.out.trans hb2)
    have HLV := Lib.hid (lives8_ok w2 (HT.out.grew G2.out) (Nat.lt_of_lt_of_le HPOS.out G2.out.size))
    clear hb2 c0 c1 c2 c3 cl
    go_wp2_with fail
    refine HLV.out.mono ?_
    rintro e w3 ⟨rfl, hb3⟩
    go_wp2_with fail
    go_ret
    exact ⟨rfl, G2.out.trans hb3⟩
  · have HSL := Lib.hid hfair.slight
    have G2 := Lib.hid (G1.out.trans hb2)
    have HO2 := Lib.hid (HO1.out.keep hb2)
    obtain ⟨n, hn⟩ : ∃ n, g.rules.length = n := ⟨_, rfl⟩
    have HN := Lib.hid hn
    have hn60 : n ≤ 60 := hn ▸ hfair.slight.few
    have HL2 : Hid (P ≤ w2.heap.size) := Lib.hid (by have := HPP.out; have := G2.out.size; omega)
    simp only [hn] at HO2 ⊢
    clear hb2 c0 c1 c2 c3 cl hfair hn HO1
    go_wp2_with fail
    go_loopw [3, 4, 5, 6] (fun a3 a4 a5 c wr => ∃ (j : Nat) (x3 x4 x5 : Value), a3 = x3 ∧ a4 = x4 ∧ a5 = x5 ∧ c = .int .i64 j ∧ j ≤ n ∧ Hid (Below P w2 wr) ∧ Hid (Owns wr P [.string g.name, .int .i64 g.bound, .int .i64 g.states, .slice ra n rc] 26) ∧ Hid (R3 wr P rv a3 a4 a5 (g.sel fragR j) (g.sel tokR j) (g.sel restR j))) (fun _ _ _ c _ => n - (intOf c).toNat)
    case atStart => exact ⟨0, _, _, _, rfl, rfl, rfl, rfl, Nat.zero_le _, Below.refl _ _, HO2.out, R3.none _ _ _⟩
    case round =>
      obtain ⟨j, x3, x4, x5, rfl, rfl, rfl, rfl, hj, BR, OR, RR⟩ := hrel
      by_cases hlt : j < n
      · skip
        have hjn : j < g.rules.length := by rw [HN.out]; exact hlt
        obtain ⟨rb, ro, rfl, hrb, hcell⟩ := HRC.out j hjn
        obtain ⟨a0, a1, a2, a3, a4, a5, a6, a7, a8, a9, hrv⟩ := ten_form (HRL.out j)
        have hru := HRR.out j hjn
        rw [hrv] at hru hcell
        simp only [List.getElem?_cons_zero, List.getElem?_cons_succ] at hru
        obtain ⟨y2, y3, y4, y5, y6, e0, e1, e2, e3, e4, e5, e6, e7, e8, e9, -, hnode⟩ := hru.vals
        obtain ⟨p0, p1, p2, p3, p4, p5, p6, p7, p8, rfl, rfl, rfl, rfl, rfl⟩ := hnode.forms
        obtain rfl := Option.some.inj e0
        obtain rfl := Option.some.inj e1
        obtain rfl := Option.some.inj e2
        obtain rfl := Option.some.inj e3
        obtain rfl := Option.some.inj e4
        obtain rfl := Option.some.inj e5
        obtain rfl := Option.some.inj e6
        obtain rfl := Option.some.inj e7
        obtain rfl := Option.some.inj e8
        obtain rfl := Option.some.inj e9
        have hb9 : Below P W wr := by
          have h := G2.out
          unfold Grew at h
          rw [HPP.out] at h
          exact h.trans BR.out
        have d0 : wr.cell? ⟨rb, ro + j * 10, none⟩ = some _ := (hb9.cell hrb).trans (hcell 0 _ rfl)
        have d1 : wr.cell? ⟨rb, ro + j * 10 + 1, none⟩ = some _ := (hb9.cell hrb).trans (hcell 1 _ rfl)
        have d2 : wr.cell? ⟨rb, ro + j * 10 + 2, none⟩ = some _ := (hb9.cell hrb).trans (hcell 2 _ rfl)
        have d3 : wr.cell? ⟨rb, ro + j * 10 + 3, none⟩ = some _ := (hb9.cell hrb).trans (hcell 3 _ rfl)
        have d4 : wr.cell? ⟨rb, ro + j * 10 + 4, none⟩ = some _ := (hb9.cell hrb).trans (hcell 4 _ rfl)
        have d5 : wr.cell? ⟨rb, ro + j * 10 + 5, none⟩ = some _ := (hb9.cell hrb).trans (hcell 5 _ rfl)
        have d6 : wr.cell? ⟨rb, ro + j * 10 + 6, none⟩ = some _ := (hb9.cell hrb).trans (hcell 6 _ rfl)
        have d7 : wr.cell? ⟨rb, ro + j * 10 + 7, none⟩ = some _ := (hb9.cell hrb).trans (hcell 7 _ rfl)
        have d8 : wr.cell? ⟨rb, ro + j * 10 + 8, none⟩ = some _ := (hb9.cell hrb).trans (hcell 8 _ rfl)
        have d9 : wr.cell? ⟨rb, ro + j * 10 + 9, none⟩ = some _ := (hb9.cell hrb).trans (hcell 9 _ rfl)
        have hlw : P ≤ wr.heap.size := Nat.le_trans HL2.out BR.out.size
        have dl : rb < wr.heap.size := Nat.lt_of_lt_of_le hrb hlw
        have hD := Gr.ruleD_get hjn
        obtain ⟨srt, hsrt⟩ : ∃ s, g.rules[j].sort = s := ⟨_, rfl⟩
        rw [hsrt] at d1 hrv
        have HSO := Lib.hid hsrt
        have HD := Lib.hid hD
        have HRV := Lib.hid hrv
        have hO := OR.out
        have c0 := hO.cell_at (i := 0) rfl
        have c3 := hO.cell_at (i := 3) rfl
        have cl := hO.lt
        obtain ⟨w3, hw3⟩ : ∃ w3, wr.alloc (.cells #[.string g.rules[j].name, .int .u8 srt, .int .u8 p0, .string p1, .string p2, .slice p3 p4 p5, .slice p6 p7 p8, .int .i64 g.rules[j].p0, .int .i64 g.rules[j].p1, .int .i64 g.rules[j].p2] 38) = w3 := ⟨_, rfl⟩
        have g3 : Grew wr w3 := hw3 ▸ grew_alloc wr _
        have hone := owns_rule (show Owns w3 wr.heap.size [.string g.rules[j].name, .int .u8 srt, .int .u8 p0, .string p1, .string p2, .slice p3 p4 p5, .slice p6 p7 p8, .int .i64 g.rules[j].p0, .int .i64 g.rules[j].p1, .int .i64 g.rules[j].p2] 38 from hw3 ▸ Owns.alloc wr _ _) rfl
        have h1 : ∀ y ∈ [.string g.rules[j].name, .int .u8 srt, .int .u8 p0, .string p1, .string p2, .slice p3 p4 p5, .slice p6 p7 p8, .int .i64 g.rules[j].p0, .int .i64 g.rules[j].p1, .int .i64 g.rules[j].p2], Value.oneCell' y = true := by
          intro y hy
          simp only [List.mem_cons, List.not_mem_nil, or_false] at hy
          rcases hy with rfl | rfl | rfl | rfl | rfl | rfl | rfl | rfl | rfl | rfl <;> rfl
        have HR3 := Lib.hid (RR.out.grew g3)
        have HO3 := Lib.hid (hO.keep g3)
        have HB3 := Lib.hid (BR.out.trans (show Below P wr w3 from Below.mono g3 hlw))
        have hl3 : P ≤ w3.heap.size := Nat.le_trans hlw g3.size
        clear hru hcell e0 e1 e2 e3 e4 e5 e6 e7 e8 e9 hnode hb9 hD hsrt hrv hO g3
        by_cases h2 : srt = 2
        · subst h2
          have hS0 : g.sel fragR (j + 1) = g.sel fragR j ++ [j] := by rw [Gr.sel_succ, if_pos (by rw [HD.out]; unfold fragR; rw [HSO.out]; decide)]
          have hS1 : g.sel tokR (j + 1) = g.sel tokR j := by rw [Gr.sel_succ, if_neg (by rw [HD.out]; unfold tokR; rw [HSO.out]; decide)]
          have hS2 : g.sel restR (j + 1) = g.sel restR j := by rw [Gr.sel_succ, if_neg (by rw [HD.out]; unfold restR fragR tokR; rw [HSO.out]; decide)]
          obtain ⟨r, w4, hrun, hrow, hgrow, hat⟩ := rule_append 24 HR3.out.r1 hone h1 (by have := g.sel_len fragR j; omega) hl3
          have hbut := grown_but hgrow
          have HO4 := Lib.hid (hbut.owns HO3.out (fun e => row_owns_ne HR3.out.r1 HO3.out (by decide) _ e rfl))
          have HB4 := Lib.hid (HB3.out.trans (But.below hbut hl3 fun k e => (row_type HR3.out.r1 e.symm.symm).1))
          have hr4 := HR3.out.app (l := g.sel fragR j ++ [j]) (by rw [ruVs_snoc, HRV.out, List.length_append]; exact hrow) hgrow hat
          have HR4 := Lib.hid hr4
          have HS0 := Lib.hid hS0
          have HS1 := Lib.hid hS1
          have HS2 := Lib.hid hS2
          have HRUN := Lib.hid hrun
          clear hrun hrow hgrow hat hbut hr4 hone h1 hl3 hlw hS0 hS1 hS2

          go_wp2_with (at_builtin; refine wpList_append_run8 rfl _ _ 24 24 rfl _ _ _ ?_ ?_ HRUN.out ?_; rfl; rfl; simp only [Act.put, List.setIfInBounds_toArray, List.set_cons_zero, List.set_cons_succ])
          refine ⟨⟨j + 1, _, _, _, rfl, rfl, rfl, by go_num, by omega, HB4.out, HO4.out, ?_⟩, by simp [intOf]; omega⟩
          refine Lib.hid ?_
          rw [HS0.out, HS1.out, HS2.out]
          exact HR4.out
        by_cases h1s : srt = 1
        · subst h1s
          have q2 : ((1 : Int) == 2) = false := by decide
          have hS0 : g.sel fragR (j + 1) = g.sel fragR j := by rw [Gr.sel_succ, if_neg (by rw [HD.out]; unfold fragR; rw [HSO.out]; decide)]
          have hS1 : g.sel tokR (j + 1) = g.sel tokR j ++ [j] := by rw [Gr.sel_succ, if_pos (by rw [HD.out]; unfold tokR; rw [HSO.out]; decide)]
          have hS2 : g.sel restR (j + 1) = g.sel restR j := by rw [Gr.sel_succ, if_neg (by rw [HD.out]; unfold restR fragR tokR; rw [HSO.out]; decide)]
          obtain ⟨r, w4, hrun, hrow, hgrow, hat⟩ := rule_append 24 HR3.out.rot.r1 hone h1 (by have := g.sel_len tokR j; omega) hl3
          have hbut := grown_but hgrow
          have HO4 := Lib.hid (hbut.owns HO3.out (fun e => row_owns_ne HR3.out.rot.r1 HO3.out (by decide) _ e rfl))
          have HB4 := Lib.hid (HB3.out.trans (But.below hbut hl3 fun k e => (row_type HR3.out.rot.r1 e.symm.symm).1))
          have hr4 := HR3.out.rot.app (l := g.sel tokR j ++ [j]) (by rw [ruVs_snoc, HRV.out, List.length_append]; exact hrow) hgrow hat
          have HR4 := Lib.hid hr4.rot.rot
          have HS0 := Lib.hid hS0
          have HS1 := Lib.hid hS1
          have HS2 := Lib.hid hS2
          have HRUN := Lib.hid hrun
          clear hrun hrow hgrow hat hbut hr4 hone h1 hl3 hlw hS0 hS1 hS2

          go_wp2_with (at_builtin; refine wpList_append_run8 rfl _ _ 24 24 rfl _ _ _ ?_ ?_ HRUN.out ?_; rfl; rfl; simp only [Act.put, List.setIfInBounds_toArray, List.set_cons_zero, List.set_cons_succ])
          refine ⟨⟨j + 1, _, _, _, rfl, rfl, rfl, by go_num, by omega, HB4.out, HO4.out, ?_⟩, by simp [intOf]; omega⟩
          refine Lib.hid ?_
          rw [HS0.out, HS1.out, HS2.out]
          exact HR4.out
        by_cases h3s : srt = 3
        · subst h3s
          have q2 : ((3 : Int) == 2) = false := by decide
          have q1 : ((3 : Int) == 1) = false := by decide
          have hS0 : g.sel fragR (j + 1) = g.sel fragR j := by rw [Gr.sel_succ, if_neg (by rw [HD.out]; unfold fragR; rw [HSO.out]; decide)]
          have hS1 : g.sel tokR (j + 1) = g.sel tokR j ++ [j] := by rw [Gr.sel_succ, if_pos (by rw [HD.out]; unfold tokR; rw [HSO.out]; decide)]
          have hS2 : g.sel restR (j + 1) = g.sel restR j := by rw [Gr.sel_succ, if_neg (by rw [HD.out]; unfold restR fragR tokR; rw [HSO.out]; decide)]
          obtain ⟨r, w4, hrun, hrow, hgrow, hat⟩ := rule_append 24 HR3.out.rot.r1 hone h1 (by have := g.sel_len tokR j; omega) hl3
          have hbut := grown_but hgrow
          have HO4 := Lib.hid (hbut.owns HO3.out (fun e => row_owns_ne HR3.out.rot.r1 HO3.out (by decide) _ e rfl))
          have HB4 := Lib.hid (HB3.out.trans (But.below hbut hl3 fun k e => (row_type HR3.out.rot.r1 e.symm.symm).1))
          have hr4 := HR3.out.rot.app (l := g.sel tokR j ++ [j]) (by rw [ruVs_snoc, HRV.out, List.length_append]; exact hrow) hgrow hat
          have HR4 := Lib.hid hr4.rot.rot
          have HS0 := Lib.hid hS0
          have HS1 := Lib.hid hS1
          have HS2 := Lib.hid hS2
          have HRUN := Lib.hid hrun
          clear hrun hrow hgrow hat hbut hr4 hone h1 hl3 hlw hS0 hS1 hS2

          go_wp2_with (at_builtin; refine wpList_append_run8 rfl _ _ 24 24 rfl _ _ _ ?_ ?_ HRUN.out ?_; rfl; rfl; simp only [Act.put, List.setIfInBounds_toArray, List.set_cons_zero, List.set_cons_succ])
          refine ⟨⟨j + 1, _, _, _, rfl, rfl, rfl, by go_num, by omega, HB4.out, HO4.out, ?_⟩, by simp [intOf]; omega⟩
          refine Lib.hid ?_
          rw [HS0.out, HS1.out, HS2.out]
          exact HR4.out
        have q2 : (srt == 2) = false := beq_eq_false_iff_ne.2 h2
        have q1 : (srt == 1) = false := beq_eq_false_iff_ne.2 h1s
        have q3 : (srt == 3) = false := beq_eq_false_iff_ne.2 h3s
        have hS0 : g.sel fragR (j + 1) = g.sel fragR j := by rw [Gr.sel_succ, if_neg (by rw [HD.out]; unfold fragR; rw [HSO.out]; simp [h2])]
        have hS1 : g.sel tokR (j + 1) = g.sel tokR j := by rw [Gr.sel_succ, if_neg (by rw [HD.out]; unfold tokR; rw [HSO.out]; simp [h1s, h3s])]
        have hS2 : g.sel restR (j + 1) = g.sel restR j ++ [j] := by rw [Gr.sel_succ, if_pos (by rw [HD.out]; unfold restR fragR tokR; rw [HSO.out]; simp [h2, h1s, h3s])]
        obtain ⟨r, w4, hrun, hrow, hgrow, hat⟩ := rule_append 24 HR3.out.rot.rot.r1 hone h1 (by have := g.sel_len restR j; omega) hl3
        have hbut := grown_but hgrow
        have HO4 := Lib.hid (hbut.owns HO3.out (fun e => row_owns_ne HR3.out.rot.rot.r1 HO3.out (by decide) _ e rfl))
        have HB4 := Lib.hid (HB3.out.trans (But.below hbut hl3 fun k e => (row_type HR3.out.rot.rot.r1 e.symm.symm).1))
        have hr4 := HR3.out.rot.rot.app (l := g.sel restR j ++ [j]) (by rw [ruVs_snoc, HRV.out, List.length_append]; exact hrow) hgrow hat
        have HR4 := Lib.hid hr4.rot
        have HS0 := Lib.hid hS0
        have HS1 := Lib.hid hS1
        have HS2 := Lib.hid hS2
        have HRUN := Lib.hid hrun
        clear hrun hrow hgrow hat hbut hr4 hone h1 hl3 hlw hS0 hS1 hS2
        clear h2 h1s h3s
        go_wp2_with (at_builtin; refine wpList_append_run8 rfl _ _ 24 24 rfl _ _ _ ?_ ?_ HRUN.out ?_; rfl; rfl; simp only [Act.put, List.setIfInBounds_toArray, List.set_cons_zero, List.set_cons_succ])
        refine ⟨⟨j + 1, _, _, _, rfl, rfl, rfl, by go_num, by omega, HB4.out, HO4.out, ?_⟩, by simp [intOf]; omega⟩
        refine Lib.hid ?_
        rw [HS0.out, HS1.out, HS2.out]
        exact HR4.out
      · obtain rfl : j = n := by omega
        have hlw : P ≤ wr.heap.size := Nat.le_trans HL2.out BR.out.size
        have hO := OR.out
        have c0 := hO.cell_at (i := 0) rfl
        have c1 := hO.cell_at (i := 1) rfl
        have c2 := hO.cell_at (i := 2) rfl
        have c3 := hO.cell_at (i := 3) rfl
        have cl := hO.lt
        obtain ⟨w5, hw5⟩ : ∃ w5, wr.alloc (.cells #[.string g.name, .int .i64 g.bound, .int .i64 g.states, .slice ra j rc] 26) = w5 := ⟨_, rfl⟩
        obtain ⟨B7, hB7⟩ : ∃ B7, wr.heap.size = B7 := ⟨_, rfl⟩
        have g5 : Grew wr w5 := hw5 ▸ grew_alloc wr _
        have o5 : Owns w5 B7 [.string g.name, .int .i64 g.bound, .int .i64 g.states, .slice ra j rc] 26 := hB7 ▸ hw5 ▸ Owns.alloc wr _ _
        have hl5 : P ≤ w5.heap.size := Nat.le_trans hlw g5.size
        have hB75 : P ≤ B7 := hB7 ▸ hlw
        have hPB : P ≠ B7 := by omega
        have hR5 := RR.out.grew g5
        have hO5 := hO.keep g5
        have hone : ∀ (p : Rl → Bool), ∀ u ∈ ruVs rv (g.sel p j), u.oneCell' = true := fun p => ruVs_one fun i hi => rule_one (HRL.out i) (HRR.out i (by rw [HN.out]; exact Gr.sel_lt hi))
        have hs1 := g.sel_len fragR j
        have hs2 := g.sel_len tokR j
        have hs3 := g.sel_len restR j
        obtain ⟨r1, w6, hrun6, hrow6, hgr6, hat6⟩ := rule_append 24 hR5.r1 hR5.r2 (hone tokR) (by omega) hl5
        have hR6 := hR5.app (l := g.sel fragR j ++ g.sel tokR j) (by rw [ruVs_app, List.length_append]; exact hrow6) hgr6 hat6
        have hb6 := grown_but hgr6
        have hl6 : P ≤ w6.heap.size := Nat.le_trans hl5 hb6.size
        obtain ⟨r2, w7, hrun7, hrow7, hgr7, hat7⟩ := rule_append 24 hR6.r1 hR6.r3 (hone restR) (by rw [List.length_append]; omega) hl6
        have hb7 := grown_but hgr7
        have hl7 : P ≤ w7.heap.size := Nat.le_trans hl6 hb7.size
        have hO6 := hb6.owns hO5 (fun e => row_owns_ne hR5.r1 hO5 (by decide) _ e rfl)
        have hO7 := hb7.owns hO6 (fun e => row_owns_ne hR6.r1 hO6 (by decide) _ e rfl)
        have o6 := hb6.owns o5 (fun e => row_owns_ne hR5.r1 o5 (by decide) _ e rfl)
        have o7 := hb7.owns o6 (fun e => row_owns_ne hR6.r1 o6 (by decide) _ e rfl)
        have hbw7 : Below P w2 w7 := ((BR.out.trans (show Below P wr w5 from Below.mono g5 hlw)).trans (But.below hb6 hl5 fun k e => (row_type hR5.r1 e.symm.symm).1)).trans (But.below hb7 hl6 fun k e => (row_type hR6.r1 e.symm.symm).1)
        obtain ⟨w8, hw8⟩ : ∃ w8, w7.setCell ⟨B7, 3, none⟩ r2 = w8 := ⟨_, rfl⟩
        have b8 : But (fun k => k = B7) w7 w8 := hw8 ▸ set_but o7
        have o8 : Owns w8 B7 [.string g.name, .int .i64 g.bound, .int .i64 g.states, r2] 26 := hw8 ▸ o7.set 3 r2
        have hO8 := b8.owns hO7 hPB
        have hrow8 : looseRow w8 P 38 10 r2 (g.sel fragR j ++ g.sel tokR j ++ g.sel restR j).length (ruVs rv (g.sel fragR j ++ g.sel tokR j ++ g.sel restR j)) := by
          have := b8.row hrow7 fun k hk e => row_owns_ne hrow7 o7 (by decide) k hk e
          rw [ruVs_app, List.length_append]
          exact this
        have hbw8 := hbw7.trans (But.below b8 hl7 fun q e => by rw [e]; exact hB75)
        have hw28 : Below P W w8 := by
          have h := G2.out
          unfold Grew at h
          rw [HPP.out] at h
          exact h.trans hbw8
        have hl8 : P ≤ w8.heap.size := Nat.le_trans hl7 b8.size
        obtain ⟨ta, tc, hr2, hru⟩ := ru_rules hrow8 HRL.out (fun i hi => by
          rw [HN.out]
          rcases List.mem_append.1 hi with hi | hi
          · rcases List.mem_append.1 hi with hi | hi <;> exact Gr.sel_lt hi
          · exact Gr.sel_lt hi) (fun i hi => (HRR.out i hi).keep hw28) hl8
        obtain ⟨T9, ht9⟩ : ∃ T, (g.sel fragR j ++ g.sel tokR j ++ g.sel restR j).length = T := ⟨_, rfl⟩
        have HT9 := Lib.hid ht9
        rw [ht9] at hr2
        clear ht9
        subst hr2
        have HTG : Hid (GrAt w8 w8.heap.size (some (.string g.name)) (some (.int .i64 g.bound)) (some (.int .i64 g.states)) (some (.slice ta T9 tc)) g.turned) := by
          refine Lib.hid ?_
          have hre : g.turned.rules = (g.sel fragR j ++ g.sel tokR j ++ g.sel restR j).map g.ruleD := by unfold Gr.turned; rw [HN.out]
          refine ⟨rfl, HIN.out.1, rfl, rfl, HIN.out.2.1, HIN.out.2.2, ta, tc, ?_, ?_, ?_⟩
          · rw [hre, List.length_map, HT9.out]
          · have := (Gr.turned_slight HSL.out).few
            unfold reachN
            omega
          · rw [hre]
            exact hru
        have HGG := Lib.hid ((HG0.out.keep (show Below W.heap.size W w8 from by rw [HPP.out]; exact hw28)).mono (show W.heap.size ≤ w8.heap.size by rw [HPP.out]; exact hl8))
        have HW8 : Hid (Grew W w8) := Lib.hid (by unfold Grew; rw [HPP.out]; exact hw28)
        have HO8 := Lib.hid hO8
        have HO8' := Lib.hid o8
        have HRUN6 := Lib.hid hrun6
        have HRUN7 := Lib.hid hrun7
        have t0 := o7.cell_at (i := 3) rfl
        have t1 := o7.free 3
        have tl := o7.lt
        clear g5 o5 hR5 hO5 hone hs1 hs2 hs3 hrun6 hrow6 hgr6 hat6 hR6 hb6 hl6 hrun7 hrow7 hgr7 hat7 hb7 hO6 hO7 o6 o7 hbw7 b8 o8 hO8 hrow8 hbw8 hw28 hl8 hru hO hlw hl5 hl7 hPB
        go_upto_region 15 with fail
        go_upto_region 16 with (at_builtin; first
          | (refine wpList_append_run8 rfl _ _ 24 24 rfl _ _ _ ?_ ?_ HRUN6.out ?_; rfl; rfl; simp only [Act.put, List.setIfInBounds_toArray, List.set_cons_zero, List.set_cons_succ])
          | (refine wpList_append_run8 rfl _ _ 24 24 rfl _ _ _ ?_ ?_ HRUN7.out ?_; rfl; rfl; simp only [Act.put, List.setIfInBounds_toArray, List.set_cons_zero, List.set_cons_succ]))
        clear hw5 hw8 t0 t1 tl c0 c1 c2 c3 cl HRUN6 HRUN7
        have HTS := Lib.hid (Gr.turned_slight HSL.out)
        have HB1 := Lib.hid (nbuild_ok g HSL.out w8 _ _ _ _ HGG.out (HT.out.grew HW8.out) (Nat.lt_of_lt_of_le HPOS.out HW8.out.size))
        have c0 := HO8.out.cell_at (i := 0) rfl
        have c1 := HO8.out.cell_at (i := 1) rfl
        have c2 := HO8.out.cell_at (i := 2) rfl
        have c3 := HO8.out.cell_at (i := 3) rfl
        have cl := HO8.out.lt
        rw [HN.out] at HB1
        go_wp2_with fail
        refine HB1.out.mono ?_
        rintro e w9 ⟨hg9, pv, fv, kinds, ka, rfl, hres⟩
        clear c0 c1 c2 c3 cl HB1
        have hpf : ∃ pa pn pc fa fn fc, pv = .slice pa pn pc ∧ fv = .slice fa fn fc := by
          rcases hres with ⟨-, -, -, sv, fl, h⟩ | ⟨-, -, -, h1, h2, -⟩ | ⟨-, -, h1, h2, -⟩
          · obtain ⟨x, y, hx⟩ := loose_form h.row
            obtain ⟨x', y', hx'⟩ := loose_form h.first
            exact ⟨_, _, _, _, _, _, hx, hx'⟩
          · exact ⟨_, _, _, _, _, _, h1, h2⟩
          · exact ⟨_, _, _, _, _, _, h1, h2⟩
        obtain ⟨pa, pn, pc, fa, fn, fc, rfl, rfl⟩ := hpf
        have HRES := Lib.hid hres
        obtain ⟨w10, hw10⟩ : ∃ w10, w9.alloc (.cells #[.slice pa pn pc, .slice fa fn fc, .int .i64 kinds] 42) = w10 := ⟨_, rfl⟩
        obtain ⟨B8, hB8⟩ : ∃ B8, w9.heap.size = B8 := ⟨_, rfl⟩
        have g10 : Grew w9 w10 := hw10 ▸ grew_alloc w9 _
        have HA10 := Lib.hid (show Owns w10 B8 [.slice pa pn pc, .slice fa fn fc, .int .i64 kinds] 42 from hB8 ▸ hw10 ▸ Owns.alloc w9 _ _)
        have HG810 := Lib.hid (hg9.trans g10)
        have HG910 := Lib.hid g10
        have HT10 := Lib.hid (HO8'.out.keep HG810.out)
        have HW10 := Lib.hid (HW8.out.trans HG810.out)
        have HB2 := Lib.hid (nbuild_ok g.turned HTS.out w10 _ _ _ _ ((HTG.out.keep HG810.out).mono HG810.out.size) (HT.out.grew HW10.out) (Nat.lt_of_lt_of_le HPOS.out HW10.out.size))
        have d0 := HT10.out.cell_at (i := 0) rfl
        have d1 := HT10.out.cell_at (i := 1) rfl
        have d2 := HT10.out.cell_at (i := 2) rfl
        have d3 := HT10.out.cell_at (i := 3) rfl
        have dl := HT10.out.lt
        clear hg9 g10 hres
        go_wp2_with fail
        refine HB2.out.mono ?_
        rintro e w11 ⟨hg11, pv, fv, kinds2, kb, rfl, hres2⟩
        clear d0 d1 d2 d3 dl HB2 hw10 hB8
        have hpf : ∃ pa pn pc fa fn fc, pv = .slice pa pn pc ∧ fv = .slice fa fn fc := by
          rcases hres2 with ⟨-, -, -, sv, fl, h⟩ | ⟨-, -, -, h1, h2, -⟩ | ⟨-, -, h1, h2, -⟩
          · obtain ⟨x, y, hx⟩ := loose_form h.row
            obtain ⟨x', y', hx'⟩ := loose_form h.first
            exact ⟨_, _, _, _, _, _, hx, hx'⟩
          · exact ⟨_, _, _, _, _, _, h1, h2⟩
          · exact ⟨_, _, _, _, _, _, h1, h2⟩
        obtain ⟨qa, qn, qc, ea, en, ec, rfl, rfl⟩ := hpf
        have HRES2 := Lib.hid hres2
        obtain ⟨w12, hw12⟩ : ∃ w12, w11.alloc (.cells #[.slice qa qn qc, .slice ea en ec, .int .i64 kinds2] 42) = w12 := ⟨_, rfl⟩
        obtain ⟨B9, hB9⟩ : ∃ B9, w11.heap.size = B9 := ⟨_, rfl⟩
        have g12 : Grew w11 w12 := hw12 ▸ grew_alloc w11 _
        have HA12 := Lib.hid (show Owns w12 B9 [.slice qa qn qc, .slice ea en ec, .int .i64 kinds2] 42 from hB9 ▸ hw12 ▸ Owns.alloc w11 _ _)
        have HG12 := Lib.hid g12
        have HG1012 := Lib.hid (hg11.trans g12)
        have HA10' := Lib.hid (HA10.out.keep HG1012.out)
        have HW12 := Lib.hid (HW10.out.trans HG1012.out)
        have HLV : Hid (∀ w, Grew w12 w → Calls Tryd.prog 6 #[] w fun e W' => e = .returned (.bool true) ∧ Grew w W') := Lib.hid fun w hw => lives8_ok w (HT.out.grew (HW12.out.trans hw)) (Nat.lt_of_lt_of_le HPOS.out (HW12.out.trans hw).size)
        have hst : (ka = 0 ∧ kb = 0) ∨ (¬ (ka = 0 ∧ kb = 0) ∧ (ka = 0 ∨ ka = 1 ∨ ka = 3) ∧ (kb = 0 ∨ kb = 1 ∨ kb = 3) ∧ (ka = kb ∨ ka = 1 ∨ kb = 1)) := by
          have hms := fun (h1 : g.Tidy) (h2 : g.turned.Tidy) => made_same (Gr.turned_rules g) h1.names h2.names
          rcases HRES.out with ⟨e1, t1, f1, -⟩ | ⟨e1, t1, f1, -⟩ | ⟨e1, -⟩ <;> rcases hres2 with ⟨e2, t2, f2, -⟩ | ⟨e2, t2, f2, -⟩ | ⟨e2, -⟩
          · exact .inl ⟨e1, e2⟩
          · rw [hms t1 t2, f2] at f1; cases f1
          · exact .inr (by omega)
          · rw [hms t1 t2, f2] at f1; cases f1
          · exact .inr (by omega)
          · exact .inr (by omega)
          · exact .inr (by omega)
          · exact .inr (by omega)
          · exact .inr (by omega)
        clear hg11 g12 hres2
        go_upto_region 18 with fail
        clear hw12 hB9
        rcases hst with ⟨rfl, rfl⟩ | ⟨hn0, hka, hkb, hor⟩
        · obtain ⟨-, ht1, -, sv, fl, hau⟩ : (0 : Int) = 0 ∧ g.Tidy ∧ g.made.2.full = false ∧ ∃ sv fl, AutoAt w9 (.slice pa pn pc) (.slice fa fn fc) kinds sv fl g := by
            rcases HRES.out with h | ⟨h, -⟩ | ⟨h, -⟩
            · exact h
            · cases h
            · cases h
          obtain ⟨-, ht2, -, sv', fl', hau'⟩ : (0 : Int) = 0 ∧ g.turned.Tidy ∧ g.turned.made.2.full = false ∧ ∃ sv fl, AutoAt w11 (.slice qa qn qc) (.slice ea en ec) kinds2 sv fl g.turned := by
            rcases HRES2.out with h | ⟨h, -⟩ | ⟨h, -⟩
            · exact h
            · cases h
            · cases h
          have hmd := made_same (Gr.turned_rules g) ht1.names ht2.names
          have htwo := Two.of (hau.grew (HG910.out.trans HG1012.out)) (hau'.grew HG12.out) hmd
          have hkk : kinds = kinds2 := by rw [hau.kinds, hau'.kinds, Gr.turned_of]
          subst hkk
          clear HRES HRES2 HG0 HRL HRC HRR HIN HGG HTG HTS HN HSL ht1 ht2 hau hau' hmd
          generalize g.made = q at *
          obtain ⟨x1, y1, e1⟩ := loose_form htwo.rowA
          obtain ⟨x2, y2, e2⟩ := loose_form htwo.rowB
          obtain ⟨x3, y3, e3⟩ := loose_form htwo.firstA
          obtain ⟨x4, y4, e4⟩ := loose_form htwo.firstB
          simp only [Value.slice.injEq] at e1 e2 e3 e4
          obtain ⟨rfl, rfl, rfl⟩ := e1
          obtain ⟨rfl, rfl, rfl⟩ := e2
          obtain ⟨rfl, rfl, rfl⟩ := e3
          obtain ⟨rfl, rfl, rfl⟩ := e4
          have HFS := Lib.hid (nsameNums_ok (placesL q.1.1) w12 _ _ htwo.firstA htwo.firstB)
          have hMle := loose_le htwo.rowA
          have HTWO := Lib.hid htwo
          clear htwo
          obtain ⟨M, hM⟩ : ∃ M, q.2.out.length = M := ⟨_, rfl⟩
          rw [hM] at HA10' HA12 hMle ⊢
          unfold maxLen at hMle
          have HM := Lib.hid hM
          have a0 := HA10'.out.cell_at (i := 0) rfl
          have a1 := HA10'.out.cell_at (i := 1) rfl
          have a2 := HA10'.out.cell_at (i := 2) rfl
          have al := HA10'.out.lt
          have b0 := HA12.out.cell_at (i := 0) rfl
          have b1 := HA12.out.cell_at (i := 1) rfl
          have b2 := HA12.out.cell_at (i := 2) rfl
          have bl := HA12.out.lt
          have hk1 : ((kinds : Int) != kinds) = false := by simp
          have hm1 : ((M : Int) != (M : Int)) = false := by simp
          clear hM
          go_wp2_with fail
          refine HFS.out.mono ?_
          rintro e w13 ⟨rfl, hg13⟩
          clear a0 a1 a2 al b0 b1 b2 bl HFS
          have HG13 := Lib.hid hg13
          have p8 := HA10'.out.keep hg13
          have p9 := HA12.out.keep hg13
          have a0 := p8.cell_at (i := 0) rfl
          have al := p8.lt
          have b0 := p9.cell_at (i := 0) rfl
          have bl := p9.lt
          clear hg13 p8 p9
          go_wp2_with fail
          clear a0 al b0 bl
          go_loopw [12] (fun c wr => ∃ (j : Nat), c = .int .i64 j ∧ j ≤ M ∧ Hid (Grew w12 wr)) (fun c _ => M - (intOf c).toNat)
          case atStart => exact ⟨0, rfl, Nat.zero_le _, HG13.out⟩
          case round =>
            obtain ⟨j, rfl, hj, GR⟩ := hrel
            by_cases hlt : j < M
            · have p8 := HA10'.out.keep GR.out
              have p9 := HA12.out.keep GR.out
              have a0 := p8.cell_at (i := 0) rfl
              have al := p8.lt
              have htw := HTWO.out.grew GR.out
              have hjq : j < q.2.out.length := by rw [HM.out]; exact hlt
              obtain ⟨g1, c1, e1, l1, k10, k11, k12, k13⟩ := pl_at htw.rowA hjq
              obtain ⟨g2, c2, e2, l2, k20, k21, k22, k23⟩ := pl_at htw.rowB hjq
              simp only [Value.slice.injEq] at e1 e2
              obtain ⟨rfl, -, rfl⟩ := e1
              obtain ⟨rfl, -, rfl⟩ := e2
              have hsA := htw.setA j hjq
              have hsB := htw.setB j hjq
              have hfA := htw.folA j hjq
              have hfB := htw.folB j hjq
              generalize q.2.out[j] = pl at *
              obtain ⟨s1, t1, hs1⟩ := loose_form hsA
              obtain ⟨s2, t2, hs2⟩ := loose_form hsB
              obtain ⟨f1, u1, hf1⟩ := loose_form hfA
              obtain ⟨f2, u2, hf2⟩ := loose_form hfB
              rw [hs1] at k10 hsA
              rw [hs2] at k20 hsB
              rw [hf1] at k13 hfA
              rw [hf2] at k23 hfB
              obtain ⟨lb, hlb⟩ : ∃ lb, q.1.2.testBit j = lb := ⟨_, rfl⟩
              rw [hlb] at k12 k22
              have hkn : (pl.kind != pl.kind) = false := by simp
              have hlb2 : (lb != lb) = false := by cases lb <;> rfl
              obtain ⟨sl, hsl⟩ : ∃ n, pl.set.length = n := ⟨_, rfl⟩
              obtain ⟨fl9, hfl9⟩ : ∃ n, (placesL pl.fol).length = n := ⟨_, rfl⟩
              obtain ⟨wa, hwa⟩ : ∃ wa, wr.alloc (.cells #[.slice s1 sl t1, .int .i64 pl.kind, .bool lb, .slice f1 fl9 u1] 48) = wa := ⟨_, rfl⟩
              obtain ⟨wb, hwb⟩ : ∃ wb, wa.alloc (.cells #[.slice s2 sl t2, .int .i64 pl.kind, .bool lb, .slice f2 fl9 u2] 48) = wb := ⟨_, rfl⟩
              have ga : Grew wr wa := hwa ▸ grew_alloc wr _
              have gb : Grew wa wb := hwb ▸ grew_alloc wa _
              have oa : Owns wa wr.heap.size [.slice s1 sl t1, .int .i64 pl.kind, .bool lb, .slice f1 fl9 u1] 48 := hwa ▸ Owns.alloc wr _ _
              have ob : Owns wb wa.heap.size [.slice s2 sl t2, .int .i64 pl.kind, .bool lb, .slice f2 fl9 u2] 48 := hwb ▸ Owns.alloc wa _ _
              have hgab := ga.trans gb
              have hbb := But.of_grew (F := fun _ => False) hgab
              have HSR := Lib.hid (nsameRanges_ok pl.set wb _ _ (hbb.row hsA fun _ _ e => e) (hbb.row hsB fun _ _ e => e))
              rw [hsl] at k10 k20 HSR
              rw [hfl9] at k13 k23
              have b0 := (p9.keep ga).cell_at (i := 0) rfl
              have bl := (p9.keep ga).lt
              have m1 := (ga.cells _ (j * 4) l2).trans k20
              have m2 := (ga.cells _ (j * 4 + 1) l2).trans k21
              have m3 := (ga.cells _ (j * 4 + 2) l2).trans k22
              have m4 := (ga.cells _ (j * 4 + 3) l2).trans k23
              have ml := Nat.lt_of_lt_of_le l2 ga.size
              have oa' := oa.keep gb
              have n0 := oa'.cell_at (i := 0) rfl
              have n1 := oa'.cell_at (i := 1) rfl
              have n2 := oa'.cell_at (i := 2) rfl
              have nl := oa'.lt
              have r0 := ob.cell_at (i := 0) rfl
              have r1 := ob.cell_at (i := 1) rfl
              have r2 := ob.cell_at (i := 2) rfl
              have rl := ob.lt
              have HOA := Lib.hid oa'
              have HOB := Lib.hid ob
              have HFA := Lib.hid (hbb.row hfA fun _ _ e => e)
              have HFB := Lib.hid (hbb.row hfB fun _ _ e => e)
              have HGB := Lib.hid (GR.out.trans hgab)
              have HFL9 := Lib.hid hfl9
              clear hs1 hs2 hf1 hf2 hlb hsl hfl9 hsA hsB hfA hfB htw p8 p9 ga gb oa ob hgab hbb oa' k20 k21 k22 k23
              go_wp2_with fail
              refine HSR.out.mono ?_
              rintro e w14 ⟨rfl, hg14⟩
              have HSN := Lib.hid (nsameNums_ok (placesL pl.fol) w14 _ _ ((But.of_grew (F := fun _ => False) hg14).row HFA.out fun _ _ e => e) ((But.of_grew (F := fun _ => False) hg14).row HFB.out fun _ _ e => e))
              rw [HFL9.out] at HSN
              have oa4 := HOA.out.keep hg14
              have ob4 := HOB.out.keep hg14
              have n3 := oa4.cell_at (i := 3) rfl
              have nl4 := oa4.lt
              have r3 := ob4.cell_at (i := 3) rfl
              have rl4 := ob4.lt
              have HG14 := Lib.hid (HGB.out.trans hg14)
              clear hwa hwb a0 al b0 bl l1 l2 k10 k11 k12 k13 m1 m2 m3 m4 ml n0 n1 n2 nl r0 r1 r2 rl oa4 ob4 hg14 HSR
              go_wp2_with fail
              refine HSN.out.mono ?_
              rintro e w15 ⟨rfl, hg15⟩
              have HG15 := Lib.hid (HG14.out.trans hg15)
              clear n3 nl4 r3 rl4 hg15 HSN
              go_wp2_with fail
              exact ⟨⟨j + 1, by go_num, by omega, HG15.out⟩, by simp [intOf]; omega⟩
            · have p8 := HA10'.out.keep GR.out
              have a0 := p8.cell_at (i := 0) rfl
              have al := p8.lt
              have HL9 := Lib.hid (HLV.out wr GR.out)
              clear p8
              go_wp2_with fail
              refine HL9.out.mono ?_
              rintro e w14 ⟨rfl, hg14⟩
              go_wp2_with fail
              go_ret
              exact ⟨rfl, (HW12.out.trans GR.out).trans hg14⟩
        · clear HN HG0 HRL HRC HRR HIN HGG HTG HTS HRES HRES2 HA10 HA10' HA12
          rcases hka with rfl | rfl | rfl <;> rcases hkb with rfl | rfl | rfl
          all_goals
            first
            | (exfalso; omega)
            | (clear hn0 hor
               go_wp2_with fail
               refine (HLV.out w12 (Grew.refl _)).mono ?_
               rintro e w13 ⟨rfl, hg13⟩
               go_wp2_with fail
               go_ret
               exact ⟨rfl, HW12.out.trans hg13⟩)
end Go.Proofs.YtkinlcichclnkaaDoor
