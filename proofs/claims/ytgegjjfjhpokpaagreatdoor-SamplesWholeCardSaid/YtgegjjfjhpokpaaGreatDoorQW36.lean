/- Whether a grammar is more than is gone through: where it is not, its rules are few and its nodes small. -/
import Derived.BigQuiet
import Derived.Test.YtgegjjfjhpokpaaGreatDoorQW35
import Derived.Test.YtgegjjfjhpokpaaGreatDoorQW3
namespace Go.Proofs.YtgegjjfjhpokpaaGreatDoor
open Go.RowKit

mutual
def Nd.cnt : Nd → Nat
  | .mk _ _ _ _ subs => 1 + Nd.cnts subs
def Nd.cnts : List Nd → Nat
  | [] => 0
  | n :: r => n.cnt + Nd.cnts r
end
theorem Nd.cnts_snoc (l : List Nd) (n : Nd) : Nd.cnts (l ++ [n]) = Nd.cnts l + n.cnt := by
  induction l with
  | nil => simp [Nd.cnts]
  | cons x r ih => simp only [List.cons_append, Nd.cnts, ih]; omega
theorem Nd.cnts_take (l : List Nd) (k : Nat) (h : k < l.length) : Nd.cnts (l.take (k + 1)) = Nd.cnts (l.take k) + l[k].cnt := by
  rw [List.take_succ_eq_append_getElem h, Nd.cnts_snoc]
theorem Nd.cnts_take_le (l : List Nd) (k : Nat) : Nd.cnts (l.take k) ≤ Nd.cnts l := by
  induction l generalizing k with
  | nil => simp [Nd.cnts]
  | cons x r ih =>
    cases k with
    | zero => simp [Nd.cnts]
    | succ k => have := ih k; simp only [List.take_succ_cons, Nd.cnts]; omega
mutual
theorem Nd.cnt_le_total : ∀ n : Nd, n.cnt ≤ n.total
  | .mk k nm tx set subs => by have := Nd.cnts_le_totals subs; rw [Nd.cnt, Nd.total]; omega
theorem Nd.cnts_le_totals : ∀ l : List Nd, Nd.cnts l ≤ Nd.totals l
  | [] => by simp [Nd.cnts]
  | n :: r => by have := Nd.cnt_le_total n; have := Nd.cnts_le_totals r; rw [Nd.cnts, Nd.totals]; omega
end

/-- a bool that, where it is false, tells p -/
def BoolTells (p : Prop) (e : Ending) : Prop := e = .returned (.bool true) ∨ (e = .returned (.bool false) ∧ p)
theorem boolTells_mk {p : Prop} (b : Bool) (h : b = false → p) : BoolTells p (.returned (.bool b)) := by
  cases b
  · exact .inr ⟨rfl, h rfl⟩
  · exact .inl rfl

theorem great3_ok (n : Nd) (W : World) (v0 v1 v2 v3 v4 : Value) (hN : NodeAt W W.heap.size (some v0) (some v1) (some v2) (some v3) (some v4) n) :
    Calls Tryz.prog 55 #[.agg #[v0, v1, v2, v3, v4]] W fun e W' => BoolTells (n.total ≤ 3000) e ∧ Below W.heap.size W W' := by
  have hb : Below W.heap.size W (W.alloc (.cells #[v0, v1, v2, v3, v4] 68)) := (Below.refl _ _).alloc (Nat.le_refl _) _
  have hw := Lib.hid (weight_ok n (W.alloc (.cells #[v0, v1, v2, v3, v4] 68)) v0 v1 v2 v3 v4 0 (by omega) (by omega) ((hN.keep hb).mono hb.size))
  have hB := Lib.hid hb
  clear hN hb
  go_enter Tryz.func55, Tryz.ntmps55
  go_wp2_with (go_at_call 76; refine hw.out.mono ?_; rintro e w' ⟨⟨r, rfl, hr0, hr1, hr2⟩, hb2⟩)
  go_ret
  refine ⟨boolTells_mk _ fun h => ?_, hB.out.trans (hb2.mono (by simp))⟩
  have : r ≤ 3000 := by simpa using h
  have := hr2 (by omega)
  omega

set_option maxHeartbeats 1000000 in
theorem many_ok (n : Nd) : ∀ (W : World) (v0 v1 v2 v3 v4 : Value), n.cnt ≤ 9000 → NodeAt W W.heap.size (some v0) (some v1) (some v2) (some v3) (some v4) n →
    Calls Tryz.prog 38 #[.agg #[v0, v1, v2, v3, v4]] W fun e W' => e = .returned (.int .i64 n.cnt) ∧ Below W.heap.size W W' := by
  induction n using Nd.ind with
  | h k nm tx set subs ih =>
  intro W v0 v1 v2 v3 v4 hC hN
  rw [NodeAt] at hN
  obtain ⟨hk, h1, h2, h3, h4, h5, ⟨sa, sc, h6, h6', h7⟩, na, nc, h8, h8', h9⟩ := hN
  obtain rfl := Option.some.inj h3
  obtain rfl := Option.some.inj h4
  obtain rfl := Option.some.inj h5
  obtain rfl := Option.some.inj h6
  obtain rfl := Option.some.inj h8
  clear h3 h4 h5 h6 h8
  unfold reachN at h1 h2 h6' h8'
  rw [Nd.cnt] at hC ⊢
  have hcl := Nd.cnts_take_le subs
  have HC := Lib.hid hC
  have HL := Lib.hid hcl
  clear hcl hC
  go_enter Tryz.func38, Tryz.ntmps38
  go_wp2
  go_loopw [3, 4] (fun v i wr => ∃ (q : Int) (j : Nat), v = .int .i64 q ∧ i = .int .i64 j ∧ j ≤ subs.length ∧ Hid (q = 1 + Nd.cnts (subs.take j)) ∧ 0 ≤ q ∧ q ≤ 9000 ∧ Below W.heap.size W wr ∧ W.heap.size < wr.heap.size ∧ wr.cell? ⟨W.heap.size, 4, none⟩ = some (.slice na subs.length nc)) (fun _ i _ => subs.length - (intOf i).toNat)
  case atStart =>
    refine ⟨_, 0, rfl, rfl, by omega, by simp [Hid, Nd.cnts], by omega, by omega, ?_, by simp, ?_⟩
    · exact (Below.refl _ _).alloc (Nat.le_refl _) _
    · simp [go_sem]
  case round =>
    obtain ⟨q, j, rfl, rfl, hj, hq, hq0, hq1, hbw, hsz, hbox⟩ := hrel
    by_cases hlt : j < subs.length
    · obtain ⟨b, off, rfl, hb, hnode⟩ := (h9.keep hbw).get hlt
      simp only [Nat.zero_add] at hnode
      obtain ⟨u0, u1, u2, u3, u4, e0, e1, e2, e3, e4, hnode⟩ := hnode.vals
      have hle : q + subs[j].cnt ≤ 9000 := by
        have a1 := HL.out (j + 1)
        have a2 := Nd.cnts_take subs j hlt
        have a3 := HC.out
        have a4 := hq.out
        omega
      have hsub := ih j hlt wr u0 u1 u2 u3 u4 (by omega) (hnode.mono hbw.size)
      have HS := Lib.hid hsub
      clear hsub hnode ih h7 h9
      go_wp2_with (go_at_call 38; refine HS.out.mono ?_; rintro e w' ⟨rfl, hb2⟩)
      exact ⟨⟨q + subs[j].cnt, j + 1, rfl, by go_num, by omega, by have := hq.out; have := Nd.cnts_take subs j hlt; unfold Hid; omega, by omega, by omega, hbw.trans (hb2.mono (by omega)), by have := hb2.size; omega, by rw [hb2.cell hsz]; exact hbox⟩, by simp [intOf]; omega⟩
    · clear ih h7 h9
      go_wp2_with fail
      go_ret
      refine ⟨?_, hbw⟩
      have := hq.out
      rw [List.take_of_length_le (by omega)] at this
      rw [this]
      rfl
end Go.Proofs.YtgegjjfjhpokpaaGreatDoor

/- Whether a grammar is more than is gone through: the further functions. -/
namespace Go.Proofs.YtgegjjfjhpokpaaGreatDoor
open Go.RowKit

/-- what is known of a grammar that is not too great -/
structure Gr.Fair4 (g : Gr) : Prop where
  len : g.rules.length ≤ 80
  name : g.name.size ≤ 200
  rule : ∀ i (h : i < g.rules.length), g.rules[i].body.total ≤ 3000 ∧ g.rules[i].name.size ≤ 200

def Fair4To (g : Gr) (j : Nat) : Prop := ∀ i (h : i < g.rules.length), i < j → g.rules[i].body.total ≤ 3000 ∧ g.rules[i].name.size ≤ 200

theorem fair4_next {g : Gr} {j : Nat} (h : Fair4To g j) (hj : j < g.rules.length) (h1 : g.rules[j].body.total ≤ 3000) (h2 : g.rules[j].name.size ≤ 200) : Fair4To g (j + 1) := by
  intro i hi hlt
  by_cases e : i = j
  · subst e; exact ⟨h1, h2⟩
  · exact h i hi (by omega)

set_option maxHeartbeats 1000000 in
theorem great4_ok (g : Gr) (W : World) (v0 v1 v2 v3 : Value) (hG : GrAt W W.heap.size (some v0) (some v1) (some v2) (some v3) g) :
    Calls Tryz.prog 37 #[.agg #[v0, v1, v2, v3]] W fun e W' => BoolTells g.Fair4 e ∧ Below W.heap.size W W' := by
  obtain ⟨h1, hs, h2, h3, h4, h5, ra, rc, h6, h7, h8⟩ := hG
  obtain rfl := Option.some.inj h1
  obtain rfl := Option.some.inj h2
  obtain rfl := Option.some.inj h3
  obtain rfl := Option.some.inj h6
  clear h1 h2 h3 h4 h5 h6
  unfold reachN at hs h7
  by_cases hlen : g.rules.length ≤ 80
  · go_enter Tryz.func37, Tryz.ntmps37
    go_wp2
    go_loopw [3] (fun i wr => ∃ (j : Nat), i = .int .i64 j ∧ j ≤ g.rules.length ∧ Hid (Fair4To g j) ∧ Below W.heap.size W wr ∧ W.heap.size < wr.heap.size ∧ wr.cell? ⟨W.heap.size, 0, none⟩ = some (.string g.name) ∧ wr.cell? ⟨W.heap.size, 3, none⟩ = some (.slice ra g.rules.length rc)) (fun i _ => g.rules.length - (intOf i).toNat)
    case atStart =>
      refine ⟨0, rfl, by omega, fun i hi h => absurd h (by omega), ?_, by simp, ?_, ?_⟩
      · exact (Below.refl _ _).alloc (Nat.le_refl _) _
      · simp [go_sem]
      · simp [go_sem]
    case round =>
      obtain ⟨j, rfl, hj, hf, hbw, hsz, hbox0, hbox⟩ := hrel
      by_cases hlt : j < g.rules.length
      · obtain ⟨b, off, rfl, hb, hrule⟩ := (h8.keep hbw).get hlt
        simp only [Nat.zero_add] at hrule
        obtain ⟨u2, u3, u4, u5, u6, e0, e1, e2, e3, e4, e5, e6, e7, e8, e9, hrule, hnode⟩ := hrule.vals
        have hrs := hrule.2.1
        unfold reachN at hrs
        have HS := Lib.hid (great3_ok _ wr _ _ _ _ _ (hnode.mono hbw.size))
        clear hrule hnode h8
        by_cases h200 : g.rules[j].name.size ≤ 200
        · go_wp2_with (go_at_call 55; refine HS.out.mono ?_; rintro e w' ⟨(rfl | ⟨rfl, ht⟩), hb2⟩ <;> (have ec : ∀ o, w'.cell? ⟨b, o, none⟩ = wr.cell? ⟨b, o, none⟩ := (fun o => hb2.cell (p := ⟨b, o, none⟩) (by show b < _; omega)); have eb : w'.cell? ⟨W.heap.size, 3, none⟩ = wr.cell? ⟨W.heap.size, 3, none⟩ := hb2.cell hsz))
          all_goals first
            | (go_ret; exact ⟨.inl rfl, hbw.trans (hb2.mono (by omega))⟩)
            | exact ⟨⟨j + 1, by go_num, by omega, fair4_next hf hlt ht h200, hbw.trans (hb2.mono (by omega)), by have := hb2.size; omega, by rw [hb2.cell hsz]; exact hbox0, by rw [hb2.cell hsz]; exact hbox⟩, by simp [intOf]; omega⟩
        · go_wp2_with (go_at_call 55; refine HS.out.mono ?_; rintro e w' ⟨(rfl | ⟨rfl, ht⟩), hb2⟩ <;> (have ec : ∀ o, w'.cell? ⟨b, o, none⟩ = wr.cell? ⟨b, o, none⟩ := (fun o => hb2.cell (p := ⟨b, o, none⟩) (by show b < _; omega)); have eb : w'.cell? ⟨W.heap.size, 3, none⟩ = wr.cell? ⟨W.heap.size, 3, none⟩ := hb2.cell hsz))
          all_goals (go_ret; exact ⟨.inl rfl, hbw.trans (hb2.mono (by omega))⟩)
      · clear h8
        go_wp2_with fail
        go_ret
        refine ⟨boolTells_mk _ fun h => ⟨hlen, by simp at h; omega, fun i hi => hf.out i hi (by omega)⟩, hbw⟩
  · go_enter Tryz.func37, Tryz.ntmps37
    go_wp2
    go_ret
    exact ⟨.inl rfl, (Below.refl _ _).alloc (Nat.le_refl _) _⟩

def Gr.cnts (g : Gr) (j : Nat) : Nat := Nd.cnts ((g.rules.take j).map (·.body))
theorem Gr.cnts_next (g : Gr) (j : Nat) (h : j < g.rules.length) : g.cnts (j + 1) = g.cnts j + g.rules[j].body.cnt := by
  unfold Gr.cnts
  rw [List.take_succ_eq_append_getElem h, List.map_append, List.map_cons, List.map_nil, Nd.cnts_snoc]
/-- what is known of a grammar that is gone through -/
structure Gr.Fair (g : Gr) : Prop where
  len : g.rules.length ≤ 20
  name : g.name.size ≤ 200
  rule : ∀ i (h : i < g.rules.length), g.rules[i].body.total ≤ 3000 ∧ g.rules[i].name.size ≤ 200
  cnt : g.cnts g.rules.length ≤ 500

set_option maxHeartbeats 1000000 in
theorem great5_ok (g : Gr) (W : World) (v0 v1 v2 v3 : Value) (hG : GrAt W W.heap.size (some v0) (some v1) (some v2) (some v3) g) :
    Calls Tryz.prog 26 #[.agg #[v0, v1, v2, v3]] W fun e W' => BoolTells g.Fair e ∧ Below W.heap.size W W' := by
  have hB : Below W.heap.size W (W.alloc (.cells #[v0, v1, v2, v3] 46)) := (Below.refl _ _).alloc (Nat.le_refl _) _
  have hS := Lib.hid (great4_ok g (W.alloc (.cells #[v0, v1, v2, v3] 46)) v0 v1 v2 v3 ((hG.keep hB).mono hB.size))
  have HB := Lib.hid hB
  clear hB
  obtain ⟨h1, hs, h2, h3, h4, h5, ra, rc, h6, h7, h8⟩ := hG
  obtain rfl := Option.some.inj h1
  obtain rfl := Option.some.inj h2
  obtain rfl := Option.some.inj h3
  obtain rfl := Option.some.inj h6
  clear h1 h2 h3 h4 h5 h6
  unfold reachN at hs h7
  by_cases hlen : g.rules.length ≤ 20
  · go_enter Tryz.func26, Tryz.ntmps26
    go_wp2_with (go_at_call 37; refine hS.out.mono ?_; rintro e w' ⟨(rfl | ⟨rfl, ht⟩), hb2⟩ <;> (have eb : ∀ o, w'.cell? ⟨W.heap.size, o, none⟩ = (W.alloc (.cells #[.string g.name, .int .i64 g.bound, .int .i64 g.states, .slice ra g.rules.length rc] 46)).cell? ⟨W.heap.size, o, none⟩ := (fun o => hb2.cell (p := ⟨W.heap.size, o, none⟩) (by show W.heap.size < _; simp)); have HB2 := Lib.hid hb2; clear hb2))
    · go_ret
      exact ⟨.inl rfl, HB.out.trans (HB2.out.mono (by simp))⟩
    · have hf := Lib.hid ht
      have hbw : Below W.heap.size W w' := HB.out.trans (HB2.out.mono (by simp))
      have hsz : W.heap.size < w'.heap.size := by have := HB2.out.size; simp at this; omega
      go_loopw [3, 4] (fun v i wr => ∃ (q j : Nat), v = .int .i64 q ∧ i = .int .i64 j ∧ j ≤ g.rules.length ∧ Hid (q = g.cnts j) ∧ q ≤ j * 3000 ∧ Below W.heap.size W wr ∧ W.heap.size < wr.heap.size ∧ wr.cell? ⟨W.heap.size, 3, none⟩ = some (.slice ra g.rules.length rc)) (fun _ i _ => g.rules.length - (intOf i).toNat)
      case atStart =>
        refine ⟨0, 0, rfl, rfl, by omega, rfl, by omega, hbw, hsz, ?_⟩
        rw [eb]
        simp [go_sem]
      case round =>
        clear eb
        obtain ⟨q, j, rfl, rfl, hj, hq, hq1, hbw2, hsz2, hbox⟩ := hrel
        by_cases hlt : j < g.rules.length
        · obtain ⟨b, off, rfl, hb, hrule⟩ := (h8.keep hbw2).get hlt
          simp only [Nat.zero_add] at hrule
          obtain ⟨u2, u3, u4, u5, u6, e0, e1, e2, e3, e4, e5, e6, e7, e8, e9, hrule, hnode⟩ := hrule.vals
          have hc : g.rules[j].body.cnt ≤ 3000 := Nat.le_trans (Nd.cnt_le_total _) (hf.out.rule j hlt).1
          have HS := Lib.hid (many_ok _ wr _ _ _ _ _ (by omega) (hnode.mono hbw2.size))
          clear hrule hnode h8
          go_wp2_with (go_at_call 38; refine HS.out.mono ?_; rintro e w2 ⟨rfl, hb2⟩)
          exact ⟨⟨q + g.rules[j].body.cnt, j + 1, by go_num, by go_num, by omega, by have := hq.out; unfold Hid; rw [g.cnts_next j hlt, this], by omega, hbw2.trans (hb2.mono (by omega)), by have := hb2.size; omega, by rw [hb2.cell hsz2]; exact hbox⟩, by simp [intOf]; omega⟩
        · clear h8
          go_wp2_with fail
          go_ret
          refine ⟨boolTells_mk _ fun h => ?_, hbw2⟩
          have e1 := hq.out
          have e2 : j = g.rules.length := by omega
          simp at h
          exact ⟨hlen, hf.out.name, hf.out.rule, by rw [← e2, ← e1]; omega⟩
  · go_enter Tryz.func26, Tryz.ntmps26
    go_wp2_with (go_at_call 37; refine hS.out.mono ?_; rintro e w' ⟨(rfl | ⟨rfl, ht⟩), hb2⟩ <;> (have eb : ∀ o, w'.cell? ⟨W.heap.size, o, none⟩ = (W.alloc (.cells #[.string g.name, .int .i64 g.bound, .int .i64 g.states, .slice ra g.rules.length rc] 46)).cell? ⟨W.heap.size, o, none⟩ := (fun o => hb2.cell (p := ⟨W.heap.size, o, none⟩) (by show W.heap.size < _; simp)); have HB2 := Lib.hid hb2; clear hb2))
    all_goals (go_ret; exact ⟨.inl rfl, HB.out.trans (HB2.out.mono (by simp))⟩)
end Go.Proofs.YtgegjjfjhpokpaaGreatDoor

/- grams.kept, word, named, and what Sound asks of a rule: just so. -/
namespace Go.Proofs.YtgegjjfjhpokpaaGreatDoor
open Go.RowKit Go.Shelf

/-- a bool that is true just if P is so -/
def JustIf (P : Prop) (W : World) (e : Ending) (W' : World) : Prop := (∃ b, e = .returned (.bool b) ∧ (b = true ↔ P)) ∧ Grew W W'
def litN (k : Int) (s : ByteArray) : Nd := .mk k s ⟨#[]⟩ [] []
def GoodN (token : Bool) (n : Nd) : Prop := Good token (n.alld 1)
def keptL : List ByteArray := [⟨#[103, 114, 97, 109, 109, 97, 114]⟩, ⟨#[111, 112, 116, 105, 111, 110, 115]⟩, ⟨#[102, 114, 97, 103, 109, 101, 110, 116]⟩, ⟨#[115, 107, 105, 112]⟩]
def keptP (s : ByteArray) : Prop := Lib.containsS (keptL.take 4) s = true
def wordP (s : ByteArray) : Prop := GoodN false (litN 5 s) ∨ GoodN false (litN 6 s)
def namedP (s : ByteArray) (sort : Int) : Prop := GoodN false (litN (if sort = 0 then 5 else 6) s) ∧ ¬ keptP s
def ruleP (r : Rl) : Prop := r.sort ≤ 3 ∧ namedP r.name r.sort ∧ GoodN (r.sort != 0) r.body
theorem lit_node (W : World) (k : Int) (hk : 0 ≤ k ∧ k ≤ 255) (s : ByteArray) (hs : s.size ≤ reachN) : NodeAt W W.heap.size (some (.int .u8 k)) (some (.string s)) (some (.string ⟨#[]⟩)) (some (.slice none 0 0)) (some (.slice none 0 0)) (litN k s) := by
  unfold litN
  rw [NodeAt]
  refine ⟨hk, hs, by show (0 : Nat) ≤ _; omega, rfl, rfl, rfl, ⟨none, 0, rfl, by simp [reachN], ?_⟩, none, 0, rfl, by simp [reachN], ?_⟩
  · rw [RangesAt]; trivial
  · rw [NodesAt]; trivial

set_option maxRecDepth 20000 in
theorem kept_ok (s : ByteArray) (W : World) : Calls Tryz.prog 57 #[.string s] W (JustIf (keptP s) W) := by
  have hg := grew_alloc W (.cells #[.string ⟨#[103, 114, 97, 109, 109, 97, 114]⟩, .string ⟨#[111, 112, 116, 105, 111, 110, 115]⟩, .string ⟨#[102, 114, 97, 103, 109, 101, 110, 116]⟩, .string ⟨#[115, 107, 105, 112]⟩] 9)
  have ho := Owns.alloc W [.string ⟨#[103, 114, 97, 109, 109, 97, 114]⟩, .string ⟨#[111, 112, 116, 105, 111, 110, 115]⟩, .string ⟨#[102, 114, 97, 103, 109, 101, 110, 116]⟩, .string ⟨#[115, 107, 105, 112]⟩] 9
  have hS := Tryz.slices_Contains_string W.heap.size 0 4 4 keptL s _ (by simp [keptL]) (by omega) (fun j hj => by
    rw [Nat.zero_add]
    match j, hj with
    | 0, _ => exact ho.cell_at rfl
    | 1, _ => exact ho.cell_at rfl
    | 2, _ => exact ho.cell_at rfl
    | 3, _ => exact ho.cell_at rfl)
  obtain ⟨x, hx⟩ : ∃ x, Lib.containsS (keptL.take 4) s = x := ⟨_, rfl⟩
  rw [hx] at hS
  have HX := Lib.hid hx
  have HS := Lib.hid hS
  have HG := Lib.hid hg
  clear ho hx hS hg
  go_enter Tryz.func57, Tryz.ntmps57
  go_wp2_with fail
  refine HS.out.mono ?_
  rintro e w' ⟨rfl, rfl⟩
  go_wp2_with fail
  go_ret
  exact ⟨⟨_, rfl, by unfold keptP; rw [HX.out]⟩, HG.out⟩

theorem lit_plain (k : Int) (hk : 0 ≤ k ∧ k ≤ 255) (s : ByteArray) (hs : s.size ≤ reachN) (W : World) (hT : Lib.Utf8Tabs 1 2 W) : Calls Tryz.prog 43 #[.agg #[.int .u8 k, .string s, .string ⟨#[]⟩, .slice none 0 0, .slice none 0 0], .bool false] W (JustIf (GoodN false (litN k s)) W) :=
  nPlain_ok false (litN k s) W hT _ _ _ _ _ (lit_node W k hk s hs)

set_option maxRecDepth 20000 in
theorem word_ok (s : ByteArray) (hs : s.size ≤ reachN) (W : World) (hT : Lib.Utf8Tabs 1 2 W) : Calls Tryz.prog 39 #[.string s] W (JustIf (wordP s) W) := by
  have h1 := Lib.hid (lit_plain 5 (by omega) s hs W hT)
  have h2 := Lib.hid (fun w (hg : Grew W w) => lit_plain 6 (by omega) s hs w (tabs_grew hT hg))
  clear hT
  unfold wordP
  go_enter Tryz.func39, Tryz.ntmps39
  go_wp2_with fail
  refine h1.out.mono ?_
  rintro e w ⟨⟨b, rfl, hb⟩, hg⟩
  have HG := Lib.hid hg
  have HB := Lib.hid hb
  clear hg hb
  cases b with
  | true =>
    go_wp2_with fail
    go_ret
    exact ⟨⟨_, rfl, fun _ => .inl (HB.out.1 (by first | rfl | trivial)), fun _ => rfl⟩, HG.out⟩
  | false =>
    go_wp2_with fail
    refine (h2.out w HG.out).mono ?_
    rintro e w2 ⟨⟨b, rfl, hb2⟩, hg⟩
    have HG2 := Lib.hid (HG.out.trans hg)
    have HB2 := Lib.hid hb2
    clear hg hb2
    go_wp2_with fail
    go_ret
    exact ⟨⟨_, rfl, fun h => .inr (HB2.out.1 h), fun h => h.elim (fun h => absurd (HB.out.2 h) (by simp)) HB2.out.2⟩, HG2.out⟩

set_option maxRecDepth 20000 in
theorem gnamed_ok (s : ByteArray) (hs : s.size ≤ reachN) (sort : Int) (W : World) (hT : Lib.Utf8Tabs 1 2 W) : Calls Tryz.prog 42 #[.string s, .int .u8 sort] W (JustIf (namedP s sort) W) := by
  have h1 := Lib.hid (lit_plain 5 (by omega) s hs W hT)
  have h2 := Lib.hid (lit_plain 6 (by omega) s hs W hT)
  have h3 := Lib.hid (fun w => kept_ok s w)
  clear hT
  unfold namedP
  by_cases h0 : sort = 0
  · subst h0
    simp only [if_true]
    go_enter Tryz.func42, Tryz.ntmps42
    go_wp2_with fail
    refine h1.out.mono ?_
    rintro e w ⟨⟨b, rfl, hb⟩, hg⟩
    have HG := Lib.hid hg
    have HB := Lib.hid hb
    clear hg hb
    cases b with
    | false =>
      go_wp2_with fail
      go_ret
      exact ⟨⟨_, rfl, fun h => (by cases h), fun h => absurd (HB.out.2 h.1) (by simp)⟩, HG.out⟩
    | true =>
      go_wp2_with fail
      refine (h3.out w).mono ?_
      rintro e w2 ⟨⟨b, rfl, hb2⟩, hg⟩
      have HG2 := Lib.hid (HG.out.trans hg)
      have HB2 := Lib.hid hb2
      clear hg hb2
      go_wp2_with fail
      go_ret
      refine ⟨⟨_, rfl, ?_⟩, HG2.out⟩
      cases b
      · exact ⟨fun _ => ⟨HB.out.1 (by first | rfl | trivial), fun h => absurd (HB2.out.2 h) (by simp)⟩, fun _ => rfl⟩
      · exact ⟨fun h => (by cases h), fun h => absurd (HB2.out.1 (by first | rfl | trivial)) h.2⟩
  · have h0b : (sort == 0) = false := beq_eq_false_iff_ne.2 h0
    simp only [if_neg h0]
    go_enter Tryz.func42, Tryz.ntmps42
    go_wp2_with fail
    refine h2.out.mono ?_
    rintro e w ⟨⟨b, rfl, hb⟩, hg⟩
    have HG := Lib.hid hg
    have HB := Lib.hid hb
    clear hg hb
    cases b with
    | false =>
      go_wp2_with fail
      go_ret
      exact ⟨⟨_, rfl, fun h => (by cases h), fun h => absurd (HB.out.2 h.1) (by simp)⟩, HG.out⟩
    | true =>
      go_wp2_with fail
      refine (h3.out w).mono ?_
      rintro e w2 ⟨⟨b, rfl, hb2⟩, hg⟩
      have HG2 := Lib.hid (HG.out.trans hg)
      have HB2 := Lib.hid hb2
      clear hg hb2
      go_wp2_with fail
      go_ret
      refine ⟨⟨_, rfl, ?_⟩, HG2.out⟩
      cases b
      · exact ⟨fun _ => ⟨HB.out.1 (by first | rfl | trivial), fun h => absurd (HB2.out.2 h) (by simp)⟩, fun _ => rfl⟩
      · exact ⟨fun h => (by cases h), fun h => absurd (HB2.out.1 (by first | rfl | trivial)) h.2⟩

set_option maxRecDepth 20000 in
theorem sound1_ok (r : Rl) (W : World) (hT : Lib.Utf8Tabs 1 2 W) (v0 v1 v2 v3 v4 v5 v6 v7 v8 v9 : Value) (hR : RuleAt W W.heap.size (some v0) (some v1) (some v2) (some v3) (some v4) (some v5) (some v6) (some v7) (some v8) (some v9) r) :
    Calls Tryz.prog 41 #[.agg #[v0, v1, v2, v3, v4, v5, v6, v7, v8, v9]] W (JustIf (¬ ruleP r) W) := by
  obtain ⟨h1, hs, h2, hso, hn, h7, h8, h9, i7, i8, i9⟩ := hR
  obtain rfl := Option.some.inj h1
  obtain rfl := Option.some.inj h2
  obtain rfl := Option.some.inj h7
  obtain rfl := Option.some.inj h8
  obtain rfl := Option.some.inj h9
  obtain ⟨k0, k1, k2, k3, k4, k5, k6, k7, k8, rfl, rfl, rfl, rfl, rfl⟩ := hn.forms
  have hg := grew_alloc W (.cells #[.string r.name, .int .u8 r.sort, .int .u8 k0, .string k1, .string k2, .slice k3 k4 k5, .slice k6 k7 k8, .int .i64 r.p0, .int .i64 r.p1, .int .i64 r.p2] 72)
  have ho := Owns.alloc W [.string r.name, .int .u8 r.sort, .int .u8 k0, .string k1, .string k2, .slice k3 k4 k5, .slice k6 k7 k8, .int .i64 r.p0, .int .i64 r.p1, .int .i64 r.p2] 72
  have HNM := Lib.hid (gnamed_ok r.name hs r.sort _ (tabs_grew hT hg))
  have HPL := Lib.hid (fun w (hg : Grew W w) => nPlain_ok (r.sort != 0) r.body w (tabs_grew hT hg) _ _ _ _ _ ((hn.keep hg).mono hg.size))
  have HO := Lib.hid ho
  have HG := Lib.hid hg
  clear hT hn h1 h2 h7 h8 h9 i7 i8 i9 hg ho hs
  have HRP := Lib.hid (show ruleP r ↔ r.sort ≤ 3 ∧ namedP r.name r.sort ∧ GoodN (r.sort != 0) r.body from Iff.rfl)
  obtain ⟨P, hP⟩ : ∃ P, ruleP r = P := ⟨_, rfl⟩
  rw [hP] at HRP ⊢
  clear hP
  by_cases h3 : (3 : Int) < r.sort
  · have HX := Lib.hid (show ¬ P from fun h => by have := (HRP.out.1 h).1; omega)
    go_enter Tryz.func41, Tryz.ntmps41
    go_wp2_with fail
    go_ret
    exact ⟨⟨_, rfl, fun _ => HX.out, fun _ => rfl⟩, HG.out⟩
  · have HLE := Lib.hid (show r.sort ≤ 3 by omega)
    go_enter Tryz.func41, Tryz.ntmps41
    go_wp2_with fail
    refine HNM.out.mono ?_
    rintro e w ⟨⟨b, rfl, hbn⟩, hb⟩
    have o2 := HO.out.keep hb
    have c2 := o2.cell_at (i := 2) rfl
    have c1 := o2.cell_at (i := 1) rfl
    have c3 := o2.cell_at (i := 3) rfl
    have c4 := o2.cell_at (i := 4) rfl
    have c5 := o2.cell_at (i := 5) rfl
    have c6 := o2.cell_at (i := 6) rfl
    have cl := o2.lt
    have HG2 := Lib.hid (HG.out.trans hb)
    have HBN := Lib.hid hbn
    clear hb o2 hbn
    cases b with
    | false =>
      have HX := Lib.hid (show ¬ P from fun h => absurd (HBN.out.2 (HRP.out.1 h).2.1) (by simp))
      go_wp2_with fail
      go_ret
      exact ⟨⟨_, rfl, fun _ => HX.out, fun _ => rfl⟩, HG2.out⟩
    | true =>
      have HP := Lib.hid (HPL.out w HG2.out)
      clear HPL
      go_wp2_with fail
      refine HP.out.mono ?_
      rintro e w2 ⟨⟨b, rfl, hb⟩, hg⟩
      have HG3 := Lib.hid (HG2.out.trans hg)
      have HB := Lib.hid hb
      clear hg hb
      go_wp2_with fail
      go_ret
      refine ⟨⟨_, rfl, ?_⟩, HG3.out⟩
      cases b
      · exact ⟨fun _ h => absurd (HB.out.2 (HRP.out.1 h).2.2) (by simp), fun _ => rfl⟩
      · exact ⟨fun h => (by cases h), fun h => absurd (HRP.out.2 ⟨HLE.out, HBN.out.1 (by first | rfl | trivial), HB.out.1 (by first | rfl | trivial)⟩) h⟩
end Go.Proofs.YtgegjjfjhpokpaaGreatDoor
