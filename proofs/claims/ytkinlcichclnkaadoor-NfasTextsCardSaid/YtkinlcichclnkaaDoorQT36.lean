/- Build of nfas. -/
import Derived.Test.YtkinlcichclnkaaDoorQT35
import Derived.Test.YtkinlcichclnkaaDoorQT20
namespace Go.Proofs.YtkinlcichclnkaaDoor
open Go.RowKit Go.Shelf
attribute [local go_sem] Oper.semAt_some

theorem two_okN {fn : Func} {P : Program} {p u : Tmp} {ty : TypeId} (h : fn.results = #[.cell p ty, .tmp u]) (tmps : Array Value) (w : World) (g : Nat) (t : TypeId) (cs : Array Value) (fr : Nat × Nat) (d : TypeDesc)
    (hp : tmps.getD p undef = .pointer (some ⟨g, 0, none⟩)) (hg : w.heap[g]? = some (.cells cs t fr)) (hu : P.underlying ty = some d) (hd : (match d with | .struct _ | .array _ _ => true | _ => false) = true) (hi : (P.info? ty).map (·.size) = some cs.size) :
    (results fn tmps).run P w = .ok (.tuple #[.agg cs, tmps.getD u undef]) w := by
  rw [results_cell_tmp h, hp]
  simp [asAddr, run_loadVar_row w g t ty cs fr d hg hu hd hi]
theorem ints_at {w : World} {lim : Nat} {v : Value} {l : List Int} {i : Nat} (h : looseRow w lim 3 1 v l.length (intVs l)) (hi : i < l.length) : ∃ g cap, v = .slice (some ⟨g, 0, none⟩) l.length cap ∧ g < w.heap.size ∧ w.cell? ⟨g, i, none⟩ = some (.int .i64 l[i]) := by
  rcases h.2 with ⟨_, h0⟩ | ⟨g, cap, cur, h1, h2, h3, h4⟩
  · omega
  · refine ⟨g, cap, h1, (Array.getElem?_eq_some_iff.1 h3).1, ?_⟩
    refine looseRow_cells h (g := g) (by rw [h1]; rfl) i _ ?_
    unfold intVs
    rw [List.getElem?_map, List.getElem?_eq_getElem hi]
    rfl
theorem not_some : ¬ BldT 65 := by unfold BldT; decide
/-- what stands beside what is built -/
structure LpAt (w : World) (P B : Nat) (gv : List Value) (tv : Value) (l : List Int) (f s : Nat) : Prop where
  gr : Owns w P gv 26
  out : Owns w (P + 1) [.slice none 0 0, .slice none 0 0, .int .i64 0] 42
  row : looseRow w P 3 1 tv l.length (intVs l)
  first : Owns w (B + 1) (wdL f) 65
  last : Owns w (B + 1 + 1) (wdL s) 65
section
variable {w w' : World} {P B f s : Nat} {gv : List Value} {tv : Value} {l : List Int}
theorem LpAt.kp {lim : Nat} (h : LpAt w P B gv tv l f s) (k : KpF lim w w') : LpAt w' P B gv tv l f s :=
  ⟨k.owns h.gr (by unfold BldT; decide), k.owns h.out (by unfold BldT; decide), k.row h.row (by unfold BldT; decide), k.owns h.first not_some, k.owns h.last not_some⟩
theorem LpAt.grew (h : LpAt w P B gv tv l f s) (k : Grew w w') : LpAt w' P B gv tv l f s :=
  ⟨h.gr.keep k, h.out.keep k, (But.of_grew (F := fun _ => False) k).row h.row fun _ _ e => e, h.first.keep k, h.last.keep k⟩
theorem LpAt.part (h : LpAt w P B gv tv l f s) {q : Nat} {x : NPart} (ho : Owns w q (partL x) 70) (hb : But (fun k => k = q) w w') : LpAt w' P B gv tv l f s :=
  ⟨hb.owns h.gr (owns_ne h.gr ho (by decide)), hb.owns h.out (owns_ne h.out ho (by decide)), hb.row h.row fun k hk e => row_owns_ne h.row ho (by decide) k hk e, hb.owns h.first (owns_ne h.first ho (by decide)), hb.owns h.last (owns_ne h.last ho (by decide))⟩
theorem LpAt.setFirst (h : LpAt w P B gv tv l f s) {f' : Nat} (ho : Owns w' (B + 1) (wdL f') 65) (hb : But (fun k => k = B + 1) w w') : LpAt w' P B gv tv l f' s :=
  ⟨hb.owns h.gr (owns_ne h.gr h.first (by decide)), hb.owns h.out (owns_ne h.out h.first (by decide)), hb.row h.row fun k hk e => row_owns_ne h.row h.first (by decide) k hk e, ho, hb.owns h.last (by omega)⟩
theorem LpAt.setLast (h : LpAt w P B gv tv l f s) {s' : Nat} (ho : Owns w' (B + 1 + 1) (wdL s') 65) (hb : But (fun k => k = B + 1 + 1) w w') : LpAt w' P B gv tv l f s' :=
  ⟨hb.owns h.gr (owns_ne h.gr h.last (by decide)), hb.owns h.out (owns_ne h.out h.last (by decide)), hb.row h.row fun k hk e => row_owns_ne h.row h.last (by decide) k hk e, hb.owns h.first (by omega), ho⟩
end
theorem owns_ne_size {w wr w16 : World} {p tb T : Nat} {cs : List Value} (_ : Owns w p cs T) (htb : w16.heap.size = tb) (_ : Grew wr w) (hl : p < wr.heap.size) (hs : wr.heap.size ≤ w16.heap.size) : p ≠ tb := by omega
theorem info_place : (Tryd.prog.info? 48).map (fun i => (i.zero, i.size, i.bytes)) = some (some (.agg #[.slice none 0 0, .int .i64 0, .bool false, .slice none 0 0]), 4, 64) := by kernel_rfl
theorem upon_appN {P : Program} {o : Oper} {a : Act} {w w' : World} {G : Value → World → Prop} {v vs vx : Value} (s x : Operand) (t : TypeId) (ho : o.op = .call { callee := .builtin .append, args := #[s, x], argTypes := #[t, t] }) (hs : a.eval s = vs) (hx : a.eval x = vx)
    (hr : (Builtin.append_ #[t, t] o.type #[vs, vx]).run P w = .ok v w') (hG : G v w') : uponV P G ((execOp a.eval o).run P w) := by
  unfold execOp
  simp only [ho, resolve, invoke, builtin, Sem.run_bind, Sem.run_pure, Result.andThen_ok, List.map_toArray, List.map_cons, List.map_nil, hs, hx, hr]
  exact hG
/-- one place's cells, in a row of its own -/
def NewP (F : Option Nat) (news : List Value) (v : Value) (w : World) : Prop := ∃ nb, v = .slice (some ⟨nb, 0, none⟩) 1 1 ∧ Owns w nb news 48 ∧ F ≠ some nb
theorem NewP.keep {F : Option Nat} {N : Obj} {w w' : World} {news : List Value} {v : Value} (hg : Once F N w w') (h : NewP F news v w) : NewP F news v w' := by
  obtain ⟨b, h1, h2, h3⟩ := h
  exact ⟨b, h1, hg.owns h2 h3, h3⟩
theorem lt_powN {x n m : Nat} (h : x < 2 ^ n) (hm : n ≤ m) : x < 2 ^ m := Nat.lt_of_lt_of_le h (Nat.pow_le_pow_right (by decide) hm)
/-- three cells are written -/
theorem three_set {w : World} {b T : Nat} {x0 x1 x2 : Value} (h : Owns w b [x0, x1, x2] T) (v0 v1 v2 : Value) : Owns (((w.setCell ⟨b, 0, none⟩ v0).setCell ⟨b, 1, none⟩ v1).setCell ⟨b, 2, none⟩ v2) b [v0, v1, v2] T ∧ But (fun k => k = b) w (((w.setCell ⟨b, 0, none⟩ v0).setCell ⟨b, 1, none⟩ v1).setCell ⟨b, 2, none⟩ v2) := by
  have h0 := h.set 0 v0
  have h1 := h0.set 1 v1
  have h2 := h1.set 2 v2
  exact ⟨h2, (set_but h).trans ((set_but h0).trans (set_but h1) fun _ _ e => e) fun _ _ e => e⟩
set_option maxHeartbeats 16000000 in
set_option maxRecDepth 40000 in
theorem nbuild_ok (g : Gr) (hsl : g.Slight) (W : World) (v0 v1 v2 v3 : Value) (hG : GrAt W W.heap.size (some v0) (some v1) (some v2) (some v3) g) (hT : BruAt W) (hpos : 0 < W.heap.size) :
    Calls Tryd.prog 7 #[.agg #[v0, v1, v2, v3]] W (NfBuilt g W) := by
  obtain ⟨q1, -, q2, q3, q4, q5, ra, rc, q6, q7, q8⟩ := id hG
  obtain rfl := Option.some.inj q1
  obtain rfl := Option.some.inj q2
  obtain rfl := Option.some.inj q3
  obtain rfl := Option.some.inj q6
  clear q1 q2 q3 q4 q5 q6
  have HSL := Lib.hid hsl
  obtain ⟨w1, hw1⟩ : ∃ w1, W.alloc (.cells #[.string g.name, .int .i64 g.bound, .int .i64 g.states, .slice ra g.rules.length rc] 26) = w1 := ⟨_, rfl⟩
  obtain ⟨P, hP⟩ : ∃ P, W.heap.size = P := ⟨_, rfl⟩
  have z1 : w1.heap.size = P + 1 := by rw [← hw1, ← hP]; exact World.size_alloc W _
  have g1 : Grew W w1 := hw1 ▸ grew_alloc W _
  have o1 : Owns w1 P [.string g.name, .int .i64 g.bound, .int .i64 g.states, .slice ra g.rules.length rc] 26 := hP ▸ hw1 ▸ Owns.alloc W _ _
  obtain ⟨w2, hw2⟩ : ∃ w2, w1.alloc (.cells #[.slice none 0 0, .slice none 0 0, .int .i64 0] 42) = w2 := ⟨_, rfl⟩
  have g2 : Grew w1 w2 := hw2 ▸ grew_alloc w1 _
  have o2 : Owns w2 (P + 1) [.slice none 0 0, .slice none 0 0, .int .i64 0] 42 := by rw [← z1, ← hw2]; exact Owns.alloc w1 _ _
  have hg12 := g1.trans g2
  have HG0 := Lib.hid hG
  have HO1 := Lib.hid (o1.keep g2)
  have HO2 := Lib.hid o2
  have HK0 := Lib.hid (KpF.grew (lim := P) hg12 (Nat.le_of_eq hP.symm))
  have HC := Lib.hid (cfine_ok g hsl.few' w2 _ _ _ _ ((hG.keep hg12).mono hg12.size))
  have HT := Lib.hid hT
  have HPP := Lib.hid hP
  have HPOS := Lib.hid (hP ▸ hpos)
  have c0 := HO1.out.cell_at (i := 0) rfl
  have c1 := HO1.out.cell_at (i := 1) rfl
  have c2 := HO1.out.cell_at (i := 2) rfl
  have c3 := HO1.out.cell_at (i := 3) rfl
  have cl := HO1.out.lt
  clear hsl hG g1 g2 o1 o2 hg12 hT hpos q8
  refine calls_of_wp_marks Tryd.func7 rfl ?_
  simp only [Tryd.ntmps7, List.size_toArray, List.length_cons, List.length_nil, Nat.reduceAdd, Nat.reduceSub, Array.replicate_succ, Array.replicate_zero, List.push_toArray, List.append_toArray, List.nil_append, List.cons_append]
  go_wp2_with fail
  refine HC.out.mono ?_
  clear HC hw1 hw2
  rintro e w3 ⟨es, M, N, rfl, he1, he2, he3, hb⟩
  have HK3 := Lib.hid (HK0.out.trans (KpF.grew hb (by have := cl; have := HK0.out.low.size; omega)))
  have HO1 := Lib.hid (HO1.out.keep hb)
  have HO2 := Lib.hid (HO2.out.keep hb)
  clear hb c0 c1 c2 c3 cl HK0
  clear z1 hP
  by_cases hto : g.told es (at2 M) (at2 N) = []
  · have HTI : Hid g.Tidy := Lib.hid ⟨es, M, N, hto, he1, he2, he3⟩
    have HFIT := Lib.hid (Gr.fit HTI.out HSL.out)
    simp only [hto, List.isEmpty_nil]
    clear hto he1 he2 he3
    have hl3 : P ≤ w3.heap.size := by have := HK3.out.low.size; have := HPP.out; omega
    obtain ⟨B, hB⟩ : ∃ B, w3.heap.size = B := ⟨_, rfl⟩
    obtain ⟨w4, hw4⟩ : ∃ w4, w3.alloc (.cells #[.string g.name, .int .i64 g.bound, .int .i64 g.states, .slice ra g.rules.length rc, .int .i64 0, .slice none 0 0, .int .i64 65536, .bool false] 62) = w4 := ⟨_, rfl⟩
    obtain ⟨w5, hw5⟩ : ∃ w5, w4.alloc (.cells #[.int .u64 0, .int .u64 0, .int .u64 0, .int .u64 0, .int .u64 0, .int .u64 0, .int .u64 0, .int .u64 0, .int .u64 0, .int .u64 0, .int .u64 0, .int .u64 0, .int .u64 0, .int .u64 0, .int .u64 0, .int .u64 0, .int .u64 0, .int .u64 0, .int .u64 0, .int .u64 0, .int .u64 0, .int .u64 0, .int .u64 0, .int .u64 0, .int .u64 0, .int .u64 0, .int .u64 0, .int .u64 0, .int .u64 0, .int .u64 0, .int .u64 0, .int .u64 0, .int .u64 0, .int .u64 0, .int .u64 0, .int .u64 0, .int .u64 0, .int .u64 0, .int .u64 0, .int .u64 0, .int .u64 0, .int .u64 0, .int .u64 0, .int .u64 0, .int .u64 0, .int .u64 0, .int .u64 0, .int .u64 0, .int .u64 0, .int .u64 0, .int .u64 0, .int .u64 0, .int .u64 0, .int .u64 0, .int .u64 0, .int .u64 0, .int .u64 0, .int .u64 0, .int .u64 0, .int .u64 0, .int .u64 0, .int .u64 0, .int .u64 0, .int .u64 0] 65) = w5 := ⟨_, rfl⟩
    obtain ⟨w6, hw6⟩ : ∃ w6, w5.alloc (.cells #[.int .u64 0, .int .u64 0, .int .u64 0, .int .u64 0, .int .u64 0, .int .u64 0, .int .u64 0, .int .u64 0, .int .u64 0, .int .u64 0, .int .u64 0, .int .u64 0, .int .u64 0, .int .u64 0, .int .u64 0, .int .u64 0, .int .u64 0, .int .u64 0, .int .u64 0, .int .u64 0, .int .u64 0, .int .u64 0, .int .u64 0, .int .u64 0, .int .u64 0, .int .u64 0, .int .u64 0, .int .u64 0, .int .u64 0, .int .u64 0, .int .u64 0, .int .u64 0, .int .u64 0, .int .u64 0, .int .u64 0, .int .u64 0, .int .u64 0, .int .u64 0, .int .u64 0, .int .u64 0, .int .u64 0, .int .u64 0, .int .u64 0, .int .u64 0, .int .u64 0, .int .u64 0, .int .u64 0, .int .u64 0, .int .u64 0, .int .u64 0, .int .u64 0, .int .u64 0, .int .u64 0, .int .u64 0, .int .u64 0, .int .u64 0, .int .u64 0, .int .u64 0, .int .u64 0, .int .u64 0, .int .u64 0, .int .u64 0, .int .u64 0, .int .u64 0] 65) = w6 := ⟨_, rfl⟩
    obtain ⟨w7, hw7⟩ : ∃ w7, w6.alloc (.cells #[.int .u8 1, .int .u8 3] 29) = w7 := ⟨_, rfl⟩
    have y4 : w4.heap.size = B + 1 := by rw [← hw4, ← hB]; exact World.size_alloc _ _
    have y5 : w5.heap.size = B + 1 + 1 := by rw [← hw5, ← y4]; exact World.size_alloc _ _
    have y6 : w6.heap.size = B + 1 + 1 + 1 := by rw [← hw6, ← y5]; exact World.size_alloc _ _
    have g4 : Grew w3 w4 := hw4 ▸ grew_alloc w3 _
    have g5 : Grew w4 w5 := hw5 ▸ grew_alloc w4 _
    have g6 : Grew w5 w6 := hw6 ▸ grew_alloc w5 _
    have g7 : Grew w6 w7 := hw7 ▸ grew_alloc w6 _
    have b4 : Owns w7 B [.string g.name, .int .i64 g.bound, .int .i64 g.states, .slice ra g.rules.length rc, .int .i64 0, .slice none 0 0, .int .i64 65536, .bool false] 62 := by
      have : Owns w4 B [.string g.name, .int .i64 g.bound, .int .i64 g.states, .slice ra g.rules.length rc, .int .i64 0, .slice none 0 0, .int .i64 65536, .bool false] 62 := hB ▸ hw4 ▸ Owns.alloc w3 _ _
      exact this.keep ((g5.trans g6).trans g7)
    have b5 : Owns w7 (B + 1) (wdL 0) 65 := by
      have : Owns w5 (B + 1) (wdL 0) 65 := y4 ▸ hw5 ▸ zsome_owns w4
      exact this.keep (g6.trans g7)
    have b6 : Owns w7 (B + 1 + 1) (wdL 0) 65 := by
      have : Owns w6 (B + 1 + 1) (wdL 0) 65 := y5 ▸ hw6 ▸ zsome_owns w5
      exact this.keep g7
    have b7 : SortsAt w7 (B + 1 + 1 + 1) [1, 3] := by
      have ho : Owns w7 (B + 1 + 1 + 1) [.int .u8 1, .int .u8 3] 29 := y6 ▸ hw7 ▸ Owns.alloc w6 _ _
      refine ⟨ho.lt, fun k hk => ?_⟩
      have hk : k = 0 ∨ k = 1 := by simp at hk; omega
      rcases hk with rfl | rfl
      · exact ho.cell_at (i := 0) rfl
      · exact ho.cell_at (i := 1) rfl
    have g37 := ((g4.trans g5).trans g6).trans g7
    have hk7 := HK3.out.trans (KpF.grew g37 hl3)
    have HK7 := Lib.hid hk7
    have HO17 := Lib.hid (HO1.out.keep g37)
    have HO27 := Lib.hid (HO2.out.keep g37)
    have HN7 : Hid (NBAt w7 P (.string g.name) (.int .i64 g.bound) (.int .i64 g.states) (.slice ra g.rules.length rc) 0 ⟨B, .slice none 0 0, fun _ => 0, fun _ => .slice none 0 0⟩ ⟨[], 65536, false⟩) := Lib.hid
      ⟨Nat.le_trans hl3 g37.size, hB ▸ hl3, b4, ⟨rfl, .inl ⟨rfl, rfl⟩⟩, fun i hi => absurd hi (by simp), fun i hi => absurd hi (by simp), fun i j hi => absurd hi (by simp)⟩
    have HS1 := Lib.hid b5
    have HS2 := Lib.hid b6
    have hkg : Grew W w7 := by have := hk7.low; rw [← HPP.out] at this; exact this
    have HOT := Lib.hid (mof_ok g [1, 3] (by simp) w7 _ _ _ _ ((HG0.out.keep hkg).mono hkg.size) (by have := HSL.out.few; omega) (B + 1 + 1 + 1) 2 b7)
    have c0 := HO1.out.cell_at (i := 0) rfl
    have c1 := HO1.out.cell_at (i := 1) rfl
    have c2 := HO1.out.cell_at (i := 2) rfl
    have c3 := HO1.out.cell_at (i := 3) rfl
    have cl := HO1.out.lt
    have d0 := HO17.out.cell_at (i := 0) rfl
    have d1 := HO17.out.cell_at (i := 1) rfl
    have d2 := HO17.out.cell_at (i := 2) rfl
    have d3 := HO17.out.cell_at (i := 3) rfl
    have dl := HO17.out.lt
    have e0 := (HO1.out.keep ((g4.trans g5).trans g6)).cell_at (i := 0) rfl
    have e1 := (HO1.out.keep ((g4.trans g5).trans g6)).cell_at (i := 1) rfl
    have e2 := (HO1.out.keep ((g4.trans g5).trans g6)).cell_at (i := 2) rfl
    have e3 := (HO1.out.keep ((g4.trans g5).trans g6)).cell_at (i := 3) rfl
    have el := (HO1.out.keep ((g4.trans g5).trans g6)).lt
    have HBL := Lib.hid (show P ≤ B by omega)
    clear g4 g5 g6 g7 b4 b5 b6 b7 hk7 hkg g37 hl3
    go_wp2_with fail
    refine HOT.out.mono ?_
    rintro e w8 ⟨tv, rfl, hrow, hg8⟩
    clear HOT hw4 hw5 hw6 hw7 c0 c1 c2 c3 cl d0 d1 d2 d3 dl e0 e1 e2 e3 el HO1 HO2 HK3 y4 y5 y6 hB
    obtain ⟨l, hl⟩ : ∃ l, g.of [1, 3] = l := ⟨_, rfl⟩
    have HLL := Lib.hid hl
    rw [hl] at hrow
    have hll : l.length ≤ 60 := by rw [← hl]; have := Gr.ofTo_len g [1, 3] g.rules.length; have := HSL.out.few; unfold Gr.of; omega
    have hl7 : P ≤ w7.heap.size := HN7.out.low
    have HK8 := Lib.hid (HK7.out.trans (KpF.grew hg8 hl7))
    have HN8 := Lib.hid (HN7.out.grew hg8)
    have HLP : Hid (LpAt w8 P B [.string g.name, .int .i64 g.bound, .int .i64 g.states, .slice ra g.rules.length rc] tv l 0 0) := Lib.hid ⟨HO17.out.keep hg8, HO27.out.keep hg8, loose_lower hrow hl7, HS1.out.keep hg8, HS2.out.keep hg8⟩
    have HPL : Hid (W.heap.size ≤ B) := Lib.hid (by have := HPP.out; have := HBL.out; omega)
    have HPW : Hid (P ≤ W.heap.size) := Lib.hid (Nat.le_of_eq HPP.out.symm)
    obtain ⟨ta, tc, rfl⟩ := loose_form hrow
    have HL8 := Lib.hid HN8.out.low
    have HM0 : Hid (g.made = g.from l 0 0 0 ⟨[], 65536, false⟩) := Lib.hid (by rw [Gr.of_made, hl]; rfl)
    clear hrow hg8 hl hl7 HK7 HO17 HO27 HN7 HS1 HS2
    go_wp2_with fail
    go_loopw [27] (fun c wr => ∃ (j f s : Nat) (kd : Int) (V : NBV) (b : NB), c = .int .i64 j ∧ j ≤ l.length ∧ V.bb = B ∧ Hid (KpF P W wr) ∧ Hid (NBAt wr P (.string g.name) (.int .i64 g.bound) (.int .i64 g.states) (.slice ra g.rules.length rc) kd V b) ∧ Hid (LpAt wr P B [.string g.name, .int .i64 g.bound, .int .i64 g.states, .slice ra g.rules.length rc] (.slice ta l.length tc) l f s) ∧ Hid b.Ok ∧ Hid (f < 2 ^ b.out.length ∧ s < 2 ^ b.out.length) ∧ Hid (b.steps ≤ 65536) ∧ Hid (-196542464 - (j : Int) ≤ b.hgt) ∧ Hid (g.made = g.from l j f s b)) (fun c _ => l.length - (intOf c).toNat)
    case atStart => exact ⟨0, 0, 0, 0, _, _, rfl, Nat.zero_le _, rfl, HK8.out, HN8.out, HLP.out, ⟨Nat.zero_le _, fun p hp => absurd hp (by simp)⟩, ⟨Nat.two_pow_pos _, Nat.two_pow_pos _⟩, Int.le_refl _, by show (-196542464 : Int) - ((0 : Nat) : Int) ≤ (65536 : Int) - 3000 * max 65536 0; omega, HM0.out⟩
    case round =>
      obtain ⟨j, f, s, kd, V, b, rfl, hj, hVB, KR, NR, LPR, OKR, FSR, STR, HGR, HEQ⟩ := hrel
      by_cases hlt : j < l.length
      · as_aux_lemma => -- ok
          obtain ⟨tg, tcap, htv, htg, htc⟩ := ints_at LPR.out.row hlt
          simp only [Value.slice.injEq, true_and] at htv
          obtain ⟨rfl, rfl⟩ := htv
          have hmem : l[j] ∈ g.of [1, 3] := by rw [HLL.out]; exact List.getElem_mem hlt
          obtain ⟨i, hi, -, hx, -⟩ := Gr.ofTo_mem g [1, 3] _ _ hmem
          rw [hx] at htc
          have hbody : g.bodyAt l[j] = g.rules[i].body := by
            unfold Gr.bodyAt
            rw [hx, Int.toNat_natCast, List.getElem?_eq_getElem hi]
          have HKW := KR
          have hgr := HG0.out.keep (show Below W.heap.size W wr from by have := HKW.out.low; rw [← HPP.out] at this; exact this)
          rw [HPP.out] at hgr
          obtain ⟨-, -, -, -, -, -, ra', rc', q7', q8', q9⟩ := id hgr
          obtain ⟨rfl, rfl⟩ : ra' = ra ∧ rc' = rc := by
            have := Option.some.inj q7'
            simp only [Value.slice.injEq, true_and] at this
            exact ⟨this.1.symm, this.2.symm⟩
          obtain ⟨rb, ro, rfl, hrb, hrule⟩ := q9.get hi
          simp only [Nat.zero_add] at hrule
          obtain ⟨y0, y1, y2, y3, y4, -, -, e2, e3, e4, e5, e6, -, -, -, -, hnode⟩ := hrule.vals
          obtain ⟨p0, p1, p2, p3, p4, p5, p6, p7, p8, rfl, rfl, rfl, rfl, rfl⟩ := hnode.forms
          have hlw : P ≤ wr.heap.size := NR.out.low
          have hrb2 : rb < wr.heap.size := Nat.lt_of_lt_of_le hrb hlw
          have c4 := NR.out.box.cell_at (i := 4) rfl
          have f4 := NR.out.box.free 4
          have l4 := NR.out.box.lt
          rw [hVB] at c4 f4 l4
          obtain ⟨w9, hw9⟩ : ∃ w9, wr.setCell ⟨B, 4, none⟩ (.int .i64 (j : Int)) = w9 := ⟨_, rfl⟩
          have hkd := NR.out.kinded (j : Int)
          rw [hVB, hw9] at hkd
          have b9 : But (fun k => k = B) wr w9 := by
            have := set_but (i := 4) (v := .int .i64 (j : Int)) NR.out.box
            rw [hVB, hw9] at this
            exact this
          have HN9 := Lib.hid hkd.1
          have HK9 := Lib.hid (KR.out.trans hkd.2)
          have HLP9 := Lib.hid (LPR.out.kp hkd.2)
          have ecell : ∀ o, w9.cell? ⟨rb, o, none⟩ = wr.cell? ⟨rb, o, none⟩ := fun o => hkd.2.low.cell hrb
          have hrb9 : rb < w9.heap.size := Nat.lt_of_lt_of_le hrb2 b9.size
          rw [← ecell] at e2 e3 e4 e5 e6
          have HE9 : Hid (NEnv w9 P (.string g.name) (.int .i64 g.bound) (.int .i64 g.states) (.slice (some ⟨rb, ro, none⟩) g.rules.length rc') g) := Lib.hid
            ⟨hgr.keep hkd.2.low, HT.out.below HPOS.out HK9.out.low, HPOS.out, HFIT.out⟩
          have HNC := Lib.hid (nnode_ok P (.string g.name) (.int .i64 g.bound) (.int .i64 g.states) (.slice (some ⟨rb, ro, none⟩) g.rules.length rc') g (j : Int) 65537 (by omega) g.rules[i].body w9 V b _ _ _ _ _ HE9.out HN9.out OKR.out (by have := STR.out; omega) (by have := HGR.out; omega) (hnode.keep hkd.2.low) (HFIT.out.rule i hi))
          rw [hVB] at HNC
          obtain ⟨y, hy⟩ : ∃ y, nodeN g.lk (j : Int) 65537 g.rules[i].body b = y := ⟨_, rfl⟩
          have HST : Hid (StepOk y b) := Lib.hid (hy ▸ nodeN_to g.lk (j : Int) 65537 g.rules[i].body b OKR.out)
          have HLO : Hid (Low1 b y.2) := Lib.hid (hy ▸ nodeN_low HFIT.out (j : Int) 65537 g.rules[i].body (HFIT.out.rule i hi) b)
          rw [hy] at HNC
          have HEQ2 := Lib.hid (g.from_step (f := f) (s := s) (b := b) (q := y) hlt (by rw [hbody, hy]))
          have o1 := LPR.out.gr
          have c3 := o1.cell_at (i := 3) rfl
          have cl := o1.lt
          have o19 := HLP9.out.gr
          have k3 := o19.cell_at (i := 3) rfl
          have kl := o19.lt
          have hil : (i : Int) < (g.rules.length : Int) := by omega
          have hjl : (j : Int) < (l.length : Int) := by omega
          clear hmem hx hbody hgr q7' q8' q9 hrule hnode hkd b9 ecell o1 o19 hy hlw
          go_wp2_with fail
          refine HNC.out.mono ?_
          rintro e w10 ⟨rfl, hK10, V10, hV10, hN10⟩
          clear e2 e3 e4 e5 e6 c3 cl k3 kl hw9 c4 f4 l4 htc htg HNC hrb hrb2 hrb9
          have HK10 := Lib.hid (HK9.out.trans hK10)
          have HN10 := Lib.hid hN10
          have HLP10 := Lib.hid (HLP9.out.kp hK10)
          obtain ⟨q, hq⟩ : ∃ q, w10.heap.size = q := ⟨_, rfl⟩
          obtain ⟨w11, hw11⟩ : ∃ w11, w10.alloc (.cells Tryd.zeroCells70 70) = w11 := ⟨_, rfl⟩
          have g11 : Grew w10 w11 := hw11 ▸ grew_alloc w10 _
          have HP11 := Lib.hid (show Owns w11 q (partL ⟨0, 0, false⟩) 70 from hq ▸ hw11 ▸ zpart_owns w10)
          have HK11 := Lib.hid (HK10.out.trans (KpF.grew g11 hN10.low))
          have HN11 := Lib.hid (hN10.grew g11)
          have HLP11 := Lib.hid (HLP10.out.grew g11)
          have hqq := hq
          clear g11 hK10 hN10
          have hq8 : W.heap.size ≤ q := by have := HK10.out.low.size; have := hq; omega
          clear hq
          go_upto_region 11 with (refine wpList_runW rfl (.pointer (some ⟨q, 0, none⟩)) (by rw [exec_alloc_part rfl, hw11, hqq]) ?_; simp only [Act.put, List.setIfInBounds_toArray, List.set_cons_zero, List.set_cons_succ]; refine wpList_store_part HP11.out rfl _ _ rfl rfl rfl ?_; intro w12 o12 b12; have HP12 := Lib.hid o12; have HK12 := Lib.hid (HK11.out.fresh b12 hq8 HPW.out); have HN12 := Lib.hid (HN11.out.other HP11.out not_part (by decide) b12); have HLP12 := Lib.hid (HLP11.out.part HP11.out b12); clear o12 b12; simp only [Act.put])
          clear hw11 hqq
          have hin1 : y.1.first < 2 ^ 4096 := (HST.out.2.mono HST.out.1.ok.few).1
          have hin2 : y.1.last < 2 ^ 4096 := (HST.out.2.mono HST.out.1.ok.few).2
          have HWF := Lib.hid fun w => nwith_ok f y.1.first hin1 w
          have HWL := Lib.hid fun w => nwith_ok s y.1.last hin2 w
          clear hin1 hin2
          refine wp_region_hav_lit follows (by kernel_rfl) ?_
          refine HavG.val (fun _ => rfl) (wdV f) (fun x w hw _ => exec_load_at (box_cells (HLP12.out.first.keep hw)) rfl rfl) ?_
          simp only [Act.put, List.setIfInBounds_toArray, List.set_cons_zero, List.set_cons_succ]
          iterate 2 (first
            | (refine HavG.skip (fun _ => rfl) ?_; simp only [Act.put, List.setIfInBounds_toArray, List.set_cons_zero, List.set_cons_succ])
            | (refine HavG.val (fun _ => rfl) ?_ (fun x w hw _ => ?_) ?_; rotate_left; (focus (have hc := hw.cells; clear hw; go_simp; first | done | rfl)); simp only [Act.put, List.setIfInBounds_toArray, List.set_cons_zero, List.set_cons_succ]))
          refine HavG.val (fun _ => rfl) (wdV y.1.first) (fun x w hw _ => exec_load_at (part_first (HP12.out.keep hw)) rfl rfl) ?_
          simp only [Act.put, List.setIfInBounds_toArray, List.set_cons_zero, List.set_cons_succ]
          refine HavG.det (fun _ => rfl) (wdV (f ||| y.1.first)) (fun x w hw hd => ?_) ?_
          · clear hd hw
            go_simp
            refine (HWF.out w).mono ?_
            rintro e w' ⟨rfl, hg⟩
            exact ⟨rfl, hg⟩
          simp only [Act.put, List.setIfInBounds_toArray, List.set_cons_zero, List.set_cons_succ]
          refine HavG.val (fun _ => rfl) (wdV s) (fun x w hw _ => exec_load_at (box_cells (HLP12.out.last.keep hw)) rfl rfl) ?_
          simp only [Act.put, List.setIfInBounds_toArray, List.set_cons_zero, List.set_cons_succ]
          iterate 2 (first
            | (refine HavG.skip (fun _ => rfl) ?_; simp only [Act.put, List.setIfInBounds_toArray, List.set_cons_zero, List.set_cons_succ])
            | (refine HavG.val (fun _ => rfl) ?_ (fun x w hw _ => ?_) ?_; rotate_left; (focus (have hc := hw.cells; clear hw; go_simp; first | done | rfl)); simp only [Act.put, List.setIfInBounds_toArray, List.set_cons_zero, List.set_cons_succ]))
          refine HavG.val (fun _ => rfl) (wdV y.1.last) (fun x w hw _ => exec_load_at (part_last (HP12.out.keep hw)) rfl rfl) ?_
          simp only [Act.put, List.setIfInBounds_toArray, List.set_cons_zero, List.set_cons_succ]
          refine HavG.det (fun _ => rfl) (wdV (s ||| y.1.last)) (fun x w hw hd => ?_) ?_
          · clear hd hw
            go_simp
            refine (HWL.out w).mono ?_
            rintro e w' ⟨rfl, hg⟩
            exact ⟨rfl, hg⟩
          simp only [Act.put, List.setIfInBounds_toArray, List.set_cons_zero, List.set_cons_succ]
          refine HavG.tail (by kernel_rfl) (by kernel_rfl) (fun x w13 hg13 _ => ?_)
          have HLP13 := Lib.hid (HLP12.out.grew hg13)
          have HN13 := Lib.hid (HN12.out.grew hg13)
          have HK13 := Lib.hid (HK12.out.trans (KpF.grew hg13 HN12.out.low))
          clear hg13
          refine wpList_store_some HLP13.out.first rfl _ _ rfl rfl rfl ?_
          intro w14 o14 b14
          have HLP14 := Lib.hid (HLP13.out.setFirst o14 b14)
          have HN14 := Lib.hid (HN13.out.other HLP13.out.first not_some (by decide) b14)
          have HK14 := Lib.hid (HK13.out.fresh b14 (by have := HPL.out; omega) HPW.out)
          clear o14 b14
          simp only [Act.put]
          refine wpList_store_some HLP14.out.last rfl _ _ rfl rfl rfl ?_
          intro w15 o15 b15
          have HLP15 := Lib.hid (HLP14.out.setLast o15 b15)
          have HN15 := Lib.hid (HN14.out.other HLP14.out.last not_some (by decide) b15)
          have HK15 := Lib.hid (HK14.out.fresh b15 (by have := HPL.out; omega) HPW.out)
          clear o15 b15
          simp only [Act.put]
          go_wp2_with fail
          have hlo := HLO.out
          unfold Low1 at hlo
          have hmr := HST.out.1.more
          refine ⟨⟨j + 1, f ||| y.1.first, s ||| y.1.last, (j : Int), V10, y.2, by go_num, by omega, hV10, HK15.out, HN15.out, HLP15.out, HST.out.1.ok, ⟨Nat.or_lt_two_pow (Nat.lt_of_lt_of_le FSR.out.1 (Nat.pow_le_pow_right (by omega) hmr)) HST.out.2.1, Nat.or_lt_two_pow (Nat.lt_of_lt_of_le FSR.out.2 (Nat.pow_le_pow_right (by omega) hmr)) HST.out.2.2⟩, Int.le_trans HST.out.1.steps STR.out, by have := HGR.out; show -196542464 - ((j + 1 : Nat) : Int) ≤ _; omega, ?_⟩, by simp [intOf]; omega⟩
          refine Lib.hid ?_
          rw [HEQ.out, HEQ2.out]
      · obtain rfl : j = l.length := by omega
        have hmade := HEQ.out
        rw [g.from_end (Nat.le_refl _)] at hmade
        have HMADE := Lib.hid hmade
        have hbx := NR.out.box
        have k7 := hbx.cell_at (i := 7) rfl
        have k5 := hbx.cell_at (i := 5) rfl
        have kl := hbx.lt
        rw [hVB] at k7 k5 kl
        obtain ⟨fl, hfl⟩ : ∃ fl, b.full = fl := ⟨_, rfl⟩
        have HFL := Lib.hid hfl
        rw [hfl] at k7
        obtain ⟨oa, oc, hov⟩ := loose_form NR.out.out
        have HOV := Lib.hid hov
        rw [hov] at k5
        have d0 := LPR.out.out.cell_at (i := 0) rfl
        have d1 := LPR.out.out.cell_at (i := 1) rfl
        have d2 := LPR.out.out.cell_at (i := 2) rfl
        have dl := LPR.out.out.lt
        have f0 := LPR.out.out.free 0
        have f1 := LPR.out.out.free 1
        have f2 := LPR.out.out.free 2
        clear hmade hbx hfl hov HEQ
        cases fl
        · clear d0 d1 d2 dl f0 f1 f2
          have HF4 : Hid (f < 2 ^ 4096) := Lib.hid (show NPart.In ⟨f, s, false⟩ 4096 from NPart.In.mono FSR.out OKR.out.few).1
          have HNL := Lib.hid (nlist_ok f HF4.out wr (HT.out.below HPOS.out KR.out.low))
          go_wp2_with (refine wpList_load_some LPR.out.first rfl _ rfl rfl ?_; simp only [Act.put, List.setIfInBounds_toArray, List.set_cons_zero, List.set_cons_succ])
          refine HNL.out.mono ?_
          rintro e w16 ⟨fv, rfl, hfv, hg16⟩
          clear k7 k5 kl HNL
          obtain ⟨fa, fc, rfl⟩ := loose_form hfv
          obtain ⟨w17, hw17⟩ : ∃ w17, w16.alloc (.cells #[.slice none 0 0, .slice none 0 0, .int .i64 0] 42) = w17 := ⟨_, rfl⟩
          obtain ⟨tb, htb⟩ : ∃ tb, w16.heap.size = tb := ⟨_, rfl⟩
          have g17 : Grew w16 w17 := hw17 ▸ grew_alloc w16 _
          have o17 : Owns w17 tb [.slice none 0 0, .slice none 0 0, .int .i64 0] 42 := htb ▸ hw17 ▸ Owns.alloc w16 _ _
          have d0 := o17.cell_at (i := 0) rfl
          have d1 := o17.cell_at (i := 1) rfl
          have d2 := o17.cell_at (i := 2) rfl
          have dl := o17.lt
          have f0 := o17.free 0
          have f1 := o17.free 1
          have f2 := o17.free 2
          have hts := three_set o17 (.slice none 0 0) (.slice fa (placesL f).length fc) (.int .i64 (l.length : Int))
          obtain ⟨w18, hw18⟩ : ∃ w18, ((w17.setCell ⟨tb, 0, none⟩ (.slice none 0 0)).setCell ⟨tb, 1, none⟩ (.slice fa (placesL f).length fc)).setCell ⟨tb, 2, none⟩ (.int .i64 (l.length : Int)) = w18 := ⟨_, rfl⟩
          rw [hw18] at hts
          have hg1617 : Grew wr w17 := hg16.trans g17
          have HTP : Hid (¬ P + 1 = tb) := Lib.hid (by have := hg16.size; have := LPR.out.out.lt; omega)
          have HTB : Hid (P ≤ tb) := Lib.hid (by have := hg16.size; have := NR.out.low; omega)
          have HK18 := Lib.hid ((KR.out.trans (KpF.grew hg1617 NR.out.low)).fresh hts.2 (by have := HTB.out; have := HPP.out; omega) HPW.out)
          have HCP := Lib.hid ((CpB.of (NR.out.grew hg1617) (fun _ => .slice none 0 0)).keep hts.2 (fun k e => ⟨_, _, e ▸ o17, by unfold CpT; decide⟩))
          have hLP17 := LPR.out.grew hg1617
          have HLA := Lib.hid (hts.2.owns hLP17.last (owns_ne hLP17.last o17 (by decide)))
          have HGO := Lib.hid (hts.2.owns hLP17.out (owns_ne_size hLP17.out htb hg1617 LPR.out.out.lt hg16.size))
          have HOB := Lib.hid hts.1
          have hfv17 := (But.of_grew (F := fun _ => False) g17).row hfv fun _ _ e => e
          have HFV := Lib.hid (loose_lower (hts.2.row hfv17 fun k hk e => row_owns_ne hfv17 o17 (by decide) k hk e) NR.out.low)
          have HNB := Lib.hid ((NR.out.grew hg1617).other o17 (by unfold BldT; decide) (by decide) hts.2)
          clear hts hg1617 hLP17 hfv17 hfv hg16 g17 o17
          go_upto_region 16 with fail
          clear hw17 hw18 d0 d1 d2 dl f0 f1 f2 htb
          have hbx := HNB.out.box
          have k5 := hbx.cell_at (i := 5) rfl
          have kl := hbx.lt
          rw [hVB] at k5 kl
          rw [HOV.out] at k5
          clear hbx
          obtain ⟨n, hn⟩ : ∃ n, b.out.length = n := ⟨_, rfl⟩
          have HN := Lib.hid hn
          have hn4 : n ≤ 4096 := hn ▸ OKR.out.few
          simp only [hn] at k5
          clear hn
          go_wp2_with fail
          clear k5 kl
          go_loopw [70] (fun c wr => ∃ (j : Nat) (pa : Option Addr) (pc : Nat) (fl : Nat → Value), c = .int .i64 j ∧ j ≤ n ∧ Hid (Below P W wr) ∧ Hid (CpB wr P V b j fl) ∧ Hid (looseRow wr P 48 4 (.slice pa j pc) j (plVs V.sv fl (fun _ => false) b.out j)) ∧ Hid (Owns wr tb [.slice pa j pc, .slice fa (placesL f).length fc, .int .i64 (l.length : Int)] 42) ∧ Hid (Owns wr (B + 1 + 1) (wdL s) 65) ∧ Hid (Owns wr (P + 1) [.slice none 0 0, .slice none 0 0, .int .i64 0] 42) ∧ Hid (looseRow wr P 3 1 (.slice fa (placesL f).length fc) (placesL f).length (intVs (placesL f)))) (fun c _ => n - (intOf c).toNat)
          case atStart => exact ⟨0, none, 0, _, rfl, Nat.zero_le _, HK18.out.low, HCP.out, ⟨rfl, .inl ⟨rfl, rfl⟩⟩, HOB.out, HLA.out, HGO.out, HFV.out⟩
          case round =>
            obtain ⟨j, pa, pc, fl, rfl, hj, BWR, CPR, ROWR, OBR, LAR, GOR, FVR⟩ := hrel
            by_cases hlt : j < n
            · as_aux_lemma => -- ok
                have hjn : j < b.out.length := by rw [HN.out]; exact hlt
                obtain ⟨og, ocap, hov2, hog, hop⟩ := ptrs_at CPR.out.ptr hjn
                rw [HOV.out] at hov2
                simp only [Value.slice.injEq] at hov2
                obtain ⟨rfl, -, rfl⟩ := hov2
                obtain ⟨hmlo, hmo⟩ := CPR.out.made j hjn (Nat.le_refl _)
                obtain ⟨p, hp⟩ : ∃ p, b.out[j] = p := ⟨_, rfl⟩
                have HP9 := Lib.hid hp
                have hfo0 := OKR.out.fol _ (List.getElem_mem hjn)
                rw [hp] at hfo0
                have hfo : p.fol < 2 ^ 4096 := (show NPart.In ⟨p.fol, 0, false⟩ 4096 from NPart.In.mono ⟨hfo0, Nat.two_pow_pos _⟩ OKR.out.few).1
                have HFO := Lib.hid hfo
                rw [hp] at hmo
                have hml := hmo.lt
                have HMC := Lib.hid (made_cells hmo)
                have HLI := Lib.hid (nlist_ok p.fol HFO.out wr (HT.out.below HPOS.out BWR.out))
                have hjl : (j : Int) < (n : Int) := by omega
                clear hfo hfo0
                go_wp2_with (refine wpList_runV rfl (wdV p.fol) (exec_load_at HMC.out rfl rfl) ?_; simp only [Act.put, List.setIfInBounds_toArray, List.set_cons_zero, List.set_cons_succ])
                refine HLI.out.mono ?_
                rintro e w1 ⟨lv, rfl, hlv, hg1⟩
                obtain ⟨la, lc, rfl⟩ := loose_form hlv
                have hmo1 := hmo.keep hg1
                have m3 := hmo1.cell_at (i := 3) rfl
                have f3 := hmo1.free 3
                have ml := hmo1.lt
                have hcl := (CPR.out.grew hg1).list hjn (v := .slice la (placesL p.fol).length lc) (by rw [hp]; exact loose_lower hlv CPR.out.low)
                obtain ⟨w2, hw2⟩ : ∃ w2, w1.setCell ⟨V.mb j, 3, none⟩ (.slice la (placesL p.fol).length lc) = w2 := ⟨_, rfl⟩
                rw [hw2, hp] at hcl
                obtain ⟨hc2, ho2, hb2, -⟩ := hcl
                have HC2 := Lib.hid hc2
                have HM2 := Lib.hid ho2
                have hb1 := But.of_grew (F := fun _ => False) hg1
                have BW2 := Lib.hid ((BWR.out.trans (show Below P wr w1 from Below.mono hg1 CPR.out.low)).trans (But.below hb2 (Nat.le_trans CPR.out.low hg1.size) fun q e => by rw [e]; exact hmlo))
                have hr1 := hb1.row ROWR.out fun _ _ e => e
                have ROW2 := Lib.hid (hb2.row hr1 fun k hk e => row_owns_ne hr1 hmo1 (by decide) k hk e)
                have ho1 := OBR.out.keep hg1
                have OB2 := Lib.hid (hb2.owns ho1 (owns_ne ho1 hmo1 (by decide)))
                have hl1 := LAR.out.keep hg1
                have LA2 := Lib.hid (hb2.owns hl1 (owns_ne hl1 hmo1 (by decide)))
                have hg01 := GOR.out.keep hg1
                have GO2 := Lib.hid (hb2.owns hg01 (owns_ne hg01 hmo1 (by decide)))
                have hf1 := hb1.row FVR.out fun _ _ e => e
                have FV2 := Lib.hid (hb2.row hf1 fun k hk e => row_owns_ne hf1 hmo1 (by decide) k hk e)
                clear hc2 ho2 hb1 hb2 hr1 ho1 hl1 hg01 hf1 hlv
                go_upto_region 20 with fail
                clear m3 f3 ml hmo hmo1 hml hg1 hw2 HLI HMC hog hop hmlo
                have hset := HC2.out.set j hjn
                rw [hp] at hset
                obtain ⟨xa, xc, hsv⟩ := loose_form hset
                obtain ⟨i0, hi, hz0, hz1, hz2⟩ := info_parts info_place
                obtain ⟨news, hnews⟩ : ∃ news : List Value, [V.sv j, .int .i64 p.kind, .bool false, .slice la (placesL p.fol).length lc] = news := ⟨_, rfl⟩
                have hnl : news.length = 1 * 4 := by rw [← hnews]; rfl
                have hone : ∀ u ∈ news, u.oneCell' = true := by
                  intro u hu
                  rw [← hnews] at hu
                  simp only [List.mem_cons, List.not_mem_nil, or_false] at hu
                  rcases hu with rfl | rfl | rfl | rfl
                  · rw [hsv]; rfl
                  · rfl
                  · rfl
                  · rfl
                obtain ⟨F, N, hFo, happ⟩ := append_once (P := Tryd.prog) w2 39 39 P 48 i0 _ 4 64 rfl hi hz0 hz1 hz2 rfl (.slice pa j pc) j _ ROW2.out 1 news hnl hone (by decide) (by unfold maxLen; omega) (by omega) HC2.out.low
                have hFt : F ≠ some tb := fun e => row_owns_ne ROW2.out OB2.out (by decide) _ (hFo _ e).1 rfl
                have hFm : F ≠ some (V.mb j) := fun e => row_owns_ne ROW2.out HM2.out (by decide) _ (hFo _ e).1 rfl
                have HFO2 := Lib.hid hFo
                have HAPP := Lib.hid happ
                have HFT := Lib.hid hFt
                have HFM := Lib.hid hFm
                have HNW := Lib.hid hnews
                have HSV := Lib.hid hsv
                clear hset hi hz0 hz1 hz2 hFo happ hFt hFm hnl hone
                refine wp_region_hav_litJ (p0 := 7) (J := fun _ _ => True) (Once.rel F N) trivial follows (by kernel_rfl) ?_
                have q0 := OB2.out.cell_at (i := 0) rfl
                have r0 := HM2.out.cell_at (i := 0) rfl
                have r1 := HM2.out.cell_at (i := 1) rfl
                have r2 := HM2.out.cell_at (i := 2) rfl
                have r3 := HM2.out.cell_at (i := 3) rfl
                rw [hsv] at r0
                iterate 6 (refine HavJ.val (Once.rel F N) (by decide) (fun _ => rfl) ?_ (fun x w hw _ => ?_) ?_; rotate_left; (focus (have hc0 := hw.cell q0 HFT.out; have hs0 := hw.cell r0 HFM.out; have hs1 := hw.cell r1 HFM.out; have hs2 := hw.cell r2 HFM.out; have hs3 := hw.cell r3 HFM.out; clear hw; go_simp; first | done | rfl)); simp only [Act.put, List.setIfInBounds_toArray, List.set_cons_zero, List.set_cons_succ])
                refine HavJ.any (by decide) (fun _ => rfl) (NewP F news) (fun _ _ _ hg h => NewP.keep hg h) (fun x w b hw _ _ => ?_) ?_
                · have hfl : ∀ b, F = some b → b < w.heap.size := fun b hb => Nat.lt_of_lt_of_le (HFO2.out b hb).2 hw.size
                  have HFL := Lib.hid hfl
                  clear hw hfl
                  go_simp
                  rw [← HNW.out, HSV.out]
                  exact ⟨Once.grew (grew_alloc _ _) HFL.out, _, rfl, Owns.alloc _ _ _, fun e => absurd (HFL.out _ e) (Nat.lt_irrefl _)⟩
                simp only [Act.put, List.setIfInBounds_toArray, List.set_cons_zero, List.set_cons_succ]
                refine HavJ.one rfl (fun _ => rfl) (AppR F N w2.heap.size P 48 4 (j + 1) (plVs V.sv fl (fun _ => false) b.out j ++ news)) (fun _ _ _ hg h => AppR.keep hg h) (fun x w hw _ hd => ?_) ?_
                · have hd16 := hd _ (List.mem_append_right _ (List.mem_singleton.2 rfl)) (by kernel_rfl)
                  clear hd
                  dsimp only at hd16
                  generalize x _ = y16 at *
                  obtain ⟨nb, rfl, hnb, -⟩ := hd16
                  obtain ⟨r, w', hr, ho, hR⟩ := HAPP.out w ⟨nb, 0, none⟩ 1 hw (owns_newsP hnb)
                  exact upon_appN _ _ 39 rfl rfl rfl hr ⟨⟨ho, trivial⟩, hR⟩
                simp only [Act.put, List.setIfInBounds_toArray, List.set_cons_zero, List.set_cons_succ]
                refine HavJ.val (Once.rel F N) (by decide) (fun _ => rfl) ?_ (fun x w hw _ => ?_) ?_; rotate_left; (focus (clear hw; go_simp; first | done | rfl)); simp only [Act.put, List.setIfInBounds_toArray, List.set_cons_zero, List.set_cons_succ]
                refine HavJ.tail (by decide) (by kernel_rfl) (by kernel_rfl) (fun x w3 hw _ hx => ?_)
                have hx17 := hx _ (List.mem_append_right _ (List.mem_singleton.2 rfl))
                clear hx q0 r0 r1 r2 r3
                dsimp only at hx17
                generalize x _ = y17 at *
                obtain ⟨gb, cap, rfl, hrow, hgl, -⟩ := hx17
                have hb3 := hw.but
                have hFr : ∀ k, F = some k → P ≤ k := fun k e => (row_type ROW2.out (HFO2.out k e).1).1
                have hC3 := HC2.out.keep hb3 (fun k e => by
                  obtain ⟨-, -, cur, hc⟩ := row_type ROW2.out (HFO2.out k e).1
                  exact ⟨cur, _, hc, by unfold CpT; decide⟩)
                have hOB3 := hb3.owns OB2.out HFT.out
                have hLA3 := hb3.owns LA2.out (fun e => row_owns_ne ROW2.out LA2.out (by decide) _ (HFO2.out _ e).1 rfl)
                have hGO3 := hb3.owns GO2.out (fun e => row_owns_ne ROW2.out GO2.out (by decide) _ (HFO2.out _ e).1 rfl)
                have hFV3 := hb3.row FV2.out (fun k hk e => type_ne (row_type FV2.out hk).2.2 (row_type ROW2.out (HFO2.out k e).1).2.2 (by decide) rfl)
                have hBW3 := BW2.out.trans (But.below hb3 HC2.out.low hFr)
                have hb4 : But (fun k => k = tb) w3 (w3.setCell ⟨tb, 0, none⟩ (.slice (some ⟨gb, 0, none⟩) (j + 1) cap)) := set_but hOB3
                have hC4 := Lib.hid (hC3.keep hb4 (fun k e => ⟨_, _, e ▸ hOB3, by unfold CpT; decide⟩))
                have hOB4 := Lib.hid (hOB3.set 0 (.slice (some ⟨gb, 0, none⟩) (j + 1) cap))
                have hLA4 := Lib.hid (hb4.owns hLA3 (owns_ne hLA3 hOB3 (by decide)))
                have hGO4 := Lib.hid (hb4.owns hGO3 (fun e => absurd e HTP.out))
                have hFV4 := Lib.hid (hb4.row hFV3 fun k hk e => row_owns_ne hFV3 hOB3 (by decide) k hk e)
                have hBW4 := Lib.hid (hBW3.trans (But.below hb4 hC3.low fun q e => by rw [e]; exact HTB.out))
                have hRW4 := Lib.hid (hb4.row hrow fun k hk e => row_owns_ne hrow hOB3 (by decide) k hk e)
                have t0 := hOB3.cell_at (i := 0) rfl
                have t1 := hOB3.free 0
                have t2 := hOB3.lt
                clear hC3 hOB3 hLA3 hGO3 hFV3 hBW3 hb3 hb4 hFr hrow hgl hw
                go_wp2_with fail
                refine ⟨⟨j + 1, some ⟨gb, 0, none⟩, cap, fun i => if i = j then .slice la (placesL p.fol).length lc else fl i, by go_num, by omega, hBW4.out, hC4.out, ?_, hOB4.out, hLA4.out, hGO4.out, hFV4.out⟩, by simp [intOf]; omega⟩
                refine Lib.hid ?_
                rw [plVs_snoc V.sv fl (fun _ => false) b.out hjn rfl, HP9.out, HNW.out]
                exact hRW4.out
            · obtain rfl : j = n := by omega
              have HAL := Lib.hid (nall_ok s wr)
              go_wp2_with (refine wpList_load_some LAR.out rfl _ rfl rfl ?_; simp only [Act.put, List.setIfInBounds_toArray, List.set_cons_zero, List.set_cons_succ])
              refine HAL.out.mono ?_
              rintro e w4 ⟨rfl, hw4⟩
              have g4 : Grew wr w4 := hw4 ▸ grew_alloc wr _
              have o4 : Owns w4 wr.heap.size (wdL s) 65 := hw4 ▸ Owns.alloc wr _ _
              have hs4 : s < 2 ^ 4096 := (show NPart.In ⟨f, s, false⟩ 4096 from NPart.In.mono FSR.out OKR.out.few).2
              have hbw4 : Below P W w4 := BWR.out.trans (Below.mono g4 CPR.out.low)
              have hstops := nall_stops 8 wr.heap.size s w4 hs4 o4 (HT.out.below HPOS.out hbw4) (Below P) (fun A B h k => k.below HPOS.out h)
              have hlow : P ≤ w4.heap.size := Nat.le_trans CPR.out.low g4.size
              have hI0 : LsInv (a := s) w4 P tb j V b fl (.slice pa j pc) (.slice fa (placesL f).length fc) (placesL f) (l.length : Int) [] w4 :=
                ⟨LsAt.grew ⟨CPR.out, ROWR.out, OBR.out, GOR.out, FVR.out⟩ g4, Below.refl _ _, hlow⟩
              have HBW4 := Lib.hid hbw4
              clear hw4 g4 o4 HAL hbw4
              obtain ⟨q, hq⟩ : ∃ q, wr.heap.size = q := ⟨_, rfl⟩
              rw [hq] at hstops ⊢
              clear hq
              go_wp2_with fail
              refine wp_state fun a0 ha0 => ?_
              refine (wpIn_wide (n := 9)).1 ?_
              refine wpIn_rangeFunc_ownH (F := Fence.wide) rfl (by omega) (gf := 38) (lb := #[.pointer (some ⟨q, 0, none⟩)]) (by rw [ha0]; rfl) trivial (enters_of Tryd.func38 (by kernel_rfl) rfl) hstops (fun h k => Below.trans h k) (fun W l o o' hl h ho hw => belowK_b hlow W l o o' hl h ho hw) (Below.refl _ _) (fun _ => rfl)
                (LsInv (a := s) w4 P tb j V b fl (.slice pa j pc) (.slice fa (placesL f).length fc) (placesL f) (l.length : Int)) (fun _ _ _ => False) (ls_from hlow) (fun _ _ _ _ _ hs _ _ => hs) hI0
                (fun x a' _ => a' = { tmps := (a0.tmps.setIfInBounds 95 (.int .i64 (x.p : Int))).setIfInBounds 14 (.int .i64 (x.p : Int)), defers := [] })
                (fun x a' _ X Y row hs hg hr => hs) ?assign ?body ?done ?stop
              case assign =>
                rintro lb pre x Wc K hI hK
                have hK' := Lib.hid (hK _ _ (KeepsFrom.refl _ _) (Below.refl _ _) hI rfl)
                clear hK hI
                subst ha0
                simp only [List.setIfInBounds_toArray, List.set_cons_zero, List.set_cons_succ] at hK'
                simp only [encP] at *
                gi_wp2
                exact hK'.out
              case body =>
                rintro lb pre x a' Wc hlo ⟨rr, hrr⟩ ⟨hA, hB, hlw⟩ rfl hlt2
                have hxn : x.p < b.out.length := by
                  rcases Nat.lt_or_ge x.p b.out.length with h | h
                  · exact h
                  · have := x.on
                    rw [Nat.testBit_lt_two_pow (lt_powN FSR.out.2 h)] at this
                    cases this
                rw [HN.out] at hxn
                obtain ⟨pg, pcap, cur, hpv, hcur, hcs⟩ := hA.form (Nat.lt_of_le_of_lt (Nat.zero_le _) hxn)
                simp only [Value.slice.injEq, true_and] at hpv
                obtain ⟨rfl, rfl⟩ := hpv
                obtain ⟨hA2, hb2, hpg⟩ := hA.last hxn (g := pg) rfl
                have ho : Owns Wc pg cur.toList 48 := by unfold Owns; rw [hcur]
                have hx4 : x.p * 4 + 2 < cur.toList.length := by rw [Array.length_toList]; omega
                have t0 := ho.cell_at (i := x.p * 4 + 2) (List.getElem?_eq_getElem hx4)
                have t1 := ho.free (x.p * 4 + 2)
                have t2 := ho.lt
                have c0 := hA.out.cell_at (i := 0) rfl
                have cl := hA.out.lt
                have hx0 : (0 : Int) ≤ (x.p : Int) := by omega
                have hx1 : (x.p : Int) < (j : Int) := by omega
                have HKO := Lib.hid (show KeepsOthers Wc (Wc.setCell ⟨pg, x.p * 4 + 2, none⟩ (.bool true)) from ⟨hb2.size, fun k o hk hn => by
                  rw [hb2.block k (Array.getElem?_eq_some_iff.1 hk).1 (fun e => by
                    subst e
                    rw [hcur] at hk
                    cases hk
                    cases hn)]
                  exact hk⟩)
                have hpre : (fun i => i == x.p || decide (i ∈ pre.map PlS.p)) = fun i => decide (i ∈ (pre ++ [x]).map PlS.p) := by
                  funext i
                  rw [List.map_append, List.map_singleton]
                  by_cases e : i = x.p <;> simp [e]
                rw [hpre] at hA2
                have HBL2 : Hid (Below P Wc (Wc.setCell ⟨pg, x.p * 4 + 2, none⟩ (.bool true))) := Lib.hid (But.below hb2 hlw fun q e => by rw [e]; exact hpg)
                have HI2 : Hid (LsInv (a := s) w4 P tb j V b fl (.slice (some ⟨pg, 0, none⟩) j pc) (.slice fa (placesL f).length fc) (placesL f) (l.length : Int) (pre ++ [x]) (Wc.setCell ⟨pg, x.p * 4 + 2, none⟩ (.bool true))) := Lib.hid ⟨hA2, hB.trans HBL2.out, Nat.le_trans hlw hb2.size⟩
                clear hpre hA2 hb2 hA hB hcur ho hI0 hstops hpg hcs
                subst ha0
                simp only [List.setIfInBounds_toArray, List.set_cons_zero, List.set_cons_succ]
                gi_wp2_with fail
                exact ⟨HKO.out.from _, HBL2.out, HI2.out⟩
              case done =>
                rintro D ys W' hD hys ⟨hA, hB, hlw⟩ hK
                have HCL := Lib.hid (clipPl_ok W' P j _ _ hA.row)
                have HA := Lib.hid hA
                have HB := Lib.hid hB
                have HLW := Lib.hid hlw
                have HK := Lib.hid hK
                have HD := Lib.hid hD
                have HYS := Lib.hid hys
                have c0 := hA.out.cell_at (i := 0) rfl
                have c1 := hA.out.cell_at (i := 1) rfl
                have c2 := hA.out.cell_at (i := 2) rfl
                have cf := hA.out.free 0
                have cl := hA.out.lt
                clear hA hB hlw hK hD hys hI0 hstops
                subst ha0
                go_wp2_with fail
                refine HCL.out.mono ?_
                rintro e w5 ⟨⟨u, rfl, hu, -⟩, rfl⟩
                obtain ⟨ua, uc, rfl⟩ := loose_form hu
                obtain ⟨w6, hw6⟩ : ∃ w6, W'.setCell ⟨tb, 0, none⟩ (.slice ua j uc) = w6 := ⟨_, rfl⟩
                have b6 : But (fun k => k = tb) W' w6 := hw6 ▸ set_but HA.out.out
                have o6 : Owns w6 tb [.slice ua j uc, .slice fa (placesL f).length fc, .int .i64 (l.length : Int)] 42 := hw6 ▸ HA.out.out.set 0 _
                have r6 := b6.owns HA.out.res (fun e => absurd e HTP.out)
                have c0' := o6.cell_at (i := 0) rfl
                have c1' := o6.cell_at (i := 1) rfl
                have c2' := o6.cell_at (i := 2) rfl
                have cl' := o6.lt
                have d0 := r6.cell_at (i := 0) rfl
                have d1 := r6.cell_at (i := 1) rfl
                have d2 := r6.cell_at (i := 2) rfl
                have dl := r6.lt
                have f0 := r6.free 0
                have f1 := r6.free 1
                have f2 := r6.free 2
                have hts := three_set r6 (.slice ua j uc) (.slice fa (placesL f).length fc) (.int .i64 (l.length : Int))
                obtain ⟨w7, hw7⟩ : ∃ w7, ((w6.setCell ⟨P + 1, 0, none⟩ (.slice ua j uc)).setCell ⟨P + 1, 1, none⟩ (.slice fa (placesL f).length fc)).setCell ⟨P + 1, 2, none⟩ (.int .i64 (l.length : Int)) = w7 := ⟨_, rfl⟩
                rw [hw7] at hts
                have O7 := Lib.hid hts.1
                have HK7 : Hid (w7.heap[D]? = some (.deferred (some []))) := Lib.hid (by
                  have h0 := HK.out
                  have h1 : w6.heap[D]? = some (.deferred (some [])) := by
                    rw [b6.block D (Array.getElem?_eq_some_iff.1 h0).1 (fun e => by
                      have := HA.out.out
                      unfold Owns at this
                      rw [← e, h0] at this
                      cases this)]
                    exact h0
                  rw [hts.2.block D (Array.getElem?_eq_some_iff.1 h1).1 (fun e => by
                    have := r6
                    unfold Owns at this
                    rw [← e, h1] at this
                    cases this)]
                  exact h1)
                have hcp6 := HA.out.cp.keep b6 (fun k e => ⟨_, _, e ▸ HA.out.out, by unfold CpT; decide⟩)
                have HCP7 := Lib.hid (hcp6.keep hts.2 (fun k e => ⟨_, _, e ▸ r6, by unfold CpT; decide⟩))
                have hu6 := b6.row hu fun k hk e => row_owns_ne hu HA.out.out (by decide) k hk e
                have HU7 := Lib.hid (hts.2.row hu6 fun k hk e => row_owns_ne hu6 r6 (by decide) k hk e)
                have hf6 := b6.row HA.out.fst fun k hk e => row_owns_ne HA.out.fst HA.out.out (by decide) k hk e
                have HF7 := Lib.hid (hts.2.row hf6 fun k hk e => row_owns_ne hf6 r6 (by decide) k hk e)
                have HB7 := Lib.hid (((HBW4.out.trans HB.out).trans (But.below b6 HLW.out fun q e => by rw [e]; exact HTB.out)).trans (But.below hts.2 hcp6.low fun q e => by omega))
                clear b6 o6 r6 hts hcp6 hu6 hf6 hu HCL
                go_wp2_with fail
                have hgb := grownBy_putObj' w7 D (.deferred none)
                have hcells : ∀ r, some D = some r → ∃ o : Obj, w7.heap[r]? = some o ∧ o.isCells = false := fun r e => by
                  cases e
                  exact ⟨_, HK7.out, rfl⟩
                refine ⟨by simp, .inl ⟨_, _, rfl, run_takeDeferred HK7.out, ?_⟩⟩
                refine ⟨_, two_okN (d := Tryd.prog.underlying 42 |>.getD default) rfl _ _ (P + 1) 42 _ (0, 0) rfl (owns_turn O7.out hgb hcells) rfl rfl rfl, ?_⟩
                have hcp8 := HCP7.out.turn hgb hcells
                refine ⟨?_, _, _, _, _, rfl, .inl ⟨rfl, HTI.out, by rw [HMADE.out]; exact HFL.out, V.sv, fl, ?_⟩⟩
                · have h9 := HB7.out.grown hgb (HCP7.out.low) (fun k e => by
                    cases e
                    have := HD.out
                    omega)
                  rw [← HPP.out] at h9
                  exact h9
                · have hbit : plVs V.sv fl s.testBit b.out j = plVs V.sv fl (fun i => decide (i ∈ ys.map PlS.p)) b.out j := plVs_congr fun i hi => by
                    rw [HYS.out]
                    have h4 : i < 4096 := by omega
                    cases hb : s.testBit i with
                    | true => exact (decide_eq_true (bits_mem.2 ⟨h4, hb⟩)).symm
                    | false => exact (decide_eq_false fun h => by rw [(bits_mem.1 h).2] at hb; cases hb).symm
                  refine ⟨?_, ?_, ?_, ?_, ?_⟩
                  · rw [HMADE.out]
                    dsimp only
                    rw [HN.out, hbit]
                    exact loose_lower (loose_turn HU7.out hgb hcells) (Nat.zero_le _)
                  · rw [HMADE.out]
                    exact fun i hi => loose_lower (hcp8.set i hi) (Nat.zero_le _)
                  · rw [HMADE.out]
                    exact fun i hi => loose_lower (hcp8.fol i hi (by rw [← HN.out]; exact hi)) (Nat.zero_le _)
                  · rw [HMADE.out]
                    exact loose_lower (loose_turn HF7.out hgb hcells) (Nat.zero_le _)
                  · rw [HLL.out]
              case stop =>
                rintro D c' pre W' _ _ h _
                exact h.elim
        · have hts := three_set LPR.out.out (.slice none 0 0) (.slice none 0 0) (.int .i64 0)
          have HO3 := Lib.hid hts.1
          have hg3 := KR.out.low.trans (But.below hts.2 NR.out.low fun q e => by omega)
          have HG3 : Hid (Below P W _) := Lib.hid hg3
          clear hts hg3 k5
          go_wp2_with fail
          refine ⟨_, two_okN (d := Tryd.prog.underlying 42 |>.getD default) rfl _ _ (P + 1) 42 _ (0, 0) rfl HO3.out rfl rfl rfl, ?_⟩
          refine ⟨?_, _, _, _, _, rfl, .inr (.inl ⟨rfl, HTI.out, ?_, rfl, rfl, rfl⟩)⟩
          · unfold Grew
            rw [HPP.out]
            exact HG3.out
          · rw [HMADE.out]
            exact HFL.out
  · have HTO : Hid g.Untidy := Lib.hid ⟨es, M, N, hto, he1, he2, he3⟩
    have htf : (g.told es (at2 M) (at2 N)).isEmpty = false := by
      cases h : g.told es (at2 M) (at2 N) with
      | nil => exact absurd h hto
      | cons _ _ => rfl
    rw [htf]
    clear htf hto he1 he2 he3
    have d0 := HO2.out.cell_at (i := 0) rfl
    have d1 := HO2.out.cell_at (i := 1) rfl
    have d2 := HO2.out.cell_at (i := 2) rfl
    have dl := HO2.out.lt
    have f0 := HO2.out.free 0
    have f1 := HO2.out.free 1
    have f2 := HO2.out.free 2
    have hts := three_set HO2.out (.slice none 0 0) (.slice none 0 0) (.int .i64 0)
    have HO3 := Lib.hid hts.1
    have hg3 := HK3.out.low.trans (But.below hts.2 (by have := HK3.out.low.size; have := HPP.out; omega) fun q e => by omega)
    rw [← HPP.out] at hg3
    have HG3 := Lib.hid (show Grew W _ from hg3)
    clear hts hg3
    rw [HPP.out] at HG3
    go_wp2_with fail
    refine ⟨_, two_okN (d := Tryd.prog.underlying 42 |>.getD default) rfl _ _ (P + 1) 42 _ (0, 0) rfl HO3.out rfl rfl rfl, ?_⟩
    exact ⟨HG3.out, _, _, _, _, rfl, .inr (.inr ⟨rfl, HTO.out, rfl, rfl, rfl⟩)⟩
end Go.Proofs.YtkinlcichclnkaaDoor
