/- ChecksMore's memory: a row with a rule more, the two new bodies, what was told. -/
import Derived.Test.YtnopnihdobedcaaMoreLaw2
import Derived.Test.YtnopnihdobedcaaRulesRow
import Derived.Test.YtnopnihdobedcaaCheck
import Derived.Test.YtnopnihdobedcaaGreat2
import Derived.Test.YtnopnihdobedcaaGrowMem
import Derived.Laws.StructEq
import Derived.Deep.AppendLies
namespace Go.Proofs.Ytnopnihdobedcaa
open Go.RowKit

theorem grew_grown6 {w w' : World} (h : w.grownBy w' none) : Grew w w' := ⟨h.os, h.tape, h.output, h.size, fun k hk => h.block k hk (by simp)⟩
theorem info_rule6 : (Try.prog.info? 40).map (fun i => (i.zero, i.size, i.bytes)) = some (some (.agg #[.string { data := #[] }, .int .u8 0, .int .u8 0, .string { data := #[] }, .string { data := #[] }, .slice none 0 0, .slice none 0 0, .int .i64 0, .int .i64 0, .int .i64 0]), 10, 136) := by kernel_rfl

/-- a rule behind all -/
theorem RowsIs.more {W : World} {lim : Nat} {cs : List Value} {l : List Rl} (h : RowsIs W lim cs l) {c0 c1 c2 c3 c4 c5 c6 c7 c8 c9 : Value} {r : Rl} (hr : RuleAt W lim (some c0) (some c1) (some c2) (some c3) (some c4) (some c5) (some c6) (some c7) (some c8) (some c9) r) :
    RowsIs W lim (cs ++ [c0, c1, c2, c3, c4, c5, c6, c7, c8, c9]) (l ++ [r]) := by
  have hl : cs.length = l.length * 10 := h.1
  refine ⟨by simp [hl]; omega, fun k hk => ?_⟩
  by_cases hkl : k < l.length
  · have h1 := h.2 k hkl
    rw [List.getElem_append_left hkl, List.getElem?_append_left (by omega), List.getElem?_append_left (by omega), List.getElem?_append_left (by omega), List.getElem?_append_left (by omega), List.getElem?_append_left (by omega),
      List.getElem?_append_left (by omega), List.getElem?_append_left (by omega), List.getElem?_append_left (by omega), List.getElem?_append_left (by omega), List.getElem?_append_left (by omega)]
    exact h1
  · have e : k = l.length := by simp at hk; omega
    subst e
    have e2 : ∀ j, (cs ++ [c0, c1, c2, c3, c4, c5, c6, c7, c8, c9])[l.length * 10 + j]? = [c0, c1, c2, c3, c4, c5, c6, c7, c8, c9][j]? := fun j => by
      rw [List.getElem?_append_right (by omega)]
      congr 1
      omega
    have e0 := e2 0
    rw [Nat.add_zero] at e0
    rw [e0, e2, e2, e2, e2, e2, e2, e2, e2, e2]
    have e3 : (l ++ [r])[l.length]'hk = r := by simp
    rw [e3]
    exact hr

/-- a name of no rule behind a body -/
theorem none_at {W : World} {lim sb T : Nat} {n : Nd} {v0 v1 v2 v3 v4 : Value} {k : Int} (hk : k = 5 ∨ k = 6) (ho : Owns W sb [v0, v1, v2, v3, v4, .int .u8 k, .string nulName, .string { data := #[] }, .slice none 0 0, .slice none 0 0] T) (hsb : sb < lim)
    (hn : NodeAt W lim (some v0) (some v1) (some v2) (some v3) (some v4) n) :
    NodeAt W lim (some (.int .u8 1)) (some (.string { data := #[] })) (some (.string { data := #[] })) (some (.slice none 0 0)) (some (.slice (some ⟨sb, 0, none⟩) 2 2)) (noneNode k n) := by
  have hc : ∀ j, W.cell? ⟨sb, j, none⟩ = [v0, v1, v2, v3, v4, .int .u8 k, .string nulName, .string { data := #[] }, .slice none 0 0, .slice none 0 0][j]? := fun j => ho.cell j
  rw [noneNode, NodeAt]
  refine ⟨by omega, by decide, by decide, rfl, rfl, rfl, ⟨none, 0, rfl, by decide, trivial⟩, some ⟨sb, 0, none⟩, 2, rfl, by simp [reachN], ?_⟩
  rw [NodesAt]
  refine ⟨⟨sb, 0, rfl, hsb, ?_⟩, ?_⟩
  · simp only [hc]
    exact hn
  · rw [NodesAt]
    refine ⟨⟨sb, 0, rfl, hsb, ?_⟩, by rw [NodesAt]; trivial⟩
    simp only [hc]
    rw [NodeAt]
    exact ⟨by omega, by decide, by decide, rfl, rfl, rfl, ⟨none, 0, rfl, by decide, trivial⟩, none, 0, rfl, by decide, by rw [NodesAt]; trivial⟩
/-- a rule's own name ahead of its body -/
theorem self_at {W : World} {lim sb T : Nat} {n : Nd} {v0 v1 v2 v3 v4 : Value} {k : Int} {nm : ByteArray} (hnm : nm.size ≤ reachN) (hk : k = 5 ∨ k = 6) (ho : Owns W sb [.int .u8 k, .string nm, .string { data := #[] }, .slice none 0 0, .slice none 0 0, v0, v1, v2, v3, v4] T) (hsb : sb < lim)
    (hn : NodeAt W lim (some v0) (some v1) (some v2) (some v3) (some v4) n) :
    NodeAt W lim (some (.int .u8 1)) (some (.string { data := #[] })) (some (.string { data := #[] })) (some (.slice none 0 0)) (some (.slice (some ⟨sb, 0, none⟩) 2 2)) (selfNode k nm n) := by
  have hc : ∀ j, W.cell? ⟨sb, j, none⟩ = [Value.int .u8 k, .string nm, .string { data := #[] }, .slice none 0 0, .slice none 0 0, v0, v1, v2, v3, v4][j]? := fun j => ho.cell j
  rw [selfNode, NodeAt]
  refine ⟨by omega, by decide, by decide, rfl, rfl, rfl, ⟨none, 0, rfl, by decide, trivial⟩, some ⟨sb, 0, none⟩, 2, rfl, by simp [reachN], ?_⟩
  rw [NodesAt]
  refine ⟨⟨sb, 0, rfl, hsb, ?_⟩, ?_⟩
  · simp only [hc]
    rw [NodeAt]
    exact ⟨by omega, hnm, by decide, rfl, rfl, rfl, ⟨none, 0, rfl, by decide, trivial⟩, none, 0, rfl, by decide, by rw [NodesAt]; trivial⟩
  · rw [NodesAt]
    refine ⟨⟨sb, 0, rfl, hsb, ?_⟩, by rw [NodesAt]; trivial⟩
    simp only [hc]
    exact hn

mutual
theorem all_cnt6 : ∀ n : Nd, n.all.length = n.cnt
  | .mk k nm tx set subs => by rw [Nd.all, Nd.cnt, List.length_cons, allL_cnt6 subs]; omega
theorem allL_cnt6 : ∀ l : List Nd, (Nd.allL l).length = Nd.cnts l
  | [] => by rw [Nd.allL, Nd.cnts]; rfl
  | n :: r => by rw [Nd.allL, Nd.cnts, List.length_append, all_cnt6 n, allL_cnt6 r]
end
theorem Gr.Fair.all6 {g : Gr} (h : g.Fair) (i : Nat) (hi : i < g.rules.length) : g.rules[i].body.all.length ≤ 3000 := by
  have h1 := (h.rule i hi).1
  have h2 := Nd.cnt_le_total g.rules[i].body
  rw [all_cnt6]
  omega
theorem Gr.Fair.few6 {g : Gr} (h : g.Fair) : g.Few := ⟨by have := h.len; omega, fun i hi => by have := h.all6 i hi; omega⟩
theorem Gr.Fair.few_twice {g : Gr} (h : g.Fair) (i : Nat) (hi : i < g.rules.length) : (g.twice g.rules[i]).Few :=
  ⟨by have := h.len; rw [twice_len]; omega, fun k hk => by
    by_cases e : k < g.rules.length
    · rw [twice_at g _ k e hk]
      have := h.all6 k e
      omega
    · have : k = g.rules.length := by rw [twice_len] at hk; omega
      subst this
      rw [twice_last]
      have := h.all6 i hi
      omega⟩
theorem Gr.Fair.few_put {g : Gr} (h : g.Fair) (i : Nat) (hi : i < g.rules.length) (n : Nd) (hn : n.all.length ≤ 4000) : (g.put i n).Few :=
  ⟨by have := h.len; rw [put_length]; omega, fun k hk => by
    rw [putRule_at g i hi n k hk (by rw [put_length] at hk; exact hk)]
    split
    · exact hn
    · have := h.all6 k (by rw [put_length] at hk; exact hk)
      omega⟩
theorem none_len (k : Int) (n : Nd) : (noneNode k n).all.length = n.all.length + 2 := by rw [all_none]; simp
theorem self_len (k : Int) (nm : ByteArray) (n : Nd) : (selfNode k nm n).all.length = n.all.length + 2 := by
  unfold selfNode
  rw [Nd.all, Nd.allL, Nd.all, Nd.allL, Nd.allL, Nd.allL]
  simp

/-- the cells of what was told -/
theorem probCells_at (T : List Prob) : ∀ k (h : k < T.length) (tl : List Value), (probCells T ++ tl)[k * 3]? = some (.int .u8 T[k].code) ∧ (probCells T ++ tl)[k * 3 + 1]? = some (.int .i64 T[k].rule) ∧ (probCells T ++ tl)[k * 3 + 2]? = some (.string T[k].name) := by
  induction T with
  | nil => intro k h; exact absurd h (by simp)
  | cons p T ih =>
    intro k h tl
    have e : probCells (p :: T) ++ tl = [.int .u8 p.code, .int .i64 p.rule, .string p.name] ++ (probCells T ++ tl) := by
      unfold probCells
      simp [List.flatMap_cons, Prob.cells]
    rw [e]
    cases k with
    | zero => exact ⟨rfl, rfl, rfl⟩
    | succ k =>
      have h2 := ih k (by simpa using h) tl
      have e2 : ∀ j, ([Value.int .u8 p.code, .int .i64 p.rule, .string p.name] ++ (probCells T ++ tl))[(k + 1) * 3 + j]? = (probCells T ++ tl)[k * 3 + j]? := fun j => by
        rw [List.getElem?_append_right (by simp; omega)]
        congr 1
        simp
        omega
      have e0 := e2 0
      rw [Nat.add_zero] at e0
      rw [e0, e2, e2]
      exact h2
/-- what was told, of which there is something -/
theorem ProbsAt.cells {W : World} {v : Value} {T : List Prob} (h : ProbsAt W v T) (hne : T ≠ []) : ∃ b, v = .slice (some ⟨b, 0, none⟩) T.length T.length ∧ b < W.heap.size ∧
    ∀ k (h : k < T.length), W.cell? ⟨b, k * 3, none⟩ = some (.int .u8 T[k].code) ∧ W.cell? ⟨b, k * 3 + 1, none⟩ = some (.int .i64 T[k].rule) ∧ W.cell? ⟨b, k * 3 + 2, none⟩ = some (.string T[k].name) := by
  obtain ⟨a, rfl, h2⟩ := h
  obtain ⟨b, tl, rfl, ho⟩ := h2 hne
  refine ⟨b, rfl, ho.lt, fun k hk => ?_⟩
  rw [ho.cell, ho.cell, ho.cell]
  exact probCells_at T k hk tl
theorem Gr.Few.toldAll {g : Gr} (h : g.Few) (es : List Bool) (rch rnd : Nat → Nat → Bool) : (g.told es rch rnd).length ≤ 1000000 := by
  have h1 := h.told es rch rnd g.rules.length (Nat.le_refl _)
  have h2 := h.len
  rw [List.take_length] at h1
  unfold Gr.told
  rw [List.length_append]
  have h3 : (if g.start < 0 then [(⟨8, -1, { data := #[] }⟩ : Prob)] else []).length ≤ 1 := by split <;> simp
  omega

/-- what stands at hand: the grammar's box, the rule's box, the other grammar's box -/
structure MoreAt (g : Gr) (W : World) (ra : Option Addr) (rc : Nat) (ten : List Value) (rx hx : Nat) (hv : Value) (w : World) : Prop where
  low : Grew W w
  bg : Owns w W.heap.size [.string g.name, .int .i64 g.bound, .int .i64 g.states, .slice ra g.rules.length rc] 26
  br : Owns w rx ten 40
  bh : Owns w hx [.string g.name, .int .i64 g.bound, .int .i64 g.states, hv] 26
  gr : W.heap.size < rx
  rh : rx < hx
section
variable {g : Gr} {W w w' : World} {ra : Option Addr} {rc rx hx : Nat} {ten : List Value} {hv : Value}
theorem MoreAt.keep (h : MoreAt g W ra rc ten rx hx hv w) (hg : Grew w w') : MoreAt g W ra rc ten rx hx hv w' :=
  ⟨h.low.trans hg, h.bg.keep hg, h.br.keep hg, h.bh.keep hg, h.gr, h.rh⟩
theorem MoreAt.upd {t : Nat} (h : MoreAt g W ra rc ten rx hx hv w) (hu : Upd t w w') (ht : hx < t) : MoreAt g W ra rc ten rx hx hv w' :=
  have h1 := h.gr
  have h2 := h.rh
  ⟨Below.trans h.low (hu.below (by omega) h.low.size), h.bg.upd hu (by omega), h.br.upd hu (by omega), h.bh.upd hu (by omega), h.gr, h.rh⟩
theorem MoreAt.put (h : MoreAt g W ra rc ten rx hx hv w) (v : Value) : MoreAt g W ra rc ten rx hx v (w.setCell ⟨hx, 3, none⟩ v) :=
  have h1 := h.gr
  have h2 := h.rh
  have hu : Upd hx w (w.setCell ⟨hx, 3, none⟩ v) := (Upd.refl _ _).setCell _ _
  ⟨Below.trans h.low (hu.below (by omega) h.low.size), h.bg.upd hu (by omega), h.br.upd hu (by omega), by have h3 := h.bh.set 3 v; simpa only [List.set_cons_succ, List.set_cons_zero] using h3, h.gr, h.rh⟩
end

/-- what append leaves of others than its own row -/
theorem own_upd6 {w w' : World} {base e size n : Nat} {v : Value} {xs : List Value} (h : w.ownsRow base e size v n xs) (hg : w.grownBy w' v.ownBlock) : ∃ t, base ≤ t ∧ Upd t w w' := by
  rcases h.2 with ⟨rfl, _⟩ | ⟨g, cap, cur, rfl, hb, _⟩
  · exact ⟨base, Nat.le_refl _, hg.os, hg.tape, hg.output, hg.size, fun k hk _ => hg.block k hk (by simp [Value.ownBlock])⟩
  · exact ⟨g, hb, hg.os, hg.tape, hg.output, hg.size, fun k hk hn => hg.block k hk (by simp [Value.ownBlock]; exact hn)⟩
theorem ownsRow_keep6 {w w' : World} {base e size n : Nat} {v : Value} {xs : List Value} (h : w.ownsRow base e size v n xs) (hg : Grew w w') : w'.ownsRow base e size v n xs := by
  refine ⟨h.1, ?_⟩
  rcases h.2 with h2 | ⟨g, cap, cur, rfl, hb, hc, h3⟩
  · exact .inl h2
  · exact .inr ⟨g, cap, cur, rfl, hb, by rw [hg.block g (Array.getElem?_eq_some_iff.1 hc).1]; exact hc, h3⟩
theorem add_off (b o j : Nat) : (⟨b, o, none⟩ : Addr).add j = ⟨b, o + j, none⟩ := by
  unfold Addr.add
  split
  · rename_i h; rw [h]; rfl
  · rfl
theorem owns_news {w : World} {b T : Nat} {cs : List Value} (h : Owns w b cs T) : ∀ j u, cs[j]? = some u → w.cell? ((⟨b, 0, none⟩ : Addr).add j) = some u := by
  intro j u hj
  rw [add_off, Nat.zero_add]
  exact h.cell_at hj

/-- an append, as an operation -/
theorem upon_append {P : Program} {o : Oper} {a : Act} {w w' : World} {G : Value → World → Prop} {v vs vx : Value} (s x : Operand) (t : TypeId) (ho : o.op = .call { callee := .builtin .append, args := #[s, x], argTypes := #[t, t] }) (hs : a.eval s = vs) (hx : a.eval x = vx)
    (hr : (Builtin.append_ #[t, t] o.type #[vs, vx]).run P w = .ok v w') (hG : G v w') : uponV P G ((execOp a.eval o).run P w) := by
  unfold execOp
  simp only [ho, resolve, invoke, builtin, Sem.run_bind, Sem.run_pure, Result.andThen_ok, List.map_toArray, List.map_cons, List.map_nil, hs, hx, hr]
  exact hG
theorem more_start {g : Gr} {W w3 : World} {ra : Option Addr} {rc : Nat} (ten : List Value) (hB : Grew W w3) (hg : Owns w3 W.heap.size [.string g.name, .int .i64 g.bound, .int .i64 g.states, .slice ra g.rules.length rc] 26) :
    MoreAt g W ra rc ten w3.heap.size (w3.heap.size + 1) (.slice ra g.rules.length rc) ((w3.alloc (.cells ten.toArray 40)).alloc (.cells #[.string g.name, .int .i64 g.bound, .int .i64 g.states, .slice ra g.rules.length rc] 26)) := by
  have a1 := grew_alloc w3 (.cells ten.toArray 40)
  have a2 := grew_alloc (w3.alloc (.cells ten.toArray 40)) (.cells #[.string g.name, .int .i64 g.bound, .int .i64 g.states, .slice ra g.rules.length rc] 26)
  have o1 := (Owns.alloc w3 ten 40).keep a2
  have o2 := Owns.alloc (w3.alloc (.cells ten.toArray 40)) [.string g.name, .int .i64 g.bound, .int .i64 g.states, .slice ra g.rules.length rc] 26
  rw [show (w3.alloc (.cells ten.toArray 40)).heap.size = w3.heap.size + 1 by simp] at o2
  exact ⟨(hB.trans a1).trans a2, (hg.keep a1).keep a2, o1, o2, hg.lt, by omega⟩
theorem rules_news6 {W : World} {rb ro : Nat} {cs : List Value} (hrb : rb < W.heap.size) (hnews : ∀ j u, cs[j]? = some u → W.cell? ⟨rb, ro + 0 * 10 + j, none⟩ = some u) :
    ∀ w, Grew W w → ∀ j u, cs[j]? = some u → w.cell? ((⟨rb, ro, none⟩ : Addr).add j) = some u := by
  intro w hw j u hj
  rw [add_off, hw.cells _ _ hrb]
  have := hnews j u hj
  simpa using this
theorem ten_one (nm bnm btx : ByteArray) (so bk p0 p1 p2 : Int) (bsa bna : Option Addr) (bsl bsc bnl bnc : Nat) :
    ∀ u ∈ [Value.string nm, .int .u8 so, .int .u8 bk, .string bnm, .string btx, .slice bsa bsl bsc, .slice bna bnl bnc, .int .i64 p0, .int .i64 p1, .int .i64 p2], u.oneCell' = true := by
  intro u hu
  simp only [List.mem_cons, List.not_mem_nil, or_false] at hu
  rcases hu with rfl | rfl | rfl | rfl | rfl | rfl | rfl | rfl | rfl | rfl <;> rfl

/-- five cells behind each other are set -/
theorem set5_upd (w : World) (b m : Nat) (a0 a1 a2 a3 a4 : Value) : Upd b w (((((w.setCell ⟨b, m, none⟩ a0).setCell ⟨b, m + 1, none⟩ a1).setCell ⟨b, m + 2, none⟩ a2).setCell ⟨b, m + 3, none⟩ a3).setCell ⟨b, m + 4, none⟩ a4) := (((((Upd.refl _ _).setCell _ _).setCell _ _).setCell _ _).setCell _ _).setCell _ _
theorem set5_own {w : World} {b m T : Nat} {cs : List Value} (h : OwnsPre w b cs T) (hm : m + 5 ≤ cs.length) (a0 a1 a2 a3 a4 : Value) :
    OwnsPre (((((w.setCell ⟨b, m, none⟩ a0).setCell ⟨b, m + 1, none⟩ a1).setCell ⟨b, m + 2, none⟩ a2).setCell ⟨b, m + 3, none⟩ a3).setCell ⟨b, m + 4, none⟩ a4) b (((((cs.set m a0).set (m + 1) a1).set (m + 2) a2).set (m + 3) a3).set (m + 4) a4) T :=
  ((((h.set (by omega) _).set (by simp; omega) _).set (by simp; omega) _).set (by simp; omega) _).set (by simp; omega) _
/-- the other grammar, with another body in one rule -/
theorem put_grammar {g : Gr} {W w : World} {ra : Option Addr} {b rc cap : Nat} {cs : List Value} {i : Nat} {n : Nd} {a0 a1 a2 a3 a4 : Value} (hG : GrAt W W.heap.size (some (.string g.name)) (some (.int .i64 g.bound)) (some (.int .i64 g.states)) (some (.slice ra g.rules.length rc)) g) (hlow : Grew W w) (hcs : RowsIs W W.heap.size cs g.rules) (hi : i < g.rules.length)
    (hn : NodeAt w w.heap.size (some a0) (some a1) (some a2) (some a3) (some a4) n) (ho : OwnsPre w b (((((cs.set (i * 10 + 2) a0).set (i * 10 + 2 + 1) a1).set (i * 10 + 2 + 2) a2).set (i * 10 + 2 + 3) a3).set (i * 10 + 2 + 4) a4) 40) (hlen : g.rules.length ≤ reachN) :
    GrAt w w.heap.size (some (.string g.name)) (some (.int .i64 g.bound)) (some (.int .i64 g.states)) (some (.slice (some ⟨b, 0, none⟩) g.rules.length cap)) (g.put i n) := by
  have hrows := ((hcs.keep hlow).mono hlow.size).put hi hn
  have hrat := hrows.at ho ho.lt
  refine ⟨rfl, hG.2.1, rfl, rfl, hG.2.2.2.2.1, hG.2.2.2.2.2.1, some ⟨b, 0, none⟩, cap, by rw [put_length], by rw [put_length]; exact hlen, ?_⟩
  rw [put_rules g i hi]
  exact hrat
/-- a body is put in: the walk has the new nodes behind the five stores -/
theorem body_put {g : Gr} {W w : World} {ra : Option Addr} {rc rx hx : Nat} {ten : List Value} {hv : Value} {b i : Nat} {cs : List Value} (nodes : List Value) (h : MoreAt g W ra rc ten rx hx hv w) (ho : OwnsPre w b cs 40) (hi : i * 10 + 2 + 5 ≤ cs.length) (hb : hx < b) (a0 a1 a2 a3 a4 : Value) :
    let w' := (((((w.setCell ⟨b, i * 10 + 2, none⟩ a0).setCell ⟨b, i * 10 + 2 + 1, none⟩ a1).setCell ⟨b, i * 10 + 2 + 2, none⟩ a2).setCell ⟨b, i * 10 + 2 + 3, none⟩ a3).setCell ⟨b, i * 10 + 2 + 4, none⟩ a4).alloc (.cells nodes.toArray 36)
    MoreAt g W ra rc ten rx hx hv w' ∧ OwnsPre w' b (((((cs.set (i * 10 + 2) a0).set (i * 10 + 2 + 1) a1).set (i * 10 + 2 + 2) a2).set (i * 10 + 2 + 3) a3).set (i * 10 + 2 + 4) a4) 40 ∧ Owns w' w.heap.size nodes 36 := by
  have hu := set5_upd w b (i * 10 + 2) a0 a1 a2 a3 a4
  have o1 := set5_own ho hi a0 a1 a2 a3 a4
  have hz : (((((w.setCell ⟨b, i * 10 + 2, none⟩ a0).setCell ⟨b, i * 10 + 2 + 1, none⟩ a1).setCell ⟨b, i * 10 + 2 + 2, none⟩ a2).setCell ⟨b, i * 10 + 2 + 3, none⟩ a3).setCell ⟨b, i * 10 + 2 + 4, none⟩ a4).heap.size = w.heap.size := by simp [World.setCell]
  have h1 := h.upd hu hb
  generalize (((((w.setCell ⟨b, i * 10 + 2, none⟩ a0).setCell ⟨b, i * 10 + 2 + 1, none⟩ a1).setCell ⟨b, i * 10 + 2 + 2, none⟩ a2).setCell ⟨b, i * 10 + 2 + 3, none⟩ a3).setCell ⟨b, i * 10 + 2 + 4, none⟩ a4) = w1 at *
  have hg := grew_alloc w1 (.cells nodes.toArray 36)
  refine ⟨h1.keep hg, o1.keep hg, ?_⟩
  rw [← hz]
  exact Owns.alloc w1 nodes 36
end Go.Proofs.Ytnopnihdobedcaa
