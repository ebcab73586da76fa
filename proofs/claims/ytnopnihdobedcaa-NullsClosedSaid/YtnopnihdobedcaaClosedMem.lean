/- NullsClosed's memory: a copy of the rules, one rule more behind it. -/
import Derived.Test.YtnopnihdobedcaaNames5
import Derived.Test.YtnopnihdobedcaaMayCall
import Derived.Test.YtnopnihdobedcaaGrowMem
import Derived.Maps.AppendAt
namespace Go.Proofs.Ytnopnihdobedcaa
open Go.RowKit

def dashCells : List Value := [.string { data := #[45] }, .int .u8 0, .int .u8 1, .string { data := #[] }, .string { data := #[] }, .slice none 0 0, .slice none 0 0, .int .i64 0, .int .i64 0, .int .i64 0]

theorem dash_rule (W : World) (lim : Nat) : RuleAt W lim (some (.string { data := #[45] })) (some (.int .u8 0)) (some (.int .u8 1)) (some (.string { data := #[] })) (some (.string { data := #[] })) (some (.slice none 0 0)) (some (.slice none 0 0)) (some (.int .i64 0)) (some (.int .i64 0)) (some (.int .i64 0)) dashRule := by
  refine ⟨rfl, by decide, rfl, by decide, ?_, rfl, rfl, rfl, by unfold InI64; decide, by unfold InI64; decide, by unfold InI64; decide⟩
  show NodeAt _ _ _ _ _ _ _ (.mk 1 { data := #[] } { data := #[] } [] [])
  rw [NodeAt]
  exact ⟨⟨by decide, by decide⟩, by decide, by decide, rfl, rfl, rfl, ⟨none, 0, rfl, by decide, trivial⟩, ⟨none, 0, rfl, by decide, by rw [NodesAt]; trivial⟩⟩

theorem RowsIs.dash {W : World} {lim : Nat} {cs : List Value} {l : List Rl} (h : RowsIs W lim cs l) : RowsIs W lim (cs ++ dashCells) (l ++ [dashRule]) := by
  have hl : cs.length = l.length * 10 := h.1
  refine ⟨by simp [hl, dashCells]; omega, fun k hk => ?_⟩
  by_cases hkl : k < l.length
  · have h1 := h.2 k hkl
    rw [List.getElem_append_left hkl, List.getElem?_append_left (by omega), List.getElem?_append_left (by omega), List.getElem?_append_left (by omega), List.getElem?_append_left (by omega), List.getElem?_append_left (by omega),
      List.getElem?_append_left (by omega), List.getElem?_append_left (by omega), List.getElem?_append_left (by omega), List.getElem?_append_left (by omega), List.getElem?_append_left (by omega)]
    exact h1
  · have e : k = l.length := by simp at hk; omega
    subst e
    have e2 : ∀ j, (cs ++ dashCells)[l.length * 10 + j]? = dashCells[j]? := fun j => by
      rw [List.getElem?_append_right (by omega)]
      congr 1
      omega
    have e0 := e2 0
    rw [Nat.add_zero] at e0
    rw [e0, e2, e2, e2, e2, e2, e2, e2, e2, e2]
    have e3 : (l ++ [dashRule])[l.length]'hk = dashRule := by simp
    rw [e3]
    exact dash_rule W lim

/-- what append leaves of others than its own row -/
theorem own_upd {w w' : World} {base e size n : Nat} {v : Value} {xs : List Value} (h : w.ownsRow base e size v n xs) (hg : w.grownBy w' v.ownBlock) : ∃ t, base ≤ t ∧ Upd t w w' := by
  rcases h.2 with ⟨rfl, _⟩ | ⟨g, cap, cur, rfl, hb, _⟩
  · exact ⟨base, Nat.le_refl _, hg.os, hg.tape, hg.output, hg.size, fun k hk _ => hg.block k hk (by simp [Value.ownBlock])⟩
  · exact ⟨g, hb, hg.os, hg.tape, hg.output, hg.size, fun k hk hn => hg.block k hk (by simp [Value.ownBlock]; exact hn)⟩

/-- THE FIRST APPEND: a copy of the rules, or nil where there are none -/
theorem wpList_copy {P : Program} {w : World} {ops : Array Oper} {rest : List Oper} {o : Oper} {a : Act} {Q : Exit → Act → World → Prop} (hgd : o.guard = none) (s x : Operand) (t : TypeId)
    (ho : o.op = .call { callee := .builtin .append, args := #[s, x], argTypes := #[t, t] })
    (base : Nat) (e : TypeId) (i : TypeInfo) (z : Value) (size bytes : Nat) (ht : P.underlying t = some (.slice e)) (hi : P.info? e = some i) (hz : i.zero = some z)
    (hsize : i.size = size) (hby : i.bytes = bytes) (hzs : z.cells.size = size) (hsz : 0 < size)
    (hs : a.eval s = .slice none 0 0)
    (ra : Option Addr) (m c : Nat) (news : List Value) (hx : a.eval x = .slice ra m c) (hra : ra = none → m = 0) (hl : news.length = m * size) (hnews : ∀ ad, ra = some ad → ∀ j u, news[j]? = some u → w.cell? (ad.add j) = some u) (h1 : ∀ u ∈ news, u.oneCell' = true)
    (h63 : m ≤ maxLen) (hbytes : m * bytes ≤ 140737488355328) (hbase : base ≤ w.heap.size)
    (h : ∀ v' w', w'.ownsRow base e size v' m news → w.grownBy w' none → wpList P ops Q rest (a.put o.dst v') w') :
    wpList P ops Q (o :: rest) a w := by
  cases ra with
  | some ad =>
    refine wpList_append_own_at w hgd s x t ho base e i z size bytes ht hi hz hsize hby hzs hsz (.slice none 0 0) 0 [] hs ⟨by simp, .inl ⟨rfl, rfl⟩⟩ ad m c news hx hl (hnews ad rfl) h1 (by omega) (by simpa using hbytes) hbase ?_
    intro v' w' h2 h3 _ _
    rw [Nat.zero_add, List.nil_append] at h2
    exact h v' w' h2 h3
  | none =>
    obtain rfl := hra rfl
    have hn : news = [] := List.length_eq_zero_iff.1 (by simpa using hl)
    subst hn
    refine wpList_plain hgd fun K hK => ?_
    have hr : (Builtin.append_ #[t, t] o.type #[.slice none 0 0, .slice none 0 c]).run P w = .ok (.slice none 0 0) w := by
      simp [Builtin.append_, run_underlying ht, sizeOf, typeInfo, hi, Builtin.lenOf, Builtin.firstCells]
    unfold Oper.wp execOp
    simp only [ho, resolve, invoke, builtin, Sem.run_bind, Sem.run_pure, Result.andThen_ok, List.map_toArray, List.map_cons, List.map_nil, hs, hx, hr]
    exact hK _ _ (h _ w ⟨by simp, .inl ⟨rfl, rfl⟩⟩ ⟨rfl, rfl, rfl, Nat.le_refl _, fun _ _ _ => rfl⟩)

theorem rules_copy {W : World} {lim : Nat} {ra : Option Addr} {l : List Rl} (h : RulesAt W lim ra 0 l) (hlim : lim ≤ W.heap.size) :
    ∃ cs, RowsIs W lim cs l ∧ (∀ w, Grew W w → ∀ ad, ra = some ad → ∀ j u, cs[j]? = some u → w.cell? (ad.add j) = some u) ∧ (∀ u ∈ cs, u.oneCell' = true) ∧ (ra = none → l.length = 0) := by
  cases l with
  | nil => exact ⟨[], ⟨rfl, fun k hk => absurd hk (by simp)⟩, fun _ _ _ _ j u hj => by simp at hj, by simp, fun _ => rfl⟩
  | cons r l =>
    obtain ⟨b, off, rfl, hb, -⟩ := h.get (k := 0) (by simp)
    obtain ⟨cs, h1, h2, h3⟩ := h.cells
    refine ⟨cs, h1, fun w hw ad he j u hj => ?_, h3, fun he => by cases he⟩
    obtain rfl := Option.some.inj he
    have e1 : (⟨b, off, none⟩ : Addr).add j = ⟨b, off + j, none⟩ := by
      unfold Addr.add
      split
      · rename_i h; rw [h]; rfl
      · rfl
    rw [e1, hw.cells _ _ (by omega)]
    have := h2 j u hj
    simpa using this

theorem ownsRow_keep {w w' : World} {base e size n : Nat} {v : Value} {xs : List Value} (h : w.ownsRow base e size v n xs) (hg : Grew w w') : w'.ownsRow base e size v n xs := by
  refine ⟨h.1, ?_⟩
  rcases h.2 with h2 | ⟨g, cap, cur, rfl, hb, hc, h3⟩
  · exact .inl h2
  · exact .inr ⟨g, cap, cur, rfl, hb, by rw [hg.block g (Array.getElem?_eq_some_iff.1 hc).1]; exact hc, h3⟩

theorem dash_news (w : World) : ∀ j u, dashCells[j]? = some u → (w.alloc (.cells dashCells.toArray 40)).cell? ((⟨w.heap.size, 0, none⟩ : Addr).add j) = some u := by
  intro j u hj
  have e1 : (⟨w.heap.size, 0, none⟩ : Addr).add j = ⟨w.heap.size, j, none⟩ := by
    unfold Addr.add
    split
    · rename_i h; rw [h]
    · simp
  rw [e1]
  exact (Owns.alloc w dashCells 40).cell_at hj
end Go.Proofs.Ytnopnihdobedcaa
