/- Rules, sorted into three rows. -/
import Derived.Test.YtkinlcichclnkaaDoorQO41
namespace Go.Proofs.YtkinlcichclnkaaDoor
open Go.RowKit

/-! ### numbers of rules -/
def Gr.ruleD (g : Gr) (i : Nat) : Rl := g.rules.getD i ⟨⟨#[]⟩, 0, .mk 0 ⟨#[]⟩ ⟨#[]⟩ [] [], 0, 0, 0⟩
def Gr.sel (g : Gr) (p : Rl → Bool) (j : Nat) : List Nat := (List.range j).filter fun i => p (g.ruleD i)
theorem Gr.ruleD_get {g : Gr} {i : Nat} (h : i < g.rules.length) : g.ruleD i = g.rules[i] := by unfold Gr.ruleD; rw [List.getD_eq_getElem?_getD, List.getElem?_eq_getElem h]; rfl
theorem Gr.sel_succ (g : Gr) (p : Rl → Bool) (j : Nat) : g.sel p (j + 1) = if p (g.ruleD j) = true then g.sel p j ++ [j] else g.sel p j := by
  unfold Gr.sel
  rw [List.range_succ, List.filter_append]
  by_cases h : p (g.ruleD j) = true
  · rw [if_pos h]; simp [List.filter, h]
  · rw [if_neg h]; simp [List.filter, h]
theorem Gr.sel_map (g : Gr) (p : Rl → Bool) : ∀ j, j ≤ g.rules.length → (g.sel p j).map g.ruleD = (g.rules.take j).filter p
  | 0, _ => rfl
  | j + 1, h => by
    have hj : j < g.rules.length := by omega
    have ih := Gr.sel_map g p j (by omega)
    rw [Gr.sel_succ, List.take_succ_eq_append_getElem hj, List.filter_append, Gr.ruleD_get hj]
    by_cases e : p g.rules[j] = true
    · rw [if_pos e, List.map_append, ih, List.map_singleton, Gr.ruleD_get hj]
      simp [List.filter, e]
    · rw [if_neg e, ih]
      simp [List.filter, e]
theorem Gr.sel_lt {g : Gr} {p : Rl → Bool} {j i : Nat} (h : i ∈ g.sel p j) : i < j := List.mem_range.1 (List.mem_filter.1 h).1
theorem Gr.sel_len (g : Gr) (p : Rl → Bool) (j : Nat) : (g.sel p j).length ≤ j := by
  have := List.length_filter_le (fun i => p (g.ruleD i)) (List.range j)
  rw [List.length_range] at this
  exact this

/-! ### rows of rules -/
def ruVs (rv : Nat → List Value) (l : List Nat) : List Value := l.flatMap rv
theorem ten_form {l : List Value} (h : l.length = 10) : ∃ a0 a1 a2 a3 a4 a5 a6 a7 a8 a9, l = [a0, a1, a2, a3, a4, a5, a6, a7, a8, a9] := by
  match l, h with
  | [a0, a1, a2, a3, a4, a5, a6, a7, a8, a9], _ => exact ⟨a0, a1, a2, a3, a4, a5, a6, a7, a8, a9, rfl⟩
theorem info_rule : (Tryd.prog.info? 38).map (fun i => (i.zero, i.size, i.bytes)) = some (some (.agg #[.string { data := #[] }, .int .u8 0, .int .u8 0, .string { data := #[] }, .string { data := #[] }, .slice none 0 0, .slice none 0 0, .int .i64 0, .int .i64 0, .int .i64 0]), 10, 136) := by kernel_rfl
theorem grown_refl (w : World) (r : Option Nat) : w.grownBy w r := ⟨rfl, rfl, rfl, Nat.le_refl _, fun _ _ _ => rfl⟩
theorem run_append_nothing8 {P : Program} {w : World} (t ty : TypeId) (base : Nat) (e : TypeId) (i : TypeInfo) (size : Nat) (ht : P.underlying t = some (.slice e)) (hi : P.info? e = some i) (hsize : i.size = size)
    (v : Value) (n : Nat) (xs : List Value) (hown : looseRow w base e size v n xs) (ad : Option Addr) (c : Nat) :
    (Builtin.append_ #[t, t] ty #[v, .slice ad 0 c]).run P w = .ok v w := by
  subst hsize
  have hf : (Builtin.firstCells i.size 0 (.slice ad 0 c)).run P w = .ok #[] w := by
    cases ad with
    | none => simp [Builtin.firstCells]
    | some a => simp [Builtin.firstCells, loadCells, loadCellsFrom]
  rcases hown.2 with ⟨rfl, rfl⟩ | ⟨g, cap, cur, rfl, hbg, hg, hnc, hcm, hcs, htake⟩
  · simp [Builtin.append_, run_underlying ht, sizeOf, typeInfo, hi, Builtin.lenOf, hf]
  · simp [Builtin.append_, run_underlying ht, sizeOf, typeInfo, hi, Builtin.lenOf, hf, hnc, storeCells]
theorem wpList_append_run8 {P : Program} {w : World} {ops : Array Oper} {rest : List Oper} {o : Oper} {a : Act} {Q : Exit → Act → World → Prop} {w' : World} (hgd : o.guard = none) (s x : Operand) (t tn : TypeId)
    (ho : o.op = .call { callee := .builtin .append, args := #[s, x], argTypes := #[t, tn] }) (vs vx v : Value) (hs : a.eval s = vs) (hx : a.eval x = vx)
    (hr : (Builtin.append_ #[t, tn] o.type #[vs, vx]).run P w = .ok v w') (h : wpList P ops Q rest (a.put o.dst v) w') : wpList P ops Q (o :: rest) a w :=
  wpList_plain hgd fun _ hK => by
    unfold Oper.wp execOp
    simp only [ho, resolve, invoke, builtin, Sem.run_bind, Sem.run_pure, Result.andThen_ok, List.map_toArray, List.map_cons, List.map_nil, hs, hx, hr]
    exact hK _ _ h
/-- one row behind another -/
theorem rule_append {w : World} {base base' : Nat} {v u : Value} {n m : Nat} {xs ys : List Value} (ty : TypeId) (hv : looseRow w base 38 10 v n xs) (hu : looseRow w base' 38 10 u m ys) (h1 : ∀ y ∈ ys, y.oneCell' = true) (hn : n + m ≤ 1000) (hb : base ≤ w.heap.size) :
    ∃ r w', (Builtin.append_ #[24, 24] ty #[v, u]).run Tryd.prog w = .ok r w' ∧ looseRow w' base 38 10 r (n + m) (xs ++ ys) ∧ w.grownBy w' v.ownBlock ∧ (∀ g, r.ownBlock = some g → v.ownBlock = some g ∨ g = w.heap.size) := by
  obtain ⟨i0, hi, hz0, hz1, hz2⟩ := info_parts info_rule
  rcases hu.2 with ⟨rfl, rfl⟩ | ⟨g, cap, cur, rfl, h2, h3, h4, h5, h6, h7⟩
  · have hys : ys = [] := List.eq_nil_of_length_eq_zero (by rw [hu.1])
    subst hys
    refine ⟨v, w, run_append_nothing8 24 ty base 38 i0 10 Tryd.underlying24 hi hz1 v n xs hv none 0, by rw [List.append_nil]; exact hv, grown_refl _ _, fun g hg => .inl hg⟩
  · by_cases hm : m = 0
    · subst hm
      have hys : ys = [] := List.eq_nil_of_length_eq_zero (by rw [hu.1])
      subst hys
      exact ⟨v, w, run_append_nothing8 24 ty base 38 i0 10 Tryd.underlying24 hi hz1 v n xs hv _ _, by rw [List.append_nil]; exact hv, grown_refl _ _, fun g hg => .inl hg⟩
    · obtain ⟨g', cap', w', hr, hrow, hg, hat, hlt⟩ := run_append_loose w 24 ty base 38 i0 _ 10 136 Tryd.underlying24 hi hz0 hz1 hz2 rfl (by decide) v n xs hv ⟨g, 0, none⟩ m cap ys hu.1 (fun j y hj => by
        have := looseRow_cells hu (g := g) rfl j y hj
        rw [padd_off, Nat.zero_add]
        exact this) h1 (by omega) (by unfold maxLen; omega) (by omega) hb w.heap.size rfl
      exact ⟨_, w', hr, hrow, hg, fun k hk => by
        simp only [Value.ownBlock, Option.some.injEq] at hk
        subst hk
        exact hat⟩
/-- three rows of rules, apart -/
structure R3 (w : World) (P : Nat) (rv : Nat → List Value) (v1 v2 v3 : Value) (l1 l2 l3 : List Nat) : Prop where
  r1 : looseRow w P 38 10 v1 l1.length (ruVs rv l1)
  r2 : looseRow w P 38 10 v2 l2.length (ruVs rv l2)
  r3 : looseRow w P 38 10 v3 l3.length (ruVs rv l3)
  d12 : ∀ g, v1.ownBlock = some g → v2.ownBlock ≠ some g
  d13 : ∀ g, v1.ownBlock = some g → v3.ownBlock ≠ some g
  d23 : ∀ g, v2.ownBlock = some g → v3.ownBlock ≠ some g
section
variable {w w' : World} {P : Nat} {rv : Nat → List Value} {v1 v2 v3 : Value} {l1 l2 l3 : List Nat}
theorem R3.rot (h : R3 w P rv v1 v2 v3 l1 l2 l3) : R3 w P rv v2 v3 v1 l2 l3 l1 :=
  ⟨h.r2, h.r3, h.r1, h.d23, fun g h1 h2 => h.d12 g h2 h1, fun g h1 h2 => h.d13 g h2 h1⟩
theorem R3.grew (h : R3 w P rv v1 v2 v3 l1 l2 l3) (hg : Grew w w') : R3 w' P rv v1 v2 v3 l1 l2 l3 := by
  have hb := But.of_grew (F := fun _ => False) hg
  exact ⟨hb.row h.r1 fun _ _ e => e, hb.row h.r2 fun _ _ e => e, hb.row h.r3 fun _ _ e => e, h.d12, h.d13, h.d23⟩
theorem R3.app (h : R3 w P rv v1 v2 v3 l1 l2 l3) {r : Value} {l : List Nat} (hr : looseRow w' P 38 10 r l.length (ruVs rv l)) (hg : w.grownBy w' v1.ownBlock) (hat : ∀ g, r.ownBlock = some g → v1.ownBlock = some g ∨ g = w.heap.size) : R3 w' P rv r v2 v3 l l2 l3 := by
  have hb := grown_but hg
  have lt2 : ∀ g, v2.ownBlock = some g → g < w.heap.size := fun g hk => (row_type h.r2 hk).2.1
  have lt3 : ∀ g, v3.ownBlock = some g → g < w.heap.size := fun g hk => (row_type h.r3 hk).2.1
  exact ⟨hr, hb.row h.r2 fun k hk e => h.d12 k e hk, hb.row h.r3 fun k hk e => h.d13 k e hk, fun g h1 h2 => (hat g h1).elim (fun e => h.d12 g e h2) fun e => by have := lt2 g h2; omega, fun g h1 h2 => (hat g h1).elim (fun e => h.d13 g e h2) fun e => by have := lt3 g h2; omega, h.d23⟩
end
theorem R3.none (w : World) (P : Nat) (rv : Nat → List Value) : R3 w P rv (.slice none 0 0) (.slice none 0 0) (.slice none 0 0) [] [] [] :=
  ⟨⟨rfl, .inl ⟨rfl, rfl⟩⟩, ⟨rfl, .inl ⟨rfl, rfl⟩⟩, ⟨rfl, .inl ⟨rfl, rfl⟩⟩, fun _ h => by simp [Value.ownBlock] at h, fun _ h => by simp [Value.ownBlock] at h, fun _ h => by simp [Value.ownBlock] at h⟩
theorem RulesAt.mk' {W : World} {lim : Nat} {b off : Nat} (hb : b < lim) : ∀ (l : List Rl) (i : Nat), (∀ k (hk : k < l.length), RuleAt W lim (W.cell? ⟨b, off + (i + k) * 10, none⟩) (W.cell? ⟨b, off + (i + k) * 10 + 1, none⟩) (W.cell? ⟨b, off + (i + k) * 10 + 2, none⟩) (W.cell? ⟨b, off + (i + k) * 10 + 3, none⟩) (W.cell? ⟨b, off + (i + k) * 10 + 4, none⟩)
      (W.cell? ⟨b, off + (i + k) * 10 + 5, none⟩) (W.cell? ⟨b, off + (i + k) * 10 + 6, none⟩) (W.cell? ⟨b, off + (i + k) * 10 + 7, none⟩) (W.cell? ⟨b, off + (i + k) * 10 + 8, none⟩) (W.cell? ⟨b, off + (i + k) * 10 + 9, none⟩) l[k]) → RulesAt W lim (some ⟨b, off, none⟩) i l
  | [], _, _ => trivial
  | n :: r, i, h => by
    refine ⟨⟨b, off, rfl, hb, by have := h 0 (by simp); rw [Nat.add_zero] at this; exact this⟩, RulesAt.mk' hb r (i + 1) fun k hk => ?_⟩
    have := h (k + 1) (by simpa using hk)
    rw [show i + (k + 1) = i + 1 + k by omega] at this
    exact this
/-- a row of some of a grammar's rules holds these rules -/
theorem ru_rules {W : World} {P lim : Nat} {g : Gr} {rv : Nat → List Value} {v : Value} {l : List Nat} (hrow : looseRow W P 38 10 v l.length (ruVs rv l)) (hlen : ∀ i, (rv i).length = 10) (hl : ∀ i ∈ l, i < g.rules.length)
    (hru : ∀ i (h : i < g.rules.length), RuleAt W lim (rv i)[0]? (rv i)[1]? (rv i)[2]? (rv i)[3]? (rv i)[4]? (rv i)[5]? (rv i)[6]? (rv i)[7]? (rv i)[8]? (rv i)[9]? g.rules[i]) (hw : lim ≤ W.heap.size) : ∃ a c, v = .slice a l.length c ∧ RulesAt W W.heap.size a 0 (l.map g.ruleD) := by
  rcases hrow.2 with ⟨rfl, h0⟩ | ⟨b, cap, cur, h1, h2, h3, h4⟩
  · have : l = [] := List.eq_nil_of_length_eq_zero h0
    subst this
    exact ⟨none, 0, rfl, trivial⟩
  · refine ⟨_, cap, h1, RulesAt.mk' (Array.getElem?_eq_some_iff.1 h3).1 _ 0 fun k hk => ?_⟩
    rw [List.length_map] at hk
    have hc := looseRow_cells hrow (g := b) (by rw [h1]; rfl)
    have hi := hl l[k] (List.getElem_mem hk)
    have hr := (hru l[k] hi).mono hw
    have cell : ∀ t, t < 10 → W.cell? ⟨b, k * 10 + t, none⟩ = (rv l[k])[t]? := fun t ht => by
      have h5 := fmap_get rv 10 hlen l k t ht
      rw [List.getElem?_eq_getElem hk] at h5
      have h6 : t < (rv l[k]).length := by rw [hlen]; exact ht
      simp only [Option.bind_some, List.getElem?_eq_getElem h6] at h5
      rw [List.getElem?_eq_getElem h6]
      exact hc _ _ h5
    simp only [List.getElem_map, Nat.zero_add]
    rw [Gr.ruleD_get hi]
    have c0 := cell 0 (by omega)
    rw [Nat.add_zero] at c0
    rw [c0, cell 1 (by omega), cell 2 (by omega), cell 3 (by omega), cell 4 (by omega), cell 5 (by omega), cell 6 (by omega), cell 7 (by omega), cell 8 (by omega), cell 9 (by omega)]
    exact hr
end Go.Proofs.YtkinlcichclnkaaDoor
