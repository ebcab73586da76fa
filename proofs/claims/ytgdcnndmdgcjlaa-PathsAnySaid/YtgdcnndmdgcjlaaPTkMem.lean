/- A table of bools that is made row by row; a net as the document has it; what rules take: in memory. -/
import Derived.Test.YtgdcnndmdgcjlaaPTkLaw
import Derived.Test.YtgdcnndmdgcjlaaPMem
namespace Go.Proofs.Ytgdcnndmdgcjlaa
open Go.RowKit

theorem owns_type {w : World} {b T T' : Nat} {cs cs' : List Value} (h : Owns w b cs T) (h' : Owns w b cs' T') : T = T' := by
  unfold Owns at h h'
  rw [h] at h'
  simp only [Option.some.injEq, Obj.cells.injEq] at h'
  exact h'.2.1
theorem owns_ne {w : World} {b b' T T' : Nat} {cs cs' : List Value} (h : Owns w b cs T) (h' : Owns w b' cs' T') (hT : T ≠ T') : b ≠ b' := fun e => by
  subst e
  exact hT (owns_type h h')
theorem put_heap {w : World} {a : Addr} {v : Value} {i : Nat} (h : a.block ≠ i) : (w.setCell a v).heap[i]? = w.heap[i]? := Below.heap_setCell _ _ _ _ (fun e => h e.symm)

/-- the cells of a row of bools -/
def bcells (n : Nat) (h : Nat → Bool) : List Value := (List.range (n + 1)).map fun i => .bool (h i)
theorem bcells_at {n i : Nat} (h : Nat → Bool) (hi : i ≤ n) : (bcells n h)[i]? = some (.bool (h i)) := by
  unfold bcells
  rw [List.getElem?_map, List.getElem?_range (by omega)]
  rfl
theorem bcells_len (n : Nat) (h : Nat → Bool) : (bcells n h).length = n + 1 := by simp [bcells]
theorem bcells_false (n : Nat) : List.replicate (n + 1) (Value.bool false) = bcells n fun _ => false := by
  unfold bcells
  apply List.ext_getElem <;> simp
theorem bcells_set {n i : Nat} (h : Nat → Bool) : (bcells n h).set i (.bool true) = bcells n fun j => if j = i then true else h j := by
  unfold bcells
  apply List.ext_getElem
  · simp
  · intro k h1 h2
    rw [List.getElem_set]
    simp only [List.getElem_map, List.getElem_range]
    by_cases e : i = k
    · subst e; simp
    · have e' : ¬ k = i := fun x => e x.symm
      rw [if_neg e, if_neg e']
def rcells (S n : Nat) (f : Nat → Nat) : List Value := (List.range S).map fun s => .slice (some ⟨f s, 0, none⟩) (n + 1) (n + 1)
theorem rcells_at {S n s : Nat} (f : Nat → Nat) (hs : s < S) : (rcells S n f)[s]? = some (.slice (some ⟨f s, 0, none⟩) (n + 1) (n + 1)) := by
  unfold rcells
  rw [List.getElem?_map, List.getElem?_range hs]
  rfl
theorem rcells_next (S n t : Nat) (f : Nat → Nat) : rcells S n f ++ [.slice (some ⟨t, 0, none⟩) (n + 1) (n + 1)] = rcells (S + 1) n fun s => if s = S then t else f s := by
  unfold rcells
  rw [List.range_succ, List.map_append]
  congr 1
  · apply List.map_congr_left
    intro s hs
    rw [List.mem_range] at hs
    have e : ¬ s = S := by omega
    simp only [e, if_false]
  · simp

structure Grid (w : World) (base : Nat) (v : Value) (S n : Nat) (f : Nat → Nat) (g : Nat → Nat → Bool) : Prop where
  row : looseRow w base 31 1 v S (rcells S n f)
  cells : ∀ s, s < S → Owns w (f s) (bcells n (g s)) 4
  lo : ∀ s, s < S → base ≤ f s
  inj : ∀ s s', s < S → s' < S → f s = f s' → s = s'

section
variable {w w' : World} {base S n : Nat} {v : Value} {f : Nat → Nat} {g : Nat → Nat → Bool}
theorem loose_move {e size k : Nat} {xs : List Value} (h : looseRow w base e size v k xs) (hm : ∀ (b : Nat) (cs : Array Value), w.heap[b]? = some (Obj.cells cs e (0, 0)) → w'.heap[b]? = w.heap[b]?) : looseRow w' base e size v k xs := by
  refine ⟨h.1, h.2.imp id ?_⟩
  rintro ⟨b, cap, cur, h1, h2, h3, h4⟩
  exact ⟨b, cap, cur, h1, h2, (hm b cur h3).trans h3, h4⟩
theorem Grid.nil (w : World) (base n : Nat) (f : Nat → Nat) (g : Nat → Nat → Bool) : Grid w base (.slice none 0 0) 0 n f g :=
  ⟨⟨rfl, .inl ⟨rfl, rfl⟩⟩, fun s h => absurd h (by omega), fun s h => absurd h (by omega), fun s s' h => absurd h (by omega)⟩
theorem Grid.move (h : Grid w base v S n f g) (hm : ∀ (b : Nat) (cs : Array Value), w.heap[b]? = some (Obj.cells cs 31 (0, 0)) → w'.heap[b]? = w.heap[b]?) (hc : ∀ s, s < S → w'.heap[f s]? = w.heap[f s]?) : Grid w' base v S n f g :=
  ⟨loose_move h.row hm, fun s hs => (hc s hs).trans (h.cells s hs), h.lo, h.inj⟩
theorem Grid.keep (h : Grid w base v S n f g) (hg : Grew w w') : Grid w' base v S n f g :=
  h.move (fun b _ hb => hg.block b (Array.getElem?_eq_some_iff.1 hb).1) fun s hs => hg.block _ (h.cells s hs).lt
/-- another block is written -/
theorem Grid.other (h : Grid w base v S n f g) {a : Addr} {cs : List Value} {T : Nat} (ho : Owns w a.block cs T) (hT : T ≠ 31) (hn : ∀ s, s < S → f s ≠ a.block) (x : Value) : Grid (w.setCell a x) base v S n f g :=
  h.move (fun b cs' hb => put_heap fun e => by
    subst e
    unfold Owns at ho
    rw [ho] at hb
    simp only [Option.some.injEq, Obj.cells.injEq] at hb
    exact hT hb.2.1) fun s hs => put_heap fun e => hn s hs e.symm
theorem Grid.cell (h : Grid w base v S n f g) {s i : Nat} (hs : s < S) (hi : i ≤ n) : w.cell? ⟨f s, i, none⟩ = some (.bool (g s i)) := (h.cells s hs).cell_at (bcells_at _ hi)
theorem Grid.at (h : Grid w base v S n f g) {s : Nat} (hs : s < S) : ∃ b cap, v = .slice (some ⟨b, 0, none⟩) S cap ∧ b < w.heap.size ∧ ∀ s, s < S → w.cell? ⟨b, s, none⟩ = some (.slice (some ⟨f s, 0, none⟩) (n + 1) (n + 1)) := by
  rcases h.row.2 with ⟨_, h0⟩ | ⟨b, cap, cur, h1, h2, h3, h4⟩
  · omega
  · exact ⟨b, cap, h1, (Array.getElem?_eq_some_iff.1 h3).1, fun s hs => looseRow_cells h.row (g := b) (by rw [h1]; rfl) s _ (rcells_at f hs)⟩
theorem Grid.form (h : Grid w base v S n f g) : ∃ a cap, v = .slice a S cap := by
  rcases h.row.2 with ⟨h1, h0⟩ | ⟨b, cap, cur, h1, h2, h3, h4⟩
  · exact ⟨none, 0, by rw [h1, h0]⟩
  · exact ⟨_, cap, h1⟩
/-- one of its cells is written -/
theorem Grid.put (h : Grid w base v S n f g) {s i : Nat} (hs : s < S) : Grid (w.setCell ⟨f s, i, none⟩ (.bool true)) base v S n f (upd2 g s i) := by
  have ho := h.cells s hs
  refine ⟨loose_move h.row fun b cs hb => put_heap fun e => ?_, fun s' hs' => ?_, h.lo, h.inj⟩
  · have e : f s = b := e
    subst e
    unfold Owns at ho
    rw [ho] at hb
    simp only [Option.some.injEq, Obj.cells.injEq] at hb
    exact absurd hb.2.1 (by decide)
  · by_cases e : s' = s
    · subst e
      have := ho.set i (.bool true)
      rw [bcells_set] at this
      have he : (fun j => if j = i then true else g s' j) = upd2 g s' i s' := by
        funext j
        unfold upd2
        simp
      rwa [he] at this
    · have he : upd2 g s i s' = g s' := by
        funext j
        exact upd2_ne fun x => e x.1
      rw [he]
      exact (h.cells s' hs').other (by show f s ≠ f s'; exact fun x => e (h.inj _ _ hs' hs x.symm)) _
theorem Grid.congr (h : Grid w base v S n f g) {g' : Nat → Nat → Bool} (he : ∀ s, s < S → ∀ i, i ≤ n → g s i = g' s i) : Grid w base v S n f g' :=
  ⟨h.row, fun s hs => by
    have : bcells n (g' s) = bcells n (g s) := by
      unfold bcells
      apply List.map_congr_left
      intro i hi
      rw [List.mem_range] at hi
      rw [he s hs i (by omega)]
    rw [this]
    exact h.cells s hs, h.lo, h.inj⟩
/-- a row more -/
theorem Grid.next (h : Grid w base v S n f g) {v' : Value} {t : Nat} {b : Nat → Bool} (hg : w.grownBy w' v.ownBlock) (hr : looseRow w' base 31 1 v' (S + 1) (rcells S n f ++ [.slice (some ⟨t, 0, none⟩) (n + 1) (n + 1)])) (ht : Owns w' t (bcells n b) 4) (hb : base ≤ t) (hn : ∀ s, s < S → f s ≠ t) :
    Grid w' base v' (S + 1) n (fun s => if s = S then t else f s) (fun s => if s = S then b else g s) := by
  rw [rcells_next] at hr
  refine ⟨hr, fun s hs => ?_, fun s hs => ?_, fun s s' hs hs' e => ?_⟩
  · by_cases e : s = S
    · simpa [e] using ht
    · have hs' : s < S := by omega
      have ho := h.cells s hs'
      simp only [e, if_false]
      unfold Owns at *
      rw [hg.block _ (Array.getElem?_eq_some_iff.1 ho).1 (fun e2 => ?_)]
      · exact ho
      · obtain ⟨_, cs, h2⟩ := row_own h.row e2.symm
        rw [h2] at ho
        simp only [Option.some.injEq, Obj.cells.injEq] at ho
        exact absurd ho.2.1 (by decide)
  · by_cases e : s = S
    · simpa [e] using hb
    · simpa [e] using h.lo s (by omega)
  · by_cases e1 : s = S
    · by_cases e2 : s' = S
      · omega
      · simp only [e1, e2, if_true, if_false] at e
        exact absurd e.symm (hn s' (by omega))
    · by_cases e2 : s' = S
      · simp only [e1, e2, if_true, if_false] at e
        exact absurd e (hn s (by omega))
      · simp only [e1, e2, if_false] at e
        exact h.inj _ _ (by omega) (by omega) e
end

theorem grew_put {W w : World} {b : Nat} (h : Grew W w) (hb : W.heap.size ≤ b) (i : Nat) (v : Value) : Grew W (w.setCell ⟨b, i, none⟩ v) := Below.setCell h (p := ⟨b, i, none⟩) hb v
/-- a table of the call's own, and all that was there -/
structure WSt (W w : World) (v : Value) (S n : Nat) (f : Nat → Nat) (g : Nat → Nat → Bool) : Prop where
  gr : Grid w W.heap.size v S n f g
  low : Grew W w
theorem WSt.keep {W w w' : World} {v : Value} {S n : Nat} {f : Nat → Nat} {g : Nat → Nat → Bool} (h : WSt W w v S n f g) (hg : Grew w w') : WSt W w' v S n f g := ⟨h.gr.keep hg, h.low.trans hg⟩
theorem WSt.put {W w : World} {v : Value} {S n s : Nat} {f : Nat → Nat} {g : Nat → Nat → Bool} (h : WSt W w v S n f g) (hs : s < S) (i : Nat) : WSt W (w.setCell ⟨f s, i, none⟩ (.bool true)) v S n f (upd2 g s i) := ⟨h.gr.put hs, grew_put h.low (h.gr.lo s hs) i _⟩
theorem WSt.other {W w : World} {v x : Value} {S n b i : Nat} {f : Nat → Nat} {g : Nat → Nat → Bool} {cs : List Value} (h : WSt W w v S n f g) (ho : Owns w b cs 4) (hb : W.heap.size ≤ b) (hn : ∀ s, s < S → f s ≠ b) : WSt W (w.setCell ⟨b, i, none⟩ x) v S n f g :=
  ⟨h.gr.other (a := ⟨b, i, none⟩) ho (by decide) hn x, grew_put h.low hb i x⟩
theorem grew_own {W w w' : World} {e size k : Nat} {v : Value} {xs : List Value} (h : Grew W w) (hr : looseRow w W.heap.size e size v k xs) (hg : w.grownBy w' v.ownBlock) : Grew W w' :=
  ⟨hg.os.trans h.os, hg.tape.trans h.tape, hg.output.trans h.output, Nat.le_trans h.size hg.size, fun i hi => by
    rw [hg.block i (Nat.lt_of_lt_of_le hi h.size) (fun e => by have := (row_own hr e.symm).1; omega)]
    exact h.block i hi⟩
theorem owns_grown {w w' : World} {base b e size k T : Nat} {v : Value} {cs xs : List Value} (ho : Owns w b cs T) (hr : looseRow w base e size v k xs) (hT : T ≠ e) (hg : w.grownBy w' v.ownBlock) : Owns w' b cs T := by
  unfold Owns at *
  rw [hg.block b (Array.getElem?_eq_some_iff.1 ho).1 (fun e2 => ?_)]
  · exact ho
  · obtain ⟨_, cs', h2⟩ := row_own hr e2.symm
    rw [h2] at ho
    simp only [Option.some.injEq, Obj.cells.injEq] at ho
    exact hT ho.2.1.symm

/-! ### a net as the document has it -/
def REdgesAt (W : World) (lim : Nat) (a : Option Addr) (l : List Edg) : Prop := ∀ k (h : k < l.length), ∃ b off, a = some ⟨b, off, none⟩ ∧ b < lim ∧
  W.cell? ⟨b, off + k * 3, none⟩ = some (.int .i64 l[k].kind) ∧ W.cell? ⟨b, off + k * 3 + 1, none⟩ = some (.int .i64 l[k].what) ∧ W.cell? ⟨b, off + k * 3 + 2, none⟩ = some (.int .i64 l[k].to)
def RSttAt (W : World) (lim : Nat) (c0 c1 c2 : Option Value) (s : Sta) : Prop :=
  c0 = some (.int .i64 s.rule) ∧ (∃ a cap, c1 = some (.slice a s.edges.length cap) ∧ REdgesAt W lim a s.edges) ∧ ∃ a cap, c2 = some (.slice a s.ends.length cap) ∧ IntsAt W lim a s.ends
def RStatesAt (W : World) (lim : Nat) (a : Option Addr) (l : List Sta) : Prop := ∀ k (h : k < l.length), ∃ b off, a = some ⟨b, off, none⟩ ∧ b < lim ∧
  RSttAt W lim (W.cell? ⟨b, off + k * 3, none⟩) (W.cell? ⟨b, off + k * 3 + 1, none⟩) (W.cell? ⟨b, off + k * 3 + 2, none⟩) l[k]
structure RNetAt (W : World) (lim : Nat) (v0 v1 v2 v3 v4 : Value) (N : Net) : Prop where
  states : ∃ a cap, v0 = .slice a N.states.length cap ∧ RStatesAt W lim a N.states
  starts : IntsV W lim v1 N.starts
  stops : IntsV W lim v2 N.stops
  preds : IntsV W lim v3 N.preds
  decisions : IntsV W lim v4 N.decisions
section
variable {W W' : World} {lim : Nat}
theorem REdgesAt.keep (hb : Below lim W W') {a : Option Addr} {l : List Edg} (h : REdgesAt W lim a l) : REdgesAt W' lim a l := fun k hk => by
  obtain ⟨b, off, h1, h2, h3, h4, h5⟩ := h k hk
  exact ⟨b, off, h1, h2, by rw [hb.cell h2]; exact h3, by rw [hb.cell h2]; exact h4, by rw [hb.cell h2]; exact h5⟩
theorem RSttAt.keep (hb : Below lim W W') {c0 c1 c2 : Option Value} {s : Sta} (h : RSttAt W lim c0 c1 c2 s) : RSttAt W' lim c0 c1 c2 s := by
  obtain ⟨h1, ⟨a, cap, h2, h3⟩, a', cap', h4, h5⟩ := h
  exact ⟨h1, ⟨a, cap, h2, h3.keep hb⟩, a', cap', h4, h5.keep hb⟩
theorem RStatesAt.keep (hb : Below lim W W') {a : Option Addr} {l : List Sta} (h : RStatesAt W lim a l) : RStatesAt W' lim a l := fun k hk => by
  obtain ⟨b, off, h1, h2, h3⟩ := h k hk
  have e : ∀ o, W'.cell? ⟨b, o, none⟩ = W.cell? ⟨b, o, none⟩ := fun o => hb.cell h2
  exact ⟨b, off, h1, h2, by rw [e, e, e]; exact h3.keep hb⟩
theorem RNetAt.keep (hb : Below lim W W') {v0 v1 v2 v3 v4 : Value} {N : Net} (h : RNetAt W lim v0 v1 v2 v3 v4 N) : RNetAt W' lim v0 v1 v2 v3 v4 N := by
  obtain ⟨⟨a, cap, h1, h2⟩, h3, h4, h5, h6⟩ := h
  exact ⟨⟨a, cap, h1, h2.keep hb⟩, h3.keep hb, h4.keep hb, h5.keep hb, h6.keep hb⟩
theorem REdgesAt.mono {lim' : Nat} (hl : lim ≤ lim') {a : Option Addr} {l : List Edg} (h : REdgesAt W lim a l) : REdgesAt W lim' a l := fun k hk => by
  obtain ⟨b, off, h1, h2, h3⟩ := h k hk
  exact ⟨b, off, h1, by omega, h3⟩
theorem RSttAt.mono {lim' : Nat} (hl : lim ≤ lim') {c0 c1 c2 : Option Value} {s : Sta} (h : RSttAt W lim c0 c1 c2 s) : RSttAt W lim' c0 c1 c2 s := by
  obtain ⟨h1, ⟨a, cap, h2, h3⟩, a', cap', h4, h5⟩ := h
  exact ⟨h1, ⟨a, cap, h2, h3.mono hl⟩, a', cap', h4, h5.mono hl⟩
theorem RNetAt.mono {lim' : Nat} (hl : lim ≤ lim') {v0 v1 v2 v3 v4 : Value} {N : Net} (h : RNetAt W lim v0 v1 v2 v3 v4 N) : RNetAt W lim' v0 v1 v2 v3 v4 N := by
  obtain ⟨⟨a, cap, h1, h2⟩, h3, h4, h5, h6⟩ := h
  refine ⟨⟨a, cap, h1, fun k hk => ?_⟩, h3.mono hl, h4.mono hl, h5.mono hl, h6.mono hl⟩
  obtain ⟨b, off, h7, h8, h9⟩ := h2 k hk
  exact ⟨b, off, h7, by omega, h9.mono hl⟩
end

/-! ### what rules take -/
/-- where the rows lie: of the ends of each rule, their cells, of all -/
structure TkLoc where
  lv : Nat → Value
  xf : Nat → Nat → Nat
  af : Nat → Nat
def lcells (R : Nat) (lv : Nat → Value) : List Value := (List.range R).map lv
structure TkAt (W : World) (base tb : Nat) (n0 n1 n2 n3 n4 wv ev av : Value) (R Q n : Nat) (L : TkLoc) (E : Nat → Nat → Nat → Bool) (A : Nat → Nat → Bool) : Prop where
  box : Owns W tb [n0, n1, n2, n3, n4, wv, ev, av] 126
  ends : looseRow W base 77 1 ev R (lcells R L.lv)
  l : ∀ r, r < R → Grid W base (L.lv r) (n + 1) n (L.xf r) (E r)
  a : Grid W base av Q n L.af A
  xx : ∀ r r' i i', r < R → r' < R → i ≤ n → i' ≤ n → r ≠ r' → L.xf r i ≠ L.xf r' i'
  xa : ∀ r r' i, r < R → r' < Q → i ≤ n → L.xf r i ≠ L.af r'
  la : ∀ r, r < R → ∀ b, (L.lv r).ownBlock = some b → av.ownBlock ≠ some b
section
variable {W W' : World} {base tb R Q n : Nat} {n0 n1 n2 n3 n4 wv ev av : Value} {L : TkLoc} {E : Nat → Nat → Nat → Bool} {A : Nat → Nat → Bool}
theorem lcells_at {R r : Nat} {lv : Nat → Value} (hr : r < R) : (lcells R lv)[r]? = some (lv r) := by
  unfold lcells
  rw [List.getElem?_map, List.getElem?_range hr]
  rfl
theorem lcells_next (R : Nat) (lv : Nat → Value) (x : Value) : lcells R lv ++ [x] = lcells (R + 1) fun r => if r = R then x else lv r := by
  unfold lcells
  rw [List.range_succ, List.map_append]
  congr 1
  · apply List.map_congr_left
    intro s hs
    rw [List.mem_range] at hs
    have e : ¬ s = R := by omega
    simp only [e, if_false]
  · simp
theorem TkAt.keep (h : TkAt W base tb n0 n1 n2 n3 n4 wv ev av R Q n L E A) (hg : Grew W W') : TkAt W' base tb n0 n1 n2 n3 n4 wv ev av R Q n L E A :=
  ⟨h.box.keep hg, loose_move h.ends fun b _ hb => hg.block b (Array.getElem?_eq_some_iff.1 hb).1, fun r hr => (h.l r hr).keep hg, h.a.keep hg, h.xx, h.xa, h.la⟩
/-- the ends of rule r behind i tokens, read -/
theorem TkAt.ends_at (h : TkAt W base tb n0 n1 n2 n3 n4 wv ev av R Q n L E A) {r : Nat} (hr : r < R) : ∃ b cap b' cap', ev = .slice (some ⟨b, 0, none⟩) R cap ∧ b < W.heap.size ∧ W.cell? ⟨b, r, none⟩ = some (.slice (some ⟨b', 0, none⟩) (n + 1) cap') ∧ b' < W.heap.size ∧
    ∀ i, i ≤ n → W.cell? ⟨b', i, none⟩ = some (.slice (some ⟨L.xf r i, 0, none⟩) (n + 1) (n + 1)) := by
  obtain ⟨b', cap', h1, h2, h3⟩ := (h.l r hr).at (s := 0) (by omega)
  rcases h.ends.2 with ⟨_, h0⟩ | ⟨b, cap, cur, k1, k2, k3, k4⟩
  · omega
  · refine ⟨b, cap, b', cap', k1, (Array.getElem?_eq_some_iff.1 k3).1, ?_, h2, fun i hi => h3 i (by omega)⟩
    have := looseRow_cells h.ends (g := b) (by rw [k1]; rfl) r _ (lcells_at hr)
    rw [this, h1]
theorem TkAt.evform (h : TkAt W base tb n0 n1 n2 n3 n4 wv ev av R Q n L E A) : ∃ a cap, ev = .slice a R cap := by
  rcases h.ends.2 with ⟨h1, h0⟩ | ⟨b, cap, cur, k1, k2, k3, k4⟩
  · exact ⟨none, 0, by rw [h1, h0]⟩
  · exact ⟨_, cap, k1⟩
/-- one of the ends is told -/
theorem TkAt.putE (h : TkAt W base tb n0 n1 n2 n3 n4 wv ev av R Q n L E A) {r i j : Nat} (hr : r < R) (hi : i ≤ n) : TkAt (W.setCell ⟨L.xf r i, j, none⟩ (.bool true)) base tb n0 n1 n2 n3 n4 wv ev av R Q n L (upd3 E r i j) A := by
  have ho := (h.l r hr).cells i (by omega)
  refine ⟨h.box.other (owns_ne ho h.box (by decide)) _, loose_move h.ends fun b cs hb => put_heap fun e => ?_, fun r' hr' => ?_, h.a.other ho (by decide) (fun s hs => fun e => h.xa r s i hr hs hi e.symm) _, h.xx, h.xa, h.la⟩
  · have e : L.xf r i = b := e
    subst e
    unfold Owns at ho
    rw [ho] at hb
    simp only [Option.some.injEq, Obj.cells.injEq] at hb
    exact absurd hb.2.1 (by decide)
  · by_cases e : r' = r
    · subst e
      have := (h.l r' hr').put (s := i) (i := j) (by omega)
      have he : upd2 (E r') i j = upd3 E r' i j r' := by
        funext i' j'
        unfold upd2 upd3
        simp
      rwa [he] at this
    · have he : upd3 E r i j r' = E r' := by
        funext i' j'
        unfold upd3
        rw [if_neg fun x => e x.1]
      rw [he]
      exact (h.l r' hr').other ho (by decide) (fun s hs => h.xx r' r s i hr' hr (by omega) hi e) _
theorem TkAt.putA (h : TkAt W base tb n0 n1 n2 n3 n4 wv ev av R Q n L E A) {r i : Nat} (hr : r < Q) : TkAt (W.setCell ⟨L.af r, i, none⟩ (.bool true)) base tb n0 n1 n2 n3 n4 wv ev av R Q n L E (upd2 A r i) := by
  have ho := h.a.cells r hr
  refine ⟨h.box.other (owns_ne ho h.box (by decide)) _, loose_move h.ends fun b cs hb => put_heap fun e => ?_, fun r' hr' => ?_, h.a.put hr, h.xx, h.xa, h.la⟩
  · have e : L.af r = b := e
    subst e
    unfold Owns at ho
    rw [ho] at hb
    simp only [Option.some.injEq, Obj.cells.injEq] at hb
    exact absurd hb.2.1 (by decide)
  · exact (h.l r' hr').other ho (by decide) (fun s hs => h.xa r' r s hr' hr (by omega)) _

/-- a row of another type has grown -/
theorem Grid.grown {w w' : World} {b2 e size k S m : Nat} {v v' : Value} {xs : List Value} {f : Nat → Nat} {g : Nat → Nat → Bool} (h : Grid w base v S m f g) (hr : looseRow w b2 e size v' k xs) (hg : w.grownBy w' v'.ownBlock) (he : e ≠ 4) (hn : e ≠ 31 ∨ ∀ b, v.ownBlock = some b → v'.ownBlock ≠ some b) : Grid w' base v S m f g := by
  have far : ∀ b cs T, w.heap[b]? = some (Obj.cells cs T (0, 0)) → T ≠ e → w'.heap[b]? = w.heap[b]? := fun b cs T hb hT => hg.block b (Array.getElem?_eq_some_iff.1 hb).1 (fun e2 => by
    obtain ⟨_, cs', h2⟩ := row_own hr e2.symm
    rw [h2] at hb
    simp only [Option.some.injEq, Obj.cells.injEq] at hb
    exact hT hb.2.1.symm)
  rcases hn with hn | hn
  · exact h.move (fun b cs hb => far b cs _ hb hn.symm) fun s hs => far _ _ _ (h.cells s hs) he.symm
  · refine ⟨⟨h.row.1, h.row.2.imp id ?_⟩, fun s hs => (far _ _ _ (h.cells s hs) he.symm).trans (h.cells s hs), h.lo, h.inj⟩
    rintro ⟨b, cap, cur, h1, h2, h3, h4⟩
    exact ⟨b, cap, cur, h1, h2, (hg.block b (Array.getElem?_eq_some_iff.1 h3).1 (fun e2 => hn b (by rw [h1]; rfl) e2.symm)).trans h3, h4⟩
theorem Grid.weaken {w : World} {b2 S m : Nat} {v : Value} {f : Nat → Nat} {g : Nat → Nat → Bool} (h : Grid w base v S m f g) (hb : b2 ≤ base) : Grid w b2 v S m f g := by
  refine ⟨⟨h.row.1, h.row.2.imp id ?_⟩, h.cells, fun s hs => Nat.le_trans hb (h.lo s hs), h.inj⟩
  rintro ⟨b, cap, cur, h1, h2, h3⟩
  exact ⟨b, cap, cur, h1, Nat.le_trans hb h2, h3⟩
/-- the ends of a rule more -/
theorem TkAt.nextE (h : TkAt W base tb n0 n1 n2 n3 n4 wv ev av R Q n L E A) {W1 : World} {ev' lnew : Value} {xnew : Nat → Nat} (hg : W.grownBy W1 ev.ownBlock) (hr : looseRow W1 base 77 1 ev' (R + 1) (lcells R L.lv ++ [lnew])) (hl : Grid W base lnew (n + 1) n xnew (E R))
    (hx : ∀ r i i', r < R → i ≤ n → i' ≤ n → L.xf r i ≠ xnew i') (ha : ∀ r i', r < Q → i' ≤ n → L.af r ≠ xnew i') (hla : ∀ b, lnew.ownBlock = some b → av.ownBlock ≠ some b) :
    TkAt (W1.setCell ⟨tb, 6, none⟩ ev') base tb n0 n1 n2 n3 n4 wv ev' av (R + 1) Q n ⟨fun r => if r = R then lnew else L.lv r, fun r => if r = R then xnew else L.xf r, L.af⟩ E A := by
  have hbox : Owns W1 tb [n0, n1, n2, n3, n4, wv, ev, av] 126 := owns_grown h.box h.ends (by decide) hg
  have hb : Owns W1 (⟨tb, 6, none⟩ : Addr).block [n0, n1, n2, n3, n4, wv, ev, av] 126 := hbox
  rw [lcells_next] at hr
  have gp : ∀ {v S f g}, Grid W base v S n f g → Grid (W1.setCell ⟨tb, 6, none⟩ ev') base v S n f g := fun hG => (hG.grown h.ends hg (by decide) (.inl (by decide))).other hb (by decide) (fun s hs => owns_ne ((hG.grown h.ends hg (by decide) (.inl (by decide))).cells s hs) hbox (by decide)) _
  refine ⟨hbox.set 6 ev', loose_move hr fun b cs hb2 => put_heap fun e => ?_, fun r hr' => ?_, gp h.a, fun r r' i i' h1 h2 h3 h4 h5 => ?_, fun r r' i h1 h2 h3 => ?_, fun r h1 b hb2 => ?_⟩
  · have e : tb = b := e
    subst e
    unfold Owns at hbox
    rw [hbox] at hb2
    simp only [Option.some.injEq, Obj.cells.injEq] at hb2
    exact absurd hb2.2.1 (by decide)
  · by_cases e : r = R
    · subst e
      simpa using gp hl
    · simpa [e] using gp (h.l r (by omega))
  · by_cases e1 : r = R
    · by_cases e2 : r' = R
      · omega
      · simp only [e1, e2, if_true, if_false]
        exact fun e => hx r' i' i (by omega) h4 h3 e.symm
    · by_cases e2 : r' = R
      · simp only [e1, e2, if_true, if_false]
        exact hx r i i' (by omega) h3 h4
      · simp only [e1, e2, if_false]
        exact h.xx r r' i i' (by omega) (by omega) h3 h4 h5
  · by_cases e1 : r = R
    · simp only [e1, if_true]
      exact fun e => ha r' i h2 h3 e.symm
    · simp only [e1, if_false]
      exact h.xa r r' i (by omega) h2 h3
  · by_cases e1 : r = R
    · simp only [e1, if_true] at hb2
      exact hla b hb2
    · simp only [e1, if_false] at hb2
      exact h.la r (by omega) b hb2
/-- whether all are taken, of a rule more -/
theorem TkAt.nextA (h : TkAt W base tb n0 n1 n2 n3 n4 wv ev av R Q n L E A) {W1 : World} {av' : Value} {t gb : Nat} (hg : W.grownBy W1 av.ownBlock) (hr : looseRow W1 base 31 1 av' (Q + 1) (rcells Q n L.af ++ [.slice (some ⟨t, 0, none⟩) (n + 1) (n + 1)])) (ht : Owns W t (bcells n (A Q)) 4) (hb : base ≤ t)
    (hx : ∀ r i, r < R → i ≤ n → L.xf r i ≠ t) (ha : ∀ r, r < Q → L.af r ≠ t) (hgb : av'.ownBlock = some gb) (hat : av.ownBlock = some gb ∨ gb = W.heap.size) :
    TkAt (W1.setCell ⟨tb, 7, none⟩ av') base tb n0 n1 n2 n3 n4 wv ev av' R (Q + 1) n ⟨L.lv, L.xf, fun r => if r = Q then t else L.af r⟩ E A := by
  have hbox : Owns W1 tb [n0, n1, n2, n3, n4, wv, ev, av] 126 := owns_grown h.box h.a.row (by decide) hg
  have hb2 : Owns W1 (⟨tb, 7, none⟩ : Addr).block [n0, n1, n2, n3, n4, wv, ev, av] 126 := hbox
  have ht1 := owns_grown ht h.a.row (by decide) hg
  have hA := h.a.next hg hr ht1 hb ha
  have hA2 : Grid W1 base av' (Q + 1) n (fun s => if s = Q then t else L.af s) A := hA.congr fun s hs i hi => by
    by_cases e : s = Q
    · subst e; simp
    · simp [e]
  have gp : ∀ {v S f g}, Grid W1 base v S n f g → Grid (W1.setCell ⟨tb, 7, none⟩ av') base v S n f g := fun hG => hG.other hb2 (by decide) (fun s hs => owns_ne (hG.cells s hs) hbox (by decide)) _
  refine ⟨hbox.set 7 av', ?_, fun r hr' => gp ((h.l r hr').grown h.a.row hg (by decide) (.inr (h.la r hr'))), gp hA2, h.xx, fun r r' i h1 h2 h3 => ?_, fun r h1 b hb3 => ?_⟩
  · refine loose_move (loose_move h.ends fun b cs hb3 => hg.block b (Array.getElem?_eq_some_iff.1 hb3).1 fun e => ?_) fun b cs hb3 => put_heap fun e => ?_
    · obtain ⟨_, cs', h2⟩ := row_own h.a.row e.symm
      rw [h2] at hb3
      simp only [Option.some.injEq, Obj.cells.injEq] at hb3
      exact absurd hb3.2.1 (by decide)
    · have e : tb = b := e
      subst e
      unfold Owns at hbox
      rw [hbox] at hb3
      simp only [Option.some.injEq, Obj.cells.injEq] at hb3
      exact absurd hb3.2.1 (by decide)
  · by_cases e1 : r' = Q
    · simp only [e1, if_true]
      exact hx r i h1 h3
    · simp only [e1, if_false]
      exact h.xa r r' i h1 (by omega) h3
  · rw [hgb]
    intro e
    cases e
    rcases hat with hat | hat
    · exact h.la r h1 _ hb3 hat
    · obtain ⟨_, cs', h2⟩ := row_own (h.l r h1).row hb3
      have := (Array.getElem?_eq_some_iff.1 h2).1
      omega
end
end Go.Proofs.Ytgdcnndmdgcjlaa
