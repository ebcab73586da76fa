/- Rows of edges, states and integers of the call's own; slices.Clone, slices.Clip. -/
import Derived.Test.YtogmlonhciiomaaDoorPrFine
import Derived.Test.YtogmlonhciiomaaDoorPRow
import Derived.Lib.Walk
import Derived.Lib.SliceRun
namespace Go.Proofs.YtogmlonhciiomaaDoor
open Go.RowKit

theorem flat_len {α β : Type} (f : α → List β) (k : Nat) (hk : ∀ x, (f x).length = k) : ∀ l : List α, (l.flatMap f).length = l.length * k
  | [] => by simp
  | x :: l => by rw [List.flatMap_cons, List.length_append, hk, flat_len f k hk l, List.length_cons, Nat.succ_mul]; omega
theorem flat_get {α β : Type} (f : α → List β) (k : Nat) (hk : ∀ x, (f x).length = k) : ∀ (l : List α) (i j : Nat), j < k → (l.flatMap f)[i * k + j]? = (l[i]?).bind fun x => (f x)[j]?
  | [], i, j, _ => by simp
  | x :: l, 0, j, hj => by
    rw [List.flatMap_cons, Nat.zero_mul, Nat.zero_add, List.getElem?_append_left (by rw [hk]; exact hj)]
    simp
  | x :: l, i + 1, j, hj => by
    rw [List.flatMap_cons, List.getElem?_append_right (by rw [hk, Nat.succ_mul]; omega), hk, show (i + 1) * k + j - k = i * k + j by rw [Nat.succ_mul]; omega, flat_get f k hk l i j hj]
    simp
theorem flat_set {α β : Type} (f : α → List β) (k : Nat) (hk : ∀ x, (f x).length = k) : ∀ (l : List α) (i j : Nat) (x y : α) (v : β), l[i]? = some x → j < k → f y = (f x).set j v → (l.flatMap f).set (i * k + j) v = (l.set i y).flatMap f
  | [], _, _, _, _, _, h, _, _ => by simp at h
  | z :: l, 0, j, x, y, v, h, hj, he => by
    simp only [List.getElem?_cons_zero, Option.some.injEq] at h
    subst h
    rw [List.flatMap_cons, Nat.zero_mul, Nat.zero_add, List.set_append_left _ _ (by rw [hk]; exact hj), List.set_cons_zero, List.flatMap_cons, he]
  | z :: l, i + 1, j, x, y, v, h, hj, he => by
    simp only [List.getElem?_cons_succ] at h
    rw [List.flatMap_cons, List.set_append_right _ _ (by rw [hk, Nat.succ_mul]; omega), hk, show (i + 1) * k + j - k = i * k + j by rw [Nat.succ_mul]; omega, flat_set f k hk l i j x y v h hj he, List.set_cons_succ, List.flatMap_cons]
/-- each place of a flat list is one of a part -/
theorem flat_cut {α β : Type} (f : α → List β) (k : Nat) (hk : ∀ x, (f x).length = k) (l : List α) {p : Nat} {u : β} (h : (l.flatMap f)[p]? = some u) : ∃ i j x, p = i * k + j ∧ j < k ∧ l[i]? = some x ∧ (f x)[j]? = some u := by
  have hlt := (List.getElem?_eq_some_iff.1 h).1
  rw [flat_len f k hk] at hlt
  have hk0 : 0 < k := by
    rcases Nat.eq_zero_or_pos k with e | e
    · subst e; omega
    · exact e
  have e : p = p / k * k + p % k := by rw [Nat.mul_comm]; exact (Nat.div_add_mod p k).symm
  have hm := Nat.mod_lt p hk0
  rw [e, flat_get f k hk l _ _ hm] at h
  cases hx : l[p / k]? with
  | none => rw [hx] at h; cases h
  | some x => rw [hx] at h; exact ⟨_, _, x, e, hm, hx, h⟩

def intVs (l : List Int) : List Value := l.map (Value.int .i64)
def edF (e : Ed) : List Value := [.int .i64 e.tok, .int .i64 e.tgt]
def edVs (l : List Ed) : List Value := l.flatMap edF
def triF (x : Value × Value × Value) : List Value := [x.1, x.2.1, x.2.2]
def triVs (l : List (Value × Value × Value)) : List Value := l.flatMap triF
theorem edF_len (e : Ed) : (edF e).length = 2 := rfl
theorem triF_len (x : Value × Value × Value) : (triF x).length = 3 := rfl
theorem edVs_len (l : List Ed) : (edVs l).length = l.length * 2 := flat_len _ _ edF_len l
theorem triVs_len (l : List (Value × Value × Value)) : (triVs l).length = l.length * 3 := flat_len _ _ triF_len l
theorem edVs_one {l : List Ed} : ∀ u ∈ edVs l, u.oneCell' = true := by
  intro u hu
  obtain ⟨e, _, he⟩ := List.mem_flatMap.1 hu
  simp only [edF, List.mem_cons, List.not_mem_nil, or_false] at he
  rcases he with rfl | rfl <;> rfl

/-- where the cells are -/
def CellsIn (W : World) (lim : Nat) (a : Addr) (cs : List Value) : Prop := ∀ j u, cs[j]? = some u → a.block < lim ∧ W.cell? (a.add j) = some u
theorem cells_ints {W : World} {lim : Nat} {a : Addr} {l : List Int} (h : IntsAt W lim (some a) l) : CellsIn W lim a (intVs l) := by
  intro j u hj
  simp only [intVs, List.getElem?_map, Option.map_eq_some_iff] at hj
  obtain ⟨x, hx, rfl⟩ := hj
  obtain ⟨hlt, rfl⟩ := List.getElem?_eq_some_iff.1 hx
  obtain ⟨b, off, e, h1, h2⟩ := h j hlt
  obtain rfl := Option.some.inj e
  exact ⟨h1, by rw [Addr.add_lit]; exact h2⟩
theorem cells_eds {W : World} {lim : Nat} {a : Addr} {l : List Ed} (h : EdsAt W lim (some a) l) : CellsIn W lim a (edVs l) := by
  intro p u hp
  obtain ⟨i, j, x, rfl, hj, hx, hu⟩ := flat_cut _ _ edF_len l hp
  obtain ⟨hlt, rfl⟩ := List.getElem?_eq_some_iff.1 hx
  obtain ⟨b, off, e, h1, h2, h3⟩ := h i hlt
  obtain rfl := Option.some.inj e
  refine ⟨h1, ?_⟩
  rw [Addr.add_lit]
  match j, hj with
  | 0, _ => simp only [edF, List.getElem?_cons_zero, Option.some.injEq] at hu; subst hu; exact h2
  | 1, _ => simp only [edF, List.getElem?_cons_succ, List.getElem?_cons_zero, Option.some.injEq] at hu; subst hu; exact h3
/-- a state's three values -/
def StsIn (K : IntKind) (W : World) (lim : Nat) (vs : List (Value × Value × Value)) (l : Aut) : Prop := vs.length = l.length ∧ ∀ k (h : k < l.length) (h' : k < vs.length), SttV K W lim vs[k].1 vs[k].2.1 vs[k].2.2 l[k]
theorem StsIn.keep {K : IntKind} {W W' : World} {lim : Nat} {vs : List (Value × Value × Value)} {l : Aut} (h : StsIn K W lim vs l) (hb : Below lim W W') : StsIn K W' lim vs l := ⟨h.1, fun k a b => (h.2 k a b).keep hb⟩
theorem StsIn.mono {K : IntKind} {W : World} {lim lim' : Nat} {vs : List (Value × Value × Value)} {l : Aut} (h : StsIn K W lim vs l) (hl : lim ≤ lim') : StsIn K W lim' vs l := ⟨h.1, fun k a b => (h.2 k a b).mono hl⟩
theorem triVs_one {K : IntKind} {W : World} {lim : Nat} {vs : List (Value × Value × Value)} {l : Aut} (h : StsIn K W lim vs l) : ∀ u ∈ triVs vs, u.oneCell' = true := by
  intro u hu
  obtain ⟨x, hx, he⟩ := List.mem_flatMap.1 hu
  obtain ⟨k, hk, rfl⟩ := List.mem_iff_getElem.1 hx
  obtain ⟨h1, ⟨a, c, h2, _⟩, a', c', h3, _⟩ := h.2 k (by rw [← h.1]; exact hk) hk
  simp only [triF, List.mem_cons, List.not_mem_nil, or_false] at he
  rcases he with rfl | rfl | rfl
  · rw [h1]; rfl
  · rw [h2]; rfl
  · rw [h3]; rfl
/-- the three values of each state of an automaton in memory -/
theorem AutV.tri {K : IntKind} {W : World} {lim : Nat} {a : Option Addr} {l : Aut} (h : StsAt K W lim a l) : ∃ vs, StsIn K W lim vs l ∧ ∀ ad, a = some ad → CellsIn W lim ad (triVs vs) := by
  let pick : Nat → Value × Value × Value := fun k => if hk : k < l.length then ⟨(h k hk).choose_spec.choose_spec.choose, (h k hk).choose_spec.choose_spec.choose_spec.choose, (h k hk).choose_spec.choose_spec.choose_spec.choose_spec.choose⟩ else ⟨undef, undef, undef⟩
  have spec : ∀ k (hk : k < l.length), ∃ b off, a = some ⟨b, off, none⟩ ∧ b < lim ∧ W.cell? ⟨b, off + k * 3, none⟩ = some (pick k).1 ∧ W.cell? ⟨b, off + k * 3 + 1, none⟩ = some (pick k).2.1 ∧ W.cell? ⟨b, off + k * 3 + 2, none⟩ = some (pick k).2.2 ∧ SttV K W lim (pick k).1 (pick k).2.1 (pick k).2.2 l[k] := by
    intro k hk
    have e : pick k = ⟨(h k hk).choose_spec.choose_spec.choose, (h k hk).choose_spec.choose_spec.choose_spec.choose, (h k hk).choose_spec.choose_spec.choose_spec.choose_spec.choose⟩ := dif_pos hk
    rw [e]
    exact ⟨_, _, (h k hk).choose_spec.choose_spec.choose_spec.choose_spec.choose_spec⟩
  refine ⟨(List.range l.length).map pick, ⟨by simp, fun k hk hk' => ?_⟩, ?_⟩
  · simp only [List.getElem_map, List.getElem_range]
    obtain ⟨_, _, _, _, _, _, _, s⟩ := spec k hk
    exact s
  · rintro ad rfl p u hp
    obtain ⟨i, j, x, rfl, hj, hx, hu⟩ := flat_cut _ _ triF_len _ hp
    have hi : i < l.length := by have := (List.getElem?_eq_some_iff.1 hx).1; simpa using this
    simp only [List.getElem?_map, List.getElem?_range hi, Option.map_some, Option.some.injEq] at hx
    subst hx
    obtain ⟨b, off, e, h1, h2, h3, h4, _⟩ := spec i hi
    obtain rfl := Option.some.inj e
    refine ⟨h1, ?_⟩
    rw [Addr.add_lit]
    match j, hj with
    | 0, _ => simp only [triF, List.getElem?_cons_zero, Option.some.injEq] at hu; subst hu; exact h2
    | 1, _ => simp only [triF, List.getElem?_cons_succ, List.getElem?_cons_zero, Option.some.injEq] at hu; subst hu; exact h3
    | 2, _ => simp only [triF, List.getElem?_cons_succ, List.getElem?_cons_zero, Option.some.injEq] at hu; subst hu; exact h4

/-! ### rows as slices that are read -/
theorem row_cells {W : World} {base : Nat} {e : TypeId} {size : Nat} {v : Value} {n : Nat} {xs : List Value} (h : looseRow W base e size v n xs) : (v = .slice none 0 0 ∧ n = 0) ∨ ∃ g cap, v = .slice (some ⟨g, 0, none⟩) n cap ∧ n ≤ cap ∧ base ≤ g ∧ g < W.heap.size ∧ ∀ j u, xs[j]? = some u → W.cell? ⟨g, j, none⟩ = some u := by
  rcases h.2 with h' | ⟨g, cap, cur, rfl, h1, h2, h3, _⟩
  · exact .inl h'
  · exact .inr ⟨g, cap, rfl, h3, h1, (Array.getElem?_eq_some_iff.1 h2).1, looseRow_cells h rfl⟩
theorem ints_of_row {W : World} {base : Nat} {v : Value} {l : List Int} (h : looseRow W base 3 1 v l.length (intVs l)) : IntsV W W.heap.size v l := by
  rcases row_cells h with ⟨rfl, h0⟩ | ⟨g, cap, rfl, hc, _, hg, hcell⟩
  · have : l = [] := List.eq_nil_of_length_eq_zero h0
    subst this
    exact ⟨none, 0, rfl, Nat.le_refl _, fun k hk => absurd hk (by simp)⟩
  · exact ⟨_, _, rfl, hc, fun k hk => ⟨g, 0, rfl, hg, by rw [Nat.zero_add]; exact hcell k _ (by simp [intVs, hk])⟩⟩
theorem eds_of_row {W : World} {base : Nat} {v : Value} {l : List Ed} (h : looseRow W base 53 2 v l.length (edVs l)) : EdsV W W.heap.size v l := by
  rcases row_cells h with ⟨rfl, h0⟩ | ⟨g, cap, rfl, hc, _, hg, hcell⟩
  · have : l = [] := List.eq_nil_of_length_eq_zero h0
    subst this
    exact ⟨none, 0, rfl, Nat.le_refl _, fun k hk => absurd hk (by simp)⟩
  · refine ⟨_, _, rfl, hc, fun k hk => ⟨g, 0, rfl, hg, ?_, ?_⟩⟩
    · rw [Nat.zero_add]; exact hcell _ _ (by have := flat_get _ _ edF_len l k 0 (by omega); simp only [Nat.add_zero] at this; unfold edVs; rw [this, List.getElem?_eq_getElem hk]; rfl)
    · rw [Nat.zero_add]; exact hcell _ _ (by unfold edVs; rw [flat_get _ _ edF_len l k 1 (by omega), List.getElem?_eq_getElem hk]; rfl)
theorem sts_of_row {K : IntKind} {W : World} {base T : Nat} {v : Value} {vs : List (Value × Value × Value)} {l : Aut} (h : looseRow W base T 3 v l.length (triVs vs)) (hs : StsIn K W W.heap.size vs l) : AutV K W W.heap.size v l := by
  have hlen := hs.1
  rcases row_cells h with ⟨rfl, h0⟩ | ⟨g, cap, rfl, hc, _, hg, hcell⟩
  · have : l = [] := List.eq_nil_of_length_eq_zero h0
    subst this
    exact ⟨none, 0, rfl, Nat.le_refl _, fun k hk => absurd hk (by simp)⟩
  · refine ⟨_, _, rfl, hc, fun k hk => ?_⟩
    have hk' : k < vs.length := by omega
    refine ⟨g, 0, _, _, _, rfl, hg, ?_, ?_, ?_, hs.2 k hk hk'⟩
    · rw [Nat.zero_add]; exact hcell _ _ (by have := flat_get _ _ triF_len vs k 0 (by omega); simp only [Nat.add_zero] at this; unfold triVs; rw [this, List.getElem?_eq_getElem hk']; rfl)
    · rw [Nat.zero_add]; exact hcell _ _ (by unfold triVs; rw [flat_get _ _ triF_len vs k 1 (by omega), List.getElem?_eq_getElem hk']; rfl)
    · rw [Nat.zero_add]; exact hcell _ _ (by unfold triVs; rw [flat_get _ _ triF_len vs k 2 (by omega), List.getElem?_eq_getElem hk']; rfl)
theorem looseRow.keep {W W' : World} {base : Nat} {e : TypeId} {size : Nat} {v : Value} {n : Nat} {xs : List Value} (h : looseRow W base e size v n xs) (hg : Grew W W') : looseRow W' base e size v n xs := by
  refine ⟨h.1, h.2.imp id ?_⟩
  rintro ⟨g, cap, cur, h1, h2, h3, h4⟩
  exact ⟨g, cap, cur, h1, h2, by rw [hg.block g (Array.getElem?_eq_some_iff.1 h3).1]; exact h3, h4⟩
theorem looseRow.base {W : World} {base base' : Nat} {e : TypeId} {size : Nat} {v : Value} {n : Nat} {xs : List Value} (h : looseRow W base e size v n xs) (hb : base' ≤ base) : looseRow W base' e size v n xs := by
  refine ⟨h.1, h.2.imp id ?_⟩
  rintro ⟨g, cap, cur, h1, h2, h3⟩
  exact ⟨g, cap, cur, h1, by omega, h3⟩

/-! ### Clone, Clip -/
theorem info_pEdge : (Tryd.prog.info? 53).map (fun i => (i.zero, i.size, i.bytes)) = some (some (.agg #[.int .i64 0, .int .i64 0]), 2, 16) := by kernel_rfl
theorem info_pState : (Tryd.prog.info? 51).map (fun i => (i.zero, i.size, i.bytes)) = some (some (.agg #[.int .u8 0, .slice none 0 0, .slice none 0 0]), 3, 56) := by kernel_rfl
/-- a copy in memory of the call's own -/
def Cloned (W : World) (e : TypeId) (size n : Nat) (cs : List Value) (r : Ending) (W' : World) : Prop := ∃ v', r = .returned v' ∧ looseRow W' W.heap.size e size v' n cs ∧ Grew W W'

set_option maxHeartbeats 2000000 in
set_option maxRecDepth 20000 in
theorem pcloneI_cells (n c : Nat) (cs : List Value) (hl : cs.length = n * 1) (h1 : ∀ u ∈ cs, u.oneCell' = true) (hn : n ≤ 1048576) (W : World) (a : Addr) (hc : CellsIn W W.heap.size a cs) :
    Calls Tryd.prog 24 #[.slice (some a) n c] W (Cloned W 3 1 n cs) := by
  obtain ⟨i0, hi, hz0, hz1, hz2⟩ := info_parts info_pint
  have q : ∀ (w : World) (a : Option Addr) (n c n' c' : Nat), (binOp .eql 26 (.slice a n c) (.slice none n' c')).run Tryd.prog w = .ok (.bool a.isNone) w := fun w a n c n' c' => Lib.run_eql_slice_nil w _ _ a n c n' c' Tryd.underlying26
  have HCS := Lib.hid hc
  have HL := Lib.hid hl
  have H1 := Lib.hid h1
  clear hc hl h1
  go_enter Tryd.func24, Tryd.ntmps24
  go_wp2_with (at_builtin; refine wpList_append_own _ rfl _ _ 26 rfl W.heap.size 3 i0 (.int .i64 0) 1 8 Tryd.underlying26 hi hz0 hz1 hz2 rfl (by decide) _ _ _ rfl (World.ownsRow_made W #[] 0 (Nat.le_refl _) (Nat.zero_le _) rfl) a n c cs rfl ?qc1 ?qc2 ?qc3 ?qc4 ?qc5 ?qc6 ?_)
  case qc1 => exact HL.out
  case qc2 =>
    intro j u hj
    exact Lib.cell?_alloc_some _ (HCS.out j u hj).2
  case qc3 => exact H1.out
  case qc4 => unfold maxLen; omega
  case qc5 => omega
  case qc6 => simp
  intro v' w1 hown hgrow hnil
  go_wp2_with fail
  go_ret
  refine ⟨v', rfl, looseRow_of (by simpa using hown), ?_⟩
  exact ((Below.refl _ W).alloc (Nat.le_refl _) _).grown hgrow (by simp) (by intro k hk; simp [Value.ownBlock] at hk; omega)
theorem pcloneI_nil (n c : Nat) (W : World) : Calls Tryd.prog 24 #[.slice none n c] W fun e W' => e = .returned (.slice none 0 0) ∧ W' = W := by
  have q : ∀ (w : World) (a : Option Addr) (n c n' c' : Nat), (binOp .eql 26 (.slice a n c) (.slice none n' c')).run Tryd.prog w = .ok (.bool a.isNone) w := fun w a n c n' c' => Lib.run_eql_slice_nil w _ _ a n c n' c' Tryd.underlying26
  go_enter Tryd.func24, Tryd.ntmps24
  go_wp2
  go_ret
  exact ⟨rfl, rfl⟩
theorem pclipI_ok (W : World) (base n : Nat) (v : Value) (cs : List Value) (hn : n ≤ 1048576) (h : looseRow W base 3 1 v n cs) :
    Calls Tryd.prog 23 #[v] W (fun e W' => (∃ u, e = .returned u ∧ looseRow W base 3 1 u n cs ∧ u.ownBlock = v.ownBlock) ∧ W = W') := by
  rcases h.2 with ⟨rfl, rfl⟩ | ⟨b, cap, cur, rfl, h1, h2, h3, h4, h5, h6⟩
  · have HL : Hid (looseRow W base 3 1 (.slice none 0 0) 0 cs) := Lib.hid h
    clear h
    go_enter Tryd.func23, Tryd.ntmps23
    go_wp2
    go_ret
    exact ⟨⟨_, rfl, HL.out, rfl⟩, rfl⟩
  · have HL : Hid (looseRow W base 3 1 (.slice (some ⟨b, 0, none⟩) n n) n cs) := ⟨h.1, .inr ⟨b, _, cur, rfl, h1, h2, Nat.le_refl _, Nat.le_trans h3 h4, Nat.le_trans (Nat.mul_le_mul_right _ h3) h5, h6⟩⟩
    unfold maxLen at h4
    clear h h2 h5 h6
    go_enter Tryd.func23, Tryd.ntmps23
    go_wp2
    go_ret
    exact ⟨⟨_, rfl, HL.out, rfl⟩, rfl⟩

set_option maxHeartbeats 2000000 in
set_option maxRecDepth 20000 in
theorem pcloneE_cells (n c : Nat) (cs : List Value) (hl : cs.length = n * 2) (h1 : ∀ u ∈ cs, u.oneCell' = true) (hn : n ≤ 1048576) (W : World) (a : Addr) (hc : CellsIn W W.heap.size a cs) :
    Calls Tryd.prog 44 #[.slice (some a) n c] W (Cloned W 53 2 n cs) := by
  obtain ⟨i0, hi, hz0, hz1, hz2⟩ := info_parts info_pEdge
  have q : ∀ (w : World) (a : Option Addr) (n c n' c' : Nat), (binOp .eql 49 (.slice a n c) (.slice none n' c')).run Tryd.prog w = .ok (.bool a.isNone) w := fun w a n c n' c' => Lib.run_eql_slice_nil w _ _ a n c n' c' Tryd.underlying49
  have HCS := Lib.hid hc
  have HL := Lib.hid hl
  have H1 := Lib.hid h1
  clear hc hl h1
  go_enter Tryd.func44, Tryd.ntmps44
  go_wp2_with (at_builtin; refine wpList_append_own _ rfl _ _ 49 rfl W.heap.size 53 i0 (.agg #[.int .i64 0, .int .i64 0]) 2 16 Tryd.underlying49 hi hz0 hz1 hz2 rfl (by decide) _ _ _ rfl (World.ownsRow_made W #[] 0 (Nat.le_refl _) (Nat.zero_le _) rfl) a n c cs rfl ?qc1 ?qc2 ?qc3 ?qc4 ?qc5 ?qc6 ?_)
  case qc1 => exact HL.out
  case qc2 =>
    intro j u hj
    exact Lib.cell?_alloc_some _ (HCS.out j u hj).2
  case qc3 => exact H1.out
  case qc4 => unfold maxLen; omega
  case qc5 => omega
  case qc6 => simp
  intro v' w1 hown hgrow hnil
  go_wp2_with fail
  go_ret
  refine ⟨v', rfl, looseRow_of (by simpa using hown), ?_⟩
  exact ((Below.refl _ W).alloc (Nat.le_refl _) _).grown hgrow (by simp) (by intro k hk; simp [Value.ownBlock] at hk; omega)
theorem pcloneE_nil (n c : Nat) (W : World) : Calls Tryd.prog 44 #[.slice none n c] W fun e W' => e = .returned (.slice none 0 0) ∧ W' = W := by
  have q : ∀ (w : World) (a : Option Addr) (n c n' c' : Nat), (binOp .eql 49 (.slice a n c) (.slice none n' c')).run Tryd.prog w = .ok (.bool a.isNone) w := fun w a n c n' c' => Lib.run_eql_slice_nil w _ _ a n c n' c' Tryd.underlying49
  go_enter Tryd.func44, Tryd.ntmps44
  go_wp2
  go_ret
  exact ⟨rfl, rfl⟩
theorem pclipE_ok (W : World) (base n : Nat) (v : Value) (cs : List Value) (hn : n ≤ 1048576) (h : looseRow W base 53 2 v n cs) :
    Calls Tryd.prog 47 #[v] W (fun e W' => (∃ u, e = .returned u ∧ looseRow W base 53 2 u n cs ∧ u.ownBlock = v.ownBlock) ∧ W = W') := by
  rcases h.2 with ⟨rfl, rfl⟩ | ⟨b, cap, cur, rfl, h1, h2, h3, h4, h5, h6⟩
  · have HL : Hid (looseRow W base 53 2 (.slice none 0 0) 0 cs) := Lib.hid h
    clear h
    go_enter Tryd.func47, Tryd.ntmps47
    go_wp2
    go_ret
    exact ⟨⟨_, rfl, HL.out, rfl⟩, rfl⟩
  · have HL : Hid (looseRow W base 53 2 (.slice (some ⟨b, 0, none⟩) n n) n cs) := ⟨h.1, .inr ⟨b, _, cur, rfl, h1, h2, Nat.le_refl _, Nat.le_trans h3 h4, Nat.le_trans (Nat.mul_le_mul_right _ h3) h5, h6⟩⟩
    unfold maxLen at h4
    clear h h2 h5 h6
    go_enter Tryd.func47, Tryd.ntmps47
    go_wp2
    go_ret
    exact ⟨⟨_, rfl, HL.out, rfl⟩, rfl⟩

set_option maxHeartbeats 2000000 in
set_option maxRecDepth 20000 in
theorem pcloneS_cells (n c : Nat) (cs : List Value) (hl : cs.length = n * 3) (h1 : ∀ u ∈ cs, u.oneCell' = true) (hn : n ≤ 1048576) (W : World) (a : Addr) (hc : CellsIn W W.heap.size a cs) :
    Calls Tryd.prog 42 #[.slice (some a) n c] W (Cloned W 51 3 n cs) := by
  obtain ⟨i0, hi, hz0, hz1, hz2⟩ := info_parts info_pState
  have q : ∀ (w : World) (a : Option Addr) (n c n' c' : Nat), (binOp .eql 22 (.slice a n c) (.slice none n' c')).run Tryd.prog w = .ok (.bool a.isNone) w := fun w a n c n' c' => Lib.run_eql_slice_nil w _ _ a n c n' c' Tryd.underlying22
  have HCS := Lib.hid hc
  have HL := Lib.hid hl
  have H1 := Lib.hid h1
  clear hc hl h1
  go_enter Tryd.func42, Tryd.ntmps42
  go_wp2_with (at_builtin; refine wpList_append_own _ rfl _ _ 22 rfl W.heap.size 51 i0 (.agg #[.int .u8 0, .slice none 0 0, .slice none 0 0]) 3 56 Tryd.underlying22 hi hz0 hz1 hz2 rfl (by decide) _ _ _ rfl (World.ownsRow_made W #[] 0 (Nat.le_refl _) (Nat.zero_le _) rfl) a n c cs rfl ?qc1 ?qc2 ?qc3 ?qc4 ?qc5 ?qc6 ?_)
  case qc1 => exact HL.out
  case qc2 =>
    intro j u hj
    exact Lib.cell?_alloc_some _ (HCS.out j u hj).2
  case qc3 => exact H1.out
  case qc4 => unfold maxLen; omega
  case qc5 => omega
  case qc6 => simp
  intro v' w1 hown hgrow hnil
  go_wp2_with fail
  go_ret
  refine ⟨v', rfl, looseRow_of (by simpa using hown), ?_⟩
  exact ((Below.refl _ W).alloc (Nat.le_refl _) _).grown hgrow (by simp) (by intro k hk; simp [Value.ownBlock] at hk; omega)
theorem pcloneS_nil (n c : Nat) (W : World) : Calls Tryd.prog 42 #[.slice none n c] W fun e W' => e = .returned (.slice none 0 0) ∧ W' = W := by
  have q : ∀ (w : World) (a : Option Addr) (n c n' c' : Nat), (binOp .eql 22 (.slice a n c) (.slice none n' c')).run Tryd.prog w = .ok (.bool a.isNone) w := fun w a n c n' c' => Lib.run_eql_slice_nil w _ _ a n c n' c' Tryd.underlying22
  go_enter Tryd.func42, Tryd.ntmps42
  go_wp2
  go_ret
  exact ⟨rfl, rfl⟩
theorem pclipS_ok (W : World) (base n : Nat) (v : Value) (cs : List Value) (hn : n ≤ 1048576) (h : looseRow W base 51 3 v n cs) :
    Calls Tryd.prog 48 #[v] W (fun e W' => (∃ u, e = .returned u ∧ looseRow W base 51 3 u n cs ∧ u.ownBlock = v.ownBlock) ∧ W = W') := by
  rcases h.2 with ⟨rfl, rfl⟩ | ⟨b, cap, cur, rfl, h1, h2, h3, h4, h5, h6⟩
  · have HL : Hid (looseRow W base 51 3 (.slice none 0 0) 0 cs) := Lib.hid h
    clear h
    go_enter Tryd.func48, Tryd.ntmps48
    go_wp2
    go_ret
    exact ⟨⟨_, rfl, HL.out, rfl⟩, rfl⟩
  · have HL : Hid (looseRow W base 51 3 (.slice (some ⟨b, 0, none⟩) n n) n cs) := ⟨h.1, .inr ⟨b, _, cur, rfl, h1, h2, Nat.le_refl _, Nat.le_trans h3 h4, Nat.le_trans (Nat.mul_le_mul_right _ h3) h5, h6⟩⟩
    unfold maxLen at h4
    clear h h2 h5 h6
    go_enter Tryd.func48, Tryd.ntmps48
    go_wp2
    go_ret
    exact ⟨⟨_, rfl, HL.out, rfl⟩, rfl⟩

theorem pcloneI_ok (l : List Int) (hn : l.length ≤ 1048576) (W : World) (v : Value) (h : IntsV W W.heap.size v l) : Calls Tryd.prog 24 #[v] W (Cloned W 3 1 l.length (intVs l)) := by
  obtain ⟨a, c, rfl, hc, hA⟩ := h
  cases a with
  | none =>
    have hl : l = [] := by
      cases l with
      | nil => rfl
      | cons x r => obtain ⟨b, off, h, _⟩ := hA 0 (by simp); cases h
    subst hl
    exact (pcloneI_nil _ _ _).mono fun e W' ⟨h1, h2⟩ => ⟨_, h1, ⟨rfl, .inl ⟨rfl, rfl⟩⟩, h2 ▸ Grew.refl W⟩
  | some a => exact pcloneI_cells l.length c (intVs l) (by simp [intVs]) (fun u hu => by obtain ⟨x, _, rfl⟩ := List.mem_map.1 hu; rfl) hn W a (cells_ints hA)
theorem pcloneE_ok (l : List Ed) (hn : l.length ≤ 1048576) (W : World) (v : Value) (h : EdsV W W.heap.size v l) : Calls Tryd.prog 44 #[v] W (Cloned W 53 2 l.length (edVs l)) := by
  obtain ⟨a, c, rfl, hc, hA⟩ := h
  cases a with
  | none =>
    have hl : l = [] := by
      cases l with
      | nil => rfl
      | cons x r => obtain ⟨b, off, h, _⟩ := hA 0 (by simp); cases h
    subst hl
    exact (pcloneE_nil _ _ _).mono fun e W' ⟨h1, h2⟩ => ⟨_, h1, ⟨rfl, .inl ⟨rfl, rfl⟩⟩, h2 ▸ Grew.refl W⟩
  | some a => exact pcloneE_cells l.length c (edVs l) (edVs_len l) edVs_one hn W a (cells_eds hA)
/-- a copy of an automaton's states -/
def ClonedS (W : World) (lim : Nat) (l : Aut) (r : Ending) (W' : World) : Prop := ∃ v' vs, r = .returned v' ∧ looseRow W' W.heap.size 51 3 v' l.length (triVs vs) ∧ StsIn .u8 W lim vs l ∧ Grew W W'
theorem pcloneS_ok (l : Aut) (hn : l.length ≤ 1048576) (W : World) (lim : Nat) (hlim : lim ≤ W.heap.size) (v : Value) (h : AutV .u8 W lim v l) : Calls Tryd.prog 42 #[v] W (ClonedS W lim l) := by
  obtain ⟨a, c, rfl, hc, hA⟩ := h
  cases a with
  | none =>
    have hl : l = [] := by
      cases l with
      | nil => rfl
      | cons x r => obtain ⟨b, off, _, _, _, h, _⟩ := hA 0 (by simp); cases h
    subst hl
    exact (pcloneS_nil _ _ _).mono fun e W' ⟨h1, h2⟩ => ⟨_, [], h1, ⟨rfl, .inl ⟨rfl, rfl⟩⟩, ⟨rfl, fun k hk => absurd hk (by simp)⟩, h2 ▸ Grew.refl W⟩
  | some a =>
    obtain ⟨vs, hvs, hcs⟩ := AutV.tri hA
    exact (pcloneS_cells l.length c (triVs vs) (by rw [triVs_len, hvs.1]) (triVs_one hvs) hn W a (fun j u hj => ⟨Nat.lt_of_lt_of_le (hcs a rfl j u hj).1 hlim, (hcs a rfl j u hj).2⟩)).mono fun e W' ⟨v', h1, h2, h3⟩ => ⟨v', vs, h1, h2, hvs, h3⟩
end Go.Proofs.YtogmlonhciiomaaDoor
