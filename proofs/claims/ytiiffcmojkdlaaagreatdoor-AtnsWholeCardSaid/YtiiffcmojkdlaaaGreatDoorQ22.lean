/- A net that is being made, in memory. -/
import Derived.Test.YtiiffcmojkdlaaaGreatDoorQ21
import Derived.Test.YtiiffcmojkdlaaaGreatDoorQ20
namespace Go.Proofs.YtiiffcmojkdlaaaGreatDoor
open Go.RowKit

/-- the rows of integers -/
inductive IRole where
  | rules
  | tokens
  | starts
  | stops
  | preds
  | decs
  | ends (k : Nat)
  deriving DecidableEq
/-- rows that are never written -/
def IRole.fix : IRole → Bool
  | .rules => true
  | .tokens => true
  | _ => false
/-- edges as the program has them -/
def ecells8 (l : List Edg) : List Value := l.flatMap fun e => [.int .u8 e.kind, .int .i64 e.what, .int .i64 e.to]
/-- the values of the rows -/
structure MkV where
  iv : IRole → Value
  ev : Nat → Value
  sv : Value
  wv : Value
/-- what does not change: the grammar's four values, the rows of rules and tokens, where all lies -/
structure MkE where
  g0 : Value
  g1 : Value
  g2 : Value
  g3 : Value
  rules : List Int
  tokens : List Int
  base : Nat
  mb : Nat
def Mk.live (m : Mk) : IRole → Prop
  | .ends k => k < m.N.states.length
  | _ => True
def MkE.ints (E : MkE) (m : Mk) : IRole → List Int
  | .rules => E.rules
  | .tokens => E.tokens
  | .starts => m.N.starts
  | .stops => m.N.stops
  | .preds => m.N.preds
  | .decs => m.N.decisions
  | .ends k => m.N.ends k
def MkV.box (V : MkV) (E : MkE) (m : Mk) : List Value := [E.g0, E.g1, E.g2, E.g3, V.iv .rules, V.iv .tokens, .int .i64 m.rule, V.sv, V.iv .starts, V.iv .stops, V.iv .preds, V.iv .decs, V.wv, .int .i64 m.many, .bool m.full]
def MkV.srow (V : MkV) (m : Mk) : List Value := (List.range m.N.states.length).flatMap fun k => [.int .i64 ((m.N.states[k]?.map fun (s : Sta) => s.rule).getD 0), V.ev k, V.iv (.ends k)]
/-- a row that may begin behind its block's beginning; it then has no room -/
def tailRow (w : World) (base : Nat) (e : TypeId) (size : Nat) (v : Value) (n : Nat) (xs : List Value) : Prop := looseRow w base e size v n xs ∨
  (xs.length = n * size ∧ ∃ g off cur, v = .slice (some ⟨g, off, none⟩) n n ∧ base ≤ g ∧ w.heap[g]? = some (.cells cur e (0, 0)) ∧ n ≤ maxLen ∧ off + n * size ≤ cur.size ∧ (cur.toList.drop off).take (n * size) = xs)
section
variable {w w' : World} {base e size n : Nat} {v : Value} {xs : List Value}
theorem trow_own (h : tailRow w base e size v n xs) {g : Nat} (hg : v.ownBlock = some g) : base ≤ g ∧ ∃ cs, w.heap[g]? = some (.cells cs e (0, 0)) := by
  rcases h with h | ⟨_, b, off, cur, rfl, h1, h2, _⟩
  · exact row_own h hg
  · simp only [Value.ownBlock, Option.some.injEq] at hg
    subst hg
    exact ⟨h1, cur, h2⟩
theorem tail_same (h : tailRow w base e size v n xs) (hh : ∀ b, v.ownBlock = some b → w'.heap[b]? = w.heap[b]?) : tailRow w' base e size v n xs := by
  rcases h with ⟨h0, h1⟩ | ⟨h0, b, off, cur, rfl, h1, h2, h3⟩
  · refine .inl ⟨h0, h1.imp id ?_⟩
    rintro ⟨b, cap, cur, rfl, h3, h4, h5⟩
    exact ⟨b, cap, cur, rfl, h3, (hh b rfl).trans h4, h5⟩
  · exact .inr ⟨h0, b, off, cur, rfl, h1, (hh b rfl).trans h2, h3⟩
theorem trow_lt (h : tailRow w base e size v n xs) {g : Nat} (hg : v.ownBlock = some g) : g < w.heap.size := by
  obtain ⟨_, cs, h2⟩ := trow_own h hg
  exact (Array.getElem?_eq_some_iff.1 h2).1
theorem trow_but (h : tailRow w base e size v n xs) {F : Nat → Prop} (hb : But F w w') (hn : ∀ g, v.ownBlock = some g → ¬F g) : tailRow w' base e size v n xs :=
  tail_same h fun b hv => hb.block b (trow_lt h hv) (hn b hv)
end

/-- the waits' cells -/
def WaitsAt (W : World) (lim : Nat) : List (Int × Nd) → List Value → Prop
  | [], cs => cs = []
  | x :: r, cs => ∃ c0 c1 c2 c3 c4 cs', cs = .int .i64 x.1 :: c0 :: c1 :: c2 :: c3 :: c4 :: cs' ∧ NodeAt W lim (some c0) (some c1) (some c2) (some c3) (some c4) x.2 ∧ WaitsAt W lim r cs'
structure MkAt (E : MkE) (W : World) (m : Mk) (V : MkV) : Prop where
  box : Owns W E.mb (V.box E m) 65
  ints : ∀ r, m.live r → looseRow W E.base 3 1 (V.iv r) (E.ints m r).length (intVs (E.ints m r))
  edges : ∀ k, k < m.N.states.length → looseRow W E.base 44 3 (V.ev k) (m.N.edges k).length (ecells8 (m.N.edges k))
  states : looseRow W E.base 41 3 V.sv m.N.states.length (V.srow m)
  waits : ∃ cs, tailRow W E.base 69 6 V.wv m.waits.length cs ∧ WaitsAt W E.base m.waits cs
  iinj : ∀ r r', m.live r → m.live r' → r ≠ r' → (r.fix && r'.fix) = false → ∀ b, (V.iv r).ownBlock = some b → (V.iv r').ownBlock ≠ some b
  einj : ∀ k k', k < m.N.states.length → k' < m.N.states.length → k ≠ k' → ∀ b, (V.ev k).ownBlock = some b → (V.ev k').ownBlock ≠ some b
  lo : E.base ≤ E.mb
def MkV.mine (V : MkV) (E : MkE) (m : Mk) (b : Nat) : Prop := b = E.mb ∨ V.sv.ownBlock = some b ∨ V.wv.ownBlock = some b ∨ (∃ r, m.live r ∧ (V.iv r).ownBlock = some b) ∨ ∃ k, k < m.N.states.length ∧ (V.ev k).ownBlock = some b
/-- all but the making's own stays; what is its own now was so, or is new -/
structure Frk (E : MkE) (m : Mk) (V : MkV) (m' : Mk) (V' : MkV) (w w' : World) : Prop where
  but : But (V.mine E m) w w'
  new : ∀ b, V'.mine E m' b → V.mine E m b ∨ w.heap.size ≤ b
  fix : ∀ r : IRole, r.fix = true → V'.iv r = V.iv r
section
variable {E : MkE} {m m' m'' : Mk} {V V' V'' : MkV} {w w' w'' : World}
theorem Frk.refl (E : MkE) (m : Mk) (V : MkV) (w : World) : Frk E m V m V w w := ⟨But.refl _ _, fun _ h => .inl h, fun _ _ => rfl⟩
theorem Frk.trans (h : Frk E m V m' V' w w') (k : Frk E m' V' m'' V'' w' w'') : Frk E m V m'' V'' w w'' :=
  ⟨h.but.trans k.but fun i hi hm => (h.new i hm).resolve_right (by omega), fun i hm => by
    rcases k.new i hm with h1 | h1
    · exact h.new i h1
    · exact .inr (Nat.le_trans h.but.size h1), fun r hr => (k.fix r hr).trans (h.fix r hr)⟩
theorem Frk.grew (h : Grew w w') : Frk E m V m V w w' := ⟨But.of_grew h, fun _ hm => .inl hm, fun _ _ => rfl⟩
theorem WaitsAt.keep {lim : Nat} (hb : Below lim w w') : ∀ {l : List (Int × Nd)} {cs : List Value}, WaitsAt w lim l cs → WaitsAt w' lim l cs
  | [], _, h => h
  | _ :: _, _, ⟨c0, c1, c2, c3, c4, cs', h1, h2, h3⟩ => ⟨c0, c1, c2, c3, c4, cs', h1, h2.keep hb, WaitsAt.keep hb h3⟩
theorem MkAt.lim (h : MkAt E w m V) : E.base ≤ w.heap.size := by have := h.lo; have := h.box.lt; omega
theorem MkAt.mine_lo (h : MkAt E w m V) {b : Nat} (hb : V.mine E m b) : E.base ≤ b := by
  rcases hb with rfl | hb | hb | ⟨r, hr, hb⟩ | ⟨k, hk, hb⟩
  · exact h.lo
  · exact (row_own h.states hb).1
  · obtain ⟨cs, hw, _⟩ := h.waits
    exact (trow_own hw hb).1
  · exact (row_own (h.ints r hr) hb).1
  · exact (row_own (h.edges k hk) hb).1
theorem MkAt.mine_lt (h : MkAt E w m V) {b : Nat} (hb : V.mine E m b) : b < w.heap.size := by
  rcases hb with rfl | hb | hb | ⟨r, hr, hb⟩ | ⟨k, hk, hb⟩
  · exact h.box.lt
  · obtain ⟨_, cs, h2⟩ := row_own h.states hb
    exact (Array.getElem?_eq_some_iff.1 h2).1
  · obtain ⟨cs, hw, _⟩ := h.waits
    obtain ⟨_, cs, h2⟩ := trow_own hw hb
    exact (Array.getElem?_eq_some_iff.1 h2).1
  · obtain ⟨_, cs, h2⟩ := row_own (h.ints r hr) hb
    exact (Array.getElem?_eq_some_iff.1 h2).1
  · obtain ⟨_, cs, h2⟩ := row_own (h.edges k hk) hb
    exact (Array.getElem?_eq_some_iff.1 h2).1
theorem Frk.below (h : Frk E m V m' V' w w') (hM : MkAt E w m V) : Below E.base w w' := h.but.below hM.lim fun _ hk => hM.mine_lo hk
/-- what is not the making's own may be written -/
theorem MkAt.but (h : MkAt E w m V) {F : Nat → Prop} (hb : But F w w') (hn : ∀ b, V.mine E m b → ¬F b) (hF : ∀ b, F b → E.base ≤ b) : MkAt E w' m V := by
  refine ⟨hb.owns h.box (hn _ (.inl rfl)), fun r hr => row_but (h.ints r hr) hb fun g hg => hn g (.inr (.inr (.inr (.inl ⟨r, hr, hg⟩)))), fun k hk => row_but (h.edges k hk) hb fun g hg => hn g (.inr (.inr (.inr (.inr ⟨k, hk, hg⟩)))), row_but h.states hb fun g hg => hn g (.inr (.inl hg)), ?_, h.iinj, h.einj, h.lo⟩
  obtain ⟨cs, h1, h2⟩ := h.waits
  refine ⟨cs, trow_but h1 hb fun g hg => hn g (.inr (.inr (.inl hg))), h2.keep ⟨hb.os, hb.tape, hb.output, hb.size, fun k hk => hb.block k (by have := h.lim; omega) fun hf => by have := hF k hf; omega⟩⟩
theorem MkAt.grew (h : MkAt E w m V) (hg : Grew w w') : MkAt E w' m V := h.but (F := fun _ => False) (But.of_grew hg) (fun _ _ => id) fun _ h => h.elim
end

/-! ### rows that are not the one that is written -/
section
variable {w w' : World} {base e size n : Nat} {v : Value} {xs : List Value}
theorem own_ne {b2 e2 s2 n2 : Nat} {v2 : Value} {ys : List Value} (h1 : looseRow w base e size v n xs) (h2 : looseRow w b2 e2 s2 v2 n2 ys) (hT : e ≠ e2) : ∀ b, v.ownBlock = some b → v2.ownBlock ≠ some b := fun b hb hb2 => by
  obtain ⟨_, cs, k1⟩ := row_own h1 hb
  obtain ⟨_, cs2, k2⟩ := row_own h2 hb2
  rw [k1] at k2
  simp only [Option.some.injEq, Obj.cells.injEq] at k2
  exact hT k2.2.1
theorem own_box {b T : Nat} {cs : List Value} (h1 : looseRow w base e size v n xs) (h2 : Owns w b cs T) (hT : e ≠ T) : v.ownBlock ≠ some b := fun hb => by
  obtain ⟨_, cs, k1⟩ := row_own h1 hb
  unfold Owns at h2
  rw [k1] at h2
  simp only [Option.some.injEq, Obj.cells.injEq] at h2
  exact hT h2.2.1
theorem loose_far {row : Option Nat} (h : looseRow w base e size v n xs) (hg : w.grownBy w' row) (hn : ∀ b, v.ownBlock = some b → row ≠ some b) : looseRow w' base e size v n xs := by
  refine ⟨h.1, h.2.imp id ?_⟩
  rintro ⟨b, cap, cur, h1, h2, h3, h4⟩
  exact ⟨b, cap, cur, h1, h2, (hg.block b (Array.getElem?_eq_some_iff.1 h3).1 (fun e2 => hn b (by rw [h1]; rfl) e2.symm)).trans h3, h4⟩
theorem owns_far {row : Option Nat} {b T : Nat} {cs : List Value} (h : Owns w b cs T) (hg : w.grownBy w' row) (hn : row ≠ some b) : Owns w' b cs T := by
  unfold Owns at *
  rw [hg.block b (Array.getElem?_eq_some_iff.1 h).1 (fun e2 => hn e2.symm)]
  exact h
theorem loose_put (h : looseRow w base e size v n xs) {c i : Nat} {x : Value} (hn : v.ownBlock ≠ some c) : looseRow (w.setCell ⟨c, i, none⟩ x) base e size v n xs := by
  refine ⟨h.1, h.2.imp id ?_⟩
  rintro ⟨b, cap, cur, h1, h2, h3, h4⟩
  exact ⟨b, cap, cur, h1, h2, (put_heap (a := ⟨c, i, none⟩) (fun e2 => hn (by rw [h1]; exact congrArg some e2.symm))).trans h3, h4⟩
/-- one cell of a row is written -/
theorem loose_set {g i : Nat} {x : Value} (h : looseRow w base e size v n xs) (hv : v.ownBlock = some g) : looseRow (w.setCell ⟨g, i, none⟩ x) base e size v n (xs.set i x) := by
  rcases h.2 with ⟨h1, h2⟩ | ⟨b, cap, cur, h1, h2, h3, h4, h5, h6, h7⟩
  · rw [h1] at hv; simp [Value.ownBlock] at hv
  · rw [h1] at hv
    simp only [Value.ownBlock, Option.some.injEq] at hv
    subst hv
    refine ⟨by rw [List.length_set]; exact h.1, .inr ⟨b, cap, cur.setIfInBounds i x, h1, h2, ?_, h4, h5, by simpa using h6, ?_⟩⟩
    · simp [World.setCell, Array.getElem?_modify, h3]
    · rw [← h7]
      simp only [Array.toList_setIfInBounds]
      rw [List.take_set]
theorem waits_below {lim : Nat} {l : List (Int × Nd)} {cs : List Value} (h : WaitsAt w lim l cs) (hb : Below lim w w') : WaitsAt w' lim l cs := h.keep hb
end

section
variable {w w' : World} {base e size n : Nat} {v : Value} {xs : List Value}
theorem own_neT {b2 e2 s2 n2 : Nat} {v2 : Value} {ys : List Value} (h1 : tailRow w base e size v n xs) (h2 : looseRow w b2 e2 s2 v2 n2 ys) (hT : e ≠ e2) : ∀ b, v.ownBlock = some b → v2.ownBlock ≠ some b := fun b hb hb2 => by
  obtain ⟨_, cs, k1⟩ := trow_own h1 hb
  obtain ⟨_, cs2, k2⟩ := row_own h2 hb2
  rw [k1] at k2
  simp only [Option.some.injEq, Obj.cells.injEq] at k2
  exact hT k2.2.1
theorem own_neR {b2 e2 s2 n2 : Nat} {v2 : Value} {ys : List Value} (h2 : looseRow w b2 e2 s2 v2 n2 ys) (h1 : tailRow w base e size v n xs) (hT : e2 ≠ e) : ∀ b, v2.ownBlock = some b → v.ownBlock ≠ some b := fun b hb hb2 => own_neT h1 h2 (fun x => hT x.symm) b hb2 hb
theorem own_boxT {b T : Nat} {cs : List Value} (h1 : tailRow w base e size v n xs) (h2 : Owns w b cs T) (hT : e ≠ T) : v.ownBlock ≠ some b := fun hb => by
  obtain ⟨_, cs, k1⟩ := trow_own h1 hb
  unfold Owns at h2
  rw [k1] at h2
  simp only [Option.some.injEq, Obj.cells.injEq] at h2
  exact hT h2.2.1
theorem loose_farT {row : Option Nat} (h : tailRow w base e size v n xs) (hg : w.grownBy w' row) (hn : ∀ b, v.ownBlock = some b → row ≠ some b) : tailRow w' base e size v n xs :=
  tail_same h fun b hv => hg.block b (trow_lt h hv) (fun e2 => hn b hv e2.symm)
theorem loose_putT (h : tailRow w base e size v n xs) {c i : Nat} {x : Value} (hn : v.ownBlock ≠ some c) : tailRow (w.setCell ⟨c, i, none⟩ x) base e size v n xs :=
  tail_same h fun b hv => put_heap (a := ⟨c, i, none⟩) (fun e2 => hn (by rw [hv]; exact congrArg some e2.symm))
end

/-! ### what is written -/
section
variable {E : MkE} {m m' : Mk} {V : MkV} {w w1 : World}
theorem Frk.put {c i : Nat} {x : Value} (hc : V.mine E m c) (hm : ∀ b, V.mine E m' b → V.mine E m b) : Frk E m V m' V w (w.setCell ⟨c, i, none⟩ x) :=
  ⟨⟨rfl, rfl, rfl, by simp [World.setCell], fun k _ hn => put_heap (a := ⟨c, i, none⟩) (fun e => hn (by have e : c = k := e; rw [← e]; exact hc))⟩, fun b hb => .inl (hm b hb), fun _ _ => rfl⟩
/-- a field of the box is written -/
theorem MkAt.field (h : MkAt E w m V) {i : Nat} {x : Value} (hN : m'.N = m.N) (hw : m'.waits = m.waits) (hb : V.box E m' = (V.box E m).set i x) : MkAt E (w.setCell ⟨E.mb, i, none⟩ x) m' V ∧ Frk E m V m' V w (w.setCell ⟨E.mb, i, none⟩ x) := by
  have hl : ∀ r, m'.live r ↔ m.live r := fun r => by cases r <;> simp [Mk.live, hN]
  have hi : ∀ r, E.ints m' r = E.ints m r := fun r => by cases r <;> simp [MkE.ints, hN]
  have hs : V.srow m' = V.srow m := by unfold MkV.srow; rw [hN]
  have hm : ∀ b, V.mine E m' b → V.mine E m b := fun b hb => by
    rcases hb with hb | hb | hb | ⟨r, hr, hb⟩ | ⟨k, hk, hb⟩
    · exact .inl hb
    · exact .inr (.inl hb)
    · exact .inr (.inr (.inl hb))
    · exact .inr (.inr (.inr (.inl ⟨r, (hl r).1 hr, hb⟩)))
    · exact .inr (.inr (.inr (.inr ⟨k, by rw [← hN]; exact hk, hb⟩)))
  refine ⟨⟨by rw [hb]; exact h.box.set i x, fun r hr => by rw [hi]; exact loose_put (h.ints r ((hl r).1 hr)) (own_box (h.ints r ((hl r).1 hr)) h.box (by decide)), fun k hk => ?_, ?_, ?_, fun r r' hr hr' => h.iinj r r' ((hl r).1 hr) ((hl r').1 hr'), fun k k' hk hk' => h.einj k k' (by rw [← hN]; exact hk) (by rw [← hN]; exact hk'), h.lo⟩, Frk.put (.inl rfl) hm⟩
  · rw [hN] at hk ⊢
    exact loose_put (h.edges k hk) (own_box (h.edges k hk) h.box (by decide))
  · rw [hN, hs]
    exact loose_put h.states (own_box h.states h.box (by decide))
  · obtain ⟨cs, h1, h2⟩ := h.waits
    rw [hw]
    exact ⟨cs, loose_putT h1 (own_boxT h1 h.box (by decide)), waits_below h2 (Below.setCell (Below.refl _ _) (p := ⟨E.mb, i, none⟩) h.lo x)⟩

/-- an integer more in one of the rows, as far as the integers go -/
def MkV.withI (V : MkV) (r : IRole) (v : Value) : MkV := { V with iv := fun r' => if r' = r then v else V.iv r' }
theorem ints_more (h : MkAt E w m V) {r : IRole} (hr0 : m.live r) (hfx : r.fix = false) {v : Value} {x : Int} {g : Nat} (hg : w.grownBy w1 (V.iv r).ownBlock) (hr : looseRow w1 E.base 3 1 v ((E.ints m r).length + 1) (intVs (E.ints m r) ++ [.int .i64 x])) (hown : v.ownBlock = some g) (hat : (V.iv r).ownBlock = some g ∨ w.heap.size ≤ g)
    (hi : ∀ r', m.live r' → E.ints m' r' = if r' = r then E.ints m r ++ [x] else E.ints m r') :
    (∀ r', m.live r' → looseRow w1 E.base 3 1 ((V.withI r v).iv r') (E.ints m' r').length (intVs (E.ints m' r'))) ∧ ∀ r1 r2, m.live r1 → m.live r2 → r1 ≠ r2 → (r1.fix && r2.fix) = false → ∀ b, ((V.withI r v).iv r1).ownBlock = some b → ((V.withI r v).iv r2).ownBlock ≠ some b := by
  have fresh : ∀ r', m.live r' → r' ≠ r → (V.iv r').ownBlock ≠ some g := fun r' hl hne hb => by
    rcases hat with ha | ha
    · exact h.iinj r' r hl hr0 hne (by rw [hfx]; simp) g hb ha
    · have := h.mine_lt (.inr (.inr (.inr (.inl ⟨r', hl, hb⟩))))
      omega
  refine ⟨fun r' hl => ?_, fun r1 r2 h1 h2 hne hff b hb => ?_⟩
  · rw [hi r' hl]
    by_cases e : r' = r
    · subst e
      simp only [MkV.withI, if_true, List.length_append, List.length_cons, List.length_nil]
      have : intVs (E.ints m r' ++ [x]) = intVs (E.ints m r') ++ [.int .i64 x] := by unfold intVs; rw [List.map_append]; rfl
      rw [this]
      exact hr
    · simp only [MkV.withI, e, if_false]
      exact loose_far (h.ints r' hl) hg fun b hb hb2 => h.iinj r' r hl hr0 e (by rw [hfx]; simp) b hb hb2
  · by_cases e1 : r1 = r
    · by_cases e2 : r2 = r
      · exact absurd (e1.trans e2.symm) hne
      · simp only [MkV.withI, e1, e2, if_true, if_false] at hb ⊢
        rw [hown] at hb
        cases hb
        exact fresh r2 h2 e2
    · by_cases e2 : r2 = r
      · simp only [MkV.withI, e1, e2, if_true, if_false] at hb ⊢
        rw [hown]
        exact fun e => fresh r1 h1 e1 (by rw [hb, e])
      · simp only [MkV.withI, e1, e2, if_false] at hb ⊢
        exact h.iinj r1 r2 h1 h2 hne hff b hb
end

section
variable {E : MkE} {m m' : Mk} {V : MkV} {w w1 : World}
theorem withI_fix {V : MkV} {r : IRole} {v : Value} (h : r.fix = false) : ∀ r' : IRole, r'.fix = true → (V.withI r v).iv r' = V.iv r' := fun r' hr => by
  have : r' ≠ r := fun e => by rw [e, h] at hr; cases hr
  simp only [MkV.withI, this, if_false]
theorem withI_mine {r : IRole} {v : Value} {g : Nat} (hr0 : m.live r) (hl : ∀ r, m'.live r ↔ m.live r) (hown : v.ownBlock = some g) (hat : (V.iv r).ownBlock = some g ∨ w.heap.size ≤ g) (hN : m'.N.states.length = m.N.states.length) :
    ∀ b, (V.withI r v).mine E m' b → V.mine E m b ∨ w.heap.size ≤ b := by
  intro b hb
  rcases hb with hb | hb | hb | ⟨r', hr', hb⟩ | ⟨k, hk, hb⟩
  · exact .inl (.inl hb)
  · exact .inl (.inr (.inl hb))
  · exact .inl (.inr (.inr (.inl hb)))
  · by_cases e : r' = r
    · subst e
      simp only [MkV.withI, if_true] at hb
      rw [hown] at hb
      cases hb
      rcases hat with ha | ha
      · exact .inl (.inr (.inr (.inr (.inl ⟨r', hr0, ha⟩))))
      · exact .inr (by omega)
    · simp only [MkV.withI, e, if_false] at hb
      exact .inl (.inr (.inr (.inr (.inl ⟨r', (hl r').1 hr', hb⟩))))
  · exact .inl (.inr (.inr (.inr (.inr ⟨k, by rw [← hN]; exact hk, hb⟩))))
theorem Frk.two {c i : Nat} {x : Value} {V' : MkV} {row : Option Nat} (hg : w.grownBy w1 row) (hrow : ∀ b, row = some b → V.mine E m b) (hc : V.mine E m c) (hm : ∀ b, V'.mine E m' b → V.mine E m b ∨ w.heap.size ≤ b) (hf : ∀ r : IRole, r.fix = true → V'.iv r = V.iv r) : Frk E m V m' V' w (w1.setCell ⟨c, i, none⟩ x) :=
  have h1 : But (V.mine E m) w w1 := ⟨hg.os, hg.tape, hg.output, hg.size, fun k hk hn => hg.block k hk fun e => hn (hrow k e.symm)⟩
  have h2 : But (fun b => b = c) w1 (w1.setCell ⟨c, i, none⟩ x) := ⟨rfl, rfl, rfl, by simp [World.setCell], fun k _ hn => put_heap (a := ⟨c, i, none⟩) (fun e => hn (by have e : c = k := e; exact e.symm))⟩
  ⟨h1.trans h2 fun b _ hb => by have hb : b = c := hb; rw [hb]; exact hc, hm, hf⟩
theorem waits_two {c i lim : Nat} {x : Value} {row : Option Nat} {l : List (Int × Nd)} {cs : List Value} (h : WaitsAt w lim l cs) (hl : lim ≤ w.heap.size) (hg : w.grownBy w1 row) (hrow : ∀ b, row = some b → lim ≤ b) (hc : lim ≤ c) : WaitsAt (w1.setCell ⟨c, i, none⟩ x) lim l cs :=
  waits_below h (Below.setCell ⟨hg.os, hg.tape, hg.output, hg.size, fun k hk => hg.block k (by omega) fun e => by have := hrow k e.symm; omega⟩ (p := ⟨c, i, none⟩) hc x)

/-- a number more in a row of the box: starts, stops, predicates, decisions -/
theorem MkAt.pushInt (h : MkAt E w m V) {r : IRole} (hr0 : m.live r) (hfx : r.fix = false) {v : Value} {x : Int} {g i : Nat} (hg : w.grownBy w1 (V.iv r).ownBlock) (hr : looseRow w1 E.base 3 1 v ((E.ints m r).length + 1) (intVs (E.ints m r) ++ [.int .i64 x])) (hown : v.ownBlock = some g) (hat : (V.iv r).ownBlock = some g ∨ w.heap.size ≤ g)
    (hst : m'.N.states = m.N.states) (hw : m'.waits = m.waits) (hne : ∀ k, r ≠ .ends k) (hi : ∀ r', m.live r' → E.ints m' r' = if r' = r then E.ints m r ++ [x] else E.ints m r') (hb : (V.withI r v).box E m' = (V.box E m).set i v) :
    MkAt E (w1.setCell ⟨E.mb, i, none⟩ v) m' (V.withI r v) ∧ Frk E m V m' (V.withI r v) w (w1.setCell ⟨E.mb, i, none⟩ v) := by
  have hl : ∀ r, m'.live r ↔ m.live r := fun r => by cases r <;> simp [Mk.live, hst]
  have hs : (V.withI r v).srow m' = V.srow m := by
    unfold MkV.srow
    rw [hst]
    have hk : ∀ k, (V.withI r v).iv (.ends k) = V.iv (.ends k) := fun k => by simp only [MkV.withI]; rw [if_neg (fun e => hne k e.symm)]
    simp only [hk]
    rfl
  obtain ⟨k1, k2⟩ := ints_more h hr0 hfx hg hr hown hat hi
  have hbx : Owns w1 E.mb (V.box E m) 65 := owns_far h.box hg (own_box (h.ints r hr0) h.box (by decide))
  have hed : ∀ k, m'.N.edges k = m.N.edges k := fun k => by unfold Net.edges; rw [hst]
  refine ⟨⟨by rw [hb]; exact hbx.set i v, fun r' hr' => ?_, fun k hk => ?_, ?_, ?_, fun r1 r2 h1 h2 => k2 r1 r2 ((hl r1).1 h1) ((hl r2).1 h2), fun k k' hk hk' => h.einj k k' (by rw [← hst]; exact hk) (by rw [← hst]; exact hk'), h.lo⟩,
    Frk.two hg (fun b hb => .inr (.inr (.inr (.inl ⟨r, hr0, hb⟩)))) (.inl rfl) (withI_mine hr0 hl hown hat (by rw [hst])) (withI_fix hfx)⟩
  · have := k1 r' ((hl r').1 hr')
    exact loose_put this (own_box this hbx (by decide))
  · rw [hst] at hk
    rw [hed]
    have h1 := h.edges k hk
    have h2 := loose_far h1 hg (fun b hb hb2 => own_ne h1 (h.ints r hr0) (by decide) b hb hb2)
    exact loose_put h2 (own_box h2 hbx (by decide))
  · rw [hst, hs]
    have h2 := loose_far h.states hg (fun b hb hb2 => own_ne h.states (h.ints r hr0) (by decide) b hb hb2)
    exact loose_put h2 (own_box h2 hbx (by decide))
  · obtain ⟨cs, h1, h2⟩ := h.waits
    rw [hw]
    have h3 := loose_farT h1 hg (fun b hb hb2 => own_neT h1 (h.ints r hr0) (by decide) b hb hb2)
    exact ⟨cs, loose_putT h3 (own_boxT h3 hbx (by decide)), waits_two h2 h.lim hg (fun b hb => (row_own (h.ints r hr0) hb).1) h.lo⟩
end

section
variable {E : MkE} {m m' : Mk} {V : MkV} {w w1 : World}
theorem srow_len (V : MkV) (m : Mk) : (V.srow m).length = m.N.states.length * 3 := by
  unfold MkV.srow
  have : ∀ (f : Nat → List Value) (n : Nat), (∀ k, (f k).length = 3) → ((List.range n).flatMap f).length = n * 3 := by
    intro f n hf
    induction n with
    | zero => rfl
    | succ n ih => rw [List.range_succ, List.flatMap_append, List.length_append, ih]; simp [hf]; omega
  exact this _ _ fun _ => rfl
theorem flat3_at (f : Nat → List Value) (hf : ∀ k, (f k).length = 3) : ∀ (n k j : Nat), k < n → j < 3 → ((List.range n).flatMap f)[k * 3 + j]? = (f k)[j]? := by
  have hl : ∀ n, ((List.range n).flatMap f).length = n * 3 := by
    intro n
    induction n with
    | zero => rfl
    | succ n ih => rw [List.range_succ, List.flatMap_append, List.length_append, ih]; simp [hf]; omega
  intro n
  induction n with
  | zero => intro k j h; omega
  | succ n ih =>
    intro k j hk hj
    rw [List.range_succ, List.flatMap_append]
    by_cases e : k = n
    · subst e
      rw [List.getElem?_append_right (by rw [hl]; omega), hl]
      simp
    · rw [List.getElem?_append_left (by rw [hl]; omega)]
      exact ih k j (by omega) hj
/-- the cells of a state -/
theorem srow_at {k : Nat} (hk : k < m.N.states.length) : (V.srow m)[k * 3]? = some (.int .i64 m.N.states[k].rule) ∧ (V.srow m)[k * 3 + 1]? = some (V.ev k) ∧ (V.srow m)[k * 3 + 2]? = some (V.iv (.ends k)) := by
  unfold MkV.srow
  have h := flat3_at (fun k => [.int .i64 ((m.N.states[k]?.map fun (s : Sta) => s.rule).getD 0), V.ev k, V.iv (.ends k)]) (fun _ => rfl) m.N.states.length k
  have h0 := h 0 hk (by omega)
  rw [Nat.add_zero] at h0
  refine ⟨by rw [h0, List.getElem?_eq_getElem hk]; rfl, by rw [h 1 hk (by omega)]; rfl, by rw [h 2 hk (by omega)]; rfl⟩
theorem flat3_set (f f' : Nat → List Value) (hf : ∀ k, (f k).length = 3) (hf' : ∀ k, (f' k).length = 3) (n k j : Nat) (x : Value) (hk : k < n) (hj : j < 3) (h1 : ∀ q, q ≠ k → f' q = f q) (h2 : f' k = (f k).set j x) : ((List.range n).flatMap f).set (k * 3 + j) x = (List.range n).flatMap f' := by
  have hl : ∀ (g : Nat → List Value), (∀ k, (g k).length = 3) → ((List.range n).flatMap g).length = n * 3 := by
    intro g hg
    clear hk
    induction n with
    | zero => rfl
    | succ n ih => rw [List.range_succ, List.flatMap_append, List.length_append, ih]; simp [hg]; omega
  apply List.ext_getElem?
  intro i
  by_cases hi : i < n * 3
  · have e : i = i / 3 * 3 + i % 3 := by omega
    rw [e, flat3_at f' hf' n (i / 3) (i % 3) (by omega) (by omega), List.getElem?_set]
    by_cases e2 : k * 3 + j = i / 3 * 3 + i % 3
    · have e3 : i / 3 = k := by omega
      have e4 : i % 3 = j := by omega
      rw [if_pos e2, if_pos (by rw [hl f hf]; omega), e3, e4, h2, List.getElem?_set_self (by rw [hf]; exact hj)]
    · rw [if_neg e2, flat3_at f hf n (i / 3) (i % 3) (by omega) (by omega)]
      by_cases e3 : i / 3 = k
      · rw [e3, h2, List.getElem?_set_ne (by omega)]
      · rw [h1 _ e3]
  · rw [List.getElem?_eq_none (by rw [List.length_set, hl f hf]; omega), List.getElem?_eq_none (by rw [hl f' hf']; omega)]
end

/-! ### an edge, an end more -/
section
variable {m : Mk}
theorem edge_go (hf : m.full = false) (a : Nat) (kd wh : Int) (b : Nat) : m.edge a kd wh b = { m with N := { m.N with states := m.N.states.modify a fun s => s.addEdge ⟨kd, wh, b⟩ } } := by unfold Mk.edge; rw [hf]; rfl
theorem mod_len (l : List Sta) (a : Nat) (f : Sta → Sta) : (l.modify a f).length = l.length := by simp
theorem mod_at (l : List Sta) (a q : Nat) (f : Sta → Sta) : (l.modify a f)[q]? = if a = q then l[q]?.map f else l[q]? := by
  rw [List.getElem?_modify]
  by_cases e : a = q
  · simp [e]
  · simp [e]
theorem mod_rule (l : List Sta) (a q : Nat) (f : Sta → Sta) (hf : ∀ s, (f s).rule = s.rule) : ((l.modify a f)[q]?.map fun (s : Sta) => s.rule) = l[q]?.map fun (s : Sta) => s.rule := by
  rw [mod_at]
  split
  · rw [Option.map_map]
    congr 1
    funext s
    exact hf s
  · rfl
theorem mod_edges (N : Net) (a q : Nat) (e : Edg) (ha : a < N.states.length) : ({ N with states := N.states.modify a fun s => s.addEdge e } : Net).edges q = if q = a then N.edges a ++ [e] else N.edges q := by
  unfold Net.edges
  rw [mod_at]
  by_cases h : q = a
  · subst h
    simp only [if_true]
    rw [List.getElem?_eq_getElem ha]
    rfl
  · rw [if_neg (fun x => h x.symm), if_neg h]
theorem mod_edges_ends (N : Net) (a q : Nat) (e : Edg) : ({ N with states := N.states.modify a fun s => s.addEdge e } : Net).ends q = N.ends q := by
  unfold Net.ends
  rw [mod_at]
  split
  · rw [Option.map_map]
    rfl
  · rfl
theorem mod_ends (N : Net) (a q : Nat) (i : Int) (ha : a < N.states.length) : ({ N with states := N.states.modify a fun s => s.addEnd i } : Net).ends q = if q = a then N.ends a ++ [i] else N.ends q := by
  unfold Net.ends
  rw [mod_at]
  by_cases h : q = a
  · subst h
    simp only [if_true]
    rw [List.getElem?_eq_getElem ha]
    rfl
  · rw [if_neg (fun x => h x.symm), if_neg h]
theorem mod_ends_edges (N : Net) (a q : Nat) (i : Int) : ({ N with states := N.states.modify a fun s => s.addEnd i } : Net).edges q = N.edges q := by
  unfold Net.edges
  rw [mod_at]
  split
  · rw [Option.map_map]
    rfl
  · rfl
end
def MkV.withE (V : MkV) (a : Nat) (v : Value) : MkV := { V with ev := fun q => if q = a then v else V.ev q }
section
variable {E : MkE} {m : Mk} {V : MkV} {w w1 : World}
theorem MkAt.pushEdge (h : MkAt E w m V) (hf : m.full = false) {a : Nat} (ha : a < m.N.states.length) {kd wh : Int} {b sb g : Nat} {v : Value} (hsb : V.sv.ownBlock = some sb) (hg : w.grownBy w1 (V.ev a).ownBlock)
    (hr : looseRow w1 E.base 44 3 v ((m.N.edges a).length + 1) (ecells8 (m.N.edges a) ++ [.int .u8 kd, .int .i64 wh, .int .i64 b])) (hown : v.ownBlock = some g) (hat : (V.ev a).ownBlock = some g ∨ g = w.heap.size) :
    MkAt E (w1.setCell ⟨sb, a * 3 + 1, none⟩ v) (m.edge a kd wh b) (V.withE a v) ∧ Frk E m V (m.edge a kd wh b) (V.withE a v) w (w1.setCell ⟨sb, a * 3 + 1, none⟩ v) := by
  have hm' := edge_go hf a kd wh b
  generalize m.edge a kd wh b = m' at *
  have hlen : m'.N.states.length = m.N.states.length := by rw [hm']; exact mod_len _ _ _
  have hed : ∀ q, m'.N.edges q = if q = a then m.N.edges a ++ [⟨kd, wh, b⟩] else m.N.edges q := fun q => by rw [hm']; exact mod_edges m.N a q _ ha
  have hen : ∀ q, m'.N.ends q = m.N.ends q := fun q => by rw [hm']; exact mod_edges_ends m.N a q _
  have hru : ∀ q, (m'.N.states[q]?.map fun (s : Sta) => s.rule) = m.N.states[q]?.map fun (s : Sta) => s.rule := fun q => by rw [hm']; exact mod_rule _ _ _ _ fun _ => rfl
  have hl : ∀ r, m'.live r ↔ m.live r := fun r => by cases r <;> simp [Mk.live, hlen]
  have hi : ∀ r, E.ints m' r = E.ints m r := fun r => by
    cases r
    case ends k => exact hen k
    all_goals rw [hm']; rfl
  have hwt : m'.waits = m.waits := by rw [hm']
  have hbx' : (V.withE a v).box E m' = V.box E m := by rw [hm']; rfl
  have hea := h.edges a ha
  have hbx : Owns w1 E.mb (V.box E m) 65 := owns_far h.box hg (own_box hea h.box (by decide))
  have hs1 := loose_far h.states hg (fun b hb hb2 => own_ne h.states hea (by decide) b hb hb2)
  have hsne : ∀ {e size n : Nat} {u : Value} {xs : List Value}, looseRow w1 E.base e size u n xs → e ≠ 41 → u.ownBlock ≠ some sb := fun hx hT hb => own_ne hx hs1 hT _ hb hsb
  have hsneT : ∀ {e size n : Nat} {u : Value} {xs : List Value}, tailRow w1 E.base e size u n xs → e ≠ 41 → u.ownBlock ≠ some sb := fun hx hT hb => own_neT hx hs1 hT _ hb hsb
  have hsrow : (V.withE a v).srow m' = (V.srow m).set (a * 3 + 1) v := by
    unfold MkV.srow
    rw [hlen]
    refine (flat3_set _ _ (fun _ => rfl) (fun _ => rfl) _ a 1 v ha (by omega) (fun q hq => ?_) ?_).symm
    · rw [hru]
      simp only [MkV.withE, hq, if_false]
    · rw [hru]
      simp only [MkV.withE, if_true]
      rfl
  have hmine : ∀ c, (V.withE a v).mine E m' c → V.mine E m c ∨ w.heap.size ≤ c := by
    intro c hc
    rcases hc with hc | hc | hc | ⟨r, hr', hc⟩ | ⟨k, hk, hc⟩
    · exact .inl (.inl hc)
    · exact .inl (.inr (.inl hc))
    · exact .inl (.inr (.inr (.inl hc)))
    · exact .inl (.inr (.inr (.inr (.inl ⟨r, (hl r).1 hr', hc⟩))))
    · by_cases e : k = a
      · subst e
        simp only [MkV.withE, if_true] at hc
        rw [hown] at hc
        cases hc
        rcases hat with hx | hx
        · exact .inl (.inr (.inr (.inr (.inr ⟨k, ha, hx⟩))))
        · exact .inr (by omega)
      · simp only [MkV.withE, e, if_false] at hc
        exact .inl (.inr (.inr (.inr (.inr ⟨k, by rw [← hlen]; exact hk, hc⟩))))
  have hsbl : V.mine E m sb := .inr (.inl hsb)
  have fresh : ∀ k, k < m.N.states.length → k ≠ a → (V.ev k).ownBlock ≠ some g := fun k hk hne hb => by
    rcases hat with hx | hx
    · exact h.einj k a hk ha hne g hb hx
    · have := h.mine_lt (.inr (.inr (.inr (.inr ⟨k, hk, hb⟩))))
      omega
  refine ⟨⟨?_, fun r hr' => ?_, fun k hk => ?_, ?_, ?_, fun r1 r2 h1 h2 => h.iinj r1 r2 ((hl r1).1 h1) ((hl r2).1 h2), fun k k' hk hk' hne c hc => ?_, h.lo⟩, Frk.two hg (fun c hc => .inr (.inr (.inr (.inr ⟨a, ha, hc⟩)))) hsbl hmine (fun _ _ => rfl)⟩
  · rw [hbx']
    exact hbx.other (a := ⟨sb, a * 3 + 1, none⟩) (by show sb ≠ E.mb; exact fun e => own_box hs1 hbx (by decide) (by rw [hsb, e])) _
  · rw [hi]
    have h1 := h.ints r ((hl r).1 hr')
    have h2 := loose_far h1 hg (fun b hb hb2 => own_ne h1 hea (by decide) b hb hb2)
    exact loose_put h2 (hsne h2 (by decide))
  · rw [hlen] at hk
    rw [hed]
    by_cases e : k = a
    · subst e
      simp only [MkV.withE, if_true, List.length_append, List.length_cons, List.length_nil]
      have : ecells8 (m.N.edges k ++ [⟨kd, wh, b⟩]) = ecells8 (m.N.edges k) ++ [.int .u8 kd, .int .i64 wh, .int .i64 b] := by unfold ecells8; rw [List.flatMap_append]; rfl
      rw [this]
      exact loose_put hr (hsne hr (by decide))
    · simp only [MkV.withE, e, if_false]
      have h2 := loose_far (h.edges k hk) hg (fun c hc hc2 => h.einj k a hk ha e c hc hc2)
      exact loose_put h2 (hsne h2 (by decide))
  · rw [hlen, hsrow]
    exact loose_set hs1 hsb
  · obtain ⟨cs, h1, h2⟩ := h.waits
    rw [hwt]
    have h3 := loose_farT h1 hg (fun b hb hb2 => own_neT h1 hea (by decide) b hb hb2)
    exact ⟨cs, loose_putT h3 (hsneT h3 (by decide)), waits_two h2 h.lim hg (fun c hc => (row_own hea hc).1) (h.mine_lo hsbl)⟩
  · rw [hlen] at hk hk'
    by_cases e1 : k = a
    · by_cases e2 : k' = a
      · omega
      · simp only [MkV.withE, e1, e2, if_true, if_false] at hc ⊢
        rw [hown] at hc
        cases hc
        exact fresh k' hk' e2
    · by_cases e2 : k' = a
      · simp only [MkV.withE, e1, e2, if_true, if_false] at hc ⊢
        rw [hown]
        exact fun e => fresh k hk e1 (by rw [hc, e])
      · simp only [MkV.withE, e1, e2, if_false] at hc ⊢
        exact h.einj k k' hk hk' hne c hc
end

/-- an end more of a state -/
def Mk.addEnd (m : Mk) (a : Nat) (i : Int) : Mk := { m with N := { m.N with states := m.N.states.modify a fun s => s.addEnd i } }
/-- a state more -/
def Mk.addState (m : Mk) : Mk := { m with N := { m.N with states := m.N.states ++ [⟨m.rule, [], []⟩] } }
/-- a piece more that waits -/
def Mk.addWait (m : Mk) (x : Int × Nd) : Mk := { m with waits := m.waits ++ [x] }
section
variable {E : MkE} {m : Mk} {V : MkV} {w w1 : World}
theorem MkAt.pushEnd (h : MkAt E w m V) {a : Nat} (ha : a < m.N.states.length) {x : Int} {sb g : Nat} {v : Value} (hsb : V.sv.ownBlock = some sb) (hg : w.grownBy w1 (V.iv (.ends a)).ownBlock)
    (hr : looseRow w1 E.base 3 1 v ((m.N.ends a).length + 1) (intVs (m.N.ends a) ++ [.int .i64 x])) (hown : v.ownBlock = some g) (hat : (V.iv (.ends a)).ownBlock = some g ∨ w.heap.size ≤ g) :
    MkAt E (w1.setCell ⟨sb, a * 3 + 2, none⟩ v) (m.addEnd a x) (V.withI (.ends a) v) ∧ Frk E m V (m.addEnd a x) (V.withI (.ends a) v) w (w1.setCell ⟨sb, a * 3 + 2, none⟩ v) := by
  have hm' : m.addEnd a x = { m with N := { m.N with states := m.N.states.modify a fun s => s.addEnd x } } := rfl
  generalize m.addEnd a x = m' at *
  have hlen : m'.N.states.length = m.N.states.length := by rw [hm']; exact mod_len _ _ _
  have hed : ∀ q, m'.N.edges q = m.N.edges q := fun q => by rw [hm']; exact mod_ends_edges m.N a q _
  have hen : ∀ q, m'.N.ends q = if q = a then m.N.ends a ++ [x] else m.N.ends q := fun q => by rw [hm']; exact mod_ends m.N a q _ ha
  have hru : ∀ q, (m'.N.states[q]?.map fun (s : Sta) => s.rule) = m.N.states[q]?.map fun (s : Sta) => s.rule := fun q => by rw [hm']; exact mod_rule _ _ _ _ fun _ => rfl
  have hl : ∀ r, m'.live r ↔ m.live r := fun r => by cases r <;> simp [Mk.live, hlen]
  have hi : ∀ r, m.live r → E.ints m' r = if r = .ends a then E.ints m (.ends a) ++ [x] else E.ints m r := fun r hr9 => by
    cases r
    case ends k =>
      show m'.N.ends k = _
      rw [hen]
      by_cases e : k = a
      · subst e; simp [MkE.ints]
      · simp [e, MkE.ints]
    all_goals rw [hm']; rfl
  have hwt : m'.waits = m.waits := by rw [hm']
  have hbx' : (V.withI (.ends a) v).box E m' = V.box E m := by rw [hm']; rfl
  have hr0 : m.live (.ends a) := ha
  have hea := h.ints (.ends a) hr0
  obtain ⟨k1, k2⟩ := ints_more h hr0 rfl hg hr hown hat hi
  have hbx : Owns w1 E.mb (V.box E m) 65 := owns_far h.box hg (own_box hea h.box (by decide))
  have hs1 := loose_far h.states hg (fun b hb hb2 => own_ne h.states hea (by decide) b hb hb2)
  have hsne : ∀ {e size n : Nat} {u : Value} {xs : List Value}, looseRow w1 E.base e size u n xs → e ≠ 41 → u.ownBlock ≠ some sb := fun hx hT hb => own_ne hx hs1 hT _ hb hsb
  have hsneT : ∀ {e size n : Nat} {u : Value} {xs : List Value}, tailRow w1 E.base e size u n xs → e ≠ 41 → u.ownBlock ≠ some sb := fun hx hT hb => own_neT hx hs1 hT _ hb hsb
  have hsrow : (V.withI (.ends a) v).srow m' = (V.srow m).set (a * 3 + 2) v := by
    unfold MkV.srow
    rw [hlen]
    refine (flat3_set _ _ (fun _ => rfl) (fun _ => rfl) _ a 2 v ha (by omega) (fun q hq => ?_) ?_).symm
    · rw [hru]
      simp [MkV.withI, hq]
    · rw [hru]
      simp [MkV.withI]
  have hsbl : V.mine E m sb := .inr (.inl hsb)
  refine ⟨⟨?_, fun r hr' => ?_, fun k hk => ?_, ?_, ?_, fun r1 r2 h1 h2 => k2 r1 r2 ((hl r1).1 h1) ((hl r2).1 h2), fun k k' hk hk' => h.einj k k' (by rw [← hlen]; exact hk) (by rw [← hlen]; exact hk'), h.lo⟩, Frk.two hg (fun c hc => .inr (.inr (.inr (.inl ⟨_, hr0, hc⟩)))) hsbl (withI_mine hr0 hl hown hat hlen) (withI_fix rfl)⟩
  · rw [hbx']
    exact hbx.other (a := ⟨sb, a * 3 + 2, none⟩) (by show sb ≠ E.mb; exact fun e => own_box hs1 hbx (by decide) (by rw [hsb, e])) _
  · have h2 := k1 r ((hl r).1 hr')
    exact loose_put h2 (hsne h2 (by decide))
  · rw [hlen] at hk
    rw [hed]
    have h1 := h.edges k hk
    have h2 := loose_far h1 hg (fun c hc hc2 => own_ne h1 hea (by decide) c hc hc2)
    exact loose_put h2 (hsne h2 (by decide))
  · rw [hlen, hsrow]
    exact loose_set hs1 hsb
  · obtain ⟨cs, h1, h2⟩ := h.waits
    rw [hwt]
    have h3 := loose_farT h1 hg (fun b hb hb2 => own_neT h1 hea (by decide) b hb hb2)
    exact ⟨cs, loose_putT h3 (hsneT h3 (by decide)), waits_two h2 h.lim hg (fun c hc => (row_own hea hc).1) (h.mine_lo hsbl)⟩

/-- the values with a state more -/
def MkV.withS (V : MkV) (n : Nat) (v : Value) : MkV := { V with sv := v, ev := fun q => if q = n then .slice none 0 0 else V.ev q, iv := fun r => if r = .ends n then .slice none 0 0 else V.iv r }
theorem MkAt.pushState (h : MkAt E w m V) {g : Nat} {v : Value} (hg : w.grownBy w1 V.sv.ownBlock) (hr : looseRow w1 E.base 41 3 v (m.N.states.length + 1) (V.srow m ++ [.int .i64 m.rule, .slice none 0 0, .slice none 0 0])) (hown : v.ownBlock = some g) (hat : V.sv.ownBlock = some g ∨ g = w.heap.size) :
    MkAt E (w1.setCell ⟨E.mb, 7, none⟩ v) m.addState (V.withS m.N.states.length v) ∧ Frk E m V m.addState (V.withS m.N.states.length v) w (w1.setCell ⟨E.mb, 7, none⟩ v) := by
  have hm' : m.addState = { m with N := { m.N with states := m.N.states ++ [⟨m.rule, [], []⟩] } } := rfl
  obtain ⟨n, hn⟩ : ∃ n, m.N.states.length = n := ⟨_, rfl⟩
  generalize m.addState = m' at *
  have hlen : m'.N.states.length = n + 1 := by rw [hm', ← hn]; simp
  have hget : ∀ q, q < n → m'.N.states[q]? = m.N.states[q]? := fun q hq => by rw [hm']; exact List.getElem?_append_left (by omega)
  have hgetn : m'.N.states[n]? = some ⟨m.rule, [], []⟩ := by rw [hm', ← hn]; simp
  have hed : ∀ q, q < n → m'.N.edges q = m.N.edges q := fun q hq => by unfold Net.edges; rw [hget q hq]
  have hen : ∀ q, q < n → m'.N.ends q = m.N.ends q := fun q hq => by unfold Net.ends; rw [hget q hq]
  have hedn : m'.N.edges n = [] := by unfold Net.edges; rw [hgetn]; rfl
  have henn : m'.N.ends n = [] := by unfold Net.ends; rw [hgetn]; rfl
  have hl : ∀ r, m'.live r → r ≠ .ends n → m.live r := fun r hr hne => by
    cases r
    case ends k =>
      have h1 : k < m'.N.states.length := hr
      rw [hlen] at h1
      show k < m.N.states.length
      have : k ≠ n := fun e => hne (by rw [e])
      omega
    all_goals trivial
  have hi : ∀ r, m.live r → E.ints m' r = E.ints m r := fun r hr => by
    cases r
    case ends k => exact hen k (by have h1 : k < m.N.states.length := hr; omega)
    all_goals rw [hm']; rfl
  have hwt : m'.waits = m.waits := by rw [hm']
  have hbx : Owns w1 E.mb (V.box E m) 65 := owns_far h.box hg (own_box h.states h.box (by decide))
  have hbx' : (V.withS n v).box E m' = (V.box E m).set 7 v := by rw [hm']; rfl
  have hsrow : (V.withS n v).srow m' = V.srow m ++ [.int .i64 m.rule, .slice none 0 0, .slice none 0 0] := by
    unfold MkV.srow
    rw [hlen, hn, List.range_succ, List.flatMap_append]
    congr 1
    · have : ∀ q ∈ List.range n, (fun k => [Value.int .i64 ((m'.N.states[k]?.map fun (s : Sta) => s.rule).getD 0), (V.withS n v).ev k, (V.withS n v).iv (.ends k)]) q = (fun k => [Value.int .i64 ((m.N.states[k]?.map fun (s : Sta) => s.rule).getD 0), V.ev k, V.iv (.ends k)]) q := by
        intro q hq
        rw [List.mem_range] at hq
        have e : ¬ q = n := by omega
        simp [MkV.withS, hget q hq, e]
      have hfm : ∀ (l : List Nat) (f g : Nat → List Value), (∀ q ∈ l, f q = g q) → l.flatMap f = l.flatMap g := by
        intro l f g hfg
        induction l with
        | nil => rfl
        | cons x r ih => rw [List.flatMap_cons, List.flatMap_cons, hfg x (by simp), ih fun q hq => hfg q (by simp [hq])]
      exact hfm _ _ _ this
    · simp [MkV.withS, hgetn]
  have hmine : ∀ c, (V.withS n v).mine E m' c → V.mine E m c ∨ w.heap.size ≤ c := by
    intro c hc
    rcases hc with hc | hc | hc | ⟨r, hr', hc⟩ | ⟨k, hk, hc⟩
    · exact .inl (.inl hc)
    · have hc : v.ownBlock = some c := hc
      rw [hown] at hc
      cases hc
      rcases hat with hx | hx
      · exact .inl (.inr (.inl hx))
      · exact .inr (by omega)
    · exact .inl (.inr (.inr (.inl hc)))
    · by_cases e : r = .ends n
      · subst e
        simp [MkV.withS, Value.ownBlock] at hc
      · simp only [MkV.withS, e, if_false] at hc
        exact .inl (.inr (.inr (.inr (.inl ⟨r, hl r hr' e, hc⟩))))
    · by_cases e : k = n
      · subst e
        simp [MkV.withS, Value.ownBlock] at hc
      · simp only [MkV.withS, e, if_false] at hc
        exact .inl (.inr (.inr (.inr (.inr ⟨k, by omega, hc⟩))))
  rw [hn] at hr ⊢
  refine ⟨⟨by rw [hbx']; exact hbx.set 7 v, fun r hr' => ?_, fun k hk => ?_, ?_, ?_, fun r1 r2 h1 h2 hne hff c hc => ?_, fun k k' hk hk' hne c hc => ?_, h.lo⟩, Frk.two hg (fun c hc => .inr (.inl hc)) (.inl rfl) hmine (fun r hr => if_neg fun e => by rw [e] at hr; cases hr)⟩
  · by_cases e : r = .ends n
    · subst e
      have : E.ints m' (.ends n) = [] := henn
      rw [this]
      simp only [MkV.withS, if_true]
      exact ⟨rfl, .inl ⟨rfl, rfl⟩⟩
    · have hlr := hl r hr' e
      rw [hi r hlr]
      simp only [MkV.withS, e, if_false]
      have h1 := h.ints r hlr
      have h2 := loose_far h1 hg (fun c hc hc2 => own_ne h1 h.states (by decide) c hc hc2)
      exact loose_put h2 (own_box h2 hbx (by decide))
  · rw [hlen] at hk
    by_cases e : k = n
    · subst e
      rw [hedn]
      simp only [MkV.withS, if_true]
      exact ⟨rfl, .inl ⟨rfl, rfl⟩⟩
    · rw [hed k (by omega)]
      simp only [MkV.withS, e, if_false]
      have h1 := h.edges k (by omega)
      have h2 := loose_far h1 hg (fun c hc hc2 => own_ne h1 h.states (by decide) c hc hc2)
      exact loose_put h2 (own_box h2 hbx (by decide))
  · rw [hlen, hsrow]
    exact loose_put hr (own_box hr hbx (by decide))
  · obtain ⟨cs, h1, h2⟩ := h.waits
    rw [hwt]
    have h3 := loose_farT h1 hg (fun b hb hb2 => own_neT h1 h.states (by decide) b hb hb2)
    exact ⟨cs, loose_putT h3 (own_boxT h3 hbx (by decide)), waits_two h2 h.lim hg (fun c hc => (row_own h.states hc).1) h.lo⟩
  · by_cases e1 : r1 = .ends n
    · subst e1
      simp [MkV.withS, Value.ownBlock] at hc
    · by_cases e2 : r2 = .ends n
      · subst e2
        simp [MkV.withS, Value.ownBlock]
      · simp only [MkV.withS, e1, e2, if_false] at hc ⊢
        exact h.iinj r1 r2 (hl r1 h1 e1) (hl r2 h2 e2) hne hff c hc
  · by_cases e1 : k = n
    · subst e1
      simp [MkV.withS, Value.ownBlock] at hc
    · by_cases e2 : k' = n
      · subst e2
        simp [MkV.withS, Value.ownBlock]
      · simp only [MkV.withS, e1, e2, if_false] at hc ⊢
        exact h.einj k k' (by omega) (by omega) hne c hc
theorem waits_snoc {lim : Nat} {W : World} {x : Int × Nd} {c0 c1 c2 c3 c4 : Value} (hx : NodeAt W lim (some c0) (some c1) (some c2) (some c3) (some c4) x.2) : ∀ {l : List (Int × Nd)} {cs : List Value}, WaitsAt W lim l cs → WaitsAt W lim (l ++ [x]) (cs ++ [.int .i64 x.1, c0, c1, c2, c3, c4])
  | [], _, h => by
    have h : _ = [] := h
    subst h
    exact ⟨c0, c1, c2, c3, c4, [], rfl, hx, rfl⟩
  | _ :: _, _, ⟨d0, d1, d2, d3, d4, cs', h1, h2, h3⟩ => ⟨d0, d1, d2, d3, d4, cs' ++ [.int .i64 x.1, c0, c1, c2, c3, c4], by rw [h1]; rfl, h2, waits_snoc hx h3⟩
def MkV.withW (V : MkV) (v : Value) : MkV := { V with wv := v }
theorem MkAt.pushWait (h : MkAt E w m V) {g : Nat} {v : Value} {x : Int × Nd} {cs cs' : List Value} (hcs : tailRow w E.base 69 6 V.wv m.waits.length cs) (hg : w.grownBy w1 V.wv.ownBlock) (hr : looseRow w1 E.base 69 6 v (m.waits.length + 1) cs') (hw : WaitsAt w E.base (m.waits ++ [x]) cs') (hown : v.ownBlock = some g) (hat : V.wv.ownBlock = some g ∨ g = w.heap.size) :
    MkAt E (w1.setCell ⟨E.mb, 12, none⟩ v) (m.addWait x) (V.withW v) ∧ Frk E m V (m.addWait x) (V.withW v) w (w1.setCell ⟨E.mb, 12, none⟩ v) := by
  have hbx : Owns w1 E.mb (V.box E m) 65 := owns_far h.box hg (own_boxT hcs h.box (by decide))
  have hmine : ∀ c, (V.withW v).mine E (m.addWait x) c → V.mine E m c ∨ w.heap.size ≤ c := by
    intro c hc
    rcases hc with hc | hc | hc | ⟨r, hr', hc⟩ | ⟨k, hk, hc⟩
    · exact .inl (.inl hc)
    · exact .inl (.inr (.inl hc))
    · have hc : v.ownBlock = some c := hc
      rw [hown] at hc
      cases hc
      rcases hat with hx | hx
      · exact .inl (.inr (.inr (.inl hx)))
      · exact .inr (by omega)
    · exact .inl (.inr (.inr (.inr (.inl ⟨r, by cases r <;> exact hr', hc⟩))))
    · exact .inl (.inr (.inr (.inr (.inr ⟨k, hk, hc⟩))))
  have hi : ∀ r, E.ints (m.addWait x) r = E.ints m r := fun r => by cases r <;> rfl
  have hl : ∀ r, (m.addWait x).live r → m.live r := fun r hr => by cases r <;> exact hr
  refine ⟨⟨hbx.set 12 v, fun r hr' => ?_, fun k hk => ?_, ?_, ?_, fun r1 r2 h1 h2 => h.iinj r1 r2 (hl r1 h1) (hl r2 h2), h.einj, h.lo⟩, Frk.two hg (fun c hc => .inr (.inr (.inl hc))) (.inl rfl) hmine (fun _ _ => rfl)⟩
  · rw [hi]
    have h1 := h.ints r (hl r hr')
    have h2 := loose_far h1 hg (fun c hc hc2 => own_neR h1 hcs (by decide) c hc hc2)
    exact loose_put h2 (own_box h2 hbx (by decide))
  · have h1 := h.edges k hk
    have h2 := loose_far h1 hg (fun c hc hc2 => own_neR h1 hcs (by decide) c hc hc2)
    exact loose_put h2 (own_box h2 hbx (by decide))
  · have h2 := loose_far h.states hg (fun c hc hc2 => own_neR h.states hcs (by decide) c hc hc2)
    exact loose_put h2 (own_box h2 hbx (by decide))
  · refine ⟨cs', ?_, waits_two hw h.lim hg (fun c hc => (trow_own hcs hc).1) h.lo⟩
    have : (m.addWait x).waits.length = m.waits.length + 1 := by simp [Mk.addWait]
    rw [this]
    exact .inl (loose_put hr (own_box hr hbx (by decide)))
end
end Go.Proofs.YtiiffcmojkdlaaaGreatDoor
