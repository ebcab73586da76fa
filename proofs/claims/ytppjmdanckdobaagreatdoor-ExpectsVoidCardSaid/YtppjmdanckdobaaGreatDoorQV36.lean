/- node of expects, whole; all calls of rules. -/
import Derived.Sort.OwnSortedInts
import Derived.Shelf.Slices.In.SortNone
import Derived.Test.YtppjmdanckdobaaGreatDoorShelf
import Derived.Test.YtppjmdanckdobaaGreatDoorQV31
import Derived.Test.YtppjmdanckdobaaGreatDoorQV32
import Derived.Test.YtppjmdanckdobaaGreatDoorQV33
import Derived.Test.YtppjmdanckdobaaGreatDoorQV34
import Derived.Test.YtppjmdanckdobaaGreatDoorQV35
import Derived.Test.YtppjmdanckdobaaGreatDoorQV8
import Derived.Test.YtppjmdanckdobaaGreatDoorQV9
namespace Go.Proofs.YtppjmdanckdobaaGreatDoor
open Go.RowKit
theorem xnode_ok (E : XE) (hB : E.B.Lng) : ∀ n : Nd, n.lp → NodeX E n := by
  intro n
  induction n using Nd.ind with
  | h k nm tx set subs ih =>
    intro hlp m S W v0 v1 v2 v3 v4 hm hml hA hN hV
    rw [Nd.lp] at hlp
    have hno : ∀ s ∈ subs, NodeX E s := fun s hs => by
      obtain ⟨i, hi, rfl⟩ := List.mem_iff_getElem.1 hs
      exact ih i hi (Nd.lpL.mem hlp.2 _ hs)
    by_cases hm0 : m = 0
    · exact xn_zero E hB k nm tx set subs m hm0 S W v0 v1 v2 v3 v4 hm hml hA hN hV
    cases hdt : E.B.dv (.mk k nm tx set subs) with
    | false => exact xn_void E hB k nm tx set subs m hm0 hdt S W v0 v1 v2 v3 v4 hm hml hA hN hV
    | true =>
      have hsx : k = 2 ∨ k = 3 ∨ k = 4 → ∃ x r, subs = x :: r := fun hk => by
        cases subs with
        | nil => exact absurd rfl (hlp.1 hk)
        | cons x r => exact ⟨x, r, rfl⟩
      by_cases hko : k < 0 ∨ 6 < k
      · exact xn_other E hB k nm tx set subs m hko hm0 hdt S W v0 v1 v2 v3 v4 hm hml hA hN hV
      obtain rfl | rfl | rfl | rfl | rfl | rfl | rfl : k = 0 ∨ k = 1 ∨ k = 2 ∨ k = 3 ∨ k = 4 ∨ k = 5 ∨ k = 6 := by omega
      · exact xn_alt E hB nm tx set subs hno m hm0 hdt S W v0 v1 v2 v3 v4 hm hml hA hN hV
      · exact xn_seq E hB nm tx set subs hno m hm0 hdt S W v0 v1 v2 v3 v4 hm hml hA hN hV
      · obtain ⟨x, r, hx⟩ := hsx (.inl rfl)
        exact xn_opt E hB nm tx set subs x ⟨r, hx⟩ (hno x (by rw [hx]; exact List.mem_cons_self ..)) m hm0 hdt S W v0 v1 v2 v3 v4 hm hml hA hN hV
      · obtain ⟨x, r, hx⟩ := hsx (.inr (.inl rfl))
        exact xn_star E hB nm tx set subs x ⟨r, hx⟩ (xagain_ok E x (hno x (by rw [hx]; exact List.mem_cons_self ..))) m hm0 hdt S W v0 v1 v2 v3 v4 hm hml hA hN hV
      · obtain ⟨x, r, hx⟩ := hsx (.inr (.inr rfl))
        exact xn_plus E hB nm tx set subs x ⟨r, hx⟩ (xagain_ok E x (hno x (by rw [hx]; exact List.mem_cons_self ..))) m hm0 hdt S W v0 v1 v2 v3 v4 hm hml hA hN hV
      · exact xn_ref E hB nm tx set subs m hm0 hdt S W v0 v1 v2 v3 v4 hm hml hA hN hV
      · exact xn_tok E hB nm tx set subs m hm0 hdt S W v0 v1 v2 v3 v4 hm hml hA hN hV
theorem xask_all (E : XE) (hB : E.B.Lng) (hlp : ∀ n ∈ E.B.bodies, n.lp) (hw : E.wl.length ≤ 48) (rank : Nat → Nat) (hr : Ranked E.B E.wl rank) : ∀ r a, r < E.B.bodies.length → a ≤ E.wl.length → AskX E r a
  | r, a, h, ha => by
    have hn : E.B.bodies[r]? = some E.B.bodies[r] := List.getElem?_eq_getElem h
    have hb : ∀ i, (2 ^ a).testBit i = true → i = a := fun i hi => by
      rw [Nat.testBit_two_pow, decide_eq_true_eq] at hi
      exact hi.symm
    refine xfrom_ok E r a ha _ hn fun S W v0 v1 v2 v3 v4 hA hN => ?_
    refine (xnode_ok E hB _ (hlp _ (List.getElem_mem h)) (2 ^ a) S W v0 v1 v2 v3 v4 (Nat.pow_lt_pow_right (by omega) (by omega)) (fun i hi => by rw [hb i hi]; exact ha) hA hN (fun i r' a' hi hv => ?_)).mono (fun e W' hres => hres.iff (fun j => ?_) fun t => ?_)
    · rw [hb i hi] at hv
      obtain ⟨h1, h2⟩ := hr r _ a r' a' hn ha hv
      have h3 := hv.le
      exact xask_all E hB hlp hw rank hr r' a' h1 (h3.2 ha)
    · constructor
      · rintro ⟨i, hi, hd⟩
        obtain rfl := hb i hi
        exact hd
      · intro hd
        exact ⟨a, by rw [Nat.testBit_two_pow]; simp, hd⟩
    · constructor
      · rintro ⟨i, t', hi, hd, h3⟩
        obtain rfl := hb i hi
        exact ⟨t', hd, h3⟩
      · rintro ⟨t', hd, h3⟩
        exact ⟨a, t', by rw [Nat.testBit_two_pow]; simp, hd, h3⟩
termination_by r a => (E.wl.length - a, rank r)
decreasing_by
  have h4 := h3.2 ha
  by_cases e : a' = a
  · rw [e]
    exact Prod.Lex.right _ (h2 e)
  · exact Prod.Lex.left _ _ (by omega)
end Go.Proofs.YtppjmdanckdobaaGreatDoor

/- A table: has; a walk that begins. -/
namespace Go.Proofs.YtppjmdanckdobaaGreatDoor
open Go.RowKit
structure XT where
  tb : Nat
  bk : Nat
  nm : Nat
  tm : Nat
  V : BV
  kv : Value
  ba : Option Addr
  bc : Nat
  B : Bk
def XT.e (T : XT) (lim kw kb nb : Nat) (wa : Option Addr) (wc : Nat) (wl : List Int) : XE := ⟨lim, kw, kb, nb, T.tb, T.bk, T.nm, T.tm, T.V, T.kv, T.ba, T.bc, wa, wc, T.B, wl⟩
def XT.ptr (T : XT) : Value := .pointer (some ⟨T.tb, 0, none⟩)
def XT.At (T : XT) (lim : Nat) (w : World) : Prop := (T.e lim 0 0 0 none 0 []).Tab w
theorem XT.At.to {T : XT} {lim : Nat} {w : World} (h : T.At lim w) (kw kb nb : Nat) (wa : Option Addr) (wc : Nat) (wl : List Int) : (T.e lim kw kb nb wa wc wl).Tab w := ⟨h.low, h.tbl, h.box, h.book, h.names, h.toks, h.nlo, h.kinds, h.bodies⟩
theorem XT.At.keep {T : XT} {lim : Nat} {w w' : World} (h : T.At lim w) (hb : Below lim w w') : T.At lim w' := XE.Tab.keep h hb
theorem XT.At.mono {T : XT} {lim lim' : Nat} {w : World} (h : T.At lim w) (h1 : lim ≤ lim') (h2 : lim' ≤ w.heap.size) : T.At lim' w :=
  ⟨h2, Nat.lt_of_lt_of_le h.tbl h1, h.box, h.book.mono h1 h2, h.names, h.toks, ⟨Nat.lt_of_lt_of_le h.nlo.1 h1, Nat.lt_of_lt_of_le h.nlo.2 h1⟩, IntsV.mono h1 h.kinds, h.bodies.mono h1⟩
theorem XT.At.grew {T : XT} {w w' : World} (h : T.At w.heap.size w) (hg : Grew w w') : T.At w'.heap.size w' := (h.keep hg).mono hg.size (Nat.le_refl _)
def hasX (B : Bk) (r : Int) (n : Nat) : Bool := decide (0 ≤ r) && (decide (r < (B.bodies.length : Int)) && decide (n ≤ 48))
set_option maxRecDepth 20000 in
theorem xhas_ok (T : XT) (r : Int) (a : Option Addr) (n c : Nat) (W : World) (hT : T.At W.heap.size W) : Calls Tryz.prog 16 #[T.ptr, .int .i64 r, .slice a n c] W fun e W' => e = .returned (.bool (hasX T.B r n)) ∧ W' = W := by
  have t4 := hT.box.cell_at (i := 4) rfl
  have tl := hT.box.lt
  unfold XT.e at t4 tl
  dsimp only at t4 tl
  unfold XT.ptr hasX
  clear hT
  by_cases h0 : 0 ≤ r
  · by_cases h1 : r < (T.B.bodies.length : Int)
    · go_enter Tryz.func16, Tryz.ntmps16
      go_wp2_with fail
      go_ret
      exact ⟨ret_bool (by simp [h0, h1]; omega), rfl⟩
    · go_enter Tryz.func16, Tryz.ntmps16
      go_wp2_with fail
      go_ret
      exact ⟨ret_bool (by simp; omega), rfl⟩
  · go_enter Tryz.func16, Tryz.ntmps16
    go_wp2_with fail
    go_ret
    exact ⟨ret_bool (by simp; omega), rfl⟩
theorem xhas_nil (r : Int) (a : Option Addr) (n c : Nat) (W : World) : Calls Tryz.prog 16 #[.pointer none, .int .i64 r, .slice a n c] W fun e W' => e = .returned (.bool false) ∧ W' = W := by
  go_enter Tryz.func16, Tryz.ntmps16
  go_wp2_with fail
  go_ret
  exact ⟨rfl, rfl⟩
def XNextS (B : Bk) (r : Nat) (wl : List Int) (x : Int) : Prop := ∃ (n : Nd) (t : Nat), B.bodies[r]? = some n ∧ Nx B wl n 0 t ∧ x = (t : Int)
theorem XE.At.begin {T : XT} {lim kw kb nb : Nat} {wa : Option Addr} {wc : Nat} {wl : List Int} {w : World} (h : T.At lim w) (hbox : Owns w kw [.pointer (some ⟨T.tb, 0, none⟩), .slice wa wl.length wc, .map (some kb), .map (some nb)] 64) (hi : IntsAt w lim wa wl) (h1 : lim ≤ kw) (h2 : lim ≤ kb) (h3 : lim ≤ nb) (hne : kb ≠ nb) (hw : wl.length ≤ 48) (hk : w.heap[kb]? = some (mapObj [])) (hn : w.heap[nb]? = some (mapObj [])) : (T.e lim kw kb nb wa wc wl).At (fun _ => False) w :=
  ⟨h.to _ _ _ _ _ _, hbox, hi, ⟨h1, h2, h3⟩, hne, hw, ⟨[], hk, fun e he => by simp at he⟩, ⟨[], hn, List.nodup_nil, fun t => by simp⟩⟩
theorem xstart_ok (T : XT) (hG : T.B.Good) (hB : T.B.Lng) {lim kw kb nb : Nat} {wa : Option Addr} {wc : Nat} {wl : List Int} {w : World} (hA : (T.e lim kw kb nb wa wc wl).At (fun _ => False) w) (r : Nat) (hr : r < T.B.bodies.length) :
    Calls Tryz.prog 19 #[.pointer (some ⟨kw, 0, none⟩), .agg #[.int .i64 (r : Int), .int .i64 0]] w fun e W' => ∃ q, e = .returned (setV q) ∧ q < 2 ^ 49 ∧ (q.testBit wl.length = true ↔ T.B.D r wl) ∧ NoteX (XNextS T.B r wl) nb W' ∧ But (fun k => k = kb ∨ k = nb) w W' := by
  obtain ⟨rank, hrank⟩ := hG.rank wl (by have := hA.few; show wl.length ≤ 64; exact Nat.le_trans this (by omega))
  have h := xask_all (T.e lim kw kb nb wa wc wl) hB hG.lp hA.few rank hrank r 0 hr (Nat.zero_le _) (fun _ => False) w hA
  refine h.mono ?_
  rintro e W' ⟨q, rfl, h1, h2, h3, h4⟩
  refine ⟨q, rfl, h1, h2.2 wl.length, ?_, h4⟩
  have hS : (fun t => False ∨ XNxt (T.e lim kw kb nb wa wc wl) r 0 t) = XNextS T.B r wl := funext fun t => propext ⟨fun h => h.elim False.elim id, .inr⟩
  have := h3.note
  rw [hS] at this
  exact this
end Go.Proofs.YtppjmdanckdobaaGreatDoor

/- slices.Sort of a row of ints of the call's own; a walk over a map's entries. -/
namespace Go.Proofs.YtppjmdanckdobaaGreatDoor
open Go.RowKit Go.Sort
theorem nodup_ints {M : Nat} {l : List Int} (hd : l.Nodup) (h : ∀ x ∈ l, -1 ≤ x ∧ x < (M : Int) - 1) : l.length ≤ M := by
  have := List.Nodup.length_le_of_subset hd (show l ⊆ (List.range M).map (fun (i : Nat) => (i : Int) - 1) from fun x hx => by
    have := h x hx
    exact List.mem_map.2 ⟨(x + 1).toNat, List.mem_range.2 (by omega), by omega⟩)
  rwa [List.length_map, List.length_range] at this
theorem nodup_nats {l : List Nat} {m : Nat} (h : l.Nodup) (hl : ∀ j ∈ l, j < m) : l.length ≤ m := by
  have := List.Nodup.length_le_of_subset h (show l ⊆ List.range m from fun j hj => List.mem_range.2 (hl j hj))
  rwa [List.length_range] at this
def SeenX (m : Nat) (seen : List Nat) (last k : Nat) : Prop := seen.Nodup ∧ (∀ j ∈ seen, j < m) ∧ (seen ≠ [] → 1 ≤ last) ∧ k + seen.length = m + 1
theorem SeenX.first (m last : Nat) : SeenX m [] last (m + 1) := ⟨List.nodup_nil, fun j hj => absurd hj (by simp), fun h => absurd rfl h, by simp⟩
theorem SeenX.more {seen : List Nat} {m j k last : Nat} (h : SeenX m seen last k) (hn : j ∉ seen) (hj : j < m) : k - 1 < k ∧ SeenX m (seen ++ [j]) m (k - 1) ∧ seen.length < m := by
  obtain ⟨h1, h2, _, h4⟩ := h
  have h5 : (seen ++ [j]).Nodup := by
    rw [List.nodup_append]
    exact ⟨h1, by simp, fun a ha b hb => by simp at hb; subst hb; exact fun e => hn (e ▸ ha)⟩
  have h6 : ∀ i ∈ seen ++ [j], i < m := fun i hi => by
    rcases List.mem_append.1 hi with h | h
    · exact h2 i h
    · simp at h; omega
  have h7 := nodup_nats h5 h6
  simp at h7
  refine ⟨by omega, ⟨h5, h6, fun _ => by omega, ?_⟩, by omega⟩
  simp
  omega
theorem nodup_same {l : List Int} (h : l.Nodup) {a b : Nat} (ha : a < l.length) (hb : b < l.length) (e : l[a] = l[b]) : a = b := by
  rcases Nat.lt_trichotomy a b with hl | hl | hl
  · exact absurd e (List.pairwise_iff_getElem.1 h a b ha hb hl)
  · exact hl
  · exact absurd e.symm (List.pairwise_iff_getElem.1 h b a hb ha hl)
def metL (L : List Int) (seen : List Nat) : List Int := seen.map fun i => L.getD i 0
theorem metL_snoc (L : List Int) (seen : List Nat) (j : Nat) : metL L (seen ++ [j]) = metL L seen ++ [L.getD j 0] := by simp [metL]
theorem metL_len (L : List Int) (seen : List Nat) : (metL L seen).length = seen.length := by simp [metL]
theorem metL_all {L : List Int} {seen : List Nat} (hd : L.Nodup) (h1 : seen.Nodup) (h2 : ∀ j ∈ seen, j < L.length) (h3 : ∀ i, i < L.length → i ∈ seen) : (metL L seen).Nodup ∧ ∀ x, x ∈ metL L seen ↔ x ∈ L := by
  constructor
  · unfold metL
    unfold List.Nodup
    rw [List.pairwise_map]
    refine List.Pairwise.imp_of_mem ?_ h1
    intro a b ha hb hne e
    have h4 := h2 a ha
    have h5 := h2 b hb
    rw [List.getD_eq_getElem?_getD, List.getD_eq_getElem?_getD, List.getElem?_eq_getElem h4, List.getElem?_eq_getElem h5] at e
    exact hne (nodup_same hd h4 h5 e)
  · intro x
    constructor
    · intro hx
      obtain ⟨i, hi, rfl⟩ := List.mem_map.1 hx
      rw [List.getD_eq_getElem?_getD, List.getElem?_eq_getElem (h2 i hi)]
      exact List.getElem_mem _
    · intro hx
      obtain ⟨i, hi, rfl⟩ := List.mem_iff_getElem.1 hx
      exact List.mem_map.2 ⟨i, h3 i hi, by rw [List.getD_eq_getElem?_getD, List.getElem?_eq_getElem hi]; rfl⟩
theorem sort_rise {l : List Int} (h : l.Nodup) : (l.mergeSort fun x y => decide (x ≤ y)).Pairwise (· < ·) := by
  have h1 := List.pairwise_mergeSort (le := fun x y : Int => decide (x ≤ y)) (by intro a b c h1 h2; simp at *; omega) (by intro a b; simp; omega) l
  have h2 : (l.mergeSort fun x y => decide (x ≤ y)).Nodup := (List.mergeSort_perm l _).nodup_iff.2 h
  refine (List.pairwise_and_iff.2 ⟨h1, h2⟩).imp ?_
  intro a b ⟨h3, h4⟩
  simp at h3
  omega
structure LoopX (W : World) (L : List Int) (mb r : Nat) (seen : List Nat) (last k : Nat) (v : Value) (wr : World) : Prop where
  sees : SeenX L.length seen last k
  row : looseRow wr W.heap.size 3 1 v seen.length (intVs (metL L seen))
  iter : IterAt wr r mb L.length seen last
  map : wr.heap[mb]? = some (mapObj (noteL L))
  grew : Grew W wr
  mlo : W.heap.size ≤ mb
  rlo : W.heap.size ≤ r
theorem LoopX.begin {W w : World} {L : List Int} {mb : Nat} (hg : Grew W w) (hm : w.heap[mb]? = some (mapObj (noteL L))) (hl : W.heap.size ≤ mb) :
    LoopX W L mb w.heap.size [] L.length (L.length + 1) (.slice none 0 0) (w.alloc (.mapIter (some mb) L.length #[] L.length)) := by
  have hga := grew_alloc w (.mapIter (some mb) L.length #[] L.length)
  refine ⟨SeenX.first _ _, ⟨rfl, .inl ⟨rfl, rfl⟩⟩, ?_, by rw [hga.block _ (Array.getElem?_eq_some_iff.1 hm).1]; exact hm, hg.trans hga, hl, hg.size⟩
  unfold IterAt
  exact heap_alloc_new w _
theorem LoopX.own {W wr : World} {L : List Int} {mb r last k : Nat} {seen : List Nat} {v : Value} (h : LoopX W L mb r seen last k v wr) : v.ownBlock ≠ some r ∧ v.ownBlock ≠ some mb := by
  constructor
  · intro e
    obtain ⟨_, cs, h2⟩ := row_own h.row e
    have h3 := h.iter
    unfold IterAt at h3
    rw [h3] at h2
    cases h2
  · intro e
    obtain ⟨_, cs, h2⟩ := row_own h.row e
    have h3 := h.map
    rw [h3] at h2
    unfold mapObj at h2
    cases h2
theorem grewPut {W w w1 : World} (hg : Grew W w) (hw : w1 = w ∨ w1 = w.drew) {r : Nat} (hr : W.heap.size ≤ r) (o : Obj) : Grew W (putObj w1 r o) := by
  have hb : w1.heap = w.heap := by rcases hw with rfl | rfl <;> rfl
  refine ⟨?_, ?_, ?_, by rw [putObj_size, hb]; exact hg.size, fun k hk => by rw [putObj_other (by omega), hb]; exact hg.block k hk⟩
  · rcases hw with rfl | rfl <;> exact hg.os
  · rcases hw with rfl | rfl <;> exact hg.tape
  · rcases hw with rfl | rfl <;> exact hg.output
theorem LoopX.step {W wr : World} {L : List Int} {mb r last k : Nat} {seen : List Nat} {v : Value} (h : LoopX W L mb r seen last k v wr) (hd : L.Nodup) (ty : TypeId) :
    (∃ w1, (Instr.next (.pointer (some ⟨r, 0, none⟩)) false ty).run Tryz.prog wr = .ok (.tuple #[.bool false]) w1 ∧ looseRow w1 W.heap.size 3 1 v seen.length (intVs (metL L seen)) ∧ Grew W w1 ∧ (metL L seen).Nodup ∧ ∀ x, x ∈ metL L seen ↔ x ∈ L) ∨
    ∃ (j : Nat) (t : Int) (w1 : World), (Instr.next (.pointer (some ⟨r, 0, none⟩)) false ty).run Tryz.prog wr = .ok (.tuple #[.bool true, .int .i64 t, .agg #[]]) w1 ∧ (Instr.entry (.pointer (some ⟨r, 0, none⟩))).run Tryz.prog w1 = .ok (.tuple #[.int .i64 t, .agg #[]]) w1 ∧
      looseRow w1 W.heap.size 3 1 v seen.length (intVs (metL L seen)) ∧ Grew W w1 ∧ seen.length < L.length ∧ k - 1 < k ∧
      ∀ w2 w5 g cap, Grew w1 w2 → looseRow w5 W.heap.size 3 1 (.slice (some ⟨g, 0, none⟩) (seen.length + 1) cap) (seen.length + 1) (intVs (metL L seen) ++ [.int .i64 t]) → w2.grownBy w5 v.ownBlock → LoopX W L mb r (seen ++ [j]) L.length (k - 1) (.slice (some ⟨g, 0, none⟩) (seen.length + 1) cap) w5 := by
  have hlen : (noteL L).length = L.length := by simp [noteL]
  have hd' := hd
  rcases run_next_mapObj (P := Tryz.prog) h.iter h.map h.sees.2.2.1 (by rw [hlen]; exact Nat.le_refl _) ty with ⟨hall, w1, hw1, hrun⟩ | ⟨j, hj, hns, w1, hw1, hrun⟩
  · left
    obtain ⟨m1, m2⟩ := metL_all hd h.sees.1 h.sees.2.1 hall
    have hb : But (fun _ => False) wr w1 := by
      rcases hw1 with rfl | rfl
      · exact But.refl _ _
      · exact (But.refl _ _).drew
    exact ⟨w1, hrun, row_but h.row hb fun _ _ => id, h.grew.trans ⟨hb.os, hb.tape, hb.output, hb.size, fun k hk => hb.block k hk id⟩, m1, m2⟩
  · right
    have hjL : j < L.length := by rw [← hlen]; exact hj
    have hget : (noteL L)[j] = (.int .i64 L[j], .agg #[]) := by simp [noteL]
    rw [hget, hlen] at hrun
    obtain ⟨hk1, hs1, hlt⟩ := h.sees.more hns hjL
    obtain ⟨ho1, ho2⟩ := h.own
    have hb0 : But (fun _ => False) wr w1 := by
      rcases hw1 with rfl | rfl
      · exact But.refl _ _
      · exact (But.refl _ _).drew
    have hb1 : But (fun q => q = r) wr (putObj w1 r (.mapIter (some mb) L.length (seen ++ [j]).toArray L.length)) := (hb0.wideX (G := fun q => q = r) fun _ _ e => e.elim).trans (But.put (F := fun q => q = r) rfl) fun _ _ e => e
    have hne : mb ≠ r := fun e => by
      have h3 := h.iter
      unfold IterAt at h3
      rw [← e, h.map] at h3
      unfold mapObj at h3
      cases h3
    have hmap1 : (putObj w1 r (.mapIter (some mb) L.length (seen ++ [j]).toArray L.length)).heap[mb]? = some (mapObj (noteL L)) := by
      rw [hb1.block _ (Array.getElem?_eq_some_iff.1 h.map).1 hne]
      exact h.map
    have hit1 : IterAt (putObj w1 r (.mapIter (some mb) L.length (seen ++ [j]).toArray L.length)) r mb L.length (seen ++ [j]) L.length := by
      unfold IterAt
      have hr0 := h.iter
      unfold IterAt at hr0
      exact putObj_same (by have := (Array.getElem?_eq_some_iff.1 hr0).1; exact Nat.lt_of_lt_of_le this hb0.size) _
    refine ⟨j, L[j], _, hrun, ?_, row_but h.row hb1 fun g hg e => ho1 (by rw [hg, e]), grewPut h.grew hw1 h.rlo _, hlt, hk1, fun w2 w5 g cap hg2 hrow hgr => ?_⟩
    · have he := run_entry_mapObj (P := Tryz.prog) (w := putObj w1 r (.mapIter (some mb) L.length (seen ++ [j]).toArray L.length)) hj (by rw [hlen]; exact hit1) hmap1
      rw [hget] at he
      exact he
    · have hG0 := grewPut h.grew hw1 h.rlo (.mapIter (some mb) L.length (seen ++ [j]).toArray L.length)
      generalize putObj w1 r (.mapIter (some mb) L.length (seen ++ [j]).toArray L.length) = w11 at *
      have hr2 := Nat.lt_of_lt_of_le (Array.getElem?_eq_some_iff.1 hit1).1 hg2.size
      have hm2 := Nat.lt_of_lt_of_le (Array.getElem?_eq_some_iff.1 hmap1).1 hg2.size
      refine ⟨hs1, ?_, ?_, ?_, ?_, h.mlo, h.rlo⟩
      · rw [metL_snoc, intVs_snoc, List.length_append, List.length_singleton, List.getD_eq_getElem?_getD, List.getElem?_eq_getElem hjL]
        exact hrow
      · unfold IterAt
        rw [hgr.block r hr2 (fun e => ho1 e.symm), hg2.block r (Array.getElem?_eq_some_iff.1 hit1).1]
        exact hit1
      · rw [hgr.block mb hm2 (fun e => ho2 e.symm), hg2.block mb (Array.getElem?_eq_some_iff.1 hmap1).1]
        exact hmap1
      · have hrow2 : looseRow w2 W.heap.size 3 1 v seen.length (intVs (metL L seen)) := row_but (row_but h.row hb1 fun g hg e => ho1 (by rw [hg, e])) (But.of_grew (F := fun _ => False) hg2) fun _ _ => id
        exact grew_loose hrow2 (hG0.trans hg2) hgr
theorem sortInt_ok (w : World) (base : Nat) (v : Value) (l : List Int) (hl : l.length ≤ reachN) (h : looseRow w base 3 1 v l.length (intVs l)) :
    Calls Tryz.prog 20 #[v] w fun e w' => e = .returned (.tuple #[]) ∧ looseRow w' base 3 1 v l.length (intVs (l.mergeSort fun x y => decide (x ≤ y))) ∧ w.grownBy w' v.ownBlock := by
  rcases h.2 with ⟨rfl, h0⟩ | ⟨g, cap, cur, rfl, h1, h2, h3, h4, h5, h6⟩
  · have hn : l = [] := List.eq_nil_of_length_eq_zero h0
    subst hn
    refine (Any.slices_Sort_int_none Tryz.lays189 none 0 w).mono ?_
    rintro e w' ⟨rfl, rfl⟩
    rw [List.mergeSort_nil]
    exact ⟨rfl, h, ⟨rfl, rfl, rfl, Nat.le_refl _, fun _ _ _ => rfl⟩⟩
  · rw [Nat.mul_one] at h6
    refine (Tryz.slices_Sort_int g 0 cap l w (holds_of_blockI h2 h6) (Array.getElem?_eq_some_iff.1 h2).1 (by unfold reachN at hl; omega)).mono ?_
    rintro e w' ⟨rfl, n, os, rfl⟩
    have hlen : (l.mergeSort fun x y => decide (x ≤ y)).length = l.length := List.length_mergeSort l
    refine ⟨rfl, ⟨by simp [intVs, hlen], .inr ⟨g, cap, _, rfl, h1, heap_sortedI _ h2, h3, h4, ?_, ?_⟩⟩, grownBy_sortedI _⟩
    · unfold putCells
      simpa using h5
    · rw [Nat.mul_one, ← hlen]
      exact take_putCellsI cur _ (by omega)
end Go.Proofs.YtppjmdanckdobaaGreatDoor
