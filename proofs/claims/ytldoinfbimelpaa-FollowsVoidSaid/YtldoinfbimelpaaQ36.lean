/- The chapter's example: small facts that its walk wants. -/
import Derived.Test.YtldoinfbimelpaaQ35
namespace Go.Proofs.Ytldoinfbimelpaa
open Go.RowKit

theorem set_but {w : World} {b T i : Nat} {cs : List Value} {v : Value} (h : Owns w b cs T) : But (fun q => q = b) w (w.setCell ⟨b, i, none⟩ v) := by
  rw [setCell_put h]
  exact But.put (F := fun q => q = b) rfl
theorem set_five {w : World} {b T : Nat} {cs : List Value} (h : Owns w b cs T) (y0 y1 y2 y3 y4 : Value) :
    But (fun q => q = b) w (((((w.setCell ⟨b, 2, none⟩ y0).setCell ⟨b, 3, none⟩ y1).setCell ⟨b, 4, none⟩ y2).setCell ⟨b, 5, none⟩ y3).setCell ⟨b, 6, none⟩ y4) ∧
    Owns (((((w.setCell ⟨b, 2, none⟩ y0).setCell ⟨b, 3, none⟩ y1).setCell ⟨b, 4, none⟩ y2).setCell ⟨b, 5, none⟩ y3).setCell ⟨b, 6, none⟩ y4) b (((((cs.set 2 y0).set 3 y1).set 4 y2).set 5 y3).set 6 y4) T := by
  have h1 := h.set 2 y0
  have h2 := h1.set 3 y1
  have h3 := h2.set 4 y2
  have h4 := h3.set 5 y3
  have h5 := h4.set 6 y4
  exact ⟨((((set_but h).trans (set_but h1) fun _ _ e => e).trans (set_but h2) fun _ _ e => e).trans (set_but h3) fun _ _ e => e).trans (set_but h4) fun _ _ e => e, h5⟩
theorem SetsAt.other {w w' : World} {V : FV} {S : FS} {p : Nat} {cs : List Value} (h : SetsAt w V S) (hp : Owns w p cs 47) (hb : But (fun q => q = p) w w') : SetsAt w' V S := by
  have hm : ∀ {b : Nat} {L : List (Value × Value)}, w.heap[b]? = some (mapObj L) → w'.heap[b]? = some (mapObj L) := fun {b L} hb' => by
    rw [hb.block b (Array.getElem?_eq_some_iff.1 hb').1 (fun e => owns_map hp hb' e.symm)]
    exact hb'
  exact ⟨hb.owns h.box (owns_ne h.box hp (by decide)), hm h.places, hm h.tokens, hb.owns h.row (owns_ne h.row hp (by decide)), fun i r hi => by
    obtain ⟨a1, a2, a3, a4⟩ := h.rule i r hi
    exact ⟨hb.owns a1 (owns_ne a1 hp (by decide)), hb.owns a2 (owns_ne a2 hp (by decide)), hb.owns a3 (owns_ne a3 hp (by decide)), a4⟩⟩
theorem ref_at (nm : ByteArray) (hn : nm.size ≤ reachN) (W : World) (lim : Nat) : NodeAt W lim (some (.int .u8 5)) (some (.string nm)) (some (.string { data := #[] })) (some (.slice none 0 0)) (some (.slice none 0 0)) (fRef nm) := by
  unfold fRef fNd
  rw [NodeAt]
  exact ⟨by omega, hn, by decide, rfl, rfl, rfl, ⟨none, 0, rfl, by decide, trivial⟩, none, 0, rfl, by decide, by rw [NodesAt]; trivial⟩
theorem optB_at {W : World} {p : Nat} (h : Owns W p [.int .u8 5, .string { data := #[98] }, .string { data := #[] }, .slice none 0 0, .slice none 0 0] 26) : NodeAt W W.heap.size (some (.int .u8 2)) (some (.string { data := #[] })) (some (.string { data := #[] })) (some (.slice none 0 0)) (some (.slice (some ⟨p, 0, none⟩) 1 1)) fOptB := by
  have c0 := h.cell_at (i := 0) rfl
  have c1 := h.cell_at (i := 1) rfl
  have c2 := h.cell_at (i := 2) rfl
  have c3 := h.cell_at (i := 3) rfl
  have c4 := h.cell_at (i := 4) rfl
  have cl := h.lt
  clear h
  simp [fOptB, fRefB, fRef, fNd, NodeAt, NodesAt, RangesAt, reachN, ByteArray.size, and_assoc, *]
theorem ints_owns {w : World} {p : Nat} {l : List Int} (h : Owns w p (intVs l) 3) : IntsV w w.heap.size (.slice (some ⟨p, 0, none⟩) l.length l.length) l :=
  ⟨_, _, rfl, fun k hk => ⟨p, 0, rfl, h.lt, by
    rw [Nat.zero_add]
    exact h.cell_at (by simp [intVs, hk])⟩⟩
theorem same_yes (l : List Int) (hl : l.length ≤ 1000000) (W : World) (v u : Value) (hv : IntsV W W.heap.size v l) (hu : IntsV W W.heap.size u l) : Calls Try.prog 16 #[v, u] W fun e W' => e = .returned (.bool true) ∧ Grew W W' :=
  (fsameNums_ok l l W v u hl hl hv hu).mono fun e W' h => by rw [decide_eq_true rfl] at h; exact h
theorem loose_keep {w w' : World} {base e size n : Nat} {v : Value} {xs : List Value} (h : looseRow w base e size v n xs) (hg : Grew w w') : looseRow w' base e size v n xs :=
  row_but h (But.of_grew (F := fun _ => False) hg) fun _ _ => id
theorem fE1_begin : ∃ x, fE1.begin fOptB = (x, true) ∧ listB x = [2] := by
  obtain ⟨x, y, h⟩ : ∃ x y, fE1.begin fOptB = (x, y) := ⟨_, _, rfl⟩
  have h1 := fE1_opt
  rw [h] at h1
  obtain ⟨h2, h3⟩ := h1
  dsimp only at h2 h3
  subst h3
  exact ⟨x, h, h2⟩
/-- the example's sets, in memory -/
def Ex1 (w : World) (V : FV) : Prop := SetsAt w V fE1
def Ex2 (w : World) (V : FV) : Prop := SetsAt w V fE2
theorem ex1_wf {w : World} {lim : Nat} {V : FV} (h : StAt w lim V (FS.stage (FS.begun (fgr fa1) f5 0) K1 3)) : SetsAt w V fE1 ∧ fE1.Wf := by
  rw [fg_begun] at h
  exact ⟨h.sets, h.wf⟩
theorem ex2_wf {w : World} {lim : Nat} {V : FV} (h : StAt w lim V (FS.stage (FS.begun (fgr fa2) f5 0) K2 3)) : SetsAt w V fE2 ∧ fE2.Wf := by
  rw [fg_begun] at h
  exact ⟨h.sets, h.wf⟩
def RowsIs (l : List Int) (w : World) (e : Ending) (w' : World) : Prop := ∃ v, e = .returned v ∧ looseRow w' w.heap.size 3 1 v l.length (intVs l) ∧ Grew w w'
theorem first0 {w : World} {V : FV} (h : SetsAt w V fE1) (hw : fE1.Wf) : Calls Try.prog 7 #[.pointer (some ⟨V.sb, 0, none⟩), .int .i64 0] w (RowsIs [0, 1, 2] w) := by
  obtain ⟨r, h1, h2, h3⟩ := fE1_at0
  have := First_yes h hw h1
  rw [h2] at this
  exact this
theorem first1 {w : World} {V : FV} (h : SetsAt w V fE1) (hw : fE1.Wf) : Calls Try.prog 7 #[.pointer (some ⟨V.sb, 0, none⟩), .int .i64 1] w (RowsIs [2] w) := by
  obtain ⟨r, h1, h2, h3⟩ := fE1_at1
  have := First_yes h hw h1
  rw [h2] at this
  exact this
theorem follow0 {w : World} {V : FV} (h : SetsAt w V fE1) (hw : fE1.Wf) : Calls Try.prog 8 #[.pointer (some ⟨V.sb, 0, none⟩), .int .i64 0] w (RowsIs [-1, 0] w) := by
  obtain ⟨r, h1, h2, h3⟩ := fE1_at0
  have := Follow_yes h hw h1
  rw [h3] at this
  exact this
theorem follow1 {w : World} {V : FV} (h : SetsAt w V fE1) (hw : fE1.Wf) : Calls Try.prog 8 #[.pointer (some ⟨V.sb, 0, none⟩), .int .i64 1] w (RowsIs [0] w) := by
  obtain ⟨r, h1, h2, h3⟩ := fE1_at1
  have := Follow_yes h hw h1
  rw [h3] at this
  exact this
theorem low_b {w : World} {V : FV} (h : SetsAt w V fE1) (hw : fE1.Wf) : Calls Try.prog 9 #[.pointer (some ⟨V.sb, 0, none⟩), .agg #[.int .u8 5, .string { data := #[98] }, .string { data := #[] }, .slice none 0 0, .slice none 0 0]] w fun e w' => e = .returned (.int .i64 2) ∧ Grew w w' := by
  have := Low_yes h hw fRefB _ _ _ _ _ (ref_at { data := #[98] } (by decide) w w.heap.size)
  rw [fE1_low] at this
  exact this
theorem low_a {w : World} {V : FV} (h : SetsAt w V fE2) (hw : fE2.Wf) : Calls Try.prog 9 #[.pointer (some ⟨V.sb, 0, none⟩), .agg #[.int .u8 5, .string { data := #[97] }, .string { data := #[] }, .slice none 0 0, .slice none 0 0]] w fun e w' => e = .returned (.int .i64 (-1)) ∧ Grew w w' := by
  have := Low_yes h hw fRefA _ _ _ _ _ (ref_at { data := #[97] } (by decide) w w.heap.size)
  rw [fE2_low] at this
  exact this
theorem begin_b {w : World} {V : FV} {p : Nat} (h : SetsAt w V fE1) (hw : fE1.Wf) (hp : Owns w p [.int .u8 5, .string { data := #[98] }, .string { data := #[] }, .slice none 0 0, .slice none 0 0] 26) :
    Calls Try.prog 6 #[.pointer (some ⟨V.sb, 0, none⟩), .agg #[.int .u8 2, .string { data := #[] }, .string { data := #[] }, .slice none 0 0, .slice (some ⟨p, 0, none⟩) 1 1]] w fun e w' => ∃ v, e = .returned (.tuple #[v, .bool true]) ∧ looseRow w' w.heap.size 3 1 v 1 (intVs [2]) ∧ Grew w w' := by
  have h1 := Begin_yes h hw fOptB _ _ _ _ _ (optB_at hp)
  obtain ⟨x, h2, h3⟩ := fE1_begin
  rw [h2] at h1
  refine h1.mono ?_
  rintro e w' ⟨v, rfl, h4, h5⟩
  dsimp only at h4
  rw [h3] at h4
  exact ⟨v, rfl, h4, h5⟩
end Go.Proofs.Ytldoinfbimelpaa
