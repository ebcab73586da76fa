/- What a node reaches at once is marked in a row. -/
import Derived.Test.YtgegjjfjhpokpaaGreatDoorQW22
namespace Go.Proofs.YtgegjjfjhpokpaaGreatDoor
open Go.RowKit

/-- of what was there, only block t may have turned -/
structure Upd (t : Nat) (w w' : World) : Prop where
  os : w'.os = w.os
  tape : w'.tape = w.tape
  output : w'.output = w.output
  size : w.heap.size ≤ w'.heap.size
  block : ∀ k, k < w.heap.size → k ≠ t → w'.heap[k]? = w.heap[k]?
theorem Upd.refl (t : Nat) (w : World) : Upd t w w := ⟨rfl, rfl, rfl, Nat.le_refl _, fun _ _ _ => rfl⟩
theorem Upd.trans {t : Nat} {a b c : World} (h : Upd t a b) (k : Upd t b c) : Upd t a c :=
  ⟨k.os.trans h.os, k.tape.trans h.tape, k.output.trans h.output, Nat.le_trans h.size k.size, fun i hi hn => (k.block i (Nat.lt_of_lt_of_le hi h.size) hn).trans (h.block i hi hn)⟩
theorem Grew.upd {w w' : World} (h : Grew w w') (t : Nat) : Upd t w w' := ⟨h.os, h.tape, h.output, h.size, fun k hk _ => h.block k hk⟩
theorem Upd.below {t lim : Nat} {w w' : World} (h : Upd t w w') (hl : lim ≤ t) (hs : lim ≤ w.heap.size) : Below lim w w' := ⟨h.os, h.tape, h.output, h.size, fun k hk => h.block k (by omega) (by omega)⟩
theorem Upd.setCell {t : Nat} {a w : World} (h : Upd t a w) (o : Nat) (v : Value) : Upd t a (w.setCell ⟨t, o, none⟩ v) :=
  h.trans ⟨rfl, rfl, rfl, by simp [World.setCell], fun k _ hn => Below.heap_setCell _ _ _ _ hn⟩
theorem Upd.cell {t : Nat} {w w' : World} (h : Upd t w w') {b : Nat} (hb : b < w.heap.size) (hn : b ≠ t) (o : Nat) : w'.cell? ⟨b, o, none⟩ = w.cell? ⟨b, o, none⟩ := World.cell?_of_block (w := w) (h.block b hb hn)
theorem Owns.upd {W W' : World} {b t : Nat} {cs : List Value} {T : Nat} (h : Owns W b cs T) (hg : Upd t W W') (hn : b ≠ t) : Owns W' b cs T := by
  have := h.lt
  unfold Owns at *
  rw [hg.block b this hn]; exact h
theorem AskOwn.upd {W W' : World} {lim ab eb t : Nat} {g : Gr} {es : List Bool} (h : AskOwn W lim ab eb g es) (hg : Upd t W W') (hl : lim ≤ t) (ha : ab ≠ t) (he : eb ≠ t) : AskOwn W' lim ab eb g es := by
  obtain ⟨⟨v0, v1, v2, v3, h1, h2⟩, h3, h4, h5, h6, h7, h8⟩ := h
  have h9 := h1.lt
  exact ⟨⟨v0, v1, v2, v3, h1.upd hg ha, h2.keep (hg.below hl (by omega))⟩, h3.upd hg he, h4, h5, h6, h7, h8⟩

theorem enters91 : Enters 91 := fun _ _ => by kernel_rfl

/-- the row that is written: rows in block rb, the row's number in ib; row i is block t -/
structure RowAt (W : World) (ob ib rb t m i : Nat) (l : List Bool) : Prop where
  fo : W.cell? ⟨ob, 0, none⟩ = some (.slice (some ⟨rb, 0, none⟩) m m)
  fi : W.cell? ⟨ib, 0, none⟩ = some (.int .i64 i)
  fr : W.cell? ⟨rb, i, none⟩ = some (.slice (some ⟨t, 0, none⟩) m m)
  ft : Owns W t (l.map .bool) 4
  fl : l.length = m
  fm : i < m
  fml : m ≤ reachN
  no : ob ≠ t
  ni : ib ≠ t
  nr : rb ≠ t

theorem RowAt.upd {W W' : World} {ob ib rb t m i : Nat} {l l' : List Bool} (h : RowAt W ob ib rb t m i l) (hg : Upd t W W') (ho : Owns W' t (l'.map .bool) 4) (hl : l'.length = m) : RowAt W' ob ib rb t m i l' := by
  obtain ⟨h1, h2, h3, h4, h5, h6, h6', h7, h8, h9⟩ := h
  have a1 := lt_of_cell h1
  have a2 := lt_of_cell h2
  have a3 := lt_of_cell h3
  exact ⟨by rw [hg.cell a1 h7]; exact h1, by rw [hg.cell a2 h8]; exact h2, by rw [hg.cell a3 h9]; exact h3, ho, hl, h6, h6', h7, h8, h9⟩
theorem RowAt.keep {W W' : World} {ob ib rb t m i : Nat} {l : List Bool} (h : RowAt W ob ib rb t m i l) (hg : Grew W W') : RowAt W' ob ib rb t m i l := h.upd (hg.upd t) (h.ft.keep hg) h.fl

/-- a call that marks a row -/
def Marks (t m : Nat) (W : World) (l' : List Bool) (e : Ending) (W' : World) : Prop := e = .returned (.tuple #[]) ∧ Upd t W W' ∧ Owns W' t (l'.map .bool) 4 ∧ l'.length = m

theorem reach1_ok (W : World) (ob ib rb t m i : Nat) (l : List Bool) (k : Nat) (h : RowAt W ob ib rb t m i l) (hk : k < m) :
    Calls Tryz.prog 91 (#[.int .i64 k] ++ #[.pointer (some ⟨ob, 0, none⟩), .pointer (some ⟨ib, 0, none⟩)]) W fun e W' => Marks t m W (l.set k true) e W' := by
  obtain ⟨h1, h2, h3, h4, h5, h6, h6', h7, h8, h9⟩ := h
  have hfr := h4.free k
  obtain ⟨bk, hcl⟩ : ∃ bk : Bool, W.cell? ⟨t, k, none⟩ = some (.bool bk) := ⟨_, h4.cell_at (i := k) (v := .bool l[k]) (by simp [show k < l.length by omega])⟩
  have HO := Lib.hid h4
  have HL := Lib.hid h5
  clear h4 h5
  unfold reachN at h6'
  simp only [List.append_toArray, List.cons_append, List.nil_append]
  go_enter Tryz.func91, Tryz.ntmps91
  go_wp2
  go_end0
  refine ⟨rfl, (Upd.refl _ _).setCell _ _, ?_, by simp [HL.out]⟩
  have := HO.out.set k (.bool true)
  rwa [← List.map_set] at this

mutual
/-- the rules that a node reaches at once, marked in a row -/
def Gr.marks (g : Gr) (es : List Bool) (token : Bool) : Nd → List Bool → List Bool
  | .mk k nm tx set subs, l =>
    if k == 1 then Gr.marksSeq g es token subs l
    else if k == 0 || k == 2 || k == 3 || k == 4 || k == 7 then Gr.marksAll g es token subs l
    else if k == 5 || k == 6 then (if 0 ≤ g.named token (.mk k nm tx set subs) then l.set (g.named token (.mk k nm tx set subs)).toNat true else l)
    else l
def Gr.marksSeq (g : Gr) (es : List Bool) (token : Bool) : List Nd → List Bool → List Bool
  | [], l => l
  | n :: r, l => if g.may es token n then Gr.marksSeq g es token r (Gr.marks g es token n l) else Gr.marks g es token n l
def Gr.marksAll (g : Gr) (es : List Bool) (token : Bool) : List Nd → List Bool → List Bool
  | [], l => l
  | n :: r, l => Gr.marksAll g es token r (Gr.marks g es token n l)
end

theorem marksAll_foldl (g : Gr) (es : List Bool) (token : Bool) (ns : List Nd) (l : List Bool) : g.marksAll es token ns l = ns.foldl (fun l n => g.marks es token n l) l := by
  induction ns generalizing l with
  | nil => rfl
  | cons n r ih => simp only [Gr.marksAll, List.foldl_cons, ih]
theorem marksAll_take (g : Gr) (es : List Bool) (token : Bool) (ns : List Nd) (l : List Bool) (j : Nat) (h : j < ns.length) : g.marksAll es token (ns.take (j + 1)) l = g.marks es token ns[j] (g.marksAll es token (ns.take j) l) := by
  rw [marksAll_foldl, marksAll_foldl, List.take_succ_eq_append_getElem h, List.foldl_append, List.foldl_cons, List.foldl_nil]
/-- so far all may be empty -/
theorem marksSeq_split (g : Gr) (es : List Bool) (token : Bool) (ns : List Nd) (l : List Bool) (j : Nat) (hall : ∀ i (h : i < ns.length), i < j → g.may es token ns[i] = true) (hj : j ≤ ns.length) :
    g.marksSeq es token ns l = g.marksSeq es token (ns.drop j) (g.marksAll es token (ns.take j) l) := by
  induction ns generalizing l j with
  | nil => simp at hj; subst hj; rfl
  | cons n r ih =>
    cases j with
    | zero => rfl
    | succ j =>
      have h0 := hall 0 (by simp) (by omega)
      simp only [List.getElem_cons_zero] at h0
      simp only [Gr.marksSeq, h0, if_true, List.drop_succ_cons, List.take_succ_cons, Gr.marksAll]
      exact ih _ j (fun i h hlt => by have := hall (i + 1) (by simpa using h) (by omega); rwa [List.getElem_cons_succ] at this) (by simpa using hj)
end Go.Proofs.YtgegjjfjhpokpaaGreatDoor
