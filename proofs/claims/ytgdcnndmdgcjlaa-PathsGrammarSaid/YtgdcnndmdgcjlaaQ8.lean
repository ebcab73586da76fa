/- The chapter's example: its net. Printed by gennet.py. -/
import Derived.Deep.CutBlock
import Derived.Deep.DeepCutAuto
import Derived.Test.YtgdcnndmdgcjlaaQ7
import Derived.Test.YtgdcnndmdgcjlaaQ3
import Derived.Test.YtgdcnndmdgcjlaaQ5
namespace Go.Proofs.Ytgdcnndmdgcjlaa
open Go.RowKit
def exN : Net := ⟨[⟨0, [⟨0, 0, 2⟩], []⟩, ⟨0, [], []⟩, ⟨0, [⟨0, 0, 4⟩, ⟨0, 0, 5⟩], [3, 3]⟩, ⟨0, [⟨0, 0, 1⟩], []⟩, ⟨0, [⟨1, 0, 3⟩], []⟩, ⟨0, [⟨1, 1, 3⟩], []⟩], [0], [1], [], [2]⟩
theorem exN_may : exN.mayB = true := by decide
theorem exN_small : exN.Small := ⟨by decide, by decide, by decide, by decide, by decide, by decide, by decide⟩
def exW (W : World) : World := (((((((((((W.alloc (.cells #[.slice (some ⟨W.heap.size + 1 + 1 + 1 + 1 + 1 + 1 + 1 + 1 + 1 + 1, 0, none⟩) 6 6, .slice (some ⟨W.heap.size + 1, 0, none⟩) 1 1, .slice (some ⟨W.heap.size + 1 + 1, 0, none⟩) 1 1, .slice none 0 0, .slice (some ⟨W.heap.size + 1 + 1 + 1, 0, none⟩) 1 1] 25)).alloc (.cells #[.int .i64 0] 3)).alloc (.cells #[.int .i64 1] 3)).alloc (.cells #[.int .i64 2] 3)).alloc (.cells #[.int .u8 0, .int .i64 0, .int .i64 2] 87)).alloc (.cells #[.int .u8 0, .int .i64 0, .int .i64 4, .int .u8 0, .int .i64 0, .int .i64 5] 87)).alloc (.cells #[.int .i64 3, .int .i64 3] 3)).alloc (.cells #[.int .u8 0, .int .i64 0, .int .i64 1] 87)).alloc (.cells #[.int .u8 1, .int .i64 0, .int .i64 3] 87)).alloc (.cells #[.int .u8 1, .int .i64 1, .int .i64 3] 87)).alloc (.cells #[.int .i64 0, .slice (some ⟨W.heap.size + 1 + 1 + 1 + 1, 0, none⟩) 1 1, .slice none 0 0, .int .i64 0, .slice none 0 0, .slice none 0 0, .int .i64 0, .slice (some ⟨W.heap.size + 1 + 1 + 1 + 1 + 1, 0, none⟩) 2 2, .slice (some ⟨W.heap.size + 1 + 1 + 1 + 1 + 1 + 1, 0, none⟩) 2 2, .int .i64 0, .slice (some ⟨W.heap.size + 1 + 1 + 1 + 1 + 1 + 1 + 1, 0, none⟩) 1 1, .slice none 0 0, .int .i64 0, .slice (some ⟨W.heap.size + 1 + 1 + 1 + 1 + 1 + 1 + 1 + 1, 0, none⟩) 1 1, .slice none 0 0, .int .i64 0, .slice (some ⟨W.heap.size + 1 + 1 + 1 + 1 + 1 + 1 + 1 + 1 + 1, 0, none⟩) 1 1, .slice none 0 0] 51))
theorem alloc_old {w : World} {o : Obj} {i : Nat} (h : i < w.heap.size) : (w.alloc o).heap[i]? = w.heap[i]? := by
  show (w.heap.push o)[i]? = w.heap[i]?
  rw [Array.getElem?_push, if_neg (Nat.ne_of_lt h)]
theorem exW_grew (W : World) : Grew W (exW W) := by
  unfold exW
  repeat (first | exact Grew.refl _ | refine Grew.trans ?_ (grew_alloc _ _))
theorem exW_size (W : World) : (exW W).heap.size = W.heap.size + 1 + 1 + 1 + 1 + 1 + 1 + 1 + 1 + 1 + 1 + 1 := by
  simp [exW]
theorem exW_0 (W : World) : Owns (exW W) (W.heap.size) [.slice (some ⟨W.heap.size + 1 + 1 + 1 + 1 + 1 + 1 + 1 + 1 + 1 + 1, 0, none⟩) 6 6, .slice (some ⟨W.heap.size + 1, 0, none⟩) 1 1, .slice (some ⟨W.heap.size + 1 + 1, 0, none⟩) 1 1, .slice none 0 0, .slice (some ⟨W.heap.size + 1 + 1 + 1, 0, none⟩) 1 1] 25 := by
  unfold exW Owns
  rw [alloc_old (by simp <;> omega)]
  rw [alloc_old (by simp <;> omega)]
  rw [alloc_old (by simp <;> omega)]
  rw [alloc_old (by simp <;> omega)]
  rw [alloc_old (by simp <;> omega)]
  rw [alloc_old (by simp <;> omega)]
  rw [alloc_old (by simp <;> omega)]
  rw [alloc_old (by simp <;> omega)]
  rw [alloc_old (by simp <;> omega)]
  rw [alloc_old (by simp <;> omega)]
  have h := fun (w : World) (o : Obj) (hw : w.heap.size = W.heap.size) => (hw ▸ heap_alloc_new w o : (w.alloc o).heap[W.heap.size]? = some o)
  exact h _ _ (by simp)
theorem exW_1 (W : World) : Owns (exW W) (W.heap.size + 1) [.int .i64 0] 3 := by
  unfold exW Owns
  rw [alloc_old (by simp <;> omega)]
  rw [alloc_old (by simp <;> omega)]
  rw [alloc_old (by simp <;> omega)]
  rw [alloc_old (by simp <;> omega)]
  rw [alloc_old (by simp <;> omega)]
  rw [alloc_old (by simp <;> omega)]
  rw [alloc_old (by simp <;> omega)]
  rw [alloc_old (by simp <;> omega)]
  rw [alloc_old (by simp <;> omega)]
  have h := fun (w : World) (o : Obj) (hw : w.heap.size = W.heap.size + 1) => (hw ▸ heap_alloc_new w o : (w.alloc o).heap[W.heap.size + 1]? = some o)
  exact h _ _ (by simp)
theorem exW_2 (W : World) : Owns (exW W) (W.heap.size + 1 + 1) [.int .i64 1] 3 := by
  unfold exW Owns
  rw [alloc_old (by simp <;> omega)]
  rw [alloc_old (by simp <;> omega)]
  rw [alloc_old (by simp <;> omega)]
  rw [alloc_old (by simp <;> omega)]
  rw [alloc_old (by simp <;> omega)]
  rw [alloc_old (by simp <;> omega)]
  rw [alloc_old (by simp <;> omega)]
  rw [alloc_old (by simp <;> omega)]
  have h := fun (w : World) (o : Obj) (hw : w.heap.size = W.heap.size + 1 + 1) => (hw ▸ heap_alloc_new w o : (w.alloc o).heap[W.heap.size + 1 + 1]? = some o)
  exact h _ _ (by simp)
theorem exW_3 (W : World) : Owns (exW W) (W.heap.size + 1 + 1 + 1) [.int .i64 2] 3 := by
  unfold exW Owns
  rw [alloc_old (by simp <;> omega)]
  rw [alloc_old (by simp <;> omega)]
  rw [alloc_old (by simp <;> omega)]
  rw [alloc_old (by simp <;> omega)]
  rw [alloc_old (by simp <;> omega)]
  rw [alloc_old (by simp <;> omega)]
  rw [alloc_old (by simp <;> omega)]
  have h := fun (w : World) (o : Obj) (hw : w.heap.size = W.heap.size + 1 + 1 + 1) => (hw ▸ heap_alloc_new w o : (w.alloc o).heap[W.heap.size + 1 + 1 + 1]? = some o)
  exact h _ _ (by simp)
theorem exW_4 (W : World) : Owns (exW W) (W.heap.size + 1 + 1 + 1 + 1) [.int .u8 0, .int .i64 0, .int .i64 2] 87 := by
  unfold exW Owns
  rw [alloc_old (by simp <;> omega)]
  rw [alloc_old (by simp <;> omega)]
  rw [alloc_old (by simp <;> omega)]
  rw [alloc_old (by simp <;> omega)]
  rw [alloc_old (by simp <;> omega)]
  rw [alloc_old (by simp <;> omega)]
  have h := fun (w : World) (o : Obj) (hw : w.heap.size = W.heap.size + 1 + 1 + 1 + 1) => (hw ▸ heap_alloc_new w o : (w.alloc o).heap[W.heap.size + 1 + 1 + 1 + 1]? = some o)
  exact h _ _ (by simp)
theorem exW_5 (W : World) : Owns (exW W) (W.heap.size + 1 + 1 + 1 + 1 + 1) [.int .u8 0, .int .i64 0, .int .i64 4, .int .u8 0, .int .i64 0, .int .i64 5] 87 := by
  unfold exW Owns
  rw [alloc_old (by simp <;> omega)]
  rw [alloc_old (by simp <;> omega)]
  rw [alloc_old (by simp <;> omega)]
  rw [alloc_old (by simp <;> omega)]
  rw [alloc_old (by simp <;> omega)]
  have h := fun (w : World) (o : Obj) (hw : w.heap.size = W.heap.size + 1 + 1 + 1 + 1 + 1) => (hw ▸ heap_alloc_new w o : (w.alloc o).heap[W.heap.size + 1 + 1 + 1 + 1 + 1]? = some o)
  exact h _ _ (by simp)
theorem exW_6 (W : World) : Owns (exW W) (W.heap.size + 1 + 1 + 1 + 1 + 1 + 1) [.int .i64 3, .int .i64 3] 3 := by
  unfold exW Owns
  rw [alloc_old (by simp <;> omega)]
  rw [alloc_old (by simp <;> omega)]
  rw [alloc_old (by simp <;> omega)]
  rw [alloc_old (by simp <;> omega)]
  have h := fun (w : World) (o : Obj) (hw : w.heap.size = W.heap.size + 1 + 1 + 1 + 1 + 1 + 1) => (hw ▸ heap_alloc_new w o : (w.alloc o).heap[W.heap.size + 1 + 1 + 1 + 1 + 1 + 1]? = some o)
  exact h _ _ (by simp)
theorem exW_7 (W : World) : Owns (exW W) (W.heap.size + 1 + 1 + 1 + 1 + 1 + 1 + 1) [.int .u8 0, .int .i64 0, .int .i64 1] 87 := by
  unfold exW Owns
  rw [alloc_old (by simp <;> omega)]
  rw [alloc_old (by simp <;> omega)]
  rw [alloc_old (by simp <;> omega)]
  have h := fun (w : World) (o : Obj) (hw : w.heap.size = W.heap.size + 1 + 1 + 1 + 1 + 1 + 1 + 1) => (hw ▸ heap_alloc_new w o : (w.alloc o).heap[W.heap.size + 1 + 1 + 1 + 1 + 1 + 1 + 1]? = some o)
  exact h _ _ (by simp)
theorem exW_8 (W : World) : Owns (exW W) (W.heap.size + 1 + 1 + 1 + 1 + 1 + 1 + 1 + 1) [.int .u8 1, .int .i64 0, .int .i64 3] 87 := by
  unfold exW Owns
  rw [alloc_old (by simp <;> omega)]
  rw [alloc_old (by simp <;> omega)]
  have h := fun (w : World) (o : Obj) (hw : w.heap.size = W.heap.size + 1 + 1 + 1 + 1 + 1 + 1 + 1 + 1) => (hw ▸ heap_alloc_new w o : (w.alloc o).heap[W.heap.size + 1 + 1 + 1 + 1 + 1 + 1 + 1 + 1]? = some o)
  exact h _ _ (by simp)
theorem exW_9 (W : World) : Owns (exW W) (W.heap.size + 1 + 1 + 1 + 1 + 1 + 1 + 1 + 1 + 1) [.int .u8 1, .int .i64 1, .int .i64 3] 87 := by
  unfold exW Owns
  rw [alloc_old (by simp <;> omega)]
  have h := fun (w : World) (o : Obj) (hw : w.heap.size = W.heap.size + 1 + 1 + 1 + 1 + 1 + 1 + 1 + 1 + 1) => (hw ▸ heap_alloc_new w o : (w.alloc o).heap[W.heap.size + 1 + 1 + 1 + 1 + 1 + 1 + 1 + 1 + 1]? = some o)
  exact h _ _ (by simp)
theorem exW_10 (W : World) : Owns (exW W) (W.heap.size + 1 + 1 + 1 + 1 + 1 + 1 + 1 + 1 + 1 + 1) [.int .i64 0, .slice (some ⟨W.heap.size + 1 + 1 + 1 + 1, 0, none⟩) 1 1, .slice none 0 0, .int .i64 0, .slice none 0 0, .slice none 0 0, .int .i64 0, .slice (some ⟨W.heap.size + 1 + 1 + 1 + 1 + 1, 0, none⟩) 2 2, .slice (some ⟨W.heap.size + 1 + 1 + 1 + 1 + 1 + 1, 0, none⟩) 2 2, .int .i64 0, .slice (some ⟨W.heap.size + 1 + 1 + 1 + 1 + 1 + 1 + 1, 0, none⟩) 1 1, .slice none 0 0, .int .i64 0, .slice (some ⟨W.heap.size + 1 + 1 + 1 + 1 + 1 + 1 + 1 + 1, 0, none⟩) 1 1, .slice none 0 0, .int .i64 0, .slice (some ⟨W.heap.size + 1 + 1 + 1 + 1 + 1 + 1 + 1 + 1 + 1, 0, none⟩) 1 1, .slice none 0 0] 51 := by
  unfold exW Owns
  have h := fun (w : World) (o : Obj) (hw : w.heap.size = W.heap.size + 1 + 1 + 1 + 1 + 1 + 1 + 1 + 1 + 1 + 1) => (hw ▸ heap_alloc_new w o : (w.alloc o).heap[W.heap.size + 1 + 1 + 1 + 1 + 1 + 1 + 1 + 1 + 1 + 1]? = some o)
  exact h _ _ (by simp)
theorem ints_one {W : World} {lim b : Nat} {l : List Int} (hb : b < lim) (h : Owns W b (l.map fun i => .int .i64 i) 3) : IntsAt W lim (some ⟨b, 0, none⟩) l := fun k hk => ⟨b, 0, rfl, hb, by rw [Nat.zero_add, h.cell, List.getElem?_map, List.getElem?_eq_getElem hk]; rfl⟩
theorem ints_none {W : World} {lim : Nat} {a : Option Addr} : IntsAt W lim a [] := fun k hk => absurd hk (by simp)
theorem edges_none {W : World} {lim : Nat} {a : Option Addr} : EdgesAt W lim a [] := fun k hk => absurd hk (by simp)
theorem edges_one {W : World} {lim b : Nat} {e : Edg} (hb : b < lim) (h : Owns W b [.int .u8 e.kind, .int .i64 e.what, .int .i64 e.to] 87) : EdgesAt W lim (some ⟨b, 0, none⟩) [e] := fun k hk => by
  match k, hk with
  | 0, _ => exact ⟨b, 0, rfl, hb, h.cell_at (i := 0) rfl, h.cell_at (i := 1) rfl, h.cell_at (i := 2) rfl⟩
theorem edges_two {W : World} {lim b : Nat} {e f : Edg} (hb : b < lim) (h : Owns W b [.int .u8 e.kind, .int .i64 e.what, .int .i64 e.to, .int .u8 f.kind, .int .i64 f.what, .int .i64 f.to] 87) : EdgesAt W lim (some ⟨b, 0, none⟩) [e, f] := fun k hk => by
  match k, hk with
  | 0, _ => exact ⟨b, 0, rfl, hb, h.cell_at (i := 0) rfl, h.cell_at (i := 1) rfl, h.cell_at (i := 2) rfl⟩
  | 1, _ => exact ⟨b, 0, rfl, hb, h.cell_at (i := 3) rfl, h.cell_at (i := 4) rfl, h.cell_at (i := 5) rfl⟩
set_option maxRecDepth 20000 in
theorem exW_at (W : World) : NetAt (exW W) (exW W).heap.size (.slice (some ⟨W.heap.size + 1 + 1 + 1 + 1 + 1 + 1 + 1 + 1 + 1 + 1, 0, none⟩) 6 6) (.slice (some ⟨W.heap.size + 1, 0, none⟩) 1 1) (.slice (some ⟨W.heap.size + 1 + 1, 0, none⟩) 1 1) (.slice none 0 0) (.slice (some ⟨W.heap.size + 1 + 1 + 1, 0, none⟩) 1 1) exN := by
  have hs := exW_size W
  refine ⟨⟨_, _, rfl, fun k hk => ?_⟩, ⟨_, _, rfl, ints_one (by omega) (exW_1 W)⟩, ⟨_, _, rfl, ints_one (by omega) (exW_2 W)⟩, ⟨_, _, rfl, ints_none⟩, ⟨_, _, rfl, ints_one (by omega) (exW_3 W)⟩⟩
  refine ⟨W.heap.size + 1 + 1 + 1 + 1 + 1 + 1 + 1 + 1 + 1 + 1, 0, rfl, by omega, ?_⟩
  match k, hk with
  | 0, _ => exact ⟨(exW_10 W).cell_at (i := 0) rfl, ⟨_, _, (exW_10 W).cell_at (i := 1) rfl, edges_one (by omega) (exW_4 W)⟩, _, _, (exW_10 W).cell_at (i := 2) rfl, ints_none⟩
  | 1, _ => exact ⟨(exW_10 W).cell_at (i := 3) rfl, ⟨_, _, (exW_10 W).cell_at (i := 4) rfl, edges_none⟩, _, _, (exW_10 W).cell_at (i := 5) rfl, ints_none⟩
  | 2, _ => exact ⟨(exW_10 W).cell_at (i := 6) rfl, ⟨_, _, (exW_10 W).cell_at (i := 7) rfl, edges_two (by omega) (exW_5 W)⟩, _, _, (exW_10 W).cell_at (i := 8) rfl, ints_one (by omega) (exW_6 W)⟩
  | 3, _ => exact ⟨(exW_10 W).cell_at (i := 9) rfl, ⟨_, _, (exW_10 W).cell_at (i := 10) rfl, edges_one (by omega) (exW_7 W)⟩, _, _, (exW_10 W).cell_at (i := 11) rfl, ints_none⟩
  | 4, _ => exact ⟨(exW_10 W).cell_at (i := 12) rfl, ⟨_, _, (exW_10 W).cell_at (i := 13) rfl, edges_one (by omega) (exW_8 W)⟩, _, _, (exW_10 W).cell_at (i := 14) rfl, ints_none⟩
  | 5, _ => exact ⟨(exW_10 W).cell_at (i := 15) rfl, ⟨_, _, (exW_10 W).cell_at (i := 16) rfl, edges_one (by omega) (exW_9 W)⟩, _, _, (exW_10 W).cell_at (i := 17) rfl, ints_none⟩
def NetRes (W : World) (e : Ending) (W' : World) : Prop := ∃ n0 n1 n2 n3 n4, e = .returned (.agg #[n0, n1, n2, n3, n4]) ∧ NetAt W' W'.heap.size n0 n1 n2 n3 n4 exN ∧ Grew W W'
set_option maxHeartbeats 4000000 in
set_option maxRecDepth 40000 in
theorem net13_ok (W : World) : Calls Try.prog 21 #[] W (NetRes W) := by
  have h0 := Lib.hid (exW_0 W)
  have hres : NetRes W (.returned (.agg #[.slice (some ⟨W.heap.size + 1 + 1 + 1 + 1 + 1 + 1 + 1 + 1 + 1 + 1, 0, none⟩) 6 6, .slice (some ⟨W.heap.size + 1, 0, none⟩) 1 1, .slice (some ⟨W.heap.size + 1 + 1, 0, none⟩) 1 1, .slice none 0 0, .slice (some ⟨W.heap.size + 1 + 1 + 1, 0, none⟩) 1 1])) (exW W) := ⟨_, _, _, _, _, rfl, exW_at W, exW_grew W⟩
  have HR := Lib.hid hres
  clear hres
  go_enter Try.func21, Try.ntmps21
  go_wp2_with fail
  change bodyPost _ _ _ _ _ (exW W)
  generalize exW W = w at *
  refine bodyPost_ret (results_cell_row (d := Try.prog.underlying 25 |>.getD default) rfl _ _ W.heap.size 25 _ (0, 0) rfl h0.out rfl rfl rfl) rfl ?_
  exact HR.out
end Go.Proofs.Ytgdcnndmdgcjlaa

/- Other: a net as the document has it, made of the program's. -/
namespace Go.Proofs.Ytgdcnndmdgcjlaa
open Go.RowKit
def ecells (l : List Edg) : List Value := l.flatMap fun e => [.int .i64 e.kind, .int .i64 e.what, .int .i64 e.to]
theorem ecells_at (l : List Edg) : ∀ k (h : k < l.length), (ecells l)[k * 3]? = some (.int .i64 l[k].kind) ∧ (ecells l)[k * 3 + 1]? = some (.int .i64 l[k].what) ∧ (ecells l)[k * 3 + 2]? = some (.int .i64 l[k].to) := by
  induction l with
  | nil => intro k h; exact absurd h (by simp)
  | cons e r ih =>
    intro k h
    have hc : ecells (e :: r) = .int .i64 e.kind :: .int .i64 e.what :: .int .i64 e.to :: ecells r := rfl
    cases k with
    | zero => rw [hc]; exact ⟨rfl, rfl, rfl⟩
    | succ k =>
      have := ih k (by simpa using h)
      rw [hc, show (k + 1) * 3 = k * 3 + 3 by omega]
      exact this
theorem ecells_take (l : List Edg) {j : Nat} (h : j < l.length) : ecells (l.take j) ++ [.int .i64 l[j].kind, .int .i64 l[j].what, .int .i64 l[j].to] = ecells (l.take (j + 1)) := by
  have ht : l.take (j + 1) = l.take j ++ [l[j]] := by
    rw [List.take_add_one, List.getElem?_eq_getElem h]
    rfl
  rw [ht]
  unfold ecells
  rw [List.flatMap_append]
  rfl
structure OthAt (N : Net) (W wr : World) (n0 n1 n2 n3 n4 v : Value) (i : Nat) (cells rs : List Value) : Prop where
  low : Grew W wr
  bn : Owns wr W.heap.size [n0, n1, n2, n3, n4] 25
  res : Owns wr (W.heap.size + 1) rs 38
  m : Owns wr (W.heap.size + 1 + 1) [v, n1, n2, n3, n4] 38
  row : looseRow wr W.heap.size 84 3 v i cells
  st : ∀ k (h : k < N.states.length), k < i → ∃ e0 z, cells[k * 3]? = some (.int .i64 N.states[k].rule) ∧ cells[k * 3 + 1]? = some e0 ∧ cells[k * 3 + 2]? = some z ∧ looseRow wr W.heap.size 89 3 e0 N.states[k].edges.length (ecells N.states[k].edges) ∧
    ∃ a cap, z = .slice a N.states[k].ends.length cap ∧ IntsAt W W.heap.size a N.states[k].ends
theorem OthAt.keep {N : Net} {W w w' : World} {n0 n1 n2 n3 n4 v : Value} {i : Nat} {cells rs : List Value} (h : OthAt N W w n0 n1 n2 n3 n4 v i cells rs) (hg : Grew w w') : OthAt N W w' n0 n1 n2 n3 n4 v i cells rs :=
  ⟨h.low.trans hg, h.bn.keep hg, h.res.keep hg, h.m.keep hg, loose_keep h.row hg, fun k hk hi => by
    obtain ⟨e0, z, h1, h2, h3, h4, h5⟩ := h.st k hk hi
    exact ⟨e0, z, h1, h2, h3, loose_keep h4 hg, h5⟩⟩
theorem loose_weak2 {w : World} {base b2 e size k : Nat} {v : Value} {xs : List Value} (h : looseRow w base e size v k xs) (hb : b2 ≤ base) : looseRow w b2 e size v k xs := by
  refine ⟨h.1, h.2.imp id ?_⟩
  rintro ⟨b, cap, cur, h1, h2, h3⟩
  exact ⟨b, cap, cur, h1, Nat.le_trans hb h2, h3⟩
theorem loose_other {w : World} {base e size k T b o : Nat} {v x : Value} {xs cs : List Value} (h : looseRow w base e size v k xs) (ho : Owns w b cs T) (hT : T ≠ e) : looseRow (w.setCell ⟨b, o, none⟩ x) base e size v k xs :=
  loose_move h fun b' cs' hb => put_heap fun e2 => by
    have e2 : b = b' := e2
    subst e2
    unfold Owns at ho
    rw [ho] at hb
    simp only [Option.some.injEq, Obj.cells.injEq] at hb
    exact hT hb.2.1
theorem loose_grown {w w' : World} {base b2 e e2 size k s2 k2 : Nat} {v v2 : Value} {xs ys : List Value} (h : looseRow w base e size v k xs) (hr : looseRow w b2 e2 s2 v2 k2 ys) (hT : e ≠ e2) (hg : w.grownBy w' v2.ownBlock) : looseRow w' base e size v k xs :=
  loose_move h fun b' cs' hb => hg.block b' (Array.getElem?_eq_some_iff.1 hb).1 fun e3 => by
    obtain ⟨_, cs, h2⟩ := row_own hr e3.symm
    rw [h2] at hb
    simp only [Option.some.injEq, Obj.cells.injEq] at hb
    exact hT hb.2.1.symm
theorem OthAt.next {N : Net} {W w w1 : World} {n0 n1 n2 n3 n4 v v' e0 z : Value} {i : Nat} {cells rs : List Value} (h : OthAt N W w n0 n1 n2 n3 n4 v i cells rs) (hi : i < N.states.length) (hg : w.grownBy w1 v.ownBlock) (hr : looseRow w1 W.heap.size 84 3 v' (i + 1) (cells ++ [.int .i64 N.states[i].rule, e0, z]))
    (he : looseRow w W.heap.size 89 3 e0 N.states[i].edges.length (ecells N.states[i].edges)) (hz : ∃ a cap, z = .slice a N.states[i].ends.length cap ∧ IntsAt W W.heap.size a N.states[i].ends) :
    OthAt N W (w1.setCell ⟨W.heap.size + 1 + 1, 0, none⟩ v') n0 n1 n2 n3 n4 v' (i + 1) (cells ++ [.int .i64 N.states[i].rule, e0, z]) rs := by
  have hm := owns_grown h.m h.row (by decide) hg
  have hc : cells.length = i * 3 := h.row.1
  refine ⟨grew_put (grew_own h.low h.row hg) (by omega) 0 _, (owns_grown h.bn h.row (by decide) hg).other (a := ⟨W.heap.size + 1 + 1, 0, none⟩) (by show W.heap.size + 1 + 1 ≠ W.heap.size; omega) _, (owns_grown h.res h.row (by decide) hg).other (a := ⟨W.heap.size + 1 + 1, 0, none⟩) (by show W.heap.size + 1 + 1 ≠ W.heap.size + 1; omega) _, hm.set 0 v', loose_other hr hm (by decide), fun k hk hki => ?_⟩
  by_cases e : k = i
  · subst e
    refine ⟨e0, z, ?_, ?_, ?_, loose_other (loose_grown he h.row (by decide) hg) hm (by decide), hz⟩
    · rw [List.getElem?_append_right (by omega), hc]; simp
    · rw [List.getElem?_append_right (by omega), hc, show k * 3 + 1 - k * 3 = 1 by omega]; rfl
    · rw [List.getElem?_append_right (by omega), hc, show k * 3 + 2 - k * 3 = 2 by omega]; rfl
  · obtain ⟨e1, z1, h1, h2, h3, h4, h5⟩ := h.st k hk (by omega)
    refine ⟨e1, z1, ?_, ?_, ?_, loose_other (loose_grown h4 h.row (by decide) hg) hm (by decide), h5⟩
    · rw [List.getElem?_append_left (by omega)]; exact h1
    · rw [List.getElem?_append_left (by omega)]; exact h2
    · rw [List.getElem?_append_left (by omega)]; exact h3
theorem OthAt.put {N : Net} {W w : World} {n0 n1 n2 n3 n4 v : Value} {i : Nat} {cells rs : List Value} (h : OthAt N W w n0 n1 n2 n3 n4 v i cells rs) (o : Nat) (x : Value) : OthAt N W (w.setCell ⟨W.heap.size + 1, o, none⟩ x) n0 n1 n2 n3 n4 v i cells (rs.set o x) :=
  ⟨grew_put h.low (by omega) o x, h.bn.other (a := ⟨W.heap.size + 1, o, none⟩) (by show W.heap.size + 1 ≠ W.heap.size; omega) _, h.res.set o x, h.m.other (a := ⟨W.heap.size + 1, o, none⟩) (by show W.heap.size + 1 ≠ W.heap.size + 1 + 1; omega) _, loose_other h.row h.res (by decide), fun k hk hi => by
    obtain ⟨e0, z, h1, h2, h3, h4, h5⟩ := h.st k hk hi
    exact ⟨e0, z, h1, h2, h3, loose_other h4 h.res (by decide), h5⟩⟩
theorem loose_edges {w : World} {base : Nat} {v : Value} {l : List Edg} (h : looseRow w base 89 3 v l.length (ecells l)) : ∃ a cap, v = .slice a l.length cap ∧ REdgesAt w w.heap.size a l := by
  rcases h.2 with ⟨h1, h2⟩ | ⟨g, cap, cur, h1, h2, h3, h4⟩
  · exact ⟨none, 0, by rw [h1, h2], fun k hk => absurd hk (by omega)⟩
  · refine ⟨some ⟨g, 0, none⟩, cap, h1, fun k hk => ⟨g, 0, rfl, (Array.getElem?_eq_some_iff.1 h3).1, ?_⟩⟩
    have hc := looseRow_cells h (g := g) (by rw [h1]; rfl)
    have he := ecells_at l k hk
    rw [Nat.zero_add]
    exact ⟨hc _ _ he.1, hc _ _ he.2.1, hc _ _ he.2.2⟩
theorem OthAt.net {N : Net} {W w : World} {n0 n1 n2 n3 n4 v : Value} {cells rs : List Value} {i : Nat} (h : OthAt N W w n0 n1 n2 n3 n4 v i cells rs) (hi : i = N.states.length) (hB : NetAt W W.heap.size n0 n1 n2 n3 n4 N) : RNetAt w w.heap.size v n1 n2 n3 n4 N := by
  subst hi
  have hs := h.low.size
  refine ⟨?_, (hB.starts.keep h.low).mono hs, (hB.stops.keep h.low).mono hs, (hB.preds.keep h.low).mono hs, (hB.decisions.keep h.low).mono hs⟩
  rcases h.row.2 with ⟨h1, h2⟩ | ⟨g, cap, cur, h1, h2, h3, h4⟩
  · exact ⟨none, 0, by rw [h1, h2], fun k hk => absurd hk (by omega)⟩
  · refine ⟨some ⟨g, 0, none⟩, cap, h1, fun k hk => ⟨g, 0, rfl, (Array.getElem?_eq_some_iff.1 h3).1, ?_⟩⟩
    have hc := looseRow_cells h.row (g := g) (by rw [h1]; rfl)
    obtain ⟨e0, z, k1, k2, k3, k4, a, cz, k5, k6⟩ := h.st k hk hk
    rw [Nat.zero_add, hc _ _ k1, hc _ _ k2, hc _ _ k3]
    obtain ⟨ea, ec, k7, k8⟩ := loose_edges k4
    exact ⟨rfl, ⟨ea, ec, by rw [k7], k8⟩, a, cz, by rw [k5], (k6.keep h.low).mono hs⟩
theorem info_redge : (Try.prog.info? 89).map (fun i => (i.zero, i.size, i.bytes)) = some (some (.agg #[.int .i64 0, .int .i64 0, .int .i64 0]), 3, 24) := by kernel_rfl
theorem info_rstate : (Try.prog.info? 84).map (fun i => (i.zero, i.size, i.bytes)) = some (some (.agg #[.int .i64 0, .slice none 0 0, .slice none 0 0]), 3, 56) := by kernel_rfl
def SBox (base : Nat) (v : Value) (w : World) : Prop := ∃ b, v = .pointer (some ⟨b, 0, none⟩) ∧ base ≤ b ∧ Owns w b [.int .i64 0, .slice none 0 0, .slice none 0 0] 84
theorem SBox.keep {base : Nat} {v : Value} {w w' : World} (hg : Grew w w') (h : SBox base v w) : SBox base v w' := by
  obtain ⟨b, h1, h2, h3⟩ := h
  exact ⟨b, h1, h2, h3.keep hg⟩
theorem owns_newsO {w : World} {b T : Nat} {cs : List Value} (h : Owns w b cs T) : ∀ j u, cs[j]? = some u → w.cell? ((⟨b, 0, none⟩ : Addr).add j) = some u := by
  intro j u hj
  rw [padd_off, Nat.zero_add, h.cell, hj]
theorem three_ones (a b c : Int) : ∀ u ∈ [Value.int .i64 a, .int .i64 b, .int .i64 c], u.oneCell' = true := by
  intro u hu
  simp only [List.mem_cons, List.not_mem_nil, or_false] at hu
  rcases hu with rfl | rfl | rfl <;> rfl
def OtherAt (N : Net) (n1 n2 n3 n4 : Value) (W : World) (e : Ending) (W' : World) : Prop := ∃ v, e = .returned (.agg #[v, n1, n2, n3, n4]) ∧ RNetAt W' W'.heap.size v n1 n2 n3 n4 N ∧ Grew W W'
set_option maxHeartbeats 4000000 in
set_option maxRecDepth 20000 in
theorem other_ok (N : Net) (hS : N.Small) (hK : N.Kinds) (W : World) (n0 n1 n2 n3 n4 : Value) (hB : NetAt W W.heap.size n0 n1 n2 n3 n4 N) : Calls Try.prog 11 #[.agg #[n0, n1, n2, n3, n4]] W (OtherAt N n1 n2 n3 n4 W) := by
  obtain ⟨na, nc, hn0, hN0⟩ := hB.states
  obtain ⟨a1, k1, hn1, -⟩ := hB.starts
  obtain ⟨a2, k2, hn2, -⟩ := hB.stops
  obtain ⟨a3, k3, hn3, -⟩ := hB.preds
  obtain ⟨a4, k4, hn4, -⟩ := hB.decisions
  obtain ⟨w1, hw1⟩ : ∃ w1, W.alloc (.cells #[n0, n1, n2, n3, n4] 25) = w1 := ⟨_, rfl⟩
  have z1 : w1.heap.size = W.heap.size + 1 := by rw [← hw1]; exact World.size_alloc W _
  have g1 : Grew W w1 := hw1 ▸ grew_alloc W _
  have o1 : Owns w1 W.heap.size [n0, n1, n2, n3, n4] 25 := hw1 ▸ Owns.alloc W _ _
  obtain ⟨w2, hw2⟩ : ∃ w2, w1.alloc (.cells #[.slice none 0 0, .slice none 0 0, .slice none 0 0, .slice none 0 0, .slice none 0 0] 38) = w2 := ⟨_, rfl⟩
  have z2 : w2.heap.size = W.heap.size + 1 + 1 := by rw [← hw2, World.size_alloc, z1]
  have g2 : Grew w1 w2 := hw2 ▸ grew_alloc w1 _
  have o2 : Owns w2 (W.heap.size + 1) [.slice none 0 0, .slice none 0 0, .slice none 0 0, .slice none 0 0, .slice none 0 0] 38 := by rw [← z1, ← hw2]; exact Owns.alloc w1 _ _
  obtain ⟨w3, hw3⟩ : ∃ w3, w2.alloc (.cells #[.slice none 0 0, n1, n2, n3, n4] 38) = w3 := ⟨_, rfl⟩
  have g3 : Grew w2 w3 := hw3 ▸ grew_alloc w2 _
  have o3 : Owns w3 (W.heap.size + 1 + 1) [.slice none 0 0, n1, n2, n3, n4] 38 := by rw [← z2, ← hw3]; exact Owns.alloc w2 _ _
  have hO : OthAt N W w3 n0 n1 n2 n3 n4 (.slice none 0 0) 0 [] [.slice none 0 0, .slice none 0 0, .slice none 0 0, .slice none 0 0, .slice none 0 0] := ⟨(g1.trans g2).trans g3, (o1.keep g2).keep g3, o2.keep g3, o3, ⟨rfl, .inl ⟨rfl, rfl⟩⟩, fun k h hk => absurd hk (by omega)⟩
  have HO := Lib.hid hO
  have c1 := (o1.keep g2).cell_at (i := 1) rfl
  have c2 := (o1.keep g2).cell_at (i := 2) rfl
  have c3 := (o1.keep g2).cell_at (i := 3) rfl
  have c4 := (o1.keep g2).cell_at (i := 4) rfl
  have cl : W.heap.size < w2.heap.size := (o1.keep g2).lt
  have HN0 := Lib.hid hN0
  have HKK := Lib.hid hK
  have HSM := Lib.hid hS
  have HB := Lib.hid hB
  have hS60 := hS.states
  obtain ⟨S, hSS⟩ : ∃ S, N.states.length = S := ⟨_, rfl⟩
  have HSE := Lib.hid hSS
  rw [hSS] at hn0 hS60
  have HE0 := Lib.hid hn0
  subst hn1 hn2 hn3 hn4
  clear g1 g2 g3 o1 o2 o3 hO hN0 hK hS hB hSS hn0
  go_enter Try.func11, Try.ntmps11
  go_wp2_with fail
  clear c1 c2 c3 c4 cl hw1 hw2 hw3 z1 z2
  obtain ⟨i0, hi, hz0, hz1, hz2⟩ := info_parts info_redge
  have HI := Lib.hid hi
  have HZ0 := Lib.hid hz0
  have HZ1 := Lib.hid hz1
  have HZ2 := Lib.hid hz2
  obtain ⟨i1, ji, jz0, jz1, jz2⟩ := info_parts info_rstate
  have JI := Lib.hid ji
  have JZ0 := Lib.hid jz0
  have JZ1 := Lib.hid jz1
  have JZ2 := Lib.hid jz2
  clear hi hz0 hz1 hz2 ji jz0 jz1 jz2
  go_loopw [4] (fun i wr => ∃ (j : Nat) (v : Value) (cells : List Value), i = .int .i64 j ∧ j ≤ S ∧ Hid (OthAt N W wr n0 (.slice a1 N.starts.length k1) (.slice a2 N.stops.length k2) (.slice a3 N.preds.length k3) (.slice a4 N.decisions.length k4) v j cells [.slice none 0 0, .slice none 0 0, .slice none 0 0, .slice none 0 0, .slice none 0 0])) (fun i _ => S - (intOf i).toNat)
  case atStart => exact ⟨0, _, _, rfl, by omega, HO.out⟩
  case round =>
    clear HO
    obtain ⟨j, v, cells, rfl, hj, hO⟩ := hrel
    have c0 := hO.out.bn.cell_at (i := 0) rfl
    rw [HE0.out] at c0
    have cl := hO.out.bn.lt
    by_cases hlt : j < S
    · have hlt2 : j < N.states.length := by rw [HSE.out]; exact hlt
      obtain ⟨sb, soff, rfl, hsb, hstt⟩ := HN0.out j hlt2
      obtain ⟨s0, ⟨ea, ec, s1, hE⟩, za, zc, s2, hZ⟩ := hstt
      have hmem : N.states[j] ∈ N.states := List.getElem_mem hlt2
      have hkin := HKK.out _ hmem
      have hel := HSM.out.edges _ hmem
      have q0 := (hO.out.low.cells _ (soff + j * 3) hsb).trans s0
      have q2 := (hO.out.low.cells _ (soff + j * 3 + 2) hsb).trans s2
      have sl : sb < wr.heap.size := Nat.lt_of_lt_of_le hsb hO.out.low.size
      obtain ⟨m, hm⟩ : ∃ m, N.states[j].edges.length = m := ⟨_, rfl⟩
      obtain ⟨ml, hml⟩ : ∃ ml, N.states[j].ends.length = ml := ⟨_, rfl⟩
      rw [hml] at q2
      rw [hm] at hel s1
      have HE := Lib.hid hE
      have HZ := Lib.hid (show ∃ a cap, Value.slice za ml zc = .slice a N.states[j].ends.length cap ∧ IntsAt W W.heap.size a N.states[j].ends from ⟨za, zc, by rw [hml], hZ⟩)
      have HM := Lib.hid hm
      have HKI := Lib.hid hkin
      have HS1 := Lib.hid s1
      obtain ⟨wo, rfl⟩ : ∃ wo : World, wo = wr := ⟨_, rfl⟩
      clear hE hZ hkin hmem s0 s1 s2 hm hml
      go_wp2_with fail
      refine wp_region_hav_lit follows (by kernel_rfl) ?_
      repeat (first
        | (refine HavG.skip (fun _ => rfl) ?_; simp only [Act.put, List.setIfInBounds_toArray, List.set_cons_zero, List.set_cons_succ])
        | (refine HavG.val (fun _ => rfl) ?_ (fun x w hw _ => ?_) ?_; rotate_left; (focus (have hc := hw.cells; clear hw; go_simp; first | done | rfl)); simp only [Act.put, List.setIfInBounds_toArray, List.set_cons_zero, List.set_cons_succ]))
      refine HavG.any (fun _ => rfl) (SBox wo.heap.size) (fun _ _ _ hg h => SBox.keep hg h) (fun x w hw _ => ?_) ?_
      · have HW := Lib.hid hw
        clear hw
        go_simp
        exact ⟨grew_alloc _ _, _, rfl, HW.out.size, Owns.alloc _ _ _⟩
      simp only [Act.put, List.setIfInBounds_toArray, List.set_cons_zero, List.set_cons_succ]
      refine HavG.tail (by kernel_rfl) (by kernel_rfl) (fun x w4 hw hx => ?_)
      have hx8 := hx _ (List.mem_append_right _ (List.mem_singleton.2 rfl))
      clear hx
      dsimp only at hx8
      generalize x (0 + 1 + 1 + 1 + 1 + 1 + 1 + 1 + 1 + 1 + 1 + 1 + 1 + 1) = y13 at *
      obtain ⟨b, rfl, hb, hob⟩ := hx8
      have y0 := hob.cell_at (i := 0) rfl
      have y1 := hob.cell_at (i := 1) rfl
      have y2 := hob.cell_at (i := 2) rfl
      have f0 := hob.free 0
      have f1 := hob.free 1
      have f2 := hob.free 2
      have bl := hob.lt
      have hob3 := ((hob.set 0 (.int .i64 N.states[j].rule)).set 1 (.slice none 0 0)).set 2 (.slice za ml zc)
      have hg3 := grew_put (grew_put (grew_put (show Grew wo w4 from hw) hb 0 (.int .i64 N.states[j].rule)) hb 1 (.slice none 0 0)) hb 2 (.slice za ml zc)
      have HB3 := Lib.hid hob3
      have HG3 := Lib.hid hg3
      clear hw hob hob3 hg3 c0 cl q0 q2 sl
      go_upto_region 6 with fail
      clear y0 y1 y2 f0 f1 f2 bl
      generalize ((w4.setCell ⟨b, 0, none⟩ (.int .i64 N.states[j].rule)).setCell ⟨b, 1, none⟩ (.slice none 0 0)).setCell ⟨b, 2, none⟩ (.slice za ml zc) = w5 at *
      go_wp2_with fail
      go_loopw [6] (fun i wr => ∃ (k : Nat) (ev : Value), i = .int .i64 k ∧ k ≤ m ∧ Hid (Grew wo wr) ∧ Hid (Owns wr b [.int .i64 N.states[j].rule, ev, .slice za ml zc] 84) ∧ Hid (looseRow wr wo.heap.size 89 3 ev k (ecells (N.states[j].edges.take k)))) (fun i _ => m - (intOf i).toNat)
      case atStart => exact ⟨0, _, rfl, by omega, HG3.out, HB3.out, ⟨rfl, .inl ⟨rfl, rfl⟩⟩⟩
      case round =>
        clear HG3 HB3
        obtain ⟨k, ev, rfl, hk, hg, hbx, hrow⟩ := hrel
        have hO2 := hO.out.keep hg.out
        have HO2 := Lib.hid hO2
        have c0 := hO2.bn.cell_at (i := 0) rfl
        rw [HE0.out] at c0
        have cl := hO2.bn.lt
        have q1 := (hO2.low.cells _ (soff + j * 3 + 1) hsb).trans HS1.out
        have sl : sb < wr.heap.size := Nat.lt_of_lt_of_le hsb hO2.low.size
        by_cases hkm : k < m
        · have hkl : k < N.states[j].edges.length := by rw [HM.out]; exact hkm
          obtain ⟨eb, eoff, rfl, heb, e0, e1, e2⟩ := HE.out k hkl
          have hkk := HKI.out _ (List.getElem_mem hkl)
          have het := ecells_take N.states[j].edges hkl
          have f0 := (hO2.low.cells _ (eoff + k * 3) heb).trans e0
          have f1 := (hO2.low.cells _ (eoff + k * 3 + 1) heb).trans e1
          have f2 := (hO2.low.cells _ (eoff + k * 3 + 2) heb).trans e2
          have fl : eb < wr.heap.size := Nat.lt_of_lt_of_le heb hO2.low.size
          generalize N.states[j].edges[k] = ed at *
          obtain ⟨kd, wh, tt⟩ := ed
          simp only at f0 f1 f2 hkk het
          have hcv : IntKind.i64.wrap kd = kd := by rw [IntKind.wrap_i64]; omega
          have HET := Lib.hid het
          obtain ⟨w6, hw6⟩ : ∃ w6, wr.alloc (.cells #[.int .u8 kd, .int .i64 wh, .int .i64 tt] 87) = w6 := ⟨_, rfl⟩
          have g6 : Grew wr w6 := hw6 ▸ grew_alloc wr _
          have o6 : Owns w6 wr.heap.size [.int .u8 kd, .int .i64 wh, .int .i64 tt] 87 := hw6 ▸ Owns.alloc wr _ _
          obtain ⟨w7, hw7⟩ : ∃ w7, w6.alloc (.cells #[.int .i64 kd, .int .i64 wh, .int .i64 tt] 89) = w7 := ⟨_, rfl⟩
          have g7 : Grew w6 w7 := hw7 ▸ grew_alloc w6 _
          have o7 : Owns w7 w6.heap.size [.int .i64 kd, .int .i64 wh, .int .i64 tt] 89 := hw7 ▸ Owns.alloc w6 _ _
          have x0 := o6.cell_at (i := 0) rfl
          have x1 := o6.cell_at (i := 1) rfl
          have x2 := o6.cell_at (i := 2) rfl
          have xl := o6.lt
          have b1 := (hbx.out.keep g6).cell_at (i := 1) rfl
          have bl := (hbx.out.keep g6).lt
          have HBX := Lib.hid (hbx.out.keep (g6.trans g7))
          have HROW := Lib.hid (loose_keep hrow.out (g6.trans g7))
          have HNS := Lib.hid (owns_newsO o7)
          have HG7 := Lib.hid (hg.out.trans (g6.trans g7))
          have H63 := Lib.hid (show k + 1 ≤ maxLen by unfold maxLen; omega)
          have H64 := Lib.hid (show (k + 1) * 24 ≤ 140737488355328 by omega)
          have HLIM := Lib.hid (hg.out.trans (g6.trans g7)).size
          clear hO2 e0 e1 e2 hkk het g6 g7 o6 o7 hg hrow hbx hkl heb
          go_wp2_with (at_builtin; refine wpList_append_loose w7 rfl _ _ 82 rfl wo.heap.size 89 i0 _ 3 24 Try.underlying82 HI.out HZ0.out HZ1.out HZ2.out rfl (by decide) ev k (ecells (N.states[j].edges.take k)) rfl HROW.out ⟨w6.heap.size, 0, none⟩ 1 1 [.int .i64 kd, .int .i64 wh, .int .i64 tt] rfl rfl HNS.out (three_ones _ _ _) (by decide) H63.out H64.out HLIM.out _ rfl ?_; intro gb cap w8 hown hgrow hat hlt3; have HOWN := Lib.hid hown; have HGROW := Lib.hid hgrow; have hb4 := owns_grown HBX.out HROW.out (by decide) hgrow; have b18 : w8.cell? ⟨b, 1, none⟩ = some ev := hb4.cell_at (i := 1) rfl; have f18 : w8.frozen? ⟨b, 1, none⟩ = false := hb4.free 1; have l18 := hb4.lt; have HB4 := Lib.hid hb4; clear hb4 hown hgrow hat hlt3)
          have hg8 := grew_put (grew_own HG7.out HROW.out HGROW.out) hb 1 (.slice (some ⟨gb, 0, none⟩) (k + 1) cap)
          refine ⟨⟨k + 1, _, by go_num, by omega, hg8, HB4.out.set 1 _, ?_⟩, by simp [intOf]; omega⟩
          rw [← HET.out]
          exact loose_other HOWN.out HB4.out (by decide)
        · obtain rfl : m = k := by omega
          have b0 := hbx.out.cell_at (i := 0) rfl
          have b1 := hbx.out.cell_at (i := 1) rfl
          have b2 := hbx.out.cell_at (i := 2) rfl
          have bl := hbx.out.lt
          have m0 := hO2.m.cell_at (i := 0) rfl
          have ml0 := hO2.m.lt
          have htk : N.states[j].edges.take m = N.states[j].edges := by rw [← HM.out, List.take_length]
          have hre := hrow.out
          rw [htk] at hre
          obtain ⟨w7, hw7⟩ : ∃ w7, wr.alloc (.cells #[.int .i64 N.states[j].rule, ev, .slice za ml zc] 84) = w7 := ⟨_, rfl⟩
          have g7 : Grew wr w7 := hw7 ▸ grew_alloc wr _
          have o7 : Owns w7 wr.heap.size [.int .i64 N.states[j].rule, ev, .slice za ml zc] 84 := hw7 ▸ Owns.alloc wr _ _
          obtain ⟨eva, evc, hevf⟩ : ∃ a c, ev = .slice a m c := by
            obtain ⟨a, c, h, _⟩ := loose_edges (l := N.states[j].edges) (by rw [HM.out]; exact hre)
            exact ⟨a, c, by rw [h, HM.out]⟩
          have HRE := Lib.hid (loose_weak2 (loose_keep hre g7) hO.out.low.size)
          have HO7 := Lib.hid (hO2.keep g7)
          have HROW := Lib.hid (hO2.keep g7).row
          have HNS := Lib.hid (owns_newsO o7)
          have H63 := Lib.hid (show j + 1 ≤ maxLen by unfold maxLen; omega)
          have H64 := Lib.hid (show (j + 1) * 56 ≤ 140737488355328 by omega)
          have HLIM := Lib.hid (hO2.keep g7).low.size
          have HL1 := Lib.hid (show ∀ u ∈ [Value.int .i64 N.states[j].rule, ev, .slice za ml zc], u.oneCell' = true by
            intro u hu
            simp only [List.mem_cons, List.not_mem_nil, or_false] at hu
            rcases hu with rfl | rfl | rfl
            · rfl
            · rw [hevf]; rfl
            · rfl)
          subst hevf
          clear hO2 g7 o7 hre htk hg hrow hbx
          go_wp2_with (at_builtin; refine wpList_append_loose w7 rfl _ _ 36 rfl W.heap.size 84 i1 _ 3 56 Try.underlying36 JI.out JZ0.out JZ1.out JZ2.out rfl (by decide) v j cells rfl HROW.out ⟨wr.heap.size, 0, none⟩ 1 1 [.int .i64 N.states[j].rule, .slice eva m evc, .slice za ml zc] rfl rfl HNS.out HL1.out (by decide) H63.out H64.out HLIM.out _ rfl ?_; intro gb cap w8 hown hgrow hat hlt3; have HOWN := Lib.hid hown; have HGROW := Lib.hid hgrow; have hb4 := owns_grown HO7.out.m HROW.out (by decide) hgrow; have b18 : w8.cell? ⟨W.heap.size + 1 + 1, 0, none⟩ = some v := hb4.cell_at (i := 0) rfl; have f18 : w8.frozen? ⟨W.heap.size + 1 + 1, 0, none⟩ = false := hb4.free 0; have l18 := hb4.lt; clear hb4 hown hgrow hat hlt3)
          exact ⟨⟨j + 1, _, _, by go_num, by omega, HO7.out.next hlt2 HGROW.out HOWN.out (by rw [HM.out]; exact HRE.out) HZ.out⟩, by simp [intOf]; omega⟩
    · obtain rfl : S = j := by omega
      obtain ⟨va, vc, rfl⟩ : ∃ a c, v = .slice a S c := by
        rcases hO.out.row.2 with ⟨h1, h0⟩ | ⟨b, cap, cur, h1, h2, h3, h4⟩
        · exact ⟨none, 0, by rw [h1, h0]⟩
        · exact ⟨_, cap, h1⟩
      have m0 := hO.out.m.cell_at (i := 0) rfl
      have m1 := hO.out.m.cell_at (i := 1) rfl
      have m2 := hO.out.m.cell_at (i := 2) rfl
      have m3 := hO.out.m.cell_at (i := 3) rfl
      have m4 := hO.out.m.cell_at (i := 4) rfl
      have ml := hO.out.m.lt
      have r0 := hO.out.res.cell_at (i := 0) rfl
      have r1 := hO.out.res.cell_at (i := 1) rfl
      have r2 := hO.out.res.cell_at (i := 2) rfl
      have r3 := hO.out.res.cell_at (i := 3) rfl
      have r4 := hO.out.res.cell_at (i := 4) rfl
      have rl := hO.out.res.lt
      have f0 := hO.out.res.free 0
      have f1 := hO.out.res.free 1
      have f2 := hO.out.res.free 2
      have f3 := hO.out.res.free 3
      have f4 := hO.out.res.free 4
      have hfin := ((((hO.out.put 0 (.slice va S vc)).put 1 (.slice a1 N.starts.length k1)).put 2 (.slice a2 N.stops.length k2)).put 3 (.slice a3 N.preds.length k3)).put 4 (.slice a4 N.decisions.length k4)
      have HF := Lib.hid hfin
      clear hfin
      go_wp2_with fail
      refine bodyPost_ret (results_cell_row (d := Try.prog.underlying 38 |>.getD default) rfl _ _ (W.heap.size + 1) 38 _ (0, 0) rfl HF.out.res rfl rfl rfl) rfl ?_
      exact ⟨_, rfl, HF.out.net HSE.out.symm HB.out, HF.out.low⟩
end Go.Proofs.Ytgdcnndmdgcjlaa
