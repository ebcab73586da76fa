/- The chapter's example: its net. Printed by gennet.py. -/
import Derived.Test.YtgdcnndmdgcjlaaPAlong
namespace Go.Proofs.Ytgdcnndmdgcjlaa
open Go.RowKit

def exN : Net := ⟨[⟨0, [⟨0, 0, 2⟩], []⟩, ⟨0, [], []⟩, ⟨0, [⟨0, 0, 4⟩, ⟨0, 0, 5⟩], [3, 3]⟩, ⟨0, [⟨0, 0, 1⟩], []⟩, ⟨0, [⟨1, 0, 3⟩], []⟩, ⟨0, [⟨1, 1, 3⟩], []⟩], [0], [1], [], [2]⟩
theorem exN_may : exN.mayB = true := by decide
theorem exN_small : exN.Small := ⟨by decide, by decide, by decide, by decide, by decide, by decide, by decide⟩
def exW (W : World) : World := (((((((((((W.alloc (.cells #[.slice (some ⟨W.heap.size + 1 + 1 + 1 + 1 + 1 + 1 + 1 + 1 + 1 + 1, 0, none⟩) 6 6, .slice (some ⟨W.heap.size + 1, 0, none⟩) 1 1, .slice (some ⟨W.heap.size + 1 + 1, 0, none⟩) 1 1, .slice none 0 0, .slice (some ⟨W.heap.size + 1 + 1 + 1, 0, none⟩) 1 1] 25)).alloc (.cells #[.int .i64 0] 3)).alloc (.cells #[.int .i64 1] 3)).alloc (.cells #[.int .i64 2] 3)).alloc (.cells #[.int .u8 0, .int .i64 0, .int .i64 2] 87)).alloc (.cells #[.int .u8 0, .int .i64 0, .int .i64 4, .int .u8 0, .int .i64 0, .int .i64 5] 87)).alloc (.cells #[.int .i64 3, .int .i64 3] 3)).alloc (.cells #[.int .u8 0, .int .i64 0, .int .i64 1] 87)).alloc (.cells #[.int .u8 1, .int .i64 0, .int .i64 3] 87)).alloc (.cells #[.int .u8 1, .int .i64 1, .int .i64 3] 87)).alloc (.cells #[.int .i64 0, .slice (some ⟨W.heap.size + 1 + 1 + 1 + 1, 0, none⟩) 1 1, .slice none 0 0, .int .i64 0, .slice none 0 0, .slice none 0 0, .int .i64 0, .slice (some ⟨W.heap.size + 1 + 1 + 1 + 1 + 1, 0, none⟩) 2 2, .slice (some ⟨W.heap.size + 1 + 1 + 1 + 1 + 1 + 1, 0, none⟩) 2 2, .int .i64 0, .slice (some ⟨W.heap.size + 1 + 1 + 1 + 1 + 1 + 1 + 1, 0, none⟩) 1 1, .slice none 0 0, .int .i64 0, .slice (some ⟨W.heap.size + 1 + 1 + 1 + 1 + 1 + 1 + 1 + 1, 0, none⟩) 1 1, .slice none 0 0, .int .i64 0, .slice (some ⟨W.heap.size + 1 + 1 + 1 + 1 + 1 + 1 + 1 + 1 + 1, 0, none⟩) 1 1, .slice none 0 0] 51))
theorem alloc_old {w : World} {o : Obj} {i : Nat} (h : i < w.heap.size) : (w.alloc o).heap[i]? = w.heap[i]? := by
  show (w.heap.push o)[i]? = w.heap[i]?
  rw [Array.getElem?_push, if_neg (Nat.ne_of_lt h)]
theorem exW_grew (W : World) : Grew W (exW W) := by
  unfold exW
  repeat (first | exact Grew.refl _ | refine Grew.trans ?_ (grew_alloc _ _))
theorem exW_size (W : World) : (exW W).heap.size = W.heap.size + 1 + 1 + 1 + 1 + 1 + 1 + 1 + 1 + 1 + 1 + 1 := by
  simp [exW]
theorem exW_0 (W : World) : Owns (exW W) (W.heap.size) [.slice (some ⟨W.heap.size + 1 + 1 + 1 + 1 + 1 + 1 + 1 + 1 + 1 + 1, 0, none⟩) 6 6, .slice (some ⟨W.heap.size + 1, 0, none⟩) 1 1, .slice (some ⟨W.heap.size + 1 + 1, 0, none⟩) 1 1, .slice none 0 0, .slice (some ⟨W.heap.size + 1 + 1 + 1, 0, none⟩) 1 1] 25 := by
  unfold exW Owns
  rw [alloc_old (by simp <;> omega)]
  rw [alloc_old (by simp <;> omega)]
  rw [alloc_old (by simp <;> omega)]
  rw [alloc_old (by simp <;> omega)]
  rw [alloc_old (by simp <;> omega)]
  rw [alloc_old (by simp <;> omega)]
  rw [alloc_old (by simp <;> omega)]
  rw [alloc_old (by simp <;> omega)]
  rw [alloc_old (by simp <;> omega)]
  rw [alloc_old (by simp <;> omega)]
  have h := fun (w : World) (o : Obj) (hw : w.heap.size = W.heap.size) => (hw ▸ heap_alloc_new w o : (w.alloc o).heap[W.heap.size]? = some o)
  exact h _ _ (by simp)
theorem exW_1 (W : World) : Owns (exW W) (W.heap.size + 1) [.int .i64 0] 3 := by
  unfold exW Owns
  rw [alloc_old (by simp <;> omega)]
  rw [alloc_old (by simp <;> omega)]
  rw [alloc_old (by simp <;> omega)]
  rw [alloc_old (by simp <;> omega)]
  rw [alloc_old (by simp <;> omega)]
  rw [alloc_old (by simp <;> omega)]
  rw [alloc_old (by simp <;> omega)]
  rw [alloc_old (by simp <;> omega)]
  rw [alloc_old (by simp <;> omega)]
  have h := fun (w : World) (o : Obj) (hw : w.heap.size = W.heap.size + 1) => (hw ▸ heap_alloc_new w o : (w.alloc o).heap[W.heap.size + 1]? = some o)
  exact h _ _ (by simp)
theorem exW_2 (W : World) : Owns (exW W) (W.heap.size + 1 + 1) [.int .i64 1] 3 := by
  unfold exW Owns
  rw [alloc_old (by simp <;> omega)]
  rw [alloc_old (by simp <;> omega)]
  rw [alloc_old (by simp <;> omega)]
  rw [alloc_old (by simp <;> omega)]
  rw [alloc_old (by simp <;> omega)]
  rw [alloc_old (by simp <;> omega)]
  rw [alloc_old (by simp <;> omega)]
  rw [alloc_old (by simp <;> omega)]
  have h := fun (w : World) (o : Obj) (hw : w.heap.size = W.heap.size + 1 + 1) => (hw ▸ heap_alloc_new w o : (w.alloc o).heap[W.heap.size + 1 + 1]? = some o)
  exact h _ _ (by simp)
theorem exW_3 (W : World) : Owns (exW W) (W.heap.size + 1 + 1 + 1) [.int .i64 2] 3 := by
  unfold exW Owns
  rw [alloc_old (by simp <;> omega)]
  rw [alloc_old (by simp <;> omega)]
  rw [alloc_old (by simp <;> omega)]
  rw [alloc_old (by simp <;> omega)]
  rw [alloc_old (by simp <;> omega)]
  rw [alloc_old (by simp <;> omega)]
  rw [alloc_old (by simp <;> omega)]
  have h := fun (w : World) (o : Obj) (hw : w.heap.size = W.heap.size + 1 + 1 + 1) => (hw ▸ heap_alloc_new w o : (w.alloc o).heap[W.heap.size + 1 + 1 + 1]? = some o)
  exact h _ _ (by simp)
theorem exW_4 (W : World) : Owns (exW W) (W.heap.size + 1 + 1 + 1 + 1) [.int .u8 0, .int .i64 0, .int .i64 2] 87 := by
  unfold exW Owns
  rw [alloc_old (by simp <;> omega)]
  rw [alloc_old (by simp <;> omega)]
  rw [alloc_old (by simp <;> omega)]
  rw [alloc_old (by simp <;> omega)]
  rw [alloc_old (by simp <;> omega)]
  rw [alloc_old (by simp <;> omega)]
  have h := fun (w : World) (o : Obj) (hw : w.heap.size = W.heap.size + 1 + 1 + 1 + 1) => (hw ▸ heap_alloc_new w o : (w.alloc o).heap[W.heap.size + 1 + 1 + 1 + 1]? = some o)
  exact h _ _ (by simp)
theorem exW_5 (W : World) : Owns (exW W) (W.heap.size + 1 + 1 + 1 + 1 + 1) [.int .u8 0, .int .i64 0, .int .i64 4, .int .u8 0, .int .i64 0, .int .i64 5] 87 := by
  unfold exW Owns
  rw [alloc_old (by simp <;> omega)]
  rw [alloc_old (by simp <;> omega)]
  rw [alloc_old (by simp <;> omega)]
  rw [alloc_old (by simp <;> omega)]
  rw [alloc_old (by simp <;> omega)]
  have h := fun (w : World) (o : Obj) (hw : w.heap.size = W.heap.size + 1 + 1 + 1 + 1 + 1) => (hw ▸ heap_alloc_new w o : (w.alloc o).heap[W.heap.size + 1 + 1 + 1 + 1 + 1]? = some o)
  exact h _ _ (by simp)
theorem exW_6 (W : World) : Owns (exW W) (W.heap.size + 1 + 1 + 1 + 1 + 1 + 1) [.int .i64 3, .int .i64 3] 3 := by
  unfold exW Owns
  rw [alloc_old (by simp <;> omega)]
  rw [alloc_old (by simp <;> omega)]
  rw [alloc_old (by simp <;> omega)]
  rw [alloc_old (by simp <;> omega)]
  have h := fun (w : World) (o : Obj) (hw : w.heap.size = W.heap.size + 1 + 1 + 1 + 1 + 1 + 1) => (hw ▸ heap_alloc_new w o : (w.alloc o).heap[W.heap.size + 1 + 1 + 1 + 1 + 1 + 1]? = some o)
  exact h _ _ (by simp)
theorem exW_7 (W : World) : Owns (exW W) (W.heap.size + 1 + 1 + 1 + 1 + 1 + 1 + 1) [.int .u8 0, .int .i64 0, .int .i64 1] 87 := by
  unfold exW Owns
  rw [alloc_old (by simp <;> omega)]
  rw [alloc_old (by simp <;> omega)]
  rw [alloc_old (by simp <;> omega)]
  have h := fun (w : World) (o : Obj) (hw : w.heap.size = W.heap.size + 1 + 1 + 1 + 1 + 1 + 1 + 1) => (hw ▸ heap_alloc_new w o : (w.alloc o).heap[W.heap.size + 1 + 1 + 1 + 1 + 1 + 1 + 1]? = some o)
  exact h _ _ (by simp)
theorem exW_8 (W : World) : Owns (exW W) (W.heap.size + 1 + 1 + 1 + 1 + 1 + 1 + 1 + 1) [.int .u8 1, .int .i64 0, .int .i64 3] 87 := by
  unfold exW Owns
  rw [alloc_old (by simp <;> omega)]
  rw [alloc_old (by simp <;> omega)]
  have h := fun (w : World) (o : Obj) (hw : w.heap.size = W.heap.size + 1 + 1 + 1 + 1 + 1 + 1 + 1 + 1) => (hw ▸ heap_alloc_new w o : (w.alloc o).heap[W.heap.size + 1 + 1 + 1 + 1 + 1 + 1 + 1 + 1]? = some o)
  exact h _ _ (by simp)
theorem exW_9 (W : World) : Owns (exW W) (W.heap.size + 1 + 1 + 1 + 1 + 1 + 1 + 1 + 1 + 1) [.int .u8 1, .int .i64 1, .int .i64 3] 87 := by
  unfold exW Owns
  rw [alloc_old (by simp <;> omega)]
  have h := fun (w : World) (o : Obj) (hw : w.heap.size = W.heap.size + 1 + 1 + 1 + 1 + 1 + 1 + 1 + 1 + 1) => (hw ▸ heap_alloc_new w o : (w.alloc o).heap[W.heap.size + 1 + 1 + 1 + 1 + 1 + 1 + 1 + 1 + 1]? = some o)
  exact h _ _ (by simp)
theorem exW_10 (W : World) : Owns (exW W) (W.heap.size + 1 + 1 + 1 + 1 + 1 + 1 + 1 + 1 + 1 + 1) [.int .i64 0, .slice (some ⟨W.heap.size + 1 + 1 + 1 + 1, 0, none⟩) 1 1, .slice none 0 0, .int .i64 0, .slice none 0 0, .slice none 0 0, .int .i64 0, .slice (some ⟨W.heap.size + 1 + 1 + 1 + 1 + 1, 0, none⟩) 2 2, .slice (some ⟨W.heap.size + 1 + 1 + 1 + 1 + 1 + 1, 0, none⟩) 2 2, .int .i64 0, .slice (some ⟨W.heap.size + 1 + 1 + 1 + 1 + 1 + 1 + 1, 0, none⟩) 1 1, .slice none 0 0, .int .i64 0, .slice (some ⟨W.heap.size + 1 + 1 + 1 + 1 + 1 + 1 + 1 + 1, 0, none⟩) 1 1, .slice none 0 0, .int .i64 0, .slice (some ⟨W.heap.size + 1 + 1 + 1 + 1 + 1 + 1 + 1 + 1 + 1, 0, none⟩) 1 1, .slice none 0 0] 51 := by
  unfold exW Owns
  have h := fun (w : World) (o : Obj) (hw : w.heap.size = W.heap.size + 1 + 1 + 1 + 1 + 1 + 1 + 1 + 1 + 1 + 1) => (hw ▸ heap_alloc_new w o : (w.alloc o).heap[W.heap.size + 1 + 1 + 1 + 1 + 1 + 1 + 1 + 1 + 1 + 1]? = some o)
  exact h _ _ (by simp)
theorem ints_one {W : World} {lim b : Nat} {l : List Int} (hb : b < lim) (h : Owns W b (l.map fun i => .int .i64 i) 3) : IntsAt W lim (some ⟨b, 0, none⟩) l := fun k hk => ⟨b, 0, rfl, hb, by rw [Nat.zero_add, h.cell, List.getElem?_map, List.getElem?_eq_getElem hk]; rfl⟩
theorem ints_none {W : World} {lim : Nat} {a : Option Addr} : IntsAt W lim a [] := fun k hk => absurd hk (by simp)
theorem edges_none {W : World} {lim : Nat} {a : Option Addr} : EdgesAt W lim a [] := fun k hk => absurd hk (by simp)
theorem edges_one {W : World} {lim b : Nat} {e : Edg} (hb : b < lim) (h : Owns W b [.int .u8 e.kind, .int .i64 e.what, .int .i64 e.to] 87) : EdgesAt W lim (some ⟨b, 0, none⟩) [e] := fun k hk => by
  match k, hk with
  | 0, _ => exact ⟨b, 0, rfl, hb, h.cell_at (i := 0) rfl, h.cell_at (i := 1) rfl, h.cell_at (i := 2) rfl⟩
theorem edges_two {W : World} {lim b : Nat} {e f : Edg} (hb : b < lim) (h : Owns W b [.int .u8 e.kind, .int .i64 e.what, .int .i64 e.to, .int .u8 f.kind, .int .i64 f.what, .int .i64 f.to] 87) : EdgesAt W lim (some ⟨b, 0, none⟩) [e, f] := fun k hk => by
  match k, hk with
  | 0, _ => exact ⟨b, 0, rfl, hb, h.cell_at (i := 0) rfl, h.cell_at (i := 1) rfl, h.cell_at (i := 2) rfl⟩
  | 1, _ => exact ⟨b, 0, rfl, hb, h.cell_at (i := 3) rfl, h.cell_at (i := 4) rfl, h.cell_at (i := 5) rfl⟩
set_option maxRecDepth 20000 in
theorem exW_at (W : World) : NetAt (exW W) (exW W).heap.size (.slice (some ⟨W.heap.size + 1 + 1 + 1 + 1 + 1 + 1 + 1 + 1 + 1 + 1, 0, none⟩) 6 6) (.slice (some ⟨W.heap.size + 1, 0, none⟩) 1 1) (.slice (some ⟨W.heap.size + 1 + 1, 0, none⟩) 1 1) (.slice none 0 0) (.slice (some ⟨W.heap.size + 1 + 1 + 1, 0, none⟩) 1 1) exN := by
  have hs := exW_size W
  refine ⟨⟨_, _, rfl, fun k hk => ?_⟩, ⟨_, _, rfl, ints_one (by omega) (exW_1 W)⟩, ⟨_, _, rfl, ints_one (by omega) (exW_2 W)⟩, ⟨_, _, rfl, ints_none⟩, ⟨_, _, rfl, ints_one (by omega) (exW_3 W)⟩⟩
  refine ⟨W.heap.size + 1 + 1 + 1 + 1 + 1 + 1 + 1 + 1 + 1 + 1, 0, rfl, by omega, ?_⟩
  match k, hk with
  | 0, _ => exact ⟨(exW_10 W).cell_at (i := 0) rfl, ⟨_, _, (exW_10 W).cell_at (i := 1) rfl, edges_one (by omega) (exW_4 W)⟩, _, _, (exW_10 W).cell_at (i := 2) rfl, ints_none⟩
  | 1, _ => exact ⟨(exW_10 W).cell_at (i := 3) rfl, ⟨_, _, (exW_10 W).cell_at (i := 4) rfl, edges_none⟩, _, _, (exW_10 W).cell_at (i := 5) rfl, ints_none⟩
  | 2, _ => exact ⟨(exW_10 W).cell_at (i := 6) rfl, ⟨_, _, (exW_10 W).cell_at (i := 7) rfl, edges_two (by omega) (exW_5 W)⟩, _, _, (exW_10 W).cell_at (i := 8) rfl, ints_one (by omega) (exW_6 W)⟩
  | 3, _ => exact ⟨(exW_10 W).cell_at (i := 9) rfl, ⟨_, _, (exW_10 W).cell_at (i := 10) rfl, edges_one (by omega) (exW_7 W)⟩, _, _, (exW_10 W).cell_at (i := 11) rfl, ints_none⟩
  | 4, _ => exact ⟨(exW_10 W).cell_at (i := 12) rfl, ⟨_, _, (exW_10 W).cell_at (i := 13) rfl, edges_one (by omega) (exW_8 W)⟩, _, _, (exW_10 W).cell_at (i := 14) rfl, ints_none⟩
  | 5, _ => exact ⟨(exW_10 W).cell_at (i := 15) rfl, ⟨_, _, (exW_10 W).cell_at (i := 16) rfl, edges_one (by omega) (exW_9 W)⟩, _, _, (exW_10 W).cell_at (i := 17) rfl, ints_none⟩

/-- what net answers -/
def NetRes (W : World) (e : Ending) (W' : World) : Prop := ∃ n0 n1 n2 n3 n4, e = .returned (.agg #[n0, n1, n2, n3, n4]) ∧ NetAt W' W'.heap.size n0 n1 n2 n3 n4 exN ∧ Grew W W'

set_option maxHeartbeats 4000000 in
set_option maxRecDepth 40000 in
theorem net13_ok (W : World) : Calls Try.prog 21 #[] W (NetRes W) := by
  have h0 := Lib.hid (exW_0 W)
  have hres : NetRes W (.returned (.agg #[.slice (some ⟨W.heap.size + 1 + 1 + 1 + 1 + 1 + 1 + 1 + 1 + 1 + 1, 0, none⟩) 6 6, .slice (some ⟨W.heap.size + 1, 0, none⟩) 1 1, .slice (some ⟨W.heap.size + 1 + 1, 0, none⟩) 1 1, .slice none 0 0, .slice (some ⟨W.heap.size + 1 + 1 + 1, 0, none⟩) 1 1])) (exW W) := ⟨_, _, _, _, _, rfl, exW_at W, exW_grew W⟩
  have HR := Lib.hid hres
  clear hres
  go_enter Try.func21, Try.ntmps21
  go_wp2_with fail
  change bodyPost _ _ _ _ _ (exW W)
  generalize exW W = w at *
  refine bodyPost_ret (results_cell_row (d := Try.prog.underlying 25 |>.getD default) rfl _ _ W.heap.size 25 _ (0, 0) rfl h0.out rfl rfl rfl) rfl ?_
  exact HR.out
end Go.Proofs.Ytgdcnndmdgcjlaa
