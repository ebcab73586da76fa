/- Build: the last places. -/
import Derived.Test.YtkinlcichclnkaaDoorQO38
namespace Go.Proofs.YtkinlcichclnkaaDoor
open Go.RowKit

theorem plVs_congr {sv fl : Nat → Value} {ls ls' : Nat → Bool} {out : List NPl} {n : Nat} (h : ∀ i, i < n → ls i = ls' i) : plVs sv fl ls out n = plVs sv fl ls' out n := by
  unfold plVs
  rw [List.flatMap_def, List.flatMap_def]
  congr 1
  refine List.map_congr_left fun i hi => ?_
  unfold plF
  rw [h i (List.mem_range.1 hi)]
structure LsAt (W : World) (P tb n : Nat) (V : NBV) (b : NB) (fl : Nat → Value) (pv fv : Value) (first : List Int) (kinds : Int) (ls : Nat → Bool) : Prop where
  cp : CpB W P V b n fl
  row : looseRow W P 48 4 pv n (plVs V.sv fl ls b.out n)
  out : Owns W tb [pv, fv, .int .i64 kinds] 42
  res : Owns W (P + 1) [.slice none 0 0, .slice none 0 0, .int .i64 0] 42
  fst : looseRow W P 3 1 fv first.length (intVs first)
section
variable {W W' : World} {P tb n : Nat} {V : NBV} {b : NB} {fl : Nat → Value} {pv fv : Value} {first : List Int} {kinds : Int} {ls : Nat → Bool}
theorem CpB.turn {m : Nat} (h : CpB W P V b m fl) {row : Option Nat} (hg : W.grownBy W' row) (hr : ∀ r, row = some r → ∃ o : Obj, W.heap[r]? = some o ∧ o.isCells = false) : CpB W' P V b m fl :=
  ⟨Nat.le_trans h.low hg.size, loose_turn h.ptr hg hr, fun i hi hm => ⟨(h.made i hi hm).1, owns_turn (h.made i hi hm).2 hg hr⟩, fun i hi => loose_turn (h.set i hi) hg hr, fun i hi hm => loose_turn (h.fol i hi hm) hg hr, h.inj⟩
theorem LsAt.turn (h : LsAt W P tb n V b fl pv fv first kinds ls) {row : Option Nat} (hg : W.grownBy W' row) (hr : ∀ r, row = some r → ∃ o : Obj, W.heap[r]? = some o ∧ o.isCells = false) : LsAt W' P tb n V b fl pv fv first kinds ls :=
  ⟨h.cp.turn hg hr, loose_turn h.row hg hr, owns_turn h.out hg hr, owns_turn h.res hg hr, loose_turn h.fst hg hr⟩
theorem LsAt.grew (h : LsAt W P tb n V b fl pv fv first kinds ls) (hg : Grew W W') : LsAt W' P tb n V b fl pv fv first kinds ls := by
  have hb := But.of_grew (F := fun _ => False) hg
  exact ⟨h.cp.grew hg, hb.row h.row fun _ _ e => e, h.out.keep hg, h.res.keep hg, hb.row h.fst fun _ _ e => e⟩
/-- a place becomes a last one -/
theorem LsAt.last (h : LsAt W P tb n V b fl pv fv first kinds ls) {p g : Nat} (hp : p < n) (hv : pv.ownBlock = some g) :
    LsAt (W.setCell ⟨g, p * 4 + 2, none⟩ (.bool true)) P tb n V b fl pv fv first kinds (fun i => i == p || ls i) ∧ But (fun k => k = g) W (W.setCell ⟨g, p * 4 + 2, none⟩ (.bool true)) ∧ P ≤ g := by
  obtain ⟨hlo, hlt, cur, hc⟩ := row_type h.row hv
  have hb : But (fun k => k = g) W (W.setCell ⟨g, p * 4 + 2, none⟩ (.bool true)) := by
    have ho : Owns W g cur.toList 48 := by unfold Owns; rw [hc]
    exact set_but ho
  have hne : ∀ {c T : Nat} {cs : List Value}, Owns W c cs T → T ≠ 48 → ¬ c = g := fun {c T cs} ho hT e => by
    subst e
    unfold Owns at ho
    rw [hc] at ho
    simp only [Option.some.injEq, Obj.cells.injEq] at ho
    exact hT ho.2.1.symm
  refine ⟨⟨h.cp.keep hb (fun k e => ⟨cur, _, e ▸ hc, by unfold CpT; decide⟩), ?_, hb.owns h.out (hne h.out (by decide)), hb.owns h.res (hne h.res (by decide)), hb.row h.fst fun k hk e => ?_⟩, hb, hlo⟩
  · rw [← plVs_last V.sv fl ls b.out hp]
    exact loose_setN h.row hv
  · obtain ⟨-, -, cur2, h2⟩ := row_type h.fst hk
    rw [e, hc] at h2
    simp only [Option.some.injEq, Obj.cells.injEq] at h2
    exact absurd h2.2.1 (by decide)
theorem LsAt.form (h : LsAt W P tb n V b fl pv fv first kinds ls) (hn : 0 < n) : ∃ g cap cur, pv = .slice (some ⟨g, 0, none⟩) n cap ∧ W.heap[g]? = some (.cells cur 48 (0, 0)) ∧ n * 4 ≤ cur.size := by
  rcases h.row.2 with ⟨_, h0⟩ | ⟨g, cap, cur, h1, h2, h3, h4, h5, h6, h7⟩
  · omega
  · exact ⟨g, cap, cur, h1, h3, by have := Nat.mul_le_mul_right 4 h4; omega⟩
end
def LsInv {a : Nat} (w4 : World) (P tb n : Nat) (V : NBV) (b : NB) (fl : Nat → Value) (pv fv : Value) (first : List Int) (kinds : Int) (pre : List (PlS a)) (W : World) : Prop :=
  LsAt W P tb n V b fl pv fv first kinds (fun i => decide (i ∈ pre.map PlS.p)) ∧ Below P w4 W ∧ P ≤ W.heap.size
theorem ls_from {a : Nat} {w4 w1 : World} {P tb n : Nat} {V : NBV} {b : NB} {fl : Nat → Value} {pv fv : Value} {first : List Int} {kinds : Int} (h1 : P ≤ w1.heap.size) : OwnFrom w1.heap.size (LsInv (a := a) w4 P tb n V b fl pv fv first kinds) := fun _ A B row hs hg hr =>
  ⟨hs.1.turn hg fun r e => (hr r e).2, hs.2.1.grown hg hs.2.2 (fun k e => by have := (hr k e).1; omega), Nat.le_trans hs.2.2 hg.size⟩
theorem wp_state {P : Program} {c : Code} {Q : Exit → Act → World → Prop} {a : Act} {w : World} (h : ∀ a', a' = a → c.wp P Q a' w) : c.wp P Q a w := h a rfl
end Go.Proofs.YtkinlcichclnkaaDoor
