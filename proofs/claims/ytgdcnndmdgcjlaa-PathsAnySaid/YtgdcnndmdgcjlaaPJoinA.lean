/- Ways and Along as fixed functions of the net and the tokens; the law of joining on them. -/
import Derived.Test.YtgdcnndmdgcjlaaPLives
import Derived.Test.YtgdcnndmdgcjlaaPGreat
namespace Go.Proofs.Ytgdcnndmdgcjlaa
open Go.RowKit

open Classical in
noncomputable def wayB (N : Net) (w : List Int) (f t i : Nat) : Bool := decide (Lv N w (f, 0) (-1) none (t, i))
open Classical in
noncomputable def alongB (N : Net) (w : List Int) (t : Nat) (o : Int) : Bool := decide (AlongIs N w (t, 0) o)
noncomputable def wayCells (N : Net) (w : List Int) (f t : Nat) : List Value := (List.range (w.length + 1)).map fun i => .bool (wayB N w f t i)
theorem wayB_iff {N : Net} {w : List Int} {f t i : Nat} : wayB N w f t i = true ↔ Lv N w (f, 0) (-1) none (t, i) := by unfold wayB; exact @decide_eq_true_iff _ (Classical.propDecidable _)
theorem alongB_iff {N : Net} {w : List Int} {t : Nat} {o : Int} : alongB N w t o = true ↔ AlongIs N w (t, 0) o := by unfold alongB; exact @decide_eq_true_iff _ (Classical.propDecidable _)
theorem bool_iff {a b : Bool} (h : a = true ↔ b = true) : a = b := by cases a <;> cases b <;> simp_all
/-- what Ways leaves -/
def WayR (N : Net) (w : List Int) (f t : Nat) (v : Value) (W' : World) : Prop := ∃ ob, v = .tuple #[.slice (some ⟨ob, 0, none⟩) (w.length + 1) (w.length + 1), .int .i64 0] ∧ Owns W' ob (wayCells N w f t) 4
theorem WayR.keep {N : Net} {w : List Int} {f t : Nat} {v : Value} {W W' : World} (hg : Grew W W') (h : WayR N w f t v W) : WayR N w f t v W' := by
  obtain ⟨ob, h1, h2⟩ := h
  exact ⟨ob, h1, h2.keep hg⟩
def WayS (N : Net) (w : List Int) (f t : Nat) (v : Value) (W' : World) : Prop := ∃ ob, v = .slice (some ⟨ob, 0, none⟩) (w.length + 1) (w.length + 1) ∧ Owns W' ob (wayCells N w f t) 4
theorem WayS.keep {N : Net} {w : List Int} {f t : Nat} {v : Value} {W W' : World} (hg : Grew W W') (h : WayS N w f t v W) : WayS N w f t v W' := by
  obtain ⟨ob, h1, h2⟩ := h
  exact ⟨ob, h1, h2.keep hg⟩
theorem ways_fix {N : Net} {w : List Int} {f t : Nat} {W W' : World} {e : Ending} (h : WaysAt N w f t W e W') : (∃ v, e = .returned v ∧ WayR N w f t v W') ∧ Grew W W' := by
  obtain ⟨ob, g, rfl, hg, ho, _, hG⟩ := h
  have : g = wayB N w f t := funext fun i => bool_iff ((hg i).trans wayB_iff.symm)
  subst this
  exact ⟨⟨_, rfl, ob, rfl, ho⟩, hG⟩
theorem along_fix {N : Net} {w : List Int} {t : Nat} {o : Int} {W W' : World} {e : Ending} (h : AlongAt N w t o W e W') : e = .returned (.bool (alongB N w t o)) ∧ Grew W W' := by
  obtain ⟨b, rfl, hb, hG⟩ := h
  have : b = alongB N w t o := bool_iff (hb.trans alongB_iff.symm)
  subst this
  exact ⟨rfl, hG⟩
theorem wayCells_at {N : Net} {w : List Int} {f t : Nat} {W : World} {ob : Nat} (h : Owns W ob (wayCells N w f t) 4) {i : Nat} (hi : i < w.length + 1) : W.cell? ⟨ob, i, none⟩ = some (.bool (wayB N w f t i)) := by
  refine h.cell_at ?_
  unfold wayCells
  rw [List.getElem?_map, List.getElem?_range hi]
  rfl
theorem way_short {N : Net} {w : List Int} {f t c i : Nat} (hi : i ≤ c) : wayB N (w.take c) f t i = wayB N w f t i :=
  bool_iff (wayB_iff.trans ⟨fun h => wayB_iff.2 h.more, fun h => (wayB_iff.1 h).fewer hi⟩)
theorem way_join {N : Net} {w : List Int} {f m t i k : Nat} (h1 : wayB N w f m i = true) (h2 : wayB N (w.drop i) m t k = true) : wayB N w f t (i + k) = true := by
  have h := (wayB_iff.1 h1).join (wayB_iff.1 h2)
  exact wayB_iff.2 h
theorem along_fewer {N : Net} {w : List Int} {t c : Nat} {o : Int} (hc : c ≤ w.length) (h : alongB N w t o = true) : alongB N (w.take c) t o = true := alongB_iff.2 ((alongB_iff.1 h).fewer rfl hc)
theorem along_nil {N : Net} {t : Nat} {o : Int} : alongB N [] t o = true := alongB_iff.2 (AlongIs.nil rfl)

/-- the first tokens, those from some on -/
theorem cut_ints {W : World} {lim : Nat} {a : Option Addr} {l : List Int} {c cap : Nat} (hc : c ≤ l.length) (h : IntsAt W lim a l) : IntsV W lim (sliced a 0 c cap 1) (l.take c) := by
  have hl : (l.take c).length = c := by rw [List.length_take]; omega
  unfold sliced
  refine ⟨_, _, by rw [hl, Nat.sub_zero], fun k hk => ?_⟩
  rw [hl] at hk
  obtain ⟨b, off, rfl, hb, hce⟩ := h k (by omega)
  refine ⟨b, off, ?_, hb, ?_⟩
  · split
    · rfl
    · simp [padd_off]
  · rw [List.getElem_take]; exact hce
theorem drop_ints {W : World} {lim : Nat} {a : Option Addr} {l : List Int} {c cap : Nat} (hcap : l.length ≤ cap) (hc : c ≤ l.length) (h : IntsAt W lim a l) : IntsV W lim (sliced a c l.length cap 1) (l.drop c) := by
  have hl : (l.drop c).length = l.length - c := by rw [List.length_drop]
  unfold sliced
  refine ⟨_, _, by rw [hl], fun k hk => ?_⟩
  rw [hl] at hk
  obtain ⟨b, off, rfl, hb, hce⟩ := h (c + k) (by omega)
  refine ⟨b, off + c, ?_, hb, ?_⟩
  · rw [if_neg (by omega)]
    simp [padd_off]
  · rw [List.getElem_drop, Nat.add_assoc]; exact hce

theorem size_int (u : World) : (sizeOf (Try.prog.elem 23)).run Try.prog u = .ok 1 u := by kernel_rfl
theorem run_cut {a : Option Addr} {n cap c : Nat} (hc : c ≤ cap) (u : World) : (Instr.slice 23 (.slice a n cap) none (some (.int .i64 c)) none).run Try.prog u = .ok (sliced a 0 c cap 1) u := by
  have := run_slice_h (P := Try.prog) u 23 a n cap (by kernel_rfl) .i64 (c : Int) (by omega) (by omega)
  rw [this, size_int, Int.toNat_natCast]
  rfl
theorem run_drop {a : Option Addr} {n cap c : Nat} (hc : c ≤ n) (u : World) : (Instr.slice 23 (.slice a n cap) (some (.int .i64 c)) none none).run Try.prog u = .ok (sliced a c n cap 1) u := by
  have := run_slice_l (P := Try.prog) u 23 a n cap (by kernel_rfl) .i64 (c : Int) (by omega) (by omega)
  rw [this, size_int, Int.toNat_natCast]
  rfl

/-- the three boxes -/
structure JoinAt (N : Net) (w : List Int) (W w' : World) (n0 n1 n2 n3 n4 wv a0 a1 a2 m c : Value) : Prop where
  low : Grew W w'
  bn : Owns w' W.heap.size [n0, n1, n2, n3, n4] 25
  ba : Owns w' (W.heap.size + 1) [a0, a1, a2] 27
  bc : Owns w' (W.heap.size + 1 + 1) [wv, m, c] 46
theorem JoinAt.grew {N : Net} {w : List Int} {W w1 w2 : World} {n0 n1 n2 n3 n4 wv a0 a1 a2 m c : Value} (h : JoinAt N w W w1 n0 n1 n2 n3 n4 wv a0 a1 a2 m c) (hg : Grew w1 w2) : JoinAt N w W w2 n0 n1 n2 n3 n4 wv a0 a1 a2 m c :=
  ⟨h.low.trans hg, h.bn.keep hg, h.ba.keep hg, h.bc.keep hg⟩
end Go.Proofs.Ytgdcnndmdgcjlaa
