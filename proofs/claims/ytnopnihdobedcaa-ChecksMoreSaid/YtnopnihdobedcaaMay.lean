/- Whether a node may be empty. -/
import Derived.Test.YtnopnihdobedcaaNamed
import Derived.Laws.EntriesVeiled
namespace Go.Proofs.Ytnopnihdobedcaa
open Go.RowKit

theorem enters68 : Enters 68 := fun _ _ => by kernel_rfl
theorem enters70 : Enters 70 := fun _ _ => by kernel_rfl

theorem ixOf_any {α : Type} (l : List α) (q : α → Bool) : decide (0 ≤ ixOf l q) = l.any q := by
  rcases ixOf_cases l q with ⟨h, hn⟩ | ⟨j, hj, h, hq, _⟩
  · rw [h]
    symm
    have : l.any q = false := by
      rw [List.any_eq_false]
      intro x hx
      obtain ⟨i, hi, rfl⟩ := List.mem_iff_getElem.1 hx
      simp [hn i hi]
    rw [this]; rfl
  · rw [h]
    have : l.any q = true := List.any_eq_true.2 ⟨l[j], List.getElem_mem hj, hq⟩
    rw [this]
    simp

/-- what is asked of each element -/
def AskEach (F : Nat) (cp : Array Value) (W : World) (l : List Nd) (q : Nd → Bool) : Prop :=
  ∀ (i : Nat) (hi : i < l.length) (W' : World) (v0 v1 v2 v3 v4 : Value), Grew W W' → NodeAt W' W'.heap.size (some v0) (some v1) (some v2) (some v3) (some v4) l[i] →
      Calls Try.prog F (#[.agg #[v0, v1, v2, v3, v4]] ++ cp) W' fun e W2 => e = .returned (.bool (q l[i])) ∧ Below W'.heap.size W' W2

set_option maxHeartbeats 1000000 in
set_option maxRecDepth 20000 in
theorem indexNodes_ok (l : List Nd) (q : Nd → Bool) (F : Nat) (cp : Array Value) (hF : Enters F) (W : World) (a : Option Addr) (cap : Nat) (hl : l.length ≤ reachN) (hR : NodesAt W W.heap.size a 0 l) (HF : AskEach F cp W l q) :
    Calls Try.prog 89 #[.slice a l.length cap, .func (.func F) #[] cp] W fun e W' => e = .returned (.int .i64 (ixOf l q)) ∧ Below W.heap.size W W' := by
  unfold reachN at hl
  go_enter Try.func89, Try.ntmps89
  go_wp2
  go_loopw [8] (fun i wr => ∃ (j : Nat), i = .int .i64 j ∧ j ≤ l.length ∧ Hid (NoneTo l q j) ∧ Below W.heap.size W wr) (fun i _ => l.length - (intOf i).toNat)
  case atStart =>
    exact ⟨0, rfl, by omega, fun i hi h => absurd h (by omega), Below.refl _ _⟩
  case round =>
    obtain ⟨j, rfl, hj, hf, hbw⟩ := hrel
    by_cases hlt : j < l.length
    · obtain ⟨b, off, rfl, hb, hnode⟩ := (hR.keep hbw).get hlt
      simp only [Nat.zero_add] at hnode
      obtain ⟨u0, u1, u2, u3, u4, e0, e1, e2, e3, e4, hnode⟩ := hnode.vals
      have HS := Lib.hid (HF j hlt wr _ _ _ _ _ hbw (hnode.mono hbw.size))
      clear hnode hR HF
      have hFx := hF
      unfold Enters at hFx
      clear hF
      obtain ⟨t, ht⟩ : ∃ t, t = q l[j] := ⟨_, rfl⟩
      rw [← ht] at HS
      have HQ := Lib.hid ht
      clear ht
      cases t
      · go_wp2_with (refine HS.out.mono ?_; rintro e w2 ⟨rfl, hb2⟩)
        exact ⟨⟨j + 1, by go_num, by omega, noneTo_next hf.out hlt HQ.out.symm, hbw.trans (hb2.mono hbw.size)⟩, by simp [intOf]; omega⟩
      · go_wp2_with (refine HS.out.mono ?_; rintro e w2 ⟨rfl, hb2⟩)
        go_ret
        exact ⟨ret_int (ixOf_at hlt hf.out HQ.out.symm).symm, hbw.trans (hb2.mono hbw.size)⟩
    · go_wp2_with fail
      go_ret
      exact ⟨ret_int (ixOf_none fun i hi => hf.out i hi (by omega)).symm, hbw⟩

theorem contNodes_ok (l : List Nd) (q : Nd → Bool) (F : Nat) (cp : Array Value) (hF : Enters F) (W : World) (a : Option Addr) (cap : Nat) (hl : l.length ≤ reachN) (hR : NodesAt W W.heap.size a 0 l) (HF : AskEach F cp W l q) :
    Calls Try.prog 69 #[.slice a l.length cap, .func (.func F) #[] cp] W fun e W' => e = .returned (.bool (l.any q)) ∧ Below W.heap.size W W' := by
  have hS := Lib.hid (indexNodes_ok l q F cp hF W a cap hl hR HF)
  clear HF hR hF
  go_enter Try.func69, Try.ntmps69
  go_wp2_with (go_at_call 89; refine hS.out.mono ?_; rintro e w' ⟨rfl, hb2⟩)
  go_ret
  exact ⟨ret_bool (ixOf_any l q), hb2⟩

theorem lt_of_cell {W : World} {b o : Nat} {v : Value} (h : W.cell? ⟨b, o, none⟩ = some v) : b < W.heap.size := by
  rcases Nat.lt_or_ge b W.heap.size with h' | h'
  · exact h'
  · simp [World.cell?, Array.getElem?_eq_none h'] at h

theorem may1_ok (r token : Bool) (ab pa pt : Nat) (v0 v1 v2 v3 v4 : Value) (W : World) (ha : W.cell? ⟨pa, 0, none⟩ = some (.pointer (some ⟨ab, 0, none⟩))) (ht : W.cell? ⟨pt, 0, none⟩ = some (.bool token))
    (H : ∀ W1, Grew W W1 → Calls Try.prog 40 #[.pointer (some ⟨ab, 0, none⟩), .bool token, .agg #[v0, v1, v2, v3, v4]] W1 fun e W2 => e = .returned (.bool r) ∧ Below W1.heap.size W1 W2) :
    Calls Try.prog 68 (#[.agg #[v0, v1, v2, v3, v4]] ++ #[.pointer (some ⟨pa, 0, none⟩), .pointer (some ⟨pt, 0, none⟩)]) W fun e W2 => e = .returned (.bool r) ∧ Below W.heap.size W W2 := by
  have hgr := grew_alloc W (.cells #[v0, v1, v2, v3, v4] 36)
  have hl := lt_of_cell ha
  have hl2 := lt_of_cell ht
  have hS := Lib.hid (H _ hgr)
  clear H
  simp only [List.append_toArray, List.cons_append, List.nil_append]
  go_enter Try.func68, Try.ntmps68
  go_wp2_with (go_at_call 40; refine hS.out.mono ?_; rintro e w' ⟨rfl, hb2⟩)
  go_ret
  exact ⟨rfl, hgr.trans hb2⟩

theorem may2_ok (r token : Bool) (ab pa pt ps : Nat) (v0 v1 v2 v3 v4 : Value) (W : World) (ha : W.cell? ⟨pa, 0, none⟩ = some (.pointer (some ⟨ab, 0, none⟩))) (ht : W.cell? ⟨pt, 0, none⟩ = some (.bool token))
    (hs : W.cell? ⟨ps, 0, none⟩ = some (.func (.func 68) #[] #[.pointer (some ⟨pa, 0, none⟩), .pointer (some ⟨pt, 0, none⟩)]))
    (H : ∀ W1, Grew W W1 → Calls Try.prog 40 #[.pointer (some ⟨ab, 0, none⟩), .bool token, .agg #[v0, v1, v2, v3, v4]] W1 fun e W2 => e = .returned (.bool r) ∧ Below W1.heap.size W1 W2) :
    Calls Try.prog 70 (#[.agg #[v0, v1, v2, v3, v4]] ++ #[.pointer (some ⟨ps, 0, none⟩)]) W fun e W2 => e = .returned (.bool !r) ∧ Below W.heap.size W W2 := by
  have hgr := grew_alloc W (.cells #[v0, v1, v2, v3, v4] 36)
  have hl := lt_of_cell ha
  have hl2 := lt_of_cell ht
  have hl3 := lt_of_cell hs
  have hS := Lib.hid (may1_ok r token ab pa pt v0 v1 v2 v3 v4 _ (by rw [hgr.cells _ _ hl]; exact ha) (by rw [hgr.cells _ _ hl2]; exact ht) (fun W1 h => H W1 (hgr.trans h)))
  clear H ha ht
  simp only [List.append_toArray, List.cons_append, List.nil_append]
  go_enter Try.func70, Try.ntmps70
  go_wp2_with (go_at_call 68; refine hS.out.mono ?_; rintro e w' ⟨rfl, hb2⟩)
  go_ret
  exact ⟨rfl, hgr.trans hb2⟩
end Go.Proofs.Ytnopnihdobedcaa
