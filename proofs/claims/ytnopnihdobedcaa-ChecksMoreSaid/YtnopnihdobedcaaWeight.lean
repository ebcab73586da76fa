/- How much a node is: it is gone through no deeper than 100, and no further than 9000. -/
import Derived.Test.YtnopnihdobedcaaNd
import Derived.Lib.Hide
import Derived.Outline
namespace Go.Proofs.Ytnopnihdobedcaa
open Go.RowKit

mutual
def Nd.total : Nd → Nat
  | .mk _ nm tx set subs => 1 + tx.size + nm.size + set.length + Nd.totals subs
def Nd.totals : List Nd → Nat
  | [] => 0
  | n :: r => n.total + Nd.totals r
end

theorem Nd.totals_snoc (l : List Nd) (n : Nd) : Nd.totals (l ++ [n]) = Nd.totals l + n.total := by
  induction l with
  | nil => simp [Nd.totals]
  | cons x r ih => simp only [List.cons_append, Nd.totals, ih]; omega
theorem Nd.totals_take (l : List Nd) (k : Nat) (h : k < l.length) : Nd.totals (l.take (k + 1)) = Nd.totals (l.take k) + l[k].total := by
  rw [List.take_succ_eq_append_getElem h, Nd.totals_snoc]

/-- the sum that is kept in the loop -/
def WtAt (own : Nat) (l : List Nd) (i : Nat) (q : Int) : Prop := 0 ≤ q ∧ (q < 9000 → q = own + Nd.totals (l.take i))
def WtIs (n : Nd) (deep : Int) (e : Ending) : Prop := ∃ r : Int, e = .returned (.int .i64 r) ∧ 0 ≤ r ∧ r ≤ 422212465065985 + 9000 * (102 - deep) ∧ (r < 9000 → r = n.total)

theorem wtAt_next {own : Nat} {l : List Nd} {i : Nat} {q r : Int} (h : WtAt own l i q) (hi : i < l.length) (hq : q < 9000) (hr : 0 ≤ r) (hr' : r < 9000 → r = l[i].total) : WtAt own l (i + 1) (q + r) := by
  obtain ⟨h1, h2⟩ := h
  refine ⟨by omega, fun h3 => ?_⟩
  rw [Nd.totals_take l i hi, h2 hq]
  have := hr' (by omega)
  omega

set_option maxHeartbeats 1000000 in
theorem weight_ok (n : Nd) : ∀ (W : World) (v0 v1 v2 v3 v4 : Value) (deep : Int), 0 ≤ deep → deep ≤ 101 → NodeAt W W.heap.size (some v0) (some v1) (some v2) (some v3) (some v4) n →
    Calls Try.prog 88 #[.agg #[v0, v1, v2, v3, v4], .int .i64 deep] W fun e W' => WtIs n deep e ∧ Below W.heap.size W W' := by
  induction n using Nd.ind with
  | h k nm tx set subs ih =>
  intro W v0 v1 v2 v3 v4 deep hd0 hd1 hN
  rw [NodeAt] at hN
  obtain ⟨hk, h1, h2, h3, h4, h5, ⟨sa, sc, h6, h6', h7⟩, na, nc, h8, h8', h9⟩ := hN
  obtain rfl := Option.some.inj h3
  obtain rfl := Option.some.inj h4
  obtain rfl := Option.some.inj h5
  obtain rfl := Option.some.inj h6
  obtain rfl := Option.some.inj h8
  clear h3 h4 h5 h6 h8
  unfold reachN at h1 h2 h6' h8'
  by_cases hdeep : deep ≤ 100
  · go_enter Try.func88, Try.ntmps88
    go_wp2
    go_loopw [5, 6] (fun v i wr => ∃ (q : Int) (j : Nat), v = .int .i64 q ∧ i = .int .i64 j ∧ j ≤ subs.length ∧ WtAt (1 + tx.size + nm.size + set.length) subs j q ∧ q ≤ 422212465065985 + 9000 * (102 - deep) ∧ Below W.heap.size W wr ∧ W.heap.size < wr.heap.size ∧ wr.cell? ⟨W.heap.size, 4, none⟩ = some (.slice na subs.length nc)) (fun _ i _ => subs.length - (intOf i).toNat)
    case atStart =>
      refine ⟨_, 0, rfl, rfl, by omega, ⟨by omega, fun _ => by simp [Nd.totals]⟩, by omega, ?_, by simp, ?_⟩
      · exact (Below.refl _ _).alloc (Nat.le_refl _) _
      · simp [go_sem]
    case round =>
      obtain ⟨q, j, rfl, rfl, hj, hwt, hq1, hbw, hsz, hbox⟩ := hrel
      have hq0 := hwt.1
      by_cases hlt : j < subs.length
      · by_cases hlq : q < 9000
        · obtain ⟨b, off, rfl, hb, hnode⟩ := (h9.keep hbw).get hlt
          simp only [Nat.zero_add] at hnode
          obtain ⟨u0, u1, u2, u3, u4, e0, e1, e2, e3, e4, hnode⟩ := hnode.vals
          have hsub := ih j hlt wr u0 u1 u2 u3 u4 (deep + 1) (by omega) (by omega) (hnode.mono hbw.size)
          have HS := Lib.hid hsub
          have HW := Lib.hid hwt
          clear hsub hwt hnode ih h7 h9
          go_wp2_with (go_at_call 88; refine HS.out.mono ?_; rintro e w' ⟨⟨r, rfl, hr0, hr1, hr2⟩, hb2⟩)
          exact ⟨⟨q + r, j + 1, rfl, by go_num, by omega, wtAt_next HW.out hlt hlq hr0 hr2, by omega, hbw.trans (hb2.mono (by omega)), by have := hb2.size; omega, by rw [hb2.cell hsz]; exact hbox⟩, by simp [intOf]; omega⟩
        · have HW := Lib.hid hwt
          clear hwt ih h7 h9
          go_wp2_with fail
          go_ret
          exact ⟨⟨q, rfl, hq0, by omega, fun h => by omega⟩, hbw⟩
      · have HW := Lib.hid hwt
        clear hwt ih h7 h9
        go_wp2_with fail
        go_ret
        refine ⟨⟨q, rfl, hq0, by omega, fun h => ?_⟩, hbw⟩
        have := HW.out.2 h
        rw [List.take_of_length_le (by omega)] at this
        rw [this, Nd.total]
        omega
  · clear ih h7 h9
    go_enter Try.func88, Try.ntmps88
    go_wp2_with fail
    go_ret
    exact ⟨⟨9000, rfl, by omega, by omega, fun h => by omega⟩, (Below.refl _ _).alloc (Nat.le_refl _) _⟩
end Go.Proofs.Ytnopnihdobedcaa
