/- Whether a grammar is more than is gone through: where it is not, its rules are few and its nodes small. -/
import Derived.Test.YtnopnihdobedcaaWeight
import Derived.Test.YtnopnihdobedcaaGr
namespace Go.Proofs.Ytnopnihdobedcaa
open Go.RowKit

mutual
def Nd.cnt : Nd → Nat
  | .mk _ _ _ _ subs => 1 + Nd.cnts subs
def Nd.cnts : List Nd → Nat
  | [] => 0
  | n :: r => n.cnt + Nd.cnts r
end
theorem Nd.cnts_snoc (l : List Nd) (n : Nd) : Nd.cnts (l ++ [n]) = Nd.cnts l + n.cnt := by
  induction l with
  | nil => simp [Nd.cnts]
  | cons x r ih => simp only [List.cons_append, Nd.cnts, ih]; omega
theorem Nd.cnts_take (l : List Nd) (k : Nat) (h : k < l.length) : Nd.cnts (l.take (k + 1)) = Nd.cnts (l.take k) + l[k].cnt := by
  rw [List.take_succ_eq_append_getElem h, Nd.cnts_snoc]
theorem Nd.cnts_take_le (l : List Nd) (k : Nat) : Nd.cnts (l.take k) ≤ Nd.cnts l := by
  induction l generalizing k with
  | nil => simp [Nd.cnts]
  | cons x r ih =>
    cases k with
    | zero => simp [Nd.cnts]
    | succ k => have := ih k; simp only [List.take_succ_cons, Nd.cnts]; omega
mutual
theorem Nd.cnt_le_total : ∀ n : Nd, n.cnt ≤ n.total
  | .mk k nm tx set subs => by have := Nd.cnts_le_totals subs; rw [Nd.cnt, Nd.total]; omega
theorem Nd.cnts_le_totals : ∀ l : List Nd, Nd.cnts l ≤ Nd.totals l
  | [] => by simp [Nd.cnts]
  | n :: r => by have := Nd.cnt_le_total n; have := Nd.cnts_le_totals r; rw [Nd.cnts, Nd.totals]; omega
end

/-- a bool that, where it is false, tells p -/
def BoolTells (p : Prop) (e : Ending) : Prop := e = .returned (.bool true) ∨ (e = .returned (.bool false) ∧ p)
theorem boolTells_mk {p : Prop} (b : Bool) (h : b = false → p) : BoolTells p (.returned (.bool b)) := by
  cases b
  · exact .inr ⟨rfl, h rfl⟩
  · exact .inl rfl

theorem great3_ok (n : Nd) (W : World) (v0 v1 v2 v3 v4 : Value) (hN : NodeAt W W.heap.size (some v0) (some v1) (some v2) (some v3) (some v4) n) :
    Calls Try.prog 66 #[.agg #[v0, v1, v2, v3, v4]] W fun e W' => BoolTells (n.total ≤ 3000) e ∧ Below W.heap.size W W' := by
  have hb : Below W.heap.size W (W.alloc (.cells #[v0, v1, v2, v3, v4] 36)) := (Below.refl _ _).alloc (Nat.le_refl _) _
  have hw := Lib.hid (weight_ok n (W.alloc (.cells #[v0, v1, v2, v3, v4] 36)) v0 v1 v2 v3 v4 0 (by omega) (by omega) ((hN.keep hb).mono hb.size))
  have hB := Lib.hid hb
  clear hN hb
  go_enter Try.func66, Try.ntmps66
  go_wp2_with (go_at_call 88; refine hw.out.mono ?_; rintro e w' ⟨⟨r, rfl, hr0, hr1, hr2⟩, hb2⟩)
  go_ret
  refine ⟨boolTells_mk _ fun h => ?_, hB.out.trans (hb2.mono (by simp))⟩
  have : r ≤ 3000 := by simpa using h
  have := hr2 (by omega)
  omega

set_option maxHeartbeats 1000000 in
theorem many_ok (n : Nd) : ∀ (W : World) (v0 v1 v2 v3 v4 : Value), n.cnt ≤ 9000 → NodeAt W W.heap.size (some v0) (some v1) (some v2) (some v3) (some v4) n →
    Calls Try.prog 35 #[.agg #[v0, v1, v2, v3, v4]] W fun e W' => e = .returned (.int .i64 n.cnt) ∧ Below W.heap.size W W' := by
  induction n using Nd.ind with
  | h k nm tx set subs ih =>
  intro W v0 v1 v2 v3 v4 hC hN
  rw [NodeAt] at hN
  obtain ⟨hk, h1, h2, h3, h4, h5, ⟨sa, sc, h6, h6', h7⟩, na, nc, h8, h8', h9⟩ := hN
  obtain rfl := Option.some.inj h3
  obtain rfl := Option.some.inj h4
  obtain rfl := Option.some.inj h5
  obtain rfl := Option.some.inj h6
  obtain rfl := Option.some.inj h8
  clear h3 h4 h5 h6 h8
  unfold reachN at h1 h2 h6' h8'
  rw [Nd.cnt] at hC ⊢
  have hcl := Nd.cnts_take_le subs
  have HC := Lib.hid hC
  have HL := Lib.hid hcl
  clear hcl hC
  go_enter Try.func35, Try.ntmps35
  go_wp2
  go_loopw [3, 4] (fun v i wr => ∃ (q : Int) (j : Nat), v = .int .i64 q ∧ i = .int .i64 j ∧ j ≤ subs.length ∧ Hid (q = 1 + Nd.cnts (subs.take j)) ∧ 0 ≤ q ∧ q ≤ 9000 ∧ Below W.heap.size W wr ∧ W.heap.size < wr.heap.size ∧ wr.cell? ⟨W.heap.size, 4, none⟩ = some (.slice na subs.length nc)) (fun _ i _ => subs.length - (intOf i).toNat)
  case atStart =>
    refine ⟨_, 0, rfl, rfl, by omega, by simp [Hid, Nd.cnts], by omega, by omega, ?_, by simp, ?_⟩
    · exact (Below.refl _ _).alloc (Nat.le_refl _) _
    · simp [go_sem]
  case round =>
    obtain ⟨q, j, rfl, rfl, hj, hq, hq0, hq1, hbw, hsz, hbox⟩ := hrel
    by_cases hlt : j < subs.length
    · obtain ⟨b, off, rfl, hb, hnode⟩ := (h9.keep hbw).get hlt
      simp only [Nat.zero_add] at hnode
      obtain ⟨u0, u1, u2, u3, u4, e0, e1, e2, e3, e4, hnode⟩ := hnode.vals
      have hle : q + subs[j].cnt ≤ 9000 := by
        have a1 := HL.out (j + 1)
        have a2 := Nd.cnts_take subs j hlt
        have a3 := HC.out
        have a4 := hq.out
        omega
      have hsub := ih j hlt wr u0 u1 u2 u3 u4 (by omega) (hnode.mono hbw.size)
      have HS := Lib.hid hsub
      clear hsub hnode ih h7 h9
      go_wp2_with (go_at_call 35; refine HS.out.mono ?_; rintro e w' ⟨rfl, hb2⟩)
      exact ⟨⟨q + subs[j].cnt, j + 1, rfl, by go_num, by omega, by have := hq.out; have := Nd.cnts_take subs j hlt; unfold Hid; omega, by omega, by omega, hbw.trans (hb2.mono (by omega)), by have := hb2.size; omega, by rw [hb2.cell hsz]; exact hbox⟩, by simp [intOf]; omega⟩
    · clear ih h7 h9
      go_wp2_with fail
      go_ret
      refine ⟨?_, hbw⟩
      have := hq.out
      rw [List.take_of_length_le (by omega)] at this
      rw [this]
      rfl
end Go.Proofs.Ytnopnihdobedcaa
