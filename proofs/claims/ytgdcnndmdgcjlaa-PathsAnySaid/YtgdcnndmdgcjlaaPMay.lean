/- (atns.State).may: may a state of a net be? -/
import Derived.Test.YtgdcnndmdgcjlaaPCat
import Derived.Test.YtgdcnndmdgcjlaaPInv
namespace Go.Proofs.Ytgdcnndmdgcjlaa
open Go.RowKit

def okN (n : Nat) (i : Int) : Bool := decide (0 ≤ i) && decide (i < n)
def Net.mostOf (N : Net) (k : Int) : Int := if k = 2 then N.starts.length else if k = 3 then N.preds.length else 1
def Edg.mayB (N : Net) (e : Edg) : Bool := !(decide (3 < e.kind) || decide (e.what < 0) || (e.kind != 1 && decide (N.mostOf e.kind ≤ e.what)) || !okN N.states.length e.to)
def Sta.decides (s : Sta) : Bool := decide (s.ends.length = s.edges.length) && decide (2 ≤ s.ends.length) && !(s.edges.any fun e => !(e.kind == 0))
def Sta.mayB (N : Net) (s : Sta) : Bool := s.edges.all (Edg.mayB N) && (decide (s.ends.length = 0) || (s.decides && !(s.ends.any fun i => !okN N.states.length i)))

theorem enters32 : Enters 32 := fun _ _ => by kernel_rfl
theorem enters33 : Enters 33 := fun _ _ => by kernel_rfl
theorem enters36 : Enters 36 := fun _ _ => by kernel_rfl
theorem enters50 : Enters 50 := fun _ _ => by kernel_rfl
theorem enters51 : Enters 51 := fun _ _ => by kernel_rfl
theorem enters53 : Enters 53 := fun _ _ => by kernel_rfl
theorem enters54 : Enters 54 := fun _ _ => by kernel_rfl

theorem AMay1_ok (i : Int) (nb n cap : Nat) (a : Option Addr) (W : World) (hc : W.cell? ⟨nb, 0, none⟩ = some (.slice a n cap)) :
    Calls Try.prog 32 (#[.int .i64 i] ++ #[.pointer (some ⟨nb, 0, none⟩)]) W fun e W' => e = .returned (.bool (okN n i)) ∧ Grew W W' := by
  simp only [List.append_toArray, List.cons_append, List.nil_append]
  by_cases h0 : 0 ≤ i
  · have hd : decide (0 ≤ i) = true := decide_eq_true h0
    go_enter Try.func32, Try.ntmps32
    go_wp2_with fail
    go_ret
    exact ⟨ret_bool (by unfold okN; simp [h0]), Grew.refl W⟩
  · have hd : decide (0 ≤ i) = false := decide_eq_false h0
    go_enter Try.func32, Try.ntmps32
    go_wp2_with fail
    go_ret
    exact ⟨ret_bool (by unfold okN; simp; omega), Grew.refl W⟩
theorem smay1_ok (i : Int) (nb n cap : Nat) (a : Option Addr) (W : World) (hc : W.cell? ⟨nb, 0, none⟩ = some (.slice a n cap)) :
    Calls Try.prog 50 (#[.int .i64 i] ++ #[.pointer (some ⟨nb, 0, none⟩)]) W fun e W' => e = .returned (.bool (okN n i)) ∧ Grew W W' := by
  simp only [List.append_toArray, List.cons_append, List.nil_append]
  by_cases h0 : 0 ≤ i
  · have hd : decide (0 ≤ i) = true := decide_eq_true h0
    go_enter Try.func50, Try.ntmps50
    go_wp2_with fail
    go_ret
    exact ⟨ret_bool (by unfold okN; simp [h0]), Grew.refl W⟩
  · have hd : decide (0 ≤ i) = false := decide_eq_false h0
    go_enter Try.func50, Try.ntmps50
    go_wp2_with fail
    go_ret
    exact ⟨ret_bool (by unfold okN; simp; omega), Grew.refl W⟩
theorem AMay2_ok (i : Int) (fb nb n cap : Nat) (a : Option Addr) (W : World) (hc : W.cell? ⟨nb, 0, none⟩ = some (.slice a n cap)) (hf : W.cell? ⟨fb, 0, none⟩ = some (.func (.func 32) #[] #[.pointer (some ⟨nb, 0, none⟩)])) :
    Calls Try.prog 33 (#[.int .i64 i] ++ #[.pointer (some ⟨fb, 0, none⟩)]) W fun e W' => e = .returned (.bool (!okN n i)) ∧ Grew W W' := by
  simp only [List.append_toArray, List.cons_append, List.nil_append]
  have hS := Lib.hid (AMay1_ok i nb n cap a W hc)
  have hF := enters32
  unfold Enters at hF
  clear hc
  go_enter Try.func33, Try.ntmps33
  go_wp2_with (refine hS.out.mono ?_; rintro e w' ⟨rfl, hb⟩)
  go_ret
  exact ⟨rfl, hb⟩
theorem smay4_ok (i : Int) (fb nb n cap : Nat) (a : Option Addr) (W : World) (hc : W.cell? ⟨nb, 0, none⟩ = some (.slice a n cap)) (hf : W.cell? ⟨fb, 0, none⟩ = some (.func (.func 50) #[] #[.pointer (some ⟨nb, 0, none⟩)])) :
    Calls Try.prog 54 (#[.int .i64 i] ++ #[.pointer (some ⟨fb, 0, none⟩)]) W fun e W' => e = .returned (.bool (!okN n i)) ∧ Grew W W' := by
  simp only [List.append_toArray, List.cons_append, List.nil_append]
  have hS := Lib.hid (smay1_ok i nb n cap a W hc)
  have hF := enters50
  unfold Enters at hF
  clear hc
  go_enter Try.func54, Try.ntmps54
  go_wp2_with (refine hS.out.mono ?_; rintro e w' ⟨rfl, hb⟩)
  go_ret
  exact ⟨rfl, hb⟩
theorem AMay3_ok (i : Int) (nb n cap : Nat) (hn : n ≤ 1000000000) (a : Option Addr) (W : World) (hc : W.cell? ⟨nb, 0, none⟩ = some (.slice a n cap)) :
    Calls Try.prog 36 (#[.int .i64 i] ++ #[.pointer (some ⟨nb, 0, none⟩)]) W fun e W' => e = .returned (.bool (decide (i < 0) || decide ((n : Int) - 1 ≤ i))) ∧ Grew W W' := by
  simp only [List.append_toArray, List.cons_append, List.nil_append]
  have hw : IntKind.i64.wrap ((n : Int) - 1) = (n : Int) - 1 := by rw [IntKind.wrap_i64]; omega
  by_cases h0 : i < 0
  · have hd : decide (i < 0) = true := decide_eq_true h0
    go_enter Try.func36, Try.ntmps36
    go_wp2_with fail
    go_ret
    exact ⟨ret_bool (by simp [h0]), Grew.refl W⟩
  · have hd : decide (i < 0) = false := decide_eq_false h0
    go_enter Try.func36, Try.ntmps36
    go_wp2_with fail
    go_ret
    exact ⟨rfl, Grew.refl W⟩
theorem smay2_ok (e : Edg) (W : World) : Calls Try.prog 51 #[.agg #[.int .u8 e.kind, .int .i64 e.what, .int .i64 e.to]] W fun r W' => r = .returned (.bool (e.kind == 0)) ∧ Grew W W' := by
  go_enter Try.func51, Try.ntmps51
  go_wp2_with fail
  go_ret
  exact ⟨rfl, grew_alloc _ _⟩
theorem smay3_ok (e : Edg) (fb : Nat) (W : World) (hf : W.cell? ⟨fb, 0, none⟩ = some (.func (.func 51) #[] #[])) : Calls Try.prog 53 (#[.agg #[.int .u8 e.kind, .int .i64 e.what, .int .i64 e.to]] ++ #[.pointer (some ⟨fb, 0, none⟩)]) W fun r W' => r = .returned (.bool (!(e.kind == 0))) ∧ Grew W W' := by
  simp only [List.append_toArray, List.cons_append, List.nil_append]
  have hg := grew_alloc W (.cells #[.int .u8 e.kind, .int .i64 e.what, .int .i64 e.to] 87)
  have hS := Lib.hid (smay2_ok e (W.alloc (.cells #[.int .u8 e.kind, .int .i64 e.what, .int .i64 e.to] 87)))
  have hlt : fb < W.heap.size := by
    rcases Nat.lt_or_ge fb W.heap.size with h' | h'
    · exact h'
    · simp [World.cell?, Array.getElem?_eq_none h'] at hf
  have hF := enters51
  unfold Enters at hF
  have HG := Lib.hid hg
  clear hg
  go_enter Try.func53, Try.ntmps53
  go_wp2_with (refine hS.out.mono ?_; rintro e w' ⟨rfl, hb⟩)
  go_ret
  exact ⟨rfl, HG.out.trans hb⟩
end Go.Proofs.Ytgdcnndmdgcjlaa
