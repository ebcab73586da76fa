/- The chapter's examples. -/
import Derived.Test.YtdgkpmpakkfgbaaGreatDoorScGet
namespace Go.Proofs.YtdgkpmpakkfgbaaGreatDoor
open Go.RowKit

def exA : ByteArray := { data := #[97, 58, 39, 98, 39, 59] }
def exB : ByteArray := { data := #[91, 97, 45, 99, 93] }
def exC : ByteArray := { data := #[39] }

set_option maxHeartbeats 8000000 in
set_option maxRecDepth 40000 in
theorem lives2_ok (W : World) (hW : LaidS W) : Calls Tryz.prog 4 #[] W fun e W' => e = .returned (.bool true) ∧ Grew W W' := by
  have hA : ∀ w, LaidS w → Calls Tryz.prog 5 #[.string { data := #[97, 58, 39, 98, 39, 59] }] w fun r W' => Grew w W' ∧ ∃ g c, r = .returned (.tuple #[.slice (some ⟨g, 0, none⟩) 4 c, .agg #[.int .i64 0, .int .i64 0, .int .i64 0, .int .i64 0]]) ∧ g < W'.heap.size ∧ 4 ≤ c ∧
      W'.cell? ⟨g, 0, none⟩ = some (.int .u8 0) ∧ W'.cell? ⟨g, 1, none⟩ = some (.string { data := #[97] }) ∧ W'.cell? ⟨g, 7, none⟩ = some (.string { data := #[58] }) ∧ W'.cell? ⟨g, 12, none⟩ = some (.int .u8 2) ∧ W'.cell? ⟨g, 13, none⟩ = some (.string { data := #[98] }) ∧
      W'.cell? ⟨g, 21, none⟩ = some (.int .i64 5) ∧ W'.cell? ⟨g, 22, none⟩ = some (.int .i64 1) ∧ W'.cell? ⟨g, 23, none⟩ = some (.int .i64 6) := by
    intro w hw
    refine (scan_ok { data := #[97, 58, 39, 98, 39, 59] } w (by decide) hw).mono ?_
    rintro r W' ⟨hg, _, h2⟩
    rw [show (({ data := #[97, 58, 39, 98, 39, 59] } : ByteArray).data.toList) = [97, 58, 39, 98, 39, 59] from rfl, scanF_one] at h2
    obtain ⟨v, rfl, hv, _⟩ := h2 rfl
    obtain ⟨g, c, rfl, _, hlt, hc, hcell⟩ := hv.get (by simp)
    have w0 := hcell 0 (by simp)
    have w1 := hcell 1 (by simp)
    have w2 := hcell 2 (by simp)
    have w3 := hcell 3 (by simp)
    refine ⟨hg, g, c, rfl, hlt, hc, w0.kind, w0.text, w1.text, w2.kind, w2.text, w3.at_, ?_, ?_⟩
    · have := w3.line
      rw [show ((placeOf (List.take (([⟨0, [97], [], 0⟩, ⟨4, [58], [], 1⟩, ⟨2, [98], [], 2⟩, ⟨4, [59], [], 5⟩] : List Wd)[3].at_) [97, 58, 39, 98, 39, 59]) 1 1).1) = 1 from by decide +kernel] at this
      exact this
    · have := w3.col
      rw [show ((placeOf (List.take (([⟨0, [97], [], 0⟩, ⟨4, [58], [], 1⟩, ⟨2, [98], [], 2⟩, ⟨4, [59], [], 5⟩] : List Wd)[3].at_) [97, 58, 39, 98, 39, 59]) 1 1).2) = 6 from by decide +kernel] at this
      exact this
  have hB : ∀ w, LaidS w → Calls Tryz.prog 5 #[.string { data := #[91, 97, 45, 99, 93] }] w fun r W' => Grew w W' ∧ ∃ g c sv, r = .returned (.tuple #[.slice (some ⟨g, 0, none⟩) 1 c, .agg #[.int .i64 0, .int .i64 0, .int .i64 0, .int .i64 0]]) ∧ g < W'.heap.size ∧ 1 ≤ c ∧
      W'.cell? ⟨g, 0, none⟩ = some (.int .u8 3) ∧ W'.cell? ⟨g, 2, none⟩ = some sv ∧ RangesV W' w.heap.size sv [(97, 99)] := by
    intro w hw
    refine (scan_ok { data := #[91, 97, 45, 99, 93] } w (by decide) hw).mono ?_
    rintro r W' ⟨hg, _, h2⟩
    rw [show (({ data := #[91, 97, 45, 99, 93] } : ByteArray).data.toList) = [91, 97, 45, 99, 93] from rfl, scanF_two] at h2
    obtain ⟨v, rfl, hv, _⟩ := h2 rfl
    obtain ⟨g, c, rfl, _, hlt, hc, hcell⟩ := hv.get (by simp)
    have w0 := hcell 0 (by simp)
    obtain ⟨sv, hs1, hs2⟩ := w0.set
    exact ⟨hg, g, c, sv, rfl, hlt, hc, w0.kind, hs1, hs2⟩
  have hC : ∀ w, LaidS w → Calls Tryz.prog 5 #[.string { data := #[39] }] w fun r W' => Grew w W' ∧ r = .returned (.tuple #[.slice none 0 0, .agg #[.int .i64 4, .int .i64 0, .int .i64 1, .int .i64 1]]) := by
    intro w hw
    refine (scan_ok { data := #[39] } w (by decide) hw).mono ?_
    rintro r W' ⟨hg, h1, _⟩
    rw [show (({ data := #[39] } : ByteArray).data.toList) = [39] from rfl, scanF_three] at h1
    exact ⟨hg, h1 (by simp)⟩
  have HA := Lib.hid hA
  have HB := Lib.hid hB
  have HC := Lib.hid hC
  have HW := Lib.hid hW
  clear hA hB hC hW
  go_enter Tryz.func4, Tryz.ntmps4
  go_wp2_with fail
  refine (HA.out W HW.out).mono ?_
  rintro e w1 ⟨hg1, ga, ca, rfl, hla, hca, a0, a1, a7, a12, a13, a21, a22, a23⟩
  have G1 := Lib.hid hg1
  have A1 : Hid (ga < w1.heap.size ∧ w1.cell? ⟨ga, 0, none⟩ = some (.int .u8 0) ∧ w1.cell? ⟨ga, 1, none⟩ = some (.string { data := #[97] }) ∧ w1.cell? ⟨ga, 7, none⟩ = some (.string { data := #[58] }) ∧ w1.cell? ⟨ga, 12, none⟩ = some (.int .u8 2) ∧ w1.cell? ⟨ga, 13, none⟩ = some (.string { data := #[98] }) ∧
      w1.cell? ⟨ga, 21, none⟩ = some (.int .i64 5) ∧ w1.cell? ⟨ga, 22, none⟩ = some (.int .i64 1) ∧ w1.cell? ⟨ga, 23, none⟩ = some (.int .i64 6)) := ⟨hla, a0, a1, a7, a12, a13, a21, a22, a23⟩
  have hg2 := grew_alloc w1 (.cells #[.int .i64 0, .int .i64 0, .int .i64 0, .int .i64 0] 28)
  have ho2 := Owns.alloc w1 [.int .i64 0, .int .i64 0, .int .i64 0, .int .i64 0] 28
  clear hg1 hla a0 a1 a7 a12 a13 a21 a22 a23
  go_wp2_with fail
  generalize w1.alloc (.cells #[.int .i64 0, .int .i64 0, .int .i64 0, .int .i64 0] 28) = w2 at *
  have G2 := Lib.hid (G1.out.trans hg2)
  have O2 := Lib.hid ho2
  have G12 := Lib.hid hg2
  clear hg2 ho2
  refine (HB.out w2 (HW.out.below G2.out)).mono ?_
  rintro e w3 ⟨hg3, gb, cb, sv, rfl, hlb, hcb, b0, b2, hrv⟩
  have B3 : Hid (gb < w3.heap.size ∧ w3.cell? ⟨gb, 0, none⟩ = some (.int .u8 3) ∧ w3.cell? ⟨gb, 2, none⟩ = some sv ∧ RangesV w3 w2.heap.size sv [(97, 99)]) := ⟨hlb, b0, b2, hrv⟩
  have G3 := Lib.hid (G2.out.trans hg3)
  have G23 := Lib.hid hg3
  have hg4 := grew_alloc w3 (.cells #[.int .i64 0, .int .i64 0, .int .i64 0, .int .i64 0] 28)
  have ho4 := Owns.alloc w3 [.int .i64 0, .int .i64 0, .int .i64 0, .int .i64 0] 28
  clear hg3 hlb b0 b2 hrv
  go_wp2_with fail
  generalize w3.alloc (.cells #[.int .i64 0, .int .i64 0, .int .i64 0, .int .i64 0] 28) = w4 at *
  have G4 := Lib.hid (G3.out.trans hg4)
  have O4 := Lib.hid ho4
  have G34 := Lib.hid hg4
  clear hg4 ho4
  refine (HC.out w4 (HW.out.below G4.out)).mono ?_
  rintro e w5 ⟨hg5, rfl⟩
  have G5 := Lib.hid (G4.out.trans hg5)
  have G45 := Lib.hid hg5
  have hg6 := grew_alloc w5 (.cells #[.int .i64 4, .int .i64 0, .int .i64 1, .int .i64 1] 28)
  have O6 := Owns.alloc w5 [.int .i64 4, .int .i64 0, .int .i64 1, .int .i64 1] 28
  have g36 := (G34.out.trans hg5).trans hg6
  have g26 := G23.out.trans g36
  have g16 := G12.out.trans g26
  obtain ⟨hla, x0, x1, x7, x12, x13, x21, x22, x23⟩ := A1.out
  obtain ⟨hlb, y0, y2, hrv⟩ := B3.out
  have a0 := (g16.cells _ _ hla).trans x0
  have a1 := (g16.cells _ _ hla).trans x1
  have a7 := (g16.cells _ _ hla).trans x7
  have a12 := (g16.cells _ _ hla).trans x12
  have a13 := (g16.cells _ _ hla).trans x13
  have a21 := (g16.cells _ _ hla).trans x21
  have a22 := (g16.cells _ _ hla).trans x22
  have a23 := (g16.cells _ _ hla).trans x23
  have b0 := (g36.cells _ _ hlb).trans y0
  have b2 := (g36.cells _ _ hlb).trans y2
  have RV6 := Lib.hid (loose_grew hrv g36)
  have f2 := (O2.out.keep g26).cell_at (i := 0) rfl
  have f4 := (O4.out.keep (hg5.trans hg6)).cell_at (i := 0) rfl
  have G6 := Lib.hid (G5.out.trans hg6)
  have hO6 : Owns (w5.alloc (.cells #[.int .i64 4, .int .i64 0, .int .i64 1, .int .i64 1] 28)) w5.heap.size [.int .i64 4, .int .i64 0, .int .i64 1, .int .i64 1] 28 := O6
  clear hg5 hg6 g36 g26 g16 x0 x1 x7 x12 x13 x21 x22 x23 y0 y2 hrv hla hlb
  go_upto_region 4 with fail
  generalize hfb : w5.heap.size = fb at *
  generalize w5.alloc (.cells #[.int .i64 4, .int .i64 0, .int .i64 1, .int .i64 1] 28) = w6 at *
  clear hfb
  have k0 := hO6.cell_at (i := 0) rfl
  have k1 := hO6.cell_at (i := 1) rfl
  have k2 := hO6.cell_at (i := 2) rfl
  have k3 := hO6.cell_at (i := 3) rfl
  have hg7 := grew_alloc w6 (.cells #[.int .i32 97, .int .i32 99] 40)
  have ho7 : Owns (w6.alloc (.cells #[.int .i32 97, .int .i32 99] 40)) w6.heap.size [.int .i32 97, .int .i32 99] 40 := Owns.alloc w6 [.int .i32 97, .int .i32 99] 40
  have HO6 := Lib.hid hO6
  go_wp2_with fail
  generalize w6.alloc (.cells #[.int .i32 97, .int .i32 99] 40) = w7 at *
  have hr7 : RangesV w7 0 (.slice (some ⟨w6.heap.size, 0, none⟩) 1 1) [(97, 99)] := ⟨rfl, .inr ⟨_, _, _, rfl, Nat.zero_le _, ho7, Nat.le_refl _, by unfold maxLen; omega, by simp, rfl⟩⟩
  have G7 := Lib.hid (G6.out.trans hg7)
  have HS := Lib.hid (sameSet_ok [(97, 99)] [(97, 99)] w7 w2.heap.size 0 sv (.slice (some ⟨w6.heap.size, 0, none⟩) 1 1) (loose_grew RV6.out hg7) hr7 (by simp) (by simp))
  have HO7 := Lib.hid (HO6.out.keep hg7)
  clear hg7 ho7 hr7 k0 k1 k2 k3 a0 a1 a7 a12 a13 a21 a22 a23 b0 b2 f2 f4 hO6
  rw [decide_eq_true (rfl : ([(97, 99)] : List (Nat × Nat)) = [(97, 99)])] at HS
  refine HS.out.mono ?_
  rintro e w8 ⟨rfl, hg8⟩
  have hO8 := HO7.out.keep hg8
  have G8 := Lib.hid (G7.out.trans hg8)
  have k0 := hO8.cell_at (i := 0) rfl
  have k1 := hO8.cell_at (i := 1) rfl
  have k2 := hO8.cell_at (i := 2) rfl
  have k3 := hO8.cell_at (i := 3) rfl
  clear hg8 hO8
  go_wp2_with fail
  go_ret
  exact ⟨rfl, G8.out⟩
end Go.Proofs.YtdgkpmpakkfgbaaGreatDoor
