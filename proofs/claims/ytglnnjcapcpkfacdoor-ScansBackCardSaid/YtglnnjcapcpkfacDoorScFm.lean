/- strconv.FormatInt in digits of 16. -/
import Derived.Test.YtglnnjcapcpkfacDoorRuHex
import Derived.Test.YtglnnjcapcpkfacDoorRu1
import Derived.Test.YtglnnjcapcpkfacDoorOwn
import Derived.Test.YtglnnjcapcpkfacDoorScMem
import Derived.Laws.Strings3
import Derived.Laws.IdiomStrings
import Derived.Laws.BitsLemmas
import Derived.Laws.Bits64b
import Derived.BigCall
import Derived.BigGuard
namespace Go.Proofs.YtglnnjcapcpkfacDoor
open Go.RowKit

theorem cell_lt {W : World} {b i : Nat} {v : Value} (h : W.cell? ⟨b, i, none⟩ = some v) : b < W.heap.size := by
  apply Classical.byContradiction
  intro hn
  have : W.heap[b]? = none := Array.getElem?_eq_none (by omega)
  simp [World.cell?, this] at h
/-- the package's variables that are read, where runes are written too -/
structure LaidB (W : World) : Prop where
  laid : LaidS W
  brui : W.cell? ⟨5, 15, none⟩ = some (.int .u8 4)
theorem LaidB.below {W W' : World} (h : LaidB W) (hb : Below W.heap.size W W') : LaidB W' :=
  ⟨h.laid.below hb, (Below.cell (p := ⟨5, 15, none⟩) hb (cell_lt h.brui)).trans h.brui⟩

theorem isPow_ok (W : World) : Calls Tryd.prog 67 #[.int .i64 16] W fun e W' => e = .returned (.bool true) ∧ W' = W := by
  have h : bits .and .i64 16 15 = 0 := by decide
  go_enter Tryd.func67, Tryd.ntmps67
  go_wp2
  go_ret
  exact ⟨rfl, rfl⟩

theorem tzq_ok (W : World) (h : W.cell? ⟨5, 15, none⟩ = some (.int .u8 4)) : Calls Tryd.prog 73 #[.int .u64 16] W fun e W' => e = .returned (.int .i64 4) ∧ W' = W := by
  have h1 : bits .and .u64 16 18446744073709551600 = 16 := by decide
  have h2 : IntKind.u64.wrap (-16) = 18446744073709551600 := by decide
  have h3 : IntKind.u64.wrap (16 * 285870213051353865) = 4573923408821661840 := by decide
  go_enter Tryd.func73, Tryd.ntmps73
  go_wp2
  go_ret
  exact ⟨rfl, rfl⟩

theorem tzs_ok (W : World) (h : W.cell? ⟨5, 15, none⟩ = some (.int .u8 4)) : Calls Tryd.prog 68 #[.int .u64 16] W fun e W' => e = .returned (.int .i64 4) ∧ W' = W := by
  have HT := Lib.hid (tzq_ok W h)
  go_enter Tryd.func68, Tryd.ntmps68
  go_wp2_with (go_at_call 73; refine HT.out.mono ?_; rintro e w ⟨rfl, rfl⟩)
  go_ret
  exact ⟨rfl, rfl⟩

theorem digits_at (d : Nat) (h : d < 16) {h2 : d < ByteArray.size { data := #[48, 49, 50, 51, 52, 53, 54, 55, 56, 57, 97, 98, 99, 100, 101, 102, 103, 104, 105, 106, 107, 108, 109, 110, 111, 112, 113, 114, 115, 116, 117, 118, 119, 120, 121, 122] }} :
    ({ data := #[48, 49, 50, 51, 52, 53, 54, 55, 56, 57, 97, 98, 99, 100, 101, 102, 103, 104, 105, 106, 107, 108, 109, 110, 111, 112, 113, 114, 115, 116, 117, 118, 119, 120, 121, 122] } : ByteArray)[d]'h2 = dig d := by
  have : d = 0 ∨ d = 1 ∨ d = 2 ∨ d = 3 ∨ d = 4 ∨ d = 5 ∨ d = 6 ∨ d = 7 ∨ d = 8 ∨ d = 9 ∨ d = 10 ∨ d = 11 ∨ d = 12 ∨ d = 13 ∨ d = 14 ∨ d = 15 := by omega
  rcases this with rfl | rfl | rfl | rfl | rfl | rfl | rfl | rfl | rfl | rfl | rfl | rfl | rfl | rfl | rfl | rfl <;> rfl

set_option maxHeartbeats 8000000 in
set_option maxRecDepth 100000 in
theorem fmtBits_ok (n : Nat) (hn : n < 16777216) (W : World) (hb : W.cell? ⟨5, 15, none⟩ = some (.int .u8 4)) :
    Calls Tryd.prog 58 #[.slice none 0 0, .int .u64 n, .int .i64 16, .bool false, .bool false] W fun e W' => e = .returned (.tuple #[.slice none 0 0, .string ⟨(hexL n).toArray⟩]) ∧ Below W.heap.size W W' := by
  have hcell : (W.alloc (.cells (Array.replicate 65 (.int .u8 0)) 112)).cell? ⟨5, 15, none⟩ = some (.int .u8 4) := by
    have := cell_lt hb
    rw [World.cell?_alloc_old _ _ _ (by show (5:Nat) ≠ _; omega)]
    exact hb
  have HPW := Lib.hid (isPow_ok (W.alloc (.cells (Array.replicate 65 (.int .u8 0)) 112)))
  have HTZ := Lib.hid (tzs_ok _ hcell)
  have HO := Lib.hid (Owns.alloc W (List.replicate 65 (.int .u8 0)) 112)
  have HBW := Lib.hid (Below.alloc (Below.refl W.heap.size W) (Nat.le_refl _) (.cells (Array.replicate 65 (.int .u8 0)) 112))
  have hrep : (List.replicate 65 (Value.int .u8 0)).toArray = Array.replicate 65 (.int .u8 0) := List.toArray_replicate _ _
  rw [hrep] at HO
  clear hb hcell
  go_enter Tryd.func58, Tryd.ntmps58
  go_wp2_with first | (go_at_call 67; refine HPW.out.mono ?_; rintro e w ⟨rfl, rfl⟩) | (go_at_call 68; refine HTZ.out.mono ?_; rintro e w ⟨rfl, rfl⟩)
  generalize W.alloc (.cells (Array.replicate 65 (.int .u8 0)) 112) = w1 at *
  go_loopw [1, 13] (fun vu vk wr => ∃ (u k : Nat) (suf : List UInt8), vu = .int .u64 u ∧ vk = .int .i64 k ∧ k + suf.length = 65 ∧ suf.length ≤ 5 ∧ u < 16777216 ∧ Hid (u < 16 ^ (6 - suf.length) ∧ hexL n = hexF (6 - suf.length) u ++ suf) ∧
      Hid (∃ pre : List Value, pre.length = k ∧ Owns wr W.heap.size (pre ++ suf.map fun b => .int .u8 (b.toNat : Int)) 112) ∧ Hid (Below W.heap.size W wr))
    (fun vu _ _ => (intOf vu).toNat)
  case atStart => exact ⟨n, 65, [], rfl, rfl, rfl, by simp, hn, ⟨hn, by simp [hexL]⟩, ⟨List.replicate 65 (.int .u8 0), by simp, by simpa using HO.out⟩, HBW.out⟩
  case round =>
    obtain ⟨u, k, suf, rfl, rfl, hks, hs5, hu, hh, hpre, hbw⟩ := hrel
    obtain ⟨pre, hpl, hown⟩ := hpre.out
    obtain ⟨hu6, hhex⟩ := hh.out
    clear hpre hh
    by_cases h16 : 16 ≤ u
    · have hs4 : suf.length ≤ 4 := by
        apply Classical.byContradiction
        intro hno
        rw [show 6 - suf.length = 1 by omega] at hu6
        omega
      have hand : bits .and .u64 (u : Int) 15 = ((u % 16 : Nat) : Int) := by
        have := bits_and_u64_nat u 15 (by omega) (by omega)
        rw [show u &&& 15 = u % 16 from Nat.and_two_pow_sub_one_eq_mod u 4] at this
        exact this
      have hr16 : u % 16 < 16 := Nat.mod_lt _ (by omega)
      obtain ⟨pre', x, rfl⟩ : ∃ pre' x, pre = pre' ++ [x] := ⟨pre.dropLast, pre.getLast (by intro h0; subst h0; simp at hpl; omega), (List.dropLast_concat_getLast _).symm⟩
      obtain ⟨k, rfl⟩ : ∃ k', k = k' + 1 := ⟨k - 1, by omega⟩
      simp only [List.length_append, List.length_singleton] at hpl
      have hk' : pre'.length = k := by omega
      have hcell := hown.cell_at (i := k) (v := x) (by simp [← hk'])
      have hfree := hown.free k
      go_wp2_with fail
      rw [digits_at _ hr16]
      refine ⟨⟨u / 16, k, dig (u % 16) :: suf, rfl, rfl, by simp only [List.length_cons]; omega, by simp only [List.length_cons]; omega, by omega, ?_, ⟨pre', hk', ?_⟩, hbw.out.setCell (p := ⟨W.heap.size, k, none⟩) (Nat.le_refl _) _⟩, by simp only [intOf]; omega⟩
      · rw [show 6 - suf.length = (6 - (dig (u % 16) :: suf).length) + 1 by simp only [List.length_cons]; omega] at hu6 hhex
        rw [hexF, if_neg (by omega)] at hhex
        rw [Nat.pow_succ] at hu6
        refine ⟨by omega, ?_⟩
        rw [hhex, List.append_assoc]
        rfl
      · have hset : (pre' ++ [x] ++ suf.map fun b => Value.int .u8 (b.toNat : Int)).set k (.int .u8 (dig (u % 16)).toNat) = pre' ++ (dig (u % 16) :: suf).map fun b => Value.int .u8 (b.toNat : Int) := by
          rw [List.append_assoc, List.set_append_right _ _ (by omega), hk', Nat.sub_self]
          rfl
        have := hown.set k (.int .u8 (dig (u % 16)).toNat)
        rw [hset] at this
        exact this
    · have hhx : hexL n = dig u :: suf := by
        rw [hhex, show 6 - suf.length = (6 - suf.length - 1) + 1 by omega, hexF, if_pos (by omega)]
        rfl
      obtain ⟨pre', x, rfl⟩ : ∃ pre' x, pre = pre' ++ [x] := ⟨pre.dropLast, pre.getLast (by intro h0; subst h0; simp at hpl; omega), (List.dropLast_concat_getLast _).symm⟩
      obtain ⟨k, rfl⟩ : ∃ k', k = k' + 1 := ⟨k - 1, by omega⟩
      simp only [List.length_append, List.length_singleton] at hpl
      have hk' : pre'.length = k := by omega
      have hcell := hown.cell_at (i := k) (v := x) (by simp [← hk'])
      have hfree := hown.free k
      have hset : (pre' ++ [x] ++ suf.map fun b => Value.int .u8 (b.toNat : Int)).set k (.int .u8 (dig u).toNat) = pre' ++ (dig u :: suf).map fun b => Value.int .u8 (b.toNat : Int) := by
        rw [List.append_assoc, List.set_append_right _ _ (by omega), hk', Nat.sub_self]
        rfl
      have hown2 := hown.set k (.int .u8 (dig u).toNat)
      rw [hset, ← hhx] at hown2
      have hcv : (convert 22 9 (.slice (some ⟨W.heap.size, k, none⟩) (hexL n).length (hexL n).length)).run Tryd.prog (wr.setCell ⟨W.heap.size, k, none⟩ (.int .u8 (dig u).toNat)) = .ok (.string ⟨(hexL n).toArray⟩) (wr.setCell ⟨W.heap.size, k, none⟩ (.int .u8 (dig u).toNat)) := by
        refine run_convert_bytes_back _ _ _ 5 _ _ _ (by kernel_rfl) (by kernel_rfl) (by kernel_rfl) fun j hj => ?_
        rw [show (⟨W.heap.size, k, none⟩ : Addr).add j = ⟨W.heap.size, k + j, none⟩ by unfold Addr.add; split <;> simp_all]
        refine hown2.cell_at (i := k + j) ?_
        rw [List.getElem?_append_right (by omega), hk', Nat.add_sub_cancel_left, List.getElem?_map, List.getElem?_eq_getElem hj]
        rfl
      have hbb := hbw.out.setCell (p := ⟨W.heap.size, k, none⟩) (Nat.le_refl _) (.int .u8 (dig u).toNat)
      have hlen : (hexL n).length = 65 - k := by rw [hhx, List.length_cons]; omega
      rw [hlen] at hcv
      have HCV := Lib.hid hcv
      have HBB := Lib.hid hbb
      clear hown2 hset hcv hbb hhex hhx hu6 HO HBW HPW HTZ hbw hlen
      have hu16 : u < 16 := by omega
      have hal : Tryd.prog.arrayLen 112 = 65 := by kernel_rfl
      have hsl : ∀ V, (Instr.sliceAt 112 (.pointer (some ⟨W.heap.size, 0, none⟩)) (some (.int .i64 k)) none none).run Tryd.prog V = .ok (.slice (some ⟨W.heap.size, k, none⟩) (65 - k) (65 - k)) V := fun V => by
        rw [run_sliceAt_array_l V 112 ⟨W.heap.size, 0, none⟩ (by kernel_rfl) .i64 (k : Int) (by omega) (by rw [hal]; omega)]
        rw [hal]
        go_simp
        omega
      go_wp2_with fail
      rw [digits_at u hu16, HCV.out]
      simp only [Result.andThen]
      go_wp2_with fail
      go_ret2
      exact ⟨rfl, HBB.out⟩

set_option maxHeartbeats 2000000 in
set_option maxRecDepth 20000 in
theorem fmtIn_ok (n : Nat) (hn : n < 16777216) (W : World) (hb : W.cell? ⟨5, 15, none⟩ = some (.int .u8 4)) :
    Calls Tryd.prog 44 #[.int .i64 n, .int .i64 16] W fun e W' => e = .returned (.string ⟨(hexL n).toArray⟩) ∧ Below W.heap.size W W' := by
  have HF := Lib.hid (fmtBits_ok n hn W hb)
  clear hb
  go_enter Tryd.func44, Tryd.ntmps44
  go_wp2_with (go_at_call 58; refine HF.out.mono ?_; rintro e w ⟨rfl, hbw⟩)
  go_ret
  exact ⟨rfl, hbw⟩

set_option maxHeartbeats 2000000 in
set_option maxRecDepth 20000 in
theorem fmt_ok (n : Nat) (hn : n < 16777216) (W : World) (hb : W.cell? ⟨5, 15, none⟩ = some (.int .u8 4)) :
    Calls Tryd.prog 30 #[.int .i64 n, .int .i64 16] W fun e W' => e = .returned (.string ⟨(hexL n).toArray⟩) ∧ Below W.heap.size W W' := by
  have HF := Lib.hid (fmtIn_ok n hn W hb)
  clear hb
  go_enter Tryd.func30, Tryd.ntmps30
  go_wp2_with (go_at_call 44; refine HF.out.mono ?_; rintro e w ⟨rfl, hbw⟩)
  go_ret
  exact ⟨rfl, hbw⟩
end Go.Proofs.YtglnnjcapcpkfacDoor
