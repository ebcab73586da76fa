/- places: the function that is told. -/
import Derived.Test.YtdgkpmpakkfgbaaGreatDoorScRow
namespace Go.Proofs.YtdgkpmpakkfgbaaGreatDoor
open Go.RowKit
set_option maxHeartbeats 8000000 in
set_option maxRecDepth 20000 in
theorem places_ok (s : ByteArray) (W : World) (hs : s.size ≤ 65536) :
    Calls Tryz.prog 11 #[.string s] W fun r W' => r = .returned (.func (.func 24) #[] #[.pointer (some ⟨W.heap.size, 0, none⟩), .pointer (some ⟨W.heap.size + 1, 0, none⟩)]) ∧ Grew W W' ∧ PlAt W' W.heap.size (W.heap.size + 1) s 0 := by
  go_enter Tryz.func11, Tryz.ntmps11
  go_wp2_with fail
  go_ret
  have o1 := Owns.alloc W [.string s] 9
  have o2 := Owns.alloc (W.alloc (.cells #[.string s] 9)) [.int .i64 ((0 : Nat) : Int), .int .i64 ((1 : Nat) : Int), .int .i64 ((1 : Nat) : Int)] 26
  have g1 := grew_alloc W (.cells #[.string s] 9)
  have g2 := grew_alloc (W.alloc (.cells #[.string s] 9)) (.cells #[.int .i64 ((0 : Nat) : Int), .int .i64 ((1 : Nat) : Int), .int .i64 ((1 : Nat) : Int)] 26)
  have hz : (W.alloc (.cells #[.string s] 9)).heap.size = W.heap.size + 1 := by simp
  rw [hz] at o2
  refine ⟨rfl, g1.trans g2, o1.keep g2, ?_, Nat.zero_le _, hs⟩
  rw [List.take_zero]
  exact o2
end Go.Proofs.YtdgkpmpakkfgbaaGreatDoor
