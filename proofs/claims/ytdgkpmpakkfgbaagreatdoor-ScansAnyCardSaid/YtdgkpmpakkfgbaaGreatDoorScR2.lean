/- The document's begins. -/
import Derived.Test.YtdgkpmpakkfgbaaGreatDoorScR1
namespace Go.Proofs.YtdgkpmpakkfgbaaGreatDoor
open Go.RowKit

theorem toList_ne (x y : ByteArray) (h : ¬ x = y) : (x.toList == y.toList) = false := by
  rw [Lib.toList_data, Lib.toList_data]
  exact beq_eq_false_iff_ne.2 fun e => h (ByteArray.ext (Array.toList_inj.1 e))
theorem pre_take (s w : ByteArray) (k : Nat) : (s.extract k (k + w.size) = w) ↔ Lib.hasPrefix (s.data.toList.drop k) w.data.toList = true := by
  have hw : w.size = w.data.toList.length := Lib.size_eq w
  have he : (s.extract k (k + w.size)).data.toList = (s.data.toList.drop k).take w.size := by
    rw [Lib.extract_data]
    rw [show k + w.size - k = w.size by omega]
  unfold Lib.hasPrefix
  rw [List.isPrefixOf_iff_prefix, List.prefix_iff_eq_take, ← hw, ← he]
  constructor
  · intro e; rw [e]
  · intro e
    apply ByteArray.ext
    exact (Array.toList_inj.1 e).symm
theorem pre_short (s w : ByteArray) (k : Nat) (hk : k ≤ s.size) (h : ¬ k + w.size ≤ s.size) : Lib.hasPrefix (s.data.toList.drop k) w.data.toList = false := by
  have hw : w.size = w.data.toList.length := Lib.size_eq w
  have hs : s.size = s.data.toList.length := Lib.size_eq s
  cases hx : Lib.hasPrefix (s.data.toList.drop k) w.data.toList
  · rfl
  · unfold Lib.hasPrefix at hx
    have := (List.isPrefixOf_iff_prefix.1 hx).length_le
    rw [List.length_drop] at this
    omega

set_option maxHeartbeats 2000000 in
set_option maxRecDepth 20000 in
theorem begins_ok (s w : ByteArray) (k : Nat) (W : World) (hk : k ≤ s.size) (hs : s.size ≤ 65536) (hw : w.size ≤ 65536) : Calls Tryz.prog 22 #[.string s, .int .i64 k, .string w] W fun e W' => e = .returned (.bool (Lib.hasPrefix (s.data.toList.drop k) w.data.toList)) ∧ W' = W := by
  by_cases h : k + w.size ≤ s.size
  · have hp := pre_take s w k
    generalize Lib.hasPrefix (s.data.toList.drop k) w.data.toList = b at *
    have hsl : ∀ V : World, (Instr.slice 9 (.string s) (some (.int .i64 k)) (some (.int .i64 ((k : Int) + w.size))) none).run Tryz.prog V = .ok (.string (s.extract k (k + w.size))) V := fun V => by
      rw [run_slice_string V 9 s .i64 .i64 (k : Int) ((k : Int) + w.size) (by kernel_rfl) (by omega) (by omega) (by omega)]
      rfl
    generalize s.extract k (k + w.size) = x at *
    have HSL := Lib.hid hsl
    have HP := Lib.hid hp
    clear hp hsl
    go_enter Tryz.func22, Tryz.ntmps22
    go_wp2_with fail
    rw [HSL.out]
    simp only [Result.andThen]
    go_wp2_with fail
    go_ret
    refine ⟨?_, rfl⟩
    have hp := HP.out
    cases b
    · have h1 : ¬ x = w := fun e => by simpa using hp.1 e
      exact congrArg (fun b => Ending.returned (.bool b)) (toList_ne x w h1)
    · have h1 : x = w := hp.2 rfl
      subst h1
      exact congrArg (fun b => Ending.returned (.bool b)) (beq_self_eq_true x.toList)
  · rw [pre_short s w k hk h]
    go_enter Tryz.func22, Tryz.ntmps22
    go_wp2
    go_ret
    first | exact ⟨rfl, rfl⟩ | (refine ⟨?_, rfl⟩; simp; omega)
end Go.Proofs.YtdgkpmpakkfgbaaGreatDoor
