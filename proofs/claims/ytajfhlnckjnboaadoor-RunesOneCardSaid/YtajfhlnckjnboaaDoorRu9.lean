/- The chapter's examples: they hold. -/
import Derived.Test.YtajfhlnckjnboaaDoorRu8
import Derived.Test.YtajfhlnckjnboaaDoorRu6
namespace Go.Proofs.YtajfhlnckjnboaaDoor
open Go.RowKit

set_option maxHeartbeats 8000000 in
set_option maxRecDepth 20000 in
theorem lives_ok (W : World) (hW : Laid W) : Calls Tryd.prog 8 #[] W fun e W' => e = .returned (.bool true) ∧ Below W.heap.size W W' := by
  have hd1 : ∀ w, Laid w → Calls Tryd.prog 14 #[.string { data := #[97, 195, 169] }, .int .i64 1] w fun e w' => e = .returned (.tuple #[.int .i32 233, .int .i64 2, .bool true]) ∧ Below w.heap.size w w' := by
    intro w hw
    have := decode_ok { data := #[97, 195, 169] } 1 w (by decide) (by decide) (by decide) hw.tabs
    unfold DecodeIs at this
    rw [show runeAt { data := #[97, 195, 169] } 1 = (233, 2, true) from by decide +kernel] at this
    exact this
  have hd2 : ∀ w, Laid w → Calls Tryd.prog 14 #[.string { data := #[192, 128] }, .int .i64 0] w fun e w' => e = .returned (.tuple #[.int .i32 0, .int .i64 1, .bool false]) ∧ Below w.heap.size w w' := by
    intro w hw
    have := decode_ok { data := #[192, 128] } 0 w (by decide) (by decide) (by decide) hw.tabs
    unfold DecodeIs at this
    rw [show runeAt { data := #[192, 128] } 0 = (0, 1, false) from by decide +kernel] at this
    exact this
  have he : ∀ w, Laid w → Calls Tryd.prog 15 #[.string { data := #[92, 117, 123, 101, 57, 125] }, .int .i64 0] w fun e w' => e = .returned (.tuple #[.int .i32 233, .int .i64 6, .bool true]) ∧ Below w.heap.size w w' := by
    intro w hw
    exact escape3_ok { data := #[92, 117, 123, 101, 57, 125] } 0 233 [] (by decide +kernel) (by decide) (by decide) w hw
  have hp : ∀ w, Calls Tryd.prog 9 #[.string { data := #[97, 10, 195, 169, 98] }, .int .i64 4] w fun e w' => e = .returned (.agg #[.int .i64 4, .int .i64 2, .int .i64 2]) ∧ Below w.heap.size w w' := by
    intro w
    have := place_ok { data := #[97, 10, 195, 169, 98] } 4 w (by decide) (by decide) (by decide)
    unfold PlaceIs at this
    rw [show within { data := #[97, 10, 195, 169, 98] } 4 = 4 from by decide +kernel, show place { data := #[97, 10, 195, 169, 98] } 4 = (2, 2) from by decide +kernel] at this
    exact this
  have ht : ∀ w, Laid w → Calls Tryd.prog 12 #[.int .i32 233] w fun e w' => e = .returned (.string { data := #[92, 117, 123, 101, 57, 125] }) ∧ Below w.heap.size w w' := by
    intro w hw
    have := text_ok 233 w hw
    unfold TextIs at this
    rw [show textL 233 = [92, 117, 123, 101, 57, 125] from by decide +kernel] at this
    exact this
  have D1 := Lib.hid hd1
  have D2 := Lib.hid hd2
  have HE := Lib.hid he
  have HP := Lib.hid hp
  have HT := Lib.hid ht
  have HW := Lib.hid hW
  clear hd1 hd2 he hp ht hW
  go_enter Tryd.func8, Tryd.ntmps8
  go_wp2_with fail
  refine (D1.out _ HW.out).mono ?_
  rintro e w1 ⟨rfl, hb1⟩
  have HL1 := Lib.hid (HW.out.below hb1)
  go_wp2_with fail
  refine (D2.out _ HL1.out).mono ?_
  rintro e w2 ⟨rfl, hb2⟩
  have HL2 := Lib.hid (HL1.out.below hb2)
  go_wp2_with fail
  refine (HE.out _ HL2.out).mono ?_
  rintro e w3 ⟨rfl, hb3⟩
  have HL3 := Lib.hid (HL2.out.below hb3)
  go_wp2_with fail
  refine (HP.out _).mono ?_
  rintro e w4 ⟨rfl, hb4⟩
  have HL4 := Lib.hid (HL3.out.below hb4)
  go_wp2_with fail
  refine (HT.out _ HL4.out).mono ?_
  rintro e w5 ⟨rfl, hb5⟩
  go_wp2_with fail
  go_ret
  have s1 := hb1.size
  have s2 := hb2.size
  have s3 := hb3.size
  have s4 := hb4.size
  exact ⟨rfl, (((hb1.trans (hb2.mono (by omega))).trans (hb3.mono (by omega))).trans (hb4.mono (by omega))).trans (hb5.mono (by omega))⟩
end Go.Proofs.YtajfhlnckjnboaaDoor
