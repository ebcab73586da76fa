/- runes.Decode, Encode and Bad: what they answer. -/
import Derived.Test.YtdgkpmpakkfgbaaGreatDoorRows
import Derived.Test.YtdgkpmpakkfgbaaGreatDoorShelf
import Derived.Shelf.Unicode.DecodeAny
import Derived.Lib.TrimUEq
import Derived.Lib.Hide
import Derived.Outline
import Derived.WalkKit
import Derived.ProofKit
namespace Go.Proofs.YtdgkpmpakkfgbaaGreatDoor
open Go.RowKit

theorem decodeGo_at (s : ByteArray) (pos : Nat) (h : pos < s.size) : Lib.decodeGo (s.extract pos s.size) = Utf8.decode s pos := by
  have hx : (s.extract pos s.size).data.toList = s.data.toList.drop pos := by
    rw [Lib.extract_data, List.take_of_length_le (by rw [List.length_drop, ← Lib.size_eq]; omega)]
  have hsz : (s.extract pos s.size).size ≠ 0 := by rw [Lib.size_eq, hx, List.length_drop, ← Lib.size_eq]; omega
  unfold Lib.decodeGo
  rw [if_neg hsz, ← Lib.decodeL_drop s pos, ← hx]
  rfl

/-- the rune at a place: its number, how many bytes, whether there is one -/
def runeAt (s : ByteArray) (at_ : Int) : Nat × Nat × Bool :=
  if at_ < 0 ∨ (s.size : Int) ≤ at_ then (0, 0, false)
  else if Utf8.decode s at_.toNat = (65533, 1) then (0, 1, false)
  else ((Utf8.decode s at_.toNat).1, (Utf8.decode s at_.toNat).2, true)

def DecodeIs (s : ByteArray) (at_ : Int) (W : World) (e : Ending) (W' : World) : Prop :=
  e = .returned (.tuple #[.int .i32 (runeAt s at_).1, .int .i64 (runeAt s at_).2.1, .bool (runeAt s at_).2.2]) ∧ Below W.heap.size W W'

set_option maxHeartbeats 1000000 in
set_option maxRecDepth 20000 in
theorem decode_ok (s : ByteArray) (at_ : Int) (W : World) (_hs : s.size ≤ 140737488355328) (h0 : -9223372036854775808 ≤ at_) (h1 : at_ ≤ 9223372036854775807) (hT : Lib.Utf8Tabs 1 2 W) :
    Calls Tryz.prog 23 #[.string s, .int .i64 at_] W fun e W' => DecodeIs s at_ W e W' := by
  by_cases hin : 0 ≤ at_ ∧ at_ < s.size
  · obtain ⟨k, rfl⟩ := Int.eq_ofNat_of_zero_le hin.1
    have hk : k < s.size := by omega
    have hD := Tryz.utf8_DecodeRuneInString (s.extract k s.size) W hT
    rw [decodeGo_at s k hk] at hD
    have hr : runeAt s k = if Utf8.decode s k = (65533, 1) then (0, 1, false) else ((Utf8.decode s k).1, (Utf8.decode s k).2, true) := by
      unfold runeAt
      rw [if_neg (by omega)]
      rfl
    unfold DecodeIs
    rw [hr]
    clear hr
    generalize Utf8.decode s k = p at *
    obtain ⟨r, z⟩ := p
    have HD := Lib.hid hD
    clear hD hT
    by_cases hr1 : r = 65533
    · subst hr1
      by_cases hz1 : z = 1
      · subst hz1
        rw [if_pos rfl]
        go_enter Tryz.func23, Tryz.ntmps23
        go_wp2_with (go_at_call 37; refine HD.out.mono ?_; rintro e w ⟨rfl, hb⟩)
        go_ret3
        exact ⟨rfl, hb⟩
      · rw [if_neg (by simp [hz1])]
        go_enter Tryz.func23, Tryz.ntmps23
        go_wp2_with (go_at_call 37; refine HD.out.mono ?_; rintro e w ⟨rfl, hb⟩)
        go_ret3
        exact ⟨rfl, hb⟩
    · rw [if_neg (by simp [hr1])]
      go_enter Tryz.func23, Tryz.ntmps23
      go_wp2_with (go_at_call 37; refine HD.out.mono ?_; rintro e w ⟨rfl, hb⟩)
      go_ret3
      exact ⟨rfl, hb⟩
  · have hr : runeAt s at_ = (0, 0, false) := by
      unfold runeAt
      rw [if_pos (by omega)]
    unfold DecodeIs
    rw [hr]
    clear hr hT
    by_cases hneg : at_ < 0
    · go_enter Tryz.func23, Tryz.ntmps23
      go_wp2_with fail
      go_ret3
      exact ⟨rfl, Below.refl _ _⟩
    · go_enter Tryz.func23, Tryz.ntmps23
      go_wp2_with fail
      go_ret3
      exact ⟨rfl, Below.refl _ _⟩


theorem width_pos (s : ByteArray) (pos : Nat) : 1 ≤ (Utf8.decode s pos).2 := by
  rw [Lib.decode_at]
  unfold Lib.decodeN
  repeat' split
  all_goals simp
theorem runeAt_pos (s : ByteArray) (pos : Nat) (h : pos < s.size) : 1 ≤ (runeAt s pos).2.1 := by
  unfold runeAt
  rw [if_neg (by omega)]
  split
  · exact Nat.le_refl _
  · exact width_pos s _

/-- where the first rune is that is none, from a place on -/
def badFrom (s : ByteArray) : Nat → Nat → Int
  | 0, _ => -1
  | f + 1, at_ => if at_ < s.size then (if (runeAt s at_).2.2 then badFrom s f (at_ + (runeAt s at_).2.1) else at_) else -1
theorem badFrom_more (s : ByteArray) : ∀ (f g at_ : Nat), s.size ≤ at_ + f → s.size ≤ at_ + g → badFrom s f at_ = badFrom s g at_
  | 0, 0, _, _, _ => rfl
  | 0, g + 1, at_, h, _ => by rw [badFrom, badFrom, if_neg (by omega)]
  | f + 1, 0, at_, _, h => by rw [badFrom, badFrom, if_neg (by omega)]
  | f + 1, g + 1, at_, h1, h2 => by
    rw [badFrom, badFrom]
    by_cases h : at_ < s.size
    · have := runeAt_pos s at_ h
      rw [if_pos h, if_pos h, badFrom_more s f g _ (by omega) (by omega)]
    · rw [if_neg h, if_neg h]
def bad (s : ByteArray) : Int := badFrom s s.size 0

theorem width_le (s : ByteArray) (pos : Nat) : (Utf8.decode s pos).2 ≤ 4 := by
  rw [Lib.decode_at]
  unfold Lib.decodeN
  repeat' split
  all_goals simp
theorem runeAt_le (s : ByteArray) (at_ : Int) : (runeAt s at_).2.1 ≤ 4 := by
  unfold runeAt
  split
  · exact Nat.zero_le _
  · split
    · show 1 ≤ 4
      omega
    · exact width_le s _

set_option maxHeartbeats 1000000 in
set_option maxRecDepth 20000 in
theorem bad_ok (s : ByteArray) (W : World) (hs : s.size ≤ 140737488355328) (hT : Lib.Utf8Tabs 1 2 W) :
    Calls Tryz.prog 9 #[.string s] W fun e W' => e = .returned (.int .i64 (bad s)) ∧ Below W.heap.size W W' := by
  have HT := Lib.hid hT
  clear hT
  go_enter Tryz.func9, Tryz.ntmps9
  go_wp2_with fail
  go_loopw [3] (fun c wr => ∃ j : Nat, c = .int .i64 j ∧ j ≤ s.size + 4 ∧ Hid (badFrom s (s.size - j) j = bad s) ∧ Hid (Below W.heap.size W wr)) (fun c _ => s.size + 4 - (intOf c).toNat)
  case atStart => exact ⟨0, rfl, by omega, rfl, Below.refl _ _⟩
  case round =>
    obtain ⟨j, rfl, hj, hb, hbw⟩ := hrel
    by_cases hlt : j < s.size
    · have hD := decode_ok s (j : Int) wr hs (by omega) (by omega) (Go.Proofs.Utf8Tabs_below HT.out hbw.out)
      unfold DecodeIs at hD
      have hp := runeAt_pos s j hlt
      have hl := runeAt_le s (j : Int)
      have hbj := hb.out
      rw [show s.size - j = (s.size - j - 1) + 1 by omega, badFrom, if_pos hlt] at hbj
      generalize runeAt s (j : Int) = p at *
      obtain ⟨r, z, ok⟩ := p
      have HBJ := Lib.hid hbj
      have HD := Lib.hid hD
      simp only at hp hl
      clear hD hb hbj
      cases ok
      · go_wp2_with (go_at_call 23; refine HD.out.mono ?_; rintro e w ⟨rfl, hb2⟩)
        go_ret
        refine ⟨?_, hbw.out.trans (hb2.mono (by have := hbw.out.size; omega))⟩
        have := HBJ.out
        simp at this
        rw [this]
        rfl
      · go_wp2_with (go_at_call 23; refine HD.out.mono ?_; rintro e w ⟨rfl, hb2⟩)
        refine ⟨⟨j + z, by go_num, by omega, ?_, hbw.out.trans (hb2.mono (by have := hbw.out.size; omega))⟩, by simp [intOf]; omega⟩
        have := HBJ.out
        simp at this
        unfold Hid
        rw [← this]
        exact badFrom_more s _ _ _ (by omega) (by omega)
    · go_wp2_with fail
      go_ret
      refine ⟨?_, hbw.out⟩
      have := hb.out
      rw [show s.size - j = 0 by omega, badFrom] at this
      rw [← this]
      rfl
end Go.Proofs.YtdgkpmpakkfgbaaGreatDoor
