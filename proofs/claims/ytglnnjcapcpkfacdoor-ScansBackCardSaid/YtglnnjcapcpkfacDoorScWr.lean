/- (*strings.Builder).WriteRune: laid by hand: the shelf's own laying wants two types that no body names. -/
import Derived.Test.YtglnnjcapcpkfacDoorShelf
import Derived.Test.YtglnnjcapcpkfacDoorScGap
import Derived.Shelf.Strings.BuilderRune
import Derived.Shelf.Strings.BuilderK
import Derived.Lib.RuneBytes
namespace Go.Proofs.YtglnnjcapcpkfacDoor
open Go.RowKit Go.Shelf

def lays168_ren : Go.Shelf.Ren := ⟨fun | 168 => 38 | 240 => 53 | 242 => 54 | 276 => 62 | 278 => 63 | n => n, fun | 0 => 0 | 3 => 3 | 4 => 4 | 5 => 5 | 9 => 9 | 20 => 20 | 21 => 21 | 37 => 22 | 46 => 83 | 51 => 104 | 70 => 70 | 72 => 72 | 75 => 77 | 80 => 55 | 164 => 108 | n => n, fun | n => n⟩
theorem lays168 : Go.Proofs.Lays.n168 Tryd.prog lays168_ren := {
  mixed := by kernel_rfl
  f168 := Tryd.func38.trans (congrArg some (by kernel_rfl))
  f240 := Tryd.func53.trans (congrArg some (by kernel_rfl))
  f242 := Tryd.func54.trans (congrArg some (by kernel_rfl))
  f276 := Tryd.func62.trans (congrArg some (by kernel_rfl))
  f278 := Tryd.func63.trans (congrArg some (by kernel_rfl))
  t0 := Tryd.underlying0
  a0 := Tryd.isAgg0
  z0 := Tryd.sizeOf0
  v0 := Tryd.zeroValue0
  t3 := Tryd.underlying3
  a3 := Tryd.isAgg3
  z3 := Tryd.sizeOf3
  v3 := Tryd.zeroValue3
  t4 := Tryd.underlying4
  a4 := Tryd.isAgg4
  z4 := Tryd.sizeOf4
  v4 := Tryd.zeroValue4
  t5 := Tryd.underlying5
  a5 := Tryd.isAgg5
  z5 := Tryd.sizeOf5
  v5 := Tryd.zeroValue5
  t9 := Tryd.underlying9
  a9 := Tryd.isAgg9
  z9 := Tryd.sizeOf9
  v9 := Tryd.zeroValue9
  t20 := Tryd.underlying20
  a20 := Tryd.isAgg20
  z20 := Tryd.sizeOf20
  v20 := Tryd.zeroValue20
  t21 := Tryd.underlying21
  a21 := Tryd.isAgg21
  z21 := Tryd.sizeOf21
  v21 := Tryd.zeroValue21
  t37 := Tryd.underlying22
  a37 := Tryd.isAgg22
  z37 := Tryd.sizeOf22
  v37 := Tryd.zeroValue22
  t46 := Tryd.underlying83
  a46 := Tryd.isAgg83
  z46 := Tryd.sizeOf83
  v46 := Tryd.zeroValue83
  t51 := Tryd.underlying104
  a51 := Tryd.isAgg104
  z51 := Tryd.sizeOf104
  v51 := Tryd.zeroValue104
  t70 := Tryd.underlying70
  a70 := Tryd.isAgg70
  z70 := Tryd.sizeOf70
  v70 := Tryd.zeroValue70
  t72 := Tryd.underlying72
  a72 := Tryd.isAgg72
  z72 := Tryd.sizeOf72
  v72 := Tryd.zeroValue72
  t75 := Tryd.underlying77
  a75 := Tryd.isAgg77
  z75 := Tryd.sizeOf77
  v75 := Tryd.zeroValue77
  t164 := Tryd.underlying108
  a164 := Tryd.isAgg108
  z164 := Tryd.sizeOf108
  v164 := Tryd.zeroValue108 }
theorem builder_extra_168 : Builder.Extra Tryd.prog lays168_ren := {
  sizeBuilder := by kernel_rfl
  liesBuilder := by kernel_rfl
  t5 := Tryd.underlying5
  a5 := Tryd.isAgg5
  z5 := Tryd.sizeOf5
  v5 := Tryd.zeroValue5
  infoByte := by kernel_rfl
  cellsByte := by kernel_rfl
  sizeByte := by kernel_rfl
  neB5 := by decide }
/-- (*strings.Builder).WriteRune -/
theorem writeRune_ok (B b : Nat) (bs : List Value) (r : Int) (hr0 : -2147483648 ≤ r) (hr1 : r ≤ 2147483647) (w : World) (h : Lib.IsBuilderF 72 5 B b bs w) (hlen : bs.length + 4 ≤ 140737488355328) (hBw : B ≤ w.heap.size) :
    Calls Tryd.prog 38 #[.pointer (some ⟨b, 0, none⟩), .int .i32 r] w fun e w' => e = .returned (.tuple #[.int .i64 (Lib.runeCells r).length, .nilIface]) ∧ (Lib.BuilderAtF 72 5 B b (.pointer (some ⟨b, 0, none⟩)) (bs ++ Lib.runeCells r) w' ∧ Below B w w' ∧ Lib.OthersKept 5 (some b) w w') :=
  Any.Builder_WriteRune_k lays168 builder_extra_168 B b bs r hr0 hr1 w h hlen hBw
/-- a builder stays one while another block turns -/
theorem builder_upd {T e B b : Nat} {p : Value} {bs : List Value} {W W' : World} {t : Nat} (h : Lib.BuilderAtF T e B b p bs W) (hg : Upd t W W') (hn : t < B) : Lib.BuilderAtF T e B b p bs W' := by
  have hlt := h.lt
  obtain ⟨hB, v, hv, hown, hne⟩ := h
  exact ⟨hB, v, (hg.block b hlt (by omega)).trans hv, hown.kept (row := some t) ⟨hg.os, hg.tape, hg.output, hg.size, fun k hk hne => hg.block k hk (fun e => hne (by rw [e]))⟩ (by
    rcases hown.2 with ⟨rfl, _⟩ | ⟨g, cap, cur, fz, rfl, hbg, _⟩
    · exact .inl rfl
    · refine .inr fun e => ?_
      have : g = t := Option.some.inj e
      omega), hne⟩
theorem isBuilder_upd {T e B b : Nat} {bs : List Value} {W W' : World} {t : Nat} (h : Lib.IsBuilderF T e B b bs W) (hg : Upd t W W') (hn : t < B) : Lib.IsBuilderF T e B b bs W' :=
  h.elim (fun x => .inl (builder_upd x hg hn)) (fun x => .inr (builder_upd x hg hn))
theorem Upd.more {t B : Nat} {W w w' : World} (h : Upd t W w) (hb : Below B w w') (hB : W.heap.size ≤ B) : Upd t W w' :=
  ⟨hb.os.trans h.os, hb.tape.trans h.tape, hb.output.trans h.output, Nat.le_trans h.size hb.size, fun k hk hn => (hb.block k (by omega)).trans (h.block k hk hn)⟩
theorem ScanAt.below {W W' : World} {cb p e B : Nat} {s : ByteArray} (h : ScanAt W cb s p e) (hb : Below B W W') (hc : cb < B) : ScanAt W' cb s p e :=
  ⟨⟨h.box.owns.below hb hc, h.box.le, h.box.few⟩, h.laid.low (hb.mono (Nat.le_trans h.above (Nat.le_of_lt hc))), h.above⟩

/-- a rune's bytes, as the builder takes them -/
theorem bytes_rune (r : Nat) (h : Lib.validRune (r : Int) = true) : Lib.encodeRune (r : Int) = bytesOf (r : Int) := by
  have hv : (0 ≤ (r : Int) ∧ (r : Int) < 0xD800) ∨ (0xDFFF < (r : Int) ∧ (r : Int) ≤ 0x10FFFF) := of_decide_eq_true h
  have u : ∀ (x : Int) (n : Nat), x = n → x.toNat.toUInt8 = UInt8.ofNat n := fun x n e => by subst e; rfl
  unfold Lib.encodeRune
  rcases bytesOf_shape (r : Int) h with ⟨c, e⟩ | ⟨c1, c2, e⟩ | ⟨c1, c2, e⟩ | ⟨c1, e⟩
  · rw [e, Lib.encodeRuneZ_one (by omega) (by omega)]
    rfl
  · rw [e, Lib.encodeRuneZ_two (by omega) (by omega)]
    simp only [List.map_cons, List.map_nil, Int.toNat_natCast]
    rw [u _ (192 + r / 64) (by omega), u _ (128 + r % 64) (by omega)]
  · rw [e, Lib.encodeRuneZ_three (by omega)]
    simp only [List.map_cons, List.map_nil, Int.toNat_natCast]
    rw [u _ (224 + r / 4096) (by omega), u _ (128 + r / 64 % 64) (by omega), u _ (128 + r % 64) (by omega)]
  · rw [e, Lib.encodeRuneZ_four (by omega) (by omega)]
    simp only [List.map_cons, List.map_nil, Int.toNat_natCast]
    rw [u _ (240 + r / 262144) (by omega), u _ (128 + r / 4096 % 64) (by omega), u _ (128 + r / 64 % 64) (by omega), u _ (128 + r % 64) (by omega)]
end Go.Proofs.YtglnnjcapcpkfacDoor
