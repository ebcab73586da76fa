/- (*strings.Builder).WriteRune: laid by hand: the shelf's own laying wants two types that no body names. -/
import Derived.Test.YtdgkpmpakkfgbaaGreatDoorShelf
import Derived.Test.YtdgkpmpakkfgbaaGreatDoorScGap
import Derived.Shelf.Strings.BuilderRune
import Derived.Shelf.Strings.BuilderK
import Derived.Lib.RuneBytes
namespace Go.Proofs.YtdgkpmpakkfgbaaGreatDoor
open Go.RowKit Go.Shelf

def lays168_ren : Go.Shelf.Ren := ⟨fun | 168 => 44 | 240 => 61 | 242 => 62 | 276 => 69 | 278 => 70 | n => n, fun | 0 => 0 | 3 => 3 | 4 => 4 | 5 => 5 | 9 => 9 | 20 => 20 | 21 => 21 | 37 => 77 | 46 => 91 | 51 => 107 | 70 => 76 | 72 => 79 | 75 => 83 | 80 => 63 | 164 => 112 | n => n, fun | n => n⟩
theorem lays168 : Go.Proofs.Lays.n168 Tryz.prog lays168_ren := {
  mixed := by kernel_rfl
  f168 := Tryz.func44.trans (congrArg some (by kernel_rfl))
  f240 := Tryz.func61.trans (congrArg some (by kernel_rfl))
  f242 := Tryz.func62.trans (congrArg some (by kernel_rfl))
  f276 := Tryz.func69.trans (congrArg some (by kernel_rfl))
  f278 := Tryz.func70.trans (congrArg some (by kernel_rfl))
  t0 := Tryz.underlying0
  a0 := Tryz.isAgg0
  z0 := Tryz.sizeOf0
  v0 := Tryz.zeroValue0
  t3 := Tryz.underlying3
  a3 := Tryz.isAgg3
  z3 := Tryz.sizeOf3
  v3 := Tryz.zeroValue3
  t4 := Tryz.underlying4
  a4 := Tryz.isAgg4
  z4 := Tryz.sizeOf4
  v4 := Tryz.zeroValue4
  t5 := Tryz.underlying5
  a5 := Tryz.isAgg5
  z5 := Tryz.sizeOf5
  v5 := Tryz.zeroValue5
  t9 := Tryz.underlying9
  a9 := Tryz.isAgg9
  z9 := Tryz.sizeOf9
  v9 := Tryz.zeroValue9
  t20 := Tryz.underlying20
  a20 := Tryz.isAgg20
  z20 := Tryz.sizeOf20
  v20 := Tryz.zeroValue20
  t21 := Tryz.underlying21
  a21 := Tryz.isAgg21
  z21 := Tryz.sizeOf21
  v21 := Tryz.zeroValue21
  t37 := Tryz.underlying77
  a37 := Tryz.isAgg77
  z37 := Tryz.sizeOf77
  v37 := Tryz.zeroValue77
  t46 := Tryz.underlying91
  a46 := Tryz.isAgg91
  z46 := Tryz.sizeOf91
  v46 := Tryz.zeroValue91
  t51 := Tryz.underlying107
  a51 := Tryz.isAgg107
  z51 := Tryz.sizeOf107
  v51 := Tryz.zeroValue107
  t70 := Tryz.underlying76
  a70 := Tryz.isAgg76
  z70 := Tryz.sizeOf76
  v70 := Tryz.zeroValue76
  t72 := Tryz.underlying79
  a72 := Tryz.isAgg79
  z72 := Tryz.sizeOf79
  v72 := Tryz.zeroValue79
  t75 := Tryz.underlying83
  a75 := Tryz.isAgg83
  z75 := Tryz.sizeOf83
  v75 := Tryz.zeroValue83
  t164 := Tryz.underlying112
  a164 := Tryz.isAgg112
  z164 := Tryz.sizeOf112
  v164 := Tryz.zeroValue112 }
theorem builder_extra_168 : Builder.Extra Tryz.prog lays168_ren := {
  sizeBuilder := by kernel_rfl
  liesBuilder := by kernel_rfl
  t5 := Tryz.underlying5
  a5 := Tryz.isAgg5
  z5 := Tryz.sizeOf5
  v5 := Tryz.zeroValue5
  infoByte := by kernel_rfl
  cellsByte := by kernel_rfl
  sizeByte := by kernel_rfl
  neB5 := by decide }
/-- (*strings.Builder).WriteRune -/
theorem writeRune_ok (B b : Nat) (bs : List Value) (r : Int) (hr0 : -2147483648 ≤ r) (hr1 : r ≤ 2147483647) (w : World) (h : Lib.IsBuilderF 79 5 B b bs w) (hlen : bs.length + 4 ≤ 140737488355328) (hBw : B ≤ w.heap.size) :
    Calls Tryz.prog 44 #[.pointer (some ⟨b, 0, none⟩), .int .i32 r] w fun e w' => e = .returned (.tuple #[.int .i64 (Lib.runeCells r).length, .nilIface]) ∧ (Lib.BuilderAtF 79 5 B b (.pointer (some ⟨b, 0, none⟩)) (bs ++ Lib.runeCells r) w' ∧ Below B w w' ∧ Lib.OthersKept 5 (some b) w w') :=
  Any.Builder_WriteRune_k lays168 builder_extra_168 B b bs r hr0 hr1 w h hlen hBw
/-- a builder stays one while another block turns -/
theorem builder_upd {T e B b : Nat} {p : Value} {bs : List Value} {W W' : World} {t : Nat} (h : Lib.BuilderAtF T e B b p bs W) (hg : Upd t W W') (hn : t < B) : Lib.BuilderAtF T e B b p bs W' := by
  have hlt := h.lt
  obtain ⟨hB, v, hv, hown, hne⟩ := h
  exact ⟨hB, v, (hg.block b hlt (by omega)).trans hv, hown.kept (row := some t) ⟨hg.os, hg.tape, hg.output, hg.size, fun k hk hne => hg.block k hk (fun e => hne (by rw [e]))⟩ (by
    rcases hown.2 with ⟨rfl, _⟩ | ⟨g, cap, cur, fz, rfl, hbg, _⟩
    · exact .inl rfl
    · refine .inr fun e => ?_
      have : g = t := Option.some.inj e
      omega), hne⟩
theorem isBuilder_upd {T e B b : Nat} {bs : List Value} {W W' : World} {t : Nat} (h : Lib.IsBuilderF T e B b bs W) (hg : Upd t W W') (hn : t < B) : Lib.IsBuilderF T e B b bs W' :=
  h.elim (fun x => .inl (builder_upd x hg hn)) (fun x => .inr (builder_upd x hg hn))
theorem Upd.more {t B : Nat} {W w w' : World} (h : Upd t W w) (hb : Below B w w') (hB : W.heap.size ≤ B) : Upd t W w' :=
  ⟨hb.os.trans h.os, hb.tape.trans h.tape, hb.output.trans h.output, Nat.le_trans h.size hb.size, fun k hk hn => (hb.block k (by omega)).trans (h.block k hk hn)⟩
theorem ScanAt.below {W W' : World} {cb p e B : Nat} {s : ByteArray} (h : ScanAt W cb s p e) (hb : Below B W W') (hc : cb < B) : ScanAt W' cb s p e :=
  ⟨⟨h.box.owns.below hb hc, h.box.le, h.box.few⟩, h.laid.low (hb.mono (Nat.le_trans h.above (Nat.le_of_lt hc))), h.above⟩

/-- a rune's bytes, as the builder takes them -/
theorem bytes_rune (r : Nat) (h : Lib.validRune (r : Int) = true) : Lib.encodeRune (r : Int) = bytesOf (r : Int) := by
  have hv : (0 ≤ (r : Int) ∧ (r : Int) < 0xD800) ∨ (0xDFFF < (r : Int) ∧ (r : Int) ≤ 0x10FFFF) := of_decide_eq_true h
  have u : ∀ (x : Int) (n : Nat), x = n → x.toNat.toUInt8 = UInt8.ofNat n := fun x n e => by subst e; rfl
  unfold Lib.encodeRune
  rcases bytesOf_shape (r : Int) h with ⟨c, e⟩ | ⟨c1, c2, e⟩ | ⟨c1, c2, e⟩ | ⟨c1, e⟩
  · rw [e, Lib.encodeRuneZ_one (by omega) (by omega)]
    rfl
  · rw [e, Lib.encodeRuneZ_two (by omega) (by omega)]
    simp only [List.map_cons, List.map_nil, Int.toNat_natCast]
    rw [u _ (192 + r / 64) (by omega), u _ (128 + r % 64) (by omega)]
  · rw [e, Lib.encodeRuneZ_three (by omega)]
    simp only [List.map_cons, List.map_nil, Int.toNat_natCast]
    rw [u _ (224 + r / 4096) (by omega), u _ (128 + r / 64 % 64) (by omega), u _ (128 + r % 64) (by omega)]
  · rw [e, Lib.encodeRuneZ_four (by omega) (by omega)]
    simp only [List.map_cons, List.map_nil, Int.toNat_natCast]
    rw [u _ (240 + r / 262144) (by omega), u _ (128 + r / 4096 % 64) (by omega), u _ (128 + r / 64 % 64) (by omega), u _ (128 + r % 64) (by omega)]
end Go.Proofs.YtdgkpmpakkfgbaaGreatDoor
