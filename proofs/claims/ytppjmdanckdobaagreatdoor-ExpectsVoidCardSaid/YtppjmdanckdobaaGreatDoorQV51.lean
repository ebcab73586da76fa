/- lives of chapter 28: it answers true. -/
import Derived.Test.YtppjmdanckdobaaGreatDoorQV43
import Derived.Test.YtppjmdanckdobaaGreatDoorQV49
import Derived.Test.YtppjmdanckdobaaGreatDoorQV50
namespace Go.Proofs.YtppjmdanckdobaaGreatDoor
open Go.RowKit
theorem xssame_yes (l : List Int) (hl : l.length ≤ 1000000) (W : World) (v u : Value) (hv : IntsV W W.heap.size v l) (hu : IntsV W W.heap.size u l) : Calls Tryz.prog 14 #[v, u] W fun e W' => e = .returned (.bool true) ∧ Grew W W' :=
  (ssameNums_ok l l W v u hl hl hv hu).mono fun e W' h => by rw [decide_eq_true rfl] at h; exact h
theorem g27_xnew {W W' : World} {e : Ending} (h : XNewIs g27 W e W') : ∃ T : XT, e = .returned (.tuple #[T.ptr, .int .i64 0]) ∧ T.B = B27 ∧ B27.Okx ∧ T.At W'.heap.size W' ∧ Grew W W' := by
  rcases h with ⟨-, -, h⟩ | ⟨T, h1, -, h2, h3, h4, h5⟩
  · obtain ⟨es, M, N, k1, k2, k3, k4⟩ := h g27_sound
    exact absurd (g27_told k1 k2 k3) k4
  · rw [b27_of] at h3
    exact ⟨T, h1, h3, b27_okx h2, h4, h5⟩
theorem xnext_27 {T : XT} (hB : T.B = B27) (hk : B27.Okx) {l L : List Int} {n : Nat} {b : Bool} (hn : l.length = n) (hask : (decide (l.length ≤ 48) && !(l.any fun y => (-2 : Int) == y)) = true) (hL : NextL B27 0 l L) (hb : decide (0 < L.length) = b) (a : Option Addr) (c : Nat) (W : World) (hT : T.At W.heap.size W) (hI : IntsAt W W.heap.size a l) :
    Calls Tryz.prog 5 #[T.ptr, .int .i64 0, .slice a n c] W fun e W' => Grew W W' ∧ ∃ ya yc, e = .returned (.tuple #[.slice ya L.length yc, .bool b]) ∧ looseRow W' 0 3 1 (.slice ya L.length yc) L.length (intVs L) := by
  have h48 : l.length ≤ 48 := by
    rw [Bool.and_eq_true, decide_eq_true_eq] at hask
    exact hask.1
  have h := xnext_ok T (hB ▸ hk.good) (hB ▸ hk.lng) 0 a c l W hT hI (by unfold reachN; omega) (hB ▸ hk.tok)
  rw [hn] at h
  refine h.mono ?_
  rintro e W' ⟨hg, h⟩
  rw [hB, if_pos (ask_27 hask)] at h
  obtain ⟨L', v, rfl, h1, h2⟩ := h
  obtain rfl := hL.uniq h2
  obtain ⟨ya, yc, rfl⟩ := loose_form h1
  exact ⟨hg, ya, yc, by rw [hb], h1.weak (Nat.zero_le _)⟩
theorem xrest_27 {T : XT} (hB : T.B = B27) (hk : B27.Okx) (a : Option Addr) (c : Nat) (W : World) (hT : T.At W.heap.size W) (hI : IntsAt W W.heap.size a [0, 0]) :
    Calls Tryz.prog 6 #[T.ptr, .int .i64 0, .slice a 2 c, .int .i64 3] W fun e W' => Grew W W' ∧ ∃ ya yc, e = .returned (.tuple #[.slice ya 1 yc, .bool true]) ∧ looseRow W' 0 3 1 (.slice ya 1 yc) 1 (intVs [0]) := by
  refine (xrest_ok T (hB ▸ hk.good) (hB ▸ hk.lng) (hB ▸ hk.toks) (hB ▸ hk.rise) (hB ▸ hk.few) 0 3 a c [0, 0] W hT hI (by unfold reachN; decide)).mono ?_
  rintro e W' ⟨hg, h⟩
  rw [hB, if_pos (show askR B27 0 [0, 0] 3 = true by kernel_rfl)] at h
  rcases h with ⟨v, y, rfl, h1, h2⟩ | ⟨-, h⟩
  · obtain rfl := rest_27 h2
    obtain ⟨ya, yc, rfl⟩ := loose_form h1
    exact ⟨hg, ya, yc, rfl, h1.weak (Nat.zero_le _)⟩
  · exact absurd h rest_some
theorem xfar_27 {T : XT} (hB : T.B = B27) (hk : B27.Okx) (a : Option Addr) (c : Nat) (hc : 2 ≤ c) (W : World) (hT : T.At W.heap.size W) (hI : IntsAt W W.heap.size a [1, 1]) :
    Calls Tryz.prog 7 #[T.ptr, .int .i64 0, .slice a 2 c] W fun e W' => e = .returned (.int .i64 1) ∧ Grew W W' := by
  refine (xfar_ok T (hB ▸ hk.good) (hB ▸ hk.lng) 0 a c [1, 1] W hT hI (by unfold reachN; decide) hc (hB ▸ hk.tok)).mono ?_
  rintro e W' ⟨hg, x, rfl, h⟩
  rw [hB, if_pos (show hasX B27 0 ([1, 1] : List Int).length = true by kernel_rfl)] at h
  rw [far_27 h]
  exact ⟨rfl, hg⟩
theorem owns_intsAt {w : World} {b T : Nat} {l : List Int} (h : Owns w b (intVs l) T) : IntsAt w w.heap.size (some ⟨b, 0, none⟩) l := fun k hk =>
  ⟨b, 0, rfl, h.lt, by rw [Nat.zero_add]; exact h.cell_at (by simp [intVs, hk])⟩
set_option maxHeartbeats 8000000 in
set_option maxRecDepth 40000 in
theorem lives28_ok (W : World) (hT : Lib.Utf8Tabs 1 2 W) : Calls Tryz.prog 8 #[] W fun e W' => e = .returned (.bool true) ∧ Grew W W' := by
  have HT := Lib.hid hT
  clear hT
  go_enter Tryz.func8, Tryz.ntmps8
  go_wp2_with fail
  refine (grammar27_ok W).mono ?_
  rintro e w1 ⟨v3, rfl, hat, hg⟩
  have HG1 := Lib.hid hg
  have HN := Lib.hid (xnew_ok g27 g27_few g27_tot w1 (tabs_grew HT.out hg) _ _ _ _ hat)
  obtain ⟨va, vn, vc, rfl⟩ : ∃ a n c, v3 = .slice a n c := by
    obtain ⟨-, -, -, -, -, -, a, c, h, -⟩ := hat
    exact ⟨a, _, c, Option.some.inj h⟩
  clear hat hg
  go_wp2_with fail
  refine HN.out.mono ?_
  intro e w2 hnew
  obtain ⟨T, rfl, hB, hk, ht, hg⟩ := g27_xnew hnew
  have HB := Lib.hid hB
  have HK := Lib.hid hk
  have HT2 := Lib.hid ht
  have HG2 := Lib.hid (HG1.out.trans hg)
  unfold XT.ptr
  clear hnew hB hk ht hg HN
  have HGc := HG2
  have HC := Lib.hid (xnext_27 HB.out HK.out (n := 0) (b := true) rfl (by decide) next_nil rfl none 0 w2 HT2.out (fun k hk => absurd hk (by simp)))
  unfold XT.ptr at HC
  go_wp2_with fail
  refine HC.out.mono ?_
  rintro e w3 ⟨hg, ya3, yc3, rfl, hrow⟩
  have HT3 := Lib.hid ((HT2.out).grew hg)
  have HG3 := Lib.hid (HGc.out.trans hg)
  have HRa3 := Lib.hid hrow
  clear hg hrow HC HGc HT2 HG2
  obtain ⟨w4, hw4⟩ : ∃ w4, w3.alloc (.cells #[.int .i64 0] 3) = w4 := ⟨_, rfl⟩
  have g4 : Grew w3 w4 := hw4 ▸ grew_alloc w3 _
  have o4 : Owns w4 w3.heap.size [.int .i64 0] 3 := hw4 ▸ Owns.alloc w3 _ _
  have HTc := Lib.hid (HT3.out.grew g4)
  have HGc := Lib.hid (HG3.out.trans g4)
  have HRa4 := Lib.hid ((But.of_grew (F := fun _ => False) g4).row HRa3.out (fun _ _ h => h))
  have HC := Lib.hid (xnext_27 HB.out HK.out (n := 1) (b := true) rfl (by decide) next_0 rfl (some ⟨w3.heap.size, 0, none⟩) 1 w4 HTc.out (owns_intsAt (l := [0]) o4))
  unfold XT.ptr at HC
  clear g4 o4
  go_wp2_with fail
  refine HC.out.mono ?_
  rintro e w5 ⟨hg, ya5, yc5, rfl, hrow⟩
  have HT5 := Lib.hid ((HTc.out).grew hg)
  have HG5 := Lib.hid (HGc.out.trans hg)
  have HRa5 := Lib.hid ((But.of_grew (F := fun _ => False) hg).row HRa4.out (fun _ _ h => h))
  have HRb5 := Lib.hid hrow
  clear hg hrow HC HGc HTc hw4 HT3 HG3 HRa3 HRa4
  obtain ⟨w6, hw6⟩ : ∃ w6, w5.alloc (.cells #[.int .i64 0, .int .i64 0] 3) = w6 := ⟨_, rfl⟩
  have g6 : Grew w5 w6 := hw6 ▸ grew_alloc w5 _
  have o6 : Owns w6 w5.heap.size [.int .i64 0, .int .i64 0] 3 := hw6 ▸ Owns.alloc w5 _ _
  have HTc := Lib.hid (HT5.out.grew g6)
  have HGc := Lib.hid (HG5.out.trans g6)
  have HRa6 := Lib.hid ((But.of_grew (F := fun _ => False) g6).row HRa5.out (fun _ _ h => h))
  have HRb6 := Lib.hid ((But.of_grew (F := fun _ => False) g6).row HRb5.out (fun _ _ h => h))
  have HC := Lib.hid (xnext_27 HB.out HK.out (n := 2) (b := true) rfl (by decide) next_00 rfl (some ⟨w5.heap.size, 0, none⟩) 2 w6 HTc.out (owns_intsAt (l := [0, 0]) o6))
  unfold XT.ptr at HC
  clear g6 o6
  go_wp2_with fail
  refine HC.out.mono ?_
  rintro e w7 ⟨hg, ya7, yc7, rfl, hrow⟩
  have HT7 := Lib.hid ((HTc.out).grew hg)
  have HG7 := Lib.hid (HGc.out.trans hg)
  have HRa7 := Lib.hid ((But.of_grew (F := fun _ => False) hg).row HRa6.out (fun _ _ h => h))
  have HRb7 := Lib.hid ((But.of_grew (F := fun _ => False) hg).row HRb6.out (fun _ _ h => h))
  have HRc7 := Lib.hid hrow
  clear hg hrow HC HGc HTc hw6 HT5 HG5 HRa5 HRb5 HRa6 HRb6
  obtain ⟨w8, hw8⟩ : ∃ w8, w7.alloc (.cells #[.int .i64 1] 3) = w8 := ⟨_, rfl⟩
  have g8 : Grew w7 w8 := hw8 ▸ grew_alloc w7 _
  have o8 : Owns w8 w7.heap.size [.int .i64 1] 3 := hw8 ▸ Owns.alloc w7 _ _
  have HTc := Lib.hid (HT7.out.grew g8)
  have HGc := Lib.hid (HG7.out.trans g8)
  have HRa8 := Lib.hid ((But.of_grew (F := fun _ => False) g8).row HRa7.out (fun _ _ h => h))
  have HRb8 := Lib.hid ((But.of_grew (F := fun _ => False) g8).row HRb7.out (fun _ _ h => h))
  have HRc8 := Lib.hid ((But.of_grew (F := fun _ => False) g8).row HRc7.out (fun _ _ h => h))
  have HC := Lib.hid (xnext_27 HB.out HK.out (n := 1) (b := true) rfl (by decide) next_1 rfl (some ⟨w7.heap.size, 0, none⟩) 1 w8 HTc.out (owns_intsAt (l := [1]) o8))
  unfold XT.ptr at HC
  clear g8 o8
  go_wp2_with fail
  refine HC.out.mono ?_
  rintro e w9 ⟨hg, ya9, yc9, rfl, hrow⟩
  have HT9 := Lib.hid ((HTc.out).grew hg)
  have HG9 := Lib.hid (HGc.out.trans hg)
  have HRa9 := Lib.hid ((But.of_grew (F := fun _ => False) hg).row HRa8.out (fun _ _ h => h))
  have HRb9 := Lib.hid ((But.of_grew (F := fun _ => False) hg).row HRb8.out (fun _ _ h => h))
  have HRc9 := Lib.hid ((But.of_grew (F := fun _ => False) hg).row HRc8.out (fun _ _ h => h))
  have HRd9 := Lib.hid hrow
  clear hg hrow HC HGc HTc hw8 HT7 HG7 HRa7 HRb7 HRc7 HRa8 HRb8 HRc8
  obtain ⟨w10, hw10⟩ : ∃ w10, w9.alloc (.cells #[.int .i64 1, .int .i64 1] 3) = w10 := ⟨_, rfl⟩
  have g10 : Grew w9 w10 := hw10 ▸ grew_alloc w9 _
  have o10 : Owns w10 w9.heap.size [.int .i64 1, .int .i64 1] 3 := hw10 ▸ Owns.alloc w9 _ _
  have HTc := Lib.hid (HT9.out.grew g10)
  have HGc := Lib.hid (HG9.out.trans g10)
  have HRa10 := Lib.hid ((But.of_grew (F := fun _ => False) g10).row HRa9.out (fun _ _ h => h))
  have HRb10 := Lib.hid ((But.of_grew (F := fun _ => False) g10).row HRb9.out (fun _ _ h => h))
  have HRc10 := Lib.hid ((But.of_grew (F := fun _ => False) g10).row HRc9.out (fun _ _ h => h))
  have HRd10 := Lib.hid ((But.of_grew (F := fun _ => False) g10).row HRd9.out (fun _ _ h => h))
  have HC := Lib.hid (xnext_27 HB.out HK.out (n := 2) (b := false) rfl (by decide) next_11 rfl (some ⟨w9.heap.size, 0, none⟩) 2 w10 HTc.out (owns_intsAt (l := [1, 1]) o10))
  unfold XT.ptr at HC
  clear g10 o10
  go_wp2_with fail
  refine HC.out.mono ?_
  rintro e w11 ⟨hg, ya11, yc11, rfl, hrow⟩
  have HT11 := Lib.hid ((HTc.out).grew hg)
  have HG11 := Lib.hid (HGc.out.trans hg)
  have HRa11 := Lib.hid ((But.of_grew (F := fun _ => False) hg).row HRa10.out (fun _ _ h => h))
  have HRb11 := Lib.hid ((But.of_grew (F := fun _ => False) hg).row HRb10.out (fun _ _ h => h))
  have HRc11 := Lib.hid ((But.of_grew (F := fun _ => False) hg).row HRc10.out (fun _ _ h => h))
  have HRd11 := Lib.hid ((But.of_grew (F := fun _ => False) hg).row HRd10.out (fun _ _ h => h))
  clear hg hrow HC HGc HTc hw10 HT9 HG9 HRa9 HRb9 HRc9 HRd9 HRa10 HRb10 HRc10 HRd10
  obtain ⟨w12, hw12⟩ : ∃ w12, w11.alloc (.cells #[.int .i64 0, .int .i64 0] 3) = w12 := ⟨_, rfl⟩
  have g12 : Grew w11 w12 := hw12 ▸ grew_alloc w11 _
  have o12 : Owns w12 w11.heap.size [.int .i64 0, .int .i64 0] 3 := hw12 ▸ Owns.alloc w11 _ _
  have HTc := Lib.hid (HT11.out.grew g12)
  have HGc := Lib.hid (HG11.out.trans g12)
  have HRa12 := Lib.hid ((But.of_grew (F := fun _ => False) g12).row HRa11.out (fun _ _ h => h))
  have HRb12 := Lib.hid ((But.of_grew (F := fun _ => False) g12).row HRb11.out (fun _ _ h => h))
  have HRc12 := Lib.hid ((But.of_grew (F := fun _ => False) g12).row HRc11.out (fun _ _ h => h))
  have HRd12 := Lib.hid ((But.of_grew (F := fun _ => False) g12).row HRd11.out (fun _ _ h => h))
  have HC := Lib.hid (xrest_27 HB.out HK.out (some ⟨w11.heap.size, 0, none⟩) 2 w12 HTc.out (owns_intsAt (l := [0, 0]) o12))
  unfold XT.ptr at HC
  clear g12 o12
  go_wp2_with fail
  refine HC.out.mono ?_
  rintro e w13 ⟨hg, ya13, yc13, rfl, hrow⟩
  have HT13 := Lib.hid ((HTc.out).grew hg)
  have HG13 := Lib.hid (HGc.out.trans hg)
  have HRa13 := Lib.hid ((But.of_grew (F := fun _ => False) hg).row HRa12.out (fun _ _ h => h))
  have HRb13 := Lib.hid ((But.of_grew (F := fun _ => False) hg).row HRb12.out (fun _ _ h => h))
  have HRc13 := Lib.hid ((But.of_grew (F := fun _ => False) hg).row HRc12.out (fun _ _ h => h))
  have HRd13 := Lib.hid ((But.of_grew (F := fun _ => False) hg).row HRd12.out (fun _ _ h => h))
  have HRv13 := Lib.hid hrow
  clear hg hrow HC HGc HTc hw12 HT11 HG11 HRa11 HRb11 HRc11 HRd11 HRa12 HRb12 HRc12 HRd12
  obtain ⟨w14, hw14⟩ : ∃ w14, w13.alloc (.cells #[.int .i64 0, .int .i64 1] 3) = w14 := ⟨_, rfl⟩
  have g14 : Grew w13 w14 := hw14 ▸ grew_alloc w13 _
  have o14 : Owns w14 w13.heap.size [.int .i64 0, .int .i64 1] 3 := hw14 ▸ Owns.alloc w13 _ _
  have HRa14 := Lib.hid ((But.of_grew (F := fun _ => False) g14).row HRa13.out (fun _ _ h => h))
  have HRb14 := Lib.hid ((But.of_grew (F := fun _ => False) g14).row HRb13.out (fun _ _ h => h))
  have HRc14 := Lib.hid ((But.of_grew (F := fun _ => False) g14).row HRc13.out (fun _ _ h => h))
  have HRd14 := Lib.hid ((But.of_grew (F := fun _ => False) g14).row HRd13.out (fun _ _ h => h))
  have HRv14 := Lib.hid ((But.of_grew (F := fun _ => False) g14).row HRv13.out (fun _ _ h => h))
  have HTc := Lib.hid (HT13.out.grew g14)
  have HGc := Lib.hid (HG13.out.trans g14)
  have HC := Lib.hid (xssame_yes [0, 1] (by decide) w14 _ (.slice (some ⟨w13.heap.size, 0, none⟩) 2 2) (loose_ints HRa14.out) ⟨_, _, rfl, owns_intsAt (l := [0, 1]) o14⟩)
  clear g14 o14
  go_wp2_with fail
  refine HC.out.mono ?_
  rintro e w15 ⟨rfl, hg⟩
  have HT15 := Lib.hid (HTc.out.grew hg)
  have HG15 := Lib.hid (HGc.out.trans hg)
  have HRb15 := Lib.hid ((But.of_grew (F := fun _ => False) hg).row HRb14.out (fun _ _ h => h))
  have HRc15 := Lib.hid ((But.of_grew (F := fun _ => False) hg).row HRc14.out (fun _ _ h => h))
  have HRd15 := Lib.hid ((But.of_grew (F := fun _ => False) hg).row HRd14.out (fun _ _ h => h))
  have HRv15 := Lib.hid ((But.of_grew (F := fun _ => False) hg).row HRv14.out (fun _ _ h => h))
  clear hg HC HGc HTc hw14 HT13 HG13 HRa13 HRa14 HRb13 HRc13 HRd13 HRv13 HRb14 HRc14 HRd14 HRv14
  obtain ⟨w16, hw16⟩ : ∃ w16, w15.alloc (.cells #[.int .i64 (-1), .int .i64 0] 3) = w16 := ⟨_, rfl⟩
  have g16 : Grew w15 w16 := hw16 ▸ grew_alloc w15 _
  have o16 : Owns w16 w15.heap.size [.int .i64 (-1), .int .i64 0] 3 := hw16 ▸ Owns.alloc w15 _ _
  have HRb16 := Lib.hid ((But.of_grew (F := fun _ => False) g16).row HRb15.out (fun _ _ h => h))
  have HRc16 := Lib.hid ((But.of_grew (F := fun _ => False) g16).row HRc15.out (fun _ _ h => h))
  have HRd16 := Lib.hid ((But.of_grew (F := fun _ => False) g16).row HRd15.out (fun _ _ h => h))
  have HRv16 := Lib.hid ((But.of_grew (F := fun _ => False) g16).row HRv15.out (fun _ _ h => h))
  have HTc := Lib.hid (HT15.out.grew g16)
  have HGc := Lib.hid (HG15.out.trans g16)
  have HC := Lib.hid (xssame_yes [(-1), 0] (by decide) w16 _ (.slice (some ⟨w15.heap.size, 0, none⟩) 2 2) (loose_ints HRb16.out) ⟨_, _, rfl, owns_intsAt (l := [(-1), 0]) o16⟩)
  clear g16 o16
  go_wp2_with fail
  refine HC.out.mono ?_
  rintro e w17 ⟨rfl, hg⟩
  have HT17 := Lib.hid (HTc.out.grew hg)
  have HG17 := Lib.hid (HGc.out.trans hg)
  have HRc17 := Lib.hid ((But.of_grew (F := fun _ => False) hg).row HRc16.out (fun _ _ h => h))
  have HRd17 := Lib.hid ((But.of_grew (F := fun _ => False) hg).row HRd16.out (fun _ _ h => h))
  have HRv17 := Lib.hid ((But.of_grew (F := fun _ => False) hg).row HRv16.out (fun _ _ h => h))
  clear hg HC HGc HTc hw16 HT15 HG15 HRb15 HRb16 HRc15 HRd15 HRv15 HRc16 HRd16 HRv16
  obtain ⟨w18, hw18⟩ : ∃ w18, w17.alloc (.cells #[.int .i64 0, .int .i64 1] 3) = w18 := ⟨_, rfl⟩
  have g18 : Grew w17 w18 := hw18 ▸ grew_alloc w17 _
  have o18 : Owns w18 w17.heap.size [.int .i64 0, .int .i64 1] 3 := hw18 ▸ Owns.alloc w17 _ _
  have HRc18 := Lib.hid ((But.of_grew (F := fun _ => False) g18).row HRc17.out (fun _ _ h => h))
  have HRd18 := Lib.hid ((But.of_grew (F := fun _ => False) g18).row HRd17.out (fun _ _ h => h))
  have HRv18 := Lib.hid ((But.of_grew (F := fun _ => False) g18).row HRv17.out (fun _ _ h => h))
  have HTc := Lib.hid (HT17.out.grew g18)
  have HGc := Lib.hid (HG17.out.trans g18)
  have HC := Lib.hid (xssame_yes [0, 1] (by decide) w18 _ (.slice (some ⟨w17.heap.size, 0, none⟩) 2 2) (loose_ints HRc18.out) ⟨_, _, rfl, owns_intsAt (l := [0, 1]) o18⟩)
  clear g18 o18
  go_wp2_with fail
  refine HC.out.mono ?_
  rintro e w19 ⟨rfl, hg⟩
  have HT19 := Lib.hid (HTc.out.grew hg)
  have HG19 := Lib.hid (HGc.out.trans hg)
  have HRd19 := Lib.hid ((But.of_grew (F := fun _ => False) hg).row HRd18.out (fun _ _ h => h))
  have HRv19 := Lib.hid ((But.of_grew (F := fun _ => False) hg).row HRv18.out (fun _ _ h => h))
  clear hg HC HGc HTc hw18 HT17 HG17 HRc17 HRc18 HRd17 HRv17 HRd18 HRv18
  obtain ⟨w20, hw20⟩ : ∃ w20, w19.alloc (.cells #[.int .i64 (-1)] 3) = w20 := ⟨_, rfl⟩
  have g20 : Grew w19 w20 := hw20 ▸ grew_alloc w19 _
  have o20 : Owns w20 w19.heap.size [.int .i64 (-1)] 3 := hw20 ▸ Owns.alloc w19 _ _
  have HRd20 := Lib.hid ((But.of_grew (F := fun _ => False) g20).row HRd19.out (fun _ _ h => h))
  have HRv20 := Lib.hid ((But.of_grew (F := fun _ => False) g20).row HRv19.out (fun _ _ h => h))
  have HTc := Lib.hid (HT19.out.grew g20)
  have HGc := Lib.hid (HG19.out.trans g20)
  have HC := Lib.hid (xssame_yes [(-1)] (by decide) w20 _ (.slice (some ⟨w19.heap.size, 0, none⟩) 1 1) (loose_ints HRd20.out) ⟨_, _, rfl, owns_intsAt (l := [(-1)]) o20⟩)
  clear g20 o20
  go_wp2_with fail
  refine HC.out.mono ?_
  rintro e w21 ⟨rfl, hg⟩
  have HT21 := Lib.hid (HTc.out.grew hg)
  have HG21 := Lib.hid (HGc.out.trans hg)
  have HRv21 := Lib.hid ((But.of_grew (F := fun _ => False) hg).row HRv20.out (fun _ _ h => h))
  clear hg HC HGc HTc hw20 HT19 HG19 HRd19 HRd20 HRv19 HRv20
  obtain ⟨w22, hw22⟩ : ∃ w22, w21.alloc (.cells #[.int .i64 0] 3) = w22 := ⟨_, rfl⟩
  have g22 : Grew w21 w22 := hw22 ▸ grew_alloc w21 _
  have o22 : Owns w22 w21.heap.size [.int .i64 0] 3 := hw22 ▸ Owns.alloc w21 _ _
  have HRv22 := Lib.hid ((But.of_grew (F := fun _ => False) g22).row HRv21.out (fun _ _ h => h))
  have HTc := Lib.hid (HT21.out.grew g22)
  have HGc := Lib.hid (HG21.out.trans g22)
  have HC := Lib.hid (xssame_yes [0] (by decide) w22 _ (.slice (some ⟨w21.heap.size, 0, none⟩) 1 1) (loose_ints HRv22.out) ⟨_, _, rfl, owns_intsAt (l := [0]) o22⟩)
  clear g22 o22
  go_wp2_with fail
  refine HC.out.mono ?_
  rintro e w23 ⟨rfl, hg⟩
  have HT23 := Lib.hid (HTc.out.grew hg)
  have HG23 := Lib.hid (HGc.out.trans hg)
  clear hg HC HGc HTc hw22 HT21 HG21 HRv21 HRv22
  obtain ⟨w24, hw24⟩ : ∃ w24, w23.alloc (.cells #[.int .i64 1, .int .i64 1] 3) = w24 := ⟨_, rfl⟩
  have g24 : Grew w23 w24 := hw24 ▸ grew_alloc w23 _
  have o24 : Owns w24 w23.heap.size [.int .i64 1, .int .i64 1] 3 := hw24 ▸ Owns.alloc w23 _ _
  have HC := Lib.hid (xfar_27 HB.out HK.out (some ⟨w23.heap.size, 0, none⟩) 2 (by decide) w24 (HT23.out.grew g24) (owns_intsAt (l := [1, 1]) o24))
  unfold XT.ptr at HC
  have HGc := Lib.hid (HG23.out.trans g24)
  clear g24 o24
  go_wp2_with fail
  refine HC.out.mono ?_
  rintro e w25 ⟨rfl, hg⟩
  have HGe := Lib.hid (HGc.out.trans hg)
  clear hg HC
  go_wp2_with fail
  go_ret
  exact ⟨rfl, HGe.out⟩
end Go.Proofs.YtppjmdanckdobaaGreatDoor

/- ExpectsVoid: a table that is not there tells nothing. -/
namespace Go.Proofs.YtppjmdanckdobaaGreatDoor
open Go.RowKit
def NoTab (W : World) (v : Value) : Prop := v = .pointer none ∨ ∃ b, v = .pointer (some ⟨b, 0, none⟩) ∧ Owns W b [.pointer none, .map none, .map none, .slice none 0 0, .slice none 0 0] 31
theorem NoTab.keep {W W' : World} {v : Value} (h : NoTab W v) (hg : Grew W W') : NoTab W' v := by
  rcases h with h | ⟨b, h1, h2⟩
  · exact .inl h
  · exact .inr ⟨b, h1, h2.keep hg⟩
set_option maxRecDepth 20000 in
theorem xhas_none (W : World) (v : Value) (r : Int) (a : Option Addr) (n c : Nat) (h : NoTab W v) : Calls Tryz.prog 16 #[v, .int .i64 r, .slice a n c] W fun e W' => e = .returned (.bool false) ∧ W' = W := by
  rcases h with rfl | ⟨b, rfl, hb⟩
  · exact xhas_nil r a n c W
  · have t4 := hb.cell_at (i := 4) rfl
    have tl := hb.lt
    clear hb
    by_cases h0 : 0 ≤ r
    · have h1 : ¬ r < 0 := by omega
      go_enter Tryz.func16, Tryz.ntmps16
      go_wp2_with fail
      go_ret
      exact ⟨rfl, rfl⟩
    · go_enter Tryz.func16, Tryz.ntmps16
      go_wp2_with fail
      go_ret
      exact ⟨rfl, rfl⟩
set_option maxRecDepth 20000 in
theorem xnext_none (W : World) (v : Value) (r : Int) (a : Option Addr) (n c : Nat) (h : NoTab W v) : Calls Tryz.prog 5 #[v, .int .i64 r, .slice a n c] W fun e W' => e = .returned (.tuple #[.slice none 0 0, .bool false]) ∧ W' = W := by
  have HH := Lib.hid (xhas_none W v r a n c h)
  obtain ⟨Q, hQ⟩ : ∃ Q, (fun (e : Ending) (W' : World) => e = .returned (.tuple #[.slice none 0 0, .bool false]) ∧ W' = W) = Q := ⟨_, rfl⟩
  rw [hQ]
  have HX : Hid (Q (.returned (.tuple #[.slice none 0 0, .bool false])) W) := Lib.hid (by rw [← hQ]; exact ⟨rfl, rfl⟩)
  clear hQ
  have hv : ∃ p, v = .pointer p := by
    rcases h with rfl | ⟨b, rfl, -⟩
    · exact ⟨_, rfl⟩
    · exact ⟨_, rfl⟩
  obtain ⟨p, rfl⟩ := hv
  clear h
  go_enter Tryz.func5, Tryz.ntmps5
  go_wp2_with fail
  refine HH.out.mono ?_
  rintro e w1 ⟨rfl, rfl⟩
  go_wp2_with fail
  exact HX.out
set_option maxRecDepth 20000 in
theorem xrest_none (W : World) (v : Value) (r m : Int) (a : Option Addr) (n c : Nat) (h : NoTab W v) : Calls Tryz.prog 6 #[v, .int .i64 r, .slice a n c, .int .i64 m] W fun e W' => e = .returned (.tuple #[.slice none 0 0, .bool false]) ∧ W' = W := by
  have HH := Lib.hid (xhas_none W v r a n c h)
  obtain ⟨Q, hQ⟩ : ∃ Q, (fun (e : Ending) (W' : World) => e = .returned (.tuple #[.slice none 0 0, .bool false]) ∧ W' = W) = Q := ⟨_, rfl⟩
  rw [hQ]
  have HX : Hid (Q (.returned (.tuple #[.slice none 0 0, .bool false])) W) := Lib.hid (by rw [← hQ]; exact ⟨rfl, rfl⟩)
  clear hQ
  have hv : ∃ p, v = .pointer p := by
    rcases h with rfl | ⟨b, rfl, -⟩
    · exact ⟨_, rfl⟩
    · exact ⟨_, rfl⟩
  obtain ⟨p, rfl⟩ := hv
  clear h
  go_enter Tryz.func6, Tryz.ntmps6
  go_wp2_with fail
  refine HH.out.mono ?_
  rintro e w1 ⟨rfl, rfl⟩
  go_wp2_with fail
  exact HX.out
set_option maxRecDepth 20000 in
theorem xfar_none (W : World) (v : Value) (r : Int) (a : Option Addr) (n c : Nat) (h : NoTab W v) : Calls Tryz.prog 7 #[v, .int .i64 r, .slice a n c] W fun e W' => e = .returned (.int .i64 (-1)) ∧ W' = W := by
  have HH := Lib.hid (xhas_none W v r a n c h)
  have hv : ∃ p, v = .pointer p := by
    rcases h with rfl | ⟨b, rfl, -⟩
    · exact ⟨_, rfl⟩
    · exact ⟨_, rfl⟩
  obtain ⟨p, rfl⟩ := hv
  clear h
  go_enter Tryz.func7, Tryz.ntmps7
  go_wp2_with fail
  refine HH.out.mono ?_
  rintro e w1 ⟨rfl, rfl⟩
  go_wp2_with fail
  go_ret
  exact ⟨rfl, rfl⟩
set_option maxHeartbeats 4000000 in
set_option maxRecDepth 40000 in
theorem void28_ok (r long many : Int) (ya : Option Addr) (yn yc : Nat) (W : World) (hT : Lib.Utf8Tabs 1 2 W) :
    Calls Tryz.prog 3 #[.agg #[.int .i64 r, .int .i64 long, .int .i64 many, .slice ya yn yc]] W fun e W' => e = .returned (.bool true) ∧ Grew W W' := by
  have HT := Lib.hid hT
  obtain ⟨w1, hw1⟩ : ∃ w1, W.alloc (.cells #[.int .i64 r, .int .i64 long, .int .i64 many, .slice ya yn yc] 24) = w1 := ⟨_, rfl⟩
  have G1 := Lib.hid (show Grew W w1 from hw1 ▸ grew_alloc W _)
  have o1 : Owns w1 W.heap.size [.int .i64 r, .int .i64 long, .int .i64 many, .slice ya yn yc] 24 := hw1 ▸ Owns.alloc W _ _
  have HO := Lib.hid o1
  obtain ⟨w3, hw3⟩ : ∃ w3, w1.alloc (.cells #[.pointer none, .map none, .map none, .slice none 0 0, .slice none 0 0] 31) = w3 := ⟨_, rfl⟩
  have G3 := Lib.hid (show Grew w1 w3 from hw3 ▸ grew_alloc w1 _)
  have o3 : Owns w3 w1.heap.size [.pointer none, .map none, .map none, .slice none 0 0, .slice none 0 0] 31 := hw3 ▸ Owns.alloc w1 _ _
  obtain ⟨b, hb⟩ : ∃ b, w1.heap.size = b := ⟨_, rfl⟩
  rw [hb] at o3
  obtain ⟨w4, hw4⟩ : ∃ w4, w3.alloc (.cells #[.pointer none, .pointer (some ⟨b, 0, none⟩)] 32) = w4 := ⟨_, rfl⟩
  have G4 := Lib.hid (show Grew w3 w4 from hw4 ▸ grew_alloc w3 _)
  have o4 : Owns w4 w3.heap.size [.pointer none, .pointer (some ⟨b, 0, none⟩)] 32 := hw4 ▸ Owns.alloc w3 _ _
  obtain ⟨l, hl⟩ : ∃ l, w3.heap.size = l := ⟨_, rfl⟩
  rw [hl] at o4
  have HN := Lib.hid (o3.keep G4.out)
  have HLL := Lib.hid o4
  have HO := Lib.hid (HO.out.keep (G3.out.trans G4.out))
  have G5 := Lib.hid (G1.out.trans (G3.out.trans G4.out))
  clear o1 o3 o4 G3 G4 G1 hT
  go_enter Tryz.func3, Tryz.ntmps3
  go_wp2_with fail
  clear hw1 hw3 hw4 hb hl
  go_loopw [5] (fun i wr => ∃ j : Nat, i = .int .i64 j ∧ j ≤ 2 ∧ Hid (Grew w4 wr)) (fun i _ => 2 - (intOf i).toNat)
  case atStart => exact ⟨0, rfl, by omega, Grew.refl _⟩
  case round =>
    obtain ⟨j, rfl, hj, hg⟩ := hrel
    by_cases hlt : j < 2
    · obtain ⟨v, hv, hns⟩ : ∃ v, wr.cell? ⟨l, j, none⟩ = some v ∧ NoTab wr v := by
        have h1 := HLL.out.keep hg.out
        obtain rfl | rfl : j = 0 ∨ j = 1 := by omega
        · exact ⟨_, h1.cell_at (i := 0) rfl, .inl rfl⟩
        · exact ⟨_, h1.cell_at (i := 1) rfl, .inr ⟨b, rfl, HN.out.keep hg.out⟩⟩
      have hll := (HLL.out.keep hg.out).lt
      have hjl : (j : Int) < 2 := by omega
      have hj0 : (0 : Int) ≤ (j : Int) := by omega
      have ho := HO.out.keep hg.out
      have c0 := ho.cell_at (i := 0) rfl
      have c1 := ho.cell_at (i := 1) rfl
      have c3 := ho.cell_at (i := 3) rfl
      have cl := ho.lt
      have d2 : decide ((j : Int) < 2) = true := decide_eq_true (by omega)
      have HNS := Lib.hid hns
      have HNE := Lib.hid (fun w' (hw : Grew wr w') => xnext_none w' v r ya yn yc (HNS.out.keep hw))
      have HRE := Lib.hid (fun w' (hw : Grew wr w') => xrest_none w' v r long ya yn yc (HNS.out.keep hw))
      have HFA := Lib.hid (fun w' (hw : Grew wr w') => xfar_none w' v r ya yn yc (HNS.out.keep hw))
      have HLL5 := Lib.hid (HLL.out.keep hg.out)
      have HO5 := Lib.hid (HO.out.keep hg.out)
      have HV5 := Lib.hid hv
      clear ho hns
      go_upto_region 6 with fail
      refine wp_region_hav_lit follows (by kernel_rfl) ?_
      iterate 8 (first
        | (refine HavG.skip (fun _ => rfl) ?_; simp only [Act.put, List.setIfInBounds_toArray, List.set_cons_zero, List.set_cons_succ])
        | (refine HavG.val (fun _ => rfl) ?_ (fun x w hw _ => ?_) ?_; rotate_left; (focus (have hc := hw.cells; clear hw; go_simp; first | done | rfl)); simp only [Act.put, List.setIfInBounds_toArray, List.set_cons_zero, List.set_cons_succ]))
      refine HavG.det (fun _ => rfl) (.tuple #[.slice none 0 0, .bool false]) (fun x w' hw hd => ?_) ?_
      · clear hd
        have HW2 := Lib.hid hw
        clear hw
        go_simp
        refine (HNE.out _ HW2.out).mono ?_
        rintro e w6 ⟨rfl, rfl⟩
        exact ⟨rfl, Grew.refl _⟩
      simp only [Act.put, List.setIfInBounds_toArray, List.set_cons_zero, List.set_cons_succ]
      repeat (first
        | (refine HavG.skip (fun _ => rfl) ?_; simp only [Act.put, List.setIfInBounds_toArray, List.set_cons_zero, List.set_cons_succ])
        | (refine HavG.val (fun _ => rfl) ?_ (fun x w hw _ => ?_) ?_; rotate_left; (focus (have hc := hw.cells; clear hw; go_simp; first | done | rfl)); simp only [Act.put, List.setIfInBounds_toArray, List.set_cons_zero, List.set_cons_succ]))
      refine HavG.tail (by kernel_rfl) (by kernel_rfl) (fun x w hw _ => ?_)
      have HW := Lib.hid hw
      have hv := (hw.cells _ j hll).trans HV5.out
      have hll := (HLL5.out.keep hw).lt
      have ho := HO5.out.keep hw
      have c0 := ho.cell_at (i := 0) rfl
      have c1 := ho.cell_at (i := 1) rfl
      have c3 := ho.cell_at (i := 3) rfl
      have cl := ho.lt
      clear ho hw
      go_upto_region 7 with fail
      refine wp_region_hav_lit follows (by kernel_rfl) ?_
      iterate 10 (first
        | (refine HavG.skip (fun _ => rfl) ?_; simp only [Act.put, List.setIfInBounds_toArray, List.set_cons_zero, List.set_cons_succ])
        | (refine HavG.val (fun _ => rfl) ?_ (fun x w hw _ => ?_) ?_; rotate_left; (focus (have hc := hw.cells; clear hw; go_simp; first | done | rfl)); simp only [Act.put, List.setIfInBounds_toArray, List.set_cons_zero, List.set_cons_succ]))
      refine HavG.det (fun _ => rfl) (.tuple #[.slice none 0 0, .bool false]) (fun x w' hw hd => ?_) ?_
      · clear hd
        have HW2 := Lib.hid hw
        clear hw
        go_simp
        refine (HRE.out _ (HW.out.trans HW2.out)).mono ?_
        rintro e w6 ⟨rfl, rfl⟩
        exact ⟨rfl, Grew.refl _⟩
      simp only [Act.put, List.setIfInBounds_toArray, List.set_cons_zero, List.set_cons_succ]
      repeat (first
        | (refine HavG.skip (fun _ => rfl) ?_; simp only [Act.put, List.setIfInBounds_toArray, List.set_cons_zero, List.set_cons_succ])
        | (refine HavG.val (fun _ => rfl) ?_ (fun x w hw _ => ?_) ?_; rotate_left; (focus (have hc := hw.cells; clear hw; go_simp; first | done | rfl)); simp only [Act.put, List.setIfInBounds_toArray, List.set_cons_zero, List.set_cons_succ]))
      refine HavG.tail (by kernel_rfl) (by kernel_rfl) (fun x w7 hw7 _ => ?_)
      have HW7 := Lib.hid (HW.out.trans hw7)
      have hv := (HW7.out.cells _ j (Nat.lt_of_lt_of_le HLL5.out.lt (Nat.le_refl _))).trans HV5.out
      have hll := (HLL5.out.keep HW7.out).lt
      have ho := HO5.out.keep HW7.out
      have c0 := ho.cell_at (i := 0) rfl
      have c1 := ho.cell_at (i := 1) rfl
      have c3 := ho.cell_at (i := 3) rfl
      have cl := ho.lt
      clear ho hw7
      go_upto_region 8 with fail
      refine wp_region_hav_lit follows (by kernel_rfl) ?_
      iterate 21 (first
        | (refine HavG.skip (fun _ => rfl) ?_; simp only [Act.put, List.setIfInBounds_toArray, List.set_cons_zero, List.set_cons_succ])
        | (refine HavG.val (fun _ => rfl) ?_ (fun x w hw _ => ?_) ?_; rotate_left; (focus (have hc := hw.cells; clear hw; go_simp; first | done | rfl)); simp only [Act.put, List.setIfInBounds_toArray, List.set_cons_zero, List.set_cons_succ]))
      refine HavG.det (fun _ => rfl) (.int .i64 (-1)) (fun x w' hw hd => ?_) ?_
      · clear hd
        have HW2 := Lib.hid hw
        clear hw
        go_simp
        refine (HFA.out _ (HW7.out.trans HW2.out)).mono ?_
        rintro e w6 ⟨rfl, rfl⟩
        exact ⟨rfl, Grew.refl _⟩
      simp only [Act.put, List.setIfInBounds_toArray, List.set_cons_zero, List.set_cons_succ]
      repeat (first
        | (refine HavG.skip (fun _ => rfl) ?_; simp only [Act.put, List.setIfInBounds_toArray, List.set_cons_zero, List.set_cons_succ])
        | (refine HavG.val (fun _ => rfl) ?_ (fun x w hw _ => ?_) ?_; rotate_left; (focus (have hc := hw.cells; clear hw; go_simp; first | done | rfl)); simp only [Act.put, List.setIfInBounds_toArray, List.set_cons_zero, List.set_cons_succ]))
      refine HavG.tail (by kernel_rfl) (by kernel_rfl) (fun x w9 hw9 _ => ?_)
      have HW9 := Lib.hid (HW7.out.trans hw9)
      clear hw9 hv hll c0 c1 c3 cl
      go_wp2_with fail
      exact ⟨⟨j + 1, by go_num, by omega, hg.out.trans HW9.out⟩, by simp [intOf]; omega⟩
    · obtain rfl : j = 2 := by omega
      have HL := Lib.hid (lives28_ok wr (tabs_grew HT.out (G5.out.trans hg.out)))
      go_wp2_with fail
      refine HL.out.mono ?_
      rintro e w9 ⟨rfl, hg9⟩
      have HG := Lib.hid hg9
      clear hg9
      go_wp2_with fail
      go_ret
      exact ⟨rfl, (G5.out.trans hg.out).trans HG.out⟩
end Go.Proofs.YtppjmdanckdobaaGreatDoor
