/- lives of chapter 27: it answers true. -/
import Derived.Test.YtoflfkffldpglaaGreatDoorQM47
import Derived.Test.YtoflfkffldpglaaGreatDoorQM45
import Derived.Test.YtoflfkffldpglaaGreatDoorQM31
namespace Go.Proofs.YtoflfkffldpglaaGreatDoor
open Go.RowKit
theorem row_of_owns {w : World} {b : Nat} {l : List Int} (h : Owns w b (intVs l) 3) (hl : l.length ≤ 1000) : looseRow w 0 3 1 (.slice (some ⟨b, 0, none⟩) l.length l.length) l.length (intVs l) := by
  have e : (intVs l).length = l.length := by unfold intVs; rw [List.length_map]
  refine ⟨by rw [e]; omega, .inr ⟨b, l.length, _, rfl, Nat.zero_le _, h, Nat.le_refl _, by unfold maxLen; omega, by simp [e], ?_⟩⟩
  show (intVs l).take (l.length * 1) = intVs l
  rw [List.take_of_length_le (by rw [e]; omega)]
theorem g27_new {W W' : World} {e : Ending} (h : NewIs g27 W e W') : ∃ bk V, e = .returned (.tuple #[.pointer (some ⟨bk, 0, none⟩), .int .i64 0]) ∧ g27.Fine ∧ BookFp W' bk V B27 ∧ Grew W W' := by
  rcases h with ⟨-, -, h⟩ | ⟨bk, V, h1, -, h2, h3, h4⟩
  · obtain ⟨es, M, N, k1, k2, k3, k4⟩ := h g27_sound
    exact absurd (g27_told k1 k2 k3) k4
  · rw [b27_of] at h3
    exact ⟨bk, V, h1, h2, h3, h4⟩
def L27 : List (List Int) := [[0], [1], [0, 0, 0], [0, 0, 1]]
theorem out27 {w : World} {p0 p1 p2 p3 p4 : Nat} (h0 : Owns w p0 [.int .i64 0] 3) (h1 : Owns w p1 [.int .i64 1] 3) (h2 : Owns w p2 [.int .i64 0, .int .i64 0, .int .i64 0] 3) (h3 : Owns w p3 [.int .i64 0, .int .i64 0, .int .i64 1] 3)
    (h4 : Owns w p4 [.slice (some ⟨p0, 0, none⟩) 1 1, .slice (some ⟨p1, 0, none⟩) 1 1, .slice (some ⟨p2, 0, none⟩) 3 3, .slice (some ⟨p3, 0, none⟩) 3 3] 27) : OutR w 0 (.slice (some ⟨p4, 0, none⟩) 4 4) L27 := by
  refine ⟨[.slice (some ⟨p0, 0, none⟩) 1 1, .slice (some ⟨p1, 0, none⟩) 1 1, .slice (some ⟨p2, 0, none⟩) 3 3, .slice (some ⟨p3, 0, none⟩) 3 3], rfl, ⟨rfl, .inr ⟨p4, 4, _, rfl, Nat.zero_le _, h4, Nat.le_refl _, by decide, by simp, rfl⟩⟩, fun i u l hu hl => ?_⟩
  match i with
  | 0 => cases hu; cases hl; exact row_of_owns (l := [0]) h0 (by decide)
  | 1 => cases hu; cases hl; exact row_of_owns (l := [1]) h1 (by decide)
  | 2 => cases hu; cases hl; exact row_of_owns (l := [0, 0, 0]) h2 (by decide)
  | 3 => cases hu; cases hl; exact row_of_owns (l := [0, 0, 1]) h3 (by decide)
  | i + 4 => simp at hu
theorem ssame_yes (l : List Int) (hl : l.length ≤ 1000000) (W : World) (v u : Value) (hv : IntsV W W.heap.size v l) (hu : IntsV W W.heap.size u l) : Calls Tryz.prog 16 #[v, u] W fun e W' => e = .returned (.bool true) ∧ Grew W W' :=
  (ssameNums_ok l l W v u hl hl hv hu).mono fun e W' h => by rw [decide_eq_true rfl] at h; exact h
theorem same27_yes (W : World) (b1 b2 : Nat) (v u : Value) (hv : OutR W b1 v L27) (hu : OutR W b2 u L27) : Calls Tryz.prog 18 #[v, u] W fun e W' => e = .returned (.bool true) ∧ Grew W W' :=
  (same27_ok L27 L27 (by decide) (by decide) (by decide) W b1 b2 v u hv hu).mono fun e W' h => by rw [decide_eq_true rfl] at h; exact h
theorem has_yes {B : Bk} {r : Int} {wl : List Int} {W W' : World} {e : Ending} (h : HasIs B r wl W e W') (h1 : hasR B r = true) (h2 : wl.length ≤ 64) (h3 : -2 ∉ wl) (h4 : B.D r.toNat wl) : e = .returned (.bool true) ∧ Grew W W' := by
  obtain ⟨b, rfl, hb, hg⟩ := h
  rw [hb.2 ⟨h1, h2, h3, h4⟩]
  exact ⟨rfl, hg⟩
theorem has_no {B : Bk} {r : Int} {wl : List Int} {W W' : World} {e : Ending} (h : HasIs B r wl W e W') (h4 : ¬ B.D r.toNat wl) : e = .returned (.bool false) ∧ Grew W W' := by
  obtain ⟨b, rfl, hb, hg⟩ := h
  cases b
  · exact ⟨rfl, hg⟩
  · exact absurd (hb.1 rfl).2.2.2 h4
set_option maxHeartbeats 4000000 in
set_option maxRecDepth 40000 in
theorem lives27_ok (W : World) (hT : Lib.Utf8Tabs 1 2 W) : Calls Tryz.prog 5 #[] W fun e W' => e = .returned (.bool true) ∧ Grew W W' := by
  have HT := Lib.hid hT
  clear hT
  go_enter Tryz.func5, Tryz.ntmps5
  go_wp2_with fail
  refine (grammar27_ok W).mono ?_
  rintro e w1 ⟨v3, rfl, hat, hg⟩
  have HG1 := Lib.hid hg
  have HN := Lib.hid (snew_ok g27 g27_few g27_tot w1 (tabs_grew HT.out hg) _ _ _ _ hat)
  obtain ⟨va, vn, vc, rfl⟩ : ∃ a n c, v3 = .slice a n c := by
    obtain ⟨-, -, -, -, -, -, a, c, h, -⟩ := hat
    exact ⟨a, _, c, Option.some.inj h⟩
  clear hat hg
  go_wp2_with fail
  refine HN.out.mono ?_
  intro e w2 hnew
  obtain ⟨bk, V, rfl, hfine, hbk, hg⟩ := g27_new hnew
  have HGD := Lib.hid (b27_good hfine)
  have HB2 := Lib.hid hbk
  have HG2 := Lib.hid (HG1.out.trans hg)
  have HL := Lib.hid (sLeast_ok B27 0 V bk w2.heap.size w2 hbk.at_ (by decide))
  clear hnew hfine hbk hg HN
  go_wp2_with fail
  refine HL.out.mono ?_
  rintro e w3 ⟨hle, hg⟩
  have hle' : ∃ u, e = .returned (.tuple #[u, .bool true]) ∧ looseRow w3 w2.heap.size 3 1 u 1 (intVs [0]) := hle
  obtain ⟨u, rfl, hrow⟩ := hle'
  obtain ⟨ua, uc, rfl⟩ := loose_form hrow
  have HR := Lib.hid hrow
  have HG3 := Lib.hid (HG2.out.trans hg)
  have HB3 := Lib.hid (HB2.out.grew hg)
  have HA := Lib.hid (sAll_ok B27 HGD.out 0 3 9 (by decide) V bk w3.heap.size w3 HB3.out.at_)
  clear hle hg hrow HL HB2
  go_wp2_with fail
  refine HA.out.mono ?_
  rintro e w4 ⟨hg, hal⟩
  rw [if_pos ⟨by decide, by decide, by decide, by decide, by decide⟩, all_27.1] at hal
  obtain ⟨vl, rfl, hout⟩ := hal
  obtain ⟨la, lc, hlf⟩ : ∃ a c, vl = .slice a 4 c := by
    obtain ⟨us, _, h2, _⟩ := hout
    exact loose_form h2
  subst hlf
  have HOUT := Lib.hid hout
  have HR4 := Lib.hid ((But.of_grew (F := fun _ => False) hg).row HR.out (fun _ _ h => h))
  have HG4 := Lib.hid (HG3.out.trans hg)
  have HB4 := Lib.hid (HB3.out.grew hg)
  have HA2 := Lib.hid (sAll_ok B27 HGD.out 0 3 3 (by decide) V bk w4.heap.size w4 HB4.out.at_)
  clear hg hout HA HB3 HR
  go_wp2_with fail
  refine HA2.out.mono ?_
  rintro e w5 ⟨hg, hal⟩
  rw [if_pos ⟨by decide, by decide, by decide, by decide, by decide⟩, all_27.2] at hal
  have hal' : e = .returned (.tuple #[.slice none 0 0, .int .i64 3]) := hal
  subst hal'
  have HR5 := Lib.hid ((But.of_grew (F := fun _ => False) hg).row HR4.out (fun _ _ h => h))
  have HO5 := Lib.hid (HOUT.out.keep hg)
  have HG5 := Lib.hid (HG4.out.trans hg)
  have HB5 := Lib.hid (HB4.out.grew hg)
  clear hg hal HA2 HB4 HR4 HOUT
  obtain ⟨w6, hw6⟩ : ∃ w6, w5.alloc (.cells #[.int .i64 0] 3) = w6 := ⟨_, rfl⟩
  have g6 : Grew w5 w6 := hw6 ▸ grew_alloc w5 _
  have o6 : Owns w6 w5.heap.size [.int .i64 0] 3 := hw6 ▸ Owns.alloc w5 _ _
  have HS6 := Lib.hid (ssame_yes [0] (by decide) w6 (.slice ua 1 uc) (.slice (some ⟨w5.heap.size, 0, none⟩) 1 1) (loose_ints ((But.of_grew (F := fun _ => False) g6).row HR5.out (fun _ _ h => h))) (owns_ints (l := [0]) o6))
  have HG6 := Lib.hid g6
  clear g6 o6
  go_wp2_with fail
  refine HS6.out.mono ?_
  rintro e w7 ⟨rfl, hg⟩
  have HG57 := Lib.hid (HG6.out.trans hg)
  have HB7 := Lib.hid (HB5.out.grew HG57.out)
  have HLG := Lib.hid (slong_ok B27 1 V bk w7.heap.size w7 HB7.out.at_)
  clear hg hw6 HS6 HG6
  go_wp2_with fail
  refine HLG.out.mono ?_
  rintro e w8 ⟨rfl, rfl⟩
  have hl2 : (if hasR B27 1 then (B27.firsts.getD (1 : Int).toNat ⟨-1, []⟩).long else -1) = 2 := by kernel_rfl
  rw [hl2]
  obtain ⟨q, hq⟩ : ∃ q, w8.heap.size = q := ⟨_, rfl⟩
  obtain ⟨w9, hw9⟩ : ∃ w9, w8.alloc (.cells #[.int .i64 0] 3) = w9 := ⟨_, rfl⟩
  have g9 : Grew w8 w9 := hw9 ▸ grew_alloc w8 _
  have o9 : Owns w9 w8.heap.size [.int .i64 0] 3 := hw9 ▸ Owns.alloc w8 _ _
  have y9 : w9.heap.size = q + 1 := by rw [← hw9]; exact (World.size_alloc _ _).trans (by rw [hq])
  rw [hq] at o9
  obtain ⟨w10, hw10⟩ : ∃ w10, w9.alloc (.cells #[.int .i64 1] 3) = w10 := ⟨_, rfl⟩
  have g10 : Grew w9 w10 := hw10 ▸ grew_alloc w9 _
  have o10 : Owns w10 w9.heap.size [.int .i64 1] 3 := hw10 ▸ Owns.alloc w9 _ _
  have y10 : w10.heap.size = q + 1 + 1 := by rw [← hw10]; exact (World.size_alloc _ _).trans (by rw [y9])
  rw [y9] at o10
  obtain ⟨w11, hw11⟩ : ∃ w11, w10.alloc (.cells #[.int .i64 0, .int .i64 0, .int .i64 0] 3) = w11 := ⟨_, rfl⟩
  have g11 : Grew w10 w11 := hw11 ▸ grew_alloc w10 _
  have o11 : Owns w11 w10.heap.size [.int .i64 0, .int .i64 0, .int .i64 0] 3 := hw11 ▸ Owns.alloc w10 _ _
  have y11 : w11.heap.size = q + 1 + 1 + 1 := by rw [← hw11]; exact (World.size_alloc _ _).trans (by rw [y10])
  rw [y10] at o11
  obtain ⟨w12, hw12⟩ : ∃ w12, w11.alloc (.cells #[.int .i64 0, .int .i64 0, .int .i64 1] 3) = w12 := ⟨_, rfl⟩
  have g12 : Grew w11 w12 := hw12 ▸ grew_alloc w11 _
  have o12 : Owns w12 w11.heap.size [.int .i64 0, .int .i64 0, .int .i64 1] 3 := hw12 ▸ Owns.alloc w11 _ _
  have y12 : w12.heap.size = q + 1 + 1 + 1 + 1 := by rw [← hw12]; exact (World.size_alloc _ _).trans (by rw [y11])
  rw [y11] at o12
  obtain ⟨w13, hw13⟩ : ∃ w13, w12.alloc (.cells #[.slice (some ⟨q, 0, none⟩) 1 1, .slice (some ⟨q + 1, 0, none⟩) 1 1, .slice (some ⟨q + 1 + 1, 0, none⟩) 3 3, .slice (some ⟨q + 1 + 1 + 1, 0, none⟩) 3 3] 27) = w13 := ⟨_, rfl⟩
  have g13 : Grew w12 w13 := hw13 ▸ grew_alloc w12 _
  have o13 : Owns w13 w12.heap.size [.slice (some ⟨q, 0, none⟩) 1 1, .slice (some ⟨q + 1, 0, none⟩) 1 1, .slice (some ⟨q + 1 + 1, 0, none⟩) 3 3, .slice (some ⟨q + 1 + 1 + 1, 0, none⟩) 3 3] 27 := hw13 ▸ Owns.alloc w12 _ _
  have y13 : w13.heap.size = q + 1 + 1 + 1 + 1 + 1 := by rw [← hw13]; exact (World.size_alloc _ _).trans (by rw [y12])
  rw [y12] at o13
  have hg813 := (((g9.trans g10).trans g11).trans g12).trans g13
  have hou := out27 (o9.keep (((g10.trans g11).trans g12).trans g13)) (o10.keep ((g11.trans g12).trans g13)) (o11.keep (g12.trans g13)) (o12.keep g13) o13
  have HSA := Lib.hid (same27_yes w13 _ 0 (.slice la 4 lc) _ (HO5.out.keep (HG57.out.trans hg813)) hou)
  have HG13 := Lib.hid hg813
  clear hg813 hou g9 g10 g11 g12 g13 o9 o10 o11 o12 o13 HLG
  go_wp2_with fail
  refine HSA.out.mono ?_
  rintro e w14 ⟨rfl, hg⟩
  have HG14 := Lib.hid (HG13.out.trans hg)
  have HB14 := Lib.hid (HB7.out.grew HG14.out)
  clear hg hq hw9 hw10 hw11 hw12 hw13 y9 y10 y11 y12 y13 HSA HG13 HB7
  obtain ⟨w15, hw15⟩ : ∃ w15, w14.alloc (.cells #[.int .i64 0, .int .i64 1] 3) = w15 := ⟨_, rfl⟩
  have g15 : Grew w14 w15 := hw15 ▸ grew_alloc w14 _
  have o15 : Owns w15 w14.heap.size [.int .i64 0, .int .i64 1] 3 := hw15 ▸ Owns.alloc w14 _ _
  have HB15 := HB14.out.grew g15
  have HH := Lib.hid (sHas_ok B27 HGD.out 1 V bk w15.heap.size [0, 1] (by simp [reachN]) (.slice (some ⟨w14.heap.size, 0, none⟩) 2 2) w15 HB15.at_ (owns_ints (l := [0, 1]) o15))
  have HG15 := Lib.hid g15
  clear g15 o15 HB15
  go_wp2_with fail
  refine HH.out.mono ?_
  intro e w16 hh
  obtain ⟨rfl, hg⟩ := has_yes hh (by decide) (by decide) (by decide) ((d1_27 _).2 (by decide))
  have HG16 := Lib.hid (HG15.out.trans hg)
  have HB16 := Lib.hid (HB14.out.grew HG16.out)
  clear hh hg hw15 HH HG15
  obtain ⟨w17, hw17⟩ : ∃ w17, w16.alloc (.cells #[.int .i64 1] 3) = w17 := ⟨_, rfl⟩
  have g17 : Grew w16 w17 := hw17 ▸ grew_alloc w16 _
  have o17 : Owns w17 w16.heap.size [.int .i64 1] 3 := hw17 ▸ Owns.alloc w16 _ _
  have HB17 := HB16.out.grew g17
  have HH := Lib.hid (sHas_ok B27 HGD.out 1 V bk w17.heap.size [1] (by simp [reachN]) (.slice (some ⟨w16.heap.size, 0, none⟩) 1 1) w17 HB17.at_ (owns_ints (l := [1]) o17))
  have HG17 := Lib.hid g17
  clear g17 o17 HB17
  go_wp2_with fail
  refine HH.out.mono ?_
  intro e w18 hh
  obtain ⟨rfl, hg⟩ := has_no hh (fun h => absurd ((d1_27 _).1 h) (by decide))
  have HG18 := Lib.hid (((((HG5.out.trans HG57.out).trans HG14.out).trans HG16.out).trans HG17.out).trans hg)
  clear hh hg hw17 HH
  go_wp2_with fail
  go_ret
  exact ⟨rfl, HG18.out⟩
end Go.Proofs.YtoflfkffldpglaaGreatDoor
