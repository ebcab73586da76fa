/- ScansAny: it answers true, for every text. -/
import Derived.Test.YtdgkpmpakkfgbaaGreatDoorScMu
import Derived.Test.YtdgkpmpakkfgbaaGreatDoorScRS
import Derived.Test.YtdgkpmpakkfgbaaGreatDoorScLives
import Derived.Test.YtdgkpmpakkfgbaaGreatDoorScSt
namespace Go.Proofs.YtdgkpmpakkfgbaaGreatDoor
open Go.RowKit

/-- what both scans tell -/
structure Told (l : List UInt8) (o : List Wd × Nat × Nat) (ws : List Wd) (E A B C : Nat) : Prop where
  one : ∀ W r W', ScanIs W l o r W' → Grew W W' ∧ ∃ a c, r = .returned (.tuple #[.slice a ws.length c, .agg #[.int .i64 E, .int .i64 A, .int .i64 B, .int .i64 C]]) ∧ WordsV W' W.heap.size l (.slice a ws.length c) ws
  two : ∀ W r W', RScanIs W l o r W' → Grew W W' ∧ ∃ a c, r = .returned (.tuple #[.slice a ws.length c, .int .i64 E, .agg #[.int .i64 A, .int .i64 B, .int .i64 C]]) ∧ RWordsV W' W.heap.size l (.slice a ws.length c) ws
theorem told_of (l : List UInt8) (o : List Wd × Nat × Nat) : ∃ ws E A B C, Told l o ws E A B C ∧ (ws = [] ∨ (o.2.2 = 0 ∧ ws = o.1)) := by
  by_cases h : o.2.2 = 0
  · refine ⟨o.1, 0, 0, 0, 0, ⟨fun W r W' hs => ⟨hs.1, ?_⟩, fun W r W' hs => ⟨hs.1, ?_⟩⟩, .inr ⟨h, rfl⟩⟩
    · obtain ⟨v, hr, hv, a, c, rfl⟩ := hs.2.2 h
      exact ⟨a, c, hr, hv⟩
    · obtain ⟨v, hr, hv, a, c, rfl⟩ := hs.2.2 h
      exact ⟨a, c, hr, hv⟩
  · refine ⟨[], o.2.2, o.2.1, (placeOf (l.take o.2.1) 1 1).1, (placeOf (l.take o.2.1) 1 1).2, ⟨fun W r W' hs => ⟨hs.1, ?_⟩, fun W r W' hs => ⟨hs.1, ?_⟩⟩, .inl rfl⟩
    · exact ⟨none, 0, hs.2.1 h, [], ⟨rfl, .inl ⟨rfl, rfl⟩⟩, rfl⟩
    · exact ⟨none, 0, hs.2.1 h, [], ⟨rfl, .inl ⟨rfl, rfl⟩⟩, rfl⟩

set_option maxHeartbeats 8000000 in
set_option maxRecDepth 40000 in
theorem scansAny_ok (s : ByteArray) (W : World) (hW : LaidS W) : Calls Tryz.prog 3 #[.string s] W fun e W' => e = .returned (.bool true) ∧ Grew W W' := by
  have hL : Hid (∀ w, Grew W w → Calls Tryz.prog 4 #[] w fun e w' => e = .returned (.bool true) ∧ Grew w w') := fun w hg => lives2_ok w (hW.below hg)
  by_cases hbig : s.size ≤ 3000
  · obtain ⟨ws, E, A, B, C, hT, hws⟩ := told_of s.data.toList (scanF s.data.toList)
    have hS : Hid (∀ w, Grew W w → Calls Tryz.prog 5 #[.string s] w fun r w' => Grew w w' ∧ ∃ a c, r = .returned (.tuple #[.slice a ws.length c, .agg #[.int .i64 E, .int .i64 A, .int .i64 B, .int .i64 C]]) ∧ WordsV w' w.heap.size s.data.toList (.slice a ws.length c) ws) := fun w hg => (scan_ok s w (by omega) (hW.below hg)).mono (hT.one w)
    have hR : Hid (∀ w, Calls Tryz.prog 6 #[.string s] w fun r w' => Grew w w' ∧ ∃ a c, r = .returned (.tuple #[.slice a ws.length c, .int .i64 E, .agg #[.int .i64 A, .int .i64 B, .int .i64 C]]) ∧ RWordsV w' w.heap.size s.data.toList (.slice a ws.length c) ws) := fun w => (r2scan_ok s w (by omega)).mono (hT.two w)
    have hLs : s.data.toList.length = s.size := (Lib.size_eq s).symm
    have hsz : ws.length ≤ 3000 ∧ ∀ w ∈ ws, w.set.length ≤ 3000 ∧ w.kind ≤ 4 := by
      rcases hws with rfl | ⟨h0, rfl⟩
      · simp
      · have := scanF_sizes _ h0
        exact ⟨by omega, fun w hw => ⟨by have := (this.2 w hw).1; omega, (this.2 w hw).2⟩⟩
    obtain ⟨hn, hsets⟩ := hsz
    have HZ := Lib.hid hsets
    obtain ⟨n, hnn⟩ : ∃ n, ws.length = n := ⟨_, rfl⟩
    have HNN := Lib.hid hnn
    have hSame : Hid (∀ w ba bb va vb, WordsV w ba s.data.toList va ws → RWordsV w bb s.data.toList vb ws → Calls Tryz.prog 7 #[va, vb] w fun e W' => e = .returned (.bool true) ∧ Grew w W') := fun w ba bb va vb ha hb => scSame_ok ws _ w ba bb va vb ha hb (by omega) (fun x hx => ⟨by have := (HZ.out x hx).1; omega, (HZ.out x hx).2⟩)
    rw [hnn] at hS hR hn
    clear hT hws hsets hnn
    go_enter Tryz.func3, Tryz.ntmps3
    go_wp2_with fail
    refine (hS.out _ (Grew.refl _)).mono ?_
    rintro r w1 ⟨hg1, a1, c1, rfl, hv1⟩
    have gb := grew_alloc w1 (.cells #[.int .i64 E, .int .i64 A, .int .i64 B, .int .i64 C] 28)
    have ob : Owns (w1.alloc (.cells #[.int .i64 E, .int .i64 A, .int .i64 B, .int .i64 C] 28)) w1.heap.size [.int .i64 E, .int .i64 A, .int .i64 B, .int .i64 C] 28 := Owns.alloc w1 _ _
    go_wp2_with fail
    generalize w1.alloc (.cells #[.int .i64 E, .int .i64 A, .int .i64 B, .int .i64 C] 28) = w1b at *
    obtain ⟨fb, hfb⟩ : ∃ x, w1.heap.size = x := ⟨_, rfl⟩
    rw [hfb] at ob ⊢
    refine (hR.out _).mono ?_
    rintro r w2 ⟨hg2, a2, c2, rfl, hv2⟩
    have ob2 := ob.keep hg2
    have hv12 := (hv1.grew gb).grew hg2
    have HG2 := Lib.hid ((hg1.trans gb).trans hg2)
    have gc := grew_alloc w2 (.cells #[.int .i64 A, .int .i64 B, .int .i64 C] 26)
    have oc : Owns (w2.alloc (.cells #[.int .i64 A, .int .i64 B, .int .i64 C] 26)) w2.heap.size [.int .i64 A, .int .i64 B, .int .i64 C] 26 := Owns.alloc w2 _ _
    clear hg1 gb hg2 ob hv1
    go_upto_region 5 with fail
    generalize w2.alloc (.cells #[.int .i64 A, .int .i64 B, .int .i64 C] 26) = w3 at *
    obtain ⟨pb, hpb⟩ : ∃ x, w2.heap.size = x := ⟨_, rfl⟩
    rw [hpb] at oc ⊢
    have ob3 := ob2.keep gc
    have e0 := ob3.cell_at (i := 0) rfl
    have e1 := ob3.cell_at (i := 1) rfl
    have e2 := ob3.cell_at (i := 2) rfl
    have e3 := ob3.cell_at (i := 3) rfl
    have k0 := oc.cell_at (i := 0) rfl
    have k1 := oc.cell_at (i := 1) rfl
    have k2 := oc.cell_at (i := 2) rfl
    have hblt := ob3.lt
    have hclt := oc.lt
    have HG3 := Lib.hid (HG2.out.trans gc)
    have HV1 := Lib.hid (hv12.grew gc)
    have HV2 := Lib.hid (hv2.grew gc)
    have qE : ((E : Int) == (E : Int)) = true := beq_self_eq_true _
    have qA : ((A : Int) == (A : Int)) = true := beq_self_eq_true _
    have qB : ((B : Int) == (B : Int)) = true := beq_self_eq_true _
    have qC : ((C : Int) == (C : Int)) = true := beq_self_eq_true _
    have nE : ((E : Int) != (E : Int)) = false := by simp
    clear ob2 ob3 oc gc hv12 hv2 hfb hpb HG2
    have HSA := Lib.hid (hSame.out w3 _ _ _ _ HV1.out HV2.out)
    go_wp2_with fail
    refine HSA.out.mono ?_
    rintro e w4 ⟨rfl, hg4⟩
    have HG4 := Lib.hid (HG3.out.trans hg4)
    have HW1 := Lib.hid (HV1.out.grew hg4)
    have HW2 := Lib.hid (HV2.out.grew hg4)
    clear hg4 HSA HG3 HV1 HV2 e0 e1 e2 e3 k0 k1 k2 hblt hclt qE qA qB qC nE
    have HSB := Lib.hid (hS.out w4 HG4.out)
    go_wp2_with fail
    refine HSB.out.mono ?_
    rintro r w5 ⟨hg5, a3, c3, rfl, hv3⟩
    have HV3 := Lib.hid hv3
    have HG5 := Lib.hid hg5
    clear HSB hv3 hg5
    have gd := grew_alloc w5 (.cells #[.int .i64 E, .int .i64 A, .int .i64 B, .int .i64 C] 28)
    go_wp2_with fail
    generalize w5.alloc (.cells #[.int .i64 E, .int .i64 A, .int .i64 B, .int .i64 C] 28) = w6 at *
    have HV6 := Lib.hid (HV3.out.grew gd)
    have HG6 := Lib.hid (HG5.out.trans gd)
    have h46 := HG6.out.size
    clear gd HV3 HG5
    go_loopw [10] (fun v wr => ∃ i : Nat, v = .int .i64 i ∧ i ≤ n ∧ Hid (Mute 40 w4.heap.size w6 wr)) (fun v _ => n - (intOf v).toNat)
    case atStart => exact ⟨0, rfl, Nat.zero_le _, Mute.refl _ _⟩
    case round =>
      obtain ⟨i, rfl, hi, HM⟩ := hrel
      by_cases hlt : i < n
      · have hiw : i < ws.length := by rw [HNN.out]; exact hlt
        obtain ⟨m, hm⟩ : ∃ m, ws[i].set.length = m := ⟨_, rfl⟩
        have hm3 := (HZ.out _ (List.getElem_mem hiw)).1
        rw [hm] at hm3
        have HMM := Lib.hid hm
        have HIW := Lib.hid hiw
        clear hm
        obtain ⟨wo, rfl⟩ : ∃ wo : World, wo = wr := ⟨_, rfl⟩
        go_wp2_with fail
        go_loopw [11] (fun v wr => ∃ k : Nat, v = .int .i64 k ∧ k ≤ m ∧ Hid (Mute 40 w4.heap.size w6 wr)) (fun v _ => m - (intOf v).toNat)
        case atStart => exact ⟨0, rfl, Nat.zero_le _, HM⟩
        case round =>
          obtain ⟨k, rfl, hk, HK⟩ := hrel
          obtain ⟨gc, cc, sa, sc, hv, hcc, hgl, hcell, hsc, hset⟩ := HV6.out.muted HK.out (Nat.le_refl _) i HIW.out
          rw [HMM.out] at hcell hsc hset
          rw [HNN.out] at hv hcc
          simp only [Value.slice.injEq, true_and] at hv
          obtain ⟨rfl, rfl⟩ := hv
          by_cases hkm : k < m
          · obtain ⟨g, x, rfl, hgl2, hcx, hfr, hmut⟩ := hset k hkm
            have HMU := Lib.hid (hmut (.int .i32 (-7)))
            clear hset hmut
            go_wp2_with fail
            exact ⟨⟨k + 1, by go_num, by omega, HMU⟩, by simp [intOf]; omega⟩
          · have hkm2 : k = m := by omega
            subst hkm2
            clear hset
            go_wp2_with fail
            exact ⟨⟨i + 1, by go_num, by omega, HK⟩, by simp [intOf]; omega⟩
      · have hin : i = n := by omega
        subst hin
        have hg4r : Grew w4 wr := Below.trans HG6.out HM.out.below
        have HGR := Lib.hid (HG4.out.trans hg4r)
        have HSC := Lib.hid (hSame.out wr _ _ _ _ (HW1.out.grew hg4r) (HW2.out.grew hg4r))
        clear hg4r
        go_wp2_with fail
        refine HSC.out.mono ?_
        rintro e w7 ⟨rfl, hg7⟩
        have HG7 := Lib.hid (HGR.out.trans hg7)
        clear hg7
        go_wp2_with fail
        refine (hL.out w7 HG7.out).mono ?_
        rintro e w8 ⟨rfl, hg8⟩
        have HG8 := Lib.hid (HG7.out.trans hg8)
        clear hg8
        go_wp2_with fail
        go_ret
        exact ⟨rfl, HG8.out⟩
  · go_enter Tryz.func3, Tryz.ntmps3
    go_wp2_with fail
    refine (hL.out _ (Grew.refl _)).mono ?_
    rintro e w ⟨rfl, hg⟩
    go_wp2_with fail
    go_ret
    exact ⟨rfl, hg⟩
end Go.Proofs.YtdgkpmpakkfgbaaGreatDoor
