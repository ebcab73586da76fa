/- AtnsWhole: it answers true, for every grammar. -/
import Derived.Test.YtiiffcmojkdlaaaGreatDoorQ33
import Derived.Test.YtiiffcmojkdlaaaGreatDoorQ46
import Derived.Test.YtiiffcmojkdlaaaGreatDoorQ47
namespace Go.Proofs.YtiiffcmojkdlaaaGreatDoor
open Go.RowKit

/-- the net's box, and two rows of bools -/
structure TwoAt (W : World) (nb ob pb : Nat) (cs : List Value) (O B : List Bool) (w : World) : Prop where
  net : Owns w nb cs 32
  over : Owns w ob (bcs O) 4
  begins : Owns w pb (bcs B) 4
  low : Grew W w
  lt1 : nb < ob
  lt2 : ob < pb
  lo : W.heap.size ≤ nb
theorem TwoAt.putO {W w : World} {nb ob pb : Nat} {cs : List Value} {O B : List Bool} (h : TwoAt W nb ob pb cs O B w) (k : Nat) : TwoAt W nb ob pb cs (O.set k true) B (w.setCell ⟨ob, k, none⟩ (.bool true)) :=
  ⟨h.net.other (a := ⟨ob, k, none⟩) (fun e => by have := h.lt1; simp only at e; omega) _, by rw [← bcs_set]; exact h.over.set k _, h.begins.other (a := ⟨ob, k, none⟩) (fun e => by have := h.lt2; simp only at e; omega) _, Below.setCell h.low (p := ⟨ob, k, none⟩) (by have := h.lo; have := h.lt1; simp only; omega) _, h.lt1, h.lt2, h.lo⟩
theorem TwoAt.putB {W w : World} {nb ob pb : Nat} {cs : List Value} {O B : List Bool} (h : TwoAt W nb ob pb cs O B w) (k : Nat) : TwoAt W nb ob pb cs O (B.set k true) (w.setCell ⟨pb, k, none⟩ (.bool true)) :=
  ⟨h.net.other (a := ⟨pb, k, none⟩) (fun e => by have := h.lt1; have := h.lt2; simp only at e; omega) _, h.over.other (a := ⟨pb, k, none⟩) (fun e => by have := h.lt2; simp only at e; omega) _, by rw [← bcs_set]; exact h.begins.set k _, Below.setCell h.low (p := ⟨pb, k, none⟩) (by have := h.lo; have := h.lt1; have := h.lt2; simp only; omega) _, h.lt1, h.lt2, h.lo⟩
theorem TwoAt.grew {W w w' : World} {nb ob pb : Nat} {cs : List Value} {O B : List Bool} (h : TwoAt W nb ob pb cs O B w) (hg : Grew w w') : TwoAt W nb ob pb cs O B w' :=
  ⟨h.net.keep hg, h.over.keep hg, h.begins.keep hg, h.low.trans hg, h.lt1, h.lt2, h.lo⟩

/-- which are marked -/
def MarkIs (B : List Bool) (P : Nat → Prop) : Prop := ∀ q, B.getD q false = true ↔ P q
theorem set_getD {B : List Bool} {b : Nat} (h : b < B.length) (q : Nat) : (B.set b true).getD q false = true ↔ B.getD q false = true ∨ q = b := by
  rw [List.getD_eq_getElem?_getD, List.getD_eq_getElem?_getD]
  by_cases hq : b = q
  · subst hq
    rw [List.getElem?_set_self h]
    simp
  · rw [List.getElem?_set_ne hq]
    constructor
    · exact fun h => .inl h
    · rintro (h | h)
      · exact h
      · omega
theorem MarkIs.none (L : Nat) (P : Nat → Prop) (h : ∀ q, ¬ P q) : MarkIs (List.replicate L false) P := fun q => by
  constructor
  · intro hq
    rw [List.getD_eq_getElem?_getD, List.getElem?_replicate] at hq
    split at hq <;> cases hq
  · exact fun hq => (h q hq).elim
theorem MarkIs.put {B : List Bool} {P P' : Nat → Prop} (h : MarkIs B P) {b : Nat} (hb : b < B.length) (hp : ∀ q, P' q ↔ P q ∨ q = b) : MarkIs (B.set b true) P' := fun q => by
  rw [set_getD hb, h q, hp q]
theorem MarkIs.congr {B : List Bool} {P P' : Nat → Prop} (h : MarkIs B P) (hp : ∀ q, P' q ↔ P q) : MarkIs B P' := fun q => (h q).trans (hp q).symm
theorem upto_step {l : List Int} {i : Nat} {b : Nat} (h : l[i]? = some (b : Int)) (q : Nat) : (∃ k < i + 1, l[k]? = some (q : Int)) ↔ (∃ k < i, l[k]? = some (q : Int)) ∨ q = b := by
  constructor
  · rintro ⟨k, h1, h2⟩
    by_cases hk : k = i
    · subst hk
      rw [h] at h2
      have := Option.some.inj h2
      exact .inr (by omega)
    · exact .inl ⟨k, by omega, h2⟩
  · rintro (⟨k, h1, h2⟩ | rfl)
    · exact ⟨k, by omega, h2⟩
    · exact ⟨i, by omega, h⟩
theorem upto_all {l : List Int} {i : Nat} (h : l.length = i) (q : Nat) : (∃ k < i, l[k]? = some (q : Int)) ↔ (q : Int) ∈ l := by
  constructor
  · rintro ⟨k, -, h2⟩
    exact List.mem_of_getElem? h2
  · intro hq
    obtain ⟨k, h1, h2⟩ := List.mem_iff_getElem.1 hq
    exact ⟨k, by omega, by rw [List.getElem?_eq_getElem h1, h2]⟩
theorem Nice.begins_iff {m : Mk} {N : Net} {bs : List Nat} {J : Nat} (h : Nice m N bs J) (q : Nat) : ((q : Int) ∈ N.starts ∨ (q : Int) ∈ N.preds) ↔ q ∈ bs := by
  constructor
  · rintro (hq | hq)
    · obtain ⟨k, h1, h2⟩ := List.mem_iff_getElem.1 hq
      obtain ⟨b, b1, b2, -⟩ := h.ss k (by have := h.lens.1; omega)
      rw [List.getElem?_eq_getElem h1, h2] at b2
      have := Option.some.inj b2
      have : q = b := by omega
      rw [this]; exact b1
    · obtain ⟨b, b1, b2⟩ := h.pp _ hq
      have : q = b := by omega
      rw [this]; exact b1
  · exact h.all q
theorem Nice.over_iff {m : Mk} {N : Net} {bs : List Nat} {J : Nat} (h : Nice m N bs J) (q : Nat) : ((q : Int) ∈ N.stops ∨ ∃ p : Nat, (p : Int) ∈ N.preds ∧ q = p + 1) ↔ ∃ b ∈ bs, q = b + 1 := by
  constructor
  · rintro (hq | ⟨p, hp, rfl⟩)
    · obtain ⟨k, h1, h2⟩ := List.mem_iff_getElem.1 hq
      obtain ⟨b, b1, -, b2, -⟩ := h.ss k (by have := h.lens.2; omega)
      rw [List.getElem?_eq_getElem h1, h2] at b2
      have := Option.some.inj b2
      exact ⟨b, b1, by omega⟩
    · exact ⟨p, (h.begins_iff p).1 (.inr hp), rfl⟩
  · rintro ⟨b, b1, rfl⟩
    rcases h.all b b1 with hq | hq
    · obtain ⟨k, h1, h2⟩ := List.mem_iff_getElem.1 hq
      obtain ⟨b', -, b2, b3, -⟩ := h.ss k (by have := h.lens.1; omega)
      rw [List.getElem?_eq_getElem h1, h2] at b2
      have := Option.some.inj b2
      have : b = b' := by omega
      subst this
      exact .inl (List.mem_of_getElem? b3)
    · exact .inr ⟨b, hq, rfl⟩

set_option maxHeartbeats 8000000 in
set_option maxRecDepth 40000 in
theorem atnsWhole_ok (g : Gr) (W : World) (hT : Lib.Utf8Tabs 1 2 W) (v0 v1 v2 v3 : Value) (hG : GrAt W W.heap.size (some v0) (some v1) (some v2) (some v3) g) :
    Calls Tryz.prog 3 #[.agg #[v0, v1, v2, v3]] W fun e W' => e = .returned (.bool true) ∧ Grew W W' := by
  have HL := Lib.hid (fun w => lives12_ok w)
  have hG0 := hG
  obtain ⟨q1, q2, q3, q4, q5, q6, ra, rc, q7, q8, q9⟩ := hG
  obtain rfl := Option.some.inj q1
  obtain rfl := Option.some.inj q3
  obtain rfl := Option.some.inj q4
  obtain rfl := Option.some.inj q7
  clear q1 q3 q4 q5 q6 q7 q2 q8 q9
  have hg1 := grew_alloc W (.cells #[.string g.name, .int .i64 g.bound, .int .i64 g.states, .slice ra g.rules.length rc] 26)
  have ho1 := Owns.alloc W [.string g.name, .int .i64 g.bound, .int .i64 g.states, .slice ra g.rules.length rc] 26
  have HG1 := Lib.hid hg1
  have HO1 := Lib.hid ho1
  have HG := Lib.hid ((hG0.keep hg1).mono hg1.size)
  have HT := Lib.hid hT
  have HGt := Lib.hid (great5_ok g _ _ _ _ _ HG.out)
  have b0 := ho1.cell_at (i := 0) rfl
  have b1 := ho1.cell_at (i := 1) rfl
  have b2 := ho1.cell_at (i := 2) rfl
  have b3 := ho1.cell_at (i := 3) rfl
  have bl := ho1.lt
  clear hG0 hg1 ho1 hT
  go_enter Tryz.func3, Tryz.ntmps3
  go_wp2_with fail
  generalize W.alloc (.cells #[.string g.name, .int .i64 g.bound, .int .i64 g.states, .slice ra g.rules.length rc] 26) = w1 at *
  refine HGt.out.mono ?_
  rintro e w2 ⟨(rfl | ⟨rfl, hfair⟩), hb2⟩
  · have HW2 := Lib.hid (HG1.out.trans hb2)
    clear hb2
    go_wp2_with fail
    refine (HL.out _).mono ?_
    rintro e w3 ⟨rfl, hb3⟩
    have HW3 := Lib.hid (HW2.out.trans hb3)
    clear hb3
    go_wp2_with fail
    go_ret
    exact ⟨rfl, HW3.out⟩
  · have hw2 : Grew w1 w2 := hb2
    have ho2 := HO1.out.keep hw2
    have b0 := ho2.cell_at (i := 0) rfl
    have b1 := ho2.cell_at (i := 1) rfl
    have b2 := ho2.cell_at (i := 2) rfl
    have b3 := ho2.cell_at (i := 3) rfl
    have bl := ho2.lt
    have HO2 := Lib.hid ho2
    have HW2 := Lib.hid (HG1.out.trans hw2)
    have HGR2 := Lib.hid ((HG.out.keep hw2).mono hw2.size)
    have HS := Lib.hid (sound_ok g hfair w2 (tabs_grew HT.out HW2.out) _ _ _ _ HGR2.out)
    have HFA := Lib.hid hfair
    clear hb2 hw2 ho2 hfair
    go_wp2_with fail
    refine HS.out.mono ?_
    rintro e w3 ⟨⟨b, rfl, hwide⟩, hg3⟩
    cases b with
    | false =>
      have HW3 := Lib.hid (HW2.out.trans hg3)
      clear hg3
      go_wp2_with fail
      refine (HL.out _).mono ?_
      rintro e w4 ⟨rfl, hb4⟩
      have HW4 := Lib.hid (HW3.out.trans hb4)
      clear hb4
      go_wp2_with fail
      go_ret
      exact ⟨rfl, HW4.out⟩
    | true =>
      have hw := hwide rfl
      have ho3 := HO2.out.keep hg3
      have b0 := ho3.cell_at (i := 0) rfl
      have b1 := ho3.cell_at (i := 1) rfl
      have b2 := ho3.cell_at (i := 2) rfl
      have b3 := ho3.cell_at (i := 3) rfl
      have bl := ho3.lt
      have HW3 := Lib.hid (HW2.out.trans hg3)
      have HB := Lib.hid (build12_ok g HFA.out w3 _ _ _ _ ((HGR2.out.keep hg3).mono hg3.size))
      have HWI := Lib.hid hw
      clear hwide hw hg3 ho3
      go_wp2_with fail
      refine HB.out.mono ?_
      rintro e w4 ⟨hg4, n0, n1, n2, n3, n4, k, rfl, hcase⟩
      rcases hcase with ⟨rfl, ⟨es, rch, rnd, htold⟩, E, m, hEr, hEt, hbuilt, hfull, hslim, hpre, hkin, hnet⟩ | ⟨hk, -, hnil⟩
      · have hrl : (g.of [0]).length ≤ 1000 := by
          have h1 := Gr.ofTo_len g [0] g.rules.length
          have h2 := HFA.out.len
          unfold Gr.of
          omega
        obtain ⟨⟨bs, hwh⟩, hwt⟩ := built_sound htold HWI.out E hEr hEt hbuilt hfull
        have hnice := nice_of hwh hwt hslim hpre.1 hrl
        generalize (m.decsTo m.N.states.length).N = N at hnice hnet
        generalize (g.of [0]).length = J at *
        have HN := Lib.hid hnice
        have HNE := Lib.hid hnet
        have HW4 := Lib.hid (HW3.out.trans hg4)
        clear hEr hEt hbuilt hfull hslim hpre hkin hwh hwt htold hnice hnet hg4 HB HS HGt HG HGR2 HO1 HO2 b0 b1 b2 b3 bl
        obtain ⟨⟨na, nc, rfl, hNa⟩, ⟨ta, tc, rfl, hTa⟩, ⟨ua, uc, rfl, hUa⟩, ⟨pa, pc, rfl, hPa⟩, da, dc, rfl, -⟩ := id HNE.out
        have HNA := Lib.hid hNa
        have HTA := Lib.hid hTa
        have HUA := Lib.hid hUa
        have HPA := Lib.hid hPa
        clear hNa hTa hUa hPa
        have g5 := grew_alloc w4 (.cells #[.slice na N.states.length nc, .slice ta N.starts.length tc, .slice ua N.stops.length uc, .slice pa N.preds.length pc, .slice da N.decisions.length dc] 32)
        have o5 : Owns (w4.alloc (.cells #[.slice na N.states.length nc, .slice ta N.starts.length tc, .slice ua N.stops.length uc, .slice pa N.preds.length pc, .slice da N.decisions.length dc] 32)) w4.heap.size [.slice na N.states.length nc, .slice ta N.starts.length tc, .slice ua N.stops.length uc, .slice pa N.preds.length pc, .slice da N.decisions.length dc] 32 := Owns.alloc w4 _ _
        have hfew := HN.out.few
        have hsf : N.states.length ≤ 1000000 := by rw [HN.out.sees.states]; exact HN.out.sees.few
        have HM := Lib.hid (fun w (hg : Grew w4 w) => AMay_ok N w _ _ _ _ _ ((HNE.out.keep hg).mono hg.size) hsf (by have h1 := HN.out.lens.1; have h2 := HN.out.lens.2; omega) (by omega) (by omega) (fun s hs => (HN.out.ends s hs).1) (fun s hs => (HN.out.ends s hs).2))
        go_wp2_with fail
        refine (HM.out _ g5).mono ?_
        rintro e w6 ⟨rfl, hg6⟩
        have o6 := o5.keep hg6
        have G6 := Lib.hid (g5.trans hg6)
        have c0 := o6.cell_at (i := 0) rfl
        have c1 := o6.cell_at (i := 1) rfl
        have c2 := o6.cell_at (i := 2) rfl
        have c3 := o6.cell_at (i := 3) rfl
        have cl := o6.lt
        have hmay := HN.out.may
        rw [hmay]
        obtain ⟨nb, hnb⟩ : ∃ nb, w4.heap.size = nb := ⟨_, rfl⟩
        obtain ⟨L, hL⟩ : ∃ L, N.states.length = L := ⟨_, rfl⟩
        have hmb := make_bools L (by unfold reachN; omega)
        have HMB := Lib.hid hmb
        rw [hL] at hsf c0 o6 ⊢
        rw [hnb] at c0 c1 c2 c3 cl o6 ⊢
        have HLL := Lib.hid hL
        obtain ⟨w7, hw7⟩ : ∃ w7, w6.alloc (.cells (List.replicate L (Value.bool false)).toArray 4) = w7 := ⟨_, rfl⟩
        have g7 : Grew w6 w7 := hw7 ▸ grew_alloc w6 _
        have o7 : Owns w7 w6.heap.size (List.replicate L (Value.bool false)) 4 := hw7 ▸ Owns.alloc w6 _ _
        obtain ⟨w8, hw8⟩ : ∃ w8, w7.alloc (.cells (List.replicate L (Value.bool false)).toArray 4) = w8 := ⟨_, rfl⟩
        have g8 : Grew w7 w8 := hw8 ▸ grew_alloc w7 _
        have o8 : Owns w8 w7.heap.size (List.replicate L (Value.bool false)) 4 := hw8 ▸ Owns.alloc w7 _ _
        obtain ⟨ob, hob⟩ : ∃ ob, w6.heap.size = ob := ⟨_, rfl⟩
        obtain ⟨pb, hpb⟩ : ∃ pb, w7.heap.size = pb := ⟨_, rfl⟩
        rw [hob, bcs_none] at o7
        rw [hpb, bcs_none] at o8
        have hle1 : nb < ob := by rw [← hob]; exact cl
        have hle2 : ob < pb := by rw [← hpb]; exact o7.lt
        have c0' := (o6.keep g7).cell_at (i := 0) rfl
        have cl' := (o6.keep g7).lt
        have hI := Lib.hid (show TwoAt w4 nb ob pb [.slice na L nc, .slice ta N.starts.length tc, .slice ua N.stops.length uc, .slice pa N.preds.length pc, .slice da N.decisions.length dc] (List.replicate L false) (List.replicate L false) w8 from ⟨(o6.keep g7).keep g8, o7.keep g8, o8, (G6.out.trans g7).trans g8, hle1, hle2, by omega⟩)
        have HNB := Lib.hid hnb
        clear hmay hmb o5 g5 hg6 HM hL o6 g7 o7 g8 o8 hnb G6
        go_wp2_with fail
        rw [HMB.out, hob, hw7]
        simp only [Result.andThen]
        go_wp2_with fail
        rw [HMB.out, hpb, hw8]
        simp only [Result.andThen]
        clear c0 c1 c2 c3 cl c0' cl' hw7 hw8 HMB hob hpb
        go_wp2_with fail
        have hJ := HN.out.lens
        have hJ1 := hJ.1
        have hJ2 := hJ.2
        obtain ⟨J3, hJ3⟩ : ∃ J3, N.preds.length = J3 := ⟨_, rfl⟩
        have HJ1 := Lib.hid hJ1
        have HJ2 := Lib.hid hJ2
        have HJ3 := Lib.hid hJ3
        have hJf : J ≤ 1000 := by rw [← hJ1]; exact hfew.1
        have hPf : J3 ≤ 2050 := by rw [← hJ3]; exact hfew.2.1
        rw [hJ1, hJ2, hJ3] at hI ⊢
        clear hJ hJ1 hJ2 hJ3 hfew
        go_loopw [7] (fun v wr => ∃ (i : Nat) (O B : List Bool), v = .int .i64 i ∧ i ≤ J ∧ O.length = L ∧ B.length = L ∧ Hid (MarkIs B fun q => ∃ k < i, N.starts[k]? = some (q : Int)) ∧ Hid (MarkIs O fun q => ∃ k < i, N.stops[k]? = some (q : Int)) ∧ Hid (TwoAt w4 nb ob pb [.slice na L nc, .slice ta J tc, .slice ua J uc, .slice pa J3 pc, .slice da N.decisions.length dc] O B wr)) (fun v _ => J - (intOf v).toNat)
        case atStart =>
          exact ⟨0, List.replicate L false, List.replicate L false, rfl, Nat.zero_le _, by simp, by simp, MarkIs.none L _ (fun q ⟨k, hk, _⟩ => absurd hk (Nat.not_lt_zero _)), MarkIs.none L _ (fun q ⟨k, hk, _⟩ => absurd hk (Nat.not_lt_zero _)), hI⟩
        case round =>
          obtain ⟨i, O, B, rfl, hi, hO, hB, HBB, HOO, HI⟩ := hrel
          have c0 := HI.out.net.cell_at (i := 0) rfl
          have c1 := HI.out.net.cell_at (i := 1) rfl
          have c2 := HI.out.net.cell_at (i := 2) rfl
          have c3 := HI.out.net.cell_at (i := 3) rfl
          have c4 := HI.out.net.cell_at (i := 4) rfl
          have cl := HI.out.net.lt
          by_cases hlt : i < J
          · obtain ⟨b, bm, s1, s2, r1, r2⟩ := HN.out.ss i hlt
            have hJ1 := HJ1.out
            have hJ2 := HJ2.out
            have hbl := (HN.out.path b bm).1
            have hmL : m.len = L := by rw [← HLL.out, HN.out.sees.states]; rfl
            have HS1 := Lib.hid s1
            have HS2 := Lib.hid s2
            have hsi : N.starts[i] = (b : Int) := by
              rw [List.getElem?_eq_getElem (by omega)] at s1
              exact Option.some.inj s1
            have hti : N.stops[i] = ((b + 1 : Nat) : Int) := by
              rw [List.getElem?_eq_getElem (by omega)] at s2
              exact Option.some.inj s2
            obtain ⟨tb, to_, rfl, htb, ht1⟩ := HTA.out i (by omega)
            obtain ⟨ub, uo, rfl, hub, hu1⟩ := HUA.out i (by omega)
            rw [hsi] at ht1
            rw [hti] at hu1
            have hst : ∀ q (h : q < N.states.length), N.states[q] = m.st q := fun q h => by
              have h2 : q < m.N.states.length := by rw [← HN.out.sees.states]; exact h
              rw [st_get h2]
              simp only [HN.out.sees.states]
            obtain ⟨sb, so, hna, hsb, hq1, -⟩ := HNA.out b (by rw [HLL.out]; omega)
            subst hna
            obtain ⟨sb2, so2, hna2, hsb2, hq2, -⟩ := HNA.out (b + 1) (by rw [HLL.out]; omega)
            simp only [Option.some.injEq, Addr.mk.injEq, and_true] at hna2
            obtain ⟨rfl, rfl⟩ := hna2
            rw [hst, r1] at hq1
            rw [hst, r2] at hq2
            have HLK := Lib.hid (fun w (hg : Grew w4 w) => leads_ok m N HN.out.sees w _ _ _ _ _ ((HNE.out.keep hg).mono hg.size) b (b + 1) (by omega) hbl (HN.out.path b bm).2)
            have hI2 := HI.out.putB b
            have hI3 := hI2.putO (b + 1)
            have hbL : b < L := by omega
            have hb1L : b + 1 < L := by omega
            have t1 := (HI.out.low.cells tb (to_ + i) htb).trans ht1
            have tl : tb < wr.heap.size := by have := HI.out.low.size; omega
            have p1 := HI.out.begins.cell_at (bcs_get (k := b) (by omega))
            have pf := HI.out.begins.free b
            have pl := HI.out.begins.lt
            obtain ⟨wB, hwB⟩ : ∃ wB, wr.setCell ⟨pb, b, none⟩ (.bool true) = wB := ⟨_, rfl⟩
            rw [hwB] at hI2 hI3
            have e0 := hI2.net.cell_at (i := 0) rfl
            have e1 := hI2.net.cell_at (i := 1) rfl
            have e2 := hI2.net.cell_at (i := 2) rfl
            have e3 := hI2.net.cell_at (i := 3) rfl
            have e4 := hI2.net.cell_at (i := 4) rfl
            have el := hI2.net.lt
            have u1 := (hI2.low.cells ub (uo + i) hub).trans hu1
            have ul : ub < wB.heap.size := by have := hI2.low.size; omega
            have o1 := hI2.over.cell_at (bcs_get (k := b + 1) (by omega))
            have of_ := hI2.over.free (b + 1)
            have ol := hI2.over.lt
            obtain ⟨wO, hwO⟩ : ∃ wO, wB.setCell ⟨ob, b + 1, none⟩ (.bool true) = wO := ⟨_, rfl⟩
            rw [hwO] at hI3
            have H3 := Lib.hid hI3
            have HW1 := Lib.hid hwB
            have HW2 := Lib.hid hwO
            clear hI2 hI3
            go_upto_region 15 with fail
            clear c0 c1 c2 c3 c4 cl e0 e1 e2 e3 e4 el t1 tl u1 ul p1 pf pl o1 of_ ol
            have c0 := H3.out.net.cell_at (i := 0) rfl
            have c1 := H3.out.net.cell_at (i := 1) rfl
            have c2 := H3.out.net.cell_at (i := 2) rfl
            have c3 := H3.out.net.cell_at (i := 3) rfl
            have c4 := H3.out.net.cell_at (i := 4) rfl
            have cl := H3.out.net.lt
            have t1 := (H3.out.low.cells tb (to_ + i) htb).trans ht1
            have tl : tb < wO.heap.size := by have := H3.out.low.size; omega
            have u1 := (H3.out.low.cells ub (uo + i) hub).trans hu1
            have ul : ub < wO.heap.size := by have := H3.out.low.size; omega
            have v1 := (H3.out.low.cells sb (so + b * 3) hsb).trans hq1
            have v2 := (H3.out.low.cells sb (so + (b + 1) * 3) hsb).trans hq2
            have vl : sb < wO.heap.size := by have := H3.out.low.size; omega
            have hx1 : (0 : Int) ≤ (b : Int) + 1 := by omega
            have hx2 : (b : Int) + 1 < (L : Int) := by omega
            refine wp_region_hav_lit follows (by kernel_rfl) ?_
            iterate 11 (first
              | (refine HavG.skip (fun _ => rfl) ?_; simp only [Act.put, List.setIfInBounds_toArray, List.set_cons_zero, List.set_cons_succ])
              | (refine HavG.val (fun _ => rfl) ?_ (fun x w hw _ => ?_) ?_; rotate_left; (focus (have hc := hw.cells; clear hw; go_simp; first | done | rfl)); simp only [Act.put, List.setIfInBounds_toArray, List.set_cons_zero, List.set_cons_succ]))
            refine HavG.det (fun _ => rfl) (.bool true) (fun x w hw hd => ?_) ?_
            · clear hd
              have HW := Lib.hid (H3.out.low.trans hw)
              have hk := HLK.out w HW.out
              have hc : ((b + 1 : Nat) : Int) = (b : Int) + 1 := by omega
              rw [HLL.out, HJ1.out, HJ2.out, HJ3.out, hc] at hk
              have HK := Lib.hid hk
              clear hw c0 c1 c2 c3 c4 cl t1 tl u1 ul v1 v2 vl hk hc
              go_simp
              refine HK.out.mono ?_
              rintro e w' ⟨rfl, hg⟩
              exact ⟨rfl, hg⟩
            simp only [Act.put, List.setIfInBounds_toArray, List.set_cons_zero, List.set_cons_succ]
            repeat (first
              | (refine HavG.skip (fun _ => rfl) ?_; simp only [Act.put, List.setIfInBounds_toArray, List.set_cons_zero, List.set_cons_succ])
              | (refine HavG.val (fun _ => rfl) ?_ (fun x w hw _ => ?_) ?_; rotate_left; (focus (have hc := hw.cells; clear hw; go_simp; first | done | rfl)); simp only [Act.put, List.setIfInBounds_toArray, List.set_cons_zero, List.set_cons_succ]))
            refine HavG.tail (by kernel_rfl) (by kernel_rfl) (fun x w hw _ => ?_)
            have HI4 := Lib.hid (H3.out.grew hw)
            clear hw c0 c1 c2 c3 c4 cl t1 tl u1 ul v1 v2 vl
            go_wp2_with fail
            exact ⟨⟨i + 1, O.set (b + 1) true, B.set b true, by go_num, by omega, by simpa using hO, by simpa using hB, HBB.out.put (by omega) (upto_step HS1.out), HOO.out.put (by omega) (upto_step HS2.out), HI4⟩, by simp [intOf]; omega⟩
          · have hij : J = i := by omega
            subst hij
            have hbm := HBB.out.congr (fun q => (upto_all HJ1.out q).symm)
            have hom := HOO.out.congr (fun q => (upto_all HJ2.out q).symm)
            have HB1 := Lib.hid hbm
            have HO1 := Lib.hid hom
            clear hbm hom HBB HOO
            go_wp2_with fail
            clear c0 c1 c2 c3 c4 cl
            go_loopw [8] (fun v wr => ∃ (i : Nat) (O B : List Bool), v = .int .i64 i ∧ i ≤ J3 ∧ O.length = L ∧ B.length = L ∧ Hid (MarkIs B fun q => (q : Int) ∈ N.starts ∨ ∃ k < i, N.preds[k]? = some (q : Int)) ∧ Hid (MarkIs O fun q => (q : Int) ∈ N.stops ∨ ∃ p : Nat, (∃ k < i, N.preds[k]? = some (p : Int)) ∧ q = p + 1) ∧ Hid (TwoAt w4 nb ob pb [.slice na L nc, .slice ta J tc, .slice ua J uc, .slice pa J3 pc, .slice da N.decisions.length dc] O B wr)) (fun v _ => J3 - (intOf v).toNat)
            case atStart =>
              exact ⟨0, O, B, rfl, Nat.zero_le _, hO, hB, HB1.out.congr (fun q => ⟨fun h => h.elim id (fun ⟨k, hk, _⟩ => absurd hk (Nat.not_lt_zero _)), .inl⟩), HO1.out.congr (fun q => ⟨fun h => h.elim id (fun ⟨p, ⟨k, hk, _⟩, _⟩ => absurd hk (Nat.not_lt_zero _)), .inl⟩), HI⟩
            case round =>
              clear HB1 HO1 HI hO hB O B
              obtain ⟨i, O, B, rfl, hi, hO, hB, HBB, HOO, HI⟩ := hrel
              have c0 := HI.out.net.cell_at (i := 0) rfl
              have c1 := HI.out.net.cell_at (i := 1) rfl
              have c2 := HI.out.net.cell_at (i := 2) rfl
              have c3 := HI.out.net.cell_at (i := 3) rfl
              have c4 := HI.out.net.cell_at (i := 4) rfl
              have cl := HI.out.net.lt
              by_cases hlt : i < J3
              · obtain ⟨b, bm, s1⟩ := HN.out.pp (N.preds[i]'(by rw [HJ3.out]; exact hlt)) (List.getElem_mem _)
                have hbl := (HN.out.path b bm).1
                have hmL : m.len = L := by rw [← HLL.out, HN.out.sees.states]; rfl
                obtain ⟨tb, to_, rfl, htb, ht1⟩ := HPA.out i (by rw [HJ3.out]; exact hlt)
                have HS1 := Lib.hid (show N.preds[i]? = some (b : Int) by rw [List.getElem?_eq_getElem (by rw [HJ3.out]; exact hlt), s1])
                rw [s1] at ht1
                have HLK := Lib.hid (fun w (hg : Grew w4 w) => leads_ok m N HN.out.sees w _ _ _ _ _ ((HNE.out.keep hg).mono hg.size) b (b + 1) (by omega) hbl (HN.out.path b bm).2)
                have hI2 := HI.out.putB b
                have hI3 := hI2.putO (b + 1)
                have hbL : b < L := by omega
                have hb1L : b + 1 < L := by omega
                have t1 := (HI.out.low.cells tb (to_ + i) htb).trans ht1
                have tl : tb < wr.heap.size := by have := HI.out.low.size; omega
                have p1 := HI.out.begins.cell_at (bcs_get (k := b) (by omega))
                have pf := HI.out.begins.free b
                have pl := HI.out.begins.lt
                obtain ⟨wB, hwB⟩ : ∃ wB, wr.setCell ⟨pb, b, none⟩ (.bool true) = wB := ⟨_, rfl⟩
                rw [hwB] at hI2 hI3
                have e0 := hI2.net.cell_at (i := 0) rfl
                have e1 := hI2.net.cell_at (i := 1) rfl
                have e2 := hI2.net.cell_at (i := 2) rfl
                have e3 := hI2.net.cell_at (i := 3) rfl
                have e4 := hI2.net.cell_at (i := 4) rfl
                have el := hI2.net.lt
                have u1 := (hI2.low.cells tb (to_ + i) htb).trans ht1
                have ul : tb < wB.heap.size := by have := hI2.low.size; omega
                have o1 := hI2.over.cell_at (bcs_get (k := b + 1) (by omega))
                have of_ := hI2.over.free (b + 1)
                have ol := hI2.over.lt
                obtain ⟨wO, hwO⟩ : ∃ wO, wB.setCell ⟨ob, b + 1, none⟩ (.bool true) = wO := ⟨_, rfl⟩
                rw [hwO] at hI3
                have H3 := Lib.hid hI3
                have HW1 := Lib.hid hwB
                have HW2 := Lib.hid hwO
                have hx1 : (0 : Int) ≤ (b : Int) + 1 := by omega
                have hx2 : (b : Int) + 1 < (L : Int) := by omega
                clear hI2 hI3
                go_upto_region 22 with fail
                clear c0 c1 c2 c3 c4 cl e0 e1 e2 e3 e4 el t1 tl u1 ul p1 pf pl o1 of_ ol
                have c0 := H3.out.net.cell_at (i := 0) rfl
                have c1 := H3.out.net.cell_at (i := 1) rfl
                have c2 := H3.out.net.cell_at (i := 2) rfl
                have c3 := H3.out.net.cell_at (i := 3) rfl
                have c4 := H3.out.net.cell_at (i := 4) rfl
                have cl := H3.out.net.lt
                have t1 := (H3.out.low.cells tb (to_ + i) htb).trans ht1
                have tl : tb < wO.heap.size := by have := H3.out.low.size; omega
                have hwr : IntKind.i64.wrap ((b : Int) + 1) = (b : Int) + 1 := by rw [IntKind.wrap_i64]; omega
                refine wp_region_hav_lit follows (by kernel_rfl) ?_
                iterate 12 (first
                  | (refine HavG.skip (fun _ => rfl) ?_; simp only [Act.put, List.setIfInBounds_toArray, List.set_cons_zero, List.set_cons_succ])
                  | (refine HavG.val (fun _ => rfl) ?_ (fun x w hw _ => ?_) ?_; rotate_left; (focus (have hc := hw.cells; clear hw; go_simp; first | done | rfl)); simp only [Act.put, List.setIfInBounds_toArray, List.set_cons_zero, List.set_cons_succ]))
                refine HavG.det (fun _ => rfl) (.bool true) (fun x w hw hd => ?_) ?_
                · clear hd
                  have HW := Lib.hid (H3.out.low.trans hw)
                  have hk := HLK.out w HW.out
                  have hc : ((b + 1 : Nat) : Int) = (b : Int) + 1 := by omega
                  rw [HLL.out, HJ1.out, HJ2.out, HJ3.out, hc] at hk
                  have HK := Lib.hid hk
                  clear hw c0 c1 c2 c3 c4 cl t1 tl hk hc
                  go_simp
                  refine HK.out.mono ?_
                  rintro e w' ⟨rfl, hg⟩
                  exact ⟨rfl, hg⟩
                simp only [Act.put, List.setIfInBounds_toArray, List.set_cons_zero, List.set_cons_succ]
                repeat (first
                  | (refine HavG.skip (fun _ => rfl) ?_; simp only [Act.put, List.setIfInBounds_toArray, List.set_cons_zero, List.set_cons_succ])
                  | (refine HavG.val (fun _ => rfl) ?_ (fun x w hw _ => ?_) ?_; rotate_left; (focus (have hc := hw.cells; clear hw; go_simp; first | done | rfl)); simp only [Act.put, List.setIfInBounds_toArray, List.set_cons_zero, List.set_cons_succ]))
                refine HavG.tail (by kernel_rfl) (by kernel_rfl) (fun x w hw _ => ?_)
                have HI4 := Lib.hid (H3.out.grew hw)
                clear hw c0 c1 c2 c3 c4 cl t1 tl
                go_wp2_with fail
                exact ⟨⟨i + 1, O.set (b + 1) true, B.set b true, by go_num, by omega, by simpa using hO, by simpa using hB, HBB.out.put (by omega) (fun q => by rw [upto_step HS1.out q, or_assoc]), HOO.out.put (by omega) (fun q => by
                  constructor
                  · rintro (h | ⟨p, hp, rfl⟩)
                    · exact .inl (.inl h)
                    · rcases (upto_step HS1.out p).1 hp with h | rfl
                      · exact .inl (.inr ⟨p, h, rfl⟩)
                      · exact .inr rfl
                  · rintro ((h | ⟨p, hp, rfl⟩) | rfl)
                    · exact .inl h
                    · exact .inr ⟨p, (upto_step HS1.out p).2 (.inl hp), rfl⟩
                    · exact .inr ⟨b, (upto_step HS1.out b).2 (.inr rfl), rfl⟩), HI4⟩, by simp [intOf]; omega⟩
              · have hij : J3 = i := by omega
                subst hij
                have hbm := HBB.out.congr (P' := fun q => q ∈ bs) (fun q => by rw [← HN.out.begins_iff q]; simp only [upto_all HJ3.out])
                have hom := HOO.out.congr (P' := fun q => ∃ b ∈ bs, q = b + 1) (fun q => by rw [← HN.out.over_iff q]; simp only [upto_all HJ3.out])
                have HB1 := Lib.hid hbm
                have HO1 := Lib.hid hom
                clear hbm hom HBB HOO
                go_wp2_with fail
                clear c0 c1 c2 c3 c4 cl
                obtain ⟨wu, hwu⟩ : ∃ wu : World, wu = wr := ⟨_, rfl⟩
                rw [← hwu] at HI
                have HGO := Lib.hid (show Grew wu wr by rw [hwu]; exact Grew.refl wr)
                have hsz := HI.out.net.lt
                clear hwu
                go_loopw [9] (fun v wr => ∃ (i : Nat), v = .int .i64 i ∧ i ≤ L ∧ Hid (Grew wu wr)) (fun v _ => L - (intOf v).toNat)
                case atStart => exact ⟨0, rfl, Nat.zero_le _, HGO⟩
                case round =>
                  clear HGO
                  obtain ⟨i, rfl, hi, HG⟩ := hrel
                  have HI2 := Lib.hid (HI.out.grew HG.out)
                  have c0 := HI2.out.net.cell_at (i := 0) rfl
                  have c1 := HI2.out.net.cell_at (i := 1) rfl
                  have c2 := HI2.out.net.cell_at (i := 2) rfl
                  have c3 := HI2.out.net.cell_at (i := 3) rfl
                  have c4 := HI2.out.net.cell_at (i := 4) rfl
                  have cl := HI2.out.net.lt
                  by_cases hlt : i < L
                  · have hiN : i < N.states.length := by rw [HLL.out]; exact hlt
                    obtain ⟨sb, so, rfl, hsb, q1, ⟨ea, ec, q2, q3⟩, ⟨da', dc', q4, -⟩⟩ := HNA.out i hiN
                    have hmL : m.len = L := by rw [← HLL.out, HN.out.sees.states]; rfl
                    have hst : N.states[i] = m.st i := by
                      have h2 : i < m.N.states.length := by rw [← HN.out.sees.states]; exact hiN
                      rw [st_get h2]
                      simp only [HN.out.sees.states]
                    have HSO := Lib.hid (HN.out.over i (by omega))
                    have HFW := Lib.hid (HN.out.fwd i (by omega))
                    have hnf := HN.out.sees.edges i (by omega)
                    rw [hst] at q1 q2 q3 q4
                    obtain ⟨n, hn⟩ : ∃ n, (m.st i).edges.length = n := ⟨_, rfl⟩
                    obtain ⟨R, hR⟩ : ∃ R, (m.st i).rule = R := ⟨_, rfl⟩
                    rw [hn] at q2 hnf
                    rw [hR] at q1
                    have hoi : O.getD i false = ((n : Int) == 0) := by
                      have h1 : O.getD i false = true ↔ (m.st i).edges = [] := (HO1.out i).trans HSO.out.symm
                      by_cases h0 : n = 0
                      · rw [h0]
                        exact h1.2 (List.length_eq_zero_iff.1 (by omega))
                      · rw [show ((n : Int) == 0) = false from beq_false_of_ne (by omega)]
                        cases hq : O.getD i false with
                        | false => rfl
                        | true =>
                          have h3 := h1.1 hq
                          rw [h3] at hn
                          exact absurd hn.symm h0
                    have HE3 := Lib.hid q3
                    have HEN := Lib.hid hn
                    have HRR := Lib.hid hR
                    have HSB := Lib.hid hsb
                    have k1 := (HI2.out.low.cell (p := ⟨sb, so + i * 3, none⟩) hsb).trans q1
                    have k2 := (HI2.out.low.cell (p := ⟨sb, so + i * 3 + 1, none⟩) hsb).trans q2
                    have k3 := (HI2.out.low.cell (p := ⟨sb, so + i * 3 + 2, none⟩) hsb).trans q4
                    have kl : sb < wr.heap.size := by have := HI2.out.low.size; omega
                    have o1 := HI2.out.over.cell_at (bcs_get (k := i) (by omega))
                    have ol := HI2.out.over.lt
                    rw [hoi] at o1
                    clear q1 q2 q3 q4 hst hn hR hsb
                    have ga := grew_alloc wr (.cells #[.int .i64 R, .slice ea n ec, .slice da' (m.st i).ends.length dc'] 41)
                    have oa := Owns.alloc wr [.int .i64 R, .slice ea n ec, .slice da' (m.st i).ends.length dc'] 41
                    have HI3 := Lib.hid (HI2.out.grew ga)
                    have HG3 := Lib.hid (HG.out.trans ga)
                    obtain ⟨wa, hwa⟩ : ∃ wa, wr.alloc (.cells #[.int .i64 R, .slice ea n ec, .slice da' (m.st i).ends.length dc'] 41) = wa := ⟨_, rfl⟩
                    obtain ⟨sx, hsx⟩ : ∃ sx, wr.heap.size = sx := ⟨_, rfl⟩
                    rw [hwa] at ga oa HI3 HG3
                    rw [hsx] at oa
                    have HWA := Lib.hid hwa
                    have HSX := Lib.hid hsx
                    have HOA := Lib.hid oa
                    clear hwa hsx ga oa
                    go_upto_region 28 with fail
                    rw [HWA.out, HSX.out]
                    clear c0 c1 c2 c3 c4 cl k1 k2 k3 kl o1 ol
                    have k1 := HOA.out.cell_at (i := 0) rfl
                    have k2 := HOA.out.cell_at (i := 1) rfl
                    have kl := HOA.out.lt
                    have o1 := HI3.out.over.cell_at (bcs_get (k := i) (by omega))
                    have ol := HI3.out.over.lt
                    rw [hoi] at o1
                    refine wp_region_hav_lit follows (by kernel_rfl) ?_
                    repeat (first
                      | (refine HavG.skip (fun _ => rfl) ?_; simp only [Act.put, List.setIfInBounds_toArray, List.set_cons_zero, List.set_cons_succ])
                      | (refine HavG.val (fun _ => rfl) ?_ (fun x w hw _ => ?_) ?_; rotate_left; (focus (have hc := hw.cells; clear hw; go_simp; first | done | rfl)); simp only [Act.put, List.setIfInBounds_toArray, List.set_cons_zero, List.set_cons_succ]))
                    refine HavG.tail (by kernel_rfl) (by kernel_rfl) (fun x w hw _ => ?_)
                    have HG4 := Lib.hid (HG3.out.trans hw)
                    have HI4 := Lib.hid (HI3.out.grew hw)
                    have HO4 := Lib.hid (HOA.out.keep hw)
                    clear hw k1 k2 kl o1 ol hoi
                    go_wp2_with fail
                    go_loopw [11] (fun v wr => ∃ (k : Nat), v = .int .i64 k ∧ k ≤ n ∧ Hid (Grew w wr)) (fun v _ => n - (intOf v).toNat)
                    case atStart => exact ⟨0, rfl, Nat.zero_le _, Grew.refl w⟩
                    case round =>
                      obtain ⟨k, rfl, hk, HG⟩ := hrel
                      have HG5 := Lib.hid (HG4.out.trans HG.out)
                      have HI5 := Lib.hid (HI4.out.grew HG.out)
                      have HO5 := Lib.hid (HO4.out.keep HG.out)
                      have c0 := HI5.out.net.cell_at (i := 0) rfl
                      have c1 := HI5.out.net.cell_at (i := 1) rfl
                      have c2 := HI5.out.net.cell_at (i := 2) rfl
                      have c3 := HI5.out.net.cell_at (i := 3) rfl
                      have c4 := HI5.out.net.cell_at (i := 4) rfl
                      have cl := HI5.out.net.lt
                      have k1 := HO5.out.cell_at (i := 0) rfl
                      have k2 := HO5.out.cell_at (i := 1) rfl
                      have kl := HO5.out.lt
                      by_cases hkn : k < n
                      · obtain ⟨eb, eoff, rfl, heb, -, -, q3⟩ := HE3.out k (by rw [HEN.out]; exact hkn)
                        have hebl : eb < wr.heap.size := by have := HI5.out.low.size; omega
                        have e2 := (HI5.out.low.cell (p := ⟨eb, eoff + k * 3 + 2, none⟩) heb).trans q3
                        obtain ⟨j, hj, hjl, hjr, hjb⟩ := HFW.out _ (List.getElem_mem (by rw [HEN.out]; exact hkn : k < (m.st i).edges.length))
                        rw [hj] at e2
                        have hjl : j < L := by omega
                        obtain ⟨sb2, so2, hna2, hsb2, hq2, -⟩ := HNA.out j (by rw [HLL.out]; omega)
                        simp only [Option.some.injEq, Addr.mk.injEq, and_true] at hna2
                        obtain ⟨rfl, rfl⟩ := hna2
                        have hst : N.states[j]'(by rw [HLL.out]; exact hjl) = m.st j := by
                          have h2 : j < m.N.states.length := by rw [← HN.out.sees.states, HLL.out]; exact hjl
                          rw [st_get h2]
                          simp only [HN.out.sees.states]
                        rw [hst, hjr, HRR.out] at hq2
                        have e3 := (HI5.out.low.cell (p := ⟨sb, so + j * 3, none⟩) hsb2).trans hq2
                        have el : sb < wr.heap.size := by have := HI5.out.low.size; omega
                        have hbf : B.getD j false = false := by
                          cases hq : B.getD j false with
                          | false => rfl
                          | true => exact absurd ((HB1.out j).1 hq) hjb
                        have m1 := HI5.out.begins.cell_at (bcs_get (k := j) (by omega))
                        have ml := HI5.out.begins.lt
                        rw [hbf] at m1
                        clear q3 hj hst hq2 hjr hjb hbf
                        go_upto_region 33 with fail
                        refine wp_region_hav_lit follows (by kernel_rfl) ?_
                        repeat (first
                          | (refine HavG.skip (fun _ => rfl) ?_; simp only [Act.put, List.setIfInBounds_toArray, List.set_cons_zero, List.set_cons_succ])
                          | (refine HavG.val (fun _ => rfl) ?_ (fun x w hw _ => ?_) ?_; rotate_left; (focus (have hc := hw.cells; clear hw; go_simp; first | done | rfl)); simp only [Act.put, List.setIfInBounds_toArray, List.set_cons_zero, List.set_cons_succ]))
                        refine HavG.tail (by kernel_rfl) (by kernel_rfl) (fun x w hw _ => ?_)
                        have HG6 := Lib.hid (HG.out.trans hw)
                        clear hw c0 c1 c2 c3 c4 cl k1 k2 kl e2 e3 el m1 ml
                        go_wp2_with fail
                        exact ⟨⟨k + 1, by go_num, by omega, HG6⟩, by simp [intOf]; omega⟩
                      · go_wp2_with fail
                        exact ⟨⟨i + 1, by go_num, by omega, HG5⟩, by simp [intOf]; omega⟩
                  · go_wp2_with fail
                    have HWL := Lib.hid (HW4.out.trans HI2.out.low)
                    refine (HL.out _).mono ?_
                    rintro e w9 ⟨rfl, hb9⟩
                    have HW9 := Lib.hid (HWL.out.trans hb9)
                    clear hb9
                    go_wp2_with fail
                    go_ret
                    exact ⟨rfl, HW9.out⟩
      · simp only [Array.mk.injEq, List.cons.injEq, and_true] at hnil
        obtain ⟨rfl, rfl, rfl, rfl, rfl⟩ := hnil
        have HW4 := Lib.hid (HW3.out.trans hg4)
        have g5 := grew_alloc w4 (.cells #[.slice none 0 0, .slice none 0 0, .slice none 0 0, .slice none 0 0, .slice none 0 0] 32)
        have HG5 := Lib.hid (HW4.out.trans g5)
        clear g5 hg4
        rcases hk with rfl | rfl
        all_goals
          go_wp2_with fail
          refine (HL.out _).mono ?_
          rintro e w5 ⟨rfl, hb5⟩
          have HW5 := Lib.hid (HG5.out.trans hb5)
          clear hb5
          go_wp2_with fail
          go_ret
          exact ⟨rfl, HW5.out⟩
end Go.Proofs.YtiiffcmojkdlaaaGreatDoor
