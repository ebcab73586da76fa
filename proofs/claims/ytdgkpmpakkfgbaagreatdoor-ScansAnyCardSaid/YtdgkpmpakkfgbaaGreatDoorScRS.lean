/- The document's Scan. -/
import Derived.Test.YtdgkpmpakkfgbaaGreatDoorScRw
import Derived.Test.YtdgkpmpakkfgbaaGreatDoorScRf3
import Derived.Deep.CutBlock
import Derived.Deep.DeepCutAuto
namespace Go.Proofs.YtdgkpmpakkfgbaaGreatDoor
open Go.RowKit

theorem tmp2_cell {fn : Func} {P : Program} {p u v : Tmp} {ty : TypeId} (h : fn.results = #[.tmp u, .tmp v, .cell p ty]) (tmps : Array Value) (w : World) (g : Nat) (t : TypeId) (cs : Array Value) (fr : Nat × Nat) (d : TypeDesc)
    (hp : tmps.getD p undef = .pointer (some ⟨g, 0, none⟩)) (hg : w.heap[g]? = some (.cells cs t fr)) (hu : P.underlying ty = some d) (hd : (match d with | .struct _ | .array _ _ => true | _ => false) = true) (hi : (P.info? ty).map (·.size) = some cs.size) :
    (results fn tmps).run P w = .ok (.tuple #[tmps.getD u undef, tmps.getD v undef, .agg cs]) w := by
  have hp' : tmps[p]?.getD undef = .pointer (some ⟨g, 0, none⟩) := by simpa using hp
  simp [results, h, hp', asAddr, run_loadVar_row w g t ty cs fr d hg hu hd hi]
theorem slice_at (s : ByteArray) (q m : Nat) (j : Int) (V : World) (hj : j = (m : Nat)) (hq : q ≤ m) (hm : m ≤ s.size) : (Instr.slice 9 (.string s) (some (.int .i64 (q : Nat))) (some (.int .i64 j)) none).run Tryz.prog V = .ok (.string (s.extract q m)) V := by
  subst hj
  rw [run_slice_string V 9 s .i64 .i64 (q : Int) (m : Int) (by kernel_rfl) (by omega) (by omega) (by omega)]
  rfl
/-- a place, as three numbers -/
def posC (l : List UInt8) (q : Nat) : List Value := [.int .i64 (q : Nat), .int .i64 ((placeOf (l.take q) 1 1).1 : Nat), .int .i64 ((placeOf (l.take q) 1 1).2 : Nat)]
/-- three stores -/
def setThree (w : World) (b : Nat) (x y z : Value) : World := ((w.setCell ⟨b, 0, none⟩ x).setCell ⟨b, 1, none⟩ y).setCell ⟨b, 2, none⟩ z
theorem owns_three {w : World} {b T : Nat} {a0 a1 a2 : Value} (h : Owns w b [a0, a1, a2] T) (x y z : Value) : Owns (setThree w b x y z) b [x, y, z] T := ((h.set 0 x).set 1 y).set 2 z
theorem below_three {B : Nat} {w0 w : World} (h : Below B w0 w) {b : Nat} (hb : B ≤ b) (x y z : Value) : Below B w0 (setThree w b x y z) :=
  ((h.setCell (p := ⟨b, 0, none⟩) hb x).setCell (p := ⟨b, 1, none⟩) hb y).setCell (p := ⟨b, 2, none⟩) hb z

/-- what stands in the word's box behind the switch -/
def WordNow (l : List UInt8) (nb base q : Nat) (w : Wd) (q' f : Nat) (w3 : World) (v : Value) (wx : World) : Prop :=
  Upd nb w3 wx ∧ ((f = 0 ∧ v = .int .i64 (q' : Nat) ∧ ∃ (t : ByteArray) (sv : Value), t.data.toList = w.text ∧ (∃ a n c, sv = .slice a n c) ∧ RangesV wx base sv w.set ∧ Owns wx nb (.int .i64 (w.kind : Nat) :: .string t :: sv :: posC l q) 54) ∨
    (f = 4 ∧ v = .int .i64 (-1) ∧ ∃ a0 a1 a2 : Value, Owns wx nb (a0 :: a1 :: a2 :: posC l q) 54))

/-- what the document's scan answers -/
def RScanIs (W : World) (l : List UInt8) (o : List Wd × Nat × Nat) (r : Ending) (W' : World) : Prop :=
  Below W.heap.size W W' ∧ (o.2.2 ≠ 0 → r = .returned (.tuple #[.slice none 0 0, .int .i64 (o.2.2 : Nat), .agg #[.int .i64 (o.2.1 : Nat), .int .i64 ((placeOf (l.take o.2.1) 1 1).1 : Nat), .int .i64 ((placeOf (l.take o.2.1) 1 1).2 : Nat)]])) ∧
    (o.2.2 = 0 → ∃ v, r = .returned (.tuple #[v, .int .i64 0, .agg #[.int .i64 0, .int .i64 0, .int .i64 0]]) ∧ RWordsV W' W.heap.size l v o.1 ∧ (∃ a c, v = .slice a o.1.length c))

set_option maxHeartbeats 8000000 in
set_option maxRecDepth 20000 in
theorem r2scan_ok (s : ByteArray) (W : World) (hs : s.size ≤ 65536) :
    Calls Tryz.prog 6 #[.string s] W (RScanIs W s.data.toList (scanF s.data.toList)) := by
  have hB := fun w => refBad_ok s w hs
  have hbge := bad_ge s
  rw [bad_L] at hbge
  have hLs : s.data.toList.length = s.size := (Lib.size_eq s).symm
  obtain ⟨o, ho⟩ : ∃ o, scanF s.data.toList = o := ⟨_, rfl⟩
  rw [ho]
  unfold scanF at ho
  rw [if_neg (by omega)] at ho
  have HO := Lib.hid ho
  obtain ⟨b, hbad⟩ : ∃ b, badOf s.data.toList 0 = b := ⟨_, rfl⟩
  have HBAD := Lib.hid hbad
  rw [hbad] at hB hbge ho HO
  have HB := Lib.hid hB
  clear hB ho hbad
  go_enter Tryz.func6, Tryz.ntmps6
  go_wp2_with fail
  refine (HB.out _).mono ?_
  rintro e w1 ⟨rfl, hg1⟩
  have G1 := Lib.hid hg1
  clear hg1 HB
  obtain ⟨w0, hw0⟩ : ∃ w0, W.alloc (.cells #[.int .i64 0, .int .i64 0, .int .i64 0] 26) = w0 := ⟨_, rfl⟩
  have g0 : Grew W w0 := hw0 ▸ grew_alloc W _
  have o0 : Owns w0 W.heap.size [.int .i64 0, .int .i64 0, .int .i64 0] 26 := hw0 ▸ Owns.alloc W _ _
  have hz0 : w0.heap.size = W.heap.size + 1 := by rw [← hw0]; simp
  rw [hw0] at G1
  have hz1 := G1.out.size
  have F1 := Lib.hid (o0.keep G1.out)
  have B1 := Lib.hid (g0.trans G1.out)
  clear hw0 g0 o0 G1
  by_cases hb0 : 0 ≤ b
  · obtain ⟨q, rfl⟩ := Int.eq_ofNat_of_zero_le hb0
    have hq : q ≤ s.size := by
      have := badL_lt s.data.toList.length s.data.toList 0
      have hbo := HBAD.out
      unfold badOf at hbo
      rw [hbo] at this
      omega
    have ho := HO.out
    rw [if_pos hb0, Int.toNat_natCast] at ho
    subst ho
    have HP := Lib.hid (fun w => refPlace_ok s q w hs hq)
    clear HO HBAD
    go_wp2_with fail
    refine (HP.out _).mono ?_
    rintro e w2 ⟨rfl, hg2⟩
    have F2 := F1.out.keep hg2
    have f0 := F2.cell_at (i := 0) rfl
    have f1 := F2.cell_at (i := 1) rfl
    have f2 := F2.cell_at (i := 2) rfl
    have ff := F2.free
    have F3 : Hid (Owns (((w2.setCell ⟨W.heap.size, 0, none⟩ (.int .i64 (q : Nat))).setCell ⟨W.heap.size, 1, none⟩ (.int .i64 ((placeOf (s.data.toList.take q) 1 1).1 : Nat))).setCell ⟨W.heap.size, 2, none⟩ (.int .i64 ((placeOf (s.data.toList.take q) 1 1).2 : Nat))) W.heap.size (posC s.data.toList q) 26) := owns_three F2 _ _ _
    have B3 : Hid (Below W.heap.size W (((w2.setCell ⟨W.heap.size, 0, none⟩ (.int .i64 (q : Nat))).setCell ⟨W.heap.size, 1, none⟩ (.int .i64 ((placeOf (s.data.toList.take q) 1 1).1 : Nat))).setCell ⟨W.heap.size, 2, none⟩ (.int .i64 ((placeOf (s.data.toList.take q) 1 1).2 : Nat)))) := below_three (Below.trans B1.out (hg2.mono (by omega))) (Nat.le_refl _) _ _ _
    clear hg2 F2
    go_wp2_with fail
    refine bodyPost_ret (tmp2_cell (d := Tryz.prog.underlying 26 |>.getD default) rfl _ _ W.heap.size 26 _ (0, 0) rfl F3.out rfl rfl rfl) rfl ?_
    exact ⟨B3.out, fun _ => rfl, fun h => absurd h (by simp)⟩
  · have ho := HO.out
    rw [if_neg hb0] at ho
    have HO2 := Lib.hid ho
    have hb1 : b < 0 := by omega
    clear HO HBAD ho hb0
    go_wp2_with fail
    go_loopw [6, 7] (fun vo vp wr => ∃ (p k : Nat) (acc : List Wd), vp = .int .i64 p ∧ p ≤ s.size ∧ s.size < p + k ∧ acc.length ≤ p ∧ Hid (RWordsV wr (W.heap.size + 1) s.data.toList vo acc) ∧ Hid (wordsF s.data.toList k p acc = o) ∧ Hid (Below W.heap.size W wr) ∧ Hid (Owns wr W.heap.size [.int .i64 0, .int .i64 0, .int .i64 0] 26)) (fun _ vp _ => s.size + 1 - (intOf vp).toNat)
    case atStart => exact ⟨0, s.data.toList.length + 1, [], rfl, Nat.zero_le _, by omega, Nat.zero_le _, ⟨[], ⟨rfl, .inl ⟨rfl, rfl⟩⟩, rfl⟩, HO2, B1, F1⟩
    case round =>
      obtain ⟨p, k, acc, rfl, hp, hk, hac, HV, HF, HB, HC⟩ := hrel
      clear HO2 B1 F1
      obtain ⟨k, rfl⟩ : ∃ k', k = k' + 1 := ⟨k - 1, by omega⟩
      have hgap := gapF_le s.data.toList (s.size + 1) p (by omega)
      have hG := fun w => r2gap_ok s p w hs hp
      have hf := HF.out
      rw [wordsF_G, hLs] at hf
      obtain ⟨g, hg⟩ : ∃ g, gapF s.data.toList (s.size + 1) p = g := ⟨_, rfl⟩
      rw [hg] at hf hgap hG
      obtain ⟨q, e⟩ := g
      simp only at hf hgap
      rw [hLs] at hgap
      obtain ⟨hg1, hg2, hg3⟩ := hgap
      have hBs := HB.out.size
      have hCl := HC.out.lt
      unfold gapZ at hG
      simp only at hG
      by_cases he : e = 0
      · subst he
        rw [if_neg (by simp)] at hf
        rw [if_pos rfl] at hG
        have HF2 := Lib.hid hf
        have HG := Lib.hid hG
        have n0 : ¬ ((q : Int) < 0) := by omega
        clear hf hG hg HF hg3
        by_cases hq : q < s.size
        · go_wp2_with fail
          refine (HG.out _).mono ?_
          rintro e w ⟨rfl, rfl⟩
          have HP := Lib.hid (fun w => refPlace_ok s q w hs hg2)
          go_wp2_with fail
          refine (HP.out _).mono ?_
          rintro e w2 ⟨rfl, hb2⟩
          have HC2 := Lib.hid (HC.out.below hb2 (by omega))
          have HV2 : Hid (RWordsV w2 (W.heap.size + 1) s.data.toList u6 acc) := HV.out.grew hb2
          have HB2 := Lib.hid (Below.trans HB.out (hb2.mono (by omega)))
          have hz2 := hb2.size
          clear hb2 HC HV HB HP HG
          have hg3 := grew_alloc w2 (.cells #[.int .i64 0, .string { data := #[] }, .slice none 0 0, .int .i64 (q : Nat), .int .i64 ((placeOf (s.data.toList.take q) 1 1).1 : Nat), .int .i64 ((placeOf (s.data.toList.take q) 1 1).2 : Nat)] 54)
          have hO3 : Owns _ w2.heap.size (.int .i64 0 :: .string { data := #[] } :: .slice none 0 0 :: posC s.data.toList q) 54 := Owns.alloc w2 [.int .i64 0, .string { data := #[] }, .slice none 0 0, .int .i64 (q : Nat), .int .i64 ((placeOf (s.data.toList.take q) 1 1).1 : Nat), .int .i64 ((placeOf (s.data.toList.take q) 1 1).2 : Nat)] 54
          go_upto_region 15 with fail
          generalize w2.alloc (.cells #[.int .i64 0, .string { data := #[] }, .slice none 0 0, .int .i64 (q : Nat), .int .i64 ((placeOf (s.data.toList.take q) 1 1).1 : Nat), .int .i64 ((placeOf (s.data.toList.take q) 1 1).2 : Nat)] 54) = w3 at *
          obtain ⟨nb, hnb⟩ : ∃ x, w2.heap.size = x := ⟨_, rfl⟩
          rw [hnb] at hO3 hz2 ⊢
          have hO3l := hO3.lt
          have O3 := Lib.hid hO3
          have HC3 := Lib.hid (HC2.out.keep hg3)
          have HG3 : Hid (Below w2.heap.size w2 w3) := hg3
          have HB3 := Lib.hid (Below.trans HB2.out (hg3.mono (by omega)))
          obtain ⟨c, hc⟩ : ∃ c, s[q] = c := ⟨_, rfl⟩
          have hcd : (s.data.toList.drop q).getD 0 0 = c := by
            rw [← hc, List.getD_eq_getElem?_getD, List.getElem?_drop, Nat.add_zero, List.getElem?_eq_getElem (by omega)]
            rfl
          have HCD := Lib.hid hcd
          have HNB := Lib.hid hnb
          clear hg3 hO3 HC2 HB2 hcd hnb
          have hwo := wordF_ok s.data.toList q (by omega)
          obtain ⟨wd, hwd⟩ : ∃ wd, wordF s.data.toList q = wd := ⟨_, rfl⟩
          have hh := HF2.out
          unfold wordsG at hh
          rw [if_neg (by omega)] at hh
          rw [hwd] at hh hwo
          have HWD := Lib.hid hwd
          clear hwd HF2
          obtain ⟨wv, q', f⟩ := wd
          simp only at hh hwo
          have HGG2 : Hid (f ≠ 0 → o = ([], q', f)) := fun h => by rw [if_pos h] at hh; exact hh.symm
          have HGG3 : Hid (f = 0 → wordsF s.data.toList k q' (acc ++ [wv]) = o) := fun h => by rw [if_neg (by simpa using h)] at hh; exact hh
          have HWO := Lib.hid hwo
          clear hh hwo
          go_upto_block 2 with fail
          go_cut [8] (fun v wx => WordNow s.data.toList nb (W.heap.size + 1) q wv q' f w3 v wx)
          case first =>
            have d0 := O3.out.cell_at (i := 0) rfl
            have d1 := O3.out.cell_at (i := 1) rfl
            have d2 := O3.out.cell_at (i := 2) rfl
            have dd := O3.out.free
            by_cases hL : amongB lettersL c = true
            · as_aux_lemma =>
              have hw := HWD.out
              rw [wordF_name _ _ (by rw [HCD.out]; exact hL)] at hw
              have hC := fun w => r2Letter_ok c w
              rw [hL] at hC
              have HCC := Lib.hid hC
              have HWW := Lib.hid hw
              clear hC hw hL HWD HCD
              go_wp2_with fail
              refine (HCC.out _).mono ?_
              rintro e w4 ⟨rfl, rfl⟩
              obtain ⟨n, hn⟩ : ∃ n, manyN (s.data.toList.drop q) nameL = n := ⟨_, rfl⟩
              have hnle := manyN_le (s.data.toList.drop q) nameL
              rw [List.length_drop, hLs, hn] at hnle
              have hw := HWW.out
              rw [hn] at hw
              have HN := Lib.hid hn
              have HWW2 := Lib.hid hw
              obtain ⟨m, hm⟩ : ∃ m, m = q + n := ⟨_, rfl⟩
              have HM := Lib.hid hm
              have hqm : q ≤ m := by omega
              have hms : m ≤ s.size := by omega
              clear hm hn hw HWW hnle HCC
              go_upto_block 3 with fail
              go_cut [8] (fun v wx => v = .int .i64 (m : Nat) ∧ wx = w4)
              case first =>
                clear d0 d1 d2 dd hqm hms
                go_wp2_with fail
                go_loopw [8] (fun v wr => ∃ p2 : Nat, v = .int .i64 p2 ∧ q ≤ p2 ∧ p2 ≤ s.size ∧ Hid (manyN (s.data.toList.drop q) nameL = (p2 - q) + manyN (s.data.toList.drop p2) nameL) ∧ wr = w4) (fun v _ => s.size - (intOf v).toNat)
                case atStart => exact ⟨q, rfl, Nat.le_refl _, by omega, (by omega : manyN (s.data.toList.drop q) nameL = (q - q) + manyN (s.data.toList.drop q) nameL), rfl⟩
                case round =>
                  obtain ⟨p2, rfl, hp1, hp2, HMN, rfl⟩ := hrel
                  by_cases hlt : p2 < s.size
                  · obtain ⟨d, hd⟩ : ∃ d, s[p2] = d := ⟨_, rfl⟩
                    have hdl : s.data.toList[p2]'(by omega) = d := by rw [← hd]; rfl
                    have HYES : Hid (amongB nameL d = true → manyN (s.data.toList.drop q) nameL = (p2 + 1 - q) + manyN (s.data.toList.drop (p2 + 1)) nameL) := fun h => many_yes _ _ _ _ (by omega) HMN.out hp1 (by rw [hdl]; exact h)
                    have HNO : Hid (amongB nameL d = false → m = p2) := fun h => by
                      have := many_no _ _ _ _ HMN.out (fun hp => by rw [hdl]; exact h)
                      rw [HN.out] at this
                      have := HM.out
                      omega
                    have hC := fun w => r2Letter_ok d w
                    have hD := fun w => r2Digit_ok d w
                    rw [name_is] at HYES HNO
                    clear hdl HMN
                    cases hl : amongB lettersL d with
                    | true =>
                      rw [hl] at hC HYES
                      have HMN := Lib.hid (HYES.out (by simp))
                      have HCC := Lib.hid hC
                      clear hC hD hl HYES HNO
                      go_wp2_with fail
                      refine (HCC.out _).mono ?_
                      rintro e w5 ⟨rfl, rfl⟩
                      go_wp2_with fail
                      refine ⟨⟨p2 + 1, by go_num, by omega, by omega, HMN, trivial⟩, ?_⟩
                      rw [show ((p2 : Int) + 1) = ((p2 + 1 : Nat) : Int) from by go_num]
                      simp only [intOf]
                      omega
                    | false =>
                      cases hdg : amongB digitsL d with
                      | true =>
                        rw [hl] at hC
                        rw [hl, hdg] at HYES
                        rw [hdg] at hD
                        have HMN := Lib.hid (HYES.out (by simp))
                        have HCC := Lib.hid hC
                        have HDD := Lib.hid hD
                        clear hC hD hl hdg HYES HNO
                        go_wp2_with fail
                        refine (HCC.out _).mono ?_
                        rintro e w5 ⟨rfl, rfl⟩
                        go_wp2_with fail
                        refine (HDD.out _).mono ?_
                        rintro e w5 ⟨rfl, rfl⟩
                        go_wp2_with fail
                        refine ⟨⟨p2 + 1, by go_num, by omega, by omega, HMN, trivial⟩, ?_⟩
                        rw [show ((p2 : Int) + 1) = ((p2 + 1 : Nat) : Int) from by go_num]
                        simp only [intOf]
                        omega
                      | false =>
                        rw [hl] at hC
                        rw [hl, hdg] at HYES HNO
                        rw [hdg] at hD
                        have HCC := Lib.hid hC
                        have HDD := Lib.hid hD
                        clear hC hD hl hdg
                        by_cases h95 : d.toNat = 95
                        · have HMN := Lib.hid (HYES.out (by simp [h95]))
                          have e95 : ((d.toNat : Int) == 95) = true := by rw [beq_iff_eq]; omega
                          clear HYES HNO h95
                          go_wp2_with fail
                          refine (HCC.out _).mono ?_
                          rintro e w5 ⟨rfl, rfl⟩
                          go_wp2_with fail
                          refine (HDD.out _).mono ?_
                          rintro e w5 ⟨rfl, rfl⟩
                          go_wp2_with fail
                          refine ⟨⟨p2 + 1, by go_num, by omega, by omega, HMN, trivial⟩, ?_⟩
                          rw [show ((p2 : Int) + 1) = ((p2 + 1 : Nat) : Int) from by go_num]
                          simp only [intOf]
                          omega
                        · have hmp := HNO.out (by simp [h95])
                          subst hmp
                          have n95 : ((d.toNat : Int) == 95) = false := by rw [beq_eq_false_iff_ne]; omega
                          clear HYES HNO h95
                          go_wp2_with fail
                          refine (HCC.out _).mono ?_
                          rintro e w5 ⟨rfl, rfl⟩
                          go_wp2_with fail
                          refine (HDD.out _).mono ?_
                          rintro e w5 ⟨rfl, rfl⟩
                          go_wp2_with fail
                          go_meet
                          exact ⟨rfl, rfl⟩
                  · have hmp : m = p2 := by
                      have := many_no _ _ _ _ HMN.out (fun hp => absurd hp (by omega))
                      rw [HN.out] at this
                      have := HM.out
                      omega
                    subst hmp
                    go_wp2_with fail
                    go_meet
                    exact ⟨rfl, rfl⟩
              case rest =>
                obtain ⟨rfl, rfl⟩ := hcut
                obtain ⟨t, ht⟩ : ∃ t, s.extract q m = t := ⟨_, rfl⟩
                have htl : t.data.toList = (s.data.toList.drop q).take n := by rw [← ht]; exact slice_list s q m n HM.out
                have HTL := Lib.hid htl
                have hO5 := O3.out.set 1 (.string t)
                have hU5 := (Upd.refl nb wc).setCell 1 (.string t)
                clear htl
                go_upto_region 21 with fail
                clear d0 d1 d2 dd
                generalize wc.setCell ⟨nb, 1, none⟩ (.string t) = w5 at *
                have O5 : Hid (Owns w5 nb (.int .i64 ((0 : Nat) : Int) :: .string t :: .slice none 0 0 :: posC s.data.toList q) 54) := hO5
                have U5 := Lib.hid hU5
                have hw := HWW2.out
                have hz5 := hU5.size
                clear hO5 hU5
                by_cases h64 : 64 < n
                · have h64i : (64 : Int) < (m : Int) - q := by have := HM.out; omega
                  rw [if_pos h64] at hw
                  obtain ⟨rfl, rfl, rfl⟩ : wv = ⟨0, [], [], q⟩ ∧ q' = q ∧ f = 3 := by
                    simp only [Prod.mk.injEq] at hw
                    exact ⟨hw.1.symm, hw.2.1.symm, hw.2.2.symm⟩
                  have hoo := HGG2.out (by decide)
                  subst hoo
                  have d3 := O5.out.cell_at (i := 3) rfl
                  have d4 := O5.out.cell_at (i := 4) rfl
                  have d5 := O5.out.cell_at (i := 5) rfl
                  have hnlt := O5.out.lt
                  have F2 := Lib.hid (HC3.out.upd U5.out (by omega))
                  have B2 := Lib.hid (Below.trans HB3.out (U5.out.below (by omega) (by omega)))
                  have hz6 := B2.out.size
                  clear HGG2 HGG3 HWO HWW2 hw
                  go_upto_region 22 with fail
                  refine wp_region_hav_lit follows (by kernel_rfl) ?_
                  repeat (first
                    | (refine HavG.skip (fun _ => rfl) ?_; simp only [Act.put, List.setIfInBounds_toArray, List.set_cons_zero, List.set_cons_succ])
                    | (refine HavG.val (fun _ => rfl) ?_ (fun x w hw _ => ?_) ?_; rotate_left; (focus (have hc := hw.cells; clear hw; go_simp; first | done | rfl)); simp only [Act.put, List.setIfInBounds_toArray, List.set_cons_zero, List.set_cons_succ]))
                  refine HavG.tail (by kernel_rfl) (by kernel_rfl) (fun x w hw _ => ?_)
                  have F5 := F2.out.keep hw
                  have f0 := F5.cell_at (i := 0) rfl
                  have f1 := F5.cell_at (i := 1) rfl
                  have f2 := F5.cell_at (i := 2) rfl
                  have ff := F5.free
                  have F3 : Hid (Owns (((w.setCell ⟨W.heap.size, 0, none⟩ (.int .i64 (q' : Nat))).setCell ⟨W.heap.size, 1, none⟩ (.int .i64 ((placeOf (s.data.toList.take q') 1 1).1 : Nat))).setCell ⟨W.heap.size, 2, none⟩ (.int .i64 ((placeOf (s.data.toList.take q') 1 1).2 : Nat))) W.heap.size (posC s.data.toList q') 26) := owns_three F5 _ _ _
                  have B3 : Hid (Below W.heap.size W (((w.setCell ⟨W.heap.size, 0, none⟩ (.int .i64 (q' : Nat))).setCell ⟨W.heap.size, 1, none⟩ (.int .i64 ((placeOf (s.data.toList.take q') 1 1).1 : Nat))).setCell ⟨W.heap.size, 2, none⟩ (.int .i64 ((placeOf (s.data.toList.take q') 1 1).2 : Nat)))) := below_three (Below.trans B2.out (Below.mono hw (by omega))) (Nat.le_refl _) _ _ _
                  clear F5 hw d3 d4 d5
                  go_wp2_with fail
                  refine bodyPost_ret (tmp2_cell (d := Tryz.prog.underlying 26 |>.getD default) rfl _ _ W.heap.size 26 _ (0, 0) rfl F3.out rfl rfl rfl) rfl ?_
                  exact ⟨B3.out, fun _ => rfl, fun h => absurd h (by simp)⟩
                · have h64i : ¬ ((64 : Int) < (m : Int) - q) := by have := HM.out; omega
                  rw [if_neg h64] at hw
                  have hm := HM.out
                  obtain ⟨rfl, rfl, rfl⟩ : wv = ⟨0, (s.data.toList.drop q).take n, [], q⟩ ∧ q' = m ∧ f = 0 := by
                    simp only [Prod.mk.injEq] at hw
                    exact ⟨hw.1.symm, by rw [hm]; exact hw.2.1.symm, hw.2.2.symm⟩
                  clear hm hw
                  go_wp2_with fail
                  go_meet
                  exact ⟨U5.out, .inl ⟨rfl, rfl, t, _, HTL.out, ⟨_, _, _, rfl⟩, ⟨rfl, .inl ⟨rfl, rfl⟩⟩, O5.out⟩⟩
            · rw [Bool.not_eq_true] at hL
              by_cases hD : amongB digitsL c = true
              · as_aux_lemma =>
                have hw := HWD.out
                rw [wordF_num _ _ (by rw [HCD.out]; exact hL) (by rw [HCD.out]; exact hD)] at hw
                have hC := fun w => r2Letter_ok c w
                rw [hL] at hC
                have hE := fun w => r2Digit_ok c w
                rw [hD] at hE
                have HCC := Lib.hid hC
                have HEE := Lib.hid hE
                have HWW := Lib.hid hw
                have hO4 := O3.out.set 0 (.int .i64 1)
                have hU4 := (Upd.refl nb w3).setCell 0 (.int .i64 1)
                clear hC hE hw hL hD HWD HCD
                go_wp2_with fail
                refine (HCC.out _).mono ?_
                rintro e w4 ⟨rfl, rfl⟩
                go_wp2_with fail
                refine (HEE.out _).mono ?_
                rintro e w4 ⟨rfl, rfl⟩
                obtain ⟨n, hn⟩ : ∃ n, manyN (s.data.toList.drop q) digitsL = n := ⟨_, rfl⟩
                have hnle := manyN_le (s.data.toList.drop q) digitsL
                rw [List.length_drop, hLs, hn] at hnle
                have hw := HWW.out
                rw [hn] at hw
                have HN := Lib.hid hn
                have HWW2 := Lib.hid hw
                obtain ⟨m, hm⟩ : ∃ m, m = q + n := ⟨_, rfl⟩
                have HM := Lib.hid hm
                have hqm : q ≤ m := by omega
                have hms : m ≤ s.size := by omega
                clear hm hn hw HWW hnle HCC HEE
                go_upto_block 5 with fail
                clear d0 d1 d2 dd
                generalize w4.setCell ⟨nb, 0, none⟩ (.int .i64 1) = w5 at *
                have O4 : Hid (Owns w5 nb (.int .i64 1 :: .string { data := #[] } :: .slice none 0 0 :: posC s.data.toList q) 54) := hO4
                have U4 := Lib.hid hU4
                have d0 := hO4.cell_at (i := 0) rfl
                have d1 := hO4.cell_at (i := 1) rfl
                have d2 := hO4.cell_at (i := 2) rfl
                have dd := hO4.free
                have hz9 := hU4.size
                clear hO4 hU4
                go_cut [8] (fun v wx => v = .int .i64 (m : Nat) ∧ wx = w5)
                case first =>
                  clear d0 d1 d2 dd hqm hms
                  go_wp2_with fail
                  go_loopw [8] (fun v wr => ∃ p2 : Nat, v = .int .i64 p2 ∧ q ≤ p2 ∧ p2 ≤ s.size ∧ Hid (manyN (s.data.toList.drop q) digitsL = (p2 - q) + manyN (s.data.toList.drop p2) digitsL) ∧ wr = w5) (fun v _ => s.size - (intOf v).toNat)
                  case atStart => exact ⟨q, rfl, Nat.le_refl _, by omega, (by omega : manyN (s.data.toList.drop q) digitsL = (q - q) + manyN (s.data.toList.drop q) digitsL), rfl⟩
                  case round =>
                    obtain ⟨p2, rfl, hp1, hp2, HMN, rfl⟩ := hrel
                    by_cases hlt : p2 < s.size
                    · obtain ⟨d, hd⟩ : ∃ d, s[p2] = d := ⟨_, rfl⟩
                      have hdl : s.data.toList[p2]'(by omega) = d := by rw [← hd]; rfl
                      have HYES : Hid (amongB digitsL d = true → manyN (s.data.toList.drop q) digitsL = (p2 + 1 - q) + manyN (s.data.toList.drop (p2 + 1)) digitsL) := fun h => many_yes _ _ _ _ (by omega) HMN.out hp1 (by rw [hdl]; exact h)
                      have HNO : Hid (amongB digitsL d = false → m = p2) := fun h => by
                        have := many_no _ _ _ _ HMN.out (fun hp => by rw [hdl]; exact h)
                        rw [HN.out] at this
                        have := HM.out
                        omega
                      have hD := fun w => r2Digit_ok d w
                      clear hdl HMN
                      cases hdg : amongB digitsL d with
                      | true =>
                        rw [hdg] at hD HYES
                        have HMN := Lib.hid (HYES.out rfl)
                        have HDD := Lib.hid hD
                        clear hD hdg HYES HNO
                        go_wp2_with fail
                        refine (HDD.out _).mono ?_
                        rintro e w5 ⟨rfl, rfl⟩
                        go_wp2_with fail
                        refine ⟨⟨p2 + 1, by go_num, by omega, by omega, HMN, trivial⟩, ?_⟩
                        rw [show ((p2 : Int) + 1) = ((p2 + 1 : Nat) : Int) from by go_num]
                        simp only [intOf]
                        omega
                      | false =>
                        rw [hdg] at hD HNO
                        have hmp := HNO.out rfl
                        subst hmp
                        have HDD := Lib.hid hD
                        clear hD hdg HYES HNO
                        go_wp2_with fail
                        refine (HDD.out _).mono ?_
                        rintro e w5 ⟨rfl, rfl⟩
                        go_wp2_with fail
                        go_meet
                        exact ⟨rfl, rfl⟩
                    · have hmp : m = p2 := by
                        have := many_no _ _ _ _ HMN.out (fun hp => absurd hp (by omega))
                        rw [HN.out] at this
                        have := HM.out
                        omega
                      subst hmp
                      go_wp2_with fail
                      go_meet
                      exact ⟨rfl, rfl⟩
                case rest =>
                  obtain ⟨rfl, rfl⟩ := hcut
                  obtain ⟨t, ht⟩ : ∃ t, s.extract q m = t := ⟨_, rfl⟩
                  have htl : t.data.toList = (s.data.toList.drop q).take n := by rw [← ht]; exact slice_list s q m n HM.out
                  have HTL := Lib.hid htl
                  have hO5 := O4.out.set 1 (.string t)
                  have hU5 := U4.out.setCell 1 (.string t)
                  clear htl
                  go_upto_region 28 with fail
                  clear d0 d1 d2 dd
                  generalize wc.setCell ⟨nb, 1, none⟩ (.string t) = w5 at *
                  have O5 : Hid (Owns w5 nb (.int .i64 ((1 : Nat) : Int) :: .string t :: .slice none 0 0 :: posC s.data.toList q) 54) := hO5
                  have U5 := Lib.hid hU5
                  have hw := HWW2.out
                  have hz5 := hU5.size
                  clear hO5 hU5
                  by_cases h9 : 9 < n
                  · have h9i : (9 : Int) < (m : Int) - q := by have := HM.out; omega
                    rw [if_pos h9] at hw
                    obtain ⟨rfl, rfl, rfl⟩ : wv = ⟨1, [], [], q⟩ ∧ q' = q ∧ f = 3 := by
                      simp only [Prod.mk.injEq] at hw
                      exact ⟨hw.1.symm, hw.2.1.symm, hw.2.2.symm⟩
                    have hoo := HGG2.out (by decide)
                    subst hoo
                    have d3 := O5.out.cell_at (i := 3) rfl
                    have d4 := O5.out.cell_at (i := 4) rfl
                    have d5 := O5.out.cell_at (i := 5) rfl
                    have hnlt := O5.out.lt
                    have F2 := Lib.hid (HC3.out.upd U5.out (by omega))
                    have B2 := Lib.hid (Below.trans HB3.out (U5.out.below (by omega) (by omega)))
                    have hz6 := B2.out.size
                    clear HGG2 HGG3 HWO HWW2 hw
                    go_upto_region 29 with fail
                    refine wp_region_hav_lit follows (by kernel_rfl) ?_
                    repeat (first
                      | (refine HavG.skip (fun _ => rfl) ?_; simp only [Act.put, List.setIfInBounds_toArray, List.set_cons_zero, List.set_cons_succ])
                      | (refine HavG.val (fun _ => rfl) ?_ (fun x w hw _ => ?_) ?_; rotate_left; (focus (have hc := hw.cells; clear hw; go_simp; first | done | rfl)); simp only [Act.put, List.setIfInBounds_toArray, List.set_cons_zero, List.set_cons_succ]))
                    refine HavG.tail (by kernel_rfl) (by kernel_rfl) (fun x w hw _ => ?_)
                    have F5 := F2.out.keep hw
                    have f0 := F5.cell_at (i := 0) rfl
                    have f1 := F5.cell_at (i := 1) rfl
                    have f2 := F5.cell_at (i := 2) rfl
                    have ff := F5.free
                    have F3 : Hid (Owns (((w.setCell ⟨W.heap.size, 0, none⟩ (.int .i64 (q' : Nat))).setCell ⟨W.heap.size, 1, none⟩ (.int .i64 ((placeOf (s.data.toList.take q') 1 1).1 : Nat))).setCell ⟨W.heap.size, 2, none⟩ (.int .i64 ((placeOf (s.data.toList.take q') 1 1).2 : Nat))) W.heap.size (posC s.data.toList q') 26) := owns_three F5 _ _ _
                    have B3 : Hid (Below W.heap.size W (((w.setCell ⟨W.heap.size, 0, none⟩ (.int .i64 (q' : Nat))).setCell ⟨W.heap.size, 1, none⟩ (.int .i64 ((placeOf (s.data.toList.take q') 1 1).1 : Nat))).setCell ⟨W.heap.size, 2, none⟩ (.int .i64 ((placeOf (s.data.toList.take q') 1 1).2 : Nat)))) := below_three (Below.trans B2.out (Below.mono hw (by omega))) (Nat.le_refl _) _ _ _
                    clear F5 hw d3 d4 d5
                    go_wp2_with fail
                    refine bodyPost_ret (tmp2_cell (d := Tryz.prog.underlying 26 |>.getD default) rfl _ _ W.heap.size 26 _ (0, 0) rfl F3.out rfl rfl rfl) rfl ?_
                    exact ⟨B3.out, fun _ => rfl, fun h => absurd h (by simp)⟩
                  · have h9i : ¬ ((9 : Int) < (m : Int) - q) := by have := HM.out; omega
                    rw [if_neg h9] at hw
                    have hm := HM.out
                    obtain ⟨rfl, rfl, rfl⟩ : wv = ⟨1, (s.data.toList.drop q).take n, [], q⟩ ∧ q' = m ∧ f = 0 := by
                      simp only [Prod.mk.injEq] at hw
                      exact ⟨hw.1.symm, by rw [hm]; exact hw.2.1.symm, hw.2.2.symm⟩
                    clear hm hw
                    go_wp2_with fail
                    go_meet
                    exact ⟨U5.out, .inl ⟨rfl, rfl, t, _, HTL.out, ⟨_, _, _, rfl⟩, ⟨rfl, .inl ⟨rfl, rfl⟩⟩, O5.out⟩⟩
              · rw [Bool.not_eq_true] at hD
                have hC := fun w => r2Letter_ok c w
                rw [hL] at hC
                have hE := fun w => r2Digit_ok c w
                rw [hD] at hE
                have HCC := Lib.hid hC
                have HEE := Lib.hid hE
                have HLD := Lib.hid (And.intro hL hD)
                clear hC hE hL hD
                by_cases h39 : c = 39
                · as_aux_lemma =>
                  have hw := HWD.out
                  rw [wordF_text _ _ (by rw [HCD.out]; exact h39), hLs] at hw
                  have e39 : ((c.toNat : Int) == 39) = true := by rw [h39]; rfl
                  have hT := fun w => r2text_ok s q w hs (by omega)
                  have htf := textF_in s.data.toList q (s.size + 1) (q + 1) [] (by omega)
                  obtain ⟨T, hTT⟩ : ∃ T, textF s.data.toList q (s.size + 1) (q + 1) [] = T := ⟨_, rfl⟩
                  rw [hTT] at hw hT htf
                  obtain ⟨T1, T2, T3⟩ := T
                  obtain ⟨rfl, rfl, rfl⟩ : wv = ⟨2, T3, [], q⟩ ∧ q' = T1 ∧ f = T2 := by
                    simp only [Prod.mk.injEq] at hw
                    exact ⟨hw.1.symm, hw.2.1.symm, hw.2.2.symm⟩
                  have hO4 := O3.out.set 0 (.int .i64 2)
                  have hU4 := (Upd.refl nb w3).setCell 0 (.int .i64 2)
                  have HTT := Lib.hid hT
                  have HTF := Lib.hid htf
                  clear hw hTT HWD HCD HLD h39 hT htf HGG2 HGG3 HWO
                  go_upto_region 17 with fail
                  go_wp2_with fail
                  refine (HCC.out _).mono ?_
                  rintro e w4 ⟨rfl, rfl⟩
                  go_wp2_with fail
                  refine (HEE.out _).mono ?_
                  rintro e w4 ⟨rfl, rfl⟩
                  go_upto_region 32 with fail
                  clear d0 d1 d2 dd
                  generalize w4.setCell ⟨nb, 0, none⟩ (.int .i64 2) = w5 at *
                  have O4 : Hid (Owns w5 nb (.int .i64 2 :: .string { data := #[] } :: .slice none 0 0 :: posC s.data.toList q) 54) := hO4
                  have U4 := Lib.hid hU4
                  have hz9 := hU4.size
                  clear hO4 hU4
                  go_wp2_with fail
                  refine (HTT.out _).mono ?_
                  rintro e w6 ⟨rfl, hb6⟩
                  have hO6 := O4.out.keep hb6
                  have d0 := hO6.cell_at (i := 0) rfl
                  have d1 := hO6.cell_at (i := 1) rfl
                  have d2 := hO6.cell_at (i := 2) rfl
                  have dd := hO6.free
                  have U6 := Lib.hid (U4.out.trans (Grew.upd hb6 nb))
                  have O6 : Hid (Owns w6 nb (.int .i64 2 :: .string { data := #[] } :: .slice none 0 0 :: posC s.data.toList q) 54) := hO6
                  clear hb6 hO6
                  by_cases hf : f = 0
                  · subst hf
                    rw [if_pos rfl, if_pos rfl]
                    have O7 : Hid (Owns (w6.setCell ⟨nb, 1, none⟩ (.string ⟨T3.toArray⟩)) nb (.int .i64 ((2 : Nat) : Int) :: .string ⟨T3.toArray⟩ :: .slice none 0 0 :: posC s.data.toList q) 54) := O6.out.set 1 _
                    have U7 := Lib.hid (U6.out.setCell 1 (.string ⟨T3.toArray⟩))
                    go_wp2_with fail
                    go_meet
                    exact ⟨U7.out, .inl ⟨rfl, rfl, _, _, rfl, ⟨_, _, _, rfl⟩, ⟨rfl, .inl ⟨rfl, rfl⟩⟩, O7.out⟩⟩
                  · obtain ⟨-, hf4⟩ := HTF.out.2 hf
                    subst hf4
                    rw [if_neg (by simp), if_neg (by simp)]
                    have O7 : Hid (Owns (w6.setCell ⟨nb, 1, none⟩ (.string ⟨([] : List UInt8).toArray⟩)) nb (.int .i64 ((2 : Nat) : Int) :: .string ⟨([] : List UInt8).toArray⟩ :: .slice none 0 0 :: posC s.data.toList q) 54) := O6.out.set 1 _
                    have U7 := Lib.hid (U6.out.setCell 1 (.string ⟨([] : List UInt8).toArray⟩))
                    go_wp2_with fail
                    go_meet
                    exact ⟨U7.out, .inr ⟨rfl, rfl, _, _, _, O7.out⟩⟩
                · by_cases h91 : c = 91
                  · as_aux_lemma =>
                    have hw := HWD.out
                    rw [wordF_set _ _ (by rw [HCD.out]; exact h91), hLs] at hw
                    have e91 : ((c.toNat : Int) == 91) = true := by rw [h91]; rfl
                    have e39 : ((c.toNat : Int) == 39) = false := by rw [h91]; rfl
                    have hT := fun w => r2set_ok s q w hs (by omega)
                    have htf := setF_in s.data.toList q (s.size + 1) (q + 1) [] (by omega)
                    obtain ⟨T, hTT⟩ : ∃ T, setF s.data.toList q (s.size + 1) (q + 1) [] = T := ⟨_, rfl⟩
                    rw [hTT] at hw hT htf
                    obtain ⟨T1, T2, T3⟩ := T
                    obtain ⟨rfl, rfl, rfl⟩ : wv = ⟨3, [], T3, q⟩ ∧ q' = T1 ∧ f = T2 := by
                      simp only [Prod.mk.injEq] at hw
                      exact ⟨hw.1.symm, hw.2.1.symm, hw.2.2.symm⟩
                    have hO4 := O3.out.set 0 (.int .i64 3)
                    have hU4 := (Upd.refl nb w3).setCell 0 (.int .i64 3)
                    have HTT := Lib.hid hT
                    have HTF := Lib.hid htf
                    clear hw hTT HWD HCD HLD h39 h91 hT htf HGG2 HGG3 HWO
                    go_upto_region 17 with fail
                    go_wp2_with fail
                    refine (HCC.out _).mono ?_
                    rintro e w4 ⟨rfl, rfl⟩
                    go_wp2_with fail
                    refine (HEE.out _).mono ?_
                    rintro e w4 ⟨rfl, rfl⟩
                    go_upto_region 35 with fail
                    clear d0 d1 d2 dd
                    generalize w4.setCell ⟨nb, 0, none⟩ (.int .i64 3) = w5 at *
                    have O4 : Hid (Owns w5 nb (.int .i64 3 :: .string { data := #[] } :: .slice none 0 0 :: posC s.data.toList q) 54) := hO4
                    have U4 := Lib.hid hU4
                    have hz9 := hU4.size
                    clear hO4 hU4
                    go_wp2_with fail
                    refine (HTT.out _).mono ?_
                    rintro e w6 ⟨sv, hsv, ⟨sa, sn, sc, rfl⟩, rfl, hb6⟩
                    have hO6 := O4.out.keep hb6
                    have d0 := hO6.cell_at (i := 0) rfl
                    have d1 := hO6.cell_at (i := 1) rfl
                    have d2 := hO6.cell_at (i := 2) rfl
                    have dd := hO6.free
                    have U6 := Lib.hid (U4.out.trans (Grew.upd hb6 nb))
                    have O6 : Hid (Owns w6 nb (.int .i64 3 :: .string { data := #[] } :: .slice none 0 0 :: posC s.data.toList q) 54) := hO6
                    clear hb6 hO6
                    have HSV := Lib.hid hsv
                    clear hsv
                    by_cases hf : f = 0
                    · subst hf
                      rw [if_pos rfl]
                      have O7 : Hid (Owns (w6.setCell ⟨nb, 2, none⟩ (.slice sa sn sc)) nb (.int .i64 ((3 : Nat) : Int) :: .string { data := #[] } :: .slice sa sn sc :: posC s.data.toList q) 54) := O6.out.set 2 _
                      have U7 := Lib.hid (U6.out.setCell 2 (.slice sa sn sc))
                      have R7 := loose_upd (HSV.out rfl) ((Upd.refl nb w6).setCell 2 (.slice sa sn sc)) (by omega)
                      have R8 := Lib.hid (loose_mono R7 (by omega : W.heap.size + 1 ≤ w5.heap.size))
                      clear R7
                      go_wp2_with fail
                      go_meet
                      exact ⟨U7.out, .inl ⟨rfl, rfl, { data := #[] }, _, rfl, ⟨_, _, _, rfl⟩, R8.out, O7.out⟩⟩
                    · obtain ⟨-, hf4⟩ := HTF.out.2 hf
                      subst hf4
                      rw [if_neg (by simp)]
                      have O7 : Hid (Owns (w6.setCell ⟨nb, 2, none⟩ (.slice sa sn sc)) nb (.int .i64 ((3 : Nat) : Int) :: .string { data := #[] } :: .slice sa sn sc :: posC s.data.toList q) 54) := O6.out.set 2 _
                      have U7 := Lib.hid (U6.out.setCell 2 (.slice sa sn sc))
                      go_wp2_with fail
                      go_meet
                      exact ⟨U7.out, .inr ⟨rfl, rfl, _, _, _, O7.out⟩⟩
                  · have e39 : ((c.toNat : Int) == 39) = false := by
                      rw [beq_eq_false_iff_ne]
                      intro h
                      exact h39 (UInt8.toNat_inj.1 (by rw [show (39 : UInt8).toNat = 39 from rfl]; omega))
                    have e91 : ((c.toNat : Int) == 91) = false := by
                      rw [beq_eq_false_iff_ne]
                      intro h
                      exact h91 (UInt8.toNat_inj.1 (by rw [show (91 : UInt8).toNat = 91 from rfl]; omega))
                    have hw := HWD.out
                    rw [wordF_mark _ _ (by rw [HCD.out]; exact HLD.out.1) (by rw [HCD.out]; exact HLD.out.2) (by rw [HCD.out]; exact h39) (by rw [HCD.out]; exact h91)] at hw
                    have hB1 := fun w => begins_ok s { data := #[61, 62] } q w hg2 hs (by decide)
                    have hB2 := fun w => begins_ok s { data := #[46, 46] } q w hg2 hs (by decide)
                    rw [show (({ data := #[61, 62] } : ByteArray).data.toList) = [61, 62] from rfl] at hB1
                    rw [show (({ data := #[46, 46] } : ByteArray).data.toList) = [46, 46] from rfl] at hB2
                    by_cases hpa : Lib.hasPrefix (s.data.toList.drop q) [61, 62] = true
                    · as_aux_lemma =>
                      have h2 := Lib.hasPrefix_le hpa
                      rw [List.length_drop, hLs] at h2
                      simp only [List.length_cons, List.length_nil] at h2
                      rw [show markF (s.data.toList.drop q) = 2 by unfold markF; rw [if_pos hpa]] at hw
                      obtain ⟨rfl, rfl, rfl⟩ : wv = ⟨4, (s.data.toList.drop q).take 2, [], q⟩ ∧ q' = q + 2 ∧ f = 0 := by
                        simp only [Prod.mk.injEq] at hw
                        exact ⟨hw.1.symm, hw.2.1.symm, hw.2.2.symm⟩
                      rw [hpa] at hB1
                      have HB1 := Lib.hid hB1
                      have HB2 := Lib.hid hB2
                      clear hw hB1 hB2 HWD HCD HLD h39 h91 hpa HGG2 HGG3 HWO
                      go_wp2_with fail
                      refine (HCC.out _).mono ?_
                      rintro e w4 ⟨rfl, rfl⟩
                      go_wp2_with fail
                      refine (HEE.out _).mono ?_
                      rintro e w4 ⟨rfl, rfl⟩
                      go_wp2_with fail
                      refine (HB1.out _).mono ?_
                      rintro e w4 ⟨rfl, rfl⟩
                      obtain ⟨t, ht⟩ : ∃ t, s.extract q (q + 2) = t := ⟨_, rfl⟩
                      have htl : t.data.toList = (s.data.toList.drop q).take 2 := by rw [← ht]; exact slice_list s q (q + 2) 2 rfl
                      have HTL := Lib.hid htl
                      have hqn : q + 2 ≤ s.size := by omega
                      have hsl : ∀ V : World, (Instr.slice 9 (.string s) (some (.int .i64 (q : Nat))) (some (.int .i64 ((q : Int) + 2))) none).run Tryz.prog V = .ok (.string t) V := fun V => by rw [← ht]; exact slice_at s q (q + 2) _ V (by omega) (by omega) hqn
                      have HSL := Lib.hid hsl
                      have hO5 : Hid (Owns ((w4.setCell ⟨nb, 0, none⟩ (.int .i64 4)).setCell ⟨nb, 1, none⟩ (.string t)) nb (.int .i64 ((4 : Nat) : Int) :: .string t :: .slice none 0 0 :: posC s.data.toList q) 54) := (O3.out.set 0 _).set 1 _
                      have hU5 := Lib.hid (((Upd.refl nb w4).setCell 0 (.int .i64 4)).setCell 1 (.string t))
                      have d1b := (O3.out.set 0 (.int .i64 4)).cell_at (i := 1) rfl
                      have ddb := (O3.out.set 0 (.int .i64 4)).free
                      clear htl hsl ht
                      go_wp2_with fail
                      rw [HSL.out]
                      simp only [Result.andThen]
                      go_wp2_with fail
                      go_meet
                      exact ⟨hU5.out, .inl ⟨rfl, by go_num, t, _, HTL.out, ⟨_, _, _, rfl⟩, ⟨rfl, .inl ⟨rfl, rfl⟩⟩, hO5.out⟩⟩
                    · rw [Bool.not_eq_true] at hpa
                      by_cases hpb : Lib.hasPrefix (s.data.toList.drop q) [46, 46] = true
                      · as_aux_lemma =>
                        have h2 := Lib.hasPrefix_le hpb
                        rw [List.length_drop, hLs] at h2
                        simp only [List.length_cons, List.length_nil] at h2
                        rw [show markF (s.data.toList.drop q) = 2 by unfold markF; rw [hpa, if_neg (by simp), if_pos hpb]] at hw
                        obtain ⟨rfl, rfl, rfl⟩ : wv = ⟨4, (s.data.toList.drop q).take 2, [], q⟩ ∧ q' = q + 2 ∧ f = 0 := by
                          simp only [Prod.mk.injEq] at hw
                          exact ⟨hw.1.symm, hw.2.1.symm, hw.2.2.symm⟩
                        rw [hpa] at hB1; rw [hpb] at hB2
                        have HB1 := Lib.hid hB1
                        have HB2 := Lib.hid hB2
                        clear hw hB1 hB2 HWD HCD HLD h39 h91 hpa HGG2 HGG3 HWO hpb
                        go_wp2_with fail
                        refine (HCC.out _).mono ?_
                        rintro e w4 ⟨rfl, rfl⟩
                        go_wp2_with fail
                        refine (HEE.out _).mono ?_
                        rintro e w4 ⟨rfl, rfl⟩
                        go_wp2_with fail
                        refine (HB1.out _).mono ?_
                        rintro e w4 ⟨rfl, rfl⟩
                        go_wp2_with fail
                        refine (HB2.out _).mono ?_
                        rintro e w4 ⟨rfl, rfl⟩
                        obtain ⟨t, ht⟩ : ∃ t, s.extract q (q + 2) = t := ⟨_, rfl⟩
                        have htl : t.data.toList = (s.data.toList.drop q).take 2 := by rw [← ht]; exact slice_list s q (q + 2) 2 rfl
                        have HTL := Lib.hid htl
                        have hqn : q + 2 ≤ s.size := by omega
                        have hsl : ∀ V : World, (Instr.slice 9 (.string s) (some (.int .i64 (q : Nat))) (some (.int .i64 ((q : Int) + 2))) none).run Tryz.prog V = .ok (.string t) V := fun V => by rw [← ht]; exact slice_at s q (q + 2) _ V (by omega) (by omega) hqn
                        have HSL := Lib.hid hsl
                        have hO5 : Hid (Owns ((w4.setCell ⟨nb, 0, none⟩ (.int .i64 4)).setCell ⟨nb, 1, none⟩ (.string t)) nb (.int .i64 ((4 : Nat) : Int) :: .string t :: .slice none 0 0 :: posC s.data.toList q) 54) := (O3.out.set 0 _).set 1 _
                        have hU5 := Lib.hid (((Upd.refl nb w4).setCell 0 (.int .i64 4)).setCell 1 (.string t))
                        have d1b := (O3.out.set 0 (.int .i64 4)).cell_at (i := 1) rfl
                        have ddb := (O3.out.set 0 (.int .i64 4)).free
                        clear htl hsl ht
                        go_wp2_with fail
                        rw [HSL.out]
                        simp only [Result.andThen]
                        go_wp2_with fail
                        go_meet
                        exact ⟨hU5.out, .inl ⟨rfl, by go_num, t, _, HTL.out, ⟨_, _, _, rfl⟩, ⟨rfl, .inl ⟨rfl, rfl⟩⟩, hO5.out⟩⟩
                      · rw [Bool.not_eq_true] at hpb
                        have hmf : markF (s.data.toList.drop q) = if amongB marksL c = true then 1 else 0 := by
                          unfold markF
                          rw [hpa, hpb, if_neg (by simp), if_neg (by simp), HCD.out]
                        rw [hmf] at hw
                        rw [hpa] at hB1
                        rw [hpb] at hB2
                        obtain ⟨mk, hmk⟩ : ∃ mk, amongB marksL c = mk := ⟨_, rfl⟩
                        rw [hmk] at hw
                        rw [mark_is] at hmk
                        have HB1 := Lib.hid hB1
                        have HB2 := Lib.hid hB2
                        have HMK := Lib.hid hmk
                        have HWW := Lib.hid hw
                        clear hw hB1 hB2 hmk HWD HCD HLD h39 h91 hpa hpb hmf
                        go_wp2_with fail
                        refine (HCC.out _).mono ?_
                        rintro e w4 ⟨rfl, rfl⟩
                        go_wp2_with fail
                        refine (HEE.out _).mono ?_
                        rintro e w4 ⟨rfl, rfl⟩
                        go_wp2_with fail
                        refine (HB1.out _).mono ?_
                        rintro e w4 ⟨rfl, rfl⟩
                        go_wp2_with fail
                        refine (HB2.out _).mono ?_
                        rintro e w4 ⟨rfl, rfl⟩
                        go_upto_region 40 with fail
                        go_cut [150] (fun v wx => v = .bool mk ∧ wx = w4)
                        case first =>
                          have hmk := HMK.out
                          cases mk with
                          | true =>
                            rw [decide_eq_true_eq] at hmk
                            clear HMK HWW HGG2 HGG3 HWO d0 d1 d2 dd e39 e91 HB1 HB2 HCC HEE
                            rcases hmk with hm | hm | hm | hm | hm | hm | hm | hm | hm | hm | hm | hm | hm
                            · as_aux_lemma =>
                              have hmm := hm
                              have e58 : ((c.toNat : Int) == 58) = true := by rw [hm]; rfl
                              clear hm hmm
                              go_wp2_with fail
                              go_meet
                              exact ⟨rfl, rfl⟩
                            · as_aux_lemma =>
                              have hmm := hm
                              have e58 : ((c.toNat : Int) == 58) = false := by rw [hm]; rfl
                              have e59 : ((c.toNat : Int) == 59) = true := by rw [hm]; rfl
                              clear hm hmm
                              go_wp2_with fail
                              go_meet
                              exact ⟨rfl, rfl⟩
                            · as_aux_lemma =>
                              have hmm := hm
                              have e58 : ((c.toNat : Int) == 58) = false := by rw [hm]; rfl
                              have e59 : ((c.toNat : Int) == 59) = false := by rw [hm]; rfl
                              have e124 : ((c.toNat : Int) == 124) = true := by rw [hm]; rfl
                              clear hm hmm
                              go_wp2_with fail
                              go_meet
                              exact ⟨rfl, rfl⟩
                            · as_aux_lemma =>
                              have hmm := hm
                              have e58 : ((c.toNat : Int) == 58) = false := by rw [hm]; rfl
                              have e59 : ((c.toNat : Int) == 59) = false := by rw [hm]; rfl
                              have e124 : ((c.toNat : Int) == 124) = false := by rw [hm]; rfl
                              have e40 : ((c.toNat : Int) == 40) = true := by rw [hm]; rfl
                              clear hm hmm
                              go_wp2_with fail
                              go_meet
                              exact ⟨rfl, rfl⟩
                            · as_aux_lemma =>
                              have hmm := hm
                              have e58 : ((c.toNat : Int) == 58) = false := by rw [hm]; rfl
                              have e59 : ((c.toNat : Int) == 59) = false := by rw [hm]; rfl
                              have e124 : ((c.toNat : Int) == 124) = false := by rw [hm]; rfl
                              have e40 : ((c.toNat : Int) == 40) = false := by rw [hm]; rfl
                              have e41 : ((c.toNat : Int) == 41) = true := by rw [hm]; rfl
                              clear hm hmm
                              go_wp2_with fail
                              go_meet
                              exact ⟨rfl, rfl⟩
                            · as_aux_lemma =>
                              have hmm := hm
                              have e58 : ((c.toNat : Int) == 58) = false := by rw [hm]; rfl
                              have e59 : ((c.toNat : Int) == 59) = false := by rw [hm]; rfl
                              have e124 : ((c.toNat : Int) == 124) = false := by rw [hm]; rfl
                              have e40 : ((c.toNat : Int) == 40) = false := by rw [hm]; rfl
                              have e41 : ((c.toNat : Int) == 41) = false := by rw [hm]; rfl
                              have e63 : ((c.toNat : Int) == 63) = true := by rw [hm]; rfl
                              clear hm hmm
                              go_wp2_with fail
                              go_meet
                              exact ⟨rfl, rfl⟩
                            · as_aux_lemma =>
                              have hmm := hm
                              have e58 : ((c.toNat : Int) == 58) = false := by rw [hm]; rfl
                              have e59 : ((c.toNat : Int) == 59) = false := by rw [hm]; rfl
                              have e124 : ((c.toNat : Int) == 124) = false := by rw [hm]; rfl
                              have e40 : ((c.toNat : Int) == 40) = false := by rw [hm]; rfl
                              have e41 : ((c.toNat : Int) == 41) = false := by rw [hm]; rfl
                              have e63 : ((c.toNat : Int) == 63) = false := by rw [hm]; rfl
                              have e42 : ((c.toNat : Int) == 42) = true := by rw [hm]; rfl
                              clear hm hmm
                              go_wp2_with fail
                              go_meet
                              exact ⟨rfl, rfl⟩
                            · as_aux_lemma =>
                              have hmm := hm
                              have e58 : ((c.toNat : Int) == 58) = false := by rw [hm]; rfl
                              have e59 : ((c.toNat : Int) == 59) = false := by rw [hm]; rfl
                              have e124 : ((c.toNat : Int) == 124) = false := by rw [hm]; rfl
                              have e40 : ((c.toNat : Int) == 40) = false := by rw [hm]; rfl
                              have e41 : ((c.toNat : Int) == 41) = false := by rw [hm]; rfl
                              have e63 : ((c.toNat : Int) == 63) = false := by rw [hm]; rfl
                              have e42 : ((c.toNat : Int) == 42) = false := by rw [hm]; rfl
                              have e43 : ((c.toNat : Int) == 43) = true := by rw [hm]; rfl
                              clear hm hmm
                              go_wp2_with fail
                              go_meet
                              exact ⟨rfl, rfl⟩
                            · as_aux_lemma =>
                              have hmm := hm
                              have e58 : ((c.toNat : Int) == 58) = false := by rw [hm]; rfl
                              have e59 : ((c.toNat : Int) == 59) = false := by rw [hm]; rfl
                              have e124 : ((c.toNat : Int) == 124) = false := by rw [hm]; rfl
                              have e40 : ((c.toNat : Int) == 40) = false := by rw [hm]; rfl
                              have e41 : ((c.toNat : Int) == 41) = false := by rw [hm]; rfl
                              have e63 : ((c.toNat : Int) == 63) = false := by rw [hm]; rfl
                              have e42 : ((c.toNat : Int) == 42) = false := by rw [hm]; rfl
                              have e43 : ((c.toNat : Int) == 43) = false := by rw [hm]; rfl
                              have e61 : ((c.toNat : Int) == 61) = true := by rw [hm]; rfl
                              clear hm hmm
                              go_wp2_with fail
                              go_meet
                              exact ⟨rfl, rfl⟩
                            · as_aux_lemma =>
                              have hmm := hm
                              have e58 : ((c.toNat : Int) == 58) = false := by rw [hm]; rfl
                              have e59 : ((c.toNat : Int) == 59) = false := by rw [hm]; rfl
                              have e124 : ((c.toNat : Int) == 124) = false := by rw [hm]; rfl
                              have e40 : ((c.toNat : Int) == 40) = false := by rw [hm]; rfl
                              have e41 : ((c.toNat : Int) == 41) = false := by rw [hm]; rfl
                              have e63 : ((c.toNat : Int) == 63) = false := by rw [hm]; rfl
                              have e42 : ((c.toNat : Int) == 42) = false := by rw [hm]; rfl
                              have e43 : ((c.toNat : Int) == 43) = false := by rw [hm]; rfl
                              have e61 : ((c.toNat : Int) == 61) = false := by rw [hm]; rfl
                              have e123 : ((c.toNat : Int) == 123) = true := by rw [hm]; rfl
                              clear hm hmm
                              go_wp2_with fail
                              go_meet
                              exact ⟨rfl, rfl⟩
                            · as_aux_lemma =>
                              have hmm := hm
                              have e58 : ((c.toNat : Int) == 58) = false := by rw [hm]; rfl
                              have e59 : ((c.toNat : Int) == 59) = false := by rw [hm]; rfl
                              have e124 : ((c.toNat : Int) == 124) = false := by rw [hm]; rfl
                              have e40 : ((c.toNat : Int) == 40) = false := by rw [hm]; rfl
                              have e41 : ((c.toNat : Int) == 41) = false := by rw [hm]; rfl
                              have e63 : ((c.toNat : Int) == 63) = false := by rw [hm]; rfl
                              have e42 : ((c.toNat : Int) == 42) = false := by rw [hm]; rfl
                              have e43 : ((c.toNat : Int) == 43) = false := by rw [hm]; rfl
                              have e61 : ((c.toNat : Int) == 61) = false := by rw [hm]; rfl
                              have e123 : ((c.toNat : Int) == 123) = false := by rw [hm]; rfl
                              have e125 : ((c.toNat : Int) == 125) = true := by rw [hm]; rfl
                              clear hm hmm
                              go_wp2_with fail
                              go_meet
                              exact ⟨rfl, rfl⟩
                            · as_aux_lemma =>
                              have hmm := hm
                              have e58 : ((c.toNat : Int) == 58) = false := by rw [hm]; rfl
                              have e59 : ((c.toNat : Int) == 59) = false := by rw [hm]; rfl
                              have e124 : ((c.toNat : Int) == 124) = false := by rw [hm]; rfl
                              have e40 : ((c.toNat : Int) == 40) = false := by rw [hm]; rfl
                              have e41 : ((c.toNat : Int) == 41) = false := by rw [hm]; rfl
                              have e63 : ((c.toNat : Int) == 63) = false := by rw [hm]; rfl
                              have e42 : ((c.toNat : Int) == 42) = false := by rw [hm]; rfl
                              have e43 : ((c.toNat : Int) == 43) = false := by rw [hm]; rfl
                              have e61 : ((c.toNat : Int) == 61) = false := by rw [hm]; rfl
                              have e123 : ((c.toNat : Int) == 123) = false := by rw [hm]; rfl
                              have e125 : ((c.toNat : Int) == 125) = false := by rw [hm]; rfl
                              have e46 : ((c.toNat : Int) == 46) = true := by rw [hm]; rfl
                              clear hm hmm
                              go_wp2_with fail
                              go_meet
                              exact ⟨rfl, rfl⟩
                            · as_aux_lemma =>
                              have hmm := hm
                              have e58 : ((c.toNat : Int) == 58) = false := by rw [hm]; rfl
                              have e59 : ((c.toNat : Int) == 59) = false := by rw [hm]; rfl
                              have e124 : ((c.toNat : Int) == 124) = false := by rw [hm]; rfl
                              have e40 : ((c.toNat : Int) == 40) = false := by rw [hm]; rfl
                              have e41 : ((c.toNat : Int) == 41) = false := by rw [hm]; rfl
                              have e63 : ((c.toNat : Int) == 63) = false := by rw [hm]; rfl
                              have e42 : ((c.toNat : Int) == 42) = false := by rw [hm]; rfl
                              have e43 : ((c.toNat : Int) == 43) = false := by rw [hm]; rfl
                              have e61 : ((c.toNat : Int) == 61) = false := by rw [hm]; rfl
                              have e123 : ((c.toNat : Int) == 123) = false := by rw [hm]; rfl
                              have e125 : ((c.toNat : Int) == 125) = false := by rw [hm]; rfl
                              have e46 : ((c.toNat : Int) == 46) = false := by rw [hm]; rfl
                              have e126 : ((c.toNat : Int) == 126) = true := by rw [hm]; rfl
                              clear hm hmm
                              go_wp2_with fail
                              go_meet
                              exact ⟨rfl, rfl⟩
                          | false =>
                            rw [decide_eq_false_iff_not] at hmk
                            simp only [not_or] at hmk
                            obtain ⟨k1, k2, k3, k4, k5, k6, k7, k8, k9, k10, k11, k12, k13⟩ := hmk
                            have e58 : ((c.toNat : Int) == 58) = false := by rw [beq_eq_false_iff_ne]; omega
                            have e59 : ((c.toNat : Int) == 59) = false := by rw [beq_eq_false_iff_ne]; omega
                            have e124 : ((c.toNat : Int) == 124) = false := by rw [beq_eq_false_iff_ne]; omega
                            have e40 : ((c.toNat : Int) == 40) = false := by rw [beq_eq_false_iff_ne]; omega
                            have e41 : ((c.toNat : Int) == 41) = false := by rw [beq_eq_false_iff_ne]; omega
                            have e63 : ((c.toNat : Int) == 63) = false := by rw [beq_eq_false_iff_ne]; omega
                            have e42 : ((c.toNat : Int) == 42) = false := by rw [beq_eq_false_iff_ne]; omega
                            have e43 : ((c.toNat : Int) == 43) = false := by rw [beq_eq_false_iff_ne]; omega
                            have e61 : ((c.toNat : Int) == 61) = false := by rw [beq_eq_false_iff_ne]; omega
                            have e123 : ((c.toNat : Int) == 123) = false := by rw [beq_eq_false_iff_ne]; omega
                            have e125 : ((c.toNat : Int) == 125) = false := by rw [beq_eq_false_iff_ne]; omega
                            have e46 : ((c.toNat : Int) == 46) = false := by rw [beq_eq_false_iff_ne]; omega
                            have e126 : ((c.toNat : Int) == 126) = false := by rw [beq_eq_false_iff_ne]; omega
                            clear HMK HWW HGG2 HGG3 HWO d0 d1 d2 dd e39 e91 HB1 HB2 HCC HEE k1 k2 k3 k4 k5 k6 k7 k8 k9 k10 k11 k12 k13
                            go_wp2_with fail
                            go_meet
                            exact ⟨rfl, rfl⟩
                        case rest =>
                          obtain ⟨rfl, rfl⟩ := hcut
                          have hw := HWW.out
                          cases mk with
                          | true =>
                            rw [if_pos rfl] at hw
                            obtain ⟨rfl, rfl, rfl⟩ : wv = ⟨4, (s.data.toList.drop q).take 1, [], q⟩ ∧ q' = q + 1 ∧ f = 0 := by
                              simp only [Prod.mk.injEq] at hw
                              exact ⟨hw.1.symm, hw.2.1.symm, hw.2.2.symm⟩
                            clear hw HWW HMK HGG2 HGG3 HWO
                            obtain ⟨t, ht⟩ : ∃ t, s.extract q (q + 1) = t := ⟨_, rfl⟩
                            have htl : t.data.toList = (s.data.toList.drop q).take 1 := by rw [← ht]; exact slice_list s q (q + 1) 1 rfl
                            have HTL := Lib.hid htl
                            have hqn : q + 1 ≤ s.size := by omega
                            have hsl : ∀ V : World, (Instr.slice 9 (.string s) (some (.int .i64 (q : Nat))) (some (.int .i64 ((q : Int) + 1))) none).run Tryz.prog V = .ok (.string t) V := fun V => by rw [← ht]; exact slice_at s q (q + 1) _ V (by omega) (by omega) hqn
                            have HSL := Lib.hid hsl
                            have hO5 : Hid (Owns ((wc.setCell ⟨nb, 0, none⟩ (.int .i64 4)).setCell ⟨nb, 1, none⟩ (.string t)) nb (.int .i64 ((4 : Nat) : Int) :: .string t :: .slice none 0 0 :: posC s.data.toList q) 54) := (O3.out.set 0 _).set 1 _
                            have hU5 := Lib.hid (((Upd.refl nb wc).setCell 0 (.int .i64 4)).setCell 1 (.string t))
                            have d1b := (O3.out.set 0 (.int .i64 4)).cell_at (i := 1) rfl
                            have ddb := (O3.out.set 0 (.int .i64 4)).free
                            clear htl hsl ht
                            go_wp2_with fail
                            rw [HSL.out]
                            simp only [Result.andThen]
                            go_wp2_with fail
                            go_meet
                            exact ⟨hU5.out, .inl ⟨rfl, by go_num, t, _, HTL.out, ⟨_, _, _, rfl⟩, ⟨rfl, .inl ⟨rfl, rfl⟩⟩, hO5.out⟩⟩
                          | false =>
                            rw [if_neg (by simp)] at hw
                            obtain ⟨rfl, rfl, rfl⟩ : wv = ⟨4, (s.data.toList.drop q).take 0, [], q⟩ ∧ q' = q + 0 ∧ f = 4 := by
                              simp only [Prod.mk.injEq] at hw
                              exact ⟨hw.1.symm, hw.2.1.symm, hw.2.2.symm⟩
                            clear hw HWW HMK HGG2 HGG3 HWO
                            go_wp2_with fail
                            go_meet
                            exact ⟨Upd.refl _ _, .inr ⟨rfl, rfl, _, _, _, O3.out⟩⟩
          case rest =>
            obtain ⟨hU, hW⟩ := hcut
            have U4 := Lib.hid hU
            have hz4 := hU.size
            clear hU
            rcases hW with ⟨rfl, rfl, t, sv, ht, ⟨sa, sn, sc, rfl⟩, hsv, hO4⟩ | ⟨rfl, rfl, a0, a1, a2, hO4⟩
            · have n1 : ¬ ((q' : Int) < 0) := by omega
              obtain ⟨hwq, hwl⟩ := (HWO.out.2.1 rfl).2
              have hwat := HWO.out.1
              obtain ⟨wk, wt, wset, wat⟩ := wv
              simp only at ht hsv hO4 hwat
              subst hwat
              have hg24 : Grew w2 wc := Below.trans HG3.out (U4.out.below (by rw [HNB.out]; exact Nat.le_refl _) (by rw [HNB.out]; omega))
              have hV4 := HV2.out.grew hg24
              have HC4 := Lib.hid (HC3.out.upd U4.out (by omega))
              have HB4 := Lib.hid (Below.trans HB3.out (U4.out.below (by omega) (by omega)))
              have HT := Lib.hid ht
              have d0 := hO4.cell_at (i := 0) rfl
              have d1 := hO4.cell_at (i := 1) rfl
              have d2 := hO4.cell_at (i := 2) rfl
              have d3 := hO4.cell_at (i := 3) rfl
              have d4 := hO4.cell_at (i := 4) rfl
              have d5 := hO4.cell_at (i := 5) rfl
              obtain ⟨w10, hw10⟩ : ∃ w10, wc.alloc (.cells #[.int .i64 (wk : Nat), .string t, .slice sa sn sc, .int .i64 (wat : Nat), .int .i64 ((placeOf (s.data.toList.take wat) 1 1).1 : Nat), .int .i64 ((placeOf (s.data.toList.take wat) 1 1).2 : Nat)] 54) = w10 := ⟨_, rfl⟩
              have g10 : Grew wc w10 := hw10 ▸ grew_alloc wc _
              have o10 : Owns w10 wc.heap.size [.int .i64 (wk : Nat), .string t, .slice sa sn sc, .int .i64 (wat : Nat), .int .i64 ((placeOf (s.data.toList.take wat) 1 1).1 : Nat), .int .i64 ((placeOf (s.data.toList.take wat) 1 1).2 : Nat)] 54 := hw10 ▸ Owns.alloc wc _ _
              have HC10 := Lib.hid (HC4.out.keep g10)
              have HB10 := Lib.hid (Below.trans HB4.out (Below.mono g10 (by omega)))
              have HSV10 := Lib.hid (loose_grew hsv g10)
              obtain ⟨cs, hv1, hv2⟩ := hV4.grew g10
              have R10 := Lib.hid hv1
              have VC10 := Lib.hid hv2
              have HNS := Lib.hid (owns_all o10)
              have hz10 := g10.size
              have H63 := Lib.hid (show acc.length + 1 ≤ maxLen by unfold maxLen; omega)
              have H64 := Lib.hid (show (acc.length + 1) * 72 ≤ 140737488355328 by omega)
              have HLIM := Lib.hid (show W.heap.size + 1 ≤ w10.heap.size by omega)
              have HOWN10 := Lib.hid (loose_own R10.out)
              have HKIND := Lib.hid (row_kind R10.out)
              obtain ⟨i0, hi0, hz0, hz1, hz2'⟩ := info_parts info_rword
              have HI0 := Lib.hid hi0
              have HZ0 := Lib.hid hz0
              have HZ1 := Lib.hid hz1
              have HZ2 := Lib.hid hz2'
              have HQ := Lib.hid (And.intro hwq hwl)
              clear g10 o10 hi0 hz0 hz1 hz2' hv1 hv2 hV4 hg24 hsv hO4 ht HC3 HB3 HC4 HB4 U4 HGG2 O3 HWO
              go_wp2_with (at_builtin; refine wpList_append_loose w10 rfl _ _ 31 rfl (W.heap.size + 1) 54 i0 _ 6 72 Tryz.underlying31 HI0.out HZ0.out HZ1.out HZ2.out rfl (by decide) _ acc.length cs rfl R10.out ⟨wc.heap.size, 0, none⟩ 1 1 [.int .i64 (wk : Nat), .string t, .slice sa sn sc, .int .i64 (wat : Nat), .int .i64 ((placeOf (s.data.toList.take wat) 1 1).1 : Nat), .int .i64 ((placeOf (s.data.toList.take wat) 1 1).2 : Nat)] rfl rfl HNS.out (fun u hu => by simp only [List.mem_cons, List.not_mem_nil, or_false] at hu; rcases hu with rfl | rfl | rfl | rfl | rfl | rfl <;> rfl) (by decide) H63.out H64.out HLIM.out _ rfl ?_; intro gb cap w11 hown hgrow _ _; have HOWN := Lib.hid hown; have HGROW := Lib.hid hgrow; clear hown hgrow)
              have hb11 := below_grown HGROW.out HOWN10.out HLIM.out
              have HC11 := Lib.hid (HC10.out.below hb11 (by omega))
              have HB11 := Lib.hid (Below.trans HB10.out (hb11.mono (by omega)))
              have V11 : Hid (RWordsV w11 (W.heap.size + 1) s.data.toList (.slice (some ⟨gb, 0, none⟩) (acc.length + 1) cap) (acc ++ [⟨wk, wt, wset, wat⟩])) := by
                have hm : ∀ sv set, RangesV w10 (W.heap.size + 1) sv set → RangesV w11 (W.heap.size + 1) sv set := fun sv set hr => rranges_other hr HGROW.out HKIND.out
                have := RWCells.snoc (w := ⟨wk, wt, wset, wat⟩) HT.out (hm _ _ HSV10.out) ⟨_, _, _, rfl⟩ (VC10.out.map hm)
                refine ⟨_, ?_, this⟩
                rw [List.length_append, List.length_singleton]
                exact HOWN.out
              obtain ⟨hwq, hwl⟩ := HQ.out
              rw [hLs] at hwl
              refine ⟨⟨q', k, _, rfl, hwl, by omega, by rw [List.length_append, List.length_singleton]; omega, V11, HGG3.out rfl, HB11.out, HC11.out⟩, ?_⟩
              simp only [intOf]
              omega
            · have hoo := HGG2.out (by decide)
              have hqq := (HWO.out.2.2 (by decide)).1
              subst hqq
              subst hoo
              have d3 := hO4.cell_at (i := 3) rfl
              have d4 := hO4.cell_at (i := 4) rfl
              have d5 := hO4.cell_at (i := 5) rfl
              have hnlt := hO4.lt
              have F2 := Lib.hid (HC3.out.upd U4.out (by omega))
              have B2 := Lib.hid (Below.trans HB3.out (U4.out.below (by omega) (by omega)))
              have hz5 := B2.out.size
              clear hO4 HGG2 HGG3 HWO
              go_upto_region 45 with fail
              refine wp_region_hav_lit follows (by kernel_rfl) ?_
              repeat (first
                | (refine HavG.skip (fun _ => rfl) ?_; simp only [Act.put, List.setIfInBounds_toArray, List.set_cons_zero, List.set_cons_succ])
                | (refine HavG.val (fun _ => rfl) ?_ (fun x w hw _ => ?_) ?_; rotate_left; (focus (have hc := hw.cells; clear hw; go_simp; first | done | rfl)); simp only [Act.put, List.setIfInBounds_toArray, List.set_cons_zero, List.set_cons_succ]))
              refine HavG.tail (by kernel_rfl) (by kernel_rfl) (fun x w hw _ => ?_)
              have F5 := F2.out.keep hw
              have f0 := F5.cell_at (i := 0) rfl
              have f1 := F5.cell_at (i := 1) rfl
              have f2 := F5.cell_at (i := 2) rfl
              have ff := F5.free
              have F3 : Hid (Owns (((w.setCell ⟨W.heap.size, 0, none⟩ (.int .i64 (q' : Nat))).setCell ⟨W.heap.size, 1, none⟩ (.int .i64 ((placeOf (s.data.toList.take q') 1 1).1 : Nat))).setCell ⟨W.heap.size, 2, none⟩ (.int .i64 ((placeOf (s.data.toList.take q') 1 1).2 : Nat))) W.heap.size (posC s.data.toList q') 26) := owns_three F5 _ _ _
              have B3 : Hid (Below W.heap.size W (((w.setCell ⟨W.heap.size, 0, none⟩ (.int .i64 (q' : Nat))).setCell ⟨W.heap.size, 1, none⟩ (.int .i64 ((placeOf (s.data.toList.take q') 1 1).1 : Nat))).setCell ⟨W.heap.size, 2, none⟩ (.int .i64 ((placeOf (s.data.toList.take q') 1 1).2 : Nat)))) := below_three (Below.trans B2.out (Below.mono hw (by omega))) (Nat.le_refl _) _ _ _
              clear F5 hw d3 d4 d5
              go_wp2_with fail
              refine bodyPost_ret (tmp2_cell (d := Tryz.prog.underlying 26 |>.getD default) rfl _ _ W.heap.size 26 _ (0, 0) rfl F3.out rfl rfl rfl) rfl ?_
              exact ⟨B3.out, fun _ => rfl, fun h => absurd h (by simp)⟩
        · obtain rfl : q = s.size := by omega
          have hoo : o = (acc, 0, 0) := by
            have := HF2.out
            unfold wordsG at this
            rw [if_pos (by omega)] at this
            exact this.symm
          subst hoo
          obtain ⟨va, vc, hv⟩ : ∃ a c, u6 = .slice a acc.length c := by
            obtain ⟨cs, h1, h2⟩ := HV.out
            rcases h1.2 with ⟨rfl, hn⟩ | ⟨g, cap, cur, hv, _⟩
            · exact ⟨none, 0, by rw [hn]⟩
            · exact ⟨_, _, hv⟩
          subst hv
          have f0 := HC.out.cell_at (i := 0) rfl
          have f1 := HC.out.cell_at (i := 1) rfl
          have f2 := HC.out.cell_at (i := 2) rfl
          have ff := HC.out.free
          have F3 : Hid (Owns (((wr.setCell ⟨W.heap.size, 0, none⟩ (.int .i64 0)).setCell ⟨W.heap.size, 1, none⟩ (.int .i64 0)).setCell ⟨W.heap.size, 2, none⟩ (.int .i64 0)) W.heap.size [.int .i64 0, .int .i64 0, .int .i64 0] 26) := owns_three HC.out _ _ _
          have B3 : Hid (Below W.heap.size W (((wr.setCell ⟨W.heap.size, 0, none⟩ (.int .i64 0)).setCell ⟨W.heap.size, 1, none⟩ (.int .i64 0)).setCell ⟨W.heap.size, 2, none⟩ (.int .i64 0))) := below_three HB.out (Nat.le_refl _) _ _ _
          have U3 : Hid (Upd W.heap.size wr (((wr.setCell ⟨W.heap.size, 0, none⟩ (.int .i64 0)).setCell ⟨W.heap.size, 1, none⟩ (.int .i64 0)).setCell ⟨W.heap.size, 2, none⟩ (.int .i64 0))) := (((Upd.refl W.heap.size wr).setCell 0 (.int .i64 0)).setCell 1 (.int .i64 0)).setCell 2 (.int .i64 0)
          clear hg1 hg2 hk hp
          go_wp2_with fail
          refine (HG.out _).mono ?_
          rintro e w ⟨rfl, rfl⟩
          go_wp2_with fail
          refine bodyPost_ret (tmp2_cell (d := Tryz.prog.underlying 26 |>.getD default) rfl _ _ W.heap.size 26 _ (0, 0) rfl F3.out rfl rfl rfl) rfl ?_
          refine ⟨B3.out, fun h => absurd rfl h, fun _ => ⟨_, rfl, ?_, ⟨_, _, rfl⟩⟩⟩
          obtain ⟨cs, h1, h2⟩ := HV.out
          exact ⟨cs, loose_mono (loose_upd h1 U3.out (by omega)) (by omega), h2.map fun _ _ h => loose_mono (loose_upd h U3.out (by omega)) (by omega)⟩
      · rw [if_pos he] at hf
        subst hf
        rw [if_neg he] at hG
        have he4 : e = 4 := by rcases hg3 with h | h <;> omega
        subst he4
        have HP := Lib.hid (fun w => refPlace_ok s q w hs hg2)
        obtain ⟨z, hz⟩ : ∃ z : Int, -1 - (q : Int) = z := ⟨_, rfl⟩
        rw [hz] at hG
        have n0 : z < 0 := by omega
        have wz : wrap64 (-1 - z) = (q : Int) := by
          rw [show (-1 - z) = ((q : Nat) : Int) by omega]
          exact wrap_smallN q (by omega)
        have HG := Lib.hid hG
        clear hG hz hg HF hg3 he
        go_wp2_with fail
        refine (HG.out _).mono ?_
        rintro e w ⟨rfl, rfl⟩
        go_wp2_with fail
        refine (HP.out _).mono ?_
        rintro e w2 ⟨rfl, hg2⟩
        have F2 := HC.out.below hg2 (by omega)
        have f0 := F2.cell_at (i := 0) rfl
        have f1 := F2.cell_at (i := 1) rfl
        have f2 := F2.cell_at (i := 2) rfl
        have ff := F2.free
        have F3 : Hid (Owns (((w2.setCell ⟨W.heap.size, 0, none⟩ (.int .i64 (q : Nat))).setCell ⟨W.heap.size, 1, none⟩ (.int .i64 ((placeOf (s.data.toList.take q) 1 1).1 : Nat))).setCell ⟨W.heap.size, 2, none⟩ (.int .i64 ((placeOf (s.data.toList.take q) 1 1).2 : Nat))) W.heap.size (posC s.data.toList q) 26) := owns_three F2 _ _ _
        have B3 : Hid (Below W.heap.size W (((w2.setCell ⟨W.heap.size, 0, none⟩ (.int .i64 (q : Nat))).setCell ⟨W.heap.size, 1, none⟩ (.int .i64 ((placeOf (s.data.toList.take q) 1 1).1 : Nat))).setCell ⟨W.heap.size, 2, none⟩ (.int .i64 ((placeOf (s.data.toList.take q) 1 1).2 : Nat)))) := below_three (Below.trans HB.out (hg2.mono (by omega))) (Nat.le_refl _) _ _ _
        clear hg2 F2
        go_wp2_with fail
        refine bodyPost_ret (tmp2_cell (d := Tryz.prog.underlying 26 |>.getD default) rfl _ _ W.heap.size 26 _ (0, 0) rfl F3.out rfl rfl rfl) rfl ?_
        exact ⟨B3.out, fun _ => rfl, fun h => absurd h (by simp)⟩
end Go.Proofs.YtdgkpmpakkfgbaaGreatDoor
