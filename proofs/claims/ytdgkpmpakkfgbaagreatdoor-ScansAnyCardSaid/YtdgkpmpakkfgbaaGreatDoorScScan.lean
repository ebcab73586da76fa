/- Scan: the words of a text, or the first fault. -/
import Derived.Test.YtdgkpmpakkfgbaaGreatDoorScPlc
namespace Go.Proofs.YtdgkpmpakkfgbaaGreatDoor
open Go.RowKit

theorem tmp_cell {fn : Func} {P : Program} {p u : Tmp} {ty : TypeId} (h : fn.results = #[.tmp u, .cell p ty]) (tmps : Array Value) (w : World) (g : Nat) (t : TypeId) (cs : Array Value) (fr : Nat × Nat) (d : TypeDesc)
    (hp : tmps.getD p undef = .pointer (some ⟨g, 0, none⟩)) (hg : w.heap[g]? = some (.cells cs t fr)) (hu : P.underlying ty = some d) (hd : (match d with | .struct _ | .array _ _ => true | _ => false) = true) (hi : (P.info? ty).map (·.size) = some cs.size) :
    (results fn tmps).run P w = .ok (.tuple #[tmps.getD u undef, .agg cs]) w := by
  have hp' : tmps[p]?.getD undef = .pointer (some ⟨g, 0, none⟩) := by simpa using hp
  simp [results, h, hp', asAddr, run_loadVar_row w g t ty cs fr d hg hu hd hi]

theorem loose_grew {W W' : World} {base e size n : Nat} {v : Value} {xs : List Value} (h : looseRow W base e size v n xs) (hg : Grew W W') : looseRow W' base e size v n xs := by
  refine ⟨h.1, h.2.imp id ?_⟩
  rintro ⟨g, cap, cur, h1, h2, h3, h4, h5, h6, h7⟩
  exact ⟨g, cap, cur, h1, h2, (hg.block g (Array.getElem?_eq_some_iff.1 h3).1).trans h3, h4, h5, h6, h7⟩
theorem info_word : (Tryz.prog.info? 38).map (fun i => (i.zero, i.size, i.bytes)) = some (some (.agg #[.int .u8 0, .string { data := #[] }, .slice none 0 0, .int .i64 0, .int .i64 0, .int .i64 0]), 6, 72) := by kernel_rfl
theorem owns_all {w : World} {b T : Nat} {cs : List Value} (h : Owns w b cs T) : ∀ (j : Nat) u, cs[j]? = some u → w.cell? ((⟨b, 0, none⟩ : Addr).add j) = some u := by
  intro j u hj
  have := h.cell_at hj
  rw [show (⟨b, 0, none⟩ : Addr).add j = ⟨b, j, none⟩ by unfold Addr.add; split <;> simp_all]
  exact this
def faultV (l : List UInt8) (e q : Nat) : Value := .agg #[.int .i64 (e : Nat), .int .i64 (q : Nat), .int .i64 ((placeOf (l.take q) 1 1).1 : Nat), .int .i64 ((placeOf (l.take q) 1 1).2 : Nat)]
/-- what a scan tells -/
def ScanIs (W : World) (l : List UInt8) (o : List Wd × Nat × Nat) (r : Ending) (W' : World) : Prop :=
  Grew W W' ∧ (o.2.2 ≠ 0 → r = .returned (.tuple #[.slice none 0 0, faultV l o.2.2 o.2.1])) ∧
    (o.2.2 = 0 → ∃ v, r = .returned (.tuple #[v, .agg #[.int .i64 0, .int .i64 0, .int .i64 0, .int .i64 0]]) ∧ WordsV W' W.heap.size l v o.1 ∧ (∃ a c, v = .slice a o.1.length c))

set_option maxHeartbeats 8000000 in
set_option maxRecDepth 20000 in
theorem scan_ok (s : ByteArray) (W : World) (hs : s.size ≤ 65536) (hW : LaidS W) :
    Calls Tryz.prog 5 #[.string s] W (ScanIs W s.data.toList (scanF s.data.toList)) := by
  have hB := fun w (hg : Grew W w) => bad_ok s w (by omega) (hW.below hg).tabs
  rw [bad_L] at hB
  have hbge := bad_ge s
  rw [bad_L] at hbge
  have hLs : s.data.toList.length = s.size := (Lib.size_eq s).symm
  have hgl := hW.lim
  obtain ⟨o, ho⟩ : ∃ o, scanF s.data.toList = o := ⟨_, rfl⟩
  rw [ho]
  unfold scanF at ho
  rw [if_neg (by omega)] at ho
  have HO := Lib.hid ho
  have HW := Lib.hid hW
  obtain ⟨w1, hw1⟩ : ∃ w1, W.alloc (.cells #[.int .i64 0, .int .i64 0, .int .i64 0, .int .i64 0] 28) = w1 := ⟨_, rfl⟩
  have g1 : Grew W w1 := hw1 ▸ grew_alloc W _
  have o1 : Owns w1 W.heap.size [.int .i64 0, .int .i64 0, .int .i64 0, .int .i64 0] 28 := hw1 ▸ Owns.alloc W _ _
  have hz1 : w1.heap.size = W.heap.size + 1 := by rw [← hw1]; simp
  have g2 := grew_alloc w1 (.cells #[.string s, .int .i64 ((0 : Nat) : Int), .int .i64 ((0 : Nat) : Int)] 45)
  have o2 := Owns.alloc w1 [.string s, .int .i64 ((0 : Nat) : Int), .int .i64 ((0 : Nat) : Int)] 45
  rw [hz1] at o2
  have hz2 : (w1.alloc (.cells #[.string s, .int .i64 ((0 : Nat) : Int), .int .i64 ((0 : Nat) : Int)] 45)).heap.size = W.heap.size + 2 := by simp [hz1]
  obtain ⟨b, hbad⟩ : ∃ b, badOf s.data.toList 0 = b := ⟨_, rfl⟩
  have HBAD := Lib.hid hbad
  rw [hbad] at hB hbge ho HO
  have HB := Lib.hid hB
  clear hB ho hW hbad
  go_enter Tryz.func5, Tryz.ntmps5
  go_wp2_with fail
  have o3 := o1.keep g2
  have g3 := g1.trans g2
  generalize w1.alloc (.cells #[.string s, .int .i64 ((0 : Nat) : Int), .int .i64 ((0 : Nat) : Int)] 45) = w2 at *
  refine (HB.out w2 g3).mono ?_
  rintro e w3 ⟨rfl, hg3⟩
  have G3 := Lib.hid (g3.trans hg3)
  have F3 := Lib.hid (o3.keep hg3)
  have C3 := Lib.hid (o2.keep hg3)
  have hz3 : W.heap.size + 2 ≤ w3.heap.size := by have := hg3.size; omega
  clear g1 g2 o1 o2 o3 g3 hg3 hw1 hz1 hz2 HB
  have hPl : Hid (∀ w (q : Nat), q ≤ s.size → Calls Tryz.prog 10 #[.string s, .int .i64 (q : Nat)] w fun e W' => e = .returned (.agg #[.int .i64 (q : Nat), .int .i64 ((placeOf (s.data.toList.take q) 1 1).1 : Nat), .int .i64 ((placeOf (s.data.toList.take q) 1 1).2 : Nat)]) ∧ Grew w W') := fun w q hq => by
    have := place_ok s (q : Int) w (by omega) (by omega) (by omega)
    unfold PlaceIs at this
    rw [place_L, within_nat s q hq] at this
    exact this
  by_cases hb0 : 0 ≤ b
  · obtain ⟨q, rfl⟩ := Int.eq_ofNat_of_zero_le hb0
    have hq : q ≤ s.size := by
      have := badL_lt s.data.toList.length s.data.toList 0
      have hbo := HBAD.out
      unfold badOf at hbo
      rw [hbo] at this
      omega
    have ho := HO.out
    rw [if_pos hb0, Int.toNat_natCast] at ho
    subst ho
    have hs3 := place_small (s.data.toList.take q)
    rw [List.length_take, hLs] at hs3
    have HP := Lib.hid (hPl.out w3 q hq)
    clear HO HBAD hPl
    go_wp2_with fail
    refine HP.out.mono ?_
    rintro e w8 ⟨rfl, hg8⟩
    have G8 := Lib.hid (G3.out.trans hg8)
    have F8 := F3.out.keep hg8
    have f0 := F8.cell_at (i := 0) rfl
    have f1 := F8.cell_at (i := 1) rfl
    have f2 := F8.cell_at (i := 2) rfl
    have f3 := F8.cell_at (i := 3) rfl
    have ff := F8.free
    have F9 := Lib.hid ((((F8.set 0 (.int .i64 ((4 : Nat) : Int))).set 1 (.int .i64 (q : Nat))).set 2 (.int .i64 ((placeOf (s.data.toList.take q) 1 1).1 : Nat))).set 3 (.int .i64 ((placeOf (s.data.toList.take q) 1 1).2 : Nat)))
    have G9 := Lib.hid (((((G8.out : Below W.heap.size W w8).setCell (p := ⟨W.heap.size, 0, none⟩) (Nat.le_refl _) (.int .i64 ((4 : Nat) : Int))).setCell (p := ⟨W.heap.size, 1, none⟩) (Nat.le_refl _) (.int .i64 (q : Nat))).setCell (p := ⟨W.heap.size, 2, none⟩) (Nat.le_refl _) (.int .i64 ((placeOf (s.data.toList.take q) 1 1).1 : Nat))).setCell (p := ⟨W.heap.size, 3, none⟩) (Nat.le_refl _) (.int .i64 ((placeOf (s.data.toList.take q) 1 1).2 : Nat)))
    clear hg8 F8
    go_wp2_with fail
    refine bodyPost_ret (tmp_cell (d := Tryz.prog.underlying 28 |>.getD default) rfl _ _ W.heap.size 28 _ (0, 0) rfl F9.out rfl rfl rfl) rfl ?_
    exact ⟨G9.out, fun _ => rfl, fun h => absurd h (by simp)⟩
  · have ho := HO.out
    rw [if_neg hb0] at ho
    have HO2 := Lib.hid ho
    have hb1 : b < 0 := by omega
    have hbm : badOf s.data.toList 0 = -1 := by rw [HBAD.out]; omega
    have HGOOD := Lib.hid hbm
    clear HO HBAD ho hbm hb0
    go_wp2_with fail
    refine (places_ok s w3 (by omega)).mono ?_
    rintro e w4 ⟨rfl, hg4, hp4⟩
    have hs4 := hp4.str.lt
    have hs5 := hp4.pos.lt
    obtain ⟨sb, hsb⟩ : ∃ x, w3.heap.size = x := ⟨_, rfl⟩
    rw [hsb] at hp4 hs4 hs5 hz3 ⊢
    have PL4 := Lib.hid hp4
    have hg34 := hg4
    have F4 := Lib.hid (F3.out.keep hg4)
    have S4 : Hid (ScanAt w4 (W.heap.size + 1) s 0 0) := ⟨⟨C3.out.keep hg4, Nat.zero_le _, hs⟩, HW.out.below (G3.out.trans hg4), by omega⟩
    have G4 := Lib.hid (G3.out.trans hg4)
    clear hp4 hg4 hg34 G3 F3 C3 hsb
    have HG := Lib.hid (gap_ok w4 (W.heap.size + 1) s 0 S4.out)
    go_wp2_with fail
    refine HG.out.mono ?_
    rintro e w5 ⟨rfl, hu5, hS5⟩
    have PL5 : Hid (PlAt w5 sb (sb + 1) s 0) := ⟨PL4.out.str.upd hu5 (by omega), PL4.out.pos.upd hu5 (by omega), PL4.out.le, PL4.out.few⟩
    have F5 := Lib.hid (F4.out.upd hu5 (by omega))
    have B5 := Lib.hid (Below.trans (G4.out : Below W.heap.size W w4) (hu5.below (lim := W.heap.size) (by omega) (by have := G4.out.size; omega)))
    have S5 := Lib.hid hS5
    have hz5 : sb + 2 ≤ w5.heap.size := by have := hu5.size; omega
    clear hu5 hS5 PL4 F4 S4 G4 HG hs4 hs5
    have ho := HO2.out
    rw [wordsF_G] at ho
    generalize gapF s.data.toList (s.data.toList.length + 1) 0 = g0 at *
    obtain ⟨q0, e0⟩ := g0
    simp only at ho
    have S5 : Hid (ScanAt w5 (W.heap.size + 1) s q0 e0) := S5
    have HR : Hid ((e0 ≠ 0 → o = ([], q0, e0)) ∧ (e0 = 0 → wordsG s.data.toList s.data.toList.length q0 [] = o)) := by
      constructor
      · intro h
        rw [if_pos h] at ho
        exact ho.symm
      · intro h
        rw [if_neg (by simpa using h)] at ho
        exact ho
    clear ho HO2
    go_wp2_with fail
    go_loopw [2] (fun vo wr => ∃ q e : Nat, Hid (ScanAt wr (W.heap.size + 1) s q e) ∧ Hid (Below W.heap.size W wr) ∧ Hid (Owns wr W.heap.size [.int .i64 0, .int .i64 0, .int .i64 0, .int .i64 0] 28) ∧ w5.heap.size ≤ wr.heap.size ∧ Hid (e ≠ 0 → o = ([], q, e)) ∧
      Hid (e = 0 → ∃ (k : Nat) (acc : List Wd) (p0 : Nat), s.size ≤ q + k ∧ wordsG s.data.toList k q acc = o ∧ WordsV wr w5.heap.size s.data.toList vo acc ∧ acc.length ≤ q ∧ PlAt wr sb (sb + 1) s p0 ∧ p0 ≤ q ∧ badOf (s.data.toList.take p0) 0 = -1))
      (fun _ wr => if boxErr wr (W.heap.size + 1) = 0 then s.size + 1 - boxPos wr (W.heap.size + 1) else 0)
    case atStart =>
      exact ⟨q0, e0, S5, B5, F5, Nat.le_refl _, HR.out.1, fun h => ⟨s.data.toList.length, [], 0, by omega, HR.out.2 h, ⟨[], ⟨rfl, .inl ⟨rfl, rfl⟩⟩, rfl⟩, Nat.zero_le _, PL5.out, Nat.zero_le _, badOf_nil 0⟩⟩
    case round =>
      obtain ⟨q, e, HS, HB, HF, hsz, HFault, HMore⟩ := hrel
      clear S5 B5 F5 HR PL5
      have hmu := HS.out.box.pos
      have hme := HS.out.box.err
      have c1 := HS.out.box.c1
      have c2 := HS.out.box.c2
      have hql := HS.out.box.le
      by_cases he : e = 0
      · subst he
        obtain ⟨k, acc, p0, hk, hG, hV, hac, hPL, hp0, hgood⟩ := HMore.out rfl
        have HGG := Lib.hid hG
        have HV := Lib.hid hV
        have HPL := Lib.hid hPL
        have HGD := Lib.hid hgood
        clear hG hV hPL hgood HFault HMore
        by_cases hq : q < s.size
        · have HWD := Lib.hid (word_ok wr (W.heap.size + 1) s q HS.out hq)
          go_wp2_with fail
          refine HWD.out.mono ?_
          rintro e w6 ⟨t, sv, ht, hsv, ⟨va, vn, vc, rfl⟩, rfl, hu6, hS6⟩
          have hwo := wordF_ok s.data.toList q (by omega)
          have HGG2 : Hid ((wordF s.data.toList q).2.2 ≠ 0 → ([], (wordF s.data.toList q).2.1, (wordF s.data.toList q).2.2) = o) := fun h => by
            have := HGG.out
            unfold wordsG at this
            rw [if_neg (by omega), if_pos h] at this
            exact this
          have HGG3 : Hid ((wordF s.data.toList q).2.2 = 0 → wordsF s.data.toList k (wordF s.data.toList q).2.1 (acc ++ [(wordF s.data.toList q).1]) = o) := fun h => by
            have := HGG.out
            unfold wordsG at this
            rw [if_neg (by omega), if_neg (by simpa using h)] at this
            exact this
          generalize wordF s.data.toList q = wd at *
          obtain ⟨⟨wk, wt, wset, wat⟩, q', f⟩ := wd
          obtain ⟨rfl, hw0, hw1⟩ : wat = q ∧ (f = 0 → WdOk s.data.toList ⟨wk, wt, wset, wat⟩ ∧ wat < q' ∧ q' ≤ s.data.toList.length) ∧ (f ≠ 0 → q' = wat ∧ (f = 3 ∨ f = 4)) := ⟨hwo.1, by have := hwo.2.1; rw [← hwo.1] at this; exact this, by have := hwo.2.2; rw [← hwo.1] at this; exact this⟩
          have HT := Lib.hid ht
          have HSV := Lib.hid hsv
          have HW0 := Lib.hid hw0
          have HW1 := Lib.hid hw1
          have S6 := Lib.hid hS6
          have U6 := Lib.hid hu6
          have hz6 := hu6.size
          clear ht hsv hu6 hS6 hwo hw0 hw1 HGG HWD
          unfold wordV
          simp only
          have hg7 := grew_alloc w6 (.cells #[.int .u8 (wk : Nat), .string t, .slice va vn vc, .int .i64 (wat : Nat), .int .i64 0, .int .i64 0] 38)
          have hO7 := Owns.alloc w6 [.int .u8 (wk : Nat), .string t, .slice va vn vc, .int .i64 (wat : Nat), .int .i64 0, .int .i64 0] 38
          have hz7 : (w6.alloc (.cells #[.int .u8 (wk : Nat), .string t, .slice va vn vc, .int .i64 (wat : Nat), .int .i64 0, .int .i64 0] 38)).heap.size = w6.heap.size + 1 := by simp
          have hO7' : Owns (w6.alloc (.cells #[.int .u8 (wk : Nat), .string t, .slice va vn vc, .int .i64 (wat : Nat), .int .i64 0, .int .i64 0] 38)) w6.heap.size [.int .u8 (wk : Nat), .string t, .slice va vn vc, .int .i64 (wat : Nat), .int .i64 0, .int .i64 0] 38 := hO7
          go_wp2_with fail
          clear hO7'
          generalize w6.alloc (.cells #[.int .u8 (wk : Nat), .string t, .slice va vn vc, .int .i64 (wat : Nat), .int .i64 0, .int .i64 0] 38) = w7 at *
          obtain ⟨nb, hnb⟩ : ∃ x, w6.heap.size = x := ⟨_, rfl⟩
          rw [hnb] at hz7 hz6 hO7 ⊢
          have O7 := Lib.hid hO7
          have G67 := Lib.hid hg7
          have S7 := Lib.hid (S6.out.keep hg7)
          have U7 := Lib.hid (U6.out.trans (hg7.upd (W.heap.size + 1)))
          have PL7 : Hid (PlAt w7 sb (sb + 1) s p0) := ⟨HPL.out.str.upd U7.out (by omega), HPL.out.pos.upd U7.out (by omega), HPL.out.le, HPL.out.few⟩
          have F7 := Lib.hid (HF.out.upd U7.out (by omega))
          have V6 := Lib.hid (HV.out.upd U6.out (by omega))
          have U67 := Lib.hid (hg7.upd (sb + 1))
          have B7 := Lib.hid (Below.trans HB.out (U7.out.below (lim := W.heap.size) (by omega) (by omega)))
          have HSV6 : Hid (f = 0 → RangesV w6 w5.heap.size (.slice va vn vc) wset) := fun h => loose_mono (HSV.out h) hsz
          have HNB := Lib.hid hnb
          clear hO7 hg7 S6 U6 HPL HF HV HB HSV hnb
          refine (places1_ok w7 sb (sb + 1) s p0 wat PL7.out (by omega) hp0 (by omega)).mono ?_
          rintro e w8 ⟨A, C, rfl, hu8, hAC⟩
          have AC := Lib.hid hAC
          have o8 := O7.out.upd hu8 (by omega)
          have S8 := Lib.hid (S7.out.below (hu8.below (lim := sb + 1) (Nat.le_refl _) (by omega)) (by omega))
          have F8 := Lib.hid (F7.out.upd hu8 (by omega))
          have U68 := Lib.hid (U67.out.trans hu8)
          have B8 := Lib.hid (Below.trans B7.out (hu8.below (lim := W.heap.size) (by omega) (by omega)))
          have d0 := o8.cell_at (i := 0) rfl
          have d1 := o8.cell_at (i := 1) rfl
          have d2 := o8.cell_at (i := 2) rfl
          have d3 := o8.cell_at (i := 3) rfl
          have d4 := o8.cell_at (i := 4) rfl
          have d5 := o8.cell_at (i := 5) rfl
          have df := o8.free
          have hz8 := hu8.size
          have O9 : Hid (Owns (((w8.setCell ⟨nb, 3, none⟩ (.int .i64 (wat : Nat))).setCell ⟨nb, 4, none⟩ (.int .i64 A)).setCell ⟨nb, 5, none⟩ (.int .i64 C)) nb [.int .u8 (wk : Nat), .string t, .slice va vn vc, .int .i64 (wat : Nat), .int .i64 A, .int .i64 C] 38) := ((o8.set 3 _).set 4 _).set 5 _
          have U9 := Lib.hid ((((Upd.refl nb w8).setCell 3 (.int .i64 (wat : Nat))).setCell 4 (.int .i64 A)).setCell 5 (.int .i64 C))
          clear hu8 hAC o8 O7 S7 U7 PL7 F7 B7 G67 U67
          go_upto_region 13 with fail
          clear d0 d1 d2 d3 d4 d5 df
          generalize ((w8.setCell ⟨nb, 3, none⟩ (.int .i64 (wat : Nat))).setCell ⟨nb, 4, none⟩ (.int .i64 A)).setCell ⟨nb, 5, none⟩ (.int .i64 C) = w9 at *
          have d0 := O9.out.cell_at (i := 0) rfl
          have d1 := O9.out.cell_at (i := 1) rfl
          have d2 := O9.out.cell_at (i := 2) rfl
          have d3 := O9.out.cell_at (i := 3) rfl
          have d4 := O9.out.cell_at (i := 4) rfl
          have d5 := O9.out.cell_at (i := 5) rfl
          have hz9 := U9.out.size
          have B89 := U9.out.below (lim := nb) (Nat.le_refl _) (by omega)
          obtain ⟨w10, hw10⟩ : ∃ w10, w9.alloc (.cells #[.int .u8 (wk : Nat), .string t, .slice va vn vc, .int .i64 (wat : Nat), .int .i64 A, .int .i64 C] 38) = w10 := ⟨_, rfl⟩
          have g10 : Grew w9 w10 := hw10 ▸ grew_alloc w9 _
          have o10 : Owns w10 w9.heap.size [.int .u8 (wk : Nat), .string t, .slice va vn vc, .int .i64 (wat : Nat), .int .i64 A, .int .i64 C] 38 := hw10 ▸ Owns.alloc w9 _ _
          have B810 := Lib.hid (Below.trans B89 (Below.mono g10 (by omega)) : Below nb w8 w10)
          have S10 := Lib.hid (S8.out.below B810.out (by omega))
          have F10 := Lib.hid (F8.out.below B810.out (by omega))
          have B10 := Lib.hid (Below.trans B8.out (Below.mono B810.out (by omega)))
          have PL10 : Hid (PlAt w10 sb (sb + 1) s wat) := ⟨(AC.out HGD.out).2.2.str.below B810.out (by omega), (AC.out HGD.out).2.2.pos.below B810.out (by omega), (AC.out HGD.out).2.2.le, hs⟩
          have U610 := Lib.hid (U68.out.more B810.out (by rw [HNB.out]; exact Nat.le_refl _))
          have V10 := V6.out.upd U610.out (by omega)
          have HSV10 : Hid (f = 0 → RangesV w10 w5.heap.size (.slice va vn vc) wset) := fun h => ranges_upd (HSV6.out h) U610.out (by omega)
          obtain ⟨cs, hv1, hv2⟩ := V10
          have R10 := Lib.hid hv1
          have VC10 := Lib.hid hv2
          have HNS := Lib.hid (owns_all o10)
          have hz10 := g10.size
          have H63 := Lib.hid (show acc.length + 1 ≤ maxLen by unfold maxLen; omega)
          have H64 := Lib.hid (show (acc.length + 1) * 72 ≤ 140737488355328 by omega)
          have HLIM := Lib.hid (show w5.heap.size ≤ w10.heap.size by omega)
          have HOWN10 := Lib.hid (loose_own R10.out)
          have HKIND := Lib.hid (row_kind R10.out)
          obtain ⟨i0, hi0, hz0, hz1, hz2⟩ := info_parts info_word
          have HI0 := Lib.hid hi0
          have HZ0 := Lib.hid hz0
          have HZ1 := Lib.hid hz1
          have HZ2 := Lib.hid hz2
          have hlim2 := HLIM.out
          have hz910 : w9.heap.size < w10.heap.size := o10.lt
          clear g10 o10 hi0 hz0 hz1 hz2 B89 U9 B8 S8 F8 U68 V6 HSV6 O9 hv1 hv2 B810 U610
          go_upto_region 10 with (at_builtin; refine wpList_append_loose w10 rfl _ _ 23 rfl w5.heap.size 38 i0 _ 6 72 Tryz.underlying23 HI0.out HZ0.out HZ1.out HZ2.out rfl (by decide) _ acc.length cs rfl R10.out ⟨w9.heap.size, 0, none⟩ 1 1 [.int .u8 (wk : Nat), .string t, .slice va vn vc, .int .i64 (wat : Nat), .int .i64 A, .int .i64 C] rfl rfl HNS.out (fun u hu => by simp only [List.mem_cons, List.not_mem_nil, or_false] at hu; rcases hu with rfl | rfl | rfl | rfl | rfl | rfl <;> rfl) (by decide) H63.out H64.out HLIM.out _ rfl ?_; intro gb cap w11 hown hgrow _ _; have HOWN := Lib.hid hown; have HGROW := Lib.hid hgrow; clear hown hgrow)
          have hb11 := below_grown HGROW.out HOWN10.out HLIM.out
          have hz11 := HGROW.out.size
          have S11 := Lib.hid (S10.out.below hb11 (by omega))
          have F11 := Lib.hid (F10.out.below hb11 (by omega))
          have B11 := Lib.hid (Below.trans B10.out (hb11.mono (by omega)))
          have PL11 : Hid (PlAt w11 sb (sb + 1) s wat) := ⟨PL10.out.str.below hb11 (by omega), PL10.out.pos.below hb11 (by omega), PL10.out.le, hs⟩
          have V11 : Hid (f = 0 → WordsV w11 w5.heap.size s.data.toList (.slice (some ⟨gb, 0, none⟩) (acc.length + 1) cap) (acc ++ [⟨wk, wt, wset, wat⟩])) := fun h => by
            obtain ⟨hA, hC, _⟩ := AC.out HGD.out
            have hm : ∀ sv set, RangesV w10 w5.heap.size sv set → RangesV w11 w5.heap.size sv set := fun sv set hr => ranges_other hr HGROW.out HKIND.out
            have := WCells.snoc (w := ⟨wk, wt, wset, wat⟩) HT.out (hm _ _ (HSV10.out h)) ⟨_, _, _, rfl⟩ (VC10.out.map hm)
            refine ⟨_, ?_, this⟩
            rw [List.length_append, List.length_singleton]
            simp only
            rw [← hA, ← hC]
            exact HOWN.out
          clear S10 F10 B10 PL10 R10 VC10 HOWN HGROW hb11 HSV10 HNS HOWN10 HKIND
          have hmu11 : boxErr wr (W.heap.size + 1) = 0 := hme
          by_cases hf : f = 0
          · subst hf
            obtain ⟨hwd, hwq, hwl⟩ := HW0.out rfl
            have hgo2 : badOf (s.data.toList.take wat) 0 = -1 := take_good _ _ _ _ (Nat.le_refl _) HGOOD.out hwd.1 hwd.2.1
            obtain ⟨k, rfl⟩ : ∃ k', k = k' + 1 := ⟨k - 1, by omega⟩
            have ho := HGG3.out rfl
            rw [wordsF_G] at ho
            have hgap := gapF_le s.data.toList (s.data.toList.length + 1) q' hwl
            have HG := Lib.hid (gap_ok w11 (W.heap.size + 1) s q' S11.out)
            generalize gapF s.data.toList (s.data.toList.length + 1) q' = g0 at *
            obtain ⟨q0, e0⟩ := g0
            simp only at ho hgap
            have HG : Hid (Calls Tryz.prog 12 #[.pointer (some ⟨W.heap.size + 1, 0, none⟩)] w11 (GoesTo w11 (W.heap.size + 1) s q0 e0 (.tuple #[]))) := HG
            have HR1 : Hid (e0 ≠ 0 → o = ([], q0, e0)) := fun h => by rw [if_pos h] at ho; exact ho.symm
            have HR2 : Hid (e0 = 0 → wordsG s.data.toList k q0 (acc ++ [⟨wk, wt, wset, wat⟩]) = o) := fun h => by rw [if_neg (by simpa using h)] at ho; exact ho
            have HGO2 := Lib.hid hgo2
            have V11b := Lib.hid (V11.out rfl)
            clear ho hgo2 hwd HGG2 HGG3 HW0 HW1 V11
            go_wp2_with fail
            refine HG.out.mono ?_
            rintro e w12 ⟨rfl, hu12, hS12⟩
            have S12 := Lib.hid hS12
            have B12 := Lib.hid (Below.trans B11.out (hu12.below (lim := W.heap.size) (by omega) (by omega)))
            have F12 := Lib.hid (F11.out.upd hu12 (by omega))
            have PL12 : Hid (PlAt w12 sb (sb + 1) s wat) := ⟨PL11.out.str.upd hu12 (by omega), PL11.out.pos.upd hu12 (by omega), PL11.out.le, hs⟩
            have V12 := Lib.hid (V11b.out.upd hu12 (by omega))
            have hz12 := hu12.size
            clear hu12 hS12
            have hmu12 := S12.out.box.pos
            have hme12 := S12.out.box.err
            go_wp2_with fail
            refine ⟨⟨q0, e0, S12, B12, F12, by omega, HR1, fun h => ⟨k, _, wat, by omega, HR2.out h, V12.out, by rw [List.length_append, List.length_singleton]; omega, PL12.out, by omega, HGO2.out⟩⟩, ?_⟩
            rw [hmu12, hme12, hmu, hme, if_pos rfl]
            split <;> omega
          · have HW2 := HW1.out hf
            have HG := Lib.hid (gap_still w11 (W.heap.size + 1) s q' f S11.out hf)
            have HR1 : Hid (f ≠ 0 → o = ([], q', f)) := fun h => (HGG2.out h).symm
            have HF0 := Lib.hid hf
            clear HGG2 HGG3 HW0 HW1 V11 HW2
            go_wp2_with fail
            refine HG.out.mono ?_
            rintro e w12 ⟨rfl, hu12, hS12⟩
            have S12 := Lib.hid hS12
            have B12 := Lib.hid (Below.trans B11.out (hu12.below (lim := W.heap.size) (by omega) (by omega)))
            have F12 := Lib.hid (F11.out.upd hu12 (by omega))
            have hz12 := hu12.size
            clear hu12 hS12
            have hmu12 := S12.out.box.pos
            have hme12 := S12.out.box.err
            go_wp2_with fail
            refine ⟨⟨q', f, S12, B12, F12, by omega, HR1, fun h => absurd h HF0.out⟩, ?_⟩
            rw [hme12, hmu, hme, if_pos rfl, if_neg HF0.out]
            omega
        · have hoo : o = (acc, 0, 0) := by
            have := HGG.out
            unfold wordsG at this
            rw [if_pos (by omega)] at this
            exact this.symm
          subst hoo
          obtain ⟨cs, hv1, hv2⟩ := HV.out
          have HC := Lib.hid (clipW_ok wr w5.heap.size acc.length _ cs (by omega) hv1)
          have VC := Lib.hid hv2
          clear HGG hv1 hv2 HPL HGD HV
          have f0 := HF.out.cell_at (i := 0) rfl
          have f1 := HF.out.cell_at (i := 1) rfl
          have f2 := HF.out.cell_at (i := 2) rfl
          have f3 := HF.out.cell_at (i := 3) rfl
          have ff := HF.out.free
          have F9 := Lib.hid ((((HF.out.set 0 (.int .i64 0)).set 1 (.int .i64 0)).set 2 (.int .i64 0)).set 3 (.int .i64 0))
          have U9 := Lib.hid (((((Upd.refl W.heap.size wr).setCell 0 (.int .i64 0)).setCell 1 (.int .i64 0)).setCell 2 (.int .i64 0)).setCell 3 (.int .i64 0))
          go_wp2_with fail
          refine HC.out.mono ?_
          rintro e w8 ⟨⟨u, rfl, hu⟩, rfl⟩
          have HU := Lib.hid hu
          obtain ⟨ua, uc, rfl⟩ : ∃ a c, u = .slice a acc.length c := by
            rcases hu.2 with ⟨rfl, hn⟩ | ⟨g, cap, cur, hv, _⟩
            · exact ⟨none, 0, by rw [hn]⟩
            · exact ⟨_, _, hv⟩
          clear hu
          go_wp2_with fail
          refine bodyPost_ret (tmp_cell (d := Tryz.prog.underlying 28 |>.getD default) rfl _ _ W.heap.size 28 _ (0, 0) rfl F9.out rfl rfl rfl) rfl ?_
          refine ⟨Below.trans HB.out (U9.out.below (Nat.le_refl _) (by omega)), fun h => absurd rfl h, fun _ => ⟨_, rfl, ?_, ⟨_, _, rfl⟩⟩⟩
          exact ⟨cs, loose_mono (loose_upd HU.out U9.out (by omega)) (by omega), VC.out.map fun _ _ h => loose_mono (ranges_upd h U9.out (by omega)) (by omega)⟩
      · have hne : ((e : Int) == 0) = false := by rw [beq_eq_false_iff_ne]; omega
        have hne2 : ((e : Int) != 0) = true := by rw [bne, hne]; rfl
        have hne3 : ¬ ((e : Int) = 0) := by omega
        have hoo := HFault.out he
        subst hoo
        have HP : Hid (∀ w, Calls Tryz.prog 10 #[.string s, .int .i64 (q : Nat)] w fun e W' => e = .returned (.agg #[.int .i64 (q : Nat), .int .i64 ((placeOf (s.data.toList.take q) 1 1).1 : Nat), .int .i64 ((placeOf (s.data.toList.take q) 1 1).2 : Nat)]) ∧ Grew w W') := fun w => hPl.out w q hql
        have HEE := Lib.hid he
        have hcb := HS.out.box.owns.lt
        clear HMore HFault he
        go_upto_region 15 with fail
        refine wp_region_hav_lit follows (by kernel_rfl) ?_
        iterate 9 (first
          | (refine HavG.skip (fun _ => rfl) ?_; simp only [Act.put, List.setIfInBounds_toArray, List.set_cons_zero, List.set_cons_succ])
          | (refine HavG.val (fun _ => rfl) ?_ (fun x w hw _ => ?_) ?_; rotate_left; (focus (have hc := hw.cells; clear hw; go_simp; first | done | rfl)); simp only [Act.put, List.setIfInBounds_toArray, List.set_cons_zero, List.set_cons_succ]))
        refine HavG.det (fun _ => rfl) (.agg #[.int .i64 (q : Nat), .int .i64 ((placeOf (s.data.toList.take q) 1 1).1 : Nat), .int .i64 ((placeOf (s.data.toList.take q) 1 1).2 : Nat)]) (fun x w hw hd => ?_) ?_
        · clear hd
          have HW := Lib.hid hw
          clear hw
          go_simp
          refine (HP.out w).mono ?_
          rintro e w' ⟨rfl, hg⟩
          exact ⟨rfl, hg⟩
        simp only [Act.put, List.setIfInBounds_toArray, List.set_cons_zero, List.set_cons_succ]
        repeat (first
          | (refine HavG.skip (fun _ => rfl) ?_; simp only [Act.put, List.setIfInBounds_toArray, List.set_cons_zero, List.set_cons_succ])
          | (refine HavG.val (fun _ => rfl) ?_ (fun x w hw _ => ?_) ?_; rotate_left; (focus (have hc := hw.cells; clear hw; go_simp; first | done | rfl)); simp only [Act.put, List.setIfInBounds_toArray, List.set_cons_zero, List.set_cons_succ]))
        refine HavG.tail (by kernel_rfl) (by kernel_rfl) (fun x w hw _ => ?_)
        have F8 := HF.out.keep hw
        have f0 := F8.cell_at (i := 0) rfl
        have f1 := F8.cell_at (i := 1) rfl
        have f2 := F8.cell_at (i := 2) rfl
        have f3 := F8.cell_at (i := 3) rfl
        have ff := F8.free
        have F9 := Lib.hid ((((F8.set 0 (.int .i64 (e : Nat))).set 1 (.int .i64 (q : Nat))).set 2 (.int .i64 ((placeOf (s.data.toList.take q) 1 1).1 : Nat))).set 3 (.int .i64 ((placeOf (s.data.toList.take q) 1 1).2 : Nat)))
        have U9 := Lib.hid (((((Upd.refl W.heap.size w).setCell 0 (.int .i64 (e : Nat))).setCell 1 (.int .i64 (q : Nat))).setCell 2 (.int .i64 ((placeOf (s.data.toList.take q) 1 1).1 : Nat))).setCell 3 (.int .i64 ((placeOf (s.data.toList.take q) 1 1).2 : Nat)))
        have hszw := hw.size
        have B8 := Lib.hid (Below.trans HB.out (Below.mono hw (by omega)))
        clear hw F8
        go_wp2_with fail
        refine bodyPost_ret (tmp_cell (d := Tryz.prog.underlying 28 |>.getD default) rfl _ _ W.heap.size 28 _ (0, 0) rfl F9.out rfl rfl rfl) rfl ?_
        exact ⟨Below.trans B8.out (U9.out.below (Nat.le_refl _) (by omega)), fun _ => rfl, fun h => absurd h HEE.out⟩
end Go.Proofs.YtdgkpmpakkfgbaaGreatDoor
