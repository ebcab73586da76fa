/- All. -/
import Derived.ScopeJumps
import Derived.Test.YtgegjjfjhpokpaaGreatDoorQW16
namespace Go.Proofs.YtgegjjfjhpokpaaGreatDoor
open Go.RowKit

theorem wp_scope_still {P : Program} {a : Act} {w : World} {Q : Exit → Act → World → Prop} {c : Code} (l : Nat) (hl : (findLabel c l).isSome = true) (first : c.wp P (Exit.jump l (fun _ _ => False) Q) a w) : (Code.scope c).wp P Q a w := by
  obtain ⟨rest, hf⟩ := Option.isSome_iff_exists.1 hl
  exact wp_scope_jumps l _ (fun _ _ => 0) hf first (fun _ _ h => h.elim)
theorem clipIntss_ok (W : World) (base n : Nat) (v : Value) (us : List Value) (h : looseRow W base 22 1 v n us) :
    Calls Tryz.prog 19 #[v] W fun e W' => (∃ u, e = .returned u ∧ looseRow W base 22 1 u n us) ∧ W = W' := by
  rcases h.2 with ⟨rfl, rfl⟩ | ⟨b, cap, cur, rfl, h1, h2, h3, h4, h5, h6⟩
  · have HL := Lib.hid h
    clear h
    go_enter Tryz.func19, Tryz.ntmps19
    go_wp2
    go_ret
    exact ⟨⟨_, rfl, HL.out⟩, rfl⟩
  · have HL : Hid (looseRow W base 22 1 (.slice (some ⟨b, 0, none⟩) n n) n us) := ⟨h.1, .inr ⟨b, _, cur, rfl, h1, h2, Nat.le_refl _, Nat.le_trans h3 h4, Nat.le_trans (Nat.mul_le_mul_right _ h3) h5, h6⟩⟩
    unfold maxLen at h4
    clear h h2 h5 h6
    go_enter Tryz.func19, Tryz.ntmps19
    go_wp2
    go_ret
    exact ⟨⟨_, rfl, HL.out⟩, rfl⟩
/-- rows of integers, of blocks from base on -/
def OutR (W : World) (base : Nat) (v : Value) (L : List (List Int)) : Prop := ∃ us : List Value, us.length = L.length ∧ looseRow W base 22 1 v L.length us ∧ ∀ (i : Nat) u l, us[i]? = some u → L[i]? = some l → looseRow W base 3 1 u l.length (intVs l)
theorem OutR.at {W : World} {base wb : Nat} {v : Value} {L : List (List Int)} (h : OutR W base v L) (hw : W.heap.size ≤ wb) : OutAt W base wb v L := by
  obtain ⟨us, h1, h2, h3⟩ := h
  refine ⟨us, h1, h2, fun e => ?_, fun i u l hu hl => ⟨h3 i u l hu hl, fun e => ?_⟩⟩
  · have := (row_type h2 e).2.1
    omega
  · have := (row_type (h3 i u l hu hl) e).2.1
    omega
theorem OutAt.r {W : World} {base wb : Nat} {v : Value} {L : List (List Int)} (h : OutAt W base wb v L) : OutR W base v L := by
  obtain ⟨us, h1, h2, _, h3⟩ := h
  exact ⟨us, h1, h2, fun i u l hu hl => (h3 i u l hu hl).1⟩
theorem OutR.keep {W W' : World} {base : Nat} {v : Value} {L : List (List Int)} (h : OutR W base v L) (hg : Grew W W') : OutR W' base v L :=
  ((h.at (Nat.le_refl _)).keep (But.of_grew hg)).r
theorem half_full (n : Nat) : half n n = intVs ([] ++ List.replicate n (-2)) := by simp [half, intVs]

/-! ### All, plain -/
def allR (db : List Int → Bool) (K : List Int) (many : Nat) : Nat → Nat → List (List Int) → Option (List (List Int))
  | 0, _, out => some out
  | k + 1, n, out =>
    if many < (if db (List.replicate n (-2)) then fillF db K many n [] out else out).length then none
    else allR db K many k (n + 1) (if db (List.replicate n (-2)) then fillF db K many n [] out else out)
noncomputable def Bk.allL (B : Bk) (r long many : Int) : Option (List (List Int)) := allR (B.dB r.toNat) B.kinds many.toNat (long.toNat + 1) 0 []
def AllIs (B : Bk) (r long many : Int) (W : World) (e : Ending) (W' : World) : Prop := Grew W W' ∧
  (if hasR B r = true ∧ 0 ≤ long ∧ long ≤ 12 ∧ 1 ≤ many ∧ many ≤ 512 then
    match B.allL r long many with
    | none => e = .returned (.tuple #[.slice none 0 0, .int .i64 3])
    | some L => ∃ v, e = .returned (.tuple #[v, .int .i64 0]) ∧ OutR W' W.heap.size v L
  else e = .returned (.tuple #[.slice none 0 0, .int .i64 1]))
set_option maxHeartbeats 4000000 in
set_option maxRecDepth 20000 in
theorem sall_bad (B : Bk) (r long many : Int) (V : BV) (bk lim : Nat) (W : World) (hB : BookAt W lim bk V B) (h : ¬ (hasR B r = true ∧ 0 ≤ long ∧ long ≤ 12 ∧ 1 ≤ many ∧ many ≤ 512)) :
    Calls Tryz.prog 5 #[.pointer (some ⟨bk, 0, none⟩), .int .i64 r, .int .i64 long, .int .i64 many] W fun e W' => e = .returned (.tuple #[.slice none 0 0, .int .i64 1]) ∧ W' = W := by
  have HH := Lib.hid (sbhas_ok B r V bk lim W hB)
  have c0 := hB.box.cell_at (i := 0) rfl
  have cl := hB.box.lt
  have q : ∀ w : World, (binOp .eql 25 (.map (some V.rm)) (.map none)).run Tryz.prog w = .ok (.bool false) w := fun w => by rfl
  clear hB
  by_cases hh : hasR B r = true
  · rw [hh] at HH
    by_cases h1 : 0 ≤ long
    · by_cases h2 : long ≤ 12
      · by_cases h3 : 1 ≤ many
        · have h4 : ¬ many ≤ 512 := fun h4 => h ⟨hh, h1, h2, h3, h4⟩
          clear h hh
          go_enter Tryz.func5, Tryz.ntmps5
          go_wp2_with fail
          refine wp_scope_still 0 (by kernel_rfl) ?_
          go_wp2_with fail
          refine HH.out.mono ?_
          rintro e w ⟨rfl, rfl⟩
          go_wp2_with fail
          exact ⟨rfl, _, results_tmp2 rfl _ _ _, rfl, rfl⟩
        · clear h hh
          go_enter Tryz.func5, Tryz.ntmps5
          go_wp2_with fail
          refine wp_scope_still 0 (by kernel_rfl) ?_
          go_wp2_with fail
          refine HH.out.mono ?_
          rintro e w ⟨rfl, rfl⟩
          go_wp2_with fail
          exact ⟨rfl, _, results_tmp2 rfl _ _ _, rfl, rfl⟩
      · clear h hh
        go_enter Tryz.func5, Tryz.ntmps5
        go_wp2_with fail
        refine wp_scope_still 0 (by kernel_rfl) ?_
        go_wp2_with fail
        refine HH.out.mono ?_
        rintro e w ⟨rfl, rfl⟩
        go_wp2_with fail
        exact ⟨rfl, _, results_tmp2 rfl _ _ _, rfl, rfl⟩
    · clear h hh
      go_enter Tryz.func5, Tryz.ntmps5
      go_wp2_with fail
      refine wp_scope_still 0 (by kernel_rfl) ?_
      go_wp2_with fail
      refine HH.out.mono ?_
      rintro e w ⟨rfl, rfl⟩
      go_wp2_with fail
      exact ⟨rfl, _, results_tmp2 rfl _ _ _, rfl, rfl⟩
  · rw [Bool.not_eq_true] at hh
    rw [hh] at HH
    clear h hh
    go_enter Tryz.func5, Tryz.ntmps5
    go_wp2_with fail
    refine wp_scope_still 0 (by kernel_rfl) ?_
    go_wp2_with fail
    refine HH.out.mono ?_
    rintro e w ⟨rfl, rfl⟩
    go_wp2_with fail
    exact ⟨rfl, _, results_tmp2 rfl _ _ _, rfl, rfl⟩
set_option maxHeartbeats 4000000 in
set_option maxRecDepth 20000 in
theorem sall_good (B : Bk) (hG : B.Good) (r long many : Nat) (hr : r < B.bodies.length) (hl : long ≤ 12) (h1 : 1 ≤ many) (h2 : many ≤ 512) (hkl : B.kinds.length ≤ 1000) (V : BV) (bk lim : Nat) (W : World) (hB : BookAt W lim bk V B) :
    Calls Tryz.prog 5 #[.pointer (some ⟨bk, 0, none⟩), .int .i64 (r : Int), .int .i64 (long : Int), .int .i64 (many : Int)] W fun e W' => Grew W W' ∧ (match allR (B.dB r) B.kinds many (long + 1) 0 [] with
      | none => e = .returned (.tuple #[.slice none 0 0, .int .i64 3])
      | some L => ∃ v, e = .returned (.tuple #[v, .int .i64 0]) ∧ OutR W' W.heap.size v L) := by
  have hhr : hasR B r = true := by unfold hasR; rw [Bool.and_eq_true, decide_eq_true_eq, decide_eq_true_eq]; omega
  have HH := sbhas_ok B r V bk lim W hB
  rw [hhr] at HH
  have HH := Lib.hid HH
  have c0 := hB.box.cell_at (i := 0) rfl
  have cl := hB.box.lt
  have q : ∀ w : World, (binOp .eql 25 (.map (some V.rm)) (.map none)).run Tryz.prog w = .ok (.bool false) w := fun w => by rfl
  have HB := Lib.hid hB
  have HG := Lib.hid hG
  have HRR := Lib.hid hr
  obtain ⟨R, hR⟩ : ∃ R, allR (B.dB r) B.kinds many (long + 1) 0 [] = R := ⟨_, rfl⟩
  rw [hR]
  have HR := Lib.hid hR
  obtain ⟨Q, hQ⟩ : ∃ Q : Ending → World → Prop, (fun e W' => Grew W W' ∧ (match (motive := Option (List (List Int)) → Prop) R with
      | none => e = .returned (.tuple #[.slice none 0 0, .int .i64 3])
      | some L => ∃ v, e = .returned (.tuple #[v, .int .i64 0]) ∧ OutR W' W.heap.size v L)) = Q := ⟨_, rfl⟩
  have HQ := Lib.hid hQ
  rw [hQ]
  have hadd : IntKind.i64.wrap ((long : Int) + 1) = ((long + 1 : Nat) : Int) := by rw [wrap_small _ (by omega) (by omega)]; rfl
  have k1 : ¬ (long : Int) > 12 := by omega
  have k2 : ¬ (many : Int) < 1 := by omega
  have k3 : ¬ (many : Int) > 512 := by omega
  clear hB hG hR hQ hhr hr
  go_enter Tryz.func5, Tryz.ntmps5
  go_wp2_with fail
  refine wp_scope_still 0 (by kernel_rfl) ?_
  go_wp2_with fail
  refine HH.out.mono ?_
  rintro e w ⟨rfl, rfl⟩
  go_wp2_with fail
  refine wp_label ?_
  go_wp2_with fail
  go_loopw [10, 46] (fun v c wr => ∃ (j : Nat) (o : List (List Int)), c = .int .i64 j ∧ j ≤ long + 1 ∧ Hid (o.length ≤ many) ∧ Hid (OutR wr w.heap.size v o) ∧ Hid (Grew w wr) ∧ Hid (allR (B.dB r) B.kinds many (long + 1 - j) j o = R)) (fun _ c _ => long + 1 - (intOf c).toNat)
  case atStart => exact ⟨0, [], rfl, by omega, Nat.zero_le _, ⟨[], rfl, ⟨rfl, .inl ⟨rfl, rfl⟩⟩, fun i u l h => by simp at h⟩, Grew.refl _, HR.out⟩
  case round =>
    obtain ⟨j, o, rfl, hj, HOL, HOO, HGW, HAL⟩ := hrel
    obtain ⟨oa, oc, hof⟩ := (HOO.out.at (Nat.le_refl _)).form
    by_cases hlt : j < long + 1
    · as_aux_lemma =>
      have hlti : (j : Int) < ((long + 1 : Nat) : Int) := by omega
      obtain ⟨w1, hw1⟩ : ∃ w1, wr.alloc (.cells #[.int .i64 (-2)] 3) = w1 := ⟨_, rfl⟩
      have g1 : Grew wr w1 := hw1 ▸ grew_alloc wr _
      have o1 : Owns w1 wr.heap.size [.int .i64 (-2)] 3 := hw1 ▸ Owns.alloc wr _ _
      have HREP := Lib.hid (repeat_ok j (by omega) w1 wr.heap.size o1)
      have HG1 := Lib.hid g1
      subst hof
      obtain ⟨ol, hol⟩ : ∃ ol, o.length = ol := ⟨_, rfl⟩
      have HOLN := Lib.hid hol
      rw [hol] at HOO HOL ⊢
      have hle := HOL.out
      clear g1 o1 hol c0 cl HH
      go_wp2_with fail
      refine HREP.out.mono ?_
      rintro e w2 ⟨g, rfl, hgl, hog, hgw⟩
      have hg2 : Grew w w2 := HGW.out.trans (HG1.out.trans hgw)
      have HGL := Lib.hid (show wr.heap.size ≤ g ∧ w.heap.size ≤ g by have := HG1.out.size; have := HGW.out.size; omega)
      rw [half_full] at hog
      have hT := owns_ints (cap := j) hog
      have elen : ([] ++ List.replicate j (-2 : Int)).length = j := by simp
      rw [elen] at hT
      have hB2 := (HB.out.mono HB.out.low (Nat.le_refl _)).keep hg2
      have HB2 := Lib.hid hB2
      have HD := Lib.hid (sderives_ok B HG.out r HRR.out V bk w.heap.size ([] ++ List.replicate j (-2)) (by rw [elen]; omega) _ w2 hB2 hT)
      have HOG := Lib.hid hog
      have HG2 := Lib.hid hg2
      have HGR := Lib.hid (HG1.out.trans hgw)
      clear hw1 hgl hog hgw hg2 hT elen hB2 HREP
      go_wp2_with fail
      refine HD.out.mono ?_
      rintro e w3 ⟨y, rfl, hy, hg⟩
      have HYD := Lib.hid (Bk.dB_iff hy)
      have HG3 := Lib.hid (HG2.out.trans hg)
      have HGR3 := Lib.hid (HGR.out.trans hg)
      have HOG3 := Lib.hid (HOG.out.keep hg)
      have HB3 := Lib.hid (HB2.out.keep (hg.mono HB2.out.low))
      clear hy hg HD
      have hsub : long + 1 - j = (long + 1 - (j + 1)) + 1 := by omega
      have hwr : IntKind.i64.wrap ((j : Int) + 1) = ((j + 1 : Nat) : Int) := by rw [wrap_small _ (by omega) (by omega)]; rfl
      have hAL := HAL.out
      rw [hsub, allR] at hAL
      rw [List.nil_append] at HYD
      cases y with
      | false =>
        rw [← HYD.out] at hAL
        simp only [Bool.false_eq_true, if_false, HOLN.out, if_neg (Nat.not_lt.2 hle)] at hAL
        have HAL2 := Lib.hid hAL
        clear hAL
        go_wp2_with fail
        exact ⟨⟨j + 1, o, by go_num, by omega, by rw [HOLN.out]; exact HOL.out, HOO.out.keep HGR3.out, HG3.out, HAL2.out⟩, by simp [intOf]; omega⟩
      | true =>
        rw [← HYD.out] at hAL
        simp only [if_true] at hAL
        have HF := Lib.hid (sfill_ok B HG.out r HRR.out V bk w.heap.size g many j HGL.out.2 (by omega) h2 hkl j [] o (.slice oa ol oc) w3 (by simp) HB3.out HOG3.out ((HOO.out.at HGL.out.1).keep (But.of_grew HGR3.out)) (by rw [HOLN.out]; exact hle))
        simp only [List.length_nil] at HF
        obtain ⟨o', ho'⟩ : ∃ o', fillF (B.dB r) B.kinds many j [] o = o' := ⟨_, rfl⟩
        rw [ho'] at hAL HF
        have HAL2 := Lib.hid hAL
        clear hAL ho'
        go_wp2_with fail
        refine HF.out.mono ?_
        rintro e w4 ⟨v4, rfl, hO4, hw4, hb4⟩
        have HO4 := Lib.hid hO4
        have HG4 := Lib.hid (show Grew w w4 from Below.trans HG3.out hb4)
        obtain ⟨xa, xc, rfl⟩ := hO4.form
        obtain ⟨xl, hxl⟩ : ∃ xl, o'.length = xl := ⟨_, rfl⟩
        have HXL := Lib.hid hxl
        rw [hxl] at HO4 HAL2 ⊢
        clear hO4 hw4 hb4 hxl HF
        by_cases hgt : many < xl
        · have hgti : (many : Int) < (xl : Int) := by omega
          rw [if_pos hgt] at HAL2
          go_wp2_with fail
          show Q (.returned (.tuple #[.slice none 0 0, .int .i64 3])) w4
          have hR2 := HAL2.out
          subst hR2
          rw [← HQ.out]
          exact ⟨HG4.out, rfl⟩
        · have hgti : ¬ (many : Int) < (xl : Int) := by omega
          rw [if_neg hgt] at HAL2
          go_wp2_with fail
          exact ⟨⟨j + 1, o', by go_num, by omega, Lib.hid (by rw [HXL.out]; omega), HO4.out.r, HG4.out, HAL2.out⟩, by simp [intOf]; omega⟩
    · obtain rfl : j = long + 1 := by omega
      have hlti : ¬ (((long + 1 : Nat) : Int) < ((long + 1 : Nat) : Int)) := by omega
      subst hof
      obtain ⟨us, hu1, hu2, hu3⟩ := HOO.out
      have HCL := Lib.hid (clipIntss_ok wr _ _ _ us hu2)
      have HU3 := Lib.hid (And.intro hu1 hu3)
      clear hu1 hu2 hu3
      go_wp2_with fail
      refine HCL.out.mono ?_
      rintro e w5 ⟨⟨u, rfl, hu⟩, rfl⟩
      have HU := Lib.hid hu
      clear hu
      go_wp2_with fail
      show Q (.returned (.tuple #[u, .int .i64 0])) wr
      have hAL := HAL.out
      rw [Nat.sub_self, allR] at hAL
      subst hAL
      rw [← HQ.out]
      exact ⟨HGW.out, u, rfl, us, HU3.out.1, HU.out, HU3.out.2⟩
theorem sAll_ok (B : Bk) (hG : B.Good) (r long many : Int) (hkl : B.kinds.length ≤ 1000) (V : BV) (bk lim : Nat) (W : World) (hB : BookAt W lim bk V B) :
    Calls Tryz.prog 5 #[.pointer (some ⟨bk, 0, none⟩), .int .i64 r, .int .i64 long, .int .i64 many] W (AllIs B r long many W) := by
  by_cases h : hasR B r = true ∧ 0 ≤ long ∧ long ≤ 12 ∧ 1 ≤ many ∧ many ≤ 512
  · have hh := h.1
    unfold hasR at hh
    rw [Bool.and_eq_true, decide_eq_true_eq, decide_eq_true_eq] at hh
    obtain ⟨k, rfl⟩ := Int.eq_ofNat_of_zero_le hh.1
    obtain ⟨l, rfl⟩ := Int.eq_ofNat_of_zero_le h.2.1
    obtain ⟨m, rfl⟩ := Int.eq_ofNat_of_zero_le (show 0 ≤ many by omega)
    refine (sall_good B hG k l m (by omega) (by omega) (by omega) (by omega) hkl V bk lim W hB).mono ?_
    rintro e W' ⟨h1, h2⟩
    refine ⟨h1, ?_⟩
    rw [if_pos h, Bk.allL]
    exact h2
  · refine (sall_bad B r long many V bk lim W hB h).mono ?_
    rintro e W' ⟨rfl, rfl⟩
    refine ⟨Grew.refl _, ?_⟩
    rw [if_neg h]
end Go.Proofs.YtgegjjfjhpokpaaGreatDoor
