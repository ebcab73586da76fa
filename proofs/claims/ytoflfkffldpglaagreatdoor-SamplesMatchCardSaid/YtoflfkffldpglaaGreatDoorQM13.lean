/- fill. -/
import Derived.ScopeJumps
import Derived.Test.YtoflfkffldpglaaGreatDoorQM12
namespace Go.Proofs.YtoflfkffldpglaaGreatDoor
open Go.RowKit
theorem info_ints27 : (Tryz.prog.info? 27).map (fun i => (i.zero, i.size, i.bytes)) = some (some (.slice none 0 0), 1, 24) := by kernel_rfl
def FillIs (lim wb : Nat) (L : List (List Int)) (cs : List Value) (W : World) (e : Ending) (W' : World) : Prop := ∃ v, e = .returned v ∧ OutAt W' lim wb v L ∧ Owns W' wb cs 3 ∧ Below lim W W'
set_option maxHeartbeats 4000000 in
set_option maxRecDepth 20000 in
theorem sfill_none (bk r many wb lim n : Nat) (p : List Int) (hp : p.length = n) (hn : n ≤ 12) (out : List (List Int)) (ho : out.length ≤ 600) (v : Value) (W : World) (hlim : lim ≤ W.heap.size) (hw : Owns W wb (intVs p) 3) (hO : OutAt W lim wb v out) :
    Calls Tryz.prog 36 #[.pointer (some ⟨bk, 0, none⟩), .int .i64 (r : Int), .slice (some ⟨wb, 0, none⟩) n n, .int .i64 (n : Int), .int .i64 (many : Int), v] W (FillIs lim wb (out ++ [p]) (intVs p) W) := by
  obtain ⟨i0, hi, hz0, hz1, hz2⟩ := info_parts info_ints27
  have hT := owns_ints (cap := n) hw
  rw [hp] at hT
  have HC := Lib.hid (cloneInt_ok p W _ (by omega) hT)
  obtain ⟨Q, hQ⟩ : ∃ Q, FillIs lim wb (out ++ [p]) (intVs p) W = Q := ⟨_, rfl⟩
  rw [hQ]
  have HQ := Lib.hid hQ
  have HW := Lib.hid hw
  have HO := Lib.hid hO
  have HP := Lib.hid hp
  obtain ⟨va, vc, rfl⟩ := hO.form
  have HI := Lib.hid hi
  have HZ0 := Lib.hid hz0
  have HZ1 := Lib.hid hz1
  have HZ2 := Lib.hid hz2
  obtain ⟨m, hm⟩ : ∃ m, out.length = m := ⟨_, rfl⟩
  have HM := Lib.hid hm
  rw [hm] at ho HO ⊢
  clear hT hw hO hp hQ hi hz0 hz1 hz2 hm
  go_enter Tryz.func36, Tryz.ntmps36
  go_wp2_with fail
  refine HC.out.mono ?_
  rintro e w1 ⟨u, rfl, hu, hg⟩
  have HG1 := Lib.hid hg
  have HCP := Lib.hid (clipInt_ok w1 _ u p hu)
  clear hu hg
  go_wp2_with fail
  refine HCP.out.mono ?_
  rintro e w2 ⟨⟨u2, rfl, hu⟩, rfl⟩
  obtain ⟨ua, uc, rfl⟩ := loose_form hu
  have HU := Lib.hid hu
  obtain ⟨pl, hpl⟩ : ∃ pl, p.length = pl := ⟨_, rfl⟩
  rw [hpl]
  obtain ⟨w3, hw3⟩ : ∃ w3, w1.alloc (.cells #[.slice ua pl uc] 27) = w3 := ⟨_, rfl⟩
  have g3 : Grew w1 w3 := hw3 ▸ grew_alloc w1 _
  have o3 : Owns w3 w1.heap.size [Value.slice ua pl uc] 27 := hw3 ▸ Owns.alloc w1 _ _
  have HG3 := Lib.hid g3
  have HNW := Lib.hid (owns_newsO o3)
  have HLL := Lib.hid (Nat.le_trans hlim (HG1.out.trans g3).size)
  have HO3 := Lib.hid (HO.out.keep (But.of_grew (HG1.out.trans g3)))
  have HPL := Lib.hid hpl
  rw [hpl] at hu
  have HU3 := Lib.hid ((But.of_grew (F := fun _ => False) g3).row hu (fun _ _ h => h))
  have HONE : Hid (∀ x ∈ [Value.slice ua pl uc], x.oneCell' = true) := Lib.hid fun x hx => by rw [List.mem_singleton.1 hx]; rfl
  have h63 : m + 1 ≤ maxLen := by unfold maxLen; omega
  have h64 : (m + 1) * 24 ≤ 140737488355328 := by omega
  have hus := HO3.out
  obtain ⟨us, hus⟩ := hus
  have HUS := Lib.hid hus
  have hrow := hus.2.1
  rw [HM.out] at hrow
  have HROW := Lib.hid hrow
  have hwl : wb < W.heap.size := HW.out.lt
  have HWL := Lib.hid hwl
  clear hu hpl g3 o3 hus hrow HCP HC
  go_wp2_with (at_builtin; refine wpList_append_loose w3 rfl _ _ 58 rfl lim 27 i0 _ 1 24 Tryz.underlying58 HI.out HZ0.out HZ1.out HZ2.out rfl (by decide) _ m us rfl HROW.out ⟨w1.heap.size, 0, none⟩ 1 1 [Value.slice ua pl uc] rfl rfl HNW.out HONE.out (by decide) h63 h64 HLL.out _ rfl ?_; intro g cap' w7 hown hgrow hat hlt7; have HOWN := Lib.hid hown; have HGROW := Lib.hid hgrow; have HAT := Lib.hid hat; clear hown hgrow hat hlt7)
  show Q (.returned (.slice (some ⟨g, 0, none⟩) (m + 1) cap')) w7
  rw [← HQ.out]
  have hbut : But (fun k => (Value.slice va m vc).ownBlock = some k) w3 w7 := But.grown HGROW.out fun _ e => e
  have hvb : ∀ k, (Value.slice va m vc).ownBlock = some k → lim ≤ k := fun k hk => (row_type HUS.out.2.1 hk).1
  have ho3 : Owns w3 wb (intVs p) 3 := (HW.out.keep HG1.out).keep HG3.out
  refine ⟨_, rfl, HUS.out.push (u := .slice ua pl uc) HGROW.out ?_ ?_ ho3.lt ?_ ?_, hbut.owns ho3 fun e => HUS.out.2.2.1 e, ?_⟩
  · have := HU3.out.weak (b2 := lim) hlim
    rw [HPL.out]
    exact this
  · intro e
    have := (row_type HU3.out e).1
    omega
  · rw [HM.out]; exact HOWN.out
  · rcases HAT.out with e | e
    · left
      have e' : (Value.slice va m vc).ownBlock = some g := e
      rw [e']; rfl
    · right; exact ⟨g, rfl, by omega⟩
  · exact (Below.trans (Below.mono (Grew.trans HG1.out HG3.out) hlim) (hbut.below HLL.out hvb))
theorem intVs_set (p : List Int) (x t : Int) (q : List Int) : (intVs (p ++ x :: q)).set p.length (.int .i64 t) = intVs (p ++ t :: q) := by
  simp [intVs]
theorem intVs_at (p : List Int) (x : Int) (q : List Int) : (intVs (p ++ x :: q))[p.length]? = some (.int .i64 x) := by
  simp [intVs]
def FillOk (B : Bk) (r bk : Nat) (V : BV) (lim wb many n d : Nat) : Prop := ∀ (p : List Int) (out : List (List Int)) (v : Value) (W : World), p.length + d = n → BookAt W lim bk V B → Owns W wb (intVs (p ++ List.replicate d (-2))) 3 → OutAt W lim wb v out → out.length ≤ many →
  Calls Tryz.prog 36 #[.pointer (some ⟨bk, 0, none⟩), .int .i64 (r : Int), .slice (some ⟨wb, 0, none⟩) n n, .int .i64 (p.length : Int), .int .i64 (many : Int), v] W (FillIs lim wb (fillF (B.dB r) B.kinds many d p out) (intVs (p ++ List.replicate d (-2))) W)
set_option maxHeartbeats 4000000 in
set_option maxRecDepth 20000 in
theorem sfill_ok (B : Bk) (hG : B.Good) (r : Nat) (hr : r < B.bodies.length) (V : BV) (bk lim wb many n : Nat) (hwl : lim ≤ wb) (hn : n ≤ 12) (hm : many ≤ 512) (hkl : B.kinds.length ≤ 1000) : ∀ d, FillOk B r bk V lim wb many n d
  | 0 => by
    intro p out v W hp hB hw hO ho
    simp only [List.replicate_zero, List.append_nil] at hw ⊢
    have hp' : p.length = n := by omega
    rw [hp']
    exact sfill_none bk r many wb lim n p hp' hn out (by omega) v W hB.low hw hO
  | d + 1 => by
    have ih := Lib.hid (sfill_ok B hG r hr V bk lim wb many n hwl hn hm hkl d)
    intro p out v W hp hB hw hO ho
    obtain ⟨va, vc, rfl⟩ := hO.form
    have HG := Lib.hid hG
    have HRR := Lib.hid hr
    have HB := Lib.hid hB
    have HW := Lib.hid hw
    have HO := Lib.hid hO
    have c2 := hB.box.cell_at (i := 2) rfl
    have cl := hB.box.lt
    obtain ⟨ka, kc, hkv, hks⟩ := hB.kinds
    rw [hkv] at c2
    have HKS := Lib.hid hks
    obtain ⟨Q, hQ⟩ : ∃ Q, FillIs lim wb (fillF (B.dB r) B.kinds many (d + 1) p out) (intVs (p ++ List.replicate (d + 1) (-2))) W = Q := ⟨_, rfl⟩
    rw [hQ]
    have HQ := Lib.hid hQ
    obtain ⟨at', hat⟩ : ∃ at' , p.length = at' := ⟨_, rfl⟩
    have HAT := Lib.hid hat
    rw [hat] at hp ⊢
    obtain ⟨kn, hkn⟩ : ∃ kn, B.kinds.length = kn := ⟨_, rfl⟩
    have HKN := Lib.hid hkn
    rw [hkn] at c2 hkl
    obtain ⟨m, hm0⟩ : ∃ m, out.length = m := ⟨_, rfl⟩
    have HM := Lib.hid hm0
    rw [hm0] at ho HO ⊢
    have q1 : ((at' : Int) == (n : Int)) = false := beq_eq_false_iff_ne.2 (by omega)
    have HWL := Lib.hid hwl
    clear hB hw hO hQ hat hkv hks hkn hm0 hG hr
    go_enter Tryz.func36, Tryz.ntmps36
    go_wp2_with fail
    clear c2 cl
    go_loopw [5, 30] (fun v c wr => ∃ (j : Nat) (o : List (List Int)) (x : Int), c = .int .i64 j ∧ j ≤ kn ∧ Hid (o = (B.kinds.take j).foldl (fillS (B.dB r) B.kinds many d p) out) ∧ Hid (o.length ≤ many + 1) ∧ Hid (OutAt wr lim wb v o) ∧ Hid (Owns wr wb (intVs (p ++ x :: List.replicate d (-2))) 3) ∧ Hid (Below lim W wr)) (fun _ c _ => kn - (intOf c).toNat)
    case atStart =>
      refine ⟨0, out, -2, rfl, by omega, rfl, ?_, HO.out, HW.out, Below.refl _ _⟩
      show out.length ≤ many + 1
      rw [HM.out]; omega
    case round =>
      obtain ⟨j, o, x, rfl, hj, HOE, HOL, HOO, HOW, HBL⟩ := hrel
      obtain ⟨oa, oc, hof⟩ := HOO.out.form
      by_cases hlt : j < kn
      · as_aux_lemma =>
        have hlt' : j < B.kinds.length := by rw [HKN.out]; exact hlt
        have hBk := HB.out.keep HBL.out
        obtain ⟨b, off, rfl, hb, hkc⟩ := HKS.out j hlt'
        have hlw := hBk.low
        have hkc2 : wr.cell? ⟨b, off + j, none⟩ = some (.int .i64 B.kinds[j]) := by rw [HBL.out.cell hb]; exact hkc
        have hb2 : b < wr.heap.size := by omega
        have HTK := Lib.hid (foldl_take (fillS (B.dB r) B.kinds many d p) B.kinds out j hlt')
        obtain ⟨t, ht⟩ : ∃ t, B.kinds[j] = t := ⟨_, rfl⟩
        rw [ht] at hkc2 HTK
        subst hof
        obtain ⟨ol, hol⟩ : ∃ ol, o.length = ol := ⟨_, rfl⟩
        have HOLN := Lib.hid hol
        rw [hol] at HOL HOO ⊢
        have holm : ol ≤ many + 1 := HOL.out
        have w0 : wr.cell? ⟨wb, at', none⟩ = some (.int .i64 x) := by rw [← HAT.out, HOW.out.cell]; exact intVs_at _ _ _
        have wl := HOW.out.lt
        have wf := HOW.out.free at'
        have hat1 : (at' : Int) < (n : Int) := by omega
        have hat2 : at' < n := by omega
        have ho2 : Owns (wr.setCell ⟨wb, at', none⟩ (.int .i64 t)) wb (intVs (p ++ t :: List.replicate d (-2))) 3 := by
          have := HOW.out.set at' (.int .i64 t)
          rw [← HAT.out, intVs_set, HAT.out] at this
          exact this
        have HO2 := Lib.hid ho2
        have hbt := set_but (i := at') (v := .int .i64 t) HOW.out
        have HOO2 := Lib.hid (HOO.out.keep hbt)
        have HBL2 := Lib.hid (Below.trans HBL.out (hbt.below hlw fun q e => by rw [e]; exact HWL.out))
        clear ht hkc hb hlt' hBk ho2 hbt hol
        go_upto_region 7 with fail
        clear w0 wl wf hkc2 hb2 hlw
        generalize wr.setCell ⟨wb, at', none⟩ (.int .i64 t) = w2 at *
        have hB2 := HB.out.keep HBL2.out
        have HB2 := Lib.hid hB2
        by_cases hle : ol ≤ many
        · have hlei : (ol : Int) ≤ (many : Int) := by omega
          have hlen : (p ++ t :: List.replicate d (-2)).length = n := by simp [HAT.out]; omega
          have hT := owns_ints (cap := n) HO2.out
          rw [hlen] at hT
          have HD := Lib.hid (sderives_ok B HG.out r HRR.out V bk lim (p ++ t :: List.replicate d (-2)) (by rw [hlen]; omega) _ w2 hB2 hT)
          clear hB2 hT hlen
          go_wp2_with fail
          refine HD.out.mono ?_
          rintro e w3 ⟨y, rfl, hy, hg⟩
          have hyd := Bk.dB_iff hy
          have HYD := Lib.hid hyd
          have HO3 := Lib.hid (HO2.out.keep hg)
          have HOO3 := Lib.hid (HOO2.out.keep (But.of_grew hg))
          have HBL3 := Lib.hid (Below.trans HBL2.out (hg.mono HB2.out.low))
          clear hyd hy hg HD
          cases y with
          | false =>
            go_wp2_with fail
            refine ⟨⟨j + 1, o, t, by go_num, by omega, ?_, by rw [HOLN.out]; exact HOL.out, HOO3.out, HO3.out, HBL3.out⟩, by simp [intOf]; omega⟩
            rw [HTK.out, ← HOE.out, fillS, ← HYD.out, Bool.and_false]
            rfl
          | true =>
            have hwr : IntKind.i64.wrap ((at' : Int) + 1) = ((at' + 1 : Nat) : Int) := by rw [wrap_small _ (by omega) (by omega)]; rfl
            have HREC := Lib.hid (ih.out (p ++ [t]) o (.slice oa ol oc) w3 (by rw [List.length_append, List.length_singleton, HAT.out]; omega) (HB.out.keep HBL3.out) (by rw [List.append_assoc]; exact HO3.out) HOO3.out (by rw [HOLN.out]; exact hle))
            have e1 : (p ++ [t]).length = at' + 1 := by rw [List.length_append, List.length_singleton, HAT.out]
            rw [e1] at HREC
            clear e1
            go_wp2_with fail
            refine HREC.out.mono ?_
            rintro e w4 ⟨v4, rfl, hO4, hw4, hb4⟩
            have HO4 := Lib.hid hO4
            have HW4 := Lib.hid hw4
            have HB4 := Lib.hid hb4
            clear hO4 hw4 hb4 HREC
            go_wp2_with fail
            refine ⟨⟨j + 1, fillF (B.dB r) B.kinds many d (p ++ [t]) o, t, by go_num, by omega, ?_, ?_, HO4.out, ?_, Below.trans HBL3.out HB4.out⟩, by simp [intOf]; omega⟩
            · show _ = _
              rw [HTK.out, ← HOE.out, fillS, ← HYD.out, decide_eq_true (by rw [HOLN.out]; exact hle)]
              rfl
            · exact fillF_few _ _ _ _ _ _ (by rw [HOLN.out]; exact hle)
            · have := HW4.out
              rw [List.append_assoc] at this
              exact this
        · have hlei : ¬ (ol : Int) ≤ (many : Int) := by omega
          clear hB2
          go_wp2_with fail
          refine ⟨⟨j + 1, o, t, by go_num, by omega, ?_, by rw [HOLN.out]; exact HOL.out, HOO2.out, HO2.out, HBL2.out⟩, by simp [intOf]; omega⟩
          rw [HTK.out, ← HOE.out, fillS, decide_eq_false (by rw [HOLN.out]; exact hle), Bool.false_and]
          rfl
      · obtain rfl : j = kn := by omega
        have w0 : wr.cell? ⟨wb, at', none⟩ = some (.int .i64 x) := by rw [← HAT.out, HOW.out.cell]; exact intVs_at _ _ _
        have wl := HOW.out.lt
        have wf := HOW.out.free at'
        have hat1 : (at' : Int) < (n : Int) := by omega
        have hat2 : at' < n := by omega
        have ho2 : Owns (wr.setCell ⟨wb, at', none⟩ (.int .i64 (-2))) wb (intVs (p ++ (-2) :: List.replicate d (-2))) 3 := by
          have := HOW.out.set at' (.int .i64 (-2))
          rw [← HAT.out, intVs_set, HAT.out] at this
          exact this
        have HO2 := Lib.hid ho2
        have hbt := set_but (i := at') (v := .int .i64 (-2)) HOW.out
        have HOO2 := Lib.hid (HOO.out.keep hbt)
        have HBL2 := Lib.hid (Below.trans HBL.out (hbt.below (HB.out.keep HBL.out).low fun q e => by rw [e]; exact HWL.out))
        subst hof
        clear ho2 hbt
        go_wp2_with fail
        show Q (.returned (.slice oa o.length oc)) _
        rw [← HQ.out]
        refine ⟨_, rfl, ?_, HO2.out, HBL2.out⟩
        have he := HOE.out
        rw [List.take_of_length_le (by rw [HKN.out]; exact Nat.le_refl _), ← fillF_succ] at he
        rw [← he]
        exact HOO2.out
end Go.Proofs.YtoflfkffldpglaaGreatDoor

/- All. -/
namespace Go.Proofs.YtoflfkffldpglaaGreatDoor
open Go.RowKit
theorem wp_scope_still {P : Program} {a : Act} {w : World} {Q : Exit → Act → World → Prop} {c : Code} (l : Nat) (hl : (findLabel c l).isSome = true) (first : c.wp P (Exit.jump l (fun _ _ => False) Q) a w) : (Code.scope c).wp P Q a w := by
  obtain ⟨rest, hf⟩ := Option.isSome_iff_exists.1 hl
  exact wp_scope_jumps l _ (fun _ _ => 0) hf first (fun _ _ h => h.elim)
theorem clipIntss_ok (W : World) (base n : Nat) (v : Value) (us : List Value) (h : looseRow W base 27 1 v n us) :
    Calls Tryz.prog 37 #[v] W fun e W' => (∃ u, e = .returned u ∧ looseRow W base 27 1 u n us) ∧ W = W' := by
  rcases h.2 with ⟨rfl, rfl⟩ | ⟨b, cap, cur, rfl, h1, h2, h3, h4, h5, h6⟩
  · have HL := Lib.hid h
    clear h
    go_enter Tryz.func37, Tryz.ntmps37
    go_wp2
    go_ret
    exact ⟨⟨_, rfl, HL.out⟩, rfl⟩
  · have HL : Hid (looseRow W base 27 1 (.slice (some ⟨b, 0, none⟩) n n) n us) := ⟨h.1, .inr ⟨b, _, cur, rfl, h1, h2, Nat.le_refl _, Nat.le_trans h3 h4, Nat.le_trans (Nat.mul_le_mul_right _ h3) h5, h6⟩⟩
    unfold maxLen at h4
    clear h h2 h5 h6
    go_enter Tryz.func37, Tryz.ntmps37
    go_wp2
    go_ret
    exact ⟨⟨_, rfl, HL.out⟩, rfl⟩
def OutR (W : World) (base : Nat) (v : Value) (L : List (List Int)) : Prop := ∃ us : List Value, us.length = L.length ∧ looseRow W base 27 1 v L.length us ∧ ∀ (i : Nat) u l, us[i]? = some u → L[i]? = some l → looseRow W base 3 1 u l.length (intVs l)
theorem OutR.at {W : World} {base wb : Nat} {v : Value} {L : List (List Int)} (h : OutR W base v L) (hw : W.heap.size ≤ wb) : OutAt W base wb v L := by
  obtain ⟨us, h1, h2, h3⟩ := h
  refine ⟨us, h1, h2, fun e => ?_, fun i u l hu hl => ⟨h3 i u l hu hl, fun e => ?_⟩⟩
  · have := (row_type h2 e).2.1
    omega
  · have := (row_type (h3 i u l hu hl) e).2.1
    omega
theorem OutAt.r {W : World} {base wb : Nat} {v : Value} {L : List (List Int)} (h : OutAt W base wb v L) : OutR W base v L := by
  obtain ⟨us, h1, h2, _, h3⟩ := h
  exact ⟨us, h1, h2, fun i u l hu hl => (h3 i u l hu hl).1⟩
theorem OutR.keep {W W' : World} {base : Nat} {v : Value} {L : List (List Int)} (h : OutR W base v L) (hg : Grew W W') : OutR W' base v L :=
  ((h.at (Nat.le_refl _)).keep (But.of_grew hg)).r
theorem half_full (n : Nat) : half n n = intVs ([] ++ List.replicate n (-2)) := by simp [half, intVs]
/-! ### All, plain -/
def allR (db : List Int → Bool) (K : List Int) (many : Nat) : Nat → Nat → List (List Int) → Option (List (List Int))
  | 0, _, out => some out
  | k + 1, n, out =>
    if many < (if db (List.replicate n (-2)) then fillF db K many n [] out else out).length then none
    else allR db K many k (n + 1) (if db (List.replicate n (-2)) then fillF db K many n [] out else out)
noncomputable def Bk.allL (B : Bk) (r long many : Int) : Option (List (List Int)) := allR (B.dB r.toNat) B.kinds many.toNat (long.toNat + 1) 0 []
def AllIs (B : Bk) (r long many : Int) (W : World) (e : Ending) (W' : World) : Prop := Grew W W' ∧
  (if hasR B r = true ∧ 0 ≤ long ∧ long ≤ 12 ∧ 1 ≤ many ∧ many ≤ 512 then
    match B.allL r long many with
    | none => e = .returned (.tuple #[.slice none 0 0, .int .i64 3])
    | some L => ∃ v, e = .returned (.tuple #[v, .int .i64 0]) ∧ OutR W' W.heap.size v L
  else e = .returned (.tuple #[.slice none 0 0, .int .i64 1]))
set_option maxHeartbeats 4000000 in
set_option maxRecDepth 20000 in
theorem sall_bad (B : Bk) (r long many : Int) (V : BV) (bk lim : Nat) (W : World) (hB : BookAt W lim bk V B) (h : ¬ (hasR B r = true ∧ 0 ≤ long ∧ long ≤ 12 ∧ 1 ≤ many ∧ many ≤ 512)) :
    Calls Tryz.prog 15 #[.pointer (some ⟨bk, 0, none⟩), .int .i64 r, .int .i64 long, .int .i64 many] W fun e W' => e = .returned (.tuple #[.slice none 0 0, .int .i64 1]) ∧ W' = W := by
  have HH := Lib.hid (sbhas_ok B r V bk lim W hB)
  have c0 := hB.box.cell_at (i := 0) rfl
  have cl := hB.box.lt
  have q : ∀ w : World, (binOp .eql 64 (.map (some V.rm)) (.map none)).run Tryz.prog w = .ok (.bool false) w := fun w => by rfl
  clear hB
  by_cases hh : hasR B r = true
  · rw [hh] at HH
    by_cases h1 : 0 ≤ long
    · by_cases h2 : long ≤ 12
      · by_cases h3 : 1 ≤ many
        · have h4 : ¬ many ≤ 512 := fun h4 => h ⟨hh, h1, h2, h3, h4⟩
          clear h hh
          go_enter Tryz.func15, Tryz.ntmps15
          go_wp2_with fail
          refine wp_scope_still 0 (by kernel_rfl) ?_
          go_wp2_with fail
          refine HH.out.mono ?_
          rintro e w ⟨rfl, rfl⟩
          go_wp2_with fail
          exact ⟨rfl, _, results_tmp2 rfl _ _ _, rfl, rfl⟩
        · clear h hh
          go_enter Tryz.func15, Tryz.ntmps15
          go_wp2_with fail
          refine wp_scope_still 0 (by kernel_rfl) ?_
          go_wp2_with fail
          refine HH.out.mono ?_
          rintro e w ⟨rfl, rfl⟩
          go_wp2_with fail
          exact ⟨rfl, _, results_tmp2 rfl _ _ _, rfl, rfl⟩
      · clear h hh
        go_enter Tryz.func15, Tryz.ntmps15
        go_wp2_with fail
        refine wp_scope_still 0 (by kernel_rfl) ?_
        go_wp2_with fail
        refine HH.out.mono ?_
        rintro e w ⟨rfl, rfl⟩
        go_wp2_with fail
        exact ⟨rfl, _, results_tmp2 rfl _ _ _, rfl, rfl⟩
    · clear h hh
      go_enter Tryz.func15, Tryz.ntmps15
      go_wp2_with fail
      refine wp_scope_still 0 (by kernel_rfl) ?_
      go_wp2_with fail
      refine HH.out.mono ?_
      rintro e w ⟨rfl, rfl⟩
      go_wp2_with fail
      exact ⟨rfl, _, results_tmp2 rfl _ _ _, rfl, rfl⟩
  · rw [Bool.not_eq_true] at hh
    rw [hh] at HH
    clear h hh
    go_enter Tryz.func15, Tryz.ntmps15
    go_wp2_with fail
    refine wp_scope_still 0 (by kernel_rfl) ?_
    go_wp2_with fail
    refine HH.out.mono ?_
    rintro e w ⟨rfl, rfl⟩
    go_wp2_with fail
    exact ⟨rfl, _, results_tmp2 rfl _ _ _, rfl, rfl⟩
set_option maxHeartbeats 4000000 in
set_option maxRecDepth 20000 in
theorem sall_good (B : Bk) (hG : B.Good) (r long many : Nat) (hr : r < B.bodies.length) (hl : long ≤ 12) (h1 : 1 ≤ many) (h2 : many ≤ 512) (hkl : B.kinds.length ≤ 1000) (V : BV) (bk lim : Nat) (W : World) (hB : BookAt W lim bk V B) :
    Calls Tryz.prog 15 #[.pointer (some ⟨bk, 0, none⟩), .int .i64 (r : Int), .int .i64 (long : Int), .int .i64 (many : Int)] W fun e W' => Grew W W' ∧ (match allR (B.dB r) B.kinds many (long + 1) 0 [] with
      | none => e = .returned (.tuple #[.slice none 0 0, .int .i64 3])
      | some L => ∃ v, e = .returned (.tuple #[v, .int .i64 0]) ∧ OutR W' W.heap.size v L) := by
  have hhr : hasR B r = true := by unfold hasR; rw [Bool.and_eq_true, decide_eq_true_eq, decide_eq_true_eq]; omega
  have HH := sbhas_ok B r V bk lim W hB
  rw [hhr] at HH
  have HH := Lib.hid HH
  have c0 := hB.box.cell_at (i := 0) rfl
  have cl := hB.box.lt
  have q : ∀ w : World, (binOp .eql 64 (.map (some V.rm)) (.map none)).run Tryz.prog w = .ok (.bool false) w := fun w => by rfl
  have HB := Lib.hid hB
  have HG := Lib.hid hG
  have HRR := Lib.hid hr
  obtain ⟨R, hR⟩ : ∃ R, allR (B.dB r) B.kinds many (long + 1) 0 [] = R := ⟨_, rfl⟩
  rw [hR]
  have HR := Lib.hid hR
  obtain ⟨Q, hQ⟩ : ∃ Q : Ending → World → Prop, (fun e W' => Grew W W' ∧ (match (motive := Option (List (List Int)) → Prop) R with
      | none => e = .returned (.tuple #[.slice none 0 0, .int .i64 3])
      | some L => ∃ v, e = .returned (.tuple #[v, .int .i64 0]) ∧ OutR W' W.heap.size v L)) = Q := ⟨_, rfl⟩
  have HQ := Lib.hid hQ
  rw [hQ]
  have hadd : IntKind.i64.wrap ((long : Int) + 1) = ((long + 1 : Nat) : Int) := by rw [wrap_small _ (by omega) (by omega)]; rfl
  have k1 : ¬ (long : Int) > 12 := by omega
  have k2 : ¬ (many : Int) < 1 := by omega
  have k3 : ¬ (many : Int) > 512 := by omega
  clear hB hG hR hQ hhr hr
  go_enter Tryz.func15, Tryz.ntmps15
  go_wp2_with fail
  refine wp_scope_still 0 (by kernel_rfl) ?_
  go_wp2_with fail
  refine HH.out.mono ?_
  rintro e w ⟨rfl, rfl⟩
  go_wp2_with fail
  refine wp_label ?_
  go_wp2_with fail
  go_loopw [10, 46] (fun v c wr => ∃ (j : Nat) (o : List (List Int)), c = .int .i64 j ∧ j ≤ long + 1 ∧ Hid (o.length ≤ many) ∧ Hid (OutR wr w.heap.size v o) ∧ Hid (Grew w wr) ∧ Hid (allR (B.dB r) B.kinds many (long + 1 - j) j o = R)) (fun _ c _ => long + 1 - (intOf c).toNat)
  case atStart => exact ⟨0, [], rfl, by omega, Nat.zero_le _, ⟨[], rfl, ⟨rfl, .inl ⟨rfl, rfl⟩⟩, fun i u l h => by simp at h⟩, Grew.refl _, HR.out⟩
  case round =>
    obtain ⟨j, o, rfl, hj, HOL, HOO, HGW, HAL⟩ := hrel
    obtain ⟨oa, oc, hof⟩ := (HOO.out.at (Nat.le_refl _)).form
    by_cases hlt : j < long + 1
    · as_aux_lemma =>
      have hlti : (j : Int) < ((long + 1 : Nat) : Int) := by omega
      obtain ⟨w1, hw1⟩ : ∃ w1, wr.alloc (.cells #[.int .i64 (-2)] 3) = w1 := ⟨_, rfl⟩
      have g1 : Grew wr w1 := hw1 ▸ grew_alloc wr _
      have o1 : Owns w1 wr.heap.size [.int .i64 (-2)] 3 := hw1 ▸ Owns.alloc wr _ _
      have HREP := Lib.hid (repeat_ok j (by omega) w1 wr.heap.size o1)
      have HG1 := Lib.hid g1
      subst hof
      obtain ⟨ol, hol⟩ : ∃ ol, o.length = ol := ⟨_, rfl⟩
      have HOLN := Lib.hid hol
      rw [hol] at HOO HOL ⊢
      have hle := HOL.out
      clear g1 o1 hol c0 cl HH
      go_wp2_with fail
      refine HREP.out.mono ?_
      rintro e w2 ⟨g, rfl, hgl, hog, hgw⟩
      have hg2 : Grew w w2 := HGW.out.trans (HG1.out.trans hgw)
      have HGL := Lib.hid (show wr.heap.size ≤ g ∧ w.heap.size ≤ g by have := HG1.out.size; have := HGW.out.size; omega)
      rw [half_full] at hog
      have hT := owns_ints (cap := j) hog
      have elen : ([] ++ List.replicate j (-2 : Int)).length = j := by simp
      rw [elen] at hT
      have hB2 := (HB.out.mono HB.out.low (Nat.le_refl _)).keep hg2
      have HB2 := Lib.hid hB2
      have HD := Lib.hid (sderives_ok B HG.out r HRR.out V bk w.heap.size ([] ++ List.replicate j (-2)) (by rw [elen]; omega) _ w2 hB2 hT)
      have HOG := Lib.hid hog
      have HG2 := Lib.hid hg2
      have HGR := Lib.hid (HG1.out.trans hgw)
      clear hw1 hgl hog hgw hg2 hT elen hB2 HREP
      go_wp2_with fail
      refine HD.out.mono ?_
      rintro e w3 ⟨y, rfl, hy, hg⟩
      have HYD := Lib.hid (Bk.dB_iff hy)
      have HG3 := Lib.hid (HG2.out.trans hg)
      have HGR3 := Lib.hid (HGR.out.trans hg)
      have HOG3 := Lib.hid (HOG.out.keep hg)
      have HB3 := Lib.hid (HB2.out.keep (hg.mono HB2.out.low))
      clear hy hg HD
      have hsub : long + 1 - j = (long + 1 - (j + 1)) + 1 := by omega
      have hwr : IntKind.i64.wrap ((j : Int) + 1) = ((j + 1 : Nat) : Int) := by rw [wrap_small _ (by omega) (by omega)]; rfl
      have hAL := HAL.out
      rw [hsub, allR] at hAL
      rw [List.nil_append] at HYD
      cases y with
      | false =>
        rw [← HYD.out] at hAL
        simp only [Bool.false_eq_true, if_false, HOLN.out, if_neg (Nat.not_lt.2 hle)] at hAL
        have HAL2 := Lib.hid hAL
        clear hAL
        go_wp2_with fail
        exact ⟨⟨j + 1, o, by go_num, by omega, by rw [HOLN.out]; exact HOL.out, HOO.out.keep HGR3.out, HG3.out, HAL2.out⟩, by simp [intOf]; omega⟩
      | true =>
        rw [← HYD.out] at hAL
        simp only [if_true] at hAL
        have HF := Lib.hid (sfill_ok B HG.out r HRR.out V bk w.heap.size g many j HGL.out.2 (by omega) h2 hkl j [] o (.slice oa ol oc) w3 (by simp) HB3.out HOG3.out ((HOO.out.at HGL.out.1).keep (But.of_grew HGR3.out)) (by rw [HOLN.out]; exact hle))
        simp only [List.length_nil] at HF
        obtain ⟨o', ho'⟩ : ∃ o', fillF (B.dB r) B.kinds many j [] o = o' := ⟨_, rfl⟩
        rw [ho'] at hAL HF
        have HAL2 := Lib.hid hAL
        clear hAL ho'
        go_wp2_with fail
        refine HF.out.mono ?_
        rintro e w4 ⟨v4, rfl, hO4, hw4, hb4⟩
        have HO4 := Lib.hid hO4
        have HG4 := Lib.hid (show Grew w w4 from Below.trans HG3.out hb4)
        obtain ⟨xa, xc, rfl⟩ := hO4.form
        obtain ⟨xl, hxl⟩ : ∃ xl, o'.length = xl := ⟨_, rfl⟩
        have HXL := Lib.hid hxl
        rw [hxl] at HO4 HAL2 ⊢
        clear hO4 hw4 hb4 hxl HF
        by_cases hgt : many < xl
        · have hgti : (many : Int) < (xl : Int) := by omega
          rw [if_pos hgt] at HAL2
          go_wp2_with fail
          show Q (.returned (.tuple #[.slice none 0 0, .int .i64 3])) w4
          have hR2 := HAL2.out
          subst hR2
          rw [← HQ.out]
          exact ⟨HG4.out, rfl⟩
        · have hgti : ¬ (many : Int) < (xl : Int) := by omega
          rw [if_neg hgt] at HAL2
          go_wp2_with fail
          exact ⟨⟨j + 1, o', by go_num, by omega, Lib.hid (by rw [HXL.out]; omega), HO4.out.r, HG4.out, HAL2.out⟩, by simp [intOf]; omega⟩
    · obtain rfl : j = long + 1 := by omega
      have hlti : ¬ (((long + 1 : Nat) : Int) < ((long + 1 : Nat) : Int)) := by omega
      subst hof
      obtain ⟨us, hu1, hu2, hu3⟩ := HOO.out
      have HCL := Lib.hid (clipIntss_ok wr _ _ _ us hu2)
      have HU3 := Lib.hid (And.intro hu1 hu3)
      clear hu1 hu2 hu3
      go_wp2_with fail
      refine HCL.out.mono ?_
      rintro e w5 ⟨⟨u, rfl, hu⟩, rfl⟩
      have HU := Lib.hid hu
      clear hu
      go_wp2_with fail
      show Q (.returned (.tuple #[u, .int .i64 0])) wr
      have hAL := HAL.out
      rw [Nat.sub_self, allR] at hAL
      subst hAL
      rw [← HQ.out]
      exact ⟨HGW.out, u, rfl, us, HU3.out.1, HU.out, HU3.out.2⟩
theorem sAll_ok (B : Bk) (hG : B.Good) (r long many : Int) (hkl : B.kinds.length ≤ 1000) (V : BV) (bk lim : Nat) (W : World) (hB : BookAt W lim bk V B) :
    Calls Tryz.prog 15 #[.pointer (some ⟨bk, 0, none⟩), .int .i64 r, .int .i64 long, .int .i64 many] W (AllIs B r long many W) := by
  by_cases h : hasR B r = true ∧ 0 ≤ long ∧ long ≤ 12 ∧ 1 ≤ many ∧ many ≤ 512
  · have hh := h.1
    unfold hasR at hh
    rw [Bool.and_eq_true, decide_eq_true_eq, decide_eq_true_eq] at hh
    obtain ⟨k, rfl⟩ := Int.eq_ofNat_of_zero_le hh.1
    obtain ⟨l, rfl⟩ := Int.eq_ofNat_of_zero_le h.2.1
    obtain ⟨m, rfl⟩ := Int.eq_ofNat_of_zero_le (show 0 ≤ many by omega)
    refine (sall_good B hG k l m (by omega) (by omega) (by omega) (by omega) hkl V bk lim W hB).mono ?_
    rintro e W' ⟨h1, h2⟩
    refine ⟨h1, ?_⟩
    rw [if_pos h, Bk.allL]
    exact h2
  · refine (sall_bad B r long many V bk lim W hB h).mono ?_
    rintro e W' ⟨rfl, rfl⟩
    refine ⟨Grew.refl _, ?_⟩
    rw [if_neg h]
end Go.Proofs.YtoflfkffldpglaaGreatDoor
