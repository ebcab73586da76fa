/- Ways and Along, by the document: what the program answers. -/
import Derived.Test.YtgdcnndmdgcjlaaPAnyA
import Derived.Test.YtgdcnndmdgcjlaaPRMayW
import Derived.Test.YtgdcnndmdgcjlaaPTkO
namespace Go.Proofs.Ytgdcnndmdgcjlaa
open Go.RowKit

theorem walk_wayB {N : Net} {w : List Int} (hN : N.Ok) {E : Nat → Nat → Nat → Bool} {A : Nat → Nat → Bool} (hS : OS ⟨N, w⟩ E A) (hE : ∀ r i j, r < (⟨N, w⟩ : OEnv).R → i ≤ (⟨N, w⟩ : OEnv).n → (E r i j = true ↔ TgE N w r i j)) {f t i : Nat} {b : Bool}
    (h : b = true ↔ (⟨N, w, E, A, (f, 0), -1⟩ : WEnv).wk (t, i)) : b = wayB N w f t i :=
  bool_iff (h.trans ((wk_found (O := ⟨N, w⟩) hN hS hE (p0 := (f, 0)) (p := (t, i)) (over := -1) (Nat.zero_le _)).trans (lv_iff.symm.trans wayB_iff.symm)))

set_option maxHeartbeats 2000000 in
set_option maxRecDepth 20000 in
theorem RWays_all (N : Net) (hS : N.Small) (hK : N.Kinds) (w : List Int) (hw : w.length ≤ 7) (f t : Int) (W : World) (n0 n1 n2 n3 n4 wv : Value) (hB : RNetAt W W.heap.size n0 n1 n2 n3 n4 N) (hWV : IntsV W W.heap.size wv w) :
    Calls Try.prog 10 #[.agg #[n0, n1, n2, n3, n4], .int .i64 f, .int .i64 t, wv] W fun e W' => ∃ v, e = .returned v ∧ WayOut N w f t v W' ∧ Grew W W' := by
  obtain ⟨na, nc, hn0, hN0⟩ := hB.states
  have hWV0 := hWV
  obtain ⟨wa, wc, hwv, -⟩ := hWV0
  obtain ⟨S, hSS⟩ : ∃ S, N.states.length = S := ⟨_, rfl⟩
  rw [hSS] at hn0
  subst hn0
  obtain ⟨w1, hw1⟩ : ∃ w1, W.alloc (.cells #[.slice na S nc, n1, n2, n3, n4] 38) = w1 := ⟨_, rfl⟩
  have g1 : Grew W w1 := hw1 ▸ grew_alloc W _
  have o1 : Owns w1 W.heap.size [.slice na S nc, n1, n2, n3, n4] 38 := hw1 ▸ Owns.alloc W _ _
  have c0 := o1.cell_at (i := 0) rfl
  have c1 := o1.cell_at (i := 1) rfl
  have c2 := o1.cell_at (i := 2) rfl
  have c3 := o1.cell_at (i := 3) rfl
  have c4 := o1.cell_at (i := 4) rfl
  have cl := o1.lt
  have HMAY := Lib.hid (RMay_ok N hS hK w1 _ n1 n2 n3 n4 ((hB.keep g1).mono g1.size))
  have HO := Lib.hid o1
  have HG := Lib.hid g1
  have HB := Lib.hid hB
  have HWV := Lib.hid hWV
  have HSM := Lib.hid hS
  have HSE := Lib.hid hSS
  have HWL := Lib.hid hw
  have hw16 : ¬ (16384 < w.length) := by omega
  have hw16' : decide (16384 < w.length) = false := decide_eq_false hw16
  clear g1 o1 hB hS hK hSS hN0
  subst hwv
  cases hk : okW N f t
  · have HKK := Lib.hid hk
    obtain ⟨mb, hmb⟩ : ∃ mb, N.mayB = mb := ⟨_, rfl⟩
    have HMB := Lib.hid hmb
    rw [hmb] at HMAY
    clear hmb hk hWV
    cases mb
    · go_enter Try.func10, Try.ntmps10
      go_wp2_with (refine HMAY.out.mono ?_; rintro e w3 ⟨rfl, hb3⟩; have HG3 := Lib.hid (HG.out.trans hb3); clear hb3)
      go_ret2
      exact ⟨_, rfl, wayOut_bad HKK.out, HG3.out⟩
    · have hx : f < 0 ∨ (S : Int) ≤ f ∨ t < 0 ∨ (S : Int) ≤ t := by
        have h := HKK.out
        unfold okW at h
        rw [HMB.out, Bool.and_true, Bool.and_eq_false_iff] at h
        rw [← HSE.out]
        rcases h with h | h
        · have : ¬ okN N.states.length f = true := by rw [h]; simp
          rw [okN_iff] at this
          omega
        · have : ¬ okN N.states.length t = true := by rw [h]; simp
          rw [okN_iff] at this
          omega
      obtain ⟨b1, hb1⟩ : ∃ b, decide (f < 0) = b := ⟨_, rfl⟩
      obtain ⟨b2, hb2⟩ : ∃ b, decide ((S : Int) ≤ f) = b := ⟨_, rfl⟩
      obtain ⟨b3, hb3⟩ : ∃ b, decide (t < 0) = b := ⟨_, rfl⟩
      obtain ⟨b4, hb4⟩ : ∃ b, decide ((S : Int) ≤ t) = b := ⟨_, rfl⟩
      have hxx : (b1 || b2 || b3 || b4) = true := by
        rw [← hb1, ← hb2, ← hb3, ← hb4]
        simp only [Bool.or_eq_true, decide_eq_true_eq]
        omega
      have HXX := Lib.hid hxx
      clear hx hxx
      cases b1
      · cases b2
        · cases b3
          · cases b4
            · have := HXX.out
              cases this
            · go_enter Try.func10, Try.ntmps10
              go_wp2_with (refine HMAY.out.mono ?_; rintro e w3 ⟨rfl, hb3⟩; have d0 := (HO.out.keep hb3).cell_at (i := 0) rfl; have dl := (HO.out.keep hb3).lt; have HG3 := Lib.hid (HG.out.trans hb3); clear hb3)
              go_ret2
              exact ⟨_, rfl, wayOut_bad HKK.out, HG3.out⟩
          · go_enter Try.func10, Try.ntmps10
            go_wp2_with (refine HMAY.out.mono ?_; rintro e w3 ⟨rfl, hb3⟩; have d0 := (HO.out.keep hb3).cell_at (i := 0) rfl; have dl := (HO.out.keep hb3).lt; have HG3 := Lib.hid (HG.out.trans hb3); clear hb3)
            go_ret2
            exact ⟨_, rfl, wayOut_bad HKK.out, HG3.out⟩
        · go_enter Try.func10, Try.ntmps10
          go_wp2_with (refine HMAY.out.mono ?_; rintro e w3 ⟨rfl, hb3⟩; have d0 := (HO.out.keep hb3).cell_at (i := 0) rfl; have dl := (HO.out.keep hb3).lt; have HG3 := Lib.hid (HG.out.trans hb3); clear hb3)
          go_ret2
          exact ⟨_, rfl, wayOut_bad HKK.out, HG3.out⟩
      · go_enter Try.func10, Try.ntmps10
        go_wp2_with (refine HMAY.out.mono ?_; rintro e w3 ⟨rfl, hb3⟩; have HG3 := Lib.hid (HG.out.trans hb3); clear hb3)
        go_ret2
        exact ⟨_, rfl, wayOut_bad HKK.out, HG3.out⟩
  · have hk2 := hk
    unfold okW at hk2
    simp only [Bool.and_eq_true, okN_iff] at hk2
    obtain ⟨⟨hf, ht⟩, hM⟩ := hk2
    rw [HSE.out] at hf ht
    obtain ⟨f', rfl⟩ : ∃ f' : Nat, f = f' := ⟨f.toNat, by omega⟩
    obtain ⟨t', rfl⟩ : ∃ t' : Nat, t = t' := ⟨t.toNat, by omega⟩
    have hfS : f' < S := by omega
    have htS : t' < S := by omega
    have r2 : decide ((S : Int) ≤ (f' : Int)) = false := decide_eq_false (by omega)
    have r4 : decide ((S : Int) ≤ (t' : Int)) = false := decide_eq_false (by omega)
    have q2 : decide (S ≤ f') = false := decide_eq_false (by omega)
    have q4 : decide (S ≤ t') = false := decide_eq_false (by omega)
    have p2 : ¬ S ≤ f' := by omega
    have p4 : ¬ S ≤ t' := by omega
    rw [hM] at HMAY
    have HOK := Lib.hid (Net.ok_of_may hM)
    have HKK := Lib.hid hk
    have HW := Lib.hid hWV
    clear hf ht hM hk hWV
    go_enter Try.func10, Try.ntmps10
    go_wp2_with fail
    refine HMAY.out.mono ?_
    rintro e w3 ⟨rfl, hb3⟩
    have hg3 := HG.out.trans hb3
    have d0 := (HO.out.keep hb3).cell_at (i := 0) rfl
    have d1 := (HO.out.keep hb3).cell_at (i := 1) rfl
    have d2 := (HO.out.keep hb3).cell_at (i := 2) rfl
    have d3 := (HO.out.keep hb3).cell_at (i := 3) rfl
    have d4 := (HO.out.keep hb3).cell_at (i := 4) rfl
    have dl := (HO.out.keep hb3).lt
    have HOF := Lib.hid (of_ok ⟨N, w⟩ HSM.out HOK.out HWL.out w3 (.slice na S nc) n1 n2 n3 n4 (.slice wa w.length wc) ((HB.out.keep hg3).mono hg3.size) ((HW.out.keep hg3).mono hg3.size))
    have HG3 := Lib.hid hg3
    clear hb3 hg3 c0 c1 c2 c3 c4 cl
    go_wp2_with fail
    refine HOF.out.mono ?_
    rintro e w4 ⟨tb, ev, av, L, E, A, rfl, htk, hos, hE, hA, hg4⟩
    have hg34 := HG3.out.trans hg4
    have hWL : WLaid ⟨N, w, E, A, (f', 0), -1⟩ w3.heap.size tb (.slice na S nc) n1 n2 n3 n4 (.slice wa w.length wc) ev av L w4 :=
      ⟨htk, (HB.out.keep hg34).mono hg34.size, (HW.out.keep hg34).mono hg34.size, HSM.out, HOK.out, HWL.out, fun r i j h => (hos.e r i j h).2.2.2, by show f' < N.states.length ∧ 0 ≤ w.length; rw [HSE.out]; exact ⟨hfS, Nat.zero_le _⟩⟩
    have hWK : Calls Try.prog 29 #[.pointer (some ⟨tb, 0, none⟩), .int .i64 f', .int .i64 0, .int .i64 (-1)] w4 (WalkAt ⟨N, w, E, A, (f', 0), -1⟩ w4) := walk_ok _ _ _ _ _ _ _ _ _ _ _ _ _ hWL
    have HWK := Lib.hid hWK
    have HG34 := Lib.hid hg34
    have HOS := Lib.hid hos
    have HE := Lib.hid hE
    clear hWL hWK hg34 htk hos hE hA hg4 d0 d1 d2 d3 d4 dl
    go_wp2_with fail
    refine HWK.out.mono ?_
    rintro e w5 ⟨v, fb, g, all, rfl, hGr, hwk, -, hg5⟩
    rw [show (⟨N, w, E, A, (f', 0), -1⟩ : WEnv).S = S from HSE.out] at hGr
    obtain ⟨vb, vc, rfl, hvl, hvr⟩ := hGr.at htS
    have r0 := hvr t' htS
    have HGR := Lib.hid hGr
    have HWK2 := Lib.hid hwk
    have HG5 := Lib.hid (HG34.out.trans hg5)
    clear hvr hGr hwk hg5
    go_wp2_with fail
    go_ret2
    have hc := HGR.out.cells t' htS
    have hcc : bcells w.length (g t') = wayCells N w f' t' := by
      unfold bcells wayCells
      apply List.map_congr_left
      intro i _
      rw [walk_wayB HOK.out HOS.out HE.out (HWK2.out t' i)]
    refine ⟨_, rfl, wayOut_good HKK.out (ob := fb t') ?_, HG5.out⟩
    rw [Int.toNat_natCast, Int.toNat_natCast, ← hcc]
    exact hc

/-- what Of leaves; what Walk leaves behind it -/
def OfR (N : Net) (w : List Int) (n0 n1 n2 n3 n4 wv : Value) (v : Value) (W' : World)   : Prop := ∃ (base tb : Nat) (ev av : Value) (L : TkLoc) (E : Nat → Nat → Nat → Bool) (A : Nat → Nat → Bool), v = .pointer (some ⟨tb, 0, none⟩) ∧ TkAt W' base tb n0 n1 n2 n3 n4 wv ev av N.starts.length N.starts.length w.length L E A ∧ OS ⟨N, w⟩ E A ∧
  (∀ r i j, r < N.starts.length → i ≤ w.length → (E r i j = true ↔ TgE N w r i j)) ∧ ∀ r i, r < N.starts.length → i ≤ w.length → (A r i = true ↔ AgP N w r i)
theorem OfR.keep {N : Net} {w : List Int} {n0 n1 n2 n3 n4 wv v : Value} {W W' : World} (hg : Grew W W') (h : OfR N w n0 n1 n2 n3 n4 wv v W) : OfR N w n0 n1 n2 n3 n4 wv v W' := by
  obtain ⟨base, tb, ev, av, L, E, A, h1, h2, h3⟩ := h
  exact ⟨base, tb, ev, av, L, E, A, h1, h2.keep hg, h3⟩
open Classical in
noncomputable def allV (N : Net) (w : List Int) (t : Nat) (o : Int) : Bool := decide (WkAll N w (TgE N w) (AgP N w) (t, 0) o)
open Classical in
noncomputable def placeV (N : Net) (w : List Int) (t : Nat) (o : Int) (s i : Nat) : Bool := decide (Wk N w (TgE N w) (t, 0) o (s, i))
theorem allV_iff {N : Net} {w : List Int} {t : Nat} {o : Int} : allV N w t o = true ↔ WkAll N w (TgE N w) (AgP N w) (t, 0) o := by unfold allV; exact @decide_eq_true_iff _ (Classical.propDecidable _)
theorem placeV_iff {N : Net} {w : List Int} {t : Nat} {o : Int} {s i : Nat} : placeV N w t o s i = true ↔ Wk N w (TgE N w) (t, 0) o (s, i) := by unfold placeV; exact @decide_eq_true_iff _ (Classical.propDecidable _)
def GrX (N : Net) (w : List Int) (base t : Nat) (o : Int) (v : Value) (W' : World) : Prop := ∃ fb, Grid W' base v N.states.length w.length fb (placeV N w t o)
theorem GrX.keep {N : Net} {w : List Int} {base t : Nat} {o : Int} {v : Value} {W W' : World} (hg : Grew W W') (h : GrX N w base t o v W) : GrX N w base t o v W' := by
  obtain ⟨fb, h⟩ := h
  exact ⟨fb, h.keep hg⟩
def WkR (N : Net) (w : List Int) (base t : Nat) (o : Int) (v : Value) (W' : World) : Prop := ∃ x, v = .tuple #[x, .bool (allV N w t o)] ∧ GrX N w base t o x W'
theorem WkR.keep {N : Net} {w : List Int} {base t : Nat} {o : Int} {v : Value} {W W' : World} (hg : Grew W W') (h : WkR N w base t o v W) : WkR N w base t o v W' := by
  obtain ⟨x, h1, h2⟩ := h
  exact ⟨x, h1, h2.keep hg⟩
theorem wkR_of {N : Net} {w : List Int} (hN : N.Ok) {E : Nat → Nat → Nat → Bool} {A : Nat → Nat → Bool} (hS : OS ⟨N, w⟩ E A) (hE : ∀ r i j, r < N.starts.length → i ≤ w.length → (E r i j = true ↔ TgE N w r i j)) (hA : ∀ r i, r < N.starts.length → i ≤ w.length → (A r i = true ↔ AgP N w r i))
    {t : Nat} {o : Int} {W W' : World} {e : Ending} {base : Nat} (hb : base ≤ W.heap.size) (h : WalkAt ⟨N, w, E, A, (t, 0), o⟩ W e W') : (∃ v, e = .returned v ∧ WkR N w base t o v W') ∧ Grew W W' := by
  obtain ⟨v, f, g, all, rfl, h1, h2, h3, h4⟩ := h
  have e1 : all = allV N w t o := bool_iff (h3.trans ((wkAll_found (O := ⟨N, w⟩) hN hS hE hA (p0 := (t, 0)) (over := o) (Nat.zero_le _)).trans allV_iff.symm))
  subst e1
  refine ⟨⟨_, rfl, v, rfl, f, (h1.weaken hb).congr fun s _ i _ => ?_⟩, h4⟩
  exact bool_iff ((h2 s i).trans ((wk_found (O := ⟨N, w⟩) hN hS hE (p0 := (t, 0)) (p := (s, i)) (over := o) (Nat.zero_le _)).trans placeV_iff.symm))
theorem along_place {N : Net} {w : List Int} {t o : Nat} : alongB N w t o = true ↔ (allV N w t o = true ∨ ∃ i, i < w.length + 1 ∧ placeV N w t o o i = true) := by
  rw [alongB_iff, along_iff, allV_iff]
  constructor
  · rintro (h | ⟨i, hi, h⟩)
    · exact .inl h
    · exact .inr ⟨i, by omega, placeV_iff.2 (by simpa using h)⟩
  · rintro (h | ⟨i, hi, h⟩)
    · exact .inl h
    · exact .inr ⟨i, by omega, by simpa using placeV_iff.1 h⟩

set_option maxHeartbeats 2000000 in
set_option maxRecDepth 20000 in
theorem RAlong_all (N : Net) (hS : N.Small) (hK : N.Kinds) (w : List Int) (hw : w.length ≤ 7) (f k : Int) (W : World) (n0 n1 n2 n3 n4 wv : Value) (hB : RNetAt W W.heap.size n0 n1 n2 n3 n4 N) (hWV : IntsV W W.heap.size wv w) :
    Calls Try.prog 14 #[.agg #[n0, n1, n2, n3, n4], .int .i64 f, .int .i64 k, wv] W fun e W' => e = .returned (.bool (alongV N w f k)) ∧ Grew W W' := by
  obtain ⟨na, nc, hn0, hN0⟩ := hB.states
  have hWV0 := hWV
  obtain ⟨wa, wc, hwv, -⟩ := hWV0
  obtain ⟨S, hSS⟩ : ∃ S, N.states.length = S := ⟨_, rfl⟩
  rw [hSS] at hn0
  subst hn0
  obtain ⟨w1, hw1⟩ : ∃ w1, W.alloc (.cells #[.slice na S nc, n1, n2, n3, n4] 38) = w1 := ⟨_, rfl⟩
  have g1 : Grew W w1 := hw1 ▸ grew_alloc W _
  have o1 : Owns w1 W.heap.size [.slice na S nc, n1, n2, n3, n4] 38 := hw1 ▸ Owns.alloc W _ _
  have c0 := o1.cell_at (i := 0) rfl
  have c1 := o1.cell_at (i := 1) rfl
  have c2 := o1.cell_at (i := 2) rfl
  have c3 := o1.cell_at (i := 3) rfl
  have c4 := o1.cell_at (i := 4) rfl
  have cl := o1.lt
  have HMAY := Lib.hid (RMay_ok N hS hK w1 _ n1 n2 n3 n4 ((hB.keep g1).mono g1.size))
  have HO := Lib.hid o1
  have HG := Lib.hid g1
  have HB := Lib.hid hB
  have HWV := Lib.hid hWV
  have HSM := Lib.hid hS
  have HSE := Lib.hid hSS
  have HWL := Lib.hid hw
  have HN0 := Lib.hid hN0
  have hw16 : ¬ (16384 < w.length) := by omega
  have hw16' : decide (16384 < w.length) = false := decide_eq_false hw16
  clear g1 o1 hB hS hK hSS hN0
  subst hwv
  obtain ⟨mb, hmb⟩ : ∃ mb, N.mayB = mb := ⟨_, rfl⟩
  have HMB := Lib.hid hmb
  rw [hmb] at HMAY
  clear hmb
  cases mb
  · have hav : alongV N w f k = false := by unfold alongV okA; rw [HMB.out]; simp
    rw [hav]
    clear hWV hav
    go_enter Try.func14, Try.ntmps14
    go_wp2_with (refine HMAY.out.mono ?_; rintro e w3 ⟨rfl, hb3⟩; have HG3 := Lib.hid (HG.out.trans hb3); clear hb3)
    go_ret
    exact ⟨rfl, HG3.out⟩
  · by_cases k0 : f < 0
    · have q0 : decide (f < 0) = true := decide_eq_true k0
      have hav : alongV N w f k = false := by unfold alongV okA okN; rw [decide_eq_false (by omega : ¬ 0 ≤ f)]; simp
      rw [hav]
      clear hWV hav k0
      go_enter Try.func14, Try.ntmps14
      go_wp2_with (refine HMAY.out.mono ?_; rintro e w3 ⟨rfl, hb3⟩; have HG3 := Lib.hid (HG.out.trans hb3); clear hb3)
      go_ret
      exact ⟨rfl, HG3.out⟩
    · have q0 : decide (f < 0) = false := decide_eq_false k0
      by_cases k1 : (S : Int) ≤ f
      · have q1 : decide ((S : Int) ≤ f) = true := decide_eq_true k1
        have hav : alongV N w f k = false := by unfold alongV okA okN; rw [HSE.out, decide_eq_false (by omega : ¬ f < (S : Int))]; simp
        rw [hav]
        clear hWV hav k0 k1
        go_enter Try.func14, Try.ntmps14
        go_wp2_with (refine HMAY.out.mono ?_; rintro e w3 ⟨rfl, hb3⟩; have d0 := (HO.out.keep hb3).cell_at (i := 0) rfl; have dl := (HO.out.keep hb3).lt; have HG3 := Lib.hid (HG.out.trans hb3); clear hb3)
        go_ret
        exact ⟨rfl, HG3.out⟩
      · obtain ⟨f', rfl⟩ : ∃ f' : Nat, f = f' := ⟨f.toNat, by omega⟩
        have hfS : f' < S := by omega
        have hf' : f' < N.states.length := by rw [HSE.out]; exact hfS
        have r2 : decide (S ≤ f') = false := decide_eq_false (by omega)
        have p2 : ¬ S ≤ f' := by omega
        obtain ⟨sb, soff, rfl, hsb, hstt⟩ := HN0.out f' hf'
        obtain ⟨-, ⟨ea, ec, s1, hE⟩, za, zc, s2, hZ⟩ := hstt
        have hED : N.ends f' = N.states[f'].ends := by unfold Net.ends; rw [List.getElem?_eq_getElem hf']; rfl
        have hEE : N.edges f' = N.states[f'].edges := by unfold Net.edges; rw [List.getElem?_eq_getElem hf']; rfl
        rw [← hED] at s2 hZ
        rw [← hEE] at s1 hE
        obtain ⟨el, hel⟩ : ∃ el, (N.ends f').length = el := ⟨_, rfl⟩
        rw [hel] at s2
        have HSB := Lib.hid (And.intro hsb (And.intro s1 s2))
        by_cases k2 : k < 0
        · have q2 : decide (k < 0) = true := decide_eq_true k2
          have hav : alongV N w f' k = false := by unfold alongV okA; rw [decide_eq_false (by omega : ¬ 0 ≤ k)]; simp
          rw [hav]
          clear hWV hav k0 k1 k2 hE hZ hED hEE hel s1 s2 hsb hf'
          go_enter Try.func14, Try.ntmps14
          go_wp2_with (refine HMAY.out.mono ?_; rintro e w3 ⟨rfl, hb3⟩; have d0 := (HO.out.keep hb3).cell_at (i := 0) rfl; have dl := (HO.out.keep hb3).lt; have HG3 := Lib.hid (HG.out.trans hb3); clear hb3)
          go_ret
          exact ⟨rfl, HG3.out⟩
        · have q2 : decide (k < 0) = false := decide_eq_false k2
          by_cases k3 : (el : Int) ≤ k
          · have q3 : decide ((el : Int) ≤ k) = true := decide_eq_true k3
            have hav : alongV N w f' k = false := by unfold alongV okA; rw [Int.toNat_natCast, hel, decide_eq_false (by omega : ¬ k.toNat < el)]; simp
            rw [hav]
            clear hWV hav k0 k1 k2 k3 hE hZ hED hEE hel s1 s2 hsb hf'
            go_enter Try.func14, Try.ntmps14
            go_wp2_with (refine HMAY.out.mono ?_; rintro e w3 ⟨rfl, hb3⟩; have d0 := (HO.out.keep hb3).cell_at (i := 0) rfl; have dl := (HO.out.keep hb3).lt; have hg3 := HG.out.trans hb3; have d1 := (hg3.cells _ _ HSB.out.1).trans HSB.out.2.2; have dl1 := Nat.lt_of_lt_of_le HSB.out.1 hg3.size; have HG3 := Lib.hid hg3; clear hb3 hg3)
            go_ret
            exact ⟨rfl, HG3.out⟩
          · obtain ⟨k', rfl⟩ : ∃ k' : Nat, k = k' := ⟨k.toNat, by omega⟩
            have hkl : k' < el := by omega
            have hkD : k' < (N.ends f').length := by rw [hel]; exact hkl
            have hOk := Net.ok_of_may HMB.out
            have hkE : k' < (N.edges f').length := by
              rcases hOk.endsE f' with h | h
              · rw [h] at hkD; simp at hkD
              · rw [← h]; exact hkD
            have r3 : decide (el ≤ k') = false := decide_eq_false (by omega)
            have p3 : ¬ el ≤ k' := by omega
            obtain ⟨zb, zoff, rfl, hzb, hzc⟩ := hZ k' hkD
            obtain ⟨eb, eoff, rfl, heb, e0, e1, e2⟩ := hE k' hkE
            have hto := (hOk.edge f' _ (List.getElem_mem hkE)).1
            have hov := hOk.endsR f' _ (List.getElem_mem hkD)
            obtain ⟨t, ht⟩ : ∃ t : Nat, (N.edges f')[k'].to = t := ⟨(N.edges f')[k'].to.toNat, by omega⟩
            obtain ⟨o, ho⟩ : ∃ o : Nat, (N.ends f')[k'] = o := ⟨(N.ends f')[k'].toNat, by omega⟩
            have htS : t < S := by rw [← HSE.out]; omega
            have hoS : o < S := by rw [← HSE.out]; omega
            have hav : alongV N w f' k' = alongB N w t o := by
              unfold alongV okA toOf overOf
              rw [Int.toNat_natCast, Int.toNat_natCast, List.getElem?_eq_getElem hkD, List.getElem?_eq_getElem hkE, HMB.out, decide_eq_true hkD, decide_eq_true (by omega : (0 : Int) ≤ (k' : Int)), okN_iff.2 (by omega : (0 : Int) ≤ (f' : Int) ∧ (f' : Int) < (N.states.length : Int))]
              simp [ht, ho]
            rw [ht] at e2
            rw [ho] at hzc
            rw [hav]
            obtain ⟨m, hm⟩ : ∃ m, (N.edges f').length = m := ⟨_, rfl⟩
            have hkm : k' < m := by rw [← hm]; exact hkE
            rw [hm] at s1
            have HC := Lib.hid (show ∀ u, Grew W u → u.cell? ⟨sb, soff + f' * 3 + 1, none⟩ = some (.slice (some ⟨eb, eoff, none⟩) m ec) ∧ u.cell? ⟨sb, soff + f' * 3 + 2, none⟩ = some (.slice (some ⟨zb, zoff, none⟩) el zc) ∧ u.cell? ⟨eb, eoff + k' * 3 + 2, none⟩ = some (.int .i64 t) ∧ u.cell? ⟨zb, zoff + k', none⟩ = some (.int .i64 o) from
              fun u hg => ⟨(hg.cells _ _ hsb).trans s1, (hg.cells _ _ hsb).trans s2, (hg.cells _ _ heb).trans e2, (hg.cells _ _ hzb).trans hzc⟩)
            have HL := Lib.hid (And.intro hsb (And.intro heb hzb))
            have HOK := Lib.hid hOk
            have HW := Lib.hid hWV
            clear hWV hav k0 k1 k2 k3 hE hZ hED hEE hel s1 s2 hsb hf' hOk hto hov ht ho hm e0 e1 e2 hzc heb hzb hkD hkE
            go_enter Try.func14, Try.ntmps14
            go_wp2_with (refine HMAY.out.mono ?_; rintro e w3 ⟨rfl, hb3⟩; have hg3 := HG.out.trans hb3; have d0 := (HO.out.keep hb3).cell_at (i := 0) rfl; have d1 := (HO.out.keep hb3).cell_at (i := 1) rfl; have d2 := (HO.out.keep hb3).cell_at (i := 2) rfl; have d3 := (HO.out.keep hb3).cell_at (i := 3) rfl; have d4 := (HO.out.keep hb3).cell_at (i := 4) rfl; have dl := (HO.out.keep hb3).lt; obtain ⟨x1, x2, x3, x4⟩ := HC.out w3 hg3; have l1 := Nat.lt_of_lt_of_le HL.out.1 hg3.size; have l2 := Nat.lt_of_lt_of_le HL.out.2.1 hg3.size; have l3 := Nat.lt_of_lt_of_le HL.out.2.2 hg3.size; have HG3 := Lib.hid hg3; clear hb3 hg3)
            clear c0 c1 c2 c3 c4 cl
            refine wp_region_hav_lit follows (by kernel_rfl) ?_
            repeat (first
              | (refine HavG.skip (fun _ => rfl) ?_; simp only [Act.put, List.setIfInBounds_toArray, List.set_cons_zero, List.set_cons_succ])
              | (refine HavG.val (fun _ => rfl) ?_ (fun x w hw _ => ?_) ?_; rotate_left; (focus (have hc := hw.cells; clear hw; go_simp; first | done | rfl)); simp only [Act.put, List.setIfInBounds_toArray, List.set_cons_zero, List.set_cons_succ]))
            refine HavG.any (fun _ => rfl) (OfR N w (.slice (some ⟨sb, soff, none⟩) S nc) n1 n2 n3 n4 (.slice wa w.length wc)) (fun _ _ _ hg h => OfR.keep hg h) (fun x u hw _ => ?_) ?_
            · have hgu := HG3.out.trans hw
              have HOF := Lib.hid (of_ok ⟨N, w⟩ HSM.out HOK.out HWL.out u (.slice (some ⟨sb, soff, none⟩) S nc) n1 n2 n3 n4 (.slice wa w.length wc) ((HB.out.keep hgu).mono hgu.size) ((HW.out.keep hgu).mono hgu.size))
              have HGU := Lib.hid hgu
              clear hw hgu
              go_simp
              refine HOF.out.mono ?_
              rintro e u2 ⟨tb, ev, av, L, E, A, rfl, htk, hos, hE, hA, hg4⟩
              exact ⟨hg4, _, tb, ev, av, L, E, A, rfl, htk, hos, hE, hA⟩
            simp only [Act.put, List.setIfInBounds_toArray, List.set_cons_zero, List.set_cons_succ]
            repeat (first
              | (refine HavG.skip (fun _ => rfl) ?_; simp only [Act.put, List.setIfInBounds_toArray, List.set_cons_zero, List.set_cons_succ])
              | (refine HavG.val (fun _ => rfl) ?_ (fun x w hw _ => ?_) ?_; rotate_left; (focus (have hc := hw.cells; clear hw; go_simp; first | done | rfl)); simp only [Act.put, List.setIfInBounds_toArray, List.set_cons_zero, List.set_cons_succ]))
            refine HavG.any (fun _ => rfl) (WkR N w W.heap.size t o) (fun _ _ _ hg h => WkR.keep hg h) (fun x u hw hd => ?_) ?_
            · have h2 := hd _ (List.mem_append_right _ (List.mem_singleton.2 rfl)) (by kernel_rfl)
              dsimp only at h2
              have hgu := HG3.out.trans hw
              clear hd hw
              generalize x (0 + 1 + 1) = y2 at *
              obtain ⟨base, tb, ev, av, L, E, A, rfl, htk, hos, hE, hA⟩ := h2
              have hWL : WLaid ⟨N, w, E, A, (t, 0), o⟩ base tb (.slice (some ⟨sb, soff, none⟩) S nc) n1 n2 n3 n4 (.slice wa w.length wc) ev av L u :=
                ⟨htk, (HB.out.keep hgu).mono hgu.size, (HW.out.keep hgu).mono hgu.size, HSM.out, HOK.out, HWL.out, fun r i j h => (hos.e r i j h).2.2.2, by show t < N.states.length ∧ 0 ≤ w.length; rw [HSE.out]; exact ⟨htS, Nat.zero_le _⟩⟩
              have hWK : Calls Try.prog 29 #[.pointer (some ⟨tb, 0, none⟩), .int .i64 t, .int .i64 0, .int .i64 o] u (WalkAt ⟨N, w, E, A, (t, 0), o⟩ u) := walk_ok _ _ _ _ _ _ _ _ _ _ _ _ _ hWL
              have HWK := Lib.hid hWK
              have HGU := Lib.hid hgu
              have HOS := Lib.hid hos
              have HE := Lib.hid hE
              have HA := Lib.hid hA
              clear hWL hWK hgu htk hos hE hA
              go_simp
              refine HWK.out.mono ?_
              rintro e u2 hres
              obtain ⟨⟨v, rfl, hr⟩, hg⟩ := wkR_of HOK.out HOS.out HE.out HA.out HGU.out.size hres
              exact ⟨hg, hr⟩
            simp only [Act.put, List.setIfInBounds_toArray, List.set_cons_zero, List.set_cons_succ]
            refine HavG.any (fun _ => rfl) (WkR N w W.heap.size t o) (fun _ _ _ hg h => WkR.keep hg h) (fun x u hw hd => ?_) ?_
            · have h7 := hd _ (List.mem_append_right _ (List.mem_singleton.2 rfl)) (by kernel_rfl)
              dsimp only at h7
              clear hd hw
              generalize x (0 + 1 + 1 + 1 + 1 + 1 + 1 + 1 + 1 + 1 + 1 + 1 + 1 + 1 + 1) = y14 at *
              have H7 := Lib.hid h7
              clear h7
              go_simp
              exact ⟨Grew.refl _, H7.out⟩
            simp only [Act.put, List.setIfInBounds_toArray, List.set_cons_zero, List.set_cons_succ]
            refine HavG.any (fun _ => rfl) (GrX N w W.heap.size t o) (fun _ _ _ hg h => GrX.keep hg h) (fun x u hw hd => ?_) ?_
            · have h8 := hd _ (List.mem_append_right _ (List.mem_singleton.2 rfl)) (by kernel_rfl)
              dsimp only at h8
              clear hd hw
              generalize x (0 + 1 + 1 + 1 + 1 + 1 + 1 + 1 + 1 + 1 + 1 + 1 + 1 + 1 + 1 + 1) = y15 at *
              obtain ⟨xx, rfl, ho⟩ := h8
              have HO2 := Lib.hid ho
              clear ho
              go_simp
              exact ⟨Grew.refl _, HO2.out⟩
            simp only [Act.put, List.setIfInBounds_toArray, List.set_cons_zero, List.set_cons_succ]
            refine HavG.det (fun _ => rfl) (.bool (allV N w t o)) (fun x u hw hd => ?_) ?_
            · have h8 := hd _ (List.mem_append_left _ (List.mem_append_right _ (List.mem_singleton.2 rfl))) (by kernel_rfl)
              dsimp only at h8
              clear hd hw
              generalize x (0 + 1 + 1 + 1 + 1 + 1 + 1 + 1 + 1 + 1 + 1 + 1 + 1 + 1 + 1 + 1) = y15 at *
              obtain ⟨xx, rfl, ho⟩ := h8
              clear ho
              go_simp
              exact Grew.refl _
            simp only [Act.put, List.setIfInBounds_toArray, List.set_cons_zero, List.set_cons_succ]
            refine HavG.any (fun _ => rfl) (GrX N w W.heap.size t o) (fun _ _ _ hg h => GrX.keep hg h) (fun x u hw hd => ?_) ?_
            · have h8 := hd _ (List.mem_append_right _ (List.mem_singleton.2 rfl)) (by kernel_rfl)
              dsimp only at h8
              clear hd hw
              generalize x (0 + 1 + 1 + 1 + 1 + 1 + 1 + 1 + 1 + 1 + 1 + 1 + 1 + 1 + 1 + 1 + 1) = y16 at *
              have H8 := Lib.hid h8
              clear h8
              go_simp
              exact ⟨Grew.refl _, H8.out⟩
            simp only [Act.put, List.setIfInBounds_toArray, List.set_cons_zero, List.set_cons_succ]
            refine HavG.tail (by kernel_rfl) (by kernel_rfl) (fun x w5 hw hx => ?_)
            have hx8 := hx _ (List.mem_append_right _ (List.mem_singleton.2 rfl))
            clear hx
            dsimp only at hx8
            generalize x (0 + 1 + 1 + 1 + 1 + 1 + 1 + 1 + 1 + 1 + 1 + 1 + 1 + 1 + 1 + 1 + 1 + 1 + 1) = y18 at *
            generalize x (0 + 1 + 1 + 1 + 1 + 1 + 1 + 1 + 1 + 1 + 1 + 1 + 1 + 1 + 1 + 1 + 1) = y16 at *
            generalize x (0 + 1 + 1 + 1 + 1 + 1 + 1 + 1 + 1 + 1 + 1 + 1 + 1 + 1 + 1 + 1) = y15 at *
            generalize x (0 + 1 + 1 + 1 + 1 + 1 + 1 + 1 + 1 + 1 + 1 + 1 + 1 + 1 + 1) = y14 at *
            generalize x (0 + 1 + 1) = y2 at *
            obtain ⟨fb, hGr⟩ := hx8
            obtain ⟨vb, vc, rfl, hvl, hvr⟩ := hGr.at (s := o) (by rw [HSE.out]; exact hoS)
            have r0 := hvr o (by rw [HSE.out]; exact hoS)
            have HCE := Lib.hid (show ∀ i, i ≤ w.length → w5.cell? ⟨fb o, i, none⟩ = some (.bool (placeV N w t o o i)) from fun i hi => hGr.cell (by rw [HSE.out]; exact hoS) hi)
            have hfl := (hGr.cells o (by rw [HSE.out]; exact hoS)).lt
            have HG5 := Lib.hid (HG3.out.trans hw)
            rw [HSE.out]
            clear hw hGr hvr d0 d1 d2 d3 d4 dl x1 x2 x3 x4 l1 l2 l3
            go_wp2_with fail
            obtain ⟨al, hal⟩ : ∃ al, allV N w t o = al := ⟨_, rfl⟩
            have HAL := Lib.hid hal
            rw [hal]
            clear hal
            go_loopw [11, 12] (fun x11 x12 wr => ∃ (i : Nat) (b : Bool), x11 = .bool b ∧ x12 = .int .i64 i ∧ i ≤ w.length + 1 ∧ Hid (b = true ↔ (al = true ∨ ∃ i', i' < i ∧ placeV N w t o o i' = true)) ∧ wr = w5) (fun _ i _ => w.length + 1 - (intOf i).toNat)
            case atStart => exact ⟨0, al, rfl, rfl, by omega, ⟨fun h => .inl h, fun h => h.elim id fun ⟨s', h1, _⟩ => absurd h1 (by omega)⟩, rfl⟩
            case round =>
              obtain ⟨i, b, rfl, rfl, hi, hb, rfl⟩ := hrel
              by_cases hin : i < w.length + 1
              · have hii : (i : Int) ≤ (w.length : Int) := by omega
                have hii2 : i ≤ w.length := by omega
                have cc := HCE.out i hii2
                obtain ⟨y, hy⟩ : ∃ y, placeV N w t o o i = y := ⟨_, rfl⟩
                rw [hy] at cc
                have HY := Lib.hid hy
                clear hy
                have fin : Hid ((b || y) = true ↔ (al = true ∨ ∃ i', i' < i + 1 ∧ placeV N w t o o i' = true)) := Lib.hid (by
                  rw [Bool.or_eq_true, hb.out]
                  constructor
                  · rintro ((h | ⟨s', h1, h2⟩) | h)
                    · exact .inl h
                    · exact .inr ⟨s', by omega, h2⟩
                    · exact .inr ⟨i, by omega, by rw [HY.out]; exact h⟩
                  · rintro (h | ⟨s', h1, h2⟩)
                    · exact .inl (.inl h)
                    · by_cases e : s' = i
                      · subst e
                        rw [HY.out] at h2
                        exact .inr h2
                      · exact .inl (.inr ⟨s', by omega, h2⟩))
                cases b
                · go_wp2_with fail
                  exact ⟨⟨i + 1, y, rfl, by go_num, by omega, fin.out, trivial⟩, by simp [intOf]; omega⟩
                · go_wp2_with fail
                  exact ⟨⟨i + 1, true, rfl, by go_num, by omega, fin.out, trivial⟩, by simp [intOf]; omega⟩
              · have hii : ¬ ((i : Int) ≤ (w.length : Int)) := by omega
                have hii2 : ¬ i ≤ w.length := by omega
                obtain rfl : i = w.length + 1 := by omega
                go_wp2_with fail
                go_ret
                refine ⟨ret_bool (bool_iff ?_), HG5.out⟩
                rw [hb.out, along_place, HAL.out]
end Go.Proofs.Ytgdcnndmdgcjlaa
