/- Ways and Along of the program where nothing may be asked. -/
import Derived.Deep.CutBlock
import Derived.Deep.DeepCutAuto
import Derived.Test.YtgdcnndmdgcjlaaQ10
import Derived.Test.YtgdcnndmdgcjlaaQ3
import Derived.Test.YtgdcnndmdgcjlaaQ5
namespace Go.Proofs.Ytgdcnndmdgcjlaa
open Go.RowKit
set_option maxHeartbeats 1000000 in
set_option maxRecDepth 20000 in
theorem pmay_any (N : Net) (hN : N.Small) (w l : List Int) (hw : w.length ≤ 7) (W : World) (n0 n1 n2 n3 n4 wv : Value) (hB : NetAt W W.heap.size n0 n1 n2 n3 n4 N) (hWV : IntsV W W.heap.size wv w)
    (rb rc : Nat) (hrb : rb < W.heap.size) (hln : l.length ≤ 1000) (hcell : ∀ k (h : k < l.length), W.cell? ⟨rb, k, none⟩ = some (.int .i64 l[k])) :
    Calls Try.prog 23 #[.agg #[n0, n1, n2, n3, n4], wv, .slice (some ⟨rb, 0, none⟩) l.length rc] W fun e W' => e = .returned (.bool (l.all (okN N.states.length) && N.mayB)) ∧ Grew W W' := by
  by_cases hall : l.all (okN N.states.length) = true
  · have hl : ∀ i ∈ l, okN N.states.length i = true := List.all_eq_true.1 hall
    rw [hall, Bool.true_and]
    exact pmay_ok N hN w l hw hl W n0 n1 n2 n3 n4 wv hB hWV rb rc hrb hln hcell
  · have hall' : l.all (okN N.states.length) = false := by simpa using hall
    rw [hall', Bool.false_and]
    have hex : ∃ k, ∃ h : k < l.length, okN N.states.length l[k] = false := by
      rw [List.all_eq_false] at hall'
      obtain ⟨x, hx, hx2⟩ := hall'
      obtain ⟨k, hk, rfl⟩ := List.getElem_of_mem hx
      exact ⟨k, hk, by simpa using hx2⟩
    obtain ⟨na, nc, rfl, hN0⟩ := hB.states
    obtain ⟨ta, tc, rfl, hT⟩ := hB.starts
    obtain ⟨ua, uc, rfl, hU⟩ := hB.stops
    obtain ⟨pa, pc, rfl, hP⟩ := hB.preds
    obtain ⟨da, dc, rfl, hD⟩ := hB.decisions
    obtain ⟨wa, wc, rfl, hWA⟩ := hWV
    obtain ⟨w1, hw1⟩ : ∃ w1, W.alloc (.cells #[.slice na N.states.length nc, .slice ta N.starts.length tc, .slice ua N.stops.length uc, .slice pa N.preds.length pc, .slice da N.decisions.length dc] 25) = w1 := ⟨_, rfl⟩
    have g1 : Grew W w1 := hw1 ▸ grew_alloc W _
    have o1 : Owns w1 W.heap.size [.slice na N.states.length nc, .slice ta N.starts.length tc, .slice ua N.stops.length uc, .slice pa N.preds.length pc, .slice da N.decisions.length dc] 25 := hw1 ▸ Owns.alloc W _ _
    have b0 := o1.cell_at (i := 0) rfl
    have hcl : ∀ k (h : k < l.length), w1.cell? ⟨rb, k, none⟩ = some (.int .i64 l[k]) := fun k h => by rw [g1.cells _ _ hrb]; exact hcell k h
    have HCL := Lib.hid hcl
    have HG := Lib.hid g1
    have HEX := Lib.hid hex
    clear hB o1 g1 hcl hcell hN0 hT hU hP hD hWA hN hall hall' hex
    go_enter Try.func23, Try.ntmps23
    go_wp2_with fail
    go_loopw [11] (fun i wr => ∃ (j : Nat), i = .int .i64 j ∧ j ≤ l.length ∧ Hid (∀ k (h : k < l.length), k < j → okN N.states.length l[k] = true) ∧ wr = w1) (fun i _ => l.length - (intOf i).toNat)
    case atStart => exact ⟨0, rfl, by omega, fun k h hk => absurd hk (by omega), rfl⟩
    case round =>
      obtain ⟨j, rfl, hj, hok, rfl⟩ := hrel
      by_cases hlt : j < l.length
      · have hc := HCL.out j hlt
        by_cases k0 : l[j] < 0
        · have q0 : decide (l[j] < 0) = true := decide_eq_true k0
          clear k0
          go_wp2_with fail
          go_ret
          exact ⟨rfl, HG.out⟩
        · have q0 : decide (l[j] < 0) = false := decide_eq_false k0
          have K0 := Lib.hid k0
          clear k0
          by_cases k1 : (N.states.length : Int) ≤ l[j]
          · have q1 : decide ((N.states.length : Int) ≤ l[j]) = true := decide_eq_true k1
            clear k1
            go_wp2_with fail
            go_ret
            exact ⟨rfl, HG.out⟩
          · have q1 : decide ((N.states.length : Int) ≤ l[j]) = false := decide_eq_false k1
            have K1 := Lib.hid k1
            clear k1
            go_wp2_with fail
            exact ⟨⟨j + 1, by go_num, by omega, fun k h hk => by
              by_cases e : k = j
              · subst e
                have := K0.out
                have := K1.out
                rw [okN_iff]
                omega
              · exact hok.out k h (by omega), trivial⟩, by simp [intOf]; omega⟩
      · obtain ⟨k, hk, hk2⟩ := HEX.out
        rw [hok.out k hk (by omega)] at hk2
        cases hk2
def okW (N : Net) (f t : Int) : Bool := (okN N.states.length f && okN N.states.length t) && N.mayB
def okA (N : Net) (f k : Int) : Bool := (okN N.states.length f && N.mayB) && (decide (0 ≤ k) && decide (k.toNat < (N.ends f.toNat).length))
def toOf (N : Net) (f k : Nat) : Nat := (((N.edges f)[k]?.map fun (e : Edg) => e.to).getD 0).toNat
def overOf (N : Net) (f k : Nat) : Int := ((N.ends f)[k]?).getD 0
noncomputable def alongV (N : Net) (w : List Int) (f k : Int) : Bool := okA N f k && alongB N w (toOf N f.toNat k.toNat) (overOf N f.toNat k.toNat)
def WayOut (N : Net) (w : List Int) (f t : Int) (v : Value) (W' : World) : Prop := ∃ x, v = .tuple #[x, .int .i64 (if okW N f t = true then 0 else 1)] ∧ BoolsV W' x (if okW N f t = true then w.length + 1 else 0) (wayB N w f.toNat t.toNat) ∧ ∃ a c, x = .slice a (if okW N f t = true then w.length + 1 else 0) c
theorem BoolsV.keep {W W' : World} {v : Value} {n : Nat} {h : Nat → Bool} (hg : Grew W W') (hb : BoolsV W v n h) : BoolsV W' v n h := by
  rcases hb with hb | ⟨b, c, h1, h2, h3⟩
  · exact .inl hb
  · exact .inr ⟨b, c, h1, Nat.lt_of_lt_of_le h2 hg.size, fun k hk => (hg.cells _ _ h2).trans (h3 k hk)⟩
theorem wayOut_good {N : Net} {w : List Int} {f t : Int} {ob : Nat} {W' : World} (hk : okW N f t = true) (ho : Owns W' ob (wayCells N w f.toNat t.toNat) 4) : WayOut N w f t (.tuple #[.slice (some ⟨ob, 0, none⟩) (w.length + 1) (w.length + 1), .int .i64 0]) W' := by
  refine ⟨_, by rw [if_pos hk], ?_, some ⟨ob, 0, none⟩, w.length + 1, by rw [if_pos hk]⟩
  rw [if_pos hk]
  exact .inr ⟨ob, w.length + 1, rfl, ho.lt, fun k h => wayCells_at ho h⟩
theorem wayOut_bad {N : Net} {w : List Int} {f t : Int} {W' : World} (hk : okW N f t = false) : WayOut N w f t (.tuple #[.slice none 0 0, .int .i64 1]) W' := by
  have hk' : ¬ okW N f t = true := by rw [hk]; simp
  exact ⟨_, by rw [if_neg hk'], by rw [if_neg hk']; exact .inl ⟨rfl, 0, rfl⟩, none, 0, by rw [if_neg hk']⟩
set_option maxHeartbeats 1000000 in
set_option maxRecDepth 20000 in
theorem Ways_all (N : Net) (hN : N.Small) (w : List Int) (hw : w.length ≤ 7) (f t : Int) (W : World) (n0 n1 n2 n3 n4 wv : Value) (hB : NetAt W W.heap.size n0 n1 n2 n3 n4 N) (hWV : IntsV W W.heap.size wv w) :
    Calls Try.prog 9 #[.agg #[n0, n1, n2, n3, n4], .int .i64 f, .int .i64 t, wv] W fun e W' => ∃ v, e = .returned v ∧ WayOut N w f t v W' ∧ Grew W W' := by
  cases hk : okW N f t
  · obtain ⟨w1, hw1⟩ : ∃ w1, W.alloc (.cells #[n0, n1, n2, n3, n4] 25) = w1 := ⟨_, rfl⟩
    have z1 : w1.heap.size = W.heap.size + 1 := by rw [← hw1]; exact World.size_alloc W _
    have g1 : Grew W w1 := hw1 ▸ grew_alloc W _
    have o1 : Owns w1 W.heap.size [n0, n1, n2, n3, n4] 25 := hw1 ▸ Owns.alloc W _ _
    obtain ⟨w2, hw2⟩ : ∃ w2, w1.alloc (.cells #[.int .i64 f, .int .i64 t] 3) = w2 := ⟨_, rfl⟩
    have z2 : w2.heap.size = W.heap.size + 1 + 1 := by rw [← hw2, World.size_alloc, z1]
    have g2 : Grew w1 w2 := hw2 ▸ grew_alloc w1 _
    have o2 : Owns w2 (W.heap.size + 1) [.int .i64 f, .int .i64 t] 3 := by rw [← z1, ← hw2]; exact Owns.alloc w1 _ _
    have c0 := o1.cell_at (i := 0) rfl
    have c1 := o1.cell_at (i := 1) rfl
    have c2 := o1.cell_at (i := 2) rfl
    have c3 := o1.cell_at (i := 3) rfl
    have c4 := o1.cell_at (i := 4) rfl
    have g12 := g1.trans g2
    have hmay := pmay_any N hN w [f, t] hw w2 n0 n1 n2 n3 n4 wv ((hB.keep g12).mono g12.size) ((hWV.keep g12).mono g12.size) (W.heap.size + 1) 2 (by omega) (by simp)
      (fun k hk => by
        match k, hk with
        | 0, _ => exact o2.cell_at (i := 0) rfl
        | 1, _ => exact o2.cell_at (i := 1) rfl)
    have hb : ([f, t].all (okN N.states.length) && N.mayB) = false := by
      rw [← hk]
      unfold okW
      simp [Bool.and_assoc]
    rw [hb] at hmay
    have HMAY := Lib.hid (show Calls Try.prog 23 #[.agg #[n0, n1, n2, n3, n4], wv, .slice (some ⟨W.heap.size + 1, 0, none⟩) 2 2] w2 fun e W' => e = .returned (.bool false) ∧ Grew w2 W' from hmay)
    have HG := Lib.hid g12
    have HKK := Lib.hid hk
    clear hmay g12 o1 o2 g1 g2 hB hWV hN hk hb
    go_enter Try.func9, Try.ntmps9
    go_wp2_with fail
    refine HMAY.out.mono ?_
    rintro e w3 ⟨rfl, hb3⟩
    have HG3 := Lib.hid (HG.out.trans hb3)
    clear hb3
    go_wp2_with fail
    go_ret2
    exact ⟨_, rfl, wayOut_bad HKK.out, HG3.out⟩
  · have hk2 := hk
    unfold okW at hk2
    simp only [Bool.and_eq_true, okN_iff] at hk2
    obtain ⟨f', rfl⟩ : ∃ f' : Nat, f = f' := ⟨f.toNat, by omega⟩
    obtain ⟨t', rfl⟩ : ∃ t' : Nat, t = t' := ⟨t.toNat, by omega⟩
    refine (ways_ok N hN hk2.2 w hw f' t' (by omega) (by omega) W n0 n1 n2 n3 n4 wv hB hWV).mono ?_
    rintro e W' hres
    obtain ⟨⟨v, rfl, ob, rfl, ho⟩, hG⟩ := ways_fix hres
    exact ⟨_, rfl, wayOut_good hk (by simpa using ho), hG⟩
set_option maxHeartbeats 1000000 in
set_option maxRecDepth 20000 in
theorem Along_all (N : Net) (hN : N.Small) (w : List Int) (hw : w.length ≤ 7) (f k : Int) (W : World) (n0 n1 n2 n3 n4 wv : Value) (hB : NetAt W W.heap.size n0 n1 n2 n3 n4 N) (hWV : IntsV W W.heap.size wv w) :
    Calls Try.prog 13 #[.agg #[n0, n1, n2, n3, n4], .int .i64 f, .int .i64 k, wv] W fun e W' => e = .returned (.bool (alongV N w f k)) ∧ Grew W W' := by
  cases hk : okA N f k
  · have hav : alongV N w f k = false := by unfold alongV; rw [hk]; rfl
    rw [hav]
    obtain ⟨w1, hw1⟩ : ∃ w1, W.alloc (.cells #[n0, n1, n2, n3, n4] 25) = w1 := ⟨_, rfl⟩
    have z1 : w1.heap.size = W.heap.size + 1 := by rw [← hw1]; exact World.size_alloc W _
    have g1 : Grew W w1 := hw1 ▸ grew_alloc W _
    have o1 : Owns w1 W.heap.size [n0, n1, n2, n3, n4] 25 := hw1 ▸ Owns.alloc W _ _
    obtain ⟨w2, hw2⟩ : ∃ w2, w1.alloc (.cells #[.int .i64 f] 3) = w2 := ⟨_, rfl⟩
    have g2 : Grew w1 w2 := hw2 ▸ grew_alloc w1 _
    have z2 : w2.heap.size = W.heap.size + 1 + 1 := by rw [← hw2, World.size_alloc, z1]
    have o2 : Owns w2 (W.heap.size + 1) [.int .i64 f] 3 := by rw [← z1, ← hw2]; exact Owns.alloc w1 _ _
    have c0 := o1.cell_at (i := 0) rfl
    have c1 := o1.cell_at (i := 1) rfl
    have c2 := o1.cell_at (i := 2) rfl
    have c3 := o1.cell_at (i := 3) rfl
    have c4 := o1.cell_at (i := 4) rfl
    have g12 := g1.trans g2
    have hmay := pmay_any N hN w [f] hw w2 n0 n1 n2 n3 n4 wv ((hB.keep g12).mono g12.size) ((hWV.keep g12).mono g12.size) (W.heap.size + 1) 1 (by omega) (by simp)
      (fun k hk => by
        match k, hk with
        | 0, _ => exact o2.cell_at (i := 0) rfl)
    have hb : ([f].all (okN N.states.length) && N.mayB) = (okN N.states.length f && N.mayB) := by simp
    rw [hb] at hmay
    obtain ⟨mb, hmb⟩ : ∃ mb, (okN N.states.length f && N.mayB) = mb := ⟨_, rfl⟩
    rw [hmb] at hmay
    have HMAY := Lib.hid (show Calls Try.prog 23 #[.agg #[n0, n1, n2, n3, n4], wv, .slice (some ⟨W.heap.size + 1, 0, none⟩) 1 1] w2 fun e W' => e = .returned (.bool mb) ∧ Grew w2 W' from hmay)
    have HG := Lib.hid g12
    have HO := Lib.hid (o1.keep g2)
    have HMB := Lib.hid hmb
    have HK := Lib.hid hk
    have HB := Lib.hid hB
    clear hmay g12 o1 o2 g1 g2 hB hWV hN hk hb hmb hav
    cases mb
    · go_enter Try.func13, Try.ntmps13
      go_wp2_with fail
      refine HMAY.out.mono ?_
      rintro e w3 ⟨rfl, hb3⟩
      have HG3 := Lib.hid (HG.out.trans hb3)
      clear hb3
      go_wp2_with fail
      go_ret
      exact ⟨rfl, HG3.out⟩
    · have hm := HMB.out
      simp only [Bool.and_eq_true, okN_iff] at hm
      by_cases k0 : k < 0
      · have q0 : decide (k < 0) = true := decide_eq_true k0
        clear k0 hm
        go_enter Try.func13, Try.ntmps13
        go_wp2_with fail
        refine HMAY.out.mono ?_
        rintro e w3 ⟨rfl, hb3⟩
        have HG3 := Lib.hid (HG.out.trans hb3)
        clear hb3
        go_wp2_with fail
        go_ret
        exact ⟨rfl, HG3.out⟩
      · have q0 : decide (k < 0) = false := decide_eq_false k0
        obtain ⟨f', rfl⟩ : ∃ f' : Nat, f = f' := ⟨f.toNat, by omega⟩
        obtain ⟨S, hS⟩ : ∃ S, N.states.length = S := ⟨_, rfl⟩
        have hfS : f' < S := by omega
        have hf' : f' < N.states.length := by omega
        obtain ⟨na, nc, hn0, hN0⟩ := HB.out.states
        obtain ⟨sb, soff, rfl, hsb, hstt⟩ := hN0 f' hf'
        obtain ⟨-, -, za, zc, s2, -⟩ := hstt
        have hED : N.ends f' = N.states[f'].ends := by unfold Net.ends; rw [List.getElem?_eq_getElem hf']; rfl
        obtain ⟨el, hel⟩ : ∃ el, N.states[f'].ends.length = el := ⟨_, rfl⟩
        rw [hel] at s2
        rw [hS] at hn0
        have hge : (el : Int) ≤ k := by
          have h1 := HK.out
          have h2 := HMB.out
          unfold okA at h1
          rw [h2, Bool.true_and] at h1
          simp only [Bool.and_eq_false_iff, decide_eq_false_iff_not] at h1
          rw [Int.toNat_natCast, hED, hel] at h1
          omega
        have q1 : decide ((el : Int) ≤ k) = true := decide_eq_true hge
        have HS2 := Lib.hid (And.intro hsb s2)
        have HN0 := Lib.hid hn0
        clear k0 hm hN0 hED hel hge hS hf' s2 hn0
        go_enter Try.func13, Try.ntmps13
        go_wp2_with fail
        refine HMAY.out.mono ?_
        rintro e w3 ⟨rfl, hb3⟩
        have HG3 := Lib.hid (HG.out.trans hb3)
        have d0 := (HO.out.keep hb3).cell_at (i := 0) rfl
        rw [HN0.out] at d0
        have dl := (HO.out.keep hb3).lt
        have d1 := (HG3.out.cells _ _ HS2.out.1).trans HS2.out.2
        have dl1 : sb < w3.heap.size := Nat.lt_of_lt_of_le HS2.out.1 HG3.out.size
        clear hb3
        go_wp2_with fail
        go_ret
        exact ⟨rfl, HG3.out⟩
  · have hk2 := hk
    unfold okA at hk2
    simp only [Bool.and_eq_true, okN_iff, decide_eq_true_eq] at hk2
    obtain ⟨⟨hf, hM⟩, hk0, hk1⟩ := hk2
    obtain ⟨f', rfl⟩ : ∃ f' : Nat, f = f' := ⟨f.toNat, by omega⟩
    obtain ⟨k', rfl⟩ : ∃ k' : Nat, k = k' := ⟨k.toNat, by omega⟩
    rw [Int.toNat_natCast, Int.toNat_natCast] at hk1
    have hf' : f' < N.states.length := by omega
    have hED : N.ends f' = N.states[f'].ends := by unfold Net.ends; rw [List.getElem?_eq_getElem hf']; rfl
    have hEE : N.edges f' = N.states[f'].edges := by unfold Net.edges; rw [List.getElem?_eq_getElem hf']; rfl
    have hkE : k' < N.states[f'].ends.length := by rw [← hED]; exact hk1
    have hkG : k' < N.states[f'].edges.length := by
      rcases (Net.ok_of_may hM).endsE f' with h | h
      · rw [h] at hk1; simp at hk1
      · rw [← hEE, ← h]; exact hk1
    refine (along_ok N hN hM w hw f' k' hf' hkE hkG W n0 n1 n2 n3 n4 wv hB hWV).mono ?_
    rintro e W' hres
    have := along_fix hres
    refine ⟨?_, this.2⟩
    rw [this.1]
    unfold alongV toOf overOf
    rw [hk, Bool.true_and, Int.toNat_natCast, Int.toNat_natCast, hED, hEE, List.getElem?_eq_getElem hkE, List.getElem?_eq_getElem hkG]
    rfl
end Go.Proofs.Ytgdcnndmdgcjlaa

/- May, by the document: it says what the program's May says. -/
namespace Go.Proofs.Ytgdcnndmdgcjlaa
open Go.RowKit
theorem decsTo_prefix (l : List Sta) {i j : Nat} (h : i ≤ j) : decsTo l i <+: decsTo l j := by
  induction h with
  | refl => exact List.prefix_refl _
  | @step m hm ih => exact ih.trans (by rw [decsTo]; exact List.prefix_append _ _)
section
variable {N : Net}
theorem may_parts (h : N.mayB = true) : N.starts.length = N.stops.length ∧ (∀ i ∈ N.starts ++ N.stops, 0 ≤ i ∧ i < N.states.length) ∧ (∀ i ∈ N.preds, 0 ≤ i ∧ i < (N.states.length : Int) - 1) ∧ (∀ s ∈ N.states, s.fineB N = true) ∧ decsTo N.states N.states.length = N.decisions := by
  unfold Net.mayB at h
  simp only [Bool.and_eq_true, decide_eq_true_eq, Bool.not_eq_true'] at h
  obtain ⟨⟨⟨⟨h1, h2⟩, h3⟩, h4⟩, h5⟩ := h
  refine ⟨h1, not_any_okN h2, fun i hi => ?_, fun s hs => List.all_eq_true.1 h4 s hs, h5⟩
  rw [List.any_eq_false] at h3
  have := h3 i hi
  simp only [Bool.or_eq_true, decide_eq_true_eq, not_or] at this
  omega
theorem may_of (h1 : N.starts.length = N.stops.length) (h2 : ∀ i ∈ N.starts ++ N.stops, 0 ≤ i ∧ i < N.states.length) (h3 : ∀ i ∈ N.preds, 0 ≤ i ∧ i < (N.states.length : Int) - 1) (h4 : ∀ s ∈ N.states, s.fineB N = true) (h5 : decsTo N.states N.states.length = N.decisions) : N.mayB = true := by
  unfold Net.mayB
  simp only [Bool.and_eq_true, decide_eq_true_eq, Bool.not_eq_true']
  refine ⟨⟨⟨⟨h1, ?_⟩, ?_⟩, List.all_eq_true.2 h4⟩, h5⟩
  · rw [List.any_eq_false]
    intro i hi
    have := okN_iff.2 (h2 i hi)
    simp [this]
  · rw [List.any_eq_false]
    intro i hi
    have := h3 i hi
    simp only [Bool.or_eq_true, decide_eq_true_eq, not_or]
    omega
theorem not_may {p : Prop} (h : N.mayB = true → p) (hp : ¬p) : N.mayB = false := by
  cases hM : N.mayB
  · rfl
  · exact absurd (h hM) hp
theorem edge_fine {e : Edg} (h0 : 0 ≤ e.kind) : e.mayB N = true ↔ e.kind ≤ 3 ∧ 0 ≤ e.what ∧ (0 ≤ e.to ∧ e.to < N.states.length) ∧ (e.kind = 0 → e.what = 0) ∧ (e.kind = 2 → e.what < N.starts.length) ∧ (e.kind = 3 → e.what < N.preds.length) := by
  unfold Edg.mayB
  simp only [Bool.not_eq_true', Bool.or_eq_false_iff, decide_eq_false_iff_not, Bool.and_eq_false_iff, Bool.not_eq_false', okN_iff]
  unfold Net.mostOf
  constructor
  · rintro ⟨⟨⟨h1, h2⟩, h3⟩, h4⟩
    refine ⟨by omega, by omega, h4, fun hk => ?_, fun hk => ?_, fun hk => ?_⟩
    · rcases h3 with h3 | h3
      · simp [hk] at h3
      · simp [hk] at h3; omega
    · rcases h3 with h3 | h3
      · simp [hk] at h3
      · simp [hk] at h3; omega
    · rcases h3 with h3 | h3
      · simp [hk] at h3
      · simp [hk] at h3; omega
  · rintro ⟨h1, h2, h3, h4, h5, h6⟩
    refine ⟨⟨⟨by omega, by omega⟩, ?_⟩, h3⟩
    have hk : e.kind = 0 ∨ e.kind = 1 ∨ e.kind = 2 ∨ e.kind = 3 := by omega
    rcases hk with hk | hk | hk | hk
    · have := h4 hk; right; simp [hk]; omega
    · left; simp [hk]
    · have := h5 hk; right; simp [hk]; omega
    · have := h6 hk; right; simp [hk]; omega
theorem state_fine {s : Sta} : s.fineB N = true ↔ (0 ≤ s.rule ∧ s.rule < N.starts.length) ∧ (∀ e ∈ s.edges, e.mayB N = true) ∧ (s.ends.length = 0 ∨ (s.ends.length = s.edges.length ∧ 2 ≤ s.ends.length ∧ (∀ e ∈ s.edges, e.kind = 0) ∧ ∀ i ∈ s.ends, 0 ≤ i ∧ i < N.states.length)) := by
  unfold Sta.fineB Sta.mayB Sta.decides
  simp only [Bool.and_eq_true, Bool.or_eq_true, decide_eq_true_eq, Bool.not_eq_true', decide_eq_false_iff_not, List.all_eq_true]
  have h1 : ((s.edges.any fun e => !(e.kind == 0)) = false) ↔ ∀ e ∈ s.edges, e.kind = 0 := by
    rw [List.any_eq_false]
    constructor
    · intro h e he; have := h e he; simpa using this
    · intro h e he; have := h e he; simp [this]
  have h2 : ((s.ends.any fun i => !okN N.states.length i) = false) ↔ ∀ i ∈ s.ends, 0 ≤ i ∧ i < N.states.length := by
    constructor
    · exact not_any_okN
    · intro h
      rw [List.any_eq_false]
      intro i hi
      have := okN_iff.2 (h i hi)
      simp [this]
  rw [h1, h2]
  constructor
  · rintro ⟨⟨⟨ha, hb⟩, hc⟩, hd⟩
    refine ⟨by omega, ha, ?_⟩
    rcases hb with hb | ⟨⟨⟨h3, h4⟩, h5⟩, h6⟩
    · exact .inl hb
    · exact .inr ⟨h3, h4, h5, h6⟩
  · rintro ⟨ha, hb, hc⟩
    refine ⟨⟨⟨hb, ?_⟩, by omega⟩, by omega⟩
    rcases hc with hc | ⟨h3, h4, h5, h6⟩
    · exact .inl hc
    · exact .inr ⟨⟨⟨h3, h4⟩, h5⟩, h6⟩
end
end Go.Proofs.Ytgdcnndmdgcjlaa

/- May, by the document: the walk. -/
namespace Go.Proofs.Ytgdcnndmdgcjlaa
open Go.RowKit
set_option maxHeartbeats 4000000 in
set_option maxRecDepth 20000 in
theorem RMay_ok (N : Net) (hS : N.Small) (hK : N.Kinds) (W : World) (n0 n1 n2 n3 n4 : Value) (hB : RNetAt W W.heap.size n0 n1 n2 n3 n4 N) :
    Calls Try.prog 27 #[.agg #[n0, n1, n2, n3, n4]] W fun e W' => e = .returned (.bool N.mayB) ∧ Grew W W' := by
  obtain ⟨na, nc, rfl, hN0⟩ := hB.states
  obtain ⟨ta, tc, rfl, hT⟩ := hB.starts
  obtain ⟨ua, uc, rfl, hU⟩ := hB.stops
  obtain ⟨pa, pc, rfl, hP⟩ := hB.preds
  obtain ⟨da, dc, rfl, hD⟩ := hB.decisions
  obtain ⟨w1, hw1⟩ : ∃ w1, W.alloc (.cells #[.slice na N.states.length nc, .slice ta N.starts.length tc, .slice ua N.stops.length uc, .slice pa N.preds.length pc, .slice da N.decisions.length dc] 38) = w1 := ⟨_, rfl⟩
  have g1 : Grew W w1 := hw1 ▸ grew_alloc W _
  have o1 : Owns w1 W.heap.size [.slice na N.states.length nc, .slice ta N.starts.length tc, .slice ua N.stops.length uc, .slice pa N.preds.length pc, .slice da N.decisions.length dc] 38 := hw1 ▸ Owns.alloc W _ _
  have hxl : W.heap.size < w1.heap.size := o1.lt
  have hS60 := hS.states
  have hS12 := hS.starts
  have hS40 := hS.preds
  have hS41 := hS.decisions
  have hS42 := hS.stops
  have HN0 := Lib.hid hN0
  have HT := Lib.hid hT
  have HU := Lib.hid hU
  have HP := Lib.hid hP
  have HD := Lib.hid hD
  have HKK := Lib.hid hK
  have HSM := Lib.hid hS
  have HG := Lib.hid g1
  have BX := Lib.hid (show ∀ w, Grew w1 w → ∀ i v, [Value.slice na N.states.length nc, .slice ta N.starts.length tc, .slice ua N.stops.length uc, .slice pa N.preds.length pc, .slice da N.decisions.length dc][i]? = some v → w.cell? ⟨W.heap.size, i, none⟩ = some v from fun w hg i v hi => (o1.keep hg).cell_at hi)
  have c0 := o1.cell_at (i := 0) rfl
  have c1 := o1.cell_at (i := 1) rfl
  have c2 := o1.cell_at (i := 2) rfl
  have c3 := o1.cell_at (i := 3) rfl
  have c4 := o1.cell_at (i := 4) rfl
  clear hB g1 hN0 hT hU hP hD hK hS o1
  go_enter Try.func27, Try.ntmps27
  by_cases hl : N.starts.length = N.stops.length
  · have r1 : ((N.starts.length : Int) != (N.stops.length : Int)) = false := by simp [hl]
    have HL := Lib.hid hl
    clear hl
    go_wp2_with fail
    go_loopw [4] (fun i wr => ∃ (j : Nat), i = .int .i64 j ∧ j ≤ N.starts.length ∧ Hid (∀ k (h : k < N.starts.length), k < j → 0 ≤ N.starts[k] ∧ N.starts[k] < N.states.length) ∧ Hid (∀ k (h : k < N.stops.length), k < j → 0 ≤ N.stops[k] ∧ N.stops[k] < N.states.length) ∧ wr = w1) (fun i _ => N.starts.length - (intOf i).toNat)
    case atStart => exact ⟨0, rfl, by omega, fun k h hk => absurd hk (by omega), fun k h hk => absurd hk (by omega), rfl⟩
    case round =>
      obtain ⟨j, rfl, hj, hs, hu, rfl⟩ := hrel
      by_cases hlt : j < N.starts.length
      · have hlt2 : j < N.stops.length := by rw [← HL.out]; exact hlt
        obtain ⟨tb, toff, rfl, htb, htc⟩ := HT.out j hlt
        obtain ⟨ub, uoff, rfl, hub, huc⟩ := HU.out j hlt2
        have t1 := (HG.out.cells _ (toff + j) htb).trans htc
        have u1 := (HG.out.cells _ (uoff + j) hub).trans huc
        have tl : tb < wr.heap.size := Nat.lt_of_lt_of_le htb HG.out.size
        have ul : ub < wr.heap.size := Nat.lt_of_lt_of_le hub HG.out.size
        have hi2 : (j : Int) < (N.stops.length : Int) := by omega
        clear htc huc
        by_cases q1 : N.starts[j] < 0
        · have HB := Lib.hid (show N.mayB = false from not_may (fun h => (may_parts h).2.1 _ (List.mem_append_left _ (List.getElem_mem hlt))) (by omega))
          have q1' : decide (N.starts[j] < 0) = true := decide_eq_true q1
          clear q1
          go_wp2_with fail
          go_ret
          exact ⟨ret_bool HB.out.symm, HG.out⟩
        · have q1' : decide (N.starts[j] < 0) = false := decide_eq_false q1
          have Q1 := Lib.hid q1
          clear q1
          by_cases q2 : (N.states.length : Int) ≤ N.starts[j]
          · have HB := Lib.hid (show N.mayB = false from not_may (fun h => (may_parts h).2.1 _ (List.mem_append_left _ (List.getElem_mem hlt))) (by omega))
            have q2' : decide ((N.states.length : Int) ≤ N.starts[j]) = true := decide_eq_true q2
            clear q2
            go_wp2_with fail
            go_ret
            exact ⟨ret_bool HB.out.symm, HG.out⟩
          · have q2' : decide ((N.states.length : Int) ≤ N.starts[j]) = false := decide_eq_false q2
            have Q2 := Lib.hid q2
            clear q2
            by_cases q3 : N.stops[j] < 0
            · have HB := Lib.hid (show N.mayB = false from not_may (fun h => (may_parts h).2.1 _ (List.mem_append_right _ (List.getElem_mem hlt2))) (by omega))
              have q3' : decide (N.stops[j] < 0) = true := decide_eq_true q3
              clear q3
              go_wp2_with fail
              go_ret
              exact ⟨ret_bool HB.out.symm, HG.out⟩
            · have q3' : decide (N.stops[j] < 0) = false := decide_eq_false q3
              have Q3 := Lib.hid q3
              clear q3
              by_cases q4 : (N.states.length : Int) ≤ N.stops[j]
              · have HB := Lib.hid (show N.mayB = false from not_may (fun h => (may_parts h).2.1 _ (List.mem_append_right _ (List.getElem_mem hlt2))) (by omega))
                have q4' : decide ((N.states.length : Int) ≤ N.stops[j]) = true := decide_eq_true q4
                clear q4
                go_wp2_with fail
                go_ret
                exact ⟨ret_bool HB.out.symm, HG.out⟩
              · have q4' : decide ((N.states.length : Int) ≤ N.stops[j]) = false := decide_eq_false q4
                have Q4 := Lib.hid q4
                clear q4
                go_wp2_with fail
                exact ⟨⟨j + 1, by go_num, by omega, fun k h hk => by
                  by_cases e : k = j
                  · subst e; have := Q1.out; have := Q2.out; omega
                  · exact hs.out k h (by omega), fun k h hk => by
                  by_cases e : k = j
                  · subst e; have := Q3.out; have := Q4.out; omega
                  · exact hu.out k h (by omega), trivial⟩, by simp [intOf]; omega⟩
      · obtain rfl : j = N.starts.length := by omega
        have HS1 := Lib.hid (show ∀ i ∈ N.starts ++ N.stops, 0 ≤ i ∧ i < N.states.length from fun i hi => by
          rcases List.mem_append.1 hi with h | h
          · obtain ⟨k, hk, rfl⟩ := List.getElem_of_mem h
            exact hs.out k hk hk
          · obtain ⟨k, hk, rfl⟩ := List.getElem_of_mem h
            exact hu.out k hk (by rw [HL.out]; exact hk))
        clear hs hu hj hlt
        go_wp2_with fail
        have hsub : IntKind.i64.wrap ((N.states.length : Int) - 1) = (N.states.length : Int) - 1 := by rw [IntKind.wrap_i64]; omega
        go_loopw [5] (fun i w => ∃ (j : Nat), i = .int .i64 j ∧ j ≤ N.preds.length ∧ Hid (∀ k (h : k < N.preds.length), k < j → 0 ≤ N.preds[k] ∧ N.preds[k] < (N.states.length : Int) - 1) ∧ w = wr) (fun i _ => N.preds.length - (intOf i).toNat)
        case atStart => exact ⟨0, rfl, by omega, fun k h hk => absurd hk (by omega), rfl⟩
        case round =>
          obtain ⟨j, rfl, hj, hp, rfl⟩ := hrel
          by_cases hlt : j < N.preds.length
          · obtain ⟨pb, poff, rfl, hpb, hpc⟩ := HP.out j hlt
            have p1 := (HG.out.cells _ (poff + j) hpb).trans hpc
            have pl : pb < wr.heap.size := Nat.lt_of_lt_of_le hpb HG.out.size
            clear hpc
            by_cases q1 : N.preds[j] < 0
            · have HB := Lib.hid (show N.mayB = false from not_may (fun h => (may_parts h).2.2.1 _ (List.getElem_mem hlt)) (by omega))
              have q1' : decide (N.preds[j] < 0) = true := decide_eq_true q1
              clear q1
              go_wp2_with fail
              go_ret
              exact ⟨ret_bool HB.out.symm, HG.out⟩
            · have q1' : decide (N.preds[j] < 0) = false := decide_eq_false q1
              have Q1 := Lib.hid q1
              clear q1
              by_cases q2 : (N.states.length : Int) - 1 ≤ N.preds[j]
              · have HB := Lib.hid (show N.mayB = false from not_may (fun h => (may_parts h).2.2.1 _ (List.getElem_mem hlt)) (by omega))
                have q2' : decide ((N.states.length : Int) - 1 ≤ N.preds[j]) = true := decide_eq_true q2
                clear q2
                go_wp2_with fail
                go_ret
                exact ⟨ret_bool HB.out.symm, HG.out⟩
              · have q2' : decide ((N.states.length : Int) - 1 ≤ N.preds[j]) = false := decide_eq_false q2
                have Q2 := Lib.hid q2
                clear q2
                go_wp2_with fail
                exact ⟨⟨j + 1, by go_num, by omega, fun k h hk => by
                  by_cases e : k = j
                  · subst e; have := Q1.out; have := Q2.out; omega
                  · exact hp.out k h (by omega), trivial⟩, by simp [intOf]; omega⟩
          · obtain rfl : j = N.preds.length := by omega
            have HP1 := Lib.hid (show ∀ i ∈ N.preds, 0 ≤ i ∧ i < (N.states.length : Int) - 1 from fun i hi => by
              obtain ⟨k, hk, rfl⟩ := List.getElem_of_mem hi
              exact hp.out k hk hk)
            clear hp hj hlt
            obtain ⟨wo, rfl⟩ : ∃ wo : World, wo = wr := ⟨_, rfl⟩
            go_wp2_with fail
            clear c0 c1 c2 c3 c4
            go_loopw [6, 7] (fun x6 x7 wr => ∃ (k i : Nat), x6 = .int .i64 k ∧ x7 = .int .i64 i ∧ i ≤ N.states.length ∧ k ≤ i ∧ Hid (∀ q (h : q < N.states.length), q < i → (N.states[q]).fineB N = true) ∧ Hid (decsTo N.states i = N.decisions.take k ∧ k ≤ N.decisions.length) ∧ Hid (Grew wo wr)) (fun _ i _ => N.states.length - (intOf i).toNat)
            case atStart => exact ⟨0, 0, rfl, rfl, by omega, by omega, fun q h hk => absurd hk (by omega), ⟨by simp [decsTo], by omega⟩, Grew.refl _⟩
            case round =>
              obtain ⟨k, i, rfl, rfl, hi, hki, hf, hd, hg⟩ := hrel
              have c0 := BX.out wr hg.out 0 _ rfl
              have c1 := BX.out wr hg.out 1 _ rfl
              have c3 := BX.out wr hg.out 3 _ rfl
              have c4 := BX.out wr hg.out 4 _ rfl
              have cl : W.heap.size < wr.heap.size := Nat.lt_of_lt_of_le hxl hg.out.size
              have hlow := Lib.hid (HG.out.trans hg.out)
              by_cases hlt : i < N.states.length
              · obtain ⟨sb, soff, rfl, hsb, hstt⟩ := HN0.out i hlt
                obtain ⟨s0, ⟨ea, ec, s1, hE⟩, za, zc, s2, hZ⟩ := hstt
                have hmem : N.states[i] ∈ N.states := List.getElem_mem hlt
                have hkin := HKK.out _ hmem
                have hget : N.states[i]? = some N.states[i] := List.getElem?_eq_getElem hlt
                have hdn := decsTo_none (l := N.states) hlt
                have hds := decsTo_some (l := N.states) hlt
                have hel := HSM.out.edges _ hmem
                have hzl := HSM.out.ends _ hmem
                have HFB := Lib.hid (show (N.states[i].fineB N = true → False) → N.mayB = false from fun h => not_may (fun hM => (may_parts hM).2.2.2.1 _ hmem) h)
                have HNX := Lib.hid (show N.states[i].fineB N = true → ∀ q (h : q < N.states.length), q < i + 1 → (N.states[q]).fineB N = true from fun h0 q h hq => by
                  by_cases e : q = i
                  · subst e; exact h0
                  · exact hf.out q h (by omega))
                have q0 := (hlow.out.cells _ (soff + i * 3) hsb).trans s0
                have q1 := (hlow.out.cells _ (soff + i * 3 + 1) hsb).trans s1
                have q2 := (hlow.out.cells _ (soff + i * 3 + 2) hsb).trans s2
                have sl : sb < wr.heap.size := Nat.lt_of_lt_of_le hsb hlow.out.size
                generalize N.states[i] = st at *
                obtain ⟨ru, es, zs⟩ := st
                simp only at q0 q1 q2 hE hZ hdn hds hel hzl
                have HE := Lib.hid hE
                have HZ := Lib.hid hZ
                have HKI := Lib.hid hkin
                have HDN := Lib.hid hdn
                have HDS := Lib.hid hds
                obtain ⟨w2, hw2⟩ : ∃ w2, wr.alloc (.cells #[.int .i64 ru, .slice ea es.length ec, .slice za zs.length zc] 84) = w2 := ⟨_, rfl⟩
                have g2 : Grew wr w2 := hw2 ▸ grew_alloc wr _
                have o2 : Owns w2 wr.heap.size [.int .i64 ru, .slice ea es.length ec, .slice za zs.length zc] 84 := hw2 ▸ Owns.alloc wr _ _
                have x0 := o2.cell_at (i := 0) rfl
                have x1 := o2.cell_at (i := 1) rfl
                have x2 := o2.cell_at (i := 2) rfl
                have xl := o2.lt
                have k1 := BX.out w2 (hg.out.trans g2) 1 _ rfl
                have k4 := BX.out w2 (hg.out.trans g2) 4 _ rfl
                have kl : W.heap.size < w2.heap.size := Nat.lt_of_lt_of_le cl g2.size
                obtain ⟨xb, hxb⟩ : ∃ xb, xb = wr.heap.size := ⟨_, rfl⟩
                rw [← hxb] at o2
                have HO2 := Lib.hid o2
                have HL2 := Lib.hid (hlow.out.trans g2)
                have HG2 := Lib.hid (hg.out.trans g2)
                clear s0 s1 s2 hE hZ hkin hget hdn hds hmem hf g2 o2 hg hlow
                as_aux_lemma =>
                by_cases q1z : ru < 0
                · have HB := Lib.hid (show N.mayB = false from HFB.out (fun h => by have := (state_fine.1 h).1; simp only at this; omega))
                  have q1z' : decide (ru < 0) = true := decide_eq_true q1z
                  clear q1z
                  go_wp2_with fail
                  go_ret
                  exact ⟨ret_bool HB.out.symm, HL2.out⟩
                · have q1z' : decide (ru < 0) = false := decide_eq_false q1z
                  have Q1 := Lib.hid q1z
                  clear q1z
                  by_cases q2z : (N.starts.length : Int) ≤ ru
                  · have HB := Lib.hid (show N.mayB = false from HFB.out (fun h => by have := (state_fine.1 h).1; simp only at this; omega))
                    have q2z' : decide ((N.starts.length : Int) ≤ ru) = true := decide_eq_true q2z
                    clear q2z
                    go_wp2_with fail
                    go_ret
                    exact ⟨ret_bool HB.out.symm, HL2.out⟩
                  · have q2z' : decide ((N.starts.length : Int) ≤ ru) = false := decide_eq_false q2z
                    have Q2 := Lib.hid q2z
                    clear q2z
                    go_upto_region 21 with fail
                    clear c0 c1 c3 c4 cl q0 q1 q2 sl x0 x1 x2 xl k1 k4 kl
                    rw [← hxb]
                    clear hw2 hxb
                    go_wp2_with fail
                    go_loopw [9] (fun x9 wr => ∃ (j : Nat), x9 = .int .i64 j ∧ j ≤ es.length ∧ Hid (∀ q (h : q < es.length), q < j → es[q].mayB N = true ∧ (0 < zs.length → es[q].kind = 0)) ∧ Hid (Grew w2 wr)) (fun i _ => es.length - (intOf i).toNat)
                    case atStart => exact ⟨0, rfl, by omega, fun q h hk => absurd hk (by omega), Grew.refl _⟩
                    case round =>
                      obtain ⟨j, rfl, hj, hq, hg⟩ := hrel
                      have x1 := (HO2.out.keep hg.out).cell_at (i := 1) rfl
                      have x2 := (HO2.out.keep hg.out).cell_at (i := 2) rfl
                      have xl := (HO2.out.keep hg.out).lt
                      have HL3 := Lib.hid (HL2.out.trans hg.out)
                      have hg3 := HG2.out.trans hg.out
                      have HG3 := Lib.hid hg3
                      by_cases hjl : j < es.length
                      · obtain ⟨eb, eoff, rfl, heb, e0, e1, e2⟩ := HE.out j hjl
                        have hmem : es[j] ∈ es := List.getElem_mem hjl
                        have hkk := HKI.out _ hmem
                        have HNX2 := Lib.hid (show es[j].mayB N = true → (0 < zs.length → es[j].kind = 0) → ∀ q (h : q < es.length), q < j + 1 → es[q].mayB N = true ∧ (0 < zs.length → es[q].kind = 0) from fun h0 h1 q h hqj => by
                          by_cases e : q = j
                          · subst e; exact ⟨h0, h1⟩
                          · exact hq.out q h (by omega))
                        have HFE := Lib.hid (show ¬ (es[j].mayB N = true ∧ (0 < zs.length → es[j].kind = 0)) → N.mayB = false from fun h0 => HFB.out fun h => h0 (by
                          obtain ⟨_, h1, h2⟩ := state_fine.1 h
                          refine ⟨h1 _ hmem, fun hz => ?_⟩
                          rcases h2 with h2 | ⟨_, _, h2, _⟩
                          · simp only at h2; omega
                          · exact h2 _ hmem))
                        have f0 := (HL3.out.cells _ (eoff + j * 3) heb).trans e0
                        have f1 := (HL3.out.cells _ (eoff + j * 3 + 1) heb).trans e1
                        have f2 := (HL3.out.cells _ (eoff + j * 3 + 2) heb).trans e2
                        have fl : eb < wr.heap.size := Nat.lt_of_lt_of_le heb HL3.out.size
                        have hef := edge_fine (N := N) (e := es[j]) hkk.1
                        generalize es[j] = ed at *
                        obtain ⟨kd, wh, tt⟩ := ed
                        simp only at f0 f1 f2 hkk hef
                        have HEF := Lib.hid hef
                        obtain ⟨w4, hw4⟩ : ∃ w4, wr.alloc (.cells #[.int .i64 kd, .int .i64 wh, .int .i64 tt] 89) = w4 := ⟨_, rfl⟩
                        have g4 : Grew wr w4 := hw4 ▸ grew_alloc wr _
                        have o4 : Owns w4 wr.heap.size [.int .i64 kd, .int .i64 wh, .int .i64 tt] 89 := hw4 ▸ Owns.alloc wr _ _
                        have y0 := o4.cell_at (i := 0) rfl
                        have y1 := o4.cell_at (i := 1) rfl
                        have y2 := o4.cell_at (i := 2) rfl
                        have yl := o4.lt
                        have k1 := BX.out w4 (hg3.trans g4) 1 _ rfl
                        have k3 := BX.out w4 (hg3.trans g4) 3 _ rfl
                        have kl : W.heap.size < w4.heap.size := Nat.lt_of_lt_of_le hxl (hg3.trans g4).size
                        have x22 := (HO2.out.keep (hg.out.trans g4)).cell_at (i := 2) rfl
                        have xl2 := (HO2.out.keep (hg.out.trans g4)).lt
                        have HL4 := Lib.hid (HL3.out.trans g4)
                        have HG4 := Lib.hid (hg.out.trans g4)
                        have p0 : decide (kd < 0) = false := decide_eq_false (by omega)
                        have HK0 := Lib.hid hkk
                        clear e0 e1 e2 hmem hq hef g4 o4 hg3 hg hkk
                        as_aux_lemma =>
                        by_cases p1 : 3 < kd
                        · have HB := Lib.hid (show N.mayB = false from HFE.out (fun h => by have h2 := HEF.out.1 h.1; omega))
                          have p1' : decide (3 < kd) = true := decide_eq_true p1
                          clear p1
                          go_wp2_with fail
                          go_ret
                          exact ⟨ret_bool HB.out.symm, HL4.out⟩
                        · have p1' : decide (3 < kd) = false := decide_eq_false p1
                          have P1 := Lib.hid p1
                          clear p1
                          by_cases p2 : wh < 0
                          · have HB := Lib.hid (show N.mayB = false from HFE.out (fun h => by have h2 := HEF.out.1 h.1; omega))
                            have p2' : decide (wh < 0) = true := decide_eq_true p2
                            clear p2
                            go_wp2_with fail
                            go_ret
                            exact ⟨ret_bool HB.out.symm, HL4.out⟩
                          · have p2' : decide (wh < 0) = false := decide_eq_false p2
                            have P2 := Lib.hid p2
                            clear p2
                            by_cases p3 : tt < 0
                            · have HB := Lib.hid (show N.mayB = false from HFE.out (fun h => by have h2 := HEF.out.1 h.1; omega))
                              have p3' : decide (tt < 0) = true := decide_eq_true p3
                              clear p3
                              go_wp2_with fail
                              go_ret
                              exact ⟨ret_bool HB.out.symm, HL4.out⟩
                            · have p3' : decide (tt < 0) = false := decide_eq_false p3
                              have P3 := Lib.hid p3
                              clear p3
                              by_cases p4 : (N.states.length : Int) ≤ tt
                              · have HB := Lib.hid (show N.mayB = false from HFE.out (fun h => by have h2 := HEF.out.1 h.1; omega))
                                have p4' : decide ((N.states.length : Int) ≤ tt) = true := decide_eq_true p4
                                clear p4
                                go_wp2_with fail
                                go_ret
                                exact ⟨ret_bool HB.out.symm, HL4.out⟩
                              · have p4' : decide ((N.states.length : Int) ≤ tt) = false := decide_eq_false p4
                                have P4 := Lib.hid p4
                                clear p4
                                have hk4 : kd = 0 ∨ kd = 1 ∨ kd = 2 ∨ kd = 3 := by have := P1.out; have := HK0.out; omega
                                rcases hk4 with rfl | rfl | rfl | rfl
                                · as_aux_lemma =>
                                  by_cases p5 : wh = 0
                                  · have p5' : (wh != 0) = false := by simp [p5]
                                    have P5 := Lib.hid p5
                                    clear p5
                                    by_cases hz : 0 < zs.length
                                    · have z1 : decide (0 < zs.length) = true := decide_eq_true hz
                                      go_wp2_with fail
                                      exact ⟨⟨j + 1, by go_num, by omega, HNX2.out (HEF.out.2 ⟨by have := P1.out; omega, by have := P2.out; omega, ⟨by have := P3.out; omega, by have := P4.out; omega⟩, fun _ => by have := P5.out; omega, fun h => by simp at h, fun h => by simp at h⟩) (fun _ => rfl), HG4.out⟩, by simp [intOf]; omega⟩
                                    · have z1 : decide (0 < zs.length) = false := decide_eq_false hz
                                      go_wp2_with fail
                                      exact ⟨⟨j + 1, by go_num, by omega, HNX2.out (HEF.out.2 ⟨by have := P1.out; omega, by have := P2.out; omega, ⟨by have := P3.out; omega, by have := P4.out; omega⟩, fun _ => by have := P5.out; omega, fun h => by simp at h, fun h => by simp at h⟩) (fun _ => rfl), HG4.out⟩, by simp [intOf]; omega⟩
                                  · have p5' : (wh != 0) = true := by simp [p5]
                                    have HB := Lib.hid (HFE.out (fun h => by have := (HEF.out.1 h.1).2.2.2.1 rfl; omega))
                                    clear p5
                                    go_wp2_with fail
                                    go_ret
                                    exact ⟨ret_bool HB.out.symm, HL4.out⟩
                                · as_aux_lemma =>
                                  by_cases hz : 0 < zs.length
                                  · have z1 : decide (0 < zs.length) = true := decide_eq_true hz
                                    have HB := Lib.hid (HFE.out (fun h => by have := h.2 hz; simp at this))
                                    go_wp2_with fail
                                    go_ret
                                    exact ⟨ret_bool HB.out.symm, HL4.out⟩
                                  · have z1 : decide (0 < zs.length) = false := decide_eq_false hz
                                    have HZ1 := Lib.hid hz
                                    go_wp2_with fail
                                    exact ⟨⟨j + 1, by go_num, by omega, HNX2.out (HEF.out.2 ⟨by have := P1.out; omega, by have := P2.out; omega, ⟨by have := P3.out; omega, by have := P4.out; omega⟩, fun h => by simp at h, fun h => by simp at h, fun h => by simp at h⟩) (fun h => absurd h HZ1.out), HG4.out⟩, by simp [intOf]; omega⟩
                                · as_aux_lemma =>
                                  by_cases p5 : (N.starts.length : Int) ≤ wh
                                  · have p5' : decide ((N.starts.length : Int) ≤ wh) = true := decide_eq_true p5
                                    have HB := Lib.hid (HFE.out (fun h => by have := (HEF.out.1 h.1).2.2.2.2.1 rfl; omega))
                                    clear p5
                                    go_wp2_with fail
                                    go_ret
                                    exact ⟨ret_bool HB.out.symm, HL4.out⟩
                                  · have p5' : decide ((N.starts.length : Int) ≤ wh) = false := decide_eq_false p5
                                    have P5 := Lib.hid p5
                                    clear p5
                                    by_cases hz : 0 < zs.length
                                    · have z1 : decide (0 < zs.length) = true := decide_eq_true hz
                                      have HB := Lib.hid (HFE.out (fun h => by have := h.2 hz; simp at this))
                                      go_wp2_with fail
                                      go_ret
                                      exact ⟨ret_bool HB.out.symm, HL4.out⟩
                                    · have z1 : decide (0 < zs.length) = false := decide_eq_false hz
                                      have HZ1 := Lib.hid hz
                                      go_wp2_with fail
                                      exact ⟨⟨j + 1, by go_num, by omega, HNX2.out (HEF.out.2 ⟨by have := P1.out; omega, by have := P2.out; omega, ⟨by have := P3.out; omega, by have := P4.out; omega⟩, fun h => by simp at h, fun _ => by have := P5.out; omega, fun h => by simp at h⟩) (fun h => absurd h HZ1.out), HG4.out⟩, by simp [intOf]; omega⟩
                                · as_aux_lemma =>
                                  by_cases p5 : (N.preds.length : Int) ≤ wh
                                  · have p5' : decide ((N.preds.length : Int) ≤ wh) = true := decide_eq_true p5
                                    have HB := Lib.hid (HFE.out (fun h => by have := (HEF.out.1 h.1).2.2.2.2.2 rfl; omega))
                                    clear p5
                                    go_wp2_with fail
                                    go_ret
                                    exact ⟨ret_bool HB.out.symm, HL4.out⟩
                                  · have p5' : decide ((N.preds.length : Int) ≤ wh) = false := decide_eq_false p5
                                    have P5 := Lib.hid p5
                                    clear p5
                                    by_cases hz : 0 < zs.length
                                    · have z1 : decide (0 < zs.length) = true := decide_eq_true hz
                                      have HB := Lib.hid (HFE.out (fun h => by have := h.2 hz; simp at this))
                                      go_wp2_with fail
                                      go_ret
                                      exact ⟨ret_bool HB.out.symm, HL4.out⟩
                                    · have z1 : decide (0 < zs.length) = false := decide_eq_false hz
                                      have HZ1 := Lib.hid hz
                                      go_wp2_with fail
                                      exact ⟨⟨j + 1, by go_num, by omega, HNX2.out (HEF.out.2 ⟨by have := P1.out; omega, by have := P2.out; omega, ⟨by have := P3.out; omega, by have := P4.out; omega⟩, fun h => by simp at h, fun h => by simp at h, fun _ => by have := P5.out; omega⟩) (fun h => absurd h HZ1.out), HG4.out⟩, by simp [intOf]; omega⟩
                      · obtain rfl : j = es.length := by omega
                        have HQ := Lib.hid (show ∀ e ∈ es, e.mayB N = true ∧ (0 < zs.length → e.kind = 0) from fun e he => by
                          obtain ⟨q, h, rfl⟩ := List.getElem_of_mem he
                          exact hq.out q h h)
                        have HG5 := Lib.hid hg.out
                        have k4 := BX.out wr hg3 4 _ rfl
                        have kl : W.heap.size < wr.heap.size := Nat.lt_of_lt_of_le hxl hg3.size
                        clear hq hj hjl hg hg3
                        by_cases hz0 : zs.length = 0
                        · have z0 : ((zs.length : Int) == 0) = true := by simp [hz0]
                          have HZ0 := Lib.hid hz0
                          clear hz0
                          go_wp2_with fail
                          exact ⟨⟨k, i + 1, rfl, by go_num, by omega, by omega, HNX.out (state_fine.2 ⟨by have := Q1.out; have := Q2.out; simp only; omega, fun e he => (HQ.out e he).1, .inl HZ0.out⟩), by rw [HDN.out HZ0.out]; exact hd.out, HG3.out⟩, by simp [intOf]; omega⟩
                        · have z0 : ((zs.length : Int) == 0) = false := by rw [beq_eq_false_iff_ne]; omega
                          have HZ0 := Lib.hid hz0
                          have HND := Lib.hid (show ¬ (∃ h : k < N.decisions.length, N.decisions[k] = i) → N.mayB = false from fun h => not_may (fun hM => by
                            have h5 := (may_parts hM).2.2.2.2
                            have hp := decsTo_prefix N.states (show i + 1 ≤ N.states.length by omega)
                            rw [HDS.out HZ0.out, h5, hd.out.1] at hp
                            obtain ⟨r, hr⟩ := hp
                            have hlen := congrArg List.length hr
                            simp only [List.length_append, List.length_take, List.length_cons, List.length_nil] at hlen
                            have hk : k < N.decisions.length := by have := hd.out.2; omega
                            refine ⟨hk, ?_⟩
                            have h6 : N.decisions[k]? = some (i : Int) := by
                              have hm : (N.decisions.take k).length = k := by rw [List.length_take]; omega
                              rw [← hr, List.getElem?_append_left (by rw [List.length_append, hm]; simp), List.getElem?_append_right (by omega), hm]
                              simp
                            rw [List.getElem?_eq_getElem hk] at h6
                            exact Option.some.inj h6) h)
                          clear hz0
                          as_aux_lemma =>
                          by_cases r1 : (zs.length : Int) < 2
                          · have HB := Lib.hid (show N.mayB = false from HFB.out (fun h => by have h2 := (state_fine.1 h).2.2; have h3 := HZ0.out; simp only at h2; omega))
                            have r1' : decide ((zs.length : Int) < 2) = true := decide_eq_true r1
                            clear r1
                            go_wp2_with fail
                            go_ret
                            exact ⟨ret_bool HB.out.symm, HL3.out⟩
                          · have r1' : decide ((zs.length : Int) < 2) = false := decide_eq_false r1
                            have R1 := Lib.hid r1
                            clear r1
                            by_cases r2 : zs.length = es.length
                            · have r2' : ((zs.length : Int) != (es.length : Int)) = false := by simp [r2]
                              have R2 := Lib.hid r2
                              clear r2
                              by_cases r3 : N.decisions.length ≤ k
                              · have HB := Lib.hid (HND.out (fun ⟨h, e⟩ => by omega))
                                have r3' : decide (N.decisions.length ≤ k) = true := decide_eq_true r3
                                go_wp2_with fail
                                go_ret
                                exact ⟨ret_bool HB.out.symm, HL3.out⟩
                              · have r3' : decide (N.decisions.length ≤ k) = false := decide_eq_false r3
                                have HDK := Lib.hid (show k < N.decisions.length by omega)
                                obtain ⟨db, doff, rfl, hdb, hdc⟩ := HD.out k HDK.out
                                have d1 := (HL3.out.cells _ (doff + k) hdb).trans hdc
                                have dl : db < wr.heap.size := Nat.lt_of_lt_of_le hdb HL3.out.size
                                have hki2 : (k : Int) < (N.decisions.length : Int) := by have := HDK.out; omega
                                clear hdc
                                obtain ⟨dk, hdk⟩ : ∃ dk, N.decisions[k]'HDK.out = dk := ⟨_, rfl⟩
                                rw [hdk] at d1
                                have HDE := Lib.hid hdk
                                clear hdk
                                by_cases r4 : dk = i
                                · have r4' : (dk != (i : Int)) = false := by simp [r4]
                                  have HD4 := Lib.hid r4
                                  clear r4
                                  go_upto_region 33 with fail
                                  clear d1 dl x1 x2 xl k4 kl
                                  obtain ⟨wq, rfl⟩ : ∃ wq : World, wq = wr := ⟨_, rfl⟩
                                  go_wp2_with fail
                                  go_loopw [11] (fun x11 wr => ∃ (j : Nat), x11 = .int .i64 j ∧ j ≤ zs.length ∧ Hid (∀ q (h : q < zs.length), q < j → 0 ≤ zs[q] ∧ zs[q] < N.states.length) ∧ wr = wq) (fun i _ => zs.length - (intOf i).toNat)
                                  case atStart => exact ⟨0, rfl, by omega, fun q h hk => absurd hk (by omega), rfl⟩
                                  case round =>
                                    obtain ⟨j, rfl, hj, hq, rfl⟩ := hrel
                                    have x2 := (HO2.out.keep HG5.out).cell_at (i := 2) rfl
                                    have xl := (HO2.out.keep HG5.out).lt
                                    by_cases hjl : j < zs.length
                                    · obtain ⟨zb, zoff, rfl, hzb, hzc⟩ := HZ.out j hjl
                                      have f1 := (HL3.out.cells _ (zoff + j) hzb).trans hzc
                                      have fl : zb < wr.heap.size := Nat.lt_of_lt_of_le hzb HL3.out.size
                                      have HFZ := Lib.hid (show ¬ (0 ≤ zs[j] ∧ zs[j] < N.states.length) → N.mayB = false from fun h0 => HFB.out fun h => h0 (by
                                        obtain ⟨_, _, h2⟩ := state_fine.1 h
                                        rcases h2 with h2 | ⟨_, _, _, h2⟩
                                        · have := HZ0.out; simp only at h2; omega
                                        · exact h2 _ (List.getElem_mem hjl)))
                                      clear hzc
                                      by_cases q5 : zs[j] < 0
                                      · have HB := Lib.hid (show N.mayB = false from HFZ.out (by omega))
                                        have q5' : decide (zs[j] < 0) = true := decide_eq_true q5
                                        clear q5
                                        go_wp2_with fail
                                        go_ret
                                        exact ⟨ret_bool HB.out.symm, HL3.out⟩
                                      · have q5' : decide (zs[j] < 0) = false := decide_eq_false q5
                                        have Q5 := Lib.hid q5
                                        clear q5
                                        by_cases q6 : (N.states.length : Int) ≤ zs[j]
                                        · have HB := Lib.hid (show N.mayB = false from HFZ.out (by omega))
                                          have q6' : decide ((N.states.length : Int) ≤ zs[j]) = true := decide_eq_true q6
                                          clear q6
                                          go_wp2_with fail
                                          go_ret
                                          exact ⟨ret_bool HB.out.symm, HL3.out⟩
                                        · have q6' : decide ((N.states.length : Int) ≤ zs[j]) = false := decide_eq_false q6
                                          have Q6 := Lib.hid q6
                                          clear q6
                                          go_wp2_with fail
                                          exact ⟨⟨j + 1, by go_num, by omega, fun q h hk => by
                                            by_cases e : q = j
                                            · subst e; have := Q5.out; have := Q6.out; omega
                                            · exact hq.out q h (by omega), trivial⟩, by simp [intOf]; omega⟩
                                    · obtain rfl : j = zs.length := by omega
                                      have hq2 : ∀ i ∈ zs, 0 ≤ i ∧ i < N.states.length := fun i hi => by
                                        obtain ⟨q, h, rfl⟩ := List.getElem_of_mem hi
                                        exact hq.out q h h
                                      have HQ2 := Lib.hid hq2
                                      clear hq hq2
                                      go_wp2_with fail
                                      have hz0 := HZ0.out
                                      refine ⟨⟨k + 1, i + 1, by go_num, by go_num, by omega, by omega, HNX.out (state_fine.2 ⟨by have := Q1.out; have := Q2.out; simp only; omega, fun e he => (HQ.out e he).1, .inr ⟨by have := R2.out; simp only; omega, by have := R1.out; simp only; omega, fun e he => (HQ.out e he).2 (by omega), HQ2.out⟩⟩), ⟨?_, HDK.out⟩, HG3.out⟩, by simp [intOf]; omega⟩
                                      rw [HDS.out HZ0.out, hd.out.1, List.take_add_one, List.getElem?_eq_getElem HDK.out, HDE.out, HD4.out]
                                      rfl
                                · have r4' : (dk != (i : Int)) = true := by simp [r4]
                                  have HB := Lib.hid (HND.out (fun ⟨h, e⟩ => r4 (HDE.out.symm.trans e)))
                                  clear r4
                                  go_wp2_with fail
                                  go_ret
                                  exact ⟨ret_bool HB.out.symm, HL3.out⟩
                            · have r2' : ((zs.length : Int) != (es.length : Int)) = true := by simp; omega
                              have HB := Lib.hid (show N.mayB = false from HFB.out (fun h => by have h2 := (state_fine.1 h).2.2; have h3 := HZ0.out; simp only at h2; omega))
                              clear r2
                              go_wp2_with fail
                              go_ret
                              exact ⟨ret_bool HB.out.symm, HL3.out⟩
              · obtain rfl : i = N.states.length := by omega
                go_wp2_with fail
                go_ret
                refine ⟨ret_bool ?_, hlow.out⟩
                have hd' := hd.out
                by_cases e : k = N.decisions.length
                · rw [may_of HL.out HS1.out HP1.out (fun s hs => by
                    obtain ⟨q, hq, rfl⟩ := List.getElem_of_mem hs
                    exact hf.out q hq hq) (by rw [hd'.1, e, List.take_length])]
                  simp [e]
                · rw [not_may (p := k = N.decisions.length) (fun hM => by
                    have h5 := (may_parts hM).2.2.2.2
                    rw [hd'.1] at h5
                    have := congrArg List.length h5
                    rw [List.length_take] at this
                    omega) e]
                  simp; omega
  · have r1 : ((N.starts.length : Int) != (N.stops.length : Int)) = true := by simp; omega
    go_wp2_with fail
    go_ret
    exact ⟨ret_bool (by unfold Net.mayB; simp [hl]), HG.out⟩
end Go.Proofs.Ytgdcnndmdgcjlaa
