/- Ways and Along of the program where nothing may be asked. -/
import Derived.Test.YtgdcnndmdgcjlaaPJoinA
import Derived.Test.YtgdcnndmdgcjlaaPTwin
namespace Go.Proofs.Ytgdcnndmdgcjlaa
open Go.RowKit

set_option maxHeartbeats 1000000 in
set_option maxRecDepth 20000 in
/-- what may not be asked is not -/
theorem pmay_any (N : Net) (hN : N.Small) (w l : List Int) (hw : w.length ≤ 7) (W : World) (n0 n1 n2 n3 n4 wv : Value) (hB : NetAt W W.heap.size n0 n1 n2 n3 n4 N) (hWV : IntsV W W.heap.size wv w)
    (rb rc : Nat) (hrb : rb < W.heap.size) (hln : l.length ≤ 1000) (hcell : ∀ k (h : k < l.length), W.cell? ⟨rb, k, none⟩ = some (.int .i64 l[k])) :
    Calls Try.prog 23 #[.agg #[n0, n1, n2, n3, n4], wv, .slice (some ⟨rb, 0, none⟩) l.length rc] W fun e W' => e = .returned (.bool (l.all (okN N.states.length) && N.mayB)) ∧ Grew W W' := by
  by_cases hall : l.all (okN N.states.length) = true
  · have hl : ∀ i ∈ l, okN N.states.length i = true := List.all_eq_true.1 hall
    rw [hall, Bool.true_and]
    exact pmay_ok N hN w l hw hl W n0 n1 n2 n3 n4 wv hB hWV rb rc hrb hln hcell
  · have hall' : l.all (okN N.states.length) = false := by simpa using hall
    rw [hall', Bool.false_and]
    have hex : ∃ k, ∃ h : k < l.length, okN N.states.length l[k] = false := by
      rw [List.all_eq_false] at hall'
      obtain ⟨x, hx, hx2⟩ := hall'
      obtain ⟨k, hk, rfl⟩ := List.getElem_of_mem hx
      exact ⟨k, hk, by simpa using hx2⟩
    obtain ⟨na, nc, rfl, hN0⟩ := hB.states
    obtain ⟨ta, tc, rfl, hT⟩ := hB.starts
    obtain ⟨ua, uc, rfl, hU⟩ := hB.stops
    obtain ⟨pa, pc, rfl, hP⟩ := hB.preds
    obtain ⟨da, dc, rfl, hD⟩ := hB.decisions
    obtain ⟨wa, wc, rfl, hWA⟩ := hWV
    obtain ⟨w1, hw1⟩ : ∃ w1, W.alloc (.cells #[.slice na N.states.length nc, .slice ta N.starts.length tc, .slice ua N.stops.length uc, .slice pa N.preds.length pc, .slice da N.decisions.length dc] 25) = w1 := ⟨_, rfl⟩
    have g1 : Grew W w1 := hw1 ▸ grew_alloc W _
    have o1 : Owns w1 W.heap.size [.slice na N.states.length nc, .slice ta N.starts.length tc, .slice ua N.stops.length uc, .slice pa N.preds.length pc, .slice da N.decisions.length dc] 25 := hw1 ▸ Owns.alloc W _ _
    have b0 := o1.cell_at (i := 0) rfl
    have hcl : ∀ k (h : k < l.length), w1.cell? ⟨rb, k, none⟩ = some (.int .i64 l[k]) := fun k h => by rw [g1.cells _ _ hrb]; exact hcell k h
    have HCL := Lib.hid hcl
    have HG := Lib.hid g1
    have HEX := Lib.hid hex
    clear hB o1 g1 hcl hcell hN0 hT hU hP hD hWA hN hall hall' hex
    go_enter Try.func23, Try.ntmps23
    go_wp2_with fail
    go_loopw [11] (fun i wr => ∃ (j : Nat), i = .int .i64 j ∧ j ≤ l.length ∧ Hid (∀ k (h : k < l.length), k < j → okN N.states.length l[k] = true) ∧ wr = w1) (fun i _ => l.length - (intOf i).toNat)
    case atStart => exact ⟨0, rfl, by omega, fun k h hk => absurd hk (by omega), rfl⟩
    case round =>
      obtain ⟨j, rfl, hj, hok, rfl⟩ := hrel
      by_cases hlt : j < l.length
      · have hc := HCL.out j hlt
        by_cases k0 : l[j] < 0
        · have q0 : decide (l[j] < 0) = true := decide_eq_true k0
          clear k0
          go_wp2_with fail
          go_ret
          exact ⟨rfl, HG.out⟩
        · have q0 : decide (l[j] < 0) = false := decide_eq_false k0
          have K0 := Lib.hid k0
          clear k0
          by_cases k1 : (N.states.length : Int) ≤ l[j]
          · have q1 : decide ((N.states.length : Int) ≤ l[j]) = true := decide_eq_true k1
            clear k1
            go_wp2_with fail
            go_ret
            exact ⟨rfl, HG.out⟩
          · have q1 : decide ((N.states.length : Int) ≤ l[j]) = false := decide_eq_false k1
            have K1 := Lib.hid k1
            clear k1
            go_wp2_with fail
            exact ⟨⟨j + 1, by go_num, by omega, fun k h hk => by
              by_cases e : k = j
              · subst e
                have := K0.out
                have := K1.out
                rw [okN_iff]
                omega
              · exact hok.out k h (by omega), trivial⟩, by simp [intOf]; omega⟩
      · obtain ⟨k, hk, hk2⟩ := HEX.out
        rw [hok.out k hk (by omega)] at hk2
        cases hk2

def okW (N : Net) (f t : Int) : Bool := (okN N.states.length f && okN N.states.length t) && N.mayB
def okA (N : Net) (f k : Int) : Bool := (okN N.states.length f && N.mayB) && (decide (0 ≤ k) && decide (k.toNat < (N.ends f.toNat).length))
def toOf (N : Net) (f k : Nat) : Nat := (((N.edges f)[k]?.map fun (e : Edg) => e.to).getD 0).toNat
def overOf (N : Net) (f k : Nat) : Int := ((N.ends f)[k]?).getD 0
noncomputable def alongV (N : Net) (w : List Int) (f k : Int) : Bool := okA N f k && alongB N w (toOf N f.toNat k.toNat) (overOf N f.toNat k.toNat)
/-- the flags of a way, and whether it may be asked -/
def WayOut (N : Net) (w : List Int) (f t : Int) (v : Value) (W' : World) : Prop := ∃ x, v = .tuple #[x, .int .i64 (if okW N f t = true then 0 else 1)] ∧ BoolsV W' x (if okW N f t = true then w.length + 1 else 0) (wayB N w f.toNat t.toNat) ∧ ∃ a c, x = .slice a (if okW N f t = true then w.length + 1 else 0) c
theorem BoolsV.keep {W W' : World} {v : Value} {n : Nat} {h : Nat → Bool} (hg : Grew W W') (hb : BoolsV W v n h) : BoolsV W' v n h := by
  rcases hb with hb | ⟨b, c, h1, h2, h3⟩
  · exact .inl hb
  · exact .inr ⟨b, c, h1, Nat.lt_of_lt_of_le h2 hg.size, fun k hk => (hg.cells _ _ h2).trans (h3 k hk)⟩
theorem WayOut.keep {N : Net} {w : List Int} {f t : Int} {v : Value} {W W' : World} (hg : Grew W W') (h : WayOut N w f t v W) : WayOut N w f t v W' := by
  obtain ⟨x, h1, h2, h3⟩ := h
  exact ⟨x, h1, h2.keep hg, h3⟩
theorem wayOut_good {N : Net} {w : List Int} {f t : Int} {ob : Nat} {W' : World} (hk : okW N f t = true) (ho : Owns W' ob (wayCells N w f.toNat t.toNat) 4) : WayOut N w f t (.tuple #[.slice (some ⟨ob, 0, none⟩) (w.length + 1) (w.length + 1), .int .i64 0]) W' := by
  refine ⟨_, by rw [if_pos hk], ?_, some ⟨ob, 0, none⟩, w.length + 1, by rw [if_pos hk]⟩
  rw [if_pos hk]
  exact .inr ⟨ob, w.length + 1, rfl, ho.lt, fun k h => wayCells_at ho h⟩
theorem wayOut_bad {N : Net} {w : List Int} {f t : Int} {W' : World} (hk : okW N f t = false) : WayOut N w f t (.tuple #[.slice none 0 0, .int .i64 1]) W' := by
  have hk' : ¬ okW N f t = true := by rw [hk]; simp
  exact ⟨_, by rw [if_neg hk'], by rw [if_neg hk']; exact .inl ⟨rfl, 0, rfl⟩, none, 0, by rw [if_neg hk']⟩

set_option maxHeartbeats 1000000 in
set_option maxRecDepth 20000 in
theorem Ways_all (N : Net) (hN : N.Small) (w : List Int) (hw : w.length ≤ 7) (f t : Int) (W : World) (n0 n1 n2 n3 n4 wv : Value) (hB : NetAt W W.heap.size n0 n1 n2 n3 n4 N) (hWV : IntsV W W.heap.size wv w) :
    Calls Try.prog 9 #[.agg #[n0, n1, n2, n3, n4], .int .i64 f, .int .i64 t, wv] W fun e W' => ∃ v, e = .returned v ∧ WayOut N w f t v W' ∧ Grew W W' := by
  cases hk : okW N f t
  · obtain ⟨w1, hw1⟩ : ∃ w1, W.alloc (.cells #[n0, n1, n2, n3, n4] 25) = w1 := ⟨_, rfl⟩
    have z1 : w1.heap.size = W.heap.size + 1 := by rw [← hw1]; exact World.size_alloc W _
    have g1 : Grew W w1 := hw1 ▸ grew_alloc W _
    have o1 : Owns w1 W.heap.size [n0, n1, n2, n3, n4] 25 := hw1 ▸ Owns.alloc W _ _
    obtain ⟨w2, hw2⟩ : ∃ w2, w1.alloc (.cells #[.int .i64 f, .int .i64 t] 3) = w2 := ⟨_, rfl⟩
    have z2 : w2.heap.size = W.heap.size + 1 + 1 := by rw [← hw2, World.size_alloc, z1]
    have g2 : Grew w1 w2 := hw2 ▸ grew_alloc w1 _
    have o2 : Owns w2 (W.heap.size + 1) [.int .i64 f, .int .i64 t] 3 := by rw [← z1, ← hw2]; exact Owns.alloc w1 _ _
    have c0 := o1.cell_at (i := 0) rfl
    have c1 := o1.cell_at (i := 1) rfl
    have c2 := o1.cell_at (i := 2) rfl
    have c3 := o1.cell_at (i := 3) rfl
    have c4 := o1.cell_at (i := 4) rfl
    have g12 := g1.trans g2
    have hmay := pmay_any N hN w [f, t] hw w2 n0 n1 n2 n3 n4 wv ((hB.keep g12).mono g12.size) ((hWV.keep g12).mono g12.size) (W.heap.size + 1) 2 (by omega) (by simp)
      (fun k hk => by
        match k, hk with
        | 0, _ => exact o2.cell_at (i := 0) rfl
        | 1, _ => exact o2.cell_at (i := 1) rfl)
    have hb : ([f, t].all (okN N.states.length) && N.mayB) = false := by
      rw [← hk]
      unfold okW
      simp [Bool.and_assoc]
    rw [hb] at hmay
    have HMAY := Lib.hid (show Calls Try.prog 23 #[.agg #[n0, n1, n2, n3, n4], wv, .slice (some ⟨W.heap.size + 1, 0, none⟩) 2 2] w2 fun e W' => e = .returned (.bool false) ∧ Grew w2 W' from hmay)
    have HG := Lib.hid g12
    have HKK := Lib.hid hk
    clear hmay g12 o1 o2 g1 g2 hB hWV hN hk hb
    go_enter Try.func9, Try.ntmps9
    go_wp2_with fail
    refine HMAY.out.mono ?_
    rintro e w3 ⟨rfl, hb3⟩
    have HG3 := Lib.hid (HG.out.trans hb3)
    clear hb3
    go_wp2_with fail
    go_ret2
    exact ⟨_, rfl, wayOut_bad HKK.out, HG3.out⟩
  · have hk2 := hk
    unfold okW at hk2
    simp only [Bool.and_eq_true, okN_iff] at hk2
    obtain ⟨f', rfl⟩ : ∃ f' : Nat, f = f' := ⟨f.toNat, by omega⟩
    obtain ⟨t', rfl⟩ : ∃ t' : Nat, t = t' := ⟨t.toNat, by omega⟩
    refine (ways_ok N hN hk2.2 w hw f' t' (by omega) (by omega) W n0 n1 n2 n3 n4 wv hB hWV).mono ?_
    rintro e W' hres
    obtain ⟨⟨v, rfl, ob, rfl, ho⟩, hG⟩ := ways_fix hres
    exact ⟨_, rfl, wayOut_good hk (by simpa using ho), hG⟩

set_option maxHeartbeats 1000000 in
set_option maxRecDepth 20000 in
theorem Along_all (N : Net) (hN : N.Small) (w : List Int) (hw : w.length ≤ 7) (f k : Int) (W : World) (n0 n1 n2 n3 n4 wv : Value) (hB : NetAt W W.heap.size n0 n1 n2 n3 n4 N) (hWV : IntsV W W.heap.size wv w) :
    Calls Try.prog 13 #[.agg #[n0, n1, n2, n3, n4], .int .i64 f, .int .i64 k, wv] W fun e W' => e = .returned (.bool (alongV N w f k)) ∧ Grew W W' := by
  cases hk : okA N f k
  · have hav : alongV N w f k = false := by unfold alongV; rw [hk]; rfl
    rw [hav]
    obtain ⟨w1, hw1⟩ : ∃ w1, W.alloc (.cells #[n0, n1, n2, n3, n4] 25) = w1 := ⟨_, rfl⟩
    have z1 : w1.heap.size = W.heap.size + 1 := by rw [← hw1]; exact World.size_alloc W _
    have g1 : Grew W w1 := hw1 ▸ grew_alloc W _
    have o1 : Owns w1 W.heap.size [n0, n1, n2, n3, n4] 25 := hw1 ▸ Owns.alloc W _ _
    obtain ⟨w2, hw2⟩ : ∃ w2, w1.alloc (.cells #[.int .i64 f] 3) = w2 := ⟨_, rfl⟩
    have g2 : Grew w1 w2 := hw2 ▸ grew_alloc w1 _
    have z2 : w2.heap.size = W.heap.size + 1 + 1 := by rw [← hw2, World.size_alloc, z1]
    have o2 : Owns w2 (W.heap.size + 1) [.int .i64 f] 3 := by rw [← z1, ← hw2]; exact Owns.alloc w1 _ _
    have c0 := o1.cell_at (i := 0) rfl
    have c1 := o1.cell_at (i := 1) rfl
    have c2 := o1.cell_at (i := 2) rfl
    have c3 := o1.cell_at (i := 3) rfl
    have c4 := o1.cell_at (i := 4) rfl
    have g12 := g1.trans g2
    have hmay := pmay_any N hN w [f] hw w2 n0 n1 n2 n3 n4 wv ((hB.keep g12).mono g12.size) ((hWV.keep g12).mono g12.size) (W.heap.size + 1) 1 (by omega) (by simp)
      (fun k hk => by
        match k, hk with
        | 0, _ => exact o2.cell_at (i := 0) rfl)
    have hb : ([f].all (okN N.states.length) && N.mayB) = (okN N.states.length f && N.mayB) := by simp
    rw [hb] at hmay
    obtain ⟨mb, hmb⟩ : ∃ mb, (okN N.states.length f && N.mayB) = mb := ⟨_, rfl⟩
    rw [hmb] at hmay
    have HMAY := Lib.hid (show Calls Try.prog 23 #[.agg #[n0, n1, n2, n3, n4], wv, .slice (some ⟨W.heap.size + 1, 0, none⟩) 1 1] w2 fun e W' => e = .returned (.bool mb) ∧ Grew w2 W' from hmay)
    have HG := Lib.hid g12
    have HO := Lib.hid (o1.keep g2)
    have HMB := Lib.hid hmb
    have HK := Lib.hid hk
    have HB := Lib.hid hB
    clear hmay g12 o1 o2 g1 g2 hB hWV hN hk hb hmb hav
    cases mb
    · go_enter Try.func13, Try.ntmps13
      go_wp2_with fail
      refine HMAY.out.mono ?_
      rintro e w3 ⟨rfl, hb3⟩
      have HG3 := Lib.hid (HG.out.trans hb3)
      clear hb3
      go_wp2_with fail
      go_ret
      exact ⟨rfl, HG3.out⟩
    · have hm := HMB.out
      simp only [Bool.and_eq_true, okN_iff] at hm
      by_cases k0 : k < 0
      · have q0 : decide (k < 0) = true := decide_eq_true k0
        clear k0 hm
        go_enter Try.func13, Try.ntmps13
        go_wp2_with fail
        refine HMAY.out.mono ?_
        rintro e w3 ⟨rfl, hb3⟩
        have HG3 := Lib.hid (HG.out.trans hb3)
        clear hb3
        go_wp2_with fail
        go_ret
        exact ⟨rfl, HG3.out⟩
      · have q0 : decide (k < 0) = false := decide_eq_false k0
        obtain ⟨f', rfl⟩ : ∃ f' : Nat, f = f' := ⟨f.toNat, by omega⟩
        obtain ⟨S, hS⟩ : ∃ S, N.states.length = S := ⟨_, rfl⟩
        have hfS : f' < S := by omega
        have hf' : f' < N.states.length := by omega
        obtain ⟨na, nc, hn0, hN0⟩ := HB.out.states
        obtain ⟨sb, soff, rfl, hsb, hstt⟩ := hN0 f' hf'
        obtain ⟨-, -, za, zc, s2, -⟩ := hstt
        have hED : N.ends f' = N.states[f'].ends := by unfold Net.ends; rw [List.getElem?_eq_getElem hf']; rfl
        obtain ⟨el, hel⟩ : ∃ el, N.states[f'].ends.length = el := ⟨_, rfl⟩
        rw [hel] at s2
        rw [hS] at hn0
        have hge : (el : Int) ≤ k := by
          have h1 := HK.out
          have h2 := HMB.out
          unfold okA at h1
          rw [h2, Bool.true_and] at h1
          simp only [Bool.and_eq_false_iff, decide_eq_false_iff_not] at h1
          rw [Int.toNat_natCast, hED, hel] at h1
          omega
        have q1 : decide ((el : Int) ≤ k) = true := decide_eq_true hge
        have HS2 := Lib.hid (And.intro hsb s2)
        have HN0 := Lib.hid hn0
        clear k0 hm hN0 hED hel hge hS hf' s2 hn0
        go_enter Try.func13, Try.ntmps13
        go_wp2_with fail
        refine HMAY.out.mono ?_
        rintro e w3 ⟨rfl, hb3⟩
        have HG3 := Lib.hid (HG.out.trans hb3)
        have d0 := (HO.out.keep hb3).cell_at (i := 0) rfl
        rw [HN0.out] at d0
        have dl := (HO.out.keep hb3).lt
        have d1 := (HG3.out.cells _ _ HS2.out.1).trans HS2.out.2
        have dl1 : sb < w3.heap.size := Nat.lt_of_lt_of_le HS2.out.1 HG3.out.size
        clear hb3
        go_wp2_with fail
        go_ret
        exact ⟨rfl, HG3.out⟩
  · have hk2 := hk
    unfold okA at hk2
    simp only [Bool.and_eq_true, okN_iff, decide_eq_true_eq] at hk2
    obtain ⟨⟨hf, hM⟩, hk0, hk1⟩ := hk2
    obtain ⟨f', rfl⟩ : ∃ f' : Nat, f = f' := ⟨f.toNat, by omega⟩
    obtain ⟨k', rfl⟩ : ∃ k' : Nat, k = k' := ⟨k.toNat, by omega⟩
    rw [Int.toNat_natCast, Int.toNat_natCast] at hk1
    have hf' : f' < N.states.length := by omega
    have hED : N.ends f' = N.states[f'].ends := by unfold Net.ends; rw [List.getElem?_eq_getElem hf']; rfl
    have hEE : N.edges f' = N.states[f'].edges := by unfold Net.edges; rw [List.getElem?_eq_getElem hf']; rfl
    have hkE : k' < N.states[f'].ends.length := by rw [← hED]; exact hk1
    have hkG : k' < N.states[f'].edges.length := by
      rcases (Net.ok_of_may hM).endsE f' with h | h
      · rw [h] at hk1; simp at hk1
      · rw [← hEE, ← h]; exact hk1
    refine (along_ok N hN hM w hw f' k' hf' hkE hkG W n0 n1 n2 n3 n4 wv hB hWV).mono ?_
    rintro e W' hres
    have := along_fix hres
    refine ⟨?_, this.2⟩
    rw [this.1]
    unfold alongV toOf overOf
    rw [hk, Bool.true_and, Int.toNat_natCast, Int.toNat_natCast, hED, hEE, List.getElem?_eq_getElem hkE, List.getElem?_eq_getElem hkG]
    rfl
end Go.Proofs.Ytgdcnndmdgcjlaa
