/- atns.May: may a net be? Up to its loop. -/
import Derived.BigQuiet
import Derived.ChangeArms
import Derived.SizedLaws
import Derived.Test.YtgdcnndmdgcjlaaQ4
import Derived.Test.YtgdcnndmdgcjlaaQ2
namespace Go.Proofs.Ytgdcnndmdgcjlaa
open Go.RowKit
def decsTo (l : List Sta) : Nat → List Int
  | 0 => []
  | k + 1 => decsTo l k ++ (match l[k]? with | some s => if s.ends.length = 0 then [] else [(k : Int)] | none => [])
def Sta.fineB (N : Net) (s : Sta) : Bool := s.mayB N && !decide (s.rule < 0) && !decide ((N.starts.length : Int) ≤ s.rule)
def Net.mayB (N : Net) : Bool :=
  decide (N.starts.length = N.stops.length) && !((N.starts ++ N.stops).any fun i => !okN N.states.length i) && !(N.preds.any fun i => decide (i < 0) || decide ((N.states.length : Int) - 1 ≤ i)) &&
    N.states.all (Sta.fineB N) && decide (decsTo N.states N.states.length = N.decisions)
theorem decsTo_len (l : List Sta) : ∀ k, (decsTo l k).length ≤ k
  | 0 => by simp [decsTo]
  | k + 1 => by
    have := decsTo_len l k
    unfold decsTo
    rw [List.length_append]
    split
    · split
      · simp; omega
      · simp; omega
    · simp; omega
theorem decsTo_none {l : List Sta} {k : Nat} (h : k < l.length) (h0 : l[k].ends.length = 0) : decsTo l (k + 1) = decsTo l k := by
  rw [decsTo, List.getElem?_eq_getElem h]; simp [h0]
theorem decsTo_some {l : List Sta} {k : Nat} (h : k < l.length) (h0 : l[k].ends.length ≠ 0) : decsTo l (k + 1) = decsTo l k ++ [(k : Int)] := by
  rw [decsTo, List.getElem?_eq_getElem h]; simp [h0]
structure MnetAt (N : Net) (W w : World) (na : Option Addr) (nc : Nat) (n1 n2 n3 n4 : Value) : Prop where
  low : Grew W w
  size : W.heap.size + 1 + 1 ≤ w.heap.size
  bn : Owns w W.heap.size [.slice na N.states.length nc, n1, n2, n3, n4] 25
  bf : Owns w (W.heap.size + 1) [.func (.func 32) #[] #[.pointer (some ⟨W.heap.size, 0, none⟩)]] 95
section
variable {N : Net} {W w w' : World} {na : Option Addr} {nc : Nat} {n1 n2 n3 n4 : Value}
theorem MnetAt.grew (h : MnetAt N W w na nc n1 n2 n3 n4) (hg : Grew w w') : MnetAt N W w' na nc n1 n2 n3 n4 :=
  ⟨h.low.trans hg, Nat.le_trans h.size hg.size, h.bn.keep hg, h.bf.keep hg⟩
theorem MnetAt.grown (h : MnetAt N W w na nc n1 n2 n3 n4) {v : Value} (hv : ∀ g, v.ownBlock = some g → W.heap.size + 1 + 1 ≤ g) (hg : w.grownBy w' v.ownBlock) : MnetAt N W w' na nc n1 n2 n3 n4 := by
  have hb : ∀ k, k < W.heap.size + 1 + 1 → w'.heap[k]? = w.heap[k]? := fun k hk => hg.block k (by have := h.size; omega) (fun e => by have := hv k e.symm; omega)
  exact ⟨⟨hg.os.trans h.low.os, hg.tape.trans h.low.tape, hg.output.trans h.low.output, Nat.le_trans h.low.size hg.size, fun k hk => (hb k (by omega)).trans (h.low.block k hk)⟩,
    Nat.le_trans h.size hg.size, (hb _ (by omega)).trans h.bn, (hb _ (by omega)).trans h.bf⟩
theorem MnetAt.ask2 (h : MnetAt N W w na nc n1 n2 n3 n4) (l : List Int) : AskInts 33 #[.pointer (some ⟨W.heap.size + 1, 0, none⟩)] w l (fun i => !okN N.states.length i) :=
  fun i hi W' hg => AMay2_ok l[i] (W.heap.size + 1) W.heap.size N.states.length nc na W' (((h.grew hg).bn).cell_at (i := 0) rfl) (((h.grew hg).bf).cell_at (i := 0) rfl)
theorem MnetAt.ask3 (hn : N.states.length ≤ 1000000000) (h : MnetAt N W w na nc n1 n2 n3 n4) (l : List Int) : AskInts 36 #[.pointer (some ⟨W.heap.size, 0, none⟩)] w l (fun i => decide (i < 0) || decide ((N.states.length : Int) - 1 ≤ i)) :=
  fun i hi W' hg => AMay3_ok l[i] W.heap.size N.states.length nc hn na W' (((h.grew hg).bn).cell_at (i := 0) rfl)
end
theorem ints_of_row {w : World} {base : Nat} {v : Value} {l : List Int} (h : looseRow w base 3 1 v l.length (intVs l)) : IntsV w w.heap.size v l := by
  rcases h.2 with ⟨h1, h2⟩ | ⟨g, cap, cur, h1, h2, h3, h4, h5, h6, h7⟩
  · exact ⟨none, 0, by rw [h1, h2], fun k hk => absurd hk (by omega)⟩
  · refine ⟨some ⟨g, 0, none⟩, cap, h1, fun k hk => ⟨g, 0, rfl, (Array.getElem?_eq_some_iff.1 h3).1, ?_⟩⟩
    rw [Nat.zero_add]
    exact looseRow_cells h (g := g) (by rw [h1]; rfl) k _ (by unfold intVs; rw [List.getElem?_map, List.getElem?_eq_getElem hk]; rfl)
theorem loose_keep {w w' : World} {base e size n : Nat} {v : Value} {xs : List Value} (h : looseRow w base e size v n xs) (hg : Grew w w') : looseRow w' base e size v n xs :=
  row_but h (But.of_grew hg (F := fun _ => False)) (fun _ _ => id)
theorem one_news {w : World} {b T : Nat} {x : Value} (h : Owns w b [x] T) : ∀ (j : Nat) u, [x][j]? = some u → w.cell? ((⟨b, 0, none⟩ : Addr).add j) = some u := by
  intro j u hj
  rw [padd_off, Nat.zero_add, h.cell, hj]
theorem own_of_row {w : World} {base e size n : Nat} {v : Value} {xs : List Value} (h : looseRow w base e size v n xs) : ∀ g, v.ownBlock = some g → base ≤ g := fun _ hg => (row_own h hg).1
def Decs (N : Net) (W w : World) (j : Nat) (v : Value) : Prop := looseRow w (W.heap.size + 1 + 1) 3 1 v (decsTo N.states j).length (intVs (decsTo N.states j))
set_option maxHeartbeats 2000000 in
set_option maxRecDepth 20000 in
theorem AMay_ok (N : Net) (W : World) (n0 n1 n2 n3 n4 : Value) (hB : NetAt W W.heap.size n0 n1 n2 n3 n4 N)
    (h1 : N.states.length ≤ 1000000) (h2 : N.starts.length + N.stops.length ≤ 1000000) (h3 : N.preds.length ≤ 1000000) (h6 : N.decisions.length ≤ 1000000)
    (h4 : ∀ s ∈ N.states, s.edges.length ≤ 1000000) (h5 : ∀ s ∈ N.states, s.ends.length ≤ 1000000) :
    Calls Try.prog 16 #[.agg #[n0, n1, n2, n3, n4]] W fun e W' => e = .returned (.bool N.mayB) ∧ Grew W W' := by
  obtain ⟨na, nc, rfl, hN0⟩ := hB.states
  obtain ⟨ta, tc, rfl, hT⟩ := hB.starts
  obtain ⟨ua, uc, rfl, hU⟩ := hB.stops
  obtain ⟨pa, pc, rfl, hP⟩ := hB.preds
  obtain ⟨da, dc, rfl, hD⟩ := hB.decisions
  obtain ⟨w1, hw1⟩ : ∃ w1, W.alloc (.cells #[.slice na N.states.length nc, .slice ta N.starts.length tc, .slice ua N.stops.length uc, .slice pa N.preds.length pc, .slice da N.decisions.length dc] 25) = w1 := ⟨_, rfl⟩
  have z1 : w1.heap.size = W.heap.size + 1 := by rw [← hw1]; exact World.size_alloc W _
  have g1 : Grew W w1 := hw1 ▸ grew_alloc W _
  have o1 : Owns w1 W.heap.size [.slice na N.states.length nc, .slice ta N.starts.length tc, .slice ua N.stops.length uc, .slice pa N.preds.length pc, .slice da N.decisions.length dc] 25 := hw1 ▸ Owns.alloc W _ _
  obtain ⟨w2, hw2⟩ : ∃ w2, w1.alloc (.cells #[.func (.func 32) #[] #[.pointer (some ⟨W.heap.size, 0, none⟩)]] 95) = w2 := ⟨_, rfl⟩
  have z2 : w2.heap.size = W.heap.size + 1 + 1 := by rw [← hw2, World.size_alloc, z1]
  have g2 : Grew w1 w2 := hw2 ▸ grew_alloc w1 _
  have o2 : Owns w2 (W.heap.size + 1) [.func (.func 32) #[] #[.pointer (some ⟨W.heap.size, 0, none⟩)]] 95 := by rw [← z1, ← hw2]; exact Owns.alloc w1 _ _
  have hM : MnetAt N W w2 na nc (.slice ta N.starts.length tc) (.slice ua N.stops.length uc) (.slice pa N.preds.length pc) (.slice da N.decisions.length dc) := ⟨g1.trans g2, by omega, o1.keep g2, o2⟩
  have b1 := hM.bn.cell_at (i := 1) rfl
  have b2 := hM.bn.cell_at (i := 2) rfl
  obtain ⟨w3, hw3⟩ : ∃ w3, w2.alloc (.cells #[.slice ta N.starts.length tc, .slice ua N.stops.length uc] 23) = w3 := ⟨_, rfl⟩
  have g3 : Grew w2 w3 := hw3 ▸ grew_alloc w2 _
  have o3 : Owns w3 w2.heap.size [.slice ta N.starts.length tc, .slice ua N.stops.length uc] 23 := hw3 ▸ Owns.alloc w2 _ _
  have z3 : w3.heap.size = W.heap.size + 1 + 1 + 1 := by rw [← hw3, World.size_alloc, z2]
  have hL3 := (hM.low.trans g3)
  have hcat : Calls Try.prog 35 #[.slice (some ⟨W.heap.size + 1 + 1, 0, none⟩) 2 2] w3 fun e W' => ∃ v, e = .returned v ∧ IntsV W' W'.heap.size v (N.starts ++ N.stops) ∧ Grew w3 W' := by
    have := concatInts_ok [N.starts, N.stops] [.slice ta N.starts.length tc, .slice ua N.stops.length uc] rfl (by simp [lens]; omega) (by simp) w3 (W.heap.size + 1 + 1) 2 (by omega)
      (fun k hk => by rw [← z2, o3.cell, List.getElem?_eq_getElem hk])
      (fun k hk h2 => by
        match k, hk with
        | 0, _ => exact ⟨ta, tc, rfl, (hT.keep hL3).mono hL3.size⟩
        | 1, _ => exact ⟨ua, uc, rfl, (hU.keep hL3).mono hL3.size⟩)
    simpa using this
  have HCAT := Lib.hid hcat
  have HB := Lib.hid hB
  have HM := Lib.hid hM
  have HM3 := Lib.hid (hM.grew g3)
  clear hcat hB hM g1 g2 g3 o1 o2 o3 hL3 hN0 hT hU hP hD z3
  go_enter Try.func16, Try.ntmps16
  by_cases t1 : N.starts.length = N.stops.length
  · have r1 : ((N.starts.length : Int) != (N.stops.length : Int)) = false := by simp [t1]
    have T1 := Lib.hid t1
    clear t1
    go_wp2_with fail
    refine HCAT.out.mono ?_
    rintro e w4 ⟨v4, rfl, hv4, hg4⟩
    have hM4 := HM3.out.grew hg4
    have HM4 := Lib.hid hM4
    have HK := Lib.hid (contInts_ok (N.starts ++ N.stops) (fun i => !okN N.states.length i) 33 _ enters33 w4 v4 (by unfold reachN; rw [List.length_append]; omega) hv4 (hM4.ask2 _))
    clear hM4 hv4 hg4
    go_wp2_with fail
    have hMB : Hid (N.mayB = (!((N.starts ++ N.stops).any fun i => !okN N.states.length i) && !(N.preds.any fun i => decide (i < 0) || decide ((N.states.length : Int) - 1 ≤ i)) && N.states.all (Sta.fineB N) && decide (decsTo N.states N.states.length = N.decisions))) :=
      Lib.hid (by unfold Net.mayB; rw [decide_eq_true T1.out]; rfl)
    generalize ((N.starts ++ N.stops).any fun i => !okN N.states.length i) = c1 at *
    refine HK.out.mono ?_
    rintro e w5 ⟨rfl, hb5⟩
    have hM5 := HM4.out.grew hb5
    have HM5 := Lib.hid hM5
    have p3 := hM5.bn.cell_at (i := 3) rfl
    obtain ⟨pa', pc', hpe, hpp⟩ := HB.out.preds
    cases hpe
    have HK2 := Lib.hid (contInts_ok N.preds (fun i => decide (i < 0) || decide ((N.states.length : Int) - 1 ≤ i)) 36 _ enters36 w5 (.slice pa N.preds.length pc) (by unfold reachN; omega) ⟨pa, pc, rfl, (hpp.keep hM5.low).mono hM5.low.size⟩ (hM5.ask3 (by omega) _))
    clear hb5 hpp HK HCAT HM HM3 HM4 hw1 hw2 hw3 hM5
    generalize (N.preds.any fun i => decide (i < 0) || decide ((N.states.length : Int) - 1 ≤ i)) = c2 at *
    cases c1
    · go_wp2_with fail
      refine HK2.out.mono ?_
      rintro e w6 ⟨rfl, hb6⟩
      have hM6 := HM5.out.grew hb6
      have HM6 := Lib.hid hM6
      have n0 := hM6.bn.cell_at (i := 0) rfl
      cases c2
      · clear hb6 hM6
        go_wp2_with fail
        clear HM5 HK2 z1 z2 n0
        obtain ⟨i0, hi, hz0, hz1, hz2⟩ := info_parts info_int
        have HI := Lib.hid hi
        have HZ0 := Lib.hid hz0
        have HZ1 := Lib.hid hz1
        have HZ2 := Lib.hid hz2
        have H45 := Lib.hid (And.intro h4 h5)
        clear hi hz0 hz1 hz2 h4 h5
        go_loopw [5, 36] (fun d i wr => ∃ (j : Nat), i = .int .i64 j ∧ j ≤ N.states.length ∧ Hid (∀ i (h : i < N.states.length), i < j → (N.states[i]).fineB N = true) ∧ Hid (MnetAt N W wr na nc (.slice ta N.starts.length tc) (.slice ua N.stops.length uc) (.slice pa N.preds.length pc) (.slice da N.decisions.length dc)) ∧ Hid (Decs N W wr j d)) (fun _ i _ => N.states.length - (intOf i).toNat)
        case atStart =>
          exact ⟨0, rfl, by omega, fun i hi h => absurd h (by omega), HM6.out, ⟨rfl, .inl ⟨rfl, rfl⟩⟩⟩
        case round =>
          obtain ⟨j, rfl, hj, hf, hm, hd⟩ := hrel
          clear HM6
          by_cases hlt : j < N.states.length
          · obtain ⟨na', nc', hne, hSS⟩ := HB.out.states
            cases hne
            obtain ⟨b, off, rfl, hb, hS⟩ := hSS j hlt
            obtain ⟨hr0, ⟨ea, ec, he, hE⟩, za, zc, hz, hZ⟩ := hS
            have d0 : wr.cell? ⟨b, off + j * 3, none⟩ = some (.int .i64 N.states[j].rule) := by rw [hm.out.low.cells _ _ hb]; exact hr0
            have d1 : wr.cell? ⟨b, off + j * 3 + 1, none⟩ = some (.slice ea N.states[j].edges.length ec) := by rw [hm.out.low.cells _ _ hb]; exact he
            have d2 : wr.cell? ⟨b, off + j * 3 + 2, none⟩ = some (.slice za N.states[j].ends.length zc) := by rw [hm.out.low.cells _ _ hb]; exact hz
            obtain ⟨w7, hw7⟩ : ∃ w7, wr.alloc (.cells #[.int .i64 N.states[j].rule, .slice ea N.states[j].edges.length ec, .slice za N.states[j].ends.length zc] 51) = w7 := ⟨_, rfl⟩
            have g7 : Grew wr w7 := hw7 ▸ grew_alloc wr _
            have o7 : Owns w7 wr.heap.size [.int .i64 N.states[j].rule, .slice ea N.states[j].edges.length ec, .slice za N.states[j].ends.length zc] 51 := hw7 ▸ Owns.alloc wr _ _
            have hM7 := hm.out.grew g7
            have s0 := o7.cell_at (i := 0) rfl
            have s1 := o7.cell_at (i := 1) rfl
            have s2 := o7.cell_at (i := 2) rfl
            have m0 := hM7.bn.cell_at (i := 0) rfl
            have m1 := hM7.bn.cell_at (i := 1) rfl
            have m2 := hM7.bn.cell_at (i := 2) rfl
            have m3 := hM7.bn.cell_at (i := 3) rfl
            have m4 := hM7.bn.cell_at (i := 4) rfl
            have HC := Lib.hid (smay_ok N N.states[j] w7 _ _ _ _ _ _ _ _ ((HB.out.keep hM7.low).mono hM7.low.size) ⟨rfl, ⟨ea, ec, rfl, (hE.keep hM7.low).mono hM7.low.size⟩, za, zc, rfl, (hZ.keep hM7.low).mono hM7.low.size⟩ h1 (by omega) h3 (H45.out.1 _ (List.getElem_mem hlt)) (H45.out.2 _ (List.getElem_mem hlt)))
            have HM7 := Lib.hid hM7
            have HO7 := Lib.hid o7
            have HD7 := Lib.hid (loose_keep hd.out g7)
            have hB : Hid (Sta.fineB N N.states[j] = (N.states[j].mayB N && !decide (N.states[j].rule < 0) && !decide ((N.starts.length : Int) ≤ N.states[j].rule))) := Lib.hid rfl
            have hNext : Hid (Sta.fineB N N.states[j] = true → ∀ i (h : i < N.states.length), i < j + 1 → (N.states[i]).fineB N = true) := Lib.hid (by
              intro h i hi hij
              by_cases hq : i = j
              · subst hq; exact h
              · exact hf.out i hi (by omega))
            have hBad : Hid (Sta.fineB N N.states[j] = false → N.mayB = false) := Lib.hid (by
              intro h
              rw [hMB.out, all_not hlt h]
              simp)
            have hDn : Hid (N.states[j].ends.length = 0 → decsTo N.states (j + 1) = decsTo N.states j) := Lib.hid (decsTo_none hlt)
            have hDs : Hid (N.states[j].ends.length ≠ 0 → decsTo N.states (j + 1) = decsTo N.states j ++ [(j : Int)]) := Lib.hid (decsTo_some hlt)
            clear hb hr0 he hz hE hZ g7 o7 hM7 hf hm hd hSS
            generalize N.states[j].rule = rl at *
            generalize N.states[j].ends.length = el at *
            generalize (N.states[j].mayB N) = sm at *
            go_wp2_with fail
            refine HC.out.mono ?_
            rintro e w8 ⟨rfl, hb8⟩
            have s0 := (HO7.out.keep hb8).cell_at (i := 0) rfl
            have s2 := (HO7.out.keep hb8).cell_at (i := 2) rfl
            have hM8 := HM7.out.grew hb8
            have m1 := hM8.bn.cell_at (i := 1) rfl
            have HM8 := Lib.hid hM8
            have HD8 := Lib.hid (loose_keep HD7.out hb8)
            clear HM7 HD7 HC HO7 hw7 d0 d1 d2 m0 m2 m3 m4 s1 hM8 hb8
            cases sm
            · go_wp2_with fail
              go_ret
              exact ⟨ret_bool (hBad.out (by rw [hB.out]; rfl)).symm, HM8.out.low⟩
            · by_cases rl0 : rl < 0
              · have q0 : decide (rl < 0) = true := decide_eq_true rl0
                clear rl0
                go_wp2_with fail
                go_ret
                exact ⟨ret_bool (hBad.out (by rw [hB.out, q0]; rfl)).symm, HM8.out.low⟩
              · have q0 : decide (rl < 0) = false := decide_eq_false rl0
                by_cases rl1 : (N.starts.length : Int) ≤ rl
                · have q1 : decide ((N.starts.length : Int) ≤ rl) = true := decide_eq_true rl1
                  clear rl1 rl0
                  go_wp2_with fail
                  go_ret
                  exact ⟨ret_bool (hBad.out (by rw [hB.out, q0, q1]; rfl)).symm, HM8.out.low⟩
                · have q1 : decide ((N.starts.length : Int) ≤ rl) = false := decide_eq_false rl1
                  have HN := Lib.hid (hNext.out (by rw [hB.out, q0, q1]; rfl))
                  clear rl0 rl1
                  by_cases e0 : el = 0
                  · have r0 : decide (0 < el) = false := decide_eq_false (by omega)
                    have r1 : ¬ 0 < el := by omega
                    have E0 := Lib.hid (hDn.out e0)
                    clear e0
                    go_wp2_with fail
                    exact ⟨⟨j + 1, by go_num, by omega, HN.out, HM8.out, by unfold Decs; rw [E0.out]; exact HD8.out⟩, by simp [intOf]; omega⟩
                  · have r0 : 0 < el := by omega
                    have E0 := Lib.hid (hDs.out e0)
                    clear e0
                    obtain ⟨w9, hw9⟩ : ∃ w9, w8.alloc (.cells #[.int .i64 j] 3) = w9 := ⟨_, rfl⟩
                    have g9 : Grew w8 w9 := hw9 ▸ grew_alloc w8 _
                    have o9 : Owns w9 w8.heap.size [.int .i64 j] 3 := hw9 ▸ Owns.alloc w8 _ _
                    have hM9 := HM8.out.grew g9
                    have HM9 := Lib.hid hM9
                    have HROW := Lib.hid (show looseRow w9 (W.heap.size + 1 + 1) 3 1 u5 (decsTo N.states j).length (intVs (decsTo N.states j)) from loose_keep HD8.out g9)
                    have HNS := Lib.hid (one_news o9)
                    have hle := decsTo_len N.states j
                    have H63 := Lib.hid (show (decsTo N.states j).length + 1 ≤ maxLen by unfold maxLen; omega)
                    have H64 := Lib.hid (show ((decsTo N.states j).length + 1) * 8 ≤ 140737488355328 by omega)
                    have HLIM := Lib.hid hM9.size
                    clear HM8 HD8 g9 o9 hM9 hle
                    go_wp2_with (at_builtin; refine wpList_append_loose w9 rfl _ _ 23 rfl (W.heap.size + 1 + 1) 3 i0 _ 1 8 Try.underlying23 HI.out HZ0.out HZ1.out HZ2.out rfl (by decide) u5 (decsTo N.states j).length (intVs (decsTo N.states j)) rfl HROW.out ⟨w8.heap.size, 0, none⟩ 1 1 [.int .i64 j] rfl rfl HNS.out (fun u hu => by rw [List.mem_singleton.1 hu]; rfl) (by decide) H63.out H64.out HLIM.out _ rfl ?_; intro g cap' w10 hown hgrow hat hlt10; have HOWN := Lib.hid hown; have HGROW := Lib.hid hgrow; clear hown hgrow hat hlt10)
                    have hM10 : MnetAt N W w10 (some ⟨b, off, none⟩) nc (.slice ta N.starts.length tc) (.slice ua N.stops.length uc) (.slice pa N.preds.length pc) (.slice da N.decisions.length dc) := HM9.out.grown (own_of_row HROW.out) HGROW.out
                    have hD10 : Decs N W w10 (j + 1) (.slice (some ⟨g, 0, none⟩) ((decsTo N.states j).length + 1) cap') := by
                      unfold Decs
                      rw [E0.out, List.length_append]
                      have := HOWN.out
                      unfold intVs at this ⊢
                      rw [List.map_append]
                      exact this
                    exact ⟨⟨j + 1, by go_num, by omega, HN.out, hM10, hD10⟩, by simp [intOf]; omega⟩
          · have hje : j = N.states.length := by omega
            subst hje
            have hall : N.states.all (Sta.fineB N) = true := all_upto fun i hi => hf.out i hi hi
            have m4 := hm.out.bn.cell_at (i := 4) rfl
            have hle := decsTo_len N.states N.states.length
            obtain ⟨da', dc', hde, hDD⟩ := HB.out.decisions
            cases hde
            have hlow := hm.out.low
            have HE := Lib.hid (equalInts_ok (decsTo N.states N.states.length) N.decisions wr u5 (.slice da N.decisions.length dc) (by unfold reachN; omega) (by unfold reachN; omega) (ints_of_row hd.out) ⟨da, dc, rfl, (hDD.keep hlow).mono hlow.size⟩)
            have HLW := Lib.hid hlow
            have HALL := Lib.hid hall
            clear hall hf hd hle hDD hlow hm
            go_wp2_with (refine HE.out.mono ?_; rintro e w11 ⟨rfl, hb11⟩)
            go_ret
            exact ⟨ret_bool (by rw [hMB.out, HALL.out]; rfl), HLW.out.trans hb11⟩
      · clear hb6 hM6
        go_wp2_with fail
        go_ret
        exact ⟨ret_bool (by rw [hMB.out]; rfl), HM6.out.low⟩
    · go_wp2_with fail
      go_ret
      exact ⟨ret_bool (by rw [hMB.out]; rfl), HM5.out.low⟩
  · have r1 : ((N.starts.length : Int) != (N.stops.length : Int)) = true := by simp; omega
    go_wp2_with fail
    go_ret
    exact ⟨ret_bool (by unfold Net.mayB; simp [t1]), HM.out.low⟩
end Go.Proofs.Ytgdcnndmdgcjlaa

/- A net that may be is as the search asks; paths.may; place. -/
namespace Go.Proofs.Ytgdcnndmdgcjlaa
open Go.RowKit
theorem okN_iff {n : Nat} {i : Int} : okN n i = true ↔ 0 ≤ i ∧ i < n := by simp [okN]
theorem not_any_okN {l : List Int} {n : Nat} (h : (l.any fun i => !okN n i) = false) : ∀ i ∈ l, 0 ≤ i ∧ i < n := by
  intro i hi
  rw [List.any_eq_false] at h
  have := h i hi
  rw [← okN_iff]
  simpa using this
theorem getD_ok {l : List Int} {n r : Nat} (h : ∀ i ∈ l, 0 ≤ i ∧ i < n) (hr : r < l.length) : 0 ≤ l.getD r 0 ∧ (l.getD r 0).toNat < n := by
  have hm : l.getD r 0 ∈ l := by
    rw [List.getD_eq_getElem?_getD, List.getElem?_eq_getElem hr]
    exact List.getElem_mem hr
  have := h _ hm
  omega
theorem fine_edge {N : Net} {s : Sta} (h : s.fineB N = true) {e : Edg} (he : e ∈ s.edges) : (0 ≤ e.to ∧ e.to.toNat < N.states.length) ∧ 0 ≤ e.what ∧ (e.kind = 2 → e.what.toNat < N.starts.length) := by
  unfold Sta.fineB Sta.mayB at h
  simp only [Bool.and_eq_true] at h
  have hm := List.all_eq_true.1 h.1.1.1 e he
  unfold Edg.mayB at hm
  simp only [Bool.not_eq_true', Bool.or_eq_false_iff, decide_eq_false_iff_not, Bool.and_eq_false_iff, Bool.not_eq_false'] at hm
  obtain ⟨⟨⟨_, hw⟩, hk⟩, ht⟩ := hm
  rw [okN_iff] at ht
  refine ⟨by omega, by omega, fun hk2 => ?_⟩
  rcases hk with hk | hk
  · rw [hk2] at hk; simp at hk
  · rw [hk2] at hk
    unfold Net.mostOf at hk
    simp only [if_true] at hk
    omega
theorem fine_ends {N : Net} {s : Sta} (h : s.fineB N = true) : (∀ i ∈ s.ends, 0 ≤ i ∧ i.toNat < N.states.length) ∧ (s.ends = [] ∨ s.ends.length = s.edges.length) := by
  unfold Sta.fineB Sta.mayB at h
  simp only [Bool.and_eq_true, Bool.or_eq_true, decide_eq_true_eq, Bool.not_eq_true'] at h
  rcases h.1.1.2 with h0 | ⟨hd, ho⟩
  · have := List.eq_nil_of_length_eq_zero h0
    exact ⟨by rw [this]; simp, .inl this⟩
  · refine ⟨fun i hi => by have := not_any_okN ho i hi; omega, .inr ?_⟩
    unfold Sta.decides at hd
    simp only [Bool.and_eq_true, decide_eq_true_eq] at hd
    exact hd.1.1
theorem Net.ok_of_may {N : Net} (h : N.mayB = true) : N.Ok := by
  unfold Net.mayB at h
  simp only [Bool.and_eq_true, decide_eq_true_eq, Bool.not_eq_true'] at h
  obtain ⟨⟨⟨⟨hl, hs⟩, _⟩, ha⟩, _⟩ := h
  have hs := not_any_okN hs
  have hE : ∀ s (hs : s < N.states.length), N.edges s = N.states[s].edges := fun s hs => by unfold Net.edges; rw [List.getElem?_eq_getElem hs]; rfl
  have hD : ∀ s (hs : s < N.states.length), N.ends s = N.states[s].ends := fun s hs => by unfold Net.ends; rw [List.getElem?_eq_getElem hs]; rfl
  have hE' : ∀ s, ¬ s < N.states.length → N.edges s = [] := fun s hs => by unfold Net.edges; rw [List.getElem?_eq_none (by omega)]; rfl
  have hD' : ∀ s, ¬ s < N.states.length → N.ends s = [] := fun s hs => by unfold Net.ends; rw [List.getElem?_eq_none (by omega)]; rfl
  refine ⟨hl, fun r hr => getD_ok (fun i hi => hs i (List.mem_append_left _ hi)) hr, fun r hr => getD_ok (fun i hi => hs i (List.mem_append_right _ hi)) (hl ▸ hr), fun s e he => ?_, fun s i hi => ?_, fun s => ?_⟩
  · by_cases h : s < N.states.length
    · rw [hE s h] at he
      exact fine_edge (List.all_eq_true.1 ha _ (List.getElem_mem h)) he
    · rw [hE' s h] at he; cases he
  · by_cases h : s < N.states.length
    · rw [hD s h] at hi
      exact (fine_ends (List.all_eq_true.1 ha _ (List.getElem_mem h))).1 i hi
    · rw [hD' s h] at hi; cases hi
  · by_cases h : s < N.states.length
    · rw [hD s h, hE s h]
      exact (fine_ends (List.all_eq_true.1 ha _ (List.getElem_mem h))).2
    · exact .inl (hD' s h)
structure Net.Small (N : Net) : Prop where
  states : N.states.length ≤ 60
  starts : N.starts.length ≤ 12
  stops : N.stops.length ≤ 4000
  preds : N.preds.length ≤ 4000
  decisions : N.decisions.length ≤ 4000
  edges : ∀ s ∈ N.states, s.edges.length ≤ 4000
  ends : ∀ s ∈ N.states, s.ends.length ≤ 4000
set_option maxHeartbeats 1000000 in
set_option maxRecDepth 20000 in
theorem pmay_ok (N : Net) (hN : N.Small) (w l : List Int) (hw : w.length ≤ 7) (hl : ∀ i ∈ l, okN N.states.length i = true) (W : World) (n0 n1 n2 n3 n4 wv : Value) (hB : NetAt W W.heap.size n0 n1 n2 n3 n4 N) (hWV : IntsV W W.heap.size wv w)
    (rb rc : Nat) (hrb : rb < W.heap.size) (hln : l.length ≤ 1000) (hcell : ∀ k (h : k < l.length), W.cell? ⟨rb, k, none⟩ = some (.int .i64 l[k])) :
    Calls Try.prog 23 #[.agg #[n0, n1, n2, n3, n4], wv, .slice (some ⟨rb, 0, none⟩) l.length rc] W fun e W' => e = .returned (.bool N.mayB) ∧ Grew W W' := by
  obtain ⟨na, nc, rfl, hN0⟩ := hB.states
  obtain ⟨ta, tc, rfl, hT⟩ := hB.starts
  obtain ⟨ua, uc, rfl, hU⟩ := hB.stops
  obtain ⟨pa, pc, rfl, hP⟩ := hB.preds
  obtain ⟨da, dc, rfl, hD⟩ := hB.decisions
  obtain ⟨wa, wc, rfl, hWA⟩ := hWV
  obtain ⟨w1, hw1⟩ : ∃ w1, W.alloc (.cells #[.slice na N.states.length nc, .slice ta N.starts.length tc, .slice ua N.stops.length uc, .slice pa N.preds.length pc, .slice da N.decisions.length dc] 25) = w1 := ⟨_, rfl⟩
  have g1 : Grew W w1 := hw1 ▸ grew_alloc W _
  have o1 : Owns w1 W.heap.size [.slice na N.states.length nc, .slice ta N.starts.length tc, .slice ua N.stops.length uc, .slice pa N.preds.length pc, .slice da N.decisions.length dc] 25 := hw1 ▸ Owns.alloc W _ _
  have b0 := o1.cell_at (i := 0) rfl
  have b1 := o1.cell_at (i := 1) rfl
  have b2 := o1.cell_at (i := 2) rfl
  have b3 := o1.cell_at (i := 3) rfl
  have b4 := o1.cell_at (i := 4) rfl
  have HC := Lib.hid (AMay_ok N w1 _ _ _ _ _ ((hB.keep g1).mono g1.size) (by have := hN.states; omega) (by have := hN.starts; have := hN.stops; omega) (by have := hN.preds; omega) (by have := hN.decisions; omega) (fun s hs => by have := hN.edges s hs; omega) (fun s hs => by have := hN.ends s hs; omega))
  have hcl : ∀ k (h : k < l.length), w1.cell? ⟨rb, k, none⟩ = some (.int .i64 l[k]) := fun k h => by rw [g1.cells _ _ hrb]; exact hcell k h
  have HCL := Lib.hid hcl
  have HG := Lib.hid g1
  have HL := Lib.hid hl
  clear hB o1 g1 hcl hcell hN0 hT hU hP hD hWA hN hl
  go_enter Try.func23, Try.ntmps23
  go_wp2_with fail
  go_loopw [11] (fun i wr => ∃ (j : Nat), i = .int .i64 j ∧ j ≤ l.length ∧ wr = w1) (fun i _ => l.length - (intOf i).toNat)
  case atStart => exact ⟨0, rfl, by omega, rfl⟩
  case round =>
    obtain ⟨j, rfl, hj, rfl⟩ := hrel
    by_cases hlt : j < l.length
    · have hc := HCL.out j hlt
      have hk := okN_iff.1 (HL.out _ (List.getElem_mem hlt))
      have q0 : decide (l[j] < 0) = false := decide_eq_false (by omega)
      have q1 : decide ((N.states.length : Int) ≤ l[j]) = false := decide_eq_false (by omega)
      clear hk
      go_wp2_with fail
      exact ⟨⟨j + 1, by go_num, by omega, trivial⟩, by simp [intOf]; omega⟩
    · have hx : decide ((w.length : Int) ≤ 16384) = true := decide_eq_true (by omega)
      go_wp2_with (refine HC.out.mono ?_; rintro e w2 ⟨rfl, hb2⟩)
      go_ret
      exact ⟨rfl, HG.out.trans hb2⟩
end Go.Proofs.Ytgdcnndmdgcjlaa

/- great of a net and tokens. -/
namespace Go.Proofs.Ytgdcnndmdgcjlaa
open Go.RowKit
theorem drewN_below (W : World) (n : Nat) : Below W.heap.size W (W.drewN n) := by
  induction n with
  | zero => exact Below.refl _ _
  | succ n ih => exact ih.trans ⟨rfl, rfl, rfl, Nat.le_refl _, fun _ _ => rfl⟩
set_option maxHeartbeats 4000000 in
set_option maxRecDepth 20000 in
structure Net.Reach (N : Net) : Prop where
  states : N.states.length ≤ reachN
  starts : N.starts.length ≤ reachN
  stops : N.stops.length ≤ reachN
  preds : N.preds.length ≤ reachN
  decisions : N.decisions.length ≤ reachN
  edges : ∀ s ∈ N.states, s.edges.length ≤ reachN
  ends : ∀ s ∈ N.states, s.ends.length ≤ reachN
structure Net.Under (N : Net) : Prop where
  all : N.starts.length + N.stops.length + N.preds.length + N.decisions.length ≤ 4000
  edges : ∀ s ∈ N.states, s.edges.length ≤ 4000
  ends : ∀ s ∈ N.states, s.ends.length ≤ 4000
def Counted (N : Net) (j : Nat) (T : Int) : Prop := (N.starts.length : Int) + N.stops.length + N.preds.length + N.decisions.length ≤ T ∧ ∀ i (h : i < N.states.length), i < j → (N.states[i].edges.length : Int) + N.states[i].ends.length ≤ T
def BoolAt (W : World) (p : Prop) (e : Ending) (W' : World) : Prop := ∃ b, e = .returned (.bool b) ∧ (b = false → p) ∧ Grew W W'
set_option maxHeartbeats 2000000 in
set_option maxRecDepth 20000 in
theorem Great12_ok (N : Net) (hR : N.Reach) (W : World) (n0 n1 n2 n3 n4 : Value) (hB : NetAt W W.heap.size n0 n1 n2 n3 n4 N) :
    Calls Try.prog 20 #[.agg #[n0, n1, n2, n3, n4]] W (BoolAt W N.Under) := by
  obtain ⟨na, nc, rfl, hN0⟩ := hB.states
  obtain ⟨ta, tc, rfl, hT⟩ := hB.starts
  obtain ⟨ua, uc, rfl, hU⟩ := hB.stops
  obtain ⟨pa, pc, rfl, hP⟩ := hB.preds
  obtain ⟨da, dc, rfl, hD⟩ := hB.decisions
  obtain ⟨r0, r1, r2, r3, r4, r5, r6⟩ := hR
  unfold reachN at r0 r1 r2 r3 r4
  obtain ⟨w1, hw1⟩ : ∃ w1, W.alloc (.cells #[.slice na N.states.length nc, .slice ta N.starts.length tc, .slice ua N.stops.length uc, .slice pa N.preds.length pc, .slice da N.decisions.length dc] 25) = w1 := ⟨_, rfl⟩
  have g1 : Grew W w1 := hw1 ▸ grew_alloc W _
  have o1 : Owns w1 W.heap.size [.slice na N.states.length nc, .slice ta N.starts.length tc, .slice ua N.stops.length uc, .slice pa N.preds.length pc, .slice da N.decisions.length dc] 25 := hw1 ▸ Owns.alloc W _ _
  have c0 := o1.cell_at (i := 0) rfl
  have c1 := o1.cell_at (i := 1) rfl
  have c2 := o1.cell_at (i := 2) rfl
  have c3 := o1.cell_at (i := 3) rfl
  have c4 := o1.cell_at (i := 4) rfl
  have e1 : IntKind.i64.wrap ((N.starts.length : Int) + N.stops.length) = ((N.starts.length + N.stops.length : Nat) : Int) := by rw [IntKind.wrap_i64]; omega
  have e2 : IntKind.i64.wrap (((N.starts.length + N.stops.length : Nat) : Int) + N.preds.length) = ((N.starts.length + N.stops.length + N.preds.length : Nat) : Int) := by rw [IntKind.wrap_i64]; omega
  have e3 : IntKind.i64.wrap (((N.starts.length + N.stops.length + N.preds.length : Nat) : Int) + N.decisions.length) = ((N.starts.length + N.stops.length + N.preds.length + N.decisions.length : Nat) : Int) := by rw [IntKind.wrap_i64]; omega
  have HR := Lib.hid (And.intro r5 r6)
  have HG := Lib.hid g1
  have HO := Lib.hid o1
  have HN0 := Lib.hid hN0
  clear r5 r6 g1 o1 hB hT hU hP hD hN0
  go_enter Try.func20, Try.ntmps20
  go_wp2_with fail
  go_loopw [3, 4] (fun s i wr => ∃ (j : Nat) (T : Int), i = .int .i64 j ∧ s = .int .i64 T ∧ j ≤ N.states.length ∧ 0 ≤ T ∧ T ≤ 1125899906842624 ∧ Hid (Counted N j T) ∧ Hid (Grew w1 wr)) (fun _ i _ => N.states.length - (intOf i).toNat)
  case atStart =>
    refine ⟨0, _, rfl, rfl, by omega, by omega, by omega, ⟨by omega, fun i _ h => absurd h (by omega)⟩, Grew.refl _⟩
  case round =>
    obtain ⟨j, T, rfl, rfl, hj, hT0, hT1, hc, hgr⟩ := hrel
    have o2 := HO.out.keep hgr.out
    have c0 := o2.cell_at (i := 0) rfl
    have HG2 := Lib.hid (HG.out.trans hgr.out)
    clear o2
    by_cases hlt : j < N.states.length
    · by_cases hT9 : T < 9000
      · obtain ⟨b, off, rfl, hb, hS⟩ := HN0.out j hlt
        obtain ⟨hr0, ⟨ea, ec, he, hEd⟩, za, zc, hz, hZ⟩ := hS
        have d1 : wr.cell? ⟨b, off + j * 3 + 1, none⟩ = some (.slice ea N.states[j].edges.length ec) := by rw [HG2.out.cells _ _ hb]; exact he
        have d2 : wr.cell? ⟨b, off + j * 3 + 2, none⟩ = some (.slice za N.states[j].ends.length zc) := by rw [HG2.out.cells _ _ hb]; exact hz
        have l1 := HR.out.1 _ (List.getElem_mem hlt)
        have l2 := HR.out.2 _ (List.getElem_mem hlt)
        have hnx : Hid (∀ T' : Int, T ≤ T' → (N.states[j].edges.length : Int) + N.states[j].ends.length ≤ T' → Counted N (j + 1) T') := Lib.hid fun T' h1 h2 => ⟨by have := hc.out.1; omega, fun i hi hij => by
          by_cases hq : i = j
          · subst hq; exact h2
          · have := hc.out.2 i hi (by omega); omega⟩
        unfold reachN at l1 l2
        clear hr0 he hz hEd hZ hb hc
        generalize N.states[j].edges.length = x at *
        generalize N.states[j].ends.length = y at *
        have a1 : IntKind.i64.wrap (T + 1) = T + 1 := by rw [IntKind.wrap_i64]; omega
        have a2 : IntKind.i64.wrap (T + 1 + x) = T + 1 + x := by rw [IntKind.wrap_i64]; omega
        have a3 : IntKind.i64.wrap (T + 1 + x + y) = T + 1 + x + y := by rw [IntKind.wrap_i64]; omega
        go_wp2_with fail
        go_quiet (fail)
        go_wp2_with fail
        have hb3 := drewN_below wr nq
        exact ⟨⟨j + 1, T + 1 + x + y, by go_num, rfl, by omega, by omega, by omega, hnx.out _ (by omega) (by omega), hgr.out.trans hb3⟩, by simp [intOf]; omega⟩
      · have q : decide (T < 9000) = false := decide_eq_false hT9
        go_wp2_with fail
        go_ret
        exact ⟨_, rfl, fun h => absurd (of_decide_eq_false h) (by omega), HG2.out⟩
    · have hje : j = N.states.length := by omega
      go_wp2_with fail
      go_ret
      refine ⟨_, rfl, fun h => ?_, HG2.out⟩
      have hT4 : T ≤ 4000 := by have := of_decide_eq_false h; omega
      have hcc := hc.out
      refine ⟨by have := hcc.1; omega, fun s hs => ?_, fun s hs => ?_⟩
      · obtain ⟨i, hi, rfl⟩ := List.mem_iff_getElem.1 hs
        have := hcc.2 i hi (by omega)
        omega
      · obtain ⟨i, hi, rfl⟩ := List.mem_iff_getElem.1 hs
        have := hcc.2 i hi (by omega)
        omega
set_option maxHeartbeats 2000000 in
set_option maxRecDepth 20000 in
theorem great13_ok (N : Net) (hR : N.Reach) (w : List Int) (_hwl : w.length ≤ reachN) (W : World) (n0 n1 n2 n3 n4 wv : Value) (hB : NetAt W W.heap.size n0 n1 n2 n3 n4 N) (hWV : IntsV W W.heap.size wv w) :
    Calls Try.prog 6 #[.agg #[n0, n1, n2, n3, n4], wv] W (BoolAt W (N.Small ∧ w.length ≤ 7)) := by
  obtain ⟨na, nc, rfl, hN0⟩ := hB.states
  obtain ⟨ta, tc, rfl, hT⟩ := hB.starts
  obtain ⟨ua, uc, rfl, hU⟩ := hB.stops
  obtain ⟨pa, pc, rfl, hP⟩ := hB.preds
  obtain ⟨da, dc, rfl, hD⟩ := hB.decisions
  obtain ⟨wa, wc, rfl, hWA⟩ := hWV
  obtain ⟨w1, hw1⟩ : ∃ w1, W.alloc (.cells #[.slice na N.states.length nc, .slice ta N.starts.length tc, .slice ua N.stops.length uc, .slice pa N.preds.length pc, .slice da N.decisions.length dc] 25) = w1 := ⟨_, rfl⟩
  have g1 : Grew W w1 := hw1 ▸ grew_alloc W _
  have o1 : Owns w1 W.heap.size [.slice na N.states.length nc, .slice ta N.starts.length tc, .slice ua N.stops.length uc, .slice pa N.preds.length pc, .slice da N.decisions.length dc] 25 := hw1 ▸ Owns.alloc W _ _
  have c0 := o1.cell_at (i := 0) rfl
  have c1 := o1.cell_at (i := 1) rfl
  have c2 := o1.cell_at (i := 2) rfl
  have c3 := o1.cell_at (i := 3) rfl
  have c4 := o1.cell_at (i := 4) rfl
  have HC := Lib.hid (Great12_ok N hR w1 _ _ _ _ _ ((hB.keep g1).mono g1.size))
  have HG := Lib.hid g1
  have HO := Lib.hid o1
  clear g1 o1 hB hN0 hT hU hP hD hWA hR
  go_enter Try.func6, Try.ntmps6
  go_wp2_with fail
  refine HC.out.mono ?_
  rintro e w2 ⟨b, rfl, hu, hb2⟩
  have o2 := HO.out.keep hb2
  have c0 := o2.cell_at (i := 0) rfl
  have c1 := o2.cell_at (i := 1) rfl
  have HG2 := Lib.hid (HG.out.trans hb2)
  have HU := Lib.hid hu
  clear hb2 o2 hu
  cases b
  · go_wp2_with fail
    all_goals (go_ret; refine ⟨_, rfl, fun h => ?_, HG2.out⟩)
    all_goals (first | (exact absurd h (by decide)) | skip)
    have u := HU.out (by trivial)
    have ua := u.all
    have h' : (decide ((60 : Int) < N.states.length) || decide ((12 : Int) < N.starts.length) || decide ((7 : Int) < w.length)) = false := h
    rw [Bool.or_eq_false_iff, Bool.or_eq_false_iff, decide_eq_false_iff_not, decide_eq_false_iff_not, decide_eq_false_iff_not] at h'
    exact ⟨⟨by omega, by omega, by omega, by omega, by omega, u.edges, u.ends⟩, by omega⟩
  · go_wp2_with fail
    go_ret
    exact ⟨true, rfl, fun h => (by cases h), HG2.out⟩
end Go.Proofs.Ytgdcnndmdgcjlaa

/- A grammar that is handed in reads as one: what the row's hypothesis says of the argument gives 'GrAt'. -/
namespace Go.Proofs.Ytgdcnndmdgcjlaa
open Go.RowKit Go.ChangeShapes Go.WideShapes
section
variable {H : Type} {enc : TypeId × Value → H} {P : Program} {w : World} {base : Nat} {spare : Nat → Bool} {held : Bool}
theorem list2 {α : Type} : ∀ {cs : List α}, cs.length = 2 → ∃ a b, cs = [a, b]
  | [a, b], _ => ⟨a, b, rfl⟩
theorem list4 {α : Type} : ∀ {cs : List α}, cs.length = 4 → ∃ a b c d, cs = [a, b, c, d]
  | [a, b, c, d], _ => ⟨a, b, c, d, rfl⟩
theorem list5 {α : Type} : ∀ {cs : List α}, cs.length = 5 → ∃ a b c d e, cs = [a, b, c, d, e]
  | [a, b, c, d, e], _ => ⟨a, b, c, d, e, rfl⟩
theorem list10 {α : Type} {cs : List α} (h : cs.length = 10) : ∃ a b c d e f g i j k, cs = [a, b, c, d, e, f, g, i, j, k] := by
  obtain ⟨a, b, c, d, e, h1⟩ := list5 (cs := cs.take 5) (by simp [h])
  obtain ⟨f, g, i, j, k, h2⟩ := list5 (cs := cs.drop 5) (by simp [h])
  refine ⟨a, b, c, d, e, f, g, i, j, k, ?_⟩
  rw [← List.take_append_drop 5 cs, h1, h2]
  rfl
def Light (P : Program) (t : TypeId) (d : DataW H) : Prop := ∀ n ∈ d.weights P t, n ≤ reachBytes
theorem light_each : ∀ (ts : List TypeId) (ds : List (DataW H)) (_ : ∀ n ∈ DataW.weightsEach P ts ds, n ≤ reachBytes) (i : Nat) (t : TypeId) (d : DataW H), ts[i]? = some t → ds[i]? = some d → Light P t d
  | [], _, _, _, _, _, h, _ => by simp at h
  | _ :: _, [], _, _, _, _, _, h => by simp at h
  | t :: ts, d :: ds, hw, 0, t', d', h, h' => by
    simp only [List.getElem?_cons_zero, Option.some.injEq] at h h'
    subst h; subst h'
    intro n hn
    exact hw n (by rw [DataW.weightsEach]; exact List.mem_append_left _ hn)
  | t :: ts, d :: ds, hw, i + 1, t', d', h, h' => by
    rw [List.getElem?_cons_succ] at h h'
    exact light_each ts ds (fun n hn => hw n (by rw [DataW.weightsEach]; exact List.mem_append_right _ hn)) i t' d' h h'
theorem light_all {e : TypeId} : ∀ (ds : List (DataW H)) (_ : ∀ n ∈ DataW.weightsAll P e ds, n ≤ reachBytes) (i : Nat) (d : DataW H), ds[i]? = some d → Light P e d
  | [], _, _, _, h => by simp at h
  | d :: ds, hw, 0, d', h => by
    simp only [List.getElem?_cons_zero, Option.some.injEq] at h
    subst h
    intro n hn
    exact hw n (by rw [DataW.weightsAll]; exact List.mem_append_left _ hn)
  | d :: ds, hw, i + 1, d', h => by
    rw [List.getElem?_cons_succ] at h
    exact light_all ds (fun n hn => hw n (by rw [DataW.weightsAll]; exact List.mem_append_right _ hn)) i d' h
theorem trod_fields {t : TypeId} {fs : Array Field} {fuel : Nat} {cs : List Value} {x : DataW H × List MemPlace} (ht : P.underlying t = some (.struct fs)) (h : DataW.trod enc P w base spare held fuel t cs = some x) (hw : Light P t x.1) :
    ∃ n, fuel = n + 1 ∧ cs.length = P.cellsOf t ∧ ∀ (i : Nat) (ty off c : Nat), (fs[i]?).map (fun f => (f.type, f.offset)) = some (ty, off) → P.cellsOf ty = c → ∃ y, DataW.trod enc P w base spare held n ty ((cs.drop off).take c) = some y ∧ Light P ty y.1 := by
  obtain ⟨xs, n, rfl, rfl, hl, hn, hf⟩ := DataW.trod_struct ht h
  refine ⟨n, rfl, hl, fun i ty off c hi hc => ?_⟩
  rw [Option.map_eq_some_iff] at hi
  obtain ⟨f, hi, he⟩ := hi
  simp only [Prod.mk.injEq] at he
  obtain ⟨rfl, rfl⟩ := he
  subst hc
  have h1 := hf i f hi
  have hlt : i < xs.length := by
    rw [hn]
    by_cases hc : i < fs.size
    · exact hc
    · rw [Array.getElem?_eq_none (by omega)] at hi; cases hi
  rw [List.getElem?_eq_getElem hlt] at h1
  refine ⟨xs[i], h1, ?_⟩
  have hw2 : ∀ n ∈ DataW.weightsEach P (fs.toList.map (·.type)) (xs.map (·.1)), n ≤ reachBytes := by
    intro n hn
    refine hw n ?_
    rw [DataW.weights, ht]
    exact hn
  exact light_each _ _ hw2 i f.type xs[i].1 (by rw [List.getElem?_map]; rw [Array.getElem?_toList, hi]; rfl) (by rw [List.getElem?_map, List.getElem?_eq_getElem hlt]; rfl)
theorem trod_elems {t e : TypeId} {fuel : Nat} {cs : List Value} {x : DataW H × List MemPlace} (ht : P.underlying t = some (.slice e)) (hpos : 1 ≤ P.bytesOf e) (hc : 1 ≤ P.cellsOf e) (h : DataW.trod enc P w base spare held fuel t cs = some x) (hw : Light P t x.1) :
    ∃ (a : Option Addr) (len cap n : Nat), fuel = n + 1 ∧ cs = [.slice a len cap] ∧ len ≤ reachN ∧ ∀ i, i < len → ∃ (b off : Nat) (cs' : List Value) (y : DataW H × List MemPlace), a = some ⟨b, off, none⟩ ∧ b < w.heap.size ∧
      cs'.length = P.cellsOf e ∧ (∀ j, j < P.cellsOf e → w.cell? ⟨b, off + i * P.cellsOf e + j, none⟩ = cs'[j]?) ∧ DataW.trod enc P w base spare held n e cs' = some y ∧ Light P e y.1 := by
  have hfu : ∃ n, fuel = n + 1 := by
    cases fuel with
    | zero => simp [DataW.trod] at h
    | succ n => exact ⟨n, rfl⟩
  rcases DataW.trod_slice ht h with ⟨rfl, rfl⟩ | ⟨a, len, cap, elems, rest, n, rfl, rfl, rfl, hb, hl, hm, hlen, hel, hsp, hns⟩
  · obtain ⟨n, rfl⟩ := hfu
    exact ⟨none, 0, 0, n, rfl, rfl, by simp [reachN], fun i hi => absurd hi (by omega)⟩
  have hw2 : ∀ n ∈ (DataW.slice (elems.map (·.1)) (rest.map (·.1))).weights P t, n ≤ reachBytes := hw
  rw [DataW.weights, ht] at hw2
  have h0 := hw2 _ (List.mem_cons_self ..)
  simp only [List.length_map] at h0
  have h0' : elems.length + rest.length ≤ reachBytes := Nat.le_trans (Nat.le_mul_of_pos_right _ hpos) h0
  refine ⟨some a, len, cap, n, rfl, rfl, ?_, fun i hi => ?_⟩
  · have : reachBytes ≤ reachN := by decide
    omega
  have key : ∀ i, i < len → ∃ (cs' : List Value) (y : DataW H × List MemPlace), cs'.length = P.cellsOf e ∧ (∀ j, j < P.cellsOf e → w.cell? ((a.add (i * P.cellsOf e)).add j) = cs'[j]?) ∧ DataW.trod enc P w base spare held n e cs' = some y ∧ Light P e y.1 := by
    intro i hi
    have h1 := hel i hi
    rw [List.getElem?_eq_getElem (by omega), Option.bind_eq_some_iff] at h1
    obtain ⟨cs', h2, h3⟩ := h1
    obtain ⟨_, hcl, hcell⟩ := World.cells?_some h2
    refine ⟨cs', elems[i], hcl, hcell, h3, ?_⟩
    exact light_all (elems.map (·.1)) (fun n hn => hw2 n (List.mem_cons_of_mem _ (List.mem_append_left _ hn))) i _ (by rw [List.getElem?_map, List.getElem?_eq_getElem (by omega)]; rfl)
  obtain ⟨b, off, spot⟩ := a
  obtain ⟨c0, y0, l0, hj0, -, -⟩ := key 0 (by omega)
  have h4 := hj0 0 hc
  rw [List.getElem?_eq_getElem (by omega)] at h4
  simp only [Addr.add, Nat.zero_mul, if_true, World.cell?] at h4
  have hb2 : b < w.heap.size ∧ spot = none := by
    split at h4
    · rename_i hcs
      split at h4
      · cases h4
      · rename_i hs
        refine ⟨?_, by simpa using hs⟩
        by_cases hlt : b < w.heap.size
        · exact hlt
        · rw [Array.getElem?_eq_none (by omega)] at hcs; cases hcs
    · cases h4
  obtain ⟨hbl, rfl⟩ := hb2
  obtain ⟨cs', y, k1, k2, k3, k4⟩ := key i hi
  refine ⟨b, off, cs', y, rfl, hbl, k1, fun j hj => ?_, k3, k4⟩
  have := k2 j hj
  rw [add_plain, add_plain] at this
  exact this
theorem row_of {α : Type} {Q : Nat → α → Prop} : ∀ (len i : Nat), (∀ k, k < len → ∃ x, Q (i + k) x) → ∃ l : List α, l.length = len ∧ ∀ k (hk : k < l.length), Q (i + k) l[k]
  | 0, _, _ => ⟨[], rfl, fun k hk => absurd hk (by simp)⟩
  | len + 1, i, h => by
    obtain ⟨x, hx⟩ := h 0 (by omega)
    obtain ⟨l, hl, hq⟩ := row_of len (i + 1) (fun k hk => by
      obtain ⟨y, hy⟩ := h (k + 1) (by omega)
      exact ⟨y, by rw [show i + 1 + k = i + (k + 1) by omega]; exact hy⟩)
    refine ⟨x :: l, by simp [hl], fun k hk => ?_⟩
    cases k with
    | zero => exact hx
    | succ k =>
      rw [show i + (k + 1) = i + 1 + k by omega]
      exact hq k (by simpa using hk)
theorem NodesAt.of {W : World} {lim : Nat} {a : Option Addr} : ∀ (l : List Nd) (i : Nat), (∀ k (hk : k < l.length), ∃ b off, a = some ⟨b, off, none⟩ ∧ b < lim ∧ NodeAt W lim (W.cell? ⟨b, off + (i + k) * 5, none⟩) (W.cell? ⟨b, off + (i + k) * 5 + 1, none⟩) (W.cell? ⟨b, off + (i + k) * 5 + 2, none⟩) (W.cell? ⟨b, off + (i + k) * 5 + 3, none⟩) (W.cell? ⟨b, off + (i + k) * 5 + 4, none⟩) l[k]) → NodesAt W lim a i l
  | [], _, _ => by rw [NodesAt]; trivial
  | n :: r, i, h => by
    rw [NodesAt]
    refine ⟨h 0 (by simp), NodesAt.of r (i + 1) fun k hk => ?_⟩
    have := h (k + 1) (by simpa using hk)
    rw [show i + (k + 1) = i + 1 + k by omega] at this
    exact this
theorem RangesAt.of {W : World} {lim : Nat} {a : Option Addr} : ∀ (l : List (Int × Int)) (i : Nat), (∀ k (hk : k < l.length), ∃ b off, a = some ⟨b, off, none⟩ ∧ b < lim ∧ W.cell? ⟨b, off + (i + k) * 2, none⟩ = some (.int .i32 l[k].1) ∧ W.cell? ⟨b, off + (i + k) * 2 + 1, none⟩ = some (.int .i32 l[k].2)) → RangesAt W lim a i l
  | [], _, _ => by rw [RangesAt]; trivial
  | n :: r, i, h => by
    rw [RangesAt]
    refine ⟨h 0 (by simp), RangesAt.of r (i + 1) fun k hk => ?_⟩
    have := h (k + 1) (by simpa using hk)
    rw [show i + (k + 1) = i + 1 + k by omega] at this
    exact this
theorem RulesAt.of {W : World} {lim : Nat} {a : Option Addr} : ∀ (l : List Rl) (i : Nat), (∀ k (hk : k < l.length), ∃ b off, a = some ⟨b, off, none⟩ ∧ b < lim ∧ RuleAt W lim (W.cell? ⟨b, off + (i + k) * 10, none⟩) (W.cell? ⟨b, off + (i + k) * 10 + 1, none⟩) (W.cell? ⟨b, off + (i + k) * 10 + 2, none⟩) (W.cell? ⟨b, off + (i + k) * 10 + 3, none⟩) (W.cell? ⟨b, off + (i + k) * 10 + 4, none⟩)
      (W.cell? ⟨b, off + (i + k) * 10 + 5, none⟩) (W.cell? ⟨b, off + (i + k) * 10 + 6, none⟩) (W.cell? ⟨b, off + (i + k) * 10 + 7, none⟩) (W.cell? ⟨b, off + (i + k) * 10 + 8, none⟩) (W.cell? ⟨b, off + (i + k) * 10 + 9, none⟩) l[k]) → RulesAt W lim a i l
  | [], _, _ => by rw [RulesAt]; trivial
  | n :: r, i, h => by
    rw [RulesAt]
    refine ⟨h 0 (by simp), RulesAt.of r (i + 1) fun k hk => ?_⟩
    have := h (k + 1) (by simpa using hk)
    rw [show i + (k + 1) = i + 1 + k by omega] at this
    exact this
theorem light_string {t : TypeId} {cs : List Value} {x : DataW H × List MemPlace} {fuel : Nat} (ht : P.underlying t = some .string) (h : DataW.trod enc P w base spare held fuel t cs = some x) (hw : Light P t x.1) : ∃ s, cs = [.string s] ∧ s.size ≤ reachN := by
  obtain ⟨s, h1, h2, h3⟩ := DataW.trod_string ht h
  refine ⟨s, h1, ?_⟩
  subst h2
  have := hw s.data.toList.length (by rw [DataW.weights]; exact List.mem_singleton.2 rfl)
  have e : reachBytes ≤ reachN := by decide
  have e2 : s.data.toList.length = s.size := Array.length_toList
  omega
end
section
variable {H : Type} {enc : TypeId × Value → H} {w : World} {base : Nat} {spare : Nat → Bool} {held : Bool}
theorem light_int {t : TypeId} {k : IntKind} {P : Program} {cs : List Value} {x : DataW H × List MemPlace} {fuel : Nat} (ht : P.underlying t = some (.int k)) (h : DataW.trod enc P w base spare held fuel t cs = some x) : ∃ n, cs = [.int k n] ∧ k.min ≤ n ∧ n ≤ k.max := by
  obtain ⟨n, h1, -, h3⟩ := DataW.trod_int ht h
  refine ⟨n, h1, ?_⟩
  simpa [Lit.wf] using h3
theorem cells1 : Try.prog.cellsOf 21 = 1 ∧ Try.prog.cellsOf 9 = 1 ∧ Try.prog.cellsOf 100 = 1 ∧ Try.prog.cellsOf 99 = 1 ∧ Try.prog.cellsOf 3 = 1 ∧ Try.prog.cellsOf 101 = 1 ∧ Try.prog.cellsOf 102 = 1 ∧ Try.prog.cellsOf 55 = 1 := ⟨by kernel_rfl, by kernel_rfl, by kernel_rfl, by kernel_rfl, by kernel_rfl, by kernel_rfl, by kernel_rfl, by kernel_rfl⟩
theorem cellsN : Try.prog.cellsOf 204 = 2 ∧ Try.prog.cellsOf 104 = 5 ∧ Try.prog.cellsOf 108 = 10 ∧ Try.prog.cellsOf 57 = 4 ∧ Try.prog.cellsOf 106 = 3 ∧ Try.prog.cellsOf 54 = 2 := ⟨by kernel_rfl, by kernel_rfl, by kernel_rfl, by kernel_rfl, by kernel_rfl, by kernel_rfl⟩
theorem bytesN : Try.prog.bytesOf 204 = 8 ∧ Try.prog.bytesOf 104 = 88 ∧ Try.prog.bytesOf 108 = 136 := ⟨by kernel_rfl, by kernel_rfl, by kernel_rfl⟩
theorem range_open {fuel : Nat} {cs : List Value} {x : DataW H × List MemPlace} (h : DataW.trod enc Try.prog w base spare held fuel 204 cs = some x) (hw : Light Try.prog 204 x.1) : ∃ p : Int × Int, cs = [.int .i32 p.1, .int .i32 p.2] := by
  obtain ⟨n, -, hl, hf⟩ := trod_fields Try.underlying204 h hw
  rw [cellsN.1] at hl
  obtain ⟨a, b, rfl⟩ := list2 hl
  obtain ⟨y, h1, -⟩ := hf 0 21 0 1 rfl cells1.1
  obtain ⟨z, h2, -⟩ := hf 1 21 1 1 rfl cells1.1
  obtain ⟨p, e1, -⟩ := light_int Try.underlying21 h1
  obtain ⟨q, e2, -⟩ := light_int Try.underlying21 h2
  simp at e1 e2
  exact ⟨(p, q), by simp [e1, e2]⟩
theorem ranges_open {fuel : Nat} {cs : List Value} {x : DataW H × List MemPlace} (h : DataW.trod enc Try.prog w base spare held fuel 101 cs = some x) (hw : Light Try.prog 101 x.1) :
    ∃ a cap, ∃ set : List (Int × Int), cs = [.slice a set.length cap] ∧ set.length ≤ reachN ∧ RangesAt w w.heap.size a 0 set := by
  obtain ⟨a, len, cap, n, -, rfl, hlen, hel⟩ := trod_elems Try.underlying101 (by rw [bytesN.1]; decide) (by rw [cellsN.1]; decide) h hw
  obtain ⟨l, hl, hq⟩ := row_of (Q := fun i (p : Int × Int) => ∃ b off, a = some ⟨b, off, none⟩ ∧ b < w.heap.size ∧ w.cell? ⟨b, off + i * 2, none⟩ = some (.int .i32 p.1) ∧ w.cell? ⟨b, off + i * 2 + 1, none⟩ = some (.int .i32 p.2)) len 0 (fun k hk => by
    obtain ⟨b, off, cs', y, e1, e2, e3, e4, e5, e6⟩ := hel k hk
    obtain ⟨p, rfl⟩ := range_open e5 e6
    rw [cellsN.1] at e4
    rw [Nat.zero_add]
    exact ⟨p, b, off, e1, e2, e4 0 (by decide), e4 1 (by decide)⟩)
  subst hl
  exact ⟨a, cap, l, rfl, hlen, RangesAt.of l 0 hq⟩
theorem node_open : ∀ (fuel : Nat) {cs : List Value} {x : DataW H × List MemPlace}, DataW.trod enc Try.prog w base spare held fuel 104 cs = some x → Light Try.prog 104 x.1 →
    ∃ v0 v1 v2 v3 v4 n, cs = [v0, v1, v2, v3, v4] ∧ NodeAt w w.heap.size (some v0) (some v1) (some v2) (some v3) (some v4) n := by
  intro fuel
  induction fuel using Nat.strongRecOn with
  | _ fuel ih =>
  intro cs x h hw
  obtain ⟨n, rfl, hl, hf⟩ := trod_fields Try.underlying104 h hw
  rw [cellsN.2.1] at hl
  obtain ⟨v0, v1, v2, v3, v4, rfl⟩ := list5 hl
  obtain ⟨y0, h0, -⟩ := hf 0 100 0 1 rfl cells1.2.2.1
  obtain ⟨y1, h1, w1⟩ := hf 1 9 1 1 rfl cells1.2.1
  obtain ⟨y2, h2, w2⟩ := hf 2 9 2 1 rfl cells1.2.1
  obtain ⟨y3, h3, w3⟩ := hf 3 101 3 1 rfl cells1.2.2.2.2.2.1
  obtain ⟨y4, h4, w4⟩ := hf 4 102 4 1 rfl cells1.2.2.2.2.2.2.1
  obtain ⟨k, e0, k0, k1⟩ := light_int Try.underlying100 h0
  obtain ⟨nm, e1, l1⟩ := light_string Try.underlying9 h1 w1
  obtain ⟨tx, e2, l2⟩ := light_string Try.underlying9 h2 w2
  obtain ⟨a3, cap3, set, e3, l3, r3⟩ := ranges_open h3 w3
  obtain ⟨a4, len4, cap4, m, rfl, e4, l4, hel⟩ := trod_elems Try.underlying102 (by rw [bytesN.2.1]; decide) (by rw [cellsN.2.1]; decide) h4 w4
  simp at e0 e1 e2 e3 e4
  subst e0 e1 e2 e3 e4
  obtain ⟨l, hl, hq⟩ := row_of (Q := fun i (p : Nd) => ∃ b off, a4 = some ⟨b, off, none⟩ ∧ b < w.heap.size ∧ NodeAt w w.heap.size (w.cell? ⟨b, off + i * 5, none⟩) (w.cell? ⟨b, off + i * 5 + 1, none⟩) (w.cell? ⟨b, off + i * 5 + 2, none⟩) (w.cell? ⟨b, off + i * 5 + 3, none⟩) (w.cell? ⟨b, off + i * 5 + 4, none⟩) p) len4 0 (fun k hk => by
    obtain ⟨b, off, cs', y, f1, f2, f3, f4, f5, f6⟩ := hel k hk
    obtain ⟨u0, u1, u2, u3, u4, nd, rfl, hn⟩ := ih m (by omega) f5 f6
    rw [cellsN.2.1] at f4
    rw [Nat.zero_add]
    refine ⟨nd, b, off, f1, f2, ?_⟩
    have g0 := f4 0 (by decide)
    have g1 := f4 1 (by decide)
    have g2 := f4 2 (by decide)
    have g3 := f4 3 (by decide)
    have g4 := f4 4 (by decide)
    rw [Nat.add_zero] at g0
    rw [g0, g1, g2, g3, g4]
    exact hn)
  subst hl
  refine ⟨_, _, _, _, _, .mk k nm tx set l, rfl, ?_⟩
  rw [NodeAt]
  exact ⟨⟨k0, k1⟩, l1, l2, rfl, rfl, rfl, ⟨a3, cap3, rfl, l3, r3⟩, ⟨a4, cap4, rfl, l4, NodesAt.of l 0 hq⟩⟩
theorem rule_open {fuel : Nat} {cs : List Value} {x : DataW H × List MemPlace} (h : DataW.trod enc Try.prog w base spare held fuel 108 cs = some x) (hw : Light Try.prog 108 x.1) :
    ∃ v0 v1 v2 v3 v4 v5 v6 v7 v8 v9 r, cs = [v0, v1, v2, v3, v4, v5, v6, v7, v8, v9] ∧ RuleAt w w.heap.size (some v0) (some v1) (some v2) (some v3) (some v4) (some v5) (some v6) (some v7) (some v8) (some v9) r := by
  obtain ⟨n, rfl, hl, hf⟩ := trod_fields Try.underlying108 h hw
  rw [cellsN.2.2.1] at hl
  obtain ⟨v0, v1, v2, v3, v4, v5, v6, v7, v8, v9, rfl⟩ := list10 hl
  obtain ⟨y0, h0, w0⟩ := hf 0 9 0 1 rfl cells1.2.1
  obtain ⟨y1, h1, -⟩ := hf 1 99 1 1 rfl cells1.2.2.2.1
  obtain ⟨y2, h2, w2⟩ := hf 2 104 2 5 rfl cellsN.2.1
  obtain ⟨y3, h3, w3⟩ := hf 3 106 7 3 rfl cellsN.2.2.2.2.1
  obtain ⟨nm, e0, l0⟩ := light_string Try.underlying9 h0 w0
  obtain ⟨k, e1, k0, k1⟩ := light_int Try.underlying99 h1
  obtain ⟨u2, u3, u4, u5, u6, nd, e2, hn⟩ := node_open n h2 w2
  obtain ⟨m, -, -, hg⟩ := trod_fields Try.underlying106 h3 w3
  obtain ⟨z0, p0, -⟩ := hg 0 3 0 1 rfl cells1.2.2.2.2.1
  obtain ⟨z1, p1, -⟩ := hg 1 3 1 1 rfl cells1.2.2.2.2.1
  obtain ⟨z2, p2, -⟩ := hg 2 3 2 1 rfl cells1.2.2.2.2.1
  obtain ⟨q0, f0, a0, b0⟩ := light_int Try.underlying3 p0
  obtain ⟨q1, f1, a1, b1⟩ := light_int Try.underlying3 p1
  obtain ⟨q2, f2, a2, b2⟩ := light_int Try.underlying3 p2
  simp at e0 e1 e2 f0 f1 f2
  obtain ⟨rfl, rfl, rfl, rfl, rfl⟩ := e2
  subst e0 e1 f0 f1 f2
  refine ⟨_, _, _, _, _, _, _, _, _, _, ⟨nm, k, nd, q0, q1, q2⟩, rfl, ?_⟩
  exact ⟨rfl, l0, rfl, ⟨k0, k1⟩, hn, rfl, rfl, rfl, ⟨a0, b0⟩, ⟨a1, b1⟩, ⟨a2, b2⟩⟩
set_option maxRecDepth 20000 in
theorem gr_open {W : World} {v : Value} {d : DataW H} {ps : List MemPlace} {b0 : Nat} (hval : Value.okWide Try.prog W .any b0 57 v) (h : DataW.Trod enc Try.prog W base spare held 57 v d ps) (hw : Light Try.prog 57 d) :
    ∃ v0 v1 v2 v3 g, v = .agg #[v0, v1, v2, v3] ∧ GrAt W W.heap.size (some v0) (some v1) (some v2) (some v3) g := by
  obtain ⟨cs, rfl, hsz⟩ := okWide_struct Try.underlying57 hval
  obtain ⟨fuel, h⟩ := h
  obtain ⟨n, rfl, hl, hf⟩ := trod_fields Try.underlying57 h hw
  rw [cellsN.2.2.2.1] at hl
  obtain ⟨v0, v1, v2, v3, hcs⟩ := list4 hl
  rw [hcs] at hf
  obtain ⟨y0, h0, w0⟩ := hf 0 9 0 1 rfl cells1.2.1
  obtain ⟨y1, h1, w1⟩ := hf 1 54 1 2 rfl cellsN.2.2.2.2.2
  obtain ⟨y2, h2, w2⟩ := hf 2 55 3 1 rfl cells1.2.2.2.2.2.2.2
  obtain ⟨nm, e0, l0⟩ := light_string Try.underlying9 h0 w0
  obtain ⟨m, -, -, hg⟩ := trod_fields Try.underlying54 h1 w1
  obtain ⟨z0, p0, -⟩ := hg 0 3 0 1 rfl cells1.2.2.2.2.1
  obtain ⟨z1, p1, -⟩ := hg 1 3 1 1 rfl cells1.2.2.2.2.1
  obtain ⟨q0, f0, a0, c0⟩ := light_int Try.underlying3 p0
  obtain ⟨q1, f1, a1, c1⟩ := light_int Try.underlying3 p1
  obtain ⟨a4, len4, cap4, m, -, e4, l4, hel⟩ := trod_elems Try.underlying55 (by rw [bytesN.2.2]; decide) (by rw [cellsN.2.2.1]; decide) h2 w2
  simp at e0 e4 f0 f1
  subst e0 e4 f0 f1
  obtain ⟨l, hl, hq⟩ := row_of (Q := fun i (p : Rl) => ∃ b off, a4 = some ⟨b, off, none⟩ ∧ b < W.heap.size ∧ RuleAt W W.heap.size (W.cell? ⟨b, off + i * 10, none⟩) (W.cell? ⟨b, off + i * 10 + 1, none⟩) (W.cell? ⟨b, off + i * 10 + 2, none⟩) (W.cell? ⟨b, off + i * 10 + 3, none⟩) (W.cell? ⟨b, off + i * 10 + 4, none⟩)
      (W.cell? ⟨b, off + i * 10 + 5, none⟩) (W.cell? ⟨b, off + i * 10 + 6, none⟩) (W.cell? ⟨b, off + i * 10 + 7, none⟩) (W.cell? ⟨b, off + i * 10 + 8, none⟩) (W.cell? ⟨b, off + i * 10 + 9, none⟩) p) len4 0 (fun k hk => by
    obtain ⟨b, off, cs', y, f1, f2, f3, f4, f5, f6⟩ := hel k hk
    obtain ⟨u0, u1, u2, u3, u4, u5, u6, u7, u8, u9, r, rfl, hr⟩ := rule_open f5 f6
    rw [cellsN.2.2.1] at f4
    rw [Nat.zero_add]
    refine ⟨r, b, off, f1, f2, ?_⟩
    have g0 := f4 0 (by decide)
    rw [Nat.add_zero] at g0
    rw [g0, f4 1 (by decide), f4 2 (by decide), f4 3 (by decide), f4 4 (by decide), f4 5 (by decide), f4 6 (by decide), f4 7 (by decide), f4 8 (by decide), f4 9 (by decide)]
    exact hr)
  subst hl
  refine ⟨_, _, _, _, ⟨nm, q0, q1, l⟩, congrArg Value.agg (Array.ext' hcs), ?_⟩
  exact ⟨rfl, l0, rfl, rfl, ⟨a0, c0⟩, ⟨a1, c1⟩, a4, cap4, rfl, l4, RulesAt.of l 0 hq⟩
end
end Go.Proofs.Ytgdcnndmdgcjlaa

/- A net, an Ask and a Cut that are handed in read as such. -/
namespace Go.Proofs.Ytgdcnndmdgcjlaa
open Go.RowKit Go.ChangeShapes Go.WideShapes
def Net.Kinds (N : Net) : Prop := ∀ s ∈ N.states, ∀ e ∈ s.edges, 0 ≤ e.kind ∧ e.kind ≤ 255
section
variable {H : Type} {enc : TypeId × Value → H} {w : World} {base : Nat} {spare : Nat → Bool} {held : Bool}
theorem pcells : Try.prog.cellsOf 3 = 1 ∧ Try.prog.cellsOf 23 = 1 ∧ Try.prog.cellsOf 85 = 1 ∧ Try.prog.cellsOf 87 = 3 ∧ Try.prog.cellsOf 49 = 1 ∧ Try.prog.cellsOf 51 = 3 ∧ Try.prog.cellsOf 22 = 1 ∧ Try.prog.cellsOf 25 = 5 ∧ Try.prog.cellsOf 27 = 3 ∧ Try.prog.cellsOf 46 = 3 ∧ Try.prog.cellsOf 5 = 1 :=
  ⟨by kernel_rfl, by kernel_rfl, by kernel_rfl, by kernel_rfl, by kernel_rfl, by kernel_rfl, by kernel_rfl, by kernel_rfl, by kernel_rfl, by kernel_rfl, by kernel_rfl⟩
theorem pbytes : 1 ≤ Try.prog.bytesOf 3 ∧ 1 ≤ Try.prog.bytesOf 87 ∧ 1 ≤ Try.prog.bytesOf 51 := ⟨of_decide_eq_true (by kernel_rfl), of_decide_eq_true (by kernel_rfl), of_decide_eq_true (by kernel_rfl)⟩
theorem pints_open {fuel : Nat} {cs : List Value} {x : DataW H × List MemPlace} (h : DataW.trod enc Try.prog w base spare held fuel 23 cs = some x) (hw : Light Try.prog 23 x.1) :
    ∃ a cap, ∃ l : List Int, cs = [.slice a l.length cap] ∧ l.length ≤ reachN ∧ IntsAt w w.heap.size a l := by
  obtain ⟨a, len, cap, n, -, rfl, hlen, hel⟩ := trod_elems Try.underlying23 pbytes.1 (by rw [pcells.1]; decide) h hw
  obtain ⟨l, hl, hq⟩ := row_of (Q := fun i (p : Int) => ∃ b off, a = some ⟨b, off, none⟩ ∧ b < w.heap.size ∧ w.cell? ⟨b, off + i, none⟩ = some (.int .i64 p)) len 0 (fun k hk => by
    obtain ⟨b, off, cs', y, e1, e2, e3, e4, e5, e6⟩ := hel k hk
    obtain ⟨p, rfl, -⟩ := light_int Try.underlying3 e5
    rw [pcells.1] at e4
    rw [Nat.zero_add]
    have := e4 0 (by decide)
    rw [Nat.mul_one, Nat.add_zero] at this
    exact ⟨p, b, off, e1, e2, this⟩)
  subst hl
  refine ⟨a, cap, l, rfl, hlen, fun k hk => ?_⟩
  obtain ⟨b, off, h1, h2, h3⟩ := hq k hk
  rw [Nat.zero_add] at h3
  exact ⟨b, off, h1, h2, h3⟩
end
end Go.Proofs.Ytgdcnndmdgcjlaa

/- The rounds of reach over those who wait: what each of them keeps. -/
namespace Go.Proofs.Ytgdcnndmdgcjlaa
open Go.RowKit
structure RLoop (E : Env) (S S1 : St) (c : Nat × Nat) (i : Nat) (T : St) (seen : List Nat) : Prop where
  inv : Inv E T
  le : Le S1 T
  calls : T.calls = S.calls
  waits : ∀ d, T.waits d = S.waits d
  opn : ∀ d k x, Opn T d k x → Opn S d k x ∨ (d = c ∧ k = i ∧ x ∈ S.waits c)
  got : ∀ j (h : j < (S.waits c).length), j ∈ seen → ((S.waits c)[j].2, i) ∈ T.seen (S.waits c)[j].1
section
variable {E : Env} {S S1 T T' : St} {c : Nat × Nat} {p : Pl} {v : Value} {seen : List Nat}
theorem RLoop.start (hI : Inv E S) (hc : c ∈ S.calls) (hn : p ∉ S.seen (some c)) (hr : p.1 < E.N.states.length ∧ p.2 ≤ E.w.length) (hL : Lv E.N E.w E.p0 E.over (some c) p) (v : Value) : RLoop E S (S.see E (some c) p v) c p.2 (S.see E (some c) p v) [] := by
  obtain ⟨h1, _⟩ := hI.see (κ := some c) hc hn hr hL v
  refine ⟨h1, Le.refl _, rfl, fun _ => rfl, fun d k x ho => ?_, fun j h hj => by cases hj⟩
  rcases see_opn ho with h2 | ⟨h2, _, h3, h4⟩
  · exact .inl h2
  · simp at h2
    subst h2
    exact .inr ⟨rfl, h3, h4⟩
theorem RLoop.next (h : RLoop E S S1 c p.2 T seen) {j : Nat} (hj : j < (S.waits c).length) (hR : Reached E T T' (S.waits c)[j].1 ((S.waits c)[j].2, p.2)) : RLoop E S S1 c p.2 T' (seen ++ [j]) := by
  refine ⟨hR.inv, h.le.trans hR.le, hR.calls.trans h.calls, fun d => (hR.waits d).trans (h.waits d), fun d k x ho => h.opn d k x (hR.opn d k x ho), fun m hm hmem => ?_⟩
  rcases List.mem_append.1 hmem with h1 | h1
  · exact hR.le.seen _ _ (h.got m hm h1)
  · simp at h1
    subst h1
    exact hR.got
theorem RLoop.done (h : RLoop E S (S.see E (some c) p v) c p.2 T seen) (hle : Le S (S.see E (some c) p v)) (hall : ∀ j, j < (S.waits c).length → j ∈ seen) : Reached E S T (some c) p := by
  refine ⟨h.inv, hle.trans h.le, h.le.seen _ _ ((see_seen S E (some c) p v _ _).2 (.inr ⟨rfl, rfl⟩)), h.calls, h.waits, fun d k x ho => ?_⟩
  rcases h.opn d k x ho with h1 | ⟨rfl, rfl, h3⟩
  · exact h1
  · obtain ⟨j, hj, hx⟩ := List.mem_iff_getElem.1 h3
    have h4 := h.got j hj (hall j hj)
    rw [hx] at h4
    exact absurd h4 ho.2.2
theorem RLoop.live (h : RLoop E S S1 c p.2 T seen) (hI : Inv E S) (hL : Lv E.N E.w E.p0 E.over (some c) p) (hst : p.1 = E.N.stop c.1) {j : Nat} (hj : j < (S.waits c).length) :
    T.has (S.waits c)[j].1 ∧ (S.waits c)[j].2 < E.N.states.length ∧ Lv E.N E.w E.p0 E.over (S.waits c)[j].1 ((S.waits c)[j].2, p.2) := by
  have hm : (S.waits c)[j] ∈ S.waits c := List.getElem_mem hj
  obtain ⟨h1, h2⟩ := hI.waitsR c _ hm
  obtain ⟨s, e, h3, h4, h5, h6, h7, h8⟩ := hI.waitS c _ hm
  refine ⟨?_, h2, ?_⟩
  · exact (has_same h.calls _).2 h1
  · rw [← h8]
    refine Lv.back h3 h4 h5 h6 ?_
    rw [h7, ← hst]
    exact hL
end
theorem nodup_below {l : List Nat} {m : Nat} (h : l.Nodup) (hl : ∀ j ∈ l, j < m) : l.length ≤ m := by
  have := List.Nodup.length_le_of_subset h (show l ⊆ List.range m from fun j hj => List.mem_range.2 (hl j hj))
  rwa [List.length_range] at this
theorem seen_more {seen : List Nat} {m j k : Nat} {last : Nat} (h : seen.Nodup ∧ (∀ j ∈ seen, j < m) ∧ (seen ≠ [] → 1 ≤ last) ∧ k + seen.length = m) (hn : j ∉ seen) (hj : j < m) :
    k - 1 < k ∧ ((seen ++ [j]).Nodup ∧ (∀ i ∈ seen ++ [j], i < m) ∧ (seen ++ [j] ≠ [] → 1 ≤ m) ∧ k - 1 + (seen ++ [j]).length = m) := by
  obtain ⟨h1, h2, _, h4⟩ := h
  have h5 : (seen ++ [j]).Nodup := by
    rw [List.nodup_append]
    exact ⟨h1, by simp, fun a ha b hb => by simp at hb; subst hb; exact fun e => hn (e ▸ ha)⟩
  have h6 : ∀ i ∈ seen ++ [j], i < m := fun i hi => by
    rcases List.mem_append.1 hi with h | h
    · exact h2 i h
    · simp at h; omega
  have h7 := nodup_below h5 h6
  simp at h7
  refine ⟨by omega, h5, h6, fun _ => by omega, ?_⟩
  simp
  omega
theorem seen_more2 {seen : List Nat} {m m' M j k : Nat} {last : Nat} (h : seen.Nodup ∧ (∀ j ∈ seen, j < m) ∧ (seen ≠ [] → 1 ≤ last) ∧ k + seen.length = M) (hm : m ≤ m') (hM : m ≤ M) (hn : j ∉ seen) (hj : j < m) :
    k - 1 < k ∧ ((seen ++ [j]).Nodup ∧ (∀ i ∈ seen ++ [j], i < m') ∧ (seen ++ [j] ≠ [] → 1 ≤ m) ∧ k - 1 + (seen ++ [j]).length = M) := by
  obtain ⟨h1, h2, _, h4⟩ := h
  have h5 : (seen ++ [j]).Nodup := by
    rw [List.nodup_append]
    exact ⟨h1, by simp, fun a ha b hb => by simp at hb; subst hb; exact fun e => hn (e ▸ ha)⟩
  have h6 : ∀ i ∈ seen ++ [j], i < m := fun i hi => by
    rcases List.mem_append.1 hi with h | h
    · exact h2 i h
    · simp at h; omega
  have h7 := nodup_below h5 h6
  simp at h7
  refine ⟨by omega, h5, fun i hi => Nat.lt_of_lt_of_le (h6 i hi) hm, fun _ => by omega, ?_⟩
  simp
  omega
structure Side (T : St) (w : World) (B : Nat) (cs : List Value) (Ty : Nat) (r b since : Nat) (seen : List Nat) (last : Nat) : Prop where
  box : Owns w B cs Ty
  boxn : ¬T.mine B
  it : IterAt w r b since seen last
  itn : ¬T.mine r
section
variable {E : Env} {S S' T T' : St} {w w' : World} {B r b since last Ty : Nat} {cs : List Value} {seen : List Nat}
theorem IterAt.lt (h : IterAt w r b since seen last) : r < w.heap.size := (Array.getElem?_eq_some_iff.1 h).1
theorem Side.frm (h : Side T w B cs Ty r b since seen last) (hf : Frm T T' w w') : Side T' w' B cs Ty r b since seen last := by
  obtain ⟨h1, h2⟩ := hf.owns h.box h.boxn
  refine ⟨h1, h2, ?_, fun hm => ?_⟩
  · have := h.it
    unfold IterAt at *
    rw [hf.but.block r h.it.lt h.itn]
    exact this
  · have := h.it.lt
    rcases hf.new r hm with h3 | h3
    · exact h.itn h3
    · omega
theorem Side.ne (h : Side T w B cs Ty r b since seen last) : B ≠ r := by
  intro e
  have h1 := h.box
  have h2 := h.it
  unfold Owns at h1
  unfold IterAt at h2
  rw [e, h2] at h1
  cases h1
theorem But.drew0 {F : Nat → Prop} {w1 : World} (hw1 : w1 = w ∨ w1 = w.drew) : But F w w1 := by
  rcases hw1 with rfl | rfl
  · exact But.refl _ _
  · exact (But.refl _ _).drew
theorem But.step {w1 : World} (hw1 : w1 = w ∨ w1 = w.drew) (r : Nat) (o : Obj) : But (fun k => k = r) w (putObj w1 r o) :=
  (But.drew0 hw1).trans (But.put (F := fun k => k = r) rfl) fun _ _ h => h
theorem Frm.newer {w0 : World} (h : Frm S T w0 w) (hb : But (fun k => k = r) w w') (hr : w0.heap.size ≤ r) : Frm S T w0 w' :=
  ⟨h.but.trans hb fun i hi e => by omega, h.new⟩
theorem Side.step (h : Side T w B cs Ty r b since seen last) {w1 : World} (hw1 : w1 = w ∨ w1 = w.drew) (j n : Nat) : Side T (putObj w1 r (.mapIter (some b) since (seen ++ [j]).toArray n)) B cs Ty r b since (seen ++ [j]) n := by
  have hs : w1.heap.size = w.heap.size := by rcases hw1 with rfl | rfl <;> rfl
  refine ⟨(But.step hw1 r _).owns h.box h.ne, h.boxn, ?_, h.itn⟩
  unfold IterAt
  exact putObj_same (by rw [hs]; exact h.it.lt) _
theorem Side.grew (h : Side T w B cs Ty r b since seen last) (hg : Grew w w') : Side T w' B cs Ty r b since seen last := by
  refine ⟨h.box.keep hg, h.boxn, ?_, h.itn⟩
  have := h.it
  unfold IterAt at *
  rw [hg.block r h.it.lt]
  exact this
theorem Rep.step (h : Rep E T w) {w1 : World} (hw1 : w1 = w ∨ w1 = w.drew) (hr : ¬T.mine r) (o : Obj) : Rep E T (putObj w1 r o) := h.but (But.step hw1 r o) fun _ hb e => hr (e ▸ hb)
theorem Rep.drew0 (h : Rep E T w) {w1 : World} (hw1 : w1 = w ∨ w1 = w.drew) : Rep E T w1 := by
  rcases hw1 with rfl | rfl
  · exact h
  · exact h.drew
theorem Frm.drew0 {w0 : World} (h : Frm S T w0 w) {w1 : World} (hw1 : w1 = w ∨ w1 = w.drew) : Frm S T w0 w1 := ⟨h.but.trans (But.drew0 (F := fun _ => False) hw1) (fun _ _ h => h.elim), h.new⟩
end
end Go.Proofs.Ytgdcnndmdgcjlaa
