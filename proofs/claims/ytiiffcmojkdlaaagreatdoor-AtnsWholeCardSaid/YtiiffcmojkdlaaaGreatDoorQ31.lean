/- atns.May: may a net be? Up to its loop. -/
import Derived.Test.YtiiffcmojkdlaaaGreatDoorQ30
namespace Go.Proofs.YtiiffcmojkdlaaaGreatDoor
open Go.RowKit

/-- the states that decide, of the first ones -/
def decsTo (l : List Sta) : Nat → List Int
  | 0 => []
  | k + 1 => decsTo l k ++ (match l[k]? with | some s => if s.ends.length = 0 then [] else [(k : Int)] | none => [])
def Sta.fineB (N : Net) (s : Sta) : Bool := s.mayB N && !decide (s.rule < 0) && !decide ((N.starts.length : Int) ≤ s.rule)
def Net.mayB (N : Net) : Bool :=
  decide (N.starts.length = N.stops.length) && !((N.starts ++ N.stops).any fun i => !okN N.states.length i) && !(N.preds.any fun i => decide (i < 0) || decide ((N.states.length : Int) - 1 ≤ i)) &&
    N.states.all (Sta.fineB N) && decide (decsTo N.states N.states.length = N.decisions)
theorem decsTo_len (l : List Sta) : ∀ k, (decsTo l k).length ≤ k
  | 0 => by simp [decsTo]
  | k + 1 => by
    have := decsTo_len l k
    unfold decsTo
    rw [List.length_append]
    split
    · split
      · simp; omega
      · simp; omega
    · simp; omega
theorem decsTo_none {l : List Sta} {k : Nat} (h : k < l.length) (h0 : l[k].ends.length = 0) : decsTo l (k + 1) = decsTo l k := by
  rw [decsTo, List.getElem?_eq_getElem h]; simp [h0]
theorem decsTo_some {l : List Sta} {k : Nat} (h : k < l.length) (h0 : l[k].ends.length ≠ 0) : decsTo l (k + 1) = decsTo l k ++ [(k : Int)] := by
  rw [decsTo, List.getElem?_eq_getElem h]; simp [h0]

/-- the boxes: the net, the function -/
structure MnetAt (N : Net) (W w : World) (na : Option Addr) (nc : Nat) (n1 n2 n3 n4 : Value) : Prop where
  low : Grew W w
  size : W.heap.size + 1 + 1 ≤ w.heap.size
  bn : Owns w W.heap.size [.slice na N.states.length nc, n1, n2, n3, n4] 32
  bf : Owns w (W.heap.size + 1) [.func (.func 21) #[] #[.pointer (some ⟨W.heap.size, 0, none⟩)]] 70
section
variable {N : Net} {W w w' : World} {na : Option Addr} {nc : Nat} {n1 n2 n3 n4 : Value}
theorem MnetAt.grew (h : MnetAt N W w na nc n1 n2 n3 n4) (hg : Grew w w') : MnetAt N W w' na nc n1 n2 n3 n4 :=
  ⟨h.low.trans hg, Nat.le_trans h.size hg.size, h.bn.keep hg, h.bf.keep hg⟩
theorem MnetAt.grown (h : MnetAt N W w na nc n1 n2 n3 n4) {v : Value} (hv : ∀ g, v.ownBlock = some g → W.heap.size + 1 + 1 ≤ g) (hg : w.grownBy w' v.ownBlock) : MnetAt N W w' na nc n1 n2 n3 n4 := by
  have hb : ∀ k, k < W.heap.size + 1 + 1 → w'.heap[k]? = w.heap[k]? := fun k hk => hg.block k (by have := h.size; omega) (fun e => by have := hv k e.symm; omega)
  exact ⟨⟨hg.os.trans h.low.os, hg.tape.trans h.low.tape, hg.output.trans h.low.output, Nat.le_trans h.low.size hg.size, fun k hk => (hb k (by omega)).trans (h.low.block k hk)⟩,
    Nat.le_trans h.size hg.size, (hb _ (by omega)).trans h.bn, (hb _ (by omega)).trans h.bf⟩
theorem MnetAt.ask2 (h : MnetAt N W w na nc n1 n2 n3 n4) (l : List Int) : AskInts 22 #[.pointer (some ⟨W.heap.size + 1, 0, none⟩)] w l (fun i => !okN N.states.length i) :=
  fun i hi W' hg => AMay2_ok l[i] (W.heap.size + 1) W.heap.size N.states.length nc na W' (((h.grew hg).bn).cell_at (i := 0) rfl) (((h.grew hg).bf).cell_at (i := 0) rfl)
theorem MnetAt.ask3 (hn : N.states.length ≤ 1000000000) (h : MnetAt N W w na nc n1 n2 n3 n4) (l : List Int) : AskInts 25 #[.pointer (some ⟨W.heap.size, 0, none⟩)] w l (fun i => decide (i < 0) || decide ((N.states.length : Int) - 1 ≤ i)) :=
  fun i hi W' hg => AMay3_ok l[i] W.heap.size N.states.length nc hn na W' (((h.grew hg).bn).cell_at (i := 0) rfl)
end
theorem ints_of_row {w : World} {base : Nat} {v : Value} {l : List Int} (h : looseRow w base 3 1 v l.length (intVs l)) : IntsV w w.heap.size v l := by
  rcases h.2 with ⟨h1, h2⟩ | ⟨g, cap, cur, h1, h2, h3, h4, h5, h6, h7⟩
  · exact ⟨none, 0, by rw [h1, h2], fun k hk => absurd hk (by omega)⟩
  · refine ⟨some ⟨g, 0, none⟩, cap, h1, fun k hk => ⟨g, 0, rfl, (Array.getElem?_eq_some_iff.1 h3).1, ?_⟩⟩
    rw [Nat.zero_add]
    exact looseRow_cells h (g := g) (by rw [h1]; rfl) k _ (by unfold intVs; rw [List.getElem?_map, List.getElem?_eq_getElem hk]; rfl)
theorem loose_keep {w w' : World} {base e size n : Nat} {v : Value} {xs : List Value} (h : looseRow w base e size v n xs) (hg : Grew w w') : looseRow w' base e size v n xs :=
  row_but h (But.of_grew hg (F := fun _ => False)) (fun _ _ => id)
theorem one_news {w : World} {b T : Nat} {x : Value} (h : Owns w b [x] T) : ∀ (j : Nat) u, [x][j]? = some u → w.cell? ((⟨b, 0, none⟩ : Addr).add j) = some u := by
  intro j u hj
  rw [padd_off, Nat.zero_add, h.cell, hj]
theorem own_of_row {w : World} {base e size n : Nat} {v : Value} {xs : List Value} (h : looseRow w base e size v n xs) : ∀ g, v.ownBlock = some g → base ≤ g := fun _ hg => (row_own h hg).1
/-- the row of those that decide -/
def Decs (N : Net) (W w : World) (j : Nat) (v : Value) : Prop := looseRow w (W.heap.size + 1 + 1) 3 1 v (decsTo N.states j).length (intVs (decsTo N.states j))

set_option maxHeartbeats 2000000 in
set_option maxRecDepth 20000 in
theorem AMay_ok (N : Net) (W : World) (n0 n1 n2 n3 n4 : Value) (hB : NetAt W W.heap.size n0 n1 n2 n3 n4 N)
    (h1 : N.states.length ≤ 1000000) (h2 : N.starts.length + N.stops.length ≤ 1000000) (h3 : N.preds.length ≤ 1000000) (h6 : N.decisions.length ≤ 1000000)
    (h4 : ∀ s ∈ N.states, s.edges.length ≤ 1000000000) (h5 : ∀ s ∈ N.states, s.ends.length ≤ 1000000000) :
    Calls Tryz.prog 8 #[.agg #[n0, n1, n2, n3, n4]] W fun e W' => e = .returned (.bool N.mayB) ∧ Grew W W' := by
  obtain ⟨na, nc, rfl, hN0⟩ := hB.states
  obtain ⟨ta, tc, rfl, hT⟩ := hB.starts
  obtain ⟨ua, uc, rfl, hU⟩ := hB.stops
  obtain ⟨pa, pc, rfl, hP⟩ := hB.preds
  obtain ⟨da, dc, rfl, hD⟩ := hB.decisions
  obtain ⟨w1, hw1⟩ : ∃ w1, W.alloc (.cells #[.slice na N.states.length nc, .slice ta N.starts.length tc, .slice ua N.stops.length uc, .slice pa N.preds.length pc, .slice da N.decisions.length dc] 32) = w1 := ⟨_, rfl⟩
  have z1 : w1.heap.size = W.heap.size + 1 := by rw [← hw1]; exact World.size_alloc W _
  have g1 : Grew W w1 := hw1 ▸ grew_alloc W _
  have o1 : Owns w1 W.heap.size [.slice na N.states.length nc, .slice ta N.starts.length tc, .slice ua N.stops.length uc, .slice pa N.preds.length pc, .slice da N.decisions.length dc] 32 := hw1 ▸ Owns.alloc W _ _
  obtain ⟨w2, hw2⟩ : ∃ w2, w1.alloc (.cells #[.func (.func 21) #[] #[.pointer (some ⟨W.heap.size, 0, none⟩)]] 70) = w2 := ⟨_, rfl⟩
  have z2 : w2.heap.size = W.heap.size + 1 + 1 := by rw [← hw2, World.size_alloc, z1]
  have g2 : Grew w1 w2 := hw2 ▸ grew_alloc w1 _
  have o2 : Owns w2 (W.heap.size + 1) [.func (.func 21) #[] #[.pointer (some ⟨W.heap.size, 0, none⟩)]] 70 := by rw [← z1, ← hw2]; exact Owns.alloc w1 _ _
  have hM : MnetAt N W w2 na nc (.slice ta N.starts.length tc) (.slice ua N.stops.length uc) (.slice pa N.preds.length pc) (.slice da N.decisions.length dc) := ⟨g1.trans g2, by omega, o1.keep g2, o2⟩
  have b1 := hM.bn.cell_at (i := 1) rfl
  have b2 := hM.bn.cell_at (i := 2) rfl
  obtain ⟨w3, hw3⟩ : ∃ w3, w2.alloc (.cells #[.slice ta N.starts.length tc, .slice ua N.stops.length uc] 30) = w3 := ⟨_, rfl⟩
  have g3 : Grew w2 w3 := hw3 ▸ grew_alloc w2 _
  have o3 : Owns w3 w2.heap.size [.slice ta N.starts.length tc, .slice ua N.stops.length uc] 30 := hw3 ▸ Owns.alloc w2 _ _
  have z3 : w3.heap.size = W.heap.size + 1 + 1 + 1 := by rw [← hw3, World.size_alloc, z2]
  have hL3 := (hM.low.trans g3)
  have hcat : Calls Tryz.prog 24 #[.slice (some ⟨W.heap.size + 1 + 1, 0, none⟩) 2 2] w3 fun e W' => ∃ v, e = .returned v ∧ IntsV W' W'.heap.size v (N.starts ++ N.stops) ∧ Grew w3 W' := by
    have := concatInts_ok [N.starts, N.stops] [.slice ta N.starts.length tc, .slice ua N.stops.length uc] rfl (by simp [lens]; omega) (by simp) w3 (W.heap.size + 1 + 1) 2 (by omega)
      (fun k hk => by rw [← z2, o3.cell, List.getElem?_eq_getElem hk])
      (fun k hk h2 => by
        match k, hk with
        | 0, _ => exact ⟨ta, tc, rfl, (hT.keep hL3).mono hL3.size⟩
        | 1, _ => exact ⟨ua, uc, rfl, (hU.keep hL3).mono hL3.size⟩)
    simpa using this
  have HCAT := Lib.hid hcat
  have HB := Lib.hid hB
  have HM := Lib.hid hM
  have HM3 := Lib.hid (hM.grew g3)
  clear hcat hB hM g1 g2 g3 o1 o2 o3 hL3 hN0 hT hU hP hD z3
  go_enter Tryz.func8, Tryz.ntmps8
  by_cases t1 : N.starts.length = N.stops.length
  · have r1 : ((N.starts.length : Int) != (N.stops.length : Int)) = false := by simp [t1]
    have T1 := Lib.hid t1
    clear t1
    go_wp2_with fail
    refine HCAT.out.mono ?_
    rintro e w4 ⟨v4, rfl, hv4, hg4⟩
    have hM4 := HM3.out.grew hg4
    have HM4 := Lib.hid hM4
    have HK := Lib.hid (contInts_ok (N.starts ++ N.stops) (fun i => !okN N.states.length i) 22 _ enters22 w4 v4 (by unfold reachN; rw [List.length_append]; omega) hv4 (hM4.ask2 _))
    clear hM4 hv4 hg4
    go_wp2_with fail
    have hMB : Hid (N.mayB = (!((N.starts ++ N.stops).any fun i => !okN N.states.length i) && !(N.preds.any fun i => decide (i < 0) || decide ((N.states.length : Int) - 1 ≤ i)) && N.states.all (Sta.fineB N) && decide (decsTo N.states N.states.length = N.decisions))) :=
      Lib.hid (by unfold Net.mayB; rw [decide_eq_true T1.out]; rfl)
    generalize ((N.starts ++ N.stops).any fun i => !okN N.states.length i) = c1 at *
    refine HK.out.mono ?_
    rintro e w5 ⟨rfl, hb5⟩
    have hM5 := HM4.out.grew hb5
    have HM5 := Lib.hid hM5
    have p3 := hM5.bn.cell_at (i := 3) rfl
    obtain ⟨pa', pc', hpe, hpp⟩ := HB.out.preds
    cases hpe
    have HK2 := Lib.hid (contInts_ok N.preds (fun i => decide (i < 0) || decide ((N.states.length : Int) - 1 ≤ i)) 25 _ enters25 w5 (.slice pa N.preds.length pc) (by unfold reachN; omega) ⟨pa, pc, rfl, (hpp.keep hM5.low).mono hM5.low.size⟩ (hM5.ask3 (by omega) _))
    clear hb5 hpp HK HCAT HM HM3 HM4 hw1 hw2 hw3 hM5
    generalize (N.preds.any fun i => decide (i < 0) || decide ((N.states.length : Int) - 1 ≤ i)) = c2 at *
    cases c1
    · go_wp2_with fail
      refine HK2.out.mono ?_
      rintro e w6 ⟨rfl, hb6⟩
      have hM6 := HM5.out.grew hb6
      have HM6 := Lib.hid hM6
      have n0 := hM6.bn.cell_at (i := 0) rfl
      cases c2
      · clear hb6 hM6
        go_wp2_with fail
        clear HM5 HK2 z1 z2 n0
        obtain ⟨i0, hi, hz0, hz1, hz2⟩ := info_parts info_int
        have HI := Lib.hid hi
        have HZ0 := Lib.hid hz0
        have HZ1 := Lib.hid hz1
        have HZ2 := Lib.hid hz2
        have H45 := Lib.hid (And.intro h4 h5)
        clear hi hz0 hz1 hz2 h4 h5
        go_loopw [5, 36] (fun d i wr => ∃ (j : Nat), i = .int .i64 j ∧ j ≤ N.states.length ∧ Hid (∀ i (h : i < N.states.length), i < j → (N.states[i]).fineB N = true) ∧ Hid (MnetAt N W wr na nc (.slice ta N.starts.length tc) (.slice ua N.stops.length uc) (.slice pa N.preds.length pc) (.slice da N.decisions.length dc)) ∧ Hid (Decs N W wr j d)) (fun _ i _ => N.states.length - (intOf i).toNat)
        case atStart =>
          exact ⟨0, rfl, by omega, fun i hi h => absurd h (by omega), HM6.out, ⟨rfl, .inl ⟨rfl, rfl⟩⟩⟩
        case round =>
          obtain ⟨j, rfl, hj, hf, hm, hd⟩ := hrel
          clear HM6
          by_cases hlt : j < N.states.length
          · obtain ⟨na', nc', hne, hSS⟩ := HB.out.states
            cases hne
            obtain ⟨b, off, rfl, hb, hS⟩ := hSS j hlt
            obtain ⟨hr0, ⟨ea, ec, he, hE⟩, za, zc, hz, hZ⟩ := hS
            have d0 : wr.cell? ⟨b, off + j * 3, none⟩ = some (.int .i64 N.states[j].rule) := by rw [hm.out.low.cells _ _ hb]; exact hr0
            have d1 : wr.cell? ⟨b, off + j * 3 + 1, none⟩ = some (.slice ea N.states[j].edges.length ec) := by rw [hm.out.low.cells _ _ hb]; exact he
            have d2 : wr.cell? ⟨b, off + j * 3 + 2, none⟩ = some (.slice za N.states[j].ends.length zc) := by rw [hm.out.low.cells _ _ hb]; exact hz
            obtain ⟨w7, hw7⟩ : ∃ w7, wr.alloc (.cells #[.int .i64 N.states[j].rule, .slice ea N.states[j].edges.length ec, .slice za N.states[j].ends.length zc] 41) = w7 := ⟨_, rfl⟩
            have g7 : Grew wr w7 := hw7 ▸ grew_alloc wr _
            have o7 : Owns w7 wr.heap.size [.int .i64 N.states[j].rule, .slice ea N.states[j].edges.length ec, .slice za N.states[j].ends.length zc] 41 := hw7 ▸ Owns.alloc wr _ _
            have hM7 := hm.out.grew g7
            have s0 := o7.cell_at (i := 0) rfl
            have s1 := o7.cell_at (i := 1) rfl
            have s2 := o7.cell_at (i := 2) rfl
            have m0 := hM7.bn.cell_at (i := 0) rfl
            have m1 := hM7.bn.cell_at (i := 1) rfl
            have m2 := hM7.bn.cell_at (i := 2) rfl
            have m3 := hM7.bn.cell_at (i := 3) rfl
            have m4 := hM7.bn.cell_at (i := 4) rfl
            have HC := Lib.hid (smay_ok N N.states[j] w7 _ _ _ _ _ _ _ _ ((HB.out.keep hM7.low).mono hM7.low.size) ⟨rfl, ⟨ea, ec, rfl, (hE.keep hM7.low).mono hM7.low.size⟩, za, zc, rfl, (hZ.keep hM7.low).mono hM7.low.size⟩ h1 (by omega) h3 (H45.out.1 _ (List.getElem_mem hlt)) (H45.out.2 _ (List.getElem_mem hlt)))
            have HM7 := Lib.hid hM7
            have HO7 := Lib.hid o7
            have HD7 := Lib.hid (loose_keep hd.out g7)
            have hB : Hid (Sta.fineB N N.states[j] = (N.states[j].mayB N && !decide (N.states[j].rule < 0) && !decide ((N.starts.length : Int) ≤ N.states[j].rule))) := Lib.hid rfl
            have hNext : Hid (Sta.fineB N N.states[j] = true → ∀ i (h : i < N.states.length), i < j + 1 → (N.states[i]).fineB N = true) := Lib.hid (by
              intro h i hi hij
              by_cases hq : i = j
              · subst hq; exact h
              · exact hf.out i hi (by omega))
            have hBad : Hid (Sta.fineB N N.states[j] = false → N.mayB = false) := Lib.hid (by
              intro h
              rw [hMB.out, all_not hlt h]
              simp)
            have hDn : Hid (N.states[j].ends.length = 0 → decsTo N.states (j + 1) = decsTo N.states j) := Lib.hid (decsTo_none hlt)
            have hDs : Hid (N.states[j].ends.length ≠ 0 → decsTo N.states (j + 1) = decsTo N.states j ++ [(j : Int)]) := Lib.hid (decsTo_some hlt)
            clear hb hr0 he hz hE hZ g7 o7 hM7 hf hm hd hSS
            generalize N.states[j].rule = rl at *
            generalize N.states[j].ends.length = el at *
            generalize (N.states[j].mayB N) = sm at *
            go_wp2_with fail
            refine HC.out.mono ?_
            rintro e w8 ⟨rfl, hb8⟩
            have s0 := (HO7.out.keep hb8).cell_at (i := 0) rfl
            have s2 := (HO7.out.keep hb8).cell_at (i := 2) rfl
            have hM8 := HM7.out.grew hb8
            have m1 := hM8.bn.cell_at (i := 1) rfl
            have HM8 := Lib.hid hM8
            have HD8 := Lib.hid (loose_keep HD7.out hb8)
            clear HM7 HD7 HC HO7 hw7 d0 d1 d2 m0 m2 m3 m4 s1 hM8 hb8
            cases sm
            · go_wp2_with fail
              go_ret
              exact ⟨ret_bool (hBad.out (by rw [hB.out]; rfl)).symm, HM8.out.low⟩
            · by_cases rl0 : rl < 0
              · have q0 : decide (rl < 0) = true := decide_eq_true rl0
                clear rl0
                go_wp2_with fail
                go_ret
                exact ⟨ret_bool (hBad.out (by rw [hB.out, q0]; rfl)).symm, HM8.out.low⟩
              · have q0 : decide (rl < 0) = false := decide_eq_false rl0
                by_cases rl1 : (N.starts.length : Int) ≤ rl
                · have q1 : decide ((N.starts.length : Int) ≤ rl) = true := decide_eq_true rl1
                  clear rl1 rl0
                  go_wp2_with fail
                  go_ret
                  exact ⟨ret_bool (hBad.out (by rw [hB.out, q0, q1]; rfl)).symm, HM8.out.low⟩
                · have q1 : decide ((N.starts.length : Int) ≤ rl) = false := decide_eq_false rl1
                  have HN := Lib.hid (hNext.out (by rw [hB.out, q0, q1]; rfl))
                  clear rl0 rl1
                  by_cases e0 : el = 0
                  · have r0 : decide (0 < el) = false := decide_eq_false (by omega)
                    have r1 : ¬ 0 < el := by omega
                    have E0 := Lib.hid (hDn.out e0)
                    clear e0
                    go_wp2_with fail
                    exact ⟨⟨j + 1, by go_num, by omega, HN.out, HM8.out, by unfold Decs; rw [E0.out]; exact HD8.out⟩, by simp [intOf]; omega⟩
                  · have r0 : 0 < el := by omega
                    have E0 := Lib.hid (hDs.out e0)
                    clear e0
                    obtain ⟨w9, hw9⟩ : ∃ w9, w8.alloc (.cells #[.int .i64 j] 3) = w9 := ⟨_, rfl⟩
                    have g9 : Grew w8 w9 := hw9 ▸ grew_alloc w8 _
                    have o9 : Owns w9 w8.heap.size [.int .i64 j] 3 := hw9 ▸ Owns.alloc w8 _ _
                    have hM9 := HM8.out.grew g9
                    have HM9 := Lib.hid hM9
                    have HROW := Lib.hid (show looseRow w9 (W.heap.size + 1 + 1) 3 1 u5 (decsTo N.states j).length (intVs (decsTo N.states j)) from loose_keep HD8.out g9)
                    have HNS := Lib.hid (one_news o9)
                    have hle := decsTo_len N.states j
                    have H63 := Lib.hid (show (decsTo N.states j).length + 1 ≤ maxLen by unfold maxLen; omega)
                    have H64 := Lib.hid (show ((decsTo N.states j).length + 1) * 8 ≤ 140737488355328 by omega)
                    have HLIM := Lib.hid hM9.size
                    clear HM8 HD8 g9 o9 hM9 hle
                    go_wp2_with (at_builtin; refine wpList_append_loose w9 rfl _ _ 30 rfl (W.heap.size + 1 + 1) 3 i0 _ 1 8 Tryz.underlying30 HI.out HZ0.out HZ1.out HZ2.out rfl (by decide) u5 (decsTo N.states j).length (intVs (decsTo N.states j)) rfl HROW.out ⟨w8.heap.size, 0, none⟩ 1 1 [.int .i64 j] rfl rfl HNS.out (fun u hu => by rw [List.mem_singleton.1 hu]; rfl) (by decide) H63.out H64.out HLIM.out _ rfl ?_; intro g cap' w10 hown hgrow hat hlt10; have HOWN := Lib.hid hown; have HGROW := Lib.hid hgrow; clear hown hgrow hat hlt10)
                    have hM10 : MnetAt N W w10 (some ⟨b, off, none⟩) nc (.slice ta N.starts.length tc) (.slice ua N.stops.length uc) (.slice pa N.preds.length pc) (.slice da N.decisions.length dc) := HM9.out.grown (own_of_row HROW.out) HGROW.out
                    have hD10 : Decs N W w10 (j + 1) (.slice (some ⟨g, 0, none⟩) ((decsTo N.states j).length + 1) cap') := by
                      unfold Decs
                      rw [E0.out, List.length_append]
                      have := HOWN.out
                      unfold intVs at this ⊢
                      rw [List.map_append]
                      exact this
                    exact ⟨⟨j + 1, by go_num, by omega, HN.out, hM10, hD10⟩, by simp [intOf]; omega⟩
          · have hje : j = N.states.length := by omega
            subst hje
            have hall : N.states.all (Sta.fineB N) = true := all_upto fun i hi => hf.out i hi hi
            have m4 := hm.out.bn.cell_at (i := 4) rfl
            have hle := decsTo_len N.states N.states.length
            obtain ⟨da', dc', hde, hDD⟩ := HB.out.decisions
            cases hde
            have hlow := hm.out.low
            have HE := Lib.hid (equalInts_ok (decsTo N.states N.states.length) N.decisions wr u5 (.slice da N.decisions.length dc) (by unfold reachN; omega) (by unfold reachN; omega) (ints_of_row hd.out) ⟨da, dc, rfl, (hDD.keep hlow).mono hlow.size⟩)
            have HLW := Lib.hid hlow
            have HALL := Lib.hid hall
            clear hall hf hd hle hDD hlow hm
            go_wp2_with (refine HE.out.mono ?_; rintro e w11 ⟨rfl, hb11⟩)
            go_ret
            exact ⟨ret_bool (by rw [hMB.out, HALL.out]; rfl), HLW.out.trans hb11⟩
      · clear hb6 hM6
        go_wp2_with fail
        go_ret
        exact ⟨ret_bool (by rw [hMB.out]; rfl), HM6.out.low⟩
    · go_wp2_with fail
      go_ret
      exact ⟨ret_bool (by rw [hMB.out]; rfl), HM5.out.low⟩
  · have r1 : ((N.starts.length : Int) != (N.stops.length : Int)) = true := by simp; omega
    go_wp2_with fail
    go_ret
    exact ⟨ret_bool (by unfold Net.mayB; simp [t1]), HM.out.low⟩
end Go.Proofs.YtiiffcmojkdlaaaGreatDoor
