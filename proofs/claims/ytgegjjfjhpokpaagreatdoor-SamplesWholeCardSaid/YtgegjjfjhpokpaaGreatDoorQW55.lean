/- SamplesWhole of chapter 27, walked. Printed by gensawh.py. -/
import Derived.Test.YtgegjjfjhpokpaaGreatDoorQW42
import Derived.Test.YtgegjjfjhpokpaaGreatDoorQW45
import Derived.Test.YtgegjjfjhpokpaaGreatDoorQW51
import Derived.Test.YtgegjjfjhpokpaaGreatDoorQW54
namespace Go.Proofs.YtgegjjfjhpokpaaGreatDoor
open Go.RowKit

theorem take_mem {L : List (List Int)} {wl : List Int} {j : Nat} (hj : j < L.length) : decide (wl ∈ L.take (j + 1)) = (decide (wl ∈ L.take j) || decide (L[j] = wl)) := by
  rw [List.take_succ_eq_append_getElem hj, ← Bool.decide_or, decide_eq_decide, List.mem_append, List.mem_singleton]
  exact or_congr Iff.rfl eq_comm
theorem allR_few {db : List Int → Bool} {K : List Int} {many : Nat} : ∀ (k n : Nat) (out L : List (List Int)), out.length ≤ many → allR db K many k n out = some L → L.length ≤ many
  | 0, _, out, L, h0, h => by
    rw [allR] at h
    cases h
    exact h0
  | k + 1, n, out, L, h0, h => by
    rw [allR] at h
    by_cases h2 : many < (if db (List.replicate n (-2)) then fillF db K many n [] out else out).length
    · rw [if_pos h2] at h
      cases h
    · rw [if_neg h2] at h
      exact allR_few k (n + 1) _ L (by omega) h
theorem firsts27_le (g : Gr) : ∀ f ∈ (bookOf g).firsts, f.w.length ≤ 1000 := fun f hf => by
  have h : f.Ok := (book0 g (g.of [1, 3]) (g.of [0])).iter_ok (book0_ok g (g.of [1, 3]) (g.of [0])) _ f hf
  unfold Fst.Ok at h
  rcases h with ⟨_, h⟩ | ⟨_, _, h3, h4⟩
  · rw [h]; simp
  · by_cases h5 : f.long ≤ 256
    · have := h3 h5
      omega
    · rw [h4 (by omega)]; simp
theorem rule_small (r : Int) (n : Nat) (h0 : 0 < n) (h : n ≤ 20) : ∃ k : Nat, wrap64 ((IntKind.u64.wrap r).tmod n) = k ∧ k < n := by
  have h1 : 0 ≤ IntKind.u64.wrap r := by unfold IntKind.wrap; simp [IntKind.bits, IntKind.signed]; omega
  have h2 := Int.tmod_nonneg (n : Int) h1
  have h3 := Int.tmod_lt_of_pos (IntKind.u64.wrap r) (show (0 : Int) < n by omega)
  obtain ⟨k, hk⟩ := Int.eq_ofNat_of_zero_le h2
  refine ⟨k, ?_, by omega⟩
  rw [hk]
  unfold wrap64
  omega
theorem kinds27_le {g : Gr} (h : g.rules.length ≤ 20) : (bookOf g).kinds.length ≤ 1000 := by
  unfold bookOf
  rw [(Bk.iter_rest _ _).2.2.1]
  have h1 := kindsTo_len g (g.of [1, 3]) (g.of [1, 3]).length
  have h2 := Gr.ofTo_len g [1, 3] g.rules.length
  show (kindsTo g (g.of [1, 3]) (g.of [1, 3]).length).length ≤ 1000
  unfold Gr.of at h1 ⊢
  omega
mutual
theorem all_cnt27 : ∀ n : Nd, n.all.length = n.cnt
  | .mk k nm tx set subs => by rw [Nd.all, Nd.cnt, List.length_cons, allL_cnt27 subs]; omega
theorem allL_cnt27 : ∀ l : List Nd, (Nd.allL l).length = Nd.cnts l
  | [] => by rw [Nd.allL, Nd.cnts]; rfl
  | n :: r => by rw [Nd.allL, Nd.cnts, List.length_append, all_cnt27 n, allL_cnt27 r]
end
theorem few_of {g : Gr} (h : g.Fair) : g.Few :=
  ⟨by have := h.len; omega, fun i hi => by
    have h1 := (h.rule i hi).1
    have h2 := Nd.cnt_le_total g.rules[i].body
    rw [all_cnt27]
    omega⟩
set_option maxHeartbeats 8000000 in
set_option maxRecDepth 40000 in
theorem whole27_ok (g : Gr) (r long many : Int) (ya : Option Addr) (yc : Nat) (wl : List Int) (W : World) (hT : Lib.Utf8Tabs 1 2 W) (v0 v1 v2 v3 : Value) (hG : GrAt W W.heap.size (some v0) (some v1) (some v2) (some v3) g) (hY : IntsAt W W.heap.size ya wl) (hr : InI64 r) :
    Calls Tryz.prog 4 #[.agg #[v0, v1, v2, v3], .agg #[.int .i64 r, .int .i64 long, .int .i64 many, .slice ya wl.length yc]] W fun e W' => e = .returned (.bool true) ∧ Grew W W' := by
  have HG := Lib.hid hG
  obtain ⟨h1, hs, h2, h3, h4, h5, ra, rc, h6, h7, h8⟩ := hG
  obtain rfl := Option.some.inj h1
  obtain rfl := Option.some.inj h2
  obtain rfl := Option.some.inj h3
  obtain rfl := Option.some.inj h6
  clear h1 h2 h3 h4 h5 h6 h8
  unfold reachN at hs h7
  have HT := Lib.hid hT
  have HYY := Lib.hid hY
  have HR := Lib.hid hr
  obtain ⟨Q, hQ⟩ : ∃ Q : Ending → World → Prop, (fun e W' => e = .returned (.bool true) ∧ Grew W W') = Q := ⟨_, rfl⟩
  rw [hQ]
  obtain ⟨w1, hw1⟩ : ∃ w1, W.alloc (.cells #[.string g.name, .int .i64 g.bound, .int .i64 g.states, .slice ra g.rules.length rc] 46) = w1 := ⟨_, rfl⟩
  have g1 : Grew W w1 := hw1 ▸ grew_alloc W _
  have o1 : Owns w1 W.heap.size [.string g.name, .int .i64 g.bound, .int .i64 g.states, .slice ra g.rules.length rc] 46 := hw1 ▸ Owns.alloc W _ _
  obtain ⟨w2, hw2⟩ : ∃ w2, w1.alloc (.cells #[.int .i64 r, .int .i64 long, .int .i64 many, .slice ya wl.length yc] 24) = w2 := ⟨_, rfl⟩
  have g2 : Grew w1 w2 := hw2 ▸ grew_alloc w1 _
  have o2 : Owns w2 w1.heap.size [.int .i64 r, .int .i64 long, .int .i64 many, .slice ya wl.length yc] 24 := hw2 ▸ Owns.alloc w1 _ _
  obtain ⟨a, ha⟩ : ∃ a, W.heap.size = a := ⟨_, rfl⟩
  obtain ⟨b, hb⟩ : ∃ b, w1.heap.size = b := ⟨_, rfl⟩
  have HX := Lib.hid (o1.keep g2)
  have HY := Lib.hid o2
  rw [ha] at HX
  rw [hb] at HY
  have G2 := Lib.hid (g1.trans g2)
  have HEND : Hid (∀ w', Grew w2 w' → Q (.returned (.bool true)) w') := Lib.hid fun w' hw => by rw [← hQ]; exact ⟨rfl, G2.out.trans hw⟩
  have HLV : Hid (∀ w', Grew w2 w' → Calls Tryz.prog 9 #[] w' fun e W' => e = .returned (.bool true) ∧ Grew w' W') := Lib.hid fun w' hw => lives27_ok w' (tabs_grew HT.out (G2.out.trans hw))
  have HGR : Hid (∀ w', Grew w2 w' → GrAt w' w'.heap.size (some (.string g.name)) (some (.int .i64 g.bound)) (some (.int .i64 g.states)) (some (.slice ra g.rules.length rc)) g) := Lib.hid fun w' hw => (HG.out.keep (G2.out.trans hw)).mono (G2.out.trans hw).size
  have HIY : Hid (∀ w', Grew w2 w' → IntsV w' w'.heap.size (.slice ya wl.length yc) wl) := Lib.hid fun w' hw => ⟨ya, yc, rfl, IntsAt.mono (G2.out.trans hw).size (IntsAt.keep (G2.out.trans hw) HYY.out)⟩
  have HTB : Hid (∀ w', Grew w2 w' → Lib.Utf8Tabs 1 2 w') := Lib.hid fun w' hw => tabs_grew HT.out (G2.out.trans hw)
  have HQ := Lib.hid hQ
  clear o1 o2 g1 g2 hT hY hr hQ
  have k0 := HX.out.cell_at (i := 0) rfl
  have k1 := HX.out.cell_at (i := 1) rfl
  have k2 := HX.out.cell_at (i := 2) rfl
  have k3 := HX.out.cell_at (i := 3) rfl
  have kl := HX.out.lt
  go_enter Tryz.func4, Tryz.ntmps4
  go_wp2_with fail
  clear hw1 hw2 k0 k1 k2 k3 kl ha hb
  refine (great27_ok g _ _ _ _ _ (HGR.out _ (Grew.refl _))).mono ?_
  rintro e w3 ⟨hbt, hg3⟩
  have HBT := Lib.hid hbt
  have G3 : Hid (Grew w2 w3) := Lib.hid hg3
  have ho := HX.out.keep G3.out
  have k0 := ho.cell_at (i := 0) rfl
  have k1 := ho.cell_at (i := 1) rfl
  have k2 := ho.cell_at (i := 2) rfl
  have k3 := ho.cell_at (i := 3) rfl
  have kl := ho.lt
  have ho := HY.out.keep G3.out
  have c0 := ho.cell_at (i := 0) rfl
  have c1 := ho.cell_at (i := 1) rfl
  have c2 := ho.cell_at (i := 2) rfl
  have c3 := ho.cell_at (i := 3) rfl
  have cl := ho.lt
  clear ho
  clear hg3
  rcases hbt with rfl | ⟨rfl, -⟩
  · go_wp2_with fail
    refine (HLV.out _ G3.out).mono ?_
    rintro e w9 ⟨rfl, hg9⟩
    have HG9 := Lib.hid (Grew.trans G3.out hg9)
    clear hg9
    go_wp2_with fail
    exact HEND.out _ HG9.out
  have hfair : Hid g.Fair := Lib.hid (by
    rcases HBT.out with h | ⟨_, h⟩
    · cases h
    · exact h)
  clear HBT
  by_cases hl4 : 4 < long
  · go_wp2_with fail
    refine (HLV.out _ G3.out).mono ?_
    rintro e w9 ⟨rfl, hg9⟩
    have HG9 := Lib.hid (Grew.trans G3.out hg9)
    clear hg9
    go_wp2_with fail
    exact HEND.out _ HG9.out
  by_cases hl0 : long < 0
  · go_wp2_with fail
    refine (HLV.out _ G3.out).mono ?_
    rintro e w9 ⟨rfl, hg9⟩
    have HG9 := Lib.hid (Grew.trans G3.out hg9)
    clear hg9
    go_wp2_with fail
    exact HEND.out _ HG9.out
  by_cases hlw : long < wl.length
  · go_wp2_with fail
    refine (HLV.out _ G3.out).mono ?_
    rintro e w9 ⟨rfl, hg9⟩
    have HG9 := Lib.hid (Grew.trans G3.out hg9)
    clear hg9
    go_wp2_with fail
    exact HEND.out _ HG9.out
  go_wp2_with fail
  clear k0 k1 k2 k3 kl c0 c1 c2 c3 cl
  refine (snew_ok g (few_of hfair.out) (fun i hi => (hfair.out.rule i hi).1) w3 (HTB.out _ G3.out) _ _ _ _ (HGR.out _ G3.out)).mono ?_
  rintro e w4 (⟨rfl, hg4, -⟩ | ⟨bk, V, rfl, hsp, hfine, hbf, hg4⟩)
  · have G4 := Lib.hid (G3.out.trans hg4)
    clear hg4
    have ho := HX.out.keep G4.out
    have k0 := ho.cell_at (i := 0) rfl
    have k1 := ho.cell_at (i := 1) rfl
    have k2 := ho.cell_at (i := 2) rfl
    have k3 := ho.cell_at (i := 3) rfl
    have kl := ho.lt
    have ho := HY.out.keep G4.out
    have c0 := ho.cell_at (i := 0) rfl
    have c1 := ho.cell_at (i := 1) rfl
    have c2 := ho.cell_at (i := 2) rfl
    have c3 := ho.cell_at (i := 3) rfl
    have cl := ho.lt
    clear ho
    go_wp2_with fail
    refine (HLV.out _ G4.out).mono ?_
    rintro e w9 ⟨rfl, hg9⟩
    have HG9 := Lib.hid (Grew.trans G4.out hg9)
    clear hg9
    go_wp2_with fail
    exact HEND.out _ HG9.out
  have G4 := Lib.hid (G3.out.trans hg4)
  have HSP := Lib.hid hsp
  have HFINE := Lib.hid hfine
  have HBF := Lib.hid hbf
  clear hg4 hsp hfine hbf
  have ho := HX.out.keep G4.out
  have k0 := ho.cell_at (i := 0) rfl
  have k1 := ho.cell_at (i := 1) rfl
  have k2 := ho.cell_at (i := 2) rfl
  have k3 := ho.cell_at (i := 3) rfl
  have kl := ho.lt
  have ho := HY.out.keep G4.out
  have c0 := ho.cell_at (i := 0) rfl
  have c1 := ho.cell_at (i := 1) rfl
  have c2 := ho.cell_at (i := 2) rfl
  have c3 := ho.cell_at (i := 3) rfl
  have cl := ho.lt
  clear ho
  obtain ⟨w5, hw5⟩ : ∃ w5, w4.alloc (.cells #[.int .u8 0] 51) = w5 := ⟨_, rfl⟩
  have g5 : Grew w4 w5 := hw5 ▸ grew_alloc w4 _
  have hso : SortsAt w5 w4.heap.size [0] := by
    have ho : Owns w5 w4.heap.size [.int .u8 0] 51 := hw5 ▸ Owns.alloc w4 _ _
    refine ⟨ho.lt, fun k hk => ?_⟩
    have hk : k = 0 := by simp at hk; omega
    subst hk
    exact ho.cell_at (i := 0) rfl
  have HOP := Lib.hid (mof_ok g [0] (by simp) w5 _ _ _ _ (HGR.out _ (G4.out.trans g5)) (by have := hfair.out.len; omega) w4.heap.size 1 hso)
  have G5 := Lib.hid (G4.out.trans g5)
  obtain ⟨n, hn⟩ : ∃ n, (g.of [0]).length = n := ⟨_, rfl⟩
  have hn0 : 0 < n := hn ▸ HFINE.out.start
  have hn20 : n ≤ 20 := by
    rw [← hn]
    have h1 := Gr.ofTo_len g [0] g.rules.length
    have h2 := hfair.out.len
    unfold Gr.of
    omega
  have HBN := Lib.hid (show (bookOf g).bodies.length = n by rw [bookOf_bodies, bodsTo_len, hn])
  rw [hn] at HOP
  clear hn g5 hso
  go_wp2_with fail
  have hw5' := hw5
  clear hw5
  refine HOP.out.mono ?_
  rintro e w6 ⟨pv, rfl, hrow, hg6⟩
  obtain ⟨pa, pc, rfl⟩ : ∃ a c, pv = .slice a n c := loose_form hrow
  have G6 := Lib.hid (G5.out.trans hg6)
  have HG56 := Lib.hid (hw5' ▸ hg6)
  clear hg6 hrow HOP G5 k0 k1 k2 k3 kl c0 c1 c2 c3 cl
  have ho := HX.out.keep G6.out
  have k0 := ho.cell_at (i := 0) rfl
  have k1 := ho.cell_at (i := 1) rfl
  have k2 := ho.cell_at (i := 2) rfl
  have k3 := ho.cell_at (i := 3) rfl
  have kl := ho.lt
  have ho := HY.out.keep G6.out
  have c0 := ho.cell_at (i := 0) rfl
  have c1 := ho.cell_at (i := 1) rfl
  have c2 := ho.cell_at (i := 2) rfl
  have c3 := ho.cell_at (i := 3) rfl
  have cl := ho.lt
  clear ho
  have hnz : ((n : Int) == 0) = false := beq_eq_false_iff_ne.2 (by omega)
  go_wp2_with fail
  obtain ⟨k, hk, hkn⟩ := rule_small r n hn0 hn20
  rw [hk]
  clear hk k0 k1 k2 k3 kl c0 c1 c2 c3 cl
  obtain ⟨lo, rfl⟩ := Int.eq_ofNat_of_zero_le (show 0 ≤ long by omega)
  have hlo4 : lo ≤ 4 := by omega
  have hwlo : wl.length ≤ lo := by omega
  clear hl4 hl0 hlw
  have HBA : Hid (∀ w', Grew w4 w' → BookAt w' w'.heap.size bk V (bookOf g)) := Lib.hid fun w' hw => (HBF.out.grew hw).at_
  have HGOOD := Lib.hid (book_good HSP.out HFINE.out)
  have HHR : Hid (hasR (bookOf g) k = true) := by
    unfold Hid hasR
    rw [HBN.out, Bool.and_eq_true, decide_eq_true_eq, decide_eq_true_eq]
    omega
  have G46 := Lib.hid (show Grew w4 w6 from (grew_alloc w4 _).trans HG56.out)
  refine (sAll_ok (bookOf g) HGOOD.out k lo 512 (kinds27_le hfair.out.len) V bk _ w6 (HBA.out _ G46.out)).mono ?_
  rintro e w7 ⟨hg7, hall⟩
  rw [if_pos ⟨HHR.out, by omega, by omega, by omega, by omega⟩] at hall
  have G7 := Lib.hid (G6.out.trans hg7)
  have G47 := Lib.hid (G46.out.trans hg7)
  clear hg7
  cases hal : (bookOf g).allL k lo 512 with
  | none =>
    rw [hal] at hall
    dsimp only at hall
    obtain rfl := hall
    go_wp2_with fail
    refine (HLV.out _ G7.out).mono ?_
    rintro e w9 ⟨rfl, hg9⟩
    have HG9 := Lib.hid (Grew.trans G7.out hg9)
    clear hg9
    go_wp2_with fail
    exact HEND.out _ HG9.out
  | some L =>
  rw [hal] at hall
  dsimp only at hall
  obtain ⟨v, rfl, hout⟩ := hall
  have LAW := Lib.hid (whole_law HSP.out HFINE.out (r := k) (long := lo) (by rw [HBN.out]; exact hkn) (by omega) (L := L) (by
    have h := hal
    unfold Bk.allL at h
    simpa using h))
  have hn512 : L.length ≤ 512 := by
    have h := hal
    unfold Bk.allL at h
    exact allR_few _ _ [] L (by simp) h
  have HO := Lib.hid hout
  obtain ⟨va, vc, rfl⟩ : ∃ a c, v = .slice a L.length c := by
    obtain ⟨us, _, h2, _⟩ := hout
    exact loose_form h2
  clear hal hout
  have HHA : Hid (∀ w' wv l, Grew w7 w' → l.length ≤ reachN → IntsV w' w'.heap.size wv l → Calls Tryz.prog 7 #[.pointer (some ⟨bk, 0, none⟩), .int .i64 k, wv] w' (HasIs (bookOf g) k l w')) := Lib.hid fun w' wv l hw hl hi => sHas_ok (bookOf g) HGOOD.out k V bk _ l hl wv w' (HBA.out _ (G47.out.trans hw)) hi
  have HIW : Hid (∀ w', Grew w7 w' → IntsV w' w'.heap.size (.slice ya wl.length yc) wl) := Lib.hid fun w' hw => HIY.out w' (G7.out.trans hw)
  obtain ⟨n1, hn1⟩ : ∃ m, L.length = m := ⟨_, rfl⟩
  have HLN := Lib.hid hn1
  rw [hn1] at HO hn512 ⊢
  obtain ⟨n2, hn2⟩ : ∃ m, wl.length = m := ⟨_, rfl⟩
  have HWN := Lib.hid hn2
  rw [hn2] at HIW HY ⊢
  clear hn1 hn2 hs h7 hn0 hn20 hkn HR HT HYY HG
  go_wp2_with fail
  go_loopw [11, 12] (fun f i wr => ∃ (j : Nat), f = .bool (decide (wl ∈ L.take j)) ∧ i = .int .i64 j ∧ j ≤ n1 ∧ Hid (Grew w7 wr)) (fun _ i _ => n1 - (intOf i).toNat)
  case atStart => exact ⟨0, by simp, rfl, by omega, Grew.refl _⟩
  case round =>
    obtain ⟨j, rfl, rfl, hj, hg⟩ := hrel
    obtain ⟨t, ht⟩ : ∃ t, decide (wl ∈ L.take j) = t := ⟨_, rfl⟩
    have HTT := Lib.hid ht
    rw [ht]
    clear ht
    by_cases hlt : j < n1
    · have hlt1 : j < L.length := by rw [HLN.out]; exact hlt
      obtain ⟨g1, a1, c1', o1, l1, d1, r1⟩ := (HO.out.keep hg.out).get hlt1
      have hva : va = some ⟨g1, 0, none⟩ := by
        rcases HO.out.form with ⟨e, h0⟩ | ⟨g, c, e⟩
        · omega
        · cases e; cases o1; rfl
      subst hva
      obtain ⟨x, hx⟩ : ∃ x, L[j] = x := ⟨_, rfl⟩
      have hmem : x ∈ L := hx ▸ List.getElem_mem hlt1
      have hxl := LAW.out.short x hmem
      have hxd := (LAW.out.has x hxl).1 hmem
      have HXJ := Lib.hid hx
      rw [hx] at d1 r1
      have HXI : Hid (∀ w, Grew wr w → IntsV w w.heap.size (.slice a1 x.length c1') x) := Lib.hid fun w hw => loose_ints ((But.of_grew (F := fun _ => False) hw).row r1 (fun _ _ h => h))
      have HXL := Lib.hid (show x.length ≤ 1000000 by omega)
      have HCH : Hid (∀ w, Grew wr w → Calls Tryz.prog 7 #[.pointer (some ⟨bk, 0, none⟩), .int .i64 k, .slice a1 x.length c1'] w fun e W' => e = .returned (.bool true) ∧ Grew w W') := Lib.hid fun w hw => (HHA.out w _ x (hg.out.trans hw) (by unfold reachN; omega) (HXI.out w hw)).mono fun e W' h => has_yes h HHR.out (by omega) hxd.1 (by simpa using hxd.2)
      have HSM : Hid (∀ w, Grew wr w → Calls Tryz.prog 14 #[.slice a1 x.length c1', .slice ya n2 yc] w fun e W' => e = .returned (.bool (decide (x = wl))) ∧ Grew w W') := Lib.hid fun w hw => ssameNums_ok x wl w _ _ HXL.out (by omega) (HXI.out w hw) (HIW.out w (hg.out.trans hw))
      obtain ⟨s, hs⟩ : ∃ s, decide (x = wl) = s := ⟨_, rfl⟩
      have HSS := Lib.hid hs
      rw [hs] at HSM
      clear hs
      obtain ⟨xl, hxn⟩ : ∃ m, x.length = m := ⟨_, rfl⟩
      rw [hxn] at HXI HCH HSM d1 hxl
      have HXN := Lib.hid hxn
      clear hxn hx hmem hxd r1 o1
      have dl : decide ((lo : Int) < (xl : Int)) = false := decide_eq_false (by omega)
      have hjl : (j : Int) < n1 := by omega
      have hj0 : (0 : Int) ≤ (j : Int) := by omega
      have HGW := Lib.hid (G7.out.trans hg.out)
      have ho := HX.out.keep HGW.out
      have k0 := ho.cell_at (i := 0) rfl
      have k1 := ho.cell_at (i := 1) rfl
      have k2 := ho.cell_at (i := 2) rfl
      have k3 := ho.cell_at (i := 3) rfl
      have kl := ho.lt
      have ho := HY.out.keep HGW.out
      have c0 := ho.cell_at (i := 0) rfl
      have c1 := ho.cell_at (i := 1) rfl
      have c2 := ho.cell_at (i := 2) rfl
      have c3 := ho.cell_at (i := 3) rfl
      have cl := ho.lt
      clear ho
      have HD1 := Lib.hid d1
      have HL1 := Lib.hid l1
      rcases Nat.eq_zero_or_pos j with hz | hp
      · subst hz
        go_upto_region 17 with fail
        refine wp_region_hav_lit follows (by kernel_rfl) ?_
        iterate 7 (first
          | (refine HavG.skip (fun _ => rfl) ?_; simp only [Act.put, List.setIfInBounds_toArray, List.set_cons_zero, List.set_cons_succ])
          | (refine HavG.val (fun _ => rfl) ?_ (fun x w hw _ => ?_) ?_; rotate_left; (focus (have hc := hw.cells; clear hw; go_simp; first | done | rfl)); simp only [Act.put, List.setIfInBounds_toArray, List.set_cons_zero, List.set_cons_succ]))
        refine HavG.val (fun _ => rfl) (.bool false) (fun x w hw _ => ?_) ?_
        · have hc := hw.cells
          clear hw
          go_simp
          first | done | exact dl | (simp; omega) | omega
        simp only [Act.put, List.setIfInBounds_toArray, List.set_cons_zero, List.set_cons_succ]
        iterate 7 (first
          | (refine HavG.skip (fun _ => rfl) ?_; simp only [Act.put, List.setIfInBounds_toArray, List.set_cons_zero, List.set_cons_succ])
          | (refine HavG.val (fun _ => rfl) ?_ (fun x w hw _ => ?_) ?_; rotate_left; (focus (have hc := hw.cells; clear hw; go_simp; first | done | rfl)); simp only [Act.put, List.setIfInBounds_toArray, List.set_cons_zero, List.set_cons_succ]))
        refine HavG.det (fun _ => rfl) (.bool true) (fun x w' hw hd => ?_) ?_
        · clear hd
          have HW2 := Lib.hid hw
          clear hw
          go_simp
          refine (HCH.out _ HW2.out).mono ?_
          rintro e w6 ⟨rfl, hg6⟩
          exact ⟨rfl, hg6⟩
        simp only [Act.put, List.setIfInBounds_toArray, List.set_cons_zero, List.set_cons_succ]
        repeat (first
          | (refine HavG.skip (fun _ => rfl) ?_; simp only [Act.put, List.setIfInBounds_toArray, List.set_cons_zero, List.set_cons_succ])
          | (refine HavG.val (fun _ => rfl) ?_ (fun x w hw _ => ?_) ?_; rotate_left; (focus (have hc := hw.cells; clear hw; go_simp; first | done | rfl)); simp only [Act.put, List.setIfInBounds_toArray, List.set_cons_zero, List.set_cons_succ]))
        refine HavG.tail (by kernel_rfl) (by kernel_rfl) (fun x w hw _ => ?_)
        have HW := Lib.hid hw
        have hgw := Lib.hid (HGW.out.trans HW.out)
        have d1 := (HW.out.cells _ _ HL1.out).trans HD1.out
        have l1 := Nat.lt_of_lt_of_le HL1.out HW.out.size
        clear hw c0 c1 c2 c3 cl k0 k1 k2 k3 kl
        have ho := HX.out.keep hgw.out
        have k0 := ho.cell_at (i := 0) rfl
        have k1 := ho.cell_at (i := 1) rfl
        have k2 := ho.cell_at (i := 2) rfl
        have k3 := ho.cell_at (i := 3) rfl
        have kl := ho.lt
        have ho := HY.out.keep hgw.out
        have c0 := ho.cell_at (i := 0) rfl
        have c1 := ho.cell_at (i := 1) rfl
        have c2 := ho.cell_at (i := 2) rfl
        have c3 := ho.cell_at (i := 3) rfl
        have cl := ho.lt
        clear ho
        go_upto_region 19 with fail
        cases t
        · refine wp_region_hav_lit follows (by kernel_rfl) ?_
          iterate 8 (first
            | (refine HavG.skip (fun _ => rfl) ?_; simp only [Act.put, List.setIfInBounds_toArray, List.set_cons_zero, List.set_cons_succ])
            | (refine HavG.val (fun _ => rfl) ?_ (fun x w hw _ => ?_) ?_; rotate_left; (focus (have hc := hw.cells; clear hw; go_simp; first | done | rfl)); simp only [Act.put, List.setIfInBounds_toArray, List.set_cons_zero, List.set_cons_succ]))
          refine HavG.det (fun _ => rfl) (.bool s) (fun x w' hw hd => ?_) ?_
          · clear hd
            have HW2 := Lib.hid hw
            clear hw
            go_simp
            refine (HSM.out _ (HW.out.trans HW2.out)).mono ?_
            rintro e w6 ⟨rfl, hg6⟩
            exact ⟨rfl, hg6⟩
          simp only [Act.put, List.setIfInBounds_toArray, List.set_cons_zero, List.set_cons_succ]
          repeat (first
            | (refine HavG.skip (fun _ => rfl) ?_; simp only [Act.put, List.setIfInBounds_toArray, List.set_cons_zero, List.set_cons_succ])
            | (refine HavG.val (fun _ => rfl) ?_ (fun x w hw _ => ?_) ?_; rotate_left; (focus (have hc := hw.cells; clear hw; go_simp; first | done | rfl)); simp only [Act.put, List.setIfInBounds_toArray, List.set_cons_zero, List.set_cons_succ]))
          refine HavG.tail (by kernel_rfl) (by kernel_rfl) (fun x w3 hw3 _ => ?_)
          have HW3 := Lib.hid hw3
          clear hw3 c0 c1 c2 c3 cl k0 k1 k2 k3 kl
          go_wp2_with fail
          exact ⟨⟨0 + 1, by rw [take_mem hlt1, HTT.out, HXJ.out, HSS.out]; rfl, by go_num, by omega, (hg.out.trans HW.out).trans HW3.out⟩, by simp [intOf]; omega⟩
        · refine wp_region_hav_lit follows (by kernel_rfl) ?_
          repeat (first
            | (refine HavG.skip (fun _ => rfl) ?_; simp only [Act.put, List.setIfInBounds_toArray, List.set_cons_zero, List.set_cons_succ])
            | (refine HavG.val (fun _ => rfl) ?_ (fun x w hw _ => ?_) ?_; rotate_left; (focus (have hc := hw.cells; clear hw; go_simp; first | done | rfl)); simp only [Act.put, List.setIfInBounds_toArray, List.set_cons_zero, List.set_cons_succ]))
          refine HavG.tail (by kernel_rfl) (by kernel_rfl) (fun x w3 hw3 _ => ?_)
          have HW3 := Lib.hid hw3
          clear hw3 c0 c1 c2 c3 cl k0 k1 k2 k3 kl
          go_wp2_with fail
          exact ⟨⟨0 + 1, by rw [take_mem hlt1, HTT.out]; rfl, by go_num, by omega, (hg.out.trans HW.out).trans HW3.out⟩, by simp [intOf]; omega⟩
      · obtain ⟨i, rfl⟩ : ∃ i, j = i + 1 := ⟨j - 1, by omega⟩
        have hlt2 : i < L.length := by omega
        obtain ⟨g2, a2, c2', o2, l2, d2, r2⟩ := (HO.out.keep hg.out).get hlt2
        have hgg : g2 = g1 := by cases o2; rfl
        subst hgg
        obtain ⟨y, hy⟩ : ∃ y, L[i] = y := ⟨_, rfl⟩
        have hmem : y ∈ L := hy ▸ List.getElem_mem hlt2
        have hyl := LAW.out.short y hmem
        rw [hy] at d2 r2
        have hlt' : slB y x = true := by
          have := List.pairwise_iff_getElem.1 LAW.out.rise i (i + 1) hlt2 hlt1 (by omega)
          rw [HXJ.out, hy] at this
          exact this
        have HYI : Hid (∀ w, Grew wr w → IntsV w w.heap.size (.slice a2 y.length c2') y) := Lib.hid fun w hw => loose_ints ((But.of_grew (F := fun _ => False) hw).row r2 (fun _ _ h => h))
        have HLS : Hid (∀ w, Grew wr w → Calls Tryz.prog 13 #[.slice a2 y.length c2', .slice a1 xl c1'] w fun e W' => e = .returned (.bool true) ∧ Grew w W') := Lib.hid fun w hw => by
          rw [← hlt']
          exact less27_ok y x w _ _ (by omega) HXL.out (HYI.out w hw) (HXI.out w hw)
        obtain ⟨yl, hyn⟩ : ∃ m, y.length = m := ⟨_, rfl⟩
        rw [hyn] at HYI HLS d2 hyl
        clear hyn hy hmem r2 o2 hlt' HYI
        have hil : (i : Int) < n1 := by omega
        have hi0 : (0 : Int) ≤ (i : Int) := by omega
        have hsub : (((i + 1 : Nat) : Int) - 1) = i := by omega
        have hgt : decide ((0 : Int) < ((i + 1 : Nat) : Int)) = true := decide_eq_true (by omega)
        go_upto_region 17 with fail
        refine wp_region_hav_lit follows (by kernel_rfl) ?_
        iterate 7 (first
          | (refine HavG.skip (fun _ => rfl) ?_; simp only [Act.put, List.setIfInBounds_toArray, List.set_cons_zero, List.set_cons_succ])
          | (refine HavG.val (fun _ => rfl) ?_ (fun x w hw _ => ?_) ?_; rotate_left; (focus (have hc := hw.cells; clear hw; go_simp; first | done | rfl)); simp only [Act.put, List.setIfInBounds_toArray, List.set_cons_zero, List.set_cons_succ]))
        refine HavG.val (fun _ => rfl) (.bool false) (fun x w hw _ => ?_) ?_
        · have hc := hw.cells
          clear hw
          go_simp
          first | done | exact dl | (simp; omega) | omega
        simp only [Act.put, List.setIfInBounds_toArray, List.set_cons_zero, List.set_cons_succ]
        iterate 7 (first
          | (refine HavG.skip (fun _ => rfl) ?_; simp only [Act.put, List.setIfInBounds_toArray, List.set_cons_zero, List.set_cons_succ])
          | (refine HavG.val (fun _ => rfl) ?_ (fun x w hw _ => ?_) ?_; rotate_left; (focus (have hc := hw.cells; clear hw; go_simp; first | done | rfl)); simp only [Act.put, List.setIfInBounds_toArray, List.set_cons_zero, List.set_cons_succ]))
        refine HavG.det (fun _ => rfl) (.bool true) (fun x w' hw hd => ?_) ?_
        · clear hd
          have HW2 := Lib.hid hw
          clear hw
          go_simp
          refine (HCH.out _ HW2.out).mono ?_
          rintro e w6 ⟨rfl, hg6⟩
          exact ⟨rfl, hg6⟩
        simp only [Act.put, List.setIfInBounds_toArray, List.set_cons_zero, List.set_cons_succ]
        iterate 4 (first
          | (refine HavG.skip (fun _ => rfl) ?_; simp only [Act.put, List.setIfInBounds_toArray, List.set_cons_zero, List.set_cons_succ])
          | (refine HavG.val (fun _ => rfl) ?_ (fun x w hw _ => ?_) ?_; rotate_left; (focus (have hc := hw.cells; clear hw; go_simp; first | done | rfl)); simp only [Act.put, List.setIfInBounds_toArray, List.set_cons_zero, List.set_cons_succ]))
        refine HavG.val (fun _ => rfl) (.bool true) (fun x w hw _ => ?_) ?_
        · have hc := hw.cells
          clear hw
          go_simp
          first | done | exact hgt | (simp; omega) | omega
        simp only [Act.put, List.setIfInBounds_toArray, List.set_cons_zero, List.set_cons_succ]
        iterate 3 (first
          | (refine HavG.skip (fun _ => rfl) ?_; simp only [Act.put, List.setIfInBounds_toArray, List.set_cons_zero, List.set_cons_succ])
          | (refine HavG.val (fun _ => rfl) ?_ (fun x w hw _ => ?_) ?_; rotate_left; (focus (have hc := hw.cells; clear hw; go_simp; first | done | rfl)); simp only [Act.put, List.setIfInBounds_toArray, List.set_cons_zero, List.set_cons_succ]))
        refine HavG.val (fun _ => rfl) (.int .i64 i) (fun x w hw _ => ?_) ?_
        · have hc := hw.cells
          clear hw
          go_simp
          first | done | (rw [IntKind.wrap_i64]; omega) | exact hsub
        simp only [Act.put, List.setIfInBounds_toArray, List.set_cons_zero, List.set_cons_succ]
        iterate 6 (first
          | (refine HavG.skip (fun _ => rfl) ?_; simp only [Act.put, List.setIfInBounds_toArray, List.set_cons_zero, List.set_cons_succ])
          | (refine HavG.val (fun _ => rfl) ?_ (fun x w hw _ => ?_) ?_; rotate_left; (focus (have hc := hw.cells; clear hw; go_simp; first | done | rfl)); simp only [Act.put, List.setIfInBounds_toArray, List.set_cons_zero, List.set_cons_succ]))
        refine HavG.det (fun _ => rfl) (.bool true) (fun x w' hw hd => ?_) ?_
        · clear hd
          have HW2 := Lib.hid hw
          clear hw
          go_simp
          refine (HLS.out _ HW2.out).mono ?_
          rintro e w6 ⟨rfl, hg6⟩
          exact ⟨rfl, hg6⟩
        simp only [Act.put, List.setIfInBounds_toArray, List.set_cons_zero, List.set_cons_succ]
        repeat (first
          | (refine HavG.skip (fun _ => rfl) ?_; simp only [Act.put, List.setIfInBounds_toArray, List.set_cons_zero, List.set_cons_succ])
          | (refine HavG.val (fun _ => rfl) ?_ (fun x w hw _ => ?_) ?_; rotate_left; (focus (have hc := hw.cells; clear hw; go_simp; first | done | rfl)); simp only [Act.put, List.setIfInBounds_toArray, List.set_cons_zero, List.set_cons_succ]))
        refine HavG.tail (by kernel_rfl) (by kernel_rfl) (fun x w hw _ => ?_)
        have HW := Lib.hid hw
        have hgw := Lib.hid (HGW.out.trans HW.out)
        have d1 := (HW.out.cells _ _ HL1.out).trans HD1.out
        have l1 := Nat.lt_of_lt_of_le HL1.out HW.out.size
        clear hw c0 c1 c2 c3 cl k0 k1 k2 k3 kl
        have ho := HX.out.keep hgw.out
        have k0 := ho.cell_at (i := 0) rfl
        have k1 := ho.cell_at (i := 1) rfl
        have k2 := ho.cell_at (i := 2) rfl
        have k3 := ho.cell_at (i := 3) rfl
        have kl := ho.lt
        have ho := HY.out.keep hgw.out
        have c0 := ho.cell_at (i := 0) rfl
        have c1 := ho.cell_at (i := 1) rfl
        have c2 := ho.cell_at (i := 2) rfl
        have c3 := ho.cell_at (i := 3) rfl
        have cl := ho.lt
        clear ho
        go_upto_region 19 with fail
        cases t
        · refine wp_region_hav_lit follows (by kernel_rfl) ?_
          iterate 8 (first
            | (refine HavG.skip (fun _ => rfl) ?_; simp only [Act.put, List.setIfInBounds_toArray, List.set_cons_zero, List.set_cons_succ])
            | (refine HavG.val (fun _ => rfl) ?_ (fun x w hw _ => ?_) ?_; rotate_left; (focus (have hc := hw.cells; clear hw; go_simp; first | done | rfl)); simp only [Act.put, List.setIfInBounds_toArray, List.set_cons_zero, List.set_cons_succ]))
          refine HavG.det (fun _ => rfl) (.bool s) (fun x w' hw hd => ?_) ?_
          · clear hd
            have HW2 := Lib.hid hw
            clear hw
            go_simp
            refine (HSM.out _ (HW.out.trans HW2.out)).mono ?_
            rintro e w6 ⟨rfl, hg6⟩
            exact ⟨rfl, hg6⟩
          simp only [Act.put, List.setIfInBounds_toArray, List.set_cons_zero, List.set_cons_succ]
          repeat (first
            | (refine HavG.skip (fun _ => rfl) ?_; simp only [Act.put, List.setIfInBounds_toArray, List.set_cons_zero, List.set_cons_succ])
            | (refine HavG.val (fun _ => rfl) ?_ (fun x w hw _ => ?_) ?_; rotate_left; (focus (have hc := hw.cells; clear hw; go_simp; first | done | rfl)); simp only [Act.put, List.setIfInBounds_toArray, List.set_cons_zero, List.set_cons_succ]))
          refine HavG.tail (by kernel_rfl) (by kernel_rfl) (fun x w3 hw3 _ => ?_)
          have HW3 := Lib.hid hw3
          clear hw3 c0 c1 c2 c3 cl k0 k1 k2 k3 kl
          go_wp2_with fail
          exact ⟨⟨i + 1 + 1, by rw [take_mem hlt1, HTT.out, HXJ.out, HSS.out]; rfl, by go_num, by omega, (hg.out.trans HW.out).trans HW3.out⟩, by simp [intOf]; omega⟩
        · refine wp_region_hav_lit follows (by kernel_rfl) ?_
          repeat (first
            | (refine HavG.skip (fun _ => rfl) ?_; simp only [Act.put, List.setIfInBounds_toArray, List.set_cons_zero, List.set_cons_succ])
            | (refine HavG.val (fun _ => rfl) ?_ (fun x w hw _ => ?_) ?_; rotate_left; (focus (have hc := hw.cells; clear hw; go_simp; first | done | rfl)); simp only [Act.put, List.setIfInBounds_toArray, List.set_cons_zero, List.set_cons_succ]))
          refine HavG.tail (by kernel_rfl) (by kernel_rfl) (fun x w3 hw3 _ => ?_)
          have HW3 := Lib.hid hw3
          clear hw3 c0 c1 c2 c3 cl k0 k1 k2 k3 kl
          go_wp2_with fail
          exact ⟨⟨i + 1 + 1, by rw [take_mem hlt1, HTT.out]; rfl, by go_num, by omega, (hg.out.trans HW.out).trans HW3.out⟩, by simp [intOf]; omega⟩
    · obtain rfl : n1 = j := by omega
      have HGW := Lib.hid (G7.out.trans hg.out)
      have ho := HX.out.keep HGW.out
      have k0 := ho.cell_at (i := 0) rfl
      have k1 := ho.cell_at (i := 1) rfl
      have k2 := ho.cell_at (i := 2) rfl
      have k3 := ho.cell_at (i := 3) rfl
      have kl := ho.lt
      have ho := HY.out.keep HGW.out
      have c0 := ho.cell_at (i := 0) rfl
      have c1 := ho.cell_at (i := 1) rfl
      have c2 := ho.cell_at (i := 2) rfl
      have c3 := ho.cell_at (i := 3) rfl
      have cl := ho.lt
      clear ho
      go_wp2_with fail
      clear c0 c1 c2 c3 cl k0 k1 k2 k3 kl
      have HWW : Hid (∀ w', Grew w7 w' → Calls Tryz.prog 7 #[.pointer (some ⟨bk, 0, none⟩), .int .i64 k, .slice ya n2 yc] w' fun e W' => e = .returned (.bool t) ∧ Grew w' W') := Lib.hid fun w' hw => (HHA.out w' _ wl hw (by unfold reachN; omega) (HIW.out w' hw)).mono fun e W' ⟨b, e1, hb, hg⟩ => ⟨by
        have : b = t := by
          rw [← HTT.out, Bool.eq_iff_iff, hb, decide_eq_true_iff, List.take_of_length_le (by rw [HLN.out]; exact Nat.le_refl _), LAW.out.has wl (by omega)]
          exact ⟨fun h => ⟨h.2.2.1, by simpa using h.2.2.2⟩, fun h => ⟨HHR.out, by omega, h.1, by simpa using h.2⟩⟩
        rw [e1, this], hg⟩
      refine (sLeast_ok (bookOf g) k V bk _ wr (HBA.out _ (G47.out.trans hg.out)) (firsts27_le g)).mono ?_
      rintro e w8 ⟨hle, hg8⟩
      have HG8 := Lib.hid (hg.out.trans hg8)
      have GW8 := Lib.hid (G7.out.trans HG8.out)
      clear hg8
      have ho := HX.out.keep GW8.out
      have k0 := ho.cell_at (i := 0) rfl
      have k1 := ho.cell_at (i := 1) rfl
      have k2 := ho.cell_at (i := 2) rfl
      have k3 := ho.cell_at (i := 3) rfl
      have kl := ho.lt
      have ho := HY.out.keep GW8.out
      have c0 := ho.cell_at (i := 0) rfl
      have c1 := ho.cell_at (i := 1) rfl
      have c2 := ho.cell_at (i := 2) rfl
      have c3 := ho.cell_at (i := 3) rfl
      have cl := ho.lt
      clear ho
      cases hls : (bookOf g).leastL k with
      | none =>
        rw [hls] at hle
        dsimp only at hle
        obtain rfl := hle
        have hz : n1 = 0 := by
          rcases hL : L with _ | ⟨l0, L'⟩
          · rw [← HLN.out, hL]; rfl
          · have := LAW.out.head l0 L' hL
            rw [this] at hls
            cases hls
        subst hz
        go_wp2_with fail
        refine (HWW.out _ HG8.out).mono ?_
        rintro e w10 ⟨rfl, hg10⟩
        have G10 := Lib.hid (GW8.out.trans hg10)
        clear hg10 c0 c1 c2 c3 cl k0 k1 k2 k3 kl
        have ho := HX.out.keep G10.out
        have k0 := ho.cell_at (i := 0) rfl
        have k1 := ho.cell_at (i := 1) rfl
        have k2 := ho.cell_at (i := 2) rfl
        have k3 := ho.cell_at (i := 3) rfl
        have kl := ho.lt
        have ho := HY.out.keep G10.out
        have c0 := ho.cell_at (i := 0) rfl
        have c1 := ho.cell_at (i := 1) rfl
        have c2 := ho.cell_at (i := 2) rfl
        have c3 := ho.cell_at (i := 3) rfl
        have cl := ho.lt
        clear ho
        go_wp2_with fail
        refine (HLV.out _ G10.out).mono ?_
        rintro e w9 ⟨rfl, hg9⟩
        have HG9 := Lib.hid (Grew.trans G10.out hg9)
        clear hg9
        go_wp2_with fail
        exact HEND.out _ HG9.out
      | some w0 =>
        rw [hls] at hle
        dsimp only at hle
        obtain ⟨u, rfl, hrow⟩ := hle
        obtain ⟨ua, uc, rfl⟩ : ∃ a c, u = .slice a w0.length c := loose_form hrow
        have HU : Hid (∀ w', Grew w8 w' → IntsV w' w'.heap.size (.slice ua w0.length uc) w0) := Lib.hid fun w' hw => loose_ints ((But.of_grew (F := fun _ => False) hw).row hrow (fun _ _ h => h))
        have HSND := Lib.hid (LAW.out.sound w0 hls)
        have HLG : Hid (∀ w', Grew w7 w' → Calls Tryz.prog 8 #[.pointer (some ⟨bk, 0, none⟩), .int .i64 k] w' fun e W' => e = .returned (.int .i64 w0.length) ∧ W' = w') := Lib.hid fun w' hw => (slong_ok (bookOf g) k V bk _ w' (HBA.out _ (G47.out.trans hw))).mono fun e W' ⟨e1, e2⟩ => ⟨by
          rw [e1, if_pos HHR.out, List.getD_eq_getElem?_getD, Int.toNat_natCast, HSND.out.2.2.1]
          rfl, e2⟩
        have HUH : Hid (∀ w', Grew w8 w' → Calls Tryz.prog 7 #[.pointer (some ⟨bk, 0, none⟩), .int .i64 k, .slice ua w0.length uc] w' fun e W' => e = .returned (.bool (decide (w0.length ≤ 64))) ∧ Grew w' W') := Lib.hid fun w' hw => (HHA.out w' _ w0 (HG8.out.trans hw) (by have := HSND.out.2.2.2; unfold reachN; omega) (HU.out w' hw)).mono fun e W' ⟨b, e1, hb, hg⟩ => ⟨by
          have : b = decide (w0.length ≤ 64) := by
            rw [Bool.eq_iff_iff, hb, decide_eq_true_iff]
            exact ⟨fun h => h.2.1, fun h => ⟨HHR.out, h, HSND.out.1, by simpa using HSND.out.2.1⟩⟩
          rw [e1, this], hg⟩
        have HLONG : Hid (n1 = 0 → lo < w0.length) := Lib.hid fun hz => by
          refine Nat.lt_of_not_le fun hc => ?_
          have := (LAW.out.has w0 (by omega)).2 ⟨HSND.out.1, HSND.out.2.1⟩
          have := List.length_pos_of_mem this
          have := HLN.out
          omega
        have HHEAD : Hid (∀ h : 0 < L.length, L[0] = w0) := Lib.hid fun h => by
          obtain ⟨l0, L', hL⟩ := List.exists_cons_of_length_pos h
          have e := Option.some.inj ((LAW.out.head l0 L' hL).symm.trans hls)
          have h2 : L[0]? = some l0 := by rw [hL]; rfl
          exact (Option.some.inj ((List.getElem?_eq_getElem h).symm.trans h2)).trans e
        have hw256 := HSND.out.2.2.2
        obtain ⟨wn, hwn⟩ : ∃ m, w0.length = m := ⟨_, rfl⟩
        have HWN0 := Lib.hid hwn
        rw [hwn] at HU HLG HUH HLONG hw256 ⊢
        obtain ⟨q, hq⟩ : ∃ q, decide (wn ≤ 64) = q := ⟨_, rfl⟩
        rw [hq] at HUH
        clear hwn hrow hls
        go_wp2_with fail
        refine (HWW.out _ HG8.out).mono ?_
        rintro e w10 ⟨rfl, hg10⟩
        have HG10 := Lib.hid hg10
        have G10 := Lib.hid (GW8.out.trans hg10)
        clear hg10 c0 c1 c2 c3 cl k0 k1 k2 k3 kl
        have ho := HX.out.keep G10.out
        have k0 := ho.cell_at (i := 0) rfl
        have k1 := ho.cell_at (i := 1) rfl
        have k2 := ho.cell_at (i := 2) rfl
        have k3 := ho.cell_at (i := 3) rfl
        have kl := ho.lt
        have ho := HY.out.keep G10.out
        have c0 := ho.cell_at (i := 0) rfl
        have c1 := ho.cell_at (i := 1) rfl
        have c2 := ho.cell_at (i := 2) rfl
        have c3 := ho.cell_at (i := 3) rfl
        have cl := ho.lt
        clear ho
        go_wp2_with fail
        refine (HUH.out _ HG10.out).mono ?_
        rintro e w11 ⟨rfl, hg11⟩
        have HG11 := Lib.hid (HG10.out.trans hg11)
        have G11 := Lib.hid (G10.out.trans hg11)
        clear hg11 c0 c1 c2 c3 cl k0 k1 k2 k3 kl
        have ho := HX.out.keep G11.out
        have k0 := ho.cell_at (i := 0) rfl
        have k1 := ho.cell_at (i := 1) rfl
        have k2 := ho.cell_at (i := 2) rfl
        have k3 := ho.cell_at (i := 3) rfl
        have kl := ho.lt
        have ho := HY.out.keep G11.out
        have c0 := ho.cell_at (i := 0) rfl
        have c1 := ho.cell_at (i := 1) rfl
        have c2 := ho.cell_at (i := 2) rfl
        have c3 := ho.cell_at (i := 3) rfl
        have cl := ho.lt
        clear ho
        cases q
        · have hq := of_decide_eq_false hq
          go_wp2_with fail
          refine (HLG.out _ (HG8.out.trans HG11.out)).mono ?_
          rintro e w12 ⟨rfl, rfl⟩
          rcases Nat.eq_zero_or_pos n1 with hz | hp
          · have hlw := HLONG.out hz
            subst hz
            go_wp2_with fail
            refine (HLV.out _ G11.out).mono ?_
            rintro e w9 ⟨rfl, hg9⟩
            have HG9 := Lib.hid (Grew.trans G11.out hg9)
            clear hg9
            go_wp2_with fail
            exact HEND.out _ HG9.out
          · have hlt1 : 0 < L.length := by rw [HLN.out]; exact hp
            obtain ⟨g1, a1, c1', o1, l1, d1, r1⟩ := (HO.out.keep (HG8.out.trans HG11.out)).get hlt1
            have hva : va = some ⟨g1, 0, none⟩ := by
              rcases HO.out.form with ⟨e, h0⟩ | ⟨g, c, e⟩
              · omega
              · cases e; cases o1; rfl
            subst hva
            have hh := HHEAD.out hlt1
            rw [hh] at d1 r1
            have HSM : Hid (∀ w, Grew w12 w → Calls Tryz.prog 14 #[.slice a1 w0.length c1', .slice ua wn uc] w fun e W' => e = .returned (.bool true) ∧ Grew w W') := Lib.hid fun w hw => by
              have := ssameNums_ok w0 w0 w (.slice a1 w0.length c1') (.slice ua wn uc) (by have := HWN0.out; omega) (by have := HWN0.out; omega) (loose_ints ((But.of_grew (F := fun _ => False) hw).row r1 (fun _ _ h => h))) (HU.out w (HG11.out.trans hw))
              rw [decide_eq_true rfl] at this
              exact this
            rw [HWN0.out] at d1 HSM
            have hj0 : (0 : Int) < n1 := by omega
            clear hh r1 o1
            go_wp2_with fail
            refine (HSM.out _ (Grew.refl _)).mono ?_
            rintro e w13 ⟨rfl, hg13⟩
            have G13 := Lib.hid (G11.out.trans hg13)
            clear hg13
            go_wp2_with fail
            refine (HLV.out _ G13.out).mono ?_
            rintro e w9 ⟨rfl, hg9⟩
            have HG9 := Lib.hid (Grew.trans G13.out hg9)
            clear hg9
            go_wp2_with fail
            exact HEND.out _ HG9.out
        · have hq := of_decide_eq_true hq
          go_wp2_with fail
          refine (HLG.out _ (HG8.out.trans HG11.out)).mono ?_
          rintro e w12 ⟨rfl, rfl⟩
          rcases Nat.eq_zero_or_pos n1 with hz | hp
          · have hlw := HLONG.out hz
            subst hz
            go_wp2_with fail
            refine (HLV.out _ G11.out).mono ?_
            rintro e w9 ⟨rfl, hg9⟩
            have HG9 := Lib.hid (Grew.trans G11.out hg9)
            clear hg9
            go_wp2_with fail
            exact HEND.out _ HG9.out
          · have hlt1 : 0 < L.length := by rw [HLN.out]; exact hp
            obtain ⟨g1, a1, c1', o1, l1, d1, r1⟩ := (HO.out.keep (HG8.out.trans HG11.out)).get hlt1
            have hva : va = some ⟨g1, 0, none⟩ := by
              rcases HO.out.form with ⟨e, h0⟩ | ⟨g, c, e⟩
              · omega
              · cases e; cases o1; rfl
            subst hva
            have hh := HHEAD.out hlt1
            rw [hh] at d1 r1
            have HSM : Hid (∀ w, Grew w12 w → Calls Tryz.prog 14 #[.slice a1 w0.length c1', .slice ua wn uc] w fun e W' => e = .returned (.bool true) ∧ Grew w W') := Lib.hid fun w hw => by
              have := ssameNums_ok w0 w0 w (.slice a1 w0.length c1') (.slice ua wn uc) (by have := HWN0.out; omega) (by have := HWN0.out; omega) (loose_ints ((But.of_grew (F := fun _ => False) hw).row r1 (fun _ _ h => h))) (HU.out w (HG11.out.trans hw))
              rw [decide_eq_true rfl] at this
              exact this
            rw [HWN0.out] at d1 HSM
            have hj0 : (0 : Int) < n1 := by omega
            clear hh r1 o1
            go_wp2_with fail
            refine (HSM.out _ (Grew.refl _)).mono ?_
            rintro e w13 ⟨rfl, hg13⟩
            have G13 := Lib.hid (G11.out.trans hg13)
            clear hg13
            go_wp2_with fail
            refine (HLV.out _ G13.out).mono ?_
            rintro e w9 ⟨rfl, hg9⟩
            have HG9 := Lib.hid (Grew.trans G13.out hg9)
            clear hg9
            go_wp2_with fail
            exact HEND.out _ HG9.out
end Go.Proofs.YtgegjjfjhpokpaaGreatDoor
