/- A match of the model: one kind of nodes. -/
import Derived.Test.YtoflfkffldpglaaGreatDoorQM36
namespace Go.Proofs.YtoflfkffldpglaaGreatDoor
open Go.RowKit
set_option maxHeartbeats 8000000 in
set_option maxRecDepth 40000 in
theorem match_ref (E : ME) (hE : E.Ok) (s : Int) (hs : 0 < s) (hs2 : s ≤ 30000) (IH : Hid (∀ t, t ≤ s - 1 → -2000000 ≤ t → ∀ n, E.Go t n)) (nm tx : ByteArray) (set : List (Int × Int)) (subs : List Nd) : E.Go s (.mk 5 nm tx set subs) := by
  intro hm i hi W u0 u1 u2 u3 u4 hA hN
  rw [NodeAt] at hN
  obtain ⟨hk, h1, h2, h3, h4, h5, ⟨sa, sc, h6, h6', h7⟩, na, nc, h8, h8', h9⟩ := hN
  obtain rfl := Option.some.inj h3
  obtain rfl := Option.some.inj h4
  obtain rfl := Option.some.inj h5
  obtain rfl := Option.some.inj h6
  obtain rfl := Option.some.inj h8
  clear h3 h4 h5 h6 h8 h7 hk
  unfold reachN at h1 h2 h6' h8'
  obtain ⟨nb, hnb⟩ : ∃ nb, W.heap.size = nb := ⟨_, rfl⟩
  obtain ⟨w1, hw1⟩ : ∃ w1, W.alloc (.cells #[.int .u8 5, .string nm, .string tx, .slice sa set.length sc, .slice na subs.length nc] 42) = w1 := ⟨_, rfl⟩
  have g1 : Grew W w1 := hw1 ▸ grew_alloc W _
  have o1 : Owns w1 nb [.int .u8 5, .string nm, .string tx, .slice sa set.length sc, .slice na subs.length nc] 42 := by rw [← hw1, ← hnb]; exact Owns.alloc W _ _
  have hA1 := hA.grew g1
  obtain ⟨w2, hw2⟩ : ∃ w2, w1.setCell ⟨E.mb, 5, none⟩ (.int .i64 (s - 1)) = w2 := ⟨_, rfl⟩
  have hA2 : E.At (s - 1) w2 := hw2 ▸ (hA1.set (s - 1)).1
  have r2 : E.R w1 w2 := hw2 ▸ (hA1.set (s - 1)).2
  have hne : nb ≠ E.mb := by have := hA.lt; omega
  have o2 := r2.owns o1 hne
  have RW : E.R W w2 := (ME.R.grew g1).trans r2
  have R2 := Lib.hid RW
  have hsz : nb ≤ w1.heap.size := by rw [← hnb]; exact g1.size
  have hsz2 : nb ≤ w2.heap.size := Nat.le_trans hsz r2.size
  have HSZ := Lib.hid hsz2
  have O2 := Lib.hid o2
  have A2 := Lib.hid hA2
  have HN9 : Hid (NodesAt w2 E.lim na 0 subs) := Lib.hid (h9.keep (RW.below hA))
  have HE := Lib.hid hE
  have HM := Lib.hid hm
  have HI := Lib.hid hi
  have HNE := Lib.hid hne
  obtain ⟨Q, hQ⟩ : ∃ Q : Ending → World → Prop, E.Res s (.mk 5 nm tx set subs) i W = Q := ⟨_, rfl⟩
  have HEND : Hid (∀ v tz s' m w', E.At s' w' → E.R w2 w' → TrV w' nb v m → MNum E s (.mk 5 nm tx set subs) i tz s' m → Q (.returned (.tuple #[v, .int .i64 tz])) w') := Lib.hid fun v tz s' m w' a1 a2 a3 a4 => by rw [← hQ]; exact ⟨v, tz, s', m, rfl, a1, RW.trans a2, hnb ▸ a3, a4⟩
  rw [hQ]
  have m5 := hA1.own.cell_at (i := 5) rfl
  have mf := hA1.own.free 5
  have ml := hA1.own.lt
  have q0 := hA2.own.cell_at (i := 0) rfl
  have q1 := hA2.own.cell_at (i := 1) rfl
  have q2 := hA2.own.cell_at (i := 2) rfl
  have q3 := hA2.own.cell_at (i := 3) rfl
  have q4 := hA2.own.cell_at (i := 4) rfl
  have q5 := hA2.own.cell_at (i := 5) rfl
  have ql := hA2.own.lt
  have n0 := o2.cell_at (i := 0) rfl
  have n1 := o2.cell_at (i := 1) rfl
  have n4 := o2.cell_at (i := 4) rfl
  have nl := o2.lt
  have hneg : decide (s - 1 < 0) = false := decide_eq_false (by omega)
  have hneg2 : ¬ (s - 1 < 0) := by omega
  clear hQ g1 o1 hA1 hA2 r2 o2 RW hA h9 hE hm hsz hsz2
  obtain ⟨kx, hkl, hkf, hbod⟩ := HM.out.self.ref rfl
  dsimp only [Nd.name] at hkf hbod
  have HGR : Hid (∀ w', Grew w2 w' → GrAt w' w'.heap.size (some (.string E.g.name)) (some (.int .i64 E.g.bound)) (some (.int .i64 E.g.states)) (some (.slice E.ra E.g.rules.length E.rc)) E.g) := Lib.hid fun w' hw => (A2.out.gr.keep (hw.mono (Nat.le_trans A2.out.low (Nat.le_of_lt A2.out.lt)))).mono (Nat.le_trans (Nat.le_trans A2.out.low (Nat.le_of_lt A2.out.lt)) hw.size)
  have HFD : Hid (∀ w', Grew w2 w' → Calls Tryz.prog 27 #[.agg #[.string E.g.name, .int .i64 E.g.bound, .int .i64 E.g.states, .slice E.ra E.g.rules.length E.rc], .string nm] w' fun e w9 => e = .returned (.int .i64 (kx : Int)) ∧ Grew w' w9) := Lib.hid fun w' hw => by
    have := find_ok E.g nm w' _ _ _ _ (HGR.out w' hw)
    rw [hkf] at this
    exact this
  have HBD := Lib.hid hbod
  have HKL := Lib.hid hkl
  clear hkf hbod
  unfold ME.ptr
  subst hnb
  go_enter Tryz.func8, Tryz.ntmps8
  go_wp2_with fail
  refine wp_region_hav_lit follows (by kernel_rfl) ?_
  iterate 6 (first
    | (refine HavG.skip (fun _ => rfl) ?_; simp only [Act.put, List.setIfInBounds_toArray, List.set_cons_zero, List.set_cons_succ])
    | (refine HavG.val (fun _ => rfl) ?_ (fun x w hw _ => ?_) ?_; rotate_left; (focus (have hc := hw.cells; clear hw; go_simp; first | done | rfl)); simp only [Act.put, List.setIfInBounds_toArray, List.set_cons_zero, List.set_cons_succ]))
  refine HavG.det (fun _ => rfl) (.int .i64 (kx : Int)) (fun x w hw hd => ?_) ?_
  · clear hd
    have HW := Lib.hid hw
    clear hw
    go_simp
    refine (HFD.out _ HW.out).mono ?_
    rintro e w' ⟨rfl, hg⟩
    exact ⟨rfl, hg⟩
  simp only [Act.put, List.setIfInBounds_toArray, List.set_cons_zero, List.set_cons_succ]
  refine HavG.tail (by kernel_rfl) (by kernel_rfl) (fun x w hw _ => ?_)
  have GW := Lib.hid hw
  have q3' := (hw.cells _ _ ql).trans q3
  have AW := Lib.hid (A2.out.grew hw)
  have ql' : E.mb < w.heap.size := Nat.lt_of_lt_of_le ql hw.size
  clear hw q0 q1 q2 q3 q4 q5 n0 n1 n4 m5 mf ml hw1 hw2 ql nl
  obtain ⟨-, -, -, -, -, -, ra2, rc2, e6, -, hru⟩ := AW.out.gr
  have e7 : E.ra = ra2 := by injection (Option.some.inj e6)
  subst e7
  obtain ⟨b, off, hra, hb, hrule⟩ := hru.get hkl
  rw [hra] at q3'
  simp only [Nat.zero_add] at hrule
  obtain ⟨y2, y3, y4, y5, y6, c0, c1, c2, c3, c4, c5, c6, c7, c8, c9, hrule, hnode⟩ := hrule.vals
  have HS := Lib.hid (IH.out (s - 1) (Int.le_refl _) (by omega) _ (HE.out.mts _ (List.mem_of_getElem? HBD.out)) i hi w _ _ _ _ _ AW.out hnode)
  unfold ME.ptr at HS
  have hbl : b < w.heap.size := by have := AW.out.low; have := AW.out.lt; omega
  have hkl2 : (kx : Int) < (E.g.rules.length : Int) := by omega
  clear hru hrule hnode hra e6
  go_wp2_with fail
  refine HS.out.mono ?_
  rintro e w3 ⟨v, tz, s', k, rfl, hA3, hR3, hT3, hN3⟩
  have HSB := Lib.hid (Nat.le_trans HSZ.out GW.out.size)
  have q0' := hA3.own.cell_at (i := 0) rfl
  have q1' := hA3.own.cell_at (i := 1) rfl
  have q2' := hA3.own.cell_at (i := 2) rfl
  have q3'' := hA3.own.cell_at (i := 3) rfl
  have qm := hA3.own.lt
  have A3 := Lib.hid hA3
  have R3 := Lib.hid ((ME.R.grew GW.out).trans hR3)
  have R3SZ := Lib.hid hR3.size
  have T3 := Lib.hid hT3
  have N3 := Lib.hid hN3
  obtain ⟨va, vc, rfl⟩ := hT3.form
  rcases hN3.place with rfl | ⟨j, rfl, hj⟩
  · clear hA3 hR3 hT3 hN3 q3' HS hbl hkl2 c0 c1 c2 c3 c4 c5 c6 c7 c8 c9
    go_wp2_with fail
    show Q (.returned (.tuple #[.slice none 0 0, .int .i64 (-1)])) _
    exact HEND.out _ _ _ _ _ A3.out R3.out (TrV.nil _ _) (N3.out.up hs (by omega) (by omega) (.ref HBD.out) N3.out.place)
  · have hj0 : ¬ ((j : Int) < 0) := by omega
    have hj1 : decide ((j : Int) < 0) = false := decide_eq_false hj0
    have HGR3 : Hid (∀ w', Grew w3 w' → GrAt w' w'.heap.size (some (.string E.g.name)) (some (.int .i64 E.g.bound)) (some (.int .i64 E.g.states)) (some (.slice E.ra E.g.rules.length E.rc)) E.g) := Lib.hid fun w' hw => (A3.out.grew hw).gr.mono (Nat.le_trans (A3.out.grew hw).low (Nat.le_of_lt (A3.out.grew hw).lt))
    clear HGR
    have HGR := HGR3
    clear HGR3
    have HOF : Hid (∀ w', Grew w3 w' → ∀ v, SortR [0] v w' → Calls Tryz.prog 21 #[.agg #[.string E.g.name, .int .i64 E.g.bound, .int .i64 E.g.states, .slice E.ra E.g.rules.length E.rc], v] w' fun e w9 => ∃ u, e = .returned u ∧ RowR (E.g.of [0]) u w9 ∧ Grew w' w9) := Lib.hid fun w' hw v hv => by
      obtain ⟨sb, rfl, hs⟩ := hv
      refine (mof_ok E.g [0] (by simp) w' _ _ _ _ (HGR.out w' hw) (by have := HE.out.rules; omega) sb _ hs).mono ?_
      rintro e w9 ⟨u, rfl, h1, h2⟩
      exact ⟨u, rfl, h1.weak (Nat.zero_le _), h2⟩
    have HNB : Hid (∀ w' v, RowR (E.g.of [0]) v w' → Calls Tryz.prog 26 #[.agg #[.string E.g.name, .int .i64 E.g.bound, .int .i64 E.g.states, .slice E.ra E.g.rules.length E.rc], .int .i64 (kx : Int), v] w' fun e w9 => ∃ c : Int, e = .returned (.int .i64 c) ∧ Grew w' w9) := Lib.hid fun w' v hv => by
      have hl := Gr.ofTo_len E.g [0] E.g.rules.length
      have hn : (E.g.of [0]).length ≤ reachN := by unfold reachN; have := HE.out.rules; unfold Gr.of; omega
      refine (number21_ok (E.g.of [0]) (kx : Int) w' _ _ _ _ v hn (loose_ints hv)).mono ?_
      rintro e w9 ⟨rfl, h2⟩
      exact ⟨_, rfl, h2⟩
    clear hA3 hR3 hT3 hN3 q3' HS hbl hkl2 c0 c1 c2 c3 c4 c5 c6 c7 c8 c9
    go_wp2_with fail
    refine wp_region_hav_lit follows (by kernel_rfl) ?_
    iterate 9 (first
      | (refine HavG.skip (fun _ => rfl) ?_; simp only [Act.put, List.setIfInBounds_toArray, List.set_cons_zero, List.set_cons_succ])
      | (refine HavG.val (fun _ => rfl) ?_ (fun x w hw _ => ?_) ?_; rotate_left; (focus (have hc := hw.cells; clear hw; go_simp; first | done | rfl)); simp only [Act.put, List.setIfInBounds_toArray, List.set_cons_zero, List.set_cons_succ]))
    refine HavG.any (fun _ => rfl) (SortR [0]) (fun _ _ _ hg h => SortR.keep hg h) (fun x w hw _ => ?_) ?_
    · clear hw
      go_simp
      refine ⟨grew_alloc _ _, w.heap.size, rfl, by simp, fun k hk => ?_⟩
      have hk : k = 0 := by simp at hk; omega
      subst hk
      exact (Owns.alloc w [.int .u8 0] 37).cell_at (i := 0) rfl
    simp only [Act.put, List.setIfInBounds_toArray, List.set_cons_zero, List.set_cons_succ]
    refine HavG.any (fun _ => rfl) (RowR (E.g.of [0])) (fun _ _ _ hg h => RowR.keep hg h) (fun x w hw hd => ?_) ?_
    · have hd2 := hd _ (List.mem_append_right _ (List.mem_singleton.2 rfl)) (by kernel_rfl)
      dsimp only at hd2
      clear hd
      generalize x (0 + 1 + 1 + 1 + 1 + 1 + 1 + 1 + 1 + 1) = y2 at *
      have HC := Lib.hid (HOF.out w hw y2 hd2)
      obtain ⟨sb, rfl, hs⟩ := hd2
      clear hw hs
      go_simp
      refine HC.out.mono ?_
      rintro e w' ⟨v, rfl, hv, hb⟩
      exact ⟨hb, hv⟩
    simp only [Act.put, List.setIfInBounds_toArray, List.set_cons_zero, List.set_cons_succ]
    refine HavG.any (fun _ => rfl) IntR (fun _ _ _ _ h => h) (fun x w hw hd => ?_) ?_
    · have hd2 := hd _ (List.mem_append_right _ (List.mem_singleton.2 rfl)) (by kernel_rfl)
      dsimp only at hd2
      clear hd hw
      generalize x (0 + 1 + 1 + 1 + 1 + 1 + 1 + 1 + 1 + 1 + 1) = y2 at *
      have HC := Lib.hid (HNB.out w y2 hd2)
      obtain ⟨ya, yc, rfl⟩ := loose_form hd2
      clear hd2
      go_simp
      refine HC.out.mono ?_
      rintro e w' ⟨c, rfl, hg⟩
      exact ⟨hg, c, rfl⟩
    simp only [Act.put, List.setIfInBounds_toArray, List.set_cons_zero, List.set_cons_succ]
    iterate 1 (first
      | (refine HavG.skip (fun _ => rfl) ?_; simp only [Act.put, List.setIfInBounds_toArray, List.set_cons_zero, List.set_cons_succ])
      | (refine HavG.val (fun _ => rfl) ?_ (fun x w hw _ => ?_) ?_; rotate_left; (focus (have hc := hw.cells; clear hw; go_simp; first | done | rfl)); simp only [Act.put, List.setIfInBounds_toArray, List.set_cons_zero, List.set_cons_succ]))
    refine HavG.any (fun _ => rfl) (TreeA va k vc) (fun _ _ _ _ h => h) (fun x w hw hd => ?_) ?_
    · have hd2 := hd _ (List.mem_append_right _ (List.mem_singleton.2 rfl)) (by kernel_rfl)
      dsimp only at hd2
      clear hd hw
      generalize x (0 + 1 + 1 + 1 + 1 + 1 + 1 + 1 + 1 + 1 + 1 + 1) = y2 at *
      obtain ⟨c, rfl⟩ := hd2
      go_simp
      exact ⟨Grew.refl w, c, rfl⟩
    simp only [Act.put, List.setIfInBounds_toArray, List.set_cons_zero, List.set_cons_succ]
    refine HavG.any (fun _ => rfl) (TreeR W.heap.size 1) (fun _ _ _ hg h => TreeR.keep hg h) (fun x w hw hd => ?_) ?_
    · have hd2 := hd _ (List.mem_append_right _ (List.mem_singleton.2 rfl)) (by kernel_rfl)
      have hle : W.heap.size ≤ w.heap.size := Nat.le_trans (Nat.le_trans HSB.out R3SZ.out) hw.size
      dsimp only at hd2
      clear hd hw
      generalize x (0 + 1 + 1 + 1 + 1 + 1 + 1 + 1 + 1 + 1 + 1 + 1 + 1 + 1) = y2 at *
      obtain ⟨c, rfl⟩ := hd2
      go_simp
      exact ⟨grew_alloc _ _, TrV.one w _ _ _ _ _ (by simp [Value.oneCell']) _ hle⟩
    simp only [Act.put, List.setIfInBounds_toArray, List.set_cons_zero, List.set_cons_succ]
    iterate 1 (first
      | (refine HavG.skip (fun _ => rfl) ?_; simp only [Act.put, List.setIfInBounds_toArray, List.set_cons_zero, List.set_cons_succ])
      | (refine HavG.val (fun _ => rfl) ?_ (fun x w hw _ => ?_) ?_; rotate_left; (focus (have hc := hw.cells; clear hw; go_simp; first | done | rfl)); simp only [Act.put, List.setIfInBounds_toArray, List.set_cons_zero, List.set_cons_succ]))
    refine HavG.any (fun _ => rfl) (TreeR W.heap.size 1) (fun _ _ _ hg h => TreeR.keep hg h) (fun x w hw hd => ?_) ?_
    · have hd2 := hd _ (List.mem_append_right _ (List.mem_singleton.2 rfl)) (by kernel_rfl)
      dsimp only at hd2
      clear hd hw
      generalize x (0 + 1 + 1 + 1 + 1 + 1 + 1 + 1 + 1 + 1 + 1 + 1 + 1 + 1 + 1) = y2 at *
      have HD := Lib.hid hd2
      obtain ⟨ya, yc, rfl⟩ := TrV.form hd2
      clear hd2
      go_simp
      exact ⟨Grew.refl w, HD.out⟩
    simp only [Act.put, List.setIfInBounds_toArray, List.set_cons_zero, List.set_cons_succ]
    refine HavG.tail (by kernel_rfl) (by kernel_rfl) (fun x w hw hd => ?_)
    have hd2 := hd _ (List.mem_append_right _ (List.mem_singleton.2 rfl))
    dsimp only at hd2
    clear hd
    generalize x (0 + 1 + 1 + 1 + 1 + 1 + 1 + 1 + 1 + 1 + 1 + 1 + 1 + 1 + 1 + 1 + 1) = y2 at *
    have HD := Lib.hid hd2
    have HW3 := Lib.hid hw
    obtain ⟨ya, yc, rfl⟩ := TrV.form hd2
    clear hd2 hw
    go_wp2_with fail
    show Q (.returned (.tuple #[.slice ya 1 yc, .int .i64 (j : Int)])) _
    exact HEND.out _ _ _ _ _ (A3.out.grew HW3.out) (R3.out.trans (ME.R.grew HW3.out)) HD.out (N3.out.up hs (by omega) (Nat.le_refl _) (.ref HBD.out) N3.out.place)
end Go.Proofs.YtoflfkffldpglaaGreatDoor

/- A match of the model: one kind of nodes. -/
namespace Go.Proofs.YtoflfkffldpglaaGreatDoor
open Go.RowKit
set_option maxHeartbeats 8000000 in
set_option maxRecDepth 40000 in
theorem match_seq (E : ME) (hE : E.Ok) (s : Int) (hs : 0 < s) (hs2 : s ≤ 30000) (IH : Hid (∀ t, t ≤ s - 1 → -2000000 ≤ t → ∀ n, E.Go t n)) (nm tx : ByteArray) (set : List (Int × Int)) (subs : List Nd) : E.Go s (.mk 1 nm tx set subs) := by
  intro hm i hi W u0 u1 u2 u3 u4 hA hN
  rw [NodeAt] at hN
  obtain ⟨hk, h1, h2, h3, h4, h5, ⟨sa, sc, h6, h6', h7⟩, na, nc, h8, h8', h9⟩ := hN
  obtain rfl := Option.some.inj h3
  obtain rfl := Option.some.inj h4
  obtain rfl := Option.some.inj h5
  obtain rfl := Option.some.inj h6
  obtain rfl := Option.some.inj h8
  clear h3 h4 h5 h6 h8 h7 hk
  unfold reachN at h1 h2 h6' h8'
  obtain ⟨nb, hnb⟩ : ∃ nb, W.heap.size = nb := ⟨_, rfl⟩
  obtain ⟨w1, hw1⟩ : ∃ w1, W.alloc (.cells #[.int .u8 1, .string nm, .string tx, .slice sa set.length sc, .slice na subs.length nc] 42) = w1 := ⟨_, rfl⟩
  have g1 : Grew W w1 := hw1 ▸ grew_alloc W _
  have o1 : Owns w1 nb [.int .u8 1, .string nm, .string tx, .slice sa set.length sc, .slice na subs.length nc] 42 := by rw [← hw1, ← hnb]; exact Owns.alloc W _ _
  have hA1 := hA.grew g1
  obtain ⟨w2, hw2⟩ : ∃ w2, w1.setCell ⟨E.mb, 5, none⟩ (.int .i64 (s - 1)) = w2 := ⟨_, rfl⟩
  have hA2 : E.At (s - 1) w2 := hw2 ▸ (hA1.set (s - 1)).1
  have r2 : E.R w1 w2 := hw2 ▸ (hA1.set (s - 1)).2
  have hne : nb ≠ E.mb := by have := hA.lt; omega
  have o2 := r2.owns o1 hne
  have RW : E.R W w2 := (ME.R.grew g1).trans r2
  have R2 := Lib.hid RW
  have hsz : nb ≤ w1.heap.size := by rw [← hnb]; exact g1.size
  have hsz2 : nb ≤ w2.heap.size := Nat.le_trans hsz r2.size
  have HSZ := Lib.hid hsz2
  have O2 := Lib.hid o2
  have A2 := Lib.hid hA2
  have HN9 : Hid (NodesAt w2 E.lim na 0 subs) := Lib.hid (h9.keep (RW.below hA))
  have HE := Lib.hid hE
  have HM := Lib.hid hm
  have HI := Lib.hid hi
  have HNE := Lib.hid hne
  obtain ⟨Q, hQ⟩ : ∃ Q : Ending → World → Prop, E.Res s (.mk 1 nm tx set subs) i W = Q := ⟨_, rfl⟩
  have HEND : Hid (∀ v tz s' m w', E.At s' w' → E.R w2 w' → TrV w' nb v m → MNum E s (.mk 1 nm tx set subs) i tz s' m → Q (.returned (.tuple #[v, .int .i64 tz])) w') := Lib.hid fun v tz s' m w' a1 a2 a3 a4 => by rw [← hQ]; exact ⟨v, tz, s', m, rfl, a1, RW.trans a2, hnb ▸ a3, a4⟩
  rw [hQ]
  have m5 := hA1.own.cell_at (i := 5) rfl
  have mf := hA1.own.free 5
  have ml := hA1.own.lt
  have q0 := hA2.own.cell_at (i := 0) rfl
  have q1 := hA2.own.cell_at (i := 1) rfl
  have q2 := hA2.own.cell_at (i := 2) rfl
  have q3 := hA2.own.cell_at (i := 3) rfl
  have q4 := hA2.own.cell_at (i := 4) rfl
  have q5 := hA2.own.cell_at (i := 5) rfl
  have ql := hA2.own.lt
  have n0 := o2.cell_at (i := 0) rfl
  have n1 := o2.cell_at (i := 1) rfl
  have n4 := o2.cell_at (i := 4) rfl
  have nl := o2.lt
  have hneg : decide (s - 1 < 0) = false := decide_eq_false (by omega)
  have hneg2 : ¬ (s - 1 < 0) := by omega
  clear hQ g1 o1 hA1 hA2 r2 o2 RW hA h9 hE hm hsz hsz2
  unfold ME.ptr
  subst hnb
  go_enter Tryz.func8, Tryz.ntmps8
  go_wp2_with fail
  clear hw1 hw2 m5 mf ml q0 q1 q2 q3 q4 q5 ql
  go_loopw [2, 12, 13] (fun p v q wr => ∃ (a j m : Nat) (t : Int), p = .int .i64 (a : Int) ∧ q = .int .i64 (j : Int) ∧ j ≤ subs.length ∧ Hid (E.At t wr ∧ E.R w2 wr ∧ TrV wr w2.heap.size v m ∧ t ≤ s - 1 ∧ -40 * (s - 1) - 1 ≤ t ∧ (m : Int) ≤ s - 1 - t ∧ a ≤ E.w.length ∧ (0 ≤ t → SeqS (bookOf E.g) E.w subs i a j))) (fun _ _ q _ => subs.length - (intOf q).toNat)
  case atStart =>
    exact ⟨i, 0, 0, s - 1, rfl, rfl, by omega, Lib.hid ⟨A2.out, But.refl _ _, TrV.nil _ _, Int.le_refl _, by omega, by omega, HI.out, fun _ => SeqS.start _ HI.out⟩⟩
  case round =>
    obtain ⟨a, j, m, t, rfl, rfl, hj, hst⟩ := hrel
    have n4' := (hst.out.2.1.owns O2.out HNE.out).cell_at (i := 4) rfl
    have nl' := (hst.out.2.1.owns O2.out HNE.out).lt
    clear n0 n1 n4 nl
    obtain ⟨oa, oc, rfl⟩ := hst.out.2.2.1.form
    by_cases hlt : j < subs.length
    · obtain ⟨b, off, rfl, hb, hnode⟩ := (HN9.out.keep (hst.out.2.1.below A2.out)).get hlt
      simp only [Nat.zero_add] at hnode
      obtain ⟨y0, y1, y2, y3, y4, c0, c1, c2, c3, c4, hnode⟩ := hnode.vals
      have HS := Lib.hid (IH.out t hst.out.2.2.2.1 (by have := hst.out; omega) _ (HM.out.sub (List.getElem_mem hlt)) a hst.out.2.2.2.2.2.2.1 wr _ _ _ _ _ hst.out.1 hnode)
      unfold ME.ptr at HS
      have hbl : b < wr.heap.size := by have := hst.out.1.low; have := hst.out.1.lt; omega
      clear hnode
      go_wp2_with fail
      refine HS.out.mono ?_
      rintro e w3 ⟨v, tz, s', k, rfl, hA3, hR3, hT3, hN3⟩
      have A3 := Lib.hid hA3
      have R3 := Lib.hid hR3
      have T3 := Lib.hid hT3
      have N3 := Lib.hid hN3
      have LO := Lib.hid (hN3.lo hst.out.2.2.2.1)
      have HLT := Lib.hid hlt
      obtain ⟨va, vc, rfl⟩ := hT3.form
      clear HS c0 c1 c2 c3 c4 hA3 hR3 hT3 hbl hb
      rcases hN3.place with rfl | ⟨z, rfl, hz⟩
      · clear hN3
        go_wp2_with fail
        show Q (.returned (.tuple #[.slice none 0 0, .int .i64 (-1)])) _
        refine HEND.out _ _ _ 0 _ A3.out (hst.out.2.1.trans R3.out) (TrV.nil _ _) (MNum.fin hs (by have := N3.out.less; have := hst.out; omega) (by have := LO.out; have := hst.out; omega) (by have := N3.out.less; have := hst.out; omega) (.inl rfl) fun h0 => ?_)
        exact (hst.out.2.2.2.2.2.2.2 (by have := N3.out.less; omega)).fail HLT.out (N3.out.says h0)
      · have hz0 : ¬ ((z : Int) < 0) := by omega
        have hz1 : decide ((z : Int) < 0) = false := decide_eq_false hz0
        have ht0 : 0 ≤ t := by have := LO.out.2; omega
        have HT0 := Lib.hid ht0
        have HZ := Lib.hid hz
        clear hN3 hz ht0
        have hv3 : TrV w3 w2.heap.size (.slice oa m oc) m := hst.out.2.2.1.keep R3.out fun k hk => .inl (by subst hk; exact A2.out.lt)
        obtain ⟨v', w4, hrun, hv4, hb4⟩ := trees_append hv3 T3.out (by have := hst.out; have := N3.out.few; have := LO.out.1 HT0.out; omega) (Nat.le_trans hst.out.2.1.size R3.out.size) 48
        have hown := hv3.own
        have HAP := Lib.hid hrun
        have V4 := Lib.hid hv4
        have A4 : Hid (E.At s' w4) := Lib.hid (A3.out.but hb4 fun k hk => Nat.lt_of_lt_of_le A2.out.lt (hown k hk).1)
        have R4 : Hid (E.R w2 w4) := Lib.hid (But.trans (hst.out.2.1.trans R3.out) hb4 fun k hk e => by have := (hown k e).1; omega)
        clear hrun hv4 hb4 hown hv3
        go_wp2_with (at_builtin; refine wpList_append_run _ rfl _ _ 48 48 rfl _ _ _ rfl rfl HAP.out ?_)
        exact ⟨⟨z, j + 1, m + k, s', rfl, by go_num, by omega, Lib.hid ⟨A4.out, R4.out, V4.out, by have := N3.out.less; have := hst.out; omega, LO.out.1 HT0.out, by have := N3.out.few; have := hst.out; omega, HZ.out, fun h0 => (hst.out.2.2.2.2.2.2.2 HT0.out).next HLT.out (N3.out.says h0) HZ.out⟩⟩, by simp [intOf]; omega⟩
    · have hjl : j = subs.length := by omega
      subst hjl
      go_wp2_with fail
      show Q (.returned (.tuple #[.slice oa m oc, .int .i64 (a : Int)])) _
      exact HEND.out _ _ _ _ _ hst.out.1 hst.out.2.1 (hst.out.2.2.1.weak HSZ.out) (MNum.fin hs hst.out.2.2.2.1 (by have := hst.out; omega) (by have := hst.out; omega) (.inr ⟨a, rfl, hst.out.2.2.2.2.2.2.1⟩) fun h0 => (hst.out.2.2.2.2.2.2.2 h0).done)
end Go.Proofs.YtoflfkffldpglaaGreatDoor

/- A match of the model: one kind of nodes. -/
namespace Go.Proofs.YtoflfkffldpglaaGreatDoor
open Go.RowKit
set_option maxHeartbeats 8000000 in
set_option maxRecDepth 40000 in
theorem match_alt (E : ME) (hE : E.Ok) (s : Int) (hs : 0 < s) (hs2 : s ≤ 30000) (IH : Hid (∀ t, t ≤ s - 1 → -2000000 ≤ t → ∀ n, E.Go t n)) (nm tx : ByteArray) (set : List (Int × Int)) (subs : List Nd) : E.Go s (.mk 0 nm tx set subs) := by
  intro hm i hi W u0 u1 u2 u3 u4 hA hN
  rw [NodeAt] at hN
  obtain ⟨hk, h1, h2, h3, h4, h5, ⟨sa, sc, h6, h6', h7⟩, na, nc, h8, h8', h9⟩ := hN
  obtain rfl := Option.some.inj h3
  obtain rfl := Option.some.inj h4
  obtain rfl := Option.some.inj h5
  obtain rfl := Option.some.inj h6
  obtain rfl := Option.some.inj h8
  clear h3 h4 h5 h6 h8 h7 hk
  unfold reachN at h1 h2 h6' h8'
  obtain ⟨nb, hnb⟩ : ∃ nb, W.heap.size = nb := ⟨_, rfl⟩
  obtain ⟨w1, hw1⟩ : ∃ w1, W.alloc (.cells #[.int .u8 0, .string nm, .string tx, .slice sa set.length sc, .slice na subs.length nc] 42) = w1 := ⟨_, rfl⟩
  have g1 : Grew W w1 := hw1 ▸ grew_alloc W _
  have o1 : Owns w1 nb [.int .u8 0, .string nm, .string tx, .slice sa set.length sc, .slice na subs.length nc] 42 := by rw [← hw1, ← hnb]; exact Owns.alloc W _ _
  have hA1 := hA.grew g1
  obtain ⟨w2, hw2⟩ : ∃ w2, w1.setCell ⟨E.mb, 5, none⟩ (.int .i64 (s - 1)) = w2 := ⟨_, rfl⟩
  have hA2 : E.At (s - 1) w2 := hw2 ▸ (hA1.set (s - 1)).1
  have r2 : E.R w1 w2 := hw2 ▸ (hA1.set (s - 1)).2
  have hne : nb ≠ E.mb := by have := hA.lt; omega
  have o2 := r2.owns o1 hne
  have RW : E.R W w2 := (ME.R.grew g1).trans r2
  have R2 := Lib.hid RW
  have hsz : nb ≤ w1.heap.size := by rw [← hnb]; exact g1.size
  have hsz2 : nb ≤ w2.heap.size := Nat.le_trans hsz r2.size
  have HSZ := Lib.hid hsz2
  have O2 := Lib.hid o2
  have A2 := Lib.hid hA2
  have HN9 : Hid (NodesAt w2 E.lim na 0 subs) := Lib.hid (h9.keep (RW.below hA))
  have HE := Lib.hid hE
  have HM := Lib.hid hm
  have HI := Lib.hid hi
  have HNE := Lib.hid hne
  obtain ⟨Q, hQ⟩ : ∃ Q : Ending → World → Prop, E.Res s (.mk 0 nm tx set subs) i W = Q := ⟨_, rfl⟩
  have HEND : Hid (∀ v tz s' m w', E.At s' w' → E.R w2 w' → TrV w' nb v m → MNum E s (.mk 0 nm tx set subs) i tz s' m → Q (.returned (.tuple #[v, .int .i64 tz])) w') := Lib.hid fun v tz s' m w' a1 a2 a3 a4 => by rw [← hQ]; exact ⟨v, tz, s', m, rfl, a1, RW.trans a2, hnb ▸ a3, a4⟩
  rw [hQ]
  have m5 := hA1.own.cell_at (i := 5) rfl
  have mf := hA1.own.free 5
  have ml := hA1.own.lt
  have q0 := hA2.own.cell_at (i := 0) rfl
  have q1 := hA2.own.cell_at (i := 1) rfl
  have q2 := hA2.own.cell_at (i := 2) rfl
  have q3 := hA2.own.cell_at (i := 3) rfl
  have q4 := hA2.own.cell_at (i := 4) rfl
  have q5 := hA2.own.cell_at (i := 5) rfl
  have ql := hA2.own.lt
  have n0 := o2.cell_at (i := 0) rfl
  have n1 := o2.cell_at (i := 1) rfl
  have n4 := o2.cell_at (i := 4) rfl
  have nl := o2.lt
  have hneg : decide (s - 1 < 0) = false := decide_eq_false (by omega)
  have hneg2 : ¬ (s - 1 < 0) := by omega
  clear hQ g1 o1 hA1 hA2 r2 o2 RW hA h9 hE hm hsz hsz2
  unfold ME.ptr
  subst hnb
  go_enter Tryz.func8, Tryz.ntmps8
  go_wp2_with fail
  clear hw1 hw2 m5 mf ml q0 q1 q2 q3 q4 q5 ql
  go_loopw [16] (fun q wr => ∃ (j : Nat) (t : Int), q = .int .i64 (j : Int) ∧ j ≤ subs.length ∧ Hid (E.At t wr ∧ E.R w2 wr ∧ t ≤ s - 1 ∧ -40 * (s - 1) - 1 - j ≤ t)) (fun q _ => subs.length - (intOf q).toNat)
  case atStart =>
    exact ⟨0, s - 1, rfl, by omega, Lib.hid ⟨A2.out, But.refl _ _, Int.le_refl _, by omega⟩⟩
  case round =>
    obtain ⟨j, t, rfl, hj, hst⟩ := hrel
    have n4' := (hst.out.2.1.owns O2.out HNE.out).cell_at (i := 4) rfl
    have nl' := (hst.out.2.1.owns O2.out HNE.out).lt
    have HAL := Lib.hid (HM.out.self.alts rfl)
    dsimp only [Nd.subs] at HAL
    clear n0 n1 n4 nl
    by_cases hlt : j < subs.length
    · obtain ⟨b, off, rfl, hb, hnode⟩ := (HN9.out.keep (hst.out.2.1.below A2.out)).get hlt
      simp only [Nat.zero_add] at hnode
      obtain ⟨y0, y1, y2, y3, y4, c0, c1, c2, c3, c4, hnode⟩ := hnode.vals
      have HS := Lib.hid (IH.out t hst.out.2.2.1 (by have := hst.out; have := HAL.out; omega) _ (HM.out.sub (List.getElem_mem hlt)) i HI.out wr _ _ _ _ _ hst.out.1 hnode)
      unfold ME.ptr at HS
      have hbl : b < wr.heap.size := by have := hst.out.1.low; have := hst.out.1.lt; omega
      clear hnode
      go_wp2_with fail
      refine HS.out.mono ?_
      rintro e w3 ⟨v, tz, s', k, rfl, hA3, hR3, hT3, hN3⟩
      have A3 := Lib.hid hA3
      have R3 := Lib.hid hR3
      have T3 := Lib.hid hT3
      have N3 := Lib.hid hN3
      have LO := Lib.hid (hN3.lo hst.out.2.2.1)
      have HLT := Lib.hid hlt
      have HSW := Lib.hid (Nat.le_trans HSZ.out hst.out.2.1.size)
      obtain ⟨va, vc, rfl⟩ := hT3.form
      clear HS c0 c1 c2 c3 c4 hA3 hR3 hT3 hbl hb
      rcases hN3.place with rfl | ⟨z, rfl, hz⟩
      · clear hN3
        go_wp2_with fail
        exact ⟨⟨j + 1, s', by go_num, by omega, Lib.hid ⟨A3.out, hst.out.2.1.trans R3.out, by have := N3.out.less; have := hst.out; omega, by have := LO.out; have := hst.out; omega⟩⟩, by simp [intOf]; omega⟩
      · have hz0 : ¬ ((z : Int) < 0) := by omega
        have hz1 : decide ((0 : Int) ≤ (z : Int)) = true := decide_eq_true (by omega)
        clear hN3 hz
        go_wp2_with fail
        show Q (.returned (.tuple #[.slice va k vc, .int .i64 (z : Int)])) _
        exact HEND.out _ _ _ _ _ A3.out (hst.out.2.1.trans R3.out) (T3.out.weak HSW.out) (MNum.fin hs (by have := N3.out.less; have := hst.out; omega) (by have := LO.out; have := hst.out; omega) (by have := N3.out.few; have := hst.out; omega) N3.out.place fun h0 => .altYes (List.getElem_mem HLT.out) (N3.out.says h0))
    · go_wp2_with fail
      show Q (.returned (.tuple #[.slice none 0 0, .int .i64 (-1)])) _
      exact HEND.out _ _ _ 0 _ hst.out.1 hst.out.2.1 (TrV.nil _ _) (MNum.fin hs hst.out.2.2.1 (by have := hst.out; have := HAL.out; omega) (by have := hst.out; omega) (.inl rfl) fun _ => .no (by omega))
end Go.Proofs.YtoflfkffldpglaaGreatDoor
