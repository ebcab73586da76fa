/- A match of the model: one kind of nodes. -/
import Derived.Test.YtoflfkffldpglaaGreatDoorQM36
namespace Go.Proofs.YtoflfkffldpglaaGreatDoor
open Go.RowKit
set_option maxHeartbeats 8000000 in
set_option maxRecDepth 40000 in
theorem match_opt (E : ME) (hE : E.Ok) (s : Int) (hs : 0 < s) (hs2 : s ≤ 30000) (IH : Hid (∀ t, t ≤ s - 1 → -2000000 ≤ t → ∀ n, E.Go t n)) (nm tx : ByteArray) (set : List (Int × Int)) (subs : List Nd) : E.Go s (.mk 2 nm tx set subs) := by
  intro hm i hi W u0 u1 u2 u3 u4 hA hN
  rw [NodeAt] at hN
  obtain ⟨hk, h1, h2, h3, h4, h5, ⟨sa, sc, h6, h6', h7⟩, na, nc, h8, h8', h9⟩ := hN
  obtain rfl := Option.some.inj h3
  obtain rfl := Option.some.inj h4
  obtain rfl := Option.some.inj h5
  obtain rfl := Option.some.inj h6
  obtain rfl := Option.some.inj h8
  clear h3 h4 h5 h6 h8 h7 hk
  unfold reachN at h1 h2 h6' h8'
  obtain ⟨nb, hnb⟩ : ∃ nb, W.heap.size = nb := ⟨_, rfl⟩
  obtain ⟨w1, hw1⟩ : ∃ w1, W.alloc (.cells #[.int .u8 2, .string nm, .string tx, .slice sa set.length sc, .slice na subs.length nc] 42) = w1 := ⟨_, rfl⟩
  have g1 : Grew W w1 := hw1 ▸ grew_alloc W _
  have o1 : Owns w1 nb [.int .u8 2, .string nm, .string tx, .slice sa set.length sc, .slice na subs.length nc] 42 := by rw [← hw1, ← hnb]; exact Owns.alloc W _ _
  have hA1 := hA.grew g1
  obtain ⟨w2, hw2⟩ : ∃ w2, w1.setCell ⟨E.mb, 5, none⟩ (.int .i64 (s - 1)) = w2 := ⟨_, rfl⟩
  have hA2 : E.At (s - 1) w2 := hw2 ▸ (hA1.set (s - 1)).1
  have r2 : E.R w1 w2 := hw2 ▸ (hA1.set (s - 1)).2
  have hne : nb ≠ E.mb := by have := hA.lt; omega
  have o2 := r2.owns o1 hne
  have RW : E.R W w2 := (ME.R.grew g1).trans r2
  have R2 := Lib.hid RW
  have hsz : nb ≤ w1.heap.size := by rw [← hnb]; exact g1.size
  have hsz2 : nb ≤ w2.heap.size := Nat.le_trans hsz r2.size
  have HSZ := Lib.hid hsz2
  have O2 := Lib.hid o2
  have A2 := Lib.hid hA2
  have HN9 : Hid (NodesAt w2 E.lim na 0 subs) := Lib.hid (h9.keep (RW.below hA))
  have HE := Lib.hid hE
  have HM := Lib.hid hm
  have HI := Lib.hid hi
  have HNE := Lib.hid hne
  obtain ⟨Q, hQ⟩ : ∃ Q : Ending → World → Prop, E.Res s (.mk 2 nm tx set subs) i W = Q := ⟨_, rfl⟩
  have HEND : Hid (∀ v tz s' m w', E.At s' w' → E.R w2 w' → TrV w' nb v m → MNum E s (.mk 2 nm tx set subs) i tz s' m → Q (.returned (.tuple #[v, .int .i64 tz])) w') := Lib.hid fun v tz s' m w' a1 a2 a3 a4 => by rw [← hQ]; exact ⟨v, tz, s', m, rfl, a1, RW.trans a2, hnb ▸ a3, a4⟩
  rw [hQ]
  have m5 := hA1.own.cell_at (i := 5) rfl
  have mf := hA1.own.free 5
  have ml := hA1.own.lt
  have q0 := hA2.own.cell_at (i := 0) rfl
  have q1 := hA2.own.cell_at (i := 1) rfl
  have q2 := hA2.own.cell_at (i := 2) rfl
  have q3 := hA2.own.cell_at (i := 3) rfl
  have q4 := hA2.own.cell_at (i := 4) rfl
  have q5 := hA2.own.cell_at (i := 5) rfl
  have ql := hA2.own.lt
  have n0 := o2.cell_at (i := 0) rfl
  have n1 := o2.cell_at (i := 1) rfl
  have n4 := o2.cell_at (i := 4) rfl
  have nl := o2.lt
  have hneg : decide (s - 1 < 0) = false := decide_eq_false (by omega)
  have hneg2 : ¬ (s - 1 < 0) := by omega
  clear hQ g1 o1 hA1 hA2 r2 o2 RW hA h9 hE hm hsz hsz2
  obtain ⟨x, rfl⟩ : ∃ x, subs = [x] := by
    have h := HM.out.self.one (by first | exact .inl rfl | exact .inr (.inl rfl) | exact .inr (.inr (.inl rfl)) | exact .inr (.inr (.inr rfl)))
    dsimp only [Nd.subs] at h
    exact List.length_eq_one_iff.1 h
  have HX := Lib.hid (HM.out.sub (List.mem_singleton.2 rfl))
  simp only [List.length_singleton] at *
  unfold ME.ptr
  subst hnb
  go_enter Tryz.func8, Tryz.ntmps8
  go_wp2_with fail
  clear hw1 hw2 m5 mf ml q0 q1 q2 q3 q4 q5 ql
  go_loopw [2, 19, 20] (fun p v q wr => ∃ (a m y : Nat) (t : Int), p = .int .i64 (a : Int) ∧ q = .int .i64 (y : Int) ∧ Hid (E.At t wr ∧ E.R w2 wr ∧ TrV wr w2.heap.size v m ∧ t ≤ s - 1 ∧ -40 * (s - 1) - 1 ≤ t ∧ (m : Int) ≤ s - 1 - t ∧ (y : Int) ≤ s - 1 - t ∧ a ≤ E.w.length ∧ (0 ≤ t → LoopS (bookOf E.g) E.w x i a y) ∧ y = 0)) (fun _ _ q _ => 3000000 - (intOf q).toNat)
  case atStart =>
    exact ⟨i, 0, 0, s - 1, rfl, rfl, Lib.hid ⟨A2.out, But.refl _ _, TrV.nil _ _, Int.le_refl _, by omega, by omega, by omega, HI.out, fun _ => ⟨HI.out, Cl.same _ _, .inl ⟨rfl, rfl⟩⟩, rfl⟩⟩
  case round =>
    obtain ⟨a, m, y, t, rfl, rfl, hst⟩ := hrel
    have n4' := (hst.out.2.1.owns O2.out HNE.out).cell_at (i := 4) rfl
    have nl' := (hst.out.2.1.owns O2.out HNE.out).lt
    clear n0 n1 n4 nl
    obtain ⟨oa, oc, rfl⟩ := hst.out.2.2.1.form
    obtain ⟨b, off, rfl, hb, hnode⟩ := (HN9.out.keep (hst.out.2.1.below A2.out)).get (k := 0) (by simp)
    simp only [Nat.zero_mul, Nat.add_zero, List.getElem_cons_zero] at hnode
    obtain ⟨y0, y1, y2, y3, y4, c0, c1, c2, c3, c4, hnode⟩ := hnode.vals
    have HS := Lib.hid (IH.out t hst.out.2.2.2.1 (by have := hst.out; omega) _ HX.out a hst.out.2.2.2.2.2.2.2.1 wr _ _ _ _ _ hst.out.1 hnode)
    unfold ME.ptr at HS
    have hbl : b < wr.heap.size := by have := hst.out.1.low; have := hst.out.1.lt; omega
    clear hnode
    go_wp2_with fail
    refine HS.out.mono ?_
    rintro e w3 ⟨v, tz, s', k, rfl, hA3, hR3, hT3, hN3⟩
    have A3 := Lib.hid hA3
    have R3 := Lib.hid hR3
    have T3 := Lib.hid hT3
    have N3 := Lib.hid hN3
    have LO := Lib.hid (hN3.lo hst.out.2.2.2.1)
    have n0' := ((hst.out.2.1.trans hR3).owns O2.out HNE.out).cell_at (i := 0) rfl
    have nl2 := ((hst.out.2.1.trans hR3).owns O2.out HNE.out).lt
    obtain ⟨va, vc, rfl⟩ := hT3.form
    have hv3 : TrV w3 w2.heap.size (.slice oa m oc) m := hst.out.2.2.1.keep hR3 fun k hk => .inl (by subst hk; exact A2.out.lt)
    clear HS c0 c1 c2 c3 c4 hA3 hR3 hT3 hbl hb n4' nl'
    have V3 := Lib.hid hv3
    rcases hN3.place with rfl | ⟨z, rfl, hz⟩
    · clear hN3 hv3
      go_wp2_with fail
      show Q (.returned (.tuple #[.slice oa m oc, .int .i64 (a : Int)])) _
      exact HEND.out _ _ _ _ _ A3.out (hst.out.2.1.trans R3.out) (V3.out.weak HSZ.out) (MNum.fin hs (by have := N3.out.less; have := hst.out; omega) (by have := LO.out; have := hst.out; omega) (by have := N3.out.less; have := hst.out; omega) (.inr ⟨a, rfl, hst.out.2.2.2.2.2.2.2.1⟩) fun h0 => (hst.out.2.2.2.2.2.2.2.2.1 (by have := N3.out.less; omega)).done (by omega) (by intro _; exact hst.out.2.2.2.2.2.2.2.2.2) (by omega))
    · have hz0 : ¬ ((z : Int) < 0) := by omega
      have hz1 : decide ((z : Int) < 0) = false := decide_eq_false hz0
      have ht0 : 0 ≤ t := by have := LO.out.2; omega
      have HT0 := Lib.hid ht0
      have HZ := Lib.hid hz
      have hyb : y ≤ 2000000 := by have := hst.out; omega
      clear hN3 hz ht0
      obtain ⟨v', w4, hrun, hv4, hb4⟩ := trees_append hv3 T3.out (by have := hst.out; have := N3.out.few; have := LO.out.1 HT0.out; omega) (Nat.le_trans hst.out.2.1.size R3.out.size) 48
      have hown := hv3.own
      have HAP := Lib.hid hrun
      have V4 := Lib.hid hv4
      have A4 : Hid (E.At s' w4) := Lib.hid (A3.out.but hb4 fun k hk => Nat.lt_of_lt_of_le A2.out.lt (hown k hk).1)
      have hR4 : E.R w2 w4 := But.trans (hst.out.2.1.trans R3.out) hb4 fun k hk e => by have := (hown k e).1; omega
      have R4 := Lib.hid hR4
      have n0'' := (hR4.owns O2.out HNE.out).cell_at (i := 0) rfl
      have nl3 := (hR4.owns O2.out HNE.out).lt
      clear hrun hv4 hb4 hown hv3 hR4
      go_wp2_with (at_builtin; refine wpList_append_run _ rfl _ _ 48 48 rfl _ _ _ rfl rfl HAP.out ?_)
      obtain ⟨fa, fc, hf⟩ := V4.out.form
      show Q (.returned (.tuple #[v', .int .i64 (z : Int)])) _
      exact HEND.out _ _ _ _ _ A4.out R4.out (V4.out.weak HSZ.out) (MNum.fin hs (by have := N3.out.less; have := hst.out; omega) (by have := LO.out.1 HT0.out; omega) (by have := N3.out.few; have := hst.out; omega) N3.out.place fun h0 => by
        obtain ⟨-, -, h2⟩ := hst.out.2.2.2.2.2.2.2.2.1 HT0.out
        have hy := hst.out.2.2.2.2.2.2.2.2.2
        have ha : a = i := by omega
        subst ha
        exact .opt (N3.out.says h0))
end Go.Proofs.YtoflfkffldpglaaGreatDoor

/- A match of the model: one kind of nodes. -/
namespace Go.Proofs.YtoflfkffldpglaaGreatDoor
open Go.RowKit
set_option maxHeartbeats 8000000 in
set_option maxRecDepth 40000 in
theorem match_star (E : ME) (hE : E.Ok) (s : Int) (hs : 0 < s) (hs2 : s ≤ 30000) (IH : Hid (∀ t, t ≤ s - 1 → -2000000 ≤ t → ∀ n, E.Go t n)) (nm tx : ByteArray) (set : List (Int × Int)) (subs : List Nd) : E.Go s (.mk 3 nm tx set subs) := by
  intro hm i hi W u0 u1 u2 u3 u4 hA hN
  rw [NodeAt] at hN
  obtain ⟨hk, h1, h2, h3, h4, h5, ⟨sa, sc, h6, h6', h7⟩, na, nc, h8, h8', h9⟩ := hN
  obtain rfl := Option.some.inj h3
  obtain rfl := Option.some.inj h4
  obtain rfl := Option.some.inj h5
  obtain rfl := Option.some.inj h6
  obtain rfl := Option.some.inj h8
  clear h3 h4 h5 h6 h8 h7 hk
  unfold reachN at h1 h2 h6' h8'
  obtain ⟨nb, hnb⟩ : ∃ nb, W.heap.size = nb := ⟨_, rfl⟩
  obtain ⟨w1, hw1⟩ : ∃ w1, W.alloc (.cells #[.int .u8 3, .string nm, .string tx, .slice sa set.length sc, .slice na subs.length nc] 42) = w1 := ⟨_, rfl⟩
  have g1 : Grew W w1 := hw1 ▸ grew_alloc W _
  have o1 : Owns w1 nb [.int .u8 3, .string nm, .string tx, .slice sa set.length sc, .slice na subs.length nc] 42 := by rw [← hw1, ← hnb]; exact Owns.alloc W _ _
  have hA1 := hA.grew g1
  obtain ⟨w2, hw2⟩ : ∃ w2, w1.setCell ⟨E.mb, 5, none⟩ (.int .i64 (s - 1)) = w2 := ⟨_, rfl⟩
  have hA2 : E.At (s - 1) w2 := hw2 ▸ (hA1.set (s - 1)).1
  have r2 : E.R w1 w2 := hw2 ▸ (hA1.set (s - 1)).2
  have hne : nb ≠ E.mb := by have := hA.lt; omega
  have o2 := r2.owns o1 hne
  have RW : E.R W w2 := (ME.R.grew g1).trans r2
  have R2 := Lib.hid RW
  have hsz : nb ≤ w1.heap.size := by rw [← hnb]; exact g1.size
  have hsz2 : nb ≤ w2.heap.size := Nat.le_trans hsz r2.size
  have HSZ := Lib.hid hsz2
  have O2 := Lib.hid o2
  have A2 := Lib.hid hA2
  have HN9 : Hid (NodesAt w2 E.lim na 0 subs) := Lib.hid (h9.keep (RW.below hA))
  have HE := Lib.hid hE
  have HM := Lib.hid hm
  have HI := Lib.hid hi
  have HNE := Lib.hid hne
  obtain ⟨Q, hQ⟩ : ∃ Q : Ending → World → Prop, E.Res s (.mk 3 nm tx set subs) i W = Q := ⟨_, rfl⟩
  have HEND : Hid (∀ v tz s' m w', E.At s' w' → E.R w2 w' → TrV w' nb v m → MNum E s (.mk 3 nm tx set subs) i tz s' m → Q (.returned (.tuple #[v, .int .i64 tz])) w') := Lib.hid fun v tz s' m w' a1 a2 a3 a4 => by rw [← hQ]; exact ⟨v, tz, s', m, rfl, a1, RW.trans a2, hnb ▸ a3, a4⟩
  rw [hQ]
  have m5 := hA1.own.cell_at (i := 5) rfl
  have mf := hA1.own.free 5
  have ml := hA1.own.lt
  have q0 := hA2.own.cell_at (i := 0) rfl
  have q1 := hA2.own.cell_at (i := 1) rfl
  have q2 := hA2.own.cell_at (i := 2) rfl
  have q3 := hA2.own.cell_at (i := 3) rfl
  have q4 := hA2.own.cell_at (i := 4) rfl
  have q5 := hA2.own.cell_at (i := 5) rfl
  have ql := hA2.own.lt
  have n0 := o2.cell_at (i := 0) rfl
  have n1 := o2.cell_at (i := 1) rfl
  have n4 := o2.cell_at (i := 4) rfl
  have nl := o2.lt
  have hneg : decide (s - 1 < 0) = false := decide_eq_false (by omega)
  have hneg2 : ¬ (s - 1 < 0) := by omega
  clear hQ g1 o1 hA1 hA2 r2 o2 RW hA h9 hE hm hsz hsz2
  obtain ⟨x, rfl⟩ : ∃ x, subs = [x] := by
    have h := HM.out.self.one (by first | exact .inl rfl | exact .inr (.inl rfl) | exact .inr (.inr (.inl rfl)) | exact .inr (.inr (.inr rfl)))
    dsimp only [Nd.subs] at h
    exact List.length_eq_one_iff.1 h
  have HX := Lib.hid (HM.out.sub (List.mem_singleton.2 rfl))
  simp only [List.length_singleton] at *
  unfold ME.ptr
  subst hnb
  go_enter Tryz.func8, Tryz.ntmps8
  go_wp2_with fail
  clear hw1 hw2 m5 mf ml q0 q1 q2 q3 q4 q5 ql
  go_loopw [2, 19, 20] (fun p v q wr => ∃ (a m y : Nat) (t : Int), p = .int .i64 (a : Int) ∧ q = .int .i64 (y : Int) ∧ Hid (E.At t wr ∧ E.R w2 wr ∧ TrV wr w2.heap.size v m ∧ t ≤ s - 1 ∧ -40 * (s - 1) - 1 ≤ t ∧ (m : Int) ≤ s - 1 - t ∧ (y : Int) ≤ s - 1 - t ∧ a ≤ E.w.length ∧ (0 ≤ t → LoopS (bookOf E.g) E.w x i a y))) (fun _ _ q _ => 3000000 - (intOf q).toNat)
  case atStart =>
    exact ⟨i, 0, 0, s - 1, rfl, rfl, Lib.hid ⟨A2.out, But.refl _ _, TrV.nil _ _, Int.le_refl _, by omega, by omega, by omega, HI.out, fun _ => ⟨HI.out, Cl.same _ _, .inl ⟨rfl, rfl⟩⟩⟩⟩
  case round =>
    obtain ⟨a, m, y, t, rfl, rfl, hst⟩ := hrel
    have n4' := (hst.out.2.1.owns O2.out HNE.out).cell_at (i := 4) rfl
    have nl' := (hst.out.2.1.owns O2.out HNE.out).lt
    clear n0 n1 n4 nl
    obtain ⟨oa, oc, rfl⟩ := hst.out.2.2.1.form
    obtain ⟨b, off, rfl, hb, hnode⟩ := (HN9.out.keep (hst.out.2.1.below A2.out)).get (k := 0) (by simp)
    simp only [Nat.zero_mul, Nat.add_zero, List.getElem_cons_zero] at hnode
    obtain ⟨y0, y1, y2, y3, y4, c0, c1, c2, c3, c4, hnode⟩ := hnode.vals
    have HS := Lib.hid (IH.out t hst.out.2.2.2.1 (by have := hst.out; omega) _ HX.out a hst.out.2.2.2.2.2.2.2.1 wr _ _ _ _ _ hst.out.1 hnode)
    unfold ME.ptr at HS
    have hbl : b < wr.heap.size := by have := hst.out.1.low; have := hst.out.1.lt; omega
    clear hnode
    go_wp2_with fail
    refine HS.out.mono ?_
    rintro e w3 ⟨v, tz, s', k, rfl, hA3, hR3, hT3, hN3⟩
    have A3 := Lib.hid hA3
    have R3 := Lib.hid hR3
    have T3 := Lib.hid hT3
    have N3 := Lib.hid hN3
    have LO := Lib.hid (hN3.lo hst.out.2.2.2.1)
    have n0' := ((hst.out.2.1.trans hR3).owns O2.out HNE.out).cell_at (i := 0) rfl
    have nl2 := ((hst.out.2.1.trans hR3).owns O2.out HNE.out).lt
    obtain ⟨va, vc, rfl⟩ := hT3.form
    have hv3 : TrV w3 w2.heap.size (.slice oa m oc) m := hst.out.2.2.1.keep hR3 fun k hk => .inl (by subst hk; exact A2.out.lt)
    clear HS c0 c1 c2 c3 c4 hA3 hR3 hT3 hbl hb n4' nl'
    have V3 := Lib.hid hv3
    rcases hN3.place with rfl | ⟨z, rfl, hz⟩
    · clear hN3 hv3
      go_wp2_with fail
      show Q (.returned (.tuple #[.slice oa m oc, .int .i64 (a : Int)])) _
      exact HEND.out _ _ _ _ _ A3.out (hst.out.2.1.trans R3.out) (V3.out.weak HSZ.out) (MNum.fin hs (by have := N3.out.less; have := hst.out; omega) (by have := LO.out; have := hst.out; omega) (by have := N3.out.less; have := hst.out; omega) (.inr ⟨a, rfl, hst.out.2.2.2.2.2.2.2.1⟩) fun h0 => (hst.out.2.2.2.2.2.2.2.2 (by have := N3.out.less; omega)).done (by omega) (by omega) (by omega))
    · have hz0 : ¬ ((z : Int) < 0) := by omega
      have hz1 : decide ((z : Int) < 0) = false := decide_eq_false hz0
      have ht0 : 0 ≤ t := by have := LO.out.2; omega
      have HT0 := Lib.hid ht0
      have HZ := Lib.hid hz
      have hyb : y ≤ 2000000 := by have := hst.out; omega
      clear hN3 hz ht0
      obtain ⟨v', w4, hrun, hv4, hb4⟩ := trees_append hv3 T3.out (by have := hst.out; have := N3.out.few; have := LO.out.1 HT0.out; omega) (Nat.le_trans hst.out.2.1.size R3.out.size) 48
      have hown := hv3.own
      have HAP := Lib.hid hrun
      have V4 := Lib.hid hv4
      have A4 : Hid (E.At s' w4) := Lib.hid (A3.out.but hb4 fun k hk => Nat.lt_of_lt_of_le A2.out.lt (hown k hk).1)
      have hR4 : E.R w2 w4 := But.trans (hst.out.2.1.trans R3.out) hb4 fun k hk e => by have := (hown k e).1; omega
      have R4 := Lib.hid hR4
      have n0'' := (hR4.owns O2.out HNE.out).cell_at (i := 0) rfl
      have nl3 := (hR4.owns O2.out HNE.out).lt
      clear hrun hv4 hb4 hown hv3 hR4
      go_wp2_with (at_builtin; refine wpList_append_run _ rfl _ _ 48 48 rfl _ _ _ rfl rfl HAP.out ?_)
      exact ⟨⟨z, m + k, y + 1, s', rfl, by go_num, Lib.hid ⟨A4.out, R4.out, V4.out, by have := N3.out.less; have := hst.out; omega, LO.out.1 HT0.out, by have := N3.out.few; have := hst.out; omega, by have := N3.out.less; have := hst.out; omega, HZ.out, fun h0 => (hst.out.2.2.2.2.2.2.2.2 HT0.out).next (N3.out.says h0)⟩⟩, by simp [intOf]; omega⟩
end Go.Proofs.YtoflfkffldpglaaGreatDoor

/- A match of the model: one kind of nodes. -/
namespace Go.Proofs.YtoflfkffldpglaaGreatDoor
open Go.RowKit
set_option maxHeartbeats 8000000 in
set_option maxRecDepth 40000 in
theorem match_plus (E : ME) (hE : E.Ok) (s : Int) (hs : 0 < s) (hs2 : s ≤ 30000) (IH : Hid (∀ t, t ≤ s - 1 → -2000000 ≤ t → ∀ n, E.Go t n)) (nm tx : ByteArray) (set : List (Int × Int)) (subs : List Nd) : E.Go s (.mk 4 nm tx set subs) := by
  intro hm i hi W u0 u1 u2 u3 u4 hA hN
  rw [NodeAt] at hN
  obtain ⟨hk, h1, h2, h3, h4, h5, ⟨sa, sc, h6, h6', h7⟩, na, nc, h8, h8', h9⟩ := hN
  obtain rfl := Option.some.inj h3
  obtain rfl := Option.some.inj h4
  obtain rfl := Option.some.inj h5
  obtain rfl := Option.some.inj h6
  obtain rfl := Option.some.inj h8
  clear h3 h4 h5 h6 h8 h7 hk
  unfold reachN at h1 h2 h6' h8'
  obtain ⟨nb, hnb⟩ : ∃ nb, W.heap.size = nb := ⟨_, rfl⟩
  obtain ⟨w1, hw1⟩ : ∃ w1, W.alloc (.cells #[.int .u8 4, .string nm, .string tx, .slice sa set.length sc, .slice na subs.length nc] 42) = w1 := ⟨_, rfl⟩
  have g1 : Grew W w1 := hw1 ▸ grew_alloc W _
  have o1 : Owns w1 nb [.int .u8 4, .string nm, .string tx, .slice sa set.length sc, .slice na subs.length nc] 42 := by rw [← hw1, ← hnb]; exact Owns.alloc W _ _
  have hA1 := hA.grew g1
  obtain ⟨w2, hw2⟩ : ∃ w2, w1.setCell ⟨E.mb, 5, none⟩ (.int .i64 (s - 1)) = w2 := ⟨_, rfl⟩
  have hA2 : E.At (s - 1) w2 := hw2 ▸ (hA1.set (s - 1)).1
  have r2 : E.R w1 w2 := hw2 ▸ (hA1.set (s - 1)).2
  have hne : nb ≠ E.mb := by have := hA.lt; omega
  have o2 := r2.owns o1 hne
  have RW : E.R W w2 := (ME.R.grew g1).trans r2
  have R2 := Lib.hid RW
  have hsz : nb ≤ w1.heap.size := by rw [← hnb]; exact g1.size
  have hsz2 : nb ≤ w2.heap.size := Nat.le_trans hsz r2.size
  have HSZ := Lib.hid hsz2
  have O2 := Lib.hid o2
  have A2 := Lib.hid hA2
  have HN9 : Hid (NodesAt w2 E.lim na 0 subs) := Lib.hid (h9.keep (RW.below hA))
  have HE := Lib.hid hE
  have HM := Lib.hid hm
  have HI := Lib.hid hi
  have HNE := Lib.hid hne
  obtain ⟨Q, hQ⟩ : ∃ Q : Ending → World → Prop, E.Res s (.mk 4 nm tx set subs) i W = Q := ⟨_, rfl⟩
  have HEND : Hid (∀ v tz s' m w', E.At s' w' → E.R w2 w' → TrV w' nb v m → MNum E s (.mk 4 nm tx set subs) i tz s' m → Q (.returned (.tuple #[v, .int .i64 tz])) w') := Lib.hid fun v tz s' m w' a1 a2 a3 a4 => by rw [← hQ]; exact ⟨v, tz, s', m, rfl, a1, RW.trans a2, hnb ▸ a3, a4⟩
  rw [hQ]
  have m5 := hA1.own.cell_at (i := 5) rfl
  have mf := hA1.own.free 5
  have ml := hA1.own.lt
  have q0 := hA2.own.cell_at (i := 0) rfl
  have q1 := hA2.own.cell_at (i := 1) rfl
  have q2 := hA2.own.cell_at (i := 2) rfl
  have q3 := hA2.own.cell_at (i := 3) rfl
  have q4 := hA2.own.cell_at (i := 4) rfl
  have q5 := hA2.own.cell_at (i := 5) rfl
  have ql := hA2.own.lt
  have n0 := o2.cell_at (i := 0) rfl
  have n1 := o2.cell_at (i := 1) rfl
  have n4 := o2.cell_at (i := 4) rfl
  have nl := o2.lt
  have hneg : decide (s - 1 < 0) = false := decide_eq_false (by omega)
  have hneg2 : ¬ (s - 1 < 0) := by omega
  clear hQ g1 o1 hA1 hA2 r2 o2 RW hA h9 hE hm hsz hsz2
  obtain ⟨x, rfl⟩ : ∃ x, subs = [x] := by
    have h := HM.out.self.one (by first | exact .inl rfl | exact .inr (.inl rfl) | exact .inr (.inr (.inl rfl)) | exact .inr (.inr (.inr rfl)))
    dsimp only [Nd.subs] at h
    exact List.length_eq_one_iff.1 h
  have HX := Lib.hid (HM.out.sub (List.mem_singleton.2 rfl))
  simp only [List.length_singleton] at *
  unfold ME.ptr
  subst hnb
  go_enter Tryz.func8, Tryz.ntmps8
  go_wp2_with fail
  clear hw1 hw2 m5 mf ml q0 q1 q2 q3 q4 q5 ql
  go_loopw [2, 19, 20] (fun p v q wr => ∃ (a m y : Nat) (t : Int), p = .int .i64 (a : Int) ∧ q = .int .i64 (y : Int) ∧ Hid (E.At t wr ∧ E.R w2 wr ∧ TrV wr w2.heap.size v m ∧ t ≤ s - 1 ∧ -40 * (s - 1) - 1 ≤ t ∧ (m : Int) ≤ s - 1 - t ∧ (y : Int) ≤ s - 1 - t ∧ a ≤ E.w.length ∧ (0 ≤ t → LoopS (bookOf E.g) E.w x i a y))) (fun _ _ q _ => 3000000 - (intOf q).toNat)
  case atStart =>
    exact ⟨i, 0, 0, s - 1, rfl, rfl, Lib.hid ⟨A2.out, But.refl _ _, TrV.nil _ _, Int.le_refl _, by omega, by omega, by omega, HI.out, fun _ => ⟨HI.out, Cl.same _ _, .inl ⟨rfl, rfl⟩⟩⟩⟩
  case round =>
    obtain ⟨a, m, y, t, rfl, rfl, hst⟩ := hrel
    have n4' := (hst.out.2.1.owns O2.out HNE.out).cell_at (i := 4) rfl
    have nl' := (hst.out.2.1.owns O2.out HNE.out).lt
    clear n0 n1 n4 nl
    obtain ⟨oa, oc, rfl⟩ := hst.out.2.2.1.form
    obtain ⟨b, off, rfl, hb, hnode⟩ := (HN9.out.keep (hst.out.2.1.below A2.out)).get (k := 0) (by simp)
    simp only [Nat.zero_mul, Nat.add_zero, List.getElem_cons_zero] at hnode
    obtain ⟨y0, y1, y2, y3, y4, c0, c1, c2, c3, c4, hnode⟩ := hnode.vals
    have HS := Lib.hid (IH.out t hst.out.2.2.2.1 (by have := hst.out; omega) _ HX.out a hst.out.2.2.2.2.2.2.2.1 wr _ _ _ _ _ hst.out.1 hnode)
    unfold ME.ptr at HS
    have hbl : b < wr.heap.size := by have := hst.out.1.low; have := hst.out.1.lt; omega
    clear hnode
    go_wp2_with fail
    refine HS.out.mono ?_
    rintro e w3 ⟨v, tz, s', k, rfl, hA3, hR3, hT3, hN3⟩
    have A3 := Lib.hid hA3
    have R3 := Lib.hid hR3
    have T3 := Lib.hid hT3
    have N3 := Lib.hid hN3
    have LO := Lib.hid (hN3.lo hst.out.2.2.2.1)
    have n0' := ((hst.out.2.1.trans hR3).owns O2.out HNE.out).cell_at (i := 0) rfl
    have nl2 := ((hst.out.2.1.trans hR3).owns O2.out HNE.out).lt
    obtain ⟨va, vc, rfl⟩ := hT3.form
    have hv3 : TrV w3 w2.heap.size (.slice oa m oc) m := hst.out.2.2.1.keep hR3 fun k hk => .inl (by subst hk; exact A2.out.lt)
    clear HS c0 c1 c2 c3 c4 hA3 hR3 hT3 hbl hb n4' nl'
    have V3 := Lib.hid hv3
    rcases hN3.place with rfl | ⟨z, rfl, hz⟩
    · clear hN3 hv3
      by_cases hy0 : y = 0
      · subst hy0
        go_wp2_with fail
        show Q (.returned (.tuple #[.slice none 0 0, .int .i64 (-1)])) _
        exact HEND.out _ _ _ 0 _ A3.out (hst.out.2.1.trans R3.out) (TrV.nil _ _) (MNum.fin hs (by have := N3.out.less; have := hst.out; omega) (by have := LO.out; have := hst.out; omega) (by have := N3.out.less; have := hst.out; omega) (.inl rfl) fun _ => .no (by omega))
      · have hy1 : ((y : Int) == 0) = false := beq_eq_false_iff_ne.2 (by omega)
        have HY0 := Lib.hid hy0
        clear hy0
        go_wp2_with fail
        show Q (.returned (.tuple #[.slice oa m oc, .int .i64 (a : Int)])) _
        exact HEND.out _ _ _ _ _ A3.out (hst.out.2.1.trans R3.out) (V3.out.weak HSZ.out) (MNum.fin hs (by have := N3.out.less; have := hst.out; omega) (by have := LO.out; have := hst.out; omega) (by have := N3.out.less; have := hst.out; omega) (.inr ⟨a, rfl, hst.out.2.2.2.2.2.2.2.1⟩) fun h0 => (hst.out.2.2.2.2.2.2.2.2 (by have := N3.out.less; omega)).done (by omega) (by omega) (by have := HY0.out; omega))
    · have hz0 : ¬ ((z : Int) < 0) := by omega
      have hz1 : decide ((z : Int) < 0) = false := decide_eq_false hz0
      have ht0 : 0 ≤ t := by have := LO.out.2; omega
      have HT0 := Lib.hid ht0
      have HZ := Lib.hid hz
      have hyb : y ≤ 2000000 := by have := hst.out; omega
      clear hN3 hz ht0
      obtain ⟨v', w4, hrun, hv4, hb4⟩ := trees_append hv3 T3.out (by have := hst.out; have := N3.out.few; have := LO.out.1 HT0.out; omega) (Nat.le_trans hst.out.2.1.size R3.out.size) 48
      have hown := hv3.own
      have HAP := Lib.hid hrun
      have V4 := Lib.hid hv4
      have A4 : Hid (E.At s' w4) := Lib.hid (A3.out.but hb4 fun k hk => Nat.lt_of_lt_of_le A2.out.lt (hown k hk).1)
      have hR4 : E.R w2 w4 := But.trans (hst.out.2.1.trans R3.out) hb4 fun k hk e => by have := (hown k e).1; omega
      have R4 := Lib.hid hR4
      have n0'' := (hR4.owns O2.out HNE.out).cell_at (i := 0) rfl
      have nl3 := (hR4.owns O2.out HNE.out).lt
      clear hrun hv4 hb4 hown hv3 hR4
      go_wp2_with (at_builtin; refine wpList_append_run _ rfl _ _ 48 48 rfl _ _ _ rfl rfl HAP.out ?_)
      exact ⟨⟨z, m + k, y + 1, s', rfl, by go_num, Lib.hid ⟨A4.out, R4.out, V4.out, by have := N3.out.less; have := hst.out; omega, LO.out.1 HT0.out, by have := N3.out.few; have := hst.out; omega, by have := N3.out.less; have := hst.out; omega, HZ.out, fun h0 => (hst.out.2.2.2.2.2.2.2.2 HT0.out).next (N3.out.says h0)⟩⟩, by simp [intOf]; omega⟩
end Go.Proofs.YtoflfkffldpglaaGreatDoor

/- A match of the model: one kind of nodes. -/
namespace Go.Proofs.YtoflfkffldpglaaGreatDoor
open Go.RowKit
set_option maxHeartbeats 8000000 in
set_option maxRecDepth 40000 in
theorem match_pred (E : ME) (hE : E.Ok) (s : Int) (hs : 0 < s) (hs2 : s ≤ 30000) (IH : Hid (∀ t, t ≤ s - 1 → -2000000 ≤ t → ∀ n, E.Go t n)) (nm tx : ByteArray) (set : List (Int × Int)) (subs : List Nd) : E.Go s (.mk 7 nm tx set subs) := by
  intro hm i hi W u0 u1 u2 u3 u4 hA hN
  rw [NodeAt] at hN
  obtain ⟨hk, h1, h2, h3, h4, h5, ⟨sa, sc, h6, h6', h7⟩, na, nc, h8, h8', h9⟩ := hN
  obtain rfl := Option.some.inj h3
  obtain rfl := Option.some.inj h4
  obtain rfl := Option.some.inj h5
  obtain rfl := Option.some.inj h6
  obtain rfl := Option.some.inj h8
  clear h3 h4 h5 h6 h8 h7 hk
  unfold reachN at h1 h2 h6' h8'
  obtain ⟨nb, hnb⟩ : ∃ nb, W.heap.size = nb := ⟨_, rfl⟩
  obtain ⟨w1, hw1⟩ : ∃ w1, W.alloc (.cells #[.int .u8 7, .string nm, .string tx, .slice sa set.length sc, .slice na subs.length nc] 42) = w1 := ⟨_, rfl⟩
  have g1 : Grew W w1 := hw1 ▸ grew_alloc W _
  have o1 : Owns w1 nb [.int .u8 7, .string nm, .string tx, .slice sa set.length sc, .slice na subs.length nc] 42 := by rw [← hw1, ← hnb]; exact Owns.alloc W _ _
  have hA1 := hA.grew g1
  obtain ⟨w2, hw2⟩ : ∃ w2, w1.setCell ⟨E.mb, 5, none⟩ (.int .i64 (s - 1)) = w2 := ⟨_, rfl⟩
  have hA2 : E.At (s - 1) w2 := hw2 ▸ (hA1.set (s - 1)).1
  have r2 : E.R w1 w2 := hw2 ▸ (hA1.set (s - 1)).2
  have hne : nb ≠ E.mb := by have := hA.lt; omega
  have o2 := r2.owns o1 hne
  have RW : E.R W w2 := (ME.R.grew g1).trans r2
  have R2 := Lib.hid RW
  have hsz : nb ≤ w1.heap.size := by rw [← hnb]; exact g1.size
  have hsz2 : nb ≤ w2.heap.size := Nat.le_trans hsz r2.size
  have HSZ := Lib.hid hsz2
  have O2 := Lib.hid o2
  have A2 := Lib.hid hA2
  have HN9 : Hid (NodesAt w2 E.lim na 0 subs) := Lib.hid (h9.keep (RW.below hA))
  have HE := Lib.hid hE
  have HM := Lib.hid hm
  have HI := Lib.hid hi
  have HNE := Lib.hid hne
  obtain ⟨Q, hQ⟩ : ∃ Q : Ending → World → Prop, E.Res s (.mk 7 nm tx set subs) i W = Q := ⟨_, rfl⟩
  have HEND : Hid (∀ v tz s' m w', E.At s' w' → E.R w2 w' → TrV w' nb v m → MNum E s (.mk 7 nm tx set subs) i tz s' m → Q (.returned (.tuple #[v, .int .i64 tz])) w') := Lib.hid fun v tz s' m w' a1 a2 a3 a4 => by rw [← hQ]; exact ⟨v, tz, s', m, rfl, a1, RW.trans a2, hnb ▸ a3, a4⟩
  rw [hQ]
  have m5 := hA1.own.cell_at (i := 5) rfl
  have mf := hA1.own.free 5
  have ml := hA1.own.lt
  have q0 := hA2.own.cell_at (i := 0) rfl
  have q1 := hA2.own.cell_at (i := 1) rfl
  have q2 := hA2.own.cell_at (i := 2) rfl
  have q3 := hA2.own.cell_at (i := 3) rfl
  have q4 := hA2.own.cell_at (i := 4) rfl
  have q5 := hA2.own.cell_at (i := 5) rfl
  have ql := hA2.own.lt
  have n0 := o2.cell_at (i := 0) rfl
  have n1 := o2.cell_at (i := 1) rfl
  have n4 := o2.cell_at (i := 4) rfl
  have nl := o2.lt
  have hneg : decide (s - 1 < 0) = false := decide_eq_false (by omega)
  have hneg2 : ¬ (s - 1 < 0) := by omega
  clear hQ g1 o1 hA1 hA2 r2 o2 RW hA h9 hE hm hsz hsz2
  obtain ⟨x, rfl⟩ : ∃ x, subs = [x] := by
    have h := HM.out.self.one (by first | exact .inl rfl | exact .inr (.inl rfl) | exact .inr (.inr (.inl rfl)) | exact .inr (.inr (.inr rfl)))
    dsimp only [Nd.subs] at h
    exact List.length_eq_one_iff.1 h
  have HX := Lib.hid (HM.out.sub (List.mem_singleton.2 rfl))
  obtain ⟨b, off, rfl, hb, hnode⟩ := HN9.out.get (k := 0) (by simp)
  simp only [Nat.zero_mul, Nat.add_zero, List.getElem_cons_zero] at hnode
  obtain ⟨y0, y1, y2, y3, y4, c0, c1, c2, c3, c4, hnode⟩ := hnode.vals
  have HS := Lib.hid (IH.out (s - 1) (Int.le_refl _) (by omega) x HX.out i hi w2 _ _ _ _ _ A2.out hnode)
  unfold ME.ptr at HS
  have hbl : b < w2.heap.size := by have := A2.out.low; have := A2.out.lt; omega
  clear hnode
  simp only [List.length_singleton] at *
  unfold ME.ptr
  subst hnb
  go_enter Tryz.func8, Tryz.ntmps8
  go_wp2_with fail
  refine HS.out.mono ?_
  rintro e w3 ⟨v, tz, s', k, rfl, hA3, hR3, hT3, hN3⟩
  have A3 := Lib.hid hA3
  have R3 := Lib.hid hR3
  have N3 := Lib.hid hN3
  obtain ⟨va, vc, rfl⟩ := hT3.form
  clear hw1 hw2 HS m5 mf ml q0 q1 q2 q3 q4 q5 ql n0 n1 n4 nl c0 c1 c2 c3 c4 hA3 hR3 hT3
  rcases hN3.place with rfl | ⟨j, rfl, hj⟩
  · clear hN3
    go_wp2_with fail
    show Q (.returned (.tuple #[.slice none 0 0, .int .i64 (-1)])) _
    exact HEND.out _ _ _ _ _ A3.out R3.out (TrV.nil _ _) (N3.out.up hs (by omega) (Nat.zero_le _) (fun _ => .no (by omega)) (.inl rfl))
  · have hj0 : ¬ ((j : Int) < 0) := by omega
    have hj1 : decide ((j : Int) < 0) = false := decide_eq_false hj0
    clear hN3
    go_wp2_with fail
    show Q (.returned (.tuple #[.slice none 0 0, .int .i64 (i : Int)])) _
    exact HEND.out _ _ _ _ _ A3.out R3.out (TrV.nil _ _) (N3.out.up hs (by omega) (Nat.zero_le _) (fun _ => .same (by omega) HI.out) (.inr ⟨i, rfl, HI.out⟩))
end Go.Proofs.YtoflfkffldpglaaGreatDoor
