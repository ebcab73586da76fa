/- A match of the model: one kind of nodes. -/
import Derived.Test.YtoflfkffldpglaaGreatDoorQM36
import Derived.Test.YtoflfkffldpglaaGreatDoorQM37
import Derived.Test.YtoflfkffldpglaaGreatDoorQM38
namespace Go.Proofs.YtoflfkffldpglaaGreatDoor
open Go.RowKit
set_option maxHeartbeats 8000000 in
set_option maxRecDepth 40000 in
theorem match_zero (E : ME) (s : Int) (hs : s ≤ 0) (hs2 : -2000000 ≤ s) (k : Int) (nm tx : ByteArray) (set : List (Int × Int)) (subs : List Nd) : E.Go s (.mk k nm tx set subs) := by
  intro hm i hi W u0 u1 u2 u3 u4 hA hN
  rw [NodeAt] at hN
  obtain ⟨hk, h1, h2, h3, h4, h5, ⟨sa, sc, h6, h6', h7⟩, na, nc, h8, h8', h9⟩ := hN
  obtain rfl := Option.some.inj h3
  obtain rfl := Option.some.inj h4
  obtain rfl := Option.some.inj h5
  obtain rfl := Option.some.inj h6
  obtain rfl := Option.some.inj h8
  clear h3 h4 h5 h6 h8 h7 
  unfold reachN at h1 h2 h6' h8'
  obtain ⟨nb, hnb⟩ : ∃ nb, W.heap.size = nb := ⟨_, rfl⟩
  obtain ⟨w1, hw1⟩ : ∃ w1, W.alloc (.cells #[.int .u8 k, .string nm, .string tx, .slice sa set.length sc, .slice na subs.length nc] 42) = w1 := ⟨_, rfl⟩
  have g1 : Grew W w1 := hw1 ▸ grew_alloc W _
  have o1 : Owns w1 nb [.int .u8 k, .string nm, .string tx, .slice sa set.length sc, .slice na subs.length nc] 42 := by rw [← hw1, ← hnb]; exact Owns.alloc W _ _
  have hA1 := hA.grew g1
  obtain ⟨w2, hw2⟩ : ∃ w2, w1.setCell ⟨E.mb, 5, none⟩ (.int .i64 (s - 1)) = w2 := ⟨_, rfl⟩
  have hA2 : E.At (s - 1) w2 := hw2 ▸ (hA1.set (s - 1)).1
  have r2 : E.R w1 w2 := hw2 ▸ (hA1.set (s - 1)).2
  have hne : nb ≠ E.mb := by have := hA.lt; omega
  have o2 := r2.owns o1 hne
  have RW : E.R W w2 := (ME.R.grew g1).trans r2
  have A2 := Lib.hid hA2
  obtain ⟨Q, hQ⟩ : ∃ Q : Ending → World → Prop, E.Res s (.mk k nm tx set subs) i W = Q := ⟨_, rfl⟩
  have HEND : Hid (∀ v tz s' m w', E.At s' w' → E.R w2 w' → TrV w' nb v m → MNum E s (.mk k nm tx set subs) i tz s' m → Q (.returned (.tuple #[v, .int .i64 tz])) w') := Lib.hid fun v tz s' m w' a1 a2 a3 a4 => by rw [← hQ]; exact ⟨v, tz, s', m, rfl, a1, RW.trans a2, hnb ▸ a3, a4⟩
  rw [hQ]
  have m5 := hA1.own.cell_at (i := 5) rfl
  have mf := hA1.own.free 5
  have ml := hA1.own.lt
  have q0 := hA2.own.cell_at (i := 0) rfl
  have q1 := hA2.own.cell_at (i := 1) rfl
  have q2 := hA2.own.cell_at (i := 2) rfl
  have q3 := hA2.own.cell_at (i := 3) rfl
  have q4 := hA2.own.cell_at (i := 4) rfl
  have q5 := hA2.own.cell_at (i := 5) rfl
  have ql := hA2.own.lt
  have n0 := o2.cell_at (i := 0) rfl
  have n1 := o2.cell_at (i := 1) rfl
  have n4 := o2.cell_at (i := 4) rfl
  have nl := o2.lt
  have hneg : decide (s - 1 < 0) = true := decide_eq_true (by omega)
  clear hQ g1 o1 hA1 hA2 r2 o2 RW hA h9 hm hi hne
  unfold ME.ptr
  subst hnb
  go_enter Tryz.func8, Tryz.ntmps8
  go_wp2_with fail
  show Q (.returned (.tuple #[.slice none 0 0, .int .i64 (-1)])) _
  exact HEND.out _ _ _ 0 _ A2.out (But.refl _ _) (TrV.nil _ _) ⟨by omega, fun _ => ⟨rfl, rfl⟩, fun h => absurd h (by omega), by omega, .inl rfl, fun h => absurd h (by omega)⟩
end Go.Proofs.YtoflfkffldpglaaGreatDoor

/- A match of the model, whole; nodes in which nothing is chosen. -/
namespace Go.Proofs.YtoflfkffldpglaaGreatDoor
open Go.RowKit
theorem match_all (E : ME) (hE : E.Ok) : ∀ (f : Nat) (s : Int), s.toNat ≤ f → s ≤ 30000 → -2000000 ≤ s → ∀ n, E.Go s n
  | 0, s, hf, _, hl, .mk k nm tx set subs => match_zero E s (by omega) hl k nm tx set subs
  | f + 1, s, hf, hs, hl, .mk k nm tx set subs => by
    by_cases h0 : 0 < s
    · have IH : Hid (∀ t, t ≤ s - 1 → -2000000 ≤ t → ∀ n, E.Go t n) := Lib.hid fun t ht hl n => match_all E hE f t (by omega) (by omega) hl n
      intro hm
      have hk : 0 ≤ k ∧ k ≤ 7 := hm.self.kind
      obtain rfl | rfl | rfl | rfl | rfl | rfl | rfl | rfl : k = 0 ∨ k = 1 ∨ k = 2 ∨ k = 3 ∨ k = 4 ∨ k = 5 ∨ k = 6 ∨ k = 7 := by omega
      · exact match_alt E hE s h0 hs IH nm tx set subs hm
      · exact match_seq E hE s h0 hs IH nm tx set subs hm
      · exact match_opt E hE s h0 hs IH nm tx set subs hm
      · exact match_star E hE s h0 hs IH nm tx set subs hm
      · exact match_plus E hE s h0 hs IH nm tx set subs hm
      · exact match_ref E hE s h0 hs IH nm tx set subs hm
      · exact match_tok E hE s h0 hs nm tx set subs hm
      · exact match_pred E hE s h0 hs IH nm tx set subs hm
    · exact match_zero E s (by omega) hl k nm tx set subs
set_option maxHeartbeats 1000000 in
set_option maxRecDepth 20000 in
theorem plain27_ok (n : Nd) : ∀ (W : World) (v0 v1 v2 v3 v4 : Value), NodeAt W W.heap.size (some v0) (some v1) (some v2) (some v3) (some v4) n →
    Calls Tryz.prog 11 #[.agg #[v0, v1, v2, v3, v4]] W fun e W' => e = .returned (.bool n.plainM) ∧ Grew W W' := by
  induction n using Nd.ind with
  | h k nm tx set subs ih =>
  intro W v0 v1 v2 v3 v4 hN
  rw [NodeAt] at hN
  obtain ⟨hk, h1, h2, h3, h4, h5, ⟨sa, sc, h6, h6', h7⟩, na, nc, h8, h8', h9⟩ := hN
  obtain rfl := Option.some.inj h3
  obtain rfl := Option.some.inj h4
  obtain rfl := Option.some.inj h5
  obtain rfl := Option.some.inj h6
  obtain rfl := Option.some.inj h8
  clear h3 h4 h5 h6 h8 h7
  unfold reachN at h1 h2 h6' h8'
  rw [Nd.plainM, plainMs_all]
  by_cases hc : k = 6 ∨ k = 5 ∨ k = 1
  · have hkt : (k == 6 || k == 5 || k == 1) = true := by rcases hc with rfl | rfl | rfl <;> rfl
    rw [hkt, Bool.true_and]
    rcases hc with rfl | rfl | rfl
    all_goals
      clear hkt
      go_enter Tryz.func11, Tryz.ntmps11
      go_wp2
      go_loopw [3] (fun i wr => ∃ (j : Nat), i = .int .i64 j ∧ j ≤ subs.length ∧ Hid ((subs.take j).all Nd.plainM = true) ∧ Hid (Grew W wr) ∧ W.heap.size < wr.heap.size ∧ wr.cell? ⟨W.heap.size, 4, none⟩ = some (.slice na subs.length nc)) (fun i _ => subs.length - (intOf i).toNat)
      case atStart =>
        refine ⟨0, rfl, by omega, Lib.hid rfl, Lib.hid ((Below.refl _ _).alloc (Nat.le_refl _) _), by simp, ?_⟩
        simp [go_sem]
      case round =>
        obtain ⟨j, rfl, hj, hp, hbw, hsz, hbox⟩ := hrel
        by_cases hlt : j < subs.length
        · obtain ⟨b, off, rfl, hb, hnode⟩ := (h9.keep hbw.out).get hlt
          simp only [Nat.zero_add] at hnode
          obtain ⟨u0, u1, u2, u3, u4, e0, e1, e2, e3, e4, hnode⟩ := hnode.vals
          have HS := Lib.hid (ih j hlt wr u0 u1 u2 u3 u4 (hnode.mono hbw.out.size))
          have hbl : b < wr.heap.size := by have := hbw.out.size; omega
          clear hnode ih h9 hb
          obtain ⟨t, ht⟩ : ∃ t, subs[j].plainM = t := ⟨_, rfl⟩
          have HT := Lib.hid ht
          have HLT := Lib.hid hlt
          rw [ht] at HS
          clear ht
          cases t
          · go_wp2_with (go_at_call 11; refine HS.out.mono ?_; rintro e w' ⟨rfl, hb2⟩; have HB := Lib.hid hb2; clear hb2)
            go_ret
            have hf : subs.all Nd.plainM = false := by
              rw [List.all_eq_false]
              exact ⟨_, List.getElem_mem HLT.out, by rw [HT.out]; simp⟩
            exact ⟨ret_bool hf.symm, hbw.out.trans HB.out⟩
          · go_wp2_with (go_at_call 11; refine HS.out.mono ?_; rintro e w' ⟨rfl, hb2⟩)
            exact ⟨⟨j + 1, by go_num, by omega, Lib.hid (by rw [List.take_succ_eq_append_getElem HLT.out, List.all_append, hp.out]; simp [HT.out]), Lib.hid (hbw.out.trans hb2), by have := hb2.size; omega, by rw [hb2.cells _ _ hsz]; exact hbox⟩, by simp [intOf]; omega⟩
        · have hjl : j = subs.length := by omega
          subst hjl
          clear ih h9
          go_wp2_with fail
          go_ret
          have hf := hp.out
          rw [List.take_length] at hf
          exact ⟨ret_bool hf.symm, hbw.out⟩
  · have hkf : (k == 6 || k == 5 || k == 1) = false := by
      simp only [Bool.or_eq_false_iff, beq_eq_false_iff_ne]
      omega
    rw [hkf, Bool.false_and]
    have c1 : (k != 6) = true := by simp; omega
    have c2 : (k != 5) = true := by simp; omega
    have c3 : (k != 1) = true := by simp; omega
    clear hkf ih h9
    go_enter Tryz.func11, Tryz.ntmps11
    go_wp2
    go_ret
    exact ⟨rfl, (Below.refl _ _).alloc (Nat.le_refl _) _⟩
end Go.Proofs.YtoflfkffldpglaaGreatDoor
