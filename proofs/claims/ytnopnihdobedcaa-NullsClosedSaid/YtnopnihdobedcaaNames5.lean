/- Whether a node names something, and whether two lists of flags are the same. -/
import Derived.Test.YtnopnihdobedcaaClosedLaw
namespace Go.Proofs.Ytnopnihdobedcaa
open Go.RowKit

set_option maxHeartbeats 1000000 in
set_option maxRecDepth 20000 in
theorem names5_ok (x : ByteArray) (n : Nd) : ∀ (W : World) (v0 v1 v2 v3 v4 : Value), NodeAt W W.heap.size (some v0) (some v1) (some v2) (some v3) (some v4) n →
    Calls Try.prog 14 #[.agg #[v0, v1, v2, v3, v4], .string x] W fun e W' => e = .returned (.bool (n.names x)) ∧ Below W.heap.size W W' := by
  induction n using Nd.ind with
  | h k nm tx set subs ih =>
  intro W v0 v1 v2 v3 v4 hN
  rw [NodeAt] at hN
  obtain ⟨hk, h1, h2, h3, h4, h5, ⟨sa, sc, h6, h6', h7⟩, na, nc, h8, h8', h9⟩ := hN
  obtain rfl := Option.some.inj h3
  obtain rfl := Option.some.inj h4
  obtain rfl := Option.some.inj h5
  obtain rfl := Option.some.inj h6
  obtain rfl := Option.some.inj h8
  clear h3 h4 h5 h6 h8
  unfold reachN at h1 h2 h6' h8'
  obtain ⟨bs, hbs⟩ : ∃ bs, sameB nm x = bs := ⟨_, rfl⟩
  have hbs' := hbs
  unfold sameB at hbs'
  cases bs
  · have HBS := Lib.hid hbs
    clear hbs
    go_enter Try.func14, Try.ntmps14
    go_wp2_with fail
    go_loopw [5] (fun i wr => ∃ j : Nat, i = .int .i64 j ∧ j ≤ subs.length ∧ Hid (∀ k (hk : k < subs.length), k < j → subs[k].names x = false) ∧ Below W.heap.size W wr ∧ W.heap.size < wr.heap.size ∧ wr.cell? ⟨W.heap.size, 4, none⟩ = some (.slice na subs.length nc)) (fun i _ => subs.length - (intOf i).toNat)
    case atStart =>
      refine ⟨0, rfl, by omega, fun k hk h => absurd h (by omega), ?_, by simp, ?_⟩
      · exact (Below.refl _ _).alloc (Nat.le_refl _) _
      · simp [go_sem]
    case round =>
      obtain ⟨j, rfl, hj, hno, hbw, hsz, hbox⟩ := hrel
      by_cases hlt : j < subs.length
      · obtain ⟨b, off, rfl, hb, hnode⟩ := (h9.keep hbw).get hlt
        simp only [Nat.zero_add] at hnode
        obtain ⟨u0, u1, u2, u3, u4, e0, e1, e2, e3, e4, hnode⟩ := hnode.vals
        have hsub := ih j hlt wr u0 u1 u2 u3 u4 (hnode.mono hbw.size)
        obtain ⟨bm, hbm⟩ : ∃ bm, subs[j].names x = bm := ⟨_, rfl⟩
        rw [hbm] at hsub
        have HS := Lib.hid hsub
        have HBM := Lib.hid hbm
        clear hsub hnode ih h7 h9 hbm
        cases bm
        · go_wp2_with (go_at_call 14; refine HS.out.mono ?_; rintro e w' ⟨rfl, hb2⟩)
          refine ⟨⟨j + 1, by go_num, by omega, fun k hk hkj => ?_, hbw.trans (hb2.mono (by omega)), by have := hb2.size; omega, by rw [hb2.cell hsz]; exact hbox⟩, by simp [intOf]; omega⟩
          by_cases e : k = j
          · subst e; exact HBM.out
          · exact hno.out k hk (by omega)
        · go_wp2_with (go_at_call 14; refine HS.out.mono ?_; rintro e w' ⟨rfl, hb2⟩)
          go_ret
          refine ⟨ret_bool ?_, hbw.trans (hb2.mono (by omega))⟩
          rw [Nd.names, namesAny_eq]
          have h3 : (subs.any fun n => n.names x) = true := List.any_eq_true.2 ⟨subs[j], List.getElem_mem hlt, HBM.out⟩
          rw [h3, Bool.or_true]
      · clear ih h7 h9
        go_wp2_with fail
        go_ret
        refine ⟨ret_bool ?_, hbw⟩
        rw [Nd.names, namesAny_eq, HBS.out]
        have h3 : (subs.any fun n => n.names x) = false := by
          rw [List.any_eq_false]
          intro n hn
          obtain ⟨k, hk, rfl⟩ := List.getElem_of_mem hn
          rw [hno.out k hk (by omega)]
          simp
        rw [h3]
        rfl
  · clear ih h7 h9
    go_enter Try.func14, Try.ntmps14
    go_wp2_with fail
    go_ret
    refine ⟨ret_bool ?_, (Below.refl _ _).alloc (Nat.le_refl _) _⟩
    rw [Nd.names, hbs]
    rfl

theorem cell_lt {W : World} {b o : Nat} {v : Value} (h : W.cell? ⟨b, o, none⟩ = some v) : b < W.heap.size := by
  unfold World.cell? at h
  split at h
  · rename_i hc
    exact (Array.getElem?_eq_some_iff.1 hc).1
  · cases h

set_option maxHeartbeats 1000000 in
set_option maxRecDepth 20000 in
theorem flags5_ok (W : World) (a b ca cb : Nat) (es : List Bool) (hl : es.length ≤ reachN) (ha : ∀ i, i < es.length → W.cell? ⟨a, i, none⟩ = some (.bool (es.getD i false))) (hb : ∀ i, i < es.length → W.cell? ⟨b, i, none⟩ = some (.bool (es.getD i false))) :
    Calls Try.prog 16 #[.slice (some ⟨a, 0, none⟩) es.length ca, .slice (some ⟨b, 0, none⟩) es.length cb] W fun e W' => e = .returned (.bool true) ∧ Below W.heap.size W W' := by
  unfold reachN at hl
  have HA := Lib.hid ha
  have HB := Lib.hid hb
  clear ha hb
  go_enter Try.func16, Try.ntmps16
  go_wp2_with fail
  go_loopw [5] (fun c wr => ∃ k : Nat, c = .int .i64 k ∧ k ≤ es.length ∧ Below W.heap.size W wr) (fun c _ => es.length - (intOf c).toNat)
  case atStart => exact ⟨0, rfl, by omega, Below.refl _ _⟩
  case round =>
    obtain ⟨k, rfl, hk, hbw⟩ := hrel
    by_cases hlt : k < es.length
    · have ha1 := cell_lt (HA.out k hlt)
      have hb1 := cell_lt (HB.out k hlt)
      have e1 := (Grew.cells hbw a k ha1).trans (HA.out k hlt)
      have e2 := (Grew.cells hbw b k hb1).trans (HB.out k hlt)
      have ha2 := cell_lt e1
      have hb2 := cell_lt e2
      generalize es.getD k false = be at *
      have HBW := Lib.hid hbw
      clear hbw ha1 hb1
      go_wp2_with fail
      refine wp_region_hav_lit follows (by kernel_rfl) ?_
      repeat (first
        | (refine HavG.skip (fun _ => rfl) ?_; simp only [Act.put, List.setIfInBounds_toArray, List.set_cons_zero, List.set_cons_succ])
        | (refine HavG.val (fun _ => rfl) ?_ (fun x w hw _ => ?_) ?_; rotate_left; (focus (have hc := hw.cells; clear hw; go_simp; first | done | rfl)); simp only [Act.put, List.setIfInBounds_toArray, List.set_cons_zero, List.set_cons_succ]))
      refine HavG.tail (by kernel_rfl) (by kernel_rfl) (fun x w hw _ => ?_)
      have HW := Lib.hid (Grew.trans HBW.out (hw.mono (by have := HBW.out.size; omega)))
      clear hw
      cases be
      · go_wp2_with fail
        exact ⟨⟨k + 1, by go_num, by omega, HW.out⟩, by simp [intOf]; omega⟩
      · go_wp2_with fail
        exact ⟨⟨k + 1, by go_num, by omega, HW.out⟩, by simp [intOf]; omega⟩
    · go_wp2_with fail
      go_ret
      exact ⟨rfl, hbw⟩
end Go.Proofs.Ytnopnihdobedcaa
