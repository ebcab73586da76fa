/- The library's functions on edges and on states: IndexFunc, ContainsFunc; rising. -/
import Derived.Test.YtogmlonhciiomaaDoorPrIx
namespace Go.Proofs.YtogmlonhciiomaaDoor
open Go.RowKit

def AskEds (F : Nat) (cp : Array Value) (W : World) (l : List Ed) (q : Ed → Bool) : Prop :=
  ∀ (i : Nat) (hi : i < l.length) (W' : World), Grew W W' → Calls Tryd.prog F (#[.agg #[.int .i64 l[i].tok, .int .i64 l[i].tgt]] ++ cp) W' fun e W2 => e = .returned (.bool (q l[i])) ∧ Grew W' W2
set_option maxHeartbeats 1000000 in
set_option maxRecDepth 20000 in
theorem pindexE_ok (l : List Ed) (q : Ed → Bool) (F : Nat) (cp : Array Value) (hF : Enters F) (W : World) (v : Value) (hl : l.length ≤ reachN) (hR : EdsV W W.heap.size v l) (HF : AskEds F cp W l q) :
    Calls Tryd.prog 25 #[v, .func (.func F) #[] cp] W fun e W' => e = .returned (.int .i64 (ixOf l q)) ∧ Grew W W' := by
  obtain ⟨a, cap, rfl, _, hR⟩ := hR
  unfold reachN at hl
  go_enter Tryd.func25, Tryd.ntmps25
  go_wp2
  go_loopw [8] (fun i wr => ∃ (j : Nat), i = .int .i64 j ∧ j ≤ l.length ∧ Hid (NoneTo l q j) ∧ Hid (Grew W wr)) (fun i _ => l.length - (intOf i).toNat)
  case atStart =>
    exact ⟨0, rfl, by omega, fun i hi h => absurd h (by omega), Grew.refl W⟩
  case round =>
    obtain ⟨j, rfl, hj, hf, hbw⟩ := hrel
    by_cases hlt : j < l.length
    · obtain ⟨b, off, rfl, hb, hc0, hc1⟩ := hR j hlt
      have d0 : wr.cell? ⟨b, off + j * 2, none⟩ = some (.int .i64 l[j].tok) := by rw [hbw.out.cells _ _ hb]; exact hc0
      have d1 : wr.cell? ⟨b, off + j * 2 + 1, none⟩ = some (.int .i64 l[j].tgt) := by rw [hbw.out.cells _ _ hb]; exact hc1
      have HS := Lib.hid (HF j hlt wr hbw.out)
      clear hR HF hc0 hc1 hb
      have hFx := hF
      unfold Enters at hFx
      clear hF
      obtain ⟨t, ht⟩ : ∃ t, t = q l[j] := ⟨_, rfl⟩
      rw [← ht] at HS
      have HQ := Lib.hid ht
      clear ht
      cases t
      · go_wp2_with (refine HS.out.mono ?_; rintro e w2 ⟨rfl, hb2⟩)
        exact ⟨⟨j + 1, by go_num, by omega, noneTo_next hf.out hlt HQ.out.symm, hbw.out.trans hb2⟩, by simp [intOf]; omega⟩
      · go_wp2_with (refine HS.out.mono ?_; rintro e w2 ⟨rfl, hb2⟩)
        go_ret
        exact ⟨ret_int (ixOf_at hlt hf.out HQ.out.symm).symm, hbw.out.trans hb2⟩
    · go_wp2_with fail
      go_ret
      exact ⟨ret_int (ixOf_none fun i hi => hf.out i hi (by omega)).symm, hbw.out⟩
theorem pcontE_ok (l : List Ed) (q : Ed → Bool) (F : Nat) (cp : Array Value) (hF : Enters F) (W : World) (v : Value) (hl : l.length ≤ reachN) (hR : EdsV W W.heap.size v l) (HF : AskEds F cp W l q) :
    Calls Tryd.prog 41 #[v, .func (.func F) #[] cp] W fun e W' => e = .returned (.bool (l.any q)) ∧ Grew W W' := by
  have hS := Lib.hid (pindexE_ok l q F cp hF W v hl hR HF)
  obtain ⟨a, cap, rfl, _, hR⟩ := hR
  clear HF hR hF
  go_enter Tryd.func41, Tryd.ntmps41
  go_wp2_with (go_at_call 25; refine hS.out.mono ?_; rintro e w' ⟨rfl, hb2⟩)
  go_ret
  exact ⟨ret_bool (pixOf_any l q), hb2⟩

def AskSts (F : Nat) (cp : Array Value) (W : World) (l : Aut) (q : Stt → Bool) : Prop :=
  ∀ (i : Nat) (hi : i < l.length) (W' : World) (v0 v1 v2 : Value), Grew W W' → SttV .u8 W' W'.heap.size v0 v1 v2 l[i] → Calls Tryd.prog F (#[.agg #[v0, v1, v2]] ++ cp) W' fun e W2 => e = .returned (.bool (q l[i])) ∧ Grew W' W2
set_option maxHeartbeats 1000000 in
set_option maxRecDepth 20000 in
theorem pindexS_ok (l : Aut) (q : Stt → Bool) (F : Nat) (cp : Array Value) (hF : Enters F) (W : World) (v : Value) (hl : l.length ≤ reachN) (hR : AutV .u8 W W.heap.size v l) (HF : AskSts F cp W l q) :
    Calls Tryd.prog 37 #[v, .func (.func F) #[] cp] W fun e W' => e = .returned (.int .i64 (ixOf l q)) ∧ Grew W W' := by
  obtain ⟨a, cap, rfl, _, hR⟩ := hR
  unfold reachN at hl
  go_enter Tryd.func37, Tryd.ntmps37
  go_wp2
  go_loopw [8] (fun i wr => ∃ (j : Nat), i = .int .i64 j ∧ j ≤ l.length ∧ Hid (NoneTo l q j) ∧ Hid (Grew W wr)) (fun i _ => l.length - (intOf i).toNat)
  case atStart =>
    exact ⟨0, rfl, by omega, fun i hi h => absurd h (by omega), Grew.refl W⟩
  case round =>
    obtain ⟨j, rfl, hj, hf, hbw⟩ := hrel
    by_cases hlt : j < l.length
    · obtain ⟨b, off, v0, v1, v2, rfl, hb, hc0, hc1, hc2, hs⟩ := hR j hlt
      obtain ⟨k0, rfl⟩ : ∃ k0, v0 = .int .u8 k0 := ⟨_, hs.1⟩
      obtain ⟨a1, n1, c1, rfl⟩ : ∃ a1 n1 c1, v1 = .slice a1 n1 c1 := by obtain ⟨a, c, h, _⟩ := hs.2.1; exact ⟨_, _, _, h⟩
      obtain ⟨a2, n2, c2, rfl⟩ : ∃ a2 n2 c2, v2 = .slice a2 n2 c2 := by obtain ⟨a, c, h, _⟩ := hs.2.2; exact ⟨_, _, _, h⟩
      have d0 : wr.cell? ⟨b, off + j * 3, none⟩ = some (.int .u8 k0) := by rw [hbw.out.cells _ _ hb]; exact hc0
      have d1 : wr.cell? ⟨b, off + j * 3 + 1, none⟩ = some (.slice a1 n1 c1) := by rw [hbw.out.cells _ _ hb]; exact hc1
      have d2 : wr.cell? ⟨b, off + j * 3 + 2, none⟩ = some (.slice a2 n2 c2) := by rw [hbw.out.cells _ _ hb]; exact hc2
      have HS := Lib.hid (HF j hlt wr _ _ _ hbw.out (hs.grew hbw.out))
      clear hR HF hc0 hc1 hc2 hb hs
      have hFx := hF
      unfold Enters at hFx
      clear hF
      obtain ⟨t, ht⟩ : ∃ t, t = q l[j] := ⟨_, rfl⟩
      rw [← ht] at HS
      have HQ := Lib.hid ht
      clear ht
      cases t
      · go_wp2_with (refine HS.out.mono ?_; rintro e w2 ⟨rfl, hb2⟩)
        exact ⟨⟨j + 1, by go_num, by omega, noneTo_next hf.out hlt HQ.out.symm, hbw.out.trans hb2⟩, by simp [intOf]; omega⟩
      · go_wp2_with (refine HS.out.mono ?_; rintro e w2 ⟨rfl, hb2⟩)
        go_ret
        exact ⟨ret_int (ixOf_at hlt hf.out HQ.out.symm).symm, hbw.out.trans hb2⟩
    · go_wp2_with fail
      go_ret
      exact ⟨ret_int (ixOf_none fun i hi => hf.out i hi (by omega)).symm, hbw.out⟩
theorem pcontS_ok (l : Aut) (q : Stt → Bool) (F : Nat) (cp : Array Value) (hF : Enters F) (W : World) (v : Value) (hl : l.length ≤ reachN) (hR : AutV .u8 W W.heap.size v l) (HF : AskSts F cp W l q) :
    Calls Tryd.prog 29 #[v, .func (.func F) #[] cp] W fun e W' => e = .returned (.bool (l.any q)) ∧ Grew W W' := by
  have hS := Lib.hid (pindexS_ok l q F cp hF W v hl hR HF)
  obtain ⟨a, cap, rfl, _, hR⟩ := hR
  clear HF hR hF
  go_enter Tryd.func29, Tryd.ntmps29
  go_wp2_with (go_at_call 37; refine hS.out.mono ?_; rintro e w' ⟨rfl, hb2⟩)
  go_ret
  exact ⟨ret_bool (pixOf_any l q), hb2⟩

set_option maxHeartbeats 1000000 in
theorem prising_ok (l : List Int) (least most : Int) (h0 : -2 ≤ least) (h1 : most ≤ 1000000000) (h2 : least ≤ 2000000000) (W : World) (v : Value) (hl : l.length ≤ reachN) (hR : IntsV W W.heap.size v l) :
    Calls Tryd.prog 38 #[v, .int .i64 least, .int .i64 most] W fun e W' => e = .returned (.bool (riseB l least most)) ∧ W' = W := by
  obtain ⟨a, cap, rfl, _, hR⟩ := hR
  unfold reachN at hl
  go_enter Tryd.func38, Tryd.ntmps38
  go_wp2
  go_loop [1, 11] (fun s i => ∃ (j : Nat) (m : Int), i = .int .i64 j ∧ s = .int .i64 m ∧ j ≤ l.length ∧ -2 ≤ m ∧ m ≤ 2000000000 ∧ Hid (riseB l least most = riseB (l.drop j) m most)) (fun _ i => l.length - (intOf i).toNat)
  case atStart => exact ⟨0, least, rfl, rfl, by omega, h0, h2, rfl⟩
  case round =>
    obtain ⟨j, m, rfl, rfl, hj, hm0, hm1, HE⟩ := hrel
    by_cases hlt : j < l.length
    · obtain ⟨b, off, rfl, hb, hc⟩ := hR j hlt
      have hd : l.drop j = l[j] :: l.drop (j + 1) := List.drop_eq_getElem_cons hlt
      have HE2 := Lib.hid (HE.out.trans (by rw [hd]))
      clear hR hb hd HE
      generalize l[j] = n at *
      by_cases c1 : n < m
      · have c1' : decide (n < m) = true := by simpa using c1
        go_wp2
        go_ret
        exact ⟨ret_bool (by rw [HE2.out]; simp [riseB, c1]), rfl⟩
      · have c1' : decide (n < m) = false := by simpa using c1
        by_cases c2 : most ≤ n
        · have c2' : decide (most ≤ n) = true := by simpa using c2
          go_wp2
          go_ret
          exact ⟨ret_bool (by rw [HE2.out]; simp [riseB, c2]), rfl⟩
        · have c2' : decide (most ≤ n) = false := by simpa using c2
          go_wp2
          go_round
          case rel => exact ⟨j + 1, n + 1, by go_num, by go_num, by omega, by omega, by omega, by show riseB l least most = _; rw [HE2.out]; simp [riseB, c1, c2]⟩
          case measure => simp [intOf]; omega
    · go_wp2
      go_ret
      exact ⟨ret_bool (by rw [HE.out, List.drop_of_length_le (by omega)]; rfl), rfl⟩
end Go.Proofs.YtogmlonhciiomaaDoor
