/- great of a net and tokens. -/
import Derived.Test.YtgdcnndmdgcjlaaPOk
import Derived.BigQuiet
namespace Go.Proofs.Ytgdcnndmdgcjlaa
open Go.RowKit

theorem drewN_below (W : World) (n : Nat) : Below W.heap.size W (W.drewN n) := by
  induction n with
  | zero => exact Below.refl _ _
  | succ n ih => exact ih.trans ⟨rfl, rfl, rfl, Nat.le_refl _, fun _ _ => rfl⟩

set_option maxHeartbeats 4000000 in
set_option maxRecDepth 20000 in

/-- lengths that a machine can hold -/
structure Net.Reach (N : Net) : Prop where
  states : N.states.length ≤ reachN
  starts : N.starts.length ≤ reachN
  stops : N.stops.length ≤ reachN
  preds : N.preds.length ≤ reachN
  decisions : N.decisions.length ≤ reachN
  edges : ∀ s ∈ N.states, s.edges.length ≤ reachN
  ends : ∀ s ∈ N.states, s.ends.length ≤ reachN
/-- what Great bounds -/
structure Net.Under (N : Net) : Prop where
  all : N.starts.length + N.stops.length + N.preds.length + N.decisions.length ≤ 4000
  edges : ∀ s ∈ N.states, s.edges.length ≤ 4000
  ends : ∀ s ∈ N.states, s.ends.length ≤ 4000

/-- counted so far -/
def Counted (N : Net) (j : Nat) (T : Int) : Prop := (N.starts.length : Int) + N.stops.length + N.preds.length + N.decisions.length ≤ T ∧ ∀ i (h : i < N.states.length), i < j → (N.states[i].edges.length : Int) + N.states[i].ends.length ≤ T

/-- false only where something holds -/
def BoolAt (W : World) (p : Prop) (e : Ending) (W' : World) : Prop := ∃ b, e = .returned (.bool b) ∧ (b = false → p) ∧ Grew W W'

set_option maxHeartbeats 2000000 in
set_option maxRecDepth 20000 in
theorem Great12_ok (N : Net) (hR : N.Reach) (W : World) (n0 n1 n2 n3 n4 : Value) (hB : NetAt W W.heap.size n0 n1 n2 n3 n4 N) :
    Calls Try.prog 20 #[.agg #[n0, n1, n2, n3, n4]] W (BoolAt W N.Under) := by
  obtain ⟨na, nc, rfl, hN0⟩ := hB.states
  obtain ⟨ta, tc, rfl, hT⟩ := hB.starts
  obtain ⟨ua, uc, rfl, hU⟩ := hB.stops
  obtain ⟨pa, pc, rfl, hP⟩ := hB.preds
  obtain ⟨da, dc, rfl, hD⟩ := hB.decisions
  obtain ⟨r0, r1, r2, r3, r4, r5, r6⟩ := hR
  unfold reachN at r0 r1 r2 r3 r4
  obtain ⟨w1, hw1⟩ : ∃ w1, W.alloc (.cells #[.slice na N.states.length nc, .slice ta N.starts.length tc, .slice ua N.stops.length uc, .slice pa N.preds.length pc, .slice da N.decisions.length dc] 25) = w1 := ⟨_, rfl⟩
  have g1 : Grew W w1 := hw1 ▸ grew_alloc W _
  have o1 : Owns w1 W.heap.size [.slice na N.states.length nc, .slice ta N.starts.length tc, .slice ua N.stops.length uc, .slice pa N.preds.length pc, .slice da N.decisions.length dc] 25 := hw1 ▸ Owns.alloc W _ _
  have c0 := o1.cell_at (i := 0) rfl
  have c1 := o1.cell_at (i := 1) rfl
  have c2 := o1.cell_at (i := 2) rfl
  have c3 := o1.cell_at (i := 3) rfl
  have c4 := o1.cell_at (i := 4) rfl
  have e1 : IntKind.i64.wrap ((N.starts.length : Int) + N.stops.length) = ((N.starts.length + N.stops.length : Nat) : Int) := by rw [IntKind.wrap_i64]; omega
  have e2 : IntKind.i64.wrap (((N.starts.length + N.stops.length : Nat) : Int) + N.preds.length) = ((N.starts.length + N.stops.length + N.preds.length : Nat) : Int) := by rw [IntKind.wrap_i64]; omega
  have e3 : IntKind.i64.wrap (((N.starts.length + N.stops.length + N.preds.length : Nat) : Int) + N.decisions.length) = ((N.starts.length + N.stops.length + N.preds.length + N.decisions.length : Nat) : Int) := by rw [IntKind.wrap_i64]; omega
  have HR := Lib.hid (And.intro r5 r6)
  have HG := Lib.hid g1
  have HO := Lib.hid o1
  have HN0 := Lib.hid hN0
  clear r5 r6 g1 o1 hB hT hU hP hD hN0
  go_enter Try.func20, Try.ntmps20
  go_wp2_with fail
  go_loopw [3, 4] (fun s i wr => ∃ (j : Nat) (T : Int), i = .int .i64 j ∧ s = .int .i64 T ∧ j ≤ N.states.length ∧ 0 ≤ T ∧ T ≤ 1125899906842624 ∧ Hid (Counted N j T) ∧ Hid (Grew w1 wr)) (fun _ i _ => N.states.length - (intOf i).toNat)
  case atStart =>
    refine ⟨0, _, rfl, rfl, by omega, by omega, by omega, ⟨by omega, fun i _ h => absurd h (by omega)⟩, Grew.refl _⟩
  case round =>
    obtain ⟨j, T, rfl, rfl, hj, hT0, hT1, hc, hgr⟩ := hrel
    have o2 := HO.out.keep hgr.out
    have c0 := o2.cell_at (i := 0) rfl
    have HG2 := Lib.hid (HG.out.trans hgr.out)
    clear o2
    by_cases hlt : j < N.states.length
    · by_cases hT9 : T < 9000
      · obtain ⟨b, off, rfl, hb, hS⟩ := HN0.out j hlt
        obtain ⟨hr0, ⟨ea, ec, he, hEd⟩, za, zc, hz, hZ⟩ := hS
        have d1 : wr.cell? ⟨b, off + j * 3 + 1, none⟩ = some (.slice ea N.states[j].edges.length ec) := by rw [HG2.out.cells _ _ hb]; exact he
        have d2 : wr.cell? ⟨b, off + j * 3 + 2, none⟩ = some (.slice za N.states[j].ends.length zc) := by rw [HG2.out.cells _ _ hb]; exact hz
        have l1 := HR.out.1 _ (List.getElem_mem hlt)
        have l2 := HR.out.2 _ (List.getElem_mem hlt)
        have hnx : Hid (∀ T' : Int, T ≤ T' → (N.states[j].edges.length : Int) + N.states[j].ends.length ≤ T' → Counted N (j + 1) T') := Lib.hid fun T' h1 h2 => ⟨by have := hc.out.1; omega, fun i hi hij => by
          by_cases hq : i = j
          · subst hq; exact h2
          · have := hc.out.2 i hi (by omega); omega⟩
        unfold reachN at l1 l2
        clear hr0 he hz hEd hZ hb hc
        generalize N.states[j].edges.length = x at *
        generalize N.states[j].ends.length = y at *
        have a1 : IntKind.i64.wrap (T + 1) = T + 1 := by rw [IntKind.wrap_i64]; omega
        have a2 : IntKind.i64.wrap (T + 1 + x) = T + 1 + x := by rw [IntKind.wrap_i64]; omega
        have a3 : IntKind.i64.wrap (T + 1 + x + y) = T + 1 + x + y := by rw [IntKind.wrap_i64]; omega
        go_wp2_with fail
        go_quiet (fail)
        go_wp2_with fail
        have hb3 := drewN_below wr nq
        exact ⟨⟨j + 1, T + 1 + x + y, by go_num, rfl, by omega, by omega, by omega, hnx.out _ (by omega) (by omega), hgr.out.trans hb3⟩, by simp [intOf]; omega⟩
      · have q : decide (T < 9000) = false := decide_eq_false hT9
        go_wp2_with fail
        go_ret
        exact ⟨_, rfl, fun h => absurd (of_decide_eq_false h) (by omega), HG2.out⟩
    · have hje : j = N.states.length := by omega
      go_wp2_with fail
      go_ret
      refine ⟨_, rfl, fun h => ?_, HG2.out⟩
      have hT4 : T ≤ 4000 := by have := of_decide_eq_false h; omega
      have hcc := hc.out
      refine ⟨by have := hcc.1; omega, fun s hs => ?_, fun s hs => ?_⟩
      · obtain ⟨i, hi, rfl⟩ := List.mem_iff_getElem.1 hs
        have := hcc.2 i hi (by omega)
        omega
      · obtain ⟨i, hi, rfl⟩ := List.mem_iff_getElem.1 hs
        have := hcc.2 i hi (by omega)
        omega

set_option maxHeartbeats 2000000 in
set_option maxRecDepth 20000 in
theorem great13_ok (N : Net) (hR : N.Reach) (w : List Int) (_hwl : w.length ≤ reachN) (W : World) (n0 n1 n2 n3 n4 wv : Value) (hB : NetAt W W.heap.size n0 n1 n2 n3 n4 N) (hWV : IntsV W W.heap.size wv w) :
    Calls Try.prog 6 #[.agg #[n0, n1, n2, n3, n4], wv] W (BoolAt W (N.Small ∧ w.length ≤ 7)) := by
  obtain ⟨na, nc, rfl, hN0⟩ := hB.states
  obtain ⟨ta, tc, rfl, hT⟩ := hB.starts
  obtain ⟨ua, uc, rfl, hU⟩ := hB.stops
  obtain ⟨pa, pc, rfl, hP⟩ := hB.preds
  obtain ⟨da, dc, rfl, hD⟩ := hB.decisions
  obtain ⟨wa, wc, rfl, hWA⟩ := hWV
  obtain ⟨w1, hw1⟩ : ∃ w1, W.alloc (.cells #[.slice na N.states.length nc, .slice ta N.starts.length tc, .slice ua N.stops.length uc, .slice pa N.preds.length pc, .slice da N.decisions.length dc] 25) = w1 := ⟨_, rfl⟩
  have g1 : Grew W w1 := hw1 ▸ grew_alloc W _
  have o1 : Owns w1 W.heap.size [.slice na N.states.length nc, .slice ta N.starts.length tc, .slice ua N.stops.length uc, .slice pa N.preds.length pc, .slice da N.decisions.length dc] 25 := hw1 ▸ Owns.alloc W _ _
  have c0 := o1.cell_at (i := 0) rfl
  have c1 := o1.cell_at (i := 1) rfl
  have c2 := o1.cell_at (i := 2) rfl
  have c3 := o1.cell_at (i := 3) rfl
  have c4 := o1.cell_at (i := 4) rfl
  have HC := Lib.hid (Great12_ok N hR w1 _ _ _ _ _ ((hB.keep g1).mono g1.size))
  have HG := Lib.hid g1
  have HO := Lib.hid o1
  clear g1 o1 hB hN0 hT hU hP hD hWA hR
  go_enter Try.func6, Try.ntmps6
  go_wp2_with fail
  refine HC.out.mono ?_
  rintro e w2 ⟨b, rfl, hu, hb2⟩
  have o2 := HO.out.keep hb2
  have c0 := o2.cell_at (i := 0) rfl
  have c1 := o2.cell_at (i := 1) rfl
  have HG2 := Lib.hid (HG.out.trans hb2)
  have HU := Lib.hid hu
  clear hb2 o2 hu
  cases b
  · go_wp2_with fail
    all_goals (go_ret; refine ⟨_, rfl, fun h => ?_, HG2.out⟩)
    all_goals (first | (exact absurd h (by decide)) | skip)
    have u := HU.out (by trivial)
    have ua := u.all
    have h' : (decide ((60 : Int) < N.states.length) || decide ((12 : Int) < N.starts.length) || decide ((7 : Int) < w.length)) = false := h
    rw [Bool.or_eq_false_iff, Bool.or_eq_false_iff, decide_eq_false_iff_not, decide_eq_false_iff_not, decide_eq_false_iff_not] at h'
    exact ⟨⟨by omega, by omega, by omega, by omega, by omega, u.edges, u.ends⟩, by omega⟩
  · go_wp2_with fail
    go_ret
    exact ⟨true, rfl, fun h => (by cases h), HG2.out⟩
end Go.Proofs.Ytgdcnndmdgcjlaa
