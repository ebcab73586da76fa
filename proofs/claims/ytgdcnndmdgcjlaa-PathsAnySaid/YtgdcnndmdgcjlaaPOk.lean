/- A net that may be is as the search asks; paths.may; place. -/
import Derived.Test.YtgdcnndmdgcjlaaPAMay
namespace Go.Proofs.Ytgdcnndmdgcjlaa
open Go.RowKit

theorem okN_iff {n : Nat} {i : Int} : okN n i = true ↔ 0 ≤ i ∧ i < n := by simp [okN]
theorem not_any_okN {l : List Int} {n : Nat} (h : (l.any fun i => !okN n i) = false) : ∀ i ∈ l, 0 ≤ i ∧ i < n := by
  intro i hi
  rw [List.any_eq_false] at h
  have := h i hi
  rw [← okN_iff]
  simpa using this
theorem getD_ok {l : List Int} {n r : Nat} (h : ∀ i ∈ l, 0 ≤ i ∧ i < n) (hr : r < l.length) : 0 ≤ l.getD r 0 ∧ (l.getD r 0).toNat < n := by
  have hm : l.getD r 0 ∈ l := by
    rw [List.getD_eq_getElem?_getD, List.getElem?_eq_getElem hr]
    exact List.getElem_mem hr
  have := h _ hm
  omega
theorem fine_edge {N : Net} {s : Sta} (h : s.fineB N = true) {e : Edg} (he : e ∈ s.edges) : (0 ≤ e.to ∧ e.to.toNat < N.states.length) ∧ 0 ≤ e.what ∧ (e.kind = 2 → e.what.toNat < N.starts.length) := by
  unfold Sta.fineB Sta.mayB at h
  simp only [Bool.and_eq_true] at h
  have hm := List.all_eq_true.1 h.1.1.1 e he
  unfold Edg.mayB at hm
  simp only [Bool.not_eq_true', Bool.or_eq_false_iff, decide_eq_false_iff_not, Bool.and_eq_false_iff, Bool.not_eq_false'] at hm
  obtain ⟨⟨⟨_, hw⟩, hk⟩, ht⟩ := hm
  rw [okN_iff] at ht
  refine ⟨by omega, by omega, fun hk2 => ?_⟩
  rcases hk with hk | hk
  · rw [hk2] at hk; simp at hk
  · rw [hk2] at hk
    unfold Net.mostOf at hk
    simp only [if_true] at hk
    omega
theorem fine_ends {N : Net} {s : Sta} (h : s.fineB N = true) : (∀ i ∈ s.ends, 0 ≤ i ∧ i.toNat < N.states.length) ∧ (s.ends = [] ∨ s.ends.length = s.edges.length) := by
  unfold Sta.fineB Sta.mayB at h
  simp only [Bool.and_eq_true, Bool.or_eq_true, decide_eq_true_eq, Bool.not_eq_true'] at h
  rcases h.1.1.2 with h0 | ⟨hd, ho⟩
  · have := List.eq_nil_of_length_eq_zero h0
    exact ⟨by rw [this]; simp, .inl this⟩
  · refine ⟨fun i hi => by have := not_any_okN ho i hi; omega, .inr ?_⟩
    unfold Sta.decides at hd
    simp only [Bool.and_eq_true, decide_eq_true_eq] at hd
    exact hd.1.1
theorem Net.ok_of_may {N : Net} (h : N.mayB = true) : N.Ok := by
  unfold Net.mayB at h
  simp only [Bool.and_eq_true, decide_eq_true_eq, Bool.not_eq_true'] at h
  obtain ⟨⟨⟨⟨hl, hs⟩, _⟩, ha⟩, _⟩ := h
  have hs := not_any_okN hs
  have hE : ∀ s (hs : s < N.states.length), N.edges s = N.states[s].edges := fun s hs => by unfold Net.edges; rw [List.getElem?_eq_getElem hs]; rfl
  have hD : ∀ s (hs : s < N.states.length), N.ends s = N.states[s].ends := fun s hs => by unfold Net.ends; rw [List.getElem?_eq_getElem hs]; rfl
  have hE' : ∀ s, ¬ s < N.states.length → N.edges s = [] := fun s hs => by unfold Net.edges; rw [List.getElem?_eq_none (by omega)]; rfl
  have hD' : ∀ s, ¬ s < N.states.length → N.ends s = [] := fun s hs => by unfold Net.ends; rw [List.getElem?_eq_none (by omega)]; rfl
  refine ⟨hl, fun r hr => getD_ok (fun i hi => hs i (List.mem_append_left _ hi)) hr, fun r hr => getD_ok (fun i hi => hs i (List.mem_append_right _ hi)) (hl ▸ hr), fun s e he => ?_, fun s i hi => ?_, fun s => ?_⟩
  · by_cases h : s < N.states.length
    · rw [hE s h] at he
      exact fine_edge (List.all_eq_true.1 ha _ (List.getElem_mem h)) he
    · rw [hE' s h] at he; cases he
  · by_cases h : s < N.states.length
    · rw [hD s h] at hi
      exact (fine_ends (List.all_eq_true.1 ha _ (List.getElem_mem h))).1 i hi
    · rw [hD' s h] at hi; cases hi
  · by_cases h : s < N.states.length
    · rw [hD s h, hE s h]
      exact (fine_ends (List.all_eq_true.1 ha _ (List.getElem_mem h))).2
    · exact .inl (hD' s h)

/-- how great a net is at most here -/
structure Net.Small (N : Net) : Prop where
  states : N.states.length ≤ 60
  starts : N.starts.length ≤ 12
  stops : N.stops.length ≤ 4000
  preds : N.preds.length ≤ 4000
  decisions : N.decisions.length ≤ 4000
  edges : ∀ s ∈ N.states, s.edges.length ≤ 4000
  ends : ∀ s ∈ N.states, s.ends.length ≤ 4000

set_option maxHeartbeats 1000000 in
set_option maxRecDepth 20000 in
/-- what may be asked is asked -/
theorem pmay_ok (N : Net) (hN : N.Small) (w l : List Int) (hw : w.length ≤ 7) (hl : ∀ i ∈ l, okN N.states.length i = true) (W : World) (n0 n1 n2 n3 n4 wv : Value) (hB : NetAt W W.heap.size n0 n1 n2 n3 n4 N) (hWV : IntsV W W.heap.size wv w)
    (rb rc : Nat) (hrb : rb < W.heap.size) (hln : l.length ≤ 1000) (hcell : ∀ k (h : k < l.length), W.cell? ⟨rb, k, none⟩ = some (.int .i64 l[k])) :
    Calls Try.prog 23 #[.agg #[n0, n1, n2, n3, n4], wv, .slice (some ⟨rb, 0, none⟩) l.length rc] W fun e W' => e = .returned (.bool N.mayB) ∧ Grew W W' := by
  obtain ⟨na, nc, rfl, hN0⟩ := hB.states
  obtain ⟨ta, tc, rfl, hT⟩ := hB.starts
  obtain ⟨ua, uc, rfl, hU⟩ := hB.stops
  obtain ⟨pa, pc, rfl, hP⟩ := hB.preds
  obtain ⟨da, dc, rfl, hD⟩ := hB.decisions
  obtain ⟨wa, wc, rfl, hWA⟩ := hWV
  obtain ⟨w1, hw1⟩ : ∃ w1, W.alloc (.cells #[.slice na N.states.length nc, .slice ta N.starts.length tc, .slice ua N.stops.length uc, .slice pa N.preds.length pc, .slice da N.decisions.length dc] 25) = w1 := ⟨_, rfl⟩
  have g1 : Grew W w1 := hw1 ▸ grew_alloc W _
  have o1 : Owns w1 W.heap.size [.slice na N.states.length nc, .slice ta N.starts.length tc, .slice ua N.stops.length uc, .slice pa N.preds.length pc, .slice da N.decisions.length dc] 25 := hw1 ▸ Owns.alloc W _ _
  have b0 := o1.cell_at (i := 0) rfl
  have b1 := o1.cell_at (i := 1) rfl
  have b2 := o1.cell_at (i := 2) rfl
  have b3 := o1.cell_at (i := 3) rfl
  have b4 := o1.cell_at (i := 4) rfl
  have HC := Lib.hid (AMay_ok N w1 _ _ _ _ _ ((hB.keep g1).mono g1.size) (by have := hN.states; omega) (by have := hN.starts; have := hN.stops; omega) (by have := hN.preds; omega) (by have := hN.decisions; omega) (fun s hs => by have := hN.edges s hs; omega) (fun s hs => by have := hN.ends s hs; omega))
  have hcl : ∀ k (h : k < l.length), w1.cell? ⟨rb, k, none⟩ = some (.int .i64 l[k]) := fun k h => by rw [g1.cells _ _ hrb]; exact hcell k h
  have HCL := Lib.hid hcl
  have HG := Lib.hid g1
  have HL := Lib.hid hl
  clear hB o1 g1 hcl hcell hN0 hT hU hP hD hWA hN hl
  go_enter Try.func23, Try.ntmps23
  go_wp2_with fail
  go_loopw [11] (fun i wr => ∃ (j : Nat), i = .int .i64 j ∧ j ≤ l.length ∧ wr = w1) (fun i _ => l.length - (intOf i).toNat)
  case atStart => exact ⟨0, rfl, by omega, rfl⟩
  case round =>
    obtain ⟨j, rfl, hj, rfl⟩ := hrel
    by_cases hlt : j < l.length
    · have hc := HCL.out j hlt
      have hk := okN_iff.1 (HL.out _ (List.getElem_mem hlt))
      have q0 : decide (l[j] < 0) = false := decide_eq_false (by omega)
      have q1 : decide ((N.states.length : Int) ≤ l[j]) = false := decide_eq_false (by omega)
      clear hk
      go_wp2_with fail
      exact ⟨⟨j + 1, by go_num, by omega, trivial⟩, by simp [intOf]; omega⟩
    · have hx : decide ((w.length : Int) ≤ 16384) = true := decide_eq_true (by omega)
      go_wp2_with (refine HC.out.mono ?_; rintro e w2 ⟨rfl, hb2⟩)
      go_ret
      exact ⟨rfl, HG.out.trans hb2⟩

/-- place: a number among so many -/
def placeN (i : Int) (n : Nat) : Nat := (if 0 ≤ i.tmod n then i.tmod n else i.tmod n + n).toNat
theorem tmod_bounds (i : Int) (n : Nat) (h : 0 < n) : i.tmod n < n ∧ -(n : Int) < i.tmod n := by
  have h1 := Int.emod_nonneg i (b := n) (by omega)
  have h2 := Int.emod_lt_of_pos i (b := n) (by omega)
  rw [Int.tmod_eq_emod]
  split
  · omega
  · rename_i hd
    have : i % (n : Int) ≠ 0 := fun h0 => hd (.inr (Int.dvd_of_emod_eq_zero h0))
    omega
theorem placeN_lt (i : Int) (n : Nat) (h : 0 < n) : placeN i n < n := by
  have := tmod_bounds i n h
  unfold placeN
  split <;> omega
set_option maxHeartbeats 1000000 in
theorem place_ok (i : Int) (n : Nat) (h0 : 0 < n) (hn : n ≤ 60) (W : World) :
    Calls Try.prog 17 #[.int .i64 i, .int .i64 n] W fun e W' => e = .returned (.int .i64 (placeN i n)) ∧ Grew W W' := by
  have hb := Lib.hid (tmod_bounds i n h0)
  by_cases h : 0 ≤ i.tmod n
  · go_enter Try.func17, Try.ntmps17
    go_wp2_with fail
    go_ret
    exact ⟨ret_int (by unfold placeN; rw [if_pos h]; omega), Grew.refl W⟩
  · have hd : i.tmod n < 0 := by omega
    go_enter Try.func17, Try.ntmps17
    go_wp2_with fail
    go_ret
    exact ⟨ret_int (by unfold placeN; have hb' := hb.out; rw [if_neg (by omega)]; unfold wrap64; omega), Grew.refl W⟩
end Go.Proofs.Ytgdcnndmdgcjlaa
