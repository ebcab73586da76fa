/- Copies of numbers, whether they were left; whether flags are the same. -/
import Derived.Test.YtgdcnndmdgcjlaaPTkMem
import Derived.Test.YtgdcnndmdgcjlaaPCat
import Derived.Test.YtgdcnndmdgcjlaaPGreat
import Derived.Test.YtgdcnndmdgcjlaaPJoinA
import Derived.Deep.CutBlock
import Derived.Deep.DeepCutAuto
namespace Go.Proofs.Ytgdcnndmdgcjlaa
open Go.RowKit

/-- a copy, with two marks behind -/
def TwinAt (w : List Int) (t : Value) (W' : World) : Prop := ∃ g cap, t = .slice (some ⟨g, 0, none⟩) w.length cap ∧ w.length + 2 ≤ cap ∧ cap ≤ maxLen ∧ g < W'.heap.size ∧ (∀ k (h : k < w.length), W'.cell? ⟨g, k, none⟩ = some (.int .i64 w[k])) ∧ W'.cell? ⟨g, w.length, none⟩ = some (.int .i64 (-77)) ∧ W'.cell? ⟨g, w.length + 1, none⟩ = some (.int .i64 (-77))
theorem TwinAt.keep {w : List Int} {t : Value} {W W' : World} (hg : Grew W W') (h : TwinAt w t W) : TwinAt w t W' := by
  obtain ⟨g, cap, h1, h2, h0, h3, h4, h5, h6⟩ := h
  exact ⟨g, cap, h1, h2, h0, Nat.lt_of_lt_of_le h3 hg.size, fun k hk => (hg.cells _ _ h3).trans (h4 k hk), (hg.cells _ _ h3).trans h5, (hg.cells _ _ h3).trans h6⟩
theorem TwinAt.ints {w : List Int} {t : Value} {W : World} (h : TwinAt w t W) : IntsV W W.heap.size t w := by
  obtain ⟨g, cap, h1, h2, h0, h3, h4, h5, h6⟩ := h
  exact ⟨_, cap, h1, fun k hk => ⟨g, 0, rfl, h3, by rw [Nat.zero_add]; exact h4 k hk⟩⟩
theorem loose_weak {w : World} {base b2 e size k : Nat} {v : Value} {xs : List Value} (h : looseRow w base e size v k xs) (hb : b2 ≤ base) : looseRow w b2 e size v k xs := by
  refine ⟨h.1, h.2.imp id ?_⟩
  rintro ⟨b, cap, cur, h1, h2, h3⟩
  exact ⟨b, cap, cur, h1, Nat.le_trans hb h2, h3⟩

theorem owns_news2 {w : World} {b T : Nat} {cs : List Value} (h : Owns w b cs T) : ∀ j u, cs[j]? = some u → w.cell? ((⟨b, 0, none⟩ : Addr).add j) = some u := by
  intro j u hj
  rw [padd_off, Nat.zero_add, h.cell, hj]
theorem row_cap {w : World} {base e size k g cap n : Nat} {xs : List Value} (h : looseRow w base e size (.slice (some ⟨g, 0, none⟩) n cap) k xs) : k ≤ cap ∧ cap ≤ maxLen ∧ g < w.heap.size := by
  rcases h.2 with ⟨h1, _⟩ | ⟨g', cap', cur, h1, h2, h3, h4, h5, h6⟩
  · cases h1
  · cases h1
    exact ⟨h4, h5, (Array.getElem?_eq_some_iff.1 h3).1⟩

set_option maxHeartbeats 2000000 in
set_option maxRecDepth 20000 in
theorem twin_ok (w : List Int) (hw : w.length ≤ 7) (W : World) (v : Value) (hv : IntsV W W.heap.size v w) : Calls Try.prog 22 #[v, .int .i64 (-77)] W fun e W' => ∃ t, e = .returned t ∧ TwinAt w t W' ∧ Grew W W' := by
  obtain ⟨va, vc, rfl, hA⟩ := hv
  obtain ⟨i0, hi, hz0, hz1, hz2⟩ := info_parts info_int
  obtain ⟨n, hn⟩ : ∃ n, w.length = n := ⟨_, rfl⟩
  have hmk := run_make (P := Try.prog) W 23 3 i0 (.int .i64 0) Try.underlying23 hi hz0 .i64 .i64 0 ((n : Int) + 2) (by omega) (by omega) (by rw [hz2]; omega) (by omega)
  obtain ⟨w1, hw1⟩ : ∃ w1, W.alloc (.cells (madeCells (Value.int .i64 0).cells (((n : Int) + 2).toNat * i0.size)) 3) = w1 := ⟨_, rfl⟩
  have g1 : Grew W w1 := hw1 ▸ grew_alloc W _
  have h1 : w1.heap[W.heap.size]? = some (.cells (madeCells (Value.int .i64 0).cells (((n : Int) + 2).toNat * i0.size)) 3 (0, 0)) := by rw [← hw1]; exact heap_alloc_new W _
  have e2 : ((n : Int) + 2).toNat = n + 2 := by omega
  rw [hw1] at hmk
  rw [e2, hz1, Nat.mul_one] at h1
  rw [e2] at hmk
  have hsz : (madeCells (Value.int .i64 0).cells (n + 2)).size = n + 2 := by
    have := toList_madeCells_one (Value.int .i64 0) (n + 2)
    have h2 := congrArg List.length this
    rw [List.length_replicate, Array.length_toList] at h2
    exact h2
  have hrow : looseRow w1 W.heap.size 3 1 (.slice (some ⟨W.heap.size, 0, none⟩) 0 (n + 2)) 0 [] := ⟨rfl, .inr ⟨W.heap.size, n + 2, _, rfl, Nat.le_refl _, h1, by omega, by unfold maxLen; omega, by rw [hsz]; omega, by simp⟩⟩
  have HROW := Lib.hid hrow
  have HG1 := Lib.hid g1
  have HI := Lib.hid hi
  have HZ0 := Lib.hid hz0
  have HZ1 := Lib.hid hz1
  have HZ2 := Lib.hid hz2
  have HA := Lib.hid hA
  have hadd : IntKind.i64.wrap ((n : Int) + 2) = (n : Int) + 2 := by rw [IntKind.wrap_i64]; omega
  have hn7 : n ≤ 7 := hn ▸ hw
  have HN := Lib.hid hn
  rw [hn]
  simp only [Int.toNat_zero] at hmk
  clear hi hz0 hz1 hz2 hA hw1 h1 g1 hrow e2 hsz hw hn
  go_enter Try.func22, Try.ntmps22
  go_upto_region 2 with fail
  go_cut [5] (fun s5 wx => Hid (looseRow wx W.heap.size 3 1 s5 n (intVs w)) ∧ Hid (Grew W wx))
  case first =>
    by_cases h0 : n = 0
    · subst h0
      have hap := run_append_nothing0 _ _ _ w1 (loose_weak HROW.out (Nat.zero_le _)) va vc
      have HAP := Lib.hid hap
      clear hap hmk
      go_wp2_with (at_builtin; refine wpList_append_run _ rfl _ _ 23 23 rfl _ _ _ rfl rfl (HAP.out _) ?_)
      go_meet
      have hw0 : w = [] := List.eq_nil_of_length_eq_zero HN.out
      subst hw0
      exact ⟨HROW.out, HG1.out⟩
    · obtain ⟨b, off, rfl, hb, -⟩ := HA.out 0 (by rw [HN.out]; omega)
      have HNW := Lib.hid (show ∀ k u, (intVs w)[k]? = some u → w1.cell? ((⟨b, off, none⟩ : Addr).add k) = some u by
        intro k u hk
        unfold intVs at hk
        rw [List.getElem?_map] at hk
        obtain ⟨x, hx, rfl⟩ := Option.map_eq_some_iff.1 hk
        obtain ⟨hkl, hkx⟩ := List.getElem?_eq_some_iff.1 hx
        obtain ⟨b', o', he, hb', hcell⟩ := HA.out k hkl
        simp at he
        obtain ⟨rfl, rfl⟩ := he
        rw [padd_off, HG1.out.cells _ _ hb', hcell, hkx])
      have HON := Lib.hid (show ∀ u ∈ intVs w, u.oneCell' = true by
        intro u hu
        obtain ⟨x, _, rfl⟩ := List.mem_map.1 hu
        rfl)
      have HLE := Lib.hid (show (intVs w).length = n * 1 by rw [intVs_len, HN.out])
      have HP := Lib.hid (Nat.pos_of_ne_zero h0)
      have H63 := Lib.hid (show 0 + n ≤ maxLen by unfold maxLen; omega)
      have H64 := Lib.hid (show (0 + n) * 8 ≤ 140737488355328 by omega)
      have HLIM := Lib.hid HG1.out.size
      clear h0 hb hmk
      go_wp2_with (at_builtin; refine wpList_append_loose w1 rfl _ _ 23 rfl W.heap.size 3 i0 _ 1 8 Try.underlying23 HI.out HZ0.out HZ1.out HZ2.out rfl (by decide) _ 0 [] rfl HROW.out ⟨b, off, none⟩ n vc (intVs w) rfl HLE.out HNW.out HON.out HP.out H63.out H64.out HLIM.out _ rfl ?_; intro g cap' w7 hown hgrow hat hlt7; have HOWN := Lib.hid hown; have HGROW := Lib.hid hgrow; clear hown hgrow hat hlt7)
      go_meet
      have ho := HOWN.out
      rw [List.nil_append, Nat.zero_add] at ho
      refine ⟨?_, grew_own HG1.out HROW.out HGROW.out⟩
      exact ho
  case rest =>
    obtain ⟨hr, hg⟩ := hcut
    obtain ⟨w2, hw2⟩ : ∃ w2, wc.alloc (.cells #[.int .i64 (-77), .int .i64 (-77)] 3) = w2 := ⟨_, rfl⟩
    have g2 : Grew wc w2 := hw2 ▸ grew_alloc wc _
    have o2 : Owns w2 wc.heap.size [.int .i64 (-77), .int .i64 (-77)] 3 := hw2 ▸ Owns.alloc wc _ _
    have HR2 := Lib.hid (loose_keep hr.out g2)
    have HNS := Lib.hid (owns_news2 o2)
    have HG2 := Lib.hid (hg.out.trans g2)
    have H63 := Lib.hid (show n + 2 ≤ maxLen by unfold maxLen; omega)
    have H64 := Lib.hid (show (n + 2) * 8 ≤ 140737488355328 by omega)
    have HLIM := Lib.hid (hg.out.trans g2).size
    clear hr hg g2 o2 hmk
    go_wp2_with (at_builtin; refine wpList_append_loose w2 rfl _ _ 23 rfl W.heap.size 3 i0 _ 1 8 Try.underlying23 HI.out HZ0.out HZ1.out HZ2.out rfl (by decide) _ n (intVs w) rfl HR2.out ⟨wc.heap.size, 0, none⟩ 2 2 [.int .i64 (-77), .int .i64 (-77)] rfl rfl HNS.out (fun u hu => by simp only [List.mem_cons, List.not_mem_nil, or_false, or_self] at hu; rw [hu]; rfl) (by decide) H63.out H64.out HLIM.out _ rfl ?_; intro g cap' w7 hown hgrow hat hlt7; have HOWN := Lib.hid hown; have HGROW := Lib.hid hgrow; have hsl : ∀ u : World, (Instr.slice 23 (.slice (some ⟨g, 0, none⟩) (n + 2) cap') none (some (.int .i64 n)) none).run Try.prog u = .ok (sliced (some ⟨g, 0, none⟩) 0 n cap' 1) u := run_cut (by have := row_cap hown; omega); clear hown hgrow hat)
    go_ret
    have hc := row_cap HOWN.out
    have hiv : (intVs w).length = n := by rw [intVs_len, HN.out, Nat.mul_one]
    have hcell := looseRow_cells HOWN.out (g := g) rfl
    refine ⟨.slice (some ⟨g, 0, none⟩) n cap', rfl, ⟨g, cap', by rw [HN.out], by rw [HN.out]; exact hc.1, hc.2.1, hc.2.2, fun k hk => hcell k _ ?_, ?_, ?_⟩, grew_own HG2.out HR2.out HGROW.out⟩
    · rw [List.getElem?_append_left (by rw [hiv, ← HN.out]; exact hk)]
      unfold intVs
      rw [List.getElem?_map, List.getElem?_eq_getElem hk]
      rfl
    · rw [HN.out]
      refine hcell n _ ?_
      rw [List.getElem?_append_right (by omega), hiv]
      simp
    · rw [HN.out]
      refine hcell (n + 1) _ ?_
      rw [List.getElem?_append_right (by omega), hiv]
      have : n + 1 - n = 1 := by omega
      rw [this]
      rfl
theorem TwinNums_ok (w : List Int) (hw : w.length ≤ 7) (W : World) (v : Value) (hv : IntsV W W.heap.size v w) : Calls Try.prog 8 #[v] W fun e W' => ∃ t, e = .returned t ∧ TwinAt w t W' ∧ Grew W W' := by
  have HC := Lib.hid (twin_ok w hw W v hv)
  clear hv
  go_enter Try.func8, Try.ntmps8
  go_wp2_with (refine HC.out.mono ?_; rintro e w1 ⟨t, rfl, ht, hg⟩; have HT := Lib.hid ht; have HG := Lib.hid hg; clear ht hg)
  go_ret
  exact ⟨t, rfl, HT.out, HG.out⟩

set_option maxHeartbeats 2000000 in
/-- lists of numbers that are the same -/
theorem sameI_ok (w : List Int) (hw : w.length ≤ 7) (W : World) (u v : Value) (hu : IntsV W W.heap.size u w) (hv : IntsV W W.heap.size v w) : Calls Try.prog 47 #[u, v] W fun e W' => e = .returned (.bool true) ∧ Grew W W' := by
  obtain ⟨ua, uc, rfl, hA⟩ := hu
  obtain ⟨va, vc, rfl, hB⟩ := hv
  have HA := Lib.hid hA
  have HB := Lib.hid hB
  clear hA hB
  go_enter Try.func47, Try.ntmps47
  go_wp2_with fail
  go_loopw [5] (fun i wr => ∃ (j : Nat), i = .int .i64 j ∧ j ≤ w.length ∧ Hid (Grew W wr)) (fun i _ => w.length - (intOf i).toNat)
  case atStart => exact ⟨0, rfl, by omega, Grew.refl _⟩
  case round =>
    obtain ⟨j, rfl, hj, hg⟩ := hrel
    by_cases hlt : j < w.length
    · obtain ⟨b, o, rfl, hb, hc⟩ := HA.out j hlt
      obtain ⟨b2, o2, rfl, hb2, hc2⟩ := HB.out j hlt
      have c1 := (hg.out.cells _ (o + j) hb).trans hc
      have c2 := (hg.out.cells _ (o2 + j) hb2).trans hc2
      have l1 : b < wr.heap.size := Nat.lt_of_lt_of_le hb hg.out.size
      have l2 : b2 < wr.heap.size := Nat.lt_of_lt_of_le hb2 hg.out.size
      generalize w[j] = x at *
      clear hc hc2
      go_wp2_with fail
      go_quiet (fail)
      go_wp2_with fail
      have hb3 := drewN_below wr nq
      exact ⟨⟨j + 1, by go_num, by omega, hg.out.trans hb3⟩, by simp [intOf]; omega⟩
    · obtain rfl : j = w.length := by omega
      go_wp2_with fail
      go_ret
      exact ⟨rfl, hg.out⟩

set_option maxHeartbeats 2000000 in
set_option maxRecDepth 20000 in
theorem leftI_ok (w : List Int) (hw : w.length ≤ 7) (W : World) (t v : Value) (ht : TwinAt w t W) (hv : IntsV W W.heap.size v w) : Calls Try.prog 31 #[t, v, .int .i64 (-77)] W fun e W' => e = .returned (.bool true) ∧ Grew W W' := by
  have HS := Lib.hid (sameI_ok w hw W t v ht.ints hv)
  obtain ⟨g, cap, rfl, hc, hcm, hg, -, h5, h6⟩ := ht
  obtain ⟨n, hn⟩ : ∃ n, w.length = n := ⟨_, rfl⟩
  have HN := Lib.hid hn
  rw [hn] at hc h5 h6 hw HS ⊢
  have HC5 := Lib.hid h5
  have HC6 := Lib.hid h6
  have HGL := Lib.hid hg
  have hr := run_slice_lh (P := Try.prog) W 23 (some ⟨g, 0, none⟩) n cap (by kernel_rfl) .i64 .i64 (n : Int) (cap : Int) (by omega) (by omega) (by omega)
  rw [size_int] at hr
  obtain ⟨m, hm⟩ : ∃ m, cap - n = m := ⟨_, rfl⟩
  have hm2 : 2 ≤ m := by omega
  have hsl : (Instr.slice 23 (.slice (some ⟨g, 0, none⟩) n cap) (some (.int .i64 n)) (some (.int .i64 cap)) none).run Try.prog W = .ok (.slice (some ⟨g, n, none⟩) m m) W := by
    rw [hr]
    show Result.ok (sliced (some ⟨g, 0, none⟩) (n : Int).toNat (cap : Int).toNat cap 1) W = _
    rw [Int.toNat_natCast, Int.toNat_natCast]
    unfold sliced
    rw [if_neg (by omega), hm]
    simp [padd_off]
  have d2 : decide ((m : Int) < 2) = false := decide_eq_false (by omega)
  have d3 : ¬ ((m : Int) < 2) := by omega
  have hcm2 : cap ≤ maxLen := hcm
  clear hr hn h5 h6 hg hv hm
  go_enter Try.func31, Try.ntmps31
  go_wp2_with (refine HS.out.mono ?_; rintro e w1 ⟨rfl, hg1⟩; have c5 := (hg1.cells _ n HGL.out).trans HC5.out; have c6 := (hg1.cells _ (n + 1) HGL.out).trans HC6.out; have gl := Nat.lt_of_lt_of_le HGL.out hg1.size; have HG1 := Lib.hid hg1; clear hg1)
  go_ret
  exact ⟨rfl, HG1.out⟩
theorem LeftNums_ok (w : List Int) (hw : w.length ≤ 7) (W : World) (t v : Value) (ht : TwinAt w t W) (hv : IntsV W W.heap.size v w) : Calls Try.prog 15 #[t, v] W fun e W' => e = .returned (.bool true) ∧ Grew W W' := by
  have HC := Lib.hid (leftI_ok w hw W t v ht hv)
  clear hv ht
  go_enter Try.func15, Try.ntmps15
  go_wp2_with (refine HC.out.mono ?_; rintro e w1 ⟨rfl, hg⟩; have HG := Lib.hid hg; clear hg)
  go_ret
  exact ⟨rfl, HG.out⟩

/-- flags in memory -/
def BoolsV (W : World) (v : Value) (n : Nat) (h : Nat → Bool) : Prop := (n = 0 ∧ ∃ c, v = .slice none 0 c) ∨ ∃ b c, v = .slice (some ⟨b, 0, none⟩) n c ∧ b < W.heap.size ∧ ∀ k, k < n → W.cell? ⟨b, k, none⟩ = some (.bool (h k))
set_option maxHeartbeats 2000000 in
theorem Flags5_ok (n : Nat) (hn : n ≤ 1000) (h : Nat → Bool) (W : World) (u v : Value) (hu : BoolsV W u n h) (hv : BoolsV W v n h) : Calls Try.prog 30 #[u, v] W fun e W' => e = .returned (.bool true) ∧ Grew W W' := by
  obtain ⟨ua, uc, rfl, hA⟩ : ∃ a c, u = .slice a n c ∧ ∀ k, k < n → ∃ b, a = some ⟨b, 0, none⟩ ∧ b < W.heap.size ∧ W.cell? ⟨b, k, none⟩ = some (.bool (h k)) := by
    rcases hu with ⟨rfl, c, rfl⟩ | ⟨b, c, rfl, h1, h2⟩
    · exact ⟨none, c, rfl, fun k hk => absurd hk (by omega)⟩
    · exact ⟨_, c, rfl, fun k hk => ⟨b, rfl, h1, h2 k hk⟩⟩
  obtain ⟨va, vc, rfl, hB⟩ : ∃ a c, v = .slice a n c ∧ ∀ k, k < n → ∃ b, a = some ⟨b, 0, none⟩ ∧ b < W.heap.size ∧ W.cell? ⟨b, k, none⟩ = some (.bool (h k)) := by
    rcases hv with ⟨rfl, c, rfl⟩ | ⟨b, c, rfl, h1, h2⟩
    · exact ⟨none, c, rfl, fun k hk => absurd hk (by omega)⟩
    · exact ⟨_, c, rfl, fun k hk => ⟨b, rfl, h1, h2 k hk⟩⟩
  have HA := Lib.hid hA
  have HB := Lib.hid hB
  clear hA hB hu hv
  go_enter Try.func30, Try.ntmps30
  go_wp2_with fail
  go_loopw [5] (fun i wr => ∃ (j : Nat), i = .int .i64 j ∧ j ≤ n ∧ Hid (Grew W wr)) (fun i _ => n - (intOf i).toNat)
  case atStart => exact ⟨0, rfl, by omega, Grew.refl _⟩
  case round =>
    obtain ⟨j, rfl, hj, hg⟩ := hrel
    by_cases hlt : j < n
    · obtain ⟨b, rfl, hb, hc⟩ := HA.out j hlt
      obtain ⟨b2, rfl, hb2, hc2⟩ := HB.out j hlt
      have c1 := (hg.out.cells _ j hb).trans hc
      have c2 := (hg.out.cells _ j hb2).trans hc2
      have l1 : b < wr.heap.size := Nat.lt_of_lt_of_le hb hg.out.size
      have l2 : b2 < wr.heap.size := Nat.lt_of_lt_of_le hb2 hg.out.size
      generalize h j = x at *
      clear hc hc2
      go_wp2_with fail
      go_quiet (fail)
      go_wp2_with fail
      have hb3 := drewN_below wr nq
      exact ⟨⟨j + 1, by go_num, by omega, hg.out.trans hb3⟩, by simp [intOf]; omega⟩
    · obtain rfl : j = n := by omega
      go_wp2_with fail
      go_ret
      exact ⟨rfl, hg.out⟩
theorem Flags13_ok (n : Nat) (hn : n ≤ 1000) (h : Nat → Bool) (W : World) (u v : Value) (hu : BoolsV W u n h) (hv : BoolsV W v n h) : Calls Try.prog 12 #[u, v] W fun e W' => e = .returned (.bool true) ∧ Grew W W' := by
  have HC := Lib.hid (Flags5_ok n hn h W u v hu hv)
  clear hv hu
  go_enter Try.func12, Try.ntmps12
  go_wp2_with (refine HC.out.mono ?_; rintro e w1 ⟨rfl, hg⟩; have HG := Lib.hid hg; clear hg)
  go_ret
  exact ⟨rfl, HG.out⟩
end Go.Proofs.Ytgdcnndmdgcjlaa
