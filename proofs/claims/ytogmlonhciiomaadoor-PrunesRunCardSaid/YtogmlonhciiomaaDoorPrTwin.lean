/- Copies of numbers, whether they were left. -/
import Derived.Test.YtogmlonhciiomaaDoorPrRRun
import Derived.Deep.CutBlock
import Derived.Deep.DeepCutAuto
namespace Go.Proofs.YtogmlonhciiomaaDoor
open Go.RowKit

theorem intVs_len (l : List Int) : (intVs l).length = l.length * 1 := by simp [intVs]
theorem size_int (u : World) : (sizeOf (Tryd.prog.elem 26)).run Tryd.prog u = .ok 1 u := by kernel_rfl
theorem run_cut {a : Option Addr} {n cap c : Nat} (hc : c ≤ cap) (u : World) : (Instr.slice 26 (.slice a n cap) none (some (.int .i64 c)) none).run Tryd.prog u = .ok (sliced a 0 c cap 1) u := by
  have := run_slice_h (P := Tryd.prog) u 26 a n cap (by kernel_rfl) .i64 (c : Int) (by omega) (by omega)
  rw [this, size_int, Int.toNat_natCast]
  rfl
section
variable {P : Program} (w : World)
/-- an append of which the run is known -/
theorem wpList_append_run {ops : Array Oper} {rest : List Oper} {o : Oper} {a : Act} {Q : Exit → Act → World → Prop} {w' : World} (hgd : o.guard = none) (s x : Operand) (t tn : TypeId)
    (ho : o.op = .call { callee := .builtin .append, args := #[s, x], argTypes := #[t, tn] }) (vs vx v : Value) (hs : a.eval s = vs) (hx : a.eval x = vx)
    (hr : (Builtin.append_ #[t, tn] o.type #[vs, vx]).run P w = .ok v w') (h : wpList P ops Q rest (a.put o.dst v) w') : wpList P ops Q (o :: rest) a w :=
  wpList_plain hgd fun _ hK => by
    unfold Oper.wp execOp
    simp only [ho, resolve, invoke, builtin, Sem.run_bind, Sem.run_pure, Result.andThen_ok, List.map_toArray, List.map_cons, List.map_nil, hs, hx, hr]
    exact hK _ _ h
theorem run_append_nothing (t ty : TypeId) (base : Nat) (e : TypeId) (i : TypeInfo) (size : Nat) (ht : P.underlying t = some (.slice e)) (hi : P.info? e = some i) (hsize : i.size = size)
    (v : Value) (n : Nat) (xs : List Value) (hown : looseRow w base e size v n xs) (ad : Option Addr) (c : Nat) :
    (Builtin.append_ #[t, t] ty #[v, .slice ad 0 c]).run P w = .ok v w := by
  subst hsize
  have hf : (Builtin.firstCells i.size 0 (.slice ad 0 c)).run P w = .ok #[] w := by
    cases ad with
    | none => simp [Builtin.firstCells]
    | some a => simp [Builtin.firstCells, loadCells, loadCellsFrom]
  rcases hown.2 with ⟨rfl, rfl⟩ | ⟨g, cap, cur, rfl, hbg, hg, hnc, hcm, hcs, htake⟩
  · simp [Builtin.append_, run_underlying ht, sizeOf, typeInfo, hi, Builtin.lenOf, hf]
  · simp [Builtin.append_, run_underlying ht, sizeOf, typeInfo, hi, Builtin.lenOf, hf, hnc, storeCells]
end
theorem run_append_nothing0 (v : Value) (n : Nat) (xs : List Value) (w : World) (h : looseRow w 0 3 1 v n xs) (ad : Option Addr) (c : Nat) : ∀ ty, (Builtin.append_ #[26, 26] ty #[v, .slice ad 0 c]).run Tryd.prog w = .ok v w := by
  obtain ⟨i0, hi, hz0, hz1, hz2⟩ := info_parts info_pint
  exact fun ty => run_append_nothing w 26 ty 0 3 i0 1 Tryd.underlying26 hi hz1 v n xs h ad c

/-- a copy, with two marks behind -/
def TwinAt (w : List Int) (t : Value) (W' : World) : Prop := ∃ g cap, t = .slice (some ⟨g, 0, none⟩) w.length cap ∧ w.length + 2 ≤ cap ∧ cap ≤ maxLen ∧ g < W'.heap.size ∧ (∀ k (h : k < w.length), W'.cell? ⟨g, k, none⟩ = some (.int .i64 w[k])) ∧ W'.cell? ⟨g, w.length, none⟩ = some (.int .i64 (-77)) ∧ W'.cell? ⟨g, w.length + 1, none⟩ = some (.int .i64 (-77))
theorem TwinAt.keep {w : List Int} {t : Value} {W W' : World} (hg : Grew W W') (h : TwinAt w t W) : TwinAt w t W' := by
  obtain ⟨g, cap, h1, h2, h0, h3, h4, h5, h6⟩ := h
  exact ⟨g, cap, h1, h2, h0, Nat.lt_of_lt_of_le h3 hg.size, fun k hk => (hg.cells _ _ h3).trans (h4 k hk), (hg.cells _ _ h3).trans h5, (hg.cells _ _ h3).trans h6⟩
theorem TwinAt.ints {w : List Int} {t : Value} {W : World} (h : TwinAt w t W) : IntsV W W.heap.size t w := by
  obtain ⟨g, cap, h1, h2, h0, h3, h4, h5, h6⟩ := h
  exact ⟨_, cap, h1, by omega, fun k hk => ⟨g, 0, rfl, h3, by rw [Nat.zero_add]; exact h4 k hk⟩⟩
theorem loose_weak {w : World} {base b2 e size k : Nat} {v : Value} {xs : List Value} (h : looseRow w base e size v k xs) (hb : b2 ≤ base) : looseRow w b2 e size v k xs := by
  refine ⟨h.1, h.2.imp id ?_⟩
  rintro ⟨b, cap, cur, h1, h2, h3⟩
  exact ⟨b, cap, cur, h1, Nat.le_trans hb h2, h3⟩

theorem owns_news2 {w : World} {b T : Nat} {cs : List Value} (h : Owns w b cs T) : ∀ j u, cs[j]? = some u → w.cell? ((⟨b, 0, none⟩ : Addr).add j) = some u := by
  intro j u hj
  rw [Addr.add_lit, Nat.zero_add, h.cell, hj]
theorem row_cap {w : World} {base e size k g cap n : Nat} {xs : List Value} (h : looseRow w base e size (.slice (some ⟨g, 0, none⟩) n cap) k xs) : k ≤ cap ∧ cap ≤ maxLen ∧ g < w.heap.size := by
  rcases h.2 with ⟨h1, _⟩ | ⟨g', cap', cur, h1, h2, h3, h4, h5, h6⟩
  · cases h1
  · cases h1
    exact ⟨h4, h5, (Array.getElem?_eq_some_iff.1 h3).1⟩

set_option maxHeartbeats 2000000 in
set_option maxRecDepth 20000 in
theorem twin_ok (w : List Int) (hw : w.length ≤ 300) (W : World) (v : Value) (hv : IntsV W W.heap.size v w) : Calls Tryd.prog 22 #[v, .int .i64 (-77)] W fun e W' => ∃ t, e = .returned t ∧ TwinAt w t W' ∧ Grew W W' := by
  obtain ⟨va, vc, rfl, _, hA⟩ := hv
  obtain ⟨i0, hi, hz0, hz1, hz2⟩ := info_parts info_pint
  obtain ⟨n, hn⟩ : ∃ n, w.length = n := ⟨_, rfl⟩
  have hmk := run_make (P := Tryd.prog) W 26 3 i0 (.int .i64 0) Tryd.underlying26 hi hz0 .i64 .i64 0 ((n : Int) + 2) (by omega) (by omega) (by rw [hz2]; omega) (by omega)
  obtain ⟨w1, hw1⟩ : ∃ w1, W.alloc (.cells (madeCells (Value.int .i64 0).cells (((n : Int) + 2).toNat * i0.size)) 3) = w1 := ⟨_, rfl⟩
  have g1 : Grew W w1 := hw1 ▸ grew_alloc W _
  have h1 : w1.heap[W.heap.size]? = some (.cells (madeCells (Value.int .i64 0).cells (((n : Int) + 2).toNat * i0.size)) 3 (0, 0)) := by rw [← hw1]; exact heap_alloc_new W _
  have e2 : ((n : Int) + 2).toNat = n + 2 := by omega
  rw [hw1] at hmk
  rw [e2, hz1, Nat.mul_one] at h1
  rw [e2] at hmk
  have hsz : (madeCells (Value.int .i64 0).cells (n + 2)).size = n + 2 := by
    have := toList_madeCells_one (Value.int .i64 0) (n + 2)
    have h2 := congrArg List.length this
    rw [List.length_replicate, Array.length_toList] at h2
    exact h2
  have hrow : looseRow w1 W.heap.size 3 1 (.slice (some ⟨W.heap.size, 0, none⟩) 0 (n + 2)) 0 [] := ⟨rfl, .inr ⟨W.heap.size, n + 2, _, rfl, Nat.le_refl _, h1, by omega, by unfold maxLen; omega, by rw [hsz]; omega, by simp⟩⟩
  have HROW := Lib.hid hrow
  have HG1 := Lib.hid g1
  have HI := Lib.hid hi
  have HZ0 := Lib.hid hz0
  have HZ1 := Lib.hid hz1
  have HZ2 := Lib.hid hz2
  have HA := Lib.hid hA
  have hadd : IntKind.i64.wrap ((n : Int) + 2) = (n : Int) + 2 := by rw [IntKind.wrap_i64]; omega
  have hn7 : n ≤ 300 := hn ▸ hw
  have HN := Lib.hid hn
  rw [hn]
  simp only [Int.toNat_zero] at hmk
  clear hi hz0 hz1 hz2 hA hw1 h1 g1 hrow e2 hsz hw hn
  go_enter Tryd.func22, Tryd.ntmps22
  go_upto_region 2 with fail
  go_cut [5] (fun s5 wx => Hid (looseRow wx W.heap.size 3 1 s5 n (intVs w)) ∧ Hid (Grew W wx))
  case first =>
    by_cases h0 : n = 0
    · subst h0
      have hap := run_append_nothing0 _ _ _ w1 (loose_weak HROW.out (Nat.zero_le _)) va vc
      have HAP := Lib.hid hap
      clear hap hmk
      go_wp2_with (at_builtin; refine wpList_append_run _ rfl _ _ 26 26 rfl _ _ _ rfl rfl (HAP.out _) ?_)
      go_meet
      have hw0 : w = [] := List.eq_nil_of_length_eq_zero HN.out
      subst hw0
      exact ⟨HROW.out, HG1.out⟩
    · obtain ⟨b, off, rfl, hb, -⟩ := HA.out 0 (by rw [HN.out]; omega)
      have HNW := Lib.hid (show ∀ k u, (intVs w)[k]? = some u → w1.cell? ((⟨b, off, none⟩ : Addr).add k) = some u by
        intro k u hk
        unfold intVs at hk
        rw [List.getElem?_map] at hk
        obtain ⟨x, hx, rfl⟩ := Option.map_eq_some_iff.1 hk
        obtain ⟨hkl, hkx⟩ := List.getElem?_eq_some_iff.1 hx
        obtain ⟨b', o', he, hb', hcell⟩ := HA.out k hkl
        simp at he
        obtain ⟨rfl, rfl⟩ := he
        rw [Addr.add_lit, HG1.out.cells _ _ hb', hcell, hkx])
      have HON := Lib.hid (show ∀ u ∈ intVs w, u.oneCell' = true by
        intro u hu
        obtain ⟨x, _, rfl⟩ := List.mem_map.1 hu
        rfl)
      have HLE := Lib.hid (show (intVs w).length = n * 1 by rw [intVs_len, HN.out])
      have HP := Lib.hid (Nat.pos_of_ne_zero h0)
      have H63 := Lib.hid (show 0 + n ≤ maxLen by unfold maxLen; omega)
      have H64 := Lib.hid (show (0 + n) * 8 ≤ 140737488355328 by omega)
      have HLIM := Lib.hid HG1.out.size
      clear h0 hb hmk
      go_wp2_with (at_builtin; refine wpList_append_loose w1 rfl _ _ 26 rfl W.heap.size 3 i0 _ 1 8 Tryd.underlying26 HI.out HZ0.out HZ1.out HZ2.out rfl (by decide) _ 0 [] rfl HROW.out ⟨b, off, none⟩ n vc (intVs w) rfl HLE.out HNW.out HON.out HP.out H63.out H64.out HLIM.out _ rfl ?_; intro g cap' w7 hown hgrow hat hlt7; have HOWN := Lib.hid hown; have HGROW := Lib.hid hgrow; clear hown hgrow hat hlt7)
      go_meet
      have ho := HOWN.out
      rw [List.nil_append, Nat.zero_add] at ho
      refine ⟨?_, grew_row HG1.out HROW.out HGROW.out⟩
      exact ho
  case rest =>
    obtain ⟨hr, hg⟩ := hcut
    obtain ⟨w2, hw2⟩ : ∃ w2, wc.alloc (.cells #[.int .i64 (-77), .int .i64 (-77)] 3) = w2 := ⟨_, rfl⟩
    have g2 : Grew wc w2 := hw2 ▸ grew_alloc wc _
    have o2 : Owns w2 wc.heap.size [.int .i64 (-77), .int .i64 (-77)] 3 := hw2 ▸ Owns.alloc wc _ _
    have HR2 := Lib.hid (hr.out.keep g2)
    have HNS := Lib.hid (owns_news2 o2)
    have HG2 := Lib.hid (hg.out.trans g2)
    have H63 := Lib.hid (show n + 2 ≤ maxLen by unfold maxLen; omega)
    have H64 := Lib.hid (show (n + 2) * 8 ≤ 140737488355328 by omega)
    have HLIM := Lib.hid (hg.out.trans g2).size
    clear hr hg g2 o2 hmk
    go_wp2_with (at_builtin; refine wpList_append_loose w2 rfl _ _ 26 rfl W.heap.size 3 i0 _ 1 8 Tryd.underlying26 HI.out HZ0.out HZ1.out HZ2.out rfl (by decide) _ n (intVs w) rfl HR2.out ⟨wc.heap.size, 0, none⟩ 2 2 [.int .i64 (-77), .int .i64 (-77)] rfl rfl HNS.out (fun u hu => by simp only [List.mem_cons, List.not_mem_nil, or_false, or_self] at hu; rw [hu]; rfl) (by decide) H63.out H64.out HLIM.out _ rfl ?_; intro g cap' w7 hown hgrow hat hlt7; have HOWN := Lib.hid hown; have HGROW := Lib.hid hgrow; have hsl : ∀ u : World, (Instr.slice 26 (.slice (some ⟨g, 0, none⟩) (n + 2) cap') none (some (.int .i64 n)) none).run Tryd.prog u = .ok (sliced (some ⟨g, 0, none⟩) 0 n cap' 1) u := run_cut (by have := row_cap hown; omega); clear hown hgrow hat)
    go_ret
    have hc := row_cap HOWN.out
    have hiv : (intVs w).length = n := by rw [intVs_len, HN.out, Nat.mul_one]
    have hcell := looseRow_cells HOWN.out (g := g) rfl
    refine ⟨.slice (some ⟨g, 0, none⟩) n cap', rfl, ⟨g, cap', by rw [HN.out], by rw [HN.out]; exact hc.1, hc.2.1, hc.2.2, fun k hk => hcell k _ ?_, ?_, ?_⟩, grew_row HG2.out HR2.out HGROW.out⟩
    · rw [List.getElem?_append_left (by rw [hiv, ← HN.out]; exact hk)]
      unfold intVs
      rw [List.getElem?_map, List.getElem?_eq_getElem hk]
      rfl
    · rw [HN.out]
      refine hcell n _ ?_
      rw [List.getElem?_append_right (by omega), hiv]
      simp
    · rw [HN.out]
      refine hcell (n + 1) _ ?_
      rw [List.getElem?_append_right (by omega), hiv]
      have : n + 1 - n = 1 := by omega
      rw [this]
      rfl
theorem TwinNums_ok (w : List Int) (hw : w.length ≤ 300) (W : World) (v : Value) (hv : IntsV W W.heap.size v w) : Calls Tryd.prog 10 #[v] W fun e W' => ∃ t, e = .returned t ∧ TwinAt w t W' ∧ Grew W W' := by
  have HC := Lib.hid (twin_ok w hw W v hv)
  clear hv
  go_enter Tryd.func10, Tryd.ntmps10
  go_wp2_with (refine HC.out.mono ?_; rintro e w1 ⟨t, rfl, ht, hg⟩; have HT := Lib.hid ht; have HG := Lib.hid hg; clear ht hg)
  go_ret
  exact ⟨t, rfl, HT.out, HG.out⟩

set_option maxHeartbeats 2000000 in
set_option maxRecDepth 20000 in
theorem leftI_ok (w : List Int) (hw : w.length ≤ 300) (W : World) (t v : Value) (ht : TwinAt w t W) (hv : IntsV W W.heap.size v w) : Calls Tryd.prog 28 #[t, v, .int .i64 (-77)] W fun e W' => e = .returned (.bool true) ∧ Grew W W' := by
  have HS := Lib.hid (psameI_ok w w W t v (by omega) (by omega) ht.ints hv)
  rw [decide_eq_true (rfl : w = w)] at HS
  obtain ⟨g, cap, rfl, hc, hcm, hg, -, h5, h6⟩ := ht
  obtain ⟨n, hn⟩ : ∃ n, w.length = n := ⟨_, rfl⟩
  have HN := Lib.hid hn
  rw [hn] at hc h5 h6 hw HS ⊢
  have HC5 := Lib.hid h5
  have HC6 := Lib.hid h6
  have HGL := Lib.hid hg
  have hr := run_slice_lh (P := Tryd.prog) W 26 (some ⟨g, 0, none⟩) n cap (by kernel_rfl) .i64 .i64 (n : Int) (cap : Int) (by omega) (by omega) (by omega)
  rw [size_int] at hr
  obtain ⟨m, hm⟩ : ∃ m, cap - n = m := ⟨_, rfl⟩
  have hm2 : 2 ≤ m := by omega
  have hsl : (Instr.slice 26 (.slice (some ⟨g, 0, none⟩) n cap) (some (.int .i64 n)) (some (.int .i64 cap)) none).run Tryd.prog W = .ok (.slice (some ⟨g, n, none⟩) m m) W := by
    rw [hr]
    show Result.ok (sliced (some ⟨g, 0, none⟩) (n : Int).toNat (cap : Int).toNat cap 1) W = _
    rw [Int.toNat_natCast, Int.toNat_natCast]
    unfold sliced
    rw [if_neg (by omega), hm]
    simp [Addr.add_lit]
  have d2 : decide ((m : Int) < 2) = false := decide_eq_false (by omega)
  have d3 : ¬ ((m : Int) < 2) := by omega
  have hcm2 : cap ≤ maxLen := hcm
  clear hr hn h5 h6 hg hv hm
  go_enter Tryd.func28, Tryd.ntmps28
  go_wp2_with (refine HS.out.mono ?_; rintro e w1 ⟨rfl, hg1⟩; have c5 := (hg1.cells _ n HGL.out).trans HC5.out; have c6 := (hg1.cells _ (n + 1) HGL.out).trans HC6.out; have gl := Nat.lt_of_lt_of_le HGL.out hg1.size; have HG1 := Lib.hid hg1; clear hg1)
  go_ret
  exact ⟨rfl, HG1.out⟩
theorem LeftNums_ok (w : List Int) (hw : w.length ≤ 300) (W : World) (t v : Value) (ht : TwinAt w t W) (hv : IntsV W W.heap.size v w) : Calls Tryd.prog 14 #[t, v] W fun e W' => e = .returned (.bool true) ∧ Grew W W' := by
  have HC := Lib.hid (leftI_ok w hw W t v ht hv)
  clear hv ht
  go_enter Tryd.func14, Tryd.ntmps14
  go_wp2_with (refine HC.out.mono ?_; rintro e w1 ⟨rfl, hg⟩; have HG := Lib.hid hg; clear hg)
  go_ret
  exact ⟨rfl, HG.out⟩

end Go.Proofs.YtogmlonhciiomaaDoor
