/- paths.Ways of a net that may be. -/
import Derived.Test.YtgdcnndmdgcjlaaPOk
import Derived.Test.YtgdcnndmdgcjlaaPFrom
namespace Go.Proofs.Ytgdcnndmdgcjlaa
open Go.RowKit

theorem info_pbool : (Try.prog.info? 4).map (fun i => (i.zero, i.size, i.bytes)) = some (some (.bool false), 1, 1) := by kernel_rfl
/-- making a row of bools -/
theorem make_pbools (n : Nat) (hn : n ≤ reachN) (u : World) : (Instr.makeSlice 31 (.int .i64 (n : Int)) (.int .i64 (n : Int))).run Try.prog u =
    .ok (.slice (some ⟨u.heap.size, 0, none⟩) n n) (u.alloc (.cells (List.replicate n (.bool false)).toArray 4)) := by
  obtain ⟨i0, hi, hz0, hz1, hz2⟩ := info_parts info_pbool
  unfold reachN at hn
  have h := run_make (P := Try.prog) u 31 4 i0 (.bool false) Try.underlying31 hi hz0 .i64 .i64 (n : Int) (n : Int) (by omega) (Int.le_refl _) (by rw [hz2]; omega) (by omega)
  rw [Int.toNat_natCast, hz1, Nat.mul_one] at h
  rw [h, ← made_bools]
  rfl

theorem flat_le {α β : Type} {l : List α} {f : α → List β} {k : Nat} (h : ∀ x ∈ l, (f x).length ≤ k) : (l.flatMap f).length ≤ l.length * k := by
  induction l with
  | nil => simp
  | cons x r ih =>
    rw [List.flatMap_cons, List.length_append, List.length_cons, Nat.add_mul, Nat.one_mul]
    have := h x (by simp)
    have := ih fun y hy => h y (by simp [hy])
    omega
theorem univ_small (E : Env) (hN : E.N.Small) (hw : E.w.length ≤ 7) : E.univ.length ≤ 1000000000000 := by
  have hk : E.keys.length ≤ 97 := by
    unfold Env.keys
    rw [List.length_cons]
    have := flat_le (l := List.range E.N.starts.length) (f := fun r => (List.range (E.w.length + 1)).map fun t => some (r, t)) (k := 8) (fun x _ => by simp; omega)
    rw [List.length_range] at this
    have := hN.starts
    omega
  have hp : E.pls.length ≤ 480 := by
    unfold Env.pls
    have := flat_le (l := List.range E.N.states.length) (f := fun s => (List.range (E.w.length + 1)).map fun t => (s, t)) (k := 8) (fun x _ => by simp; omega)
    rw [List.length_range] at this
    have := hN.states
    omega
  unfold Env.univ
  have := flat_le (l := E.keys) (f := fun k => E.pls.map fun p => (k, p)) (k := 480) (fun x _ => by simp; omega)
  omega
theorem edges_small (N : Net) (hN : N.Small) (s : Nat) : (N.edges s).length ≤ 1000000 := by
  unfold Net.edges
  cases h : N.states[s]? with
  | none => simp
  | some x =>
    obtain ⟨hl, rfl⟩ := List.getElem?_eq_some_iff.1 h
    have := hN.edges _ (List.getElem_mem hl)
    simp
    omega

/-- what is written so far -/
def wcells (l : List Pl) (t n j : Nat) : List Value := (List.range (n + 1)).map fun i => .bool (decide (i < j) && decide ((t, i) ∈ l))
theorem wcells_start (l : List Pl) (t n : Nat) : List.replicate (n + 1) (Value.bool false) = wcells l t n 0 := by
  unfold wcells
  apply List.ext_getElem
  · simp
  · intro i h1 h2; simp
theorem wcells_next (l : List Pl) (t n j : Nat) : (wcells l t n j).set j (.bool (decide ((t, j) ∈ l))) = wcells l t n (j + 1) := by
  unfold wcells
  apply List.ext_getElem
  · simp
  · intro i h1 h2
    rw [List.getElem_set]
    split
    · rename_i h; subst h; simp
    · rename_i h
      simp only [List.getElem_map, List.getElem_range]
      have : decide (i < j) = decide (i < j + 1) := decide_eq_decide.2 (by omega)
      rw [this]
theorem wcells_end (l : List Pl) (t n : Nat) : wcells l t n (n + 1) = (List.range (n + 1)).map fun i => .bool (decide ((t, i) ∈ l)) := by
  unfold wcells
  apply List.map_congr_left
  intro i hi
  rw [List.mem_range] at hi
  simp [hi]
theorem wcells_len (l : List Pl) (t n j : Nat) : (wcells l t n j).length = n + 1 := by simp [wcells]

structure WLoop (w0 w : World) (ob : Nat) (l : List Pl) (t n j : Nat) : Prop where
  but : But (fun b => b = ob) w0 w
  out : Owns w ob (wcells l t n j) 4
theorem WLoop.next {w0 w w' : World} {ob : Nat} {l : List Pl} {t n j : Nat} (h : WLoop w0 w ob l t n j) (hg : Grew w w') : WLoop w0 (w'.setCell ⟨ob, j, none⟩ (.bool (decide ((t, j) ∈ l)))) ob l t n (j + 1) := by
  have ho := h.out.keep hg
  refine ⟨(h.but.trans (But.of_grew (F := fun b => b = ob) hg) fun _ _ h => h).trans ?_ fun _ _ h => h, ?_⟩
  · rw [setCell_put ho]
    exact But.put rfl
  · rw [← wcells_next]
    exact ho.set j _

/-- what Ways answers -/
def WaysAt (N : Net) (w : List Int) (f t : Nat) (W : World) (e : Ending) (W' : World) : Prop :=
  ∃ (ob : Nat) (g : Nat → Bool), e = .returned (.tuple #[.slice (some ⟨ob, 0, none⟩) (w.length + 1) (w.length + 1), .int .i64 0]) ∧
      (∀ i, g i = true ↔ Lv N w (f, 0) (-1) none (t, i)) ∧ Owns W' ob ((List.range (w.length + 1)).map fun i => .bool (g i)) 4 ∧ W.heap.size ≤ ob ∧ Grew W W'

set_option maxHeartbeats 2000000 in
set_option maxRecDepth 20000 in
theorem ways_ok (N : Net) (hN : N.Small) (hM : N.mayB = true) (w : List Int) (hw : w.length ≤ 7) (f t : Nat) (hf : f < N.states.length) (ht : t < N.states.length) (W : World) (n0 n1 n2 n3 n4 wv : Value) (hB : NetAt W W.heap.size n0 n1 n2 n3 n4 N) (hWV : IntsV W W.heap.size wv w) :
    Calls Try.prog 9 #[.agg #[n0, n1, n2, n3, n4], .int .i64 f, .int .i64 t, wv] W (WaysAt N w f t W) := by
  obtain ⟨na, nc, rfl, hN0⟩ := hB.states
  obtain ⟨ta, tc, rfl, hT⟩ := hB.starts
  obtain ⟨ua, uc, rfl, hU⟩ := hB.stops
  obtain ⟨pa, pc, rfl, hP⟩ := hB.preds
  obtain ⟨da, dc, rfl, hD⟩ := hB.decisions
  obtain ⟨wa, wc, rfl, hWA⟩ := hWV
  obtain ⟨n0, hn0⟩ : ∃ v : Value, v = .slice na N.states.length nc := ⟨_, rfl⟩
  obtain ⟨n1, hn1⟩ : ∃ v : Value, v = .slice ta N.starts.length tc := ⟨_, rfl⟩
  obtain ⟨n2, hn2⟩ : ∃ v : Value, v = .slice ua N.stops.length uc := ⟨_, rfl⟩
  obtain ⟨n3, hn3⟩ : ∃ v : Value, v = .slice pa N.preds.length pc := ⟨_, rfl⟩
  obtain ⟨n4, hn4⟩ : ∃ v : Value, v = .slice da N.decisions.length dc := ⟨_, rfl⟩
  obtain ⟨wv, hwv⟩ : ∃ v : Value, v = .slice wa w.length wc := ⟨_, rfl⟩
  have hWV : IntsV W W.heap.size wv w := ⟨wa, wc, hwv, hWA⟩
  rw [← hn0, ← hn1, ← hn2, ← hn3, ← hn4] at hB
  obtain ⟨w1, hw1⟩ : ∃ w1, W.alloc (.cells #[n0, n1, n2, n3, n4] 25) = w1 := ⟨_, rfl⟩
  have z1 : w1.heap.size = W.heap.size + 1 := by rw [← hw1]; exact World.size_alloc W _
  have g1 : Grew W w1 := hw1 ▸ grew_alloc W _
  have o1 : Owns w1 W.heap.size [n0, n1, n2, n3, n4] 25 := hw1 ▸ Owns.alloc W _ _
  obtain ⟨w2, hw2⟩ : ∃ w2, w1.alloc (.cells #[.int .i64 f, .int .i64 t] 3) = w2 := ⟨_, rfl⟩
  have z2 : w2.heap.size = W.heap.size + 1 + 1 := by rw [← hw2, World.size_alloc, z1]
  have g2 : Grew w1 w2 := hw2 ▸ grew_alloc w1 _
  have o2 : Owns w2 (W.heap.size + 1) [.int .i64 f, .int .i64 t] 3 := by rw [← z1, ← hw2]; exact Owns.alloc w1 _ _
  have c0 := o1.cell_at (i := 0) rfl
  have c1 := o1.cell_at (i := 1) rfl
  have c2 := o1.cell_at (i := 2) rfl
  have c3 := o1.cell_at (i := 3) rfl
  have c4 := o1.cell_at (i := 4) rfl
  have g12 := g1.trans g2
  have hmay := pmay_ok N hN w [f, t] hw (fun i hi => by
    simp only [List.mem_cons, List.not_mem_nil, or_false] at hi
    rcases hi with rfl | rfl <;> (rw [okN_iff]; omega)) w2 n0 n1 n2 n3 n4 wv ((hB.keep g12).mono g12.size) ((hWV.keep g12).mono g12.size) (W.heap.size + 1) 2 (by omega) (by simp)
    (fun k hk => by
      match k, hk with
      | 0, _ => exact o2.cell_at (i := 0) rfl
      | 1, _ => exact o2.cell_at (i := 1) rfl)
  rw [hM] at hmay
  have HMAY := Lib.hid (show Calls Try.prog 23 #[.agg #[n0, n1, n2, n3, n4], wv, .slice (some ⟨W.heap.size + 1, 0, none⟩) 2 2] w2 fun e W' => e = .returned (.bool true) ∧ Grew w2 W' from hmay)
  have HB := Lib.hid hB
  have HWV := Lib.hid hWV
  have HG := Lib.hid g12
  have HO := Lib.hid (o1.keep g2)
  have hmk : ∀ u : World, (Instr.makeSlice 31 (.int .i64 ((w.length : Int) + 1)) (.int .i64 ((w.length : Int) + 1))).run Try.prog u = .ok (.slice (some ⟨u.heap.size, 0, none⟩) (w.length + 1) (w.length + 1)) (u.alloc (.cells (List.replicate (w.length + 1) (.bool false)).toArray 4)) := make_pbools (w.length + 1) (by unfold reachN; omega)
  have hM0 := Lib.hid hM
  clear hmay g12 o1 o2 g1 g2 hB hWA hM hN0 hT hU hP hD hWV
  subst hn0 hn1 hn2 hn3 hn4 hwv
  go_enter Try.func9, Try.ntmps9
  go_wp2_with fail
  refine HMAY.out.mono ?_
  rintro e w3 ⟨rfl, hb3⟩
  have g3 := HG.out.trans hb3
  have o3 := HO.out.keep hb3
  have c0 := o3.cell_at (i := 0) rfl
  have c1 := o3.cell_at (i := 1) rfl
  have c2 := o3.cell_at (i := 2) rfl
  have c3 := o3.cell_at (i := 3) rfl
  have c4 := o3.cell_at (i := 4) rfl
  obtain ⟨E, hE⟩ : ∃ E : Env, E = ⟨N, w, .slice na N.states.length nc, .slice ta N.starts.length tc, .slice ua N.stops.length uc, .slice pa N.preds.length pc, .slice da N.decisions.length dc, .slice wa w.length wc, W.heap.size, (f, 0), -1⟩ := ⟨_, rfl⟩
  have hL3 : Laid E w3 := by rw [hE]; exact ⟨HB.out.keep g3, HWV.out.keep g3⟩
  have HL3 := Lib.hid hL3
  have hbeg := began_ok E w3 (by rw [hE]; exact g3.size) hL3
  have hlim : Hid (E.lim = W.heap.size) := Lib.hid (by rw [hE])
  have hEN : Hid (E.N = N ∧ E.w = w ∧ E.p0 = (f, 0) ∧ E.over = -1 ∧ E.wv = .slice wa w.length wc) := Lib.hid (by rw [hE]; exact ⟨rfl, rfl, rfl, rfl, rfl⟩)
  have hfrom : Hid (∀ (w4 : World) (sb cm : Nat), Began E w4 sb cm → Laid E w4 → Calls Try.prog 25 #[ptrV sb, .int .i64 f, .int .i64 (-1)] w4 fun e W' => ∃ S', e = .returned (ptrV (S'.loc (.walk none))) ∧ Rep E S' W' ∧ FLoop E S' ∧ S'.todo = [] ∧ S'.loc .srch = sb ∧ Below E.lim w4 W') := Lib.hid fun w4 sb cm hBe hLa => by
    have := from_ok E (by rw [hEN.out.1]; exact Net.ok_of_may hM0.out) wa wc (univ_small E (by rw [hEN.out.1]; exact hN) (by rw [hEN.out.2.1]; exact hw)) (by rw [hEN.out.2.1]; omega) (fun s => by rw [hEN.out.1]; exact edges_small N hN s) (by rw [hEN.out.2.1]; exact hEN.out.2.2.2.2) f hEN.out.2.2.1 (by rw [hEN.out.1]; exact hf) w4 sb cm hBe hLa
    rw [hEN.out.2.2.2.1] at this
    exact this
  rw [hE] at hbeg
  have HBEG := Lib.hid hbeg
  have HE := Lib.hid hE
  have HG3 := Lib.hid g3
  clear hbeg hE g3 hb3 o3 hL3 HO HMAY HB HWV HG hw1 hw2 z1 z2 hM0
  go_wp2_with (go_at_call 24; refine HBEG.out.mono ?_; rintro e w4 ⟨sb, cm, rfl, hBe, hg4, hsb⟩; rw [← HE.out] at hBe)
  have HF := Lib.hid (hfrom.out w4 sb cm hBe (HL3.out.keep (by rw [hlim.out]; exact hg4.mono HG3.out.size)))
  have hg4' : Grew W w4 := HG3.out.trans hg4
  have HG4 := Lib.hid hg4'
  clear hBe hg4 hg4' hfrom HG3 HL3 HE HBEG
  refine HF.out.mono ?_
  rintro e w5 ⟨S, rfl, hR, hFL, htodo, hls, hb5⟩
  have hg5 : Grew W w5 := Below.trans (B := W.heap.size) HG4.out (by rw [hlim.out] at hb5; exact hb5)
  have hsz5 := hg5.size
  have hkb := (hR.walk (κ := none) trivial)
  have hmb := hR.seenM (κ := none) trivial
  have hkl := hkb.lt
  have hml : S.loc (.seen none) < w5.heap.size := hR.lt (r := .seen none) trivial
  unfold St.seenL at hmb
  have hseen : ∀ p, p ∈ S.seen none ↔ Lv N w (f, 0) (-1) none p := fun p => by
    have := hFL.ends htodo (κ := none) (p := p)
    rw [hEN.out.1, hEN.out.2.1, hEN.out.2.2.1, hEN.out.2.2.2.1] at this
    exact this
  have HS := Lib.hid hseen
  generalize S.seen none = l at *
  unfold ptrV
  have hkc : w5.cell? ⟨S.loc (.walk none), 0, none⟩ = some (.map (some (S.loc (.seen none)))) := hkb.cell_at (i := 0) rfl
  obtain ⟨w6, hw6⟩ : ∃ w6, w5.alloc (.cells (List.replicate (w.length + 1) (.bool false)).toArray 4) = w6 := ⟨_, rfl⟩
  have g6 : Grew w5 w6 := hw6 ▸ grew_alloc w5 _
  have o6 : Owns w6 w5.heap.size (List.replicate (w.length + 1) (.bool false)) 4 := hw6 ▸ Owns.alloc w5 _ _
  rw [wcells_start l t w.length] at o6
  have HG5 := Lib.hid hg5
  have HKC := Lib.hid (show w6.cell? ⟨S.loc (.walk none), 0, none⟩ = some (.map (some (S.loc (.seen none)))) by rw [g6.cells _ _ hkl]; exact hkc)
  have HMB := Lib.hid ((g6.block _ hml).trans hmb)
  have HG6 := Lib.hid g6
  have HO6 := Lib.hid o6
  have HSZ := Lib.hid hsz5
  have hadd : IntKind.i64.wrap ((w.length : Int) + 1) = ((w.length + 1 : Nat) : Int) := by rw [IntKind.wrap_i64]; omega
  generalize S.loc (.walk none) = kb at *
  generalize S.loc (.seen none) = mb at *
  clear hR hFL htodo hls hb5 hg5 hsz5 hkb hmb hseen HF hkc g6 o6 hlim hEN HG4
  have hmk5 := hmk w5
  rw [hw6] at hmk5
  obtain ⟨ob, hob⟩ : ∃ ob, ob = w5.heap.size := ⟨_, rfl⟩
  rw [← hob] at HO6 HSZ hkl hml hmk5
  have HOB := Lib.hid hob
  clear hw6 hob hmk
  go_wp2_with fail
  clear hmk5
  go_loopw [31] (fun i wr => ∃ (j : Nat), i = .int .i64 j ∧ j ≤ w.length + 1 ∧ Hid (WLoop w6 wr ob l t w.length j)) (fun i _ => w.length + 1 - (intOf i).toNat)
  case atStart => exact ⟨0, rfl, by omega, But.refl _ _, HO6.out⟩
  case round =>
    obtain ⟨j, rfl, hj, hL⟩ := hrel
    by_cases hlt : j < w.length + 1
    · have hlti : (j : Int) < (w.length : Int) + 1 := by omega
      have k0 : wr.cell? ⟨kb, 0, none⟩ = some (.map (some mb)) := by
        have := HKC.out
        unfold World.cell? at this ⊢
        rw [hL.out.but.block kb (by have := HG6.out.size; have := HOB.out; omega) (by omega)]
        exact this
      have hm0 : wr.heap[mb]? = some (mapObj (l.map fun q => (plV q, unitV))) := by
        rw [hL.out.but.block mb (by have := HG6.out.size; have := HOB.out; omega) (by omega)]
        exact HMB.out
      have HC := Lib.hid (show Calls Try.prog 26 #[.map (some mb), .agg #[.int .i64 t, .int .i64 j]] wr fun e W' => e = .returned (.bool (decide ((t, j) ∈ l))) ∧ Grew wr W' from hasat_ok wr mb l (t, j) hm0)
      have hll := wcells_len l t w.length j
      clear hm0 HKC HMB HO6
      have hbl : ob < wr.heap.size := hL.out.out.lt
      go_wp2_with (refine HC.out.mono ?_; rintro e w7 ⟨rfl, hb7⟩; have p1 := (hL.out.out.keep hb7).cell_at (i := j) (v := .bool (decide (j < j) && decide ((t, j) ∈ l))) (by unfold wcells; rw [List.getElem?_map, List.getElem?_range (by omega)]; rfl); have p2 := (hL.out.out.keep hb7).free j)
      exact ⟨⟨j + 1, by go_num, by omega, hL.out.next hb7⟩, by simp [intOf]; omega⟩
    · have hje : j = w.length + 1 := by omega
      subst hje
      have hlti : ¬ (((w.length + 1 : Nat) : Int) < (w.length : Int) + 1) := by omega
      go_wp2_with fail
      go_ret2
      refine ⟨ob, fun i => decide ((t, i) ∈ l), rfl, fun i => by rw [decide_eq_true_iff]; exact HS.out _, ?_, HSZ.out, ?_⟩
      · rw [← wcells_end]; exact hL.out.out
      · exact Below.trans (B := W.heap.size) (HG5.out.trans HG6.out) (hL.out.but.below (by have := HG6.out.size; have := HG5.out.size; omega) fun k hk => by have := HSZ.out; omega)
end Go.Proofs.Ytgdcnndmdgcjlaa
