/- atns.Build: a net of a grammar. -/
import Derived.Laws.ResultCell
import Derived.Test.YtiiffcmojkdlaaaGreatDoorQ44
namespace Go.Proofs.YtiiffcmojkdlaaaGreatDoor
open Go.RowKit

theorem of_at {g : Gr} {S l : List Int} (h : l = g.of S) (j : Nat) (hj : j < l.length) : ∃ k, ∃ _ : k < g.rules.length, l[j] = (k : Int) := by
  subst h
  obtain ⟨k, hk, -, h1, -⟩ := Gr.ofTo_mem g S g.rules.length _ (List.getElem_mem hj)
  exact ⟨k, hk, h1⟩
theorem Mk.Slim.ss {k : Nat} {m : Mk} (h : m.Slim k) (a b : Nat) : (m.addSS a b).Slim k := ⟨h.edges, h.ends, h.many, h.waits, h.cap⟩
theorem Mk.Slim.rule {k : Nat} {m : Mk} (h : m.Slim k) (r : Int) : (m.setRule r).Slim k := ⟨h.edges, h.ends, h.many, h.waits, h.cap⟩
theorem AppR.form {F : Option Nat} {N : Obj} {S base e size n : Nat} {xs : List Value} {v : Value} {w : World} (h : AppR F N S base e size n xs v w) : ∃ g cap, v = .slice (some ⟨g, 0, none⟩) n cap ∧ looseRow w base e size v n xs ∧ g < w.heap.size ∧ ((F = some g ∧ w.heap[g]? = some N) ∨ (F = none ∧ S ≤ g)) := h
/-- what the second row is, beside the first one's value -/
def AppX (i : Nat) (F : Option Nat) (N : Obj) (S base e size n : Nat) (xs : List Value) (x : Nat → Value) (v : Value) (w : World) : Prop := AppR F N S base e size n xs v w ∧ v.ownBlock ≠ (x i).ownBlock
theorem Owns.keep' {w w' : World} {b T lim : Nat} {cs : List Value} (h : Owns w b cs T) (hb : Below lim w w') (hl : b < lim) : Owns w' b cs T := by
  unfold Owns at *
  rw [hb.block b hl]
  exact h
/-- the slice of a number -/
def NewMI (M : Nat → Option Obj) (x : Int) (v : Value) (w : World) : Prop := ∃ b, v = .slice (some ⟨b, 0, none⟩) 1 1 ∧ Owns w b [.int .i64 x] 3 ∧ M b = none
theorem NewMI.keep {M : Nat → Option Obj} {x : Int} {v : Value} {w w' : World} (hg : OnceM M w w') (h : NewMI M x v w) : NewMI M x v w' := by
  obtain ⟨b, h1, h2, h3⟩ := h
  exact ⟨b, h1, hg.owns h2 h3, h3⟩
theorem AppX.keepM {i : Nat} {F : Option Nat} {N : Obj} {M : Nat → Option Obj} {S base e size n : Nat} {xs : List Value} {x : Nat → Value} {v : Value} {w w' : World} (h : OnceM M w w') (hF : ∀ b, F = some b → M b = some N) (hS : ∀ b, S ≤ b → M b = none) (hr : AppX i F N S base e size n xs x v w) : AppX i F N S base e size n xs x v w' := ⟨hr.1.keepM h hF hS, hr.2⟩
theorem state_len {m : Mk} (h : m.state.2.full = false) : m.state.2.N.states.length = m.N.states.length + 1 := by
  unfold Mk.state at h ⊢
  split at h
  · cases h
  · rename_i hc
    rw [if_neg hc]
    simp
/-- the slice of a number -/
def NewN (x : Int) (v : Value) (w : World) : Prop := ∃ b, v = .slice (some ⟨b, 0, none⟩) 1 1 ∧ Owns w b [.int .i64 x] 3
theorem NewN.keep {x : Int} {v : Value} {w w' : World} (hg : Grew w w') (h : NewN x v w) : NewN x v w' := by
  obtain ⟨b, h1, h2⟩ := h
  exact ⟨b, h1, h2.keep hg⟩
theorem Mk.Slim.drop {k : Nat} {m : Mk} (h : m.Slim k) : m.dropWait.Slim k := ⟨h.edges, h.ends, h.many, by have := h.waits; simp only [Mk.dropWait, List.length_tail]; omega, h.cap⟩
theorem Mk.Slim.pred {k : Nat} {m : Mk} (h : m.Slim k) (a : Nat) : (m.addPred a).Slim k := ⟨h.edges, h.ends, h.many, h.waits, h.cap⟩
theorem decsTo_N (m : Mk) : ∀ i, (m.decsTo i).N.states = m.N.states ∧ (m.decsTo i).N.starts = m.N.starts ∧ (m.decsTo i).N.stops = m.N.stops ∧ (m.decsTo i).N.preds = m.N.preds ∧ (m.decsTo i).N.decisions.length ≤ m.N.decisions.length + i
  | 0 => ⟨rfl, rfl, rfl, rfl, Nat.le_refl _⟩
  | i + 1 => by
    obtain ⟨h1, h2, h3, h4, h5⟩ := decsTo_N m i
    rw [Mk.decsTo]
    split
    · refine ⟨h1, h2, h3, h4, ?_⟩
      show ((m.decsTo i).N.decisions ++ [(i : Int)]).length ≤ _
      rw [List.length_append]
      exact Nat.succ_le_succ h5
    · exact ⟨h1, h2, h3, h4, by omega⟩
/-- why Build gives none -/
def BuildBad (g : Gr) : Prop := (∃ es M N, g.IsEmpty es ∧ IsReach (g.Once es) g.rules.length M ∧ IsReach g.rd0 g.rules.length N ∧ g.told es (at2 M) (at2 N) ≠ []) ∨ (∃ (E : MkE) (m : Mk), E.rules = g.of [0] ∧ E.tokens = g.of [1, 3] ∧ Built (E.nums g) g (g.of [0]) m ∧ m.full = true)
/-- what Build gives -/
def BuildAt (g : Gr) (W : World) (e : Ending) (W' : World) : Prop := Grew W W' ∧ ∃ n0 n1 n2 n3 n4 k, e = .returned (.tuple #[.agg #[n0, n1, n2, n3, n4], .int .i64 k]) ∧
  ((k = 0 ∧ (∃ es rch rnd, g.told es rch rnd = []) ∧ ∃ (E : MkE) (m : Mk), E.rules = g.of [0] ∧ E.tokens = g.of [1, 3] ∧ Built (E.nums g) g (g.of [0]) m ∧ m.full = false ∧ m.Slim 0 ∧ (m.N.preds.length ≤ 2050 ∧ m.N.decisions = []) ∧ m.N.Kinds3 ∧ NetAt W' W'.heap.size n0 n1 n2 n3 n4 (m.decsTo m.N.states.length).N) ∨
   ((k = 1 ∨ k = 3) ∧ BuildBad g ∧ #[n0, n1, n2, n3, n4] = #[.slice none 0 0, .slice none 0 0, .slice none 0 0, .slice none 0 0, .slice none 0 0]))
theorem two_ok {fn : Func} {P : Program} {p u : Tmp} {ty : TypeId} (h : fn.results = #[.cell p ty, .tmp u]) (tmps : Array Value) (w : World) (g : Nat) (t : TypeId) (cs : Array Value) (fr : Nat × Nat) (d : TypeDesc)
    (hp : tmps.getD p undef = .pointer (some ⟨g, 0, none⟩)) (hg : w.heap[g]? = some (.cells cs t fr)) (hu : P.underlying ty = some d) (hd : (match d with | .struct _ | .array _ _ => true | _ => false) = true) (hi : (P.info? ty).map (·.size) = some cs.size) :
    (results fn tmps).run P w = .ok (.tuple #[.agg cs, tmps.getD u undef]) w := by
  rw [results_cell_tmp h, hp]
  simp [asAddr, run_loadVar_row w g t ty cs fr d hg hu hd hi]

set_option maxHeartbeats 8000000 in
set_option maxRecDepth 40000 in
theorem build12_ok (g : Gr) (hfair : g.Fair) (W : World) (v0 v1 v2 v3 : Value) (hG : GrAt W W.heap.size (some v0) (some v1) (some v2) (some v3) g) :
    Calls Tryz.prog 7 #[.agg #[v0, v1, v2, v3]] W (BuildAt g W) := by
  obtain ⟨q1, -, q2, q3, q4, q5, ra, rc, q6, -, -⟩ := id hG
  obtain rfl := Option.some.inj q1
  obtain rfl := Option.some.inj q2
  obtain rfl := Option.some.inj q3
  obtain rfl := Option.some.inj q6
  clear q1 q2 q3 q4 q5 q6
  have HFAIR := Lib.hid hfair
  obtain ⟨w1, hw1⟩ : ∃ w1, W.alloc (.cells #[.string g.name, .int .i64 g.bound, .int .i64 g.states, .slice ra g.rules.length rc] 26) = w1 := ⟨_, rfl⟩
  have z1 : w1.heap.size = W.heap.size + 1 := by rw [← hw1]; exact World.size_alloc W _
  have g1 : Grew W w1 := hw1 ▸ grew_alloc W _
  have o1 : Owns w1 W.heap.size [.string g.name, .int .i64 g.bound, .int .i64 g.states, .slice ra g.rules.length rc] 26 := hw1 ▸ Owns.alloc W _ _
  obtain ⟨w2, hw2⟩ : ∃ w2, w1.alloc (.cells #[.slice none 0 0, .slice none 0 0, .slice none 0 0, .slice none 0 0, .slice none 0 0] 32) = w2 := ⟨_, rfl⟩
  have g2 : Grew w1 w2 := hw2 ▸ grew_alloc w1 _
  have o2 : Owns w2 (W.heap.size + 1) [.slice none 0 0, .slice none 0 0, .slice none 0 0, .slice none 0 0, .slice none 0 0] 32 := by rw [← z1, ← hw2]; exact Owns.alloc w1 _ _
  have hg12 := g1.trans g2
  have hGw : GrAt w2 w2.heap.size (some (.string g.name)) (some (.int .i64 g.bound)) (some (.int .i64 g.states)) (some (.slice ra g.rules.length rc)) g := (hG.keep hg12).mono hg12.size
  have o1' := o1.keep g2
  have HGW := Lib.hid hGw
  have HG0 := Lib.hid hg12
  have HO1 := Lib.hid o1'
  have HO2 := Lib.hid o2
  have HC := Lib.hid (cfine_ok g hfair.few0 w2 _ _ _ _ hGw)
  have c0 := o1'.cell_at (i := 0) rfl
  have c1 := o1'.cell_at (i := 1) rfl
  have c2 := o1'.cell_at (i := 2) rfl
  have c3 := o1'.cell_at (i := 3) rfl
  have cl := o1'.lt
  clear hfair hG g1 g2 o1 o2 hg12 hGw o1'
  go_enter Tryz.func7, Tryz.ntmps7
  go_wp2_with fail
  refine HC.out.mono ?_
  clear HC hw1 hw2
  rintro e w3 ⟨es, M, N, rfl, hes, hMM, hNN, hb⟩
  obtain ⟨t, htd⟩ : ∃ t, (g.told es (at2 M) (at2 N)).isEmpty = t := ⟨_, rfl⟩
  rw [htd]
  have HTOLD : Hid (t = true → ∃ es rch rnd, g.told es rch rnd = []) := fun h => ⟨es, _, _, List.isEmpty_iff.1 (htd.trans h)⟩
  have HTOLF : Hid (t = false → BuildBad g) := fun h => .inl ⟨es, M, N, hes, hMM, hNN, fun e => by rw [e] at htd; rw [← htd] at h; cases h⟩
  clear htd hes hMM hNN
  have HGW := Lib.hid ((HGW.out.keep hb).mono hb.size)
  have HG0 := Lib.hid (HG0.out.trans hb)
  have HO1 := Lib.hid (HO1.out.keep hb)
  have HO2 := Lib.hid (HO2.out.keep hb)
  clear hb c0 c1 c2 c3 cl
  obtain ⟨gb, hgb⟩ : ∃ gb, W.heap.size = gb := ⟨_, rfl⟩
  obtain ⟨nb, hnb⟩ : ∃ nb, gb + 1 = nb := ⟨_, rfl⟩
  have HNB := Lib.hid hnb
  have HGB := Lib.hid hgb
  rw [hgb] at HO1 HO2
  rw [hnb] at HO2
  simp only [hgb, hnb]
  clear z1
  cases t
  · have d0 := HO2.out.cell_at (i := 0) rfl
    have d1 := HO2.out.cell_at (i := 1) rfl
    have d2 := HO2.out.cell_at (i := 2) rfl
    have d3 := HO2.out.cell_at (i := 3) rfl
    have d4 := HO2.out.cell_at (i := 4) rfl
    have dl := HO2.out.lt
    have f0 := HO2.out.free 0
    have f1 := HO2.out.free 1
    have f2 := HO2.out.free 2
    have f3 := HO2.out.free 3
    have f4 := HO2.out.free 4
    have HO3 := Lib.hid (owns_five HO2.out (.slice none 0 0) (.slice none 0 0) (.slice none 0 0) (.slice none 0 0) (.slice none 0 0))
    have HG3 := Lib.hid (grew_five HG0.out (show W.heap.size ≤ nb by have := HNB.out; have := HGB.out; omega) (.slice none 0 0) (.slice none 0 0) (.slice none 0 0) (.slice none 0 0) (.slice none 0 0))
    go_wp2_with fail
    refine bodyPost_ret (two_ok (d := Tryz.prog.underlying 32 |>.getD default) rfl _ _ nb 32 _ (0, 0) rfl HO3.out rfl rfl rfl) rfl ?_
    exact ⟨HG3.out, _, _, _, _, _, _, rfl, .inr ⟨.inl rfl, HTOLF.out trivial, rfl⟩⟩
  · have c0 := HO1.out.cell_at (i := 0) rfl
    have c1 := HO1.out.cell_at (i := 1) rfl
    have c2 := HO1.out.cell_at (i := 2) rfl
    have c3 := HO1.out.cell_at (i := 3) rfl
    have cl := HO1.out.lt
    have HNL := Lib.hid HO2.out.lt
    obtain ⟨B, hB⟩ : ∃ B, w3.heap.size = B := ⟨_, rfl⟩
    have HB9 := Lib.hid hB
    clear hB
    have HOF : Hid (∀ S : List Int, S.length ≤ 100 → ∀ w, Grew w3 w → ∀ sb sc, SortsAt w sb S → Calls Tryz.prog 18 #[.agg #[.string g.name, .int .i64 g.bound, .int .i64 g.states, .slice ra g.rules.length rc], .slice (some ⟨sb, 0, none⟩) S.length sc] w fun e W' => ∃ v, e = .returned v ∧ RowgR B (g.of S) v W' ∧ Grew w W') :=
      Lib.hid fun S hS w hw sb sc hs => (mof_ok g S hS w _ _ _ _ ((HGW.out.keep hw).mono hw.size) (by have := HFAIR.out.len; omega) sb sc hs).mono (by
        rintro e W' ⟨v, rfl, h1, h2⟩
        have hBw : B ≤ w.heap.size := by rw [← HB9.out]; exact hw.size
        exact ⟨v, rfl, ⟨loose_mono h1 hBw, Nat.le_trans hBw h2.size⟩, h2⟩)
    go_wp2_with fail
    refine wp_region_hav_lit follows (by kernel_rfl) ?_
    repeat (first
      | (refine HavG.skip (fun _ => rfl) ?_; simp only [Act.put, List.setIfInBounds_toArray, List.set_cons_zero, List.set_cons_succ])
      | (refine HavG.val (fun _ => rfl) ?_ (fun x w hw _ => ?_) ?_; rotate_left; (focus (have hc := hw.cells; clear hw; go_simp; first | done | rfl)); simp only [Act.put, List.setIfInBounds_toArray, List.set_cons_zero, List.set_cons_succ]))
    refine HavG.any (fun _ => rfl) (SortgR [0]) (fun _ _ _ hg h => SortgR.keep hg h) (fun x w hw _ => ?_) ?_
    · clear hw
      go_simp
      refine ⟨grew_alloc _ _, w.heap.size, rfl, by simp, fun k hk => ?_⟩
      have hk : k = 0 := by simp at hk; omega
      subst hk
      exact (Owns.alloc w [.int .u8 0] 46).cell_at (i := 0) rfl
    simp only [Act.put, List.setIfInBounds_toArray, List.set_cons_zero, List.set_cons_succ]
    refine HavG.any (fun _ => rfl) (RowgR B (g.of [0])) (fun _ _ _ hg h => RowgR.keep hg h) (fun x w hw hd => ?_) ?_
    · have hd2 := hd _ (List.mem_append_right _ (List.mem_singleton.2 rfl)) (by kernel_rfl)
      dsimp only at hd2
      clear hd
      generalize x (0 + 1 + 1) = y2 at *
      obtain ⟨sb, rfl, hs⟩ := hd2
      have HC := Lib.hid (HOF.out [0] (by simp) w hw sb 1 hs)
      clear hw hs
      go_simp
      refine HC.out.mono ?_
      rintro e w' ⟨v, rfl, hv, hb⟩
      exact ⟨hb, hv⟩
    simp only [Act.put, List.setIfInBounds_toArray, List.set_cons_zero, List.set_cons_succ]
    repeat (first
      | (refine HavG.skip (fun _ => rfl) ?_; simp only [Act.put, List.setIfInBounds_toArray, List.set_cons_zero, List.set_cons_succ])
      | (refine HavG.val (fun _ => rfl) ?_ (fun x w hw _ => ?_) ?_; rotate_left; (focus (have hc := hw.cells; clear hw; go_simp; first | done | rfl)); simp only [Act.put, List.setIfInBounds_toArray, List.set_cons_zero, List.set_cons_succ]))
    refine HavG.any (fun _ => rfl) (SortgR [1, 3]) (fun _ _ _ hg h => SortgR.keep hg h) (fun x w hw _ => ?_) ?_
    · clear hw
      go_simp
      refine ⟨grew_alloc _ _, w.heap.size, rfl, by simp, fun k hk => ?_⟩
      have hk : k = 0 ∨ k = 1 := by simp at hk; omega
      rcases hk with rfl | rfl
      · exact (Owns.alloc w [.int .u8 1, .int .u8 3] 46).cell_at (i := 0) rfl
      · exact (Owns.alloc w [.int .u8 1, .int .u8 3] 46).cell_at (i := 1) rfl
    simp only [Act.put, List.setIfInBounds_toArray, List.set_cons_zero, List.set_cons_succ]
    refine HavG.any (fun _ => rfl) (RowgR B (g.of [1, 3])) (fun _ _ _ hg h => RowgR.keep hg h) (fun x w hw hd => ?_) ?_
    · have hd5 := hd _ (List.mem_append_right _ (List.mem_singleton.2 rfl)) (by kernel_rfl)
      dsimp only at hd5
      clear hd
      generalize x (0 + 1 + 1 + 1 + 1 + 1) = y5 at *
      obtain ⟨sb, rfl, hs⟩ := hd5
      have HC := Lib.hid (HOF.out [1, 3] (by simp) w hw sb 2 hs)
      clear hw hs
      go_simp
      refine HC.out.mono ?_
      rintro e w' ⟨v, rfl, hv, hb⟩
      exact ⟨hb, hv⟩
    simp only [Act.put, List.setIfInBounds_toArray, List.set_cons_zero, List.set_cons_succ]
    refine HavG.any (fun _ => rfl) (MkgB (.string g.name) (.int .i64 g.bound) (.int .i64 g.states) (.slice ra g.rules.length rc) (g.of [0]) (g.of [1, 3]) B) (fun _ _ _ hg h => MkgB.keep hg h) (fun x w hw hd => ?_) ?_
    · have hd6 := hd _ (List.mem_append_right _ (List.mem_singleton.2 rfl)) (by kernel_rfl)
      have hd3 := hd _ (List.mem_append_left _ (List.mem_append_left _ (List.mem_append_right _ (List.mem_singleton.2 rfl)))) (by kernel_rfl)
      dsimp only at hd6 hd3
      clear hd hw
      generalize x (0 + 1 + 1 + 1 + 1 + 1 + 1) = y6 at *
      generalize x (0 + 1 + 1 + 1) = y3 at *
      obtain ⟨xa, xc, rfl⟩ := loose_form hd3.1
      obtain ⟨ya, yc, rfl⟩ := loose_form hd6.1
      have H3 := Lib.hid hd3
      have H6 := Lib.hid hd6
      clear hd3 hd6
      go_simp
      exact ⟨Grew.refl w, _, _, rfl, H3.out, H6.out⟩
    simp only [Act.put, List.setIfInBounds_toArray, List.set_cons_zero, List.set_cons_succ]
    refine HavG.any (fun _ => rfl) (MkgR (.string g.name) (.int .i64 g.bound) (.int .i64 g.states) (.slice ra g.rules.length rc) (g.of [0]) (g.of [1, 3]) B) (fun _ _ _ hg h => MkgR.keep hg h) (fun x w hw hd => ?_) ?_
    · have hd7 := hd _ (List.mem_append_right _ (List.mem_singleton.2 rfl)) (by kernel_rfl)
      dsimp only at hd7
      clear hd hw
      generalize x (0 + 1 + 1 + 1 + 1 + 1 + 1 + 1) = y7 at *
      obtain ⟨vr, vt, rfl, hr, ht⟩ := hd7
      obtain ⟨xa, xc, rfl⟩ := loose_form hr.1
      obtain ⟨ya, yc, rfl⟩ := loose_form ht.1
      have H3 := Lib.hid hr
      have H6 := Lib.hid ht
      clear hr ht
      unfold MkV.box mkE MkV.v0 Mk.m0
      go_simp
      have hga := grew_alloc w (.cells #[.string g.name, .int .i64 g.bound, .int .i64 g.states, .slice ra g.rules.length rc, .slice xa (g.of [0]).length xc, .slice ya (g.of [1, 3]).length yc, .int .i64 0, .slice none 0 0, .slice none 0 0, .slice none 0 0, .slice none 0 0, .slice none 0 0, .slice none 0 0, .int .i64 0, .bool false] 65)
      exact ⟨hga, w.heap.size, _, _, rfl, MkAt.init (H3.out.keep hga).1 (H6.out.keep hga).1 H3.out.2 (Owns.alloc w [.string g.name, .int .i64 g.bound, .int .i64 g.states, .slice ra g.rules.length rc, .slice xa (g.of [0]).length xc, .slice ya (g.of [1, 3]).length yc, .int .i64 0, .slice none 0 0, .slice none 0 0, .slice none 0 0, .slice none 0 0, .slice none 0 0, .slice none 0 0, .int .i64 0, .bool false] 65)⟩
    simp only [Act.put, List.setIfInBounds_toArray, List.set_cons_zero, List.set_cons_succ]
    refine HavG.tail (by kernel_rfl) (by kernel_rfl) (fun x w4 hw hx => ?_)
    have hx8 := hx _ (List.mem_append_right _ (List.mem_singleton.2 rfl))
    clear hx
    dsimp only at hx8
    generalize x (0 + 1 + 1 + 1 + 1 + 1 + 1 + 1 + 1) = y8 at *
    obtain ⟨mb, vr, vt, rfl, hM4⟩ := hx8
    obtain ⟨E, hE⟩ : ∃ E, mkE (.string g.name) (.int .i64 g.bound) (.int .i64 g.states) (.slice ra g.rules.length rc) (g.of [0]) (g.of [1, 3]) B mb = E := ⟨_, rfl⟩
    have hmb : mb = E.mb := by rw [← hE]; rfl
    have HEB := Lib.hid (show E.base = B by rw [← hE]; rfl)
    have HER := Lib.hid (show E.rules = g.of [0] by rw [← hE]; rfl)
    have HET := Lib.hid (show E.tokens = g.of [1, 3] by rw [← hE]; rfl)
    have HG3 := Lib.hid (show E.g3 = .slice ra g.rules.length rc by rw [← hE]; rfl)
    have hgE : GrAt w3 E.base (some E.g0) (some E.g1) (some E.g2) (some E.g3) g := by
      have := HGW.out
      rw [HB9.out] at this
      rw [← hE]; exact this
    rw [hE] at hM4
    clear hE
    subst hmb
    generalize MkV.v0 vr vt = V4 at hM4
    have hb3 : Below E.base w3 w4 := hw.mono (by rw [HEB.out, ← HB9.out]; exact Nat.le_refl _)
    have HGR := Lib.hid (hgE.keep hb3)
    have HGL := Lib.hid (HG0.out.trans hw)
    have HO1 := Lib.hid (HO1.out.keep hw)
    have HO2 := Lib.hid (HO2.out.keep hw)
    have HLT := Lib.hid (show gb < E.base ∧ nb < E.base by
      rw [HEB.out, ← HB9.out]
      exact ⟨cl, HNL.out⟩)
    obtain ⟨xa, xc, hxa⟩ : ∃ xa xc, V4.iv .rules = .slice xa E.rules.length xc := loose_form (hM4.ints .rules trivial)
    have c4 := hM4.box.cell_at (i := 4) rfl
    have cl := hM4.box.lt
    rw [hxa] at c4
    obtain ⟨L, hL⟩ : ∃ L, E.rules.length = L := ⟨_, rfl⟩
    have hLn : L ≤ 20 := by
      rw [← hL, HER.out]
      exact Nat.le_trans (Gr.ofTo_len g [0] g.rules.length) HFAIR.out.len
    rw [hL] at c4
    have HXA := Lib.hid hxa
    have HL9 := Lib.hid hL
    have HM4 := Lib.hid hM4
    have hE20 : E.rules.length ≤ reachN ∧ E.tokens.length ≤ reachN := by
      rw [HER.out, HET.out]
      have h1 := Gr.ofTo_len g [0] g.rules.length
      have h2 := Gr.ofTo_len g [1, 3] g.rules.length
      have h3 := HFAIR.out.len
      unfold Gr.of reachN
      exact ⟨by omega, by omega⟩
    have HPC := Lib.hid (fun n => mpiece_ok E g hE20 n)
    clear hw hgE hb3 c0 c1 c2 c3 HOF hxa hL hM4 hE20
    go_wp2_with fail
    clear c4 cl
    go_loopw [32] (fun i wr => ∃ (j : Nat) (m10 : Mk) (V10 : MkV), i = .int .i64 j ∧ j ≤ L ∧ Hid (MkAt E wr m10 V10) ∧ Hid (Frk E Mk.m0 V4 m10 V10 w4 wr) ∧ Hid (m10 = Mk.rulesTo (E.nums g) g E.rules j) ∧ Hid (m10.Slim (1000000000 - 5001 * j)) ∧ Hid (m10.N.starts.length ≤ j ∧ m10.N.stops.length ≤ j ∧ m10.N.preds = [] ∧ m10.N.decisions = []) ∧ Hid (m10.WSmall 500) ∧ Hid m10.N.Kinds3) (fun i _ => L - (intOf i).toNat)
    case atStart =>
      exact ⟨0, Mk.m0, V4, rfl, by omega, HM4.out, Frk.refl _ _ _ _, rfl, ⟨fun q => by simp [Mk.m0, Net.edges], fun q => by simp [Mk.m0, Net.ends], by simp [Mk.m0], by simp [Mk.m0], by simp [Mk.m0]⟩, by simp [Hid, Mk.m0], fun x hx => by simp [Mk.m0] at hx, fun s hs => by simp [Mk.m0] at hs⟩
    case round =>
      obtain ⟨j, m10, V10, rfl, hj, HM10, HF10, HEQ, HSL, HSS, HWS, HKS⟩ := hrel
      by_cases hlt : j < L
      · as_aux_lemma =>
        have hjr : j < E.rules.length := by rw [HL9.out]; exact hlt
        have hbel := HF10.out.below HM4.out
        obtain ⟨kk, hkk, hrk⟩ := of_at HER.out j hjr
        have hiv : IntsV wr wr.heap.size (V10.iv .rules) E.rules := loose_ints (HM10.out.ints .rules trivial)
        rw [HF10.out.fix .rules rfl, HXA.out] at hiv
        obtain ⟨ia, ic, hia, hin⟩ := hiv
        cases hia
        obtain ⟨ib, ioff, rfl, hibl, hic⟩ := hin j hjr
        rw [hrk] at hic
        obtain ⟨m11, hm11⟩ : ∃ m11, m11 = m10.setRule j := ⟨_, rfl⟩
        have hfield := HM10.out.field (m' := m11) (i := 6) (x := .int .i64 j) (by rw [hm11]; rfl) (by rw [hm11]; rfl) (by rw [hm11]; rfl)
        have c6 := HM10.out.box.cell_at (i := 6) rfl
        have f6 := HM10.out.box.free 6
        have cl := HM10.out.box.lt
        have hgr10 := HGR.out.keep hbel
        obtain ⟨-, -, -, -, -, -, xra, xrc, hxr, -, hrules⟩ := hgr10
        have hg3 : E.g3 = .slice ra g.rules.length rc := HG3.out
        rw [hg3] at hxr
        cases hxr
        have hrule := hrules.get hkk
        obtain ⟨rb, roff, rfl, hrbl, hrule⟩ := hrule
        simp only [Nat.zero_add] at hrule
        obtain ⟨x2, x3, x4, x5, x6, e0, e1, e2, e3, e4, e5, e6, e7, e8, e9, hrule, hnode⟩ := hrule.vals
        obtain ⟨ck, cnm, ctx, csa, csl, csc, cna, cnl, cnc, rfl, rfl, rfl, rfl, rfl⟩ := hnode.forms
        have hbody : g.body ((E.rules[j]?).getD 0) = g.rules[kk].body := by
          rw [List.getElem?_eq_getElem hjr, Option.getD_some, hrk]
          unfold Gr.body
          rw [Int.toNat_natCast, List.getElem?_eq_getElem hkk]
        obtain ⟨nd, hnd⟩ : ∃ nd, g.rules[kk].body = nd := ⟨_, rfl⟩
        rw [hnd] at hnode hbody
        have hcnt : nd.cnt ≤ 500 := by rw [← hnd]; exact HFAIR.out.body kk hkk
        have hreq : nd.req ≤ 5000 := by have := nd.req_le; omega
        have HBODY := Lib.hid hbody
        have HCNT := Lib.hid hcnt
        have HREQ := Lib.hid hreq
        have HPB := Lib.hid (HPC.out nd)
        have HS : Hid (m11.Slim 5000) := Lib.hid (by rw [hm11]; exact (HSL.out.mono (by omega)).rule _)
        have HS11 : Hid (m11.Slim (1000000000 - 5001 * j)) := Lib.hid (by rw [hm11]; exact HSL.out.rule _)
        have HEM11 := Lib.hid hm11
        have HF11 := Lib.hid (HF10.out.trans hfield.2)
        have HFR := Lib.hid hfield.2
        have HM11 := Lib.hid hfield.1
        have HL11 := Lib.hid (Mk.Le.refl m11)
        have ho1w := HO1.out.keep' hbel HLT.out.1
        have q3 := ho1w.cell_at (i := 3) rfl
        have ql := ho1w.lt
        have HBEL := Lib.hid hbel
        have HNODE := Lib.hid hnode
        have HE2 := Lib.hid e2
        have HE3 := Lib.hid e3
        have HE4 := Lib.hid e4
        have HE5 := Lib.hid e5
        have HE6 := Lib.hid e6
        have HRBL := Lib.hid hrbl
        clear hbel hrk hin hfield hrules hrule hnode hbody hnd hcnt hreq hm11 ho1w e0 e1 e2 e3 e4 e5 e6 e7 e8 e9 hrbl
        go_upto_region 8 with fail
        clear c6 f6 cl q3 ql hic hibl
        generalize wr.setCell ⟨E.mb, 6, none⟩ (.int .i64 j) = w11 at *
        obtain ⟨V11, rfl⟩ : ∃ V, V = V10 := ⟨_, rfl⟩
        have HC := Lib.hid (mstate_ok E m11 V11 w11 HM11.out ((HS.out.mono (show 0 + 0 ≤ 5000 by omega)).next HL11.out).cap)
        go_wp2_with fail
        refine HC.out.mono ?_
        clear HC
        rintro e9 w12 ⟨rfl, V12, hM, hF⟩
        obtain ⟨m12, hm⟩ : ∃ m9, m9 = m11.state.2 := ⟨_, rfl⟩
        rw [← hm] at hM hF
        have hle : Mk.Le 0 m11 m12 := hm ▸ m11.state_le
        obtain ⟨a, hx⟩ : ∃ x9, x9 = m11.state.1 := ⟨_, rfl⟩
        rw [← hx]
        have HX_a : Hid (m12.has a) := Lib.hid (by rw [hm, hx]; exact m11.state_has)
        have HEX_a := Lib.hid hx
        clear hx
        have HFR := Lib.hid (HFR.out.trans hF)
        have HL12 : Hid (Mk.Le 0 m11 m12) := Lib.hid ((HL11.out.trans hle).mono (by omega))
        have HM12 := Lib.hid hM
        have HF12 := Lib.hid (HF11.out.trans hF)
        have HEM12 := Lib.hid hm
        clear hM hF hm hle HM11 HF11 HL11
        have HC := Lib.hid (mstate_ok E m12 V12 w12 HM12.out ((HS.out.mono (show 0 + 0 ≤ 5000 by omega)).next HL12.out).cap)
        go_wp2_with fail
        refine HC.out.mono ?_
        clear HC
        rintro e9 w13 ⟨rfl, V13, hM, hF⟩
        obtain ⟨m13, hm⟩ : ∃ m9, m9 = m12.state.2 := ⟨_, rfl⟩
        rw [← hm] at hM hF
        have hle : Mk.Le 0 m12 m13 := hm ▸ m12.state_le
        obtain ⟨b, hx⟩ : ∃ x9, x9 = m12.state.1 := ⟨_, rfl⟩
        rw [← hx]
        have HX_b : Hid (m13.has b) := Lib.hid (by rw [hm, hx]; exact m12.state_has)
        have HEX_b := Lib.hid hx
        clear hx
        have HX_a := Lib.hid (HX_a.out.next hle)
        have HFR := Lib.hid (HFR.out.trans hF)
        have HL13 : Hid (Mk.Le 0 m11 m13) := Lib.hid ((HL12.out.trans hle).mono (by omega))
        have HM13 := Lib.hid hM
        have HF13 := Lib.hid (HF12.out.trans hF)
        have HEM13 := Lib.hid hm
        clear hM hF hm hle HM12 HF12 HL12
        go_upto_region 9 with fail
        have hM13 := HM13.out
        obtain ⟨sa, sc, hsv⟩ : ∃ a c, V13.iv .starts = .slice a m13.N.starts.length c := loose_form (hM13.ints .starts trivial)
        obtain ⟨ta, tc, htv⟩ : ∃ a c, V13.iv .stops = .slice a m13.N.stops.length c := loose_form (hM13.ints .stops trivial)
        have hsn20 : m13.N.starts.length ≤ 20 := by
          have h1 := HL13.out.starts
          have h2 := HSS.out.1
          rw [h1, HEM11.out]
          exact Nat.le_trans h2 (by omega)
        have htn20 : m13.N.stops.length ≤ 20 := by
          have h1 := HL13.out.stops
          have h2 := HSS.out.2.1
          rw [h1, HEM11.out]
          exact Nat.le_trans h2 (by omega)
        have c8 := hM13.box.cell_at (i := 8) rfl
        have c9 := hM13.box.cell_at (i := 9) rfl
        rw [hsv] at c8
        rw [htv] at c9
        have hr1 : looseRow w13 E.base 3 1 (.slice sa m13.N.starts.length sc) m13.N.starts.length (intVs m13.N.starts) := by have := hM13.ints .starts trivial; rw [hsv] at this; exact this
        have hr2 : looseRow w13 E.base 3 1 (.slice ta m13.N.stops.length tc) m13.N.stops.length (intVs m13.N.stops) := by have := hM13.ints .stops trivial; rw [htv] at this; exact this
        obtain ⟨i0, hi, hz0, hz1, hz2⟩ := info_parts info_int
        obtain ⟨F1, N1, hF1, happ1⟩ := append_onceM (P := Tryz.prog) w13 30 30 E.base 3 i0 _ 1 8 rfl hi hz0 hz1 hz2 rfl (.slice sa m13.N.starts.length sc) m13.N.starts.length (intVs m13.N.starts) hr1 1 [.int .i64 a] rfl (by intro u hu; simp only [List.mem_singleton] at hu; subst hu; rfl) (by decide) (by unfold maxLen; omega) (by omega) hM13.lim
        obtain ⟨F2, N2, hF2, happ2⟩ := append_onceM (P := Tryz.prog) w13 30 30 E.base 3 i0 _ 1 8 rfl hi hz0 hz1 hz2 rfl (.slice ta m13.N.stops.length tc) m13.N.stops.length (intVs m13.N.stops) hr2 1 [.int .i64 b] rfl (by intro u hu; simp only [List.mem_singleton] at hu; subst hu; rfl) (by decide) (by unfold maxLen; omega) (by omega) hM13.lim
        rw [← hsv] at hF1
        rw [← htv] at hF2
        have hne12 : ∀ c, F1 = some c → F2 ≠ some c := fun c h1 h2 => hM13.iinj .starts .stops trivial trivial (by simp) rfl c (hF1 c h1).1 (hF2 c h2).1
        obtain ⟨M, hM⟩ : ∃ M : Nat → Option Obj, M = fun c => if F1 = some c then some N1 else if F2 = some c then some N2 else none := ⟨_, rfl⟩
        have hMor : ∀ c, M c ≠ none → F1 = some c ∨ F2 = some c := fun c hc => by
          rw [hM] at hc
          dsimp only at hc
          by_cases h1 : F1 = some c
          · exact .inl h1
          · rw [if_neg h1] at hc
            by_cases h2 : F2 = some c
            · exact .inr h2
            · rw [if_neg h2] at hc; exact absurd rfl hc
        have hMF1 : ∀ c, F1 = some c → M c = some N1 := fun c h1 => by rw [hM]; exact if_pos h1
        have hMF2 : ∀ c, F2 = some c → M c = some N2 := fun c h2 => by rw [hM]; dsimp only; rw [if_neg (fun h1 => hne12 c h1 h2), if_pos h2]
        have hMlt : ∀ c, M c ≠ none → c < w13.heap.size := fun c hc => (hMor c hc).elim (fun h => (hF1 c h).2) (fun h => (hF2 c h).2)
        have hMS : ∀ c, w13.heap.size ≤ c → M c = none := fun c hc => Classical.byContradiction fun h => by have := hMlt c h; omega
        have hMmb : M E.mb = none := Classical.byContradiction fun h => (hMor _ h).elim (fun h => own_box (hM13.ints .starts trivial) hM13.box (by decide) (hF1 _ h).1) (fun h => own_box (hM13.ints .stops trivial) hM13.box (by decide) (hF2 _ h).1)
        have hap1 := happ1 M hMlt (fun c hc => by
          by_cases h1 : F1 = some c
          · rw [if_pos h1]; exact hMF1 c h1
          · rw [if_neg h1]
            exact Classical.byContradiction fun h => (hMor c h).elim h1 fun h2 => hM13.iinj .starts .stops trivial trivial (by simp) rfl c (by rw [hsv]; exact hc) (hF2 c h2).1)
        have hap2 := happ2 M hMlt (fun c hc => by
          by_cases h2 : F2 = some c
          · rw [if_pos h2]; exact hMF2 c h2
          · rw [if_neg h2]
            exact Classical.byContradiction fun h => (hMor c h).elim (fun h1 => hM13.iinj .starts .stops trivial trivial (by simp) rfl c (hF1 c h1).1 (by rw [htv]; exact hc)) h2)
        have HAP1 := Lib.hid hap1
        have HAP2 := Lib.hid hap2
        have HNE := Lib.hid hne12
        have HMOR := Lib.hid hMor
        have HMF1 := Lib.hid hMF1
        have HMF2 := Lib.hid hMF2
        have HMLT := Lib.hid hMlt
        have HMS := Lib.hid hMS
        have HMM := Lib.hid hMmb
        have HFF1 := Lib.hid hF1
        have HFF2 := Lib.hid hF2
        have HSV := Lib.hid hsv
        have HTV := Lib.hid htv
        have HC8 := Lib.hid c8
        have HC9 := Lib.hid c9
        have bl := hM13.box.lt
        clear hM13 hsv htv hr1 hr2 hi hz0 hz1 hz2 hF1 hF2 happ1 happ2 hne12 hM hMor hMF1 hMF2 hMlt hMS hMmb hap1 hap2
        refine wp_region_hav_litX (OnceM.rel M) follows (by kernel_rfl) ?_
        repeat (first
          | (refine HavX.skip (fun _ => rfl) ?_; simp only [Act.put, List.setIfInBounds_toArray, List.set_cons_zero, List.set_cons_succ])
          | (refine HavX.val (OnceM.rel M) (fun _ => rfl) ?_ (fun x w hw _ => ?_) ?_; rotate_left; (focus (have q8 := hw.cell HC8.out HMM.out; have q9 := hw.cell HC9.out HMM.out; clear hw; go_simp; first | done | rfl)); simp only [Act.put, List.setIfInBounds_toArray, List.set_cons_zero, List.set_cons_succ]))
        refine HavX.any (fun _ => rfl) (fun _ => NewMI M a) (fun _ _ _ _ _ h => h) (fun _ _ _ _ hg h => NewMI.keep hg h) (fun x w hw _ => ?_) ?_
        · have hsz := hw.size
          have HSZ := Lib.hid hsz
          clear hw hsz
          go_simp
          exact ⟨OnceM.grew (grew_alloc _ _) (fun c hc => Nat.lt_of_lt_of_le (HMLT.out c hc) HSZ.out), _, rfl, Owns.alloc _ _ _, HMS.out _ HSZ.out⟩
        simp only [Act.put, List.setIfInBounds_toArray, List.set_cons_zero, List.set_cons_succ]
        refine HavX.any (fun _ => rfl) (fun _ => AppR F1 N1 w13.heap.size E.base 3 1 (m13.N.starts.length + 1) (intVs m13.N.starts ++ [.int .i64 a])) (fun _ _ _ _ _ h => h) (fun _ _ _ _ hg h => AppR.keepM hg HMF1.out HMS.out h) (fun x w hw hd => ?_) ?_
        · have hd8 := hd _ (List.mem_append_right _ (List.mem_singleton.2 rfl)) (by kernel_rfl)
          clear hd
          dsimp only at hd8
          generalize x (0 + 1 + 1 + 1 + 1 + 1 + 1 + 1 + 1) = y8 at *
          obtain ⟨nb8, rfl, hnb, -⟩ := hd8
          obtain ⟨r, w', hr, ho, hR, -, -⟩ := HAP1.out w ⟨nb8, 0, none⟩ 1 hw (owns_newsO hnb)
          exact upon_app _ _ 30 rfl rfl rfl hr ⟨ho, hR⟩
        simp only [Act.put, List.setIfInBounds_toArray, List.set_cons_zero, List.set_cons_succ]
        repeat (first
          | (refine HavX.skip (fun _ => rfl) ?_; simp only [Act.put, List.setIfInBounds_toArray, List.set_cons_zero, List.set_cons_succ])
          | (refine HavX.val (OnceM.rel M) (fun _ => rfl) ?_ (fun x w hw _ => ?_) ?_; rotate_left; (focus (have q8 := hw.cell HC8.out HMM.out; have q9 := hw.cell HC9.out HMM.out; clear hw; go_simp; first | done | rfl)); simp only [Act.put, List.setIfInBounds_toArray, List.set_cons_zero, List.set_cons_succ]))
        refine HavX.any (fun _ => rfl) (fun _ => NewMI M b) (fun _ _ _ _ _ h => h) (fun _ _ _ _ hg h => NewMI.keep hg h) (fun x w hw _ => ?_) ?_
        · have hsz := hw.size
          have HSZ := Lib.hid hsz
          clear hw hsz
          go_simp
          exact ⟨OnceM.grew (grew_alloc _ _) (fun c hc => Nat.lt_of_lt_of_le (HMLT.out c hc) HSZ.out), _, rfl, Owns.alloc _ _ _, HMS.out _ HSZ.out⟩
        simp only [Act.put, List.setIfInBounds_toArray, List.set_cons_zero, List.set_cons_succ]
        refine HavX.any (fun _ => rfl) (AppX 9 F2 N2 w13.heap.size E.base 3 1 (m13.N.stops.length + 1) (intVs m13.N.stops ++ [.int .i64 b])) (fun x x' v w h hx => ⟨hx.1, by rw [← h 9 (by decide) (by kernel_rfl)]; exact hx.2⟩) (fun _ _ _ _ hg h => AppX.keepM hg HMF2.out HMS.out h) (fun x w hw hd => ?_) ?_
        · have hd16 := hd _ (List.mem_append_right _ (List.mem_singleton.2 rfl)) (by kernel_rfl)
          have hd9 := hd _ (List.mem_append_left _ (List.mem_append_right _ (List.mem_singleton.2 rfl))) (by kernel_rfl)
          clear hd
          have hd9 : AppR F1 N1 w13.heap.size E.base 3 1 (m13.N.starts.length + 1) (intVs m13.N.starts ++ [.int .i64 a]) (x 9) w := hd9
          dsimp only at hd16
          generalize x (0 + 1 + 1 + 1 + 1 + 1 + 1 + 1 + 1 + 1 + 1 + 1 + 1 + 1 + 1 + 1 + 1) = y16 at *
          obtain ⟨nb8, rfl, hnb, -⟩ := hd16
          obtain ⟨r, w', hr, ho, hR, hfr, -⟩ := HAP2.out w ⟨nb8, 0, none⟩ 1 hw (owns_newsO hnb)
          refine upon_app _ _ 30 rfl rfl rfl hr ⟨ho, hR, ?_⟩
          obtain ⟨g1, k1, h1, -, hg1, hc1⟩ := hd9
          obtain ⟨g2, k2, rfl, -, -, hc2⟩ := hR
          rw [h1]
          simp only [Value.ownBlock, ne_eq, Option.some.injEq]
          intro e21
          have hws := hw.size
          rcases hc2 with ⟨h2, -⟩ | ⟨h2, -⟩
          · rcases hc1 with ⟨h3, -⟩ | ⟨-, h3⟩
            · exact HNE.out g1 h3 (by rw [h2, e21])
            · have := (HFF2.out g2 h2).2; omega
          · have := hfr h2 g2 rfl
            omega
        simp only [Act.put, List.setIfInBounds_toArray, List.set_cons_zero, List.set_cons_succ]
        repeat (first
          | (refine HavX.skip (fun _ => rfl) ?_; simp only [Act.put, List.setIfInBounds_toArray, List.set_cons_zero, List.set_cons_succ])
          | (refine HavX.val (OnceM.rel M) (fun _ => rfl) ?_ (fun x w hw _ => ?_) ?_; rotate_left; (focus (have q8 := hw.cell HC8.out HMM.out; have q9 := hw.cell HC9.out HMM.out; clear hw; go_simp; first | done | rfl)); simp only [Act.put, List.setIfInBounds_toArray, List.set_cons_zero, List.set_cons_succ]))
        refine HavX.tail0 1 (by kernel_rfl) (by kernel_rfl) (by kernel_rfl) (fun _ _ d _ _ h => by cases d <;> exact h) (by decide) (fun x w2x hw hx => ?_)
        have hx17 := hx _ (List.mem_append_right _ (List.mem_singleton.2 rfl))
        have hx9 := hx _ (List.mem_append_left _ (List.mem_append_left _ (List.mem_append_right _ (List.mem_singleton.2 rfl))))
        clear hx
        have hx17 : AppR F2 N2 w13.heap.size E.base 3 1 (m13.N.stops.length + 1) (intVs m13.N.stops ++ [.int .i64 b]) (x (0 + 1 + 1 + 1 + 1 + 1 + 1 + 1 + 1 + 1 + 1 + 1 + 1 + 1 + 1 + 1 + 1 + 1)) w2x ∧ (x (0 + 1 + 1 + 1 + 1 + 1 + 1 + 1 + 1 + 1 + 1 + 1 + 1 + 1 + 1 + 1 + 1 + 1)).ownBlock ≠ (x (0 + 1 + 1 + 1 + 1 + 1 + 1 + 1 + 1 + 1)).ownBlock := hx17
        dsimp only at hx9
        generalize x (0 + 1 + 1 + 1 + 1 + 1 + 1 + 1 + 1 + 1 + 1 + 1 + 1 + 1 + 1 + 1 + 1 + 1) = y17 at *
        generalize x (0 + 1 + 1 + 1 + 1 + 1 + 1 + 1 + 1 + 1) = y9 at *
        obtain ⟨g1, k1, rfl, hr1, -, hc1⟩ := hx9
        obtain ⟨⟨g2, k2, rfl, hr2, -, hc2⟩, hne⟩ := hx17
        have hbx := hw.owns HM13.out.box HMM.out
        have b8 := hbx.cell_at (i := 8) rfl
        have b9 := hbx.cell_at (i := 9) rfl
        rw [HSV.out] at b8
        rw [HTV.out] at b9
        have f8 := hbx.free 8
        have f9 := hbx.free 9
        have bl2 := hbx.lt
        have hpush := HM13.out.pushSS (w2 := w2x) (v1 := .slice (some ⟨g1, 0, none⟩) (m13.N.starts.length + 1) k1) (v2 := .slice (some ⟨g2, 0, none⟩) (m13.N.stops.length + 1) k2) (g1 := g1) (g2 := g2) (a := a) (b := b)
          ⟨hw.but.os, hw.but.tape, hw.but.output, hw.size, fun q hq hn => hw.but.block q hq fun hm => hn ((HMOR.out q hm).imp (fun h => (HFF1.out q h).1) (fun h => (HFF2.out q h).1))⟩ hr1 hr2 rfl rfl (fun e => hne (by rw [e]; rfl))
          (hc1.imp (fun h => (HFF1.out g1 h.1).1) (fun h => h.2)) (hc2.imp (fun h => (HFF2.out g2 h.1).1) (fun h => h.2))
        have HPU := Lib.hid hpush
        clear hr1 hr2 hc1 hc2 hne hbx hw hpush c8 c9 bl HAP1 HAP2 HNE HMOR HMF1 HMF2 HMLT HMS HMM HFF1 HFF2 HC8 HC9 hsn20 htn20 HSV HTV
        go_upto_region 10 with fail
        clear b8 b9 f8 f9 bl2
        generalize (w2x.setCell ⟨E.mb, 8, none⟩ (.slice (some ⟨g1, 0, none⟩) (m13.N.starts.length + 1) k1)).setCell ⟨E.mb, 9, none⟩ (.slice (some ⟨g2, 0, none⟩) (m13.N.stops.length + 1) k2) = w14 at *
        generalize V13.withSS (.slice (some ⟨g1, 0, none⟩) (m13.N.starts.length + 1) k1) (.slice (some ⟨g2, 0, none⟩) (m13.N.stops.length + 1) k2) = V14 at *
        obtain ⟨m14, hm14⟩ : ∃ m14, m14 = m13.addSS a b := ⟨_, rfl⟩
        rw [← hm14] at HPU
        have HEM14 := Lib.hid hm14
        have HM14 := Lib.hid HPU.out.1
        have HF14 := Lib.hid (HF13.out.trans HPU.out.2)
        have HFR := Lib.hid (HFR.out.trans HPU.out.2)
        have hbel := HFR.out.below HM10.out
        have hbel4 := HF14.out.below HM4.out
        have HGR14 := Lib.hid (HGR.out.keep hbel4)
        have HNO := Lib.hid (HNODE.out.keep hbel)
        have HX_a : Hid (m14.has a) := Lib.hid (by rw [hm14]; exact HX_a.out)
        have HS13 := HS
        clear HS
        have HS : Hid (m14.Slim 5000) := Lib.hid (by rw [hm14]; exact ((HS13.out.mono (show 0 + 5000 ≤ 5000 by omega)).next HL13.out).ss a b)
        have HL14 := Lib.hid (Mk.Le.refl m14)
        have ho1w := HO1.out.keep' hbel4 HLT.out.1
        have q3 := ho1w.cell_at (i := 3) rfl
        have ql := ho1w.lt
        have e2 := (hbel.cell HRBL.out).trans HE2.out
        have e3 := (hbel.cell HRBL.out).trans HE3.out
        have e4 := (hbel.cell HRBL.out).trans HE4.out
        have e5 := (hbel.cell HRBL.out).trans HE5.out
        have e6 := (hbel.cell HRBL.out).trans HE6.out
        have hrbl : rb < w14.heap.size := Nat.lt_of_lt_of_le HRBL.out HM14.out.lim
        have hkkl : kk < g.rules.length := hkk
        have hreq := HREQ.out
        clear hbel hbel4 ho1w hm14
        have HC := Lib.hid (HPB.out m14 V14 w14 (.int .u8 ck) (.string cnm) (.string ctx) (.slice csa csl csc) (.slice cna cnl cnc) a b HM14.out HGR14.out HNO.out HX_a.out (((HS.out.mono (show 0 + nd.req ≤ 5000 by omega)).next HL14.out).mono (by omega)))
        go_wp2_with fail
        refine HC.out.mono ?_
        clear HC
        rintro e9 w15 ⟨⟨v, rfl⟩, V15, hM, hF⟩
        obtain ⟨m15, hm⟩ : ∃ m9, m9 = (nd).piece (E.nums g) a b m14 := ⟨_, rfl⟩
        rw [← hm] at hM hF
        have hle : Mk.Le nd.req m14 m15 := hm ▸ Nd.piece_le (E.nums g) (nd) a b m14
        have HX_a := Lib.hid (HX_a.out.next hle)
        have HL15 : Hid (Mk.Le nd.req m14 m15) := Lib.hid ((HL14.out.trans hle).mono (by omega))
        have HM15 := Lib.hid hM
        have HF15 := Lib.hid (HF14.out.trans hF)
        have HEM15 := Lib.hid hm
        clear hM hF hm hle HM14 HF14 HL14
        go_wp2_with fail
        have heq : m15 = Mk.rulesTo (E.nums g) g E.rules (j + 1) := by
          rw [Mk.rulesTo, HBODY.out, ← HEQ.out]
          unfold Mk.ruleStep
          rw [← HEM11.out, ← HEX_a.out, ← HEM12.out, ← HEX_b.out, ← HEM13.out, ← HEM14.out]
          exact HEM15.out
        have hslim : m15.Slim (1000000000 - 5001 * (j + 1)) := by
          have h13 := (HS11.out.mono (show 0 + (1000000000 - 5001 * j) ≤ 1000000000 - 5001 * j by omega)).next HL13.out
          have h14 : m14.Slim (1000000000 - 5001 * j) := by rw [HEM14.out]; exact h13.ss a b
          exact (h14.mono (show nd.req + (1000000000 - 5001 * (j + 1)) ≤ 1000000000 - 5001 * j by omega)).next HL15.out
        have hst : m15.N.starts.length ≤ j + 1 ∧ m15.N.stops.length ≤ j + 1 ∧ m15.N.preds = [] ∧ m15.N.decisions = [] := by
          obtain ⟨h1, h2, h3, h4⟩ := HSS.out
          rw [HL15.out.starts, HL15.out.stops, HL15.out.preds, HL15.out.decs, HEM14.out]
          refine ⟨?_, ?_, ?_, ?_⟩
          · show (m13.N.starts ++ [(a : Int)]).length ≤ _
            rw [HL13.out.starts, HEM11.out, List.length_append]
            exact Nat.succ_le_succ h1
          · show (m13.N.stops ++ [(b : Int)]).length ≤ _
            rw [HL13.out.stops, HEM11.out, List.length_append]
            exact Nat.succ_le_succ h2
          · show m13.N.preds = _
            rw [HL13.out.preds, HEM11.out]; exact h3
          · show m13.N.decisions = _
            rw [HL13.out.decs, HEM11.out]; exact h4
        have hws : m15.WSmall 500 := by
          have h11 : m11.WSmall 500 := by rw [HEM11.out]; exact HWS.out
          have h12 : m12.WSmall 500 := by rw [HEM12.out]; exact (wsmall_rel 500).state m11 h11
          have h13 : m13.WSmall 500 := by rw [HEM13.out]; exact (wsmall_rel 500).state m12 h12
          have h14 : m14.WSmall 500 := by rw [HEM14.out]; exact h13
          rw [HEM15.out]
          exact Nd.piece_rel (wsmall_rel 500) (E.nums g) nd a b m14 HCNT.out h14
        have hks : m15.N.Kinds3 := by
          have h11 : m11.N.Kinds3 := by rw [HEM11.out]; exact HKS.out
          have h12 : m12.N.Kinds3 := by rw [HEM12.out]; exact (kinds_rel 500).state m11 h11
          have h13 : m13.N.Kinds3 := by rw [HEM13.out]; exact (kinds_rel 500).state m12 h12
          have h14 : m14.N.Kinds3 := by rw [HEM14.out]; exact h13
          rw [HEM15.out]
          exact Nd.piece_rel (kinds_rel 500) (E.nums g) nd a b m14 HCNT.out h14
        refine ⟨⟨_, _, _, _, _, _, _, _, _, _, _, _, _, _, _, _, _, _, _, _, _, _, _, _, _, _, _, _, _, _, _, _, _, _, _, _, _, _, _, _, _, _, _, _, _, _, _, _, _, _, _, _, ?_, rfl⟩, ?_⟩
        · exact ⟨j + 1, m15, V15, by go_num, by omega, HM15.out, HF15.out, heq, hslim, hst, hws, hks⟩
        · show L - (intOf (.int .i64 ((j : Int) + 1))).toNat < L - (intOf (.int .i64 (j : Int))).toNat
          simp [intOf]
          omega
      · obtain rfl : j = L := by omega
        have hmR : m10 = Mk.rulesTo (E.nums g) g E.rules E.rules.length := by rw [HL9.out]; exact HEQ.out
        obtain ⟨mR, hmr⟩ : ∃ mR, mR = m10 := ⟨_, rfl⟩
        have HMR := Lib.hid (show mR = Mk.rulesTo (E.nums g) g E.rules E.rules.length by rw [hmr]; exact hmR)
        have hwt : Mk.Wts (E.nums g) mR m10 := by rw [hmr]; exact .refl
        have HWT := Lib.hid hwt
        have HSL2 : Hid (m10.Slim 900000000) := Lib.hid (HSL.out.mono (by omega))
        have HPL : Hid (m10.N.preds.length ≤ 0 ∧ m10.N.decisions = []) := Lib.hid ⟨by rw [HSS.out.2.2.1]; simp, HSS.out.2.2.2⟩
        obtain ⟨k0, hk0⟩ : ∃ k0, k0 = (if m10.full then 0 else 4200 - m10.N.states.length) := ⟨_, rfl⟩
        have hcap := HSL.out.cap
        have HKK : Hid ((m10.full = true → k0 = 0) ∧ (m10.full = false → k0 + m10.N.states.length = 4200)) := by
          rw [hk0]
          exact ⟨fun h => by rw [h]; rfl, fun h => by rw [h]; simp; omega⟩
        clear hmR hmr hwt hk0 hcap HEQ HSL HSS
        go_wp2_with fail
        go_loopg [9] k0 (fun k _ wr => ∃ (m10 : Mk) (V10 : MkV) (t : Nat), Hid (MkAt E wr m10 V10) ∧ Hid (Frk E Mk.m0 V4 m10 V10 w4 wr) ∧ Hid (Mk.Wts (E.nums g) mR m10) ∧ Hid (m10.Slim (900000000 - 5001 * t)) ∧ Hid (m10.full = false → 2 * t ≤ m10.N.states.length) ∧ Hid (t ≤ 2050) ∧ Hid (m10.N.preds.length ≤ t ∧ m10.N.decisions = []) ∧ Hid (m10.WSmall 500) ∧ Hid m10.N.Kinds3 ∧ Hid ((m10.full = true → k = 0) ∧ (m10.full = false → k + m10.N.states.length = 4200)))
        case atStart => exact ⟨m10, V10, 0, HM10.out, HF10.out, HWT.out, HSL2.out, fun _ => Nat.zero_le _, Nat.zero_le _, HPL.out, HWS.out, HKS.out, HKK.out⟩
        case round =>
          clear HM10 HF10 HWT HSL2 HPL HWS HKS HKK
          obtain ⟨m10, V10, t, HM10, HF10, HWT, HSL, HTS, HTT, HPL, HWS, HKS, HKK⟩ := hrel
          have c14 := HM10.out.box.cell_at (i := 14) rfl
          have cl := HM10.out.box.lt
          cases hfu : m10.full
          · rw [hfu] at c14
            obtain ⟨wcs, hwr, hwat⟩ := HM10.out.waits
            have c12 := HM10.out.box.cell_at (i := 12) rfl
            rcases hwx : m10.waits with _ | ⟨x, rest⟩
            · rw [hwx] at hwr
              obtain ⟨wa, wc, hwv⟩ := tail_form hwr
              rw [hwv] at c12
              have c7 := HM10.out.box.cell_at (i := 7) rfl
              obtain ⟨sa, sc, hsv⟩ := loose_form HM10.out.states
              rw [hsv] at c7
              obtain ⟨n, hn⟩ : ∃ n, m10.N.states.length = n := ⟨_, rfl⟩
              rw [hn] at c7 hsv
              have hn96 : n ≤ 4096 := by rw [← hn]; exact HSL.out.cap
              have hz : decide ((0 : Int) < ((([] : List (Int × Nd)).length : Nat) : Int)) = false := rfl
              have HWX := Lib.hid hwx
              have HSV := Lib.hid hsv
              have HN := Lib.hid hn
              have HFU := Lib.hid hfu
              obtain ⟨i0, hi, hz0, hz1, hz2⟩ := info_parts info_int
              have HI := Lib.hid hi
              have HZ0 := Lib.hid hz0
              have HZ1 := Lib.hid hz1
              have HZ2 := Lib.hid hz2
              clear hwr hwat hwv hsv hn hwx hfu hi hz0 hz1 hz2
              simp only [List.length_nil] at c12 hz
              go_wp2_with fail
              clear c14 c12 c7 cl
              obtain ⟨m5, rfl⟩ : ∃ m5, m5 = m10 := ⟨_, rfl⟩
              obtain ⟨V5, rfl⟩ : ∃ V5, V5 = V10 := ⟨_, rfl⟩
              have HM5 := Lib.hid (show MkAt E wr (m5.decsTo 0) V5 from HM10.out)
              have HF5 := Lib.hid (show Frk E Mk.m0 V4 (m5.decsTo 0) V5 w4 wr from HF10.out)
              go_loopw [155] (fun i wr => ∃ (q : Nat) (V6 : MkV), i = .int .i64 q ∧ q ≤ n ∧ Hid (MkAt E wr (m5.decsTo q) V6) ∧ Hid (Frk E Mk.m0 V4 (m5.decsTo q) V6 w4 wr) ∧ Hid (V6.sv = V5.sv)) (fun i _ => n - (intOf i).toNat)
              case atStart => exact ⟨0, V5, rfl, Nat.zero_le _, HM5.out, HF5.out, rfl⟩
              case round =>
                obtain ⟨q, V6, rfl, hq, HM6, HF6, HSE⟩ := hrel
                obtain ⟨hd1, hd2, hd3, hd4, hd5⟩ := decsTo_N m5 q
                by_cases hlt : q < n
                · as_aux_lemma =>
                  have hqs : q < (m5.decsTo q).N.states.length := by rw [hd1, HN.out]; exact hlt
                  obtain ⟨sb, sc2, hsv6, hsbl, hsbo, s1, s2, -, -⟩ := HM6.out.sblock hqs
                  have hs0 : wr.cell? ⟨sb, q * 3, none⟩ = some (.int .i64 (m5.decsTo q).N.states[q].rule) := looseRow_cells HM6.out.states hsbo _ _ (srow_at (V := V6) hqs).1
                  have hsame : V6.sv = .slice sa n sc := by rw [HSE.out, HSV.out]
                  rw [hsame] at hsv6
                  simp only [Value.slice.injEq] at hsv6
                  obtain ⟨rfl, -, -⟩ := hsv6
                  obtain ⟨ea, ec, hev⟩ := loose_form (HM6.out.edges q hqs)
                  obtain ⟨na, nc, hnv⟩ := loose_form (HM6.out.ints (.ends q) hqs)
                  rw [hev] at s1
                  rw [hnv] at s2
                  have hen : E.ints (m5.decsTo q) (.ends q) = m5.N.ends q := by show (m5.decsTo q).N.ends q = _; unfold Net.ends; rw [hd1]
                  rw [hen] at s2
                  obtain ⟨en, henl⟩ : ∃ en, (m5.N.ends q).length = en := ⟨_, rfl⟩
                  rw [henl] at s2
                  obtain ⟨el, hel⟩ : ∃ el, ((m5.decsTo q).N.edges q).length = el := ⟨_, rfl⟩
                  rw [hel] at s1
                  obtain ⟨ru, hru⟩ : ∃ ru, (m5.decsTo q).N.states[q].rule = ru := ⟨_, rfl⟩
                  rw [hru] at hs0
                  have c11 := HM6.out.box.cell_at (i := 11) rfl
                  have cl := HM6.out.box.lt
                  obtain ⟨da, dc, hdv⟩ : ∃ a c, V6.iv .decs = .slice a (m5.decsTo q).N.decisions.length c := loose_form (HM6.out.ints .decs trivial)
                  rw [hdv] at c11
                  obtain ⟨dn, hdn⟩ : ∃ dn, (m5.decsTo q).N.decisions.length = dn := ⟨_, rfl⟩
                  have hdn9 : dn ≤ 5000 := by rw [← hdn]; have h9 := HPL.out.2; rw [h9] at hd5; simp at hd5; omega
                  rw [hdn] at c11
                  have HDV := Lib.hid hdv
                  have HDN := Lib.hid hdn
                  have HENL := Lib.hid henl
                  obtain ⟨w7, hw7⟩ : ∃ w7, wr.alloc (.cells #[.int .i64 ru, .slice ea el ec, .slice na en nc] 41) = w7 := ⟨_, rfl⟩
                  have g7 : Grew wr w7 := hw7 ▸ grew_alloc wr _
                  have o7 : Owns w7 wr.heap.size [.int .i64 ru, .slice ea el ec, .slice na en nc] 41 := hw7 ▸ Owns.alloc wr _ _
                  have p2 := o7.cell_at (i := 2) rfl
                  have pl := o7.lt
                  have HM7 := Lib.hid (HM6.out.grew g7)
                  have HF7 := Lib.hid (HF6.out.trans (Frk.grew (E := E) (m := m5.decsTo q) (V := V6) g7))
                  have c11' := (g7.cells _ _ cl).trans c11
                  have cl' := Nat.lt_of_lt_of_le cl g7.size
                  have hstep : m5.decsTo (q + 1) = if 0 < en then (m5.decsTo q).addDec q else m5.decsTo q := by rw [Mk.decsTo, henl]
                  have HST := Lib.hid hstep
                  clear hqs hsbo hsame hev hnv hen henl hel hru hdv hdn g7 o7 hstep c11 hd1 hd2 hd3 hd4 hd5
                  rcases Nat.eq_zero_or_pos en with h0 | h0
                  · subst h0
                    have HST : Hid (m5.decsTo (q + 1) = m5.decsTo q) := Lib.hid HST.out
                    go_wp2_with fail
                    exact ⟨⟨q + 1, V6, by go_num, by omega, by rw [HST.out]; exact HM7.out, by rw [HST.out]; exact HF7.out, HSE.out⟩, by simp [intOf]; omega⟩
                  · have hgt : decide ((0 : Int) < (en : Int)) = true := decide_eq_true (by omega)
                    have HST : Hid (m5.decsTo (q + 1) = (m5.decsTo q).addDec q) := Lib.hid (by rw [HST.out, if_pos h0])
                    obtain ⟨w8, hw8⟩ : ∃ w8, w7.alloc (.cells #[.int .i64 q] 3) = w8 := ⟨_, rfl⟩
                    have g8 : Grew w7 w8 := hw8 ▸ grew_alloc w7 _
                    have o8 : Owns w8 w7.heap.size [.int .i64 q] 3 := hw8 ▸ Owns.alloc w7 _ _
                    have HM8 := Lib.hid (HM7.out.grew g8)
                    have HF8 := Lib.hid (HF7.out.trans (Frk.grew (E := E) (m := m5.decsTo q) (V := V6) g8))
                    have hrow : looseRow w8 E.base 3 1 (.slice da dn dc) dn (intVs (m5.decsTo q).N.decisions) := by have := HM8.out.ints .decs trivial; rw [HDV.out] at this; have h9 : (E.ints (m5.decsTo q) .decs).length = dn := HDN.out; rw [h9, HDN.out] at this; exact this
                    have HROW := Lib.hid hrow
                    have HNS := Lib.hid (owns_newsO o8)
                    have H63 := Lib.hid (show dn + 1 ≤ maxLen by unfold maxLen; omega)
                    have H64 := Lib.hid (show (dn + 1) * 8 ≤ 140737488355328 by omega)
                    have HLIM := Lib.hid HM8.out.lim
                    clear g8 o8 hrow
                    go_wp2_with (at_builtin; refine wpList_append_loose w8 rfl _ _ 30 rfl E.base 3 i0 _ 1 8 Tryz.underlying30 HI.out HZ0.out HZ1.out HZ2.out rfl (by decide) (.slice da dn dc) dn (intVs (m5.decsTo q).N.decisions) rfl HROW.out ⟨w7.heap.size, 0, none⟩ 1 1 [.int .i64 q] rfl rfl HNS.out (fun u hu => by rw [List.mem_singleton.1 hu]; rfl) (by decide) H63.out H64.out HLIM.out _ rfl ?_; intro gb2 cap w9 hown hgrow hat hlt3; have HOWN := Lib.hid hown; have HGROW := Lib.hid hgrow; have HAT := Lib.hid hat; have hb4 := owns_far HM8.out.box hgrow (own_box HROW.out HM8.out.box (by decide)); have q10 : w9.cell? ⟨E.mb, 11, none⟩ = some (V6.iv .decs) := hb4.cell_at (i := 11) rfl; rw [HDV.out, HDN.out] at q10; have qf : w9.frozen? ⟨E.mb, 11, none⟩ = false := hb4.free 11; have ql := hb4.lt; clear hb4 hown hgrow hat hlt3)
                    have hpush := HM8.out.pushInt (w1 := w9) (m' := (m5.decsTo q).addDec q) (r := .decs) trivial rfl (v := .slice (some ⟨gb2, 0, none⟩) (dn + 1) cap) (x := (q : Int)) (g := gb2) (i := 11)
                      (by rw [HDV.out, HDN.out]; exact HGROW.out) (by show looseRow _ _ _ _ _ ((m5.decsTo q).N.decisions.length + 1) (intVs (m5.decsTo q).N.decisions ++ _); rw [HDN.out]; exact HOWN.out) rfl (by rw [HDV.out, HDN.out]; exact HAT.out.imp_right fun e => Nat.le_of_eq e.symm)
                      rfl rfl (fun k => by simp) (fun r' hr' => by cases r' <;> rfl) rfl
                    refine ⟨⟨_, _, _, _, _, _, _, _, _, _, _, _, _, _, _, _, _, _, _, _, _, _, _, _, ?_, rfl⟩, ?_⟩
                    · exact ⟨q + 1, V6.withI .decs (.slice (some ⟨gb2, 0, none⟩) (dn + 1) cap), by go_num, by omega, by rw [HST.out]; exact hpush.1, by rw [HST.out]; exact HF8.out.trans hpush.2, HSE.out⟩
                    · show n - (intOf (.int .i64 ((q : Int) + 1))).toNat < n - (intOf (.int .i64 (q : Int))).toNat
                      simp [intOf]
                      omega
                · obtain rfl : q = n := by omega
                  as_aux_lemma =>
                  have hM := HM6.out
                  obtain ⟨a0, k0', hv0⟩ := loose_form hM.states
                  obtain ⟨a1, k1, hv1⟩ : ∃ a c, V6.iv .starts = .slice a (m5.decsTo q).N.starts.length c := loose_form (hM.ints .starts trivial)
                  obtain ⟨a2, k2, hv2⟩ : ∃ a c, V6.iv .stops = .slice a (m5.decsTo q).N.stops.length c := loose_form (hM.ints .stops trivial)
                  obtain ⟨a3, k3, hv3⟩ : ∃ a c, V6.iv .preds = .slice a (m5.decsTo q).N.preds.length c := loose_form (hM.ints .preds trivial)
                  obtain ⟨a4, k4, hv4⟩ : ∃ a c, V6.iv .decs = .slice a (m5.decsTo q).N.decisions.length c := loose_form (hM.ints .decs trivial)
                  have c7 := hM.box.cell_at (i := 7) rfl
                  have c8 := hM.box.cell_at (i := 8) rfl
                  have c9 := hM.box.cell_at (i := 9) rfl
                  have c10 := hM.box.cell_at (i := 10) rfl
                  have c11 := hM.box.cell_at (i := 11) rfl
                  have cl := hM.box.lt
                  rw [hv0] at c7
                  rw [hv1] at c8
                  rw [hv2] at c9
                  rw [hv3] at c10
                  rw [hv4] at c11
                  have hbel := HF6.out.below HM4.out
                  have ho := HO2.out.keep' hbel HLT.out.2
                  have d0 := ho.cell_at (i := 0) rfl
                  have d1 := ho.cell_at (i := 1) rfl
                  have d2 := ho.cell_at (i := 2) rfl
                  have d3 := ho.cell_at (i := 3) rfl
                  have d4 := ho.cell_at (i := 4) rfl
                  have dl := ho.lt
                  have f0 := ho.free 0
                  have f1 := ho.free 1
                  have f2 := ho.free 2
                  have f3 := ho.free 3
                  have f4 := ho.free 4
                  have hwle : W.heap.size ≤ E.base := by have h1 := HLT.out.1; have h2 := HGB.out; omega
                  have hgw : Grew W wr := Below.trans (show Below W.heap.size W w4 from HGL.out) (hbel.mono hwle)
                  have hnbw : W.heap.size ≤ nb := by have h1 := HNB.out; have h2 := HGB.out; omega
                  generalize hs0 : (m5.decsTo q).N.states.length = e0 at hv0 c7
                  generalize hs1 : (m5.decsTo q).N.starts.length = e1 at hv1 c8
                  generalize hs2 : (m5.decsTo q).N.stops.length = e2 at hv2 c9
                  generalize hs3 : (m5.decsTo q).N.preds.length = e3 at hv3 c10
                  generalize hs4 : (m5.decsTo q).N.decisions.length = e4 at hv4 c11
                  have HO3 := Lib.hid (owns_five ho (.slice a0 e0 k0') (.slice a1 e1 k1) (.slice a2 e2 k2) (.slice a3 e3 k3) (.slice a4 e4 k4))
                  have HG9 := Lib.hid (grew_five hgw hnbw (.slice a0 e0 k0') (.slice a1 e1 k1) (.slice a2 e2 k2) (.slice a3 e3 k3) (.slice a4 e4 k4))
                  have hM9 := hM.but0 (by rw [decsTo_waits]; exact HWX.out) (but_five (b := nb) (.slice a0 e0 k0') (.slice a1 e1 k1) (.slice a2 e2 k2) (.slice a3 e3 k3) (.slice a4 e4 k4)) fun c hc e => by
                    have h1 := hM.mine_lo hc
                    have h2 := HLT.out.2
                    omega
                  have hnet := hM9.net
                  rw [hv0, hv1, hv2, hv3, hv4] at hnet
                  have HNET := Lib.hid hnet
                  clear hbel ho hgw hwle hnbw hM hM9 hnet hv0 hv1 hv2 hv3 hv4 hs0 hs1 hs2 hs3 hs4 hd1 hd2 hd3 hd4 hd5
                  go_wp2_with fail
                  refine bodyPost_ret (two_ok (d := Tryz.prog.underlying 32 |>.getD default) rfl _ _ nb 32 _ (0, 0) rfl HO3.out rfl rfl rfl) rfl ?_
                  have hbuilt : Built (E.nums g) g (g.of [0]) m5 := by
                    refine ⟨?_, .inr HWX.out⟩
                    have h1 := HWT.out
                    rw [HMR.out] at h1
                    rw [HER.out] at h1
                    exact h1
                  refine ⟨HG9.out, _, _, _, _, _, _, rfl, .inl ⟨rfl, HTOLD.out trivial, E, m5, HER.out, HET.out, hbuilt, HFU.out, HSL.out.mono (Nat.zero_le _), ⟨Nat.le_trans HPL.out.1 HTT.out, HPL.out.2⟩, HKS.out, ?_⟩⟩
                  rw [HN.out]
                  exact HNET.out
            · as_aux_lemma =>
              rw [hwx] at hwr hwat
              obtain ⟨d0, d1, d2, d3, d4, wcs', rfl, hwn, hwat'⟩ := hwat
              obtain ⟨ck, cnm, ctx, csa, csl, csc, cna, cnl, cnc, rfl, rfl, rfl, rfl, rfl⟩ := hwn.forms
              obtain ⟨wg, woff, wcap, hwv, hwcap, hwdrop⟩ := tail_drop hwr
              obtain ⟨wg2, woff2, wcap2, hwv2, -, hwgl, -, hwcell⟩ := tail_cell hwr (by simp)
              have hsame := hwv.symm.trans hwv2
              simp only [Value.slice.injEq, Option.some.injEq, Addr.mk.injEq, and_true] at hsame
              obtain ⟨⟨rfl, rfl⟩, -, rfl⟩ := hsame
              rw [hwv] at c12
              have hwzero := tail_zero (hwv ▸ hwr)
              have e0 := hwcell 0 _ rfl
              rw [Nat.add_zero] at e0
              have e1 := hwcell 1 _ rfl
              have e2 := hwcell 2 _ rfl
              have e3 := hwcell 3 _ rfl
              have e4 := hwcell 4 _ rfl
              have e5 := hwcell 5 _ rfl
              obtain ⟨rn, hrn⟩ : ∃ rn, rest.length = rn := ⟨_, rfl⟩
              simp only [List.length_cons] at c12 hwr hwv hwcap
              rw [hrn] at c12 hwcap hwdrop
              have hpos : decide ((0 : Int) < ((rn + 1 : Nat) : Int)) = true := decide_eq_true (by omega)
              have HWX := Lib.hid hwx
              have HWV := Lib.hid hwv
              have HWN := Lib.hid hwn
              have hwd9 : tailRow wr E.base 69 6 (restV wg woff rn) rn wcs' := by
                unfold restV
                split
                · rename_i h0
                  have hnil : wcs' = [] := by
                    have := tail_len hwdrop
                    rw [h0] at this
                    exact List.eq_nil_of_length_eq_zero (by simpa using this)
                  rw [hnil, h0]; exact hwzero
                · exact hwdrop
              have HWD := Lib.hid hwd9
              have HWA := Lib.hid hwat'
              have HRN := Lib.hid hrn
              have HFU := Lib.hid hfu
              have hrn9 : rn ≤ 1000000000 := by have := HSL.out.waits; rw [hwx, List.length_cons, hrn] at this; omega
              obtain ⟨ro, hro⟩ := restV_form wg woff rn
              have HRO := Lib.hid hro
              clear hwr hwat' hwn hwv hwv2 hwcell hwdrop hwd9 hwzero hwx hrn hfu hro
              obtain ⟨w10, hw10⟩ : ∃ w10, wr.alloc (.cells #[.int .i64 x.1, .int .u8 ck, .string cnm, .string ctx, .slice csa csl csc, .slice cna cnl cnc] 69) = w10 := ⟨_, rfl⟩
              have hgr : Grew wr w10 := hw10 ▸ grew_alloc wr _
              have hob : Owns w10 wr.heap.size [.int .i64 x.1, .int .u8 ck, .string cnm, .string ctx, .slice csa csl csc, .slice cna cnl cnc] 69 := hw10 ▸ Owns.alloc wr _ _
              have HB := Lib.hid (OwnsX.fresh HM10.out hob)
              have HWN := Lib.hid (HWN.out.keep (hgr.mono HM10.out.lim))
              have HWD := Lib.hid (trow_but HWD.out (But.of_grew (F := fun _ => False) hgr) fun _ _ => id)
              have HWA := Lib.hid (HWA.out.keep (hgr.mono HM10.out.lim))
              have HF10 := Lib.hid (HF10.out.trans (Frk.grew (E := E) (m := m10) (V := V10) hgr))
              have HM10 := Lib.hid (HM10.out.grew hgr)
              have d12 := (hgr.cells _ _ cl).trans c12
              have dl := Nat.lt_of_lt_of_le cl hgr.size
              clear hgr hob
              go_upto_region 14 with fail
              clear c14 c12 cl e0 e1 e2 e3 e4 e5 hw10 hwgl
              refine wp_region_hav_lit follows (by kernel_rfl) ?_
              repeat (first
                | (refine HavG.skip (fun _ => rfl) ?_; simp only [Act.put, List.setIfInBounds_toArray, List.set_cons_zero, List.set_cons_succ])
                | (refine HavG.val (fun _ => rfl) ?_ (fun x w hw _ => ?_) ?_; rotate_left; (focus (have hc := hw.cells; clear hw; go_simp; first | done | rfl)); simp only [Act.put, List.setIfInBounds_toArray, List.set_cons_zero, List.set_cons_succ]))
              refine HavG.val (fun _ => rfl) (.slice (some ⟨wg, ro, none⟩) rn rn) (fun x w hw _ => ?_) ?_
              · clear hw
                rw [← HRO.out]
                unfold restV
                rcases Nat.eq_zero_or_pos rn with h0 | h0
                · subst h0
                  rw [if_pos rfl]
                  go_simp
                  intro hx
                  exact absurd hx (by omega)
                · rw [if_neg (by omega)]
                  go_simp
                  rw [if_pos ⟨by omega, by omega⟩, if_pos (by omega), if_pos (by omega), if_neg (by omega)]
              simp only [Act.put, List.setIfInBounds_toArray, List.set_cons_zero, List.set_cons_succ]
              refine HavG.tail (by kernel_rfl) (by kernel_rfl) (fun _ wx hw _ => ?_)
              have hMx := HM10.out.grew hw
              have hdw := hMx.dropWait (v := .slice (some ⟨wg, ro, none⟩) rn rn) (cs' := wcs')
                (by rw [HWX.out, List.tail_cons, HRN.out, ← HRO.out]; exact trow_but HWD.out (But.of_grew (F := fun _ => False) hw) fun _ _ => id)
                (by rw [HWX.out, List.tail_cons]; exact HWA.out.keep (hw.mono HM10.out.lim)) (by rw [HWV.out]; rfl)
              have c12 := hMx.box.cell_at (i := 12) rfl
              have f12 := hMx.box.free 12
              have cl := hMx.box.lt
              rw [HWV.out, HRN.out] at c12
              have HDW := Lib.hid hdw
              have HWR := Lib.hid hw
              clear hMx hdw hw d12 dl
              go_upto_region 15 with fail
              clear c12 f12 cl
              generalize wx.setCell ⟨E.mb, 12, none⟩ (.slice (some ⟨wg, ro, none⟩) rn rn) = w11 at *
              generalize V10.withW (.slice (some ⟨wg, ro, none⟩) rn rn) = V11 at *
              obtain ⟨m11, hm11⟩ : ∃ m11, m11 = m10.dropWait := ⟨_, rfl⟩
              rw [← hm11] at HDW
              have HEM11 := Lib.hid hm11
              have hfr := (Frk.grew (E := E) (m := m10) (V := V10) HWR.out).trans HDW.out.2
              have HB := Lib.hid (HB.out.next hfr)
              have HWN := Lib.hid (HWN.out.keep (hfr.below HM10.out))
              have HF11 := Lib.hid (HF10.out.trans hfr)
              have HM11 := Lib.hid HDW.out.1
              obtain ⟨m12, hm12⟩ : ∃ m12, m12 = m11.setRule x.1 := ⟨_, rfl⟩
              have hfield := HM11.out.field (m' := m12) (i := 6) (x := .int .i64 x.1) (by rw [hm12]; rfl) (by rw [hm12]; rfl) (by rw [hm12]; rfl)
              have HEM12 := Lib.hid hm12
              have c6 := HM11.out.box.cell_at (i := 6) rfl
              have f6 := HM11.out.box.free 6
              have cl := HM11.out.box.lt
              have b0 := HB.out.1.cell_at (i := 0) rfl
              have bl := HB.out.1.lt
              have HB := Lib.hid (HB.out.next hfield.2)
              have HWN := Lib.hid (HWN.out.keep (hfield.2.below HM11.out))
              have HF12 := Lib.hid (HF11.out.trans hfield.2)
              have HM12 := Lib.hid hfield.1
              have HL12 := Lib.hid (Mk.Le.refl m12)
              have HS0 : Hid (m12.Slim (900000000 - 5001 * t)) := Lib.hid (by rw [hm12, HEM11.out]; exact HSL.out.drop.rule _)
              have htt := HTT.out
              have HS : Hid (m12.Slim 5000) := Lib.hid (HS0.out.mono (by omega))
              have hcnt : x.2.cnt ≤ 500 := HWS.out x (by rw [HWX.out]; simp)
              have HCNT := Lib.hid hcnt
              have HREQ := Lib.hid (show x.2.req ≤ 5000 by have := x.2.req_le; omega)
              have HPB := Lib.hid (HPC.out x.2)
              clear hfr hfield hm11 hm12 hcnt htt
              go_upto_region 16 with fail
              clear c6 f6 cl b0 bl
              generalize w11.setCell ⟨E.mb, 6, none⟩ (.int .i64 x.1) = w12 at *
              obtain ⟨V12, rfl⟩ : ∃ V, V = V11 := ⟨_, rfl⟩
              have HC := Lib.hid (mstate_ok E m12 V12 w12 HM12.out ((HS.out.mono (show 0 + 0 ≤ 5000 by omega)).next HL12.out).cap)
              go_wp2_with fail
              refine HC.out.mono ?_
              clear HC
              rintro e9 w13 ⟨rfl, V13, hM, hF⟩
              obtain ⟨m13, hm⟩ : ∃ m9, m9 = m12.state.2 := ⟨_, rfl⟩
              rw [← hm] at hM hF
              have hle : Mk.Le 0 m12 m13 := hm ▸ m12.state_le
              obtain ⟨a, hx⟩ : ∃ x9, x9 = m12.state.1 := ⟨_, rfl⟩
              rw [← hx]
              have HX_a : Hid (m13.has a) := Lib.hid (by rw [hm, hx]; exact m12.state_has)
              have HEX_a := Lib.hid hx
              clear hx
              have HB := Lib.hid (HB.out.next hF)
              have HWN := Lib.hid (HWN.out.keep (hF.below HM12.out))
              have HL13 : Hid (Mk.Le 0 m12 m13) := Lib.hid ((HL12.out.trans hle).mono (by omega))
              have HM13 := Lib.hid hM
              have HF13 := Lib.hid (HF12.out.trans hF)
              have HEM13 := Lib.hid hm
              clear hM hF hm hle HM12 HF12 HL12
              have HC := Lib.hid (mstate_ok E m13 V13 w13 HM13.out ((HS.out.mono (show 0 + 0 ≤ 5000 by omega)).next HL13.out).cap)
              go_wp2_with fail
              refine HC.out.mono ?_
              clear HC
              rintro e9 w14 ⟨rfl, V14, hM, hF⟩
              obtain ⟨m14, hm⟩ : ∃ m9, m9 = m13.state.2 := ⟨_, rfl⟩
              rw [← hm] at hM hF
              have hle : Mk.Le 0 m13 m14 := hm ▸ m13.state_le
              obtain ⟨b, hx⟩ : ∃ x9, x9 = m13.state.1 := ⟨_, rfl⟩
              rw [← hx]
              have HX_b : Hid (m14.has b) := Lib.hid (by rw [hm, hx]; exact m13.state_has)
              have HEX_b := Lib.hid hx
              clear hx
              have HX_a := Lib.hid (HX_a.out.next hle)
              have HB := Lib.hid (HB.out.next hF)
              have HWN := Lib.hid (HWN.out.keep (hF.below HM13.out))
              have HL14 : Hid (Mk.Le 0 m12 m14) := Lib.hid ((HL13.out.trans hle).mono (by omega))
              have HM14 := Lib.hid hM
              have HF14 := Lib.hid (HF13.out.trans hF)
              have HEM14 := Lib.hid hm
              clear hM hF hm hle HM13 HF13 HL13
              go_upto_region 17 with fail
              have hM14 := HM14.out
              obtain ⟨pa, pc, hpv⟩ : ∃ a c, V14.iv .preds = .slice a m14.N.preds.length c := loose_form (hM14.ints .preds trivial)
              have c10 := hM14.box.cell_at (i := 10) rfl
              have cl := hM14.box.lt
              rw [hpv] at c10
              have hpl : m14.N.preds.length ≤ 2050 := by
                rw [HL14.out.preds, HEM12.out, HEM11.out]
                have h1 := HPL.out.1
                have h2 := HTT.out
                exact Nat.le_trans h1 h2
              have hrow : looseRow w14 E.base 3 1 (.slice pa m14.N.preds.length pc) m14.N.preds.length (intVs m14.N.preds) := by have := hM14.ints .preds trivial; rw [hpv] at this; exact this
              obtain ⟨pn, hpn⟩ : ∃ pn, m14.N.preds.length = pn := ⟨_, rfl⟩
              rw [hpn] at c10 hpl hrow
              have HPN := Lib.hid hpn
              have HPV := Lib.hid hpv
              have HROW := Lib.hid hrow
              obtain ⟨i0, hi, hz0, hz1, hz2⟩ := info_parts info_int
              have HI := Lib.hid hi
              have HZ0 := Lib.hid hz0
              have HZ1 := Lib.hid hz1
              have HZ2 := Lib.hid hz2
              clear hM14 hpv hrow hpn hi hz0 hz1 hz2
              obtain ⟨wy, hwy⟩ : ∃ wy, w14.alloc (.cells #[.int .i64 a] 3) = wy := ⟨_, rfl⟩
              have hw : Grew w14 wy := hwy ▸ grew_alloc w14 _
              have hnb : Owns wy w14.heap.size [.int .i64 a] 3 := hwy ▸ Owns.alloc w14 _ _
              have hMy := HM14.out.grew hw
              have HMY := Lib.hid hMy
              have HB := Lib.hid (HB.out.next (Frk.grew hw))
              have HWN := Lib.hid (HWN.out.keep (hw.mono HM14.out.lim))
              have HFY := Lib.hid (HF14.out.trans (Frk.grew (E := E) (m := m14) (V := V14) hw))
              have HROW := Lib.hid (row_but HROW.out (But.of_grew (F := fun _ => False) hw) fun _ _ => id)
              have HNS := Lib.hid (owns_newsO hnb)
              have H63 := Lib.hid (show pn + 1 ≤ maxLen by unfold maxLen; omega)
              have H64 := Lib.hid (show (pn + 1) * 8 ≤ 140737488355328 by omega)
              have HLIM := Lib.hid hMy.lim
              clear hw hnb hMy hpl
              go_upto_region 18 with (at_builtin; refine wpList_append_loose wy rfl _ _ 30 rfl E.base 3 i0 _ 1 8 Tryz.underlying30 HI.out HZ0.out HZ1.out HZ2.out rfl (by decide) (.slice pa pn pc) pn (intVs m14.N.preds) rfl HROW.out ⟨w14.heap.size, 0, none⟩ 1 1 [.int .i64 a] rfl rfl HNS.out (fun u hu => by rw [List.mem_singleton.1 hu]; rfl) (by decide) H63.out H64.out HLIM.out _ rfl ?_; intro gb2 cap w15p hown hgrow hat hlt3; have HOWN := Lib.hid hown; have HGROW := Lib.hid hgrow; have HAT := Lib.hid hat; have hb4 := owns_far HMY.out.box hgrow (own_box HROW.out HMY.out.box (by decide)); have q10 : w15p.cell? ⟨E.mb, 10, none⟩ = some (V14.iv .preds) := hb4.cell_at (i := 10) rfl; rw [HPV.out, HPN.out] at q10; have qf : w15p.frozen? ⟨E.mb, 10, none⟩ = false := hb4.free 10; have ql := hb4.lt; clear hb4 hown hgrow hat hlt3)
              obtain ⟨m15, hm15⟩ : ∃ m15, m15 = m14.addPred a := ⟨_, rfl⟩
              have hpush := HMY.out.pushInt (w1 := w15p) (m' := m15) (r := .preds) trivial rfl (v := .slice (some ⟨gb2, 0, none⟩) (pn + 1) cap) (x := (a : Int)) (g := gb2) (i := 10)
                (by rw [HPV.out, HPN.out]; exact HGROW.out) (by show looseRow _ _ _ _ _ (m14.N.preds.length + 1) (intVs m14.N.preds ++ _); rw [HPN.out]; exact HOWN.out) rfl (by rw [HPV.out, HPN.out]; exact HAT.out.imp_right fun e => Nat.le_of_eq e.symm)
                (by rw [hm15]; rfl) (by rw [hm15]; rfl) (fun k => by simp) (fun r' hr' => by rw [hm15]; cases r' <;> rfl) (by rw [hm15]; rfl)
              have HB := Lib.hid (HB.out.next hpush.2)
              have HWN := Lib.hid (HWN.out.keep (hpush.2.below HMY.out))
              have HF15 := Lib.hid (HFY.out.trans hpush.2)
              have HM15 := Lib.hid hpush.1
              have HEM15 := Lib.hid hm15
              clear hpush HGROW HOWN HAT q10 qf ql c10 cl hwy HROW HNS H63 H64 HLIM HI HZ0 HZ1 HZ2
              generalize w15p.setCell ⟨E.mb, 10, none⟩ (.slice (some ⟨gb2, 0, none⟩) (pn + 1) cap) = w15 at *
              generalize V14.withI .preds (.slice (some ⟨gb2, 0, none⟩) (pn + 1) cap) = V15 at *
              have HGR15 := Lib.hid (HGR.out.keep (HF15.out.below HM4.out))
              have HX_a : Hid (m15.has a) := Lib.hid (by rw [hm15]; exact HX_a.out)
              have HS12 := HS
              clear HS
              have HS : Hid (m15.Slim 5000) := Lib.hid (by rw [hm15]; exact ((HS12.out.mono (show 0 + 5000 ≤ 5000 by omega)).next HL14.out).pred a)
              have HL15 := Lib.hid (Mk.Le.refl m15)
              have hreq := HREQ.out
              clear hm15
              have b1 := HB.out.1.cell_at (i := 1) rfl
              have b2 := HB.out.1.cell_at (i := 2) rfl
              have b3 := HB.out.1.cell_at (i := 3) rfl
              have b4 := HB.out.1.cell_at (i := 4) rfl
              have b5 := HB.out.1.cell_at (i := 5) rfl
              have bl := HB.out.1.lt
              have HC := Lib.hid (HPB.out m15 V15 w15 (.int .u8 ck) (.string cnm) (.string ctx) (.slice csa csl csc) (.slice cna cnl cnc) a b HM15.out HGR15.out HWN.out HX_a.out (((HS.out.mono (show 0 + x.2.req ≤ 5000 by omega)).next HL15.out).mono (by omega)))
              go_wp2_with fail
              refine HC.out.mono ?_
              clear HC
              rintro e9 w16 ⟨⟨v, rfl⟩, V16, hM, hF⟩
              obtain ⟨m16, hm⟩ : ∃ m9, m9 = (x.2).piece (E.nums g) a b m15 := ⟨_, rfl⟩
              rw [← hm] at hM hF
              have hle : Mk.Le x.2.req m15 m16 := hm ▸ Nd.piece_le (E.nums g) (x.2) a b m15
              have HX_a := Lib.hid (HX_a.out.next hle)
              have HB := Lib.hid (HB.out.next hF)
              have HWN := Lib.hid (HWN.out.keep (hF.below HM15.out))
              have HL16 : Hid (Mk.Le x.2.req m15 m16) := Lib.hid ((HL15.out.trans hle).mono (by omega))
              have HM16 := Lib.hid hM
              have HF16 := Lib.hid (HF15.out.trans hF)
              have HEM16 := Lib.hid hm
              clear hM hF hm hle HM15 HF15 HL15
              clear b1 b2 b3 b4 b5 bl
              go_wp2_with fail
              have hlen : m16.full = false → m10.N.states.length + 2 ≤ m16.N.states.length := fun hf => by
                have f15 : m15.full = false := by
                  cases h : m15.full
                  · rfl
                  · have := HL16.out.full h; rw [hf] at this; cases this
                have f14 : m14.full = false := by rw [HEM15.out] at f15; exact f15
                have f13 : m13.full = false := by
                  cases h : m13.full
                  · rfl
                  · have := (m13.state_le).full h; rw [← HEM14.out, f14] at this; cases this
                have l14 : m14.N.states.length = m13.N.states.length + 1 := by rw [HEM14.out] at f14 ⊢; exact state_len f14
                have l13 : m13.N.states.length = m12.N.states.length + 1 := by rw [HEM13.out] at f13 ⊢; exact state_len f13
                have l12 : m12.N.states.length = m10.N.states.length := by rw [HEM12.out, HEM11.out]; rfl
                have l15 : m15.N.states.length = m14.N.states.length := by rw [HEM15.out]; rfl
                have l16 := HL16.out.len
                omega
              have hwts : Mk.Wts (E.nums g) mR m16 := by
                have hst := Mk.Wts.step HWT.out HFU.out (by rw [HWX.out]; simp)
                have heq : m16 = m10.waitStep (E.nums g) := by
                  unfold Mk.waitStep
                  rw [HWX.out]
                  dsimp only
                  rw [← HEM11.out, ← HEM12.out, ← HEX_a.out, ← HEM13.out, ← HEX_b.out, ← HEM14.out, ← HEM15.out]
                  exact HEM16.out
                rw [heq]; exact hst
              have htt := HTT.out
              have hcap10 := HSL.out.cap
              have hkk := HKK.out.2 HFU.out
              have hts := HTS.out HFU.out
              have hslim : m16.Slim (900000000 - 5001 * (t + 1)) := by
                have h14 := (HS0.out.mono (show 0 + (900000000 - 5001 * t) ≤ 900000000 - 5001 * t by omega)).next HL14.out
                have h15 : m15.Slim (900000000 - 5001 * t) := by rw [HEM15.out]; exact h14.pred a
                exact (h15.mono (show x.2.req + (900000000 - 5001 * (t + 1)) ≤ 900000000 - 5001 * t by omega)).next HL16.out
              have hpr : m16.N.preds.length ≤ t + 1 ∧ m16.N.decisions = [] := by
                obtain ⟨h1, h2⟩ := HPL.out
                rw [HL16.out.preds, HL16.out.decs, HEM15.out]
                refine ⟨?_, ?_⟩
                · show (m14.N.preds ++ [(a : Int)]).length ≤ _
                  rw [HL14.out.preds, HEM12.out, HEM11.out, List.length_append]
                  exact Nat.succ_le_succ h1
                · show m14.N.decisions = _
                  rw [HL14.out.decs, HEM12.out, HEM11.out]
                  exact h2
              have hws : m16.WSmall 500 := by
                have h11 : m12.WSmall 500 := by
                  rw [HEM12.out, HEM11.out]
                  intro z hz
                  exact HWS.out z (List.mem_of_mem_tail hz)
                have h13 : m13.WSmall 500 := by rw [HEM13.out]; exact (wsmall_rel 500).state m12 h11
                have h14 : m14.WSmall 500 := by rw [HEM14.out]; exact (wsmall_rel 500).state m13 h13
                have h15 : m15.WSmall 500 := by rw [HEM15.out]; exact h14
                rw [HEM16.out]
                exact Nd.piece_rel (wsmall_rel 500) (E.nums g) x.2 a b m15 HCNT.out h15
              have hks : m16.N.Kinds3 := by
                have h11 : m12.N.Kinds3 := by rw [HEM12.out, HEM11.out]; exact HKS.out
                have h13 : m13.N.Kinds3 := by rw [HEM13.out]; exact (kinds_rel 500).state m12 h11
                have h14 : m14.N.Kinds3 := by rw [HEM14.out]; exact (kinds_rel 500).state m13 h13
                have h15 : m15.N.Kinds3 := by rw [HEM15.out]; exact h14
                rw [HEM16.out]
                exact Nd.piece_rel (kinds_rel 500) (E.nums g) x.2 a b m15 HCNT.out h15
              have hcap16 := hslim.cap
              obtain ⟨k9, hk9⟩ : ∃ k9, k9 = (if m16.full then 0 else 4200 - m16.N.states.length) := ⟨_, rfl⟩
              have hkk9 : (m16.full = true → k9 = 0) ∧ (m16.full = false → k9 + m16.N.states.length = 4200) := by
                rw [hk9]
                exact ⟨fun h => by rw [h]; rfl, fun h => by rw [h]; simp; omega⟩
              have hlt9 : k9 < gk := by
                cases h : m16.full
                · have h1 := hkk9.2 h
                  have h2 := hlen h
                  omega
                · have h1 := hkk9.1 h
                  omega
              have ht9 : t + 1 ≤ 2050 := by omega
              have hts9 : m16.full = false → 2 * (t + 1) ≤ m16.N.states.length := fun h => by have := hlen h; omega
              clear hk9
              go_roundg k9
              case measure => exact hlt9
              case rel => exact ⟨m16, V16, t + 1, HM16.out, HF16.out, hwts, hslim, hts9, ht9, hpr, hws, hks, hkk9⟩
          · rw [hfu] at c14
            have HFU9 := Lib.hid hfu
            clear hfu
            have hbel := HF10.out.below HM4.out
            have ho := HO2.out.keep' hbel HLT.out.2
            have d0 := ho.cell_at (i := 0) rfl
            have d1 := ho.cell_at (i := 1) rfl
            have d2 := ho.cell_at (i := 2) rfl
            have d3 := ho.cell_at (i := 3) rfl
            have d4 := ho.cell_at (i := 4) rfl
            have dl := ho.lt
            have f0 := ho.free 0
            have f1 := ho.free 1
            have f2 := ho.free 2
            have f3 := ho.free 3
            have f4 := ho.free 4
            have HO3 := Lib.hid (owns_five ho (.slice none 0 0) (.slice none 0 0) (.slice none 0 0) (.slice none 0 0) (.slice none 0 0))
            have hwle : W.heap.size ≤ E.base := by have h1 := HLT.out.1; have h2 := HGB.out; omega
            have hgw : Grew W wr := Below.trans (show Below W.heap.size W w4 from HGL.out) (hbel.mono hwle)
            have HG9 := Lib.hid (grew_five hgw (show W.heap.size ≤ nb by have := HNB.out; have := HGB.out; omega) (.slice none 0 0) (.slice none 0 0) (.slice none 0 0) (.slice none 0 0) (.slice none 0 0))
            clear hbel ho hgw hwle
            go_wp2_with fail
            refine bodyPost_ret (two_ok (d := Tryz.prog.underlying 32 |>.getD default) rfl _ _ nb 32 _ (0, 0) rfl HO3.out rfl rfl rfl) rfl ?_
            have hbuilt : Built (E.nums g) g (g.of [0]) m10 := by
              refine ⟨?_, .inl HFU9.out⟩
              have h1 := HWT.out
              rw [HMR.out] at h1
              rw [HER.out] at h1
              exact h1
            exact ⟨HG9.out, _, _, _, _, _, _, rfl, .inr ⟨.inr rfl, .inr ⟨E, m10, HER.out, HET.out, hbuilt, HFU9.out⟩, rfl⟩⟩
end Go.Proofs.YtiiffcmojkdlaaaGreatDoor
