/- nulls.known: rounds till nothing changes. -/
import Derived.Test.YtkinlcichclnkaaDoorQT9
namespace Go.Proofs.YtkinlcichclnkaaDoor
open Go.RowKit

theorem info_bool : (Tryd.prog.info? 4).map (fun i => (i.zero, i.size, i.bytes)) = some (some (.bool false), 1, 1) := by kernel_rfl

/-- making a row of bools -/
theorem make_bools (n : Nat) (hn : n ≤ reachN) (u : World) : (Instr.makeSlice 52 (.int .i64 (n : Int)) (.int .i64 (n : Int))).run Tryd.prog u =
    .ok (.slice (some ⟨u.heap.size, 0, none⟩) n n) (u.alloc (.cells (List.replicate n (.bool false)).toArray 4)) := by
  obtain ⟨i0, hi, hz0, hz1, hz2⟩ := info_parts info_bool
  unfold reachN at hn
  have h := run_make (P := Tryd.prog) u 52 4 i0 (.bool false) Tryd.underlying52 hi hz0 .i64 .i64 (n : Int) (n : Int) (by omega) (Int.le_refl _) (by rw [hz2]; omega) (by omega)
  rw [Int.toNat_natCast, hz1, Nat.mul_one] at h
  rw [h, ← made_bools]
  rfl

def isF : Value → Bool
  | .bool false => true
  | _ => false
/-- how many falses a block holds -/
def fal (w : World) (b : Nat) : Nat :=
  match w.heap[b]? with
  | some (.cells c _ _) => (c.toList.filter isF).length
  | _ => 0
theorem isF_count (es : List Bool) : ((es.map Value.bool).filter isF).length = (es.filter fun b => !b).length := by
  induction es with
  | nil => rfl
  | cons x r ih =>
    have h1 : isF (.bool false) = true := rfl
    have h2 : isF (.bool true) = false := rfl
    cases x <;> simp [h1, h2, ih]
theorem fal_of {w : World} {b : Nat} {es : List Bool} {T : Nat} (h : Owns w b (es.map .bool) T) : fal w b = falses es := by
  unfold Owns at h
  unfold fal falses
  simp only [h]
  exact isF_count es

/-- asking, as the call's own: its two blocks known whole, the grammar below lim -/
structure AskOwn (W : World) (lim ab eb : Nat) (g : Gr) (es : List Bool) : Prop where
  oa : ∃ v0 v1 v2 v3, Owns W ab [v0, v1, v2, v3, .slice (some ⟨eb, 0, none⟩) g.rules.length g.rules.length] 119 ∧ GrAt W lim (some v0) (some v1) (some v2) (some v3) g
  oe : Owns W eb (es.map .bool) 4
  la : lim ≤ ab
  le : lim ≤ eb
  ne : ab ≠ eb
  el : es.length = g.rules.length
  nl : g.rules.length ≤ reachN

theorem AskOwn.ask {W : World} {lim ab eb : Nat} {g : Gr} {es : List Bool} (h : AskOwn W lim ab eb g es) : AskAt W ab eb g es := by
  obtain ⟨⟨v0, v1, v2, v3, h1, h2⟩, h3, h4, h5, h6, h7, h8⟩ := h
  have h9 := h1.lt
  have h10 := h3.lt
  exact ⟨⟨v0, v1, v2, v3, h1.cell_at rfl, h1.cell_at rfl, h1.cell_at rfl, h1.cell_at rfl, h2.mono (by omega)⟩, h1.cell_at rfl, h7, fun i hi => h3.cell_at (by simp [hi]), h9, h10, h8⟩
theorem AskOwn.keep {W W' : World} {lim ab eb : Nat} {g : Gr} {es : List Bool} (h : AskOwn W lim ab eb g es) (hg : Grew W W') : AskOwn W' lim ab eb g es := by
  obtain ⟨⟨v0, v1, v2, v3, h1, h2⟩, h3, h4, h5, h6, h7, h8⟩ := h
  have h9 := h1.lt
  exact ⟨⟨v0, v1, v2, v3, h1.keep hg, h2.keep (hg.mono (by omega))⟩, h3.keep hg, h4, h5, h6, h7, h8⟩
theorem AskOwn.set {W : World} {lim ab eb : Nat} {g : Gr} {es : List Bool} (h : AskOwn W lim ab eb g es) (i : Nat) (b : Bool) : AskOwn (W.setCell ⟨eb, i, none⟩ (.bool b)) lim ab eb g (es.set i b) := by
  obtain ⟨⟨v0, v1, v2, v3, h1, h2⟩, h3, h4, h5, h6, h7, h8⟩ := h
  refine ⟨⟨v0, v1, v2, v3, h1.other (fun e => h6 e.symm) _, h2.keep ((Below.refl _ _).setCell h5 _)⟩, ?_, h4, h5, h6, by simp [h7], h8⟩
  have := h3.set i (.bool b)
  rwa [← List.map_set] at this

/-- what holds at the label -/
def KnownJ (g : Gr) (W : World) (ra : Option Addr) (rc : Nat) (a : Act) (w : World) : Prop :=
  a.defers = [] ∧ a.tmps.size = 47 ∧ a.tmps.getD 1 undef = .pointer (some ⟨W.heap.size, 0, none⟩) ∧ W.heap.size < w.heap.size ∧ Below W.heap.size W w ∧ w.cell? ⟨W.heap.size, 3, none⟩ = some (.slice ra g.rules.length rc) ∧
    ∃ ab eb es, a.tmps.getD 3 undef = .pointer (some ⟨ab, 0, none⟩) ∧ g.Sound es ∧ AskOwn w W.heap.size ab eb g es ∧ W.heap.size < ab ∧ W.heap.size < eb
def KnownM (a : Act) (w : World) : Nat :=
  match a.tmps.getD 3 undef with
  | .pointer (some p) => (match w.cell? ⟨p.block, 4, none⟩ with | some (.slice (some q) _ _) => fal w q.block | _ => 0)
  | _ => 0
theorem knownM_of {a : Act} {w : World} {lim ab eb : Nat} {g : Gr} {es : List Bool} (h1 : a.tmps.getD 3 undef = .pointer (some ⟨ab, 0, none⟩)) (h2 : AskOwn w lim ab eb g es) : KnownM a w = falses es := by
  unfold KnownM
  rw [h1]
  dsimp only
  rw [h2.ask.ea]
  exact fal_of h2.oe

def KnownIs (g : Gr) (W : World) (e : Ending) (W' : World) : Prop :=
  ∃ ab eb es, e = .returned (.pointer (some ⟨ab, 0, none⟩)) ∧ g.IsEmpty es ∧ AskOwn W' W.heap.size ab eb g es ∧ Below W.heap.size W W'

set_option maxHeartbeats 4000000 in
set_option maxRecDepth 20000 in
theorem known_ok (g : Gr) (W : World) (v0 v1 v2 v3 : Value) (hG : GrAt W W.heap.size (some v0) (some v1) (some v2) (some v3) g) :
    Calls Tryd.prog 55 #[.agg #[v0, v1, v2, v3]] W fun e W' => KnownIs g W e W' := by
  have hG' := hG
  obtain ⟨q1, q2, q3, q4, q5, q6, ra, rc, q7, q8, q9⟩ := hG'
  obtain rfl := Option.some.inj q1
  obtain rfl := Option.some.inj q3
  obtain rfl := Option.some.inj q4
  obtain rfl := Option.some.inj q7
  clear q1 q3 q4 q5 q6 q7
  have hgr := grew_alloc W (.cells #[.string g.name, .int .i64 g.bound, .int .i64 g.states, .slice ra g.rules.length rc] 26)
  have b0 : (W.alloc (.cells #[.string g.name, .int .i64 g.bound, .int .i64 g.states, .slice ra g.rules.length rc] 26)).cell? ⟨W.heap.size, 0, none⟩ = some (.string g.name) := by simp [go_sem]
  have b1 : (W.alloc (.cells #[.string g.name, .int .i64 g.bound, .int .i64 g.states, .slice ra g.rules.length rc] 26)).cell? ⟨W.heap.size, 1, none⟩ = some (.int .i64 g.bound) := by simp [go_sem]
  have b2 : (W.alloc (.cells #[.string g.name, .int .i64 g.bound, .int .i64 g.states, .slice ra g.rules.length rc] 26)).cell? ⟨W.heap.size, 2, none⟩ = some (.int .i64 g.states) := by simp [go_sem]
  have b3 : (W.alloc (.cells #[.string g.name, .int .i64 g.bound, .int .i64 g.states, .slice ra g.rules.length rc] 26)).cell? ⟨W.heap.size, 3, none⟩ = some (.slice ra g.rules.length rc) := by simp [go_sem]
  have hsz : W.heap.size < (W.alloc (.cells #[.string g.name, .int .i64 g.bound, .int .i64 g.states, .slice ra g.rules.length rc] 26)).heap.size := by simp
  have hmk := make_bools g.rules.length q8
  unfold reachN at q8 q2
  go_enter Tryd.func55, Tryd.ntmps55
  go_wp2_with fail
  generalize W.alloc (.cells #[.string g.name, .int .i64 g.bound, .int .i64 g.states, .slice ra g.rules.length rc] 26) = w1 at *
  refine wp_scope_again (l := 0) (KnownJ g W ra rc) KnownM rfl ?_ ?_
  · refine wp_region_hav_lit follows (by kernel_rfl) ?_
    repeat (first
      | (refine HavG.skip (fun _ => rfl) ?_; simp only [Act.put, List.setIfInBounds_toArray, List.set_cons_zero, List.set_cons_succ])
      | (refine HavG.val (fun _ => rfl) ?_ (fun x w hw _ => ?_) ?_; rotate_left; (focus (have hc := hw.cells; clear hw; go_simp; first | done | rfl)); simp only [Act.put, List.setIfInBounds_toArray, List.set_cons_zero, List.set_cons_succ]))
    refine HavG.any (fun _ => rfl) (fun v w => ∃ b, v = .slice (some ⟨b, 0, none⟩) g.rules.length g.rules.length ∧ w1.heap.size ≤ b ∧ Owns w b (List.replicate g.rules.length (.bool false)) 4) ?_ (fun x w hw _ => ?_) ?_
    · rintro v w w' hg ⟨b, h1, h2, h3⟩
      exact ⟨b, h1, h2, h3.keep hg⟩
    · have HW := Lib.hid hw
      clear hw
      go_simp
      exact ⟨grew_alloc _ _, HW.out.size, Owns.alloc _ _ _⟩
    refine HavG.tail (by kernel_rfl) (by kernel_rfl) (fun x w hw hx => ?_)
    have hx' := hx _ (List.mem_append_right _ (List.mem_singleton.2 rfl))
    clear hx
    simp only [Act.put, List.setIfInBounds_toArray, List.set_cons_zero, List.set_cons_succ]
    dsimp only at hx'
    generalize x (0 + 1 + 1 + 1 + 1) = y at *
    obtain ⟨eb, rfl, heb, hown⟩ := hx'
    have HO := Lib.hid hown
    have HW := Lib.hid hw
    clear hown hw hmk
    have hal := Owns.alloc w [.string g.name, .int .i64 g.bound, .int .i64 g.states, .slice ra g.rules.length rc, .slice (some ⟨eb, 0, none⟩) g.rules.length g.rules.length] 119
    have hgw := HW.out.trans (grew_alloc w (.cells #[.string g.name, .int .i64 g.bound, .int .i64 g.states, .slice ra g.rules.length rc, .slice (some ⟨eb, 0, none⟩) g.rules.length g.rules.length] 119))
    have hsz2 := HW.out.size
    have hlt := HO.out.lt
    have HA := Lib.hid hal
    have HG := Lib.hid hgw
    clear hal hgw
    go_wp2
    refine ⟨rfl, rfl, rfl, by have := HG.out.size; omega, hgr.trans HG.out, by rw [HG.out.cells _ _ hsz]; exact b3, w.heap.size, eb, List.replicate g.rules.length false, rfl, Gr.Sound.start g, ⟨⟨_, _, _, _, HA.out, (hG.keep (hgr.trans HG.out))⟩, ?_, by omega, by omega, by omega, by simp, q8⟩, by omega, by omega⟩
    have := HO.out.keep (grew_alloc w (.cells #[.string g.name, .int .i64 g.bound, .int .i64 g.states, .slice ra g.rules.length rc, .slice (some ⟨eb, 0, none⟩) g.rules.length g.rules.length] 119))
    rwa [List.map_replicate]
  · intro a w hJ
    obtain ⟨hd, hs47, h1, hsz2, hbw, hbox, ab, eb, es0, h3, hsound, hown, hab, heb⟩ := hJ
    have hmu : KnownM a w = falses es0 := knownM_of h3 hown
    rw [hmu]
    clear hmu
    obtain ⟨u, hu, rfl⟩ := act_lit a 47 hd hs47
    rw [hu] at h1 h3
    clear hu hd hs47
    simp only [List.range, List.range.loop, List.map_cons, List.map_nil, h1, h3]
    clear h1 h3 hmk b0 b1 b2 b3 hgr hsz w1
    have HO := Lib.hid hown
    have HS := Lib.hid hsound
    have HG := Lib.hid hG
    have HR := Lib.hid q9
    clear hown hsound hG q9
    go_wp2_with fail
    go_loopw [4, 17] (fun ch i wr => ∃ (c : Bool) (j : Nat) (es : List Bool), ch = .bool c ∧ i = .int .i64 j ∧ j ≤ g.rules.length ∧ Hid (SweepTo g es0 es c j) ∧ Hid (AskOwn wr W.heap.size ab eb g es) ∧ W.heap.size < wr.heap.size ∧ Below W.heap.size W wr ∧ wr.cell? ⟨W.heap.size, 3, none⟩ = some (.slice ra g.rules.length rc)) (fun _ i _ => g.rules.length - (intOf i).toNat)
    case atStart =>
      exact ⟨false, 0, es0, rfl, rfl, by omega, SweepTo.start HS.out, HO, hsz2, hbw, hbox⟩
    case round =>
      clear hbw hbox hsz2 HO HS
      obtain ⟨c, j, es, rfl, rfl, hj, hsw, hown, hsz2, hbw, hbox⟩ := hrel
      by_cases hlt : j < g.rules.length
      · obtain ⟨b, off, rfl, hb, hrule⟩ := (HR.out.keep hbw).get hlt
        simp only [Nat.zero_add] at hrule
        obtain ⟨u2, u3, u4, u5, u6, e0, e1, e2, e3, e4, e5, e6, e7, e8, e9, hrule, hnode⟩ := hrule.vals
        obtain ⟨bk, bnm, btx, bsa, bsl, bsc, bna, bnl, bnc, rfl, rfl, rfl, rfl, rfl⟩ := hnode.forms
        have hg2 := grew_alloc wr (.cells #[.string g.rules[j].name, .int .u8 g.rules[j].sort, .int .u8 bk, .string bnm, .string btx, .slice bsa bsl bsc, .slice bna bnl bnc, .int .i64 g.rules[j].p0, .int .i64 g.rules[j].p1, .int .i64 g.rules[j].p2] 38)
        have hO2 := Owns.alloc wr [.string g.rules[j].name, .int .u8 g.rules[j].sort, .int .u8 bk, .string bnm, .string btx, .slice bsa bsl bsc, .slice bna bnl bnc, .int .i64 g.rules[j].p0, .int .i64 g.rules[j].p1, .int .i64 g.rules[j].p2] 38
        have r0 := hO2.cell_at (i := 0) rfl
        have r1 := hO2.cell_at (i := 1) rfl
        have r2 := hO2.cell_at (i := 2) rfl
        have r3 := hO2.cell_at (i := 3) rfl
        have r4 := hO2.cell_at (i := 4) rfl
        have r5 := hO2.cell_at (i := 5) rfl
        have r6 := hO2.cell_at (i := 6) rfl
        have r7 := hO2.cell_at (i := 7) rfl
        have r8 := hO2.cell_at (i := 8) rfl
        have r9 := hO2.cell_at (i := 9) rfl
        have hl2 := hO2.lt
        have HN := Lib.hid ((hnode.keep (hg2.mono hbw.size)).mono (Nat.le_trans hbw.size hg2.size))
        have HG2 := Lib.hid hg2
        have hown2 := Lib.hid (hown.out.keep hg2)
        clear hrule hnode hO2 hg2
        go_wp2_with fail
        clear e0 e1 e2 e3 e4 e5 e6 e7 e8 e9
        generalize wr.alloc (.cells #[.string g.rules[j].name, .int .u8 g.rules[j].sort, .int .u8 bk, .string bnm, .string btx, .slice bsa bsl bsc, .slice bna bnl bnc, .int .i64 g.rules[j].p0, .int .i64 g.rules[j].p1, .int .i64 g.rules[j].p2] 38) = w2 at *
        obtain ⟨-, ea, el, ec, al, bl, nl⟩ := hown2.out.ask
        have hjl : j < es.length := by omega
        have ej := ec j hjl
        obtain ⟨bj, hbj⟩ : ∃ bj, bj = es[j] := ⟨_, rfl⟩
        rw [← hbj] at ej
        have HBJ := Lib.hid hbj
        have HEL := Lib.hid el
        clear hbj el ec nl
        refine wp_region_hav_lit follows (by kernel_rfl) ?_
        cases bj
        · obtain ⟨bm, hbm⟩ : ∃ bm, bm = g.may es g.rules[j].token g.rules[j].body := ⟨_, rfl⟩
          have HBM := Lib.hid hbm
          clear hbm
          repeat (first
            | (refine HavG.skip (fun _ => rfl) ?_; simp only [Act.put, List.setIfInBounds_toArray, List.set_cons_zero, List.set_cons_succ])
            | (refine HavG.val (fun _ => rfl) ?_ (fun x w hw _ => ?_) ?_; rotate_left; (focus (have hc := hw.cells; clear hw; go_simp; first | done | rfl)); simp only [Act.put, List.setIfInBounds_toArray, List.set_cons_zero, List.set_cons_succ]))
          refine HavG.det (fun _ => rfl) (.bool g.rules[j].token) (fun x w3 hw _ => ?_) ?_
          · have HW := Lib.hid hw
            clear hw
            go_simp
            refine (token_ok g.rules[j] _ _ _ _ _ _ _ _ _ _ _ rfl).mono ?_
            rintro e w4 ⟨rfl, hb4⟩
            exact ⟨rfl, hb4⟩
          simp only [Act.put, List.setIfInBounds_toArray, List.set_cons_zero, List.set_cons_succ]
          repeat (first
            | (refine HavG.skip (fun _ => rfl) ?_; simp only [Act.put, List.setIfInBounds_toArray, List.set_cons_zero, List.set_cons_succ])
            | (refine HavG.val (fun _ => rfl) ?_ (fun x w hw _ => ?_) ?_; rotate_left; (focus (have hc := hw.cells; clear hw; go_simp; first | done | rfl)); simp only [Act.put, List.setIfInBounds_toArray, List.set_cons_zero, List.set_cons_succ]))
          refine HavG.det (fun _ => rfl) (.bool bm) (fun x w3 hw _ => ?_) ?_
          · have HW := Lib.hid hw
            clear hw
            go_simp
            rw [HBM.out]
            refine (may_ok g es g.rules[j].token g.rules[j].body _ ab eb _ _ _ _ _ (hown2.out.keep HW.out).ask ((HN.out.keep HW.out).mono HW.out.size)).mono ?_
            rintro e w4 ⟨rfl, hb4⟩
            exact ⟨rfl, hb4⟩
          simp only [Act.put, List.setIfInBounds_toArray, List.set_cons_zero, List.set_cons_succ]
          repeat (first
            | (refine HavG.skip (fun _ => rfl) ?_; simp only [Act.put, List.setIfInBounds_toArray, List.set_cons_zero, List.set_cons_succ])
            | (refine HavG.val (fun _ => rfl) ?_ (fun x w hw _ => ?_) ?_; rotate_left; (focus (have hc := hw.cells; clear hw; go_simp; first | done | rfl)); simp only [Act.put, List.setIfInBounds_toArray, List.set_cons_zero, List.set_cons_succ]))
          refine HavG.tail (by kernel_rfl) (by kernel_rfl) (fun x w3 hw _ => ?_)
          have hc := hw.cells
          have hz := hw.size
          have HO3 := Lib.hid (hown2.out.keep hw)
          have hfr : w3.frozen? ⟨eb, j, none⟩ = false := HO3.out.oe.free j
          have hB3 := Lib.hid (hbw.trans ((HG2.out.trans hw).mono hbw.size))
          have hbx : w3.cell? ⟨W.heap.size, 3, none⟩ = some (.slice (some ⟨b, off, none⟩) g.rules.length rc) := by rw [(HG2.out.trans hw).cells _ _ hsz2]; exact hbox
          have HBX := Lib.hid hbx
          clear hw hbx hbox
          cases bm
          · go_wp2_with fail
            exact ⟨⟨c, j + 1, es, rfl, by go_num, by omega, hsw.out.keep hlt (.inr HBM.out.symm), HO3.out, by have := HG2.out.size; omega, hB3.out, HBX.out⟩, by simp [intOf]; omega⟩
          · go_wp2_with fail
            have hset : Below (W.heap.size + 1) w3 (w3.setCell ⟨eb, j, none⟩ (.bool true)) := (Below.refl _ _).setCell (by show W.heap.size + 1 ≤ eb; omega) _
            have hsz3 := hset.size
            have hz2 := HG2.out.size
            exact ⟨⟨true, j + 1, es.set j true, rfl, by go_num, by omega, hsw.out.grow hlt (by have := HBJ.out; simp [List.getD_eq_getElem?_getD, hjl, ← this]) HBM.out.symm, HO3.out.set j true, by omega, hB3.out.trans (hset.mono (by omega)),
              by rw [hset.cell (by show W.heap.size < _; omega)]; exact HBX.out⟩, by simp [intOf]; omega⟩
        · repeat (first
            | (refine HavG.skip (fun _ => rfl) ?_; simp only [Act.put, List.setIfInBounds_toArray, List.set_cons_zero, List.set_cons_succ])
            | (refine HavG.val (fun _ => rfl) ?_ (fun x w hw _ => ?_) ?_; rotate_left; (focus (have hc := hw.cells; clear hw; go_simp; first | done | rfl)); simp only [Act.put, List.setIfInBounds_toArray, List.set_cons_zero, List.set_cons_succ]))
          refine HavG.tail (by kernel_rfl) (by kernel_rfl) (fun x w3 hw _ => ?_)
          have HW := Lib.hid hw
          have hB3 := Lib.hid (hbw.trans ((HG2.out.trans hw).mono hbw.size))
          have hbx : w3.cell? ⟨W.heap.size, 3, none⟩ = some (.slice (some ⟨b, off, none⟩) g.rules.length rc) := by rw [(HG2.out.trans hw).cells _ _ hsz2]; exact hbox
          have HBX := Lib.hid hbx
          have hz := hw.size
          clear hw hbx hbox
          go_wp2_with fail
          exact ⟨⟨c, j + 1, es, rfl, by go_num, by omega, hsw.out.keep hlt (.inl (by have := HBJ.out; simp [List.getD_eq_getElem?_getD, hjl, ← this])), hown2.out.keep HW.out, by have := HG2.out.size; omega, hB3.out, HBX.out⟩, by simp [intOf]; omega⟩
      · have hjn : j = g.rules.length := by omega
        subst hjn
        have HBX := Lib.hid hbox
        have HB := Lib.hid hbw
        clear hbox hbw
        cases c
        · go_wp2_with fail
          refine bodyPost_ret (results_tmp rfl _ _ _) rfl ?_
          exact ⟨ab, eb, es, rfl, hsw.out.done, hown.out, HB.out⟩
        · go_wp2_with fail
          refine wp_goto ?_
          exact ⟨rfl, ⟨rfl, rfl, rfl, hsz2, HB.out, HBX.out, ab, eb, es, rfl, hsw.out.1, hown.out, hab, heb⟩, by rw [knownM_of rfl hown.out]; exact hsw.out.2.1 rfl⟩
end Go.Proofs.YtkinlcichclnkaaDoor

/- What a node reaches at once is marked in a row. -/
namespace Go.Proofs.YtkinlcichclnkaaDoor
open Go.RowKit

/-- of what was there, only block t may have turned -/
structure Upd (t : Nat) (w w' : World) : Prop where
  os : w'.os = w.os
  tape : w'.tape = w.tape
  output : w'.output = w.output
  size : w.heap.size ≤ w'.heap.size
  block : ∀ k, k < w.heap.size → k ≠ t → w'.heap[k]? = w.heap[k]?
theorem Upd.refl (t : Nat) (w : World) : Upd t w w := ⟨rfl, rfl, rfl, Nat.le_refl _, fun _ _ _ => rfl⟩
theorem Upd.trans {t : Nat} {a b c : World} (h : Upd t a b) (k : Upd t b c) : Upd t a c :=
  ⟨k.os.trans h.os, k.tape.trans h.tape, k.output.trans h.output, Nat.le_trans h.size k.size, fun i hi hn => (k.block i (Nat.lt_of_lt_of_le hi h.size) hn).trans (h.block i hi hn)⟩
theorem Grew.upd {w w' : World} (h : Grew w w') (t : Nat) : Upd t w w' := ⟨h.os, h.tape, h.output, h.size, fun k hk _ => h.block k hk⟩
theorem Upd.below {t lim : Nat} {w w' : World} (h : Upd t w w') (hl : lim ≤ t) (hs : lim ≤ w.heap.size) : Below lim w w' := ⟨h.os, h.tape, h.output, h.size, fun k hk => h.block k (by omega) (by omega)⟩
theorem Upd.setCell {t : Nat} {a w : World} (h : Upd t a w) (o : Nat) (v : Value) : Upd t a (w.setCell ⟨t, o, none⟩ v) :=
  h.trans ⟨rfl, rfl, rfl, by simp [World.setCell], fun k _ hn => Below.heap_setCell _ _ _ _ hn⟩
theorem Upd.cell {t : Nat} {w w' : World} (h : Upd t w w') {b : Nat} (hb : b < w.heap.size) (hn : b ≠ t) (o : Nat) : w'.cell? ⟨b, o, none⟩ = w.cell? ⟨b, o, none⟩ := World.cell?_of_block (w := w) (h.block b hb hn)
theorem Owns.upd {W W' : World} {b t : Nat} {cs : List Value} {T : Nat} (h : Owns W b cs T) (hg : Upd t W W') (hn : b ≠ t) : Owns W' b cs T := by
  have := h.lt
  unfold Owns at *
  rw [hg.block b this hn]; exact h
theorem AskOwn.upd {W W' : World} {lim ab eb t : Nat} {g : Gr} {es : List Bool} (h : AskOwn W lim ab eb g es) (hg : Upd t W W') (hl : lim ≤ t) (ha : ab ≠ t) (he : eb ≠ t) : AskOwn W' lim ab eb g es := by
  obtain ⟨⟨v0, v1, v2, v3, h1, h2⟩, h3, h4, h5, h6, h7, h8⟩ := h
  have h9 := h1.lt
  exact ⟨⟨v0, v1, v2, v3, h1.upd hg ha, h2.keep (hg.below hl (by omega))⟩, h3.upd hg he, h4, h5, h6, h7, h8⟩

theorem enters58 : Enters 58 := fun _ _ => by kernel_rfl

/-- the row that is written: rows in block rb, the row's number in ib; row i is block t -/
structure RowAt (W : World) (ob ib rb t m i : Nat) (l : List Bool) : Prop where
  fo : W.cell? ⟨ob, 0, none⟩ = some (.slice (some ⟨rb, 0, none⟩) m m)
  fi : W.cell? ⟨ib, 0, none⟩ = some (.int .i64 i)
  fr : W.cell? ⟨rb, i, none⟩ = some (.slice (some ⟨t, 0, none⟩) m m)
  ft : Owns W t (l.map .bool) 4
  fl : l.length = m
  fm : i < m
  fml : m ≤ reachN
  no : ob ≠ t
  ni : ib ≠ t
  nr : rb ≠ t

theorem RowAt.upd {W W' : World} {ob ib rb t m i : Nat} {l l' : List Bool} (h : RowAt W ob ib rb t m i l) (hg : Upd t W W') (ho : Owns W' t (l'.map .bool) 4) (hl : l'.length = m) : RowAt W' ob ib rb t m i l' := by
  obtain ⟨h1, h2, h3, h4, h5, h6, h6', h7, h8, h9⟩ := h
  have a1 := lt_of_cell h1
  have a2 := lt_of_cell h2
  have a3 := lt_of_cell h3
  exact ⟨by rw [hg.cell a1 h7]; exact h1, by rw [hg.cell a2 h8]; exact h2, by rw [hg.cell a3 h9]; exact h3, ho, hl, h6, h6', h7, h8, h9⟩
theorem RowAt.keep {W W' : World} {ob ib rb t m i : Nat} {l : List Bool} (h : RowAt W ob ib rb t m i l) (hg : Grew W W') : RowAt W' ob ib rb t m i l := h.upd (hg.upd t) (h.ft.keep hg) h.fl

/-- a call that marks a row -/
def Marks (t m : Nat) (W : World) (l' : List Bool) (e : Ending) (W' : World) : Prop := e = .returned (.tuple #[]) ∧ Upd t W W' ∧ Owns W' t (l'.map .bool) 4 ∧ l'.length = m

theorem reach1_ok (W : World) (ob ib rb t m i : Nat) (l : List Bool) (k : Nat) (h : RowAt W ob ib rb t m i l) (hk : k < m) :
    Calls Tryd.prog 58 (#[.int .i64 k] ++ #[.pointer (some ⟨ob, 0, none⟩), .pointer (some ⟨ib, 0, none⟩)]) W fun e W' => Marks t m W (l.set k true) e W' := by
  obtain ⟨h1, h2, h3, h4, h5, h6, h6', h7, h8, h9⟩ := h
  have hfr := h4.free k
  obtain ⟨bk, hcl⟩ : ∃ bk : Bool, W.cell? ⟨t, k, none⟩ = some (.bool bk) := ⟨_, h4.cell_at (i := k) (v := .bool l[k]) (by simp [show k < l.length by omega])⟩
  have HO := Lib.hid h4
  have HL := Lib.hid h5
  clear h4 h5
  unfold reachN at h6'
  simp only [List.append_toArray, List.cons_append, List.nil_append]
  go_enter Tryd.func58, Tryd.ntmps58
  go_wp2
  go_end0
  refine ⟨rfl, (Upd.refl _ _).setCell _ _, ?_, by simp [HL.out]⟩
  have := HO.out.set k (.bool true)
  rwa [← List.map_set] at this

mutual
/-- the rules that a node reaches at once, marked in a row -/
def Gr.marks (g : Gr) (es : List Bool) (token : Bool) : Nd → List Bool → List Bool
  | .mk k nm tx set subs, l =>
    if k == 1 then Gr.marksSeq g es token subs l
    else if k == 0 || k == 2 || k == 3 || k == 4 || k == 7 then Gr.marksAll g es token subs l
    else if k == 5 || k == 6 then (if 0 ≤ g.named token (.mk k nm tx set subs) then l.set (g.named token (.mk k nm tx set subs)).toNat true else l)
    else l
def Gr.marksSeq (g : Gr) (es : List Bool) (token : Bool) : List Nd → List Bool → List Bool
  | [], l => l
  | n :: r, l => if g.may es token n then Gr.marksSeq g es token r (Gr.marks g es token n l) else Gr.marks g es token n l
def Gr.marksAll (g : Gr) (es : List Bool) (token : Bool) : List Nd → List Bool → List Bool
  | [], l => l
  | n :: r, l => Gr.marksAll g es token r (Gr.marks g es token n l)
end

theorem marksAll_foldl (g : Gr) (es : List Bool) (token : Bool) (ns : List Nd) (l : List Bool) : g.marksAll es token ns l = ns.foldl (fun l n => g.marks es token n l) l := by
  induction ns generalizing l with
  | nil => rfl
  | cons n r ih => simp only [Gr.marksAll, List.foldl_cons, ih]
theorem marksAll_take (g : Gr) (es : List Bool) (token : Bool) (ns : List Nd) (l : List Bool) (j : Nat) (h : j < ns.length) : g.marksAll es token (ns.take (j + 1)) l = g.marks es token ns[j] (g.marksAll es token (ns.take j) l) := by
  rw [marksAll_foldl, marksAll_foldl, List.take_succ_eq_append_getElem h, List.foldl_append, List.foldl_cons, List.foldl_nil]
/-- so far all may be empty -/
theorem marksSeq_split (g : Gr) (es : List Bool) (token : Bool) (ns : List Nd) (l : List Bool) (j : Nat) (hall : ∀ i (h : i < ns.length), i < j → g.may es token ns[i] = true) (hj : j ≤ ns.length) :
    g.marksSeq es token ns l = g.marksSeq es token (ns.drop j) (g.marksAll es token (ns.take j) l) := by
  induction ns generalizing l j with
  | nil => simp at hj; subst hj; rfl
  | cons n r ih =>
    cases j with
    | zero => rfl
    | succ j =>
      have h0 := hall 0 (by simp) (by omega)
      simp only [List.getElem_cons_zero] at h0
      simp only [Gr.marksSeq, h0, if_true, List.drop_succ_cons, List.take_succ_cons, Gr.marksAll]
      exact ih _ j (fun i h hlt => by have := hall (i + 1) (by simpa using h) (by omega); rwa [List.getElem_cons_succ] at this) (by simpa using hj)
end Go.Proofs.YtkinlcichclnkaaDoor
