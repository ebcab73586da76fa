/- checks.Check and Fine: all that is told of a grammar. -/
import Derived.Test.YtkinlcichclnkaaDoorQT33
import Derived.Test.YtkinlcichclnkaaDoorQT16
import Derived.Test.YtkinlcichclnkaaDoorQT13
import Derived.Test.YtkinlcichclnkaaDoorQT5
import Derived.Test.YtkinlcichclnkaaDoorQT30
namespace Go.Proofs.YtkinlcichclnkaaDoor
open Go.RowKit Go.Shelf

theorem rulesTold_snoc (g : Gr) (es : List Bool) (rch rnd : Nat → Nat → Bool) : ∀ (l : List Rl) (i j : Nat) (h : j < l.length), g.rulesTold es rch rnd i (l.take (j + 1)) = g.rulesTold es rch rnd i (l.take j) ++ g.ruleTold es rch rnd (i + j) l[j]
  | [], _, _, h => absurd h (by simp)
  | r :: l, i, 0, _ => by simp [Gr.rulesTold]
  | r :: l, i, j + 1, h => by
    have := rulesTold_snoc g es rch rnd l (i + 1) j (by simpa using h)
    simp only [List.take_succ_cons, Gr.rulesTold, List.getElem_cons_succ]
    rw [this, List.append_assoc, show i + 1 + j = i + (j + 1) by omega]
theorem ruleTold_len (g : Gr) (es : List Bool) (rch rnd : Nat → Nat → Bool) (i : Nat) (r : Rl) : (g.ruleTold es rch rnd i r).length ≤ 3 * r.body.all.length + 4 := by
  unfold Gr.ruleTold
  have h2 := nodesTold_len i r 2 g.noneBad
  have h3 := nodesTold_len i r 3 (g.sortBad r)
  have h6 := nodesTold_len i r 6 (g.loopBad es r)
  simp only [List.length_append]
  have hi : ∀ (c : Prop) [Decidable c] (p : Prob), (if c then [p] else []).length ≤ 1 := fun c _ p => by split <;> simp
  have a1 := hi (g.find r.name < (i : Int)) ⟨1, i, r.name⟩
  have a2 := hi ((r.parser && rch i i) = true) ⟨4, i, r.name⟩
  have a3 := hi (rnd i i = true) ⟨5, i, r.name⟩
  have a4 := hi ((es.getD i false && (r.sort == 1 || r.sort == 3)) = true) ⟨7, i, r.name⟩
  omega
/-- a grammar of which not too much may be told -/
structure Gr.Few (g : Gr) : Prop where
  len : g.rules.length ≤ 60
  all : ∀ i (h : i < g.rules.length), g.rules[i].body.all.length ≤ 4000
theorem Gr.Few.told {g : Gr} (h : g.Few) (es : List Bool) (rch rnd : Nat → Nat → Bool) : ∀ j, j ≤ g.rules.length → (g.rulesTold es rch rnd 0 (g.rules.take j)).length ≤ j * 12004
  | 0, _ => by simp [Gr.rulesTold]
  | j + 1, hj => by
    have ih := Gr.Few.told h es rch rnd j (by omega)
    rw [rulesTold_snoc g es rch rnd g.rules 0 j (by omega), List.length_append]
    have h1 := ruleTold_len g es rch rnd (0 + j) g.rules[j]
    have h2 := h.all j (by omega)
    omega

/-- what was told, in memory -/
def ProbsAt (W : World) (v : Value) (T : List Prob) : Prop := ∃ a, v = .slice a T.length T.length ∧ (T ≠ [] → ∃ b tl, a = some ⟨b, 0, none⟩ ∧ Owns W b (probCells T ++ tl) 111)
theorem ProbsAt.keep {W W' : World} {v : Value} {T : List Prob} (h : ProbsAt W v T) (hg : Grew W W') : ProbsAt W' v T := by
  obtain ⟨a, h1, h2⟩ := h
  exact ⟨a, h1, fun hne => by obtain ⟨b, tl, h3, h4⟩ := h2 hne; exact ⟨b, tl, h3, h4.keep hg⟩⟩

theorem clip_ok (W : World) (base : Nat) (v : Value) (T : List Prob) (hT : T.length ≤ 1000000) (h : W.ownsRow base 111 3 v T.length (probCells T)) :
    Calls Tryd.prog 49 #[v] W fun e W' => (∃ u, e = .returned u ∧ ProbsAt W u T) ∧ W = W' := by
  rcases h.2 with ⟨rfl, h0⟩ | ⟨b, cap, cur, rfl, h1, h2, h3, h4, h5, h6⟩
  · have hn : T = [] := List.eq_nil_of_length_eq_zero h0
    subst hn
    go_enter Tryd.func49, Tryd.ntmps49
    go_wp2
    go_ret
    exact ⟨⟨_, rfl, none, rfl, fun h => absurd rfl h⟩, rfl⟩
  · have HF : Hid (T ≠ [] → ∃ b' tl, (some ⟨b, 0, none⟩ : Option Addr) = some ⟨b', 0, none⟩ ∧ Owns W b' (probCells T ++ tl) 111) := fun _ => ⟨b, cur.toList.drop (T.length * 3), rfl, by
      unfold Owns
      rw [← h6, List.take_append_drop]
      exact h2⟩
    unfold maxLen at h4
    obtain ⟨n, hn⟩ : ∃ n, T.length = n := ⟨_, rfl⟩
    rw [hn] at h3 hT
    clear h h2 h5 h6
    rw [hn]
    have HN := Lib.hid hn
    clear hn
    go_enter Tryd.func49, Tryd.ntmps49
    go_wp2
    go_ret
    exact ⟨⟨_, rfl, _, by rw [HN.out]; rfl, HF.out⟩, rfl⟩

def EmR (g : Gr) (lo : Nat) (v : Value) (w : World) : Prop := ∃ eb es, v = .slice (some ⟨eb, 0, none⟩) g.rules.length g.rules.length ∧ g.IsEmpty es ∧ lo ≤ eb ∧ Owns w eb (es.map .bool) 4
def ReR (g : Gr) (lo : Nat) (v : Value) (w : World) : Prop :=
  ∃ B ob rb f es M, v = .slice (some ⟨rb, 0, none⟩) g.rules.length g.rules.length ∧ g.IsEmpty es ∧ IsReach (g.Once es) g.rules.length M ∧ Mat w B ob rb g.rules.length g.rules.length f (fun i => M.getD i []) ∧ lo ≤ rb
/-- what Check answers: all that is told, by the sets that nulls tells and by who names whom -/
def CheckIs (g : Gr) (W : World) (e : Ending) (W' : World) : Prop :=
  ∃ u es M N, e = .returned u ∧ g.IsEmpty es ∧ IsReach (g.Once es) g.rules.length M ∧ IsReach g.rd0 g.rules.length N ∧ ProbsAt W' u (g.told es (at2 M) (at2 N)) ∧ Below W.heap.size W W'

set_option maxHeartbeats 8000000 in
set_option maxRecDepth 20000 in
theorem check_ok (g : Gr) (hfew : g.Few) (W : World) (v0 v1 v2 v3 : Value) (hG : GrAt W W.heap.size (some v0) (some v1) (some v2) (some v3) g) :
    Calls Tryd.prog 29 #[.agg #[v0, v1, v2, v3]] W (CheckIs g W) := by
  have hG' := hG
  obtain ⟨q1, q2, q3, q4, q5, q6, ra, rc, q7, q8, q9⟩ := hG'
  obtain rfl := Option.some.inj q1
  obtain rfl := Option.some.inj q3
  obtain rfl := Option.some.inj q4
  obtain rfl := Option.some.inj q7
  clear q1 q3 q4 q5 q6 q7
  have hn := hfew.len
  have hg1 := grew_alloc W (.cells #[.string g.name, .int .i64 g.bound, .int .i64 g.states, .slice ra g.rules.length rc] 26)
  have ho1 := Owns.alloc W [.string g.name, .int .i64 g.bound, .int .i64 g.states, .slice ra g.rules.length rc] 26
  have b0 := ho1.cell_at (i := 0) rfl
  have b1 := ho1.cell_at (i := 1) rfl
  have b2 := ho1.cell_at (i := 2) rfl
  have b3 := ho1.cell_at (i := 3) rfl
  have bl := ho1.lt
  have HE := Lib.hid (fun u (h : GrAt u u.heap.size (some (.string g.name)) (some (.int .i64 g.bound)) (some (.int .i64 g.states)) (some (.slice ra g.rules.length rc)) g) => empty_ok g u _ _ _ _ h)
  have HRe := Lib.hid (fun u (h : GrAt u u.heap.size (some (.string g.name)) (some (.int .i64 g.bound)) (some (.int .i64 g.states)) (some (.slice ra g.rules.length rc)) g) => nreach_ok g u _ _ _ _ (by omega) h)
  have HG := Lib.hid hG
  have HG1 := Lib.hid hg1
  have HO1 := Lib.hid ho1
  have HQ9 := Lib.hid q9
  have HFEW := Lib.hid hfew
  clear hG hg1 ho1 q9 hfew
  unfold reachN at q8 q2
  go_enter Tryd.func29, Tryd.ntmps29
  go_wp2_with fail
  generalize W.alloc (.cells #[.string g.name, .int .i64 g.bound, .int .i64 g.states, .slice ra g.rules.length rc] 26) = w1 at *
  refine wp_region_hav_lit follows (by kernel_rfl) ?_
  repeat (first
    | (refine HavG.skip (fun _ => rfl) ?_; simp only [Act.put, List.setIfInBounds_toArray, List.set_cons_zero, List.set_cons_succ])
    | (refine HavG.val (fun _ => rfl) ?_ (fun x w hw _ => ?_) ?_; rotate_left; (focus (have hc := hw.cells; clear hw; go_simp; first | done | rfl)); simp only [Act.put, List.setIfInBounds_toArray, List.set_cons_zero, List.set_cons_succ]))
  refine HavG.any (fun _ => rfl) (EmR g w1.heap.size) ?_ (fun x w hw _ => ?_) ?_
  · rintro v w w' hg ⟨t, es, h1, h2, h3, h4⟩
    exact ⟨t, es, h1, h2, h3, h4.keep hg⟩
  · have HW := Lib.hid hw
    clear hw
    go_simp
    refine (HE.out _ ((HG.out.keep (HG1.out.trans HW.out)).mono (HG1.out.trans HW.out).size)).mono ?_
    rintro e w' ⟨eb, es, rfl, h1, h2, h3, h4⟩
    exact ⟨h4, eb, es, rfl, h1, Nat.le_trans HW.out.size h3, h2⟩
  simp only [Act.put, List.setIfInBounds_toArray, List.set_cons_zero, List.set_cons_succ]
  repeat (first
    | (refine HavG.skip (fun _ => rfl) ?_; simp only [Act.put, List.setIfInBounds_toArray, List.set_cons_zero, List.set_cons_succ])
    | (refine HavG.val (fun _ => rfl) ?_ (fun x w hw _ => ?_) ?_; rotate_left; (focus (have hc := hw.cells; clear hw; go_simp; first | done | rfl)); simp only [Act.put, List.setIfInBounds_toArray, List.set_cons_zero, List.set_cons_succ]))
  refine HavG.any (fun _ => rfl) (ReR g w1.heap.size) ?_ (fun x w hw _ => ?_) ?_
  · rintro v w w' hg ⟨B, ob, rb, f, es, M, h1, h2, h3, h4, h5⟩
    exact ⟨B, ob, rb, f, es, M, h1, h2, h3, h4.keep hg, h5⟩
  · have HW := Lib.hid hw
    clear hw
    go_simp
    refine (HRe.out _ ((HG.out.keep (HG1.out.trans HW.out)).mono (HG1.out.trans HW.out).size)).mono ?_
    rintro e w' ⟨B, ob, rb, f, es, M, rfl, h1, h2, h3, h4, h5, h6⟩
    exact ⟨h6, B, ob, rb, f, es, M, rfl, h1, h2, h3, Nat.le_trans HW.out.size h5⟩
  simp only [Act.put, List.setIfInBounds_toArray, List.set_cons_zero, List.set_cons_succ]
  refine HavG.tail (by kernel_rfl) (by kernel_rfl) (fun x w hw hx => ?_)
  have hx1 := hx _ (List.mem_append_left _ (List.mem_append_right _ (List.mem_singleton.2 rfl)))
  have hx2 := hx _ (List.mem_append_right _ (List.mem_singleton.2 rfl))
  clear hx
  dsimp only at hx1 hx2
  generalize x (0 + 1 + 1 + 1 + 1) = y2 at *
  generalize x (0 + 1 + 1) = y1 at *
  obtain ⟨eb, es, rfl, he1, he2, he3⟩ := hx1
  obtain ⟨B, ob, rb, f, es', M, rfl, hr1, hr2, hr3, hr4⟩ := hx2
  obtain rfl := he1.unique hr1
  have hWw : Grew W w := HG1.out.trans hw
  have hwz := hWw.size
  have hw1z := HG1.out.size
  have hwz1 := hw.size
  have hlt0 : W.heap.size < w.heap.size := by omega
  obtain ⟨c, hcd⟩ : ∃ c : ChkVals, c = ⟨.string g.name, .int .i64 g.bound, .int .i64 g.states, .slice ra g.rules.length rc, .slice (some ⟨eb, 0, none⟩) g.rules.length g.rules.length, .slice (some ⟨rb, 0, none⟩) g.rules.length g.rules.length, .slice none 0 0⟩ := ⟨_, rfl⟩
  have ho2 := Owns.alloc w [.string g.name, .int .i64 g.bound, .int .i64 g.states, .slice ra g.rules.length rc, .slice (some ⟨eb, 0, none⟩) g.rules.length g.rules.length, .slice (some ⟨rb, 0, none⟩) g.rules.length g.rules.length, .slice none 0 0, .slice none 0 0] 104
  have hg2 := grew_alloc w (.cells #[.string g.name, .int .i64 g.bound, .int .i64 g.states, .slice ra g.rules.length rc, .slice (some ⟨eb, 0, none⟩) g.rules.length g.rules.length, .slice (some ⟨rb, 0, none⟩) g.rules.length g.rules.length, .slice none 0 0, .slice none 0 0] 104)
  have HW := Lib.hid hw
  have HE3 := Lib.hid he3
  have HR3 := Lib.hid hr3
  have HO2 := Lib.hid ho2
  have HG2 := Lib.hid hg2
  have HWW := Lib.hid hWw
  clear hw he3 hr3 ho2 hg2 hWw
  go_wp2_with fail
  generalize w.alloc (.cells #[.string g.name, .int .i64 g.bound, .int .i64 g.states, .slice ra g.rules.length rc, .slice (some ⟨eb, 0, none⟩) g.rules.length g.rules.length, .slice (some ⟨rb, 0, none⟩) g.rules.length g.rules.length, .slice none 0 0, .slice none 0 0] 104) = w2 at *
  have hC2 : ChkAt w2 W.heap.size w.heap.size c [] := ⟨hwz, _, by rw [hcd]; exact HO2.out, rfl, .inl ⟨rfl, rfl⟩⟩
  have hG2 : GrAt w2 W.heap.size (some c.c0) (some c.c1) (some c.c2) (some c.c3) g := by
    rw [hcd]
    exact HG.out.keep (HWW.out.trans HG2.out)
  have hs2 := HG2.out.size
  have HRo := Lib.hid (rounds_ok g W.heap.size w.heap.size c [] w2 (by omega) hC2 hG2 (by omega))
  clear hC2 hG2
  refine HRo.out.mono ?_
  rintro e w3 ⟨⟨v9, rfl⟩, B2, rb2, f2, N, hC3, hm3, hN, hlo2, hU⟩
  have hs3 := hU.size
  have hcb2 := HO2.out.lt
  have hWw0 : Below W.heap.size W w := HWW.out
  have hWb : Below W.heap.size W w3 := (hWw0.trans (HG2.out.mono (by omega))).trans (hU.below (by omega) (show W.heap.size ≤ w2.heap.size by omega))
  have hM3 : ChkM w3 W.heap.size w.heap.size (c.withRound (.slice (some ⟨rb2, 0, none⟩) g.rules.length g.rules.length)) g es M N := by
    have hk : ∀ b cs T, Owns w b cs T → Owns w3 b cs T := fun b cs T ho => (ho.keep HG2.out).upd hU (by have := ho.lt; omega)
    rw [hcd]
    exact ⟨HG.out.keep hWb, ⟨eb, rfl, hk _ _ _ HE3.out⟩, he1.sound.1, ⟨B, rb, f, rfl, HR3.out.matR.of (fun b cs T _ ho => hk b cs T ho)⟩, ⟨B2, rb2, f2, rfl, hm3⟩⟩
  have hbx := ((HO1.out.keep HW.out).keep HG2.out).upd hU (by omega)
  generalize c.withRound (.slice (some ⟨rb2, 0, none⟩) g.rules.length g.rules.length) = c3 at *
  have HC3 := Lib.hid hC3
  have HM3 := Lib.hid hM3
  have HN := Lib.hid hN
  have HWB := Lib.hid hWb
  have HBX := Lib.hid hbx
  have HHE := Lib.hid he1
  have HHM := Lib.hid hr2
  have b3' := hbx.cell_at (i := 3) rfl
  clear hcd hm3 hU hC3 hM3 hN hWb hbx HE3 HR3 HO2 HG2 HW HG1 HO1 he1 hr1 hr2 b0 b1 b2 b3 bl x HRo
  go_wp2_with fail
  clear b3'
  go_loopw [17] (fun v wr => ∃ (j : Nat), v = .int .i64 j ∧ j ≤ g.rules.length ∧ Hid (ChkAt wr W.heap.size w.heap.size c3 (g.rulesTold es (at2 M) (at2 N) 0 (g.rules.take j))) ∧ Hid (Told W.heap.size w.heap.size w3 wr)) (fun v _ => g.rules.length - (intOf v).toNat)
  case atStart => exact ⟨0, rfl, by omega, by simpa [Gr.rulesTold, Hid] using HC3.out, Told.refl _ _ _⟩
  case round =>
    obtain ⟨j, rfl, hj, hC, hT⟩ := hrel
    have hszr := hT.out.low.size
    have hM := HM3.out.told hT.out HC3.out
    by_cases hlt : j < g.rules.length
    · have hle := HFEW.out.told es (at2 M) (at2 N) j (by omega)
      have ha := HFEW.out.all j hlt
      have HRu := Lib.hid (rule_ok g es HHE.out M N W.heap.size w.heap.size c3 _ wr (by omega) hC.out hM j hlt (by omega))
      clear hM hle ha
      go_wp2_with fail
      refine HRu.out.mono ?_
      rintro e w5 ⟨⟨v5, rfl⟩, hC5, hT5⟩
      have hC6 : Hid (ChkAt w5 W.heap.size w.heap.size c3 (g.rulesTold es (at2 M) (at2 N) 0 (g.rules.take (j + 1)))) := by
        unfold Hid
        rw [rulesTold_snoc g es (at2 M) (at2 N) g.rules 0 j hlt, Nat.zero_add]
        exact hC5
      have HT6 := Lib.hid (hT.out.trans hT5)
      clear hC5 hT5
      go_wp2_with fail
      exact ⟨⟨j + 1, by go_num, by omega, hC6, HT6.out⟩, by simp [intOf]; omega⟩
    · have hjn : j = g.rules.length := by omega
      subst hjn
      have hle := HFEW.out.told es (at2 M) (at2 N) g.rules.length (by omega)
      rw [List.take_length] at hC hle
      have hbw : Below W.heap.size W wr := HWB.out.trans hT.out.low
      have hbr := hT.out.owns HBX.out (by omega) (by decide)
      have c0 := hbr.cell_at (i := 0) rfl
      have c1 := hbr.cell_at (i := 1) rfl
      have c2 := hbr.cell_at (i := 2) rfl
      have c3' := hbr.cell_at (i := 3) rfl
      have HSt := Lib.hid (start_ok g wr (.string g.name) (.int .i64 g.bound) (.int .i64 g.states) (.slice ra g.rules.length rc) ((HG.out.keep hbw).mono hbw.size))
      have HBW := Lib.hid hbw
      generalize hTL : g.rulesTold es (at2 M) (at2 N) 0 g.rules = TL at *
      have HTL := Lib.hid hTL
      clear hM hbw hbr hTL
      go_wp2_with fail
      refine HSt.out.mono ?_
      rintro e w7 ⟨rfl, hg7⟩
      have hC7 := hC.out.grew hg7
      have hB7 := HBW.out.trans (hg7.mono (show W.heap.size ≤ wr.heap.size by omega))
      by_cases hst : g.start < 0
      · have HT := Lib.hid (tell_ok W.heap.size w.heap.size c3 TL w7 hC7 (by omega) 8 (-1) ⟨#[]⟩)
        have HB7 := Lib.hid hB7
        have HC7 := Lib.hid hC7
        clear hC7 hB7 hg7
        go_wp2_with fail
        refine HT.out.mono ?_
        rintro e w8 ⟨⟨v8, rfl⟩, hC8, hT8⟩
        obtain ⟨_, v, hco, hcr⟩ := hC8
        have lc := hco.lt
        have pc : w8.cell? ⟨w.heap.size, 7, none⟩ = some v := hco.cell_at (i := 7) rfl
        have HCl := Lib.hid (clip_ok w8 W.heap.size v _ (by simp; omega) hcr)
        have HT8 := Lib.hid (HB7.out.trans hT8.low)
        clear hco hcr hT8
        go_wp2_with fail
        refine HCl.out.mono ?_
        rintro e w9 ⟨⟨u, rfl, hP⟩, rfl⟩
        go_wp2_with fail
        go_ret
        refine ⟨u, es, M, N, rfl, HHE.out, HHM.out, HN.out, ?_, HT8.out⟩
        unfold Gr.told
        rw [if_pos hst, HTL.out]
        exact hP
      · have HB7 := Lib.hid hB7
        have hst' : decide (g.start < 0) = false := decide_eq_false hst
        obtain ⟨_, v, hco, hcr⟩ := hC7
        have lc := hco.lt
        have pc : w7.cell? ⟨w.heap.size, 7, none⟩ = some v := hco.cell_at (i := 7) rfl
        have HCl := Lib.hid (clip_ok w7 W.heap.size v _ (by omega) hcr)
        have HST := Lib.hid hst
        clear hco hcr hB7 hg7
        go_wp2_with fail
        refine HCl.out.mono ?_
        rintro e w9 ⟨⟨u, rfl, hP⟩, rfl⟩
        go_wp2_with fail
        go_ret
        refine ⟨u, es, M, N, rfl, HHE.out, HHM.out, HN.out, ?_, HB7.out⟩
        unfold Gr.told
        rw [if_neg (by have := HST.out; omega), HTL.out, List.append_nil]
        exact hP

/-- what Fine answers -/
def FineIs (g : Gr) (W : World) (e : Ending) (W' : World) : Prop :=
  ∃ es M N, e = .returned (.bool (g.told es (at2 M) (at2 N)).isEmpty) ∧ g.IsEmpty es ∧ IsReach (g.Once es) g.rules.length M ∧ IsReach g.rd0 g.rules.length N ∧ Below W.heap.size W W'

set_option maxRecDepth 20000 in
theorem cfine_ok (g : Gr) (hfew : g.Few) (W : World) (v0 v1 v2 v3 : Value) (hG : GrAt W W.heap.size (some v0) (some v1) (some v2) (some v3) g) :
    Calls Tryd.prog 15 #[.agg #[v0, v1, v2, v3]] W (FineIs g W) := by
  have hg1 := grew_alloc W (.cells #[v0, v1, v2, v3] 26)
  have HC := Lib.hid (check_ok g hfew _ v0 v1 v2 v3 ((hG.keep hg1).mono hg1.size))
  obtain ⟨q1, q2, q3, q4, q5, q6, ra, rc, q7, q8, q9⟩ := hG
  obtain rfl := Option.some.inj q1
  obtain rfl := Option.some.inj q3
  obtain rfl := Option.some.inj q4
  obtain rfl := Option.some.inj q7
  have HG1 := Lib.hid hg1
  clear hg1 q1 q2 q3 q4 q5 q6 q7 q8 q9 hfew
  go_enter Tryd.func15, Tryd.ntmps15
  go_wp2_with fail
  refine HC.out.mono ?_
  rintro e w ⟨u, es, M, N, rfl, h1, h2, h3, ⟨a, rfl, -⟩, h5⟩
  have HT : Hid (∀ T : List Prob, T.isEmpty = (T.length == 0)) := fun T => by cases T <;> rfl
  cases hT : (g.told es (at2 M) (at2 N)).length with
  | zero =>
    go_wp2_with fail
    go_ret
    exact ⟨es, M, N, ret_bool (by rw [HT.out, hT]; rfl), h1, h2, h3, HG1.out.trans h5⟩
  | succ k =>
    have hk : ((k : Int) + 1 == 0) = false := beq_eq_false_iff_ne.2 (by omega)
    go_wp2_with fail
    go_ret
    exact ⟨es, M, N, ret_bool (by rw [HT.out, hT]; first | rfl | simp [hk]), h1, h2, h3, HG1.out.trans h5⟩
end Go.Proofs.YtkinlcichclnkaaDoor

/- Build: the rules of tokens by their numbers; what is built, as a row. Plain. -/
namespace Go.Proofs.YtkinlcichclnkaaDoor

def Gr.bodyAt (g : Gr) (x : Int) : Nd := match g.rules[x.toNat]? with
  | some r => r.body
  | none => .mk 0 ⟨#[]⟩ ⟨#[]⟩ [] []
theorem Gr.isAt_tok {g : Gr} {j : Nat} (h : j < g.rules.length) : g.isAt [1, 3] j = tokR g.rules[j] := by
  rw [Gr.isAt_get h]
  unfold tokR
  simp
theorem Gr.of_toks (g : Gr) : ∀ j, j ≤ g.rules.length → (g.ofTo [1, 3] j).map g.bodyAt = ((g.rules.take j).filter tokR).map Rl.body
  | 0, _ => rfl
  | j + 1, h => by
    have hj : j < g.rules.length := by omega
    have ih := Gr.of_toks g j (by omega)
    have hb : g.bodyAt (j : Int) = g.rules[j].body := by
      unfold Gr.bodyAt
      rw [Int.toNat_natCast, List.getElem?_eq_getElem hj]
    rw [Gr.ofTo, Gr.isAt_tok hj, List.take_succ_eq_append_getElem hj, List.filter_append]
    by_cases e : tokR g.rules[j] = true
    · rw [if_pos e, List.map_append, List.map_append, ih, List.map_singleton, hb]
      simp [List.filter, e]
    · rw [if_neg e, ih]
      simp [List.filter, e]
theorem Gr.of_made (g : Gr) : g.made = rulesN g.lk 0 ((g.of [1, 3]).map g.bodyAt) 0 0 ⟨[], 65536, false⟩ := by
  unfold Gr.made Gr.of Gr.toks
  rw [Gr.of_toks g _ (Nat.le_refl _), List.take_length]
/-- the loop over the rules, from number j on -/
def Gr.from (g : Gr) (l : List Int) (j f s : Nat) (b : NB) : (Nat × Nat) × NB := rulesN g.lk j ((l.drop j).map g.bodyAt) f s b
theorem Gr.from_end (g : Gr) {l : List Int} {j f s : Nat} {b : NB} (h : l.length ≤ j) : g.from l j f s b = ((f, s), b) := by
  unfold Gr.from
  rw [List.drop_eq_nil_of_le h]
  rfl
theorem Gr.from_step (g : Gr) {l : List Int} {j f s : Nat} {b : NB} (h : j < l.length) {q : NPart × NB} (hq : nodeN g.lk j 65537 (g.bodyAt l[j]) b = q) : g.from l j f s b = g.from l (j + 1) (f ||| q.1.first) (s ||| q.1.last) q.2 := by
  unfold Gr.from
  rw [List.drop_eq_getElem_cons h, List.map_cons, rulesN, hq]
/-- a place's cells in the row -/
def plF (sv fl : Nat → Go.Value) (ls : Nat → Bool) (out : List NPl) (i : Nat) : List Go.Value := [sv i, .int .i64 ((out[i]?).elim 0 NPl.kind), .bool (ls i), fl i]
def plVs (sv fl : Nat → Go.Value) (ls : Nat → Bool) (out : List NPl) (n : Nat) : List Go.Value := (List.range n).flatMap (plF sv fl ls out)
theorem plF_len (sv fl : Nat → Go.Value) (ls : Nat → Bool) (out : List NPl) (i : Nat) : (plF sv fl ls out i).length = 4 := rfl
theorem total_sub' : ∀ {l : List Nd} {s : Nd}, s ∈ l → s.total ≤ Nd.totals l
  | x :: r, s, hs => by
    rw [Nd.totals]
    rcases List.mem_cons.1 hs with rfl | hs
    · omega
    · have := total_sub' hs; omega
theorem total_all : ∀ (n m : Nd), m ∈ n.all → m.total ≤ n.total := by
  refine Nd.ind ?_
  intro k nm tx set subs ih m hm
  rw [Nd.all] at hm
  rcases List.mem_cons.1 hm with rfl | hm
  · exact Nat.le_refl _
  · obtain ⟨s, hs, h⟩ := allL_mem.1 hm
    obtain ⟨i, hi, rfl⟩ := List.getElem_of_mem hs
    have h1 := ih i hi m h
    have h2 := total_sub' hs
    rw [Nd.total]
    omega
theorem totals_len : ∀ l : List Nd, l.length ≤ Nd.totals l
  | [] => Nat.zero_le _
  | .mk _ _ _ _ _ :: r => by have := totals_len r; rw [List.length_cons, Nd.totals, Nd.total]; omega
theorem total_own (m : Nd) : m.set.length ≤ m.total ∧ m.subs.length ≤ m.total ∧ m.text.size ≤ m.total := by
  obtain ⟨k, nm, tx, set, subs⟩ := m
  have := totals_len subs
  simp only [Nd.set, Nd.subs, Nd.text, Nd.total]
  omega
/-- what a grammar that is fine is known by -/
def Gr.Tidy (g : Gr) : Prop := ∃ es M N, g.told es (at2 M) (at2 N) = [] ∧ g.IsEmpty es ∧ IsReach (g.Once es) g.rules.length M ∧ IsReach g.rd0 g.rules.length N
/-- not too large -/
structure Gr.Slight (g : Gr) : Prop where
  few : g.rules.length ≤ 60
  tot : ∀ i (h : i < g.rules.length), g.rules[i].body.total ≤ 3000
theorem Gr.Fair.slight {g : Gr} (h : g.Fair) : g.Slight := ⟨Nat.le_trans h.len (by omega), fun i hi => (h.rule i hi).1⟩
theorem allL_total : ∀ (l : List Nd), (∀ s ∈ l, s.all.length ≤ s.total) → (Nd.allL l).length ≤ Nd.totals l
  | [], _ => by rw [Nd.allL, Nd.totals]; exact Nat.le_refl _
  | x :: r, ih => by
    rw [Nd.allL, Nd.totals, List.length_append]
    have := ih x (List.mem_cons_self ..)
    have := allL_total r fun s hs => ih s (List.mem_cons_of_mem _ hs)
    omega
theorem all_total : ∀ n : Nd, n.all.length ≤ n.total := by
  refine Nd.ind ?_
  intro k nm tx set subs ih
  rw [Nd.all, Nd.total, List.length_cons]
  have := allL_total subs fun s hs => by
    obtain ⟨i, hi, rfl⟩ := List.getElem_of_mem hs
    exact ih i hi
  omega
theorem Gr.Slight.few' {g : Gr} (h : g.Slight) : g.Few := ⟨h.few, fun i hi => by have := all_total g.rules[i].body; have := h.tot i hi; omega⟩
theorem Gr.Tidy.quiet {g : Gr} (h : g.Tidy) : ∃ es rch rnd, ∀ i (hi : i < g.rules.length), Quiet g es rch rnd i g.rules[i] := by
  obtain ⟨es, M, N, h, -⟩ := h
  refine ⟨es, at2 M, at2 N, fun i hi => ?_⟩
  unfold Gr.told at h
  have := rulesTold_at g.rules 0 (List.append_eq_nil_iff.1 h).1 i hi
  rw [Nat.zero_add] at this
  exact quiet_of this
theorem Gr.fit {g : Gr} (h : g.Tidy) (hs : g.Slight) : GrFit g := by
  obtain ⟨es, rch, rnd, hq⟩ := h.quiet
  refine ⟨by have := hs.few; omega, fun i hi => ?_⟩
  have ht : ∀ m ∈ g.rules[i].body.all, m.total ≤ 3000 := fun m hm => Nat.le_trans (total_all _ m hm) (hs.tot i hi)
  refine ⟨fun m hm => ?_, fun m hm => ?_, fun m hm => ?_, fun m hm hk => ?_⟩
  · have := (total_own m).1; have := ht m hm; omega
  · have := (total_own m).2.1; have := ht m hm; omega
  · have := (total_own m).2.2; have := ht m hm; omega
  · have h1 := (hq i hi).none_ m hm
    unfold Gr.noneBad at h1
    have hn : m.isName = true := by unfold Nd.isName; rw [hk]; rfl
    rw [hn, Bool.true_and] at h1
    have := of_decide_eq_false h1
    omega
theorem Gr.Tidy.names {g : Gr} (h : g.Tidy) : NamesB g.rules := by
  obtain ⟨es, rch, rnd, hq⟩ := h.quiet
  unfold NamesB
  rw [List.pairwise_iff_getElem]
  intro i j hi hj hij
  have h1 := (hq j hj).twice
  cases hs : sameB g.rules[i].name g.rules[j].name with
  | false => rfl
  | true =>
    exfalso
    unfold Gr.find at h1
    rcases ixOf_cases g.rules (fun r => sameB r.name g.rules[j].name) with ⟨h2, h3⟩ | ⟨k, hk, h2, h3, h4⟩
    · have := h3 i hi
      rw [hs] at this
      cases this
    · rw [h2] at h1
      have := h4 i hi (by omega)
      rw [hs] at this
      cases this
end Go.Proofs.YtkinlcichclnkaaDoor
