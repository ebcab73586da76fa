/- (*Takes).Walk: a walk by what rules take. -/
import Derived.Deep.CutBlock
import Derived.Deep.DeepCutAuto
import Derived.BigQuiet
import Derived.Test.YtgdcnndmdgcjlaaQ3
import Derived.Test.YtgdcnndmdgcjlaaQ7
import Derived.Test.YtgdcnndmdgcjlaaQ5
namespace Go.Proofs.Ytgdcnndmdgcjlaa
open Go.RowKit
theorem info_pbools : (Try.prog.info? 31).map (fun i => (i.zero, i.size, i.bytes)) = some (some (.slice none 0 0), 1, 24) := by kernel_rfl
structure WLaid (V : WEnv) (base tb : Nat) (n0 n1 n2 n3 n4 wv ev av : Value) (L : TkLoc) (W : World) : Prop where
  tk : TkAt W base tb n0 n1 n2 n3 n4 wv ev av V.N.starts.length V.N.starts.length V.n L V.E V.A
  net : RNetAt W W.heap.size n0 n1 n2 n3 n4 V.N
  toks : IntsV W W.heap.size wv V.w
  small : V.N.Small
  ok : V.N.Ok
  w7 : V.w.length ≤ 7
  e : ∀ r i j, V.E r i j = true → j ≤ V.n
  p0 : V.p0.1 < V.S ∧ V.p0.2 ≤ V.n
def WalkAt (V : WEnv) (W : World) (e : Ending) (W' : World) : Prop :=
  ∃ (v : Value) (f : Nat → Nat) (g : Nat → Nat → Bool) (all : Bool), e = .returned (.tuple #[v, .bool all]) ∧ Grid W' W.heap.size v V.S V.n f g ∧ (∀ s i, g s i = true ↔ V.wk (s, i)) ∧ (all = true ↔ V.wall) ∧ Grew W W'
set_option maxHeartbeats 4000000 in
set_option maxRecDepth 20000 in
theorem walk_ok (V : WEnv) (base tb : Nat) (n0 n1 n2 n3 n4 wv ev av : Value) (L : TkLoc) (W : World) (hX : WLaid V base tb n0 n1 n2 n3 n4 wv ev av L W) :
    Calls Try.prog 29 #[.pointer (some ⟨tb, 0, none⟩), .int .i64 V.p0.1, .int .i64 V.p0.2, .int .i64 V.over] W (WalkAt V W) := by
  obtain ⟨na, nc, hn0, hN0⟩ := hX.net.states
  obtain ⟨wa, wc, hwv, hWA⟩ := hX.toks
  have b0 := hX.tk.box.cell_at (i := 0) rfl
  have b5 := hX.tk.box.cell_at (i := 5) rfl
  have bl := hX.tk.box.lt
  have HX := Lib.hid hX
  obtain ⟨s0, hs0e⟩ : ∃ s0, V.p0.1 = s0 := ⟨_, rfl⟩
  obtain ⟨t0, ht0e⟩ : ∃ t0, V.p0.2 = t0 := ⟨_, rfl⟩
  have hs0 : s0 < V.S := hs0e ▸ hX.p0.1
  have ht0 : t0 ≤ V.n := ht0e ▸ hX.p0.2
  rw [hs0e, ht0e]
  have HS0 := Lib.hid hs0e
  have HT0 := Lib.hid ht0e
  have hS60 : V.N.states.length ≤ 60 := hX.small.states
  have hw7 := hX.w7
  obtain ⟨S, hS⟩ : ∃ S, V.N.states.length = S := ⟨_, rfl⟩
  obtain ⟨n, hn⟩ : ∃ n, V.w.length = n := ⟨_, rfl⟩
  have HSE := Lib.hid hS
  have HNE := Lib.hid hn
  have HST := Lib.hid hN0
  have HWA := Lib.hid hWA
  rw [hn0] at b0
  rw [hwv] at b5
  have HV0 := Lib.hid hn0
  have HWV := Lib.hid hwv
  rw [hS] at b0 hS60
  rw [hn] at b5 hw7
  unfold WEnv.S at hs0
  unfold WEnv.n at ht0
  rw [hS] at hs0
  rw [hn] at ht0
  clear hX hN0 hWA hn0 hwv hS hn hs0e ht0e
  have hadd : IntKind.i64.wrap ((n : Int) + 1) = (n : Int) + 1 := by rw [IntKind.wrap_i64]; omega
  have hmk : ∀ u : World, (Instr.makeSlice 31 (.int .i64 ((n : Int) + 1)) (.int .i64 ((n : Int) + 1))).run Try.prog u = .ok (.slice (some ⟨u.heap.size, 0, none⟩) (n + 1) (n + 1)) (u.alloc (.cells (List.replicate (n + 1) (.bool false)).toArray 4)) := make_pbools (n + 1) (by unfold reachN; omega)
  have HMK := Lib.hid hmk
  clear hmk
  go_enter Try.func29, Try.ntmps29
  go_wp2_with fail
  obtain ⟨i0, hi, hz0, hz1, hz2⟩ := info_parts info_pbools
  have HI := Lib.hid hi
  have HZ0 := Lib.hid hz0
  have HZ1 := Lib.hid hz1
  have HZ2 := Lib.hid hz2
  clear hi hz0 hz1 hz2
  go_loopw [11, 12] (fun v i wr => ∃ (j : Nat) (f : Nat → Nat), i = .int .i64 j ∧ j ≤ S ∧ Hid (Grid wr W.heap.size v j n f (fun _ _ => false)) ∧ Hid (Grew W wr)) (fun _ i _ => S - (intOf i).toNat)
  case atStart => exact ⟨0, fun _ => 0, rfl, by omega, Grid.nil _ _ _ _ _, Grew.refl _⟩
  case round =>
    obtain ⟨j, f, rfl, hj, hG, hg⟩ := hrel
    have k0 : wr.cell? ⟨tb, 0, none⟩ = some (.slice na S nc) := by rw [hg.out.cells _ _ bl]; exact b0
    have k5 : wr.cell? ⟨tb, 5, none⟩ = some (.slice wa n wc) := by rw [hg.out.cells _ _ bl]; exact b5
    have bl' : tb < wr.heap.size := Nat.lt_of_lt_of_le bl hg.out.size
    by_cases hlt : j < S
    · have hmk := HMK.out wr
      obtain ⟨w1, hw1⟩ : ∃ w1, wr.alloc (.cells (List.replicate (n + 1) (.bool false)).toArray 4) = w1 := ⟨_, rfl⟩
      have g1 : Grew wr w1 := hw1 ▸ grew_alloc wr _
      have o1 : Owns w1 wr.heap.size (List.replicate (n + 1) (.bool false)) 4 := hw1 ▸ Owns.alloc wr _ _
      rw [hw1] at hmk
      obtain ⟨w2, hw2⟩ : ∃ w2, w1.alloc (.cells #[.slice (some ⟨wr.heap.size, 0, none⟩) (n + 1) (n + 1)] 31) = w2 := ⟨_, rfl⟩
      have g2 : Grew w1 w2 := hw2 ▸ grew_alloc w1 _
      have o2 : Owns w2 w1.heap.size [.slice (some ⟨wr.heap.size, 0, none⟩) (n + 1) (n + 1)] 31 := hw2 ▸ Owns.alloc w1 _ _
      rw [bcells_false] at o1
      have hG2 := hG.out.keep (g1.trans g2)
      have HG2 := Lib.hid hG2
      have HROW := Lib.hid hG2.row
      have HNS := Lib.hid (one_news o2)
      have HO1 := Lib.hid (o1.keep g2)
      have HGG := Lib.hid ((hg.out.trans g1).trans g2)
      have H63 := Lib.hid (show j + 1 ≤ maxLen by unfold maxLen; omega)
      have H64 := Lib.hid (show (j + 1) * 24 ≤ 140737488355328 by omega)
      have HLIM := Lib.hid ((hg.out.trans g1).trans g2).size
      have HFN := Lib.hid (show ∀ s, s < j → f s ≠ wr.heap.size from fun s hs e => by have := (hG.out.cells s hs).lt; omega)
      have HB := Lib.hid (show W.heap.size ≤ wr.heap.size from hg.out.size)
      clear hG2 o1 o2 g1 g2 hG hg k5
      go_wp2_with (at_builtin; refine wpList_append_loose w2 rfl _ _ 77 rfl W.heap.size 31 i0 _ 1 24 Try.underlying77 HI.out HZ0.out HZ1.out HZ2.out rfl (by decide) u11 j (rcells j n f) rfl HROW.out ⟨w1.heap.size, 0, none⟩ 1 1 [.slice (some ⟨wr.heap.size, 0, none⟩) (n + 1) (n + 1)] rfl rfl HNS.out (fun u hu => by rw [List.mem_singleton.1 hu]; rfl) (by decide) H63.out H64.out HLIM.out _ rfl ?_; intro gb cap w3 hown hgrow hat hlt3; have HOWN := Lib.hid hown; have HGROW := Lib.hid hgrow; clear hown hgrow hat hlt3)
      have hG3 := HG2.out.next HGROW.out HOWN.out (owns_grown HO1.out HROW.out (by decide) HGROW.out) HB.out HFN.out
      exact ⟨⟨j + 1, _, by go_num, by omega, hG3.congr fun s hs i hi => by (split <;> rfl), grew_own HGG.out HROW.out HGROW.out⟩, by simp [intOf]; omega⟩
    · obtain rfl : S = j := by omega
      have hG1 := hG.out
      obtain ⟨vb, vc, rfl, hvl, hvr⟩ := hG1.at hs0
      have r0 := hvr s0 hs0
      have c0 := hG1.cell hs0 ht0
      have cf := (hG1.cells s0 hs0).free t0
      have cl := (hG1.cells s0 hs0).lt
      have hG2 := hG1.put (i := t0) hs0
      have HG2 := Lib.hid hG2
      have HGG := Lib.hid (grew_put hg.out (hG1.lo s0 hs0) t0 (.bool true))
      have ktb : ∀ o, (wr.setCell ⟨f s0, t0, none⟩ (.bool true)).cell? ⟨tb, o, none⟩ = W.cell? ⟨tb, o, none⟩ := fun o => (grew_put hg.out (hG1.lo s0 hs0) t0 (.bool true)).cells _ _ bl
      have k52 := (ktb 5).trans b5
      have bl2 : tb < (wr.setCell ⟨f s0, t0, none⟩ (.bool true)).heap.size := Nat.lt_of_lt_of_le bl (grew_put hg.out (hG1.lo s0 hs0) t0 (.bool true)).size
      obtain ⟨a0, ha0⟩ : ∃ a0 : Bool, ((t0 : Int) == (n : Int)) = a0 := ⟨_, rfl⟩
      have HA0 := Lib.hid ha0
      clear hG hg hG1 hG2 hvr HI HZ0 HZ1 HZ2 k5 ktb
      go_upto_region 8 with fail
      clear r0 c0 cf bl' hvl cl k0
      generalize wr.setCell ⟨f s0, t0, none⟩ (.bool true) = w2 at *
      go_wp2_with fail
      have hWS := WS.start V (a0 := a0) (by rw [HT0.out]; unfold WEnv.n; rw [HNE.out]; exact HA0.out)
      rw [HS0.out, HT0.out] at hWS
      have HWS := Lib.hid hWS
      have HW0 := Lib.hid (WSt.mk HG2.out HGG.out)
      clear hWS HG2 HGG k52 bl2 ha0
      generalize upd2 (fun _ _ => false) s0 t0 = g0 at *
      go_loopg [13, 14] (2 * cntF V.S V.n g0 + 1) (fun k x13 x14 wr => ∃ (g : Nat → Nat → Bool) (a c : Bool), x13 = .bool a ∧ x14 = .bool c ∧ Hid (WSt W wr (.slice (some ⟨vb, 0, none⟩) S vc) S n f g) ∧ Hid (WS V g a) ∧ Hid (c = false → ClTo V g a V.S 0 0) ∧ Hid (2 * cntF V.S V.n g + (if c = true then 1 else 0) = k))
      case atStart => exact ⟨g0, a0, true, rfl, rfl, HW0.out, HWS.out, fun h => by (cases h), rfl⟩
      case round =>
        clear HW0 HWS HA0
        obtain ⟨g1, a1, c1, rfl, rfl, hst1, hws1, hcl1, hk1⟩ := hrel
        cases c1
        · as_aux_lemma =>
          obtain ⟨wo, rfl⟩ : ∃ wo : World, wo = wr := ⟨_, rfl⟩
          have HF := Lib.hid (hws1.out.full HX.out.ok HX.out.e HX.out.p0 (hcl1.out rfl))
          clear hk1 hws1 hcl1
          go_wp2_with fail
          go_loopw [13, 21] (fun x13 x21 wr => ∃ (s : Nat) (b : Bool), x13 = .bool b ∧ x21 = .int .i64 s ∧ s ≤ S ∧ Hid (b = true ↔ (a1 = true ∨ ∃ s', s' < s ∧ g1 s' n = true)) ∧ Hid (Grew wo wr)) (fun _ i _ => S - (intOf i).toNat)
          case atStart => exact ⟨0, a1, rfl, rfl, by omega, ⟨fun h => .inl h, fun h => h.elim id fun ⟨s', h1, _⟩ => absurd h1 (by omega)⟩, Grew.refl _⟩
          case round =>
            obtain ⟨s, b, rfl, rfl, hs, hb, hg⟩ := hrel
            by_cases hsl : s < S
            · have hst := hst1.out.keep hg.out
              obtain ⟨vb2, vc2, hve, hvl, hvr⟩ := hst.gr.at hsl
              cases hve
              have r0 := hvr s hsl
              have cc := hst.gr.cell hsl (Nat.le_refl n)
              have cl := (hst.gr.cells s hsl).lt
              have k5 := (hst.low.cells _ 5 bl).trans b5
              have bl2 : tb < wr.heap.size := Nat.lt_of_lt_of_le bl hst.low.size
              clear hvr hst
              obtain ⟨y, hy⟩ : ∃ y, g1 s n = y := ⟨_, rfl⟩
              rw [hy] at cc
              have HY := Lib.hid hy
              clear hy
              have fin : Hid ((b || y) = true ↔ (a1 = true ∨ ∃ s', s' < s + 1 ∧ g1 s' n = true)) := Lib.hid (by
                rw [Bool.or_eq_true, hb.out]
                constructor
                · rintro ((h | ⟨s', h1, h2⟩) | h)
                  · exact .inl h
                  · exact .inr ⟨s', by omega, h2⟩
                  · exact .inr ⟨s, by omega, by rw [HY.out]; exact h⟩
                · rintro (h | ⟨s', h1, h2⟩)
                  · exact .inl (.inl h)
                  · by_cases e : s' = s
                    · subst e
                      rw [HY.out] at h2
                      exact .inr h2
                    · exact .inl (.inr ⟨s', by omega, h2⟩))
              cases b
              · go_wp2_with fail
                go_quiet (fail)
                have HQ := Lib.hid (show Grew wr (wr.drewN nq) from drewN_below wr nq)
                generalize wr.drewN nq = w2 at *
                go_wp2_with fail
                exact ⟨⟨s + 1, y, rfl, by go_num, by omega, fin.out, hg.out.trans HQ.out⟩, by simp [intOf]; omega⟩
              · go_wp2_with fail
                go_quiet (fail)
                have HQ := Lib.hid (show Grew wr (wr.drewN nq) from drewN_below wr nq)
                generalize wr.drewN nq = w2 at *
                go_wp2_with fail
                exact ⟨⟨s + 1, true, rfl, by go_num, by omega, fin.out, hg.out.trans HQ.out⟩, by simp [intOf]; omega⟩
            · obtain rfl : S = s := by omega
              go_wp2_with fail
              go_ret2
              have hst := hst1.out.keep hg.out
              have hVS : V.S = S := HSE.out
              have hVn : V.n = n := HNE.out
              refine ⟨_, f, g1, b, rfl, by rw [hVS, hVn]; exact hst.gr, HF.out.1, ?_, hst.low⟩
              rw [hb.out, ← HF.out.2, hVS, hVn]
        · have HK := Lib.hid (show 2 * cntF V.S V.n g1 + 1 = gk from hk1.out)
          obtain ⟨wo, rfl⟩ : ∃ wo : World, wo = wr := ⟨_, rfl⟩
          have HWR := Lib.hid (WR.begin hws1.out)
          clear hk1 hws1 hcl1
          go_wp2_with fail
          generalize cntF V.S V.n g1 = c0 at *
          go_loopw [13, 14, 15] (fun x13 x14 x15 wr => ∃ (s : Nat) (g : Nat → Nat → Bool) (a c : Bool), x13 = .bool a ∧ x14 = .bool c ∧ x15 = .int .i64 s ∧ s ≤ S ∧ Hid (WSt W wr (.slice (some ⟨vb, 0, none⟩) S vc) S n f g) ∧ Hid (WR V c0 g a c s 0 0)) (fun _ _ i _ => S - (intOf i).toNat)
          case atStart => exact ⟨0, g1, a1, false, rfl, rfl, rfl, by omega, hst1.out, HWR.out⟩
          case round =>
            clear hst1 HWR
            obtain ⟨s, g, a, c, rfl, rfl, rfl, hs, hst, hwr⟩ := hrel
            by_cases hsl : s < S
            · by_cases hov : (s : Int) = V.over
              · have q : ((s : Int) == V.over) = true := by simp [hov]
                have HOV := Lib.hid hov
                clear hov
                go_wp2_with fail
                exact ⟨⟨s + 1, g, a, c, rfl, rfl, by go_num, by omega, hst.out, hwr.out.over HOV.out⟩, by simp [intOf]; omega⟩
              · have q : ((s : Int) == V.over) = false := by simp [hov]
                have HOV := Lib.hid hov
                have hsl' : s < V.N.states.length := by rw [HSE.out]; exact hsl
                obtain ⟨sb, soff, rfl, hsb, hstt⟩ := HST.out s hsl'
                obtain ⟨-, ⟨ea, ec, he1, hE⟩, -⟩ := hstt
                have hEN : V.N.edges s = V.N.states[s].edges := by unfold Net.edges; rw [List.getElem?_eq_getElem hsl']; rfl
                rw [← hEN] at he1 hE
                have hm4 : (V.N.edges s).length ≤ 4000 := by rw [hEN]; exact HX.out.small.edges _ (List.getElem_mem hsl')
                obtain ⟨m, hm⟩ : ∃ m, (V.N.edges s).length = m := ⟨_, rfl⟩
                have HM := Lib.hid hm
                have HEE := Lib.hid hE
                rw [hm] at he1 hm4
                have bs : ∀ w, Grew W w → w.cell? ⟨tb, 0, none⟩ = some (.slice (some ⟨sb, soff, none⟩) S nc) ∧ w.cell? ⟨sb, soff + s * 3 + 1, none⟩ = some (.slice ea m ec) := fun w hg => ⟨(hg.cells _ _ bl).trans b0, (hg.cells _ _ hsb).trans he1⟩
                have BS := Lib.hid bs
                clear hov hm hE hEN bs he1 hsl'
                as_aux_lemma =>
                obtain ⟨wo, rfl⟩ : ∃ wo : World, wo = wr := ⟨_, rfl⟩
                go_wp2_with fail
                go_loopw [13, 14, 16] (fun x13 x14 x16 wr => ∃ (k : Nat) (g : Nat → Nat → Bool) (a c : Bool), x13 = .bool a ∧ x14 = .bool c ∧ x16 = .int .i64 k ∧ k ≤ m ∧ Hid (WSt W wr (.slice (some ⟨vb, 0, none⟩) S vc) S n f g) ∧ Hid (WR V c0 g a c s k 0)) (fun _ _ i _ => m - (intOf i).toNat)
                case atStart => exact ⟨0, g, a, c, rfl, rfl, rfl, by omega, hst.out, hwr.out⟩
                case round =>
                  clear hst hwr
                  obtain ⟨k, g, a, c, rfl, rfl, rfl, hk, hst, hwr⟩ := hrel
                  obtain ⟨k0, k1⟩ := BS.out wr hst.out.low
                  have bl2 : tb < wr.heap.size := Nat.lt_of_lt_of_le bl hst.out.low.size
                  have sl2 : sb < wr.heap.size := Nat.lt_of_lt_of_le hsb hst.out.low.size
                  by_cases hkm : k < m
                  · have hkl : k < (V.N.edges s).length := by rw [HM.out]; exact hkm
                    obtain ⟨eb, eoff, rfl, heb, q0, q1, q2⟩ := HEE.out k hkl
                    have hOk := HX.out.ok.edge s _ (List.getElem_mem hkl)
                    have hat : (V.N.edges s)[k]? = some (V.N.edges s)[k] := List.getElem?_eq_getElem hkl
                    have hmem : (V.N.edges s)[k] ∈ V.N.edges s := List.getElem_mem hkl
                    generalize (V.N.edges s)[k] = ed at *
                    obtain ⟨kd, wh, tt⟩ := ed
                    simp only at q0 q1 q2 hOk
                    have HED := Lib.hid hat
                    have HEM := Lib.hid hmem
                    have HOK := Lib.hid hOk
                    obtain ⟨t, rfl⟩ : ∃ t : Nat, tt = t := ⟨tt.toNat, by have := hOk.1.1; omega⟩
                    have htS : t < S := by have := hOk.1.2; rw [HSE.out] at this; simpa using this
                    have hel : eb < wr.heap.size := Nat.lt_of_lt_of_le heb hst.out.low.size
                    have q0' := (hst.out.low.cells _ (eoff + k * 3) heb).trans q0
                    have q1' := (hst.out.low.cells _ (eoff + k * 3 + 1) heb).trans q1
                    have q2' := (hst.out.low.cells _ (eoff + k * 3 + 2) heb).trans q2
                    obtain ⟨w1, hw1⟩ : ∃ w1, wr.alloc (.cells #[.int .i64 kd, .int .i64 wh, .int .i64 t] 89) = w1 := ⟨_, rfl⟩
                    have g1 : Grew wr w1 := hw1 ▸ grew_alloc wr _
                    have o1 : Owns w1 wr.heap.size [.int .i64 kd, .int .i64 wh, .int .i64 t] 89 := hw1 ▸ Owns.alloc wr _ _
                    have HST1 := Lib.hid (hst.out.keep g1)
                    have HO1 := Lib.hid o1
                    have hxl : W.heap.size ≤ wr.heap.size := hst.out.low.size
                    clear hat hmem hOk hkl q0 q1 q2 g1 o1 hst
                    obtain ⟨xb, hxb⟩ : ∃ xb, xb = wr.heap.size := ⟨_, rfl⟩
                    rw [← hxb] at HO1 hxl
                    go_wp2_with fail
                    rw [← hxb]
                    clear hw1 hel q0' q1' q2' k0 k1 bl2 sl2 hxb
                    as_aux_lemma =>
                    go_loopw [13, 14, 18] (fun x13 x14 x18 wr => ∃ (i : Nat) (g : Nat → Nat → Bool) (a c : Bool), x13 = .bool a ∧ x14 = .bool c ∧ x18 = .int .i64 i ∧ i ≤ n + 1 ∧ Hid (WSt W wr (.slice (some ⟨vb, 0, none⟩) S vc) S n f g) ∧ Hid (WR V c0 g a c s k i) ∧ Hid (Owns wr xb [.int .i64 kd, .int .i64 wh, .int .i64 t] 89)) (fun _ _ i _ => n + 1 - (intOf i).toNat)
                    case atStart => exact ⟨0, g, a, c, rfl, rfl, rfl, by omega, HST1.out, hwr.out, HO1.out⟩
                    case round =>
                      clear hwr HST1 HO1
                      obtain ⟨i, g, a, c, rfl, rfl, rfl, hi, hst, hwr, ho⟩ := hrel
                      by_cases hin : i < n + 1
                      · have hii : (i : Int) < (n : Int) + 1 := by omega
                        obtain ⟨vb2, vc2, hve, hvl, hvr⟩ := hst.out.gr.at hsl
                        cases hve
                        have r0 := hvr s hsl
                        have c0' := hst.out.gr.cell hsl (show i ≤ n by omega)
                        have cl := (hst.out.gr.cells s hsl).lt
                        clear hvr
                        cases hgi : g s i
                        · rw [hgi] at c0'
                          have HG := Lib.hid hgi
                          clear hgi
                          go_wp2_with fail
                          exact ⟨⟨i + 1, g, a, c, rfl, rfl, by go_num, by omega, hst.out, hwr.out.none HED.out HG.out, ho.out⟩, by simp [intOf]; omega⟩
                        · rw [hgi] at c0'
                          have HG := Lib.hid hgi
                          clear hgi
                          have x0 := ho.out.cell_at (i := 0) rfl
                          have xl := ho.out.lt
                          obtain ⟨wo, rfl⟩ : ∃ wo : World, wo = wr := ⟨_, rfl⟩
                          go_upto_block 10 with fail
                          clear r0 c0' cl x0 hvl
                          go_cut [19, 13] (fun s19 s13 wx => ∃ (nx : Nat → Bool) (nb : Nat) (b : Bool), s19 = .slice (some ⟨nb, 0, none⟩) (n + 1) (n + 1) ∧ s13 = .bool b ∧ Hid (Owns wx nb (bcells n nx) 4) ∧ Hid (∀ s, s < S → f s ≠ nb) ∧ Hid (WSt W wx (.slice (some ⟨vb, 0, none⟩) S vc) S n f g) ∧ Hid (Owns wx xb [.int .i64 kd, .int .i64 wh, .int .i64 t] 89) ∧ Hid (WJ V c0 nx t g b c s k i 0) ∧ Hid (NxOk V ⟨kd, wh, t⟩ i nx b))
                          case first =>
                            have hlo := hst.out.low
                            have HLO := Lib.hid hlo
                            have HWK := Lib.hid (hwr.out.ws.snd s i HG.out)
                            have bl2 : tb < wo.heap.size := Nat.lt_of_lt_of_le bl hlo.size
                            obtain ⟨w1, hw1⟩ : ∃ w1, wo.alloc (.cells (List.replicate (n + 1) (.bool false)).toArray 4) = w1 := ⟨_, rfl⟩
                            have g1 : Grew wo w1 := hw1 ▸ grew_alloc wo _
                            have o1 : Owns w1 wo.heap.size (List.replicate (n + 1) (.bool false)) 4 := hw1 ▸ Owns.alloc wo _ _
                            rw [bcells_false] at o1
                            have hmk := HMK.out wo
                            rw [hw1] at hmk
                            obtain ⟨nb, hnb⟩ : ∃ nb, nb = wo.heap.size := ⟨_, rfl⟩
                            rw [← hnb] at o1 hmk
                            have hnf : ∀ s, s < S → f s ≠ nb := fun s hs e => by have := (hst.out.gr.cells s hs).lt; omega
                            have hxn : nb ≠ xb := fun e => by have := ho.out.lt; omega
                            have hnW : W.heap.size ≤ nb := by rw [hnb]; exact hlo.size
                            have HNF := Lib.hid hnf
                            have HXN := Lib.hid hxn
                            have HNW := Lib.hid hnW
                            have HO1 := Lib.hid o1
                            have HG1 := Lib.hid g1
                            have bl1 : tb < w1.heap.size := Nat.lt_of_lt_of_le bl (hlo.trans g1).size
                            have nl1 := o1.lt
                            have k5 := ((hlo.trans g1).cells _ 5 bl).trans b5
                            clear hw1 hlo hnf hxn hnW hnb o1 g1
                            by_cases h1 : kd = 1
                            · subst h1
                              as_aux_lemma =>
                              by_cases hin2 : i < n
                              · obtain ⟨wb, woff, rfl, hwb, hwc⟩ := HWA.out i (by rw [HNE.out]; exact hin2)
                                have hwi : V.w[i]? = some (V.w[i]'(by rw [HNE.out]; exact hin2)) := List.getElem?_eq_getElem _
                                generalize V.w[i]'(by rw [HNE.out]; exact hin2) = wi at *
                                have HWI := Lib.hid hwi
                                have z1 := ((HLO.out.trans HG1.out).cells _ (woff + i) hwb).trans hwc
                                have wl1 : wb < w1.heap.size := Nat.lt_of_lt_of_le hwb (HLO.out.trans HG1.out).size
                                have x1 := (ho.out.keep HG1.out).cell_at (i := 1) rfl
                                have xl1 := (ho.out.keep HG1.out).lt
                                have hii2 : (i : Int) < (n : Int) := by omega
                                clear hwi hwc
                                by_cases hwe : wi = wh
                                · subst hwe
                                  go_wp2_with fail
                                  go_quiet (fail)
                                  have hq := drewN_below w1 nq
                                  have HQ := Lib.hid hq
                                  have hnl := (HO1.out.keep hq).lt
                                  have hn0 := (HO1.out.keep hq).cell_at (bcells_at _ (show i + 1 ≤ n by omega))
                                  have hnfz := (HO1.out.keep hq).free (i + 1)
                                  have hw : IntKind.i64.wrap ((i : Int) + 1) = ((i + 1 : Nat) : Int) := by rw [IntKind.wrap_i64]; omega
                                  clear hq
                                  generalize w1.drewN nq = w2 at *
                                  go_wp2_with fail
                                  go_meet
                                  have hg2 := HG1.out.trans HQ.out
                                  have ho2 := HO1.out.keep HQ.out
                                  have ho3 := ho2.set (i + 1) (.bool true)
                                  rw [bcells_set] at ho3
                                  refine ⟨_, nb, a, rfl, rfl, ho3, HNF.out, (hst.out.keep hg2).other ho2 HNW.out HNF.out, (ho.out.keep hg2).other (a := ⟨nb, i + 1, none⟩) (by exact HXN.out) _, hwr.out.inner HG.out (fun j hj hx => ?_), ⟨fun h => absurd h (by simp), fun _ _ => by simp, fun _ h => absurd rfl h⟩⟩
                                  have hji : j = i + 1 := by
                                    by_cases e : j = i + 1
                                    · exact e
                                    · simp [e] at hx
                                  subst hji
                                  exact Wk.tok HWK.out HOV.out HEM.out rfl HWI.out
                                · have hwe' : (wi == wh) = false := by simp [hwe]
                                  have HWE := Lib.hid hwe
                                  clear hwe
                                  go_wp2_with fail
                                  go_quiet (fail)
                                  have HQ := Lib.hid (drewN_below w1 nq)
                                  generalize w1.drewN nq = w2 at *
                                  go_wp2_with fail
                                  go_meet
                                  have hg2 := HG1.out.trans HQ.out
                                  refine ⟨_, nb, a, rfl, rfl, HO1.out.keep HQ.out, HNF.out, hst.out.keep hg2, ho.out.keep hg2, hwr.out.inner HG.out (fun j hj hx => by cases hx), ⟨fun h => absurd h (by simp), fun _ h => ?_, fun _ h => absurd rfl h⟩⟩
                                  rw [HWI.out] at h
                                  exact absurd (Option.some.inj h) HWE.out
                              · have hii2 : ¬ ((i : Int) < (n : Int)) := by omega
                                go_wp2_with fail
                                go_quiet (fail)
                                have HQ := Lib.hid (drewN_below w1 nq)
                                generalize w1.drewN nq = w2 at *
                                go_wp2_with fail
                                go_meet
                                have hg2 := HG1.out.trans HQ.out
                                refine ⟨_, nb, a, rfl, rfl, HO1.out.keep HQ.out, HNF.out, hst.out.keep hg2, ho.out.keep hg2, hwr.out.inner HG.out (fun j hj hx => by cases hx), ⟨fun h => absurd h (by simp), fun _ h => ?_, fun _ h => absurd rfl h⟩⟩
                                have := (List.getElem?_eq_some_iff.1 h).1
                                rw [HNE.out] at this
                                omega
                            · by_cases h2 : kd = 2
                              · subst h2
                                as_aux_lemma =>
                                clear hmk HNF HXN HNW HO1 HG1 bl1 nl1 k5
                                have hwh := HOK.out
                                obtain ⟨r, rfl⟩ : ∃ r : Nat, wh = r := ⟨wh.toNat, by have := hwh.2.1; omega⟩
                                have hr : r < V.N.starts.length := by have := hwh.2.2 rfl; simpa using this
                                obtain ⟨eb1, ecap, eb2, ecap2, hev, heb1, hec, heb2, hex⟩ := HX.out.tk.ends_at hr
                                obtain ⟨ab, acap, hav, hab, hax⟩ := HX.out.tk.a.at hr
                                have hixn : i ≤ V.n := by unfold WEnv.n; rw [HNE.out]; omega
                                have u6 := HX.out.tk.box.cell_at (i := 6) rfl
                                have u7 := HX.out.tk.box.cell_at (i := 7) rfl
                                rw [hev] at u6
                                rw [hav] at u7
                                have hxo := (HX.out.tk.l r hr).cells i (by omega)
                                have hao := HX.out.tk.a.cells r hr
                                have hal := hao.lt
                                have hac := hao.cell_at (bcells_at (V.A r) hixn)
                                have hxi := hex i hixn
                                have hxr := hax r hr
                                have hVn : V.n = n := HNE.out
                                rw [hVn] at hxi hxr hxo hec hixn
                                obtain ⟨R, hR⟩ : ∃ R, V.N.starts.length = R := ⟨_, rfl⟩
                                rw [hR] at u6 u7 hr
                                have z6 := (HLO.out.cells _ 6 bl).trans u6
                                have z1 := (HLO.out.cells _ r heb1).trans hec
                                have z2 := (HLO.out.cells _ i heb2).trans hxi
                                have l1 : eb1 < wo.heap.size := Nat.lt_of_lt_of_le heb1 HLO.out.size
                                have l2 : eb2 < wo.heap.size := Nat.lt_of_lt_of_le heb2 HLO.out.size
                                have x1 := ho.out.cell_at (i := 1) rfl
                                have xl1 := ho.out.lt
                                have HXO := Lib.hid hxo
                                have HVN := Lib.hid hVn
                                have hri : (r : Int) < (R : Int) := by omega
                                clear hwh hev hec heb1 heb2 hex hav hax hxo hao hxi hVn hR u6
                                go_wp2_with fail
                                go_quiet (fail)
                                have HQ := Lib.hid (HLO.out.trans (drewN_below wo nq))
                                have HQ1 := Lib.hid (show Grew wo (wo.drewN nq) from drewN_below wo nq)
                                have z7 := (HQ.out.cells _ 7 bl).trans u7
                                have z8 := (HQ.out.cells _ r hab).trans hxr
                                have z9 := (HQ.out.cells _ i hal).trans hac
                                have bl3 : tb < (wo.drewN nq).heap.size := Nat.lt_of_lt_of_le bl HQ.out.size
                                have l3 : ab < (wo.drewN nq).heap.size := Nat.lt_of_lt_of_le hab HQ.out.size
                                have l4 : L.af r < (wo.drewN nq).heap.size := Nat.lt_of_lt_of_le hal HQ.out.size
                                have y1 := (ho.out.keep HQ1.out).cell_at (i := 1) rfl
                                have yl1 := (ho.out.keep HQ1.out).lt
                                clear z6 z1 z2 l1 l2 x1 xl1 u7 hxr hac hab hal bl2
                                generalize wo.drewN nq = w2 at *
                                obtain ⟨ba, hba⟩ : ∃ ba, V.A r i = ba := ⟨_, rfl⟩
                                rw [hba] at z9
                                have HBA := Lib.hid hba
                                clear hba
                                have fin : ∀ w3, Grew w2 w3 → ∃ (nx : Nat → Bool) (nb : Nat) (b : Bool), Value.slice (some ⟨L.xf r i, 0, none⟩) (n + 1) (n + 1) = .slice (some ⟨nb, 0, none⟩) (n + 1) (n + 1) ∧ Value.bool (a || ba) = .bool b ∧ Hid (Owns w3 nb (bcells n nx) 4) ∧ Hid (∀ s, s < S → f s ≠ nb) ∧ Hid (WSt W w3 (.slice (some ⟨vb, 0, none⟩) S vc) S n f g) ∧ Hid (Owns w3 xb [.int .i64 2, .int .i64 r, .int .i64 t] 89) ∧ Hid (WJ V c0 nx t g b c s k i 0) ∧ Hid (NxOk V ⟨2, r, t⟩ i nx b) := by
                                  intro w3 hg3
                                  have ht := hwr.out.told HEM.out rfl HG.out HOV.out
                                  simp only [Int.toNat_natCast] at ht
                                  rw [HBA.out] at ht
                                  refine ⟨V.E r i, L.xf r i, a || ba, rfl, rfl, HXO.out.keep (HQ.out.trans hg3), fun s hs e => ?_, hst.out.keep (HQ1.out.trans hg3), ho.out.keep (HQ1.out.trans hg3), ht.inner HG.out (fun j hj hx => ?_), ⟨fun _ => ⟨fun j hj hx => hx, fun hx => ?_⟩, fun h => absurd h (by simp), fun h => absurd rfl h⟩⟩
                                  · have h1 := hst.out.gr.lo s hs
                                    have h2 := HXO.out.lt
                                    omega
                                  · exact Wk.rule (e := ⟨2, r, t⟩) HWK.out HOV.out HEM.out rfl hx
                                  · simp only [Int.toNat_natCast] at hx
                                    rw [HBA.out] at hx
                                    rw [hx]
                                    simp
                                have FIN := Lib.hid fin
                                clear fin
                                cases a
                                · go_wp2_with fail
                                  go_quiet (fail)
                                  have HQ3 := Lib.hid (drewN_below w2 nq)
                                  generalize w2.drewN nq = w3 at *
                                  go_wp2_with fail
                                  go_meet
                                  exact FIN.out w3 HQ3.out
                                · go_wp2_with fail
                                  go_quiet (fail)
                                  have HQ3 := Lib.hid (drewN_below w2 nq)
                                  generalize w2.drewN nq = w3 at *
                                  go_wp2_with fail
                                  go_meet
                                  exact FIN.out w3 HQ3.out
                              · have e1 : (kd == 1) = false := by simp [h1]
                                have e2 : (kd == 2) = false := by simp [h2]
                                have HK1 := Lib.hid h1
                                have HK2 := Lib.hid h2
                                clear h1 h2
                                as_aux_lemma =>
                                have hn0 := HO1.out.cell_at (bcells_at _ (show i ≤ n by omega))
                                have hnfz := HO1.out.free i
                                go_wp2_with fail
                                go_meet
                                have ho3 := HO1.out.set i (.bool true)
                                rw [bcells_set] at ho3
                                refine ⟨_, nb, a, rfl, rfl, ho3, HNF.out, (hst.out.keep HG1.out).other HO1.out HNW.out HNF.out, (ho.out.keep HG1.out).other (a := ⟨nb, i, none⟩) (by exact HXN.out) _, hwr.out.inner HG.out (fun j hj hx => ?_), ⟨fun h => absurd h HK2.out, fun h => absurd h HK1.out, fun _ _ _ => by simp⟩⟩
                                have hji : j = i := by
                                  by_cases e : j = i
                                  · exact e
                                  · simp [e] at hx
                                subst hji
                                exact Wk.eps HWK.out HOV.out HEM.out HK2.out HK1.out
                          case rest =>
                            as_aux_lemma =>
                            obtain ⟨nx, nb, b, rfl, rfl, hno, hnf, hst, ho, hwj, hnk⟩ := hcut
                            go_wp2_with fail
                            go_loopw [14, 20] (fun x14 x20 wr => ∃ (j : Nat) (g : Nat → Nat → Bool) (c : Bool), x14 = .bool c ∧ x20 = .int .i64 j ∧ j ≤ n + 1 ∧ Hid (Owns wr nb (bcells n nx) 4) ∧ Hid (WSt W wr (.slice (some ⟨vb, 0, none⟩) S vc) S n f g) ∧ Hid (Owns wr xb [.int .i64 kd, .int .i64 wh, .int .i64 t] 89) ∧ Hid (WJ V c0 nx t g b c s k i j)) (fun _ i _ => n + 1 - (intOf i).toNat)
                            case atStart => exact ⟨0, g, c, rfl, rfl, by omega, hno.out, hst.out, ho.out, hwj.out⟩
                            case round =>
                              clear hno hst ho hwj
                              obtain ⟨j, g, c, rfl, rfl, hj, hno, hst, ho, hwj⟩ := hrel
                              by_cases hjn : j < n + 1
                              · have hji : (j : Int) < (n : Int) + 1 := by omega
                                have y0 := hno.out.cell_at (bcells_at nx (show j ≤ n by omega))
                                have yl := hno.out.lt
                                obtain ⟨vb2, vc2, hve, hvl, hvr⟩ := hst.out.gr.at hsl
                                cases hve
                                have r0 := hvr t htS
                                have c0' := hst.out.gr.cell htS (show j ≤ n by omega)
                                have cl := (hst.out.gr.cells t htS).lt
                                have cf := (hst.out.gr.cells t htS).free j
                                have x2 := ho.out.cell_at (i := 2) rfl
                                have xl := ho.out.lt
                                clear hvr
                                cases hnx : nx j
                                · rw [hnx] at y0
                                  have HX1 := Lib.hid hnx
                                  clear hnx
                                  go_wp2_with fail
                                  exact ⟨⟨j + 1, g, c, rfl, by go_num, by omega, hno.out, hst.out, ho.out, hwj.out.skip HX1.out⟩, by simp [intOf]; omega⟩
                                · rw [hnx] at y0
                                  have HX1 := Lib.hid hnx
                                  clear hnx
                                  cases hgt : g t j
                                  · rw [hgt] at c0'
                                    have HG1 := Lib.hid hgt
                                    clear hgt
                                    go_wp2_with fail
                                    exact ⟨⟨j + 1, _, true, rfl, by go_num, by omega, hno.out.other (a := ⟨f t, j, none⟩) (by exact hnf.out t htS) _, hst.out.put htS j, ho.out.other (a := ⟨f t, j, none⟩) (by exact owns_ne (hst.out.gr.cells t htS) ho.out (by decide)) _, hwj.out.new (by unfold WEnv.S; rw [HSE.out]; exact htS) (by unfold WEnv.n; rw [HNE.out]; omega) HX1.out HG1.out⟩, by simp [intOf]; omega⟩
                                  · rw [hgt] at c0'
                                    have HG1 := Lib.hid hgt
                                    clear hgt
                                    go_wp2_with fail
                                    exact ⟨⟨j + 1, g, c, rfl, by go_num, by omega, hno.out, hst.out, ho.out, hwj.out.there HG1.out⟩, by simp [intOf]; omega⟩
                              · have hji : ¬ ((j : Int) < (n : Int) + 1) := by omega
                                obtain rfl : j = n + 1 := by omega
                                go_wp2_with fail
                                have hwj2 : WJ V c0 nx t g b c s k i (V.n + 1) := by unfold WEnv.n; rw [HNE.out]; exact hwj.out
                                have hnk2 := hnk.out
                                exact ⟨⟨i + 1, g, b, c, rfl, rfl, by go_num, by omega, hst.out, hwj2.place HED.out (by simp) hnk2.1 hnk2.2.1 hnk2.2.2 (by unfold WEnv.n; rw [HNE.out]; omega), ho.out⟩, by simp [intOf]; omega⟩
                      · have hii : ¬ ((i : Int) < (n : Int) + 1) := by omega
                        obtain rfl : i = n + 1 := by omega
                        go_wp2_with fail
                        have hwr2 : WR V c0 g a c s k (V.n + 1) := by unfold WEnv.n; rw [HNE.out]; exact hwr.out
                        exact ⟨⟨k + 1, g, a, c, rfl, rfl, by go_num, by omega, hst.out, hwr2.edge⟩, by simp [intOf]; omega⟩
                  · obtain rfl : m = k := by omega
                    go_wp2_with fail
                    have hwr2 := hwr.out
                    rw [← HM.out] at hwr2
                    exact ⟨⟨s + 1, g, a, c, rfl, rfl, by go_num, by omega, hst.out, hwr2.state⟩, by simp [intOf]; omega⟩
            · obtain rfl : S = s := by omega
              go_wp2_with fail
              go_roundg (2 * cntF V.S V.n g + (if c = true then 1 else 0))
              case measure =>
                have h1 := hwr.out.le
                have h2 := hwr.out.lt
                have h3 := HK.out
                cases c
                · simp; omega
                · have := h2 rfl
                  simp; omega
              case rel =>
                refine ⟨g, a, c, rfl, rfl, hst.out, hwr.out.ws, fun hc => ?_, rfl⟩
                have := hwr.out.cl hc
                rw [← HSE.out] at this
                exact this
end Go.Proofs.Ytgdcnndmdgcjlaa
