/- paths.began, paths.from: all that is reached from a state on. -/
import Derived.Test.YtgdcnndmdgcjlaaPFromA
namespace Go.Proofs.Ytgdcnndmdgcjlaa
open Go.RowKit

set_option maxRecDepth 20000 in
theorem began_ok (E : Env) (W : World) (hl : E.lim ≤ W.heap.size) (hB : Laid E W) : Calls Try.prog 24 #[.agg #[E.n0, E.n1, E.n2, E.n3, E.n4], E.wv] W fun e W' => ∃ sb cm, e = .returned (ptrV sb) ∧ Began E W' sb cm ∧ Grew W W' ∧ W.heap.size ≤ sb := by
  have hmk : ∀ (t : TypeId) (w : World), (Instr.makeMap t none).run Try.prog w = .ok (.map (some w.heap.size)) (w.alloc (.map #[] 0)) := fun _ _ => rfl
  obtain ⟨a0, k0, e0, _⟩ := hB.net.states
  obtain ⟨a1, k1, e1, _⟩ := hB.net.starts
  obtain ⟨a2, k2, e2, _⟩ := hB.net.stops
  obtain ⟨a3, k3, e3, _⟩ := hB.net.preds
  obtain ⟨a4, k4, e4, _⟩ := hB.net.decisions
  obtain ⟨a5, k5, e5, _⟩ := hB.toks
  have hfin : ∀ w, w = W → ∀ sb cm, Began E w sb cm → Began E w sb cm := fun _ _ _ _ h => h
  clear hfin
  rw [e0, e1, e2, e3, e4, e5]
  go_enter Try.func24, Try.ntmps24
  go_wp2_with fail
  go_ret
  simp only [← e0, ← e1, ← e2, ← e3, ← e4, ← e5]
  have g1 := grew_alloc W (.cells #[E.n0, E.n1, E.n2, E.n3, E.n4] 25)
  have g2 := grew_alloc (W.alloc (.cells #[E.n0, E.n1, E.n2, E.n3, E.n4] 25)) (.map #[] 0)
  have a2 := alloc_at (W.alloc (.cells #[E.n0, E.n1, E.n2, E.n3, E.n4] 25)) (.map #[] 0)
  rw [alloc_size] at a2
  have g3 := grew_alloc ((W.alloc (.cells #[E.n0, E.n1, E.n2, E.n3, E.n4] 25)).alloc (.map #[] 0)) (.cells #[E.n0, E.n1, E.n2, E.n3, E.n4, E.wv, .map (some (W.heap.size + 1)), .slice none 0 0, .bool false] 93)
  have o3 := Owns.alloc ((W.alloc (.cells #[E.n0, E.n1, E.n2, E.n3, E.n4] 25)).alloc (.map #[] 0)) [E.n0, E.n1, E.n2, E.n3, E.n4, E.wv, .map (some (W.heap.size + 1)), .slice none 0 0, .bool false] 93
  rw [alloc_size, alloc_size] at o3
  exact ⟨W.heap.size + 2, W.heap.size + 1, rfl, ⟨o3, by rw [g3.block _ (by rw [alloc_size, alloc_size]; omega)]; exact a2, by omega, by omega⟩, (g1.trans g2).trans g3, by omega⟩

set_option maxHeartbeats 2000000 in
set_option maxRecDepth 20000 in
theorem from_ok (E : Env) (hN : E.N.Ok) (wa : Option Addr) (wc : Nat) (hU : E.univ.length ≤ 1000000000000) (hW : E.w.length ≤ 1000000) (hE : ∀ s, (E.N.edges s).length ≤ 1000000) (hwv : E.wv = .slice wa E.w.length wc) (f : Nat) (hp0 : E.p0 = (f, 0)) (hf : f < E.N.states.length) (W : World) (sb cm : Nat) (hBe : Began E W sb cm) (hB : Laid E W) :
    Calls Try.prog 25 #[ptrV sb, .int .i64 f, .int .i64 E.over] W fun e W' => ∃ S', e = .returned (ptrV (S'.loc (.walk none))) ∧ Rep E S' W' ∧ FLoop E S' ∧ S'.todo = [] ∧ S'.loc .srch = sb ∧ Below E.lim W W' := by
  have hmk : ∀ (t : TypeId) (w : World), (Instr.makeMap t none).run Try.prog w = .ok (.map (some w.heap.size)) (w.alloc (.map #[] 0)) := fun _ _ => rfl
  have g1 := grew_alloc W (.map #[] 0)
  have a1 := alloc_at W (.map #[] 0)
  have g2 := grew_alloc (W.alloc (.map #[] 0)) (.cells #[.map (some W.heap.size), .pointer none, .int .i64 0] 75)
  have o2 := Owns.alloc (W.alloc (.map #[] 0)) [.map (some W.heap.size), .pointer none, .int .i64 0] 75
  rw [alloc_size] at o2
  have hR0 := start_rep (mb := W.heap.size) (kb := W.heap.size + 1) hBe (g1.trans g2) (by rw [g2.block _ (by rw [alloc_size]; omega)]; exact a1) o2 ⟨by omega, by omega⟩
  have hlim : E.lim ≤ W.heap.size := by have := hBe.lo.1; have := hBe.srch.lt; omega
  have hcal := reach_ok E hN wa wc hU hwv _ (startSt sb cm (W.heap.size + 1) W.heap.size) none (f, 0) _ rfl hR0 (start_inv E sb cm _ _) trivial ⟨hf, by simp⟩ (by rw [← hp0]; exact .root)
  have hbl : Below E.lim W ((W.alloc (.map #[] 0)).alloc (.cells #[.map (some W.heap.size), .pointer none, .int .i64 0] 75)) := (g1.trans g2).mono hlim
  rw [show (startSt sb cm (W.heap.size + 1) W.heap.size).loc .srch = sb from rfl, show (startSt sb cm (W.heap.size + 1) W.heap.size).loc (.walk none) = W.heap.size + 1 from rfl] at hcal
  unfold ptrV at hcal
  simp only [plV] at hcal
  have HCal := Lib.hid hcal
  have HR0 := Lib.hid hR0
  have HBL := Lib.hid hbl
  have HB := Lib.hid hB
  have HP := Lib.hid hp0
  clear g1 a1 g2 o2 hR0 hcal hbl hB hp0 hBe
  unfold ptrV
  go_enter Try.func25, Try.ntmps25
  go_wp2_with (refine HCal.out.mono ?_; rintro e w2 ⟨⟨_, rfl⟩, S1, hR1, hF1, hC1⟩; have HR1 := Lib.hid hR1; have HF1 := Lib.hid hF1; have HC1 := Lib.hid hC1; clear hR1 hF1 hC1)
  clear hmk
  have hfl : FLoop E S1 := by
    refine ⟨HC1.out.inv, fun d k y ho => ?_, fun c hc => ?_, by rw [HP.out]; exact HC1.out.got, fun κ p hp => ?_⟩
    · have := (HC1.out.opn d k y ho).1
      simp [startSt] at this
    · rw [HC1.out.calls] at hc
      simp [startSt] at hc
    · rcases HC1.out.le.fresh κ p hp with h | h
      · simp [startSt] at h
      · exact .inl h
  have HFL := Lib.hid hfl
  have HL1 := Lib.hid (HC1.out.le.loc .srch trivial)
  have HL2 := Lib.hid (HC1.out.le.loc (.walk none) trivial)
  have HB2 := Lib.hid (HBL.out.trans (HF1.out.below HR0.out))
  clear hfl
  go_loopg [22] (left E S1) (fun k _ wr => ∃ T, Hid (FLoop E T) ∧ Hid (Rep E T wr) ∧ Hid (Below E.lim W wr) ∧ Hid (T.loc .srch = sb) ∧ Hid (T.loc (.walk none) = W.heap.size + 1) ∧ Hid (left E T = k))
  case atStart =>
    exact ⟨S1, HFL.out, HR1.out, HB2.out, HL1.out, HL2.out, rfl⟩
  case round =>
    obtain ⟨T, hT, hRT, hBT, hls, hlk, hlf⟩ := hrel
    have s7 := hRT.out.srch.cell_at (i := 7) rfl
    have f7 := hRT.out.srch.free 7
    have sl := hRT.out.lt (r := .srch) trivial
    rw [hls.out] at s7 f7 sl
    rcases List.eq_nil_or_concat T.todo with ht | ⟨l, x, ht⟩
    · obtain ⟨a, c, htv⟩ : ∃ a c, T.tv = .slice a 0 c := by
        have hrow := hRT.out.row
        rw [ht] at hrow
        rcases hrow.2 with ⟨h1, _⟩ | ⟨g, cap, cur, h1, _⟩
        · exact ⟨_, _, h1⟩
        · exact ⟨_, _, h1⟩
      rw [htv] at s7
      have HTD := Lib.hid ht
      clear ht htv f7 sl
      go_wp2_with fail
      go_ret
      exact ⟨T, by rw [hlk.out]; rfl, hRT.out, hT.out, HTD.out, hls.out, hBT.out⟩
    · obtain ⟨g, cap, htv, hcap, hmax, hgl, x0, x1, x2, hpop⟩ := hRT.out.last (l := l) (x := x) (by rw [ht, List.concat_eq_append])
      rw [htv] at s7
      have HTD : Hid (T.todo = l ++ [x]) := by rw [Hid, ht, List.concat_eq_append]
      have hpos : (0 : Int) < ((l.length + 1 : Nat) : Int) := by omega
      have hll : l.length ≤ 1000000000000 := by
        have h1 := hT.out.inv.todo_le
        rw [HTD.out] at h1
        simp at h1
        omega
      have hbnd : (l.length : Int) < (l.length : Int) + 1 := by omega
      have hwl : IntKind.i64.wrap (l.length : Int) = (l.length : Int) := by rw [IntKind.wrap_i64]; omega
      have hsub : IntKind.i64.wrap (((l.length + 1 : Nat) : Int) - 1) = (l.length : Int) := by rw [IntKind.wrap_i64]; omega
      have HPOP := Lib.hid hpop
      have HTV := Lib.hid htv
      unfold ptrV at x0
      clear ht hpop htv
      go_wp2_with fail
      refine wp_region_hav_lit follows (by kernel_rfl) ?_
      repeat (first
        | (refine HavG.skip (fun _ => rfl) ?_; simp only [Act.put, List.setIfInBounds_toArray, List.set_cons_zero, List.set_cons_succ])
        | (refine HavG.val (fun _ => rfl) ?_ (fun x w hw _ => ?_) ?_; rotate_left; (focus (have hc := hw.cells; clear hw; go_simp; first | done | rfl)); simp only [Act.put, List.setIfInBounds_toArray, List.set_cons_zero, List.set_cons_succ]))
      refine HavG.any (fun _ => rfl) (NewStep wr.heap.size) (fun _ _ _ hg h => NewStep.keep hg h) (fun y w hw _ => ?_) ?_
      · have HW := Lib.hid hw
        clear hw
        go_simp
        exact ⟨grew_alloc _ _, NewStep.made HW.out.size⟩
      simp only [Act.put, List.setIfInBounds_toArray, List.set_cons_zero, List.set_cons_succ]
      refine HavG.tail (by kernel_rfl) (by kernel_rfl) (fun y w3 hw hx => ?_)
      have hx8 := hx _ (List.mem_append_right _ (List.mem_singleton.2 rfl))
      clear hx
      dsimp only at hx8
      generalize y (0 + 1 + 1 + 1 + 1 + 1 + 1 + 1 + 1 + 1 + 1 + 1 + 1) = y8 at *
      obtain ⟨xb, rfl, hxb, hox⟩ := hx8
      have v0 := hox.cell_at (i := 0) rfl
      have v1 := hox.cell_at (i := 1) rfl
      have v2 := hox.cell_at (i := 2) rfl
      have g0 := hox.free 0
      have g1 := hox.free 1
      have g2 := hox.free 2
      obtain ⟨hb4, ho4⟩ := set3 hox (.pointer (some ⟨T.loc (.walk x.1), 0, none⟩)) (.int .i64 x.2.1) (.int .i64 x.2.2)
      have hnm : ¬T.mine xb := hRT.out.notmine hxb
      have hR3 := (hRT.out.grew hw).but hb4 fun b hm e => hnm (e ▸ hm)
      have hF3 : Below E.lim W (((w3.setCell ⟨xb, 0, none⟩ (.pointer (some ⟨T.loc (.walk x.1), 0, none⟩))).setCell ⟨xb, 1, none⟩ (.int .i64 x.2.1)).setCell ⟨xb, 2, none⟩ (.int .i64 x.2.2)) :=
        hBT.out.trans (((But.of_grew (F := fun k => k = xb) hw).trans hb4 fun _ _ h => h).below hRT.out.lim_le fun k hk => by have := hRT.out.lim_le; omega)
      generalize hw4 : ((w3.setCell ⟨xb, 0, none⟩ (.pointer (some ⟨T.loc (.walk x.1), 0, none⟩))).setCell ⟨xb, 1, none⟩ (.int .i64 x.2.1)).setCell ⟨xb, 2, none⟩ (.int .i64 x.2.2) = w4 at *
      have HR4 := Lib.hid hR3
      have HB4 := Lib.hid hF3
      have OB4 := Lib.hid ho4
      have HBM := Lib.hid hnm
      clear hw hR3 hF3 hb4 ho4 hnm hox hxb s7 f7 sl x0 x1 x2 hgl
      go_wp2_with fail
      clear hw4 v0 v1 v2 g0 g1 g2
      have s7 := HR4.out.srch.cell_at (i := 7) rfl
      have f7 := HR4.out.srch.free 7
      have sl := HR4.out.lt (r := .srch) trivial
      rw [hls.out] at s7 f7 sl
      have hc1 : (l.length : Int) ≤ (cap : Int) := by omega
      have hc2 : l.length ≤ cap := by omega
      have hc3 : (0 : Int) ≤ (l.length : Int) := by omega
      rw [HTV.out] at s7
      refine wp_region_hav_lit follows (by kernel_rfl) ?_
      repeat (first
        | (refine HavG.skip (fun _ => rfl) ?_; simp only [Act.put, List.setIfInBounds_toArray, List.set_cons_zero, List.set_cons_succ])
        | (refine HavG.val (fun _ => rfl) ?_ (fun x w hw _ => ?_) ?_; rotate_left; (focus (have hc := hw.cells; clear hw; go_simp; first | done | rfl)); simp only [Act.put, List.setIfInBounds_toArray, List.set_cons_zero, List.set_cons_succ]))
      refine HavG.tail (by kernel_rfl) (by kernel_rfl) (fun y w5 hw _ => ?_)
      have hR5 := HR4.out.grew hw
      have c7 := hR5.srch.cell_at (i := 7) rfl
      have e7 := hR5.srch.free 7
      rw [hls.out] at c7 e7
      obtain ⟨g', cap', htv', _, _, _, _, _, _, hpop⟩ := hR5.last HTD.out
      have hgg : g' = g := by
        have h1 := HTV.out
        rw [htv'] at h1
        simp at h1
        exact h1.1
      subst hgg
      rw [hls.out] at hpop
      obtain ⟨w6, hw6⟩ : ∃ w6, w5.setCell ⟨sb, 7, none⟩ (.slice (some ⟨g', 0, none⟩) l.length l.length) = w6 := ⟨_, rfl⟩
      obtain ⟨hR6, hF6⟩ := hpop w6 hw6
      have hbw5 := HB4.out.trans (hw.mono HR4.out.lim_le)
      have HBW := Lib.hid (hbw5.trans (hF6.below hR5))
      have ho6 := hF6.owns (OB4.out.keep hw) HBM.out
      have HO6 := Lib.hid ho6
      have x0 := ho6.1.cell_at (i := 0) rfl
      have x1 := ho6.1.cell_at (i := 1) rfl
      have x2 := ho6.1.cell_at (i := 2) rfl
      have xl := ho6.1.lt
      have HR6 := Lib.hid hR6
      have hxt : x ∈ T.todo := by rw [HTD.out]; simp
      have hxh := hT.out.inv.seenH _ _ (hT.out.inv.todoS x hxt)
      have hk2 := hR6.walk (κ := none) trivial
      rw [show (T.pop l (.slice (some ⟨g', 0, none⟩) l.length l.length)).loc (.walk none) = W.heap.size + 1 from hlk.out] at hk2
      have hne := ptr_neq _ _ _ _ w6 (hR6.walk (κ := x.1) ((has_same rfl _).2 hxh)) hk2
      rw [show (T.pop l (.slice (some ⟨g', 0, none⟩) l.length l.length)).loc (.walk x.1) = T.loc (.walk x.1) from rfl] at hne
      clear hw hR5 htv' hpop s7 f7 sl hR6 hF6 hbw5 ho6 hk2
      by_cases hx1 : x.1 = none
      · have hbq : (T.loc (.walk x.1) == W.heap.size + 1) = true := by rw [hx1, hlk.out]; simp
        rw [hbq] at hne
        by_cases hov : (x.2.1 : Int) = E.over
        · have hov2 : ((x.2.1 : Int) != E.over) = false := by rw [hov]; simp
          have HOV := Lib.hid (And.intro hx1 hov)
          clear hov hbq hx1
          go_wp2_with fail
          have hlt7 := left_lt hT.out HTD.out (Le.refl (T.pop l (.slice (some ⟨g', 0, none⟩) l.length l.length)))
          rw [hlf.out] at hlt7
          clear x0 x1 x2 xl hne hov2
          go_roundg (left E (T.pop l (.slice (some ⟨g', 0, none⟩) l.length l.length)))
          case measure => exact hlt7
          case rel => exact ⟨T.pop l (.slice (some ⟨g', 0, none⟩) l.length l.length), hT.out.over HTD.out HOV.out, HR6.out, HBW.out, hls.out, hlk.out, rfl⟩
        · have hov2 : ((x.2.1 : Int) != E.over) = true := by simpa using hov
          have HGD : Hid (x.1 = none → (x.2.1 : Int) ≠ E.over) := fun _ => hov
          clear hov hbq hx1
          have hgo := goes_ok E hN wa wc hU hW hE hwv (T.pop l (.slice (some ⟨g', 0, none⟩) l.length l.length)) x.1 x.2.1 x.2.2 w6 HR6.out (hT.out.inv.pop HTD.out) (hT.out.inv.todoS x hxt) HGD.out (HB.out.keep HBW.out)
          rw [show (T.pop l (.slice (some ⟨g', 0, none⟩) l.length l.length)).loc (.walk x.1) = T.loc (.walk x.1) from rfl, show (T.pop l (.slice (some ⟨g', 0, none⟩) l.length l.length)).loc .srch = sb from hls.out] at hgo
          unfold ptrV at hgo
          have HGo := Lib.hid hgo
          have HXT := Lib.hid hxt
          clear hgo hxt hxh
          go_wp2_with (refine HGo.out.mono ?_; rintro e w7 ⟨⟨_, rfl⟩, T', hR', hF', hG'⟩; have H1 := Lib.hid hR'; have H2 := Lib.hid hF'; have H3 := Lib.hid hG'; clear hR' hF' hG')
          have hB7 := HBW.out.trans (H2.out.below HR6.out)
          have hl7 := (H3.out.le.loc .srch trivial).trans hls.out
          have hl8 := (H3.out.le.loc (.walk none) trivial).trans hlk.out
          have hf7 := hT.out.gone HTD.out H3.out
          have hlt7 := left_lt hT.out HTD.out H3.out.le
          rw [hlf.out] at hlt7
          have K1 := Lib.hid hB7
          have K2 := Lib.hid hl7
          have K3 := Lib.hid hl8
          have K4 := Lib.hid hf7
          clear hB7 hl7 hl8 hf7 x0 x1 x2 xl hne
          go_roundg (left E T')
          case measure => exact hlt7
          case rel => exact ⟨T', K4.out, H1.out, K1.out, K2.out, K3.out, rfl⟩
      · have hbq : (T.loc (.walk x.1) == W.heap.size + 1) = false := by
          refine beq_eq_false_iff_ne.2 fun e => hx1 ?_
          rw [← hlk.out] at e
          have := HR4.out.inj (.walk x.1) (.walk none) hxh trivial e
          simpa using this
        rw [hbq] at hne
        have HGD : Hid (x.1 = none → (x.2.1 : Int) ≠ E.over) := fun h => absurd h hx1
        clear hbq hx1
        have hgo := goes_ok E hN wa wc hU hW hE hwv (T.pop l (.slice (some ⟨g', 0, none⟩) l.length l.length)) x.1 x.2.1 x.2.2 w6 HR6.out (hT.out.inv.pop HTD.out) (hT.out.inv.todoS x hxt) HGD.out (HB.out.keep HBW.out)
        rw [show (T.pop l (.slice (some ⟨g', 0, none⟩) l.length l.length)).loc (.walk x.1) = T.loc (.walk x.1) from rfl, show (T.pop l (.slice (some ⟨g', 0, none⟩) l.length l.length)).loc .srch = sb from hls.out] at hgo
        unfold ptrV at hgo
        have HGo := Lib.hid hgo
        have HXT := Lib.hid hxt
        clear hgo hxt hxh
        go_wp2_with (refine HGo.out.mono ?_; rintro e w7 ⟨⟨_, rfl⟩, T', hR', hF', hG'⟩; have H1 := Lib.hid hR'; have H2 := Lib.hid hF'; have H3 := Lib.hid hG'; clear hR' hF' hG')
        have hB7 := HBW.out.trans (H2.out.below HR6.out)
        have hl7 := (H3.out.le.loc .srch trivial).trans hls.out
        have hl8 := (H3.out.le.loc (.walk none) trivial).trans hlk.out
        have hf7 := hT.out.gone HTD.out H3.out
        have hlt7 := left_lt hT.out HTD.out H3.out.le
        rw [hlf.out] at hlt7
        have K1 := Lib.hid hB7
        have K2 := Lib.hid hl7
        have K3 := Lib.hid hl8
        have K4 := Lib.hid hf7
        clear hB7 hl7 hl8 hf7 x0 x1 x2 xl hne
        go_roundg (left E T')
        case measure => exact hlt7
        case rel => exact ⟨T', K4.out, H1.out, K1.out, K2.out, K3.out, rfl⟩
end Go.Proofs.Ytgdcnndmdgcjlaa
