/- The making's piece: a predicate. -/
import Derived.Test.YtiiffcmojkdlaaaGreatDoorQ37
import Derived.Test.YtiiffcmojkdlaaaGreatDoorQ29
namespace Go.Proofs.YtiiffcmojkdlaaaGreatDoor
open Go.RowKit

theorem NodeR.keep {lim : Nat} {n : Nd} {v : Value} {w w' : World} (h : NodeR lim n v w) (hl : lim ≤ w.heap.size) (hg : Grew w w') : NodeR lim n v w' := by
  obtain ⟨v0, v1, v2, v3, v4, h1, h2⟩ := h
  exact ⟨v0, v1, v2, v3, v4, h1, h2.keep (hg.mono hl)⟩
/-- the first Sub, as it was given -/
def SubR (lim : Nat) (n : Nd) (v : Value) (w : World) : Prop := NodeR lim n v w ∧ lim ≤ w.heap.size
theorem SubR.keep {lim : Nat} {n : Nd} {v : Value} {w w' : World} (hg : Grew w w') (h : SubR lim n v w) : SubR lim n v w' := ⟨h.1.keep h.2 hg, Nat.le_trans h.2 hg.size⟩
/-- what waits, as a value -/
def WaitR (lim : Nat) (r0 : Int) (n : Nd) (v : Value) (w : World) : Prop := ∃ y0 y1 y2 y3 y4, v = .agg #[.int .i64 r0, y0, y1, y2, y3, y4] ∧ NodeAt w lim (some y0) (some y1) (some y2) (some y3) (some y4) n ∧ lim ≤ w.heap.size
theorem WaitR.keep {lim : Nat} {r0 : Int} {n : Nd} {v : Value} {w w' : World} (hg : Grew w w') (h : WaitR lim r0 n v w) : WaitR lim r0 n v w' := by
  obtain ⟨y0, y1, y2, y3, y4, h1, h2, h3⟩ := h
  exact ⟨y0, y1, y2, y3, y4, h1, h2.keep (hg.mono h3), Nat.le_trans h3 hg.size⟩
/-- the slice of what waits -/
def WaitS (lim : Nat) (r0 : Int) (n : Nd) (v : Value) (w : World) : Prop := ∃ b y0 y1 y2 y3 y4, v = .slice (some ⟨b, 0, none⟩) 1 1 ∧ Owns w b [.int .i64 r0, y0, y1, y2, y3, y4] 69 ∧ NodeAt w lim (some y0) (some y1) (some y2) (some y3) (some y4) n ∧ lim ≤ w.heap.size
theorem WaitS.keep {lim : Nat} {r0 : Int} {n : Nd} {v : Value} {w w' : World} (hg : Grew w w') (h : WaitS lim r0 n v w) : WaitS lim r0 n v w' := by
  obtain ⟨b, y0, y1, y2, y3, y4, h1, h0, h2, h3⟩ := h
  exact ⟨b, y0, y1, y2, y3, y4, h1, h0.keep hg, h2.keep (hg.mono h3), Nat.le_trans h3 hg.size⟩
theorem info_await : (Tryz.prog.info? 69).map (fun i => (i.zero, i.size, i.bytes)) = some (some (.agg #[.int .i64 0, .int .u8 0, .string { data := #[] }, .string { data := #[] }, .slice none 0 0, .slice none 0 0]), 6, 96) := by kernel_rfl

set_option maxHeartbeats 4000000 in
set_option maxRecDepth 40000 in
theorem mpiece_pred (E : MkE) (g : Gr) (hE : E.rules.length ≤ reachN ∧ E.tokens.length ≤ reachN) (k : Int) (nm tx : ByteArray) (set : List (Int × Int)) (subs : List Nd) (hk : k = 7) (m0 : Mk) (V0 : MkV) (W : World) (v0 v1 v2 v3 v4 : Value) (a b : Nat) (h : MkAt E W m0 V0) (hg : GrAt W E.base (some E.g0) (some E.g1) (some E.g2) (some E.g3) g)
    (hn : NodeAt W E.base (some v0) (some v1) (some v2) (some v3) (some v4) (.mk k nm tx set subs)) (ha : m0.has a) (hs : m0.Slim (Nd.mk k nm tx set subs).req) (hf : m0.full = false) :
    Calls Tryz.prog 20 #[.pointer (some ⟨E.mb, 0, none⟩), .agg #[v0, v1, v2, v3, v4], .int .i64 a, .int .i64 b] W fun e W' => (∃ v, e = .returned v) ∧ Made E m0 V0 ((m0.edge a 3 m0.many b).wait (Nd.sub1 (.mk k nm tx set subs))) W W' := by
  have hKp := Nd.req_pos (.mk k nm tx set subs)
  have hK9 : ¬(k = 1 ∧ subs.length = 0) → (Nd.mk k nm tx set subs).req = 9 + Nd.reqs subs := fun h => by rw [Nd.req, if_neg h]
  generalize (Nd.mk k nm tx set subs).req = K at hs hKp hK9
  have hn9 := hn
  obtain ⟨bk, bnm, btx, bsa, bsl, bsc, bna, bnl, bnc, rfl, rfl, rfl, rfl, rfl⟩ := hn.forms
  rw [NodeAt] at hn9
  obtain ⟨-, -, -, hz0, hz1, -, -, na, nc, hz4, hsl, hsubs⟩ := hn9
  simp only [Option.some.injEq, Value.slice.injEq, Value.int.injEq, true_and] at hz4 hz0
  have hy1 := Value.string.inj (Option.some.inj hz1)
  clear hz1
  subst hy1
  obtain ⟨rfl, rfl, rfl⟩ := hz4
  have hy0 := hz0.symm
  clear hz0
  subst hy0
  subst hk
  have hK9 := hK9 (by rintro ⟨h, _⟩; exact absurd h (by decide))
  have hk6 : ((7 : Int) == 6) = false := by decide
  have hk5 : ((7 : Int) == 5) = false := by decide
  have hk7 : ((7 : Int) == 7) = true := by decide
  obtain ⟨w0, hw0⟩ : ∃ w0, W.alloc (.cells #[.int .u8 7, .string bnm, .string btx, .slice bsa bsl bsc, .slice bna subs.length bnc] 51) = w0 := ⟨_, rfl⟩
  have hgr : Grew W w0 := hw0 ▸ grew_alloc W _
  have hob : Owns w0 W.heap.size [.int .u8 7, .string bnm, .string btx, .slice bsa bsl bsc, .slice bna subs.length bnc] 51 := hw0 ▸ Owns.alloc W _ _
  have HB := Lib.hid (OwnsX.fresh h hob)
  have HG := Lib.hid (hg.keep (hgr.mono h.lim))
  have HN := Lib.hid (hn.keep (hgr.mono h.lim))
  have HF0 := Lib.hid (Frk.grew (E := E) (m := m0) (V := V0) hgr)
  have hm9 := h.grew hgr
  have c14 := hm9.box.cell_at (i := 14) rfl
  rw [hf] at c14
  have cl := hm9.box.lt
  have b0 := hob.cell_at (i := 0) rfl
  have b1 := hob.cell_at (i := 1) rfl
  have b2 := hob.cell_at (i := 2) rfl
  have b3 := hob.cell_at (i := 3) rfl
  have b4 := hob.cell_at (i := 4) rfl
  have bl := hob.lt
  have HSUB := Lib.hid (SubsAt.of h hsubs)
  have HSU := Lib.hid (HSUB.out.next h (Frk.grew hgr))
  have HM0 := Lib.hid hm9
  have HL0 := Lib.hid (Mk.Le.refl m0)
  have HS := Lib.hid hs
  have HFU := Lib.hid hf
  have HX_a := Lib.hid ha
  have HE := Lib.hid hE
  unfold reachN at hsl
  have p13 := hm9.box.cell_at (i := 13) rfl
  clear h hg hn ha hs hgr hob hm9 hsubs HSUB hE hf
  go_enter Tryz.func20, Tryz.ntmps20
  have HC := Lib.hid (medge_ok E m0 V0 w0 HM0.out a 3 m0.many b HX_a.out (by have := ((HS.out.mono (show 0 + 1 ≤ K by omega)).next HL0.out).edges a; omega))
  go_wp2_with fail
  refine HC.out.mono ?_
  clear HC
  rintro e9 w1 ⟨⟨v, rfl⟩, V1, hM, hF⟩
  obtain ⟨m1, hm⟩ : ∃ m9, m9 = m0.edge a 3 m0.many b := ⟨_, rfl⟩
  rw [← hm] at hM hF
  have hle : Mk.Le 1 m0 m1 := hm ▸ m0.edge_le a 3 m0.many b
  have HX_a := Lib.hid (HX_a.out.next hle)
  have HG := Lib.hid (HG.out.keep (hF.below HM0.out))
  have HN := Lib.hid (HN.out.keep (hF.below HM0.out))
  have HB := Lib.hid (HB.out.next hF)
  have HL1 : Hid (Mk.Le 1 m0 m1) := Lib.hid ((HL0.out.trans hle).mono (by omega))
  have HM1 := Lib.hid hM
  have HF1 := Lib.hid (HF0.out.trans hF)
  have HEM1 := Lib.hid hm
  clear hM hF hm hle HM0 HF0 HL0
  go_upto_region 10 with fail
  obtain ⟨m2, hm2⟩ : ∃ m2, m2 = { m1 with many := m1.many + 1 } := ⟨_, rfl⟩
  have hfield := HM1.out.field (m' := m2) (i := 13) (x := .int .i64 ((m1.many : Int) + 1)) (by rw [hm2]) (by rw [hm2]) (by rw [hm2]; unfold MkV.box; simp)
  have c13 := HM1.out.box.cell_at (i := 13) rfl
  have f13 := HM1.out.box.free 13
  have cl := HM1.out.box.lt
  have hmany : m1.many ≤ 1000000000 := by have := (HS.out.mono (show 1 + 0 ≤ K by omega)).next HL1.out; have := this.many; omega
  have HFI := Lib.hid hfield
  clear hfield
  go_upto_region 11 with fail
  have hM2 := HFI.out.1
  have hF2 := HFI.out.2
  obtain ⟨wcs, hwr, hwat⟩ := hM2.waits
  obtain ⟨wa, wc, hwv⟩ := tail_form hwr
  have p12 := hM2.box.cell_at (i := 12) rfl
  rw [hwv] at p12
  have p6 := hM2.box.cell_at (i := 6) rfl
  have pl := hM2.box.lt
  have hob2 := HB.out.next hF2
  have b0 := hob2.1.cell_at (i := 0) rfl
  have b1 := hob2.1.cell_at (i := 1) rfl
  have b2 := hob2.1.cell_at (i := 2) rfl
  have b3 := hob2.1.cell_at (i := 3) rfl
  have b4 := hob2.1.cell_at (i := 4) rfl
  have bl := hob2.1.lt
  have hn2 := HN.out.keep (hF2.below HM1.out)
  have HF2 := Lib.hid (HF1.out.trans hF2)
  have HM2 := Lib.hid hM2
  clear c13 f13 cl HFI hF2 hob2 hmany
  generalize w1.setCell ⟨E.mb, 13, none⟩ (.int .i64 ((m1.many : Int) + 1)) = w2 at *
  have HN2 := Lib.hid hn2
  have HSUBC : Hid (∀ w, Grew w2 w → Calls Tryz.prog 38 #[.agg #[.int .u8 7, .string bnm, .string btx, .slice bsa bsl bsc, .slice bna subs.length bnc]] w fun e W' => (∃ v, e = .returned v ∧ NodeR E.base (Nd.sub1 (.mk 7 bnm tx set subs)) v W') ∧ Grew w W') :=
    Lib.hid fun w hw => msub_ok _ E.base w _ _ _ _ _ (Nat.le_trans hM2.lim hw.size) (hn2.keep (hw.mono hM2.lim))
  have HLIM := Lib.hid hM2.lim
  have HWR := Lib.hid hwr
  have HWAT := Lib.hid hwat
  have HWV := Lib.hid hwv
  obtain ⟨wn, hwn⟩ : ∃ wn, m2.waits.length = wn := ⟨_, rfl⟩
  rw [hwn] at p12 HWV
  have HWN := Lib.hid hwn
  obtain ⟨i0, hi, hz0, hz1, hz2⟩ := info_parts info_await
  have HI := Lib.hid hi
  have HZ0 := Lib.hid hz0
  have HZ1 := Lib.hid hz1
  have HZ2 := Lib.hid hz2
  clear hM2 hwr hwat hwv hn2 hwn hi hz0 hz1 hz2
  obtain ⟨r0, hr0⟩ : ∃ r0, m2.rule = r0 := ⟨_, rfl⟩
  rw [hr0] at p6
  have HR0 := Lib.hid hr0
  clear hr0
  refine wp_region_hav_lit follows (by kernel_rfl) ?_
  repeat (first
    | (refine HavG.skip (fun _ => rfl) ?_; simp only [Act.put, List.setIfInBounds_toArray, List.set_cons_zero, List.set_cons_succ])
    | (refine HavG.val (fun _ => rfl) ?_ (fun x w hw _ => ?_) ?_; rotate_left; (focus (have hc := hw.cells; clear hw; go_simp; first | done | rfl)); simp only [Act.put, List.setIfInBounds_toArray, List.set_cons_zero, List.set_cons_succ]))
  refine HavG.any (fun _ => rfl) (SubR E.base (Nd.sub1 (.mk 7 bnm tx set subs))) (fun _ _ _ hg h => SubR.keep hg h) (fun x w hw _ => ?_) ?_
  · have HW := Lib.hid hw
    clear hw
    go_simp
    refine (HSUBC.out _ HW.out).mono ?_
    rintro e w' ⟨⟨v, rfl, hv⟩, hb⟩
    exact ⟨hb, hv, Nat.le_trans HLIM.out (HW.out.trans hb).size⟩
  simp only [Act.put, List.setIfInBounds_toArray, List.set_cons_zero, List.set_cons_succ]
  refine HavG.any (fun _ => rfl) (WaitR E.base r0 (Nd.sub1 (.mk 7 bnm tx set subs))) (fun _ _ _ hg h => WaitR.keep hg h) (fun x w hw hd => ?_) ?_
  · have hd10 := hd _ (List.mem_append_right _ (List.mem_singleton.2 rfl)) (by kernel_rfl)
    dsimp only at hd10
    clear hd hw
    generalize x (0 + 1 + 1 + 1 + 1 + 1 + 1 + 1 + 1 + 1 + 1) = y10 at *
    obtain ⟨⟨y0, y1, y2, y3, y4, rfl, hy⟩, hyl⟩ := hd10
    have HY := Lib.hid hy
    clear hy
    go_simp
    exact ⟨Grew.refl w, y0, y1, y2, y3, y4, rfl, HY.out, hyl⟩
  simp only [Act.put, List.setIfInBounds_toArray, List.set_cons_zero, List.set_cons_succ]
  refine HavG.any (fun _ => rfl) (WaitS E.base r0 (Nd.sub1 (.mk 7 bnm tx set subs))) (fun _ _ _ hg h => WaitS.keep hg h) (fun x w hw hd => ?_) ?_
  · have hd11 := hd _ (List.mem_append_right _ (List.mem_singleton.2 rfl)) (by kernel_rfl)
    dsimp only at hd11
    clear hd hw
    generalize x (0 + 1 + 1 + 1 + 1 + 1 + 1 + 1 + 1 + 1 + 1 + 1) = y11 at *
    obtain ⟨y0, y1, y2, y3, y4, rfl, hy, hyl⟩ := hd11
    obtain ⟨ck, cnm, ctx, csa, csl, csc, cna, cnl, cnc, rfl, rfl, rfl, rfl, rfl⟩ := hy.forms
    have HY := Lib.hid hy
    have HYL := Lib.hid hyl
    clear hy hyl
    go_simp
    have hga := grew_alloc w (.cells #[.int .i64 r0, .int .u8 ck, .string cnm, .string ctx, .slice csa csl csc, .slice cna cnl cnc] 69)
    exact ⟨hga, w.heap.size, _, _, _, _, _, rfl, Owns.alloc _ _ _, HY.out.keep (hga.mono HYL.out), Nat.le_trans HYL.out hga.size⟩
  simp only [Act.put, List.setIfInBounds_toArray, List.set_cons_zero, List.set_cons_succ]
  refine HavG.tail0 (by kernel_rfl) (by kernel_rfl) (by kernel_rfl) (fun _ _ d _ _ h => by cases d <;> exact h) (by decide) (fun x w3 hw hx => ?_)
  have hx12 := hx _ (List.mem_append_right _ (List.mem_singleton.2 rfl))
  clear hx
  dsimp only at hx12
  generalize x (0 + 1 + 1 + 1 + 1 + 1 + 1 + 1 + 1 + 1 + 1 + 1 + 1) = y12 at *
  obtain ⟨nb, y0, y1, y2, y3, y4, rfl, hnb, hy, hyl⟩ := hx12
  have hM3 := HM2.out.grew hw
  have HM3 := Lib.hid hM3
  have HF3 := Lib.hid (HF2.out.trans (Frk.grew (E := E) (m := m2) (V := V1) hw))
  have hrow : tailRow w3 E.base 69 6 (.slice wa wn wc) wn wcs := by have := trow_but HWR.out (But.of_grew (F := fun _ => False) hw) (fun _ _ => id); rw [HWV.out, HWN.out] at this; exact this
  have HROW := Lib.hid hrow
  have HWAT3 := Lib.hid (HWAT.out.keep (hw.mono HLIM.out))
  have HNS := Lib.hid (owns_newsO hnb)
  have hwl : wn ≤ 1000000000 := by have := ((HS.out.mono (show 1 + 0 ≤ K by omega)).next HL1.out).waits; rw [← HWN.out, hm2]; exact this
  have H63 := Lib.hid (show wn + 1 ≤ maxLen by unfold maxLen; omega)
  have H64 := Lib.hid (show (wn + 1) * 96 ≤ 140737488355328 by omega)
  have HLIM3 := Lib.hid hM3.lim
  obtain ⟨ck, cnm, ctx, csa, csl, csc, cna, cnl, cnc, rfl, rfl, rfl, rfl, rfl⟩ := hy.forms
  have HY := Lib.hid hy
  have HL1X := Lib.hid (show ∀ u ∈ [Value.int .i64 r0, .int .u8 ck, .string cnm, .string ctx, .slice csa csl csc, .slice cna cnl cnc], u.oneCell' = true by
    intro u hu
    simp only [List.mem_cons, List.not_mem_nil, or_false] at hu
    rcases hu with rfl | rfl | rfl | rfl | rfl | rfl <;> rfl)
  clear hw hnb hM3 hrow hy p12 p6 pl b0 b1 b2 b3 b4 bl hwl
  go_wp2_with (at_builtin; refine wpList_append_tail w3 rfl _ _ 63 rfl E.base 69 i0 _ 6 96 Tryz.underlying63 HI.out HZ0.out HZ1.out HZ2.out rfl (by decide) (.slice wa wn wc) wn wcs rfl HROW.out ⟨nb, 0, none⟩ 1 1 [.int .i64 r0, .int .u8 ck, .string cnm, .string ctx, .slice csa csl csc, .slice cna cnl cnc] rfl rfl HNS.out HL1X.out (by decide) H63.out H64.out HLIM3.out _ rfl ?_; intro gb cap w4 hown hgrow hat hlt3; have HOWN := Lib.hid hown; have HGROW := Lib.hid hgrow; have HAT := Lib.hid hat; have hb4 := owns_far HM3.out.box hgrow (own_boxT HROW.out HM3.out.box (by decide)); have b18 : w4.cell? ⟨E.mb, 12, none⟩ = some V1.wv := hb4.cell_at (i := 12) rfl; rw [HWV.out] at b18; have f18 : w4.frozen? ⟨E.mb, 12, none⟩ = false := hb4.free 12; have l18 := hb4.lt; clear hb4 hown hgrow hat hlt3)
  have hpush := HM3.out.pushWait (w1 := w4) (g := gb) (v := .slice (some ⟨gb, 0, none⟩) (wn + 1) cap) (x := (r0, Nd.sub1 (.mk 7 bnm tx set subs))) (cs := wcs) (cs' := wcs ++ [.int .i64 r0, .int .u8 ck, .string cnm, .string ctx, .slice csa csl csc, .slice cna cnl cnc]) (by rw [HWV.out, HWN.out]; exact HROW.out) (by rw [HWV.out]; exact HGROW.out) (by rw [HWN.out]; exact HOWN.out) (waits_snoc HY.out HWAT3.out) rfl (by rw [HWV.out]; exact HAT.out)
  go_end0
  have hres : (m0.edge a 3 m0.many b).wait (Nd.sub1 (.mk 7 bnm tx set subs)) = m2.addWait (r0, Nd.sub1 (.mk 7 bnm tx set subs)) := by
    rw [← HEM1.out, ← HR0.out, hm2]
    rfl
  rw [hres]
  exact ⟨⟨_, rfl⟩, _, hpush.1, HF3.out.trans hpush.2⟩
end Go.Proofs.YtiiffcmojkdlaaaGreatDoor
