/- The making's piece: a predicate. -/
import Derived.Test.YtgdcnndmdgcjlaaQ14
import Derived.Test.YtgdcnndmdgcjlaaQ10
namespace Go.Proofs.Ytgdcnndmdgcjlaa
open Go.RowKit
theorem NodeR.keep {lim : Nat} {n : Nd} {v : Value} {w w' : World} (h : NodeR lim n v w) (hl : lim ≤ w.heap.size) (hg : Grew w w') : NodeR lim n v w' := by
  obtain ⟨v0, v1, v2, v3, v4, h1, h2⟩ := h
  exact ⟨v0, v1, v2, v3, v4, h1, h2.keep (hg.mono hl)⟩
def SubR (lim : Nat) (n : Nd) (v : Value) (w : World) : Prop := NodeR lim n v w ∧ lim ≤ w.heap.size
theorem SubR.keep {lim : Nat} {n : Nd} {v : Value} {w w' : World} (hg : Grew w w') (h : SubR lim n v w) : SubR lim n v w' := ⟨h.1.keep h.2 hg, Nat.le_trans h.2 hg.size⟩
def WaitR (lim : Nat) (r0 : Int) (n : Nd) (v : Value) (w : World) : Prop := ∃ y0 y1 y2 y3 y4, v = .agg #[.int .i64 r0, y0, y1, y2, y3, y4] ∧ NodeAt w lim (some y0) (some y1) (some y2) (some y3) (some y4) n ∧ lim ≤ w.heap.size
theorem WaitR.keep {lim : Nat} {r0 : Int} {n : Nd} {v : Value} {w w' : World} (hg : Grew w w') (h : WaitR lim r0 n v w) : WaitR lim r0 n v w' := by
  obtain ⟨y0, y1, y2, y3, y4, h1, h2, h3⟩ := h
  exact ⟨y0, y1, y2, y3, y4, h1, h2.keep (hg.mono h3), Nat.le_trans h3 hg.size⟩
def WaitS (lim : Nat) (r0 : Int) (n : Nd) (v : Value) (w : World) : Prop := ∃ b y0 y1 y2 y3 y4, v = .slice (some ⟨b, 0, none⟩) 1 1 ∧ Owns w b [.int .i64 r0, y0, y1, y2, y3, y4] 117 ∧ NodeAt w lim (some y0) (some y1) (some y2) (some y3) (some y4) n ∧ lim ≤ w.heap.size
theorem WaitS.keep {lim : Nat} {r0 : Int} {n : Nd} {v : Value} {w w' : World} (hg : Grew w w') (h : WaitS lim r0 n v w) : WaitS lim r0 n v w' := by
  obtain ⟨b, y0, y1, y2, y3, y4, h1, h0, h2, h3⟩ := h
  exact ⟨b, y0, y1, y2, y3, y4, h1, h0.keep hg, h2.keep (hg.mono h3), Nat.le_trans h3 hg.size⟩
theorem info_await : (Try.prog.info? 117).map (fun i => (i.zero, i.size, i.bytes)) = some (some (.agg #[.int .i64 0, .int .u8 0, .string { data := #[] }, .string { data := #[] }, .slice none 0 0, .slice none 0 0]), 6, 96) := by kernel_rfl
set_option maxHeartbeats 4000000 in
set_option maxRecDepth 40000 in
theorem mpiece_pred (E : MkE) (g : Gr) (hE : E.rules.length ≤ reachN ∧ E.tokens.length ≤ reachN) (k : Int) (nm tx : ByteArray) (set : List (Int × Int)) (subs : List Nd) (hk : k = 7) (m0 : Mk) (V0 : MkV) (W : World) (v0 v1 v2 v3 v4 : Value) (a b : Nat) (h : MkAt E W m0 V0) (hg : GrAt W E.base (some E.g0) (some E.g1) (some E.g2) (some E.g3) g)
    (hn : NodeAt W E.base (some v0) (some v1) (some v2) (some v3) (some v4) (.mk k nm tx set subs)) (ha : m0.has a) (hs : m0.Slim (Nd.mk k nm tx set subs).req) (hf : m0.full = false) :
    Calls Try.prog 44 #[.pointer (some ⟨E.mb, 0, none⟩), .agg #[v0, v1, v2, v3, v4], .int .i64 a, .int .i64 b] W fun e W' => (∃ v, e = .returned v) ∧ Made E m0 V0 ((m0.edge a 3 m0.many b).wait (Nd.sub1 (.mk k nm tx set subs))) W W' := by
  have hKp := Nd.req_pos (.mk k nm tx set subs)
  have hK9 : ¬(k = 1 ∧ subs.length = 0) → (Nd.mk k nm tx set subs).req = 9 + Nd.reqs subs := fun h => by rw [Nd.req, if_neg h]
  generalize (Nd.mk k nm tx set subs).req = K at hs hKp hK9
  have hn9 := hn
  obtain ⟨bk, bnm, btx, bsa, bsl, bsc, bna, bnl, bnc, rfl, rfl, rfl, rfl, rfl⟩ := hn.forms
  rw [NodeAt] at hn9
  obtain ⟨-, -, -, hz0, hz1, -, -, na, nc, hz4, hsl, hsubs⟩ := hn9
  simp only [Option.some.injEq, Value.slice.injEq, Value.int.injEq, true_and] at hz4 hz0
  have hy1 := Value.string.inj (Option.some.inj hz1)
  clear hz1
  subst hy1
  obtain ⟨rfl, rfl, rfl⟩ := hz4
  have hy0 := hz0.symm
  clear hz0
  subst hy0
  subst hk
  have hK9 := hK9 (by rintro ⟨h, _⟩; exact absurd h (by decide))
  have hk6 : ((7 : Int) == 6) = false := by decide
  have hk5 : ((7 : Int) == 5) = false := by decide
  have hk7 : ((7 : Int) == 7) = true := by decide
  obtain ⟨w0, hw0⟩ : ∃ w0, W.alloc (.cells #[.int .u8 7, .string bnm, .string btx, .slice bsa bsl bsc, .slice bna subs.length bnc] 104) = w0 := ⟨_, rfl⟩
  have hgr : Grew W w0 := hw0 ▸ grew_alloc W _
  have hob : Owns w0 W.heap.size [.int .u8 7, .string bnm, .string btx, .slice bsa bsl bsc, .slice bna subs.length bnc] 104 := hw0 ▸ Owns.alloc W _ _
  have HB := Lib.hid (OwnsX.fresh h hob)
  have HG := Lib.hid (hg.keep (hgr.mono h.lim))
  have HN := Lib.hid (hn.keep (hgr.mono h.lim))
  have HF0 := Lib.hid (Frk.grew (E := E) (m := m0) (V := V0) hgr)
  have hm9 := h.grew hgr
  have c14 := hm9.box.cell_at (i := 14) rfl
  rw [hf] at c14
  have cl := hm9.box.lt
  have b0 := hob.cell_at (i := 0) rfl
  have b1 := hob.cell_at (i := 1) rfl
  have b2 := hob.cell_at (i := 2) rfl
  have b3 := hob.cell_at (i := 3) rfl
  have b4 := hob.cell_at (i := 4) rfl
  have bl := hob.lt
  have HSUB := Lib.hid (SubsAt.of h hsubs)
  have HSU := Lib.hid (HSUB.out.next h (Frk.grew hgr))
  have HM0 := Lib.hid hm9
  have HL0 := Lib.hid (Mk.Le.refl m0)
  have HS := Lib.hid hs
  have HFU := Lib.hid hf
  have HX_a := Lib.hid ha
  have HE := Lib.hid hE
  unfold reachN at hsl
  have p13 := hm9.box.cell_at (i := 13) rfl
  clear h hg hn ha hs hgr hob hm9 hsubs HSUB hE hf
  go_enter Try.func44, Try.ntmps44
  have HC := Lib.hid (medge_ok E m0 V0 w0 HM0.out a 3 m0.many b HX_a.out (by have := ((HS.out.mono (show 0 + 1 ≤ K by omega)).next HL0.out).edges a; omega))
  go_wp2_with fail
  refine HC.out.mono ?_
  clear HC
  rintro e9 w1 ⟨⟨v, rfl⟩, V1, hM, hF⟩
  obtain ⟨m1, hm⟩ : ∃ m9, m9 = m0.edge a 3 m0.many b := ⟨_, rfl⟩
  rw [← hm] at hM hF
  have hle : Mk.Le 1 m0 m1 := hm ▸ m0.edge_le a 3 m0.many b
  have HX_a := Lib.hid (HX_a.out.next hle)
  have HG := Lib.hid (HG.out.keep (hF.below HM0.out))
  have HN := Lib.hid (HN.out.keep (hF.below HM0.out))
  have HB := Lib.hid (HB.out.next hF)
  have HL1 : Hid (Mk.Le 1 m0 m1) := Lib.hid ((HL0.out.trans hle).mono (by omega))
  have HM1 := Lib.hid hM
  have HF1 := Lib.hid (HF0.out.trans hF)
  have HEM1 := Lib.hid hm
  clear hM hF hm hle HM0 HF0 HL0
  go_upto_region 10 with fail
  obtain ⟨m2, hm2⟩ : ∃ m2, m2 = { m1 with many := m1.many + 1 } := ⟨_, rfl⟩
  have hfield := HM1.out.field (m' := m2) (i := 13) (x := .int .i64 ((m1.many : Int) + 1)) (by rw [hm2]) (by rw [hm2]) (by rw [hm2]; unfold MkV.box; simp)
  have c13 := HM1.out.box.cell_at (i := 13) rfl
  have f13 := HM1.out.box.free 13
  have cl := HM1.out.box.lt
  have hmany : m1.many ≤ 1000000000 := by have := (HS.out.mono (show 1 + 0 ≤ K by omega)).next HL1.out; have := this.many; omega
  have HFI := Lib.hid hfield
  clear hfield
  go_upto_region 11 with fail
  have hM2 := HFI.out.1
  have hF2 := HFI.out.2
  obtain ⟨wcs, hwr, hwat⟩ := hM2.waits
  obtain ⟨wa, wc, hwv⟩ := tail_form hwr
  have p12 := hM2.box.cell_at (i := 12) rfl
  rw [hwv] at p12
  have p6 := hM2.box.cell_at (i := 6) rfl
  have pl := hM2.box.lt
  have hob2 := HB.out.next hF2
  have b0 := hob2.1.cell_at (i := 0) rfl
  have b1 := hob2.1.cell_at (i := 1) rfl
  have b2 := hob2.1.cell_at (i := 2) rfl
  have b3 := hob2.1.cell_at (i := 3) rfl
  have b4 := hob2.1.cell_at (i := 4) rfl
  have bl := hob2.1.lt
  have hn2 := HN.out.keep (hF2.below HM1.out)
  have HF2 := Lib.hid (HF1.out.trans hF2)
  have HM2 := Lib.hid hM2
  clear c13 f13 cl HFI hF2 hob2 hmany
  generalize w1.setCell ⟨E.mb, 13, none⟩ (.int .i64 ((m1.many : Int) + 1)) = w2 at *
  have HN2 := Lib.hid hn2
  have HSUBC : Hid (∀ w, Grew w2 w → Calls Try.prog 61 #[.agg #[.int .u8 7, .string bnm, .string btx, .slice bsa bsl bsc, .slice bna subs.length bnc]] w fun e W' => (∃ v, e = .returned v ∧ NodeR E.base (Nd.sub1 (.mk 7 bnm tx set subs)) v W') ∧ Grew w W') :=
    Lib.hid fun w hw => msub_ok _ E.base w _ _ _ _ _ (Nat.le_trans hM2.lim hw.size) (hn2.keep (hw.mono hM2.lim))
  have HLIM := Lib.hid hM2.lim
  have HWR := Lib.hid hwr
  have HWAT := Lib.hid hwat
  have HWV := Lib.hid hwv
  obtain ⟨wn, hwn⟩ : ∃ wn, m2.waits.length = wn := ⟨_, rfl⟩
  rw [hwn] at p12 HWV
  have HWN := Lib.hid hwn
  obtain ⟨i0, hi, hz0, hz1, hz2⟩ := info_parts info_await
  have HI := Lib.hid hi
  have HZ0 := Lib.hid hz0
  have HZ1 := Lib.hid hz1
  have HZ2 := Lib.hid hz2
  clear hM2 hwr hwat hwv hn2 hwn hi hz0 hz1 hz2
  obtain ⟨r0, hr0⟩ : ∃ r0, m2.rule = r0 := ⟨_, rfl⟩
  rw [hr0] at p6
  have HR0 := Lib.hid hr0
  clear hr0
  refine wp_region_hav_lit follows (by kernel_rfl) ?_
  repeat (first
    | (refine HavG.skip (fun _ => rfl) ?_; simp only [Act.put, List.setIfInBounds_toArray, List.set_cons_zero, List.set_cons_succ])
    | (refine HavG.val (fun _ => rfl) ?_ (fun x w hw _ => ?_) ?_; rotate_left; (focus (have hc := hw.cells; clear hw; go_simp; first | done | rfl)); simp only [Act.put, List.setIfInBounds_toArray, List.set_cons_zero, List.set_cons_succ]))
  refine HavG.any (fun _ => rfl) (SubR E.base (Nd.sub1 (.mk 7 bnm tx set subs))) (fun _ _ _ hg h => SubR.keep hg h) (fun x w hw _ => ?_) ?_
  · have HW := Lib.hid hw
    clear hw
    go_simp
    refine (HSUBC.out _ HW.out).mono ?_
    rintro e w' ⟨⟨v, rfl, hv⟩, hb⟩
    exact ⟨hb, hv, Nat.le_trans HLIM.out (HW.out.trans hb).size⟩
  simp only [Act.put, List.setIfInBounds_toArray, List.set_cons_zero, List.set_cons_succ]
  refine HavG.any (fun _ => rfl) (WaitR E.base r0 (Nd.sub1 (.mk 7 bnm tx set subs))) (fun _ _ _ hg h => WaitR.keep hg h) (fun x w hw hd => ?_) ?_
  · have hd10 := hd _ (List.mem_append_right _ (List.mem_singleton.2 rfl)) (by kernel_rfl)
    dsimp only at hd10
    clear hd hw
    generalize x (0 + 1 + 1 + 1 + 1 + 1 + 1 + 1 + 1 + 1 + 1) = y10 at *
    obtain ⟨⟨y0, y1, y2, y3, y4, rfl, hy⟩, hyl⟩ := hd10
    have HY := Lib.hid hy
    clear hy
    go_simp
    exact ⟨Grew.refl w, y0, y1, y2, y3, y4, rfl, HY.out, hyl⟩
  simp only [Act.put, List.setIfInBounds_toArray, List.set_cons_zero, List.set_cons_succ]
  refine HavG.any (fun _ => rfl) (WaitS E.base r0 (Nd.sub1 (.mk 7 bnm tx set subs))) (fun _ _ _ hg h => WaitS.keep hg h) (fun x w hw hd => ?_) ?_
  · have hd11 := hd _ (List.mem_append_right _ (List.mem_singleton.2 rfl)) (by kernel_rfl)
    dsimp only at hd11
    clear hd hw
    generalize x (0 + 1 + 1 + 1 + 1 + 1 + 1 + 1 + 1 + 1 + 1 + 1) = y11 at *
    obtain ⟨y0, y1, y2, y3, y4, rfl, hy, hyl⟩ := hd11
    obtain ⟨ck, cnm, ctx, csa, csl, csc, cna, cnl, cnc, rfl, rfl, rfl, rfl, rfl⟩ := hy.forms
    have HY := Lib.hid hy
    have HYL := Lib.hid hyl
    clear hy hyl
    go_simp
    have hga := grew_alloc w (.cells #[.int .i64 r0, .int .u8 ck, .string cnm, .string ctx, .slice csa csl csc, .slice cna cnl cnc] 117)
    exact ⟨hga, w.heap.size, _, _, _, _, _, rfl, Owns.alloc _ _ _, HY.out.keep (hga.mono HYL.out), Nat.le_trans HYL.out hga.size⟩
  simp only [Act.put, List.setIfInBounds_toArray, List.set_cons_zero, List.set_cons_succ]
  refine HavG.tail0 (by kernel_rfl) (by kernel_rfl) (by kernel_rfl) (fun _ _ d _ _ h => by cases d <;> exact h) (by decide) (fun x w3 hw hx => ?_)
  have hx12 := hx _ (List.mem_append_right _ (List.mem_singleton.2 rfl))
  clear hx
  dsimp only at hx12
  generalize x (0 + 1 + 1 + 1 + 1 + 1 + 1 + 1 + 1 + 1 + 1 + 1 + 1) = y12 at *
  obtain ⟨nb, y0, y1, y2, y3, y4, rfl, hnb, hy, hyl⟩ := hx12
  have hM3 := HM2.out.grew hw
  have HM3 := Lib.hid hM3
  have HF3 := Lib.hid (HF2.out.trans (Frk.grew (E := E) (m := m2) (V := V1) hw))
  have hrow : tailRow w3 E.base 117 6 (.slice wa wn wc) wn wcs := by have := trow_but HWR.out (But.of_grew (F := fun _ => False) hw) (fun _ _ => id); rw [HWV.out, HWN.out] at this; exact this
  have HROW := Lib.hid hrow
  have HWAT3 := Lib.hid (HWAT.out.keep (hw.mono HLIM.out))
  have HNS := Lib.hid (owns_newsO hnb)
  have hwl : wn ≤ 1000000000 := by have := ((HS.out.mono (show 1 + 0 ≤ K by omega)).next HL1.out).waits; rw [← HWN.out, hm2]; exact this
  have H63 := Lib.hid (show wn + 1 ≤ maxLen by unfold maxLen; omega)
  have H64 := Lib.hid (show (wn + 1) * 96 ≤ 140737488355328 by omega)
  have HLIM3 := Lib.hid hM3.lim
  obtain ⟨ck, cnm, ctx, csa, csl, csc, cna, cnl, cnc, rfl, rfl, rfl, rfl, rfl⟩ := hy.forms
  have HY := Lib.hid hy
  have HL1X := Lib.hid (show ∀ u ∈ [Value.int .i64 r0, .int .u8 ck, .string cnm, .string ctx, .slice csa csl csc, .slice cna cnl cnc], u.oneCell' = true by
    intro u hu
    simp only [List.mem_cons, List.not_mem_nil, or_false] at hu
    rcases hu with rfl | rfl | rfl | rfl | rfl | rfl <;> rfl)
  clear hw hnb hM3 hrow hy p12 p6 pl b0 b1 b2 b3 b4 bl hwl
  go_wp2_with (at_builtin; refine wpList_append_tail w3 rfl _ _ 111 rfl E.base 117 i0 _ 6 96 Try.underlying111 HI.out HZ0.out HZ1.out HZ2.out rfl (by decide) (.slice wa wn wc) wn wcs rfl HROW.out ⟨nb, 0, none⟩ 1 1 [.int .i64 r0, .int .u8 ck, .string cnm, .string ctx, .slice csa csl csc, .slice cna cnl cnc] rfl rfl HNS.out HL1X.out (by decide) H63.out H64.out HLIM3.out _ rfl ?_; intro gb cap w4 hown hgrow hat hlt3; have HOWN := Lib.hid hown; have HGROW := Lib.hid hgrow; have HAT := Lib.hid hat; have hb4 := owns_far HM3.out.box hgrow (own_boxT HROW.out HM3.out.box (by decide)); have b18 : w4.cell? ⟨E.mb, 12, none⟩ = some V1.wv := hb4.cell_at (i := 12) rfl; rw [HWV.out] at b18; have f18 : w4.frozen? ⟨E.mb, 12, none⟩ = false := hb4.free 12; have l18 := hb4.lt; clear hb4 hown hgrow hat hlt3)
  have hpush := HM3.out.pushWait (w1 := w4) (g := gb) (v := .slice (some ⟨gb, 0, none⟩) (wn + 1) cap) (x := (r0, Nd.sub1 (.mk 7 bnm tx set subs))) (cs := wcs) (cs' := wcs ++ [.int .i64 r0, .int .u8 ck, .string cnm, .string ctx, .slice csa csl csc, .slice cna cnl cnc]) (by rw [HWV.out, HWN.out]; exact HROW.out) (by rw [HWV.out]; exact HGROW.out) (by rw [HWN.out]; exact HOWN.out) (waits_snoc HY.out HWAT3.out) rfl (by rw [HWV.out]; exact HAT.out)
  go_end0
  have hres : (m0.edge a 3 m0.many b).wait (Nd.sub1 (.mk 7 bnm tx set subs)) = m2.addWait (r0, Nd.sub1 (.mk 7 bnm tx set subs)) := by
    rw [← HEM1.out, ← HR0.out, hm2]
    rfl
  rw [hres]
  exact ⟨⟨_, rfl⟩, _, hpush.1, HF3.out.trans hpush.2⟩
end Go.Proofs.Ytgdcnndmdgcjlaa

/- The making's piece: alternatives, options, loops. -/
namespace Go.Proofs.Ytgdcnndmdgcjlaa
open Go.RowKit
def PieceK (E : MkE) (g : Gr) (K1 : Nat) (n : Nd) : Prop := ∀ (m : Mk) (V : MkV) (W : World) (v0 v1 v2 v3 v4 : Value) (a b : Nat), MkAt E W m V → GrAt W E.base (some E.g0) (some E.g1) (some E.g2) (some E.g3) g → NodeAt W E.base (some v0) (some v1) (some v2) (some v3) (some v4) n → m.has a → m.Slim K1 →
  Calls Try.prog 44 #[.pointer (some ⟨E.mb, 0, none⟩), .agg #[v0, v1, v2, v3, v4], .int .i64 a, .int .i64 b] W fun e W' => (∃ v, e = .returned v) ∧ Made E m V (n.piece (E.nums g) a b m) W W'
def Nd.mkStar (P : Nums) (n1 : Nd) (a b : Nat) (m : Mk) : Mk :=
  ((n1.piece P (m.state.2.state.2.empty a m.state.1).state.1 m.state.1 ((m.state.2.state.2.empty a m.state.1).state.2.alt m.state.1 (m.state.2.state.2.empty a m.state.1).state.1 m.state.1))).leaving m.state.1 m.state.2.state.1 b
def Nd.mkPlus (P : Nums) (n1 : Nd) (a b : Nat) (m : Mk) : Mk :=
  ((n1.piece P m.state.1 m.state.2.state.1 (m.state.2.state.2.state.2.empty a m.state.1)).alt m.state.2.state.1 m.state.1 m.state.2.state.1).leaving m.state.2.state.1 m.state.2.state.2.state.1 b
set_option maxHeartbeats 4000000 in
set_option maxRecDepth 40000 in
theorem mpiece_alts (E : MkE) (g : Gr) (hE : E.rules.length ≤ reachN ∧ E.tokens.length ≤ reachN) (k : Int) (nm tx : ByteArray) (set : List (Int × Int)) (subs : List Nd) (hk : k = 0) (hp : ∀ i (h : i < subs.length), PieceOk E g subs[i]) (m0 : Mk) (V0 : MkV) (W : World) (v0 v1 v2 v3 v4 : Value) (a b : Nat) (h : MkAt E W m0 V0) (hg : GrAt W E.base (some E.g0) (some E.g1) (some E.g2) (some E.g3) g)
    (hn : NodeAt W E.base (some v0) (some v1) (some v2) (some v3) (some v4) (.mk k nm tx set subs)) (ha : m0.has a) (hs : m0.Slim (Nd.mk k nm tx set subs).req) (hf : m0.full = false) :
    Calls Try.prog 44 #[.pointer (some ⟨E.mb, 0, none⟩), .agg #[v0, v1, v2, v3, v4], .int .i64 a, .int .i64 b] W fun e W' => (∃ v, e = .returned v) ∧ Made E m0 V0 (Nd.mkAlts (E.nums g) subs a b m0) W W' := by
  have hKp := Nd.req_pos (.mk k nm tx set subs)
  have hK9 : ¬(k = 1 ∧ subs.length = 0) → (Nd.mk k nm tx set subs).req = 9 + Nd.reqs subs := fun h => by rw [Nd.req, if_neg h]
  generalize (Nd.mk k nm tx set subs).req = K at hs hKp hK9
  have hn9 := hn
  obtain ⟨bk, bnm, btx, bsa, bsl, bsc, bna, bnl, bnc, rfl, rfl, rfl, rfl, rfl⟩ := hn.forms
  rw [NodeAt] at hn9
  obtain ⟨-, -, -, hz0, hz1, -, -, na, nc, hz4, hsl, hsubs⟩ := hn9
  simp only [Option.some.injEq, Value.slice.injEq, Value.int.injEq, true_and] at hz4 hz0
  have hy1 := Value.string.inj (Option.some.inj hz1)
  clear hz1
  subst hy1
  obtain ⟨rfl, rfl, rfl⟩ := hz4
  have hy0 := hz0.symm
  clear hz0
  subst hy0
  subst hk
  have hK9 := hK9 (by rintro ⟨h, _⟩; exact absurd h (by decide))
  have hk6 : ((0 : Int) == 6) = false := by decide
  have hk5 : ((0 : Int) == 5) = false := by decide
  have hk7 : ((0 : Int) == 7) = false := by decide
  have hk1 : ((0 : Int) == 1) = false := by decide
  have hk0 : ((0 : Int) == 0) = true := by decide
  obtain ⟨w0, hw0⟩ : ∃ w0, W.alloc (.cells #[.int .u8 0, .string bnm, .string btx, .slice bsa bsl bsc, .slice bna subs.length bnc] 104) = w0 := ⟨_, rfl⟩
  have hgr : Grew W w0 := hw0 ▸ grew_alloc W _
  have hob : Owns w0 W.heap.size [.int .u8 0, .string bnm, .string btx, .slice bsa bsl bsc, .slice bna subs.length bnc] 104 := hw0 ▸ Owns.alloc W _ _
  have HB := Lib.hid (OwnsX.fresh h hob)
  have HG := Lib.hid (hg.keep (hgr.mono h.lim))
  have HN := Lib.hid (hn.keep (hgr.mono h.lim))
  have HF0 := Lib.hid (Frk.grew (E := E) (m := m0) (V := V0) hgr)
  have hm9 := h.grew hgr
  have c14 := hm9.box.cell_at (i := 14) rfl
  rw [hf] at c14
  have cl := hm9.box.lt
  have b0 := hob.cell_at (i := 0) rfl
  have b1 := hob.cell_at (i := 1) rfl
  have b2 := hob.cell_at (i := 2) rfl
  have b3 := hob.cell_at (i := 3) rfl
  have b4 := hob.cell_at (i := 4) rfl
  have bl := hob.lt
  have HSUB := Lib.hid (SubsAt.of h hsubs)
  have HSU := Lib.hid (HSUB.out.next h (Frk.grew hgr))
  have HM0 := Lib.hid hm9
  have HL0 := Lib.hid (Mk.Le.refl m0)
  have HS := Lib.hid hs
  have HFU := Lib.hid hf
  have HX_a := Lib.hid ha
  have HE := Lib.hid hE
  unfold reachN at hsl
  clear h hg hn ha hs hgr hob hm9 hsubs HSUB hE hf
  go_enter Try.func44, Try.ntmps44
  have HC := Lib.hid (malts_ok E g subs hp (by unfold reachN; omega) m0 V0 w0 HM0.out HG.out bna bnc HSU.out a b HX_a.out K (by omega) HS.out)
  clear hp
  go_wp2_with fail
  refine HC.out.mono ?_
  rintro e w1 ⟨⟨v, rfl⟩, V1, hM, hF⟩
  have HM1 := Lib.hid hM
  have HF1 := Lib.hid (HF0.out.trans hF)
  clear hM hF
  go_wp2_with fail
  go_end0
  exact ⟨⟨_, rfl⟩, V1, HM1.out, HF1.out⟩
set_option maxHeartbeats 4000000 in
set_option maxRecDepth 40000 in
theorem mpiece_star (E : MkE) (g : Gr) (hE : E.rules.length ≤ reachN ∧ E.tokens.length ≤ reachN) (k : Int) (nm tx : ByteArray) (set : List (Int × Int)) (subs : List Nd) (hk : k = 3) (K1 : Nat) (hk1 : K1 + 6 ≤ 9 + Nd.reqs subs) (hp1 : PieceK E g K1 (Nd.sub1 (.mk k nm tx set subs))) (hl1 : ∀ a b m, Mk.Le K1 m ((Nd.sub1 (.mk k nm tx set subs)).piece (E.nums g) a b m)) (m0 : Mk) (V0 : MkV) (W : World) (v0 v1 v2 v3 v4 : Value) (a b : Nat) (h : MkAt E W m0 V0) (hg : GrAt W E.base (some E.g0) (some E.g1) (some E.g2) (some E.g3) g)
    (hn : NodeAt W E.base (some v0) (some v1) (some v2) (some v3) (some v4) (.mk k nm tx set subs)) (ha : m0.has a) (hs : m0.Slim (Nd.mk k nm tx set subs).req) (hf : m0.full = false) :
    Calls Try.prog 44 #[.pointer (some ⟨E.mb, 0, none⟩), .agg #[v0, v1, v2, v3, v4], .int .i64 a, .int .i64 b] W fun e W' => (∃ v, e = .returned v) ∧ Made E m0 V0 (Nd.mkStar (E.nums g) (Nd.sub1 (.mk k nm tx set subs)) a b m0) W W' := by
  have hKp := Nd.req_pos (.mk k nm tx set subs)
  have hK9 : ¬(k = 1 ∧ subs.length = 0) → (Nd.mk k nm tx set subs).req = 9 + Nd.reqs subs := fun h => by rw [Nd.req, if_neg h]
  generalize (Nd.mk k nm tx set subs).req = K at hs hKp hK9
  have hn9 := hn
  obtain ⟨bk, bnm, btx, bsa, bsl, bsc, bna, bnl, bnc, rfl, rfl, rfl, rfl, rfl⟩ := hn.forms
  rw [NodeAt] at hn9
  obtain ⟨-, -, -, hz0, hz1, -, -, na, nc, hz4, hsl, hsubs⟩ := hn9
  simp only [Option.some.injEq, Value.slice.injEq, Value.int.injEq, true_and] at hz4 hz0
  have hy1 := Value.string.inj (Option.some.inj hz1)
  clear hz1
  subst hy1
  obtain ⟨rfl, rfl, rfl⟩ := hz4
  have hy0 := hz0.symm
  clear hz0
  subst hy0
  subst hk
  have hK9 := hK9 (by rintro ⟨h, _⟩; exact absurd h (by decide))
  have hk6 : ((3 : Int) == 6) = false := by decide
  have hk5 : ((3 : Int) == 5) = false := by decide
  have hk7 : ((3 : Int) == 7) = false := by decide
  have hk1 : ((3 : Int) == 1) = false := by decide
  have hk0 : ((3 : Int) == 0) = false := by decide
  have hk2 : ((3 : Int) == 2) = false := by decide
  have hk3 : ((3 : Int) == 3) = true := by decide
  obtain ⟨w0, hw0⟩ : ∃ w0, W.alloc (.cells #[.int .u8 3, .string bnm, .string btx, .slice bsa bsl bsc, .slice bna subs.length bnc] 104) = w0 := ⟨_, rfl⟩
  have hgr : Grew W w0 := hw0 ▸ grew_alloc W _
  have hob : Owns w0 W.heap.size [.int .u8 3, .string bnm, .string btx, .slice bsa bsl bsc, .slice bna subs.length bnc] 104 := hw0 ▸ Owns.alloc W _ _
  have HB := Lib.hid (OwnsX.fresh h hob)
  have HG := Lib.hid (hg.keep (hgr.mono h.lim))
  have HN := Lib.hid (hn.keep (hgr.mono h.lim))
  have HF0 := Lib.hid (Frk.grew (E := E) (m := m0) (V := V0) hgr)
  have hm9 := h.grew hgr
  have c14 := hm9.box.cell_at (i := 14) rfl
  rw [hf] at c14
  have cl := hm9.box.lt
  have b0 := hob.cell_at (i := 0) rfl
  have b1 := hob.cell_at (i := 1) rfl
  have b2 := hob.cell_at (i := 2) rfl
  have b3 := hob.cell_at (i := 3) rfl
  have b4 := hob.cell_at (i := 4) rfl
  have bl := hob.lt
  have HSUB := Lib.hid (SubsAt.of h hsubs)
  have HSU := Lib.hid (HSUB.out.next h (Frk.grew hgr))
  have HM0 := Lib.hid hm9
  have HL0 := Lib.hid (Mk.Le.refl m0)
  have HS := Lib.hid hs
  have HFU := Lib.hid hf
  have HX_a := Lib.hid ha
  have HE := Lib.hid hE
  unfold reachN at hsl
  clear h hg hn ha hs hgr hob hm9 hsubs HSUB hE hf
  go_enter Try.func44, Try.ntmps44
  have HP1 := Lib.hid hp1
  have HLN := Lib.hid hl1
  clear hp1 hl1
  have HC := Lib.hid (mstate_ok E m0 V0 w0 HM0.out ((HS.out.mono (show 0 + 0 ≤ K by omega)).next HL0.out).cap)
  go_wp2_with fail
  refine HC.out.mono ?_
  clear HC
  rintro e9 w1 ⟨rfl, V1, hM, hF⟩
  obtain ⟨m1, hm⟩ : ∃ m9, m9 = m0.state.2 := ⟨_, rfl⟩
  rw [← hm] at hM hF
  have hle : Mk.Le 0 m0 m1 := hm ▸ m0.state_le
  obtain ⟨d, hx⟩ : ∃ x9, x9 = m0.state.1 := ⟨_, rfl⟩
  rw [← hx]
  have HX_d : Hid (m1.has d) := Lib.hid (by rw [hm, hx]; exact m0.state_has)
  have HEX_d := Lib.hid hx
  clear hx
  have HX_a := Lib.hid (HX_a.out.next hle)
  have HG := Lib.hid (HG.out.keep (hF.below HM0.out))
  have HN := Lib.hid (HN.out.keep (hF.below HM0.out))
  have HB := Lib.hid (HB.out.next hF)
  have HL1 : Hid (Mk.Le 0 m0 m1) := Lib.hid ((HL0.out.trans hle).mono (by omega))
  have HM1 := Lib.hid hM
  have HF1 := Lib.hid (HF0.out.trans hF)
  have HEM1 := Lib.hid hm
  clear hM hF hm hle HM0 HF0 HL0
  have HC := Lib.hid (mstate_ok E m1 V1 w1 HM1.out ((HS.out.mono (show 0 + 0 ≤ K by omega)).next HL1.out).cap)
  go_wp2_with fail
  refine HC.out.mono ?_
  clear HC
  rintro e9 w2 ⟨rfl, V2, hM, hF⟩
  obtain ⟨m2, hm⟩ : ∃ m9, m9 = m1.state.2 := ⟨_, rfl⟩
  rw [← hm] at hM hF
  have hle : Mk.Le 0 m1 m2 := hm ▸ m1.state_le
  obtain ⟨e, hx⟩ : ∃ x9, x9 = m1.state.1 := ⟨_, rfl⟩
  rw [← hx]
  have HX_e : Hid (m2.has e) := Lib.hid (by rw [hm, hx]; exact m1.state_has)
  have HEX_e := Lib.hid hx
  clear hx
  have HX_a := Lib.hid (HX_a.out.next hle)
  have HX_d := Lib.hid (HX_d.out.next hle)
  have HG := Lib.hid (HG.out.keep (hF.below HM1.out))
  have HN := Lib.hid (HN.out.keep (hF.below HM1.out))
  have HB := Lib.hid (HB.out.next hF)
  have HL2 : Hid (Mk.Le 0 m0 m2) := Lib.hid ((HL1.out.trans hle).mono (by omega))
  have HM2 := Lib.hid hM
  have HF2 := Lib.hid (HF1.out.trans hF)
  have HEM2 := Lib.hid hm
  clear hM hF hm hle HM1 HF1 HL1
  have HC := Lib.hid (mempty_ok E m2 V2 w2 HM2.out a d HX_a.out (by have := ((HS.out.mono (show 0 + 1 ≤ K by omega)).next HL2.out).edges a; omega))
  go_wp2_with fail
  refine HC.out.mono ?_
  clear HC
  rintro e9 w3 ⟨⟨v, rfl⟩, V3, hM, hF⟩
  obtain ⟨m3, hm⟩ : ∃ m9, m9 = m2.empty a d := ⟨_, rfl⟩
  rw [← hm] at hM hF
  have hle : Mk.Le 1 m2 m3 := hm ▸ m2.empty_le a d
  have HX_a := Lib.hid (HX_a.out.next hle)
  have HX_d := Lib.hid (HX_d.out.next hle)
  have HX_e := Lib.hid (HX_e.out.next hle)
  have HG := Lib.hid (HG.out.keep (hF.below HM2.out))
  have HN := Lib.hid (HN.out.keep (hF.below HM2.out))
  have HB := Lib.hid (HB.out.next hF)
  have HL3 : Hid (Mk.Le 1 m0 m3) := Lib.hid ((HL2.out.trans hle).mono (by omega))
  have HM3 := Lib.hid hM
  have HF3 := Lib.hid (HF2.out.trans hF)
  have HEM3 := Lib.hid hm
  clear hM hF hm hle HM2 HF2 HL2
  have HC := Lib.hid (mstate_ok E m3 V3 w3 HM3.out ((HS.out.mono (show 1 + 0 ≤ K by omega)).next HL3.out).cap)
  go_wp2_with fail
  refine HC.out.mono ?_
  clear HC
  rintro e9 w4 ⟨rfl, V4, hM, hF⟩
  obtain ⟨m4, hm⟩ : ∃ m9, m9 = m3.state.2 := ⟨_, rfl⟩
  rw [← hm] at hM hF
  have hle : Mk.Le 0 m3 m4 := hm ▸ m3.state_le
  obtain ⟨x, hx⟩ : ∃ x9, x9 = m3.state.1 := ⟨_, rfl⟩
  rw [← hx]
  have HX_x : Hid (m4.has x) := Lib.hid (by rw [hm, hx]; exact m3.state_has)
  have HEX_x := Lib.hid hx
  clear hx
  have HX_a := Lib.hid (HX_a.out.next hle)
  have HX_d := Lib.hid (HX_d.out.next hle)
  have HX_e := Lib.hid (HX_e.out.next hle)
  have HG := Lib.hid (HG.out.keep (hF.below HM3.out))
  have HN := Lib.hid (HN.out.keep (hF.below HM3.out))
  have HB := Lib.hid (HB.out.next hF)
  have HL4 : Hid (Mk.Le (1 + 0) m0 m4) := Lib.hid ((HL3.out.trans hle).mono (by omega))
  have HM4 := Lib.hid hM
  have HF4 := Lib.hid (HF3.out.trans hF)
  have HEM4 := Lib.hid hm
  clear hM hF hm hle HM3 HF3 HL3
  have HC := Lib.hid (malt_ok E m4 V4 w4 HM4.out d x d HX_d.out (by have := ((HS.out.mono (show (1 + 0) + 1 ≤ K by omega)).next HL4.out).edges d; omega) (by have := ((HS.out.mono (show (1 + 0) + 1 ≤ K by omega)).next HL4.out).ends d; omega))
  go_wp2_with fail
  refine HC.out.mono ?_
  clear HC
  rintro e9 w5 ⟨⟨v, rfl⟩, V5, hM, hF⟩
  obtain ⟨m5, hm⟩ : ∃ m9, m9 = m4.alt d x d := ⟨_, rfl⟩
  rw [← hm] at hM hF
  have hle : Mk.Le 1 m4 m5 := hm ▸ m4.alt_le d x d
  have HX_a := Lib.hid (HX_a.out.next hle)
  have HX_d := Lib.hid (HX_d.out.next hle)
  have HX_e := Lib.hid (HX_e.out.next hle)
  have HX_x := Lib.hid (HX_x.out.next hle)
  have HG := Lib.hid (HG.out.keep (hF.below HM4.out))
  have HN := Lib.hid (HN.out.keep (hF.below HM4.out))
  have HB := Lib.hid (HB.out.next hF)
  have HL5 : Hid (Mk.Le ((1 + 0) + 1) m0 m5) := Lib.hid ((HL4.out.trans hle).mono (by omega))
  have HM5 := Lib.hid hM
  have HF5 := Lib.hid (HF4.out.trans hF)
  have HEM5 := Lib.hid hm
  clear hM hF hm hle HM4 HF4 HL4
  have HC := Lib.hid (msub_ok _ E.base w5 _ _ _ _ _ HM5.out.lim HN.out)
  have b0 := HB.out.1.cell_at (i := 0) rfl
  have b1 := HB.out.1.cell_at (i := 1) rfl
  have b2 := HB.out.1.cell_at (i := 2) rfl
  have b3 := HB.out.1.cell_at (i := 3) rfl
  have b4 := HB.out.1.cell_at (i := 4) rfl
  have bl := HB.out.1.lt
  go_wp2_with fail
  refine HC.out.mono ?_
  clear HC b0 b1 b2 b3 b4 bl
  rintro e9 u5 ⟨⟨v, rfl, y0, y1, y2, y3, y4, rfl, hy⟩, hb⟩
  obtain ⟨ck, cnm, ctx, csa, csl, csc, cna, cnl, cnc, rfl, rfl, rfl, rfl, rfl⟩ := hy.forms
  have HY := Lib.hid hy
  have HG := Lib.hid (HG.out.keep ((Frk.grew hb).below HM5.out))
  have HN := Lib.hid (HN.out.keep ((Frk.grew hb).below HM5.out))
  have HB := Lib.hid (HB.out.next (Frk.grew hb))
  have HF5 := Lib.hid (HF5.out.trans (Frk.grew hb))
  have HM5 := Lib.hid (HM5.out.grew hb)
  clear hy hb
  have HC := Lib.hid (HP1.out m5 V5 u5 (.int .u8 ck) (.string cnm) (.string ctx) (.slice csa csl csc) (.slice cna cnl cnc) x d HM5.out HG.out HY.out HX_x.out (((HS.out.mono (show ((1 + 0) + 1) + K1 ≤ K by omega)).next HL5.out).mono (by omega)))
  go_wp2_with fail
  refine HC.out.mono ?_
  clear HC
  rintro e9 w6 ⟨⟨v, rfl⟩, V6, hM, hF⟩
  obtain ⟨m6, hm⟩ : ∃ m9, m9 = (Nd.sub1 (.mk 3 bnm tx set subs)).piece (E.nums g) x d m5 := ⟨_, rfl⟩
  rw [← hm] at hM hF
  have hle : Mk.Le K1 m5 m6 := hm ▸ HLN.out x d m5
  have HX_a := Lib.hid (HX_a.out.next hle)
  have HX_d := Lib.hid (HX_d.out.next hle)
  have HX_e := Lib.hid (HX_e.out.next hle)
  have HX_x := Lib.hid (HX_x.out.next hle)
  have HG := Lib.hid (HG.out.keep (hF.below HM5.out))
  have HN := Lib.hid (HN.out.keep (hF.below HM5.out))
  have HB := Lib.hid (HB.out.next hF)
  have HL6 : Hid (Mk.Le (((1 + 0) + 1) + K1) m0 m6) := Lib.hid ((HL5.out.trans hle).mono (by omega))
  have HM6 := Lib.hid hM
  have HF6 := Lib.hid (HF5.out.trans hF)
  have HEM6 := Lib.hid hm
  clear hM hF hm hle HM5 HF5 HL5
  have HC := Lib.hid (mleaving_ok E m6 V6 w6 HM6.out d e b HX_d.out HX_e.out ((HS.out.mono (show (((1 + 0) + 1) + K1) + 3 ≤ K by omega)).next HL6.out))
  go_wp2_with fail
  refine HC.out.mono ?_
  clear HC
  rintro e9 w7 ⟨⟨v, rfl⟩, V7, hM, hF⟩
  obtain ⟨m7, hm⟩ : ∃ m9, m9 = m6.leaving d e b := ⟨_, rfl⟩
  rw [← hm] at hM hF
  have hle : Mk.Le 3 m6 m7 := hm ▸ m6.leaving_le d e b
  have HX_a := Lib.hid (HX_a.out.next hle)
  have HX_d := Lib.hid (HX_d.out.next hle)
  have HX_e := Lib.hid (HX_e.out.next hle)
  have HX_x := Lib.hid (HX_x.out.next hle)
  have HG := Lib.hid (HG.out.keep (hF.below HM6.out))
  have HN := Lib.hid (HN.out.keep (hF.below HM6.out))
  have HB := Lib.hid (HB.out.next hF)
  have HL7 : Hid (Mk.Le ((((1 + 0) + 1) + K1) + 3) m0 m7) := Lib.hid ((HL6.out.trans hle).mono (by omega))
  have HM7 := Lib.hid hM
  have HF7 := Lib.hid (HF6.out.trans hF)
  have HEM7 := Lib.hid hm
  clear hM hF hm hle HM6 HF6 HL6
  go_wp2_with fail
  go_end0
  have hres : Nd.mkStar (E.nums g) (Nd.sub1 (.mk 3 bnm tx set subs)) a b m0 = m7 := by
    unfold Nd.mkStar
    rw [← HEM1.out, ← HEM2.out, ← HEX_d.out, ← HEX_e.out, ← HEM3.out, ← HEM4.out, ← HEX_x.out, ← HEM5.out, ← HEM6.out, ← HEM7.out]
  rw [hres]
  exact ⟨⟨_, rfl⟩, _, HM7.out, HF7.out⟩
set_option maxHeartbeats 4000000 in
set_option maxRecDepth 40000 in
theorem mpiece_plus (E : MkE) (g : Gr) (hE : E.rules.length ≤ reachN ∧ E.tokens.length ≤ reachN) (k : Int) (nm tx : ByteArray) (set : List (Int × Int)) (subs : List Nd) (hk : k = 4) (K1 : Nat) (hk1 : K1 + 6 ≤ 9 + Nd.reqs subs) (hp1 : PieceK E g K1 (Nd.sub1 (.mk k nm tx set subs))) (hl1 : ∀ a b m, Mk.Le K1 m ((Nd.sub1 (.mk k nm tx set subs)).piece (E.nums g) a b m)) (m0 : Mk) (V0 : MkV) (W : World) (v0 v1 v2 v3 v4 : Value) (a b : Nat) (h : MkAt E W m0 V0) (hg : GrAt W E.base (some E.g0) (some E.g1) (some E.g2) (some E.g3) g)
    (hn : NodeAt W E.base (some v0) (some v1) (some v2) (some v3) (some v4) (.mk k nm tx set subs)) (ha : m0.has a) (hs : m0.Slim (Nd.mk k nm tx set subs).req) (hf : m0.full = false) :
    Calls Try.prog 44 #[.pointer (some ⟨E.mb, 0, none⟩), .agg #[v0, v1, v2, v3, v4], .int .i64 a, .int .i64 b] W fun e W' => (∃ v, e = .returned v) ∧ Made E m0 V0 (Nd.mkPlus (E.nums g) (Nd.sub1 (.mk k nm tx set subs)) a b m0) W W' := by
  have hKp := Nd.req_pos (.mk k nm tx set subs)
  have hK9 : ¬(k = 1 ∧ subs.length = 0) → (Nd.mk k nm tx set subs).req = 9 + Nd.reqs subs := fun h => by rw [Nd.req, if_neg h]
  generalize (Nd.mk k nm tx set subs).req = K at hs hKp hK9
  have hn9 := hn
  obtain ⟨bk, bnm, btx, bsa, bsl, bsc, bna, bnl, bnc, rfl, rfl, rfl, rfl, rfl⟩ := hn.forms
  rw [NodeAt] at hn9
  obtain ⟨-, -, -, hz0, hz1, -, -, na, nc, hz4, hsl, hsubs⟩ := hn9
  simp only [Option.some.injEq, Value.slice.injEq, Value.int.injEq, true_and] at hz4 hz0
  have hy1 := Value.string.inj (Option.some.inj hz1)
  clear hz1
  subst hy1
  obtain ⟨rfl, rfl, rfl⟩ := hz4
  have hy0 := hz0.symm
  clear hz0
  subst hy0
  subst hk
  have hK9 := hK9 (by rintro ⟨h, _⟩; exact absurd h (by decide))
  have hk6 : ((4 : Int) == 6) = false := by decide
  have hk5 : ((4 : Int) == 5) = false := by decide
  have hk7 : ((4 : Int) == 7) = false := by decide
  have hk1 : ((4 : Int) == 1) = false := by decide
  have hk0 : ((4 : Int) == 0) = false := by decide
  have hk2 : ((4 : Int) == 2) = false := by decide
  have hk3 : ((4 : Int) == 3) = false := by decide
  have hk4 : ((4 : Int) == 4) = true := by decide
  obtain ⟨w0, hw0⟩ : ∃ w0, W.alloc (.cells #[.int .u8 4, .string bnm, .string btx, .slice bsa bsl bsc, .slice bna subs.length bnc] 104) = w0 := ⟨_, rfl⟩
  have hgr : Grew W w0 := hw0 ▸ grew_alloc W _
  have hob : Owns w0 W.heap.size [.int .u8 4, .string bnm, .string btx, .slice bsa bsl bsc, .slice bna subs.length bnc] 104 := hw0 ▸ Owns.alloc W _ _
  have HB := Lib.hid (OwnsX.fresh h hob)
  have HG := Lib.hid (hg.keep (hgr.mono h.lim))
  have HN := Lib.hid (hn.keep (hgr.mono h.lim))
  have HF0 := Lib.hid (Frk.grew (E := E) (m := m0) (V := V0) hgr)
  have hm9 := h.grew hgr
  have c14 := hm9.box.cell_at (i := 14) rfl
  rw [hf] at c14
  have cl := hm9.box.lt
  have b0 := hob.cell_at (i := 0) rfl
  have b1 := hob.cell_at (i := 1) rfl
  have b2 := hob.cell_at (i := 2) rfl
  have b3 := hob.cell_at (i := 3) rfl
  have b4 := hob.cell_at (i := 4) rfl
  have bl := hob.lt
  have HSUB := Lib.hid (SubsAt.of h hsubs)
  have HSU := Lib.hid (HSUB.out.next h (Frk.grew hgr))
  have HM0 := Lib.hid hm9
  have HL0 := Lib.hid (Mk.Le.refl m0)
  have HS := Lib.hid hs
  have HFU := Lib.hid hf
  have HX_a := Lib.hid ha
  have HE := Lib.hid hE
  unfold reachN at hsl
  clear h hg hn ha hs hgr hob hm9 hsubs HSUB hE hf
  go_enter Try.func44, Try.ntmps44
  have HP1 := Lib.hid hp1
  have HLN := Lib.hid hl1
  clear hp1 hl1
  have HC := Lib.hid (mstate_ok E m0 V0 w0 HM0.out ((HS.out.mono (show 0 + 0 ≤ K by omega)).next HL0.out).cap)
  go_wp2_with fail
  refine HC.out.mono ?_
  clear HC
  rintro e9 w1 ⟨rfl, V1, hM, hF⟩
  obtain ⟨m1, hm⟩ : ∃ m9, m9 = m0.state.2 := ⟨_, rfl⟩
  rw [← hm] at hM hF
  have hle : Mk.Le 0 m0 m1 := hm ▸ m0.state_le
  obtain ⟨x, hx⟩ : ∃ x9, x9 = m0.state.1 := ⟨_, rfl⟩
  rw [← hx]
  have HX_x : Hid (m1.has x) := Lib.hid (by rw [hm, hx]; exact m0.state_has)
  have HEX_x := Lib.hid hx
  clear hx
  have HX_a := Lib.hid (HX_a.out.next hle)
  have HG := Lib.hid (HG.out.keep (hF.below HM0.out))
  have HN := Lib.hid (HN.out.keep (hF.below HM0.out))
  have HB := Lib.hid (HB.out.next hF)
  have HL1 : Hid (Mk.Le 0 m0 m1) := Lib.hid ((HL0.out.trans hle).mono (by omega))
  have HM1 := Lib.hid hM
  have HF1 := Lib.hid (HF0.out.trans hF)
  have HEM1 := Lib.hid hm
  clear hM hF hm hle HM0 HF0 HL0
  have HC := Lib.hid (mstate_ok E m1 V1 w1 HM1.out ((HS.out.mono (show 0 + 0 ≤ K by omega)).next HL1.out).cap)
  go_wp2_with fail
  refine HC.out.mono ?_
  clear HC
  rintro e9 w2 ⟨rfl, V2, hM, hF⟩
  obtain ⟨m2, hm⟩ : ∃ m9, m9 = m1.state.2 := ⟨_, rfl⟩
  rw [← hm] at hM hF
  have hle : Mk.Le 0 m1 m2 := hm ▸ m1.state_le
  obtain ⟨d, hx⟩ : ∃ x9, x9 = m1.state.1 := ⟨_, rfl⟩
  rw [← hx]
  have HX_d : Hid (m2.has d) := Lib.hid (by rw [hm, hx]; exact m1.state_has)
  have HEX_d := Lib.hid hx
  clear hx
  have HX_a := Lib.hid (HX_a.out.next hle)
  have HX_x := Lib.hid (HX_x.out.next hle)
  have HG := Lib.hid (HG.out.keep (hF.below HM1.out))
  have HN := Lib.hid (HN.out.keep (hF.below HM1.out))
  have HB := Lib.hid (HB.out.next hF)
  have HL2 : Hid (Mk.Le 0 m0 m2) := Lib.hid ((HL1.out.trans hle).mono (by omega))
  have HM2 := Lib.hid hM
  have HF2 := Lib.hid (HF1.out.trans hF)
  have HEM2 := Lib.hid hm
  clear hM hF hm hle HM1 HF1 HL1
  have HC := Lib.hid (mstate_ok E m2 V2 w2 HM2.out ((HS.out.mono (show 0 + 0 ≤ K by omega)).next HL2.out).cap)
  go_wp2_with fail
  refine HC.out.mono ?_
  clear HC
  rintro e9 w3 ⟨rfl, V3, hM, hF⟩
  obtain ⟨m3, hm⟩ : ∃ m9, m9 = m2.state.2 := ⟨_, rfl⟩
  rw [← hm] at hM hF
  have hle : Mk.Le 0 m2 m3 := hm ▸ m2.state_le
  obtain ⟨e, hx⟩ : ∃ x9, x9 = m2.state.1 := ⟨_, rfl⟩
  rw [← hx]
  have HX_e : Hid (m3.has e) := Lib.hid (by rw [hm, hx]; exact m2.state_has)
  have HEX_e := Lib.hid hx
  clear hx
  have HX_a := Lib.hid (HX_a.out.next hle)
  have HX_x := Lib.hid (HX_x.out.next hle)
  have HX_d := Lib.hid (HX_d.out.next hle)
  have HG := Lib.hid (HG.out.keep (hF.below HM2.out))
  have HN := Lib.hid (HN.out.keep (hF.below HM2.out))
  have HB := Lib.hid (HB.out.next hF)
  have HL3 : Hid (Mk.Le 0 m0 m3) := Lib.hid ((HL2.out.trans hle).mono (by omega))
  have HM3 := Lib.hid hM
  have HF3 := Lib.hid (HF2.out.trans hF)
  have HEM3 := Lib.hid hm
  clear hM hF hm hle HM2 HF2 HL2
  have HC := Lib.hid (mempty_ok E m3 V3 w3 HM3.out a x HX_a.out (by have := ((HS.out.mono (show 0 + 1 ≤ K by omega)).next HL3.out).edges a; omega))
  go_wp2_with fail
  refine HC.out.mono ?_
  clear HC
  rintro e9 w4 ⟨⟨v, rfl⟩, V4, hM, hF⟩
  obtain ⟨m4, hm⟩ : ∃ m9, m9 = m3.empty a x := ⟨_, rfl⟩
  rw [← hm] at hM hF
  have hle : Mk.Le 1 m3 m4 := hm ▸ m3.empty_le a x
  have HX_a := Lib.hid (HX_a.out.next hle)
  have HX_x := Lib.hid (HX_x.out.next hle)
  have HX_d := Lib.hid (HX_d.out.next hle)
  have HX_e := Lib.hid (HX_e.out.next hle)
  have HG := Lib.hid (HG.out.keep (hF.below HM3.out))
  have HN := Lib.hid (HN.out.keep (hF.below HM3.out))
  have HB := Lib.hid (HB.out.next hF)
  have HL4 : Hid (Mk.Le 1 m0 m4) := Lib.hid ((HL3.out.trans hle).mono (by omega))
  have HM4 := Lib.hid hM
  have HF4 := Lib.hid (HF3.out.trans hF)
  have HEM4 := Lib.hid hm
  clear hM hF hm hle HM3 HF3 HL3
  have HC := Lib.hid (msub_ok _ E.base w4 _ _ _ _ _ HM4.out.lim HN.out)
  have b0 := HB.out.1.cell_at (i := 0) rfl
  have b1 := HB.out.1.cell_at (i := 1) rfl
  have b2 := HB.out.1.cell_at (i := 2) rfl
  have b3 := HB.out.1.cell_at (i := 3) rfl
  have b4 := HB.out.1.cell_at (i := 4) rfl
  have bl := HB.out.1.lt
  go_wp2_with fail
  refine HC.out.mono ?_
  clear HC b0 b1 b2 b3 b4 bl
  rintro e9 u4 ⟨⟨v, rfl, y0, y1, y2, y3, y4, rfl, hy⟩, hb⟩
  obtain ⟨ck, cnm, ctx, csa, csl, csc, cna, cnl, cnc, rfl, rfl, rfl, rfl, rfl⟩ := hy.forms
  have HY := Lib.hid hy
  have HG := Lib.hid (HG.out.keep ((Frk.grew hb).below HM4.out))
  have HN := Lib.hid (HN.out.keep ((Frk.grew hb).below HM4.out))
  have HB := Lib.hid (HB.out.next (Frk.grew hb))
  have HF4 := Lib.hid (HF4.out.trans (Frk.grew hb))
  have HM4 := Lib.hid (HM4.out.grew hb)
  clear hy hb
  have HC := Lib.hid (HP1.out m4 V4 u4 (.int .u8 ck) (.string cnm) (.string ctx) (.slice csa csl csc) (.slice cna cnl cnc) x d HM4.out HG.out HY.out HX_x.out (((HS.out.mono (show 1 + K1 ≤ K by omega)).next HL4.out).mono (by omega)))
  go_wp2_with fail
  refine HC.out.mono ?_
  clear HC
  rintro e9 w5 ⟨⟨v, rfl⟩, V5, hM, hF⟩
  obtain ⟨m5, hm⟩ : ∃ m9, m9 = (Nd.sub1 (.mk 4 bnm tx set subs)).piece (E.nums g) x d m4 := ⟨_, rfl⟩
  rw [← hm] at hM hF
  have hle : Mk.Le K1 m4 m5 := hm ▸ HLN.out x d m4
  have HX_a := Lib.hid (HX_a.out.next hle)
  have HX_x := Lib.hid (HX_x.out.next hle)
  have HX_d := Lib.hid (HX_d.out.next hle)
  have HX_e := Lib.hid (HX_e.out.next hle)
  have HG := Lib.hid (HG.out.keep (hF.below HM4.out))
  have HN := Lib.hid (HN.out.keep (hF.below HM4.out))
  have HB := Lib.hid (HB.out.next hF)
  have HL5 : Hid (Mk.Le (1 + K1) m0 m5) := Lib.hid ((HL4.out.trans hle).mono (by omega))
  have HM5 := Lib.hid hM
  have HF5 := Lib.hid (HF4.out.trans hF)
  have HEM5 := Lib.hid hm
  clear hM hF hm hle HM4 HF4 HL4
  have HC := Lib.hid (malt_ok E m5 V5 w5 HM5.out d x d HX_d.out (by have := ((HS.out.mono (show (1 + K1) + 1 ≤ K by omega)).next HL5.out).edges d; omega) (by have := ((HS.out.mono (show (1 + K1) + 1 ≤ K by omega)).next HL5.out).ends d; omega))
  go_wp2_with fail
  refine HC.out.mono ?_
  clear HC
  rintro e9 w6 ⟨⟨v, rfl⟩, V6, hM, hF⟩
  obtain ⟨m6, hm⟩ : ∃ m9, m9 = m5.alt d x d := ⟨_, rfl⟩
  rw [← hm] at hM hF
  have hle : Mk.Le 1 m5 m6 := hm ▸ m5.alt_le d x d
  have HX_a := Lib.hid (HX_a.out.next hle)
  have HX_x := Lib.hid (HX_x.out.next hle)
  have HX_d := Lib.hid (HX_d.out.next hle)
  have HX_e := Lib.hid (HX_e.out.next hle)
  have HG := Lib.hid (HG.out.keep (hF.below HM5.out))
  have HN := Lib.hid (HN.out.keep (hF.below HM5.out))
  have HB := Lib.hid (HB.out.next hF)
  have HL6 : Hid (Mk.Le ((1 + K1) + 1) m0 m6) := Lib.hid ((HL5.out.trans hle).mono (by omega))
  have HM6 := Lib.hid hM
  have HF6 := Lib.hid (HF5.out.trans hF)
  have HEM6 := Lib.hid hm
  clear hM hF hm hle HM5 HF5 HL5
  have HC := Lib.hid (mleaving_ok E m6 V6 w6 HM6.out d e b HX_d.out HX_e.out ((HS.out.mono (show ((1 + K1) + 1) + 3 ≤ K by omega)).next HL6.out))
  go_wp2_with fail
  refine HC.out.mono ?_
  clear HC
  rintro e9 w7 ⟨⟨v, rfl⟩, V7, hM, hF⟩
  obtain ⟨m7, hm⟩ : ∃ m9, m9 = m6.leaving d e b := ⟨_, rfl⟩
  rw [← hm] at hM hF
  have hle : Mk.Le 3 m6 m7 := hm ▸ m6.leaving_le d e b
  have HX_a := Lib.hid (HX_a.out.next hle)
  have HX_x := Lib.hid (HX_x.out.next hle)
  have HX_d := Lib.hid (HX_d.out.next hle)
  have HX_e := Lib.hid (HX_e.out.next hle)
  have HG := Lib.hid (HG.out.keep (hF.below HM6.out))
  have HN := Lib.hid (HN.out.keep (hF.below HM6.out))
  have HB := Lib.hid (HB.out.next hF)
  have HL7 : Hid (Mk.Le (((1 + K1) + 1) + 3) m0 m7) := Lib.hid ((HL6.out.trans hle).mono (by omega))
  have HM7 := Lib.hid hM
  have HF7 := Lib.hid (HF6.out.trans hF)
  have HEM7 := Lib.hid hm
  clear hM hF hm hle HM6 HF6 HL6
  go_wp2_with fail
  go_end0
  have hres : Nd.mkPlus (E.nums g) (Nd.sub1 (.mk 4 bnm tx set subs)) a b m0 = m7 := by
    unfold Nd.mkPlus
    rw [← HEM1.out, ← HEM2.out, ← HEM3.out, ← HEX_x.out, ← HEX_d.out, ← HEX_e.out, ← HEM4.out, ← HEM5.out, ← HEM6.out, ← HEM7.out]
  rw [hres]
  exact ⟨⟨_, rfl⟩, _, HM7.out, HF7.out⟩
end Go.Proofs.Ytgdcnndmdgcjlaa

/- The making's piece: an option, a row. -/
namespace Go.Proofs.Ytgdcnndmdgcjlaa
open Go.RowKit
theorem subs_two {E : MkE} {m : Mk} {V : MkV} {w w' : World} {c : Nat} {n1 n2 : Nd} {y0 y1 y2 y3 y4 z0 z1 z2 z3 z4 : Value} (hM : MkAt E w m V) (ho : Owns w' w.heap.size [y0, y1, y2, y3, y4, z0, z1, z2, z3, z4] c)
    (h1 : NodeAt w' E.base (some y0) (some y1) (some y2) (some y3) (some y4) n1) (h2 : NodeAt w' E.base (some z0) (some z1) (some z2) (some z3) (some z4) n2) : SubsAt E m V w' (some ⟨w.heap.size, 0, none⟩) [n1, n2] := fun k hk => by
  have e : ∀ (i : Nat) v, [y0, y1, y2, y3, y4, z0, z1, z2, z3, z4][i]? = some v → w'.cell? ⟨w.heap.size, i, none⟩ = some v := fun i v hv => ho.cell_at hv
  refine ⟨w.heap.size, 0, rfl, ho.lt, fun hm => by have := hM.mine_lt hm; omega, ?_⟩
  have hk : k = 0 ∨ k = 1 := by simp at hk; omega
  rcases hk with rfl | rfl
  · rw [e _ y0 rfl, e _ y1 rfl, e _ y2 rfl, e _ y3 rfl, e _ y4 rfl]; exact h1
  · rw [e _ z0 rfl, e _ z1 rfl, e _ z2 rfl, e _ z3 rfl, e _ z4 rfl]; exact h2
set_option maxHeartbeats 4000000 in
set_option maxRecDepth 40000 in
theorem mpiece_opt (E : MkE) (g : Gr) (hE : E.rules.length ≤ reachN ∧ E.tokens.length ≤ reachN) (k : Int) (nm tx : ByteArray) (set : List (Int × Int)) (subs : List Nd) (hk : k = 2) (hk1 : (Nd.sub1 (.mk k nm tx set subs)).req ≤ 1 + Nd.reqs subs) (hp1 : PieceOk E g (Nd.sub1 (.mk k nm tx set subs))) (hpn : PieceOk E g noNd) (m0 : Mk) (V0 : MkV) (W : World) (v0 v1 v2 v3 v4 : Value) (a b : Nat) (h : MkAt E W m0 V0) (hg : GrAt W E.base (some E.g0) (some E.g1) (some E.g2) (some E.g3) g)
    (hn : NodeAt W E.base (some v0) (some v1) (some v2) (some v3) (some v4) (.mk k nm tx set subs)) (ha : m0.has a) (hs : m0.Slim (Nd.mk k nm tx set subs).req) (hf : m0.full = false) :
    Calls Try.prog 44 #[.pointer (some ⟨E.mb, 0, none⟩), .agg #[v0, v1, v2, v3, v4], .int .i64 a, .int .i64 b] W fun e W' => (∃ v, e = .returned v) ∧ Made E m0 V0 (Nd.mkAlts (E.nums g) [Nd.sub1 (.mk k nm tx set subs), noNd] a b m0) W W' := by
  have hKp := Nd.req_pos (.mk k nm tx set subs)
  have hK9 : ¬(k = 1 ∧ subs.length = 0) → (Nd.mk k nm tx set subs).req = 9 + Nd.reqs subs := fun h => by rw [Nd.req, if_neg h]
  generalize (Nd.mk k nm tx set subs).req = K at hs hKp hK9
  have hn9 := hn
  obtain ⟨bk, bnm, btx, bsa, bsl, bsc, bna, bnl, bnc, rfl, rfl, rfl, rfl, rfl⟩ := hn.forms
  rw [NodeAt] at hn9
  obtain ⟨-, -, -, hz0, hz1, -, -, na, nc, hz4, hsl, hsubs⟩ := hn9
  simp only [Option.some.injEq, Value.slice.injEq, Value.int.injEq, true_and] at hz4 hz0
  have hy1 := Value.string.inj (Option.some.inj hz1)
  clear hz1
  subst hy1
  obtain ⟨rfl, rfl, rfl⟩ := hz4
  have hy0 := hz0.symm
  clear hz0
  subst hy0
  subst hk
  have hK9 := hK9 (by rintro ⟨h, _⟩; exact absurd h (by decide))
  have hk6 : ((2 : Int) == 6) = false := by decide
  have hk5 : ((2 : Int) == 5) = false := by decide
  have hk7 : ((2 : Int) == 7) = false := by decide
  have hk1 : ((2 : Int) == 1) = false := by decide
  have hk0 : ((2 : Int) == 0) = false := by decide
  have hk2 : ((2 : Int) == 2) = true := by decide
  obtain ⟨w0, hw0⟩ : ∃ w0, W.alloc (.cells #[.int .u8 2, .string bnm, .string btx, .slice bsa bsl bsc, .slice bna subs.length bnc] 104) = w0 := ⟨_, rfl⟩
  have hgr : Grew W w0 := hw0 ▸ grew_alloc W _
  have hob : Owns w0 W.heap.size [.int .u8 2, .string bnm, .string btx, .slice bsa bsl bsc, .slice bna subs.length bnc] 104 := hw0 ▸ Owns.alloc W _ _
  have HB := Lib.hid (OwnsX.fresh h hob)
  have HG := Lib.hid (hg.keep (hgr.mono h.lim))
  have HN := Lib.hid (hn.keep (hgr.mono h.lim))
  have HF0 := Lib.hid (Frk.grew (E := E) (m := m0) (V := V0) hgr)
  have hm9 := h.grew hgr
  have c14 := hm9.box.cell_at (i := 14) rfl
  rw [hf] at c14
  have cl := hm9.box.lt
  have b0 := hob.cell_at (i := 0) rfl
  have b1 := hob.cell_at (i := 1) rfl
  have b2 := hob.cell_at (i := 2) rfl
  have b3 := hob.cell_at (i := 3) rfl
  have b4 := hob.cell_at (i := 4) rfl
  have bl := hob.lt
  have HSUB := Lib.hid (SubsAt.of h hsubs)
  have HSU := Lib.hid (HSUB.out.next h (Frk.grew hgr))
  have HM0 := Lib.hid hm9
  have HL0 := Lib.hid (Mk.Le.refl m0)
  have HS := Lib.hid hs
  have HFU := Lib.hid hf
  have HX_a := Lib.hid ha
  have HE := Lib.hid hE
  unfold reachN at hsl
  clear h hg hn ha hs hgr hob hm9 hsubs HSUB hE hf
  go_enter Try.func44, Try.ntmps44
  have HP1 := Lib.hid hp1
  have HPN := Lib.hid hpn
  clear hp1 hpn
  have HC := Lib.hid (msub_ok _ E.base w0 _ _ _ _ _ HM0.out.lim HN.out)
  have b0 := HB.out.1.cell_at (i := 0) rfl
  have b1 := HB.out.1.cell_at (i := 1) rfl
  have b2 := HB.out.1.cell_at (i := 2) rfl
  have b3 := HB.out.1.cell_at (i := 3) rfl
  have b4 := HB.out.1.cell_at (i := 4) rfl
  have bl := HB.out.1.lt
  go_wp2_with fail
  refine HC.out.mono ?_
  clear HC b0 b1 b2 b3 b4 bl
  rintro e9 u0 ⟨⟨v, rfl, y0, y1, y2, y3, y4, rfl, hy⟩, hb⟩
  obtain ⟨ck, cnm, ctx, csa, csl, csc, cna, cnl, cnc, rfl, rfl, rfl, rfl, rfl⟩ := hy.forms
  have HY := Lib.hid hy
  have HG := Lib.hid (HG.out.keep ((Frk.grew hb).below HM0.out))
  have HN := Lib.hid (HN.out.keep ((Frk.grew hb).below HM0.out))
  have HB := Lib.hid (HB.out.next (Frk.grew hb))
  have HF0 := Lib.hid (HF0.out.trans (Frk.grew hb))
  have HM0 := Lib.hid (HM0.out.grew hb)
  clear hy hb
  have HC := Lib.hid (mnothing_ok u0)
  go_wp2_with fail
  refine HC.out.mono ?_
  rintro e9 w1 ⟨he, hb⟩
  obtain ⟨es, hes⟩ : ∃ es : ByteArray, es = { data := #[] } := ⟨_, rfl⟩
  obtain ⟨kk, hkk⟩ : ∃ kk : Int, kk = 1 := ⟨_, rfl⟩
  have hnn := noNd_at w1 E.base
  rw [← hes] at he hnn
  rw [← hkk] at he hnn
  subst he
  have HNN := Lib.hid hnn
  obtain ⟨w2, hw2⟩ : ∃ w2, w1.alloc (.cells #[.int .u8 ck, .string cnm, .string ctx, .slice csa csl csc, .slice cna cnl cnc, .int .u8 kk, .string es, .string es, .slice none 0 0, .slice none 0 0] 104) = w2 := ⟨_, rfl⟩
  have hg2 : Grew w1 w2 := hw2 ▸ grew_alloc w1 _
  have ho2 : Owns w2 w1.heap.size [.int .u8 ck, .string cnm, .string ctx, .slice csa csl csc, .slice cna cnl cnc, .int .u8 kk, .string es, .string es, .slice none 0 0, .slice none 0 0] 104 := hw2 ▸ Owns.alloc w1 _ _
  have hM1 := HM0.out.grew hb
  have hsub := subs_two (n1 := Nd.sub1 (.mk 2 bnm tx set subs)) (n2 := noNd) hM1 ho2 (HY.out.keep ((hb.trans hg2).mono HM0.out.lim)) (hnn.keep (hg2.mono hM1.lim))
  have HC := Lib.hid (malts_ok E g [Nd.sub1 (.mk 2 bnm tx set subs), noNd] (fun q hq => by
    have hq : q = 0 ∨ q = 1 := by simp at hq; omega
    rcases hq with rfl | rfl
    · exact HP1.out
    · exact HPN.out) (by unfold reachN; simp) m0 V0 w2 (hM1.grew hg2) (HG.out.keep ((hb.trans hg2).mono HM0.out.lim)) _ 2 hsub a b HX_a.out K (by
      have : Nd.reqs [Nd.sub1 (.mk 2 bnm tx set subs), noNd] = 1 + (Nd.sub1 (.mk 2 bnm tx set subs)).req + (1 + 1 + 0) := rfl
      omega) HS.out)
  have HFZ := Lib.hid (HF0.out.trans (Frk.grew (E := E) (m := m0) (V := V0) (hb.trans hg2)))
  clear hb hg2 ho2 hM1 hsub hnn hes hkk
  go_wp2_with fail
  refine HC.out.mono ?_
  rintro e w3 ⟨⟨v, rfl⟩, V3, hM, hF⟩
  have HM3 := Lib.hid hM
  have HF3 := Lib.hid (HFZ.out.trans hF)
  clear hM hF
  go_wp2_with fail
  go_end0
  exact ⟨⟨_, rfl⟩, V3, HM3.out, HF3.out⟩
set_option maxHeartbeats 4000000 in
set_option maxRecDepth 40000 in
theorem mpiece_seq (E : MkE) (g : Gr) (hE : E.rules.length ≤ reachN ∧ E.tokens.length ≤ reachN) (k : Int) (nm tx : ByteArray) (set : List (Int × Int)) (subs : List Nd) (hk : k = 1) (hne : 0 < subs.length) (hp : ∀ i (h : i < subs.length), PieceOk E g subs[i]) (m0 : Mk) (V0 : MkV) (W : World) (v0 v1 v2 v3 v4 : Value) (a b : Nat) (h : MkAt E W m0 V0) (hg : GrAt W E.base (some E.g0) (some E.g1) (some E.g2) (some E.g3) g)
    (hn : NodeAt W E.base (some v0) (some v1) (some v2) (some v3) (some v4) (.mk k nm tx set subs)) (ha : m0.has a) (hs : m0.Slim (Nd.mk k nm tx set subs).req) (hf : m0.full = false) :
    Calls Try.prog 44 #[.pointer (some ⟨E.mb, 0, none⟩), .agg #[v0, v1, v2, v3, v4], .int .i64 a, .int .i64 b] W fun e W' => (∃ v, e = .returned v) ∧ Made E m0 V0 (Nd.pieces (E.nums g) subs a b m0) W W' := by
  have hKp := Nd.req_pos (.mk k nm tx set subs)
  have hK9 : ¬(k = 1 ∧ subs.length = 0) → (Nd.mk k nm tx set subs).req = 9 + Nd.reqs subs := fun h => by rw [Nd.req, if_neg h]
  generalize (Nd.mk k nm tx set subs).req = K at hs hKp hK9
  have hn9 := hn
  obtain ⟨bk, bnm, btx, bsa, bsl, bsc, bna, bnl, bnc, rfl, rfl, rfl, rfl, rfl⟩ := hn.forms
  rw [NodeAt] at hn9
  obtain ⟨-, -, -, hz0, hz1, -, -, na, nc, hz4, hsl, hsubs⟩ := hn9
  simp only [Option.some.injEq, Value.slice.injEq, Value.int.injEq, true_and] at hz4 hz0
  have hy1 := Value.string.inj (Option.some.inj hz1)
  clear hz1
  subst hy1
  obtain ⟨rfl, rfl, rfl⟩ := hz4
  have hy0 := hz0.symm
  clear hz0
  subst hy0
  subst hk
  have hk6 : ((1 : Int) == 6) = false := by decide
  have hk5 : ((1 : Int) == 5) = false := by decide
  have hk7 : ((1 : Int) == 7) = false := by decide
  have hk1 : ((1 : Int) == 1) = true := by decide
  obtain ⟨w0, hw0⟩ : ∃ w0, W.alloc (.cells #[.int .u8 1, .string bnm, .string btx, .slice bsa bsl bsc, .slice bna subs.length bnc] 104) = w0 := ⟨_, rfl⟩
  have hgr : Grew W w0 := hw0 ▸ grew_alloc W _
  have hob : Owns w0 W.heap.size [.int .u8 1, .string bnm, .string btx, .slice bsa bsl bsc, .slice bna subs.length bnc] 104 := hw0 ▸ Owns.alloc W _ _
  have HB := Lib.hid (OwnsX.fresh h hob)
  have HG := Lib.hid (hg.keep (hgr.mono h.lim))
  have HN := Lib.hid (hn.keep (hgr.mono h.lim))
  have HF0 := Lib.hid (Frk.grew (E := E) (m := m0) (V := V0) hgr)
  have hm9 := h.grew hgr
  have c14 := hm9.box.cell_at (i := 14) rfl
  rw [hf] at c14
  have cl := hm9.box.lt
  have b0 := hob.cell_at (i := 0) rfl
  have b1 := hob.cell_at (i := 1) rfl
  have b2 := hob.cell_at (i := 2) rfl
  have b3 := hob.cell_at (i := 3) rfl
  have b4 := hob.cell_at (i := 4) rfl
  have bl := hob.lt
  have HSUB := Lib.hid (SubsAt.of h hsubs)
  have HSU := Lib.hid (HSUB.out.next h (Frk.grew hgr))
  have HM0 := Lib.hid hm9
  have HL0 := Lib.hid (Mk.Le.refl m0)
  have HS := Lib.hid hs
  have HFU := Lib.hid hf
  have HX_a := Lib.hid ha
  have HE := Lib.hid hE
  unfold reachN at hsl
  have hgt : decide ((0 : Int) < (subs.length : Int)) = true := decide_eq_true (by omega)
  have hK9 := hK9 (by rintro ⟨_, h⟩; omega)
  clear h hg hn ha hs hgr hob hm9 hsubs HSUB hE hf
  go_enter Try.func44, Try.ntmps44
  have HP := Lib.hid hp
  clear hp
  go_wp2_with fail
  clear b0 b1 b2 b3 b4 bl c14 cl
  go_loopw [2, 107] (fun av i wr => ∃ (j aj : Nat) (m10 : Mk) (V10 : MkV), av = .int .i64 aj ∧ i = .int .i64 j ∧ j ≤ subs.length ∧ Hid (MkAt E wr m10 V10) ∧ Hid (Frk E m0 V0 m10 V10 W wr) ∧ Hid (Mk.Le (Nd.reqs (subs.take j)) m0 m10) ∧ Hid (GrAt wr E.base (some E.g0) (some E.g1) (some E.g2) (some E.g3) g) ∧ Hid (SubsAt E m10 V10 wr bna subs) ∧ Hid (OwnsX E m10 V10 wr W.heap.size [.int .u8 1, .string bnm, .string btx, .slice bsa bsl bsc, .slice bna subs.length bnc] 104) ∧ Hid (j < subs.length → m10.has aj) ∧ Hid (Nd.pieces (E.nums g) (subs.drop j) aj b m10 = Nd.pieces (E.nums g) subs a b m0)) (fun _ i _ => subs.length - (intOf i).toNat)
  case atStart =>
    exact ⟨0, a, m0, V0, rfl, rfl, by omega, HM0.out, HF0.out, HL0.out.mono (by omega), HG.out, HSU.out, HB.out, fun _ => HX_a.out, rfl⟩
  case round =>
    clear HG HSU HB HM0 HF0 HN
    obtain ⟨j, aj, m10, V10, rfl, rfl, hj, HM10, HFX, HLX, HG, HSU, HB, HXJ, HEQ⟩ := hrel
    by_cases hlt : j < subs.length
    · obtain ⟨nb, noff, rfl, hnb, -, hnode⟩ := HSU.out j hlt
      obtain ⟨u0, u1, u2, u3, u4, e0, e1, e2, e3, e4, hnode⟩ := hnode.vals
      obtain ⟨ck, cnm, ctx, csa, csl, csc, cna, cnl, cnc, rfl, rfl, rfl, rfl, rfl⟩ := hnode.forms
      have hcnt : Nd.reqs (subs.take (j + 1)) = Nd.reqs (subs.take j) + (1 + subs[j].req) := Nd.reqs_take subs j hlt
      have hcle := Nd.reqs_take_le subs (j + 1)
      have hsl : m10.Slim (1 + subs[j].req) := (HS.out.mono (show Nd.reqs (subs.take j) + (1 + subs[j].req) ≤ K by omega)).next HLX.out
      have HN := Lib.hid hnode
      have HPJ := Lib.hid (HP.out j hlt)
      have HX_aj := Lib.hid (HXJ.out hlt)
      clear HS
      have HS := Lib.hid hsl
      have HCNT := Lib.hid hcnt
      have hpos := subs[j].req_pos
      obtain ⟨K1, hK1⟩ : ∃ K1, 1 + subs[j].req = K1 := ⟨_, rfl⟩
      rw [hK1] at HS
      obtain ⟨w10, hw10⟩ : ∃ w10, wr.alloc (.cells #[.int .u8 ck, .string cnm, .string ctx, .slice csa csl csc, .slice cna cnl cnc] 104) = w10 := ⟨_, rfl⟩
      have hgr : Grew wr w10 := hw10 ▸ grew_alloc wr _
      have hob : Owns w10 wr.heap.size [.int .u8 ck, .string cnm, .string ctx, .slice csa csl csc, .slice cna cnl cnc] 104 := hw10 ▸ Owns.alloc wr _ _
      have HB2 := Lib.hid (OwnsX.fresh HM10.out hob)
      have HB := Lib.hid (HB.out.next (Frk.grew hgr))
      have HG := Lib.hid (HG.out.keep (hgr.mono HM10.out.lim))
      have HN := Lib.hid (HN.out.keep (hgr.mono HM10.out.lim))
      have HSU := Lib.hid (HSU.out.next HM10.out (Frk.grew hgr))
      have HF10 := Lib.hid (HFX.out.trans (Frk.grew hgr))
      have HM10 := Lib.hid (HM10.out.grew hgr)
      have HL10 := Lib.hid (Mk.Le.refl m10)
      have q4 := HB.out.1.cell_at (i := 4) rfl
      have ql := HB.out.1.lt
      clear hnode hsl hcnt hcle hgr hob
      have hd : subs.drop j = subs[j] :: subs.drop (j + 1) := List.drop_eq_getElem_cons hlt
      have HD := Lib.hid hd
      clear hd
      by_cases hlast : j + 1 < subs.length
      · have hdec : decide ((j : Int) < (subs.length : Int) - 1) = true := decide_eq_true (by omega)
        as_aux_lemma =>
        have HC := Lib.hid (mstate_ok E m10 V10 w10 HM10.out ((HS.out.mono (show 0 + 0 ≤ K1 by omega)).next HL10.out).cap)
        go_wp2_with fail
        refine HC.out.mono ?_
        clear HC
        rintro e9 w11 ⟨rfl, V11, hM, hF⟩
        obtain ⟨m11, hm⟩ : ∃ m9, m9 = m10.state.2 := ⟨_, rfl⟩
        rw [← hm] at hM hF
        have hle : Mk.Le 0 m10 m11 := hm ▸ m10.state_le
        obtain ⟨x, hx⟩ : ∃ x9, x9 = m10.state.1 := ⟨_, rfl⟩
        rw [← hx]
        have HX_x : Hid (m11.has x) := Lib.hid (by rw [hm, hx]; exact m10.state_has)
        have HEX_x := Lib.hid hx
        clear hx
        have HX_aj := Lib.hid (HX_aj.out.next hle)
        have HG := Lib.hid (HG.out.keep (hF.below HM10.out))
        have HSU := Lib.hid (HSU.out.next HM10.out hF)
        have HB := Lib.hid (HB.out.next hF)
        have HB2 := Lib.hid (HB2.out.next hF)
        have HN := Lib.hid (HN.out.keep (hF.below HM10.out))
        have HL11 : Hid (Mk.Le 0 m10 m11) := Lib.hid ((HL10.out.trans hle).mono (by omega))
        have HM11 := Lib.hid hM
        have HF11 := Lib.hid (HF10.out.trans hF)
        have HEM11 := Lib.hid hm
        clear hM hF hm hle HM10 HF10 HL10
        have b0 := HB2.out.1.cell_at (i := 0) rfl
        have b1 := HB2.out.1.cell_at (i := 1) rfl
        have b2 := HB2.out.1.cell_at (i := 2) rfl
        have b3 := HB2.out.1.cell_at (i := 3) rfl
        have b4 := HB2.out.1.cell_at (i := 4) rfl
        have bl := HB2.out.1.lt
        have HC := Lib.hid (HPJ.out m11 V11 w11 (.int .u8 ck) (.string cnm) (.string ctx) (.slice csa csl csc) (.slice cna cnl cnc) aj x HM11.out HG.out HN.out HX_aj.out (((HS.out.mono (show 0 + (subs[j]).req ≤ K1 by omega)).next HL11.out).mono (by omega)))
        go_wp2_with fail
        refine HC.out.mono ?_
        clear HC
        rintro e9 w12 ⟨⟨v, rfl⟩, V12, hM, hF⟩
        obtain ⟨m12, hm⟩ : ∃ m9, m9 = (subs[j]).piece (E.nums g) aj x m11 := ⟨_, rfl⟩
        rw [← hm] at hM hF
        have hle : Mk.Le (subs[j]).req m11 m12 := hm ▸ Nd.piece_le (E.nums g) (subs[j]) aj x m11
        have HX_aj := Lib.hid (HX_aj.out.next hle)
        have HX_x := Lib.hid (HX_x.out.next hle)
        have HG := Lib.hid (HG.out.keep (hF.below HM11.out))
        have HSU := Lib.hid (HSU.out.next HM11.out hF)
        have HB := Lib.hid (HB.out.next hF)
        have HB2 := Lib.hid (HB2.out.next hF)
        have HN := Lib.hid (HN.out.keep (hF.below HM11.out))
        have HL12 : Hid (Mk.Le (subs[j]).req m10 m12) := Lib.hid ((HL11.out.trans hle).mono (by omega))
        have HM12 := Lib.hid hM
        have HF12 := Lib.hid (HF11.out.trans hF)
        have HEM12 := Lib.hid hm
        clear hM hF hm hle HM11 HF11 HL11
        clear b0 b1 b2 b3 b4 bl
        go_wp2_with fail
        have heq := HEQ.out
        rw [HD.out, Nd.pieces, if_neg (fun e => by have := congrArg List.length e; simp at this; omega), ← HEM11.out, ← HEX_x.out, ← HEM12.out] at heq
        have hcnt := HCNT.out
        have hle9 : Nd.reqs (subs.take j) + (subs[j]).req ≤ Nd.reqs (subs.take (j + 1)) := by rw [hcnt]; omega
        exact ⟨⟨j + 1, x, m12, V12, rfl, by go_num, by omega, HM12.out, HF12.out, (HLX.out.trans HL12.out).mono hle9, HG.out, HSU.out, HB.out, fun _ => HX_x.out, heq⟩, by simp [intOf]; omega⟩
      · have hdec : decide ((j : Int) < (subs.length : Int) - 1) = false := decide_eq_false (by omega)
        as_aux_lemma =>
        have b0 := HB2.out.1.cell_at (i := 0) rfl
        have b1 := HB2.out.1.cell_at (i := 1) rfl
        have b2 := HB2.out.1.cell_at (i := 2) rfl
        have b3 := HB2.out.1.cell_at (i := 3) rfl
        have b4 := HB2.out.1.cell_at (i := 4) rfl
        have bl := HB2.out.1.lt
        have HC := Lib.hid (HPJ.out m10 V10 w10 (.int .u8 ck) (.string cnm) (.string ctx) (.slice csa csl csc) (.slice cna cnl cnc) aj b HM10.out HG.out HN.out HX_aj.out (((HS.out.mono (show 0 + (subs[j]).req ≤ K1 by omega)).next HL10.out).mono (by omega)))
        go_wp2_with fail
        refine HC.out.mono ?_
        clear HC
        rintro e9 w11 ⟨⟨v, rfl⟩, V11, hM, hF⟩
        obtain ⟨m11, hm⟩ : ∃ m9, m9 = (subs[j]).piece (E.nums g) aj b m10 := ⟨_, rfl⟩
        rw [← hm] at hM hF
        have hle : Mk.Le (subs[j]).req m10 m11 := hm ▸ Nd.piece_le (E.nums g) (subs[j]) aj b m10
        have HX_aj := Lib.hid (HX_aj.out.next hle)
        have HG := Lib.hid (HG.out.keep (hF.below HM10.out))
        have HSU := Lib.hid (HSU.out.next HM10.out hF)
        have HB := Lib.hid (HB.out.next hF)
        have HB2 := Lib.hid (HB2.out.next hF)
        have HN := Lib.hid (HN.out.keep (hF.below HM10.out))
        have HL11 : Hid (Mk.Le (subs[j]).req m10 m11) := Lib.hid ((HL10.out.trans hle).mono (by omega))
        have HM11 := Lib.hid hM
        have HF11 := Lib.hid (HF10.out.trans hF)
        have HEM11 := Lib.hid hm
        clear hM hF hm hle HM10 HF10 HL10
        clear b0 b1 b2 b3 b4 bl
        go_wp2_with fail
        have heq := HEQ.out
        have hnil : subs.drop (j + 1) = [] := List.drop_eq_nil_of_le (by omega)
        rw [HD.out, hnil, Nd.pieces, if_pos rfl, ← HEM11.out] at heq
        have hcnt := HCNT.out
        have hle9 : Nd.reqs (subs.take j) + (subs[j]).req ≤ Nd.reqs (subs.take (j + 1)) := by rw [hcnt]; omega
        exact ⟨⟨j + 1, b, m11, V11, rfl, by go_num, by omega, HM11.out, HF11.out, (HLX.out.trans HL11.out).mono hle9, HG.out, HSU.out, HB.out, fun h => absurd h (by omega), by rw [hnil, Nd.pieces]; exact heq⟩, by simp [intOf]; omega⟩
    · obtain rfl : j = subs.length := by omega
      have heq := HEQ.out
      rw [List.drop_length, Nd.pieces] at heq
      have HR := Lib.hid heq
      clear heq
      go_wp2_with fail
      go_end0
      rw [← HR.out]
      exact ⟨⟨_, rfl⟩, V10, HM10.out, HFX.out⟩
end Go.Proofs.Ytgdcnndmdgcjlaa

/- The making's piece, of whatever node. -/
namespace Go.Proofs.Ytgdcnndmdgcjlaa
open Go.RowKit
theorem noNd_piece (P : Nums) (a b : Nat) (m : Mk) : noNd.piece P a b m = if m.full then m else m.empty a b := by
  unfold noNd
  rw [Nd.piece.eq_def]
  simp
theorem piece1_sub (P : Nums) (k : Int) (nm tx : ByteArray) (set : List (Int × Int)) (subs : List Nd) (a b : Nat) (m : Mk) : Nd.piece1 P subs a b m = (Nd.sub1 (.mk k nm tx set subs)).piece P a b m := by
  cases subs with
  | nil =>
    rw [Nd.piece1]
    exact (noNd_piece P a b m).symm
  | cons s r => rw [Nd.piece1]; rfl
section
variable (P : Nums) (k : Int) (nm tx : ByteArray) (set : List (Int × Int)) (subs : List Nd) (a b : Nat) (m : Mk)
theorem piece_full (hf : m.full = true) : (Nd.mk k nm tx set subs).piece P a b m = m := by rw [Nd.piece.eq_def]; simp [hf]
theorem piece_tok (hf : m.full = false) : (Nd.mk 6 nm tx set subs).piece P a b m = m.edge a 1 (P.tok nm) b := by rw [Nd.piece.eq_def]; simp [hf]
theorem piece_ref (hf : m.full = false) : (Nd.mk 5 nm tx set subs).piece P a b m = m.edge a 2 (P.rule nm) b := by rw [Nd.piece.eq_def]; simp [hf]
theorem piece_pred (hf : m.full = false) : (Nd.mk 7 nm tx set subs).piece P a b m = (m.edge a 3 m.many b).wait (Nd.sub1 (.mk 7 nm tx set subs)) := by rw [Nd.piece.eq_def]; simp [hf]; rfl
theorem piece_seq (hf : m.full = false) (h : subs ≠ []) : (Nd.mk 1 nm tx set subs).piece P a b m = Nd.pieces P subs a b m := by rw [Nd.piece.eq_def]; simp [hf, h]
theorem piece_none (hf : m.full = false) : (Nd.mk 1 nm tx set []).piece P a b m = m.empty a b := by rw [Nd.piece.eq_def]; simp [hf]
theorem piece_alts (hf : m.full = false) : (Nd.mk 0 nm tx set subs).piece P a b m = Nd.mkAlts P subs a b m := by rw [Nd.piece.eq_def]; simp [hf]; rfl
theorem piece_opt (hf : m.full = false) : (Nd.mk 2 nm tx set subs).piece P a b m = Nd.mkAlts P [Nd.sub1 (.mk 2 nm tx set subs), noNd] a b m := by
  rw [Nd.piece.eq_def]
  simp only [hf, Bool.false_eq_true, if_false]
  unfold Nd.mkAlts
  rw [Nd.palts, Nd.palts, Nd.palts, noNd_piece, ← piece1_sub P 2 nm tx set subs]
  rfl
theorem piece_star (hf : m.full = false) : (Nd.mk 3 nm tx set subs).piece P a b m = Nd.mkStar P (Nd.sub1 (.mk 3 nm tx set subs)) a b m := by
  rw [Nd.piece.eq_def]
  simp only [hf, Bool.false_eq_true, if_false]
  unfold Nd.mkStar
  rw [← piece1_sub P 3 nm tx set subs]
  rfl
theorem piece_plus (hf : m.full = false) : (Nd.mk 4 nm tx set subs).piece P a b m = Nd.mkPlus P (Nd.sub1 (.mk 4 nm tx set subs)) a b m := by
  rw [Nd.piece.eq_def]
  simp only [hf, Bool.false_eq_true, if_false]
  unfold Nd.mkPlus
  rw [← piece1_sub P 4 nm tx set subs]
  rfl
theorem piece_else (hf : m.full = false) (h6 : k ≠ 6) (h5 : k ≠ 5) (h7 : k ≠ 7) (h1 : k ≠ 1) (h0 : k ≠ 0) (h2 : k ≠ 2) (h3 : k ≠ 3) (h4 : k ≠ 4) : (Nd.mk k nm tx set subs).piece P a b m = m.empty a b := by
  rw [Nd.piece.eq_def]; simp [hf, h0, h1, h2, h3, h4, h5, h6, h7]
end
theorem noNd_ok (E : MkE) (g : Gr) (hE : E.rules.length ≤ reachN ∧ E.tokens.length ≤ reachN) : PieceOk E g noNd := by
  intro m V W v0 v1 v2 v3 v4 a b hM hG hN ha hs
  unfold noNd at hN hs
  cases hf : m.full
  · rw [noNd_piece, hf]
    exact mpiece_none E g hE 1 _ _ [] [] rfl rfl m V W v0 v1 v2 v3 v4 a b hM hG hN ha hs hf
  · rw [noNd_piece, hf]
    exact mpiece_full E g hE 1 _ _ [] [] m V W v0 v1 v2 v3 v4 a b hM hG hN ha hs hf
theorem sub1_ok {E : MkE} {g : Gr} (hE : E.rules.length ≤ reachN ∧ E.tokens.length ≤ reachN) (k : Int) (nm tx : ByteArray) (set : List (Int × Int)) (subs : List Nd) (ih : ∀ i (hi : i < subs.length), PieceOk E g subs[i]) :
    PieceOk E g (Nd.sub1 (.mk k nm tx set subs)) ∧ (Nd.sub1 (.mk k nm tx set subs)).req ≤ 1 + Nd.reqs subs ∧ (Nd.sub1 (.mk k nm tx set subs)).req + 6 ≤ 9 + Nd.reqs subs := by
  cases subs with
  | nil => exact ⟨noNd_ok E g hE, show noNd.req ≤ 1 + Nd.reqs [] from by decide, show noNd.req + 6 ≤ 9 + Nd.reqs [] from by decide⟩
  | cons s r =>
    refine ⟨ih 0 (by simp), ?_, ?_⟩
    · show s.req ≤ _
      rw [Nd.reqs]; omega
    · show s.req + 6 ≤ _
      rw [Nd.reqs]; omega
theorem mpiece_ok (E : MkE) (g : Gr) (hE : E.rules.length ≤ reachN ∧ E.tokens.length ≤ reachN) (n : Nd) : PieceOk E g n := by
  induction n using Nd.ind with
  | h k nm tx set subs ih =>
  obtain ⟨hs1, hs2, hs3⟩ := sub1_ok hE k nm tx set subs ih
  intro m V W v0 v1 v2 v3 v4 a b hM hG hN ha hs
  rcases Bool.eq_false_or_eq_true m.full with hf | hf
  · rw [piece_full _ _ _ _ _ _ _ _ _ hf]
    exact mpiece_full E g hE k nm tx set subs m V W v0 v1 v2 v3 v4 a b hM hG hN ha hs hf
  by_cases h6 : k = 6
  · subst h6
    rw [piece_tok _ _ _ _ _ _ _ _ hf]
    exact mpiece_tok E g hE 6 nm tx set subs rfl m V W v0 v1 v2 v3 v4 a b hM hG hN ha hs hf
  by_cases h5 : k = 5
  · subst h5
    rw [piece_ref _ _ _ _ _ _ _ _ hf]
    exact mpiece_ref E g hE 5 nm tx set subs rfl m V W v0 v1 v2 v3 v4 a b hM hG hN ha hs hf
  by_cases h7 : k = 7
  · subst h7
    rw [piece_pred _ _ _ _ _ _ _ _ hf]
    exact mpiece_pred E g hE 7 nm tx set subs rfl m V W v0 v1 v2 v3 v4 a b hM hG hN ha hs hf
  by_cases h1 : k = 1
  · subst h1
    by_cases hsb : subs = []
    · subst hsb
      rw [piece_none _ _ _ _ _ _ _ hf]
      exact mpiece_none E g hE 1 nm tx set [] rfl rfl m V W v0 v1 v2 v3 v4 a b hM hG hN ha hs hf
    · rw [piece_seq _ _ _ _ _ _ _ _ hf hsb]
      exact mpiece_seq E g hE 1 nm tx set subs rfl (by rcases subs with _ | ⟨s, r⟩; exact absurd rfl hsb; simp) ih m V W v0 v1 v2 v3 v4 a b hM hG hN ha hs hf
  by_cases h0 : k = 0
  · subst h0
    rw [piece_alts _ _ _ _ _ _ _ _ hf]
    exact mpiece_alts E g hE 0 nm tx set subs rfl ih m V W v0 v1 v2 v3 v4 a b hM hG hN ha hs hf
  by_cases h2 : k = 2
  · subst h2
    rw [piece_opt _ _ _ _ _ _ _ _ hf]
    exact mpiece_opt E g hE 2 nm tx set subs rfl hs2 hs1 (noNd_ok E g hE) m V W v0 v1 v2 v3 v4 a b hM hG hN ha hs hf
  by_cases h3 : k = 3
  · subst h3
    rw [piece_star _ _ _ _ _ _ _ _ hf]
    exact mpiece_star E g hE 3 nm tx set subs rfl _ hs3 hs1 (fun a b m => Nd.piece_le (E.nums g) _ a b m) m V W v0 v1 v2 v3 v4 a b hM hG hN ha hs hf
  by_cases h4 : k = 4
  · subst h4
    rw [piece_plus _ _ _ _ _ _ _ _ hf]
    exact mpiece_plus E g hE 4 nm tx set subs rfl _ hs3 hs1 (fun a b m => Nd.piece_le (E.nums g) _ a b m) m V W v0 v1 v2 v3 v4 a b hM hG hN ha hs hf
  rw [piece_else _ _ _ _ _ _ _ _ _ hf h6 h5 h7 h1 h0 h2 h3 h4]
  exact mpiece_else E g hE k nm tx set subs (beq_eq_false_iff_ne.2 h6) (beq_eq_false_iff_ne.2 h5) (beq_eq_false_iff_ne.2 h7) (beq_eq_false_iff_ne.2 h1) (beq_eq_false_iff_ne.2 h0) (beq_eq_false_iff_ne.2 h2) (beq_eq_false_iff_ne.2 h3) (beq_eq_false_iff_ne.2 h4) m V W v0 v1 v2 v3 v4 a b hM hG hN ha hs hf
end Go.Proofs.Ytgdcnndmdgcjlaa
