/- The making's piece: alternatives, options, loops. -/
import Derived.Test.YtiiffcmojkdlaaaGreatDoorQ37
namespace Go.Proofs.YtiiffcmojkdlaaaGreatDoor
open Go.RowKit

/-- a node's piece may be made with so much room -/
def PieceK (E : MkE) (g : Gr) (K1 : Nat) (n : Nd) : Prop := ∀ (m : Mk) (V : MkV) (W : World) (v0 v1 v2 v3 v4 : Value) (a b : Nat), MkAt E W m V → GrAt W E.base (some E.g0) (some E.g1) (some E.g2) (some E.g3) g → NodeAt W E.base (some v0) (some v1) (some v2) (some v3) (some v4) n → m.has a → m.Slim K1 →
  Calls Tryz.prog 20 #[.pointer (some ⟨E.mb, 0, none⟩), .agg #[v0, v1, v2, v3, v4], .int .i64 a, .int .i64 b] W fun e W' => (∃ v, e = .returned v) ∧ Made E m V (n.piece (E.nums g) a b m) W W'
def Nd.mkStar (P : Nums) (n1 : Nd) (a b : Nat) (m : Mk) : Mk :=
  ((n1.piece P (m.state.2.state.2.empty a m.state.1).state.1 m.state.1 ((m.state.2.state.2.empty a m.state.1).state.2.alt m.state.1 (m.state.2.state.2.empty a m.state.1).state.1 m.state.1))).leaving m.state.1 m.state.2.state.1 b
def Nd.mkPlus (P : Nums) (n1 : Nd) (a b : Nat) (m : Mk) : Mk :=
  ((n1.piece P m.state.1 m.state.2.state.1 (m.state.2.state.2.state.2.empty a m.state.1)).alt m.state.2.state.1 m.state.1 m.state.2.state.1).leaving m.state.2.state.1 m.state.2.state.2.state.1 b

set_option maxHeartbeats 4000000 in
set_option maxRecDepth 40000 in
theorem mpiece_alts (E : MkE) (g : Gr) (hE : E.rules.length ≤ reachN ∧ E.tokens.length ≤ reachN) (k : Int) (nm tx : ByteArray) (set : List (Int × Int)) (subs : List Nd) (hk : k = 0) (hp : ∀ i (h : i < subs.length), PieceOk E g subs[i]) (m0 : Mk) (V0 : MkV) (W : World) (v0 v1 v2 v3 v4 : Value) (a b : Nat) (h : MkAt E W m0 V0) (hg : GrAt W E.base (some E.g0) (some E.g1) (some E.g2) (some E.g3) g)
    (hn : NodeAt W E.base (some v0) (some v1) (some v2) (some v3) (some v4) (.mk k nm tx set subs)) (ha : m0.has a) (hs : m0.Slim (Nd.mk k nm tx set subs).req) (hf : m0.full = false) :
    Calls Tryz.prog 20 #[.pointer (some ⟨E.mb, 0, none⟩), .agg #[v0, v1, v2, v3, v4], .int .i64 a, .int .i64 b] W fun e W' => (∃ v, e = .returned v) ∧ Made E m0 V0 (Nd.mkAlts (E.nums g) subs a b m0) W W' := by
  have hKp := Nd.req_pos (.mk k nm tx set subs)
  have hK9 : ¬(k = 1 ∧ subs.length = 0) → (Nd.mk k nm tx set subs).req = 9 + Nd.reqs subs := fun h => by rw [Nd.req, if_neg h]
  generalize (Nd.mk k nm tx set subs).req = K at hs hKp hK9
  have hn9 := hn
  obtain ⟨bk, bnm, btx, bsa, bsl, bsc, bna, bnl, bnc, rfl, rfl, rfl, rfl, rfl⟩ := hn.forms
  rw [NodeAt] at hn9
  obtain ⟨-, -, -, hz0, hz1, -, -, na, nc, hz4, hsl, hsubs⟩ := hn9
  simp only [Option.some.injEq, Value.slice.injEq, Value.int.injEq, true_and] at hz4 hz0
  have hy1 := Value.string.inj (Option.some.inj hz1)
  clear hz1
  subst hy1
  obtain ⟨rfl, rfl, rfl⟩ := hz4
  have hy0 := hz0.symm
  clear hz0
  subst hy0
  subst hk
  have hK9 := hK9 (by rintro ⟨h, _⟩; exact absurd h (by decide))
  have hk6 : ((0 : Int) == 6) = false := by decide
  have hk5 : ((0 : Int) == 5) = false := by decide
  have hk7 : ((0 : Int) == 7) = false := by decide
  have hk1 : ((0 : Int) == 1) = false := by decide
  have hk0 : ((0 : Int) == 0) = true := by decide
  obtain ⟨w0, hw0⟩ : ∃ w0, W.alloc (.cells #[.int .u8 0, .string bnm, .string btx, .slice bsa bsl bsc, .slice bna subs.length bnc] 51) = w0 := ⟨_, rfl⟩
  have hgr : Grew W w0 := hw0 ▸ grew_alloc W _
  have hob : Owns w0 W.heap.size [.int .u8 0, .string bnm, .string btx, .slice bsa bsl bsc, .slice bna subs.length bnc] 51 := hw0 ▸ Owns.alloc W _ _
  have HB := Lib.hid (OwnsX.fresh h hob)
  have HG := Lib.hid (hg.keep (hgr.mono h.lim))
  have HN := Lib.hid (hn.keep (hgr.mono h.lim))
  have HF0 := Lib.hid (Frk.grew (E := E) (m := m0) (V := V0) hgr)
  have hm9 := h.grew hgr
  have c14 := hm9.box.cell_at (i := 14) rfl
  rw [hf] at c14
  have cl := hm9.box.lt
  have b0 := hob.cell_at (i := 0) rfl
  have b1 := hob.cell_at (i := 1) rfl
  have b2 := hob.cell_at (i := 2) rfl
  have b3 := hob.cell_at (i := 3) rfl
  have b4 := hob.cell_at (i := 4) rfl
  have bl := hob.lt
  have HSUB := Lib.hid (SubsAt.of h hsubs)
  have HSU := Lib.hid (HSUB.out.next h (Frk.grew hgr))
  have HM0 := Lib.hid hm9
  have HL0 := Lib.hid (Mk.Le.refl m0)
  have HS := Lib.hid hs
  have HFU := Lib.hid hf
  have HX_a := Lib.hid ha
  have HE := Lib.hid hE
  unfold reachN at hsl
  clear h hg hn ha hs hgr hob hm9 hsubs HSUB hE hf
  go_enter Tryz.func20, Tryz.ntmps20
  have HC := Lib.hid (malts_ok E g subs hp (by unfold reachN; omega) m0 V0 w0 HM0.out HG.out bna bnc HSU.out a b HX_a.out K (by omega) HS.out)
  clear hp
  go_wp2_with fail
  refine HC.out.mono ?_
  rintro e w1 ⟨⟨v, rfl⟩, V1, hM, hF⟩
  have HM1 := Lib.hid hM
  have HF1 := Lib.hid (HF0.out.trans hF)
  clear hM hF
  go_wp2_with fail
  go_end0
  exact ⟨⟨_, rfl⟩, V1, HM1.out, HF1.out⟩

set_option maxHeartbeats 4000000 in
set_option maxRecDepth 40000 in
theorem mpiece_star (E : MkE) (g : Gr) (hE : E.rules.length ≤ reachN ∧ E.tokens.length ≤ reachN) (k : Int) (nm tx : ByteArray) (set : List (Int × Int)) (subs : List Nd) (hk : k = 3) (K1 : Nat) (hk1 : K1 + 6 ≤ 9 + Nd.reqs subs) (hp1 : PieceK E g K1 (Nd.sub1 (.mk k nm tx set subs))) (hl1 : ∀ a b m, Mk.Le K1 m ((Nd.sub1 (.mk k nm tx set subs)).piece (E.nums g) a b m)) (m0 : Mk) (V0 : MkV) (W : World) (v0 v1 v2 v3 v4 : Value) (a b : Nat) (h : MkAt E W m0 V0) (hg : GrAt W E.base (some E.g0) (some E.g1) (some E.g2) (some E.g3) g)
    (hn : NodeAt W E.base (some v0) (some v1) (some v2) (some v3) (some v4) (.mk k nm tx set subs)) (ha : m0.has a) (hs : m0.Slim (Nd.mk k nm tx set subs).req) (hf : m0.full = false) :
    Calls Tryz.prog 20 #[.pointer (some ⟨E.mb, 0, none⟩), .agg #[v0, v1, v2, v3, v4], .int .i64 a, .int .i64 b] W fun e W' => (∃ v, e = .returned v) ∧ Made E m0 V0 (Nd.mkStar (E.nums g) (Nd.sub1 (.mk k nm tx set subs)) a b m0) W W' := by
  have hKp := Nd.req_pos (.mk k nm tx set subs)
  have hK9 : ¬(k = 1 ∧ subs.length = 0) → (Nd.mk k nm tx set subs).req = 9 + Nd.reqs subs := fun h => by rw [Nd.req, if_neg h]
  generalize (Nd.mk k nm tx set subs).req = K at hs hKp hK9
  have hn9 := hn
  obtain ⟨bk, bnm, btx, bsa, bsl, bsc, bna, bnl, bnc, rfl, rfl, rfl, rfl, rfl⟩ := hn.forms
  rw [NodeAt] at hn9
  obtain ⟨-, -, -, hz0, hz1, -, -, na, nc, hz4, hsl, hsubs⟩ := hn9
  simp only [Option.some.injEq, Value.slice.injEq, Value.int.injEq, true_and] at hz4 hz0
  have hy1 := Value.string.inj (Option.some.inj hz1)
  clear hz1
  subst hy1
  obtain ⟨rfl, rfl, rfl⟩ := hz4
  have hy0 := hz0.symm
  clear hz0
  subst hy0
  subst hk
  have hK9 := hK9 (by rintro ⟨h, _⟩; exact absurd h (by decide))
  have hk6 : ((3 : Int) == 6) = false := by decide
  have hk5 : ((3 : Int) == 5) = false := by decide
  have hk7 : ((3 : Int) == 7) = false := by decide
  have hk1 : ((3 : Int) == 1) = false := by decide
  have hk0 : ((3 : Int) == 0) = false := by decide
  have hk2 : ((3 : Int) == 2) = false := by decide
  have hk3 : ((3 : Int) == 3) = true := by decide
  obtain ⟨w0, hw0⟩ : ∃ w0, W.alloc (.cells #[.int .u8 3, .string bnm, .string btx, .slice bsa bsl bsc, .slice bna subs.length bnc] 51) = w0 := ⟨_, rfl⟩
  have hgr : Grew W w0 := hw0 ▸ grew_alloc W _
  have hob : Owns w0 W.heap.size [.int .u8 3, .string bnm, .string btx, .slice bsa bsl bsc, .slice bna subs.length bnc] 51 := hw0 ▸ Owns.alloc W _ _
  have HB := Lib.hid (OwnsX.fresh h hob)
  have HG := Lib.hid (hg.keep (hgr.mono h.lim))
  have HN := Lib.hid (hn.keep (hgr.mono h.lim))
  have HF0 := Lib.hid (Frk.grew (E := E) (m := m0) (V := V0) hgr)
  have hm9 := h.grew hgr
  have c14 := hm9.box.cell_at (i := 14) rfl
  rw [hf] at c14
  have cl := hm9.box.lt
  have b0 := hob.cell_at (i := 0) rfl
  have b1 := hob.cell_at (i := 1) rfl
  have b2 := hob.cell_at (i := 2) rfl
  have b3 := hob.cell_at (i := 3) rfl
  have b4 := hob.cell_at (i := 4) rfl
  have bl := hob.lt
  have HSUB := Lib.hid (SubsAt.of h hsubs)
  have HSU := Lib.hid (HSUB.out.next h (Frk.grew hgr))
  have HM0 := Lib.hid hm9
  have HL0 := Lib.hid (Mk.Le.refl m0)
  have HS := Lib.hid hs
  have HFU := Lib.hid hf
  have HX_a := Lib.hid ha
  have HE := Lib.hid hE
  unfold reachN at hsl
  clear h hg hn ha hs hgr hob hm9 hsubs HSUB hE hf
  go_enter Tryz.func20, Tryz.ntmps20
  have HP1 := Lib.hid hp1
  have HLN := Lib.hid hl1
  clear hp1 hl1
  have HC := Lib.hid (mstate_ok E m0 V0 w0 HM0.out ((HS.out.mono (show 0 + 0 ≤ K by omega)).next HL0.out).cap)
  go_wp2_with fail
  refine HC.out.mono ?_
  clear HC
  rintro e9 w1 ⟨rfl, V1, hM, hF⟩
  obtain ⟨m1, hm⟩ : ∃ m9, m9 = m0.state.2 := ⟨_, rfl⟩
  rw [← hm] at hM hF
  have hle : Mk.Le 0 m0 m1 := hm ▸ m0.state_le
  obtain ⟨d, hx⟩ : ∃ x9, x9 = m0.state.1 := ⟨_, rfl⟩
  rw [← hx]
  have HX_d : Hid (m1.has d) := Lib.hid (by rw [hm, hx]; exact m0.state_has)
  have HEX_d := Lib.hid hx
  clear hx
  have HX_a := Lib.hid (HX_a.out.next hle)
  have HG := Lib.hid (HG.out.keep (hF.below HM0.out))
  have HN := Lib.hid (HN.out.keep (hF.below HM0.out))
  have HB := Lib.hid (HB.out.next hF)
  have HL1 : Hid (Mk.Le 0 m0 m1) := Lib.hid ((HL0.out.trans hle).mono (by omega))
  have HM1 := Lib.hid hM
  have HF1 := Lib.hid (HF0.out.trans hF)
  have HEM1 := Lib.hid hm
  clear hM hF hm hle HM0 HF0 HL0
  have HC := Lib.hid (mstate_ok E m1 V1 w1 HM1.out ((HS.out.mono (show 0 + 0 ≤ K by omega)).next HL1.out).cap)
  go_wp2_with fail
  refine HC.out.mono ?_
  clear HC
  rintro e9 w2 ⟨rfl, V2, hM, hF⟩
  obtain ⟨m2, hm⟩ : ∃ m9, m9 = m1.state.2 := ⟨_, rfl⟩
  rw [← hm] at hM hF
  have hle : Mk.Le 0 m1 m2 := hm ▸ m1.state_le
  obtain ⟨e, hx⟩ : ∃ x9, x9 = m1.state.1 := ⟨_, rfl⟩
  rw [← hx]
  have HX_e : Hid (m2.has e) := Lib.hid (by rw [hm, hx]; exact m1.state_has)
  have HEX_e := Lib.hid hx
  clear hx
  have HX_a := Lib.hid (HX_a.out.next hle)
  have HX_d := Lib.hid (HX_d.out.next hle)
  have HG := Lib.hid (HG.out.keep (hF.below HM1.out))
  have HN := Lib.hid (HN.out.keep (hF.below HM1.out))
  have HB := Lib.hid (HB.out.next hF)
  have HL2 : Hid (Mk.Le 0 m0 m2) := Lib.hid ((HL1.out.trans hle).mono (by omega))
  have HM2 := Lib.hid hM
  have HF2 := Lib.hid (HF1.out.trans hF)
  have HEM2 := Lib.hid hm
  clear hM hF hm hle HM1 HF1 HL1
  have HC := Lib.hid (mempty_ok E m2 V2 w2 HM2.out a d HX_a.out (by have := ((HS.out.mono (show 0 + 1 ≤ K by omega)).next HL2.out).edges a; omega))
  go_wp2_with fail
  refine HC.out.mono ?_
  clear HC
  rintro e9 w3 ⟨⟨v, rfl⟩, V3, hM, hF⟩
  obtain ⟨m3, hm⟩ : ∃ m9, m9 = m2.empty a d := ⟨_, rfl⟩
  rw [← hm] at hM hF
  have hle : Mk.Le 1 m2 m3 := hm ▸ m2.empty_le a d
  have HX_a := Lib.hid (HX_a.out.next hle)
  have HX_d := Lib.hid (HX_d.out.next hle)
  have HX_e := Lib.hid (HX_e.out.next hle)
  have HG := Lib.hid (HG.out.keep (hF.below HM2.out))
  have HN := Lib.hid (HN.out.keep (hF.below HM2.out))
  have HB := Lib.hid (HB.out.next hF)
  have HL3 : Hid (Mk.Le 1 m0 m3) := Lib.hid ((HL2.out.trans hle).mono (by omega))
  have HM3 := Lib.hid hM
  have HF3 := Lib.hid (HF2.out.trans hF)
  have HEM3 := Lib.hid hm
  clear hM hF hm hle HM2 HF2 HL2
  have HC := Lib.hid (mstate_ok E m3 V3 w3 HM3.out ((HS.out.mono (show 1 + 0 ≤ K by omega)).next HL3.out).cap)
  go_wp2_with fail
  refine HC.out.mono ?_
  clear HC
  rintro e9 w4 ⟨rfl, V4, hM, hF⟩
  obtain ⟨m4, hm⟩ : ∃ m9, m9 = m3.state.2 := ⟨_, rfl⟩
  rw [← hm] at hM hF
  have hle : Mk.Le 0 m3 m4 := hm ▸ m3.state_le
  obtain ⟨x, hx⟩ : ∃ x9, x9 = m3.state.1 := ⟨_, rfl⟩
  rw [← hx]
  have HX_x : Hid (m4.has x) := Lib.hid (by rw [hm, hx]; exact m3.state_has)
  have HEX_x := Lib.hid hx
  clear hx
  have HX_a := Lib.hid (HX_a.out.next hle)
  have HX_d := Lib.hid (HX_d.out.next hle)
  have HX_e := Lib.hid (HX_e.out.next hle)
  have HG := Lib.hid (HG.out.keep (hF.below HM3.out))
  have HN := Lib.hid (HN.out.keep (hF.below HM3.out))
  have HB := Lib.hid (HB.out.next hF)
  have HL4 : Hid (Mk.Le (1 + 0) m0 m4) := Lib.hid ((HL3.out.trans hle).mono (by omega))
  have HM4 := Lib.hid hM
  have HF4 := Lib.hid (HF3.out.trans hF)
  have HEM4 := Lib.hid hm
  clear hM hF hm hle HM3 HF3 HL3
  have HC := Lib.hid (malt_ok E m4 V4 w4 HM4.out d x d HX_d.out (by have := ((HS.out.mono (show (1 + 0) + 1 ≤ K by omega)).next HL4.out).edges d; omega) (by have := ((HS.out.mono (show (1 + 0) + 1 ≤ K by omega)).next HL4.out).ends d; omega))
  go_wp2_with fail
  refine HC.out.mono ?_
  clear HC
  rintro e9 w5 ⟨⟨v, rfl⟩, V5, hM, hF⟩
  obtain ⟨m5, hm⟩ : ∃ m9, m9 = m4.alt d x d := ⟨_, rfl⟩
  rw [← hm] at hM hF
  have hle : Mk.Le 1 m4 m5 := hm ▸ m4.alt_le d x d
  have HX_a := Lib.hid (HX_a.out.next hle)
  have HX_d := Lib.hid (HX_d.out.next hle)
  have HX_e := Lib.hid (HX_e.out.next hle)
  have HX_x := Lib.hid (HX_x.out.next hle)
  have HG := Lib.hid (HG.out.keep (hF.below HM4.out))
  have HN := Lib.hid (HN.out.keep (hF.below HM4.out))
  have HB := Lib.hid (HB.out.next hF)
  have HL5 : Hid (Mk.Le ((1 + 0) + 1) m0 m5) := Lib.hid ((HL4.out.trans hle).mono (by omega))
  have HM5 := Lib.hid hM
  have HF5 := Lib.hid (HF4.out.trans hF)
  have HEM5 := Lib.hid hm
  clear hM hF hm hle HM4 HF4 HL4
  have HC := Lib.hid (msub_ok _ E.base w5 _ _ _ _ _ HM5.out.lim HN.out)
  have b0 := HB.out.1.cell_at (i := 0) rfl
  have b1 := HB.out.1.cell_at (i := 1) rfl
  have b2 := HB.out.1.cell_at (i := 2) rfl
  have b3 := HB.out.1.cell_at (i := 3) rfl
  have b4 := HB.out.1.cell_at (i := 4) rfl
  have bl := HB.out.1.lt
  go_wp2_with fail
  refine HC.out.mono ?_
  clear HC b0 b1 b2 b3 b4 bl
  rintro e9 u5 ⟨⟨v, rfl, y0, y1, y2, y3, y4, rfl, hy⟩, hb⟩
  obtain ⟨ck, cnm, ctx, csa, csl, csc, cna, cnl, cnc, rfl, rfl, rfl, rfl, rfl⟩ := hy.forms
  have HY := Lib.hid hy
  have HG := Lib.hid (HG.out.keep ((Frk.grew hb).below HM5.out))
  have HN := Lib.hid (HN.out.keep ((Frk.grew hb).below HM5.out))
  have HB := Lib.hid (HB.out.next (Frk.grew hb))
  have HF5 := Lib.hid (HF5.out.trans (Frk.grew hb))
  have HM5 := Lib.hid (HM5.out.grew hb)
  clear hy hb
  have HC := Lib.hid (HP1.out m5 V5 u5 (.int .u8 ck) (.string cnm) (.string ctx) (.slice csa csl csc) (.slice cna cnl cnc) x d HM5.out HG.out HY.out HX_x.out (((HS.out.mono (show ((1 + 0) + 1) + K1 ≤ K by omega)).next HL5.out).mono (by omega)))
  go_wp2_with fail
  refine HC.out.mono ?_
  clear HC
  rintro e9 w6 ⟨⟨v, rfl⟩, V6, hM, hF⟩
  obtain ⟨m6, hm⟩ : ∃ m9, m9 = (Nd.sub1 (.mk 3 bnm tx set subs)).piece (E.nums g) x d m5 := ⟨_, rfl⟩
  rw [← hm] at hM hF
  have hle : Mk.Le K1 m5 m6 := hm ▸ HLN.out x d m5
  have HX_a := Lib.hid (HX_a.out.next hle)
  have HX_d := Lib.hid (HX_d.out.next hle)
  have HX_e := Lib.hid (HX_e.out.next hle)
  have HX_x := Lib.hid (HX_x.out.next hle)
  have HG := Lib.hid (HG.out.keep (hF.below HM5.out))
  have HN := Lib.hid (HN.out.keep (hF.below HM5.out))
  have HB := Lib.hid (HB.out.next hF)
  have HL6 : Hid (Mk.Le (((1 + 0) + 1) + K1) m0 m6) := Lib.hid ((HL5.out.trans hle).mono (by omega))
  have HM6 := Lib.hid hM
  have HF6 := Lib.hid (HF5.out.trans hF)
  have HEM6 := Lib.hid hm
  clear hM hF hm hle HM5 HF5 HL5
  have HC := Lib.hid (mleaving_ok E m6 V6 w6 HM6.out d e b HX_d.out HX_e.out ((HS.out.mono (show (((1 + 0) + 1) + K1) + 3 ≤ K by omega)).next HL6.out))
  go_wp2_with fail
  refine HC.out.mono ?_
  clear HC
  rintro e9 w7 ⟨⟨v, rfl⟩, V7, hM, hF⟩
  obtain ⟨m7, hm⟩ : ∃ m9, m9 = m6.leaving d e b := ⟨_, rfl⟩
  rw [← hm] at hM hF
  have hle : Mk.Le 3 m6 m7 := hm ▸ m6.leaving_le d e b
  have HX_a := Lib.hid (HX_a.out.next hle)
  have HX_d := Lib.hid (HX_d.out.next hle)
  have HX_e := Lib.hid (HX_e.out.next hle)
  have HX_x := Lib.hid (HX_x.out.next hle)
  have HG := Lib.hid (HG.out.keep (hF.below HM6.out))
  have HN := Lib.hid (HN.out.keep (hF.below HM6.out))
  have HB := Lib.hid (HB.out.next hF)
  have HL7 : Hid (Mk.Le ((((1 + 0) + 1) + K1) + 3) m0 m7) := Lib.hid ((HL6.out.trans hle).mono (by omega))
  have HM7 := Lib.hid hM
  have HF7 := Lib.hid (HF6.out.trans hF)
  have HEM7 := Lib.hid hm
  clear hM hF hm hle HM6 HF6 HL6
  go_wp2_with fail
  go_end0
  have hres : Nd.mkStar (E.nums g) (Nd.sub1 (.mk 3 bnm tx set subs)) a b m0 = m7 := by
    unfold Nd.mkStar
    rw [← HEM1.out, ← HEM2.out, ← HEX_d.out, ← HEX_e.out, ← HEM3.out, ← HEM4.out, ← HEX_x.out, ← HEM5.out, ← HEM6.out, ← HEM7.out]
  rw [hres]
  exact ⟨⟨_, rfl⟩, _, HM7.out, HF7.out⟩

set_option maxHeartbeats 4000000 in
set_option maxRecDepth 40000 in
theorem mpiece_plus (E : MkE) (g : Gr) (hE : E.rules.length ≤ reachN ∧ E.tokens.length ≤ reachN) (k : Int) (nm tx : ByteArray) (set : List (Int × Int)) (subs : List Nd) (hk : k = 4) (K1 : Nat) (hk1 : K1 + 6 ≤ 9 + Nd.reqs subs) (hp1 : PieceK E g K1 (Nd.sub1 (.mk k nm tx set subs))) (hl1 : ∀ a b m, Mk.Le K1 m ((Nd.sub1 (.mk k nm tx set subs)).piece (E.nums g) a b m)) (m0 : Mk) (V0 : MkV) (W : World) (v0 v1 v2 v3 v4 : Value) (a b : Nat) (h : MkAt E W m0 V0) (hg : GrAt W E.base (some E.g0) (some E.g1) (some E.g2) (some E.g3) g)
    (hn : NodeAt W E.base (some v0) (some v1) (some v2) (some v3) (some v4) (.mk k nm tx set subs)) (ha : m0.has a) (hs : m0.Slim (Nd.mk k nm tx set subs).req) (hf : m0.full = false) :
    Calls Tryz.prog 20 #[.pointer (some ⟨E.mb, 0, none⟩), .agg #[v0, v1, v2, v3, v4], .int .i64 a, .int .i64 b] W fun e W' => (∃ v, e = .returned v) ∧ Made E m0 V0 (Nd.mkPlus (E.nums g) (Nd.sub1 (.mk k nm tx set subs)) a b m0) W W' := by
  have hKp := Nd.req_pos (.mk k nm tx set subs)
  have hK9 : ¬(k = 1 ∧ subs.length = 0) → (Nd.mk k nm tx set subs).req = 9 + Nd.reqs subs := fun h => by rw [Nd.req, if_neg h]
  generalize (Nd.mk k nm tx set subs).req = K at hs hKp hK9
  have hn9 := hn
  obtain ⟨bk, bnm, btx, bsa, bsl, bsc, bna, bnl, bnc, rfl, rfl, rfl, rfl, rfl⟩ := hn.forms
  rw [NodeAt] at hn9
  obtain ⟨-, -, -, hz0, hz1, -, -, na, nc, hz4, hsl, hsubs⟩ := hn9
  simp only [Option.some.injEq, Value.slice.injEq, Value.int.injEq, true_and] at hz4 hz0
  have hy1 := Value.string.inj (Option.some.inj hz1)
  clear hz1
  subst hy1
  obtain ⟨rfl, rfl, rfl⟩ := hz4
  have hy0 := hz0.symm
  clear hz0
  subst hy0
  subst hk
  have hK9 := hK9 (by rintro ⟨h, _⟩; exact absurd h (by decide))
  have hk6 : ((4 : Int) == 6) = false := by decide
  have hk5 : ((4 : Int) == 5) = false := by decide
  have hk7 : ((4 : Int) == 7) = false := by decide
  have hk1 : ((4 : Int) == 1) = false := by decide
  have hk0 : ((4 : Int) == 0) = false := by decide
  have hk2 : ((4 : Int) == 2) = false := by decide
  have hk3 : ((4 : Int) == 3) = false := by decide
  have hk4 : ((4 : Int) == 4) = true := by decide
  obtain ⟨w0, hw0⟩ : ∃ w0, W.alloc (.cells #[.int .u8 4, .string bnm, .string btx, .slice bsa bsl bsc, .slice bna subs.length bnc] 51) = w0 := ⟨_, rfl⟩
  have hgr : Grew W w0 := hw0 ▸ grew_alloc W _
  have hob : Owns w0 W.heap.size [.int .u8 4, .string bnm, .string btx, .slice bsa bsl bsc, .slice bna subs.length bnc] 51 := hw0 ▸ Owns.alloc W _ _
  have HB := Lib.hid (OwnsX.fresh h hob)
  have HG := Lib.hid (hg.keep (hgr.mono h.lim))
  have HN := Lib.hid (hn.keep (hgr.mono h.lim))
  have HF0 := Lib.hid (Frk.grew (E := E) (m := m0) (V := V0) hgr)
  have hm9 := h.grew hgr
  have c14 := hm9.box.cell_at (i := 14) rfl
  rw [hf] at c14
  have cl := hm9.box.lt
  have b0 := hob.cell_at (i := 0) rfl
  have b1 := hob.cell_at (i := 1) rfl
  have b2 := hob.cell_at (i := 2) rfl
  have b3 := hob.cell_at (i := 3) rfl
  have b4 := hob.cell_at (i := 4) rfl
  have bl := hob.lt
  have HSUB := Lib.hid (SubsAt.of h hsubs)
  have HSU := Lib.hid (HSUB.out.next h (Frk.grew hgr))
  have HM0 := Lib.hid hm9
  have HL0 := Lib.hid (Mk.Le.refl m0)
  have HS := Lib.hid hs
  have HFU := Lib.hid hf
  have HX_a := Lib.hid ha
  have HE := Lib.hid hE
  unfold reachN at hsl
  clear h hg hn ha hs hgr hob hm9 hsubs HSUB hE hf
  go_enter Tryz.func20, Tryz.ntmps20
  have HP1 := Lib.hid hp1
  have HLN := Lib.hid hl1
  clear hp1 hl1
  have HC := Lib.hid (mstate_ok E m0 V0 w0 HM0.out ((HS.out.mono (show 0 + 0 ≤ K by omega)).next HL0.out).cap)
  go_wp2_with fail
  refine HC.out.mono ?_
  clear HC
  rintro e9 w1 ⟨rfl, V1, hM, hF⟩
  obtain ⟨m1, hm⟩ : ∃ m9, m9 = m0.state.2 := ⟨_, rfl⟩
  rw [← hm] at hM hF
  have hle : Mk.Le 0 m0 m1 := hm ▸ m0.state_le
  obtain ⟨x, hx⟩ : ∃ x9, x9 = m0.state.1 := ⟨_, rfl⟩
  rw [← hx]
  have HX_x : Hid (m1.has x) := Lib.hid (by rw [hm, hx]; exact m0.state_has)
  have HEX_x := Lib.hid hx
  clear hx
  have HX_a := Lib.hid (HX_a.out.next hle)
  have HG := Lib.hid (HG.out.keep (hF.below HM0.out))
  have HN := Lib.hid (HN.out.keep (hF.below HM0.out))
  have HB := Lib.hid (HB.out.next hF)
  have HL1 : Hid (Mk.Le 0 m0 m1) := Lib.hid ((HL0.out.trans hle).mono (by omega))
  have HM1 := Lib.hid hM
  have HF1 := Lib.hid (HF0.out.trans hF)
  have HEM1 := Lib.hid hm
  clear hM hF hm hle HM0 HF0 HL0
  have HC := Lib.hid (mstate_ok E m1 V1 w1 HM1.out ((HS.out.mono (show 0 + 0 ≤ K by omega)).next HL1.out).cap)
  go_wp2_with fail
  refine HC.out.mono ?_
  clear HC
  rintro e9 w2 ⟨rfl, V2, hM, hF⟩
  obtain ⟨m2, hm⟩ : ∃ m9, m9 = m1.state.2 := ⟨_, rfl⟩
  rw [← hm] at hM hF
  have hle : Mk.Le 0 m1 m2 := hm ▸ m1.state_le
  obtain ⟨d, hx⟩ : ∃ x9, x9 = m1.state.1 := ⟨_, rfl⟩
  rw [← hx]
  have HX_d : Hid (m2.has d) := Lib.hid (by rw [hm, hx]; exact m1.state_has)
  have HEX_d := Lib.hid hx
  clear hx
  have HX_a := Lib.hid (HX_a.out.next hle)
  have HX_x := Lib.hid (HX_x.out.next hle)
  have HG := Lib.hid (HG.out.keep (hF.below HM1.out))
  have HN := Lib.hid (HN.out.keep (hF.below HM1.out))
  have HB := Lib.hid (HB.out.next hF)
  have HL2 : Hid (Mk.Le 0 m0 m2) := Lib.hid ((HL1.out.trans hle).mono (by omega))
  have HM2 := Lib.hid hM
  have HF2 := Lib.hid (HF1.out.trans hF)
  have HEM2 := Lib.hid hm
  clear hM hF hm hle HM1 HF1 HL1
  have HC := Lib.hid (mstate_ok E m2 V2 w2 HM2.out ((HS.out.mono (show 0 + 0 ≤ K by omega)).next HL2.out).cap)
  go_wp2_with fail
  refine HC.out.mono ?_
  clear HC
  rintro e9 w3 ⟨rfl, V3, hM, hF⟩
  obtain ⟨m3, hm⟩ : ∃ m9, m9 = m2.state.2 := ⟨_, rfl⟩
  rw [← hm] at hM hF
  have hle : Mk.Le 0 m2 m3 := hm ▸ m2.state_le
  obtain ⟨e, hx⟩ : ∃ x9, x9 = m2.state.1 := ⟨_, rfl⟩
  rw [← hx]
  have HX_e : Hid (m3.has e) := Lib.hid (by rw [hm, hx]; exact m2.state_has)
  have HEX_e := Lib.hid hx
  clear hx
  have HX_a := Lib.hid (HX_a.out.next hle)
  have HX_x := Lib.hid (HX_x.out.next hle)
  have HX_d := Lib.hid (HX_d.out.next hle)
  have HG := Lib.hid (HG.out.keep (hF.below HM2.out))
  have HN := Lib.hid (HN.out.keep (hF.below HM2.out))
  have HB := Lib.hid (HB.out.next hF)
  have HL3 : Hid (Mk.Le 0 m0 m3) := Lib.hid ((HL2.out.trans hle).mono (by omega))
  have HM3 := Lib.hid hM
  have HF3 := Lib.hid (HF2.out.trans hF)
  have HEM3 := Lib.hid hm
  clear hM hF hm hle HM2 HF2 HL2
  have HC := Lib.hid (mempty_ok E m3 V3 w3 HM3.out a x HX_a.out (by have := ((HS.out.mono (show 0 + 1 ≤ K by omega)).next HL3.out).edges a; omega))
  go_wp2_with fail
  refine HC.out.mono ?_
  clear HC
  rintro e9 w4 ⟨⟨v, rfl⟩, V4, hM, hF⟩
  obtain ⟨m4, hm⟩ : ∃ m9, m9 = m3.empty a x := ⟨_, rfl⟩
  rw [← hm] at hM hF
  have hle : Mk.Le 1 m3 m4 := hm ▸ m3.empty_le a x
  have HX_a := Lib.hid (HX_a.out.next hle)
  have HX_x := Lib.hid (HX_x.out.next hle)
  have HX_d := Lib.hid (HX_d.out.next hle)
  have HX_e := Lib.hid (HX_e.out.next hle)
  have HG := Lib.hid (HG.out.keep (hF.below HM3.out))
  have HN := Lib.hid (HN.out.keep (hF.below HM3.out))
  have HB := Lib.hid (HB.out.next hF)
  have HL4 : Hid (Mk.Le 1 m0 m4) := Lib.hid ((HL3.out.trans hle).mono (by omega))
  have HM4 := Lib.hid hM
  have HF4 := Lib.hid (HF3.out.trans hF)
  have HEM4 := Lib.hid hm
  clear hM hF hm hle HM3 HF3 HL3
  have HC := Lib.hid (msub_ok _ E.base w4 _ _ _ _ _ HM4.out.lim HN.out)
  have b0 := HB.out.1.cell_at (i := 0) rfl
  have b1 := HB.out.1.cell_at (i := 1) rfl
  have b2 := HB.out.1.cell_at (i := 2) rfl
  have b3 := HB.out.1.cell_at (i := 3) rfl
  have b4 := HB.out.1.cell_at (i := 4) rfl
  have bl := HB.out.1.lt
  go_wp2_with fail
  refine HC.out.mono ?_
  clear HC b0 b1 b2 b3 b4 bl
  rintro e9 u4 ⟨⟨v, rfl, y0, y1, y2, y3, y4, rfl, hy⟩, hb⟩
  obtain ⟨ck, cnm, ctx, csa, csl, csc, cna, cnl, cnc, rfl, rfl, rfl, rfl, rfl⟩ := hy.forms
  have HY := Lib.hid hy
  have HG := Lib.hid (HG.out.keep ((Frk.grew hb).below HM4.out))
  have HN := Lib.hid (HN.out.keep ((Frk.grew hb).below HM4.out))
  have HB := Lib.hid (HB.out.next (Frk.grew hb))
  have HF4 := Lib.hid (HF4.out.trans (Frk.grew hb))
  have HM4 := Lib.hid (HM4.out.grew hb)
  clear hy hb
  have HC := Lib.hid (HP1.out m4 V4 u4 (.int .u8 ck) (.string cnm) (.string ctx) (.slice csa csl csc) (.slice cna cnl cnc) x d HM4.out HG.out HY.out HX_x.out (((HS.out.mono (show 1 + K1 ≤ K by omega)).next HL4.out).mono (by omega)))
  go_wp2_with fail
  refine HC.out.mono ?_
  clear HC
  rintro e9 w5 ⟨⟨v, rfl⟩, V5, hM, hF⟩
  obtain ⟨m5, hm⟩ : ∃ m9, m9 = (Nd.sub1 (.mk 4 bnm tx set subs)).piece (E.nums g) x d m4 := ⟨_, rfl⟩
  rw [← hm] at hM hF
  have hle : Mk.Le K1 m4 m5 := hm ▸ HLN.out x d m4
  have HX_a := Lib.hid (HX_a.out.next hle)
  have HX_x := Lib.hid (HX_x.out.next hle)
  have HX_d := Lib.hid (HX_d.out.next hle)
  have HX_e := Lib.hid (HX_e.out.next hle)
  have HG := Lib.hid (HG.out.keep (hF.below HM4.out))
  have HN := Lib.hid (HN.out.keep (hF.below HM4.out))
  have HB := Lib.hid (HB.out.next hF)
  have HL5 : Hid (Mk.Le (1 + K1) m0 m5) := Lib.hid ((HL4.out.trans hle).mono (by omega))
  have HM5 := Lib.hid hM
  have HF5 := Lib.hid (HF4.out.trans hF)
  have HEM5 := Lib.hid hm
  clear hM hF hm hle HM4 HF4 HL4
  have HC := Lib.hid (malt_ok E m5 V5 w5 HM5.out d x d HX_d.out (by have := ((HS.out.mono (show (1 + K1) + 1 ≤ K by omega)).next HL5.out).edges d; omega) (by have := ((HS.out.mono (show (1 + K1) + 1 ≤ K by omega)).next HL5.out).ends d; omega))
  go_wp2_with fail
  refine HC.out.mono ?_
  clear HC
  rintro e9 w6 ⟨⟨v, rfl⟩, V6, hM, hF⟩
  obtain ⟨m6, hm⟩ : ∃ m9, m9 = m5.alt d x d := ⟨_, rfl⟩
  rw [← hm] at hM hF
  have hle : Mk.Le 1 m5 m6 := hm ▸ m5.alt_le d x d
  have HX_a := Lib.hid (HX_a.out.next hle)
  have HX_x := Lib.hid (HX_x.out.next hle)
  have HX_d := Lib.hid (HX_d.out.next hle)
  have HX_e := Lib.hid (HX_e.out.next hle)
  have HG := Lib.hid (HG.out.keep (hF.below HM5.out))
  have HN := Lib.hid (HN.out.keep (hF.below HM5.out))
  have HB := Lib.hid (HB.out.next hF)
  have HL6 : Hid (Mk.Le ((1 + K1) + 1) m0 m6) := Lib.hid ((HL5.out.trans hle).mono (by omega))
  have HM6 := Lib.hid hM
  have HF6 := Lib.hid (HF5.out.trans hF)
  have HEM6 := Lib.hid hm
  clear hM hF hm hle HM5 HF5 HL5
  have HC := Lib.hid (mleaving_ok E m6 V6 w6 HM6.out d e b HX_d.out HX_e.out ((HS.out.mono (show ((1 + K1) + 1) + 3 ≤ K by omega)).next HL6.out))
  go_wp2_with fail
  refine HC.out.mono ?_
  clear HC
  rintro e9 w7 ⟨⟨v, rfl⟩, V7, hM, hF⟩
  obtain ⟨m7, hm⟩ : ∃ m9, m9 = m6.leaving d e b := ⟨_, rfl⟩
  rw [← hm] at hM hF
  have hle : Mk.Le 3 m6 m7 := hm ▸ m6.leaving_le d e b
  have HX_a := Lib.hid (HX_a.out.next hle)
  have HX_x := Lib.hid (HX_x.out.next hle)
  have HX_d := Lib.hid (HX_d.out.next hle)
  have HX_e := Lib.hid (HX_e.out.next hle)
  have HG := Lib.hid (HG.out.keep (hF.below HM6.out))
  have HN := Lib.hid (HN.out.keep (hF.below HM6.out))
  have HB := Lib.hid (HB.out.next hF)
  have HL7 : Hid (Mk.Le (((1 + K1) + 1) + 3) m0 m7) := Lib.hid ((HL6.out.trans hle).mono (by omega))
  have HM7 := Lib.hid hM
  have HF7 := Lib.hid (HF6.out.trans hF)
  have HEM7 := Lib.hid hm
  clear hM hF hm hle HM6 HF6 HL6
  go_wp2_with fail
  go_end0
  have hres : Nd.mkPlus (E.nums g) (Nd.sub1 (.mk 4 bnm tx set subs)) a b m0 = m7 := by
    unfold Nd.mkPlus
    rw [← HEM1.out, ← HEM2.out, ← HEM3.out, ← HEX_x.out, ← HEX_d.out, ← HEX_e.out, ← HEM4.out, ← HEM5.out, ← HEM6.out, ← HEM7.out]
  rw [hres]
  exact ⟨⟨_, rfl⟩, _, HM7.out, HF7.out⟩
end Go.Proofs.YtiiffcmojkdlaaaGreatDoor
