/- The making's piece: an option, a row. -/
import Derived.Test.YtiiffcmojkdlaaaGreatDoorQ39
import Derived.Test.YtiiffcmojkdlaaaGreatDoorQ38
namespace Go.Proofs.YtiiffcmojkdlaaaGreatDoor
open Go.RowKit

theorem subs_two {E : MkE} {m : Mk} {V : MkV} {w w' : World} {c : Nat} {n1 n2 : Nd} {y0 y1 y2 y3 y4 z0 z1 z2 z3 z4 : Value} (hM : MkAt E w m V) (ho : Owns w' w.heap.size [y0, y1, y2, y3, y4, z0, z1, z2, z3, z4] c)
    (h1 : NodeAt w' E.base (some y0) (some y1) (some y2) (some y3) (some y4) n1) (h2 : NodeAt w' E.base (some z0) (some z1) (some z2) (some z3) (some z4) n2) : SubsAt E m V w' (some ⟨w.heap.size, 0, none⟩) [n1, n2] := fun k hk => by
  have e : ∀ (i : Nat) v, [y0, y1, y2, y3, y4, z0, z1, z2, z3, z4][i]? = some v → w'.cell? ⟨w.heap.size, i, none⟩ = some v := fun i v hv => ho.cell_at hv
  refine ⟨w.heap.size, 0, rfl, ho.lt, fun hm => by have := hM.mine_lt hm; omega, ?_⟩
  have hk : k = 0 ∨ k = 1 := by simp at hk; omega
  rcases hk with rfl | rfl
  · rw [e _ y0 rfl, e _ y1 rfl, e _ y2 rfl, e _ y3 rfl, e _ y4 rfl]; exact h1
  · rw [e _ z0 rfl, e _ z1 rfl, e _ z2 rfl, e _ z3 rfl, e _ z4 rfl]; exact h2

set_option maxHeartbeats 4000000 in
set_option maxRecDepth 40000 in
theorem mpiece_opt (E : MkE) (g : Gr) (hE : E.rules.length ≤ reachN ∧ E.tokens.length ≤ reachN) (k : Int) (nm tx : ByteArray) (set : List (Int × Int)) (subs : List Nd) (hk : k = 2) (hk1 : (Nd.sub1 (.mk k nm tx set subs)).req ≤ 1 + Nd.reqs subs) (hp1 : PieceOk E g (Nd.sub1 (.mk k nm tx set subs))) (hpn : PieceOk E g noNd) (m0 : Mk) (V0 : MkV) (W : World) (v0 v1 v2 v3 v4 : Value) (a b : Nat) (h : MkAt E W m0 V0) (hg : GrAt W E.base (some E.g0) (some E.g1) (some E.g2) (some E.g3) g)
    (hn : NodeAt W E.base (some v0) (some v1) (some v2) (some v3) (some v4) (.mk k nm tx set subs)) (ha : m0.has a) (hs : m0.Slim (Nd.mk k nm tx set subs).req) (hf : m0.full = false) :
    Calls Tryz.prog 20 #[.pointer (some ⟨E.mb, 0, none⟩), .agg #[v0, v1, v2, v3, v4], .int .i64 a, .int .i64 b] W fun e W' => (∃ v, e = .returned v) ∧ Made E m0 V0 (Nd.mkAlts (E.nums g) [Nd.sub1 (.mk k nm tx set subs), noNd] a b m0) W W' := by
  have hKp := Nd.req_pos (.mk k nm tx set subs)
  have hK9 : ¬(k = 1 ∧ subs.length = 0) → (Nd.mk k nm tx set subs).req = 9 + Nd.reqs subs := fun h => by rw [Nd.req, if_neg h]
  generalize (Nd.mk k nm tx set subs).req = K at hs hKp hK9
  have hn9 := hn
  obtain ⟨bk, bnm, btx, bsa, bsl, bsc, bna, bnl, bnc, rfl, rfl, rfl, rfl, rfl⟩ := hn.forms
  rw [NodeAt] at hn9
  obtain ⟨-, -, -, hz0, hz1, -, -, na, nc, hz4, hsl, hsubs⟩ := hn9
  simp only [Option.some.injEq, Value.slice.injEq, Value.int.injEq, true_and] at hz4 hz0
  have hy1 := Value.string.inj (Option.some.inj hz1)
  clear hz1
  subst hy1
  obtain ⟨rfl, rfl, rfl⟩ := hz4
  have hy0 := hz0.symm
  clear hz0
  subst hy0
  subst hk
  have hK9 := hK9 (by rintro ⟨h, _⟩; exact absurd h (by decide))
  have hk6 : ((2 : Int) == 6) = false := by decide
  have hk5 : ((2 : Int) == 5) = false := by decide
  have hk7 : ((2 : Int) == 7) = false := by decide
  have hk1 : ((2 : Int) == 1) = false := by decide
  have hk0 : ((2 : Int) == 0) = false := by decide
  have hk2 : ((2 : Int) == 2) = true := by decide
  obtain ⟨w0, hw0⟩ : ∃ w0, W.alloc (.cells #[.int .u8 2, .string bnm, .string btx, .slice bsa bsl bsc, .slice bna subs.length bnc] 51) = w0 := ⟨_, rfl⟩
  have hgr : Grew W w0 := hw0 ▸ grew_alloc W _
  have hob : Owns w0 W.heap.size [.int .u8 2, .string bnm, .string btx, .slice bsa bsl bsc, .slice bna subs.length bnc] 51 := hw0 ▸ Owns.alloc W _ _
  have HB := Lib.hid (OwnsX.fresh h hob)
  have HG := Lib.hid (hg.keep (hgr.mono h.lim))
  have HN := Lib.hid (hn.keep (hgr.mono h.lim))
  have HF0 := Lib.hid (Frk.grew (E := E) (m := m0) (V := V0) hgr)
  have hm9 := h.grew hgr
  have c14 := hm9.box.cell_at (i := 14) rfl
  rw [hf] at c14
  have cl := hm9.box.lt
  have b0 := hob.cell_at (i := 0) rfl
  have b1 := hob.cell_at (i := 1) rfl
  have b2 := hob.cell_at (i := 2) rfl
  have b3 := hob.cell_at (i := 3) rfl
  have b4 := hob.cell_at (i := 4) rfl
  have bl := hob.lt
  have HSUB := Lib.hid (SubsAt.of h hsubs)
  have HSU := Lib.hid (HSUB.out.next h (Frk.grew hgr))
  have HM0 := Lib.hid hm9
  have HL0 := Lib.hid (Mk.Le.refl m0)
  have HS := Lib.hid hs
  have HFU := Lib.hid hf
  have HX_a := Lib.hid ha
  have HE := Lib.hid hE
  unfold reachN at hsl
  clear h hg hn ha hs hgr hob hm9 hsubs HSUB hE hf
  go_enter Tryz.func20, Tryz.ntmps20
  have HP1 := Lib.hid hp1
  have HPN := Lib.hid hpn
  clear hp1 hpn
  have HC := Lib.hid (msub_ok _ E.base w0 _ _ _ _ _ HM0.out.lim HN.out)
  have b0 := HB.out.1.cell_at (i := 0) rfl
  have b1 := HB.out.1.cell_at (i := 1) rfl
  have b2 := HB.out.1.cell_at (i := 2) rfl
  have b3 := HB.out.1.cell_at (i := 3) rfl
  have b4 := HB.out.1.cell_at (i := 4) rfl
  have bl := HB.out.1.lt
  go_wp2_with fail
  refine HC.out.mono ?_
  clear HC b0 b1 b2 b3 b4 bl
  rintro e9 u0 ⟨⟨v, rfl, y0, y1, y2, y3, y4, rfl, hy⟩, hb⟩
  obtain ⟨ck, cnm, ctx, csa, csl, csc, cna, cnl, cnc, rfl, rfl, rfl, rfl, rfl⟩ := hy.forms
  have HY := Lib.hid hy
  have HG := Lib.hid (HG.out.keep ((Frk.grew hb).below HM0.out))
  have HN := Lib.hid (HN.out.keep ((Frk.grew hb).below HM0.out))
  have HB := Lib.hid (HB.out.next (Frk.grew hb))
  have HF0 := Lib.hid (HF0.out.trans (Frk.grew hb))
  have HM0 := Lib.hid (HM0.out.grew hb)
  clear hy hb
  have HC := Lib.hid (mnothing_ok u0)
  go_wp2_with fail
  refine HC.out.mono ?_
  rintro e9 w1 ⟨he, hb⟩
  obtain ⟨es, hes⟩ : ∃ es : ByteArray, es = { data := #[] } := ⟨_, rfl⟩
  obtain ⟨kk, hkk⟩ : ∃ kk : Int, kk = 1 := ⟨_, rfl⟩
  have hnn := noNd_at w1 E.base
  rw [← hes] at he hnn
  rw [← hkk] at he hnn
  subst he
  have HNN := Lib.hid hnn
  obtain ⟨w2, hw2⟩ : ∃ w2, w1.alloc (.cells #[.int .u8 ck, .string cnm, .string ctx, .slice csa csl csc, .slice cna cnl cnc, .int .u8 kk, .string es, .string es, .slice none 0 0, .slice none 0 0] 51) = w2 := ⟨_, rfl⟩
  have hg2 : Grew w1 w2 := hw2 ▸ grew_alloc w1 _
  have ho2 : Owns w2 w1.heap.size [.int .u8 ck, .string cnm, .string ctx, .slice csa csl csc, .slice cna cnl cnc, .int .u8 kk, .string es, .string es, .slice none 0 0, .slice none 0 0] 51 := hw2 ▸ Owns.alloc w1 _ _
  have hM1 := HM0.out.grew hb
  have hsub := subs_two (n1 := Nd.sub1 (.mk 2 bnm tx set subs)) (n2 := noNd) hM1 ho2 (HY.out.keep ((hb.trans hg2).mono HM0.out.lim)) (hnn.keep (hg2.mono hM1.lim))
  have HC := Lib.hid (malts_ok E g [Nd.sub1 (.mk 2 bnm tx set subs), noNd] (fun q hq => by
    have hq : q = 0 ∨ q = 1 := by simp at hq; omega
    rcases hq with rfl | rfl
    · exact HP1.out
    · exact HPN.out) (by unfold reachN; simp) m0 V0 w2 (hM1.grew hg2) (HG.out.keep ((hb.trans hg2).mono HM0.out.lim)) _ 2 hsub a b HX_a.out K (by
      have : Nd.reqs [Nd.sub1 (.mk 2 bnm tx set subs), noNd] = 1 + (Nd.sub1 (.mk 2 bnm tx set subs)).req + (1 + 1 + 0) := rfl
      omega) HS.out)
  have HFZ := Lib.hid (HF0.out.trans (Frk.grew (E := E) (m := m0) (V := V0) (hb.trans hg2)))
  clear hb hg2 ho2 hM1 hsub hnn hes hkk
  go_wp2_with fail
  refine HC.out.mono ?_
  rintro e w3 ⟨⟨v, rfl⟩, V3, hM, hF⟩
  have HM3 := Lib.hid hM
  have HF3 := Lib.hid (HFZ.out.trans hF)
  clear hM hF
  go_wp2_with fail
  go_end0
  exact ⟨⟨_, rfl⟩, V3, HM3.out, HF3.out⟩

set_option maxHeartbeats 4000000 in
set_option maxRecDepth 40000 in
theorem mpiece_seq (E : MkE) (g : Gr) (hE : E.rules.length ≤ reachN ∧ E.tokens.length ≤ reachN) (k : Int) (nm tx : ByteArray) (set : List (Int × Int)) (subs : List Nd) (hk : k = 1) (hne : 0 < subs.length) (hp : ∀ i (h : i < subs.length), PieceOk E g subs[i]) (m0 : Mk) (V0 : MkV) (W : World) (v0 v1 v2 v3 v4 : Value) (a b : Nat) (h : MkAt E W m0 V0) (hg : GrAt W E.base (some E.g0) (some E.g1) (some E.g2) (some E.g3) g)
    (hn : NodeAt W E.base (some v0) (some v1) (some v2) (some v3) (some v4) (.mk k nm tx set subs)) (ha : m0.has a) (hs : m0.Slim (Nd.mk k nm tx set subs).req) (hf : m0.full = false) :
    Calls Tryz.prog 20 #[.pointer (some ⟨E.mb, 0, none⟩), .agg #[v0, v1, v2, v3, v4], .int .i64 a, .int .i64 b] W fun e W' => (∃ v, e = .returned v) ∧ Made E m0 V0 (Nd.pieces (E.nums g) subs a b m0) W W' := by
  have hKp := Nd.req_pos (.mk k nm tx set subs)
  have hK9 : ¬(k = 1 ∧ subs.length = 0) → (Nd.mk k nm tx set subs).req = 9 + Nd.reqs subs := fun h => by rw [Nd.req, if_neg h]
  generalize (Nd.mk k nm tx set subs).req = K at hs hKp hK9
  have hn9 := hn
  obtain ⟨bk, bnm, btx, bsa, bsl, bsc, bna, bnl, bnc, rfl, rfl, rfl, rfl, rfl⟩ := hn.forms
  rw [NodeAt] at hn9
  obtain ⟨-, -, -, hz0, hz1, -, -, na, nc, hz4, hsl, hsubs⟩ := hn9
  simp only [Option.some.injEq, Value.slice.injEq, Value.int.injEq, true_and] at hz4 hz0
  have hy1 := Value.string.inj (Option.some.inj hz1)
  clear hz1
  subst hy1
  obtain ⟨rfl, rfl, rfl⟩ := hz4
  have hy0 := hz0.symm
  clear hz0
  subst hy0
  subst hk
  have hk6 : ((1 : Int) == 6) = false := by decide
  have hk5 : ((1 : Int) == 5) = false := by decide
  have hk7 : ((1 : Int) == 7) = false := by decide
  have hk1 : ((1 : Int) == 1) = true := by decide
  obtain ⟨w0, hw0⟩ : ∃ w0, W.alloc (.cells #[.int .u8 1, .string bnm, .string btx, .slice bsa bsl bsc, .slice bna subs.length bnc] 51) = w0 := ⟨_, rfl⟩
  have hgr : Grew W w0 := hw0 ▸ grew_alloc W _
  have hob : Owns w0 W.heap.size [.int .u8 1, .string bnm, .string btx, .slice bsa bsl bsc, .slice bna subs.length bnc] 51 := hw0 ▸ Owns.alloc W _ _
  have HB := Lib.hid (OwnsX.fresh h hob)
  have HG := Lib.hid (hg.keep (hgr.mono h.lim))
  have HN := Lib.hid (hn.keep (hgr.mono h.lim))
  have HF0 := Lib.hid (Frk.grew (E := E) (m := m0) (V := V0) hgr)
  have hm9 := h.grew hgr
  have c14 := hm9.box.cell_at (i := 14) rfl
  rw [hf] at c14
  have cl := hm9.box.lt
  have b0 := hob.cell_at (i := 0) rfl
  have b1 := hob.cell_at (i := 1) rfl
  have b2 := hob.cell_at (i := 2) rfl
  have b3 := hob.cell_at (i := 3) rfl
  have b4 := hob.cell_at (i := 4) rfl
  have bl := hob.lt
  have HSUB := Lib.hid (SubsAt.of h hsubs)
  have HSU := Lib.hid (HSUB.out.next h (Frk.grew hgr))
  have HM0 := Lib.hid hm9
  have HL0 := Lib.hid (Mk.Le.refl m0)
  have HS := Lib.hid hs
  have HFU := Lib.hid hf
  have HX_a := Lib.hid ha
  have HE := Lib.hid hE
  unfold reachN at hsl
  have hgt : decide ((0 : Int) < (subs.length : Int)) = true := decide_eq_true (by omega)
  have hK9 := hK9 (by rintro ⟨_, h⟩; omega)
  clear h hg hn ha hs hgr hob hm9 hsubs HSUB hE hf
  go_enter Tryz.func20, Tryz.ntmps20
  have HP := Lib.hid hp
  clear hp
  go_wp2_with fail
  clear b0 b1 b2 b3 b4 bl c14 cl
  go_loopw [2, 107] (fun av i wr => ∃ (j aj : Nat) (m10 : Mk) (V10 : MkV), av = .int .i64 aj ∧ i = .int .i64 j ∧ j ≤ subs.length ∧ Hid (MkAt E wr m10 V10) ∧ Hid (Frk E m0 V0 m10 V10 W wr) ∧ Hid (Mk.Le (Nd.reqs (subs.take j)) m0 m10) ∧ Hid (GrAt wr E.base (some E.g0) (some E.g1) (some E.g2) (some E.g3) g) ∧ Hid (SubsAt E m10 V10 wr bna subs) ∧ Hid (OwnsX E m10 V10 wr W.heap.size [.int .u8 1, .string bnm, .string btx, .slice bsa bsl bsc, .slice bna subs.length bnc] 51) ∧ Hid (j < subs.length → m10.has aj) ∧ Hid (Nd.pieces (E.nums g) (subs.drop j) aj b m10 = Nd.pieces (E.nums g) subs a b m0)) (fun _ i _ => subs.length - (intOf i).toNat)
  case atStart =>
    exact ⟨0, a, m0, V0, rfl, rfl, by omega, HM0.out, HF0.out, HL0.out.mono (by omega), HG.out, HSU.out, HB.out, fun _ => HX_a.out, rfl⟩
  case round =>
    clear HG HSU HB HM0 HF0 HN
    obtain ⟨j, aj, m10, V10, rfl, rfl, hj, HM10, HFX, HLX, HG, HSU, HB, HXJ, HEQ⟩ := hrel
    by_cases hlt : j < subs.length
    · obtain ⟨nb, noff, rfl, hnb, -, hnode⟩ := HSU.out j hlt
      obtain ⟨u0, u1, u2, u3, u4, e0, e1, e2, e3, e4, hnode⟩ := hnode.vals
      obtain ⟨ck, cnm, ctx, csa, csl, csc, cna, cnl, cnc, rfl, rfl, rfl, rfl, rfl⟩ := hnode.forms
      have hcnt : Nd.reqs (subs.take (j + 1)) = Nd.reqs (subs.take j) + (1 + subs[j].req) := Nd.reqs_take subs j hlt
      have hcle := Nd.reqs_take_le subs (j + 1)
      have hsl : m10.Slim (1 + subs[j].req) := (HS.out.mono (show Nd.reqs (subs.take j) + (1 + subs[j].req) ≤ K by omega)).next HLX.out
      have HN := Lib.hid hnode
      have HPJ := Lib.hid (HP.out j hlt)
      have HX_aj := Lib.hid (HXJ.out hlt)
      clear HS
      have HS := Lib.hid hsl
      have HCNT := Lib.hid hcnt
      have hpos := subs[j].req_pos
      obtain ⟨K1, hK1⟩ : ∃ K1, 1 + subs[j].req = K1 := ⟨_, rfl⟩
      rw [hK1] at HS
      obtain ⟨w10, hw10⟩ : ∃ w10, wr.alloc (.cells #[.int .u8 ck, .string cnm, .string ctx, .slice csa csl csc, .slice cna cnl cnc] 51) = w10 := ⟨_, rfl⟩
      have hgr : Grew wr w10 := hw10 ▸ grew_alloc wr _
      have hob : Owns w10 wr.heap.size [.int .u8 ck, .string cnm, .string ctx, .slice csa csl csc, .slice cna cnl cnc] 51 := hw10 ▸ Owns.alloc wr _ _
      have HB2 := Lib.hid (OwnsX.fresh HM10.out hob)
      have HB := Lib.hid (HB.out.next (Frk.grew hgr))
      have HG := Lib.hid (HG.out.keep (hgr.mono HM10.out.lim))
      have HN := Lib.hid (HN.out.keep (hgr.mono HM10.out.lim))
      have HSU := Lib.hid (HSU.out.next HM10.out (Frk.grew hgr))
      have HF10 := Lib.hid (HFX.out.trans (Frk.grew hgr))
      have HM10 := Lib.hid (HM10.out.grew hgr)
      have HL10 := Lib.hid (Mk.Le.refl m10)
      have q4 := HB.out.1.cell_at (i := 4) rfl
      have ql := HB.out.1.lt
      clear hnode hsl hcnt hcle hgr hob
      have hd : subs.drop j = subs[j] :: subs.drop (j + 1) := List.drop_eq_getElem_cons hlt
      have HD := Lib.hid hd
      clear hd
      by_cases hlast : j + 1 < subs.length
      · have hdec : decide ((j : Int) < (subs.length : Int) - 1) = true := decide_eq_true (by omega)
        as_aux_lemma =>
        have HC := Lib.hid (mstate_ok E m10 V10 w10 HM10.out ((HS.out.mono (show 0 + 0 ≤ K1 by omega)).next HL10.out).cap)
        go_wp2_with fail
        refine HC.out.mono ?_
        clear HC
        rintro e9 w11 ⟨rfl, V11, hM, hF⟩
        obtain ⟨m11, hm⟩ : ∃ m9, m9 = m10.state.2 := ⟨_, rfl⟩
        rw [← hm] at hM hF
        have hle : Mk.Le 0 m10 m11 := hm ▸ m10.state_le
        obtain ⟨x, hx⟩ : ∃ x9, x9 = m10.state.1 := ⟨_, rfl⟩
        rw [← hx]
        have HX_x : Hid (m11.has x) := Lib.hid (by rw [hm, hx]; exact m10.state_has)
        have HEX_x := Lib.hid hx
        clear hx
        have HX_aj := Lib.hid (HX_aj.out.next hle)
        have HG := Lib.hid (HG.out.keep (hF.below HM10.out))
        have HSU := Lib.hid (HSU.out.next HM10.out hF)
        have HB := Lib.hid (HB.out.next hF)
        have HB2 := Lib.hid (HB2.out.next hF)
        have HN := Lib.hid (HN.out.keep (hF.below HM10.out))
        have HL11 : Hid (Mk.Le 0 m10 m11) := Lib.hid ((HL10.out.trans hle).mono (by omega))
        have HM11 := Lib.hid hM
        have HF11 := Lib.hid (HF10.out.trans hF)
        have HEM11 := Lib.hid hm
        clear hM hF hm hle HM10 HF10 HL10
        have b0 := HB2.out.1.cell_at (i := 0) rfl
        have b1 := HB2.out.1.cell_at (i := 1) rfl
        have b2 := HB2.out.1.cell_at (i := 2) rfl
        have b3 := HB2.out.1.cell_at (i := 3) rfl
        have b4 := HB2.out.1.cell_at (i := 4) rfl
        have bl := HB2.out.1.lt
        have HC := Lib.hid (HPJ.out m11 V11 w11 (.int .u8 ck) (.string cnm) (.string ctx) (.slice csa csl csc) (.slice cna cnl cnc) aj x HM11.out HG.out HN.out HX_aj.out (((HS.out.mono (show 0 + (subs[j]).req ≤ K1 by omega)).next HL11.out).mono (by omega)))
        go_wp2_with fail
        refine HC.out.mono ?_
        clear HC
        rintro e9 w12 ⟨⟨v, rfl⟩, V12, hM, hF⟩
        obtain ⟨m12, hm⟩ : ∃ m9, m9 = (subs[j]).piece (E.nums g) aj x m11 := ⟨_, rfl⟩
        rw [← hm] at hM hF
        have hle : Mk.Le (subs[j]).req m11 m12 := hm ▸ Nd.piece_le (E.nums g) (subs[j]) aj x m11
        have HX_aj := Lib.hid (HX_aj.out.next hle)
        have HX_x := Lib.hid (HX_x.out.next hle)
        have HG := Lib.hid (HG.out.keep (hF.below HM11.out))
        have HSU := Lib.hid (HSU.out.next HM11.out hF)
        have HB := Lib.hid (HB.out.next hF)
        have HB2 := Lib.hid (HB2.out.next hF)
        have HN := Lib.hid (HN.out.keep (hF.below HM11.out))
        have HL12 : Hid (Mk.Le (subs[j]).req m10 m12) := Lib.hid ((HL11.out.trans hle).mono (by omega))
        have HM12 := Lib.hid hM
        have HF12 := Lib.hid (HF11.out.trans hF)
        have HEM12 := Lib.hid hm
        clear hM hF hm hle HM11 HF11 HL11
        clear b0 b1 b2 b3 b4 bl
        go_wp2_with fail
        have heq := HEQ.out
        rw [HD.out, Nd.pieces, if_neg (fun e => by have := congrArg List.length e; simp at this; omega), ← HEM11.out, ← HEX_x.out, ← HEM12.out] at heq
        have hcnt := HCNT.out
        have hle9 : Nd.reqs (subs.take j) + (subs[j]).req ≤ Nd.reqs (subs.take (j + 1)) := by rw [hcnt]; omega
        exact ⟨⟨j + 1, x, m12, V12, rfl, by go_num, by omega, HM12.out, HF12.out, (HLX.out.trans HL12.out).mono hle9, HG.out, HSU.out, HB.out, fun _ => HX_x.out, heq⟩, by simp [intOf]; omega⟩
      · have hdec : decide ((j : Int) < (subs.length : Int) - 1) = false := decide_eq_false (by omega)
        as_aux_lemma =>
        have b0 := HB2.out.1.cell_at (i := 0) rfl
        have b1 := HB2.out.1.cell_at (i := 1) rfl
        have b2 := HB2.out.1.cell_at (i := 2) rfl
        have b3 := HB2.out.1.cell_at (i := 3) rfl
        have b4 := HB2.out.1.cell_at (i := 4) rfl
        have bl := HB2.out.1.lt
        have HC := Lib.hid (HPJ.out m10 V10 w10 (.int .u8 ck) (.string cnm) (.string ctx) (.slice csa csl csc) (.slice cna cnl cnc) aj b HM10.out HG.out HN.out HX_aj.out (((HS.out.mono (show 0 + (subs[j]).req ≤ K1 by omega)).next HL10.out).mono (by omega)))
        go_wp2_with fail
        refine HC.out.mono ?_
        clear HC
        rintro e9 w11 ⟨⟨v, rfl⟩, V11, hM, hF⟩
        obtain ⟨m11, hm⟩ : ∃ m9, m9 = (subs[j]).piece (E.nums g) aj b m10 := ⟨_, rfl⟩
        rw [← hm] at hM hF
        have hle : Mk.Le (subs[j]).req m10 m11 := hm ▸ Nd.piece_le (E.nums g) (subs[j]) aj b m10
        have HX_aj := Lib.hid (HX_aj.out.next hle)
        have HG := Lib.hid (HG.out.keep (hF.below HM10.out))
        have HSU := Lib.hid (HSU.out.next HM10.out hF)
        have HB := Lib.hid (HB.out.next hF)
        have HB2 := Lib.hid (HB2.out.next hF)
        have HN := Lib.hid (HN.out.keep (hF.below HM10.out))
        have HL11 : Hid (Mk.Le (subs[j]).req m10 m11) := Lib.hid ((HL10.out.trans hle).mono (by omega))
        have HM11 := Lib.hid hM
        have HF11 := Lib.hid (HF10.out.trans hF)
        have HEM11 := Lib.hid hm
        clear hM hF hm hle HM10 HF10 HL10
        clear b0 b1 b2 b3 b4 bl
        go_wp2_with fail
        have heq := HEQ.out
        have hnil : subs.drop (j + 1) = [] := List.drop_eq_nil_of_le (by omega)
        rw [HD.out, hnil, Nd.pieces, if_pos rfl, ← HEM11.out] at heq
        have hcnt := HCNT.out
        have hle9 : Nd.reqs (subs.take j) + (subs[j]).req ≤ Nd.reqs (subs.take (j + 1)) := by rw [hcnt]; omega
        exact ⟨⟨j + 1, b, m11, V11, rfl, by go_num, by omega, HM11.out, HF11.out, (HLX.out.trans HL11.out).mono hle9, HG.out, HSU.out, HB.out, fun h => absurd h (by omega), by rw [hnil, Nd.pieces]; exact heq⟩, by simp [intOf]; omega⟩
    · obtain rfl : j = subs.length := by omega
      have heq := HEQ.out
      rw [List.drop_length, Nd.pieces] at heq
      have HR := Lib.hid heq
      clear heq
      go_wp2_with fail
      go_end0
      rw [← HR.out]
      exact ⟨⟨_, rfl⟩, V10, HM10.out, HFX.out⟩
end Go.Proofs.YtiiffcmojkdlaaaGreatDoor

/- The making's piece, of whatever node. -/
namespace Go.Proofs.YtiiffcmojkdlaaaGreatDoor
open Go.RowKit

theorem noNd_piece (P : Nums) (a b : Nat) (m : Mk) : noNd.piece P a b m = if m.full then m else m.empty a b := by
  unfold noNd
  rw [Nd.piece.eq_def]
  simp
theorem piece1_sub (P : Nums) (k : Int) (nm tx : ByteArray) (set : List (Int × Int)) (subs : List Nd) (a b : Nat) (m : Mk) : Nd.piece1 P subs a b m = (Nd.sub1 (.mk k nm tx set subs)).piece P a b m := by
  cases subs with
  | nil =>
    rw [Nd.piece1]
    exact (noNd_piece P a b m).symm
  | cons s r => rw [Nd.piece1]; rfl
section
variable (P : Nums) (k : Int) (nm tx : ByteArray) (set : List (Int × Int)) (subs : List Nd) (a b : Nat) (m : Mk)
theorem piece_full (hf : m.full = true) : (Nd.mk k nm tx set subs).piece P a b m = m := by rw [Nd.piece.eq_def]; simp [hf]
theorem piece_tok (hf : m.full = false) : (Nd.mk 6 nm tx set subs).piece P a b m = m.edge a 1 (P.tok nm) b := by rw [Nd.piece.eq_def]; simp [hf]
theorem piece_ref (hf : m.full = false) : (Nd.mk 5 nm tx set subs).piece P a b m = m.edge a 2 (P.rule nm) b := by rw [Nd.piece.eq_def]; simp [hf]
theorem piece_pred (hf : m.full = false) : (Nd.mk 7 nm tx set subs).piece P a b m = (m.edge a 3 m.many b).wait (Nd.sub1 (.mk 7 nm tx set subs)) := by rw [Nd.piece.eq_def]; simp [hf]; rfl
theorem piece_seq (hf : m.full = false) (h : subs ≠ []) : (Nd.mk 1 nm tx set subs).piece P a b m = Nd.pieces P subs a b m := by rw [Nd.piece.eq_def]; simp [hf, h]
theorem piece_none (hf : m.full = false) : (Nd.mk 1 nm tx set []).piece P a b m = m.empty a b := by rw [Nd.piece.eq_def]; simp [hf]
theorem piece_alts (hf : m.full = false) : (Nd.mk 0 nm tx set subs).piece P a b m = Nd.mkAlts P subs a b m := by rw [Nd.piece.eq_def]; simp [hf]; rfl
theorem piece_opt (hf : m.full = false) : (Nd.mk 2 nm tx set subs).piece P a b m = Nd.mkAlts P [Nd.sub1 (.mk 2 nm tx set subs), noNd] a b m := by
  rw [Nd.piece.eq_def]
  simp only [hf, Bool.false_eq_true, if_false]
  unfold Nd.mkAlts
  rw [Nd.palts, Nd.palts, Nd.palts, noNd_piece, ← piece1_sub P 2 nm tx set subs]
  rfl
theorem piece_star (hf : m.full = false) : (Nd.mk 3 nm tx set subs).piece P a b m = Nd.mkStar P (Nd.sub1 (.mk 3 nm tx set subs)) a b m := by
  rw [Nd.piece.eq_def]
  simp only [hf, Bool.false_eq_true, if_false]
  unfold Nd.mkStar
  rw [← piece1_sub P 3 nm tx set subs]
  rfl
theorem piece_plus (hf : m.full = false) : (Nd.mk 4 nm tx set subs).piece P a b m = Nd.mkPlus P (Nd.sub1 (.mk 4 nm tx set subs)) a b m := by
  rw [Nd.piece.eq_def]
  simp only [hf, Bool.false_eq_true, if_false]
  unfold Nd.mkPlus
  rw [← piece1_sub P 4 nm tx set subs]
  rfl
theorem piece_else (hf : m.full = false) (h6 : k ≠ 6) (h5 : k ≠ 5) (h7 : k ≠ 7) (h1 : k ≠ 1) (h0 : k ≠ 0) (h2 : k ≠ 2) (h3 : k ≠ 3) (h4 : k ≠ 4) : (Nd.mk k nm tx set subs).piece P a b m = m.empty a b := by
  rw [Nd.piece.eq_def]; simp [hf, h0, h1, h2, h3, h4, h5, h6, h7]
end
theorem noNd_ok (E : MkE) (g : Gr) (hE : E.rules.length ≤ reachN ∧ E.tokens.length ≤ reachN) : PieceOk E g noNd := by
  intro m V W v0 v1 v2 v3 v4 a b hM hG hN ha hs
  unfold noNd at hN hs
  cases hf : m.full
  · rw [noNd_piece, hf]
    exact mpiece_none E g hE 1 _ _ [] [] rfl rfl m V W v0 v1 v2 v3 v4 a b hM hG hN ha hs hf
  · rw [noNd_piece, hf]
    exact mpiece_full E g hE 1 _ _ [] [] m V W v0 v1 v2 v3 v4 a b hM hG hN ha hs hf
theorem sub1_ok {E : MkE} {g : Gr} (hE : E.rules.length ≤ reachN ∧ E.tokens.length ≤ reachN) (k : Int) (nm tx : ByteArray) (set : List (Int × Int)) (subs : List Nd) (ih : ∀ i (hi : i < subs.length), PieceOk E g subs[i]) :
    PieceOk E g (Nd.sub1 (.mk k nm tx set subs)) ∧ (Nd.sub1 (.mk k nm tx set subs)).req ≤ 1 + Nd.reqs subs ∧ (Nd.sub1 (.mk k nm tx set subs)).req + 6 ≤ 9 + Nd.reqs subs := by
  cases subs with
  | nil => exact ⟨noNd_ok E g hE, show noNd.req ≤ 1 + Nd.reqs [] from by decide, show noNd.req + 6 ≤ 9 + Nd.reqs [] from by decide⟩
  | cons s r =>
    refine ⟨ih 0 (by simp), ?_, ?_⟩
    · show s.req ≤ _
      rw [Nd.reqs]; omega
    · show s.req + 6 ≤ _
      rw [Nd.reqs]; omega
/-- a piece is made as the mirror says -/
theorem mpiece_ok (E : MkE) (g : Gr) (hE : E.rules.length ≤ reachN ∧ E.tokens.length ≤ reachN) (n : Nd) : PieceOk E g n := by
  induction n using Nd.ind with
  | h k nm tx set subs ih =>
  obtain ⟨hs1, hs2, hs3⟩ := sub1_ok hE k nm tx set subs ih
  intro m V W v0 v1 v2 v3 v4 a b hM hG hN ha hs
  rcases Bool.eq_false_or_eq_true m.full with hf | hf
  · rw [piece_full _ _ _ _ _ _ _ _ _ hf]
    exact mpiece_full E g hE k nm tx set subs m V W v0 v1 v2 v3 v4 a b hM hG hN ha hs hf
  by_cases h6 : k = 6
  · subst h6
    rw [piece_tok _ _ _ _ _ _ _ _ hf]
    exact mpiece_tok E g hE 6 nm tx set subs rfl m V W v0 v1 v2 v3 v4 a b hM hG hN ha hs hf
  by_cases h5 : k = 5
  · subst h5
    rw [piece_ref _ _ _ _ _ _ _ _ hf]
    exact mpiece_ref E g hE 5 nm tx set subs rfl m V W v0 v1 v2 v3 v4 a b hM hG hN ha hs hf
  by_cases h7 : k = 7
  · subst h7
    rw [piece_pred _ _ _ _ _ _ _ _ hf]
    exact mpiece_pred E g hE 7 nm tx set subs rfl m V W v0 v1 v2 v3 v4 a b hM hG hN ha hs hf
  by_cases h1 : k = 1
  · subst h1
    by_cases hsb : subs = []
    · subst hsb
      rw [piece_none _ _ _ _ _ _ _ hf]
      exact mpiece_none E g hE 1 nm tx set [] rfl rfl m V W v0 v1 v2 v3 v4 a b hM hG hN ha hs hf
    · rw [piece_seq _ _ _ _ _ _ _ _ hf hsb]
      exact mpiece_seq E g hE 1 nm tx set subs rfl (by rcases subs with _ | ⟨s, r⟩; exact absurd rfl hsb; simp) ih m V W v0 v1 v2 v3 v4 a b hM hG hN ha hs hf
  by_cases h0 : k = 0
  · subst h0
    rw [piece_alts _ _ _ _ _ _ _ _ hf]
    exact mpiece_alts E g hE 0 nm tx set subs rfl ih m V W v0 v1 v2 v3 v4 a b hM hG hN ha hs hf
  by_cases h2 : k = 2
  · subst h2
    rw [piece_opt _ _ _ _ _ _ _ _ hf]
    exact mpiece_opt E g hE 2 nm tx set subs rfl hs2 hs1 (noNd_ok E g hE) m V W v0 v1 v2 v3 v4 a b hM hG hN ha hs hf
  by_cases h3 : k = 3
  · subst h3
    rw [piece_star _ _ _ _ _ _ _ _ hf]
    exact mpiece_star E g hE 3 nm tx set subs rfl _ hs3 hs1 (fun a b m => Nd.piece_le (E.nums g) _ a b m) m V W v0 v1 v2 v3 v4 a b hM hG hN ha hs hf
  by_cases h4 : k = 4
  · subst h4
    rw [piece_plus _ _ _ _ _ _ _ _ hf]
    exact mpiece_plus E g hE 4 nm tx set subs rfl _ hs3 hs1 (fun a b m => Nd.piece_le (E.nums g) _ a b m) m V W v0 v1 v2 v3 v4 a b hM hG hN ha hs hf
  rw [piece_else _ _ _ _ _ _ _ _ _ hf h6 h5 h7 h1 h0 h2 h3 h4]
  exact mpiece_else E g hE k nm tx set subs (beq_eq_false_iff_ne.2 h6) (beq_eq_false_iff_ne.2 h5) (beq_eq_false_iff_ne.2 h7) (beq_eq_false_iff_ne.2 h1) (beq_eq_false_iff_ne.2 h0) (beq_eq_false_iff_ne.2 h2) (beq_eq_false_iff_ne.2 h3) (beq_eq_false_iff_ne.2 h4) m V W v0 v1 v2 v3 v4 a b hM hG hN ha hs hf
end Go.Proofs.YtiiffcmojkdlaaaGreatDoor
