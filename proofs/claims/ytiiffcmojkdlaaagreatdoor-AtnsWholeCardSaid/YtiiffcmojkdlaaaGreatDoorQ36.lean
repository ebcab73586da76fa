/- Alternatives between two states, where each one's piece may be made. -/
import Derived.Test.YtiiffcmojkdlaaaGreatDoorQ28
import Derived.Test.YtiiffcmojkdlaaaGreatDoorQ21
import Derived.Test.YtiiffcmojkdlaaaGreatDoorQ1
import Derived.Test.YtiiffcmojkdlaaaGreatDoorQ3
namespace Go.Proofs.YtiiffcmojkdlaaaGreatDoor
open Go.RowKit

/-- a node's piece may be made, wherever -/
def PieceOk (E : MkE) (g : Gr) (n : Nd) : Prop := ∀ (m : Mk) (V : MkV) (W : World) (v0 v1 v2 v3 v4 : Value) (a b : Nat), MkAt E W m V → GrAt W E.base (some E.g0) (some E.g1) (some E.g2) (some E.g3) g → NodeAt W E.base (some v0) (some v1) (some v2) (some v3) (some v4) n → m.has a → m.Slim n.req →
  Calls Tryz.prog 20 #[.pointer (some ⟨E.mb, 0, none⟩), .agg #[v0, v1, v2, v3, v4], .int .i64 a, .int .i64 b] W fun e W' => (∃ v, e = .returned v) ∧ Made E m V (n.piece (E.nums g) a b m) W W'
/-- a block that is none of the making's -/
def OwnsX (E : MkE) (m : Mk) (V : MkV) (w : World) (b : Nat) (cs : List Value) (T : TypeId) : Prop := Owns w b cs T ∧ ¬V.mine E m b
theorem OwnsX.next {E : MkE} {m m' : Mk} {V V' : MkV} {w w' : World} {b T : Nat} {cs : List Value} (h : OwnsX E m V w b cs T) (hf : Frk E m V m' V' w w') : OwnsX E m' V' w' b cs T :=
  ⟨hf.but.owns h.1 h.2, fun hm => (hf.new b hm).elim h.2 fun hge => by have := h.1.lt; omega⟩
theorem OwnsX.fresh {E : MkE} {m : Mk} {V : MkV} {w w' : World} {cs : List Value} {T : Nat} (h : MkAt E w m V) (ho : Owns w' w.heap.size cs T) : OwnsX E m V w' w.heap.size cs T :=
  ⟨ho, fun hm => by have := h.mine_lt hm; omega⟩
/-- nodes that stay while a net is made -/
def SubsAt (E : MkE) (m : Mk) (V : MkV) (W : World) (a : Option Addr) (l : List Nd) : Prop := ∀ k (h : k < l.length), ∃ b off, a = some ⟨b, off, none⟩ ∧ b < W.heap.size ∧ ¬V.mine E m b ∧
  NodeAt W E.base (W.cell? ⟨b, off + k * 5, none⟩) (W.cell? ⟨b, off + k * 5 + 1, none⟩) (W.cell? ⟨b, off + k * 5 + 2, none⟩) (W.cell? ⟨b, off + k * 5 + 3, none⟩) (W.cell? ⟨b, off + k * 5 + 4, none⟩) l[k]
theorem SubsAt.next {E : MkE} {m m' : Mk} {V V' : MkV} {w w' : World} {a : Option Addr} {l : List Nd} (h : SubsAt E m V w a l) (hM : MkAt E w m V) (hf : Frk E m V m' V' w w') : SubsAt E m' V' w' a l := fun k hk => by
  obtain ⟨b, off, h1, h2, h3, h4⟩ := h k hk
  have e : ∀ o, w'.cell? ⟨b, o, none⟩ = w.cell? ⟨b, o, none⟩ := fun o => World.cell?_of_block (hf.but.block b h2 h3)
  refine ⟨b, off, h1, Nat.lt_of_lt_of_le h2 hf.but.size, fun hm => (hf.new b hm).elim h3 fun hge => by omega, ?_⟩
  rw [e, e, e, e, e]
  exact h4.keep (hf.below hM)
theorem SubsAt.of {E : MkE} {m : Mk} {V : MkV} {w : World} {a : Option Addr} {l : List Nd} (hM : MkAt E w m V) (h : NodesAt w E.base a 0 l) : SubsAt E m V w a l := fun k hk => by
  obtain ⟨b, off, h1, h2, h3⟩ := h.get hk
  rw [Nat.zero_add] at h3
  exact ⟨b, off, h1, Nat.lt_of_lt_of_le h2 hM.lim, fun hm => by have := hM.mine_lo hm; omega, h3⟩
def Nd.mkAlts (P : Nums) (l : List Nd) (a b : Nat) (m : Mk) : Mk := (Nd.palts P l m.state.2.state.1 m.state.1 (m.state.2.state.2.empty a m.state.1)).empty m.state.2.state.1 b

set_option maxHeartbeats 4000000 in
set_option maxRecDepth 20000 in
theorem malts_ok (E : MkE) (g : Gr) (l : List Nd) (hp : ∀ k (h : k < l.length), PieceOk E g l[k]) (hl : l.length ≤ reachN) (m0 : Mk) (V0 : MkV) (w0 : World) (h : MkAt E w0 m0 V0) (hg : GrAt w0 E.base (some E.g0) (some E.g1) (some E.g2) (some E.g3) g)
    (sa : Option Addr) (sc : Nat) (hsu : SubsAt E m0 V0 w0 sa l) (a b : Nat) (ha : m0.has a) (K0 : Nat) (hk0 : 2 + Nd.reqs l ≤ K0) (hs : m0.Slim K0) :
    Calls Tryz.prog 39 #[.pointer (some ⟨E.mb, 0, none⟩), .slice sa l.length sc, .int .i64 a, .int .i64 b] w0 fun e' W' => (∃ v, e' = .returned v) ∧ Made E m0 V0 (Nd.mkAlts (E.nums g) l a b m0) w0 W' := by
  have HM0 := Lib.hid h
  have HF0 := Lib.hid (Frk.refl E m0 V0 w0)
  have HL0 := Lib.hid (Mk.Le.refl m0)
  have HS := Lib.hid hs
  have HX_a := Lib.hid ha
  have HG := Lib.hid hg
  have HSU := Lib.hid hsu
  have HP := Lib.hid hp
  unfold reachN at hl
  clear h hs ha hg hsu hp
  go_enter Tryz.func39, Tryz.ntmps39
  have HC := Lib.hid (mstate_ok E m0 V0 w0 HM0.out ((HS.out.mono (show 0 + 0 ≤ K0 by omega)).next HL0.out).cap)
  go_wp2_with fail
  refine HC.out.mono ?_
  clear HC
  rintro e9 w1 ⟨rfl, V1, hM, hF⟩
  obtain ⟨m1, hm⟩ : ∃ m9, m9 = m0.state.2 := ⟨_, rfl⟩
  rw [← hm] at hM hF
  have hle : Mk.Le 0 m0 m1 := hm ▸ m0.state_le
  obtain ⟨d, hx⟩ : ∃ x9, x9 = m0.state.1 := ⟨_, rfl⟩
  rw [← hx]
  have HX_d : Hid (m1.has d) := Lib.hid (by rw [hm, hx]; exact m0.state_has)
  have HEX_d := Lib.hid hx
  clear hx
  have HX_a := Lib.hid (HX_a.out.next hle)
  have HG := Lib.hid (HG.out.keep (hF.below HM0.out))
  have HSU := Lib.hid (HSU.out.next HM0.out hF)
  have HL1 : Hid (Mk.Le 0 m0 m1) := Lib.hid ((HL0.out.trans hle).mono (by omega))
  have HM1 := Lib.hid hM
  have HF1 := Lib.hid (HF0.out.trans hF)
  have HEM1 := Lib.hid hm
  clear hM hF hm hle HM0 HF0 HL0
  have HC := Lib.hid (mstate_ok E m1 V1 w1 HM1.out ((HS.out.mono (show 0 + 0 ≤ K0 by omega)).next HL1.out).cap)
  go_wp2_with fail
  refine HC.out.mono ?_
  clear HC
  rintro e9 w2 ⟨rfl, V2, hM, hF⟩
  obtain ⟨m2, hm⟩ : ∃ m9, m9 = m1.state.2 := ⟨_, rfl⟩
  rw [← hm] at hM hF
  have hle : Mk.Le 0 m1 m2 := hm ▸ m1.state_le
  obtain ⟨e, hx⟩ : ∃ x9, x9 = m1.state.1 := ⟨_, rfl⟩
  rw [← hx]
  have HX_e : Hid (m2.has e) := Lib.hid (by rw [hm, hx]; exact m1.state_has)
  have HEX_e := Lib.hid hx
  clear hx
  have HX_a := Lib.hid (HX_a.out.next hle)
  have HX_d := Lib.hid (HX_d.out.next hle)
  have HG := Lib.hid (HG.out.keep (hF.below HM1.out))
  have HSU := Lib.hid (HSU.out.next HM1.out hF)
  have HL2 : Hid (Mk.Le 0 m0 m2) := Lib.hid ((HL1.out.trans hle).mono (by omega))
  have HM2 := Lib.hid hM
  have HF2 := Lib.hid (HF1.out.trans hF)
  have HEM2 := Lib.hid hm
  clear hM hF hm hle HM1 HF1 HL1
  have HC := Lib.hid (mempty_ok E m2 V2 w2 HM2.out a d HX_a.out (by have := ((HS.out.mono (show 0 + 1 ≤ K0 by omega)).next HL2.out).edges a; omega))
  go_wp2_with fail
  refine HC.out.mono ?_
  clear HC
  rintro e9 w3 ⟨⟨v, rfl⟩, V3, hM, hF⟩
  obtain ⟨m3, hm⟩ : ∃ m9, m9 = m2.empty a d := ⟨_, rfl⟩
  rw [← hm] at hM hF
  have hle : Mk.Le 1 m2 m3 := hm ▸ m2.empty_le a d
  have HX_a := Lib.hid (HX_a.out.next hle)
  have HX_d := Lib.hid (HX_d.out.next hle)
  have HX_e := Lib.hid (HX_e.out.next hle)
  have HG := Lib.hid (HG.out.keep (hF.below HM2.out))
  have HSU := Lib.hid (HSU.out.next HM2.out hF)
  have HL3 : Hid (Mk.Le 1 m0 m3) := Lib.hid ((HL2.out.trans hle).mono (by omega))
  have HM3 := Lib.hid hM
  have HF3 := Lib.hid (HF2.out.trans hF)
  have HEM3 := Lib.hid hm
  clear hM hF hm hle HM2 HF2 HL2
  go_wp2_with fail
  go_loopw [23] (fun i wr => ∃ (j : Nat) (m10 : Mk) (V10 : MkV), i = .int .i64 j ∧ j ≤ l.length ∧ Hid (MkAt E wr m10 V10) ∧ Hid (Frk E m0 V0 m10 V10 w0 wr) ∧ Hid (Mk.Le (1 + Nd.reqs (l.take j)) m0 m10) ∧ Hid (GrAt wr E.base (some E.g0) (some E.g1) (some E.g2) (some E.g3) g) ∧ Hid (SubsAt E m10 V10 wr sa l) ∧ Hid (m10.has d) ∧ Hid (m10.has e) ∧ Hid (Nd.palts (E.nums g) (l.drop j) e d m10 = Nd.palts (E.nums g) l e d m3)) (fun i _ => l.length - (intOf i).toNat)
  case atStart =>
    exact ⟨0, m3, V3, rfl, by omega, HM3.out, HF3.out, HL3.out.mono (by omega), HG.out, HSU.out, HX_d.out, HX_e.out, rfl⟩
  case round =>
    clear HG HSU HX_d HX_e
    obtain ⟨j, m10, V10, rfl, hj, HM10, HFX, HLX, HG, HSU, HX_d, HX_e, HEQ⟩ := hrel
    by_cases hlt : j < l.length
    · obtain ⟨nb, noff, rfl, hnb, -, hnode⟩ := HSU.out j hlt
      obtain ⟨u0, u1, u2, u3, u4, e0, e1, e2, e3, e4, hnode⟩ := hnode.vals
      obtain ⟨ck, cnm, ctx, csa, csl, csc, cna, cnl, cnc, rfl, rfl, rfl, rfl, rfl⟩ := hnode.forms
      have hcnt : Nd.reqs (l.take (j + 1)) = Nd.reqs (l.take j) + (1 + l[j].req) := Nd.reqs_take l j hlt
      have hcle := Nd.reqs_take_le l (j + 1)
      have hsl : m10.Slim (1 + l[j].req) := (HS.out.mono (show 1 + Nd.reqs (l.take j) + (1 + l[j].req) ≤ K0 by omega)).next HLX.out
      have HN := Lib.hid hnode
      have HPJ := Lib.hid (HP.out j hlt)
      have HSX := HS
      clear HS
      have HS := Lib.hid hsl
      have HCNT := Lib.hid hcnt
      have hpos := l[j].req_pos
      obtain ⟨w10, hw10⟩ : ∃ w10, wr.alloc (.cells #[.int .u8 ck, .string cnm, .string ctx, .slice csa csl csc, .slice cna cnl cnc] 51) = w10 := ⟨_, rfl⟩
      have hgr : Grew wr w10 := hw10 ▸ grew_alloc wr _
      have hob : Owns w10 wr.heap.size [.int .u8 ck, .string cnm, .string ctx, .slice csa csl csc, .slice cna cnl cnc] 51 := hw10 ▸ Owns.alloc wr _ _
      have HB := Lib.hid (OwnsX.fresh HM10.out hob)
      have HG := Lib.hid (HG.out.keep (hgr.mono HM10.out.lim))
      have HN := Lib.hid (HN.out.keep (hgr.mono HM10.out.lim))
      have HSU := Lib.hid (HSU.out.next HM10.out (Frk.grew hgr))
      have HF10 := Lib.hid (HFX.out.trans (Frk.grew hgr))
      have HM10 := Lib.hid (HM10.out.grew hgr)
      have HL10 := Lib.hid (Mk.Le.refl m10)
      clear hnode hsl hcnt hcle hgr hob
      have HC := Lib.hid (mstate_ok E m10 V10 w10 HM10.out ((HS.out.mono (show 0 + 0 ≤ (1 + l[j].req) by omega)).next HL10.out).cap)
      go_wp2_with fail
      refine HC.out.mono ?_
      clear HC
      rintro e9 w11 ⟨rfl, V11, hM, hF⟩
      obtain ⟨m11, hm⟩ : ∃ m9, m9 = m10.state.2 := ⟨_, rfl⟩
      rw [← hm] at hM hF
      have hle : Mk.Le 0 m10 m11 := hm ▸ m10.state_le
      obtain ⟨x, hx⟩ : ∃ x9, x9 = m10.state.1 := ⟨_, rfl⟩
      rw [← hx]
      have HX_x : Hid (m11.has x) := Lib.hid (by rw [hm, hx]; exact m10.state_has)
      have HEX_x := Lib.hid hx
      clear hx
      have HX_d := Lib.hid (HX_d.out.next hle)
      have HX_e := Lib.hid (HX_e.out.next hle)
      have HG := Lib.hid (HG.out.keep (hF.below HM10.out))
      have HSU := Lib.hid (HSU.out.next HM10.out hF)
      have HB := Lib.hid (HB.out.next hF)
      have HN := Lib.hid (HN.out.keep (hF.below HM10.out))
      have HL11 : Hid (Mk.Le 0 m10 m11) := Lib.hid ((HL10.out.trans hle).mono (by omega))
      have HM11 := Lib.hid hM
      have HF11 := Lib.hid (HF10.out.trans hF)
      have HEM11 := Lib.hid hm
      clear hM hF hm hle HM10 HF10 HL10
      have HC := Lib.hid (malt_ok E m11 V11 w11 HM11.out d x e HX_d.out (by have := ((HS.out.mono (show 0 + 1 ≤ (1 + l[j].req) by omega)).next HL11.out).edges d; omega) (by have := ((HS.out.mono (show 0 + 1 ≤ (1 + l[j].req) by omega)).next HL11.out).ends d; omega))
      go_wp2_with fail
      refine HC.out.mono ?_
      clear HC
      rintro e9 w12 ⟨⟨v, rfl⟩, V12, hM, hF⟩
      obtain ⟨m12, hm⟩ : ∃ m9, m9 = m11.alt d x e := ⟨_, rfl⟩
      rw [← hm] at hM hF
      have hle : Mk.Le 1 m11 m12 := hm ▸ m11.alt_le d x e
      have HX_d := Lib.hid (HX_d.out.next hle)
      have HX_e := Lib.hid (HX_e.out.next hle)
      have HX_x := Lib.hid (HX_x.out.next hle)
      have HG := Lib.hid (HG.out.keep (hF.below HM11.out))
      have HSU := Lib.hid (HSU.out.next HM11.out hF)
      have HB := Lib.hid (HB.out.next hF)
      have HN := Lib.hid (HN.out.keep (hF.below HM11.out))
      have HL12 : Hid (Mk.Le 1 m10 m12) := Lib.hid ((HL11.out.trans hle).mono (by omega))
      have HM12 := Lib.hid hM
      have HF12 := Lib.hid (HF11.out.trans hF)
      have HEM12 := Lib.hid hm
      clear hM hF hm hle HM11 HF11 HL11
      have b0 := HB.out.1.cell_at (i := 0) rfl
      have b1 := HB.out.1.cell_at (i := 1) rfl
      have b2 := HB.out.1.cell_at (i := 2) rfl
      have b3 := HB.out.1.cell_at (i := 3) rfl
      have b4 := HB.out.1.cell_at (i := 4) rfl
      have bl := HB.out.1.lt
      have HC := Lib.hid (HPJ.out m12 V12 w12 (.int .u8 ck) (.string cnm) (.string ctx) (.slice csa csl csc) (.slice cna cnl cnc) x e HM12.out HG.out HN.out HX_x.out (((HS.out.mono (show 1 + (l[j]).req ≤ (1 + l[j].req) by omega)).next HL12.out).mono (by omega)))
      go_wp2_with fail
      refine HC.out.mono ?_
      clear HC
      rintro e9 w13 ⟨⟨v, rfl⟩, V13, hM, hF⟩
      obtain ⟨m13, hm⟩ : ∃ m9, m9 = (l[j]).piece (E.nums g) x e m12 := ⟨_, rfl⟩
      rw [← hm] at hM hF
      have hle : Mk.Le (l[j]).req m12 m13 := hm ▸ Nd.piece_le (E.nums g) (l[j]) x e m12
      have HX_d := Lib.hid (HX_d.out.next hle)
      have HX_e := Lib.hid (HX_e.out.next hle)
      have HX_x := Lib.hid (HX_x.out.next hle)
      have HG := Lib.hid (HG.out.keep (hF.below HM12.out))
      have HSU := Lib.hid (HSU.out.next HM12.out hF)
      have HB := Lib.hid (HB.out.next hF)
      have HN := Lib.hid (HN.out.keep (hF.below HM12.out))
      have HL13 : Hid (Mk.Le (1 + (l[j]).req) m10 m13) := Lib.hid ((HL12.out.trans hle).mono (by omega))
      have HM13 := Lib.hid hM
      have HF13 := Lib.hid (HF12.out.trans hF)
      have HEM13 := Lib.hid hm
      clear hM hF hm hle HM12 HF12 HL12
      clear b0 b1 b2 b3 b4 bl
      go_wp2_with fail
      have hd : l.drop j = l[j] :: l.drop (j + 1) := List.drop_eq_getElem_cons hlt
      have heq := HEQ.out
      rw [hd, Nd.palts, ← HEM11.out, ← HEX_x.out, ← HEM12.out, ← HEM13.out] at heq
      have hcnt := HCNT.out
      have hle9 : 1 + Nd.reqs (l.take j) + (1 + (l[j]).req) ≤ 1 + Nd.reqs (l.take (j + 1)) := by rw [hcnt]; omega
      exact ⟨⟨j + 1, m13, V13, by go_num, by omega, HM13.out, HF13.out, (HLX.out.trans HL13.out).mono hle9, HG.out, HSU.out, HX_d.out, HX_e.out, heq⟩, by simp [intOf]; omega⟩
    · obtain rfl : j = l.length := by omega
      rw [List.take_length] at HLX
      rw [List.drop_length, Nd.palts] at HEQ
      have HSX := HS
      clear HS
      have HS := Lib.hid ((HSX.out.mono (show 1 + Nd.reqs l + 1 ≤ K0 by omega)).next HLX.out)
      have HX_a := Lib.hid ((HX_a.out.next (Mk.Le.refl m3)))
      have HF10 := HFX
      have HL10 := Lib.hid (Mk.Le.refl m10)
      obtain ⟨w10, rfl⟩ : ∃ w10, w10 = wr := ⟨_, rfl⟩
      clear HX_a HFX
      have HC := Lib.hid (mempty_ok E m10 V10 w10 HM10.out e b HX_e.out (by have := ((HS.out.mono (show 0 + 1 ≤ 1 by omega)).next HL10.out).edges e; omega))
      go_wp2_with fail
      refine HC.out.mono ?_
      clear HC
      rintro e9 w11 ⟨⟨v, rfl⟩, V11, hM, hF⟩
      obtain ⟨m11, hm⟩ : ∃ m9, m9 = m10.empty e b := ⟨_, rfl⟩
      rw [← hm] at hM hF
      have hle : Mk.Le 1 m10 m11 := hm ▸ m10.empty_le e b
      have HX_e := Lib.hid (HX_e.out.next hle)
      have HL11 : Hid (Mk.Le 1 m10 m11) := Lib.hid ((HL10.out.trans hle).mono (by omega))
      have HM11 := Lib.hid hM
      have HF11 := Lib.hid (HF10.out.trans hF)
      have HEM11 := Lib.hid hm
      clear hM hF hm hle HM10 HF10 HL10
      go_wp2_with fail
      go_end0
      have hres : Nd.mkAlts (E.nums g) l a b m0 = m11 := by
        unfold Nd.mkAlts
        rw [← HEM1.out, ← HEM2.out, ← HEX_d.out, ← HEX_e.out, ← HEM3.out, ← HEQ.out, ← HEM11.out]
      rw [hres]
      exact ⟨⟨_, rfl⟩, _, HM11.out, HF11.out⟩
end Go.Proofs.YtiiffcmojkdlaaaGreatDoor

/- The first Sub of a node; a node of nothing. -/
namespace Go.Proofs.YtiiffcmojkdlaaaGreatDoor
open Go.RowKit

/-- a node that was given -/
def NodeR (lim : Nat) (n : Nd) (v : Value) (W : World) : Prop := ∃ v0 v1 v2 v3 v4, v = .agg #[v0, v1, v2, v3, v4] ∧ NodeAt W lim (some v0) (some v1) (some v2) (some v3) (some v4) n
theorem noNd_at (W : World) (lim : Nat) : NodeAt W lim (some (.int .u8 1)) (some (.string { data := #[] })) (some (.string { data := #[] })) (some (.slice none 0 0)) (some (.slice none 0 0)) noNd := by
  unfold noNd
  rw [NodeAt]
  exact ⟨by omega, by decide, by decide, rfl, rfl, rfl, ⟨none, 0, rfl, by decide, trivial⟩, none, 0, rfl, by decide, by rw [NodesAt]; trivial⟩
set_option maxRecDepth 20000 in
theorem mnothing_ok (W : World) : Calls Tryz.prog 40 #[] W fun e W' => e = .returned (.agg #[.int .u8 1, .string { data := #[] }, .string { data := #[] }, .slice none 0 0, .slice none 0 0]) ∧ Grew W W' := by
  go_enter Tryz.func40, Tryz.ntmps40
  go_wp2_with fail
  refine bodyPost_ret (results_cell_row (d := Tryz.prog.underlying 51 |>.getD default) rfl _ _ W.heap.size 51 _ (0, 0) rfl (heap_alloc_new _ _) rfl rfl rfl) rfl ?_
  exact ⟨rfl, grew_alloc _ _⟩

/-- five cells are written, and nothing else -/
theorem owns_five {w : World} {b T : Nat} {x0 x1 x2 x3 x4 : Value} (h : Owns w b [x0, x1, x2, x3, x4] T) (y0 y1 y2 y3 y4 : Value) :
    Owns (((((w.setCell ⟨b, 0, none⟩ y0).setCell ⟨b, 1, none⟩ y1).setCell ⟨b, 2, none⟩ y2).setCell ⟨b, 3, none⟩ y3).setCell ⟨b, 4, none⟩ y4) b [y0, y1, y2, y3, y4] T :=
  ((((h.set 0 y0).set 1 y1).set 2 y2).set 3 y3).set 4 y4
theorem grew_five {W w : World} {b : Nat} (h : Grew W w) (hb : W.heap.size ≤ b) (y0 y1 y2 y3 y4 : Value) : Grew W (((((w.setCell ⟨b, 0, none⟩ y0).setCell ⟨b, 1, none⟩ y1).setCell ⟨b, 2, none⟩ y2).setCell ⟨b, 3, none⟩ y3).setCell ⟨b, 4, none⟩ y4) :=
  Below.setCell (Below.setCell (Below.setCell (Below.setCell (Below.setCell h (p := ⟨b, 0, none⟩) hb y0) (p := ⟨b, 1, none⟩) hb y1) (p := ⟨b, 2, none⟩) hb y2) (p := ⟨b, 3, none⟩) hb y3) (p := ⟨b, 4, none⟩) hb y4

set_option maxHeartbeats 2000000 in
set_option maxRecDepth 20000 in
theorem msub_ok (n : Nd) (lim : Nat) (W : World) (v0 v1 v2 v3 v4 : Value) (hlim : lim ≤ W.heap.size) (hN : NodeAt W lim (some v0) (some v1) (some v2) (some v3) (some v4) n) :
    Calls Tryz.prog 38 #[.agg #[v0, v1, v2, v3, v4]] W fun e W' => (∃ v, e = .returned v ∧ NodeR lim n.sub1 v W') ∧ Grew W W' := by
  obtain ⟨k, nm, tx, set, subs⟩ := n
  have hN9 := hN
  obtain ⟨bk, bnm, btx, bsa, bsl, bsc, bna, bnl, bnc, rfl, rfl, rfl, rfl, rfl⟩ := hN.forms
  rw [NodeAt] at hN9
  obtain ⟨-, -, -, -, -, -, -, na, nc, hsl, -, hsubs⟩ := hN9
  simp only [Option.some.injEq, Value.slice.injEq] at hsl
  obtain ⟨rfl, rfl, rfl⟩ := hsl
  obtain ⟨ln, hln⟩ : ∃ ln, subs.length = ln := ⟨_, rfl⟩
  rw [hln]
  obtain ⟨w1, hw1⟩ : ∃ w1, W.alloc (.cells #[.int .u8 bk, .string bnm, .string btx, .slice bsa bsl bsc, .slice bna ln bnc] 51) = w1 := ⟨_, rfl⟩
  have z1 : w1.heap.size = W.heap.size + 1 := by rw [← hw1]; exact World.size_alloc W _
  have g1 : Grew W w1 := hw1 ▸ grew_alloc W _
  have o1 : Owns w1 W.heap.size [.int .u8 bk, .string bnm, .string btx, .slice bsa bsl bsc, .slice bna ln bnc] 51 := hw1 ▸ Owns.alloc W _ _
  obtain ⟨w2, hw2⟩ : ∃ w2, w1.alloc (.cells #[.int .u8 0, .string { data := #[] }, .string { data := #[] }, .slice none 0 0, .slice none 0 0] 51) = w2 := ⟨_, rfl⟩
  have g2 : Grew w1 w2 := hw2 ▸ grew_alloc w1 _
  have o2 : Owns w2 (W.heap.size + 1) [.int .u8 0, .string { data := #[] }, .string { data := #[] }, .slice none 0 0, .slice none 0 0] 51 := by rw [← z1, ← hw2]; exact Owns.alloc w1 _ _
  have c4 := (o1.keep g2).cell_at (i := 4) rfl
  have cl := (o1.keep g2).lt
  have r0 := o2.cell_at (i := 0) rfl
  have r1 := o2.cell_at (i := 1) rfl
  have r2 := o2.cell_at (i := 2) rfl
  have r3 := o2.cell_at (i := 3) rfl
  have r4 := o2.cell_at (i := 4) rfl
  have rl := o2.lt
  have f0 := o2.free 0
  have f1 := o2.free 1
  have f2 := o2.free 2
  have f3 := o2.free 3
  have f4 := o2.free 4
  have hg12 := g1.trans g2
  have HG := Lib.hid hg12
  have HO2 := Lib.hid o2
  cases subs with
  | nil =>
    simp only [List.length_nil] at hln
    subst hln
    have HC := Lib.hid (mnothing_ok w2)
    clear g1 g2 o1 o2 hg12 hsubs hN hlim r0 r1 r2 r3 r4 rl f0 f1 f2 f3 f4
    go_enter Tryz.func38, Tryz.ntmps38
    go_wp2_with fail
    refine HC.out.mono ?_
    rintro e w3 ⟨he, hg3⟩
    obtain ⟨kk, hkk⟩ : ∃ kk : Int, kk = 1 := ⟨_, rfl⟩
    obtain ⟨es, hes⟩ : ∃ es : ByteArray, es = { data := #[] } := ⟨_, rfl⟩
    rw [← hkk, ← hes] at he
    subst he
    have HK := Lib.hid hkk
    have HES := Lib.hid hes
    have o3 := HO2.out.keep hg3
    rw [← hes] at o3
    have r0 := o3.cell_at (i := 0) rfl
    have r1 := o3.cell_at (i := 1) rfl
    have r2 := o3.cell_at (i := 2) rfl
    have r3 := o3.cell_at (i := 3) rfl
    have r4 := o3.cell_at (i := 4) rfl
    have rl := o3.lt
    have f0 := o3.free 0
    have f1 := o3.free 1
    have f2 := o3.free 2
    have f3 := o3.free 3
    have f4 := o3.free 4
    have HO3 := Lib.hid (owns_five o3 (.int .u8 kk) (.string es) (.string es) (.slice none 0 0) (.slice none 0 0))
    have HG3 := Lib.hid (grew_five (HG.out.trans hg3) (show W.heap.size ≤ W.heap.size + 1 by omega) (.int .u8 kk) (.string es) (.string es) (.slice none 0 0) (.slice none 0 0))
    clear o3 hg3 HC hw1 hw2 c4 cl HG HO2 hkk hes z1
    generalize W.heap.size + 1 = rb at *
    go_wp2_with fail
    refine bodyPost_ret (results_cell_row (d := Tryz.prog.underlying 51 |>.getD default) rfl _ _ rb 51 _ (0, 0) rfl HO3.out rfl rfl rfl) rfl ?_
    refine ⟨⟨_, rfl, _, _, _, _, _, rfl, ?_⟩, HG3.out⟩
    rw [HK.out, HES.out]
    exact noNd_at _ _
  | cons s rest =>
    rw [NodesAt] at hsubs
    obtain ⟨⟨nb, noff, rfl, hnb, hs⟩, -⟩ := hsubs
    obtain ⟨u0, u1, u2, u3, u4, e0, e1, e2, e3, e4, hs⟩ := hs.vals
    obtain ⟨ck, cnm, ctx, csa, csl, csc, cna, cnl, cnc, rfl, rfl, rfl, rfl, rfl⟩ := hs.forms
    have hnl : nb < w2.heap.size := by have := hg12.size; omega
    have hnW : nb < W.heap.size := by omega
    have x0 := (hg12.cells _ _ hnW).trans e0
    have x1 := (hg12.cells _ _ hnW).trans e1
    have x2 := (hg12.cells _ _ hnW).trans e2
    have x3 := (hg12.cells _ _ hnW).trans e3
    have x4 := (hg12.cells _ _ hnW).trans e4
    simp only [Nat.zero_mul, Nat.add_zero] at x0 x1 x2 x3 x4
    have HS := Lib.hid hs
    have HO3 := Lib.hid (owns_five o2 (.int .u8 ck) (.string cnm) (.string ctx) (.slice csa csl csc) (.slice cna cnl cnc))
    have HG3 := Lib.hid (grew_five hg12 (show W.heap.size ≤ W.heap.size + 1 by omega) (.int .u8 ck) (.string cnm) (.string ctx) (.slice csa csl csc) (.slice cna cnl cnc))
    have HLM := Lib.hid hlim
    have hlp : 0 < ln := by rw [← hln]; simp
    have hz : ((ln : Int) == 0) = false := by rw [beq_eq_false_iff_ne]; omega
    clear g1 g2 o1 o2 hg12 hN hlim hs e0 e1 e2 e3 e4 hnb hnW hln
    go_enter Tryz.func38, Tryz.ntmps38
    go_wp2_with fail
    refine bodyPost_ret (results_cell_row (d := Tryz.prog.underlying 51 |>.getD default) rfl _ _ (W.heap.size + 1) 51 _ (0, 0) rfl HO3.out rfl rfl rfl) rfl ?_
    exact ⟨⟨_, rfl, _, _, _, _, _, rfl, HS.out.keep (HG3.out.mono HLM.out)⟩, HG3.out⟩
end Go.Proofs.YtiiffcmojkdlaaaGreatDoor
