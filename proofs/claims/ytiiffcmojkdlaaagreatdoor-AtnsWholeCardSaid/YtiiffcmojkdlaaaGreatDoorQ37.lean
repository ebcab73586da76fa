/- The making's piece: the cases without parts. -/
import Derived.Test.YtiiffcmojkdlaaaGreatDoorQ36
namespace Go.Proofs.YtiiffcmojkdlaaaGreatDoor
open Go.RowKit

set_option maxHeartbeats 4000000 in
set_option maxRecDepth 40000 in
theorem mpiece_full (E : MkE) (g : Gr) (hE : E.rules.length ≤ reachN ∧ E.tokens.length ≤ reachN) (k : Int) (nm tx : ByteArray) (set : List (Int × Int)) (subs : List Nd)  (m0 : Mk) (V0 : MkV) (W : World) (v0 v1 v2 v3 v4 : Value) (a b : Nat) (h : MkAt E W m0 V0) (hg : GrAt W E.base (some E.g0) (some E.g1) (some E.g2) (some E.g3) g)
    (hn : NodeAt W E.base (some v0) (some v1) (some v2) (some v3) (some v4) (.mk k nm tx set subs)) (ha : m0.has a) (hs : m0.Slim (Nd.mk k nm tx set subs).req) (hf : m0.full = true) :
    Calls Tryz.prog 20 #[.pointer (some ⟨E.mb, 0, none⟩), .agg #[v0, v1, v2, v3, v4], .int .i64 a, .int .i64 b] W fun e W' => (∃ v, e = .returned v) ∧ Made E m0 V0 (m0) W W' := by
  have hKp := Nd.req_pos (.mk k nm tx set subs)
  have hK9 : ¬(k = 1 ∧ subs.length = 0) → (Nd.mk k nm tx set subs).req = 9 + Nd.reqs subs := fun h => by rw [Nd.req, if_neg h]
  generalize (Nd.mk k nm tx set subs).req = K at hs hKp hK9
  have hn9 := hn
  obtain ⟨bk, bnm, btx, bsa, bsl, bsc, bna, bnl, bnc, rfl, rfl, rfl, rfl, rfl⟩ := hn.forms
  rw [NodeAt] at hn9
  obtain ⟨-, -, -, hz0, hz1, -, -, na, nc, hz4, hsl, hsubs⟩ := hn9
  simp only [Option.some.injEq, Value.slice.injEq, Value.int.injEq, true_and] at hz4 hz0
  have hy1 := Value.string.inj (Option.some.inj hz1)
  clear hz1
  subst hy1
  obtain ⟨rfl, rfl, rfl⟩ := hz4
  have hy0 := hz0.symm
  clear hz0
  subst hy0
  obtain ⟨w0, hw0⟩ : ∃ w0, W.alloc (.cells #[.int .u8 k, .string bnm, .string btx, .slice bsa bsl bsc, .slice bna subs.length bnc] 51) = w0 := ⟨_, rfl⟩
  have hgr : Grew W w0 := hw0 ▸ grew_alloc W _
  have hob : Owns w0 W.heap.size [.int .u8 k, .string bnm, .string btx, .slice bsa bsl bsc, .slice bna subs.length bnc] 51 := hw0 ▸ Owns.alloc W _ _
  have HB := Lib.hid (OwnsX.fresh h hob)
  have HG := Lib.hid (hg.keep (hgr.mono h.lim))
  have HN := Lib.hid (hn.keep (hgr.mono h.lim))
  have HF0 := Lib.hid (Frk.grew (E := E) (m := m0) (V := V0) hgr)
  have hm9 := h.grew hgr
  have c14 := hm9.box.cell_at (i := 14) rfl
  rw [hf] at c14
  have cl := hm9.box.lt
  have b0 := hob.cell_at (i := 0) rfl
  have b1 := hob.cell_at (i := 1) rfl
  have b2 := hob.cell_at (i := 2) rfl
  have b3 := hob.cell_at (i := 3) rfl
  have b4 := hob.cell_at (i := 4) rfl
  have bl := hob.lt
  have HSUB := Lib.hid (SubsAt.of h hsubs)
  have HSU := Lib.hid (HSUB.out.next h (Frk.grew hgr))
  have HM0 := Lib.hid hm9
  have HL0 := Lib.hid (Mk.Le.refl m0)
  have HS := Lib.hid hs
  have HFU := Lib.hid hf
  have HX_a := Lib.hid ha
  have HE := Lib.hid hE
  unfold reachN at hsl
  clear h hg hn ha hs hgr hob hm9 hsubs HSUB hE hf
  go_enter Tryz.func20, Tryz.ntmps20
  go_wp2_with fail
  go_end0
  exact ⟨⟨_, rfl⟩, V0, HM0.out, HF0.out⟩

set_option maxHeartbeats 4000000 in
set_option maxRecDepth 40000 in
theorem mpiece_else (E : MkE) (g : Gr) (hE : E.rules.length ≤ reachN ∧ E.tokens.length ≤ reachN) (k : Int) (nm tx : ByteArray) (set : List (Int × Int)) (subs : List Nd) (h6 : (k == 6) = false) (h5 : (k == 5) = false) (h7 : (k == 7) = false) (h1 : (k == 1) = false) (h0 : (k == 0) = false) (h2 : (k == 2) = false) (h3 : (k == 3) = false) (h4 : (k == 4) = false) (m0 : Mk) (V0 : MkV) (W : World) (v0 v1 v2 v3 v4 : Value) (a b : Nat) (h : MkAt E W m0 V0) (hg : GrAt W E.base (some E.g0) (some E.g1) (some E.g2) (some E.g3) g)
    (hn : NodeAt W E.base (some v0) (some v1) (some v2) (some v3) (some v4) (.mk k nm tx set subs)) (ha : m0.has a) (hs : m0.Slim (Nd.mk k nm tx set subs).req) (hf : m0.full = false) :
    Calls Tryz.prog 20 #[.pointer (some ⟨E.mb, 0, none⟩), .agg #[v0, v1, v2, v3, v4], .int .i64 a, .int .i64 b] W fun e W' => (∃ v, e = .returned v) ∧ Made E m0 V0 (m0.empty a b) W W' := by
  have hKp := Nd.req_pos (.mk k nm tx set subs)
  have hK9 : ¬(k = 1 ∧ subs.length = 0) → (Nd.mk k nm tx set subs).req = 9 + Nd.reqs subs := fun h => by rw [Nd.req, if_neg h]
  generalize (Nd.mk k nm tx set subs).req = K at hs hKp hK9
  have hn9 := hn
  obtain ⟨bk, bnm, btx, bsa, bsl, bsc, bna, bnl, bnc, rfl, rfl, rfl, rfl, rfl⟩ := hn.forms
  rw [NodeAt] at hn9
  obtain ⟨-, -, -, hz0, hz1, -, -, na, nc, hz4, hsl, hsubs⟩ := hn9
  simp only [Option.some.injEq, Value.slice.injEq, Value.int.injEq, true_and] at hz4 hz0
  have hy1 := Value.string.inj (Option.some.inj hz1)
  clear hz1
  subst hy1
  obtain ⟨rfl, rfl, rfl⟩ := hz4
  have hy0 := hz0.symm
  clear hz0
  subst hy0
  obtain ⟨w0, hw0⟩ : ∃ w0, W.alloc (.cells #[.int .u8 k, .string bnm, .string btx, .slice bsa bsl bsc, .slice bna subs.length bnc] 51) = w0 := ⟨_, rfl⟩
  have hgr : Grew W w0 := hw0 ▸ grew_alloc W _
  have hob : Owns w0 W.heap.size [.int .u8 k, .string bnm, .string btx, .slice bsa bsl bsc, .slice bna subs.length bnc] 51 := hw0 ▸ Owns.alloc W _ _
  have HB := Lib.hid (OwnsX.fresh h hob)
  have HG := Lib.hid (hg.keep (hgr.mono h.lim))
  have HN := Lib.hid (hn.keep (hgr.mono h.lim))
  have HF0 := Lib.hid (Frk.grew (E := E) (m := m0) (V := V0) hgr)
  have hm9 := h.grew hgr
  have c14 := hm9.box.cell_at (i := 14) rfl
  rw [hf] at c14
  have cl := hm9.box.lt
  have b0 := hob.cell_at (i := 0) rfl
  have b1 := hob.cell_at (i := 1) rfl
  have b2 := hob.cell_at (i := 2) rfl
  have b3 := hob.cell_at (i := 3) rfl
  have b4 := hob.cell_at (i := 4) rfl
  have bl := hob.lt
  have HSUB := Lib.hid (SubsAt.of h hsubs)
  have HSU := Lib.hid (HSUB.out.next h (Frk.grew hgr))
  have HM0 := Lib.hid hm9
  have HL0 := Lib.hid (Mk.Le.refl m0)
  have HS := Lib.hid hs
  have HFU := Lib.hid hf
  have HX_a := Lib.hid ha
  have HE := Lib.hid hE
  unfold reachN at hsl
  clear h hg hn ha hs hgr hob hm9 hsubs HSUB hE hf
  go_enter Tryz.func20, Tryz.ntmps20
  have HC := Lib.hid (mempty_ok E m0 V0 w0 HM0.out a b HX_a.out (by have := ((HS.out.mono (show 0 + 1 ≤ K by omega)).next HL0.out).edges a; omega))
  go_wp2_with fail
  refine HC.out.mono ?_
  clear HC
  rintro e9 w1 ⟨⟨v, rfl⟩, V1, hM, hF⟩
  obtain ⟨m1, hm⟩ : ∃ m9, m9 = m0.empty a b := ⟨_, rfl⟩
  rw [← hm] at hM hF
  have hle : Mk.Le 1 m0 m1 := hm ▸ m0.empty_le a b
  have HX_a := Lib.hid (HX_a.out.next hle)
  have HL1 : Hid (Mk.Le 1 m0 m1) := Lib.hid ((HL0.out.trans hle).mono (by omega))
  have HM1 := Lib.hid hM
  have HF1 := Lib.hid (HF0.out.trans hF)
  have HEM1 := Lib.hid hm
  clear hM hF hm hle HM0 HF0 HL0
  go_wp2_with fail
  go_end0
  rw [← HEM1.out]
  exact ⟨⟨_, rfl⟩, V1, HM1.out, HF1.out⟩

set_option maxHeartbeats 4000000 in
set_option maxRecDepth 40000 in
theorem mpiece_none (E : MkE) (g : Gr) (hE : E.rules.length ≤ reachN ∧ E.tokens.length ≤ reachN) (k : Int) (nm tx : ByteArray) (set : List (Int × Int)) (subs : List Nd) (hk : k = 1) (hsb : subs = []) (m0 : Mk) (V0 : MkV) (W : World) (v0 v1 v2 v3 v4 : Value) (a b : Nat) (h : MkAt E W m0 V0) (hg : GrAt W E.base (some E.g0) (some E.g1) (some E.g2) (some E.g3) g)
    (hn : NodeAt W E.base (some v0) (some v1) (some v2) (some v3) (some v4) (.mk k nm tx set subs)) (ha : m0.has a) (hs : m0.Slim (Nd.mk k nm tx set subs).req) (hf : m0.full = false) :
    Calls Tryz.prog 20 #[.pointer (some ⟨E.mb, 0, none⟩), .agg #[v0, v1, v2, v3, v4], .int .i64 a, .int .i64 b] W fun e W' => (∃ v, e = .returned v) ∧ Made E m0 V0 (m0.empty a b) W W' := by
  have hKp := Nd.req_pos (.mk k nm tx set subs)
  have hK9 : ¬(k = 1 ∧ subs.length = 0) → (Nd.mk k nm tx set subs).req = 9 + Nd.reqs subs := fun h => by rw [Nd.req, if_neg h]
  generalize (Nd.mk k nm tx set subs).req = K at hs hKp hK9
  have hn9 := hn
  obtain ⟨bk, bnm, btx, bsa, bsl, bsc, bna, bnl, bnc, rfl, rfl, rfl, rfl, rfl⟩ := hn.forms
  rw [NodeAt] at hn9
  obtain ⟨-, -, -, hz0, hz1, -, -, na, nc, hz4, hsl, hsubs⟩ := hn9
  simp only [Option.some.injEq, Value.slice.injEq, Value.int.injEq, true_and] at hz4 hz0
  have hy1 := Value.string.inj (Option.some.inj hz1)
  clear hz1
  subst hy1
  obtain ⟨rfl, rfl, rfl⟩ := hz4
  have hy0 := hz0.symm
  clear hz0
  subst hy0
  subst hk
  subst hsb
  clear hK9
  simp only [List.length_nil] at *
  have h6 : ((1 : Int) == 6) = false := by decide
  have h5 : ((1 : Int) == 5) = false := by decide
  have h7 : ((1 : Int) == 7) = false := by decide
  have h1 : ((1 : Int) == 1) = true := by decide
  have h0 : ((1 : Int) == 0) = false := by decide
  have h2 : ((1 : Int) == 2) = false := by decide
  have h3 : ((1 : Int) == 3) = false := by decide
  have h4 : ((1 : Int) == 4) = false := by decide
  obtain ⟨w0, hw0⟩ : ∃ w0, W.alloc (.cells #[.int .u8 1, .string bnm, .string btx, .slice bsa bsl bsc, .slice bna 0 bnc] 51) = w0 := ⟨_, rfl⟩
  have hgr : Grew W w0 := hw0 ▸ grew_alloc W _
  have hob : Owns w0 W.heap.size [.int .u8 1, .string bnm, .string btx, .slice bsa bsl bsc, .slice bna 0 bnc] 51 := hw0 ▸ Owns.alloc W _ _
  have HB := Lib.hid (OwnsX.fresh h hob)
  have HG := Lib.hid (hg.keep (hgr.mono h.lim))
  have HN := Lib.hid (hn.keep (hgr.mono h.lim))
  have HF0 := Lib.hid (Frk.grew (E := E) (m := m0) (V := V0) hgr)
  have hm9 := h.grew hgr
  have c14 := hm9.box.cell_at (i := 14) rfl
  rw [hf] at c14
  have cl := hm9.box.lt
  have b0 := hob.cell_at (i := 0) rfl
  have b1 := hob.cell_at (i := 1) rfl
  have b2 := hob.cell_at (i := 2) rfl
  have b3 := hob.cell_at (i := 3) rfl
  have b4 := hob.cell_at (i := 4) rfl
  have bl := hob.lt
  have HSUB := Lib.hid (SubsAt.of h hsubs)
  have HSU := Lib.hid (HSUB.out.next h (Frk.grew hgr))
  have HM0 := Lib.hid hm9
  have HL0 := Lib.hid (Mk.Le.refl m0)
  have HS := Lib.hid hs
  have HFU := Lib.hid hf
  have HX_a := Lib.hid ha
  have HE := Lib.hid hE
  unfold reachN at hsl
  clear h hg hn ha hs hgr hob hm9 hsubs HSUB hE hf
  go_enter Tryz.func20, Tryz.ntmps20
  have HC := Lib.hid (mempty_ok E m0 V0 w0 HM0.out a b HX_a.out (by have := ((HS.out.mono (show 0 + 1 ≤ K by omega)).next HL0.out).edges a; omega))
  go_wp2_with fail
  refine HC.out.mono ?_
  clear HC
  rintro e9 w1 ⟨⟨v, rfl⟩, V1, hM, hF⟩
  obtain ⟨m1, hm⟩ : ∃ m9, m9 = m0.empty a b := ⟨_, rfl⟩
  rw [← hm] at hM hF
  have hle : Mk.Le 1 m0 m1 := hm ▸ m0.empty_le a b
  have HX_a := Lib.hid (HX_a.out.next hle)
  have HL1 : Hid (Mk.Le 1 m0 m1) := Lib.hid ((HL0.out.trans hle).mono (by omega))
  have HM1 := Lib.hid hM
  have HF1 := Lib.hid (HF0.out.trans hF)
  have HEM1 := Lib.hid hm
  clear hM hF hm hle HM0 HF0 HL0
  go_wp2_with fail
  go_end0
  rw [← HEM1.out]
  exact ⟨⟨_, rfl⟩, V1, HM1.out, HF1.out⟩

set_option maxHeartbeats 4000000 in
set_option maxRecDepth 40000 in
theorem mpiece_tok (E : MkE) (g : Gr) (hE : E.rules.length ≤ reachN ∧ E.tokens.length ≤ reachN) (k : Int) (nm tx : ByteArray) (set : List (Int × Int)) (subs : List Nd) (hk : k = 6) (m0 : Mk) (V0 : MkV) (W : World) (v0 v1 v2 v3 v4 : Value) (a b : Nat) (h : MkAt E W m0 V0) (hg : GrAt W E.base (some E.g0) (some E.g1) (some E.g2) (some E.g3) g)
    (hn : NodeAt W E.base (some v0) (some v1) (some v2) (some v3) (some v4) (.mk k nm tx set subs)) (ha : m0.has a) (hs : m0.Slim (Nd.mk k nm tx set subs).req) (hf : m0.full = false) :
    Calls Tryz.prog 20 #[.pointer (some ⟨E.mb, 0, none⟩), .agg #[v0, v1, v2, v3, v4], .int .i64 a, .int .i64 b] W fun e W' => (∃ v, e = .returned v) ∧ Made E m0 V0 (m0.edge a 1 ((E.nums g).tok nm) b) W W' := by
  have hKp := Nd.req_pos (.mk k nm tx set subs)
  have hK9 : ¬(k = 1 ∧ subs.length = 0) → (Nd.mk k nm tx set subs).req = 9 + Nd.reqs subs := fun h => by rw [Nd.req, if_neg h]
  generalize (Nd.mk k nm tx set subs).req = K at hs hKp hK9
  have hn9 := hn
  obtain ⟨bk, bnm, btx, bsa, bsl, bsc, bna, bnl, bnc, rfl, rfl, rfl, rfl, rfl⟩ := hn.forms
  rw [NodeAt] at hn9
  obtain ⟨-, -, -, hz0, hz1, -, -, na, nc, hz4, hsl, hsubs⟩ := hn9
  simp only [Option.some.injEq, Value.slice.injEq, Value.int.injEq, true_and] at hz4 hz0
  have hy1 := Value.string.inj (Option.some.inj hz1)
  clear hz1
  subst hy1
  obtain ⟨rfl, rfl, rfl⟩ := hz4
  have hy0 := hz0.symm
  clear hz0
  subst hy0
  subst hk
  have hK9 := hK9 (by rintro ⟨h, _⟩; exact absurd h (by decide))
  have hk6 : ((6 : Int) == 6) = true := by decide
  obtain ⟨w0, hw0⟩ : ∃ w0, W.alloc (.cells #[.int .u8 6, .string bnm, .string btx, .slice bsa bsl bsc, .slice bna subs.length bnc] 51) = w0 := ⟨_, rfl⟩
  have hgr : Grew W w0 := hw0 ▸ grew_alloc W _
  have hob : Owns w0 W.heap.size [.int .u8 6, .string bnm, .string btx, .slice bsa bsl bsc, .slice bna subs.length bnc] 51 := hw0 ▸ Owns.alloc W _ _
  have HB := Lib.hid (OwnsX.fresh h hob)
  have HG := Lib.hid (hg.keep (hgr.mono h.lim))
  have HN := Lib.hid (hn.keep (hgr.mono h.lim))
  have HF0 := Lib.hid (Frk.grew (E := E) (m := m0) (V := V0) hgr)
  have hm9 := h.grew hgr
  have c14 := hm9.box.cell_at (i := 14) rfl
  rw [hf] at c14
  have cl := hm9.box.lt
  have b0 := hob.cell_at (i := 0) rfl
  have b1 := hob.cell_at (i := 1) rfl
  have b2 := hob.cell_at (i := 2) rfl
  have b3 := hob.cell_at (i := 3) rfl
  have b4 := hob.cell_at (i := 4) rfl
  have bl := hob.lt
  have HSUB := Lib.hid (SubsAt.of h hsubs)
  have HSU := Lib.hid (HSUB.out.next h (Frk.grew hgr))
  have HM0 := Lib.hid hm9
  have HL0 := Lib.hid (Mk.Le.refl m0)
  have HS := Lib.hid hs
  have HFU := Lib.hid hf
  have HX_a := Lib.hid ha
  have HE := Lib.hid hE
  unfold reachN at hsl
  have c5 := hm9.box.cell_at (i := 5) rfl
  obtain ⟨la, lc, hla⟩ : ∃ la lc, V0.iv .tokens = .slice la E.tokens.length lc := loose_form (hm9.ints .tokens trivial)
  rw [hla] at c5
  have HNUM : Hid (∀ w, Grew w0 w → Calls Tryz.prog 37 #[.pointer (some ⟨E.mb, 0, none⟩), .agg #[.int .u8 6, .string bnm, .string btx, .slice bsa bsl bsc, .slice bna subs.length bnc], .slice la E.tokens.length lc] w fun e W' => e = .returned (.int .i64 ((E.nums g).tok bnm)) ∧ Grew w W') :=
    Lib.hid fun w hw => by
      have hiv := loose_ints (((hm9.grew hw).ints .tokens trivial))
      rw [hla] at hiv
      exact mnumber_ok E m0 V0 w (hm9.grew hw) g (HG.out.keep (hw.mono hm9.lim)) E.tokens _ HE.out.2 hiv _ _ _ _ _ _ (HN.out.keep (hw.mono hm9.lim))
  clear hla
  clear h hg hn ha hs hgr hob hm9 hsubs HSUB hE hf
  go_enter Tryz.func20, Tryz.ntmps20
  go_wp2_with fail
  refine wp_region_hav_lit follows (by kernel_rfl) ?_
  repeat (first
    | (refine HavG.skip (fun _ => rfl) ?_; simp only [Act.put, List.setIfInBounds_toArray, List.set_cons_zero, List.set_cons_succ])
    | (refine HavG.val (fun _ => rfl) ?_ (fun x w hw _ => ?_) ?_; rotate_left; (focus (have hc := hw.cells; clear hw; go_simp; first | done | rfl)); simp only [Act.put, List.setIfInBounds_toArray, List.set_cons_zero, List.set_cons_succ]))
  refine HavG.det (fun _ => rfl) (.int .i64 ((E.nums g).tok bnm)) (fun x w hw _ => ?_) ?_
  · have HW := Lib.hid hw
    clear hw
    go_simp
    refine (HNUM.out _ HW.out).mono ?_
    rintro e w' ⟨rfl, hb⟩
    exact ⟨rfl, hb⟩
  simp only [Act.put, List.setIfInBounds_toArray, List.set_cons_zero, List.set_cons_succ]
  repeat (first
    | (refine HavG.skip (fun _ => rfl) ?_; simp only [Act.put, List.setIfInBounds_toArray, List.set_cons_zero, List.set_cons_succ])
    | (refine HavG.val (fun _ => rfl) ?_ (fun x w hw _ => ?_) ?_; rotate_left; (focus (have hc := hw.cells; clear hw; go_simp; first | done | rfl)); simp only [Act.put, List.setIfInBounds_toArray, List.set_cons_zero, List.set_cons_succ]))
  refine HavG.tail (by kernel_rfl) (by kernel_rfl) (fun x w hw _ => ?_)
  have HC := Lib.hid (medge_ok E m0 V0 w (HM0.out.grew hw) a 1 ((E.nums g).tok bnm) b HX_a.out (by have := HS.out.edges a; omega))
  have HW := Lib.hid (HF0.out.trans (Frk.grew (E := E) (m := m0) (V := V0) hw))
  clear hw
  go_wp2_with fail
  refine HC.out.mono ?_
  rintro e w1 ⟨⟨v, rfl⟩, V1, hM, hF⟩
  have HM1 := Lib.hid hM
  have HF1 := Lib.hid (HW.out.trans hF)
  clear hM hF
  go_wp2_with fail
  go_end0
  exact ⟨⟨_, rfl⟩, V1, HM1.out, HF1.out⟩

set_option maxHeartbeats 4000000 in
set_option maxRecDepth 40000 in
theorem mpiece_ref (E : MkE) (g : Gr) (hE : E.rules.length ≤ reachN ∧ E.tokens.length ≤ reachN) (k : Int) (nm tx : ByteArray) (set : List (Int × Int)) (subs : List Nd) (hk : k = 5) (m0 : Mk) (V0 : MkV) (W : World) (v0 v1 v2 v3 v4 : Value) (a b : Nat) (h : MkAt E W m0 V0) (hg : GrAt W E.base (some E.g0) (some E.g1) (some E.g2) (some E.g3) g)
    (hn : NodeAt W E.base (some v0) (some v1) (some v2) (some v3) (some v4) (.mk k nm tx set subs)) (ha : m0.has a) (hs : m0.Slim (Nd.mk k nm tx set subs).req) (hf : m0.full = false) :
    Calls Tryz.prog 20 #[.pointer (some ⟨E.mb, 0, none⟩), .agg #[v0, v1, v2, v3, v4], .int .i64 a, .int .i64 b] W fun e W' => (∃ v, e = .returned v) ∧ Made E m0 V0 (m0.edge a 2 ((E.nums g).rule nm) b) W W' := by
  have hKp := Nd.req_pos (.mk k nm tx set subs)
  have hK9 : ¬(k = 1 ∧ subs.length = 0) → (Nd.mk k nm tx set subs).req = 9 + Nd.reqs subs := fun h => by rw [Nd.req, if_neg h]
  generalize (Nd.mk k nm tx set subs).req = K at hs hKp hK9
  have hn9 := hn
  obtain ⟨bk, bnm, btx, bsa, bsl, bsc, bna, bnl, bnc, rfl, rfl, rfl, rfl, rfl⟩ := hn.forms
  rw [NodeAt] at hn9
  obtain ⟨-, -, -, hz0, hz1, -, -, na, nc, hz4, hsl, hsubs⟩ := hn9
  simp only [Option.some.injEq, Value.slice.injEq, Value.int.injEq, true_and] at hz4 hz0
  have hy1 := Value.string.inj (Option.some.inj hz1)
  clear hz1
  subst hy1
  obtain ⟨rfl, rfl, rfl⟩ := hz4
  have hy0 := hz0.symm
  clear hz0
  subst hy0
  subst hk
  have hK9 := hK9 (by rintro ⟨h, _⟩; exact absurd h (by decide))
  have hk6 : ((5 : Int) == 6) = false := by decide
  have hk5 : ((5 : Int) == 5) = true := by decide
  obtain ⟨w0, hw0⟩ : ∃ w0, W.alloc (.cells #[.int .u8 5, .string bnm, .string btx, .slice bsa bsl bsc, .slice bna subs.length bnc] 51) = w0 := ⟨_, rfl⟩
  have hgr : Grew W w0 := hw0 ▸ grew_alloc W _
  have hob : Owns w0 W.heap.size [.int .u8 5, .string bnm, .string btx, .slice bsa bsl bsc, .slice bna subs.length bnc] 51 := hw0 ▸ Owns.alloc W _ _
  have HB := Lib.hid (OwnsX.fresh h hob)
  have HG := Lib.hid (hg.keep (hgr.mono h.lim))
  have HN := Lib.hid (hn.keep (hgr.mono h.lim))
  have HF0 := Lib.hid (Frk.grew (E := E) (m := m0) (V := V0) hgr)
  have hm9 := h.grew hgr
  have c14 := hm9.box.cell_at (i := 14) rfl
  rw [hf] at c14
  have cl := hm9.box.lt
  have b0 := hob.cell_at (i := 0) rfl
  have b1 := hob.cell_at (i := 1) rfl
  have b2 := hob.cell_at (i := 2) rfl
  have b3 := hob.cell_at (i := 3) rfl
  have b4 := hob.cell_at (i := 4) rfl
  have bl := hob.lt
  have HSUB := Lib.hid (SubsAt.of h hsubs)
  have HSU := Lib.hid (HSUB.out.next h (Frk.grew hgr))
  have HM0 := Lib.hid hm9
  have HL0 := Lib.hid (Mk.Le.refl m0)
  have HS := Lib.hid hs
  have HFU := Lib.hid hf
  have HX_a := Lib.hid ha
  have HE := Lib.hid hE
  unfold reachN at hsl
  have c4 := hm9.box.cell_at (i := 4) rfl
  obtain ⟨la, lc, hla⟩ : ∃ la lc, V0.iv .rules = .slice la E.rules.length lc := loose_form (hm9.ints .rules trivial)
  rw [hla] at c4
  have HNUM : Hid (∀ w, Grew w0 w → Calls Tryz.prog 37 #[.pointer (some ⟨E.mb, 0, none⟩), .agg #[.int .u8 5, .string bnm, .string btx, .slice bsa bsl bsc, .slice bna subs.length bnc], .slice la E.rules.length lc] w fun e W' => e = .returned (.int .i64 ((E.nums g).rule bnm)) ∧ Grew w W') :=
    Lib.hid fun w hw => by
      have hiv := loose_ints (((hm9.grew hw).ints .rules trivial))
      rw [hla] at hiv
      exact mnumber_ok E m0 V0 w (hm9.grew hw) g (HG.out.keep (hw.mono hm9.lim)) E.rules _ HE.out.1 hiv _ _ _ _ _ _ (HN.out.keep (hw.mono hm9.lim))
  clear hla
  clear h hg hn ha hs hgr hob hm9 hsubs HSUB hE hf
  go_enter Tryz.func20, Tryz.ntmps20
  go_wp2_with fail
  refine wp_region_hav_lit follows (by kernel_rfl) ?_
  repeat (first
    | (refine HavG.skip (fun _ => rfl) ?_; simp only [Act.put, List.setIfInBounds_toArray, List.set_cons_zero, List.set_cons_succ])
    | (refine HavG.val (fun _ => rfl) ?_ (fun x w hw _ => ?_) ?_; rotate_left; (focus (have hc := hw.cells; clear hw; go_simp; first | done | rfl)); simp only [Act.put, List.setIfInBounds_toArray, List.set_cons_zero, List.set_cons_succ]))
  refine HavG.det (fun _ => rfl) (.int .i64 ((E.nums g).rule bnm)) (fun x w hw _ => ?_) ?_
  · have HW := Lib.hid hw
    clear hw
    go_simp
    refine (HNUM.out _ HW.out).mono ?_
    rintro e w' ⟨rfl, hb⟩
    exact ⟨rfl, hb⟩
  simp only [Act.put, List.setIfInBounds_toArray, List.set_cons_zero, List.set_cons_succ]
  repeat (first
    | (refine HavG.skip (fun _ => rfl) ?_; simp only [Act.put, List.setIfInBounds_toArray, List.set_cons_zero, List.set_cons_succ])
    | (refine HavG.val (fun _ => rfl) ?_ (fun x w hw _ => ?_) ?_; rotate_left; (focus (have hc := hw.cells; clear hw; go_simp; first | done | rfl)); simp only [Act.put, List.setIfInBounds_toArray, List.set_cons_zero, List.set_cons_succ]))
  refine HavG.tail (by kernel_rfl) (by kernel_rfl) (fun x w hw _ => ?_)
  have HC := Lib.hid (medge_ok E m0 V0 w (HM0.out.grew hw) a 2 ((E.nums g).rule bnm) b HX_a.out (by have := HS.out.edges a; omega))
  have HW := Lib.hid (HF0.out.trans (Frk.grew (E := E) (m := m0) (V := V0) hw))
  clear hw
  go_wp2_with fail
  refine HC.out.mono ?_
  rintro e w1 ⟨⟨v, rfl⟩, V1, hM, hF⟩
  have HM1 := Lib.hid hM
  have HF1 := Lib.hid (HW.out.trans hF)
  clear hM hF
  go_wp2_with fail
  go_end0
  exact ⟨⟨_, rfl⟩, V1, HM1.out, HF1.out⟩
end Go.Proofs.YtiiffcmojkdlaaaGreatDoor
