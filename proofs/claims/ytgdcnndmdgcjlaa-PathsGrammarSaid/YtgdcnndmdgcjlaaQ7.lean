/- paths.goes: from a place on, over all of its edges. -/
import Derived.Test.YtgdcnndmdgcjlaaQ6
import Derived.Test.YtgdcnndmdgcjlaaQ5
namespace Go.Proofs.Ytgdcnndmdgcjlaa
open Go.RowKit
def EdgeDone (E : Env) (T : St) (κ : Key) (i : Nat) (e : Edg) : Prop :=
  (e.kind = 2 → (e.what.toNat, i) ∈ T.calls ∧ (κ, e.to.toNat) ∈ T.waits (e.what.toNat, i)) ∧
  (e.kind ≠ 2 → e.kind ≠ 1 → (e.to.toNat, i) ∈ T.seen κ) ∧ (e.kind = 1 → E.w[i]? = some e.what → (e.to.toNat, i + 1) ∈ T.seen κ)
theorem EdgeDone.mono {E : Env} {T T' : St} {κ : Key} {i : Nat} {e : Edg} (h : EdgeDone E T κ i e) (hl : Le T T') : EdgeDone E T' κ i e :=
  ⟨fun hk => ⟨hl.calls _ (h.1 hk).1, hl.waits _ _ (h.1 hk).2⟩, fun hk hk' => hl.seen _ _ (h.2.1 hk hk'), fun hk hw => hl.seen _ _ (h.2.2 hk hw)⟩
structure GLoop (E : Env) (S : St) (κ : Key) (s i : Nat) (T : St) (j : Nat) : Prop where
  inv : Inv E T
  le : Le S T
  begun : Begun E S → Begun E T
  opn : ∀ d k y, Opn T d k y → Opn S d k y
  done : ∀ m, m < j → ∀ h : m < (E.N.edges s).length, EdgeDone E T κ i (E.N.edges s)[m]
section
variable {E : Env} {S T T' : St} {κ : Key} {s i j : Nat}
theorem GLoop.start (hI : Inv E S) : GLoop E S κ s i S 0 := ⟨hI, Le.refl S, id, fun _ _ _ h => h, fun m h => absurd h (by omega)⟩
theorem GLoop.more (h : GLoop E S κ s i T j) (hi : Inv E T') (hl : Le T T') (hb : Begun E T → Begun E T') (ho : ∀ d k y, Opn T' d k y → Opn T d k y) (hd : ∀ h : j < (E.N.edges s).length, EdgeDone E T' κ i (E.N.edges s)[j]) : GLoop E S κ s i T' (j + 1) :=
  ⟨hi, h.le.trans hl, fun hB => hb (h.begun hB), fun d k y hy => h.opn d k y (ho d k y hy), fun m hm hlt => by
    by_cases e : m = j
    · subst e; exact hd hlt
    · exact (h.done m (by omega) hlt).mono hl⟩
theorem GLoop.reached (h : GLoop E S κ s i T j) {κ' : Key} {p : Pl} (hR : Reached E T T' κ' p) (hd : ∀ h : j < (E.N.edges s).length, EdgeDone E T' κ i (E.N.edges s)[j]) : GLoop E S κ s i T' (j + 1) :=
  h.more hR.inv hR.le (fun hB => hB.mono hR.le hR.calls) hR.opn hd
structure Gone (E : Env) (S T : St) (κ : Key) (s i : Nat) : Prop where
  inv : Inv E T
  le : Le S T
  begun : Begun E S → Begun E T
  opn : ∀ d k y, Opn T d k y → Opn S d k y
  clos : Clos E T κ s i
theorem GLoop.gone (h : GLoop E S κ s i T j) (hj : (E.N.edges s).length ≤ j) : Gone E S T κ s i :=
  ⟨h.inv, h.le, h.begun, h.opn, fun e he => by
    obtain ⟨m, hm, rfl⟩ := List.mem_iff_getElem.1 he
    exact h.done m (by omega) hm⟩
end
structure GoesAt (E : Env) (S : St) (W : World) (κ : Key) (s i : Nat) (j : Nat) (T : St) (wr : World) : Prop where
  loop : GLoop E S κ s i T j
  rep : Rep E T wr
  frm : Frm S T W wr
  box : Owns wr W.heap.size [ptrV (S.loc (.walk κ)), .int .i64 s, .int .i64 i] 120
  boxn : ¬T.mine W.heap.size
section
variable {E : Env} {S T T' : St} {W wr w' : World} {κ : Key} {s i j : Nat}
theorem GoesAt.grew (h : GoesAt E S W κ s i j T wr) (hg : Grew wr w') : GoesAt E S W κ s i j T w' := ⟨h.loop, h.rep.grew hg, h.frm.trans (Frm.grew hg), h.box.keep hg, h.boxn⟩
theorem GoesAt.next {j' : Nat} (h : GoesAt E S W κ s i j T wr) (hl : GLoop E S κ s i T' j') (hr : Rep E T' w') (hf : Frm T T' wr w') : GoesAt E S W κ s i j' T' w' :=
  ⟨hl, hr, h.frm.trans hf, (hf.owns h.box h.boxn).1, (hf.owns h.box h.boxn).2⟩
theorem GoesAt.same (h : GoesAt E S W κ s i j T wr) (hd : ∀ h : j < (E.N.edges s).length, EdgeDone E T κ i (E.N.edges s)[j]) : GoesAt E S W κ s i (j + 1) T wr :=
  ⟨h.loop.more h.loop.inv (Le.refl T) id (fun _ _ _ h => h) hd, h.rep, h.frm, h.box, h.boxn⟩
end
set_option maxHeartbeats 2000000 in
set_option maxRecDepth 20000 in
theorem goes_ok (E : Env) (hN : E.N.Ok) (wa : Option Addr) (wc : Nat) (hU : E.univ.length ≤ 1000000000000) (hW : E.w.length ≤ 1000000) (hE : ∀ s, (E.N.edges s).length ≤ 1000000) (hwv : E.wv = .slice wa E.w.length wc) (S : St) (κ : Key) (s i : Nat) (W : World) (hR : Rep E S W) (hI : Inv E S)
    (hs : (s, i) ∈ S.seen κ) (hg : κ = none → (s : Int) ≠ E.over) (hB : Laid E W) :
    Calls Try.prog 46 #[ptrV (S.loc .srch), .agg #[ptrV (S.loc (.walk κ)), .int .i64 s, .int .i64 i]] W fun e W' => (∃ v, e = .returned v) ∧ ∃ S', Rep E S' W' ∧ Frm S S' W W' ∧ Gone E S S' κ s i := by
  have hk : S.has κ := hI.seenH κ _ hs
  have hr := hI.seenR κ _ hs
  have hg1 := grew_alloc W (.cells #[ptrV (S.loc (.walk κ)), .int .i64 s, .int .i64 i] 120)
  have ob := Owns.alloc W [ptrV (S.loc (.walk κ)), .int .i64 s, .int .i64 i] 120
  have hst : GoesAt E S W κ s i 0 S (W.alloc (.cells #[ptrV (S.loc (.walk κ)), .int .i64 s, .int .i64 i] 120)) :=
    ⟨GLoop.start hI, hR.grew hg1, Frm.grew hg1, ob, hR.notmine (Nat.le_refl _)⟩
  have HST := Lib.hid hst
  have HL1 := Lib.hid (hB.keep ((Frm.grew (S := S) hg1).below hR))
  have HK := Lib.hid hk
  have HS := Lib.hid hs
  have HG := Lib.hid hg
  have HRG := Lib.hid hr
  have HLW := Lib.hid hB
  have HR := Lib.hid hR
  have HSE := Lib.hid (hE s)
  have HG1 := Lib.hid hg1
  clear hk hr hg1 ob hst hs hg hB hI hR hE
  unfold ptrV at *
  generalize hw1 : W.alloc (.cells #[.pointer (some ⟨S.loc (.walk κ), 0, none⟩), .int .i64 s, .int .i64 i] 120) = w1 at *
  go_enter Try.func46, Try.ntmps46
  go_wp2_with fail
  clear hw1
  -- the state's edges
  obtain ⟨na, nc, e0, hst⟩ := HLW.out.net.states
  obtain ⟨nb, no, rfl, hnb, hstt⟩ := hst s HRG.out.1
  obtain ⟨ea, ec, hec, hee⟩ := hstt.2.1
  have hedg : (E.N.states[s]'HRG.out.1).edges = E.N.edges s := by unfold Net.edges; rw [List.getElem?_eq_getElem HRG.out.1]; rfl
  rw [hedg] at hec hee
  have s0 : w1.cell? ⟨S.loc .srch, 0, none⟩ = some (.slice (some ⟨nb, no, none⟩) E.N.states.length nc) := by rw [← e0]; exact HST.out.rep.srch.cell_at (i := 0) rfl
  have sl := HST.out.rep.lt (r := .srch) trivial
  have b1 := HST.out.box.cell_at (i := 1) rfl
  have bl := HST.out.box.lt
  have hnbl : nb < w1.heap.size := by have := HST.out.rep.lim_le; omega
  have hsn := HRG.out.1
  have HEE := Lib.hid hee
  have hnw : nb < W.heap.size := by have := HR.out.lim_le; omega
  rw [← HG1.out.cells nb _ hnw] at hec
  clear hst hstt e0 hedg hee hnb
  refine wp_region_hav_lit follows (by kernel_rfl) ?_
  repeat (first
    | (refine HavG.skip (fun _ => rfl) ?_; simp only [Act.put, List.setIfInBounds_toArray, List.set_cons_zero, List.set_cons_succ])
    | (refine HavG.val (fun _ => rfl) ?_ (fun x w hw _ => ?_) ?_; rotate_left; (focus (have hc := hw.cells; clear hw; go_simp; first | done | rfl)); simp only [Act.put, List.setIfInBounds_toArray, List.set_cons_zero, List.set_cons_succ]))
  refine HavG.tail (by kernel_rfl) (by kernel_rfl) (fun x w2 hw _ => ?_)
  have HST2 := Lib.hid (HST.out.grew hw)
  clear hw s0 sl b1 bl hnbl hsn hec HST HL1 hnw
  go_wp2_with fail
  go_loopw [18] (fun c wr => ∃ (j : Nat) (T : St), c = .int .i64 j ∧ j ≤ (E.N.edges s).length ∧ Hid (GoesAt E S W κ s i j T wr)) (fun c _ => (E.N.edges s).length - (intOf c).toNat)
  case atStart =>
    exact ⟨0, S, rfl, by omega, HST2.out⟩
  case round =>
    obtain ⟨j, T, rfl, hj, hat⟩ := hrel
    have hse := HSE.out
    by_cases hlt : j < (E.N.edges s).length
    · have hbw : Below E.lim W wr := hat.out.frm.below HR.out
      obtain ⟨eb, eo, rfl, heb, d0, d1, d2⟩ := (HEE.out.keep hbw) j hlt
      have hem : (E.N.edges s)[j] ∈ E.N.edges s := List.getElem_mem hlt
      obtain ⟨⟨ht1, ht2⟩, hw1', hw2'⟩ := hN.edge s _ hem
      obtain ⟨ek, ew, et, hx⟩ : ∃ ek ew et, (E.N.edges s)[j] = ⟨ek, ew, et⟩ := ⟨_, _, _, rfl⟩
      rw [hx] at d0 d1 d2 hem ht1 ht2 hw1' hw2'
      simp only at d0 d1 d2 ht1 ht2 hw1' hw2'
      obtain ⟨tn, rfl⟩ : ∃ tn : Nat, et = (tn : Int) := ⟨et.toNat, by omega⟩
      obtain ⟨wn, rfl⟩ : ∃ wn : Nat, ew = (wn : Int) := ⟨ew.toNat, by omega⟩
      simp only [Int.toNat_natCast] at ht2 hw2'
      have HAT := Lib.hid hat.out
      have HEM := Lib.hid hem
      have HT2 := Lib.hid ht2
      have HW2 := Lib.hid hw2'
      have HBW := Lib.hid hbw
      have hebl : eb < wr.heap.size := by have := HAT.out.rep.lim_le; omega
      have hTs : T.loc .srch = S.loc .srch := HAT.out.loop.le.loc .srch trivial
      have hTk : T.loc (.walk κ) = S.loc (.walk κ) := HAT.out.loop.le.loc (.walk κ) HK.out
      have hgx := grew_alloc wr (.cells #[.int .u8 ek, .int .i64 wn, .int .i64 tn] 87)
      have HAX := Lib.hid (HAT.out.grew hgx)
      have x0 := HAT.out.box.cell_at (i := 0) rfl
      have x1 := HAT.out.box.cell_at (i := 1) rfl
      have x2 := HAT.out.box.cell_at (i := 2) rfl
      have xl := HAT.out.box.lt
      have hsT : (s, i) ∈ T.seen κ := HAT.out.loop.le.seen _ _ HS.out
      have HLv := Lib.hid (HAT.out.loop.inv.sound _ _ hsT)
      have HLaid := Lib.hid ((HLW.out.keep hbw).keep (hgx.mono HAT.out.rep.lim_le))
      have HTS := Lib.hid hTs
      have HTK := Lib.hid hTk
      have HX := Lib.hid hx
      have HKT := Lib.hid (HAT.out.loop.le.has HK.out)
      unfold ptrV at x0
      clear hat hbw hem ht1 ht2 hw1' hw2' hgx hsT hTs hTk hx heb
      by_cases h2 : ek = 2
      · subst h2
        have hcal := pcall_ok E hN wa wc hU hwv T (wn, i) κ tn _ HAX.out.rep HAX.out.loop.inv HKT.out ⟨HW2.out rfl, HRG.out.2⟩ HT2.out (Lv.begin HLv.out HG.out HEM.out rfl) ⟨s, _, HLv.out, HG.out, HEM.out, rfl, rfl, rfl⟩ HLaid.out
        rw [HTS.out, HTK.out] at hcal
        unfold ptrV at hcal
        have HCal := Lib.hid hcal
        clear hcal
        go_wp2_with (refine HCal.out.mono ?_; rintro e w3 ⟨⟨_, rfl⟩, T', hR', hF', hC'⟩; have H1 := Lib.hid hR'; have H2 := Lib.hid hF'; have H3 := Lib.hid hC'; clear hR' hF' hC')
        exact ⟨⟨j + 1, T', by go_num, by omega, HAX.out.next (HAX.out.loop.more H3.out.inv H3.out.le H3.out.begun H3.out.opn (fun _ => by rw [HX.out]; exact ⟨fun _ => ⟨H3.out.there, H3.out.waits⟩, fun h => absurd rfl h, fun h => by cases h⟩)) H1.out H2.out⟩, by simp [intOf]; omega⟩
      · by_cases h1 : ek = 1
        · subst h1
          have ge : Grew wr (wr.alloc (.cells #[.int .u8 1, .int .i64 wn, .int .i64 tn] 87)) := grew_alloc _ _
          have oe := Owns.alloc wr [.int .u8 1, .int .i64 wn, .int .i64 tn] 87
          obtain ⟨ta, tc, ewv, htk⟩ := HLaid.out.toks
          have s5 : (wr.alloc (.cells #[.int .u8 1, .int .i64 wn, .int .i64 tn] 87)).cell? ⟨S.loc .srch, 5, none⟩ = some (.slice ta E.w.length tc) := by
            rw [← ewv, ← HTS.out]; exact HAX.out.rep.srch.cell_at (i := 5) rfl
          have sl : S.loc .srch < (wr.alloc (.cells #[.int .u8 1, .int .i64 wn, .int .i64 tn] 87)).heap.size := by rw [← HTS.out]; exact HAX.out.rep.lt (r := .srch) trivial
          have y0 := HAX.out.box.cell_at (i := 0) rfl
          have y2 := HAX.out.box.cell_at (i := 2) rfl
          have yl := HAX.out.box.lt
          have z0 := oe.cell_at (i := 0) rfl
          have z1 := oe.cell_at (i := 1) rfl
          have z2 := oe.cell_at (i := 2) rfl
          have zl := oe.lt
          have hlim : E.lim ≤ (wr.alloc (.cells #[.int .u8 1, .int .i64 wn, .int .i64 tn] 87)).heap.size := HAX.out.rep.lim_le
          have OE := Lib.hid oe
          have hiw : i ≤ 1000000 := by have := HRG.out.2; omega
          unfold ptrV at y0
          clear ge oe ewv
          generalize hw3 : wr.alloc (.cells #[.int .u8 1, .int .i64 wn, .int .i64 tn] 87) = w3 at *
          by_cases hi : i < E.w.length
          · obtain ⟨kb, ko, rfl, hkb, htok⟩ := htk i hi
            have hkl : kb < w3.heap.size := by omega
            clear htk
            by_cases hq : E.w[i] = (wn : Int)
            · rw [hq] at htok
              have HQ := Lib.hid hq
              clear hq
              go_wp2_with fail
              clear hw3
              refine wp_region_hav_lit follows (by kernel_rfl) ?_
              repeat (first
                | (refine HavG.skip (fun _ => rfl) ?_; simp only [Act.put, List.setIfInBounds_toArray, List.set_cons_zero, List.set_cons_succ])
                | (refine HavG.val (fun _ => rfl) ?_ (fun x w hw _ => ?_) ?_; rotate_left; (focus (have hc := hw.cells; clear hw; go_simp; first | done | rfl)); simp only [Act.put, List.setIfInBounds_toArray, List.set_cons_zero, List.set_cons_succ]))
              refine HavG.tail (by kernel_rfl) (by kernel_rfl) (fun x w4 hw _ => ?_)
              have HA4 := Lib.hid (HAX.out.grew hw)
              have O4 := OE.out.keep hw
              have z2 := O4.cell_at (i := 2) rfl
              have zl := O4.lt
              have y0 := HA4.out.box.cell_at (i := 0) rfl
              have y2 := HA4.out.box.cell_at (i := 2) rfl
              have yl := HA4.out.box.lt
              unfold ptrV at y0
              have hcal := reach_ok E hN wa wc hU hwv _ T κ (tn, i + 1) w4 rfl HA4.out.rep HA4.out.loop.inv HKT.out ⟨HT2.out, by simp only; omega⟩ (Lv.tok HLv.out HG.out HEM.out rfl (by rw [List.getElem?_eq_getElem hi, HQ.out]))
              rw [HTS.out, HTK.out] at hcal
              unfold ptrV at hcal
              simp only [plV] at hcal
              rw [show ((i + 1 : Nat) : Int) = (i : Int) + 1 by omega] at hcal
              have HCal := Lib.hid hcal
              clear hw O4 hcal s5 sl z0 z1 htok hkl d0 d1 d2 x0 x1 x2 xl hlim HAX OE
              go_wp2_with (refine HCal.out.mono ?_; rintro e w5 ⟨⟨_, rfl⟩, T', hR', hF', hC'⟩; have H1 := Lib.hid hR'; have H2 := Lib.hid hF'; have H3 := Lib.hid hC'; clear hR' hF' hC')
              exact ⟨⟨j + 1, T', by go_num, by omega, HA4.out.next (HA4.out.loop.reached H3.out (fun _ => by rw [HX.out]; exact ⟨fun h => absurd (show (1 : Int) = 2 from h) (by decide), fun _ h => absurd rfl h, fun _ _ => H3.out.got⟩)) H1.out H2.out⟩, by simp [intOf]; omega⟩
            · have hqq : (E.w[i] == (wn : Int)) = false := beq_eq_false_iff_ne.2 hq
              have HNO : Hid (¬E.w[i]? = some (wn : Int)) := by unfold Hid; rw [List.getElem?_eq_getElem hi]; intro h; exact hq (Option.some.inj h)
              go_wp2_with fail
              clear hw3
              refine wp_region_hav_lit follows (by kernel_rfl) ?_
              repeat (first
                | (refine HavG.skip (fun _ => rfl) ?_; simp only [Act.put, List.setIfInBounds_toArray, List.set_cons_zero, List.set_cons_succ])
                | (refine HavG.val (fun _ => rfl) ?_ (fun x w hw _ => ?_) ?_; rotate_left; (focus (have hc := hw.cells; clear hw; go_simp; first | done | rfl)); simp only [Act.put, List.setIfInBounds_toArray, List.set_cons_zero, List.set_cons_succ]))
              refine HavG.tail (by kernel_rfl) (by kernel_rfl) (fun x w4 hw _ => ?_)
              have HA4 := Lib.hid (HAX.out.grew hw)
              clear hw
              go_wp2_with fail
              exact ⟨⟨j + 1, T, by go_num, by omega, HA4.out.same (fun _ => by rw [HX.out]; exact ⟨fun h => absurd (show (1 : Int) = 2 from h) (by decide), fun _ h => absurd rfl h, fun _ hw => absurd hw HNO.out⟩)⟩, by simp [intOf]; omega⟩
          · have HNO : Hid (¬E.w[i]? = some (wn : Int)) := by unfold Hid; rw [List.getElem?_eq_none (by omega)]; intro h; cases h
            go_wp2_with fail
            clear hw3
            refine wp_region_hav_lit follows (by kernel_rfl) ?_
            repeat (first
              | (refine HavG.skip (fun _ => rfl) ?_; simp only [Act.put, List.setIfInBounds_toArray, List.set_cons_zero, List.set_cons_succ])
              | (refine HavG.val (fun _ => rfl) ?_ (fun x w hw _ => ?_) ?_; rotate_left; (focus (have hc := hw.cells; clear hw; go_simp; first | done | rfl)); simp only [Act.put, List.setIfInBounds_toArray, List.set_cons_zero, List.set_cons_succ]))
            refine HavG.tail (by kernel_rfl) (by kernel_rfl) (fun x w4 hw _ => ?_)
            have HA4 := Lib.hid (HAX.out.grew hw)
            clear hw
            go_wp2_with fail
            exact ⟨⟨j + 1, T, by go_num, by omega, HA4.out.same (fun _ => by rw [HX.out]; exact ⟨fun h => absurd (show (1 : Int) = 2 from h) (by decide), fun _ h => absurd rfl h, fun _ hw => absurd hw HNO.out⟩)⟩, by simp [intOf]; omega⟩
        · have hcal := reach_ok E hN wa wc hU hwv _ T κ (tn, i) _ rfl HAX.out.rep HAX.out.loop.inv HKT.out ⟨HT2.out, HRG.out.2⟩ (Lv.eps HLv.out HG.out HEM.out h2 h1)
          rw [HTS.out, HTK.out] at hcal
          unfold ptrV at hcal
          simp only [plV] at hcal
          have HCal := Lib.hid hcal
          have hb2 : (ek == 2) = false := beq_eq_false_iff_ne.2 h2
          have hb1 : (ek == 1) = false := beq_eq_false_iff_ne.2 h1
          have H12 := Lib.hid (And.intro h1 h2)
          clear hcal
          go_wp2_with (refine HCal.out.mono ?_; rintro e w3 ⟨⟨_, rfl⟩, T', hR', hF', hC'⟩; have H1 := Lib.hid hR'; have H2 := Lib.hid hF'; have H3 := Lib.hid hC'; clear hR' hF' hC')
          exact ⟨⟨j + 1, T', by go_num, by omega, HAX.out.next (HAX.out.loop.reached H3.out (fun _ => by rw [HX.out]; exact ⟨fun h => absurd h H12.out.2, fun _ _ => H3.out.got, fun h => absurd h H12.out.1⟩)) H1.out H2.out⟩, by simp [intOf]; omega⟩
    · have HAT := Lib.hid hat.out
      go_wp2_with fail
      go_end0
      exact ⟨⟨_, rfl⟩, T, HAT.out.rep, HAT.out.frm, HAT.out.loop.gone (by omega)⟩
end Go.Proofs.Ytgdcnndmdgcjlaa

/- paths.from: what holds between two places that are gone on from; the last place is taken off the list. -/
namespace Go.Proofs.Ytgdcnndmdgcjlaa
open Go.RowKit
structure FLoop (E : Env) (S : St) : Prop where
  inv : Inv E S
  opn : ∀ d k y, ¬Opn S d k y
  begun : Begun E S
  first : E.p0 ∈ S.seen none
  done : ∀ κ p, p ∈ S.seen κ → (κ, p) ∈ S.todo ∨ Clos E S κ p.1 p.2 ∨ (κ = none ∧ (p.1 : Int) = E.over)
def St.pop (S : St) (l : List (Key × Pl)) (v : Value) : St := { S with todo := l, tv := v }
section
variable {E : Env} {S S' T T' : St} {w w' : World} {l : List (Key × Pl)} {x : Key × Pl} {v : Value}
theorem FLoop.ends (h : FLoop E S) (ht : S.todo = []) {κ : Key} {p : Pl} : p ∈ S.seen κ ↔ Lv E.N E.w E.p0 E.over κ p :=
  ⟨h.inv.sound κ p, whole h.inv h.opn h.begun h.first fun κ p hp => (h.done κ p hp).resolve_left (by rw [ht]; simp)⟩
theorem Inv.pop (h : Inv E S) (ht : S.todo = l ++ [x]) : Inv E (S.pop l v) :=
  ⟨h.callsN, h.seenN, h.endsN, h.waitsN, (by have := h.todoN; rw [ht, List.nodup_append] at this; exact this.1), h.callR, h.seenR, h.endsIff, fun c y hy => ⟨(has_same rfl _).2 (h.waitsR c y hy).1, (h.waitsR c y hy).2⟩, fun κ p hp => (has_same rfl _).2 (h.seenH κ p hp), h.waitsH, h.all, h.sound, h.waitS,
    fun y hy => h.todoS y (by rw [ht]; exact List.mem_append_left _ hy)⟩
theorem FLoop.over (h : FLoop E S) (ht : S.todo = l ++ [x]) (ho : x.1 = none ∧ (x.2.1 : Int) = E.over) : FLoop E (S.pop l v) := by
  refine ⟨h.inv.pop ht, h.opn, h.begun, h.first, fun κ p hp => ?_⟩
  rcases h.done κ p hp with h1 | h1
  · rw [ht] at h1
    rcases List.mem_append.1 h1 with h2 | h2
    · exact .inl h2
    · simp at h2
      subst h2
      exact .inr (.inr ho)
  · exact .inr h1
theorem FLoop.gone (h : FLoop E S) (ht : S.todo = l ++ [x]) (hg : Gone E (S.pop l v) T x.1 x.2.1 x.2.2) : FLoop E T := by
  refine ⟨hg.inv, fun d k y ho => h.opn d k y (hg.opn d k y ho), hg.begun h.begun, hg.le.seen _ _ h.first, fun κ p hp => ?_⟩
  rcases hg.le.fresh κ p hp with h1 | h1
  · rcases h.done κ p h1 with h2 | h2 | h2
    · rw [ht] at h2
      rcases List.mem_append.1 h2 with h3 | h3
      · exact .inl (hg.le.mem_todo h3)
      · simp at h3
        subst h3
        exact .inr (.inl hg.clos)
    · exact .inr (.inl (Clos.mono (S := S.pop l v) hg.le h2))
    · exact .inr (.inr h2)
  · exact .inl h1
theorem left_lt (h : FLoop E S) (ht : S.todo = l ++ [x]) (hT : Le (S.pop l v) T) : left E T < left E S := by
  have hx : x ∈ S.todo := by rw [ht]; simp
  have hxs := h.inv.todoS x hx
  have hu : x ∈ E.univ := h.inv.univ (h.inv.seenH _ _ hxs) (h.inv.seenR _ _ hxs)
  have hnl : x ∉ l := by
    have := h.inv.todoN
    rw [ht, List.nodup_append] at this
    exact fun hm => this.2.2 x hm x (by simp) rfl
  obtain ⟨m, hm1, hm2⟩ := hT.todo
  refine filter_lt (y := x) (fun y _ hy => ?_) hu (by simp [hx]) ?_
  · simp only [decide_eq_true_eq] at hy ⊢
    rcases hy with h1 | h1
    · exact .inl fun hs => h1 (hT.seen _ _ hs)
    · rw [hm1] at h1
      rcases List.mem_append.1 h1 with h2 | h2
      · exact .inr (by rw [ht]; exact List.mem_append_left _ h2)
      · exact .inl (hm2 y h2)
  · simp only [decide_eq_false_iff_not, not_or]
    refine ⟨fun hn => hn (hT.seen _ _ hxs), fun hm => ?_⟩
    rw [hm1] at hm
    rcases List.mem_append.1 hm with h2 | h2
    · exact hnl h2
    · exact hm2 x h2 hxs
theorem todoCells_len (S : St) : S.todoCells.length = S.todo.length * 3 := by
  unfold St.todoCells
  generalize S.todo = t
  induction t with
  | nil => rfl
  | cons a r ih => rw [List.flatMap_cons, List.length_append, ih]; simp; omega
theorem todoCells_snoc (h : S.todo = l ++ [x]) : S.todoCells = (S.pop l v).todoCells ++ [ptrV (S.loc (.walk x.1)), .int .i64 x.2.1, .int .i64 x.2.2] := by
  unfold St.todoCells St.pop
  rw [h]
  simp [List.flatMap_append]
theorem Rep.last (h : Rep E S w) (ht : S.todo = l ++ [x]) : ∃ g cap, S.tv = .slice (some ⟨g, 0, none⟩) (l.length + 1) cap ∧ l.length + 1 ≤ cap ∧ cap ≤ maxLen ∧ g < w.heap.size ∧
    w.cell? ⟨g, l.length * 3, none⟩ = some (ptrV (S.loc (.walk x.1))) ∧ w.cell? ⟨g, l.length * 3 + 1, none⟩ = some (.int .i64 x.2.1) ∧ w.cell? ⟨g, l.length * 3 + 2, none⟩ = some (.int .i64 x.2.2) ∧
    ∀ w1, w.setCell ⟨S.loc .srch, 7, none⟩ (.slice (some ⟨g, 0, none⟩) l.length l.length) = w1 → Rep E (S.pop l (.slice (some ⟨g, 0, none⟩) l.length l.length)) w1 ∧ Frm S (S.pop l (.slice (some ⟨g, 0, none⟩) l.length l.length)) w w1 := by
  have hrow := h.row
  have hn : S.todo.length = l.length + 1 := by rw [ht]; simp
  have hc := todoCells_snoc (v := .slice none 0 0) ht
  have hlen := todoCells_len (S.pop l (.slice none 0 0))
  rcases hrow.2 with ⟨_, h0⟩ | ⟨g, cap, cur, hv, hb, hg, hnc, hcm, hcs, htake⟩
  · omega
  have hcell : ∀ k, k < 3 → w.cell? ⟨g, l.length * 3 + k, none⟩ = [ptrV (S.loc (.walk x.1)), .int .i64 x.2.1, .int .i64 x.2.2][k]? := by
    intro k hk
    have h1 : S.todoCells[l.length * 3 + k]? = [ptrV (S.loc (.walk x.1)), .int .i64 x.2.1, .int .i64 x.2.2][k]? := by
      rw [hc, List.getElem?_append_right (by rw [hlen]; show l.length * 3 ≤ _; omega), hlen]
      congr 1
      show l.length * 3 + k - l.length * 3 = k
      omega
    rw [← h1]
    obtain ⟨u, hu⟩ : ∃ u, S.todoCells[l.length * 3 + k]? = some u := by
      rw [h1]
      exact ⟨[ptrV (S.loc (.walk x.1)), .int .i64 x.2.1, .int .i64 x.2.2][k]'(by simpa using hk), List.getElem?_eq_getElem (by simpa using hk)⟩
    rw [hu]
    exact looseRow_cells hrow (g := g) (by rw [hv]; rfl) _ _ hu
  refine ⟨g, cap, by rw [hv, hn], by omega, hcm, (Array.getElem?_eq_some_iff.1 hg).1, hcell 0 (by omega), hcell 1 (by omega), hcell 2 (by omega), fun w1 hw1 => ?_⟩
  have hgne : ∀ r, S.ex r → S.loc r ≠ g := fun r hr e => h.far hr (by rw [hv, e]; rfl)
  rw [setCell_put h.srch] at hw1
  subst hw1
  have hsz := h.lt (r := .srch) trivial
  refine ⟨⟨fun r hr => ?_, h.lo, h.inj, ?_⟩, But.put (.inl ⟨.srch, trivial, rfl⟩), fun b hb' => ?_⟩
  · have hr' : S.ex r := (ex_same (S := S) (S' := S.pop l (.slice (some ⟨g, 0, none⟩) l.length l.length)) rfl r).1 hr
    by_cases e : r = .srch
    · subst e
      exact putObj_same hsz _
    · show (putObj w _ _).heap[S.loc r]? = _
      rw [putObj_other (fun e2 => e (h.inj _ _ hr' trivial e2)), h.obj r hr']
      cases r with
      | srch => exact absurd rfl e
      | walk κ => rfl
      | _ => rfl
  · have e1 : (S.pop l (.slice (some ⟨g, 0, none⟩) l.length l.length)).todoCells = (S.pop l (.slice none 0 0)).todoCells := rfl
    refine ⟨by rw [todoCells_len], .inr ⟨g, l.length, cur, rfl, hb, ?_, Nat.le_refl _, by omega, by omega, ?_⟩⟩
    · rw [putObj_other (hgne .srch trivial).symm]; exact hg
    · rw [e1]
      have h2 : (cur.toList.take (S.todo.length * 3)).take (l.length * 3) = S.todoCells.take (l.length * 3) := by rw [htake]
      rw [List.take_take, hn, Nat.min_eq_left (by omega), hc] at h2
      show cur.toList.take (l.length * 3) = _
      rw [h2]
      have h3 : (S.pop l (.slice none 0 0)).todoCells.length = l.length * 3 := hlen
      rw [← h3]
      exact List.take_left
  · rcases hb' with ⟨r, hr, rfl⟩ | hb'
    · exact .inl (.inl ⟨r, (ex_same (S := S) (S' := S.pop l (.slice (some ⟨g, 0, none⟩) l.length l.length)) rfl r).1 hr, rfl⟩)
    · exact .inl (.inr (by rw [hv]; exact hb'))
end
theorem ptr_neq (x y T T' : Nat) (w : World) {cx cy : List Value} (hx : Owns w x cx T) (hy : Owns w y cy T') : (binOp .neq 65 (.pointer (some ⟨x, 0, none⟩)) (.pointer (some ⟨y, 0, none⟩))).run Try.prog w = .ok (.bool (!(x == y))) w := by
  have h : (Op.equal 65 (.pointer (some ⟨x, 0, none⟩)) (.pointer (some ⟨y, 0, none⟩))).run Try.prog w = .ok (x == y) w := ptr_eqIn 9999 x y T T' w hx hy
  simp only [binOp]
  simp [h]
def NewStep (lo : Nat) (v : Value) (w : World) : Prop := ∃ b, v = .pointer (some ⟨b, 0, none⟩) ∧ lo ≤ b ∧ Owns w b [.pointer none, .int .i64 0, .int .i64 0] 120
theorem NewStep.keep {lo : Nat} {v : Value} {w w' : World} (hg : Grew w w') (h : NewStep lo v w) : NewStep lo v w' := by
  obtain ⟨b, h1, h2, h3⟩ := h
  exact ⟨b, h1, h2, h3.keep hg⟩
theorem NewStep.made {lo : Nat} {w : World} (h : lo ≤ w.heap.size) : NewStep lo (.pointer (some ⟨w.heap.size, 0, none⟩)) (w.alloc (.cells #[.pointer none, .int .i64 0, .int .i64 0] 120)) := ⟨_, rfl, h, Owns.alloc _ _ _⟩
theorem set3 {w : World} {b T : Nat} {c0 c1 c2 : Value} (h : Owns w b [c0, c1, c2] T) (a0 a1 a2 : Value) :
    But (fun k => k = b) w (((w.setCell ⟨b, 0, none⟩ a0).setCell ⟨b, 1, none⟩ a1).setCell ⟨b, 2, none⟩ a2) ∧ Owns (((w.setCell ⟨b, 0, none⟩ a0).setCell ⟨b, 1, none⟩ a1).setCell ⟨b, 2, none⟩ a2) b [a0, a1, a2] T := by
  have o1 := h.set 0 a0
  have o2 := o1.set 1 a1
  have o3 := o2.set 2 a2
  refine ⟨?_, by simpa using o3⟩
  rw [setCell_put o2, setCell_put o1, setCell_put h]
  exact ((But.put (F := fun k => k = b) rfl).trans (But.put (F := fun k => k = b) rfl) fun _ _ h => h).trans (But.put (F := fun k => k = b) rfl) fun _ _ h => h
structure Began (E : Env) (W : World) (sb cm : Nat) : Prop where
  srch : Owns W sb [E.n0, E.n1, E.n2, E.n3, E.n4, E.wv, .map (some cm), .slice none 0 0, .bool false] 93
  cmap : W.heap[cm]? = some (mapObj [])
  lo : E.lim ≤ sb ∧ E.lim ≤ cm
theorem Began.keep {E : Env} {W W' : World} {sb cm : Nat} (h : Began E W sb cm) (hg : Grew W W') : Began E W' sb cm :=
  ⟨h.srch.keep hg, by rw [hg.block _ (Array.getElem?_eq_some_iff.1 h.cmap).1]; exact h.cmap, h.lo⟩
def startLoc (sb cm kb mb : Nat) : Role → Nat
  | .srch => sb
  | .cmap => cm
  | .walk _ => kb
  | .seen _ => mb
  | _ => 0
def startSt (sb cm kb mb : Nat) : St := { loc := startLoc sb cm kb mb, calls := [], seen := fun _ => [], ends := fun _ => [], waits := fun _ => [], todo := [], tv := .slice none 0 0, all := false }
theorem start_inv (E : Env) (sb cm kb mb : Nat) : Inv E (startSt sb cm kb mb) :=
  ⟨List.nodup_nil, fun _ => List.nodup_nil, fun _ => List.nodup_nil, fun _ => List.nodup_nil, List.nodup_nil, fun _ h => absurd h (by simp [startSt]), fun _ _ h => absurd h (by simp [startSt]), fun _ _ => by simp [startSt], fun _ _ h => absurd h (by simp [startSt]),
    fun _ _ h => absurd h (by simp [startSt]), fun _ _ h => absurd h (by simp [startSt]), by simp [startSt], fun _ _ h => absurd h (by simp [startSt]), fun _ _ h => absurd h (by simp [startSt]), fun _ h => absurd h (by simp [startSt])⟩
theorem start_rep {E : Env} {W w : World} {sb cm kb mb : Nat} (h : Began E W sb cm) (hg : Grew W w) (hm : w.heap[mb]? = some (mapObj [])) (hk : Owns w kb [.map (some mb), .pointer none, .int .i64 0] 75) (hn : W.heap.size ≤ kb ∧ W.heap.size ≤ mb) : Rep E (startSt sb cm kb mb) w := by
  have hb := h.keep hg
  have hs1 := h.srch.lt
  have hc1 := (Array.getElem?_eq_some_iff.1 h.cmap).1
  have hne : sb ≠ cm := by
    intro e
    have h1 := h.srch
    unfold Owns at h1
    rw [e, h.cmap] at h1
    cases h1
  have hne2 : kb ≠ mb := by
    intro e
    unfold Owns at hk
    rw [e, hm] at hk
    cases hk
  have hlo := h.lo
  have cases_ : ∀ r, (startSt sb cm kb mb).ex r → r = .srch ∨ r = .cmap ∨ r = .walk none ∨ r = .seen none := by
    intro r hr
    cases r with
    | srch => exact .inl rfl
    | cmap => exact .inr (.inl rfl)
    | walk κ =>
      cases κ with
      | none => exact .inr (.inr (.inl rfl))
      | some c => exact absurd hr (by simp [St.ex, St.has, startSt])
    | seen κ =>
      cases κ with
      | none => exact .inr (.inr (.inr rfl))
      | some c => exact absurd hr (by simp [St.ex, St.has, startSt])
    | call c => exact absurd hr (by simp [St.ex, startSt])
    | ends c => exact absurd hr (by simp [St.ex, startSt])
    | waits c => exact absurd hr (by simp [St.ex, startSt])
  refine ⟨fun r hr => ?_, fun r hr => ?_, fun a b ha hb' e => ?_, ⟨rfl, .inl ⟨rfl, rfl⟩⟩⟩
  · rcases cases_ r hr with rfl | rfl | rfl | rfl
    · exact hb.srch
    · exact hb.cmap
    · exact hk
    · exact hm
  · rcases cases_ r hr with rfl | rfl | rfl | rfl
    · exact hlo.1
    · exact hlo.2
    · show E.lim ≤ kb; omega
    · show E.lim ≤ mb; omega
  · rcases cases_ a ha with rfl | rfl | rfl | rfl <;> rcases cases_ b hb' with rfl | rfl | rfl | rfl <;> first
      | rfl
      | (exfalso; simp only [startSt, startLoc] at e; omega)
end Go.Proofs.Ytgdcnndmdgcjlaa

/- paths.began, paths.from: all that is reached from a state on. -/
namespace Go.Proofs.Ytgdcnndmdgcjlaa
open Go.RowKit
set_option maxRecDepth 20000 in
theorem began_ok (E : Env) (W : World) (hl : E.lim ≤ W.heap.size) (hB : Laid E W) : Calls Try.prog 24 #[.agg #[E.n0, E.n1, E.n2, E.n3, E.n4], E.wv] W fun e W' => ∃ sb cm, e = .returned (ptrV sb) ∧ Began E W' sb cm ∧ Grew W W' ∧ W.heap.size ≤ sb := by
  have hmk : ∀ (t : TypeId) (w : World), (Instr.makeMap t none).run Try.prog w = .ok (.map (some w.heap.size)) (w.alloc (.map #[] 0)) := fun _ _ => rfl
  obtain ⟨a0, k0, e0, _⟩ := hB.net.states
  obtain ⟨a1, k1, e1, _⟩ := hB.net.starts
  obtain ⟨a2, k2, e2, _⟩ := hB.net.stops
  obtain ⟨a3, k3, e3, _⟩ := hB.net.preds
  obtain ⟨a4, k4, e4, _⟩ := hB.net.decisions
  obtain ⟨a5, k5, e5, _⟩ := hB.toks
  have hfin : ∀ w, w = W → ∀ sb cm, Began E w sb cm → Began E w sb cm := fun _ _ _ _ h => h
  clear hfin
  rw [e0, e1, e2, e3, e4, e5]
  go_enter Try.func24, Try.ntmps24
  go_wp2_with fail
  go_ret
  simp only [← e0, ← e1, ← e2, ← e3, ← e4, ← e5]
  have g1 := grew_alloc W (.cells #[E.n0, E.n1, E.n2, E.n3, E.n4] 25)
  have g2 := grew_alloc (W.alloc (.cells #[E.n0, E.n1, E.n2, E.n3, E.n4] 25)) (.map #[] 0)
  have a2 := alloc_at (W.alloc (.cells #[E.n0, E.n1, E.n2, E.n3, E.n4] 25)) (.map #[] 0)
  rw [alloc_size] at a2
  have g3 := grew_alloc ((W.alloc (.cells #[E.n0, E.n1, E.n2, E.n3, E.n4] 25)).alloc (.map #[] 0)) (.cells #[E.n0, E.n1, E.n2, E.n3, E.n4, E.wv, .map (some (W.heap.size + 1)), .slice none 0 0, .bool false] 93)
  have o3 := Owns.alloc ((W.alloc (.cells #[E.n0, E.n1, E.n2, E.n3, E.n4] 25)).alloc (.map #[] 0)) [E.n0, E.n1, E.n2, E.n3, E.n4, E.wv, .map (some (W.heap.size + 1)), .slice none 0 0, .bool false] 93
  rw [alloc_size, alloc_size] at o3
  exact ⟨W.heap.size + 2, W.heap.size + 1, rfl, ⟨o3, by rw [g3.block _ (by rw [alloc_size, alloc_size]; omega)]; exact a2, by omega, by omega⟩, (g1.trans g2).trans g3, by omega⟩
set_option maxHeartbeats 2000000 in
set_option maxRecDepth 20000 in
theorem from_ok (E : Env) (hN : E.N.Ok) (wa : Option Addr) (wc : Nat) (hU : E.univ.length ≤ 1000000000000) (hW : E.w.length ≤ 1000000) (hE : ∀ s, (E.N.edges s).length ≤ 1000000) (hwv : E.wv = .slice wa E.w.length wc) (f : Nat) (hp0 : E.p0 = (f, 0)) (hf : f < E.N.states.length) (W : World) (sb cm : Nat) (hBe : Began E W sb cm) (hB : Laid E W) :
    Calls Try.prog 25 #[ptrV sb, .int .i64 f, .int .i64 E.over] W fun e W' => ∃ S', e = .returned (ptrV (S'.loc (.walk none))) ∧ Rep E S' W' ∧ FLoop E S' ∧ S'.todo = [] ∧ S'.loc .srch = sb ∧ Below E.lim W W' := by
  have hmk : ∀ (t : TypeId) (w : World), (Instr.makeMap t none).run Try.prog w = .ok (.map (some w.heap.size)) (w.alloc (.map #[] 0)) := fun _ _ => rfl
  have g1 := grew_alloc W (.map #[] 0)
  have a1 := alloc_at W (.map #[] 0)
  have g2 := grew_alloc (W.alloc (.map #[] 0)) (.cells #[.map (some W.heap.size), .pointer none, .int .i64 0] 75)
  have o2 := Owns.alloc (W.alloc (.map #[] 0)) [.map (some W.heap.size), .pointer none, .int .i64 0] 75
  rw [alloc_size] at o2
  have hR0 := start_rep (mb := W.heap.size) (kb := W.heap.size + 1) hBe (g1.trans g2) (by rw [g2.block _ (by rw [alloc_size]; omega)]; exact a1) o2 ⟨by omega, by omega⟩
  have hlim : E.lim ≤ W.heap.size := by have := hBe.lo.1; have := hBe.srch.lt; omega
  have hcal := reach_ok E hN wa wc hU hwv _ (startSt sb cm (W.heap.size + 1) W.heap.size) none (f, 0) _ rfl hR0 (start_inv E sb cm _ _) trivial ⟨hf, by simp⟩ (by rw [← hp0]; exact .root)
  have hbl : Below E.lim W ((W.alloc (.map #[] 0)).alloc (.cells #[.map (some W.heap.size), .pointer none, .int .i64 0] 75)) := (g1.trans g2).mono hlim
  rw [show (startSt sb cm (W.heap.size + 1) W.heap.size).loc .srch = sb from rfl, show (startSt sb cm (W.heap.size + 1) W.heap.size).loc (.walk none) = W.heap.size + 1 from rfl] at hcal
  unfold ptrV at hcal
  simp only [plV] at hcal
  have HCal := Lib.hid hcal
  have HR0 := Lib.hid hR0
  have HBL := Lib.hid hbl
  have HB := Lib.hid hB
  have HP := Lib.hid hp0
  clear g1 a1 g2 o2 hR0 hcal hbl hB hp0 hBe
  unfold ptrV
  go_enter Try.func25, Try.ntmps25
  go_wp2_with (refine HCal.out.mono ?_; rintro e w2 ⟨⟨_, rfl⟩, S1, hR1, hF1, hC1⟩; have HR1 := Lib.hid hR1; have HF1 := Lib.hid hF1; have HC1 := Lib.hid hC1; clear hR1 hF1 hC1)
  clear hmk
  have hfl : FLoop E S1 := by
    refine ⟨HC1.out.inv, fun d k y ho => ?_, fun c hc => ?_, by rw [HP.out]; exact HC1.out.got, fun κ p hp => ?_⟩
    · have := (HC1.out.opn d k y ho).1
      simp [startSt] at this
    · rw [HC1.out.calls] at hc
      simp [startSt] at hc
    · rcases HC1.out.le.fresh κ p hp with h | h
      · simp [startSt] at h
      · exact .inl h
  have HFL := Lib.hid hfl
  have HL1 := Lib.hid (HC1.out.le.loc .srch trivial)
  have HL2 := Lib.hid (HC1.out.le.loc (.walk none) trivial)
  have HB2 := Lib.hid (HBL.out.trans (HF1.out.below HR0.out))
  clear hfl
  go_loopg [22] (left E S1) (fun k _ wr => ∃ T, Hid (FLoop E T) ∧ Hid (Rep E T wr) ∧ Hid (Below E.lim W wr) ∧ Hid (T.loc .srch = sb) ∧ Hid (T.loc (.walk none) = W.heap.size + 1) ∧ Hid (left E T = k))
  case atStart =>
    exact ⟨S1, HFL.out, HR1.out, HB2.out, HL1.out, HL2.out, rfl⟩
  case round =>
    obtain ⟨T, hT, hRT, hBT, hls, hlk, hlf⟩ := hrel
    have s7 := hRT.out.srch.cell_at (i := 7) rfl
    have f7 := hRT.out.srch.free 7
    have sl := hRT.out.lt (r := .srch) trivial
    rw [hls.out] at s7 f7 sl
    rcases List.eq_nil_or_concat T.todo with ht | ⟨l, x, ht⟩
    · obtain ⟨a, c, htv⟩ : ∃ a c, T.tv = .slice a 0 c := by
        have hrow := hRT.out.row
        rw [ht] at hrow
        rcases hrow.2 with ⟨h1, _⟩ | ⟨g, cap, cur, h1, _⟩
        · exact ⟨_, _, h1⟩
        · exact ⟨_, _, h1⟩
      rw [htv] at s7
      have HTD := Lib.hid ht
      clear ht htv f7 sl
      go_wp2_with fail
      go_ret
      exact ⟨T, by rw [hlk.out]; rfl, hRT.out, hT.out, HTD.out, hls.out, hBT.out⟩
    · obtain ⟨g, cap, htv, hcap, hmax, hgl, x0, x1, x2, hpop⟩ := hRT.out.last (l := l) (x := x) (by rw [ht, List.concat_eq_append])
      rw [htv] at s7
      have HTD : Hid (T.todo = l ++ [x]) := by rw [Hid, ht, List.concat_eq_append]
      have hpos : (0 : Int) < ((l.length + 1 : Nat) : Int) := by omega
      have hll : l.length ≤ 1000000000000 := by
        have h1 := hT.out.inv.todo_le
        rw [HTD.out] at h1
        simp at h1
        omega
      have hbnd : (l.length : Int) < (l.length : Int) + 1 := by omega
      have hwl : IntKind.i64.wrap (l.length : Int) = (l.length : Int) := by rw [IntKind.wrap_i64]; omega
      have hsub : IntKind.i64.wrap (((l.length + 1 : Nat) : Int) - 1) = (l.length : Int) := by rw [IntKind.wrap_i64]; omega
      have HPOP := Lib.hid hpop
      have HTV := Lib.hid htv
      unfold ptrV at x0
      clear ht hpop htv
      go_wp2_with fail
      refine wp_region_hav_lit follows (by kernel_rfl) ?_
      repeat (first
        | (refine HavG.skip (fun _ => rfl) ?_; simp only [Act.put, List.setIfInBounds_toArray, List.set_cons_zero, List.set_cons_succ])
        | (refine HavG.val (fun _ => rfl) ?_ (fun x w hw _ => ?_) ?_; rotate_left; (focus (have hc := hw.cells; clear hw; go_simp; first | done | rfl)); simp only [Act.put, List.setIfInBounds_toArray, List.set_cons_zero, List.set_cons_succ]))
      refine HavG.any (fun _ => rfl) (NewStep wr.heap.size) (fun _ _ _ hg h => NewStep.keep hg h) (fun y w hw _ => ?_) ?_
      · have HW := Lib.hid hw
        clear hw
        go_simp
        exact ⟨grew_alloc _ _, NewStep.made HW.out.size⟩
      simp only [Act.put, List.setIfInBounds_toArray, List.set_cons_zero, List.set_cons_succ]
      refine HavG.tail (by kernel_rfl) (by kernel_rfl) (fun y w3 hw hx => ?_)
      have hx8 := hx _ (List.mem_append_right _ (List.mem_singleton.2 rfl))
      clear hx
      dsimp only at hx8
      generalize y (0 + 1 + 1 + 1 + 1 + 1 + 1 + 1 + 1 + 1 + 1 + 1 + 1) = y8 at *
      obtain ⟨xb, rfl, hxb, hox⟩ := hx8
      have v0 := hox.cell_at (i := 0) rfl
      have v1 := hox.cell_at (i := 1) rfl
      have v2 := hox.cell_at (i := 2) rfl
      have g0 := hox.free 0
      have g1 := hox.free 1
      have g2 := hox.free 2
      obtain ⟨hb4, ho4⟩ := set3 hox (.pointer (some ⟨T.loc (.walk x.1), 0, none⟩)) (.int .i64 x.2.1) (.int .i64 x.2.2)
      have hnm : ¬T.mine xb := hRT.out.notmine hxb
      have hR3 := (hRT.out.grew hw).but hb4 fun b hm e => hnm (e ▸ hm)
      have hF3 : Below E.lim W (((w3.setCell ⟨xb, 0, none⟩ (.pointer (some ⟨T.loc (.walk x.1), 0, none⟩))).setCell ⟨xb, 1, none⟩ (.int .i64 x.2.1)).setCell ⟨xb, 2, none⟩ (.int .i64 x.2.2)) :=
        hBT.out.trans (((But.of_grew (F := fun k => k = xb) hw).trans hb4 fun _ _ h => h).below hRT.out.lim_le fun k hk => by have := hRT.out.lim_le; omega)
      generalize hw4 : ((w3.setCell ⟨xb, 0, none⟩ (.pointer (some ⟨T.loc (.walk x.1), 0, none⟩))).setCell ⟨xb, 1, none⟩ (.int .i64 x.2.1)).setCell ⟨xb, 2, none⟩ (.int .i64 x.2.2) = w4 at *
      have HR4 := Lib.hid hR3
      have HB4 := Lib.hid hF3
      have OB4 := Lib.hid ho4
      have HBM := Lib.hid hnm
      clear hw hR3 hF3 hb4 ho4 hnm hox hxb s7 f7 sl x0 x1 x2 hgl
      go_wp2_with fail
      clear hw4 v0 v1 v2 g0 g1 g2
      have s7 := HR4.out.srch.cell_at (i := 7) rfl
      have f7 := HR4.out.srch.free 7
      have sl := HR4.out.lt (r := .srch) trivial
      rw [hls.out] at s7 f7 sl
      have hc1 : (l.length : Int) ≤ (cap : Int) := by omega
      have hc2 : l.length ≤ cap := by omega
      have hc3 : (0 : Int) ≤ (l.length : Int) := by omega
      rw [HTV.out] at s7
      refine wp_region_hav_lit follows (by kernel_rfl) ?_
      repeat (first
        | (refine HavG.skip (fun _ => rfl) ?_; simp only [Act.put, List.setIfInBounds_toArray, List.set_cons_zero, List.set_cons_succ])
        | (refine HavG.val (fun _ => rfl) ?_ (fun x w hw _ => ?_) ?_; rotate_left; (focus (have hc := hw.cells; clear hw; go_simp; first | done | rfl)); simp only [Act.put, List.setIfInBounds_toArray, List.set_cons_zero, List.set_cons_succ]))
      refine HavG.tail (by kernel_rfl) (by kernel_rfl) (fun y w5 hw _ => ?_)
      have hR5 := HR4.out.grew hw
      have c7 := hR5.srch.cell_at (i := 7) rfl
      have e7 := hR5.srch.free 7
      rw [hls.out] at c7 e7
      obtain ⟨g', cap', htv', _, _, _, _, _, _, hpop⟩ := hR5.last HTD.out
      have hgg : g' = g := by
        have h1 := HTV.out
        rw [htv'] at h1
        simp at h1
        exact h1.1
      subst hgg
      rw [hls.out] at hpop
      obtain ⟨w6, hw6⟩ : ∃ w6, w5.setCell ⟨sb, 7, none⟩ (.slice (some ⟨g', 0, none⟩) l.length l.length) = w6 := ⟨_, rfl⟩
      obtain ⟨hR6, hF6⟩ := hpop w6 hw6
      have hbw5 := HB4.out.trans (hw.mono HR4.out.lim_le)
      have HBW := Lib.hid (hbw5.trans (hF6.below hR5))
      have ho6 := hF6.owns (OB4.out.keep hw) HBM.out
      have HO6 := Lib.hid ho6
      have x0 := ho6.1.cell_at (i := 0) rfl
      have x1 := ho6.1.cell_at (i := 1) rfl
      have x2 := ho6.1.cell_at (i := 2) rfl
      have xl := ho6.1.lt
      have HR6 := Lib.hid hR6
      have hxt : x ∈ T.todo := by rw [HTD.out]; simp
      have hxh := hT.out.inv.seenH _ _ (hT.out.inv.todoS x hxt)
      have hk2 := hR6.walk (κ := none) trivial
      rw [show (T.pop l (.slice (some ⟨g', 0, none⟩) l.length l.length)).loc (.walk none) = W.heap.size + 1 from hlk.out] at hk2
      have hne := ptr_neq _ _ _ _ w6 (hR6.walk (κ := x.1) ((has_same rfl _).2 hxh)) hk2
      rw [show (T.pop l (.slice (some ⟨g', 0, none⟩) l.length l.length)).loc (.walk x.1) = T.loc (.walk x.1) from rfl] at hne
      clear hw hR5 htv' hpop s7 f7 sl hR6 hF6 hbw5 ho6 hk2
      by_cases hx1 : x.1 = none
      · have hbq : (T.loc (.walk x.1) == W.heap.size + 1) = true := by rw [hx1, hlk.out]; simp
        rw [hbq] at hne
        by_cases hov : (x.2.1 : Int) = E.over
        · have hov2 : ((x.2.1 : Int) != E.over) = false := by rw [hov]; simp
          have HOV := Lib.hid (And.intro hx1 hov)
          clear hov hbq hx1
          go_wp2_with fail
          have hlt7 := left_lt hT.out HTD.out (Le.refl (T.pop l (.slice (some ⟨g', 0, none⟩) l.length l.length)))
          rw [hlf.out] at hlt7
          clear x0 x1 x2 xl hne hov2
          go_roundg (left E (T.pop l (.slice (some ⟨g', 0, none⟩) l.length l.length)))
          case measure => exact hlt7
          case rel => exact ⟨T.pop l (.slice (some ⟨g', 0, none⟩) l.length l.length), hT.out.over HTD.out HOV.out, HR6.out, HBW.out, hls.out, hlk.out, rfl⟩
        · have hov2 : ((x.2.1 : Int) != E.over) = true := by simpa using hov
          have HGD : Hid (x.1 = none → (x.2.1 : Int) ≠ E.over) := fun _ => hov
          clear hov hbq hx1
          have hgo := goes_ok E hN wa wc hU hW hE hwv (T.pop l (.slice (some ⟨g', 0, none⟩) l.length l.length)) x.1 x.2.1 x.2.2 w6 HR6.out (hT.out.inv.pop HTD.out) (hT.out.inv.todoS x hxt) HGD.out (HB.out.keep HBW.out)
          rw [show (T.pop l (.slice (some ⟨g', 0, none⟩) l.length l.length)).loc (.walk x.1) = T.loc (.walk x.1) from rfl, show (T.pop l (.slice (some ⟨g', 0, none⟩) l.length l.length)).loc .srch = sb from hls.out] at hgo
          unfold ptrV at hgo
          have HGo := Lib.hid hgo
          have HXT := Lib.hid hxt
          clear hgo hxt hxh
          go_wp2_with (refine HGo.out.mono ?_; rintro e w7 ⟨⟨_, rfl⟩, T', hR', hF', hG'⟩; have H1 := Lib.hid hR'; have H2 := Lib.hid hF'; have H3 := Lib.hid hG'; clear hR' hF' hG')
          have hB7 := HBW.out.trans (H2.out.below HR6.out)
          have hl7 := (H3.out.le.loc .srch trivial).trans hls.out
          have hl8 := (H3.out.le.loc (.walk none) trivial).trans hlk.out
          have hf7 := hT.out.gone HTD.out H3.out
          have hlt7 := left_lt hT.out HTD.out H3.out.le
          rw [hlf.out] at hlt7
          have K1 := Lib.hid hB7
          have K2 := Lib.hid hl7
          have K3 := Lib.hid hl8
          have K4 := Lib.hid hf7
          clear hB7 hl7 hl8 hf7 x0 x1 x2 xl hne
          go_roundg (left E T')
          case measure => exact hlt7
          case rel => exact ⟨T', K4.out, H1.out, K1.out, K2.out, K3.out, rfl⟩
      · have hbq : (T.loc (.walk x.1) == W.heap.size + 1) = false := by
          refine beq_eq_false_iff_ne.2 fun e => hx1 ?_
          rw [← hlk.out] at e
          have := HR4.out.inj (.walk x.1) (.walk none) hxh trivial e
          simpa using this
        rw [hbq] at hne
        have HGD : Hid (x.1 = none → (x.2.1 : Int) ≠ E.over) := fun h => absurd h hx1
        clear hbq hx1
        have hgo := goes_ok E hN wa wc hU hW hE hwv (T.pop l (.slice (some ⟨g', 0, none⟩) l.length l.length)) x.1 x.2.1 x.2.2 w6 HR6.out (hT.out.inv.pop HTD.out) (hT.out.inv.todoS x hxt) HGD.out (HB.out.keep HBW.out)
        rw [show (T.pop l (.slice (some ⟨g', 0, none⟩) l.length l.length)).loc (.walk x.1) = T.loc (.walk x.1) from rfl, show (T.pop l (.slice (some ⟨g', 0, none⟩) l.length l.length)).loc .srch = sb from hls.out] at hgo
        unfold ptrV at hgo
        have HGo := Lib.hid hgo
        have HXT := Lib.hid hxt
        clear hgo hxt hxh
        go_wp2_with (refine HGo.out.mono ?_; rintro e w7 ⟨⟨_, rfl⟩, T', hR', hF', hG'⟩; have H1 := Lib.hid hR'; have H2 := Lib.hid hF'; have H3 := Lib.hid hG'; clear hR' hF' hG')
        have hB7 := HBW.out.trans (H2.out.below HR6.out)
        have hl7 := (H3.out.le.loc .srch trivial).trans hls.out
        have hl8 := (H3.out.le.loc (.walk none) trivial).trans hlk.out
        have hf7 := hT.out.gone HTD.out H3.out
        have hlt7 := left_lt hT.out HTD.out H3.out.le
        rw [hlf.out] at hlt7
        have K1 := Lib.hid hB7
        have K2 := Lib.hid hl7
        have K3 := Lib.hid hl8
        have K4 := Lib.hid hf7
        clear hB7 hl7 hl8 hf7 x0 x1 x2 xl hne
        go_roundg (left E T')
        case measure => exact hlt7
        case rel => exact ⟨T', K4.out, H1.out, K1.out, K2.out, K3.out, rfl⟩
end Go.Proofs.Ytgdcnndmdgcjlaa

/- paths.Ways of a net that may be. -/
namespace Go.Proofs.Ytgdcnndmdgcjlaa
open Go.RowKit
theorem info_pbool : (Try.prog.info? 4).map (fun i => (i.zero, i.size, i.bytes)) = some (some (.bool false), 1, 1) := by kernel_rfl
theorem make_pbools (n : Nat) (hn : n ≤ reachN) (u : World) : (Instr.makeSlice 31 (.int .i64 (n : Int)) (.int .i64 (n : Int))).run Try.prog u =
    .ok (.slice (some ⟨u.heap.size, 0, none⟩) n n) (u.alloc (.cells (List.replicate n (.bool false)).toArray 4)) := by
  obtain ⟨i0, hi, hz0, hz1, hz2⟩ := info_parts info_pbool
  unfold reachN at hn
  have h := run_make (P := Try.prog) u 31 4 i0 (.bool false) Try.underlying31 hi hz0 .i64 .i64 (n : Int) (n : Int) (by omega) (Int.le_refl _) (by rw [hz2]; omega) (by omega)
  rw [Int.toNat_natCast, hz1, Nat.mul_one] at h
  rw [h, ← made_bools]
  rfl
theorem flat_le {α β : Type} {l : List α} {f : α → List β} {k : Nat} (h : ∀ x ∈ l, (f x).length ≤ k) : (l.flatMap f).length ≤ l.length * k := by
  induction l with
  | nil => simp
  | cons x r ih =>
    rw [List.flatMap_cons, List.length_append, List.length_cons, Nat.add_mul, Nat.one_mul]
    have := h x (by simp)
    have := ih fun y hy => h y (by simp [hy])
    omega
theorem univ_small (E : Env) (hN : E.N.Small) (hw : E.w.length ≤ 7) : E.univ.length ≤ 1000000000000 := by
  have hk : E.keys.length ≤ 97 := by
    unfold Env.keys
    rw [List.length_cons]
    have := flat_le (l := List.range E.N.starts.length) (f := fun r => (List.range (E.w.length + 1)).map fun t => some (r, t)) (k := 8) (fun x _ => by simp; omega)
    rw [List.length_range] at this
    have := hN.starts
    omega
  have hp : E.pls.length ≤ 480 := by
    unfold Env.pls
    have := flat_le (l := List.range E.N.states.length) (f := fun s => (List.range (E.w.length + 1)).map fun t => (s, t)) (k := 8) (fun x _ => by simp; omega)
    rw [List.length_range] at this
    have := hN.states
    omega
  unfold Env.univ
  have := flat_le (l := E.keys) (f := fun k => E.pls.map fun p => (k, p)) (k := 480) (fun x _ => by simp; omega)
  omega
theorem edges_small (N : Net) (hN : N.Small) (s : Nat) : (N.edges s).length ≤ 1000000 := by
  unfold Net.edges
  cases h : N.states[s]? with
  | none => simp
  | some x =>
    obtain ⟨hl, rfl⟩ := List.getElem?_eq_some_iff.1 h
    have := hN.edges _ (List.getElem_mem hl)
    simp
    omega
def wcells (l : List Pl) (t n j : Nat) : List Value := (List.range (n + 1)).map fun i => .bool (decide (i < j) && decide ((t, i) ∈ l))
theorem wcells_start (l : List Pl) (t n : Nat) : List.replicate (n + 1) (Value.bool false) = wcells l t n 0 := by
  unfold wcells
  apply List.ext_getElem
  · simp
  · intro i h1 h2; simp
theorem wcells_next (l : List Pl) (t n j : Nat) : (wcells l t n j).set j (.bool (decide ((t, j) ∈ l))) = wcells l t n (j + 1) := by
  unfold wcells
  apply List.ext_getElem
  · simp
  · intro i h1 h2
    rw [List.getElem_set]
    split
    · rename_i h; subst h; simp
    · rename_i h
      simp only [List.getElem_map, List.getElem_range]
      have : decide (i < j) = decide (i < j + 1) := decide_eq_decide.2 (by omega)
      rw [this]
theorem wcells_end (l : List Pl) (t n : Nat) : wcells l t n (n + 1) = (List.range (n + 1)).map fun i => .bool (decide ((t, i) ∈ l)) := by
  unfold wcells
  apply List.map_congr_left
  intro i hi
  rw [List.mem_range] at hi
  simp [hi]
theorem wcells_len (l : List Pl) (t n j : Nat) : (wcells l t n j).length = n + 1 := by simp [wcells]
structure WLoop (w0 w : World) (ob : Nat) (l : List Pl) (t n j : Nat) : Prop where
  but : But (fun b => b = ob) w0 w
  out : Owns w ob (wcells l t n j) 4
theorem WLoop.next {w0 w w' : World} {ob : Nat} {l : List Pl} {t n j : Nat} (h : WLoop w0 w ob l t n j) (hg : Grew w w') : WLoop w0 (w'.setCell ⟨ob, j, none⟩ (.bool (decide ((t, j) ∈ l)))) ob l t n (j + 1) := by
  have ho := h.out.keep hg
  refine ⟨(h.but.trans (But.of_grew (F := fun b => b = ob) hg) fun _ _ h => h).trans ?_ fun _ _ h => h, ?_⟩
  · rw [setCell_put ho]
    exact But.put rfl
  · rw [← wcells_next]
    exact ho.set j _
def WaysAt (N : Net) (w : List Int) (f t : Nat) (W : World) (e : Ending) (W' : World) : Prop :=
  ∃ (ob : Nat) (g : Nat → Bool), e = .returned (.tuple #[.slice (some ⟨ob, 0, none⟩) (w.length + 1) (w.length + 1), .int .i64 0]) ∧
      (∀ i, g i = true ↔ Lv N w (f, 0) (-1) none (t, i)) ∧ Owns W' ob ((List.range (w.length + 1)).map fun i => .bool (g i)) 4 ∧ W.heap.size ≤ ob ∧ Grew W W'
set_option maxHeartbeats 2000000 in
set_option maxRecDepth 20000 in
theorem ways_ok (N : Net) (hN : N.Small) (hM : N.mayB = true) (w : List Int) (hw : w.length ≤ 7) (f t : Nat) (hf : f < N.states.length) (ht : t < N.states.length) (W : World) (n0 n1 n2 n3 n4 wv : Value) (hB : NetAt W W.heap.size n0 n1 n2 n3 n4 N) (hWV : IntsV W W.heap.size wv w) :
    Calls Try.prog 9 #[.agg #[n0, n1, n2, n3, n4], .int .i64 f, .int .i64 t, wv] W (WaysAt N w f t W) := by
  obtain ⟨na, nc, rfl, hN0⟩ := hB.states
  obtain ⟨ta, tc, rfl, hT⟩ := hB.starts
  obtain ⟨ua, uc, rfl, hU⟩ := hB.stops
  obtain ⟨pa, pc, rfl, hP⟩ := hB.preds
  obtain ⟨da, dc, rfl, hD⟩ := hB.decisions
  obtain ⟨wa, wc, rfl, hWA⟩ := hWV
  obtain ⟨n0, hn0⟩ : ∃ v : Value, v = .slice na N.states.length nc := ⟨_, rfl⟩
  obtain ⟨n1, hn1⟩ : ∃ v : Value, v = .slice ta N.starts.length tc := ⟨_, rfl⟩
  obtain ⟨n2, hn2⟩ : ∃ v : Value, v = .slice ua N.stops.length uc := ⟨_, rfl⟩
  obtain ⟨n3, hn3⟩ : ∃ v : Value, v = .slice pa N.preds.length pc := ⟨_, rfl⟩
  obtain ⟨n4, hn4⟩ : ∃ v : Value, v = .slice da N.decisions.length dc := ⟨_, rfl⟩
  obtain ⟨wv, hwv⟩ : ∃ v : Value, v = .slice wa w.length wc := ⟨_, rfl⟩
  have hWV : IntsV W W.heap.size wv w := ⟨wa, wc, hwv, hWA⟩
  rw [← hn0, ← hn1, ← hn2, ← hn3, ← hn4] at hB
  obtain ⟨w1, hw1⟩ : ∃ w1, W.alloc (.cells #[n0, n1, n2, n3, n4] 25) = w1 := ⟨_, rfl⟩
  have z1 : w1.heap.size = W.heap.size + 1 := by rw [← hw1]; exact World.size_alloc W _
  have g1 : Grew W w1 := hw1 ▸ grew_alloc W _
  have o1 : Owns w1 W.heap.size [n0, n1, n2, n3, n4] 25 := hw1 ▸ Owns.alloc W _ _
  obtain ⟨w2, hw2⟩ : ∃ w2, w1.alloc (.cells #[.int .i64 f, .int .i64 t] 3) = w2 := ⟨_, rfl⟩
  have z2 : w2.heap.size = W.heap.size + 1 + 1 := by rw [← hw2, World.size_alloc, z1]
  have g2 : Grew w1 w2 := hw2 ▸ grew_alloc w1 _
  have o2 : Owns w2 (W.heap.size + 1) [.int .i64 f, .int .i64 t] 3 := by rw [← z1, ← hw2]; exact Owns.alloc w1 _ _
  have c0 := o1.cell_at (i := 0) rfl
  have c1 := o1.cell_at (i := 1) rfl
  have c2 := o1.cell_at (i := 2) rfl
  have c3 := o1.cell_at (i := 3) rfl
  have c4 := o1.cell_at (i := 4) rfl
  have g12 := g1.trans g2
  have hmay := pmay_ok N hN w [f, t] hw (fun i hi => by
    simp only [List.mem_cons, List.not_mem_nil, or_false] at hi
    rcases hi with rfl | rfl <;> (rw [okN_iff]; omega)) w2 n0 n1 n2 n3 n4 wv ((hB.keep g12).mono g12.size) ((hWV.keep g12).mono g12.size) (W.heap.size + 1) 2 (by omega) (by simp)
    (fun k hk => by
      match k, hk with
      | 0, _ => exact o2.cell_at (i := 0) rfl
      | 1, _ => exact o2.cell_at (i := 1) rfl)
  rw [hM] at hmay
  have HMAY := Lib.hid (show Calls Try.prog 23 #[.agg #[n0, n1, n2, n3, n4], wv, .slice (some ⟨W.heap.size + 1, 0, none⟩) 2 2] w2 fun e W' => e = .returned (.bool true) ∧ Grew w2 W' from hmay)
  have HB := Lib.hid hB
  have HWV := Lib.hid hWV
  have HG := Lib.hid g12
  have HO := Lib.hid (o1.keep g2)
  have hmk : ∀ u : World, (Instr.makeSlice 31 (.int .i64 ((w.length : Int) + 1)) (.int .i64 ((w.length : Int) + 1))).run Try.prog u = .ok (.slice (some ⟨u.heap.size, 0, none⟩) (w.length + 1) (w.length + 1)) (u.alloc (.cells (List.replicate (w.length + 1) (.bool false)).toArray 4)) := make_pbools (w.length + 1) (by unfold reachN; omega)
  have hM0 := Lib.hid hM
  clear hmay g12 o1 o2 g1 g2 hB hWA hM hN0 hT hU hP hD hWV
  subst hn0 hn1 hn2 hn3 hn4 hwv
  go_enter Try.func9, Try.ntmps9
  go_wp2_with fail
  refine HMAY.out.mono ?_
  rintro e w3 ⟨rfl, hb3⟩
  have g3 := HG.out.trans hb3
  have o3 := HO.out.keep hb3
  have c0 := o3.cell_at (i := 0) rfl
  have c1 := o3.cell_at (i := 1) rfl
  have c2 := o3.cell_at (i := 2) rfl
  have c3 := o3.cell_at (i := 3) rfl
  have c4 := o3.cell_at (i := 4) rfl
  obtain ⟨E, hE⟩ : ∃ E : Env, E = ⟨N, w, .slice na N.states.length nc, .slice ta N.starts.length tc, .slice ua N.stops.length uc, .slice pa N.preds.length pc, .slice da N.decisions.length dc, .slice wa w.length wc, W.heap.size, (f, 0), -1⟩ := ⟨_, rfl⟩
  have hL3 : Laid E w3 := by rw [hE]; exact ⟨HB.out.keep g3, HWV.out.keep g3⟩
  have HL3 := Lib.hid hL3
  have hbeg := began_ok E w3 (by rw [hE]; exact g3.size) hL3
  have hlim : Hid (E.lim = W.heap.size) := Lib.hid (by rw [hE])
  have hEN : Hid (E.N = N ∧ E.w = w ∧ E.p0 = (f, 0) ∧ E.over = -1 ∧ E.wv = .slice wa w.length wc) := Lib.hid (by rw [hE]; exact ⟨rfl, rfl, rfl, rfl, rfl⟩)
  have hfrom : Hid (∀ (w4 : World) (sb cm : Nat), Began E w4 sb cm → Laid E w4 → Calls Try.prog 25 #[ptrV sb, .int .i64 f, .int .i64 (-1)] w4 fun e W' => ∃ S', e = .returned (ptrV (S'.loc (.walk none))) ∧ Rep E S' W' ∧ FLoop E S' ∧ S'.todo = [] ∧ S'.loc .srch = sb ∧ Below E.lim w4 W') := Lib.hid fun w4 sb cm hBe hLa => by
    have := from_ok E (by rw [hEN.out.1]; exact Net.ok_of_may hM0.out) wa wc (univ_small E (by rw [hEN.out.1]; exact hN) (by rw [hEN.out.2.1]; exact hw)) (by rw [hEN.out.2.1]; omega) (fun s => by rw [hEN.out.1]; exact edges_small N hN s) (by rw [hEN.out.2.1]; exact hEN.out.2.2.2.2) f hEN.out.2.2.1 (by rw [hEN.out.1]; exact hf) w4 sb cm hBe hLa
    rw [hEN.out.2.2.2.1] at this
    exact this
  rw [hE] at hbeg
  have HBEG := Lib.hid hbeg
  have HE := Lib.hid hE
  have HG3 := Lib.hid g3
  clear hbeg hE g3 hb3 o3 hL3 HO HMAY HB HWV HG hw1 hw2 z1 z2 hM0
  go_wp2_with (go_at_call 24; refine HBEG.out.mono ?_; rintro e w4 ⟨sb, cm, rfl, hBe, hg4, hsb⟩; rw [← HE.out] at hBe)
  have HF := Lib.hid (hfrom.out w4 sb cm hBe (HL3.out.keep (by rw [hlim.out]; exact hg4.mono HG3.out.size)))
  have hg4' : Grew W w4 := HG3.out.trans hg4
  have HG4 := Lib.hid hg4'
  clear hBe hg4 hg4' hfrom HG3 HL3 HE HBEG
  refine HF.out.mono ?_
  rintro e w5 ⟨S, rfl, hR, hFL, htodo, hls, hb5⟩
  have hg5 : Grew W w5 := Below.trans (B := W.heap.size) HG4.out (by rw [hlim.out] at hb5; exact hb5)
  have hsz5 := hg5.size
  have hkb := (hR.walk (κ := none) trivial)
  have hmb := hR.seenM (κ := none) trivial
  have hkl := hkb.lt
  have hml : S.loc (.seen none) < w5.heap.size := hR.lt (r := .seen none) trivial
  unfold St.seenL at hmb
  have hseen : ∀ p, p ∈ S.seen none ↔ Lv N w (f, 0) (-1) none p := fun p => by
    have := hFL.ends htodo (κ := none) (p := p)
    rw [hEN.out.1, hEN.out.2.1, hEN.out.2.2.1, hEN.out.2.2.2.1] at this
    exact this
  have HS := Lib.hid hseen
  generalize S.seen none = l at *
  unfold ptrV
  have hkc : w5.cell? ⟨S.loc (.walk none), 0, none⟩ = some (.map (some (S.loc (.seen none)))) := hkb.cell_at (i := 0) rfl
  obtain ⟨w6, hw6⟩ : ∃ w6, w5.alloc (.cells (List.replicate (w.length + 1) (.bool false)).toArray 4) = w6 := ⟨_, rfl⟩
  have g6 : Grew w5 w6 := hw6 ▸ grew_alloc w5 _
  have o6 : Owns w6 w5.heap.size (List.replicate (w.length + 1) (.bool false)) 4 := hw6 ▸ Owns.alloc w5 _ _
  rw [wcells_start l t w.length] at o6
  have HG5 := Lib.hid hg5
  have HKC := Lib.hid (show w6.cell? ⟨S.loc (.walk none), 0, none⟩ = some (.map (some (S.loc (.seen none)))) by rw [g6.cells _ _ hkl]; exact hkc)
  have HMB := Lib.hid ((g6.block _ hml).trans hmb)
  have HG6 := Lib.hid g6
  have HO6 := Lib.hid o6
  have HSZ := Lib.hid hsz5
  have hadd : IntKind.i64.wrap ((w.length : Int) + 1) = ((w.length + 1 : Nat) : Int) := by rw [IntKind.wrap_i64]; omega
  generalize S.loc (.walk none) = kb at *
  generalize S.loc (.seen none) = mb at *
  clear hR hFL htodo hls hb5 hg5 hsz5 hkb hmb hseen HF hkc g6 o6 hlim hEN HG4
  have hmk5 := hmk w5
  rw [hw6] at hmk5
  obtain ⟨ob, hob⟩ : ∃ ob, ob = w5.heap.size := ⟨_, rfl⟩
  rw [← hob] at HO6 HSZ hkl hml hmk5
  have HOB := Lib.hid hob
  clear hw6 hob hmk
  go_wp2_with fail
  clear hmk5
  go_loopw [31] (fun i wr => ∃ (j : Nat), i = .int .i64 j ∧ j ≤ w.length + 1 ∧ Hid (WLoop w6 wr ob l t w.length j)) (fun i _ => w.length + 1 - (intOf i).toNat)
  case atStart => exact ⟨0, rfl, by omega, But.refl _ _, HO6.out⟩
  case round =>
    obtain ⟨j, rfl, hj, hL⟩ := hrel
    by_cases hlt : j < w.length + 1
    · have hlti : (j : Int) < (w.length : Int) + 1 := by omega
      have k0 : wr.cell? ⟨kb, 0, none⟩ = some (.map (some mb)) := by
        have := HKC.out
        unfold World.cell? at this ⊢
        rw [hL.out.but.block kb (by have := HG6.out.size; have := HOB.out; omega) (by omega)]
        exact this
      have hm0 : wr.heap[mb]? = some (mapObj (l.map fun q => (plV q, unitV))) := by
        rw [hL.out.but.block mb (by have := HG6.out.size; have := HOB.out; omega) (by omega)]
        exact HMB.out
      have HC := Lib.hid (show Calls Try.prog 26 #[.map (some mb), .agg #[.int .i64 t, .int .i64 j]] wr fun e W' => e = .returned (.bool (decide ((t, j) ∈ l))) ∧ Grew wr W' from hasat_ok wr mb l (t, j) hm0)
      have hll := wcells_len l t w.length j
      clear hm0 HKC HMB HO6
      have hbl : ob < wr.heap.size := hL.out.out.lt
      go_wp2_with (refine HC.out.mono ?_; rintro e w7 ⟨rfl, hb7⟩; have p1 := (hL.out.out.keep hb7).cell_at (i := j) (v := .bool (decide (j < j) && decide ((t, j) ∈ l))) (by unfold wcells; rw [List.getElem?_map, List.getElem?_range (by omega)]; rfl); have p2 := (hL.out.out.keep hb7).free j)
      exact ⟨⟨j + 1, by go_num, by omega, hL.out.next hb7⟩, by simp [intOf]; omega⟩
    · have hje : j = w.length + 1 := by omega
      subst hje
      have hlti : ¬ (((w.length + 1 : Nat) : Int) < (w.length : Int) + 1) := by omega
      go_wp2_with fail
      go_ret2
      refine ⟨ob, fun i => decide ((t, i) ∈ l), rfl, fun i => by rw [decide_eq_true_iff]; exact HS.out _, ?_, HSZ.out, ?_⟩
      · rw [← wcells_end]; exact hL.out.out
      · exact Below.trans (B := W.heap.size) (HG5.out.trans HG6.out) (hL.out.but.below (by have := HG6.out.size; have := HG5.out.size; omega) fun k hk => by have := HSZ.out; omega)
end Go.Proofs.Ytgdcnndmdgcjlaa

/- paths.Along of a net that may be. -/
namespace Go.Proofs.Ytgdcnndmdgcjlaa
open Go.RowKit
def AlongAt (N : Net) (w : List Int) (t : Nat) (o : Int) (W : World) (e : Ending) (W' : World) : Prop := ∃ b, e = .returned (.bool b) ∧ (b = true ↔ AlongIs N w (t, 0) o) ∧ Grew W W'
set_option maxHeartbeats 2000000 in
set_option maxRecDepth 20000 in
theorem along_ok (N : Net) (hN : N.Small) (hM : N.mayB = true) (w : List Int) (hw : w.length ≤ 7) (f k : Nat) (hf : f < N.states.length) (hk : k < N.states[f].ends.length) (hk2 : k < N.states[f].edges.length) (W : World) (n0 n1 n2 n3 n4 wv : Value) (hB : NetAt W W.heap.size n0 n1 n2 n3 n4 N) (hWV : IntsV W W.heap.size wv w) :
    Calls Try.prog 13 #[.agg #[n0, n1, n2, n3, n4], .int .i64 f, .int .i64 k, wv] W (AlongAt N w (N.states[f].edges[k].to.toNat) N.states[f].ends[k] W) := by
  have hOk := Net.ok_of_may hM
  have hE : N.edges f = N.states[f].edges := by unfold Net.edges; rw [List.getElem?_eq_getElem hf]; rfl
  have hD : N.ends f = N.states[f].ends := by unfold Net.ends; rw [List.getElem?_eq_getElem hf]; rfl
  have hto := (hOk.edge f N.states[f].edges[k] (by rw [hE]; exact List.getElem_mem hk2)).1
  have hov := hOk.endsR f N.states[f].ends[k] (by rw [hD]; exact List.getElem_mem hk)
  obtain ⟨na, nc, rfl, hN0⟩ := hB.states
  obtain ⟨ta, tc, rfl, hT⟩ := hB.starts
  obtain ⟨ua, uc, rfl, hU⟩ := hB.stops
  obtain ⟨pa, pc, rfl, hP⟩ := hB.preds
  obtain ⟨da, dc, rfl, hD⟩ := hB.decisions
  obtain ⟨wa, wc, rfl, hWA⟩ := hWV
  obtain ⟨n0, hn0⟩ : ∃ v : Value, v = .slice na N.states.length nc := ⟨_, rfl⟩
  obtain ⟨n1, hn1⟩ : ∃ v : Value, v = .slice ta N.starts.length tc := ⟨_, rfl⟩
  obtain ⟨n2, hn2⟩ : ∃ v : Value, v = .slice ua N.stops.length uc := ⟨_, rfl⟩
  obtain ⟨n3, hn3⟩ : ∃ v : Value, v = .slice pa N.preds.length pc := ⟨_, rfl⟩
  obtain ⟨n4, hn4⟩ : ∃ v : Value, v = .slice da N.decisions.length dc := ⟨_, rfl⟩
  obtain ⟨wv, hwv⟩ : ∃ v : Value, v = .slice wa w.length wc := ⟨_, rfl⟩
  have hWV : IntsV W W.heap.size wv w := ⟨wa, wc, hwv, hWA⟩
  rw [← hn0, ← hn1, ← hn2, ← hn3, ← hn4] at hB
  obtain ⟨b, off, hna, hb, hS⟩ := hN0 f hf
  obtain ⟨hr0, ⟨ea, ec, he, hEd⟩, za, zc, hz, hZ⟩ := hS
  obtain ⟨eb, eoff, rfl, heb, _, _, he2⟩ := hEd k hk2
  obtain ⟨zb, zoff, rfl, hzb, hz0⟩ := hZ k hk
  obtain ⟨w1, hw1⟩ : ∃ w1, W.alloc (.cells #[n0, n1, n2, n3, n4] 25) = w1 := ⟨_, rfl⟩
  have z1 : w1.heap.size = W.heap.size + 1 := by rw [← hw1]; exact World.size_alloc W _
  have g1 : Grew W w1 := hw1 ▸ grew_alloc W _
  have o1 : Owns w1 W.heap.size [n0, n1, n2, n3, n4] 25 := hw1 ▸ Owns.alloc W _ _
  obtain ⟨w2, hw2⟩ : ∃ w2, w1.alloc (.cells #[.int .i64 f] 3) = w2 := ⟨_, rfl⟩
  have z2 : w2.heap.size = W.heap.size + 1 + 1 := by rw [← hw2, World.size_alloc, z1]
  have g2 : Grew w1 w2 := hw2 ▸ grew_alloc w1 _
  have o2 : Owns w2 (W.heap.size + 1) [.int .i64 f] 3 := by rw [← z1, ← hw2]; exact Owns.alloc w1 _ _
  have c0 := o1.cell_at (i := 0) rfl
  have c1 := o1.cell_at (i := 1) rfl
  have c2 := o1.cell_at (i := 2) rfl
  have c3 := o1.cell_at (i := 3) rfl
  have c4 := o1.cell_at (i := 4) rfl
  have g12 := g1.trans g2
  have hmay := pmay_ok N hN w [f] hw (fun i hi => by
    simp only [List.mem_cons, List.not_mem_nil, or_false] at hi
    rcases hi with rfl
    rw [okN_iff]; omega) w2 n0 n1 n2 n3 n4 wv ((hB.keep g12).mono g12.size) ((hWV.keep g12).mono g12.size) (W.heap.size + 1) 1 (by omega) (by simp)
    (fun k hk => by
      match k, hk with
      | 0, _ => exact o2.cell_at (i := 0) rfl)
  rw [hM] at hmay
  have HMAY := Lib.hid (show Calls Try.prog 23 #[.agg #[n0, n1, n2, n3, n4], wv, .slice (some ⟨W.heap.size + 1, 0, none⟩) 1 1] w2 fun e W' => e = .returned (.bool true) ∧ Grew w2 W' from hmay)
  have HB := Lib.hid hB
  have HWV := Lib.hid hWV
  have HG := Lib.hid g12
  have HO := Lib.hid (o1.keep g2)
  have hM0 := Lib.hid hOk
  have HTO := Lib.hid (And.intro hto hov)
  have HCE := Lib.hid (And.intro heb (And.intro hzb hb))
  have HC0 := Lib.hid (And.intro he (And.intro hz (And.intro he2 hz0)))
  have hki : ((k : Int) < 0) = False := by simp
  clear hmay g12 o1 o2 g1 g2 hB hWA hM hT hU hP hD hWV hE hEd hZ hN0 he hz he2 hz0 hr0 hto hov hOk heb hzb hb
  subst hn0 hn1 hn2 hn3 hn4 hwv
  subst hna
  obtain ⟨t, ht⟩ : ∃ t : Nat, N.states[f].edges[k].to = t := ⟨N.states[f].edges[k].to.toNat, by have := HTO.out.1; omega⟩
  obtain ⟨o, ho⟩ : ∃ o : Nat, N.states[f].ends[k] = o := ⟨N.states[f].ends[k].toNat, by have := HTO.out.2; omega⟩
  have htt : N.states[f].edges[k].to.toNat = t := by omega
  have htl : t < N.states.length := by have := HTO.out.1; omega
  have hcs : Hid (∀ w4, Grew W w4 → w4.cell? ⟨b, off + f * 3 + 1, none⟩ = some (.slice (some ⟨eb, eoff, none⟩) N.states[f].edges.length ec) ∧ w4.cell? ⟨b, off + f * 3 + 2, none⟩ = some (.slice (some ⟨zb, zoff, none⟩) N.states[f].ends.length zc) ∧
      w4.cell? ⟨eb, eoff + k * 3 + 2, none⟩ = some (.int .i64 t) ∧ w4.cell? ⟨zb, zoff + k, none⟩ = some (.int .i64 o)) := Lib.hid fun w4 g4 => by
    rw [g4.cells _ _ HCE.out.2.2, g4.cells _ _ HCE.out.2.2, g4.cells _ _ HCE.out.1, g4.cells _ _ HCE.out.2.1, ← ht, ← ho]
    exact HC0.out
  rw [htt, ho]
  clear ht ho htt
  clear HC0
  go_enter Try.func13, Try.ntmps13
  go_wp2_with fail
  refine HMAY.out.mono ?_
  rintro e w3 ⟨rfl, hb3⟩
  have g3 := HG.out.trans hb3
  have o3 := HO.out.keep hb3
  have c0 := o3.cell_at (i := 0) rfl
  have c1 := o3.cell_at (i := 1) rfl
  have c2 := o3.cell_at (i := 2) rfl
  have c3 := o3.cell_at (i := 3) rfl
  have c4 := o3.cell_at (i := 4) rfl
  obtain ⟨sf1, sf2, ed, zd⟩ := hcs.out w3 g3
  obtain ⟨E, hE⟩ : ∃ E : Env, E = ⟨N, w, .slice (some ⟨b, off, none⟩) N.states.length nc, .slice ta N.starts.length tc, .slice ua N.stops.length uc, .slice pa N.preds.length pc, .slice da N.decisions.length dc, .slice wa w.length wc, W.heap.size, (t, 0), o⟩ := ⟨_, rfl⟩
  have hL3 : Laid E w3 := by rw [hE]; exact ⟨HB.out.keep g3, HWV.out.keep g3⟩
  have HL3 := Lib.hid hL3
  have hbeg := began_ok E w3 (by rw [hE]; exact g3.size) hL3
  have hlim : Hid (E.lim = W.heap.size) := Lib.hid (by rw [hE])
  have hEN : Hid (E.N = N ∧ E.w = w ∧ E.p0 = (t, 0) ∧ E.over = o ∧ E.wv = .slice wa w.length wc) := Lib.hid (by rw [hE]; exact ⟨rfl, rfl, rfl, rfl, rfl⟩)
  have hfrom : Hid (∀ (w4 : World) (sb cm : Nat), Began E w4 sb cm → Laid E w4 → Calls Try.prog 25 #[ptrV sb, .int .i64 t, .int .i64 o] w4 fun e W' => ∃ S', e = .returned (ptrV (S'.loc (.walk none))) ∧ Rep E S' W' ∧ FLoop E S' ∧ S'.todo = [] ∧ S'.loc .srch = sb ∧ Below E.lim w4 W') := Lib.hid fun w4 sb cm hBe hLa => by
    have := from_ok E (by rw [hEN.out.1]; exact hM0.out) wa wc (univ_small E (by rw [hEN.out.1]; exact hN) (by rw [hEN.out.2.1]; exact hw)) (by rw [hEN.out.2.1]; omega) (fun s => by rw [hEN.out.1]; exact edges_small N hN s) (by rw [hEN.out.2.1]; exact hEN.out.2.2.2.2) t hEN.out.2.2.1 (by rw [hEN.out.1]; exact htl) w4 sb cm hBe hLa
    rw [hEN.out.2.2.2.1] at this
    exact this
  rw [hE] at hbeg
  have HBEG := Lib.hid hbeg
  have HE := Lib.hid hE
  have HG3 := Lib.hid g3
  have HO3 := Lib.hid o3
  clear hbeg hE g3 hb3 o3 hL3 HO HMAY HB HWV HG hw1 hw2 z1 z2 HCE HTO htl hM0
  go_wp2_with (go_at_call 24; refine HBEG.out.mono ?_; rintro e w4 ⟨sb, cm, rfl, hBe, hg4, hsb⟩; rw [← HE.out] at hBe; have HF := Lib.hid (hfrom.out w4 sb cm hBe (HL3.out.keep (by rw [hlim.out]; exact hg4.mono HG3.out.size))); have HG4 := Lib.hid (HG3.out.trans hg4); obtain ⟨sg1, sg2, ee, zz⟩ := hcs.out w4 HG4.out; have cc0 := (HO3.out.keep hg4).cell_at (i := 0) rfl; clear hBe hg4)
  refine HF.out.mono ?_
  rintro e w5 ⟨S, rfl, hR, hFL, htodo, hls, hb5⟩
  have hg5 : Grew W w5 := Below.trans (B := W.heap.size) HG4.out (by rw [hlim.out] at hb5; exact hb5)
  have hkb := (hR.walk (κ := none) trivial)
  have hmb := hR.seenM (κ := none) trivial
  have hkl := hkb.lt
  have hml : S.loc (.seen none) < w5.heap.size := hR.lt (r := .seen none) trivial
  have hsr := hR.srch
  rw [hls] at hsr
  unfold St.seenL at hmb
  have hwh : ∀ κ p, p ∈ S.seen κ ↔ Lv N w (t, 0) o κ p := fun κ p => by
    have := hFL.ends htodo (κ := κ) (p := p)
    rw [hEN.out.1, hEN.out.2.1, hEN.out.2.2.1, hEN.out.2.2.2.1] at this
    exact this
  have hall : S.all = true ↔ ∃ κ p, Lv N w (t, 0) o κ p ∧ p.2 = w.length := by
    have := hFL.inv.all
    rw [hEN.out.2.1] at this
    rw [this]
    exact ⟨fun ⟨κ, p, h1, h2⟩ => ⟨κ, p, (hwh κ p).1 h1, h2⟩, fun ⟨κ, p, h1, h2⟩ => ⟨κ, p, (hwh κ p).2 h1, h2⟩⟩
  have hseen := hwh none
  have a8 : w5.cell? ⟨sb, 8, none⟩ = some (.bool S.all) := hsr.cell_at (i := 8) rfl
  have hsl : sb < w5.heap.size := hsr.lt
  have HA := Lib.hid hall
  have HS := Lib.hid hseen
  have k0 : w5.cell? ⟨S.loc (.walk none), 0, none⟩ = some (.map (some (S.loc (.seen none)))) := hkb.cell_at (i := 0) rfl
  have HMB := Lib.hid hmb
  have HK0 := Lib.hid k0
  have HG5 := Lib.hid hg5
  clear hwh hall hseen hmb hkb hR hFL htodo hls hb5 hg5 hsr hlim hEN HE hcs hfrom HBEG HG3 HO3 HL3 HF HG4 k0
  generalize S.seen none = l at *
  generalize S.loc (.walk none) = kb at *
  generalize S.loc (.seen none) = mb at *
  generalize S.all = sa at *
  unfold ptrV
  clear c0 c1 c2 c3 c4 sf1 sf2 ed zd
  have hadd : IntKind.i64.wrap ((w.length : Int) + 1) = (w.length : Int) + 1 := by rw [IntKind.wrap_i64]; omega
  cases sa
  · go_wp2_with fail
    go_loopw [66] (fun i wr => ∃ (j : Nat), i = .int .i64 j ∧ j ≤ w.length + 1 ∧ Hid (∀ i, i < j → (o, i) ∉ l) ∧ Hid (Grew w5 wr)) (fun i _ => w.length + 1 - (intOf i).toNat)
    case atStart => exact ⟨0, rfl, by omega, fun i h => absurd h (by omega), Grew.refl _⟩
    case round =>
      obtain ⟨j, rfl, hj, hno, hg⟩ := hrel
      by_cases hlt : j < w.length + 1
      · have hlti : (j : Int) < (w.length : Int) + 1 := by omega
        have k0 : wr.cell? ⟨kb, 0, none⟩ = some (.map (some mb)) := by rw [hg.out.cells _ _ hkl]; exact HK0.out
        have hkl' : kb < wr.heap.size := Nat.lt_of_lt_of_le hkl hg.out.size
        have HC := Lib.hid (show Calls Try.prog 26 #[.map (some mb), .agg #[.int .i64 o, .int .i64 j]] wr fun e W' => e = .returned (.bool (decide ((o, j) ∈ l))) ∧ Grew wr W' from hasat_ok wr mb l (o, j) ((hg.out.block mb hml).trans HMB.out))
        by_cases hin : (o, j) ∈ l
        · rw [decide_eq_true hin] at HC
          have HIN := Lib.hid hin
          clear hin a8
          go_wp2_with (refine HC.out.mono ?_; rintro e w7 ⟨rfl, hb7⟩)
          go_ret
          exact ⟨true, rfl, ⟨fun _ => .inr ⟨j, by omega, by rw [Int.toNat_natCast]; exact (HS.out _).1 HIN.out⟩, fun _ => rfl⟩, HG5.out.trans (hg.out.trans hb7)⟩
        · rw [decide_eq_false hin] at HC
          have HIN := Lib.hid hin
          clear hin a8
          go_wp2_with (refine HC.out.mono ?_; rintro e w7 ⟨rfl, hb7⟩)
          exact ⟨⟨j + 1, by go_num, by omega, fun i hi => by
            by_cases hij : i = j
            · subst hij; exact HIN.out
            · exact hno.out i (by omega), hg.out.trans hb7⟩, by simp [intOf]; omega⟩
      · have hlti : ¬ ((j : Int) < (w.length : Int) + 1) := by omega
        go_wp2_with fail
        go_ret
        refine ⟨false, rfl, ⟨fun h => (by cases h), fun h => ?_⟩, HG5.out.trans hg.out⟩
        rcases h with h | ⟨i, hi, h⟩
        · exact HA.out.2 h
        · rw [Int.toNat_natCast] at h
          exact absurd ((HS.out _).2 h) (hno.out i (by omega))
  · go_wp2_with fail
    go_ret
    exact ⟨true, rfl, ⟨fun _ => .inl (HA.out.1 (by trivial)), fun _ => rfl⟩, HG5.out⟩
end Go.Proofs.Ytgdcnndmdgcjlaa
