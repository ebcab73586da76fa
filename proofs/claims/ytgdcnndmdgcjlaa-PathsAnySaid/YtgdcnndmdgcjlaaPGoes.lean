/- paths.goes: from a place on, over all of its edges. -/
import Derived.Test.YtgdcnndmdgcjlaaPCall
namespace Go.Proofs.Ytgdcnndmdgcjlaa
open Go.RowKit

/-- what an edge asks for is there -/
def EdgeDone (E : Env) (T : St) (κ : Key) (i : Nat) (e : Edg) : Prop :=
  (e.kind = 2 → (e.what.toNat, i) ∈ T.calls ∧ (κ, e.to.toNat) ∈ T.waits (e.what.toNat, i)) ∧
  (e.kind ≠ 2 → e.kind ≠ 1 → (e.to.toNat, i) ∈ T.seen κ) ∧ (e.kind = 1 → E.w[i]? = some e.what → (e.to.toNat, i + 1) ∈ T.seen κ)
theorem EdgeDone.mono {E : Env} {T T' : St} {κ : Key} {i : Nat} {e : Edg} (h : EdgeDone E T κ i e) (hl : Le T T') : EdgeDone E T' κ i e :=
  ⟨fun hk => ⟨hl.calls _ (h.1 hk).1, hl.waits _ _ (h.1 hk).2⟩, fun hk hk' => hl.seen _ _ (h.2.1 hk hk'), fun hk hw => hl.seen _ _ (h.2.2 hk hw)⟩
/-- over the edges: those that were gone over -/
structure GLoop (E : Env) (S : St) (κ : Key) (s i : Nat) (T : St) (j : Nat) : Prop where
  inv : Inv E T
  le : Le S T
  begun : Begun E S → Begun E T
  opn : ∀ d k y, Opn T d k y → Opn S d k y
  done : ∀ m, m < j → ∀ h : m < (E.N.edges s).length, EdgeDone E T κ i (E.N.edges s)[m]
section
variable {E : Env} {S T T' : St} {κ : Key} {s i j : Nat}
theorem GLoop.start (hI : Inv E S) : GLoop E S κ s i S 0 := ⟨hI, Le.refl S, id, fun _ _ _ h => h, fun m h => absurd h (by omega)⟩
theorem GLoop.more (h : GLoop E S κ s i T j) (hi : Inv E T') (hl : Le T T') (hb : Begun E T → Begun E T') (ho : ∀ d k y, Opn T' d k y → Opn T d k y) (hd : ∀ h : j < (E.N.edges s).length, EdgeDone E T' κ i (E.N.edges s)[j]) : GLoop E S κ s i T' (j + 1) :=
  ⟨hi, h.le.trans hl, fun hB => hb (h.begun hB), fun d k y hy => h.opn d k y (ho d k y hy), fun m hm hlt => by
    by_cases e : m = j
    · subst e; exact hd hlt
    · exact (h.done m (by omega) hlt).mono hl⟩
theorem GLoop.reached (h : GLoop E S κ s i T j) {κ' : Key} {p : Pl} (hR : Reached E T T' κ' p) (hd : ∀ h : j < (E.N.edges s).length, EdgeDone E T' κ i (E.N.edges s)[j]) : GLoop E S κ s i T' (j + 1) :=
  h.more hR.inv hR.le (fun hB => hB.mono hR.le hR.calls) hR.opn hd
/-- the post of goes -/
structure Gone (E : Env) (S T : St) (κ : Key) (s i : Nat) : Prop where
  inv : Inv E T
  le : Le S T
  begun : Begun E S → Begun E T
  opn : ∀ d k y, Opn T d k y → Opn S d k y
  clos : Clos E T κ s i
theorem GLoop.gone (h : GLoop E S κ s i T j) (hj : (E.N.edges s).length ≤ j) : Gone E S T κ s i :=
  ⟨h.inv, h.le, h.begun, h.opn, fun e he => by
    obtain ⟨m, hm, rfl⟩ := List.mem_iff_getElem.1 he
    exact h.done m (by omega) hm⟩
end

/-- what stands at hand in the loop -/
structure GoesAt (E : Env) (S : St) (W : World) (κ : Key) (s i : Nat) (j : Nat) (T : St) (wr : World) : Prop where
  loop : GLoop E S κ s i T j
  rep : Rep E T wr
  frm : Frm S T W wr
  box : Owns wr W.heap.size [ptrV (S.loc (.walk κ)), .int .i64 s, .int .i64 i] 120
  boxn : ¬T.mine W.heap.size
section
variable {E : Env} {S T T' : St} {W wr w' : World} {κ : Key} {s i j : Nat}
theorem GoesAt.grew (h : GoesAt E S W κ s i j T wr) (hg : Grew wr w') : GoesAt E S W κ s i j T w' := ⟨h.loop, h.rep.grew hg, h.frm.trans (Frm.grew hg), h.box.keep hg, h.boxn⟩
theorem GoesAt.next {j' : Nat} (h : GoesAt E S W κ s i j T wr) (hl : GLoop E S κ s i T' j') (hr : Rep E T' w') (hf : Frm T T' wr w') : GoesAt E S W κ s i j' T' w' :=
  ⟨hl, hr, h.frm.trans hf, (hf.owns h.box h.boxn).1, (hf.owns h.box h.boxn).2⟩
theorem GoesAt.same (h : GoesAt E S W κ s i j T wr) (hd : ∀ h : j < (E.N.edges s).length, EdgeDone E T κ i (E.N.edges s)[j]) : GoesAt E S W κ s i (j + 1) T wr :=
  ⟨h.loop.more h.loop.inv (Le.refl T) id (fun _ _ _ h => h) hd, h.rep, h.frm, h.box, h.boxn⟩
end

set_option maxHeartbeats 2000000 in
set_option maxRecDepth 20000 in
theorem goes_ok (E : Env) (hN : E.N.Ok) (wa : Option Addr) (wc : Nat) (hU : E.univ.length ≤ 1000000000000) (hW : E.w.length ≤ 1000000) (hE : ∀ s, (E.N.edges s).length ≤ 1000000) (hwv : E.wv = .slice wa E.w.length wc) (S : St) (κ : Key) (s i : Nat) (W : World) (hR : Rep E S W) (hI : Inv E S)
    (hs : (s, i) ∈ S.seen κ) (hg : κ = none → (s : Int) ≠ E.over) (hB : Laid E W) :
    Calls Try.prog 46 #[ptrV (S.loc .srch), .agg #[ptrV (S.loc (.walk κ)), .int .i64 s, .int .i64 i]] W fun e W' => (∃ v, e = .returned v) ∧ ∃ S', Rep E S' W' ∧ Frm S S' W W' ∧ Gone E S S' κ s i := by
  have hk : S.has κ := hI.seenH κ _ hs
  have hr := hI.seenR κ _ hs
  have hg1 := grew_alloc W (.cells #[ptrV (S.loc (.walk κ)), .int .i64 s, .int .i64 i] 120)
  have ob := Owns.alloc W [ptrV (S.loc (.walk κ)), .int .i64 s, .int .i64 i] 120
  have hst : GoesAt E S W κ s i 0 S (W.alloc (.cells #[ptrV (S.loc (.walk κ)), .int .i64 s, .int .i64 i] 120)) :=
    ⟨GLoop.start hI, hR.grew hg1, Frm.grew hg1, ob, hR.notmine (Nat.le_refl _)⟩
  have HST := Lib.hid hst
  have HL1 := Lib.hid (hB.keep ((Frm.grew (S := S) hg1).below hR))
  have HK := Lib.hid hk
  have HS := Lib.hid hs
  have HG := Lib.hid hg
  have HRG := Lib.hid hr
  have HLW := Lib.hid hB
  have HR := Lib.hid hR
  have HSE := Lib.hid (hE s)
  have HG1 := Lib.hid hg1
  clear hk hr hg1 ob hst hs hg hB hI hR hE
  unfold ptrV at *
  generalize hw1 : W.alloc (.cells #[.pointer (some ⟨S.loc (.walk κ), 0, none⟩), .int .i64 s, .int .i64 i] 120) = w1 at *
  go_enter Try.func46, Try.ntmps46
  go_wp2_with fail
  clear hw1
  -- the state's edges
  obtain ⟨na, nc, e0, hst⟩ := HLW.out.net.states
  obtain ⟨nb, no, rfl, hnb, hstt⟩ := hst s HRG.out.1
  obtain ⟨ea, ec, hec, hee⟩ := hstt.2.1
  have hedg : (E.N.states[s]'HRG.out.1).edges = E.N.edges s := by unfold Net.edges; rw [List.getElem?_eq_getElem HRG.out.1]; rfl
  rw [hedg] at hec hee
  have s0 : w1.cell? ⟨S.loc .srch, 0, none⟩ = some (.slice (some ⟨nb, no, none⟩) E.N.states.length nc) := by rw [← e0]; exact HST.out.rep.srch.cell_at (i := 0) rfl
  have sl := HST.out.rep.lt (r := .srch) trivial
  have b1 := HST.out.box.cell_at (i := 1) rfl
  have bl := HST.out.box.lt
  have hnbl : nb < w1.heap.size := by have := HST.out.rep.lim_le; omega
  have hsn := HRG.out.1
  have HEE := Lib.hid hee
  have hnw : nb < W.heap.size := by have := HR.out.lim_le; omega
  rw [← HG1.out.cells nb _ hnw] at hec
  clear hst hstt e0 hedg hee hnb
  refine wp_region_hav_lit follows (by kernel_rfl) ?_
  repeat (first
    | (refine HavG.skip (fun _ => rfl) ?_; simp only [Act.put, List.setIfInBounds_toArray, List.set_cons_zero, List.set_cons_succ])
    | (refine HavG.val (fun _ => rfl) ?_ (fun x w hw _ => ?_) ?_; rotate_left; (focus (have hc := hw.cells; clear hw; go_simp; first | done | rfl)); simp only [Act.put, List.setIfInBounds_toArray, List.set_cons_zero, List.set_cons_succ]))
  refine HavG.tail (by kernel_rfl) (by kernel_rfl) (fun x w2 hw _ => ?_)
  have HST2 := Lib.hid (HST.out.grew hw)
  clear hw s0 sl b1 bl hnbl hsn hec HST HL1 hnw
  go_wp2_with fail
  go_loopw [18] (fun c wr => ∃ (j : Nat) (T : St), c = .int .i64 j ∧ j ≤ (E.N.edges s).length ∧ Hid (GoesAt E S W κ s i j T wr)) (fun c _ => (E.N.edges s).length - (intOf c).toNat)
  case atStart =>
    exact ⟨0, S, rfl, by omega, HST2.out⟩
  case round =>
    obtain ⟨j, T, rfl, hj, hat⟩ := hrel
    have hse := HSE.out
    by_cases hlt : j < (E.N.edges s).length
    · have hbw : Below E.lim W wr := hat.out.frm.below HR.out
      obtain ⟨eb, eo, rfl, heb, d0, d1, d2⟩ := (HEE.out.keep hbw) j hlt
      have hem : (E.N.edges s)[j] ∈ E.N.edges s := List.getElem_mem hlt
      obtain ⟨⟨ht1, ht2⟩, hw1', hw2'⟩ := hN.edge s _ hem
      obtain ⟨ek, ew, et, hx⟩ : ∃ ek ew et, (E.N.edges s)[j] = ⟨ek, ew, et⟩ := ⟨_, _, _, rfl⟩
      rw [hx] at d0 d1 d2 hem ht1 ht2 hw1' hw2'
      simp only at d0 d1 d2 ht1 ht2 hw1' hw2'
      obtain ⟨tn, rfl⟩ : ∃ tn : Nat, et = (tn : Int) := ⟨et.toNat, by omega⟩
      obtain ⟨wn, rfl⟩ : ∃ wn : Nat, ew = (wn : Int) := ⟨ew.toNat, by omega⟩
      simp only [Int.toNat_natCast] at ht2 hw2'
      have HAT := Lib.hid hat.out
      have HEM := Lib.hid hem
      have HT2 := Lib.hid ht2
      have HW2 := Lib.hid hw2'
      have HBW := Lib.hid hbw
      have hebl : eb < wr.heap.size := by have := HAT.out.rep.lim_le; omega
      have hTs : T.loc .srch = S.loc .srch := HAT.out.loop.le.loc .srch trivial
      have hTk : T.loc (.walk κ) = S.loc (.walk κ) := HAT.out.loop.le.loc (.walk κ) HK.out
      have hgx := grew_alloc wr (.cells #[.int .u8 ek, .int .i64 wn, .int .i64 tn] 87)
      have HAX := Lib.hid (HAT.out.grew hgx)
      have x0 := HAT.out.box.cell_at (i := 0) rfl
      have x1 := HAT.out.box.cell_at (i := 1) rfl
      have x2 := HAT.out.box.cell_at (i := 2) rfl
      have xl := HAT.out.box.lt
      have hsT : (s, i) ∈ T.seen κ := HAT.out.loop.le.seen _ _ HS.out
      have HLv := Lib.hid (HAT.out.loop.inv.sound _ _ hsT)
      have HLaid := Lib.hid ((HLW.out.keep hbw).keep (hgx.mono HAT.out.rep.lim_le))
      have HTS := Lib.hid hTs
      have HTK := Lib.hid hTk
      have HX := Lib.hid hx
      have HKT := Lib.hid (HAT.out.loop.le.has HK.out)
      unfold ptrV at x0
      clear hat hbw hem ht1 ht2 hw1' hw2' hgx hsT hTs hTk hx heb
      by_cases h2 : ek = 2
      · subst h2
        have hcal := pcall_ok E hN wa wc hU hwv T (wn, i) κ tn _ HAX.out.rep HAX.out.loop.inv HKT.out ⟨HW2.out rfl, HRG.out.2⟩ HT2.out (Lv.begin HLv.out HG.out HEM.out rfl) ⟨s, _, HLv.out, HG.out, HEM.out, rfl, rfl, rfl⟩ HLaid.out
        rw [HTS.out, HTK.out] at hcal
        unfold ptrV at hcal
        have HCal := Lib.hid hcal
        clear hcal
        go_wp2_with (refine HCal.out.mono ?_; rintro e w3 ⟨⟨_, rfl⟩, T', hR', hF', hC'⟩; have H1 := Lib.hid hR'; have H2 := Lib.hid hF'; have H3 := Lib.hid hC'; clear hR' hF' hC')
        exact ⟨⟨j + 1, T', by go_num, by omega, HAX.out.next (HAX.out.loop.more H3.out.inv H3.out.le H3.out.begun H3.out.opn (fun _ => by rw [HX.out]; exact ⟨fun _ => ⟨H3.out.there, H3.out.waits⟩, fun h => absurd rfl h, fun h => by cases h⟩)) H1.out H2.out⟩, by simp [intOf]; omega⟩
      · by_cases h1 : ek = 1
        · subst h1
          have ge : Grew wr (wr.alloc (.cells #[.int .u8 1, .int .i64 wn, .int .i64 tn] 87)) := grew_alloc _ _
          have oe := Owns.alloc wr [.int .u8 1, .int .i64 wn, .int .i64 tn] 87
          obtain ⟨ta, tc, ewv, htk⟩ := HLaid.out.toks
          have s5 : (wr.alloc (.cells #[.int .u8 1, .int .i64 wn, .int .i64 tn] 87)).cell? ⟨S.loc .srch, 5, none⟩ = some (.slice ta E.w.length tc) := by
            rw [← ewv, ← HTS.out]; exact HAX.out.rep.srch.cell_at (i := 5) rfl
          have sl : S.loc .srch < (wr.alloc (.cells #[.int .u8 1, .int .i64 wn, .int .i64 tn] 87)).heap.size := by rw [← HTS.out]; exact HAX.out.rep.lt (r := .srch) trivial
          have y0 := HAX.out.box.cell_at (i := 0) rfl
          have y2 := HAX.out.box.cell_at (i := 2) rfl
          have yl := HAX.out.box.lt
          have z0 := oe.cell_at (i := 0) rfl
          have z1 := oe.cell_at (i := 1) rfl
          have z2 := oe.cell_at (i := 2) rfl
          have zl := oe.lt
          have hlim : E.lim ≤ (wr.alloc (.cells #[.int .u8 1, .int .i64 wn, .int .i64 tn] 87)).heap.size := HAX.out.rep.lim_le
          have OE := Lib.hid oe
          have hiw : i ≤ 1000000 := by have := HRG.out.2; omega
          unfold ptrV at y0
          clear ge oe ewv
          generalize hw3 : wr.alloc (.cells #[.int .u8 1, .int .i64 wn, .int .i64 tn] 87) = w3 at *
          by_cases hi : i < E.w.length
          · obtain ⟨kb, ko, rfl, hkb, htok⟩ := htk i hi
            have hkl : kb < w3.heap.size := by omega
            clear htk
            by_cases hq : E.w[i] = (wn : Int)
            · rw [hq] at htok
              have HQ := Lib.hid hq
              clear hq
              go_wp2_with fail
              clear hw3
              refine wp_region_hav_lit follows (by kernel_rfl) ?_
              repeat (first
                | (refine HavG.skip (fun _ => rfl) ?_; simp only [Act.put, List.setIfInBounds_toArray, List.set_cons_zero, List.set_cons_succ])
                | (refine HavG.val (fun _ => rfl) ?_ (fun x w hw _ => ?_) ?_; rotate_left; (focus (have hc := hw.cells; clear hw; go_simp; first | done | rfl)); simp only [Act.put, List.setIfInBounds_toArray, List.set_cons_zero, List.set_cons_succ]))
              refine HavG.tail (by kernel_rfl) (by kernel_rfl) (fun x w4 hw _ => ?_)
              have HA4 := Lib.hid (HAX.out.grew hw)
              have O4 := OE.out.keep hw
              have z2 := O4.cell_at (i := 2) rfl
              have zl := O4.lt
              have y0 := HA4.out.box.cell_at (i := 0) rfl
              have y2 := HA4.out.box.cell_at (i := 2) rfl
              have yl := HA4.out.box.lt
              unfold ptrV at y0
              have hcal := reach_ok E hN wa wc hU hwv _ T κ (tn, i + 1) w4 rfl HA4.out.rep HA4.out.loop.inv HKT.out ⟨HT2.out, by simp only; omega⟩ (Lv.tok HLv.out HG.out HEM.out rfl (by rw [List.getElem?_eq_getElem hi, HQ.out]))
              rw [HTS.out, HTK.out] at hcal
              unfold ptrV at hcal
              simp only [plV] at hcal
              rw [show ((i + 1 : Nat) : Int) = (i : Int) + 1 by omega] at hcal
              have HCal := Lib.hid hcal
              clear hw O4 hcal s5 sl z0 z1 htok hkl d0 d1 d2 x0 x1 x2 xl hlim HAX OE
              go_wp2_with (refine HCal.out.mono ?_; rintro e w5 ⟨⟨_, rfl⟩, T', hR', hF', hC'⟩; have H1 := Lib.hid hR'; have H2 := Lib.hid hF'; have H3 := Lib.hid hC'; clear hR' hF' hC')
              exact ⟨⟨j + 1, T', by go_num, by omega, HA4.out.next (HA4.out.loop.reached H3.out (fun _ => by rw [HX.out]; exact ⟨fun h => absurd (show (1 : Int) = 2 from h) (by decide), fun _ h => absurd rfl h, fun _ _ => H3.out.got⟩)) H1.out H2.out⟩, by simp [intOf]; omega⟩
            · have hqq : (E.w[i] == (wn : Int)) = false := beq_eq_false_iff_ne.2 hq
              have HNO : Hid (¬E.w[i]? = some (wn : Int)) := by unfold Hid; rw [List.getElem?_eq_getElem hi]; intro h; exact hq (Option.some.inj h)
              go_wp2_with fail
              clear hw3
              refine wp_region_hav_lit follows (by kernel_rfl) ?_
              repeat (first
                | (refine HavG.skip (fun _ => rfl) ?_; simp only [Act.put, List.setIfInBounds_toArray, List.set_cons_zero, List.set_cons_succ])
                | (refine HavG.val (fun _ => rfl) ?_ (fun x w hw _ => ?_) ?_; rotate_left; (focus (have hc := hw.cells; clear hw; go_simp; first | done | rfl)); simp only [Act.put, List.setIfInBounds_toArray, List.set_cons_zero, List.set_cons_succ]))
              refine HavG.tail (by kernel_rfl) (by kernel_rfl) (fun x w4 hw _ => ?_)
              have HA4 := Lib.hid (HAX.out.grew hw)
              clear hw
              go_wp2_with fail
              exact ⟨⟨j + 1, T, by go_num, by omega, HA4.out.same (fun _ => by rw [HX.out]; exact ⟨fun h => absurd (show (1 : Int) = 2 from h) (by decide), fun _ h => absurd rfl h, fun _ hw => absurd hw HNO.out⟩)⟩, by simp [intOf]; omega⟩
          · have HNO : Hid (¬E.w[i]? = some (wn : Int)) := by unfold Hid; rw [List.getElem?_eq_none (by omega)]; intro h; cases h
            go_wp2_with fail
            clear hw3
            refine wp_region_hav_lit follows (by kernel_rfl) ?_
            repeat (first
              | (refine HavG.skip (fun _ => rfl) ?_; simp only [Act.put, List.setIfInBounds_toArray, List.set_cons_zero, List.set_cons_succ])
              | (refine HavG.val (fun _ => rfl) ?_ (fun x w hw _ => ?_) ?_; rotate_left; (focus (have hc := hw.cells; clear hw; go_simp; first | done | rfl)); simp only [Act.put, List.setIfInBounds_toArray, List.set_cons_zero, List.set_cons_succ]))
            refine HavG.tail (by kernel_rfl) (by kernel_rfl) (fun x w4 hw _ => ?_)
            have HA4 := Lib.hid (HAX.out.grew hw)
            clear hw
            go_wp2_with fail
            exact ⟨⟨j + 1, T, by go_num, by omega, HA4.out.same (fun _ => by rw [HX.out]; exact ⟨fun h => absurd (show (1 : Int) = 2 from h) (by decide), fun _ h => absurd rfl h, fun _ hw => absurd hw HNO.out⟩)⟩, by simp [intOf]; omega⟩
        · have hcal := reach_ok E hN wa wc hU hwv _ T κ (tn, i) _ rfl HAX.out.rep HAX.out.loop.inv HKT.out ⟨HT2.out, HRG.out.2⟩ (Lv.eps HLv.out HG.out HEM.out h2 h1)
          rw [HTS.out, HTK.out] at hcal
          unfold ptrV at hcal
          simp only [plV] at hcal
          have HCal := Lib.hid hcal
          have hb2 : (ek == 2) = false := beq_eq_false_iff_ne.2 h2
          have hb1 : (ek == 1) = false := beq_eq_false_iff_ne.2 h1
          have H12 := Lib.hid (And.intro h1 h2)
          clear hcal
          go_wp2_with (refine HCal.out.mono ?_; rintro e w3 ⟨⟨_, rfl⟩, T', hR', hF', hC'⟩; have H1 := Lib.hid hR'; have H2 := Lib.hid hF'; have H3 := Lib.hid hC'; clear hR' hF' hC')
          exact ⟨⟨j + 1, T', by go_num, by omega, HAX.out.next (HAX.out.loop.reached H3.out (fun _ => by rw [HX.out]; exact ⟨fun h => absurd h H12.out.2, fun _ _ => H3.out.got, fun h => absurd h H12.out.1⟩)) H1.out H2.out⟩, by simp [intOf]; omega⟩
    · have HAT := Lib.hid hat.out
      go_wp2_with fail
      go_end0
      exact ⟨⟨_, rfl⟩, T, HAT.out.rep, HAT.out.frm, HAT.out.loop.gone (by omega)⟩
end Go.Proofs.Ytgdcnndmdgcjlaa
