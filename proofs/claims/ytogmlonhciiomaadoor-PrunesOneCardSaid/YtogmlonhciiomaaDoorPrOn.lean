/- PrunesOne: the walk. -/
import Derived.Test.YtogmlonhciiomaaDoorPrOnIn
namespace Go.Proofs.YtogmlonhciiomaaDoor
open Go.RowKit

set_option maxHeartbeats 8000000 in
set_option maxRecDepth 40000 in
theorem pOn_ok (a : Aut) (hal : a.length ≤ reachN) (hae : ∀ s ∈ a, s.edges.length ≤ reachN ∧ s.alts.length ≤ reachN) (hu : a.U8) (z0 z1 : Int) (h0 : 0 ≤ z0 ∧ z0 ≤ 255) (h1 : 0 ≤ z1 ∧ z1 ≤ 255) (how : List Int) (_hll : how.length ≤ reachN) (hli : ∀ l ∈ how, 0 ≤ l ∧ l ≤ 255)
    (W : World) (hT : Tab W) (v lv : Value) (hA : AutV .u8 W W.heap.size v a) (hL : ∃ a cap, lv = .slice a how.length cap ∧ ∀ k (h : k < how.length), ∃ b off, a = some ⟨b, off, none⟩ ∧ b < W.heap.size ∧ W.cell? ⟨b, off + k, none⟩ = some (.int .u8 how[k])) :
    Calls Tryd.prog 6 #[.agg #[v], .agg #[.int .u8 z0, .int .u8 z1], lv] W fun e W' => e = .returned (.bool true) ∧ Grew W W' := by
  have hA2 := hA
  obtain ⟨a1, c1, rfl, _, hA⟩ := hA
  obtain ⟨la, lc, rfl, hL⟩ := hL
  obtain ⟨w1, hw1⟩ : ∃ w1, W.alloc (.cells #[.slice a1 a.length c1] 24) = w1 := ⟨_, rfl⟩
  obtain ⟨w2, hw2⟩ : ∃ w2, w1.alloc (.cells #[.int .u8 z0, .int .u8 z1] 25) = w2 := ⟨_, rfl⟩
  have z1' : w1.heap.size = W.heap.size + 1 := by rw [← hw1]; simp
  have g1 : Grew W w1 := hw1 ▸ grew_alloc W _
  have g2 : Grew w1 w2 := hw2 ▸ grew_alloc w1 _
  have o1 : Owns w2 W.heap.size [.slice a1 a.length c1] 24 := (hw1 ▸ Owns.alloc W _ _ : Owns w1 W.heap.size [.slice a1 a.length c1] 24).keep g2
  have o2 : Owns w2 (W.heap.size + 1) [.int .u8 z0, .int .u8 z1] 25 := z1' ▸ hw2 ▸ Owns.alloc w1 _ _
  have q0 := o1.cell_at (i := 0) rfl
  have p0 := o2.cell_at (i := 0) rfl
  have p1 := o2.cell_at (i := 1) rfl
  have HA : Hid (∀ w, Grew W w → AutV .u8 w w.heap.size (.slice a1 a.length c1) a) := Lib.hid fun w hg => hA2.grew hg
  have HT : Hid (∀ w, Grew W w → Tab w) := Lib.hid fun w hg => hT.keep hg
  have HV : Hid (∀ w, Grew W w → Calls Tryd.prog 8 #[] w fun e W' => e = .returned (.bool true) ∧ Grew w W') := Lib.hid fun w hg => plives_ok w (hT.keep hg)
  have HGT := Lib.hid (pgreat_ok a hal hae w2 _ (hA2.grew (g1.trans g2)))
  have HG := Lib.hid (g1.trans g2)
  have HO1 := Lib.hid o1
  have HU := Lib.hid hu
  have HSA := Lib.hid hA
  have HL := Lib.hid hL
  have HLI := Lib.hid hli
  have hr0 : IntKind.i64.wrap z0 = z0 := wrap_small _ (by omega) (by omega)
  have hr1 : IntKind.i64.wrap z1 = z1 := wrap_small _ (by omega) (by omega)
  obtain ⟨m, hm⟩ : ∃ m, z1.tmod 21 = m := ⟨_, rfl⟩
  have hm0 : 0 ≤ m ∧ m ≤ 20 := by
    rw [← hm, Int.tmod_eq_emod_of_nonneg (by omega)]
    omega
  have hrm : IntKind.i64.wrap m = m := wrap_small _ (by omega) (by omega)
  clear hA hA2 hT g1 g2 o1 o2 hL hae hli
  unfold reachN at _hll hal
  go_enter Tryd.func6, Tryd.ntmps6
  go_upto_region 4 with fail
  clear hw1 hw2 z1' p0 p1 hr0 hr1 hrm hm
  go_wp2_with fail
  refine HGT.out.mono ?_
  rintro e w3 ⟨gr, rfl, hsm, hg3⟩
  have HG3 := Lib.hid (HG.out.trans hg3)
  have HOW := Lib.hid (HO1.out.keep hg3)
  have q0 := (HO1.out.keep hg3).cell_at (i := 0) rfl
  clear hg3 HGT HG HO1
  cases gr with
  | true =>
    clear hsm
    go_wp2_with fail
    refine (HV.out w3 HG3.out).mono ?_
    rintro e w9 ⟨rfl, hg9⟩
    have HG9 := Lib.hid (Grew.trans HG3.out hg9)
    clear hg9
    go_wp2_with fail
    go_ret
    exact ⟨rfl, HG9.out⟩
  | false =>
    have hsm := hsm rfl
    have HSM := Lib.hid hsm
    clear hsm
    by_cases hn30 : 30 < a.length
    · have hb : decide ((30 : Int) < (a.length : Int)) = true := by simp; omega
      have HB := Lib.hid hn30
      clear hn30
      go_wp2_with fail
      refine (HV.out w3 HG3.out).mono ?_
      rintro e w9 ⟨rfl, hg9⟩
      have HG9 := Lib.hid (Grew.trans HG3.out hg9)
      clear hg9
      go_wp2_with fail
      go_ret
      exact ⟨rfl, HG9.out⟩
    · have hb : decide ((30 : Int) < (a.length : Int)) = false := by simp; omega
      have hna : a.length ≤ 30 := by omega
      clear hn30
      have hfew := HSM.out.few
      have HF := Lib.hid hfew
      have HMA := Lib.hid (pMay_ok a hfew (by unfold reachN; omega) z0 m (by omega) (by omega) w3 _ (HA.out w3 HG3.out))
      clear hfew
      go_wp2_with fail
      refine HMA.out.mono ?_
      rintro e w4 ⟨rfl, hg4⟩
      have HG4 := Lib.hid (HG3.out.trans hg4)
      have HOW4 := Lib.hid (HOW.out.keep hg4)
      clear hg4 HMA HOW q0 hb
      cases hmay : a.mayB z0 m with
      | false =>
        go_wp2_with fail
        refine (HV.out w4 HG4.out).mono ?_
        rintro e w9 ⟨rfl, hg9⟩
        have HG9 := Lib.hid (Grew.trans HG4.out hg9)
        clear hg9
        go_wp2_with fail
        go_ret
        exact ⟨rfl, HG9.out⟩
      | true =>
        have hpos := may_len hmay
        have HMAY := Lib.hid hmay
        have HLA := Lib.hid HF.out
        clear hmay
        go_upto_region 6 with fail
        obtain ⟨w5, hw5⟩ : ∃ w5, w4.alloc (.cells #[.slice none 0 0] 24) = w5 := ⟨_, rfl⟩
        have g5 : Grew w4 w5 := hw5 ▸ grew_alloc w4 _
        have HBD := Lib.hid (BdAt.start (l := dblA a how m) g5 (Nat.le_refl _) (hw5 ▸ Owns.alloc w4 _ _ : Owns w5 w4.heap.size [.slice none 0 0] 24))
        clear g5
        go_upto_region 8 with fail
        clear hw5
        go_wp2_with fail
        go_loopw [11, 12] (fun p i wr => ∃ (q j : Nat) (v : Value) (vs : List (Value × Value × Value)), p = .int .i64 q ∧ i = .int .i64 j ∧ j ≤ 2 * a.length ∧ Hid (AtOf a how m j q) ∧ Hid (BdAt (dblA a how m) w4 wr w4.heap.size v j vs)) (fun _ i _ => 2 * a.length - (intOf i).toNat)
        case atStart => exact ⟨0, 0, _, _, rfl, rfl, by omega, AtOf.start _ _ _, HBD.out⟩
        case round =>
          clear HBD
          obtain ⟨q, j, v, vs, rfl, rfl, hj, HAT, HBD⟩ := hrel
          have q0 := (HOW4.out.keep HBD.out.low).cell_at (i := 0) rfl
          have lA := (HOW4.out.keep HBD.out.low).lt
          have hw2n : IntKind.i64.wrap (2 * (a.length : Int)) = 2 * (a.length : Int) := wrap_small _ (by omega) (by omega)
          by_cases hjl : j < 2 * a.length
          · have hd1 : decide ((j : Int) < 2 * (a.length : Int)) = true := decide_eq_true (by omega)
            obtain ⟨jm, hjm, htm, HNX⟩ := HAT.out.more HF.out hjl
            have hn0 : (a.length : Int) ≠ 0 := by omega
            have hnil : ¬ a = [] := by
              rintro rfl
              simp at hpos
            have hwj := wrap_small (jm : Int) (by omega) (by omega)
            obtain ⟨sb, so, v0, v1, v2, rfl, hsb, e0, e1, e2, hst⟩ := HSA.out jm hjm
            obtain ⟨rfl, hal', hE⟩ := hst
            have hsm : a[jm] ∈ a := List.getElem_mem hjm
            have hkin := HU.out _ hsm
            have hel := HF.out.edges _ hsm
            have hll' := HF.out.alts _ hsm
            obtain ⟨za, zc, rfl, _, hZ⟩ := id hal'
            obtain ⟨ea, ec, rfl, _, hE⟩ := hE
            obtain ⟨s, hs⟩ : ∃ s, a[jm] = s := ⟨_, rfl⟩
            rw [hs] at e0 e1 e2 hal' hE hkin hel hll'
            simp only [hs] at HNX
            have HNX := Lib.hid HNX
            have HE := Lib.hid hE
            have HAL := Lib.hid hal'
            have gW := HG4.out.trans HBD.out.low
            have s0 := (gW.cells _ (so + jm * 3) hsb).trans e0
            have s1 := (gW.cells _ (so + jm * 3 + 1) hsb).trans e1
            have s2 := (gW.cells _ (so + jm * 3 + 2) hsb).trans e2
            have sl : sb < wr.heap.size := Nat.lt_of_lt_of_le hsb gW.size
            obtain ⟨n, hn⟩ : ∃ n, s.edges.length = n := ⟨_, rfl⟩
            have HN := Lib.hid hn
            rw [hn] at s2 hel
            have HLL := Lib.hid hll'
            have HTG : Hid (∀ e ∈ s.edges, 0 ≤ e.tgt ∧ e.tgt < a.length) := Lib.hid fun e he => by
              obtain ⟨t, h1, h2⟩ := (okay_of_may HMAY.out).tgt jm e (by rw [(Aut.at hjm).2.2, hs]; exact he)
              omega
            have hcr : Hid (∀ w, Grew wr w → ∃ r w', (Builtin.append_ #[26, 26] 26 #[.slice none 0 0, .slice za s.alts.length zc]).run Tryd.prog w = .ok r w' ∧ Grew w w' ∧ AltsR wr.heap.size s.alts r w') :=
              Lib.hid fun w hg => copy_run wr.heap.size s.alts HLL.out w hg.size _ (HAL.out.grew (gW.trans hg))
            obtain ⟨wo, rfl⟩ : ∃ wo : World, wo = wr := ⟨_, rfl⟩
            clear hsm hs hE hal' hZ hll' gW e0 e1 e2 hn
            go_upto_region 11 with fail
            refine wp_region_hav_lit follows (by kernel_rfl) ?_
            repeat (first
              | (refine HavG.skip (fun _ => rfl) ?_; simp only [Act.put, List.setIfInBounds_toArray, List.set_cons_zero, List.set_cons_succ])
              | (refine HavG.val (fun _ => rfl) ?_ (fun x w hw _ => ?_) ?_; rotate_left; (focus (have hc := hw.cells; clear hw; go_simp; first | done | rfl)); simp only [Act.put, List.setIfInBounds_toArray, List.set_cons_zero, List.set_cons_succ]))
            refine HavG.any (fun _ => rfl) (FreshAt wo.heap.size [.int .u8 0, .slice none 0 0, .slice none 0 0] 51) (fun _ _ _ hg h => h.keep hg) (fun x w hw _ => ?_) ?_
            · have HW := Lib.hid hw
              clear hw
              go_simp
              exact ⟨grew_alloc _ _, _, rfl, HW.out.size, Owns.alloc _ _ _⟩
            simp only [Act.put, List.setIfInBounds_toArray, List.set_cons_zero, List.set_cons_succ]
            refine HavG.tail (by kernel_rfl) (by kernel_rfl) (fun x wt hw hx => ?_)
            have hx7 := hx _ (List.mem_append_right _ (List.mem_singleton.2 rfl))
            clear hx
            dsimp only at hx7
            generalize x (0 + 1 + 1 + 1 + 1 + 1 + 1 + 1) = y7 at *
            obtain ⟨bs, rfl, hbs, hos⟩ := hx7
            have y0 := hos.cell_at (i := 0) rfl
            have y1 := hos.cell_at (i := 1) rfl
            have y2 := hos.cell_at (i := 2) rfl
            have f0 := hos.free 0
            have f1 := hos.free 1
            have f2 := hos.free 2
            have bl := hos.lt
            have HO13 := Lib.hid (hos.put3 (.int .u8 s.kind) (.slice za s.alts.length zc) (.slice ea n ec))
            have HG13 := Lib.hid (show Grew wo _ from below_put3 (show Grew wo wt from hw) hbs (.int .u8 s.kind) (.slice za s.alts.length zc) (.slice ea n ec))
            have HB13 := Lib.hid hbs
            clear hw hos hbs s0 s1 s2 sl
            go_upto_region 12 with fail
            clear y0 y1 y2 f0 f1 f2 bl
            generalize ((wt.setCell ⟨bs, 0, none⟩ (.int .u8 s.kind)).setCell ⟨bs, 1, none⟩ (.slice za s.alts.length zc)).setCell ⟨bs, 2, none⟩ (.slice ea n ec) = wa at *
            have t0 := HO13.out.cell_at (i := 0) rfl
            have t1 := HO13.out.cell_at (i := 1) rfl
            have tl := HO13.out.lt
            refine wp_region_hav_lit follows (by kernel_rfl) ?_
            repeat (first
              | (refine HavG.skip (fun _ => rfl) ?_; simp only [Act.put, List.setIfInBounds_toArray, List.set_cons_zero, List.set_cons_succ])
              | (refine HavG.val (fun _ => rfl) ?_ (fun x w hw _ => ?_) ?_; rotate_left; (focus (have hc := hw.cells; clear hw; go_simp; first | done | rfl)); simp only [Act.put, List.setIfInBounds_toArray, List.set_cons_zero, List.set_cons_succ]))
            refine HavG.any (fun _ => rfl) (AltsR wo.heap.size s.alts) (fun _ _ _ hg h => h.keep hg) (fun x w hw _ => ?_) ?_
            · obtain ⟨r, w', hr, hg, hal⟩ := hcr.out w (HG13.out.trans hw)
              exact uponV_append _ _ _ _ rfl rfl rfl hr ⟨hg, hal⟩
            simp only [Act.put, List.setIfInBounds_toArray, List.set_cons_zero, List.set_cons_succ]
            refine HavG.any (fun _ => rfl) (BuiltR wo.heap.size s.kind s.alts) (fun _ _ _ hg h => h.keep hg) (fun x w hw hd => ?_) ?_
            · have hd5 := hd _ (List.mem_append_right _ (List.mem_singleton.2 rfl)) (by kernel_rfl)
              dsimp only at hd5
              clear hd hw
              generalize x (0 + 1 + 1 + 1 + 1) = y5 at *
              obtain ⟨ya, ym, yc, rfl⟩ := row_form hd5
              have H5 := Lib.hid hd5
              clear hd5
              go_simp
              exact ⟨Grew.refl w, _, _, _, rfl, H5.out⟩
            simp only [Act.put, List.setIfInBounds_toArray, List.set_cons_zero, List.set_cons_succ]
            refine HavG.any (fun _ => rfl) (FreshAt wa.heap.size [.int .u8 0, .slice none 0 0, .slice none 0 0] 51) (fun _ _ _ hg h => h.keep hg) (fun x w hw _ => ?_) ?_
            · have HW := Lib.hid hw
              clear hw
              go_simp
              exact ⟨grew_alloc _ _, _, rfl, HW.out.size, Owns.alloc _ _ _⟩
            simp only [Act.put, List.setIfInBounds_toArray, List.set_cons_zero, List.set_cons_succ]
            refine HavG.tail (by kernel_rfl) (by kernel_rfl) (fun x wu hw hx => ?_)
            have hx7 := hx _ (List.mem_append_right _ (List.mem_singleton.2 rfl))
            have hx6 := hx _ (List.mem_append_left _ (List.mem_append_right _ (List.mem_singleton.2 rfl)))
            clear hx
            dsimp only at hx7 hx6
            generalize x (0 + 1 + 1 + 1 + 1) = y4 at *
            generalize x (0 + 1 + 1 + 1 + 1 + 1) = y5 at *
            generalize x (0 + 1 + 1 + 1 + 1 + 1 + 1) = y6 at *
            obtain ⟨b, rfl, hb, hob⟩ := hx7
            obtain ⟨ua, um, uc, rfl, hur⟩ := hx6
            have y0 := hob.cell_at (i := 0) rfl
            have y1 := hob.cell_at (i := 1) rfl
            have y2 := hob.cell_at (i := 2) rfl
            have f0 := hob.free 0
            have f1 := hob.free 1
            have f2 := hob.free 2
            have bl := hob.lt
            have hwo := Nat.le_trans HG13.out.size hb
            have hob3 := hob.put3 (.int .u8 s.kind) (.slice ua um uc) (.slice none 0 0)
            have hg3 := below_put3 (show Grew wo wu from HG13.out.trans hw) hwo (.int .u8 s.kind) (.slice ua um uc) (.slice none 0 0)
            have hty : ∀ {k : Nat}, (Value.slice ua um uc).ownBlock = some k → b ≠ k := fun e => type_ne (owns_type hob) (row_type hur e) (by decide)
            have hur3 := (((looseRow.off hur (a := ⟨b, 0, none⟩) (fun e => hty e rfl) (.int .u8 s.kind)).off (a := ⟨b, 1, none⟩) (fun e => hty e rfl) (.slice ua um uc)).off (a := ⟨b, 2, none⟩) (fun e => hty e rfl) (.slice none 0 0))
            have HIN := Lib.hid (⟨hg3, hwo, hob3, hur3, ⟨rfl, .inl ⟨rfl, rfl⟩⟩⟩ : InAt wo _ b s.kind s.alts (.slice ua um uc) (.slice none 0 0) [])
            have HSB := Lib.hid (((HO13.out.keep hw).below (below_put3 (Below.refl wa.heap.size wu) hb (.int .u8 s.kind) (.slice ua um uc) (.slice none 0 0)) tl))
            have HBB := Lib.hid (Nat.lt_of_lt_of_le tl hb)
            clear hw hob hob3 hg3 hur hur3 hty t0 t1 tl hwo HO13 HG13
            go_upto_region 13 with fail
            clear y0 y1 y2 f0 f1 f2 bl
            generalize ((wu.setCell ⟨b, 0, none⟩ (.int .u8 s.kind)).setCell ⟨b, 1, none⟩ (.slice ua um uc)).setCell ⟨b, 2, none⟩ (.slice none 0 0) = wb at *
            go_wp2_with fail
            obtain ⟨i0, hi, hz0, hz1, hz2⟩ := info_parts info_oEdge
            have HI := Lib.hid hi
            have HZ0 := Lib.hid hz0
            have HZ1 := Lib.hid hz1
            have HZ2 := Lib.hid hz2
            clear hi hz0 hz1 hz2
            obtain ⟨E, hE⟩ : ∃ E, dblE how a.length s.edges q = E := ⟨_, rfl⟩
            have HEE := Lib.hid hE
            have HEL := Lib.hid (show E.length = n by rw [← hE, dblE_len, HN.out])
            clear hE
            go_loopw [11, 15] (fun p i wr => ∃ (k : Nat) (ev : Value), p = .int .i64 ((q + k : Nat) : Int) ∧ i = .int .i64 k ∧ k ≤ n ∧ Hid (InAt wo wr b s.kind s.alts (.slice ua um uc) ev (E.take k)) ∧ Hid (Owns wr bs [.int .u8 s.kind, .slice za s.alts.length zc, .slice ea n ec] 51)) (fun _ i _ => n - (intOf i).toNat)
            case atStart => exact ⟨0, _, rfl, rfl, by omega, HIN.out, HSB.out⟩
            case round =>
              clear HIN HSB
              obtain ⟨k, ev, rfl, rfl, hk, HIN, HSB⟩ := hrel
              have t2 := HSB.out.cell_at (i := 2) rfl
              have tl := HSB.out.lt
              by_cases hkm : k < n
              · have hkl : k < s.edges.length := by rw [HN.out]; exact hkm
                obtain ⟨eb, eoff, rfl, heb, e0, e1⟩ := HE.out k hkl
                have hsn := dblE_snoc how a.length s.edges q k hkl
                rw [HEE.out] at hsn
                have gW := HG4.out.trans (HBD.out.low.trans HIN.out.low)
                have s0 := (gW.cells _ (eoff + k * 2) heb).trans e0
                have s1 := (gW.cells _ (eoff + k * 2 + 1) heb).trans e1
                have fl : eb < wr.heap.size := Nat.lt_of_lt_of_le heb gW.size
                have htg := HTG.out _ (List.getElem_mem hkl)
                obtain ⟨ed, hed⟩ : ∃ ed, s.edges[k] = ed := ⟨_, rfl⟩
                rw [hed] at s0 s1 hsn htg
                obtain ⟨tk, tg⟩ := ed
                clear e0 e1 hed hkl
                simp only at s0 s1 hsn htg
                have HTG2 := Lib.hid htg
                clear htg
                obtain ⟨w7, hw7⟩ : ∃ w7, wr.alloc (.cells #[.int .i64 tk, .int .i64 tg] 53) = w7 := ⟨_, rfl⟩
                have g7 : Grew wr w7 := hw7 ▸ grew_alloc wr _
                have o7 : Owns w7 wr.heap.size [.int .i64 tk, .int .i64 tg] 53 := hw7 ▸ Owns.alloc wr _ _
                have HG7 := Lib.hid g7
                have HO7 := Lib.hid o7
                have HSN := Lib.hid hsn
                obtain ⟨r, hr⟩ : ∃ r, q + k = r := ⟨_, rfl⟩
                have HR := Lib.hid hr
                rw [hr] at hsn ⊢
                clear hr gW g7 o7
                go_upto_region 17 with fail
                clear s0 s1 fl hw7
                go_cut [87] (fun s87 wx => s87 = .bool (upB how r) ∧ wx = w7)
                case first =>
                  by_cases hrl : r < how.length
                  · obtain ⟨lb, lo, rfl, hlb, hlc⟩ := HL.out r hrl
                    have lc7 := (((HG4.out.trans (HBD.out.low.trans HIN.out.low)).trans HG7.out).cells _ (lo + r) hlb).trans hlc
                    have lb7 : lb < w7.heap.size := Nat.lt_of_lt_of_le hlb ((HG4.out.trans (HBD.out.low.trans HIN.out.low)).trans HG7.out).size
                    obtain ⟨k2, hk2⟩ : ∃ k2, Int.tmod how[r] 2 = k2 := ⟨_, rfl⟩
                    obtain ⟨c1', c2', hup⟩ := up_in hrl (HLI.out _ (List.getElem_mem hrl)).1 hk2
                    obtain ⟨hr8, hhr⟩ : ∃ z, how[r] = z := ⟨_, rfl⟩
                    rw [hhr] at hk2 lc7
                    have hd2 : decide ((r : Int) < (how.length : Int)) = true := decide_eq_true (by omega)
                    have HUP := Lib.hid hup
                    clear hhr hlc hlb hup
                    rcases (by omega : k2 = 0 ∨ k2 = 1) with rfl | rfl
                    · go_wp2_with fail
                      go_meet
                      exact ⟨by rw [HUP.out]; rfl, rfl⟩
                    · go_wp2_with fail
                      go_meet
                      exact ⟨by rw [HUP.out]; rfl, rfl⟩
                  · have hd2 : decide ((r : Int) < (how.length : Int)) = false := decide_eq_false (by omega)
                    have HUP := Lib.hid (how_out (Nat.le_of_not_lt hrl)).1
                    go_wp2_with fail
                    go_meet
                    exact ⟨by rw [HUP.out], rfl⟩
                case rest =>
                  obtain ⟨rfl, rfl⟩ := hcut
                  have htg := HTG2.out
                  generalize hup : upB how r = up at *
                  have HUP := Lib.hid hup
                  clear hup
                  go_upto_if 87 with fail
                  go_cut [] (fun wx => Hid (Grew wr wx) ∧ Hid (Owns wx wr.heap.size [.int .i64 tk, .int .i64 (if up then tg + a.length else tg)] 53))
                  case first =>
                    cases up
                    · go_wp2_with fail
                      go_meet
                      exact ⟨HG7.out, HO7.out⟩
                    · have y1 := HO7.out.cell_at (i := 1) rfl
                      have f1 := HO7.out.free 1
                      have bl := HO7.out.lt
                      have hw1 : IntKind.i64.wrap (tg + (a.length : Int)) = tg + (a.length : Int) := wrap_small _ (by omega) (by omega)
                      go_wp2_with fail
                      go_meet
                      exact ⟨HG7.out.setCell (p := ⟨wr.heap.size, 1, none⟩) (Nat.le_refl _) _, HO7.out.set 1 _⟩
                  case rest =>
                    obtain ⟨HG8, HO8⟩ := hcut
                    clear HG7 HO7
                    obtain ⟨tg', htg'⟩ : ∃ t, (if up = true then tg + (a.length : Int) else tg) = t := ⟨_, rfl⟩
                    rw [htg'] at HO8
                    have HT' := Lib.hid htg'
                    have HSNT := Lib.hid (show E.take k ++ [(⟨tk, tg'⟩ : Ed)] = E.take (k + 1) by rw [HSN.out, HR.out, HUP.out, htg'])
                    have hrb : r ≤ 30000 := by have := HAT.out.2; have := HR.out; omega
                    have htk : (E.take k).length = k := by rw [List.length_take, HEL.out]; omega
                    have HTK := Lib.hid htk
                    obtain ⟨w8, hw8⟩ : ∃ w8, wc.alloc (.cells #[.int .i64 tk, .int .i64 tg'] 53) = w8 := ⟨_, rfl⟩
                    have g8 : Grew wc w8 := hw8 ▸ grew_alloc wc _
                    have o8 : Owns w8 wc.heap.size [.int .i64 tk, .int .i64 tg'] 53 := hw8 ▸ Owns.alloc wc _ _
                    have HIN7 := Lib.hid (HIN.out.keep HG8.out)
                    have HIN8 := Lib.hid (HIN7.out.keep g8)
                    have HSB8 := Lib.hid ((HSB.out.keep HG8.out).keep g8)
                    have hrow := HIN8.out.row
                    rw [htk] at hrow
                    have HROW := Lib.hid hrow
                    have HNS := Lib.hid (news_owns o8)
                    have H63 := Lib.hid (show k + 1 ≤ maxLen by unfold maxLen; omega)
                    have H64 := Lib.hid (show (k + 1) * 16 ≤ 140737488355328 by omega)
                    have HLIM := Lib.hid HIN8.out.low.size
                    have b2 := HIN7.out.box.cell_at (i := 2) rfl
                    have bl := HIN7.out.box.lt
                    have x0 := HO8.out.cell_at (i := 0) rfl
                    have x1 := HO8.out.cell_at (i := 1) rfl
                    have xl := HO8.out.lt
                    clear g8 o8 hrow htk htg'
                    go_wp2_with (at_builtin; refine wpList_append_loose w8 rfl _ _ 49 rfl wo.heap.size 53 i0 _ 2 16 Tryd.underlying49 HI.out HZ0.out HZ1.out HZ2.out rfl (by decide) ev k (edVs (E.take k)) rfl HROW.out ⟨wc.heap.size, 0, none⟩ 1 1 [.int .i64 tk, .int .i64 tg'] rfl rfl HNS.out (two_ints _ _) (by decide) H63.out H64.out HLIM.out _ rfl ?_; intro gb cap w9 hown hgrow hat hlt3; have HOWN := Lib.hid hown; have HGROW := Lib.hid hgrow; have hb4 := HIN8.out.box.apart HIN8.out.row hgrow (by decide); have b18 : w9.cell? ⟨b, 2, none⟩ = some ev := hb4.cell_at (i := 2) rfl; have f18 : w9.frozen? ⟨b, 2, none⟩ = false := hb4.free 2; have l18 := hb4.lt; clear hb4 hown hgrow hat hlt3)
                    have hp := HIN8.out.push (e := ⟨tk, tg'⟩) HTK.out HOWN.out HGROW.out
                    have hpv : (Value.int .i64 ((r : Int) + 1)) = .int .i64 ((q + (k + 1) : Nat) : Int) := by rw [← HR.out, ← Nat.add_assoc]; rfl
                    rw [HSNT.out] at hp
                    refine ⟨⟨k + 1, _, hpv, rfl, by omega, hp, ?_⟩, by simp [intOf]; omega⟩
                    exact (HSB8.out.apart HROW.out HGROW.out (by decide)).other (a := ⟨b, 2, none⟩) (by have := HBB.out; show b ≠ bs; omega) _
              · obtain rfl : n = k := by omega
                have htk : E.take n = E := by rw [← HEL.out, List.take_length]
                have hin := HIN.out
                rw [htk] at hin
                have HIN := Lib.hid hin
                have hro := hin.row
                rw [HEL.out] at hro
                obtain ⟨eva, evc, rfl⟩ := row_slice hro
                have HRO := Lib.hid hro
                obtain ⟨r, hr⟩ : ∃ r, q + n = r := ⟨_, rfl⟩
                have HR := Lib.hid hr
                rw [hr]
                obtain ⟨kd, hkd⟩ : ∃ kd, s.kind = kd := ⟨_, rfl⟩
                have HKD := Lib.hid hkd
                have t0 := HSB.out.cell_at (i := 0) rfl
                have b2 := HIN.out.box.cell_at (i := 2) rfl
                have bl := HIN.out.box.lt
                rw [hkd] at t0
                obtain ⟨mb, hmb⟩ : ∃ mb : Bool, decide (s.kind = 0 ∧ 0 < m ∧ roomB m s.edges = true ∧ downB how r = true) = mb := ⟨_, rfl⟩
                have HMB := Lib.hid hmb
                clear htk hin hro hr hkd hmb
                go_upto_region 21 with fail
                go_cut [141] (fun s141 wx => s141 = .bool mb ∧ wx = wr)
                case first =>
                  by_cases hk0 : kd = 0
                  · subst hk0
                    by_cases hm1 : 0 < m
                    · have hd3 : decide (0 < m) = true := decide_eq_true hm1
                      have HM1 := Lib.hid hm1
                      have hwm : IntKind.i64.wrap (m - 1) = m - 1 := wrap_small _ (by omega) (by omega)
                      rcases Nat.eq_zero_or_pos n with hn0 | hn0
                      · subst hn0
                        have HRM := Lib.hid (room_nil (many := m) HN.out)
                        by_cases hrl : r < how.length
                        · obtain ⟨lb, lo, rfl, hlb, hlc⟩ := HL.out r hrl
                          have gW := HG4.out.trans (HBD.out.low.trans HIN.out.low)
                          have lc7 := (gW.cells _ (lo + r) hlb).trans hlc
                          have lb7 : lb < wr.heap.size := Nat.lt_of_lt_of_le hlb gW.size
                          obtain ⟨k4, hk4⟩ : ∃ k4, Int.tmod how[r] 4 = k4 := ⟨_, rfl⟩
                          obtain ⟨c1', c2', hdn⟩ := down_in hrl (HLI.out _ (List.getElem_mem hrl)).1 hk4
                          obtain ⟨hr8, hhr⟩ : ∃ z, how[r] = z := ⟨_, rfl⟩
                          rw [hhr] at hk4 lc7
                          have hd2 : decide ((r : Int) < (how.length : Int)) = true := decide_eq_true (by omega)
                          have HDN := Lib.hid hdn
                          have hwk := wrap_u8_few ⟨c1', c2'⟩
                          clear hhr hlc hlb hdn gW
                          go_wp2_with fail
                          go_meet
                          refine ⟨?_, rfl⟩
                          have := mb_is HMB.out (decide_eq_true HKD.out) (decide_eq_true HM1.out)
                          rw [HRM.out, HDN.out] at this
                          exact this
                        · have hd2 : decide ((r : Int) < (how.length : Int)) = false := decide_eq_false (by omega)
                          have HDN := Lib.hid (how_out (Nat.le_of_not_lt hrl)).2
                          go_wp2_with fail
                          go_meet
                          refine ⟨?_, rfl⟩
                          have := mb_is HMB.out (decide_eq_true HKD.out) (decide_eq_true HM1.out)
                          rw [HRM.out, HDN.out] at this
                          exact this
                      · obtain ⟨n', rfl⟩ : ∃ n', n = n' + 1 := ⟨n - 1, by omega⟩
                        obtain ⟨x, hx, hroom⟩ := room_dbl (many := m) HEE.out HN.out
                        rcases row_cells HRO.out with ⟨h1, h0⟩ | ⟨g, cap, h1, hc, _, hg, hcell⟩
                        · omega
                        · obtain ⟨rfl, _, rfl⟩ := Value.slice.inj h1
                          have hx2 := hcell _ _ hx
                          clear hcell hx h1
                          by_cases hlt : x < m - 1
                          · have hd4 : decide (x < m - 1) = true := decide_eq_true hlt
                            rw [hd4] at hroom
                            have HRM := Lib.hid hroom
                            clear hroom
                            by_cases hrl : r < how.length
                            · obtain ⟨lb, lo, rfl, hlb, hlc⟩ := HL.out r hrl
                              have gW := HG4.out.trans (HBD.out.low.trans HIN.out.low)
                              have lc7 := (gW.cells _ (lo + r) hlb).trans hlc
                              have lb7 : lb < wr.heap.size := Nat.lt_of_lt_of_le hlb gW.size
                              obtain ⟨k4, hk4⟩ : ∃ k4, Int.tmod how[r] 4 = k4 := ⟨_, rfl⟩
                              obtain ⟨c1', c2', hdn⟩ := down_in hrl (HLI.out _ (List.getElem_mem hrl)).1 hk4
                              obtain ⟨hr8, hhr⟩ : ∃ z, how[r] = z := ⟨_, rfl⟩
                              rw [hhr] at hk4 lc7
                              have hd2 : decide ((r : Int) < (how.length : Int)) = true := decide_eq_true (by omega)
                              have HDN := Lib.hid hdn
                              have hwk := wrap_u8_few ⟨c1', c2'⟩
                              clear hhr hlc hlb hdn gW
                              go_wp2_with fail
                              go_meet
                              refine ⟨?_, rfl⟩
                              have := mb_is HMB.out (decide_eq_true HKD.out) (decide_eq_true HM1.out)
                              rw [HRM.out, HDN.out] at this
                              exact this
                            · have hd2 : decide ((r : Int) < (how.length : Int)) = false := decide_eq_false (by omega)
                              have HDN := Lib.hid (how_out (Nat.le_of_not_lt hrl)).2
                              go_wp2_with fail
                              go_meet
                              refine ⟨?_, rfl⟩
                              have := mb_is HMB.out (decide_eq_true HKD.out) (decide_eq_true HM1.out)
                              rw [HRM.out, HDN.out] at this
                              exact this
                          · have hd4 : decide (x < m - 1) = false := decide_eq_false hlt
                            rw [hd4] at hroom
                            have HRM := Lib.hid hroom
                            clear hroom
                            go_wp2_with fail
                            go_meet
                            refine ⟨?_, rfl⟩
                            have := mb_is HMB.out (decide_eq_true HKD.out) (decide_eq_true HM1.out)
                            rw [HRM.out] at this
                            exact this
                    · have hd3 : decide (0 < m) = false := decide_eq_false hm1
                      have HM1 := Lib.hid hd3
                      go_wp2_with fail
                      go_meet
                      exact ⟨mb_is HMB.out (decide_eq_true HKD.out) HM1.out, rfl⟩
                  · have hd3 : (kd == 0) = false := by rw [beq_eq_false_iff_ne]; exact hk0
                    have HK0 := Lib.hid hk0
                    go_wp2_with fail
                    go_meet
                    exact ⟨mb_is HMB.out (decide_eq_false (by rw [HKD.out]; exact HK0.out)) rfl, rfl⟩
                case rest =>
                  obtain ⟨rfl, rfl⟩ := hcut
                  clear t0 t2 tl b2 bl
                  obtain ⟨wq, rfl⟩ : ∃ z, z = wc := ⟨_, rfl⟩
                  go_upto_if 141 with fail
                  go_cut [] (fun wx => ∃ ev', Hid (InAt wo wx b s.kind s.alts (.slice ua um uc) ev' (E ++ moreE how a.length m s r)))
                  case first =>
                    cases mb with
                    | false =>
                      go_wp2_with fail
                      go_meet
                      have := HIN.out
                      rw [more_is HMB.out]
                      simp only [Bool.false_eq_true, if_false, List.append_nil]
                      exact ⟨_, this⟩
                    | true =>
                      obtain ⟨w8, hw8⟩ : ∃ w8, wq.alloc (.cells #[.int .i64 (m - 1), .int .i64 (2 * (a.length : Int))] 53) = w8 := ⟨_, rfl⟩
                      have g8 : Grew wq w8 := hw8 ▸ grew_alloc wq _
                      have o8 : Owns w8 wq.heap.size [.int .i64 (m - 1), .int .i64 (2 * (a.length : Int))] 53 := hw8 ▸ Owns.alloc wq _ _
                      have HIN8 := Lib.hid (HIN.out.keep g8)
                      have hrow := HIN8.out.row
                      rw [HEL.out] at hrow
                      have HROW := Lib.hid hrow
                      have HNS := Lib.hid (news_owns o8)
                      have H63 := Lib.hid (show n + 1 ≤ maxLen by unfold maxLen; omega)
                      have H64 := Lib.hid (show (n + 1) * 16 ≤ 140737488355328 by omega)
                      have HLIM := Lib.hid HIN8.out.low.size
                      have b2 := HIN.out.box.cell_at (i := 2) rfl
                      have bl := HIN.out.box.lt
                      have hwm : IntKind.i64.wrap (m - 1) = m - 1 := wrap_small _ (by omega) (by omega)
                      clear g8 o8 hrow
                      go_wp2_with (at_builtin; refine wpList_append_loose w8 rfl _ _ 49 rfl wo.heap.size 53 i0 _ 2 16 Tryd.underlying49 HI.out HZ0.out HZ1.out HZ2.out rfl (by decide) (.slice eva n evc) n (edVs E) rfl HROW.out ⟨wq.heap.size, 0, none⟩ 1 1 [.int .i64 (m - 1), .int .i64 (2 * (a.length : Int))] rfl rfl HNS.out (two_ints _ _) (by decide) H63.out H64.out HLIM.out _ rfl ?_; intro gb cap w9 hown hgrow hat hlt3; have HOWN := Lib.hid hown; have HGROW := Lib.hid hgrow; have hb4 := HIN8.out.box.apart HIN8.out.row hgrow (by decide); have b18 : w9.cell? ⟨b, 2, none⟩ = some (.slice eva n evc) := hb4.cell_at (i := 2) rfl; have f18 : w9.frozen? ⟨b, 2, none⟩ = false := hb4.free 2; have l18 := hb4.lt; clear hb4 hown hgrow hat hlt3)
                      go_meet
                      have hp := HIN8.out.push (e := ⟨m - 1, 2 * (a.length : Int)⟩) HEL.out HOWN.out HGROW.out
                      rw [more_is HMB.out]
                      simp only [if_true]
                      exact ⟨_, hp⟩
                  case rest =>
                    obtain ⟨ev', HINR⟩ := hcut
                    obtain ⟨wz, rfl⟩ : ∃ z, z = wc := ⟨_, rfl⟩
                    clear HIN HRO HMB
                    obtain ⟨F, hF⟩ : ∃ F, E ++ moreE how a.length m s r = F := ⟨_, rfl⟩
                    rw [hF] at HINR
                    have HFF := Lib.hid hF
                    clear hF
                    have hro := HINR.out.row
                    obtain ⟨fa, fc, rfl⟩ := row_slice hro
                    obtain ⟨fl, hfl⟩ : ∃ fl, F.length = fl := ⟨_, rfl⟩
                    have HFL := Lib.hid hfl
                    rw [hfl] at hro HINR
                    obtain ⟨w9, hw9⟩ : ∃ w9, wz.alloc (.cells #[.int .u8 s.kind, .slice ua um uc, .slice fa fl fc] 51) = w9 := ⟨_, rfl⟩
                    have g9 : Grew wz w9 := hw9 ▸ grew_alloc wz _
                    have o9 : Owns w9 wz.heap.size [.int .u8 s.kind, .slice ua um uc, .slice fa fl fc] 51 := hw9 ▸ Owns.alloc wz _ _
                    have gwo := HBD.out.low
                    have HBZ := Lib.hid (HBD.out.keep HINR.out.low)
                    have HB9 := Lib.hid (HBZ.out.keep g9)
                    have HRE := Lib.hid ((hro.keep g9).base gwo.size)
                    have HAR := Lib.hid ((HINR.out.alts.keep g9).base gwo.size)
                    have HROW := Lib.hid HB9.out.row
                    have HNS := Lib.hid (news_owns o9)
                    have H63 := Lib.hid (show j + 1 ≤ maxLen by unfold maxLen; omega)
                    have H64 := Lib.hid (show (j + 1) * 56 ≤ 140737488355328 by omega)
                    have HLIM := Lib.hid HB9.out.low.size
                    have HL1 : Hid (∀ u ∈ [Value.int .u8 s.kind, .slice ua um uc, .slice fa fl fc], u.oneCell' = true) := Lib.hid (by
                      intro u hu
                      simp only [List.mem_cons, List.not_mem_nil, or_false] at hu
                      rcases hu with rfl | rfl | rfl <;> rfl)
                    have c0 := HINR.out.box.cell_at (i := 0) rfl
                    have c1' := HINR.out.box.cell_at (i := 1) rfl
                    have c2' := HINR.out.box.cell_at (i := 2) rfl
                    have cl := HINR.out.box.lt
                    have x0 := HBZ.out.box.cell_at (i := 0) rfl
                    have xl := HBZ.out.box.lt
                    obtain ⟨i1, ji, jz0, jz1, jz2⟩ := info_parts info_oState
                    have JI := Lib.hid ji
                    have JZ0 := Lib.hid jz0
                    have JZ1 := Lib.hid jz1
                    have JZ2 := Lib.hid jz2
                    clear g9 o9 gwo hro hfl ji jz0 jz1 jz2
                    go_wp2_with (at_builtin; refine wpList_append_loose w9 rfl _ _ 22 rfl w4.heap.size 51 i1 _ 3 56 Tryd.underlying22 JI.out JZ0.out JZ1.out JZ2.out rfl (by decide) v j (triVs vs) rfl HROW.out ⟨wz.heap.size, 0, none⟩ 1 1 [.int .u8 s.kind, .slice ua um uc, .slice fa fl fc] rfl rfl HNS.out HL1.out (by decide) H63.out H64.out HLIM.out _ rfl ?_; intro gb cap w10 hown hgrow hat hlt3; have HOWN := Lib.hid hown; have HGROW := Lib.hid hgrow; have hb4 := HB9.out.box.apart HROW.out hgrow (by decide); have b18 : w10.cell? ⟨w4.heap.size, 0, none⟩ = some v := hb4.cell_at (i := 0) rfl; have f18 : w10.frozen? ⟨w4.heap.size, 0, none⟩ = false := hb4.free 0; have l18 := hb4.lt; clear hb4 hown hgrow hat hlt3)
                    obtain ⟨⟨hl1, hdj⟩, hat⟩ := HNX.out
                    have hat2 : AtOf a how m (j + 1) r := by rw [← HR.out, ← HN.out]; exact hat
                    have hF2 : (dblS how a.length m s q).edges = F := by
                      show dblE how a.length s.edges q ++ moreE how a.length m s (q + s.edges.length) = F
                      rw [HEE.out, HN.out, HR.out, HFF.out]
                    have hbd := HB9.out.next hl1 HGROW.out (by rw [hdj]; exact HOWN.out) (by rw [hdj]; exact HAR.out) (by rw [hdj, hF2, HFL.out]; exact HRE.out)
                    exact ⟨⟨r, j + 1, _, _, rfl, rfl, by omega, hat2, hbd⟩, by simp [intOf]; omega⟩
          · have hd1 : decide ((j : Int) < 2 * (a.length : Int)) = false := decide_eq_false (by omega)
            obtain rfl : j = 2 * a.length := by omega
            obtain ⟨w7, hw7⟩ : ∃ w7, wr.alloc (.cells #[.int .i64 (-1), .int .i64 (2 * (a.length : Int))] 53) = w7 := ⟨_, rfl⟩
            have g7 : Grew wr w7 := hw7 ▸ grew_alloc wr _
            have o7 : Owns w7 wr.heap.size [.int .i64 (-1), .int .i64 (2 * (a.length : Int))] 53 := hw7 ▸ Owns.alloc wr _ _
            obtain ⟨w9, hw9⟩ : ∃ w9, w7.alloc (.cells #[.int .u8 0, .slice none 0 0, .slice (some ⟨wr.heap.size, 0, none⟩) 1 1] 51) = w9 := ⟨_, rfl⟩
            have g9 : Grew w7 w9 := hw9 ▸ grew_alloc w7 _
            have o9 : Owns w9 w7.heap.size [.int .u8 0, .slice none 0 0, .slice (some ⟨wr.heap.size, 0, none⟩) 1 1] 51 := hw9 ▸ Owns.alloc w7 _ _
            have HB9 := Lib.hid (HBD.out.keep (g7.trans g9))
            have HO79 := Lib.hid (o7.keep g9)
            have HROW := Lib.hid HB9.out.row
            have HNS := Lib.hid (news_owns o9)
            have H63 := Lib.hid (show 2 * a.length + 1 ≤ maxLen by unfold maxLen; omega)
            have H64 := Lib.hid (show (2 * a.length + 1) * 56 ≤ 140737488355328 by omega)
            have HLIM := Lib.hid HB9.out.low.size
            have HL1 : Hid (∀ u ∈ [Value.int .u8 0, .slice none 0 0, .slice (some ⟨wr.heap.size, 0, none⟩) 1 1], u.oneCell' = true) := Lib.hid (by
              intro u hu
              simp only [List.mem_cons, List.not_mem_nil, or_false] at hu
              rcases hu with rfl | rfl | rfl <;> rfl)
            have x0 := HBD.out.box.cell_at (i := 0) rfl
            have xl := HBD.out.box.lt
            obtain ⟨i1, ji, jz0, jz1, jz2⟩ := info_parts info_oState
            have JI := Lib.hid ji
            have JZ0 := Lib.hid jz0
            have JZ1 := Lib.hid jz1
            have JZ2 := Lib.hid jz2
            clear g7 g9 o7 o9 ji jz0 jz1 jz2
            go_upto_region 25 with (at_builtin; refine wpList_append_loose w9 rfl _ _ 22 rfl w4.heap.size 51 i1 _ 3 56 Tryd.underlying22 JI.out JZ0.out JZ1.out JZ2.out rfl (by decide) v (2 * a.length) (triVs vs) rfl HROW.out ⟨w7.heap.size, 0, none⟩ 1 1 [.int .u8 0, .slice none 0 0, .slice (some ⟨wr.heap.size, 0, none⟩) 1 1] rfl rfl HNS.out HL1.out (by decide) H63.out H64.out HLIM.out _ rfl ?_; intro gb cap w10 hown hgrow hat hlt3; have HOWN := Lib.hid hown; have HGROW := Lib.hid hgrow; have hb4 := HB9.out.box.apart HROW.out hgrow (by decide); have b18 : w10.cell? ⟨w4.heap.size, 0, none⟩ = some v := hb4.cell_at (i := 0) rfl; have f18 : w10.frozen? ⟨w4.heap.size, 0, none⟩ = false := hb4.free 0; have l18 := hb4.lt; clear hb4 hown hgrow hat hlt3)
            obtain ⟨hl1, hl2⟩ := dblA_end (how := how) (many := m) (show 0 < a.length by omega)
            have hbe := HB9.out.next hl1 HGROW.out (by rw [hl2]; exact HOWN.out) (by rw [hl2]; exact ⟨rfl, .inl ⟨rfl, rfl⟩⟩) (by rw [hl2]; exact row_one HO79.out HBD.out.low.size rfl)
            obtain ⟨D, hD⟩ : ∃ D, dblA a how m = D := ⟨_, rfl⟩
            have hDf : D.Few := hD ▸ dbl_few HSM.out (by omega) how m
            have hDm : D.mayB z0 m = true := hD ▸ dbl_may how (by omega) (by omega) HMAY.out
            have hDt : Twice a D := hD ▸ dbl_twice a how m (by omega)
            have hDl : D.length = 2 * a.length + 1 := hD ▸ dblA_len a how m (by omega)
            have haut := hbe.aut (dblA_len a how m (by omega)).symm
            have hbx := hbe.box
            have hlow := hbe.low
            rw [hD] at haut
            have HDF := Lib.hid hDf
            have HDM := Lib.hid hDm
            have HDT := Lib.hid hDt
            have HDL := Lib.hid hDl.symm
            clear hbe
            clear hl2
            clear hDf hDm hDt hD hl1 hDl
            rw [HDL.out] at haut hbx hlow ⊢
            generalize (w10.setCell ⟨w4.heap.size, 0, none⟩ (.slice (some ⟨gb, 0, none⟩) D.length cap)) = w11 at *
            have HB11 := Lib.hid hbx
            have HG11 := Lib.hid (HG4.out.trans hlow)
            have q11 := (HOW4.out.keep hlow).cell_at (i := 0) rfl
            have HLA : Hid (∀ w, Grew W w → Calls Tryd.prog 18 #[.agg #[.slice a1 a.length c1], .int .i64 z0, .int .i64 m] w fun e W' => ∃ v x, e = .returned (.tuple #[.agg #[v], .int .i64 0]) ∧ Grew w W' ∧ IsLeast a x ∧ AutV .u8 W' W'.heap.size v x) := Lib.hid fun w hg => by
              refine (pleast_ok a HF.out z0 m (by omega) (by omega) w (HT.out w hg) _ (HA.out w hg)).mono ?_
              rintro e W' ⟨v, k, rfl, hg', (⟨h, _, _⟩ | ⟨_, rfl, y, hy, hY⟩)⟩
              · rw [HMAY.out] at h; cases h
              · exact ⟨v, y, rfl, hg', hy, hY⟩
            have HLB : Hid (∀ w, Grew w11 w → Calls Tryd.prog 18 #[.agg #[.slice (some ⟨gb, 0, none⟩) D.length cap], .int .i64 z0, .int .i64 m] w fun e W' => ∃ v x, e = .returned (.tuple #[.agg #[v], .int .i64 0]) ∧ Grew w W' ∧ IsLeast D x ∧ AutV .u8 W' W'.heap.size v x) := Lib.hid fun w hg => by
              refine (pleast_ok D HDF.out z0 m (by omega) (by omega) w (HT.out w (HG11.out.trans hg)) _ (haut.grew hg)).mono ?_
              rintro e W' ⟨v, k, rfl, hg', (⟨h, _, _⟩ | ⟨_, rfl, y, hy, hY⟩)⟩
              · rw [HDM.out] at h; cases h
              · exact ⟨v, y, rfl, hg', hy, hY⟩
            clear hbx hlow haut hw7 hw9 x0 xl hd1
            go_wp2_with fail
            refine (HLA.out w11 HG11.out).mono ?_
            rintro e w12 ⟨xv, x, rfl, hg12, hx, hX⟩
            obtain ⟨xa, xc, rfl, hxc, hX2⟩ := id hX
            have HX := Lib.hid hX
            have HXL := Lib.hid hx
            obtain ⟨w13, hw13⟩ : ∃ w13, w12.alloc (.cells #[.slice xa x.length xc] 24) = w13 := ⟨_, rfl⟩
            have g13 : Grew w12 w13 := hw13 ▸ grew_alloc w12 _
            have o13 : Owns w13 w12.heap.size [.slice xa x.length xc] 24 := hw13 ▸ Owns.alloc w12 _ _
            have HG12 := Lib.hid hg12
            have HG13 := Lib.hid g13
            have HO13 := Lib.hid o13
            have q13 := (HB11.out.keep (hg12.trans g13)).cell_at (i := 0) rfl
            clear hX2 hX hx q11 hg12 g13 o13 hxc
            go_upto_region 26 with fail
            clear hw13
            go_wp2_with fail
            refine (HLB.out w13 (HG12.out.trans HG13.out)).mono ?_
            rintro e w14 ⟨yv, y, rfl, hg14, hy, hY⟩
            obtain ⟨ya, yc, rfl, hyc, hY2⟩ := id hY
            have HY := Lib.hid hY
            have hxy : x = y := HDT.out.least (okay_of_may HMAY.out) (may_len HMAY.out) HXL.out hy
            subst hxy
            obtain ⟨w15, hw15⟩ : ∃ w15, w14.alloc (.cells #[.slice ya x.length yc] 24) = w15 := ⟨_, rfl⟩
            have g15 : Grew w14 w15 := hw15 ▸ grew_alloc w14 _
            have o15 : Owns w15 w14.heap.size [.slice ya x.length yc] 24 := hw15 ▸ Owns.alloc w14 _ _
            have q15 := o15.cell_at (i := 0) rfl
            have x15 := (HO13.out.keep (hg14.trans g15)).cell_at (i := 0) rfl
            have ql := o15.lt
            have xl := (HO13.out.keep (hg14.trans g15)).lt
            have hok := okay_of_may HMAY.out
            have h1l := may_len HMAY.out
            have hB := HXL.out.best hok h1l HF.out.states
            have hxf := HXL.out.few hok h1l HF.out
            have hxu := okay_u8 (okay_of_may (hB.may _ _ HMAY.out))
            have HG15 := Lib.hid (HG11.out.trans (HG12.out.trans (HG13.out.trans (hg14.trans g15))))
            have HEQ := Lib.hid (pequal_ok x x hxf hxf hxu hxu w15 _ _ (HX.out.grew (HG13.out.trans (hg14.trans g15))) (HY.out.grew g15))
            clear hY2 hY hy q13 hg14 g15 o15 hyc hok h1l hB hxf hxu
            go_upto_region 27 with fail
            clear hw15
            go_wp2_with fail
            refine HEQ.out.mono ?_
            rintro e w16 ⟨rfl, hg16⟩
            have HG16 := Lib.hid (HG15.out.trans hg16)
            have hdt : decide (x = x) = true := decide_eq_true rfl
            clear hg16 q15 x15 ql xl
            go_wp2_with fail
            refine (HV.out w16 HG16.out).mono ?_
            rintro e w17 ⟨rfl, hg17⟩
            have HG17 := Lib.hid (HG16.out.trans hg17)
            clear hg17
            go_wp2_with fail
            go_ret
            exact ⟨rfl, HG17.out⟩
end Go.Proofs.YtogmlonhciiomaaDoor
