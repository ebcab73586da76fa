/- PrunesLeast: the walk whole. -/
import Derived.Test.YtogmlonhciiomaaDoorPrLeW
namespace Go.Proofs.YtogmlonhciiomaaDoor
open Go.RowKit

theorem nil_aut (K : IntKind) (W : World) : AutV K W W.heap.size (.slice none 0 0) [] := ⟨none, 0, rfl, Nat.le_refl _, fun k hk => absurd hk (by simp)⟩
theorem LwAt.part {W w : World} {X n c i : Nat} {xa : Option Addr} {vs : List (Value × Value × Value)} {x : Aut} (h : LwAt W w X (.slice xa n c) vs x) (hi : i < x.length) (hi' : i < vs.length) {gs : Nat} (hx : xa = some ⟨gs, 0, none⟩) : gs < w.heap.size ∧ w.cell? ⟨gs, i * 3 + 1, none⟩ = some vs[i].2.1 ∧ w.cell? ⟨gs, i * 3 + 2, none⟩ = some vs[i].2.2 := by
  subst hx
  obtain ⟨g, cap, h1, h2, _, h3, h4⟩ := h.state hi
  have := (Value.slice.inj h1).1
  simp only [Option.some.injEq, Addr.mk.injEq, and_true] at this
  subst this
  exact ⟨h2, h3, h4⟩
theorem nil_few : Aut.Few [] := ⟨by simp, fun s hs => (by cases hs), fun s hs => (by cases hs)⟩

set_option maxHeartbeats 8000000 in
set_option maxRecDepth 40000 in
theorem pLeW_ok (a : Aut) (hal : a.length ≤ reachN) (hae : ∀ s ∈ a, s.edges.length ≤ reachN ∧ s.alts.length ≤ reachN) (hu : a.U8) (z0 z1 : Int) (h0 : 0 ≤ z0 ∧ z0 ≤ 255) (h1 : 0 ≤ z1 ∧ z1 ≤ 255)
    (W : World) (hT : Tab W) (v : Value) (hA : AutV .u8 W W.heap.size v a) :
    Calls Tryd.prog 4 #[.agg #[v], .agg #[.int .u8 z0, .int .u8 z1]] W fun e W' => e = .returned (.bool true) ∧ Grew W W' := by
  have hA2 := hA
  obtain ⟨a1, c1, rfl, _, hA⟩ := hA
  obtain ⟨w1, hw1⟩ : ∃ w1, W.alloc (.cells #[.slice a1 a.length c1] 24) = w1 := ⟨_, rfl⟩
  obtain ⟨w2, hw2⟩ : ∃ w2, w1.alloc (.cells #[.int .u8 z0, .int .u8 z1] 25) = w2 := ⟨_, rfl⟩
  have z1' : w1.heap.size = W.heap.size + 1 := by rw [← hw1]; simp
  have g1 : Grew W w1 := hw1 ▸ grew_alloc W _
  have g2 : Grew w1 w2 := hw2 ▸ grew_alloc w1 _
  have o1 : Owns w2 W.heap.size [.slice a1 a.length c1] 24 := (hw1 ▸ Owns.alloc W _ _ : Owns w1 W.heap.size [.slice a1 a.length c1] 24).keep g2
  have o2 : Owns w2 (W.heap.size + 1) [.int .u8 z0, .int .u8 z1] 25 := z1' ▸ hw2 ▸ Owns.alloc w1 _ _
  have q0 := o1.cell_at (i := 0) rfl
  have HA : Hid (∀ w, Grew W w → AutV .u8 w w.heap.size (.slice a1 a.length c1) a) := Lib.hid fun w hg => hA2.grew hg
  have HT : Hid (∀ w, Grew W w → Tab w) := Lib.hid fun w hg => hT.keep hg
  have HV : Hid (∀ w, Grew W w → Calls Tryd.prog 8 #[] w fun e W' => e = .returned (.bool true) ∧ Grew w W') := Lib.hid fun w hg => plives_ok w (hT.keep hg)
  have HGT := Lib.hid (pgreat_ok a hal hae w2 _ (hA2.grew (g1.trans g2)))
  have HG := Lib.hid (g1.trans g2)
  have HO1 := Lib.hid o1
  have HO2 := Lib.hid o2
  have HU := Lib.hid hu
  have hr0 : IntKind.i64.wrap z0 = z0 := wrap_small _ (by omega) (by omega)
  have hr1 : IntKind.i64.wrap z1 = z1 := wrap_small _ (by omega) (by omega)
  obtain ⟨m, hm⟩ : ∃ m, z1.tmod 21 = m := ⟨_, rfl⟩
  have hm0 : 0 ≤ m ∧ m ≤ 20 := by
    rw [← hm, Int.tmod_eq_emod_of_nonneg (by omega)]
    omega
  have hrm : IntKind.i64.wrap m = m := wrap_small _ (by omega) (by omega)
  clear hA hA2 hT g1 g2 o1 o2 hae hu
  unfold reachN at hal
  go_enter Tryd.func4, Tryd.ntmps4
  go_wp2_with fail
  clear hw1 hw2 z1'
  refine HGT.out.mono ?_
  rintro e w3 ⟨gr, rfl, hsm, hg3⟩
  have HG3 := Lib.hid (HG.out.trans hg3)
  have HO13 := Lib.hid (HO1.out.keep hg3)
  have HO23 := Lib.hid (HO2.out.keep hg3)
  have q0 := HO13.out.cell_at (i := 0) rfl
  have p0 := HO23.out.cell_at (i := 0) rfl
  have p1 := HO23.out.cell_at (i := 1) rfl
  have pl := HO23.out.lt
  have ql := HO13.out.lt
  clear hg3 HGT HG HO1 HO2
  cases gr with
  | true =>
    clear hsm
    go_wp2_with fail
    refine (HV.out w3 HG3.out).mono ?_
    rintro e w9 ⟨rfl, hg9⟩
    have HG9 := Lib.hid (Grew.trans HG3.out hg9)
    clear hg9
    go_wp2_with fail
    go_ret
    exact ⟨rfl, HG9.out⟩
  | false =>
    have hsm := hsm rfl
    have HF := Lib.hid hsm.few
    have HSM := Lib.hid hsm
    clear hsm
    have hna := HSM.out.1
    have HOT := Lib.hid (potherA_ok a HF.out HU.out w3 _ (HA.out w3 HG3.out))
    go_upto_region 5 with fail
    clear p0 p1 pl hr0 hr1 hm hrm
    go_wp2_with fail
    refine HOT.out.mono ?_
    rintro e w4 ⟨mv, rfl, hmv, hg4⟩
    have HM := Lib.hid hmv
    obtain ⟨m1, mc, rfl, _, _⟩ := hmv
    obtain ⟨w5, hw5⟩ : ∃ w5, w4.alloc (.cells #[.slice m1 a.length mc] 31) = w5 := ⟨_, rfl⟩
    have g5 : Grew w4 w5 := hw5 ▸ grew_alloc w4 _
    have o5 : Owns w5 w4.heap.size [.slice m1 a.length mc] 31 := hw5 ▸ Owns.alloc w4 _ _
    have HG5 := Lib.hid (HG3.out.trans (hg4.trans g5))
    have HM5 := Lib.hid (HM.out.grew g5)
    have HO5 := Lib.hid o5
    have HO15 := Lib.hid (HO13.out.keep (hg4.trans g5))
    have q5 := HO15.out.cell_at (i := 0) rfl
    have ql5 := HO15.out.lt
    have HLE := Lib.hid (pleast_rows a HF.out z0 m (by omega) (by omega) w5 (HT.out w5 HG5.out) _ (HA.out w5 HG5.out))
    have HSA : Hid (∀ u, Grew w5 u → Calls Tryd.prog 17 #[.agg #[.slice a1 a.length c1], .agg #[.slice m1 a.length mc]] u fun e W' => e = .returned (.bool true) ∧ Grew u W') := Lib.hid fun u hg => by
      have := psame_ok a a HF.out HF.out HU.out u _ _ (HA.out u (HG5.out.trans hg)) (HM5.out.grew hg)
      rw [decide_eq_true (rfl : a = a)] at this
      exact this
    have HLV : Hid (∀ u, Grew w5 u → Calls Tryd.prog 8 #[] u fun e W' => e = .returned (.bool true) ∧ Grew u W') := Lib.hid fun u hg => HV.out u (HG5.out.trans hg)
    clear hg4 g5 o5 q0 ql HM HOT HO13 HO23
    go_upto_region 6 with fail
    clear hw5
    go_wp2_with fail
    refine HLE.out.mono ?_
    rintro e w6 ⟨xv, kk, rfl, hg6, hx⟩
    have HG6 := Lib.hid hg6
    rcases hx with ⟨hmay, rfl, rfl⟩ | ⟨hmay, rfl, x, vs, hx, hrow, hins⟩
    · have HMN := Lib.hid hmay
      go_upto_region 7 with fail
      obtain ⟨w7, hw7⟩ : ∃ w7, w6.alloc (.cells #[.slice none 0 0] 24) = w7 := ⟨_, rfl⟩
      have g7 : Grew w6 w7 := hw7 ▸ grew_alloc w6 _
      have HO7 := Lib.hid (hw7 ▸ Owns.alloc w6 _ _ : Owns w7 w6.heap.size [.slice none 0 0] 24)
      have HG57 := Lib.hid (hg6.trans g7)
      have q7 := (HO5.out.keep (hg6.trans g7)).cell_at (i := 0) rfl
      have ql7 := (HO5.out.keep (hg6.trans g7)).lt
      have HRL := Lib.hid (rLeast_ok a HF.out z0 m (by omega) w7 _ (HM5.out.grew (hg6.trans g7)))
      clear hg6 g7 hmay q5 ql5
      rw [hw7]
      clear hw7
      go_wp2_with fail
      refine HRL.out.mono ?_
      rintro e w8 ⟨yv, ky, rfl, hg8, hy⟩
      rcases hy with ⟨_, rfl, rfl⟩ | ⟨hc, _⟩
      · clear q7 ql7
        go_upto_region 8 with fail
        obtain ⟨w9, hw9⟩ : ∃ w9, w8.alloc (.cells #[.slice none 0 0] 31) = w9 := ⟨_, rfl⟩
        have g9 : Grew w8 w9 := hw9 ▸ grew_alloc w8 _
        have HO9 := Lib.hid (hw9 ▸ Owns.alloc w8 _ _ : Owns w9 w8.heap.size [.slice none 0 0] 31)
        have HO79 := Lib.hid (HO7.out.keep (hg8.trans g9))
        have HG59 := Lib.hid (HG57.out.trans (hg8.trans g9))
        have x0 := HO79.out.cell_at (i := 0) rfl
        have xl := HO79.out.lt
        have y0 := HO9.out.cell_at (i := 0) rfl
        have yl := HO9.out.lt
        have HS1 := Lib.hid (psame_ok [] [] nil_few nil_few (fun s hs => by cases hs) w9 _ _ (nil_aut .u8 w9) (nil_aut .i64 w9))
        rw [decide_eq_true (rfl : ([] : Aut) = [])] at HS1
        clear hg8 g9
        rw [hw9]
        clear hw9
        go_wp2_with fail
        refine HS1.out.mono ?_
        rintro e w10 ⟨rfl, hg10⟩
        have HG510 := Lib.hid (HG59.out.trans hg10)
        have q0 := (HO15.out.keep HG510.out).cell_at (i := 0) rfl
        have ql := (HO15.out.keep HG510.out).lt
        have r0 := (HO5.out.keep HG510.out).cell_at (i := 0) rfl
        have rl := (HO5.out.keep HG510.out).lt
        have HO710 := Lib.hid (HO79.out.keep hg10)
        clear hg10 x0 xl y0 yl HS1
        go_wp2_with fail
        refine (HSA.out w10 HG510.out).mono ?_
        rintro e w11 ⟨rfl, hg11⟩
        have HG511 := Lib.hid (HG510.out.trans hg11)
        have x0 := (HO710.out.keep hg11).cell_at (i := 0) rfl
        have xl := (HO710.out.keep hg11).lt
        clear hg11 q0 ql r0 rl
        go_wp2_with fail
        refine (HLV.out w11 HG511.out).mono ?_
        rintro e w12 ⟨rfl, hg12⟩
        have HG512 := Lib.hid (HG5.out.trans (HG511.out.trans hg12))
        clear hg12
        go_wp2_with fail
        go_ret
        exact ⟨rfl, HG512.out⟩
      · rw [HMN.out] at hc; cases hc
    · have HMY := Lib.hid hmay
      have hok := okay_of_may hmay
      have h1l := may_len hmay
      have hB := hx.best hok h1l HF.out.states
      have hxf := hx.few hok h1l HF.out
      have hxu := okay_u8 (okay_of_may (hB.may _ _ hmay))
      have HXL := Lib.hid hx
      have HXF := Lib.hid hxf
      have HXU := Lib.hid hxu
      have hxl : x.length ≤ 60 := Nat.le_trans hB.most hna
      obtain ⟨xa, xc, rfl⟩ := row_slice hrow
      have HXA := Lib.hid (sts_of_row hrow hins.sts)
      obtain ⟨w7, hw7⟩ : ∃ w7, w6.alloc (.cells #[.slice xa x.length xc] 24) = w7 := ⟨_, rfl⟩
      have g7 : Grew w6 w7 := hw7 ▸ grew_alloc w6 _
      have o7 : Owns w7 w6.heap.size [.slice xa x.length xc] 24 := hw7 ▸ Owns.alloc w6 _ _
      have HLW : Hid (LwAt w5 w7 w6.heap.size (.slice xa x.length xc) vs x) := Lib.hid ⟨hg6.trans g7, hg6.size, o7, hrow.keep g7, hins.1, fun k a b => ⟨⟨_, (hins.2 k a b).2.1.keep g7⟩, ⟨_, (hins.2 k a b).2.2.keep g7⟩⟩⟩
      have HXA7 := Lib.hid (HXA.out.grew g7)
      have q7 := (HO5.out.keep (hg6.trans g7)).cell_at (i := 0) rfl
      have ql7 := (HO5.out.keep (hg6.trans g7)).lt
      have HRL := Lib.hid (rLeast_ok a HF.out z0 m (by omega) w7 _ (HM5.out.grew (hg6.trans g7)))
      clear hg6 g7 o7 hmay hok h1l hB hxf hxu hx hrow hins
      go_upto_region 7 with fail
      clear hw7 q5 ql5
      go_wp2_with fail
      refine HRL.out.mono ?_
      rintro e w8 ⟨yv, ky, rfl, hg8, hy⟩
      rcases hy with ⟨hc, _⟩ | ⟨_, rfl, y, hy, hY⟩
      · rw [HMY.out] at hc; cases hc
      · obtain rfl : x = y := HXL.out.uniq hy
        obtain ⟨ya, yc, rfl, _, _⟩ := id hY
        obtain ⟨w9, hw9⟩ : ∃ w9, w8.alloc (.cells #[.slice ya x.length yc] 31) = w9 := ⟨_, rfl⟩
        have g9 : Grew w8 w9 := hw9 ▸ grew_alloc w8 _
        have HO9 := Lib.hid (hw9 ▸ Owns.alloc w8 _ _ : Owns w9 w8.heap.size [.slice ya x.length yc] 31)
        have HLW9 := Lib.hid (HLW.out.keep (hg8.trans g9))
        have x0 := HLW9.out.box.cell_at (i := 0) rfl
        have xl := HLW9.out.box.lt
        have y0 := HO9.out.cell_at (i := 0) rfl
        have yl := HO9.out.lt
        have HS1 := Lib.hid (psame_ok x x HXF.out HXF.out HXU.out w9 _ _ (HXA7.out.grew (hg8.trans g9)) (hY.grew g9))
        rw [decide_eq_true (rfl : x = x)] at HS1
        clear hg8 g9 hY hy q7 ql7 HLW
        go_upto_region 8 with fail
        clear hw9
        go_wp2_with fail
        refine HS1.out.mono ?_
        rintro e w10 ⟨rfl, hg10⟩
        have HLW10 := Lib.hid (HLW9.out.keep hg10)
        have q0 := (HO15.out.keep HLW10.out.low).cell_at (i := 0) rfl
        have ql := (HO15.out.keep HLW10.out.low).lt
        have r0 := (HO5.out.keep HLW10.out.low).cell_at (i := 0) rfl
        have rl := (HO5.out.keep HLW10.out.low).lt
        clear hg10 x0 xl y0 yl HS1 HLW9
        go_wp2_with fail
        refine (HSA.out w10 HLW10.out.low).mono ?_
        rintro e w11 ⟨rfl, hg11⟩
        have HLW11 := Lib.hid (HLW10.out.keep hg11)
        clear hg11 q0 ql r0 rl HLW10
        go_upto_region 12 with fail
        go_wp2_with fail
        go_loopw [12] (fun iv wr => ∃ i : Nat, iv = .int .i64 i ∧ i ≤ x.length ∧ Hid (LwAt w5 wr w6.heap.size (.slice xa x.length xc) vs x)) (fun iv _ => x.length - (intOf iv).toNat)
        case atStart => exact ⟨0, rfl, by omega, HLW11.out⟩
        case round =>
          clear HLW11
          obtain ⟨i, rfl, hi, HL⟩ := hrel
          have x0 := HL.out.box.cell_at (i := 0) rfl
          have xl := HL.out.box.lt
          by_cases hin : i < x.length
          · have d1 : decide ((i : Int) < (x.length : Int)) = true := decide_eq_true (by omega)
            have hiv : i < vs.length := by rw [HL.out.len]; exact hin
            obtain ⟨gs, cap2, hsl, _⟩ := HL.out.state hin
            obtain ⟨rfl, -, -⟩ := Value.slice.inj hsl
            obtain ⟨⟨xs1, hr1⟩, xs2, hr2⟩ := HL.out.slots i hin hiv
            obtain ⟨aa, ac, hva⟩ := row_slice hr1
            obtain ⟨ba, bc, hvb⟩ := row_slice hr2
            have hna2 := HXF.out.alts _ (List.getElem_mem hin)
            have hnb2 := HXF.out.edges _ (List.getElem_mem hin)
            have key : Hid (∀ u, LwAt w5 u w6.heap.size (.slice (some ⟨gs, 0, none⟩) x.length xc) vs x → gs < u.heap.size ∧ u.cell? ⟨gs, i * 3 + 1, none⟩ = some (.slice aa x[i].alts.length ac) ∧ u.cell? ⟨gs, i * 3 + 2, none⟩ = some (.slice ba x[i].edges.length bc) ∧ (∃ xs, looseRow u w5.heap.size 3 1 (.slice aa x[i].alts.length ac) x[i].alts.length xs) ∧ ∃ xs, looseRow u w5.heap.size 53 2 (.slice ba x[i].edges.length bc) x[i].edges.length xs) := Lib.hid fun u hu => by
              obtain ⟨k1, k2, k3⟩ := hu.part hin hiv rfl
              have := hu.slots i hin hiv
              rw [hva] at k2 this
              rw [hvb] at k3 this
              exact ⟨k1, k2, k3, this⟩
            generalize x[i].alts.length = na at *
            generalize x[i].edges.length = nb at *
            clear hsl hr1 hr2 hva hvb hiv
            go_upto_region 15 with fail
            clear d1 x0 xl
            go_wp2_with fail
            go_loopw [13] (fun kv wr => ∃ k : Nat, kv = .int .i64 k ∧ k ≤ na ∧ Hid (LwAt w5 wr w6.heap.size (.slice (some ⟨gs, 0, none⟩) x.length xc) vs x)) (fun kv _ => na - (intOf kv).toNat)
            case atStart => exact ⟨0, rfl, by omega, HL.out⟩
            case round =>
              clear HL
              obtain ⟨k, rfl, hk, HL⟩ := hrel
              obtain ⟨k1, k2, _, ⟨xs, hr⟩, _⟩ := key.out wr HL.out
              have x0 := HL.out.box.cell_at (i := 0) rfl
              have xl := HL.out.box.lt
              have hii : (i : Int) < (x.length : Int) := by omega
              by_cases hkn : k < na
              · have d1 : decide ((k : Int) < (na : Int)) = true := decide_eq_true (by omega)
                obtain ⟨ga, rfl⟩ := row_some hr (by omega)
                obtain ⟨hb, cs, ho, hcl⟩ := row_block2 hr
                obtain ⟨cx, hcx⟩ : ∃ cx, cs[k]? = some cx := ⟨_, List.getElem?_eq_getElem (by omega)⟩
                have c0 := ho.cell_at hcx
                have cf := ho.free k
                have cl := ho.lt
                have HLN := Lib.hid (HL.out.write (owns_type ho) (by decide) (by decide) hb k (.int .i64 (-7)))
                clear hr hb ho hcl hcx
                go_wp2_with fail
                exact ⟨⟨k + 1, by go_num, by omega, HLN.out⟩, by simp [intOf]; omega⟩
              · obtain rfl : k = na := by omega
                have d1 : decide ((k : Int) < (k : Int)) = false := decide_eq_false (by omega)
                clear hr
                go_upto_region 19 with fail
                clear d1 x0 xl k1 k2
                go_wp2_with fail
                go_loopw [14] (fun kv wr => ∃ k : Nat, kv = .int .i64 k ∧ k ≤ nb ∧ Hid (LwAt w5 wr w6.heap.size (.slice (some ⟨gs, 0, none⟩) x.length xc) vs x)) (fun kv _ => nb - (intOf kv).toNat)
                case atStart => exact ⟨0, rfl, by omega, HL.out⟩
                case round =>
                  clear HL
                  obtain ⟨q, rfl, hq, HL⟩ := hrel
                  obtain ⟨k1, _, k3, _, xs, hr⟩ := key.out wr HL.out
                  have x0 := HL.out.box.cell_at (i := 0) rfl
                  have xl := HL.out.box.lt
                  by_cases hqn : q < nb
                  · have d1 : decide ((q : Int) < (nb : Int)) = true := decide_eq_true (by omega)
                    obtain ⟨ga, rfl⟩ := row_some hr (by omega)
                    obtain ⟨hb, cs, ho, hcl⟩ := row_block2 hr
                    obtain ⟨cx, hcx⟩ : ∃ cx, cs[q * 2 + 1]? = some cx := ⟨_, List.getElem?_eq_getElem (by omega)⟩
                    have c0 := ho.cell_at hcx
                    have cf := ho.free (q * 2 + 1)
                    have cl := ho.lt
                    have HLN := Lib.hid (HL.out.write (owns_type ho) (by decide) (by decide) hb (q * 2 + 1) (.int .i64 (-7)))
                    clear hr hb ho hcl hcx
                    go_wp2_with fail
                    exact ⟨⟨q + 1, by go_num, by omega, HLN.out⟩, by simp [intOf]; omega⟩
                  · obtain rfl : q = nb := by omega
                    have d1 : decide ((q : Int) < (q : Int)) = false := decide_eq_false (by omega)
                    clear hr
                    go_wp2_with fail
                    exact ⟨⟨i + 1, by go_num, by omega, HL.out⟩, by simp [intOf]; omega⟩
          · obtain rfl : i = x.length := by omega
            have d1 : decide ((x.length : Int) < (x.length : Int)) = false := decide_eq_false (by omega)
            have q0 := (HO15.out.keep HL.out.low).cell_at (i := 0) rfl
            have ql := (HO15.out.keep HL.out.low).lt
            have r0 := (HO5.out.keep HL.out.low).cell_at (i := 0) rfl
            have rl := (HO5.out.keep HL.out.low).lt
            go_wp2_with fail
            refine (HSA.out wr HL.out.low).mono ?_
            rintro e w12 ⟨rfl, hg12⟩
            have HG12 := Lib.hid (HL.out.low.trans hg12)
            clear hg12
            go_wp2_with fail
            refine (HLV.out w12 HG12.out).mono ?_
            rintro e w13 ⟨rfl, hg13⟩
            have HG13 := Lib.hid (HG5.out.trans (HG12.out.trans hg13))
            clear hg13
            go_wp2_with fail
            go_ret
            exact ⟨rfl, HG13.out⟩
end Go.Proofs.YtogmlonhciiomaaDoor
