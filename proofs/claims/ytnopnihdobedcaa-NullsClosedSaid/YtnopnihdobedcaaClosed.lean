/- NullsClosed: the walk. -/
import Derived.Test.YtnopnihdobedcaaClosedMem
import Derived.Test.YtnopnihdobedcaaGrow
namespace Go.Proofs.Ytnopnihdobedcaa
open Go.RowKit

theorem empty_len {g : Gr} {es : List Bool} (h : g.IsEmpty es) : es.length = g.rules.length := h.sound.1

set_option maxHeartbeats 16000000 in
set_option maxRecDepth 40000 in
theorem closed_ok (g : Gr) (W : World) (v0 v1 v2 v3 : Value) (hG : GrAt W W.heap.size (some v0) (some v1) (some v2) (some v3) g) :
    Calls Try.prog 4 #[.agg #[v0, v1, v2, v3]] W fun e W' => TrueIs W e W' := by
  have hG' := hG
  obtain ⟨q1, q2, q3, q4, q5, q6, ra, rc, q7, q8, q9⟩ := hG'
  obtain rfl := Option.some.inj q1
  obtain rfl := Option.some.inj q3
  obtain rfl := Option.some.inj q4
  obtain rfl := Option.some.inj q7
  clear q1 q3 q4 q5 q6 q7
  have hgr := grew_alloc W (.cells #[.string g.name, .int .i64 g.bound, .int .i64 g.states, .slice ra g.rules.length rc] 26)
  have hOg := Owns.alloc W [.string g.name, .int .i64 g.bound, .int .i64 g.states, .slice ra g.rules.length rc] 26
  have hGt := Lib.hid (great5_ok g _ _ _ _ _ ((hG.keep hgr).mono hgr.size))
  have HGR := Lib.hid hgr
  have HOG := Lib.hid hOg
  have HG := Lib.hid hG
  have q9h := Lib.hid q9
  have hbl : W.heap.size < (W.alloc (.cells #[.string g.name, .int .i64 g.bound, .int .i64 g.states, .slice ra g.rules.length rc] 26)).heap.size := by simp
  clear hgr hOg q9 hG
  unfold reachN at q8 q2
  go_enter Try.func4, Try.ntmps4
  go_wp2_with fail
  generalize W.alloc (.cells #[.string g.name, .int .i64 g.bound, .int .i64 g.states, .slice ra g.rules.length rc] 26) = wa at *
  refine hGt.out.mono ?_
  rintro e w1 ⟨(rfl | ⟨rfl, hfair⟩), hb1⟩
  · have HB1 := Lib.hid (HGR.out.trans hb1)
    clear hb1
    go_wp2_with (go_at_call 10; refine (lives5_ok _).mono ?_; rintro e w2 ⟨rfl, hb2⟩)
    go_ret
    exact ⟨rfl, Grew.trans HB1.out hb2⟩
  · have hG1 : Grew wa w1 := hb1
    have HO1 := Lib.hid (HOG.out.keep hG1)
    have c0 := HO1.out.cell_at (i := 0) rfl
    have c1 := HO1.out.cell_at (i := 1) rfl
    have c2 := HO1.out.cell_at (i := 2) rfl
    have c3 := HO1.out.cell_at (i := 3) rfl
    have hl1 := HO1.out.lt
    have HB1 := Lib.hid (HGR.out.trans hG1)
    have hn20 := hfair.len
    have hE := Lib.hid (empty_ok g w1 _ _ _ _ ((HG.out.keep HB1.out).mono HB1.out.size))
    clear hb1 hG1 hGt HGR HOG hfair
    go_wp2_with fail
    refine hE.out.mono ?_
    rintro e w2 ⟨eb, es, rfl, hes, hoe, hle, hb2⟩
    have hG2 : Grew w1 w2 := hb2
    have HO2 := Lib.hid (HO1.out.keep hG2)
    have HB2 := Lib.hid (HB1.out.trans hG2)
    have HES := Lib.hid hes
    have HOE := Lib.hid hoe
    have d0 := HO2.out.cell_at (i := 0) rfl
    have d1 := HO2.out.cell_at (i := 1) rfl
    have d2 := HO2.out.cell_at (i := 2) rfl
    have d3 := HO2.out.cell_at (i := 3) rfl
    have hl2 := HO2.out.lt
    have hebl := hoe.lt
    have hR := Lib.hid (reach_ok g w2 _ _ _ _ (by omega) ((HG.out.keep HB2.out).mono HB2.out.size))
    clear c0 c1 c2 c3 hes hoe hb2 hG2 hE HO1
    go_wp2_with fail
    refine hR.out.mono ?_
    rintro e w3 ⟨B, ob, rwb, f, es', M, rfl, hes', hre, hmat, hB, hrwb, hb3⟩
    have hG3 : Grew w2 w3 := hb3
    have := hes'.unique HES.out
    subst this
    have HO3 := Lib.hid (HO2.out.keep hG3)
    have HB3 := Lib.hid (HB2.out.trans hG3)
    have HOE3 := Lib.hid (HOE.out.keep hG3)
    have HRE := Lib.hid hre
    have HM := Lib.hid hmat
    have e3 := HO3.out.cell_at (i := 3) rfl
    have hl3 := HO3.out.lt
    have hle1 := empty_len HES.out
    have hz3 := hG3.size
    clear d0 d1 d2 d3 hes' hre hmat hb3 hG3 hR HO2 HOE
    go_wp2_with fail
    clear e3
    go_loopw [5] (fun c wr => ∃ j : Nat, c = .int .i64 j ∧ j ≤ g.rules.length ∧ Hid (Grew w3 wr)) (fun c _ => g.rules.length - (intOf c).toNat)
    case atStart => exact ⟨0, rfl, by omega, Grew.refl _⟩
    case round =>
      obtain ⟨j, rfl, hj, hwr⟩ := hrel
      by_cases hlt : j < g.rules.length
      · have HOr := Lib.hid (HO3.out.keep hwr.out)
        have c0 := HOr.out.cell_at (i := 0) rfl
        have c1 := HOr.out.cell_at (i := 1) rfl
        have c2 := HOr.out.cell_at (i := 2) rfl
        have c3 := HOr.out.cell_at (i := 3) rfl
        have hlr := HOr.out.lt
        have HBr := Lib.hid (HB3.out.trans hwr.out)
        obtain ⟨rb, ro, rfl, hrb, hrule⟩ := (q9h.out.keep HBr.out).get hlt
        simp only [Nat.zero_add] at hrule
        obtain ⟨u2, u3, u4, u5, u6, s0, s1, s2, s3, s4, s5, s6, s7, s8, s9, -, hnode⟩ := hrule.vals
        have hrb2 : rb < wr.heap.size := by have := HBr.out.size; omega
        have hbe := (HOE3.out.keep hwr.out).cell_at (i := j) (v := .bool (es'.getD j false)) (by simp [List.getD_eq_getElem?_getD, show j < es'.length by omega])
        have hrow := (HM.out.keep hwr.out).row hlt
        have hrwl := (HM.out.keep hwr.out).r.lt
        have hebr := (HOE3.out.keep hwr.out).lt
        have hmay := HES.out.may j hlt
        obtain ⟨be, hbe'⟩ : ∃ be, be = es'.getD j false := ⟨_, rfl⟩
        rw [← hbe'] at hbe hmay
        have HMAY := Lib.hid hmay
        have HGr := Lib.hid ((HG.out.keep HBr.out).mono HBr.out.size)
        have HN := Lib.hid (hnode.mono HBr.out.size)
        clear hmay hbe' hrule hnode s0 s1 s7 s8 s9
        go_wp2_with fail
        refine wp_region_hav_lit follows (by kernel_rfl) ?_
        repeat (first
          | (refine HavG.skip (fun _ => rfl) ?_; simp only [Act.put, List.setIfInBounds_toArray, List.set_cons_zero, List.set_cons_succ])
          | (refine HavG.val (fun _ => rfl) ?_ (fun x w hw _ => ?_) ?_; rotate_left; (focus (have hc := hw.cells; clear hw; go_simp; first | done | rfl)); simp only [Act.put, List.setIfInBounds_toArray, List.set_cons_zero, List.set_cons_succ]))
        refine HavG.det (fun _ => rfl) (.bool be) (fun x w hw _ => ?_) ?_
        · have HW := Lib.hid hw
          clear hw
          go_simp
          refine (nmay_ok g es' HES.out j hlt g.rules[j].body w _ _ _ _ _ _ _ _ _ ((HGr.out.keep HW.out).mono HW.out.size) ((HN.out.keep HW.out).mono HW.out.size)).mono ?_
          rintro e w' ⟨rfl, hb⟩
          exact ⟨by rw [HMAY.out], hb⟩
        simp only [Act.put, List.setIfInBounds_toArray, List.set_cons_zero, List.set_cons_succ]
        cases be
        all_goals (
          repeat (first
            | (refine HavG.skip (fun _ => rfl) ?_; simp only [Act.put, List.setIfInBounds_toArray, List.set_cons_zero, List.set_cons_succ])
            | (refine HavG.val (fun _ => rfl) ?_ (fun x w hw _ => ?_) ?_; rotate_left; (focus (have hc := hw.cells; clear hw; go_simp; first | done | rfl)); simp only [Act.put, List.setIfInBounds_toArray, List.set_cons_zero, List.set_cons_succ]))
          refine HavG.tail (by kernel_rfl) (by kernel_rfl) (fun x w hw _ => ?_)
          have HW := Lib.hid (hwr.out.trans hw)
          clear hw
          go_wp2_with fail
          exact ⟨⟨j + 1, by go_num, by omega, HW.out⟩, by simp [intOf]; omega⟩)
      · have HM4 := Lib.hid (HM.out.keep hwr.out)
        have HO4 := Lib.hid (HO3.out.keep hwr.out)
        have HB4 := Lib.hid (HB3.out.trans hwr.out)
        have HOE4 := Lib.hid (HOE3.out.keep hwr.out)
        clear HM HO3 HB3 HOE3 hl3 hwr hz3
        go_wp2_with fail
        go_loop [6] (fun c => ∃ q : Nat, c = .int .i64 q ∧ q ≤ g.rules.length) (fun c => g.rules.length - (intOf c).toNat)
        case atStart => exact ⟨0, rfl, by omega⟩
        case round =>
          obtain ⟨q, rfl, hq⟩ := hrel
          by_cases hqn : q < g.rules.length
          · go_wp2_with fail
            go_loop [7] (fun c => ∃ k : Nat, c = .int .i64 k ∧ k ≤ g.rules.length) (fun c => g.rules.length - (intOf c).toNat)
            case atStart => exact ⟨0, rfl, by omega⟩
            case round =>
              obtain ⟨k, rfl, hk⟩ := hrel
              by_cases hkn : k < g.rules.length
              · go_wp2_with fail
                go_loop [8] (fun c => ∃ n : Nat, c = .int .i64 n ∧ n ≤ g.rules.length) (fun c => g.rules.length - (intOf c).toNat)
                case atStart => exact ⟨0, rfl, by omega⟩
                case round =>
                  obtain ⟨n, rfl, hn⟩ := hrel
                  by_cases hnn : n < g.rules.length
                  · have r1 := HM4.out.row hqn
                    have r2 := HM4.out.row hkn
                    have x1 := HM4.out.cell hqn hkn
                    have x2 := HM4.out.cell hkn hnn
                    have x3 := HM4.out.cell hqn hnn
                    have hlaw : at2 M q k = true → at2 M k n = true → at2 M q n = true := fun h1 h2 => (HRE.out.tc q n).2 (Tc.trans ((HRE.out.tc q k).1 h1) ((HRE.out.tc k n).1 h2))
                    generalize at2 M q k = b1 at *
                    generalize at2 M k n = b2 at *
                    generalize at2 M q n = b3 at *
                    cases b1
                    · clear hlaw
                      go_wp2_with fail
                      go_round
                      case rel => exact ⟨n + 1, by go_num, by omega⟩
                      case measure => simp [intOf]; omega
                    · cases b2
                      · clear hlaw
                        go_wp2_with fail
                        go_round
                        case rel => exact ⟨n + 1, by go_num, by omega⟩
                        case measure => simp [intOf]; omega
                      · have := hlaw rfl rfl
                        subst this
                        clear hlaw
                        go_wp2_with fail
                        go_round
                        case rel => exact ⟨n + 1, by go_num, by omega⟩
                        case measure => simp [intOf]; omega
                  · go_wp2_with fail
                    go_round
                    case rel => exact ⟨k + 1, by go_num, by omega⟩
                    case measure => simp [intOf]; omega
              · go_wp2_with fail
                go_round
                case rel => exact ⟨q + 1, by go_num, by omega⟩
                case measure => simp [intOf]; omega
          · have c0 := HO4.out.cell_at (i := 0) rfl
            have c1 := HO4.out.cell_at (i := 1) rfl
            have c2 := HO4.out.cell_at (i := 2) rfl
            have c3 := HO4.out.cell_at (i := 3) rfl
            have hl4 := HO4.out.lt
            have hgb := grew_alloc wr (.cells #[.string g.name, .int .i64 g.bound, .int .i64 g.states, .slice ra g.rules.length rc] 26)
            have HOB := Lib.hid (Owns.alloc wr [.string g.name, .int .i64 g.bound, .int .i64 g.states, .slice ra g.rules.length rc] 26)
            have HGB := Lib.hid hgb
            obtain ⟨cs, hcs, hnews, hone, hra⟩ := rules_copy q9h.out (Nat.le_refl _)
            have HCS := Lib.hid hcs
            have HNW := Lib.hid (hnews _ (HB4.out.trans hgb))
            have HON := Lib.hid hone
            have HRA := Lib.hid hra
            have hcl := Lib.hid hcs.1
            have hmax : g.rules.length ≤ maxLen := by unfold maxLen; omega
            have HMAX := Lib.hid hmax
            obtain ⟨i0, hi0, hz0, hz1, hz2⟩ := info_parts info_rule
            have HI0 := Lib.hid hi0
            have HZ0 := Lib.hid hz0
            have HZ1 := Lib.hid hz1
            have HZ2 := Lib.hid hz2
            clear hgb hcs hnews hone hra hmax hi0 hz0 hz1 hz2
            have h63 : g.rules.length + 1 ≤ maxLen := by unfold maxLen; omega
            have H63 := Lib.hid h63
            clear h63
            go_wp2_with (at_builtin; first
              | (refine wpList_copy rfl _ _ 24 rfl (wr.heap.size + 1) 40 i0 _ 10 136 Try.underlying24 HI0.out HZ0.out HZ1.out HZ2.out rfl (by omega) rfl ra g.rules.length rc cs rfl HRA.out hcl.out HNW.out HON.out HMAX.out (by omega) (by simp) ?_; intro v w5 hown hgrow; have HG5 := Lib.hid (HGB.out.trans (grew_grown hgrow)); have HO5 := Lib.hid (HOB.out.keep (grew_grown hgrow)); have HOW : Hid ((w5.alloc (.cells #[.string { data := #[45] }, .int .u8 0, .int .u8 1, .string { data := #[] }, .string { data := #[] }, .slice none 0 0, .slice none 0 0, .int .i64 0, .int .i64 0, .int .i64 0] 40)).ownsRow (wr.heap.size + 1) 40 10 v g.rules.length cs) := Lib.hid (ownsRow_keep hown (grew_alloc w5 _)); have hz5 : wr.heap.size < w5.heap.size := HO5.out.lt; clear hown hgrow)
              | (refine wpList_append_lies _ rfl _ _ 24 rfl (wr.heap.size + 1) 40 i0 _ 10 136 Try.underlying24 HI0.out HZ0.out HZ1.out HZ2.out rfl (by omega) v g.rules.length cs rfl HOW.out ⟨w5.heap.size, 0, none⟩ 1 1 dashCells rfl rfl (dash_news w5) (by decide) (by omega) H63.out (by omega) (by simp; omega) _ rfl ?_; intro g' cap w6 hown hgrow hat hlt6; obtain ⟨t, ht, hut⟩ := own_upd HOW.out hgrow; have HT := Lib.hid ht; have HUT := Lib.hid hut; have HROW := Lib.hid (OwnsPre.of_row hown); have ho6 := (HO5.out.keep (grew_alloc w5 _)).upd hut (show wr.heap.size ≠ t by omega); have b3 := ho6.cell_at (i := 3) rfl; have f3 := ho6.free 3; have ho7 := ho6.set 3 (.slice (some ⟨g', 0, none⟩) (g.rules.length + 1) cap); simp only [List.set_cons_succ, List.set_cons_zero] at ho7; have k0 := ho7.cell_at (i := 0) rfl; have k1 := ho7.cell_at (i := 1) rfl; have k2 := ho7.cell_at (i := 2) rfl; have k3 := ho7.cell_at (i := 3) rfl; clear hown hgrow hat ht hut ho6 ho7))
            have hu7 : Upd wr.heap.size w6 (w6.setCell ⟨wr.heap.size, 3, none⟩ (.slice (some ⟨g', 0, none⟩) (g.rules.length + 1) cap)) := (Upd.refl _ _).setCell _ _
            have hz6 := HUT.out.size
            have hal : Below wr.heap.size w5 (w5.alloc (.cells #[.string { data := #[45] }, .int .u8 0, .int .u8 1, .string { data := #[] }, .string { data := #[] }, .slice none 0 0, .slice none 0 0, .int .i64 0, .int .i64 0, .int .i64 0] 40)) := (grew_alloc w5 (.cells #[.string { data := #[45] }, .int .u8 0, .int .u8 1, .string { data := #[] }, .string { data := #[] }, .slice none 0 0, .slice none 0 0, .int .i64 0, .int .i64 0, .int .i64 0] 40)).mono (by omega)
            have hza := hal.size
            have hgg := HROW.out.2
            have hG7 : Grew wr (w6.setCell ⟨wr.heap.size, 3, none⟩ (.slice (some ⟨g', 0, none⟩) (g.rules.length + 1) cap)) :=
              (Below.trans (Below.trans HG5.out hal) (HUT.out.below (by have := HT.out; omega) (by omega))).trans (hu7.below (Nat.le_refl _) (by omega))
            have og7 := HROW.out.1.upd hu7 (show g' ≠ wr.heap.size by omega)
            have HG7 := Lib.hid hG7
            have HOG7 := Lib.hid og7
            have hl7 : wr.heap.size < (w6.setCell ⟨wr.heap.size, 3, none⟩ (.slice (some ⟨g', 0, none⟩) (g.rules.length + 1) cap)).heap.size := by have := hu7.size; omega
            clear hu7 hal hG7 og7 b3 f3 HUT HT HROW HOW HOB HGB HNW HON HO5 HG5 c0 c1 c2 c3
            generalize w6.setCell ⟨wr.heap.size, 3, none⟩ (.slice (some ⟨g', 0, none⟩) (g.rules.length + 1) cap) = w7 at *
            have HB7 := Lib.hid (HB4.out.trans HG7.out)
            have hrows := ((HCS.out.keep HB7.out).mono HB7.out.size).dash
            have hrat := hrows.at HOG7.out HOG7.out.lt
            have HGX : GrAt w7 w7.heap.size (some (.string g.name)) (some (.int .i64 g.bound)) (some (.int .i64 g.states)) (some (.slice (some ⟨g', 0, none⟩) (g.rules.length + 1) cap)) g.ext := by
              have hgg := HG.out
              exact ⟨rfl, hgg.2.1, rfl, rfl, hgg.2.2.2.2.1, hgg.2.2.2.2.2.1, some ⟨g', 0, none⟩, cap, by rw [ext_length], by rw [ext_length]; unfold reachN; omega, hrat⟩
            refine (empty_ok g.ext w7 _ _ _ _ HGX).mono ?_
            rintro e w8 ⟨fb, fs, rfl, hfs, hof, hlef, hb8⟩
            simp only [ext_length]
            have hG8 : Grew w7 w8 := hb8
            have HG8 := Lib.hid (HG7.out.trans hG8)
            have HFS := Lib.hid hfs
            have HOF := Lib.hid hof
            have hfl := empty_len hfs
            rw [ext_length] at hfl
            clear hrows hrat HGX hfs hof hb8 hG8 k0 k1 k2 k3 HG7 HOG7 HB7 HCS
            have HO8 := Lib.hid (HO4.out.keep HG8.out)
            have HB8 := Lib.hid (HB4.out.trans HG8.out)
            have HOE8 := Lib.hid (HOE4.out.keep HG8.out)
            clear HO4 HOE4 HM4 HG8 HB4
            go_wp2_with fail
            go_loopw [11, 12] (fun v c wx => ∃ (nb : Bool) (k : Nat), v = .bool nb ∧ c = .int .i64 k ∧ k ≤ g.rules.length ∧ Hid (nb = false → ∀ n (hn : n < g.rules.length), n < k → g.rules[n].body.names dash = false) ∧ Hid (Grew w8 wx)) (fun _ c _ => g.rules.length - (intOf c).toNat)
            case atStart => exact ⟨false, 0, rfl, rfl, by omega, fun _ n hn h => absurd h (by omega), Grew.refl _⟩
            case round =>
              obtain ⟨nb, k, rfl, rfl, hk, hno, hwx⟩ := hrel
              have c3 := (HO8.out.keep hwx.out).cell_at (i := 3) rfl
              have hlx := (HO8.out.keep hwx.out).lt
              by_cases hkn : k < g.rules.length
              · cases nb
                · have HBx := Lib.hid (HB8.out.trans hwx.out)
                  obtain ⟨rb, ro, rfl, hrb, hrule⟩ := (q9h.out.keep HBx.out).get hkn
                  simp only [Nat.zero_add] at hrule
                  obtain ⟨u2, u3, u4, u5, u6, s0, s1, s2, s3, s4, s5, s6, s7, s8, s9, -, hnode⟩ := hrule.vals
                  have HN := Lib.hid (names5_ok { data := #[45] } g.rules[k].body _ _ _ _ _ _ (hnode.mono HBx.out.size))
                  clear hrule hnode s0 s1 s7 s8 s9
                  go_wp2_with (go_at_call 14; refine HN.out.mono ?_; rintro e w9 ⟨rfl, hb9⟩)
                  refine ⟨⟨_, k + 1, rfl, by go_num, by omega, fun h n hn hlt => ?_, hwx.out.trans hb9⟩, by simp [intOf]; omega⟩
                  by_cases e : n = k
                  · subst e; exact h
                  · exact hno.out trivial n hn (by omega)
                · go_wp2_with fail
                  exact ⟨⟨true, k + 1, rfl, by go_num, by omega, fun h => (Bool.noConfusion h), hwx.out⟩, by simp [intOf]; omega⟩
              · cases nb
                · have hnames : ∀ n (hn : n < g.rules.length), g.rules[n].body.names dash = false := fun n hn => hno.out rfl n hn (by omega)
                  have hfe := HFS.out.unique (empty_ext hnames HES.out)
                  subst hfe
                  have hOFx := HOF.out.keep hwx.out
                  have hOEx := HOE8.out.keep hwx.out
                  have cf : wr.cell? ⟨fb, g.rules.length, none⟩ = some (.bool true) := hOFx.cell_at (by rw [← hle1]; simp)
                  have hfl2 := hOFx.lt
                  have hF := flags5_ok wr fb eb (g.rules.length + 1) g.rules.length es' (by unfold reachN; omega) (fun i hi => hOFx.cell_at (by rw [List.getElem?_map, List.getElem?_append_left hi, List.getElem?_eq_getElem hi]; simp [List.getD_eq_getElem?_getD, hi])) (fun i hi => hOEx.cell_at (by simp [List.getD_eq_getElem?_getD, hi]))
                  rw [hle1] at hF
                  have HF := Lib.hid hF
                  have HB9 := Lib.hid (HB8.out.trans hwx.out)
                  have hz9 := HB9.out.size
                  clear hnames hOFx hOEx hF hno hwx
                  go_wp2_with (first
                    | (go_at_call 16; refine HF.out.mono ?_; rintro e w9 ⟨rfl, hb9⟩)
                    | (go_at_call 10; refine (lives5_ok _).mono ?_; rintro e w10 ⟨rfl, hb10⟩))
                  go_ret
                  exact ⟨rfl, Grew.trans HB9.out (Grew.trans hb9 hb10)⟩
                · have HB9 := Lib.hid (HB8.out.trans hwx.out)
                  clear hno hwx
                  go_wp2_with (go_at_call 10; refine (lives5_ok _).mono ?_; rintro e w10 ⟨rfl, hb10⟩)
                  go_ret
                  exact ⟨rfl, Grew.trans HB9.out hb10⟩
end Go.Proofs.Ytnopnihdobedcaa
