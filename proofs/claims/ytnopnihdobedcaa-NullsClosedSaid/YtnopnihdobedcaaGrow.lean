/- NullsGrow: the walk. -/
import Derived.Test.YtnopnihdobedcaaGrowMem
import Derived.Test.YtnopnihdobedcaaGreat2
namespace Go.Proofs.Ytnopnihdobedcaa
open Go.RowKit

theorem grew_grown {w w' : World} (h : w.grownBy w' none) : Grew w w' := ⟨h.os, h.tape, h.output, h.size, fun k hk => h.block k hk (by simp)⟩
theorem info_rule : (Try.prog.info? 40).map (fun i => (i.zero, i.size, i.bytes)) = some (some (.agg #[.string { data := #[] }, .int .u8 0, .int .u8 0, .string { data := #[] }, .string { data := #[] }, .slice none 0 0, .slice none 0 0, .int .i64 0, .int .i64 0, .int .i64 0]), 10, 136) := by kernel_rfl

def TrueIs (W : World) (e : Ending) (W' : World) : Prop := e = .returned (.bool true) ∧ Below W.heap.size W W'

set_option maxHeartbeats 16000000 in
set_option maxRecDepth 40000 in
theorem grow_ok (g : Gr) (x : Int) (W : World) (v0 v1 v2 v3 : Value) (hx0 : 0 ≤ x) (hx1 : x ≤ 255) (hG : GrAt W W.heap.size (some v0) (some v1) (some v2) (some v3) g) :
    Calls Try.prog 3 #[.agg #[v0, v1, v2, v3], .int .u8 x] W fun e W' => TrueIs W e W' := by
  have hG' := hG
  obtain ⟨q1, q2, q3, q4, q5, q6, ra, rc, q7, q8, q9⟩ := hG'
  obtain rfl := Option.some.inj q1
  obtain rfl := Option.some.inj q3
  obtain rfl := Option.some.inj q4
  obtain rfl := Option.some.inj q7
  clear q1 q3 q4 q5 q6 q7
  have hgr := grew_alloc W (.cells #[.string g.name, .int .i64 g.bound, .int .i64 g.states, .slice ra g.rules.length rc] 26)
  have hOg := Owns.alloc W [.string g.name, .int .i64 g.bound, .int .i64 g.states, .slice ra g.rules.length rc] 26
  have hGt := Lib.hid (great5_ok g _ _ _ _ _ ((hG.keep hgr).mono hgr.size))
  have HGR := Lib.hid hgr
  have HOG := Lib.hid hOg
  have HG := Lib.hid hG
  have q9h := Lib.hid q9
  have hbl : W.heap.size < (W.alloc (.cells #[.string g.name, .int .i64 g.bound, .int .i64 g.states, .slice ra g.rules.length rc] 26)).heap.size := by simp
  clear hgr hOg q9 hG
  unfold reachN at q8 q2
  go_enter Try.func3, Try.ntmps3
  go_wp2_with fail
  generalize W.alloc (.cells #[.string g.name, .int .i64 g.bound, .int .i64 g.states, .slice ra g.rules.length rc] 26) = wa at *
  refine hGt.out.mono ?_
  rintro e w1 ⟨(rfl | ⟨rfl, hfair⟩), hb1⟩
  · have HB1 := Lib.hid (HGR.out.trans hb1)
    clear hb1
    go_wp2_with (go_at_call 10; refine (lives5_ok _).mono ?_; rintro e w2 ⟨rfl, hb2⟩)
    go_ret
    exact ⟨rfl, Grew.trans HB1.out hb2⟩
  · have hG1 : Grew wa w1 := hb1
    have o1 := HOG.out.keep hG1
    have c0 := o1.cell_at (i := 0) rfl
    have c1 := o1.cell_at (i := 1) rfl
    have c2 := o1.cell_at (i := 2) rfl
    have c3 := o1.cell_at (i := 3) rfl
    have hl1 := o1.lt
    have HB1 := Lib.hid (HGR.out.trans hG1)
    have hn20 := hfair.len
    clear hb1 hG1 o1 hGt
    by_cases hn0 : g.rules.length = 0
    · rw [hn0] at c3
      clear hn20
      go_wp2_with (go_at_call 10; refine (lives5_ok _).mono ?_; rintro e w2 ⟨rfl, hb2⟩)
      go_ret
      exact ⟨rfl, Grew.trans HB1.out hb2⟩
    · have hn1 : 1 ≤ g.rules.length := by omega
      have hE := Lib.hid (empty_ok g w1 _ _ _ _ ((HG.out.keep HB1.out).mono HB1.out.size))
      clear hn0
      go_wp2_with fail
      have hy0 : 0 ≤ x % (g.rules.length : Int) := Int.emod_nonneg _ (by omega)
      have hy1 : x % (g.rules.length : Int) < (g.rules.length : Int) := Int.emod_lt_of_pos _ (by omega)
      generalize x % (g.rules.length : Int) = y at *
      obtain ⟨i, rfl⟩ := Int.eq_ofNat_of_zero_le hy0
      have hi : i < g.rules.length := by omega
      clear hy0 hy1
      refine hE.out.mono ?_
      rintro e w2 ⟨eb, es, rfl, hes, hoe, hle, hb2⟩
      have hG2 : Grew w1 w2 := hb2
      have d0 := (hG2.cells _ 0 hl1).trans c0
      have d1 := (hG2.cells _ 1 hl1).trans c1
      have d2 := (hG2.cells _ 2 hl1).trans c2
      have d3 := (hG2.cells _ 3 hl1).trans c3
      have hl2 : W.heap.size < w2.heap.size := by have := hG2.size; omega
      have HB2 := Lib.hid (HB1.out.trans hG2)
      have HES := Lib.hid hes
      have HOE := Lib.hid hoe
      have hebl := hoe.lt
      have hR2 := q9h.out.keep HB2.out
      clear c0 c1 c2 c3 hes hoe hb2 hG2 hE
      have hgb := grew_alloc w2 (.cells #[.string g.name, .int .i64 g.bound, .int .i64 g.states, .slice ra g.rules.length rc] 26)
      have hob := Owns.alloc w2 [.string g.name, .int .i64 g.bound, .int .i64 g.states, .slice ra g.rules.length rc] 26
      have hbo : ∃ rb ro, ra = some ⟨rb, ro, none⟩ ∧ rb < W.heap.size := by
        obtain ⟨b, off, h1, h2, _⟩ := hR2.get hi
        exact ⟨b, off, h1, h2⟩
      obtain ⟨rb, ro, rfl, hrb⟩ := hbo
      obtain ⟨cs, hcs, hnews, hone⟩ := q9h.out.cells
      have hnews3 : ∀ j u, cs[j]? = some u → (w2.alloc (.cells #[.string g.name, .int .i64 g.bound, .int .i64 g.states, .slice (some ⟨rb, ro, none⟩) g.rules.length rc] 26)).cell? ((⟨rb, ro, none⟩ : Addr).add j) = some u := by
        intro j u hj
        have e1 : (⟨rb, ro, none⟩ : Addr).add j = ⟨rb, ro + j, none⟩ := by
          unfold Addr.add
          split
          · rename_i h; rw [h]; rfl
          · rfl
        rw [e1, (HB2.out.trans hgb).cells _ _ (by omega)]
        have := hnews j u hj
        simpa using this
      have HNW := Lib.hid hnews3
      have HCS := Lib.hid hcs
      have HON := Lib.hid hone
      have HGB := Lib.hid hgb
      have HOB := Lib.hid hob
      have hmax : 0 + g.rules.length ≤ maxLen := by unfold maxLen; omega
      have HMAX := Lib.hid hmax
      have hcl := Lib.hid hcs.1
      obtain ⟨i0, hi0, hz0, hz1, hz2⟩ := info_parts info_rule
      have HI0 := Lib.hid hi0
      have HZ0 := Lib.hid hz0
      have HZ1 := Lib.hid hz1
      have HZ2 := Lib.hid hz2
      clear hgb hob hR2 hcs hnews hnews3 hone hmax hi0 hz0 hz1 hz2
      go_wp2_with (at_builtin; refine wpList_append_lies _ rfl _ _ 24 rfl (w2.heap.size + 1) 40 i0 _ 10 136 Try.underlying24 HI0.out HZ0.out HZ1.out HZ2.out rfl (by omega) (.slice none 0 0) 0 [] rfl ⟨rfl, .inl ⟨rfl, rfl⟩⟩ ⟨rb, ro, none⟩ g.rules.length rc cs rfl hcl.out HNW.out HON.out (by omega) HMAX.out (by omega) (by simp) (w2.heap.size + 1) (by simp) ?_; intro g' cap w4 hown hgrow hat hlt; have hG4 := HGB.out.trans (grew_grown hgrow); have HO4 := Lib.hid (HOB.out.keep (grew_grown hgrow)); have HG4 := Lib.hid hG4; have b3 := HO4.out.cell_at (i := 3) rfl; have f3 := HO4.out.free 3; have HROW := Lib.hid (OwnsPre.of_row hown); clear hown hgrow hat hG4)
      rw [List.nil_append] at HROW
      have hgl := HROW.out.2
      have hz4 := HG4.out.size
      have hu5 : Upd w2.heap.size w4 (w4.setCell ⟨w2.heap.size, 3, none⟩ (.slice (some ⟨g', 0, none⟩) g.rules.length cap)) := (Upd.refl _ _).setCell _ _
      have hu25 : Upd w2.heap.size w2 (w4.setCell ⟨w2.heap.size, 3, none⟩ (.slice (some ⟨g', 0, none⟩) g.rules.length cap)) := (HG4.out.upd _).trans hu5
      have hz5 := hu25.size
      have hne : W.heap.size ≠ w2.heap.size := by omega
      have e0 := (hu25.cell hl2 hne 0).trans d0
      have e1 := (hu25.cell hl2 hne 1).trans d1
      have e2 := (hu25.cell hl2 hne 2).trans d2
      have e3 := (hu25.cell hl2 hne 3).trans d3
      have hob5 := HO4.out.set 3 (.slice (some ⟨g', 0, none⟩) g.rules.length cap)
      simp only [List.set_cons_succ, List.set_cons_zero] at hob5
      have hg5 := HROW.out.1.upd hu5 (by omega)
      have hoe5 := HOE.out.upd hu25 (by omega)
      have hb05 : Below W.heap.size W (w4.setCell ⟨w2.heap.size, 3, none⟩ (.slice (some ⟨g', 0, none⟩) g.rules.length cap)) := HB2.out.trans (hu25.below (by omega) (by omega))
      have HOB5 := Lib.hid hob5
      have HG5 := Lib.hid hg5
      have HOE5 := Lib.hid hoe5
      have HB05 := Lib.hid hb05
      have hR5 := q9h.out.keep hb05
      have hl5 : W.heap.size < ((w4.setCell ⟨w2.heap.size, 3, none⟩ (.slice (some ⟨g', 0, none⟩) g.rules.length cap))).heap.size := by omega
      have hl5b : w2.heap.size < ((w4.setCell ⟨w2.heap.size, 3, none⟩ (.slice (some ⟨g', 0, none⟩) g.rules.length cap))).heap.size := hob5.lt
      have hl5g : g' < ((w4.setCell ⟨w2.heap.size, 3, none⟩ (.slice (some ⟨g', 0, none⟩) g.rules.length cap))).heap.size := hg5.lt
      have k3 := hob5.cell_at (i := 3) rfl
      have hfresh : w1.heap.size ≤ ((w4.setCell ⟨w2.heap.size, 3, none⟩ (.slice (some ⟨g', 0, none⟩) g.rules.length cap))).heap.size := by omega
      clear d0 d1 d2 d3 hu5 hu25 hob5 hg5 hoe5 hb05 b3 f3 HO4 HROW HOB HGB HNW HON
      generalize (w4.setCell ⟨w2.heap.size, 3, none⟩ (.slice (some ⟨g', 0, none⟩) g.rules.length cap)) = w5 at *
      obtain ⟨rb', ro', hre, hrb', hrule⟩ := hR5.get hi
      have hre' : rb = rb' ∧ ro = ro' := by simpa using hre
      obtain ⟨rfl, rfl⟩ := hre'
      simp only [Nat.zero_add] at hrule
      obtain ⟨u2, u3, u4, u5, u6, s0, s1, s2, s3, s4, s5, s6, s7, s8, s9, hrule, hnode⟩ := hrule.vals
      obtain ⟨bk, bnm, btx, bsa, bsl, bsc, bna, bnl, bnc, rfl, rfl, rfl, rfl, rfl⟩ := hnode.forms
      have HN := Lib.hid hnode
      have hrb5 : rb < w5.heap.size := by omega
      clear hrule hnode hR5 s0 s1 s7 s8 s9 hre
      refine wp_region_hav_lit follows (by kernel_rfl) ?_
      repeat (first
        | (refine HavG.skip (fun _ => rfl) ?_; simp only [Act.put, List.setIfInBounds_toArray, List.set_cons_zero, List.set_cons_succ])
        | (refine HavG.val (fun _ => rfl) ?_ (fun x w hw _ => ?_) ?_; rotate_left; (focus (have hc := hw.cells; clear hw; go_simp; first | done | rfl)); simp only [Act.put, List.setIfInBounds_toArray, List.set_cons_zero, List.set_cons_succ]))
      refine HavG.any (fun _ => rfl) (fun v w => ∃ sb, v = .slice (some ⟨sb, 0, none⟩) 2 2 ∧ w5.heap.size ≤ sb ∧ Owns w sb [.int .u8 bk, .string bnm, .string btx, .slice bsa bsl bsc, .slice bna bnl bnc, .int .u8 1, .string { data := #[] }, .string { data := #[] }, .slice none 0 0, .slice none 0 0] 36) ?_ (fun x w hw _ => ?_) ?_
      · rintro v w w' hg ⟨sb, h1, h2, h3⟩
        exact ⟨sb, h1, h2, h3.keep hg⟩
      · have HW := Lib.hid hw
        clear hw
        go_simp
        exact ⟨grew_alloc _ _, HW.out.size, Owns.alloc _ _ _⟩
      simp only [Act.put, List.setIfInBounds_toArray, List.set_cons_zero, List.set_cons_succ]
      refine HavG.any (fun _ => rfl) (fun v w => ∃ sb, v = .agg #[.int .u8 0, .string { data := #[] }, .string { data := #[] }, .slice none 0 0, .slice (some ⟨sb, 0, none⟩) 2 2] ∧ w5.heap.size ≤ sb ∧ Owns w sb [.int .u8 bk, .string bnm, .string btx, .slice bsa bsl bsc, .slice bna bnl bnc, .int .u8 1, .string { data := #[] }, .string { data := #[] }, .slice none 0 0, .slice none 0 0] 36) ?_ (fun x w hw hd => ?_) ?_
      · rintro v w w' hg ⟨sb, h1, h2, h3⟩
        exact ⟨sb, h1, h2, h3.keep hg⟩
      · obtain ⟨sb, hxe, h1, h2⟩ := hd _ (List.mem_append_right _ (List.mem_singleton.2 rfl)) (by kernel_rfl)
        dsimp only at hxe
        clear hd
        generalize x (0 + 1 + 1 + 1 + 1 + 1 + 1 + 1 + 1 + 1 + 1) = yv at *
        subst hxe
        have HW := Lib.hid hw
        have H2 := Lib.hid h2
        clear hw h2
        go_simp
        exact ⟨Grew.refl _, H2.out⟩
      simp only [Act.put, List.setIfInBounds_toArray, List.set_cons_zero, List.set_cons_succ]
      repeat (first
        | (refine HavG.skip (fun _ => rfl) ?_; simp only [Act.put, List.setIfInBounds_toArray, List.set_cons_zero, List.set_cons_succ])
        | (refine HavG.val (fun _ => rfl) ?_ (fun x w hw _ => ?_) ?_; rotate_left; (focus (have hc := hw.cells; clear hw; go_simp; first | done | rfl)); simp only [Act.put, List.setIfInBounds_toArray, List.set_cons_zero, List.set_cons_succ]))
      refine HavG.tail (by kernel_rfl) (by kernel_rfl) (fun x w6 hw hx => ?_)
      have hx' := hx _ (List.mem_append_right _ (List.mem_singleton.2 rfl))
      clear hx
      dsimp only at hx'
      generalize x (0 + 1 + 1 + 1 + 1 + 1 + 1 + 1 + 1 + 1 + 1 + 1) = yv at *
      obtain ⟨sb, rfl, hsb, hosb⟩ := hx'
      have hcl' := hcl.out
      have hg6 := HG5.out.keep hw
      have hcx : ∀ j, j < 10 → ∃ v, w6.cell? ⟨g', i * 10 + j, none⟩ = some v := fun j hj => by
        have hlt : i * 10 + j < cs.length := by omega
        exact ⟨cs[i * 10 + j], by rw [hg6.cell hlt, List.getElem?_eq_getElem hlt]⟩
      obtain ⟨t2, r2⟩ := hcx 2 (by omega)
      obtain ⟨t3, r3⟩ := hcx 3 (by omega)
      obtain ⟨t4, r4⟩ := hcx 4 (by omega)
      obtain ⟨t5, r5⟩ := hcx 5 (by omega)
      obtain ⟨t6, r6⟩ := hcx 6 (by omega)
      have n3 : i * 10 + 2 + 1 = i * 10 + 3 := by omega
      have n4 : i * 10 + 2 + 2 = i * 10 + 4 := by omega
      have n5 : i * 10 + 2 + 3 = i * 10 + 5 := by omega
      have n6 : i * 10 + 2 + 4 = i * 10 + 6 := by omega
      rw [← n3] at r3
      rw [← n4] at r4
      rw [← n5] at r5
      rw [← n6] at r6
      have p2 := hg6.free (i * 10 + 2)
      have p3 := hg6.free (i * 10 + 2 + 1)
      have p4 := hg6.free (i * 10 + 2 + 2)
      have p5 := hg6.free (i * 10 + 2 + 3)
      have p6 := hg6.free (i * 10 + 2 + 4)
      have HW := Lib.hid hw
      have HG6 := Lib.hid hg6
      have HSB := Lib.hid hosb
      have hu67 : Upd g' w6 (((((w6.setCell ⟨g', i * 10 + 2, none⟩ (.int .u8 0)).setCell ⟨g', i * 10 + 2 + 1, none⟩ (.string { data := #[] })).setCell ⟨g', i * 10 + 2 + 2, none⟩ (.string { data := #[] })).setCell ⟨g', i * 10 + 2 + 3, none⟩ (.slice none 0 0)).setCell ⟨g', i * 10 + 2 + 4, none⟩ (.slice (some ⟨sb, 0, none⟩) 2 2)) := (((((Upd.refl _ _).setCell _ _).setCell _ _).setCell _ _).setCell _ _).setCell _ _
      have hcs6 := hcl.out
      have og7 : OwnsPre (((((w6.setCell ⟨g', i * 10 + 2, none⟩ (.int .u8 0)).setCell ⟨g', i * 10 + 2 + 1, none⟩ (.string { data := #[] })).setCell ⟨g', i * 10 + 2 + 2, none⟩ (.string { data := #[] })).setCell ⟨g', i * 10 + 2 + 3, none⟩ (.slice none 0 0)).setCell ⟨g', i * 10 + 2 + 4, none⟩ (.slice (some ⟨sb, 0, none⟩) 2 2)) g' (((((cs.set (i * 10 + 2) (.int .u8 0)).set (i * 10 + 2 + 1) (.string { data := #[] })).set (i * 10 + 2 + 2) (.string { data := #[] })).set (i * 10 + 2 + 3) (.slice none 0 0)).set (i * 10 + 2 + 4) (.slice (some ⟨sb, 0, none⟩) 2 2)) 40 :=
        ((((hg6.set (by omega) _).set (by simp; omega) _).set (by simp; omega) _).set (by simp; omega) _).set (by simp; omega) _
      have hu57 : Upd g' w5 (((((w6.setCell ⟨g', i * 10 + 2, none⟩ (.int .u8 0)).setCell ⟨g', i * 10 + 2 + 1, none⟩ (.string { data := #[] })).setCell ⟨g', i * 10 + 2 + 2, none⟩ (.string { data := #[] })).setCell ⟨g', i * 10 + 2 + 3, none⟩ (.slice none 0 0)).setCell ⟨g', i * 10 + 2 + 4, none⟩ (.slice (some ⟨sb, 0, none⟩) 2 2)) := (hw.upd g').trans hu67
      have hz7 := hu57.size
      have hz67 := hu67.size
      have a0 := (hu57.cell hl5 (show W.heap.size ≠ g' by omega) 0).trans e0
      have a1 := (hu57.cell hl5 (show W.heap.size ≠ g' by omega) 1).trans e1
      have a2 := (hu57.cell hl5 (show W.heap.size ≠ g' by omega) 2).trans e2
      have a3 := (hu57.cell hl5 (show W.heap.size ≠ g' by omega) 3).trans e3
      have ob7 := HOB5.out.upd hu57 (by omega)
      have b0 := ob7.cell_at (i := 0) rfl
      have b1 := ob7.cell_at (i := 1) rfl
      have b2 := ob7.cell_at (i := 2) rfl
      have b3 := ob7.cell_at (i := 3) rfl
      have oe7 := HOE5.out.upd hu57 (by omega)
      have hb07 : Below W.heap.size W (((((w6.setCell ⟨g', i * 10 + 2, none⟩ (.int .u8 0)).setCell ⟨g', i * 10 + 2 + 1, none⟩ (.string { data := #[] })).setCell ⟨g', i * 10 + 2 + 2, none⟩ (.string { data := #[] })).setCell ⟨g', i * 10 + 2 + 3, none⟩ (.slice none 0 0)).setCell ⟨g', i * 10 + 2 + 4, none⟩ (.slice (some ⟨sb, 0, none⟩) 2 2)) := HB05.out.trans (hu57.below (by omega) (by omega))
      have hsb7 := hosb.upd hu67 (show sb ≠ g' by omega)
      have hn7 := (HN.out.keep (hu57.below (show W.heap.size ≤ g' by omega) (by omega))).mono hb07.size
      have halt := alt_at hsb7 hsb7.lt hn7
      have hrows := ((HCS.out.keep hb07).mono hb07.size).put hi halt
      have hrat := hrows.at og7 og7.lt
      have HGH : GrAt (((((w6.setCell ⟨g', i * 10 + 2, none⟩ (.int .u8 0)).setCell ⟨g', i * 10 + 2 + 1, none⟩ (.string { data := #[] })).setCell ⟨g', i * 10 + 2 + 2, none⟩ (.string { data := #[] })).setCell ⟨g', i * 10 + 2 + 3, none⟩ (.slice none 0 0)).setCell ⟨g', i * 10 + 2 + 4, none⟩ (.slice (some ⟨sb, 0, none⟩) 2 2)) ((((((w6.setCell ⟨g', i * 10 + 2, none⟩ (.int .u8 0)).setCell ⟨g', i * 10 + 2 + 1, none⟩ (.string { data := #[] })).setCell ⟨g', i * 10 + 2 + 2, none⟩ (.string { data := #[] })).setCell ⟨g', i * 10 + 2 + 3, none⟩ (.slice none 0 0)).setCell ⟨g', i * 10 + 2 + 4, none⟩ (.slice (some ⟨sb, 0, none⟩) 2 2))).heap.size (some (.string g.name)) (some (.int .i64 g.bound)) (some (.int .i64 g.states)) (some (.slice (some ⟨g', 0, none⟩) g.rules.length cap)) (g.put i (altNode g.rules[i].body)) := by
        have hgg := HG.out
        refine ⟨rfl, hgg.2.1, rfl, rfl, hgg.2.2.2.2.1, hgg.2.2.2.2.2.1, some ⟨g', 0, none⟩, cap, by rw [put_length], by rw [put_length]; unfold reachN; omega, ?_⟩
        rw [put_rules g i hi]
        exact hrat
      have hE2 := Lib.hid (empty_ok _ _ _ _ _ _ HGH)
      have HOG7 := Lib.hid og7
      have HOB7 := Lib.hid ob7
      have HOE7 := Lib.hid oe7
      have HB07 := Lib.hid hb07
      have HN7 := Lib.hid hn7
      have HR7 := Lib.hid (q9h.out.keep hb07)
      have hl7 : W.heap.size < ((((((w6.setCell ⟨g', i * 10 + 2, none⟩ (.int .u8 0)).setCell ⟨g', i * 10 + 2 + 1, none⟩ (.string { data := #[] })).setCell ⟨g', i * 10 + 2 + 2, none⟩ (.string { data := #[] })).setCell ⟨g', i * 10 + 2 + 3, none⟩ (.slice none 0 0)).setCell ⟨g', i * 10 + 2 + 4, none⟩ (.slice (some ⟨sb, 0, none⟩) 2 2))).heap.size := by omega
      have hl7b := ob7.lt
      have hl7g := og7.lt
      have hl7e := oe7.lt
      clear hcl' hw hg6 hosb hcx n3 n4 n5 n6 hu67 og7 hu57 ob7 oe7 hb07 hsb7 hn7 halt hrows hrat HGH e0 e1 e2 e3 k3 hcs6 HOB5 HOE5 HB05 HN HG5
      go_step
      go_step
      clear r2 r3 r4 r5 r6 p2 p3 p4 p5 p6 s2 s3 s4 s5 s6
      generalize (((((w6.setCell ⟨g', i * 10 + 2, none⟩ (.int .u8 0)).setCell ⟨g', i * 10 + 2 + 1, none⟩ (.string { data := #[] })).setCell ⟨g', i * 10 + 2 + 2, none⟩ (.string { data := #[] })).setCell ⟨g', i * 10 + 2 + 3, none⟩ (.slice none 0 0)).setCell ⟨g', i * 10 + 2 + 4, none⟩ (.slice (some ⟨sb, 0, none⟩) 2 2)) = w7 at *
      go_wp2_with fail
      refine hE2.out.mono ?_
      rintro e w8 ⟨fb, fs, rfl, hfs, hof, hlef, hb8⟩
      simp only [put_length]
      have hG8 : Grew w7 w8 := hb8
      have e0 := (hG8.cells _ 0 hl7).trans a0
      have e1 := (hG8.cells _ 1 hl7).trans a1
      have e2 := (hG8.cells _ 2 hl7).trans a2
      have e3 := (hG8.cells _ 3 hl7).trans a3
      have k3 := (hG8.cells _ 3 hl7b).trans b3
      have HFS := Lib.hid hfs
      have HOF := Lib.hid hof
      have HOB8 := Lib.hid (HOB7.out.keep hG8)
      have HOG8 := Lib.hid (HOG7.out.keep hG8)
      have HOE8 := Lib.hid (HOE7.out.keep hG8)
      have HB08 := Lib.hid (HB07.out.trans (hG8.mono (by omega)))
      have hR8 := HR7.out.keep (hG8.mono (show W.heap.size ≤ w7.heap.size by omega))
      have HN8 := Lib.hid (HN7.out.keep hG8)
      have hz8 := hG8.size
      have hl8 : W.heap.size < w8.heap.size := by omega
      have hl8b : w2.heap.size < w8.heap.size := by omega
      have hl8g : g' < w8.heap.size := by omega
      have hfl := hof.lt
      obtain ⟨rb', ro', hre, hrb', hrule⟩ := hR8.get hi
      have hre' : rb = rb' ∧ ro = ro' := by simpa using hre
      obtain ⟨rfl, rfl⟩ := hre'
      simp only [Nat.zero_add] at hrule
      obtain ⟨u2, u3, u4, u5, u6, s0, s1', s2, s3, s4, s5, s6, s7, s8, s9, hrule, hnode⟩ := hrule.vals
      obtain ⟨bk, bnm, btx, bsa, bsl, bsc, bna, bnl, bnc, rfl, rfl, rfl, rfl, rfl⟩ := hnode.forms
      have HN := Lib.hid (hnode.mono HB08.out.size)
      have hrb8 : rb < w8.heap.size := by omega
      clear hrule hnode hR8 s0 s1' s7 s8 s9 hre a0 a1 a2 a3 b0 b1 b2 b3 hfs hof hb8 hG8 hE2 HOB7 HOG7 HOE7 HB07 HR7 HN7 HN8
      go_wp2_with fail
      refine wp_region_hav_lit follows (by kernel_rfl) ?_
      repeat (first
        | (refine HavG.skip (fun _ => rfl) ?_; simp only [Act.put, List.setIfInBounds_toArray, List.set_cons_zero, List.set_cons_succ])
        | (refine HavG.val (fun _ => rfl) ?_ (fun x w hw _ => ?_) ?_; rotate_left; (focus (have hc := hw.cells; clear hw; go_simp; first | done | rfl)); simp only [Act.put, List.setIfInBounds_toArray, List.set_cons_zero, List.set_cons_succ]))
      refine HavG.any (fun _ => rfl) (fun v w => ∃ s1, v = .slice (some ⟨s1, 0, none⟩) 1 1 ∧ w8.heap.size ≤ s1 ∧ Owns w s1 [.int .i32 65, .int .i32 65] 42) ?_ (fun x w hw _ => ?_) ?_
      · rintro v w w' hg ⟨s1, h1, h2, h3⟩
        exact ⟨s1, h1, h2, h3.keep hg⟩
      · have HW := Lib.hid hw
        clear hw
        go_simp
        exact ⟨grew_alloc _ _, HW.out.size, Owns.alloc _ _ _⟩
      simp only [Act.put, List.setIfInBounds_toArray, List.set_cons_zero, List.set_cons_succ]
      refine HavG.any (fun _ => rfl) (fun v w => ∃ s1, v = .agg #[.int .u8 9, .string { data := #[] }, .string { data := #[] }, .slice (some ⟨s1, 0, none⟩) 1 1, .slice none 0 0] ∧ w8.heap.size ≤ s1 ∧ Owns w s1 [.int .i32 65, .int .i32 65] 42) ?_ (fun x w hw hd => ?_) ?_
      · rintro v w w' hg ⟨s1, h1, h2, h3⟩
        exact ⟨s1, h1, h2, h3.keep hg⟩
      · obtain ⟨s1, hxe, h1, h2⟩ := hd _ (List.mem_append_right _ (List.mem_singleton.2 rfl)) (by kernel_rfl)
        dsimp only at hxe
        clear hd
        generalize x (0 + 1 + 1 + 1 + 1) = yv at *
        subst hxe
        have H2 := Lib.hid h2
        have H1 := Lib.hid h1
        clear hw h2 h1
        go_simp
        exact ⟨Grew.refl _, H1.out, H2.out⟩
      simp only [Act.put, List.setIfInBounds_toArray, List.set_cons_zero, List.set_cons_succ]
      repeat (first
        | (refine HavG.skip (fun _ => rfl) ?_; simp only [Act.put, List.setIfInBounds_toArray, List.set_cons_zero, List.set_cons_succ])
        | (refine HavG.val (fun _ => rfl) ?_ (fun x w hw _ => ?_) ?_; rotate_left; (focus (have hc := hw.cells; clear hw; go_simp; first | done | rfl)); simp only [Act.put, List.setIfInBounds_toArray, List.set_cons_zero, List.set_cons_succ]))
      refine HavG.any (fun _ => rfl) (fun v w => ∃ s1 sb, v = .slice (some ⟨sb, 0, none⟩) 2 2 ∧ w8.heap.size ≤ s1 ∧ w8.heap.size ≤ sb ∧ Owns w s1 [.int .i32 65, .int .i32 65] 42 ∧ Owns w sb [.int .u8 9, .string { data := #[] }, .string { data := #[] }, .slice (some ⟨s1, 0, none⟩) 1 1, .slice none 0 0, .int .u8 bk, .string bnm, .string btx, .slice bsa bsl bsc, .slice bna bnl bnc] 36) ?_ (fun x w hw hd => ?_) ?_
      · rintro v w w' hg ⟨s1, sb, h1, h2, h3, h4, h5⟩
        exact ⟨s1, sb, h1, h2, h3, h4.keep hg, h5.keep hg⟩
      · obtain ⟨s1, hxe, h1, h2⟩ := hd _ (List.mem_append_right _ (List.mem_singleton.2 rfl)) (by kernel_rfl)
        dsimp only at hxe
        clear hd
        generalize x (0 + 1 + 1 + 1 + 1 + 1) = yv at *
        subst hxe
        have H2 := Lib.hid h2
        have H1 := Lib.hid h1
        have HW := Lib.hid hw
        clear hw h2 h1
        go_simp
        exact ⟨grew_alloc _ _, s1, H1.out, HW.out.size, H2.out.keep (grew_alloc _ _), Owns.alloc _ _ _⟩
      simp only [Act.put, List.setIfInBounds_toArray, List.set_cons_zero, List.set_cons_succ]
      refine HavG.any (fun _ => rfl) (fun v w => ∃ s1 sb, v = .agg #[.int .u8 1, .string { data := #[] }, .string { data := #[] }, .slice none 0 0, .slice (some ⟨sb, 0, none⟩) 2 2] ∧ w8.heap.size ≤ s1 ∧ w8.heap.size ≤ sb ∧ Owns w s1 [.int .i32 65, .int .i32 65] 42 ∧ Owns w sb [.int .u8 9, .string { data := #[] }, .string { data := #[] }, .slice (some ⟨s1, 0, none⟩) 1 1, .slice none 0 0, .int .u8 bk, .string bnm, .string btx, .slice bsa bsl bsc, .slice bna bnl bnc] 36) ?_ (fun x w hw hd => ?_) ?_
      · rintro v w w' hg ⟨s1, sb, h1, h2, h3, h4, h5⟩
        exact ⟨s1, sb, h1, h2, h3, h4.keep hg, h5.keep hg⟩
      · obtain ⟨s1, sb, hxe, h1, h2, h3, h4⟩ := hd _ (List.mem_append_right _ (List.mem_singleton.2 rfl)) (by kernel_rfl)
        dsimp only at hxe
        clear hd
        generalize x (0 + 1 + 1 + 1 + 1 + 1 + 1 + 1 + 1 + 1 + 1 + 1 + 1) = yv at *
        subst hxe
        have H1 := Lib.hid h1
        have H2 := Lib.hid h2
        have H3 := Lib.hid h3
        have H4 := Lib.hid h4
        clear hw h1 h2 h3 h4
        go_simp
        exact ⟨Grew.refl _, s1, H1.out, H2.out, H3.out, H4.out⟩
      simp only [Act.put, List.setIfInBounds_toArray, List.set_cons_zero, List.set_cons_succ]
      repeat (first
        | (refine HavG.skip (fun _ => rfl) ?_; simp only [Act.put, List.setIfInBounds_toArray, List.set_cons_zero, List.set_cons_succ])
        | (refine HavG.val (fun _ => rfl) ?_ (fun x w hw _ => ?_) ?_; rotate_left; (focus (have hc := hw.cells; clear hw; go_simp; first | done | rfl)); simp only [Act.put, List.setIfInBounds_toArray, List.set_cons_zero, List.set_cons_succ]))
      refine HavG.tail (by kernel_rfl) (by kernel_rfl) (fun x w9 hw hx => ?_)
      have hx' := hx _ (List.mem_append_right _ (List.mem_singleton.2 rfl))
      clear hx
      dsimp only at hx'
      generalize x (0 + 1 + 1 + 1 + 1 + 1 + 1 + 1 + 1 + 1 + 1 + 1 + 1 + 1) = yv at *
      obtain ⟨s1, sb2, rfl, hs1, hsb2, hos1, hosb⟩ := hx'
      have hcl2 := hcl.out
      have hg9 := HOG8.out.keep hw
      have hcx : ∀ j, j < 10 → ∃ v, w9.cell? ⟨g', i * 10 + j, none⟩ = some v := fun j hj => by
        have hlt : i * 10 + j < (((((cs.set (i * 10 + 2) (.int .u8 0)).set (i * 10 + 2 + 1) (.string { data := #[] })).set (i * 10 + 2 + 2) (.string { data := #[] })).set (i * 10 + 2 + 3) (.slice none 0 0)).set (i * 10 + 2 + 4) (.slice (some ⟨sb, 0, none⟩) 2 2)).length := by simp only [List.length_set]; omega
        exact ⟨_, by rw [hg9.cell hlt, List.getElem?_eq_getElem hlt]⟩
      obtain ⟨t2, r2⟩ := hcx 2 (by omega)
      obtain ⟨t3, r3⟩ := hcx 3 (by omega)
      obtain ⟨t4, r4⟩ := hcx 4 (by omega)
      obtain ⟨t5, r5⟩ := hcx 5 (by omega)
      obtain ⟨t6, r6⟩ := hcx 6 (by omega)
      have n3 : i * 10 + 2 + 1 = i * 10 + 3 := by omega
      have n4 : i * 10 + 2 + 2 = i * 10 + 4 := by omega
      have n5 : i * 10 + 2 + 3 = i * 10 + 5 := by omega
      have n6 : i * 10 + 2 + 4 = i * 10 + 6 := by omega
      rw [← n3] at r3
      rw [← n4] at r4
      rw [← n5] at r5
      rw [← n6] at r6
      have p2 := hg9.free (i * 10 + 2)
      have p3 := hg9.free (i * 10 + 2 + 1)
      have p4 := hg9.free (i * 10 + 2 + 2)
      have p5 := hg9.free (i * 10 + 2 + 3)
      have p6 := hg9.free (i * 10 + 2 + 4)
      have hu910 : Upd g' w9 (((((w9.setCell ⟨g', i * 10 + 2, none⟩ (.int .u8 1)).setCell ⟨g', i * 10 + 2 + 1, none⟩ (.string { data := #[] })).setCell ⟨g', i * 10 + 2 + 2, none⟩ (.string { data := #[] })).setCell ⟨g', i * 10 + 2 + 3, none⟩ (.slice none 0 0)).setCell ⟨g', i * 10 + 2 + 4, none⟩ (.slice (some ⟨sb2, 0, none⟩) 2 2)) := (((((Upd.refl _ _).setCell _ _).setCell _ _).setCell _ _).setCell _ _).setCell _ _
      have og10 : OwnsPre (((((w9.setCell ⟨g', i * 10 + 2, none⟩ (.int .u8 1)).setCell ⟨g', i * 10 + 2 + 1, none⟩ (.string { data := #[] })).setCell ⟨g', i * 10 + 2 + 2, none⟩ (.string { data := #[] })).setCell ⟨g', i * 10 + 2 + 3, none⟩ (.slice none 0 0)).setCell ⟨g', i * 10 + 2 + 4, none⟩ (.slice (some ⟨sb2, 0, none⟩) 2 2)) g' (((((cs.set (i * 10 + 2) (.int .u8 1)).set (i * 10 + 2 + 1) (.string { data := #[] })).set (i * 10 + 2 + 2) (.string { data := #[] })).set (i * 10 + 2 + 3) (.slice none 0 0)).set (i * 10 + 2 + 4) (.slice (some ⟨sb2, 0, none⟩) 2 2)) 40 := by
        have := ((((hg9.set (i := i * 10 + 2) (by simp only [List.length_set]; omega) (.int .u8 1)).set (i := i * 10 + 2 + 1) (by simp only [List.length_set]; omega) (.string { data := #[] })).set (i := i * 10 + 2 + 2) (by simp only [List.length_set]; omega) (.string { data := #[] })).set (i := i * 10 + 2 + 3) (by simp only [List.length_set]; omega) (.slice none 0 0)).set (i := i * 10 + 2 + 4) (by simp only [List.length_set]; omega) (.slice (some ⟨sb2, 0, none⟩) 2 2)
        rwa [five_set] at this
      have hu810 : Upd g' w8 (((((w9.setCell ⟨g', i * 10 + 2, none⟩ (.int .u8 1)).setCell ⟨g', i * 10 + 2 + 1, none⟩ (.string { data := #[] })).setCell ⟨g', i * 10 + 2 + 2, none⟩ (.string { data := #[] })).setCell ⟨g', i * 10 + 2 + 3, none⟩ (.slice none 0 0)).setCell ⟨g', i * 10 + 2 + 4, none⟩ (.slice (some ⟨sb2, 0, none⟩) 2 2)) := (hw.upd g').trans hu910
      have hz10 := hu810.size
      have hz910 := hu910.size
      have a0 := (hu810.cell hl8 (show W.heap.size ≠ g' by omega) 0).trans e0
      have a1 := (hu810.cell hl8 (show W.heap.size ≠ g' by omega) 1).trans e1
      have a2 := (hu810.cell hl8 (show W.heap.size ≠ g' by omega) 2).trans e2
      have a3 := (hu810.cell hl8 (show W.heap.size ≠ g' by omega) 3).trans e3
      have ob10 := HOB8.out.upd hu810 (by omega)
      have b0 := ob10.cell_at (i := 0) rfl
      have b1 := ob10.cell_at (i := 1) rfl
      have b2 := ob10.cell_at (i := 2) rfl
      have b3 := ob10.cell_at (i := 3) rfl
      have oe10 := HOE8.out.upd hu810 (by omega)
      have of10 := HOF.out.upd hu810 (by omega)
      have hb010 : Below W.heap.size W (((((w9.setCell ⟨g', i * 10 + 2, none⟩ (.int .u8 1)).setCell ⟨g', i * 10 + 2 + 1, none⟩ (.string { data := #[] })).setCell ⟨g', i * 10 + 2 + 2, none⟩ (.string { data := #[] })).setCell ⟨g', i * 10 + 2 + 3, none⟩ (.slice none 0 0)).setCell ⟨g', i * 10 + 2 + 4, none⟩ (.slice (some ⟨sb2, 0, none⟩) 2 2)) := HB08.out.trans (hu810.below (by omega) (by omega))
      have hs110 := hos1.upd hu910 (show s1 ≠ g' by omega)
      have hsb10 := hosb.upd hu910 (show sb2 ≠ g' by omega)
      have hn10 := ((q9h.out.keep hb010).get hi)
      obtain ⟨rb', ro', hre, hrb', hrule⟩ := hn10
      have hre' : rb = rb' ∧ ro = ro' := by simpa using hre
      obtain ⟨rfl, rfl⟩ := hre'
      simp only [Nat.zero_add] at hrule
      have hnode := hrule.2.2.2.2.1
      have hcc : ∀ o, ((((((w9.setCell ⟨g', i * 10 + 2, none⟩ (.int .u8 1)).setCell ⟨g', i * 10 + 2 + 1, none⟩ (.string { data := #[] })).setCell ⟨g', i * 10 + 2 + 2, none⟩ (.string { data := #[] })).setCell ⟨g', i * 10 + 2 + 3, none⟩ (.slice none 0 0)).setCell ⟨g', i * 10 + 2 + 4, none⟩ (.slice (some ⟨sb2, 0, none⟩) 2 2))).cell? ⟨rb, o, none⟩ = w8.cell? ⟨rb, o, none⟩ := fun o => hu810.cell hrb8 (by omega) o
      rw [hcc, hcc, hcc, hcc, hcc, s2, s3, s4, s5, s6] at hnode
      have htok := tok_at hsb10 hs110 hsb10.lt hs110.lt (hnode.mono hb010.size)
      have hrows := ((HCS.out.keep hb010).mono hb010.size).put hi htok
      have hrat := hrows.at og10 og10.lt
      have HGH : GrAt (((((w9.setCell ⟨g', i * 10 + 2, none⟩ (.int .u8 1)).setCell ⟨g', i * 10 + 2 + 1, none⟩ (.string { data := #[] })).setCell ⟨g', i * 10 + 2 + 2, none⟩ (.string { data := #[] })).setCell ⟨g', i * 10 + 2 + 3, none⟩ (.slice none 0 0)).setCell ⟨g', i * 10 + 2 + 4, none⟩ (.slice (some ⟨sb2, 0, none⟩) 2 2)) ((((((w9.setCell ⟨g', i * 10 + 2, none⟩ (.int .u8 1)).setCell ⟨g', i * 10 + 2 + 1, none⟩ (.string { data := #[] })).setCell ⟨g', i * 10 + 2 + 2, none⟩ (.string { data := #[] })).setCell ⟨g', i * 10 + 2 + 3, none⟩ (.slice none 0 0)).setCell ⟨g', i * 10 + 2 + 4, none⟩ (.slice (some ⟨sb2, 0, none⟩) 2 2))).heap.size (some (.string g.name)) (some (.int .i64 g.bound)) (some (.int .i64 g.states)) (some (.slice (some ⟨g', 0, none⟩) g.rules.length cap)) (g.put i (tokNode g.rules[i].body)) := by
        have hgg := HG.out
        refine ⟨rfl, hgg.2.1, rfl, rfl, hgg.2.2.2.2.1, hgg.2.2.2.2.2.1, some ⟨g', 0, none⟩, cap, by rw [put_length], by rw [put_length]; unfold reachN; omega, ?_⟩
        rw [put_rules g i hi]
        exact hrat
      have hE3 := Lib.hid (empty_ok _ _ _ _ _ _ HGH)
      have HGH10 := Lib.hid HGH
      have HOB10 := Lib.hid ob10
      have HOE10 := Lib.hid oe10
      have HOF10 := Lib.hid of10
      have HB010 := Lib.hid hb010
      have hl10 : W.heap.size < ((((((w9.setCell ⟨g', i * 10 + 2, none⟩ (.int .u8 1)).setCell ⟨g', i * 10 + 2 + 1, none⟩ (.string { data := #[] })).setCell ⟨g', i * 10 + 2 + 2, none⟩ (.string { data := #[] })).setCell ⟨g', i * 10 + 2 + 3, none⟩ (.slice none 0 0)).setCell ⟨g', i * 10 + 2 + 4, none⟩ (.slice (some ⟨sb2, 0, none⟩) 2 2))).heap.size := by omega
      have hl10b := ob10.lt
      clear hcl2 hw hg9 hcx n3 n4 n5 n6 hu910 og10 hu810 ob10 oe10 of10 hb010 hs110 hsb10 hos1 hosb hrule hnode hcc htok hrows hrat HGH e0 e1 e2 e3 k3 hre
      go_step
      go_step
      clear r2 r3 r4 r5 r6 p2 p3 p4 p5 p6 s2 s3 s4 s5 s6
      generalize (((((w9.setCell ⟨g', i * 10 + 2, none⟩ (.int .u8 1)).setCell ⟨g', i * 10 + 2 + 1, none⟩ (.string { data := #[] })).setCell ⟨g', i * 10 + 2 + 2, none⟩ (.string { data := #[] })).setCell ⟨g', i * 10 + 2 + 3, none⟩ (.slice none 0 0)).setCell ⟨g', i * 10 + 2 + 4, none⟩ (.slice (some ⟨sb2, 0, none⟩) 2 2)) = w10 at *
      go_wp2_with fail
      refine hE3.out.mono ?_
      rintro e w11 ⟨db, ds, rfl, hds, hod, hled, hb11⟩
      simp only [put_length]
      have hG11 : Grew w10 w11 := hb11
      have c0 := (hG11.cells _ 0 hl10b).trans b0
      have c1 := (hG11.cells _ 1 hl10b).trans b1
      have c2 := (hG11.cells _ 2 hl10b).trans b2
      have c3 := (hG11.cells _ 3 hl10b).trans b3
      have x3 := (hG11.cells _ 3 hl10).trans a3
      have hR12 := Lib.hid (reach_ok _ _ _ _ _ _ (by rw [put_length]; omega) ((HGH10.out.keep hG11).mono hG11.size))
      have HDS := Lib.hid hds
      have HOD := Lib.hid hod
      have HOE11 := Lib.hid (HOE10.out.keep hG11)
      have HOF11 := Lib.hid (HOF10.out.keep hG11)
      have HB011 := Lib.hid (HB010.out.trans (hG11.mono (by omega)))
      have hz11 := hG11.size
      have hl11 : W.heap.size < w11.heap.size := by omega
      clear a0 a1 a2 a3 b0 b1 b2 b3 hds hod hb11 hG11 HGH10 HOB10 HOE10 HOF10 HB010 hE3
      go_wp2_with fail
      refine hR12.out.mono ?_
      rintro e w12 ⟨B, ob, rwb, f, ds', M, rfl, hds', hre, hmat, hB, hrwb, hb12⟩
      simp only [put_length] at hre hmat ⊢
      have hlaw1 := alt_grows hi HES.out HFS.out
      have hlaw2 := tok_falls hi HES.out HDS.out
      have hlaw3 := tok_reaches hi hre
      have hG12 : Grew w11 w12 := hb12
      have y3 := (hG12.cells _ 3 hl11).trans x3
      have oe := HOE11.out.keep hG12
      have of := HOF11.out.keep hG12
      have od := HOD.out.keep hG12
      have hle1 : es.length = g.rules.length := HES.out.sound.1
      have hle2 : fs.length = g.rules.length := by have := HFS.out.sound.1; rw [put_length] at this; exact this
      have hle3 : ds.length = g.rules.length := by have := HDS.out.sound.1; rw [put_length] at this; exact this
      have ce : ∀ k, k < g.rules.length → w12.cell? ⟨eb, k, none⟩ = some (.bool (es.getD k false)) := fun k hk => oe.cell_at (by simp [List.getD_eq_getElem?_getD, show k < es.length by omega])
      have cf : ∀ k, k < g.rules.length → w12.cell? ⟨fb, k, none⟩ = some (.bool (fs.getD k false)) := fun k hk => of.cell_at (by simp [List.getD_eq_getElem?_getD, show k < fs.length by omega])
      have cd : ∀ k, k < g.rules.length → w12.cell? ⟨db, k, none⟩ = some (.bool (ds.getD k false)) := fun k hk => od.cell_at (by simp [List.getD_eq_getElem?_getD, show k < ds.length by omega])
      have cr := hmat.row hi
      have crr : ∀ k, k < g.rules.length → w12.cell? ⟨f i, k, none⟩ = some (.bool false) := fun k hk => by rw [hmat.cell hi hk, hlaw3]
      have cfi := cf i hi
      rw [hlaw1.1] at cfi
      have cdi := cd i hi
      rw [hlaw2.1] at cdi
      have CE := Lib.hid ce
      have CF := Lib.hid cf
      have CD := Lib.hid cd
      have CRR := Lib.hid crr
      have HL1 := Lib.hid hlaw1.2
      have HL2 := Lib.hid hlaw2.2
      have HB12 := Lib.hid (HB011.out.trans (hG12.mono (by omega)))
      clear ce cf cd crr hlaw1 hlaw2 hlaw3 hmat hre hds' hb12 hG12 oe of od c0 c1 c2 c3 x3 hle1 hle2 hle3 hR12
      go_wp2_with fail
      clear cfi cdi y3
      go_loop [11] (fun c => ∃ k : Nat, c = .int .i64 k ∧ k ≤ g.rules.length) (fun c => g.rules.length - (intOf c).toNat)
      case atStart => exact ⟨0, rfl, by omega⟩
      case round =>
        obtain ⟨k, rfl, hk⟩ := hrel
        by_cases hlt : k < g.rules.length
        · have e1 := CE.out k hlt
          have f1 := CF.out k hlt
          have d1 := CD.out k hlt
          have r1 := CRR.out k hlt
          have i1 := HL1.out k
          have i2 := HL2.out k
          generalize es.getD k false = be at *
          generalize fs.getD k false = bf at *
          generalize ds.getD k false = bd at *
          cases be
          · have hbd : bd = false := by
              cases bd with
              | false => rfl
              | true => exact absurd (i2 rfl) (by simp)
            subst hbd
            clear i1 i2
            go_wp2_with fail
            go_round
            case rel => exact ⟨k + 1, by go_num, by omega⟩
            case measure => simp [intOf]; omega
          · have hbf := i1 rfl
            subst hbf
            clear i1 i2
            cases bd
            · go_wp2_with fail
              go_round
              case rel => exact ⟨k + 1, by go_num, by omega⟩
              case measure => simp [intOf]; omega
            · go_wp2_with fail
              go_round
              case rel => exact ⟨k + 1, by go_num, by omega⟩
              case measure => simp [intOf]; omega
        · go_wp2_with (go_at_call 10; refine (lives5_ok _).mono ?_; rintro e w13 ⟨rfl, hb13⟩)
          go_ret
          exact ⟨rfl, Grew.trans HB12.out hb13⟩
end Go.Proofs.Ytnopnihdobedcaa
