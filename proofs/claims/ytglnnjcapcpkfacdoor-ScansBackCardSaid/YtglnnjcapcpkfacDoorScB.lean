/- ScansBack: it answers true, for every text and all gaps. -/
import Derived.Test.YtglnnjcapcpkfacDoorScLike
import Derived.Test.YtglnnjcapcpkfacDoorScBk4
namespace Go.Proofs.YtglnnjcapcpkfacDoor
open Go.RowKit

/-- which gap stands behind a word -/
def gapOf (gl : List Nat) (i : Nat) : Nat := gl.getD i 0 % 6
def gapTexts : List Value := [.string { data := #[32] }, .string { data := #[10] }, .string { data := #[47, 42, 32, 39, 32, 42, 47] }, .string { data := #[47, 47, 32, 91, 10] }, .string { data := #[9, 13] }, .string { data := #[47, 42, 42, 47] }]
theorem gapTexts_get (i : Nat) (h : i < 6) : gapTexts[i]? = some (.string ⟨(gapL i).toArray⟩) := by
  have : i = 0 ∨ i = 1 ∨ i = 2 ∨ i = 3 ∨ i = 4 ∨ i = 5 := by omega
  rcases this with rfl | rfl | rfl | rfl | rfl | rfl <;> rfl
theorem words_few (L : Nat) : ∀ (ws : List Wd) (m : Nat), (∀ w ∈ ws, m ≤ w.at_ ∧ w.at_ < L) → ws.Pairwise (fun a b => a.at_ < b.at_) → ws = [] ∨ m + ws.length ≤ L
  | [], _, _, _ => .inl rfl
  | w :: ws, m, h, hp => by
    have h0 := h w (by simp)
    rw [List.pairwise_cons] at hp
    rcases words_few L ws (m + 1) (fun x hx => ⟨by have := hp.1 x hx; omega, (h x (List.mem_cons_of_mem _ hx)).2⟩) hp.2 with rfl | h2
    · right; simp; omega
    · right; rw [List.length_cons]; omega

set_option maxHeartbeats 8000000 in
set_option maxRecDepth 40000 in
theorem scansBack_ok (s : ByteArray) (gl : List Nat) (hgl : ∀ x ∈ gl, x ≤ 255) (gx : Option Addr) (gc : Nat) (W : World) (hW : LaidB W)
    (hgv : ∀ (j : Nat) (h : j < gl.length), ∃ b off, gx = some ⟨b, off, none⟩ ∧ b < W.heap.size ∧ W.cell? ⟨b, off + j, none⟩ = some (.int .u8 (gl[j] : Nat))) :
    Calls Tryd.prog 3 #[.string s, .slice gx gl.length gc] W fun e W' => e = .returned (.bool true) ∧ Grew W W' := by
  have hL : Hid (∀ w, Grew W w → Calls Tryd.prog 4 #[] w fun e w' => e = .returned (.bool true) ∧ Grew w w') := fun w hg => lives2_ok w (hW.laid.below hg)
  by_cases hbig : s.size ≤ 2000
  · have hS := scan_ok s W (by omega) hW.laid
    have hok := scanF_ok s.data.toList
    have hwh := scanF_whole s.data.toList
    have hLs : s.data.toList.length = s.size := (Lib.size_eq s).symm
    obtain ⟨o, ho⟩ : ∃ o, scanF s.data.toList = o := ⟨_, rfl⟩
    rw [ho] at hS hok hwh
    obtain ⟨ws, q, e⟩ := o
    simp only at hok hwh
    have HS := Lib.hid hS
    have HOK := Lib.hid hok
    have HWH := Lib.hid hwh
    have HW := Lib.hid hW
    have HGL := Lib.hid hgl
    have HGV := Lib.hid hgv
    clear hS hok ho hW hwh hgl hgv
    go_enter Tryd.func3, Tryd.ntmps3
    go_wp2_with fail
    refine HS.out.mono ?_
    rintro r w1 ⟨hg1, hF, hT⟩
    have G1 := Lib.hid hg1
    by_cases he : e = 0
    · obtain ⟨v, rfl, hv, ⟨va, vc, rfl⟩⟩ := hT he
      subst he
      have HV := Lib.hid hv
      obtain ⟨_, hws, hbm⟩ := HOK.out.1 rfl
      obtain ⟨xs, hxm, hxw, hxs⟩ := HWH.out rfl
      obtain ⟨ra, rc, hrv, hvc, hrow⟩ := hv.rows
      simp only [Value.slice.injEq] at hrv
      obtain ⟨rfl, _, rfl⟩ := hrv
      have hwl : ws.length ≤ 2000 := by
        rcases words_few s.data.toList.length ws 0 (fun w hw => ⟨Nat.zero_le _, (hws.1 w hw).1⟩) hws.2 with rfl | h
        · simp
        · omega
      obtain ⟨zs, hzs⟩ : ∃ zs, zsOf (gapOf gl) 0 xs = zs := ⟨_, rfl⟩
      have hxl : xs.length = ws.length := by rw [← hxm, List.length_map]
      have hzl : zs.length = ws.length := by rw [← hzs, zsOf_length, hxl]
      have hzt : (textOf zs).length ≤ 56000 := by
        have := zsOf_len (gapOf gl) 0 xs
        rw [hzs] at this
        omega
      have HROW := Lib.hid hrow
      have HXM := Lib.hid hxm
      have HXW := Lib.hid hxw
      have HZS := Lib.hid hzs
      obtain ⟨n, hn⟩ : ∃ n, ws.length = n := ⟨_, rfl⟩
      have HLEN := Lib.hid (And.intro hn (And.intro (hxl.trans hn) (hzl.trans hn)))
      rw [hn] at hwl hvc ⊢
      have hg2 := grew_alloc w1 (.cells #[.int .i64 0, .int .i64 0, .int .i64 0, .int .i64 0] 29)
      have hz2 : (w1.alloc (.cells #[.int .i64 0, .int .i64 0, .int .i64 0, .int .i64 0] 29)).heap.size = w1.heap.size + 1 := by simp
      have hg3 := grew_alloc (w1.alloc (.cells #[.int .i64 0, .int .i64 0, .int .i64 0, .int .i64 0] 29)) (.cells gapTexts.toArray 9)
      have hO3 := Owns.alloc (w1.alloc (.cells #[.int .i64 0, .int .i64 0, .int .i64 0, .int .i64 0] 29)) gapTexts 9
      rw [hz2] at hO3
      have G13 := Lib.hid (hg2.trans hg3)
      have O3 := Lib.hid hO3
      clear hF hT hg1 hv HS HOK HWH hrow hxm hxw hxs hzs hn hxl hzl hg2 hg3 hO3 hz2 hws hbm
      go_wp2_with fail
      generalize hfb : w1.heap.size + 1 = fb at *
      change Hid (Grew w1 ((w1.alloc (.cells #[.int .i64 0, .int .i64 0, .int .i64 0, .int .i64 0] 29)).alloc (.cells #[.string { data := #[32] }, .string { data := #[10] }, .string { data := #[47, 42, 32, 39, 32, 42, 47] }, .string { data := #[47, 47, 32, 91, 10] }, .string { data := #[9, 13] }, .string { data := #[47, 42, 42, 47] }] 9))) at G13
      change Hid (Owns ((w1.alloc (.cells #[.int .i64 0, .int .i64 0, .int .i64 0, .int .i64 0] 29)).alloc (.cells #[.string { data := #[32] }, .string { data := #[10] }, .string { data := #[47, 42, 32, 39, 32, 42, 47] }, .string { data := #[47, 47, 32, 91, 10] }, .string { data := #[9, 13] }, .string { data := #[47, 42, 42, 47] }] 9)) fb gapTexts 9) at O3
      generalize (w1.alloc (.cells #[.int .i64 0, .int .i64 0, .int .i64 0, .int .i64 0] 29)).alloc (.cells #[.string { data := #[32] }, .string { data := #[10] }, .string { data := #[47, 42, 32, 39, 32, 42, 47] }, .string { data := #[47, 47, 32, 91, 10] }, .string { data := #[9, 13] }, .string { data := #[47, 42, 42, 47] }] 9) = w3 at *
      have G3 := Lib.hid (G1.out.trans G13.out)
      go_loopw [8, 9] (fun vt vi wr => ∃ j : Nat, vt = .string ⟨(textOf (zs.take j)).toArray⟩ ∧ vi = .int .i64 j ∧ j ≤ n ∧ Hid (Grew w3 wr)) (fun _ vi _ => n - (intOf vi).toNat)
      case atStart => exact ⟨0, rfl, rfl, Nat.zero_le _, Grew.refl _⟩
      case round =>
        obtain ⟨j, rfl, rfl, hj, HG⟩ := hrel
        by_cases hlt : j < n
        · obtain ⟨hn1, hn2, hn3⟩ := HLEN.out
          have hjw : j < ws.length := by omega
          have hjx : j < xs.length := by omega
          have hjz : j < zs.length := by omega
          obtain ⟨g, rfl, hgl1, hcell⟩ := HROW.out j hjw
          have hxj : xs[j].1 = ws[j] := by
            have : (xs.map (·.1))[j]'(by simpa using hjx) = xs[j].1 := by simp
            rw [← this]
            simp only [HXM.out]
          obtain ⟨hwh, hasc⟩ := HXW.out xs[j] (List.getElem_mem hjx)
          have hzj : zs[j] = (xs[j].1, xs[j].2, gapOf gl j) := by
            have := zsOf_get (gapOf gl) 0 xs j hjx
            simp only [HZS.out, Nat.zero_add] at this
            exact this
          have hst := textOf_step zs j hjz
          rw [hzj] at hst
          simp only at hst
          have hle1 := textOf_take_le zs (j + 1)
          rw [hst, List.length_append, List.length_append] at hle1
          have hg1r := G13.out.trans HG.out
          obtain ⟨sv, q2, rv⟩ := hcell.set
          have d0 := (hg1r.cells _ _ hgl1).trans hcell.kind
          have d1 := (hg1r.cells _ _ hgl1).trans hcell.text
          have d2 := (hg1r.cells _ _ hgl1).trans q2
          have d3 := (hg1r.cells _ _ hgl1).trans hcell.at_
          have d4 := (hg1r.cells _ _ hgl1).trans hcell.line
          have d5 := (hg1r.cells _ _ hgl1).trans hcell.col
          have hglr : g < wr.heap.size := Nat.lt_of_lt_of_le hgl1 hg1r.size
          generalize hxx : xs[j] = xx at *
          obtain ⟨xw, xR⟩ := xx
          have hxj : xw = ws[j] := hxj
          have hwh : Whole xw xR := hwh
          have hst : textOf (zs.take (j + 1)) = textOf (zs.take j) ++ (writtenL xw xR ++ gapL (gapOf gl j)) := hst
          have hle1 : (textOf (zs.take j)).length + ((writtenL xw xR).length + (gapL (gapOf gl j)).length) ≤ (textOf zs).length := hle1
          clear hxx hzj hasc
          subst hxj
          have hWR : Hid (∀ w, Grew wr w → Calls Tryd.prog 6 #[.agg #[.int .u8 (ws[j].kind : Nat), .string ⟨ws[j].text.toArray⟩, sv, .int .i64 (ws[j].at_ : Nat), .int .i64 ((placeOf (s.data.toList.take ws[j].at_) 1 1).1 : Nat), .int .i64 ((placeOf (s.data.toList.take ws[j].at_) 1 1).2 : Nat)]] w fun e W' => e = .returned (.string ⟨(writtenL ws[j] xR).toArray⟩) ∧ Grew w W') := fun w hg =>
            written_ok ws[j] xR hwh (by omega) w (HW.out.below ((G3.out.trans HG.out).trans hg)) _ _ sv _ _ _ rfl (loose_grew rv (hg1r.trans hg))
          have hgm : gapOf gl j < 6 := Nat.mod_lt _ (by omega)
          have hgc := O3.out.cell_at (gapTexts_get (gapOf gl j) hgm)
          have hgc2 := (HG.out.cells _ _ O3.out.lt).trans hgc
          have hfbl : fb < wr.heap.size := Nat.lt_of_lt_of_le O3.out.lt HG.out.size
          have hgl7 := (gapL_len (gapOf gl j)).2
          have hba1 := ba_append (textOf (zs.take j)) (writtenL ws[j] xR)
          have hba2 := ba_append (textOf (zs.take j) ++ writtenL ws[j] xR) (gapL (gapOf gl j))
          have hjj : ({ data := (textOf (zs.take j)).toArray } : ByteArray) ++ { data := (writtenL ws[j] xR).toArray } ++ { data := (gapL (gapOf gl j)).toArray } = { data := (textOf (zs.take (j + 1))).toArray } := by
            rw [hba1, hba2, hst, List.append_assoc]
          have HJJ := Lib.hid hjj
          have hs0 := ba_size (textOf (zs.take j))
          have hs1 := ba_size (writtenL ws[j] xR)
          have hs2 := ba_size (gapL (gapOf gl j))
          have hmod : gapOf gl j = gl.getD j 0 % 6 := rfl
          clear hcell q2 rv hwh hba1 hba2 hjj hst hn1 hn2 hn3 hgc
          generalize ws[j] = wd at *
          obtain ⟨wk, wt, wset, wat⟩ := wd
          simp only at d0 d1 d3 d4 d5
          generalize ({ data := wt.toArray } : ByteArray) = TX at *
          generalize ({ data := (textOf (zs.take j)).toArray } : ByteArray) = S0 at *
          generalize ({ data := (writtenL (⟨wk, wt, wset, wat⟩ : Wd) xR).toArray } : ByteArray) = S1 at *
          generalize ({ data := (gapL (gapOf gl j)).toArray } : ByteArray) = S2 at *
          have hs0' : S0.size ≤ 60000 := by omega
          have hs1' : S1.size ≤ 60000 := by omega
          have hs2' : S2.size ≤ 7 := by omega
          have hWR : Hid (∀ w, Grew wr w → Calls Tryd.prog 6 #[.agg #[.int .u8 (wk : Nat), .string TX, sv, .int .i64 (wat : Nat), .int .i64 ((placeOf (s.data.toList.take wat) 1 1).1 : Nat), .int .i64 ((placeOf (s.data.toList.take wat) 1 1).2 : Nat)]] w fun e W' => e = .returned (.string S1) ∧ Grew w W') := hWR
          generalize placeOf (s.data.toList.take wat) 1 1 = pl at *
          clear hs0 hs1 hs2 hle1
          by_cases hjg : j < gl.length
          · obtain ⟨gb, goff, rfl, hgbl, hgcell⟩ := HGV.out j hjg
            have hg8 := HGL.out gl[j] (List.getElem_mem hjg)
            have c8 := ((G3.out.trans HG.out).cells _ _ hgbl).trans hgcell
            have hgd : gl.getD j 0 = gl[j] := by simp [List.getD, hjg]
            rw [hgd] at hmod
            generalize gl[j] = gv at *
            rw [hmod] at hgc2
            have hwv : IntKind.i64.wrap (gv : Int) = (gv : Int) := wrap_smallS _ (by omega) (by omega)
            have htm0 : (gv : Int).tmod 6 = ((gv % 6 : Nat) : Int) := rfl
            obtain ⟨m, hm⟩ : ∃ m, gv % 6 = m := ⟨_, rfl⟩
            rw [hm] at htm0 hgc2
            have hm6 : m < 6 := by omega
            have hm6i : (m : Int) < 6 := by omega
            clear hgcell hgd hmod hm hgm
            go_wp2_with fail
            refine wp_region_hav_lit follows (by kernel_rfl) ?_
            iterate 5 (first
              | (refine HavG.skip (fun _ => rfl) ?_; simp only [Act.put, List.setIfInBounds_toArray, List.set_cons_zero, List.set_cons_succ])
              | (refine HavG.val (fun _ => rfl) ?_ (fun x w hw _ => ?_) ?_; rotate_left; (focus (have hc := hw.cells; clear hw; go_simp; first | done | rfl)); simp only [Act.put, List.setIfInBounds_toArray, List.set_cons_zero, List.set_cons_succ]))
            refine HavG.det (fun _ => rfl) (.string S1) (fun x w hw hd => ?_) ?_
            · clear hd
              have HWW := Lib.hid hw
              clear hw
              go_simp
              refine (hWR.out w HWW.out).mono ?_
              rintro e w' ⟨rfl, hg⟩
              exact ⟨rfl, hg⟩
            simp only [Act.put, List.setIfInBounds_toArray, List.set_cons_zero, List.set_cons_succ]
            refine HavG.val (fun _ => rfl) (.string (S0 ++ S1)) (fun x w hw _ => ?_) ?_
            · clear hw
              go_simp
              omega
            simp only [Act.put, List.setIfInBounds_toArray, List.set_cons_zero, List.set_cons_succ]
            iterate 8 (first
              | (refine HavG.skip (fun _ => rfl) ?_; simp only [Act.put, List.setIfInBounds_toArray, List.set_cons_zero, List.set_cons_succ])
              | (refine HavG.val (fun _ => rfl) ?_ (fun x w hw _ => ?_) ?_; rotate_left; (focus (have hc := hw.cells; clear hw; go_simp; first | done | rfl)); simp only [Act.put, List.setIfInBounds_toArray, List.set_cons_zero, List.set_cons_succ]))
            refine HavG.val (fun _ => rfl) (.string (S0 ++ S1 ++ S2)) (fun x w hw _ => ?_) ?_
            · clear hw
              go_simp
              first | omega | (simp only [ByteArray.size_append]; omega)
            simp only [Act.put, List.setIfInBounds_toArray, List.set_cons_zero, List.set_cons_succ]
            refine HavG.tail (by kernel_rfl) (by kernel_rfl) (fun x w hw _ => ?_)
            have HG2 := Lib.hid (HG.out.trans hw)
            clear hw
            go_wp2_with fail
            exact ⟨⟨j + 1, by rw [HJJ.out], by go_num, by omega, HG2.out⟩, by simp [intOf]; omega⟩
          · have hgd : gl.getD j 0 = 0 := by simp [List.getD, hjg]
            rw [hgd] at hmod
            rw [hmod] at hgc2
            have hgc2 : wr.cell? ⟨fb, 0, none⟩ = some (.string S2) := hgc2
            have hwv : IntKind.i64.wrap 0 = 0 := rfl
            have htm0 : (0 : Int).tmod 6 = 0 := rfl
            have hjg2 : ¬ (j : Int) < (gl.length : Int) := by omega
            clear hgd hmod hgm
            go_wp2_with fail
            refine wp_region_hav_lit follows (by kernel_rfl) ?_
            iterate 5 (first
              | (refine HavG.skip (fun _ => rfl) ?_; simp only [Act.put, List.setIfInBounds_toArray, List.set_cons_zero, List.set_cons_succ])
              | (refine HavG.val (fun _ => rfl) ?_ (fun x w hw _ => ?_) ?_; rotate_left; (focus (have hc := hw.cells; clear hw; go_simp; first | done | rfl)); simp only [Act.put, List.setIfInBounds_toArray, List.set_cons_zero, List.set_cons_succ]))
            refine HavG.det (fun _ => rfl) (.string S1) (fun x w hw hd => ?_) ?_
            · clear hd
              have HWW := Lib.hid hw
              clear hw
              go_simp
              refine (hWR.out w HWW.out).mono ?_
              rintro e w' ⟨rfl, hg⟩
              exact ⟨rfl, hg⟩
            simp only [Act.put, List.setIfInBounds_toArray, List.set_cons_zero, List.set_cons_succ]
            refine HavG.val (fun _ => rfl) (.string (S0 ++ S1)) (fun x w hw _ => ?_) ?_
            · clear hw
              go_simp
              omega
            simp only [Act.put, List.setIfInBounds_toArray, List.set_cons_zero, List.set_cons_succ]
            iterate 8 (first
              | (refine HavG.skip (fun _ => rfl) ?_; simp only [Act.put, List.setIfInBounds_toArray, List.set_cons_zero, List.set_cons_succ])
              | (refine HavG.val (fun _ => rfl) ?_ (fun x w hw _ => ?_) ?_; rotate_left; (focus (have hc := hw.cells; clear hw; go_simp; first | done | rfl)); simp only [Act.put, List.setIfInBounds_toArray, List.set_cons_zero, List.set_cons_succ]))
            refine HavG.val (fun _ => rfl) (.string (S0 ++ S1 ++ S2)) (fun x w hw _ => ?_) ?_
            · clear hw
              go_simp
              first | omega | (simp only [ByteArray.size_append]; omega)
            simp only [Act.put, List.setIfInBounds_toArray, List.set_cons_zero, List.set_cons_succ]
            refine HavG.tail (by kernel_rfl) (by kernel_rfl) (fun x w hw _ => ?_)
            have HG2 := Lib.hid (HG.out.trans hw)
            clear hw
            go_wp2_with fail
            exact ⟨⟨j + 1, by rw [HJJ.out], by go_num, by omega, HG2.out⟩, by simp [intOf]; omega⟩
        · have hjn : j = n := by omega
          obtain ⟨hn1, hn2, hn3⟩ := HLEN.out
          have htk : zs.take j = zs := List.take_of_length_le (by omega)
          rw [htk]
          have hzw : ∀ z ∈ zs, (z.1, z.2.1) ∈ xs := fun z hz => by
            rw [← HZS.out] at hz
            exact zsOf_mem (gapOf gl) 0 xs z hz
          have hback := scanF_back zs (fun z hz => (HXW.out _ (hzw z hz)).1) (fun z hz => (HXW.out _ (hzw z hz)).2) (by omega)
          obtain ⟨TT, hTT⟩ : ∃ T : ByteArray, ({ data := (textOf zs).toArray } : ByteArray) = T := ⟨_, rfl⟩
          have hTl : TT.data.toList = textOf zs := by rw [← hTT]
          have hTs : TT.size = (textOf zs).length := by rw [Lib.size_eq, hTl]
          rw [hTT]
          have hS2 := scan_ok TT wr (by omega) (HW.out.below (G3.out.trans HG.out)).laid
          rw [hTl, hback] at hS2
          have HS2 := Lib.hid hS2
          have hVr := HV.out.grew (G13.out.trans HG.out)
          have HVR := Lib.hid hVr
          have hlike : ∀ (i : Nat) (h : i < ws.length) (h2 : i < (placedAt 0 zs).length), ws[i].kind = (placedAt 0 zs)[i].kind ∧ ws[i].text = (placedAt 0 zs)[i].text ∧ ws[i].set = (placedAt 0 zs)[i].set := fun i h h2 => by
            obtain ⟨qq, hqq⟩ := placedAt_get 0 zs i (by omega)
            have hzi := zsOf_get (gapOf gl) 0 xs i (by omega)
            simp only [HZS.out] at hzi
            have hxi : xs[i].1 = ws[i] := by
              have : (xs.map (·.1))[i]'(by rw [List.length_map]; omega) = xs[i].1 := by simp
              rw [← this]
              simp only [HXM.out]
            rw [hqq, hzi, hxi]
            exact ⟨rfl, rfl, rfl⟩
          have HLK := Lib.hid hlike
          have hpl := placedAt_length 0 zs
          have HLL := Lib.hid (show ws.length = (placedAt 0 zs).length by omega)
          have hsz : ∀ w ∈ ws, w.set.length ≤ 1048576 := fun w hw => by
            obtain ⟨x, hx, hxe⟩ := List.mem_map.1 (HXM.out ▸ hw : w ∈ xs.map (·.1))
            subst hxe
            have h1 := (HXW.out x hx).1
            have h2 : (writtenL x.1 x.2).length ≤ 65536 := by
              obtain ⟨i, hi, hie⟩ := List.getElem_of_mem hx
              have hzi := zsOf_get (gapOf gl) 0 xs i hi
              simp only [HZS.out] at hzi
              have hst := textOf_step zs i (by omega)
              have hle := textOf_take_le zs (i + 1)
              rw [hst, hzi, List.length_append, List.length_append] at hle
              simp only [hie] at hle
              omega
            by_cases hk : x.1.kind = 3
            · have hr := rangesL_le x.1.set
              have : writtenL x.1 x.2 = 91 :: (rangesL x.1.set ++ [93]) := by unfold writtenL; rw [hk]; rfl
              rw [this] at h2
              simp at h2
              omega
            · have hk4 := h1.kind
              have hempty : x.1.set = [] := by
                rcases kind_ways hk4 with h | h | h | h | h
                · exact (h1.name h).1
                · exact (h1.num h).1
                · exact (h1.text h).1
                · exact absurd h hk
                · exact (h1.mark h).1
              rw [hempty]
              simp
          have HSZ := Lib.hid hsz
          have HN1 := Lib.hid hn1
          clear htk hzw hback hTT hTl hTs hS2 hVr hlike hpl hsz hn2 hn3 HROW HGV HGL O3 HZS HXM HXW
          go_wp2_with fail
          refine HS2.out.mono ?_
          rintro e w5 ⟨hg5, _, hT5⟩
          obtain ⟨v5, rfl, hv5, ⟨a5, c5, rfl⟩⟩ := hT5 rfl
          have G5 := Lib.hid ((G3.out.trans HG.out).trans hg5)
          have V5 := Lib.hid hv5
          have VA5 := Lib.hid (HVR.out.grew hg5)
          have hg6 := grew_alloc w5 (.cells #[.int .i64 0, .int .i64 0, .int .i64 0, .int .i64 0] 29)
          have hO6 : Owns (w5.alloc (.cells #[.int .i64 0, .int .i64 0, .int .i64 0, .int .i64 0] 29)) w5.heap.size [.int .i64 0, .int .i64 0, .int .i64 0, .int .i64 0] 29 := Owns.alloc w5 _ _
          clear hT5 hv5 hg5 HVR HS2
          go_wp2_with fail
          clear hO6
          generalize w5.alloc (.cells #[.int .i64 0, .int .i64 0, .int .i64 0, .int .i64 0] 29) = w6 at *
          have G6 := Lib.hid (G5.out.trans hg6)
          have hlk := like_ok ws (placedAt 0 zs) _ _ w6 _ _ _ _ (VA5.out.grew hg6) (V5.out.grew hg6) HLL.out (by have := HN1.out; omega) HLK.out HSZ.out
          rw [HN1.out] at hlk
          have HLKC := Lib.hid hlk
          clear hlk hg6
          refine HLKC.out.mono ?_
          rintro e w7 ⟨rfl, hg7⟩
          have G7 := Lib.hid (G6.out.trans hg7)
          clear hg7
          go_wp2_with fail
          refine (hL.out w7 G7.out).mono ?_
          rintro e w8 ⟨rfl, hg8⟩
          have G8 := Lib.hid (G7.out.trans hg8)
          clear hg8
          go_wp2_with fail
          go_ret
          exact ⟨rfl, G8.out⟩
    · have hr := hF he
      subst hr
      clear hF hT hg1
      unfold faultV
      simp only
      have he0 : ¬ ((e : Int) = 0) := by omega
      have e4 : ((e : Int) == 0) = false := by rw [beq_eq_false_iff_ne]; omega
      have hg2 := grew_alloc w1 (.cells #[.int .i64 (e : Nat), .int .i64 (q : Nat), .int .i64 ((placeOf (s.data.toList.take q) 1 1).1 : Nat), .int .i64 ((placeOf (s.data.toList.take q) 1 1).2 : Nat)] 29)
      have G2 := Lib.hid (G1.out.trans hg2)
      clear hg2 HS HOK HWH HGV HGL
      go_wp2_with fail
      refine (hL.out _ G2.out).mono ?_
      rintro e w ⟨rfl, hg⟩
      have G3 := Lib.hid (G2.out.trans hg)
      clear hg
      go_wp2_with fail
      go_ret
      exact ⟨rfl, G3.out⟩
  · have hbig2 : (2000 : Int) < (s.size : Int) := by omega
    clear hgl hgv
    go_enter Tryd.func3, Tryd.ntmps3
    go_wp2_with fail
    refine (hL.out _ (Grew.refl _)).mono ?_
    rintro e w ⟨rfl, hg⟩
    go_wp2_with fail
    go_ret
    exact ⟨rfl, hg⟩
end Go.Proofs.YtglnnjcapcpkfacDoor
