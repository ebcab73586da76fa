/- Of: what rules take, found till nothing grows. -/
import Derived.Test.YtgdcnndmdgcjlaaQ12
import Derived.Test.YtgdcnndmdgcjlaaQ11
import Derived.Test.YtgdcnndmdgcjlaaQ8
namespace Go.Proofs.Ytgdcnndmdgcjlaa
open Go.RowKit
theorem info_pboolss : (Try.prog.info? 77).map (fun i => (i.zero, i.size, i.bytes)) = some (some (.slice none 0 0), 1, 24) := by kernel_rfl
def OfAt (O : OEnv) (n0 n1 n2 n3 n4 wv : Value) (W : World) (e : Ending) (W' : World) : Prop :=
  ∃ (tb : Nat) (ev av : Value) (L : TkLoc) (E : Nat → Nat → Nat → Bool) (A : Nat → Nat → Bool), e = .returned (.pointer (some ⟨tb, 0, none⟩)) ∧ TkAt W' W.heap.size tb n0 n1 n2 n3 n4 wv ev av O.R O.R O.n L E A ∧ OS O E A ∧
    (∀ r i j, r < O.R → i ≤ O.n → (E r i j = true ↔ TgE O.N O.w r i j)) ∧ (∀ r i, r < O.R → i ≤ O.n → (A r i = true ↔ AgP O.N O.w r i)) ∧ Grew W W'
structure OMem (W wr : World) (tb : Nat) (n0 n1 n2 n3 n4 wv ev av : Value) (R Q n : Nat) (L : TkLoc) (E : Nat → Nat → Nat → Bool) (A : Nat → Nat → Bool) : Prop where
  tk : TkAt wr W.heap.size tb n0 n1 n2 n3 n4 wv ev av R Q n L E A
  box : Owns wr W.heap.size [n0, n1, n2, n3, n4] 38
  low : Grew W wr
section
variable {W wr wr' : World} {tb : Nat} {n0 n1 n2 n3 n4 wv ev av : Value} {R Q n : Nat} {L : TkLoc} {E : Nat → Nat → Nat → Bool} {A : Nat → Nat → Bool}
theorem OMem.keep (h : OMem W wr tb n0 n1 n2 n3 n4 wv ev av R Q n L E A) (hg : Grew wr wr') : OMem W wr' tb n0 n1 n2 n3 n4 wv ev av R Q n L E A := ⟨h.tk.keep hg, h.box.keep hg, h.low.trans hg⟩
theorem OMem.putE (h : OMem W wr tb n0 n1 n2 n3 n4 wv ev av R Q n L E A) {r i : Nat} (hr : r < R) (hi : i ≤ n) (j : Nat) : OMem W (wr.setCell ⟨L.xf r i, j, none⟩ (.bool true)) tb n0 n1 n2 n3 n4 wv ev av R Q n L (upd3 E r i j) A :=
  ⟨h.tk.putE hr hi, h.box.other (a := ⟨L.xf r i, j, none⟩) (owns_ne ((h.tk.l r hr).cells i (by omega)) h.box (by decide)) _, grew_put h.low ((h.tk.l r hr).lo i (by omega)) j _⟩
theorem OMem.putA (h : OMem W wr tb n0 n1 n2 n3 n4 wv ev av R Q n L E A) {r : Nat} (hr : r < Q) (i : Nat) : OMem W (wr.setCell ⟨L.af r, i, none⟩ (.bool true)) tb n0 n1 n2 n3 n4 wv ev av R Q n L E (upd2 A r i) :=
  ⟨h.tk.putA hr, h.box.other (a := ⟨L.af r, i, none⟩) (owns_ne (h.tk.a.cells r hr) h.box (by decide)) _, grew_put h.low (h.tk.a.lo r hr) i _⟩
end
def MkR (base n : Nat) (v : Value) (w : World) : Prop := ∃ t, v = .slice (some ⟨t, 0, none⟩) (n + 1) (n + 1) ∧ base ≤ t ∧ Owns w t (bcells n fun _ => false) 4
theorem MkR.keep {base n : Nat} {v : Value} {w w' : World} (hg : Grew w w') (h : MkR base n v w) : MkR base n v w' := by
  obtain ⟨t, h1, h2, h3⟩ := h
  exact ⟨t, h1, h2, h3.keep hg⟩
def BsR (base n : Nat) (v : Value) (w : World) : Prop := ∃ t b, v = .slice (some ⟨b, 0, none⟩) 1 1 ∧ base ≤ t ∧ Owns w t (bcells n fun _ => false) 4 ∧ Owns w b [.slice (some ⟨t, 0, none⟩) (n + 1) (n + 1)] 31
theorem BsR.keep {base n : Nat} {v : Value} {w w' : World} (hg : Grew w w') (h : BsR base n v w) : BsR base n v w' := by
  obtain ⟨t, b, h1, h2, h3, h4⟩ := h
  exact ⟨t, b, h1, h2, h3.keep hg, h4.keep hg⟩
set_option maxHeartbeats 4000000 in
set_option maxRecDepth 20000 in
theorem of_ok (O : OEnv) (hS : O.N.Small) (hN : O.N.Ok) (hw7 : O.w.length ≤ 7) (W : World) (n0 n1 n2 n3 n4 wv : Value) (hB : RNetAt W W.heap.size n0 n1 n2 n3 n4 O.N) (hW : IntsV W W.heap.size wv O.w) :
    Calls Try.prog 28 #[.agg #[n0, n1, n2, n3, n4], wv] W (OfAt O n0 n1 n2 n3 n4 wv W) := by
  obtain ⟨ta, tc, hn1, hT⟩ := hB.starts
  obtain ⟨ua, uc, hn2, hU⟩ := hB.stops
  have hWT := hW
  obtain ⟨wa, wc, hwv, hWA⟩ := hW
  obtain ⟨R, hR⟩ : ∃ R, O.N.starts.length = R := ⟨_, rfl⟩
  obtain ⟨n, hn⟩ : ∃ n, O.w.length = n := ⟨_, rfl⟩
  have hR12 : R ≤ 12 := hR ▸ hS.starts
  have hn7 : n ≤ 7 := hn ▸ hw7
  obtain ⟨w1, hw1⟩ : ∃ w1, W.alloc (.cells #[n0, n1, n2, n3, n4] 38) = w1 := ⟨_, rfl⟩
  have g1 : Grew W w1 := hw1 ▸ grew_alloc W _
  have o1 : Owns w1 W.heap.size [n0, n1, n2, n3, n4] 38 := hw1 ▸ Owns.alloc W _ _
  have c0 := o1.cell_at (i := 0) rfl
  have c1 := o1.cell_at (i := 1) rfl
  have c2 := o1.cell_at (i := 2) rfl
  have c3 := o1.cell_at (i := 3) rfl
  have c4 := o1.cell_at (i := 4) rfl
  have cl := o1.lt
  obtain ⟨w2, hw2⟩ : ∃ w2, w1.alloc (.cells #[n0, n1, n2, n3, n4, wv, .slice none 0 0, .slice none 0 0] 126) = w2 := ⟨_, rfl⟩
  have g2 : Grew w1 w2 := hw2 ▸ grew_alloc w1 _
  have o2 : Owns w2 w1.heap.size [n0, n1, n2, n3, n4, wv, .slice none 0 0, .slice none 0 0] 126 := hw2 ▸ Owns.alloc w1 _ _
  have hM : OMem W w2 w1.heap.size n0 n1 n2 n3 n4 wv (.slice none 0 0) (.slice none 0 0) 0 0 n ⟨fun _ => .slice none 0 0, fun _ _ => 0, fun _ => 0⟩ (fun _ _ _ => false) (fun _ _ => false) :=
    ⟨⟨o2, ⟨rfl, .inl ⟨rfl, rfl⟩⟩, fun r h => absurd h (by omega), Grid.nil _ _ _ _ _, fun r r' i i' h => absurd h (by omega), fun r r' i h => absurd h (by omega), fun r h => absurd h (by omega)⟩, o1.keep g2, g1.trans g2⟩
  have HM0 := Lib.hid hM
  have HBN := Lib.hid hB
  have HSM := Lib.hid hS
  have HOK := Lib.hid hN
  have HRE := Lib.hid hR
  have HNE := Lib.hid hn
  have HW7 := Lib.hid hw7
  have HT := Lib.hid hT
  have HU := Lib.hid hU
  have HWA := Lib.hid hWA
  have hadd : IntKind.i64.wrap ((n : Int) + 1) = (n : Int) + 1 := by rw [IntKind.wrap_i64]; omega
  have hmk : ∀ u : World, (Instr.makeSlice 31 (.int .i64 ((n : Int) + 1)) (.int .i64 ((n : Int) + 1))).run Try.prog u = .ok (.slice (some ⟨u.heap.size, 0, none⟩) (n + 1) (n + 1)) (u.alloc (.cells (List.replicate (n + 1) (.bool false)).toArray 4)) := make_pbools (n + 1) (by unfold reachN; omega)
  have HMK := Lib.hid hmk
  obtain ⟨tb, htb⟩ : ∃ tb, w1.heap.size = tb := ⟨_, rfl⟩
  rw [htb] at HM0
  have HTB := Lib.hid htb
  rw [hn] at hwv
  rw [hR] at hn1
  have hlen : O.N.stops.length = R := by rw [← hN.len]; exact hR
  rw [hlen] at hn2
  have HN1 := Lib.hid hn1
  have HN2 := Lib.hid hn2
  rw [hwv] at hWT
  have HWT := Lib.hid hWT
  have hlt0 : ∀ r, r < R → 0 ≤ r := fun r _ => Nat.zero_le r
  have htbl : W.heap.size < tb := by rw [← htb]; exact cl
  subst hwv
  clear hmk hM hB hS hN hR hn hw7 hT hU hWA hWT g1 g2 o1 o2 hlen hlt0 hn1 hn2
  go_enter Try.func28, Try.ntmps28
  go_wp2_with fail
  clear hw1 hw2 c0 c1 c2 c3 c4 cl htb
  obtain ⟨i0, hi, hz0, hz1, hz2⟩ := info_parts info_pbools
  have HI := Lib.hid hi
  have HZ0 := Lib.hid hz0
  have HZ1 := Lib.hid hz1
  have HZ2 := Lib.hid hz2
  obtain ⟨i1, ji, jz0, jz1, jz2⟩ := info_parts info_pboolss
  have JI := Lib.hid ji
  have JZ0 := Lib.hid jz0
  have JZ1 := Lib.hid jz1
  have JZ2 := Lib.hid jz2
  clear hi hz0 hz1 hz2 ji jz0 jz1 jz2
  go_loopw [7] (fun i wr => ∃ (r : Nat) (ev av : Value) (L : TkLoc), i = .int .i64 r ∧ r ≤ R ∧ Hid (OMem W wr tb n0 n1 n2 n3 n4 (.slice wa n wc) ev av r r n L (fun _ _ _ => false) (fun _ _ => false))) (fun i _ => R - (intOf i).toNat)
  case atStart => exact ⟨0, _, _, _, rfl, by omega, HM0.out⟩
  case round =>
    clear HM0
    obtain ⟨r, ev, av, L, rfl, hr, hM⟩ := hrel
    have c1 := hM.out.box.cell_at (i := 1) rfl
    rw [HN1.out] at c1
    have cl := hM.out.box.lt
    by_cases hlt : r < R
    · obtain ⟨wo, rfl⟩ : ∃ wo : World, wo = wr := ⟨_, rfl⟩
      go_wp2_with fail
      clear c1 cl
      go_loopw [8, 9] (fun v i wr => ∃ (j : Nat) (f : Nat → Nat), i = .int .i64 j ∧ j ≤ n + 1 ∧ Hid (Grid wr wo.heap.size v j n f (fun _ _ => false)) ∧ Hid (Grew wo wr)) (fun _ i _ => n + 1 - (intOf i).toNat)
      case atStart => exact ⟨0, fun _ => 0, rfl, by omega, Grid.nil _ _ _ _ _, Grew.refl _⟩
      case round =>
        obtain ⟨j, f, rfl, hj, hG, hg⟩ := hrel
        by_cases hjn : j < n + 1
        · have hji : (j : Int) < (n : Int) + 1 := by omega
          have hmk := HMK.out wr
          obtain ⟨w1, hw1⟩ : ∃ w1, wr.alloc (.cells (List.replicate (n + 1) (.bool false)).toArray 4) = w1 := ⟨_, rfl⟩
          have g1 : Grew wr w1 := hw1 ▸ grew_alloc wr _
          have o1 : Owns w1 wr.heap.size (List.replicate (n + 1) (.bool false)) 4 := hw1 ▸ Owns.alloc wr _ _
          rw [hw1] at hmk
          obtain ⟨w2, hw2⟩ : ∃ w2, w1.alloc (.cells #[.slice (some ⟨wr.heap.size, 0, none⟩) (n + 1) (n + 1)] 31) = w2 := ⟨_, rfl⟩
          have g2 : Grew w1 w2 := hw2 ▸ grew_alloc w1 _
          have o2 : Owns w2 w1.heap.size [.slice (some ⟨wr.heap.size, 0, none⟩) (n + 1) (n + 1)] 31 := hw2 ▸ Owns.alloc w1 _ _
          rw [bcells_false] at o1
          have hG2 := hG.out.keep (g1.trans g2)
          have HG2 := Lib.hid hG2
          have HROW := Lib.hid hG2.row
          have HNS := Lib.hid (one_news o2)
          have HO1 := Lib.hid (o1.keep g2)
          have HGG := Lib.hid ((hg.out.trans g1).trans g2)
          have H63 := Lib.hid (show j + 1 ≤ maxLen by unfold maxLen; omega)
          have H64 := Lib.hid (show (j + 1) * 24 ≤ 140737488355328 by omega)
          have HLIM := Lib.hid ((hg.out.trans g1).trans g2).size
          have HFN := Lib.hid (show ∀ s, s < j → f s ≠ wr.heap.size from fun s hs e => by have := (hG.out.cells s hs).lt; omega)
          have HB := Lib.hid (show wo.heap.size ≤ wr.heap.size from hg.out.size)
          clear hG2 o1 o2 g1 g2 hG hg
          go_wp2_with (at_builtin; refine wpList_append_loose w2 rfl _ _ 77 rfl wo.heap.size 31 i0 _ 1 24 Try.underlying77 HI.out HZ0.out HZ1.out HZ2.out rfl (by decide) u8 j (rcells j n f) rfl HROW.out ⟨w1.heap.size, 0, none⟩ 1 1 [.slice (some ⟨wr.heap.size, 0, none⟩) (n + 1) (n + 1)] rfl rfl HNS.out (fun u hu => by rw [List.mem_singleton.1 hu]; rfl) (by decide) H63.out H64.out HLIM.out _ rfl ?_; intro gb cap w3 hown hgrow hat hlt3; have HOWN := Lib.hid hown; have HGROW := Lib.hid hgrow; clear hown hgrow hat hlt3)
          have hG3 := HG2.out.next HGROW.out HOWN.out (owns_grown HO1.out HROW.out (by decide) HGROW.out) HB.out HFN.out
          exact ⟨⟨j + 1, _, by go_num, by omega, hG3.congr fun s hs i hi => by (split <;> rfl), grew_own HGG.out HROW.out HGROW.out⟩, by simp [intOf]; omega⟩
        · have hji : ¬ ((j : Int) < (n : Int) + 1) := by omega
          obtain rfl : j = n + 1 := by omega
          obtain ⟨lb, lc, rfl, hlb, hlr⟩ := hG.out.at (s := 0) (by omega)
          have hM2 := hM.out.keep hg.out
          have hG1 := hG.out.weaken (b2 := W.heap.size) hM.out.low.size
          have HGL := Lib.hid hG1
          have HGW := Lib.hid hG.out
          have HM2 := Lib.hid hM2
          have hold : ∀ b cs T, Owns wo b cs T → b < wo.heap.size := fun b cs T h => h.lt
          have b6 := hM2.tk.box.cell_at (i := 6) rfl
          have bl := hM2.tk.box.lt
          obtain ⟨w3, hw3⟩ : ∃ w3, wr.alloc (.cells #[.slice (some ⟨lb, 0, none⟩) (n + 1) lc] 77) = w3 := ⟨_, rfl⟩
          have g3 : Grew wr w3 := hw3 ▸ grew_alloc wr _
          have o3 : Owns w3 wr.heap.size [.slice (some ⟨lb, 0, none⟩) (n + 1) lc] 77 := hw3 ▸ Owns.alloc wr _ _
          have HM3 := Lib.hid (hM2.keep g3)
          have HG3 := Lib.hid (hG1.keep g3)
          have HROW := Lib.hid (hM2.keep g3).tk.ends
          have HNS := Lib.hid (one_news o3)
          have H63 := Lib.hid (show r + 1 ≤ maxLen by unfold maxLen; omega)
          have H64 := Lib.hid (show (r + 1) * 24 ≤ 140737488355328 by omega)
          have HLIM := Lib.hid (hM2.low.trans g3).size
          clear hM2 hG1 hold g3 o3 hlb hlr hG hg
          go_wp2_with (at_builtin; refine wpList_append_loose w3 rfl _ _ 124 rfl W.heap.size 77 i1 _ 1 24 Try.underlying124 JI.out JZ0.out JZ1.out JZ2.out rfl (by decide) ev r (lcells r L.lv) rfl HROW.out ⟨wr.heap.size, 0, none⟩ 1 1 [.slice (some ⟨lb, 0, none⟩) (n + 1) lc] rfl rfl HNS.out (fun u hu => by rw [List.mem_singleton.1 hu]; rfl) (by decide) H63.out H64.out HLIM.out _ rfl ?_; intro gb cap w4 hown hgrow hat hlt3; have HOWN := Lib.hid hown; have HGROW := Lib.hid hgrow; have hb4 := owns_grown HM3.out.tk.box HROW.out (by decide) hgrow; have c6 : w4.cell? ⟨tb, 6, none⟩ = some ev := hb4.cell_at (i := 6) rfl; have f6 : w4.frozen? ⟨tb, 6, none⟩ = false := hb4.free 6; have l6 := hb4.lt; clear hb4 hown hgrow hat hlt3)
          generalize hw5 : w4.setCell ⟨tb, 6, none⟩ (.slice (some ⟨gb, 0, none⟩) (r + 1) cap) = w5
          have hM5 : OMem W w5 tb n0 n1 n2 n3 n4 (.slice wa n wc) (.slice (some ⟨gb, 0, none⟩) (r + 1) cap) av (r + 1) r n ⟨fun q => if q = r then .slice (some ⟨lb, 0, none⟩) (n + 1) lc else L.lv q, fun q => if q = r then f else L.xf q, L.af⟩ (fun _ _ _ => false) (fun _ _ => false) := by
            rw [← hw5]
            have hbx := owns_grown HM3.out.box HROW.out (by decide) HGROW.out
            have hbt := owns_grown HM3.out.tk.box HROW.out (by decide) HGROW.out
            refine ⟨HM3.out.tk.nextE HGROW.out HOWN.out HG3.out (fun q i i' h1 h2 h3 e => ?_) (fun q i' h1 h2 e => ?_) (fun b h1 h2 => ?_), hbx.other (a := ⟨tb, 6, none⟩) (by exact owns_ne hbt hbx (by decide)) _, grew_put (grew_own HM3.out.low HROW.out HGROW.out) (by omega) 6 _⟩
            · have h4 := ((hM.out.tk.l q h1).cells i (by omega)).lt
              have h5 := HGW.out.lo i' (by omega)
              omega
            · have h4 := (hM.out.tk.a.cells q h1).lt
              have h5 := HGW.out.lo i' (by omega)
              omega
            · have h4 := (row_own HGW.out.row h1).1
              obtain ⟨_, cs, h5⟩ := row_own hM.out.tk.a.row h2
              have h6 := (Array.getElem?_eq_some_iff.1 h5).1
              omega
          have HM5 := Lib.hid hM5
          have b7 := hM5.tk.box.cell_at (i := 7) rfl
          have bl7 := hM5.tk.box.lt
          clear hw5 hM5 c6 f6 l6 b6 bl HGROW HOWN HROW HG3 HM3 HM2 HGW HGL HNS H63 H64 HLIM hw3 hM
          refine wp_region_hav_lit follows (by kernel_rfl) ?_
          repeat (first
            | (refine HavG.skip (fun _ => rfl) ?_; simp only [Act.put, List.setIfInBounds_toArray, List.set_cons_zero, List.set_cons_succ])
            | (refine HavG.val (fun _ => rfl) ?_ (fun x w hw _ => ?_) ?_; rotate_left; (focus (have hc := hw.cells; clear hw; go_simp; first | done | rfl)); simp only [Act.put, List.setIfInBounds_toArray, List.set_cons_zero, List.set_cons_succ]))
          refine HavG.any (fun _ => rfl) (MkR w5.heap.size n) (fun _ _ _ hg h => MkR.keep hg h) (fun x w hw _ => ?_) ?_
          · have hmk := HMK.out w
            have HW := Lib.hid hw
            clear hw
            go_simp
            exact ⟨grew_alloc _ _, _, rfl, HW.out.size, by rw [← bcells_false]; exact Owns.alloc _ _ _⟩
          simp only [Act.put, List.setIfInBounds_toArray, List.set_cons_zero, List.set_cons_succ]
          refine HavG.any (fun _ => rfl) (BsR w5.heap.size n) (fun _ _ _ hg h => BsR.keep hg h) (fun x w hw hd => ?_) ?_
          · have h6 := hd _ (List.mem_append_right _ (List.mem_singleton.2 rfl)) (by kernel_rfl)
            dsimp only at h6
            clear hd hw
            generalize x (0 + 1 + 1 + 1 + 1 + 1 + 1) = y6 at *
            obtain ⟨t, rfl, ht, ho⟩ := h6
            have HO := Lib.hid ho
            clear ho
            go_simp
            exact ⟨grew_alloc _ _, t, _, rfl, ht, HO.out.keep (grew_alloc _ _), Owns.alloc _ _ _⟩
          simp only [Act.put, List.setIfInBounds_toArray, List.set_cons_zero, List.set_cons_succ]
          refine HavG.tail0 (by kernel_rfl) (by kernel_rfl) (by kernel_rfl) (fun _ _ d _ _ h => by cases d <;> exact h) (by decide) (fun x w6 hw hx => ?_)
          have hx8 := hx _ (List.mem_append_right _ (List.mem_singleton.2 rfl))
          clear hx
          dsimp only at hx8
          generalize x (0 + 1 + 1 + 1 + 1 + 1 + 1 + 1) = y7 at *
          generalize x (0 + 1 + 1 + 1 + 1 + 1 + 1) = y6 at *
          obtain ⟨t, sb, rfl, ht, hot, hosb⟩ := hx8
          have hM6 := HM5.out.keep hw
          have HM6 := Lib.hid hM6
          have HT6 := Lib.hid hot
          have HTL := Lib.hid (show ∀ b cs T, Owns w5 b cs T → b ≠ t from fun b cs T h e => by have := h.lt; omega)
          have HROW := Lib.hid hM6.tk.a.row
          have HNS := Lib.hid (one_news hosb)
          have H63 := Lib.hid (show r + 1 ≤ maxLen by unfold maxLen; omega)
          have H64 := Lib.hid (show (r + 1) * 24 ≤ 140737488355328 by omega)
          have HLIM := Lib.hid hM6.low.size
          have HTB := Lib.hid (show W.heap.size ≤ t from Nat.le_trans HM5.out.low.size ht)
          clear hw hot hosb hM6 b7 bl7 ht
          go_wp2_with (at_builtin; refine wpList_append_loose w6 rfl _ _ 77 rfl W.heap.size 31 i0 _ 1 24 Try.underlying77 HI.out HZ0.out HZ1.out HZ2.out rfl (by decide) av r (rcells r n L.af) rfl HROW.out ⟨sb, 0, none⟩ 1 1 [.slice (some ⟨t, 0, none⟩) (n + 1) (n + 1)] rfl rfl HNS.out (fun u hu => by rw [List.mem_singleton.1 hu]; rfl) (by decide) H63.out H64.out HLIM.out _ rfl ?_; intro gb2 cap2 w7 hown hgrow hat hlt3; have HOWN := Lib.hid hown; have HGROW := Lib.hid hgrow; have HAT := Lib.hid hat; have hb4 := owns_grown HM6.out.tk.box HROW.out (by decide) hgrow; have c7 : w7.cell? ⟨tb, 7, none⟩ = some av := hb4.cell_at (i := 7) rfl; have f7 : w7.frozen? ⟨tb, 7, none⟩ = false := hb4.free 7; have l7 := hb4.lt; clear hb4 hown hgrow hat hlt3)
          obtain ⟨L', hM8⟩ : ∃ L', OMem W (w7.setCell ⟨tb, 7, none⟩ (.slice (some ⟨gb2, 0, none⟩) (r + 1) cap2)) tb n0 n1 n2 n3 n4 (.slice wa n wc) (.slice (some ⟨gb, 0, none⟩) (r + 1) cap) (.slice (some ⟨gb2, 0, none⟩) (r + 1) cap2) (r + 1) (r + 1) n L' (fun _ _ _ => false) (fun _ _ => false) := by
            have hbx := owns_grown HM6.out.box HROW.out (by decide) HGROW.out
            have hbt := owns_grown HM6.out.tk.box HROW.out (by decide) HGROW.out
            exact ⟨_, HM6.out.tk.nextA HGROW.out HOWN.out HT6.out HTB.out (fun q i h1 h2 => HTL.out _ _ _ ((HM5.out.tk.l q h1).cells i (by omega))) (fun q h1 => HTL.out _ _ _ (HM5.out.tk.a.cells q h1)) rfl HAT.out, hbx.other (a := ⟨tb, 7, none⟩) (by exact owns_ne hbt hbx (by decide)) _, grew_put (grew_own HM6.out.low HROW.out HGROW.out) (by omega) 7 _⟩
          exact ⟨⟨r + 1, _, _, _, by go_num, by omega, hM8⟩, by simp [intOf]; omega⟩
    · obtain rfl : R = r := by omega
      go_wp2_with fail
      clear c1 cl
      have hOR := OR.begin (O := O) (E := fun _ _ _ => false) (A := fun _ _ => false) ⟨fun _ _ _ h => (by cases h), fun _ _ h => (by cases h)⟩
      go_loopg [10] (2 * (cntE O.R O.n (fun _ _ _ => false) + cntF O.R O.n (fun _ _ => false)) + 1) (fun k x10 wr => ∃ (E : Nat → Nat → Nat → Bool) (A : Nat → Nat → Bool) (c : Bool), x10 = .bool c ∧ Hid (OMem W wr tb n0 n1 n2 n3 n4 (.slice wa n wc) ev av R R n L E A) ∧ Hid (OS O E A) ∧ Hid (c = false → OClTo O E A O.R 0) ∧ Hid (2 * (cntE O.R O.n E + cntF O.R O.n A) + (if c = true then 1 else 0) = k))
      case atStart => exact ⟨_, _, true, rfl, hM.out, hOR.os, fun h => by (cases h), rfl⟩
      case round =>
        clear hM hOR
        obtain ⟨E0, A0, c0, rfl, hM, hOS, hCl, hk⟩ := hrel
        -- ROUNDS
        cases c0
        · have hRR : O.R = R := HRE.out
          have hnn : O.n = n := HNE.out
          have hOR : OR O (cntE O.R O.n E0 + cntF O.R O.n A0) E0 A0 false O.R 0 := ⟨hOS.out, Nat.le_refl _, fun h => (by cases h), fun _ => hCl.out rfl⟩
          have hF := hOR.full HOK.out
          have HF := Lib.hid hF
          clear hOR hF hCl hk
          go_wp2_with fail
          go_ret
          exact ⟨tb, ev, av, L, E0, A0, rfl, by rw [hRR, hnn]; exact hM.out.tk, hOS.out, HF.out.1, HF.out.2, hM.out.low⟩
        · have HK := Lib.hid (show 2 * (cntE O.R O.n E0 + cntF O.R O.n A0) + 1 = gk from hk.out)
          have HOR := Lib.hid (OR.begin hOS.out)
          clear hk hOS hCl
          generalize cntE O.R O.n E0 + cntF O.R O.n A0 = k0 at *
          go_wp2_with fail
          go_loopw [10, 11] (fun x10 x11 wr => ∃ (r : Nat) (E : Nat → Nat → Nat → Bool) (A : Nat → Nat → Bool) (c : Bool), x10 = .bool c ∧ x11 = .int .i64 r ∧ r ≤ R ∧ Hid (OMem W wr tb n0 n1 n2 n3 n4 (.slice wa n wc) ev av R R n L E A) ∧ Hid (OR O k0 E A c r 0)) (fun _ i _ => R - (intOf i).toNat)
          case atStart => exact ⟨0, E0, A0, false, rfl, rfl, by omega, hM.out, HOR.out⟩
          case round =>
            clear hM HOR
            obtain ⟨r, E, A, c, rfl, rfl, hr, hM, hOR⟩ := hrel
            have c1 := hM.out.box.cell_at (i := 1) rfl
            rw [HN1.out] at c1
            have cl := hM.out.box.lt
            by_cases hrR : r < R
            · have hri : (r : Int) < (R : Int) := by omega
              have hrl : r < O.N.starts.length := by rw [HRE.out]; exact hrR
              have hrl2 : r < O.N.stops.length := by rw [← HOK.out.len]; exact hrl
              obtain ⟨sb, soff, hta, hsb, hsc⟩ := HT.out r hrl
              obtain ⟨ub, uoff, hua, hub, huc⟩ := HU.out r hrl2
              have hst := HOK.out.start r hrl
              have hsp := HOK.out.stop r hrl
              have e1 : O.N.starts[r] = ((O.N.start r : Nat) : Int) := by
                have h1 := hst.1
                unfold Net.start
                rw [List.getD_eq_getElem?_getD, List.getElem?_eq_getElem hrl] at h1 ⊢
                simp only [Option.getD_some] at h1 ⊢
                omega
              have e2 : O.N.stops[r] = ((O.N.stop r : Nat) : Int) := by
                have h1 := hsp.1
                unfold Net.stop
                rw [List.getD_eq_getElem?_getD, List.getElem?_eq_getElem hrl2] at h1 ⊢
                simp only [Option.getD_some] at h1 ⊢
                omega
              rw [e1] at hsc
              rw [e2] at huc
              obtain ⟨ss, hss⟩ : ∃ ss, O.N.start r = ss := ⟨_, rfl⟩
              obtain ⟨ts, hts⟩ : ∃ ts, O.N.stop r = ts := ⟨_, rfl⟩
              obtain ⟨S, hS⟩ : ∃ S, O.N.states.length = S := ⟨_, rfl⟩
              have hsS : ss < S := by rw [← hss, ← hS]; exact hst.2
              have htS : ts < S := by rw [← hts, ← hS]; exact hsp.2
              rw [hss] at hsc
              rw [hts] at huc
              have HSS := Lib.hid hss
              have HTS := Lib.hid hts
              have HSE := Lib.hid hS
              have HR12 := Lib.hid hR12
              clear e1 e2 hrl hrl2 hst hsp hss hts hS
              subst hta hua
              obtain ⟨wo, rfl⟩ : ∃ wo : World, wo = wr := ⟨_, rfl⟩
              go_wp2_with fail
              clear c1 cl
              go_loopw [10, 12] (fun x10 x12 wr => ∃ (i : Nat) (E : Nat → Nat → Nat → Bool) (A : Nat → Nat → Bool) (c : Bool), x10 = .bool c ∧ x12 = .int .i64 i ∧ i ≤ n + 1 ∧ Hid (OMem W wr tb n0 n1 n2 n3 n4 (.slice wa n wc) ev av R R n L E A) ∧ Hid (OR O k0 E A c r i)) (fun _ i _ => n + 1 - (intOf i).toNat)
              case atStart => exact ⟨0, E, A, c, rfl, rfl, by omega, hM.out, hOR.out⟩
              case round =>
                clear hM hOR
                obtain ⟨i, E, A, c, rfl, rfl, hi, hM, hOR⟩ := hrel
                by_cases hin : i < n + 1
                · have hii : (i : Int) < (n : Int) + 1 := by omega
                  have hin2 : i ≤ n := by omega
                  have c1 := hM.out.box.cell_at (i := 1) rfl
                  rw [HN1.out] at c1
                  have cl := hM.out.box.lt
                  have z1 := (hM.out.low.cells _ (soff + r) hsb).trans hsc
                  have zl : sb < wr.heap.size := Nat.lt_of_lt_of_le hsb hM.out.low.size
                  have hWL : WLaid (O.env E A r i) W.heap.size tb n0 n1 n2 n3 n4 (.slice wa n wc) ev av L wr :=
                    ⟨by rw [show (O.env E A r i).N.starts.length = R from HRE.out, show (O.env E A r i).n = n from HNE.out]; exact hM.out.tk, (HBN.out.keep hM.out.low).mono hM.out.low.size, (HWT.out.keep hM.out.low).mono hM.out.low.size, HSM.out, HOK.out, HW7.out,
                      fun r i j h => (hOR.out.os.e r i j h).2.2.2, by show O.N.start r < O.N.states.length ∧ i ≤ O.w.length; rw [HSS.out, HSE.out, HNE.out]; exact ⟨hsS, hin2⟩⟩
                  have hWK : Calls Try.prog 29 #[.pointer (some ⟨tb, 0, none⟩), .int .i64 ss, .int .i64 i, .int .i64 (-1)] wr (WalkAt (O.env E A r i) wr) := by
                    have := walk_ok (O.env E A r i) W.heap.size tb n0 n1 n2 n3 n4 (.slice wa n wc) ev av L wr hWL
                    rw [← HSS.out]
                    exact this
                  have HWK := Lib.hid hWK
                  clear hWL hWK
                  go_wp2_with fail
                  refine HWK.out.mono ?_
                  rintro e w3 ⟨vv, f, g, all, rfl, hGr, hwk, hall, hg3⟩
                  rw [show (O.env E A r i).S = S from HSE.out, show (O.env E A r i).n = n from HNE.out] at hGr
                  obtain ⟨gb0, hgb0⟩ : ∃ gb0, gb0 = wr.heap.size := ⟨_, rfl⟩
                  rw [← hgb0] at hGr
                  have hM3 := hM.out.keep hg3
                  have HXF := Lib.hid (show ∀ s, s < S → f s ≠ L.xf r i from fun s hs e => by have h1 := ((hM.out.tk.l r hrR).cells i (by omega)).lt; have h2 := hGr.lo s hs; omega)
                  have HAF := Lib.hid (show ∀ s, s < S → f s ≠ L.af r from fun s hs e => by have h1 := (hM.out.tk.a.cells r hrR).lt; have h2 := hGr.lo s hs; omega)
                  have hwalked := hOR.out.walked (g := g ts) (all := all) (by unfold OEnv.R; rw [HRE.out]; exact hrR) (by unfold OEnv.n; rw [HNE.out]; exact hin2) (fun j => by rw [HTS.out]; exact hwk ts j) hall
                  have HWD := Lib.hid hwalked
                  have HM3 := Lib.hid hM3
                  have HG3 := Lib.hid hGr
                  have a7 := hM3.tk.box.cell_at (i := 7) rfl
                  have al7 := hM3.tk.box.lt
                  obtain ⟨ab, ac, hav, hab, har⟩ := hM3.tk.a.at hrR
                  rw [hav] at a7
                  have arr := har r hrR
                  have arc := hM3.tk.a.cell hrR hin2
                  have arl := (hM3.tk.a.cells r hrR).lt
                  have arf := (hM3.tk.a.cells r hrR).free i
                  clear hM hOR hg3 hwk hall hM3 hGr hwalked har hgb0 HWK c1 cl z1 zl
                  obtain ⟨ba, hba⟩ : ∃ ba, A r i = ba := ⟨_, rfl⟩
                  rw [hba] at arc
                  have HBA := Lib.hid hba
                  clear hba hav
                  cases all
                  · clear a7 al7 arr arc arl arf hab
                    have HOJ := HWD.out.1 (.inl rfl)
                    have HMEM := HM3.out
                    have HGRID := HG3.out
                    clear HWD HM3 HG3
                    as_aux_lemma =>
                    have HJ := Lib.hid HOJ
                    have HMJ := Lib.hid HMEM
                    have HGJ := Lib.hid HGRID
                    clear HOJ HMEM HGRID
                    go_wp2_with fail
                    go_loopw [10, 15] (fun x10 x15 wr => ∃ (j : Nat) (E : Nat → Nat → Nat → Bool) (c : Bool), x10 = .bool c ∧ x15 = .int .i64 j ∧ j ≤ n + 1 ∧ Hid (OMem W wr tb n0 n1 n2 n3 n4 (.slice wa n wc) ev av R R n L E A) ∧ Hid (OJ O k0 (g ts) E A c r i j) ∧ Hid (Grid wr gb0 vv S n f g)) (fun _ i _ => n + 1 - (intOf i).toNat)
                    case atStart => exact ⟨0, E, c, rfl, rfl, by omega, HMJ.out, HJ.out, HGJ.out⟩
                    case round =>
                      clear HMJ HJ HGJ
                      obtain ⟨j, E, c, rfl, rfl, hj, hM, hJ, hG⟩ := hrel
                      by_cases hjn : j < n + 1
                      · have hji : (j : Int) < (n : Int) + 1 := by omega
                        obtain ⟨vb, vc, rfl, hvl, hvr⟩ := hG.out.at htS
                        have r0 := hvr ts htS
                        have cc := hG.out.cell htS (show j ≤ n by omega)
                        have cl := (hG.out.cells ts htS).lt
                        have k2 := hM.out.box.cell_at (i := 2) rfl
                        rw [HN2.out] at k2
                        have kl := hM.out.box.lt
                        have k3 := (hM.out.low.cells _ (uoff + r) hub).trans huc
                        have kl3 : ub < wr.heap.size := Nat.lt_of_lt_of_le hub hM.out.low.size
                        obtain ⟨eb1, ecap, eb2, ecap2, hev, heb1, hec, heb2, hex⟩ := hM.out.tk.ends_at hrR
                        have u6 := hM.out.tk.box.cell_at (i := 6) rfl
                        rw [hev] at u6
                        have ul := hM.out.tk.box.lt
                        have hxi := hex i hin2
                        have hxc := ((hM.out.tk.l r hrR).cells i (by omega)).cell_at (bcells_at _ (show j ≤ n by omega))
                        have hxl := ((hM.out.tk.l r hrR).cells i (by omega)).lt
                        have hxf := ((hM.out.tk.l r hrR).cells i (by omega)).free j
                        clear hvr hex
                        cases hgt : g ts j
                        · rw [hgt] at cc
                          have HGT := Lib.hid hgt
                          clear hgt
                          go_wp2_with fail
                          exact ⟨⟨j + 1, E, c, rfl, by go_num, by omega, hM.out, hJ.out.skip (.inl HGT.out), hG.out⟩, by simp [intOf]; omega⟩
                        · rw [hgt] at cc
                          have HGT := Lib.hid hgt
                          clear hgt
                          cases hEx : E r i j
                          · rw [hEx] at hxc
                            have HEX := Lib.hid hEx
                            clear hEx hev
                            go_wp2_with fail
                            exact ⟨⟨j + 1, _, true, rfl, by go_num, by omega, hM.out.putE hrR hin2 j, hJ.out.new (by unfold OEnv.R; rw [HRE.out]; exact hrR) (by unfold OEnv.n; rw [HNE.out]; exact hin2) (by unfold OEnv.n; rw [HNE.out]; omega) HGT.out HEX.out,
                              hG.out.other (a := ⟨L.xf r i, j, none⟩) (by exact (hM.out.tk.l r hrR).cells i (by omega)) (by decide) (by exact fun s hs => HXF.out s hs) _⟩, by simp [intOf]; omega⟩
                          · rw [hEx] at hxc
                            have HEX := Lib.hid hEx
                            clear hEx hev
                            go_wp2_with fail
                            exact ⟨⟨j + 1, E, c, rfl, by go_num, by omega, hM.out, hJ.out.skip (.inr HEX.out), hG.out⟩, by simp [intOf]; omega⟩
                      · have hji : ¬ ((j : Int) < (n : Int) + 1) := by omega
                        obtain rfl : j = n + 1 := by omega
                        go_wp2_with fail
                        have hJ2 : OJ O k0 (g ts) E A c r i (O.n + 1) := by unfold OEnv.n; rw [HNE.out]; exact hJ.out
                        exact ⟨⟨i + 1, E, A, c, rfl, by go_num, by omega, hM.out, hJ2.place⟩, by simp [intOf]; omega⟩
                  · cases ba
                    · have HOJ := HWD.out.2 rfl HBA.out
                      have HMEM := HM3.out.putA hrR i
                      have HGRID := HG3.out.other (a := ⟨L.af r, i, none⟩) (by exact HM3.out.tk.a.cells r hrR) (by decide) (by exact HAF.out) (.bool true)
                      have HOJ' := Lib.hid HOJ
                      have HMEM' := Lib.hid HMEM
                      have HGRID' := Lib.hid HGRID
                      clear HOJ HMEM HGRID HWD HM3 HG3
                      as_aux_lemma =>
                      go_upto_region 26 with fail
                      clear a7 al7 arr arc arl arf hab
                      generalize w3.setCell ⟨L.af r, i, none⟩ (.bool true) = w4 at *
                      have HOJ := HOJ'.out
                      have HMEM := HMEM'.out
                      have HGRID := HGRID'.out
                      clear HOJ' HMEM' HGRID'
                      have HJ := Lib.hid HOJ
                      have HMJ := Lib.hid HMEM
                      have HGJ := Lib.hid HGRID
                      clear HOJ HMEM HGRID
                      go_wp2_with fail
                      go_loopw [10, 15] (fun x10 x15 wr => ∃ (j : Nat) (E : Nat → Nat → Nat → Bool) (c : Bool), x10 = .bool c ∧ x15 = .int .i64 j ∧ j ≤ n + 1 ∧ Hid (OMem W wr tb n0 n1 n2 n3 n4 (.slice wa n wc) ev av R R n L E (upd2 A r i)) ∧ Hid (OJ O k0 (g ts) E (upd2 A r i) c r i j) ∧ Hid (Grid wr gb0 vv S n f g)) (fun _ i _ => n + 1 - (intOf i).toNat)
                      case atStart => exact ⟨0, E, true, rfl, rfl, by omega, HMJ.out, HJ.out, HGJ.out⟩
                      case round =>
                        clear HMJ HJ HGJ
                        obtain ⟨j, E, c, rfl, rfl, hj, hM, hJ, hG⟩ := hrel
                        by_cases hjn : j < n + 1
                        · have hji : (j : Int) < (n : Int) + 1 := by omega
                          obtain ⟨vb, vc, rfl, hvl, hvr⟩ := hG.out.at htS
                          have r0 := hvr ts htS
                          have cc := hG.out.cell htS (show j ≤ n by omega)
                          have cl := (hG.out.cells ts htS).lt
                          have k2 := hM.out.box.cell_at (i := 2) rfl
                          rw [HN2.out] at k2
                          have kl := hM.out.box.lt
                          have k3 := (hM.out.low.cells _ (uoff + r) hub).trans huc
                          have kl3 : ub < wr.heap.size := Nat.lt_of_lt_of_le hub hM.out.low.size
                          obtain ⟨eb1, ecap, eb2, ecap2, hev, heb1, hec, heb2, hex⟩ := hM.out.tk.ends_at hrR
                          have u6 := hM.out.tk.box.cell_at (i := 6) rfl
                          rw [hev] at u6
                          have ul := hM.out.tk.box.lt
                          have hxi := hex i hin2
                          have hxc := ((hM.out.tk.l r hrR).cells i (by omega)).cell_at (bcells_at _ (show j ≤ n by omega))
                          have hxl := ((hM.out.tk.l r hrR).cells i (by omega)).lt
                          have hxf := ((hM.out.tk.l r hrR).cells i (by omega)).free j
                          clear hvr hex
                          cases hgt : g ts j
                          · rw [hgt] at cc
                            have HGT := Lib.hid hgt
                            clear hgt
                            go_wp2_with fail
                            exact ⟨⟨j + 1, E, c, rfl, by go_num, by omega, hM.out, hJ.out.skip (.inl HGT.out), hG.out⟩, by simp [intOf]; omega⟩
                          · rw [hgt] at cc
                            have HGT := Lib.hid hgt
                            clear hgt
                            cases hEx : E r i j
                            · rw [hEx] at hxc
                              have HEX := Lib.hid hEx
                              clear hEx hev
                              go_wp2_with fail
                              exact ⟨⟨j + 1, _, true, rfl, by go_num, by omega, hM.out.putE hrR hin2 j, hJ.out.new (by unfold OEnv.R; rw [HRE.out]; exact hrR) (by unfold OEnv.n; rw [HNE.out]; exact hin2) (by unfold OEnv.n; rw [HNE.out]; omega) HGT.out HEX.out,
                                hG.out.other (a := ⟨L.xf r i, j, none⟩) (by exact (hM.out.tk.l r hrR).cells i (by omega)) (by decide) (by exact fun s hs => HXF.out s hs) _⟩, by simp [intOf]; omega⟩
                            · rw [hEx] at hxc
                              have HEX := Lib.hid hEx
                              clear hEx hev
                              go_wp2_with fail
                              exact ⟨⟨j + 1, E, c, rfl, by go_num, by omega, hM.out, hJ.out.skip (.inr HEX.out), hG.out⟩, by simp [intOf]; omega⟩
                        · have hji : ¬ ((j : Int) < (n : Int) + 1) := by omega
                          obtain rfl : j = n + 1 := by omega
                          go_wp2_with fail
                          have hJ2 : OJ O k0 (g ts) E (upd2 A r i) c r i (O.n + 1) := by unfold OEnv.n; rw [HNE.out]; exact hJ.out
                          exact ⟨⟨i + 1, E, (upd2 A r i), c, rfl, by go_num, by omega, hM.out, hJ2.place⟩, by simp [intOf]; omega⟩
                    · have HOJ := HWD.out.1 (.inr HBA.out)
                      have HOJ' := Lib.hid HOJ
                      clear HOJ HWD
                      as_aux_lemma =>
                      go_upto_region 26 with fail
                      clear a7 al7 arr arc arl arf hab
                      have HOJ := HOJ'.out
                      have HMEM := HM3.out
                      have HGRID := HG3.out
                      clear HOJ' HM3 HG3
                      have HJ := Lib.hid HOJ
                      have HMJ := Lib.hid HMEM
                      have HGJ := Lib.hid HGRID
                      clear HOJ HMEM HGRID
                      go_wp2_with fail
                      go_loopw [10, 15] (fun x10 x15 wr => ∃ (j : Nat) (E : Nat → Nat → Nat → Bool) (c : Bool), x10 = .bool c ∧ x15 = .int .i64 j ∧ j ≤ n + 1 ∧ Hid (OMem W wr tb n0 n1 n2 n3 n4 (.slice wa n wc) ev av R R n L E A) ∧ Hid (OJ O k0 (g ts) E A c r i j) ∧ Hid (Grid wr gb0 vv S n f g)) (fun _ i _ => n + 1 - (intOf i).toNat)
                      case atStart => exact ⟨0, E, c, rfl, rfl, by omega, HMJ.out, HJ.out, HGJ.out⟩
                      case round =>
                        clear HMJ HJ HGJ
                        obtain ⟨j, E, c, rfl, rfl, hj, hM, hJ, hG⟩ := hrel
                        by_cases hjn : j < n + 1
                        · have hji : (j : Int) < (n : Int) + 1 := by omega
                          obtain ⟨vb, vc, rfl, hvl, hvr⟩ := hG.out.at htS
                          have r0 := hvr ts htS
                          have cc := hG.out.cell htS (show j ≤ n by omega)
                          have cl := (hG.out.cells ts htS).lt
                          have k2 := hM.out.box.cell_at (i := 2) rfl
                          rw [HN2.out] at k2
                          have kl := hM.out.box.lt
                          have k3 := (hM.out.low.cells _ (uoff + r) hub).trans huc
                          have kl3 : ub < wr.heap.size := Nat.lt_of_lt_of_le hub hM.out.low.size
                          obtain ⟨eb1, ecap, eb2, ecap2, hev, heb1, hec, heb2, hex⟩ := hM.out.tk.ends_at hrR
                          have u6 := hM.out.tk.box.cell_at (i := 6) rfl
                          rw [hev] at u6
                          have ul := hM.out.tk.box.lt
                          have hxi := hex i hin2
                          have hxc := ((hM.out.tk.l r hrR).cells i (by omega)).cell_at (bcells_at _ (show j ≤ n by omega))
                          have hxl := ((hM.out.tk.l r hrR).cells i (by omega)).lt
                          have hxf := ((hM.out.tk.l r hrR).cells i (by omega)).free j
                          clear hvr hex
                          cases hgt : g ts j
                          · rw [hgt] at cc
                            have HGT := Lib.hid hgt
                            clear hgt
                            go_wp2_with fail
                            exact ⟨⟨j + 1, E, c, rfl, by go_num, by omega, hM.out, hJ.out.skip (.inl HGT.out), hG.out⟩, by simp [intOf]; omega⟩
                          · rw [hgt] at cc
                            have HGT := Lib.hid hgt
                            clear hgt
                            cases hEx : E r i j
                            · rw [hEx] at hxc
                              have HEX := Lib.hid hEx
                              clear hEx hev
                              go_wp2_with fail
                              exact ⟨⟨j + 1, _, true, rfl, by go_num, by omega, hM.out.putE hrR hin2 j, hJ.out.new (by unfold OEnv.R; rw [HRE.out]; exact hrR) (by unfold OEnv.n; rw [HNE.out]; exact hin2) (by unfold OEnv.n; rw [HNE.out]; omega) HGT.out HEX.out,
                                hG.out.other (a := ⟨L.xf r i, j, none⟩) (by exact (hM.out.tk.l r hrR).cells i (by omega)) (by decide) (by exact fun s hs => HXF.out s hs) _⟩, by simp [intOf]; omega⟩
                            · rw [hEx] at hxc
                              have HEX := Lib.hid hEx
                              clear hEx hev
                              go_wp2_with fail
                              exact ⟨⟨j + 1, E, c, rfl, by go_num, by omega, hM.out, hJ.out.skip (.inr HEX.out), hG.out⟩, by simp [intOf]; omega⟩
                        · have hji : ¬ ((j : Int) < (n : Int) + 1) := by omega
                          obtain rfl : j = n + 1 := by omega
                          go_wp2_with fail
                          have hJ2 : OJ O k0 (g ts) E A c r i (O.n + 1) := by unfold OEnv.n; rw [HNE.out]; exact hJ.out
                          exact ⟨⟨i + 1, E, A, c, rfl, by go_num, by omega, hM.out, hJ2.place⟩, by simp [intOf]; omega⟩
                · have hii : ¬ ((i : Int) < (n : Int) + 1) := by omega
                  obtain rfl : i = n + 1 := by omega
                  go_wp2_with fail
                  have hOR2 : OR O k0 E A c r (O.n + 1) := by unfold OEnv.n; rw [HNE.out]; exact hOR.out
                  exact ⟨⟨r + 1, E, A, c, rfl, by go_num, by omega, hM.out, hOR2.row⟩, by simp [intOf]; omega⟩
            · obtain rfl : R = r := by omega
              go_wp2_with fail
              go_roundg (2 * (cntE O.R O.n E + cntF O.R O.n A) + (if c = true then 1 else 0))
              case measure =>
                have h1 := hOR.out.le
                have h2 := hOR.out.lt
                have h3 := HK.out
                cases c
                · simp; omega
                · have := h2 rfl
                  simp; omega
              case rel =>
                refine ⟨E, A, c, rfl, hM.out, hOR.out.os, fun hc => ?_, rfl⟩
                have := hOR.out.cl hc
                rw [← HRE.out] at this
                exact this
end Go.Proofs.Ytgdcnndmdgcjlaa

/- Ways and Along, by the document: what the program answers. -/
namespace Go.Proofs.Ytgdcnndmdgcjlaa
open Go.RowKit
theorem walk_wayB {N : Net} {w : List Int} (hN : N.Ok) {E : Nat → Nat → Nat → Bool} {A : Nat → Nat → Bool} (hS : OS ⟨N, w⟩ E A) (hE : ∀ r i j, r < (⟨N, w⟩ : OEnv).R → i ≤ (⟨N, w⟩ : OEnv).n → (E r i j = true ↔ TgE N w r i j)) {f t i : Nat} {b : Bool}
    (h : b = true ↔ (⟨N, w, E, A, (f, 0), -1⟩ : WEnv).wk (t, i)) : b = wayB N w f t i :=
  bool_iff (h.trans ((wk_found (O := ⟨N, w⟩) hN hS hE (p0 := (f, 0)) (p := (t, i)) (over := -1) (Nat.zero_le _)).trans (lv_iff.symm.trans wayB_iff.symm)))
set_option maxHeartbeats 2000000 in
set_option maxRecDepth 20000 in
theorem RWays_all (N : Net) (hS : N.Small) (hK : N.Kinds) (w : List Int) (hw : w.length ≤ 7) (f t : Int) (W : World) (n0 n1 n2 n3 n4 wv : Value) (hB : RNetAt W W.heap.size n0 n1 n2 n3 n4 N) (hWV : IntsV W W.heap.size wv w) :
    Calls Try.prog 10 #[.agg #[n0, n1, n2, n3, n4], .int .i64 f, .int .i64 t, wv] W fun e W' => ∃ v, e = .returned v ∧ WayOut N w f t v W' ∧ Grew W W' := by
  obtain ⟨na, nc, hn0, hN0⟩ := hB.states
  have hWV0 := hWV
  obtain ⟨wa, wc, hwv, -⟩ := hWV0
  obtain ⟨S, hSS⟩ : ∃ S, N.states.length = S := ⟨_, rfl⟩
  rw [hSS] at hn0
  subst hn0
  obtain ⟨w1, hw1⟩ : ∃ w1, W.alloc (.cells #[.slice na S nc, n1, n2, n3, n4] 38) = w1 := ⟨_, rfl⟩
  have g1 : Grew W w1 := hw1 ▸ grew_alloc W _
  have o1 : Owns w1 W.heap.size [.slice na S nc, n1, n2, n3, n4] 38 := hw1 ▸ Owns.alloc W _ _
  have c0 := o1.cell_at (i := 0) rfl
  have c1 := o1.cell_at (i := 1) rfl
  have c2 := o1.cell_at (i := 2) rfl
  have c3 := o1.cell_at (i := 3) rfl
  have c4 := o1.cell_at (i := 4) rfl
  have cl := o1.lt
  have HMAY := Lib.hid (RMay_ok N hS hK w1 _ n1 n2 n3 n4 ((hB.keep g1).mono g1.size))
  have HO := Lib.hid o1
  have HG := Lib.hid g1
  have HB := Lib.hid hB
  have HWV := Lib.hid hWV
  have HSM := Lib.hid hS
  have HSE := Lib.hid hSS
  have HWL := Lib.hid hw
  have hw16 : ¬ (16384 < w.length) := by omega
  have hw16' : decide (16384 < w.length) = false := decide_eq_false hw16
  clear g1 o1 hB hS hK hSS hN0
  subst hwv
  cases hk : okW N f t
  · have HKK := Lib.hid hk
    obtain ⟨mb, hmb⟩ : ∃ mb, N.mayB = mb := ⟨_, rfl⟩
    have HMB := Lib.hid hmb
    rw [hmb] at HMAY
    clear hmb hk hWV
    cases mb
    · go_enter Try.func10, Try.ntmps10
      go_wp2_with (refine HMAY.out.mono ?_; rintro e w3 ⟨rfl, hb3⟩; have HG3 := Lib.hid (HG.out.trans hb3); clear hb3)
      go_ret2
      exact ⟨_, rfl, wayOut_bad HKK.out, HG3.out⟩
    · have hx : f < 0 ∨ (S : Int) ≤ f ∨ t < 0 ∨ (S : Int) ≤ t := by
        have h := HKK.out
        unfold okW at h
        rw [HMB.out, Bool.and_true, Bool.and_eq_false_iff] at h
        rw [← HSE.out]
        rcases h with h | h
        · have : ¬ okN N.states.length f = true := by rw [h]; simp
          rw [okN_iff] at this
          omega
        · have : ¬ okN N.states.length t = true := by rw [h]; simp
          rw [okN_iff] at this
          omega
      obtain ⟨b1, hb1⟩ : ∃ b, decide (f < 0) = b := ⟨_, rfl⟩
      obtain ⟨b2, hb2⟩ : ∃ b, decide ((S : Int) ≤ f) = b := ⟨_, rfl⟩
      obtain ⟨b3, hb3⟩ : ∃ b, decide (t < 0) = b := ⟨_, rfl⟩
      obtain ⟨b4, hb4⟩ : ∃ b, decide ((S : Int) ≤ t) = b := ⟨_, rfl⟩
      have hxx : (b1 || b2 || b3 || b4) = true := by
        rw [← hb1, ← hb2, ← hb3, ← hb4]
        simp only [Bool.or_eq_true, decide_eq_true_eq]
        omega
      have HXX := Lib.hid hxx
      clear hx hxx
      cases b1
      · cases b2
        · cases b3
          · cases b4
            · have := HXX.out
              cases this
            · go_enter Try.func10, Try.ntmps10
              go_wp2_with (refine HMAY.out.mono ?_; rintro e w3 ⟨rfl, hb3⟩; have d0 := (HO.out.keep hb3).cell_at (i := 0) rfl; have dl := (HO.out.keep hb3).lt; have HG3 := Lib.hid (HG.out.trans hb3); clear hb3)
              go_ret2
              exact ⟨_, rfl, wayOut_bad HKK.out, HG3.out⟩
          · go_enter Try.func10, Try.ntmps10
            go_wp2_with (refine HMAY.out.mono ?_; rintro e w3 ⟨rfl, hb3⟩; have d0 := (HO.out.keep hb3).cell_at (i := 0) rfl; have dl := (HO.out.keep hb3).lt; have HG3 := Lib.hid (HG.out.trans hb3); clear hb3)
            go_ret2
            exact ⟨_, rfl, wayOut_bad HKK.out, HG3.out⟩
        · go_enter Try.func10, Try.ntmps10
          go_wp2_with (refine HMAY.out.mono ?_; rintro e w3 ⟨rfl, hb3⟩; have d0 := (HO.out.keep hb3).cell_at (i := 0) rfl; have dl := (HO.out.keep hb3).lt; have HG3 := Lib.hid (HG.out.trans hb3); clear hb3)
          go_ret2
          exact ⟨_, rfl, wayOut_bad HKK.out, HG3.out⟩
      · go_enter Try.func10, Try.ntmps10
        go_wp2_with (refine HMAY.out.mono ?_; rintro e w3 ⟨rfl, hb3⟩; have HG3 := Lib.hid (HG.out.trans hb3); clear hb3)
        go_ret2
        exact ⟨_, rfl, wayOut_bad HKK.out, HG3.out⟩
  · have hk2 := hk
    unfold okW at hk2
    simp only [Bool.and_eq_true, okN_iff] at hk2
    obtain ⟨⟨hf, ht⟩, hM⟩ := hk2
    rw [HSE.out] at hf ht
    obtain ⟨f', rfl⟩ : ∃ f' : Nat, f = f' := ⟨f.toNat, by omega⟩
    obtain ⟨t', rfl⟩ : ∃ t' : Nat, t = t' := ⟨t.toNat, by omega⟩
    have hfS : f' < S := by omega
    have htS : t' < S := by omega
    have r2 : decide ((S : Int) ≤ (f' : Int)) = false := decide_eq_false (by omega)
    have r4 : decide ((S : Int) ≤ (t' : Int)) = false := decide_eq_false (by omega)
    have q2 : decide (S ≤ f') = false := decide_eq_false (by omega)
    have q4 : decide (S ≤ t') = false := decide_eq_false (by omega)
    have p2 : ¬ S ≤ f' := by omega
    have p4 : ¬ S ≤ t' := by omega
    rw [hM] at HMAY
    have HOK := Lib.hid (Net.ok_of_may hM)
    have HKK := Lib.hid hk
    have HW := Lib.hid hWV
    clear hf ht hM hk hWV
    go_enter Try.func10, Try.ntmps10
    go_wp2_with fail
    refine HMAY.out.mono ?_
    rintro e w3 ⟨rfl, hb3⟩
    have hg3 := HG.out.trans hb3
    have d0 := (HO.out.keep hb3).cell_at (i := 0) rfl
    have d1 := (HO.out.keep hb3).cell_at (i := 1) rfl
    have d2 := (HO.out.keep hb3).cell_at (i := 2) rfl
    have d3 := (HO.out.keep hb3).cell_at (i := 3) rfl
    have d4 := (HO.out.keep hb3).cell_at (i := 4) rfl
    have dl := (HO.out.keep hb3).lt
    have HOF := Lib.hid (of_ok ⟨N, w⟩ HSM.out HOK.out HWL.out w3 (.slice na S nc) n1 n2 n3 n4 (.slice wa w.length wc) ((HB.out.keep hg3).mono hg3.size) ((HW.out.keep hg3).mono hg3.size))
    have HG3 := Lib.hid hg3
    clear hb3 hg3 c0 c1 c2 c3 c4 cl
    go_wp2_with fail
    refine HOF.out.mono ?_
    rintro e w4 ⟨tb, ev, av, L, E, A, rfl, htk, hos, hE, hA, hg4⟩
    have hg34 := HG3.out.trans hg4
    have hWL : WLaid ⟨N, w, E, A, (f', 0), -1⟩ w3.heap.size tb (.slice na S nc) n1 n2 n3 n4 (.slice wa w.length wc) ev av L w4 :=
      ⟨htk, (HB.out.keep hg34).mono hg34.size, (HW.out.keep hg34).mono hg34.size, HSM.out, HOK.out, HWL.out, fun r i j h => (hos.e r i j h).2.2.2, by show f' < N.states.length ∧ 0 ≤ w.length; rw [HSE.out]; exact ⟨hfS, Nat.zero_le _⟩⟩
    have hWK : Calls Try.prog 29 #[.pointer (some ⟨tb, 0, none⟩), .int .i64 f', .int .i64 0, .int .i64 (-1)] w4 (WalkAt ⟨N, w, E, A, (f', 0), -1⟩ w4) := walk_ok _ _ _ _ _ _ _ _ _ _ _ _ _ hWL
    have HWK := Lib.hid hWK
    have HG34 := Lib.hid hg34
    have HOS := Lib.hid hos
    have HE := Lib.hid hE
    clear hWL hWK hg34 htk hos hE hA hg4 d0 d1 d2 d3 d4 dl
    go_wp2_with fail
    refine HWK.out.mono ?_
    rintro e w5 ⟨v, fb, g, all, rfl, hGr, hwk, -, hg5⟩
    rw [show (⟨N, w, E, A, (f', 0), -1⟩ : WEnv).S = S from HSE.out] at hGr
    obtain ⟨vb, vc, rfl, hvl, hvr⟩ := hGr.at htS
    have r0 := hvr t' htS
    have HGR := Lib.hid hGr
    have HWK2 := Lib.hid hwk
    have HG5 := Lib.hid (HG34.out.trans hg5)
    clear hvr hGr hwk hg5
    go_wp2_with fail
    go_ret2
    have hc := HGR.out.cells t' htS
    have hcc : bcells w.length (g t') = wayCells N w f' t' := by
      unfold bcells wayCells
      apply List.map_congr_left
      intro i _
      rw [walk_wayB HOK.out HOS.out HE.out (HWK2.out t' i)]
    refine ⟨_, rfl, wayOut_good HKK.out (ob := fb t') ?_, HG5.out⟩
    rw [Int.toNat_natCast, Int.toNat_natCast, ← hcc]
    exact hc
def OfR (N : Net) (w : List Int) (n0 n1 n2 n3 n4 wv : Value) (v : Value) (W' : World)   : Prop := ∃ (base tb : Nat) (ev av : Value) (L : TkLoc) (E : Nat → Nat → Nat → Bool) (A : Nat → Nat → Bool), v = .pointer (some ⟨tb, 0, none⟩) ∧ TkAt W' base tb n0 n1 n2 n3 n4 wv ev av N.starts.length N.starts.length w.length L E A ∧ OS ⟨N, w⟩ E A ∧
  (∀ r i j, r < N.starts.length → i ≤ w.length → (E r i j = true ↔ TgE N w r i j)) ∧ ∀ r i, r < N.starts.length → i ≤ w.length → (A r i = true ↔ AgP N w r i)
theorem OfR.keep {N : Net} {w : List Int} {n0 n1 n2 n3 n4 wv v : Value} {W W' : World} (hg : Grew W W') (h : OfR N w n0 n1 n2 n3 n4 wv v W) : OfR N w n0 n1 n2 n3 n4 wv v W' := by
  obtain ⟨base, tb, ev, av, L, E, A, h1, h2, h3⟩ := h
  exact ⟨base, tb, ev, av, L, E, A, h1, h2.keep hg, h3⟩
open Classical in
noncomputable def allV (N : Net) (w : List Int) (t : Nat) (o : Int) : Bool := decide (WkAll N w (TgE N w) (AgP N w) (t, 0) o)
open Classical in
noncomputable def placeV (N : Net) (w : List Int) (t : Nat) (o : Int) (s i : Nat) : Bool := decide (Wk N w (TgE N w) (t, 0) o (s, i))
theorem allV_iff {N : Net} {w : List Int} {t : Nat} {o : Int} : allV N w t o = true ↔ WkAll N w (TgE N w) (AgP N w) (t, 0) o := by unfold allV; exact @decide_eq_true_iff _ (Classical.propDecidable _)
theorem placeV_iff {N : Net} {w : List Int} {t : Nat} {o : Int} {s i : Nat} : placeV N w t o s i = true ↔ Wk N w (TgE N w) (t, 0) o (s, i) := by unfold placeV; exact @decide_eq_true_iff _ (Classical.propDecidable _)
def GrX (N : Net) (w : List Int) (base t : Nat) (o : Int) (v : Value) (W' : World) : Prop := ∃ fb, Grid W' base v N.states.length w.length fb (placeV N w t o)
theorem GrX.keep {N : Net} {w : List Int} {base t : Nat} {o : Int} {v : Value} {W W' : World} (hg : Grew W W') (h : GrX N w base t o v W) : GrX N w base t o v W' := by
  obtain ⟨fb, h⟩ := h
  exact ⟨fb, h.keep hg⟩
def WkR (N : Net) (w : List Int) (base t : Nat) (o : Int) (v : Value) (W' : World) : Prop := ∃ x, v = .tuple #[x, .bool (allV N w t o)] ∧ GrX N w base t o x W'
theorem WkR.keep {N : Net} {w : List Int} {base t : Nat} {o : Int} {v : Value} {W W' : World} (hg : Grew W W') (h : WkR N w base t o v W) : WkR N w base t o v W' := by
  obtain ⟨x, h1, h2⟩ := h
  exact ⟨x, h1, h2.keep hg⟩
theorem wkR_of {N : Net} {w : List Int} (hN : N.Ok) {E : Nat → Nat → Nat → Bool} {A : Nat → Nat → Bool} (hS : OS ⟨N, w⟩ E A) (hE : ∀ r i j, r < N.starts.length → i ≤ w.length → (E r i j = true ↔ TgE N w r i j)) (hA : ∀ r i, r < N.starts.length → i ≤ w.length → (A r i = true ↔ AgP N w r i))
    {t : Nat} {o : Int} {W W' : World} {e : Ending} {base : Nat} (hb : base ≤ W.heap.size) (h : WalkAt ⟨N, w, E, A, (t, 0), o⟩ W e W') : (∃ v, e = .returned v ∧ WkR N w base t o v W') ∧ Grew W W' := by
  obtain ⟨v, f, g, all, rfl, h1, h2, h3, h4⟩ := h
  have e1 : all = allV N w t o := bool_iff (h3.trans ((wkAll_found (O := ⟨N, w⟩) hN hS hE hA (p0 := (t, 0)) (over := o) (Nat.zero_le _)).trans allV_iff.symm))
  subst e1
  refine ⟨⟨_, rfl, v, rfl, f, (h1.weaken hb).congr fun s _ i _ => ?_⟩, h4⟩
  exact bool_iff ((h2 s i).trans ((wk_found (O := ⟨N, w⟩) hN hS hE (p0 := (t, 0)) (p := (s, i)) (over := o) (Nat.zero_le _)).trans placeV_iff.symm))
theorem along_place {N : Net} {w : List Int} {t o : Nat} : alongB N w t o = true ↔ (allV N w t o = true ∨ ∃ i, i < w.length + 1 ∧ placeV N w t o o i = true) := by
  rw [alongB_iff, along_iff, allV_iff]
  constructor
  · rintro (h | ⟨i, hi, h⟩)
    · exact .inl h
    · exact .inr ⟨i, by omega, placeV_iff.2 (by simpa using h)⟩
  · rintro (h | ⟨i, hi, h⟩)
    · exact .inl h
    · exact .inr ⟨i, by omega, by simpa using placeV_iff.1 h⟩
set_option maxHeartbeats 2000000 in
set_option maxRecDepth 20000 in
theorem RAlong_all (N : Net) (hS : N.Small) (hK : N.Kinds) (w : List Int) (hw : w.length ≤ 7) (f k : Int) (W : World) (n0 n1 n2 n3 n4 wv : Value) (hB : RNetAt W W.heap.size n0 n1 n2 n3 n4 N) (hWV : IntsV W W.heap.size wv w) :
    Calls Try.prog 14 #[.agg #[n0, n1, n2, n3, n4], .int .i64 f, .int .i64 k, wv] W fun e W' => e = .returned (.bool (alongV N w f k)) ∧ Grew W W' := by
  obtain ⟨na, nc, hn0, hN0⟩ := hB.states
  have hWV0 := hWV
  obtain ⟨wa, wc, hwv, -⟩ := hWV0
  obtain ⟨S, hSS⟩ : ∃ S, N.states.length = S := ⟨_, rfl⟩
  rw [hSS] at hn0
  subst hn0
  obtain ⟨w1, hw1⟩ : ∃ w1, W.alloc (.cells #[.slice na S nc, n1, n2, n3, n4] 38) = w1 := ⟨_, rfl⟩
  have g1 : Grew W w1 := hw1 ▸ grew_alloc W _
  have o1 : Owns w1 W.heap.size [.slice na S nc, n1, n2, n3, n4] 38 := hw1 ▸ Owns.alloc W _ _
  have c0 := o1.cell_at (i := 0) rfl
  have c1 := o1.cell_at (i := 1) rfl
  have c2 := o1.cell_at (i := 2) rfl
  have c3 := o1.cell_at (i := 3) rfl
  have c4 := o1.cell_at (i := 4) rfl
  have cl := o1.lt
  have HMAY := Lib.hid (RMay_ok N hS hK w1 _ n1 n2 n3 n4 ((hB.keep g1).mono g1.size))
  have HO := Lib.hid o1
  have HG := Lib.hid g1
  have HB := Lib.hid hB
  have HWV := Lib.hid hWV
  have HSM := Lib.hid hS
  have HSE := Lib.hid hSS
  have HWL := Lib.hid hw
  have HN0 := Lib.hid hN0
  have hw16 : ¬ (16384 < w.length) := by omega
  have hw16' : decide (16384 < w.length) = false := decide_eq_false hw16
  clear g1 o1 hB hS hK hSS hN0
  subst hwv
  obtain ⟨mb, hmb⟩ : ∃ mb, N.mayB = mb := ⟨_, rfl⟩
  have HMB := Lib.hid hmb
  rw [hmb] at HMAY
  clear hmb
  cases mb
  · have hav : alongV N w f k = false := by unfold alongV okA; rw [HMB.out]; simp
    rw [hav]
    clear hWV hav
    go_enter Try.func14, Try.ntmps14
    go_wp2_with (refine HMAY.out.mono ?_; rintro e w3 ⟨rfl, hb3⟩; have HG3 := Lib.hid (HG.out.trans hb3); clear hb3)
    go_ret
    exact ⟨rfl, HG3.out⟩
  · by_cases k0 : f < 0
    · have q0 : decide (f < 0) = true := decide_eq_true k0
      have hav : alongV N w f k = false := by unfold alongV okA okN; rw [decide_eq_false (by omega : ¬ 0 ≤ f)]; simp
      rw [hav]
      clear hWV hav k0
      go_enter Try.func14, Try.ntmps14
      go_wp2_with (refine HMAY.out.mono ?_; rintro e w3 ⟨rfl, hb3⟩; have HG3 := Lib.hid (HG.out.trans hb3); clear hb3)
      go_ret
      exact ⟨rfl, HG3.out⟩
    · have q0 : decide (f < 0) = false := decide_eq_false k0
      by_cases k1 : (S : Int) ≤ f
      · have q1 : decide ((S : Int) ≤ f) = true := decide_eq_true k1
        have hav : alongV N w f k = false := by unfold alongV okA okN; rw [HSE.out, decide_eq_false (by omega : ¬ f < (S : Int))]; simp
        rw [hav]
        clear hWV hav k0 k1
        go_enter Try.func14, Try.ntmps14
        go_wp2_with (refine HMAY.out.mono ?_; rintro e w3 ⟨rfl, hb3⟩; have d0 := (HO.out.keep hb3).cell_at (i := 0) rfl; have dl := (HO.out.keep hb3).lt; have HG3 := Lib.hid (HG.out.trans hb3); clear hb3)
        go_ret
        exact ⟨rfl, HG3.out⟩
      · obtain ⟨f', rfl⟩ : ∃ f' : Nat, f = f' := ⟨f.toNat, by omega⟩
        have hfS : f' < S := by omega
        have hf' : f' < N.states.length := by rw [HSE.out]; exact hfS
        have r2 : decide (S ≤ f') = false := decide_eq_false (by omega)
        have p2 : ¬ S ≤ f' := by omega
        obtain ⟨sb, soff, rfl, hsb, hstt⟩ := HN0.out f' hf'
        obtain ⟨-, ⟨ea, ec, s1, hE⟩, za, zc, s2, hZ⟩ := hstt
        have hED : N.ends f' = N.states[f'].ends := by unfold Net.ends; rw [List.getElem?_eq_getElem hf']; rfl
        have hEE : N.edges f' = N.states[f'].edges := by unfold Net.edges; rw [List.getElem?_eq_getElem hf']; rfl
        rw [← hED] at s2 hZ
        rw [← hEE] at s1 hE
        obtain ⟨el, hel⟩ : ∃ el, (N.ends f').length = el := ⟨_, rfl⟩
        rw [hel] at s2
        have HSB := Lib.hid (And.intro hsb (And.intro s1 s2))
        by_cases k2 : k < 0
        · have q2 : decide (k < 0) = true := decide_eq_true k2
          have hav : alongV N w f' k = false := by unfold alongV okA; rw [decide_eq_false (by omega : ¬ 0 ≤ k)]; simp
          rw [hav]
          clear hWV hav k0 k1 k2 hE hZ hED hEE hel s1 s2 hsb hf'
          go_enter Try.func14, Try.ntmps14
          go_wp2_with (refine HMAY.out.mono ?_; rintro e w3 ⟨rfl, hb3⟩; have d0 := (HO.out.keep hb3).cell_at (i := 0) rfl; have dl := (HO.out.keep hb3).lt; have HG3 := Lib.hid (HG.out.trans hb3); clear hb3)
          go_ret
          exact ⟨rfl, HG3.out⟩
        · have q2 : decide (k < 0) = false := decide_eq_false k2
          by_cases k3 : (el : Int) ≤ k
          · have q3 : decide ((el : Int) ≤ k) = true := decide_eq_true k3
            have hav : alongV N w f' k = false := by unfold alongV okA; rw [Int.toNat_natCast, hel, decide_eq_false (by omega : ¬ k.toNat < el)]; simp
            rw [hav]
            clear hWV hav k0 k1 k2 k3 hE hZ hED hEE hel s1 s2 hsb hf'
            go_enter Try.func14, Try.ntmps14
            go_wp2_with (refine HMAY.out.mono ?_; rintro e w3 ⟨rfl, hb3⟩; have d0 := (HO.out.keep hb3).cell_at (i := 0) rfl; have dl := (HO.out.keep hb3).lt; have hg3 := HG.out.trans hb3; have d1 := (hg3.cells _ _ HSB.out.1).trans HSB.out.2.2; have dl1 := Nat.lt_of_lt_of_le HSB.out.1 hg3.size; have HG3 := Lib.hid hg3; clear hb3 hg3)
            go_ret
            exact ⟨rfl, HG3.out⟩
          · obtain ⟨k', rfl⟩ : ∃ k' : Nat, k = k' := ⟨k.toNat, by omega⟩
            have hkl : k' < el := by omega
            have hkD : k' < (N.ends f').length := by rw [hel]; exact hkl
            have hOk := Net.ok_of_may HMB.out
            have hkE : k' < (N.edges f').length := by
              rcases hOk.endsE f' with h | h
              · rw [h] at hkD; simp at hkD
              · rw [← h]; exact hkD
            have r3 : decide (el ≤ k') = false := decide_eq_false (by omega)
            have p3 : ¬ el ≤ k' := by omega
            obtain ⟨zb, zoff, rfl, hzb, hzc⟩ := hZ k' hkD
            obtain ⟨eb, eoff, rfl, heb, e0, e1, e2⟩ := hE k' hkE
            have hto := (hOk.edge f' _ (List.getElem_mem hkE)).1
            have hov := hOk.endsR f' _ (List.getElem_mem hkD)
            obtain ⟨t, ht⟩ : ∃ t : Nat, (N.edges f')[k'].to = t := ⟨(N.edges f')[k'].to.toNat, by omega⟩
            obtain ⟨o, ho⟩ : ∃ o : Nat, (N.ends f')[k'] = o := ⟨(N.ends f')[k'].toNat, by omega⟩
            have htS : t < S := by rw [← HSE.out]; omega
            have hoS : o < S := by rw [← HSE.out]; omega
            have hav : alongV N w f' k' = alongB N w t o := by
              unfold alongV okA toOf overOf
              rw [Int.toNat_natCast, Int.toNat_natCast, List.getElem?_eq_getElem hkD, List.getElem?_eq_getElem hkE, HMB.out, decide_eq_true hkD, decide_eq_true (by omega : (0 : Int) ≤ (k' : Int)), okN_iff.2 (by omega : (0 : Int) ≤ (f' : Int) ∧ (f' : Int) < (N.states.length : Int))]
              simp [ht, ho]
            rw [ht] at e2
            rw [ho] at hzc
            rw [hav]
            obtain ⟨m, hm⟩ : ∃ m, (N.edges f').length = m := ⟨_, rfl⟩
            have hkm : k' < m := by rw [← hm]; exact hkE
            rw [hm] at s1
            have HC := Lib.hid (show ∀ u, Grew W u → u.cell? ⟨sb, soff + f' * 3 + 1, none⟩ = some (.slice (some ⟨eb, eoff, none⟩) m ec) ∧ u.cell? ⟨sb, soff + f' * 3 + 2, none⟩ = some (.slice (some ⟨zb, zoff, none⟩) el zc) ∧ u.cell? ⟨eb, eoff + k' * 3 + 2, none⟩ = some (.int .i64 t) ∧ u.cell? ⟨zb, zoff + k', none⟩ = some (.int .i64 o) from
              fun u hg => ⟨(hg.cells _ _ hsb).trans s1, (hg.cells _ _ hsb).trans s2, (hg.cells _ _ heb).trans e2, (hg.cells _ _ hzb).trans hzc⟩)
            have HL := Lib.hid (And.intro hsb (And.intro heb hzb))
            have HOK := Lib.hid hOk
            have HW := Lib.hid hWV
            clear hWV hav k0 k1 k2 k3 hE hZ hED hEE hel s1 s2 hsb hf' hOk hto hov ht ho hm e0 e1 e2 hzc heb hzb hkD hkE
            go_enter Try.func14, Try.ntmps14
            go_wp2_with (refine HMAY.out.mono ?_; rintro e w3 ⟨rfl, hb3⟩; have hg3 := HG.out.trans hb3; have d0 := (HO.out.keep hb3).cell_at (i := 0) rfl; have d1 := (HO.out.keep hb3).cell_at (i := 1) rfl; have d2 := (HO.out.keep hb3).cell_at (i := 2) rfl; have d3 := (HO.out.keep hb3).cell_at (i := 3) rfl; have d4 := (HO.out.keep hb3).cell_at (i := 4) rfl; have dl := (HO.out.keep hb3).lt; obtain ⟨x1, x2, x3, x4⟩ := HC.out w3 hg3; have l1 := Nat.lt_of_lt_of_le HL.out.1 hg3.size; have l2 := Nat.lt_of_lt_of_le HL.out.2.1 hg3.size; have l3 := Nat.lt_of_lt_of_le HL.out.2.2 hg3.size; have HG3 := Lib.hid hg3; clear hb3 hg3)
            clear c0 c1 c2 c3 c4 cl
            refine wp_region_hav_lit follows (by kernel_rfl) ?_
            repeat (first
              | (refine HavG.skip (fun _ => rfl) ?_; simp only [Act.put, List.setIfInBounds_toArray, List.set_cons_zero, List.set_cons_succ])
              | (refine HavG.val (fun _ => rfl) ?_ (fun x w hw _ => ?_) ?_; rotate_left; (focus (have hc := hw.cells; clear hw; go_simp; first | done | rfl)); simp only [Act.put, List.setIfInBounds_toArray, List.set_cons_zero, List.set_cons_succ]))
            refine HavG.any (fun _ => rfl) (OfR N w (.slice (some ⟨sb, soff, none⟩) S nc) n1 n2 n3 n4 (.slice wa w.length wc)) (fun _ _ _ hg h => OfR.keep hg h) (fun x u hw _ => ?_) ?_
            · have hgu := HG3.out.trans hw
              have HOF := Lib.hid (of_ok ⟨N, w⟩ HSM.out HOK.out HWL.out u (.slice (some ⟨sb, soff, none⟩) S nc) n1 n2 n3 n4 (.slice wa w.length wc) ((HB.out.keep hgu).mono hgu.size) ((HW.out.keep hgu).mono hgu.size))
              have HGU := Lib.hid hgu
              clear hw hgu
              go_simp
              refine HOF.out.mono ?_
              rintro e u2 ⟨tb, ev, av, L, E, A, rfl, htk, hos, hE, hA, hg4⟩
              exact ⟨hg4, _, tb, ev, av, L, E, A, rfl, htk, hos, hE, hA⟩
            simp only [Act.put, List.setIfInBounds_toArray, List.set_cons_zero, List.set_cons_succ]
            repeat (first
              | (refine HavG.skip (fun _ => rfl) ?_; simp only [Act.put, List.setIfInBounds_toArray, List.set_cons_zero, List.set_cons_succ])
              | (refine HavG.val (fun _ => rfl) ?_ (fun x w hw _ => ?_) ?_; rotate_left; (focus (have hc := hw.cells; clear hw; go_simp; first | done | rfl)); simp only [Act.put, List.setIfInBounds_toArray, List.set_cons_zero, List.set_cons_succ]))
            refine HavG.any (fun _ => rfl) (WkR N w W.heap.size t o) (fun _ _ _ hg h => WkR.keep hg h) (fun x u hw hd => ?_) ?_
            · have h2 := hd _ (List.mem_append_right _ (List.mem_singleton.2 rfl)) (by kernel_rfl)
              dsimp only at h2
              have hgu := HG3.out.trans hw
              clear hd hw
              generalize x (0 + 1 + 1) = y2 at *
              obtain ⟨base, tb, ev, av, L, E, A, rfl, htk, hos, hE, hA⟩ := h2
              have hWL : WLaid ⟨N, w, E, A, (t, 0), o⟩ base tb (.slice (some ⟨sb, soff, none⟩) S nc) n1 n2 n3 n4 (.slice wa w.length wc) ev av L u :=
                ⟨htk, (HB.out.keep hgu).mono hgu.size, (HW.out.keep hgu).mono hgu.size, HSM.out, HOK.out, HWL.out, fun r i j h => (hos.e r i j h).2.2.2, by show t < N.states.length ∧ 0 ≤ w.length; rw [HSE.out]; exact ⟨htS, Nat.zero_le _⟩⟩
              have hWK : Calls Try.prog 29 #[.pointer (some ⟨tb, 0, none⟩), .int .i64 t, .int .i64 0, .int .i64 o] u (WalkAt ⟨N, w, E, A, (t, 0), o⟩ u) := walk_ok _ _ _ _ _ _ _ _ _ _ _ _ _ hWL
              have HWK := Lib.hid hWK
              have HGU := Lib.hid hgu
              have HOS := Lib.hid hos
              have HE := Lib.hid hE
              have HA := Lib.hid hA
              clear hWL hWK hgu htk hos hE hA
              go_simp
              refine HWK.out.mono ?_
              rintro e u2 hres
              obtain ⟨⟨v, rfl, hr⟩, hg⟩ := wkR_of HOK.out HOS.out HE.out HA.out HGU.out.size hres
              exact ⟨hg, hr⟩
            simp only [Act.put, List.setIfInBounds_toArray, List.set_cons_zero, List.set_cons_succ]
            refine HavG.any (fun _ => rfl) (WkR N w W.heap.size t o) (fun _ _ _ hg h => WkR.keep hg h) (fun x u hw hd => ?_) ?_
            · have h7 := hd _ (List.mem_append_right _ (List.mem_singleton.2 rfl)) (by kernel_rfl)
              dsimp only at h7
              clear hd hw
              generalize x (0 + 1 + 1 + 1 + 1 + 1 + 1 + 1 + 1 + 1 + 1 + 1 + 1 + 1 + 1) = y14 at *
              have H7 := Lib.hid h7
              clear h7
              go_simp
              exact ⟨Grew.refl _, H7.out⟩
            simp only [Act.put, List.setIfInBounds_toArray, List.set_cons_zero, List.set_cons_succ]
            refine HavG.any (fun _ => rfl) (GrX N w W.heap.size t o) (fun _ _ _ hg h => GrX.keep hg h) (fun x u hw hd => ?_) ?_
            · have h8 := hd _ (List.mem_append_right _ (List.mem_singleton.2 rfl)) (by kernel_rfl)
              dsimp only at h8
              clear hd hw
              generalize x (0 + 1 + 1 + 1 + 1 + 1 + 1 + 1 + 1 + 1 + 1 + 1 + 1 + 1 + 1 + 1) = y15 at *
              obtain ⟨xx, rfl, ho⟩ := h8
              have HO2 := Lib.hid ho
              clear ho
              go_simp
              exact ⟨Grew.refl _, HO2.out⟩
            simp only [Act.put, List.setIfInBounds_toArray, List.set_cons_zero, List.set_cons_succ]
            refine HavG.det (fun _ => rfl) (.bool (allV N w t o)) (fun x u hw hd => ?_) ?_
            · have h8 := hd _ (List.mem_append_left _ (List.mem_append_right _ (List.mem_singleton.2 rfl))) (by kernel_rfl)
              dsimp only at h8
              clear hd hw
              generalize x (0 + 1 + 1 + 1 + 1 + 1 + 1 + 1 + 1 + 1 + 1 + 1 + 1 + 1 + 1 + 1) = y15 at *
              obtain ⟨xx, rfl, ho⟩ := h8
              clear ho
              go_simp
              exact Grew.refl _
            simp only [Act.put, List.setIfInBounds_toArray, List.set_cons_zero, List.set_cons_succ]
            refine HavG.any (fun _ => rfl) (GrX N w W.heap.size t o) (fun _ _ _ hg h => GrX.keep hg h) (fun x u hw hd => ?_) ?_
            · have h8 := hd _ (List.mem_append_right _ (List.mem_singleton.2 rfl)) (by kernel_rfl)
              dsimp only at h8
              clear hd hw
              generalize x (0 + 1 + 1 + 1 + 1 + 1 + 1 + 1 + 1 + 1 + 1 + 1 + 1 + 1 + 1 + 1 + 1) = y16 at *
              have H8 := Lib.hid h8
              clear h8
              go_simp
              exact ⟨Grew.refl _, H8.out⟩
            simp only [Act.put, List.setIfInBounds_toArray, List.set_cons_zero, List.set_cons_succ]
            refine HavG.tail (by kernel_rfl) (by kernel_rfl) (fun x w5 hw hx => ?_)
            have hx8 := hx _ (List.mem_append_right _ (List.mem_singleton.2 rfl))
            clear hx
            dsimp only at hx8
            generalize x (0 + 1 + 1 + 1 + 1 + 1 + 1 + 1 + 1 + 1 + 1 + 1 + 1 + 1 + 1 + 1 + 1 + 1 + 1) = y18 at *
            generalize x (0 + 1 + 1 + 1 + 1 + 1 + 1 + 1 + 1 + 1 + 1 + 1 + 1 + 1 + 1 + 1 + 1) = y16 at *
            generalize x (0 + 1 + 1 + 1 + 1 + 1 + 1 + 1 + 1 + 1 + 1 + 1 + 1 + 1 + 1 + 1) = y15 at *
            generalize x (0 + 1 + 1 + 1 + 1 + 1 + 1 + 1 + 1 + 1 + 1 + 1 + 1 + 1 + 1) = y14 at *
            generalize x (0 + 1 + 1) = y2 at *
            obtain ⟨fb, hGr⟩ := hx8
            obtain ⟨vb, vc, rfl, hvl, hvr⟩ := hGr.at (s := o) (by rw [HSE.out]; exact hoS)
            have r0 := hvr o (by rw [HSE.out]; exact hoS)
            have HCE := Lib.hid (show ∀ i, i ≤ w.length → w5.cell? ⟨fb o, i, none⟩ = some (.bool (placeV N w t o o i)) from fun i hi => hGr.cell (by rw [HSE.out]; exact hoS) hi)
            have hfl := (hGr.cells o (by rw [HSE.out]; exact hoS)).lt
            have HG5 := Lib.hid (HG3.out.trans hw)
            rw [HSE.out]
            clear hw hGr hvr d0 d1 d2 d3 d4 dl x1 x2 x3 x4 l1 l2 l3
            go_wp2_with fail
            obtain ⟨al, hal⟩ : ∃ al, allV N w t o = al := ⟨_, rfl⟩
            have HAL := Lib.hid hal
            rw [hal]
            clear hal
            go_loopw [11, 12] (fun x11 x12 wr => ∃ (i : Nat) (b : Bool), x11 = .bool b ∧ x12 = .int .i64 i ∧ i ≤ w.length + 1 ∧ Hid (b = true ↔ (al = true ∨ ∃ i', i' < i ∧ placeV N w t o o i' = true)) ∧ wr = w5) (fun _ i _ => w.length + 1 - (intOf i).toNat)
            case atStart => exact ⟨0, al, rfl, rfl, by omega, ⟨fun h => .inl h, fun h => h.elim id fun ⟨s', h1, _⟩ => absurd h1 (by omega)⟩, rfl⟩
            case round =>
              obtain ⟨i, b, rfl, rfl, hi, hb, rfl⟩ := hrel
              by_cases hin : i < w.length + 1
              · have hii : (i : Int) ≤ (w.length : Int) := by omega
                have hii2 : i ≤ w.length := by omega
                have cc := HCE.out i hii2
                obtain ⟨y, hy⟩ : ∃ y, placeV N w t o o i = y := ⟨_, rfl⟩
                rw [hy] at cc
                have HY := Lib.hid hy
                clear hy
                have fin : Hid ((b || y) = true ↔ (al = true ∨ ∃ i', i' < i + 1 ∧ placeV N w t o o i' = true)) := Lib.hid (by
                  rw [Bool.or_eq_true, hb.out]
                  constructor
                  · rintro ((h | ⟨s', h1, h2⟩) | h)
                    · exact .inl h
                    · exact .inr ⟨s', by omega, h2⟩
                    · exact .inr ⟨i, by omega, by rw [HY.out]; exact h⟩
                  · rintro (h | ⟨s', h1, h2⟩)
                    · exact .inl (.inl h)
                    · by_cases e : s' = i
                      · subst e
                        rw [HY.out] at h2
                        exact .inr h2
                      · exact .inl (.inr ⟨s', by omega, h2⟩))
                cases b
                · go_wp2_with fail
                  exact ⟨⟨i + 1, y, rfl, by go_num, by omega, fin.out, trivial⟩, by simp [intOf]; omega⟩
                · go_wp2_with fail
                  exact ⟨⟨i + 1, true, rfl, by go_num, by omega, fin.out, trivial⟩, by simp [intOf]; omega⟩
              · have hii : ¬ ((i : Int) ≤ (w.length : Int)) := by omega
                have hii2 : ¬ i ≤ w.length := by omega
                obtain rfl : i = w.length + 1 := by omega
                go_wp2_with fail
                go_ret
                refine ⟨ret_bool (bool_iff ?_), HG5.out⟩
                rw [hb.out, along_place, HAL.out]
end Go.Proofs.Ytgdcnndmdgcjlaa

/- PathsAny: the walk. -/
namespace Go.Proofs.Ytgdcnndmdgcjlaa
open Go.RowKit
def WayX (N : Net) (w : List Int) (f t : Int) (la : Nat) (v : Value) (W' : World) : Prop := ∃ a c, v = .slice a la c ∧ BoolsV W' (.slice a la c) la (wayB N w f.toNat t.toNat)
theorem WayX.keep {N : Net} {w : List Int} {f t : Int} {la : Nat} {v : Value} {W W' : World} (hg : Grew W W') (h : WayX N w f t la v W) : WayX N w f t la v W' := by
  obtain ⟨a, c, h1, h2⟩ := h
  exact ⟨a, c, h1, h2.keep hg⟩
def WayO (N : Net) (w : List Int) (f t : Int) (er : Int) (la : Nat) (v : Value) (W' : World) : Prop := ∃ x, v = .tuple #[x, .int .i64 er] ∧ WayX N w f t la x W'
theorem WayO.keep {N : Net} {w : List Int} {f t er : Int} {la : Nat} {v : Value} {W W' : World} (hg : Grew W W') (h : WayO N w f t er la v W) : WayO N w f t er la v W' := by
  obtain ⟨x, h1, h2⟩ := h
  exact ⟨x, h1, h2.keep hg⟩
theorem wayO_of {N : Net} {w : List Int} {f t er : Int} {la : Nat} {v : Value} {W' : World} (he : (if okW N f t = true then 0 else 1) = er) (hl : (if okW N f t = true then w.length + 1 else 0) = la) (h : WayOut N w f t v W') : WayO N w f t er la v W' := by
  obtain ⟨x, h1, h2, a, c, h3⟩ := h
  rw [hl] at h2 h3
  rw [he] at h1
  subst h3
  exact ⟨_, h1, a, c, rfl, h2⟩
end Go.Proofs.Ytgdcnndmdgcjlaa
