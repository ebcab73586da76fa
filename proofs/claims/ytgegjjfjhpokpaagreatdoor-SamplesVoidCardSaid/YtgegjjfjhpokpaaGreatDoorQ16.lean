/- cmp.Or, slices.Compare, before. -/
import Derived.Test.YtgegjjfjhpokpaaGreatDoorShelf
import Derived.Laws.IdiomCopy
import Derived.Test.YtgegjjfjhpokpaaGreatDoorQ15
import Derived.Test.YtgegjjfjhpokpaaGreatDoorQ14
namespace Go.Proofs.YtgegjjfjhpokpaaGreatDoor
open Go.RowKit

def cmpL : List Int → List Int → Int
  | [], [] => 0
  | [], _ :: _ => -1
  | _ :: _, [] => 1
  | x :: r, y :: s => if Lib.compareInt x y ≠ 0 then Lib.compareInt x y else cmpL r s
theorem cmpL_drop {l m : List Int} {j : Nat} (h1 : j < l.length) (h2 : j < m.length) : cmpL (l.drop j) (m.drop j) = if Lib.compareInt l[j] m[j] ≠ 0 then Lib.compareInt l[j] m[j] else cmpL (l.drop (j + 1)) (m.drop (j + 1)) := by
  rw [List.drop_eq_getElem_cons h1, List.drop_eq_getElem_cons h2, cmpL]
theorem cmpL_out {l m : List Int} {j : Nat} (h1 : j < l.length) (h2 : m.length ≤ j) : cmpL (l.drop j) (m.drop j) = 1 := by
  rw [List.drop_eq_getElem_cons h1, List.drop_eq_nil_of_le h2]; rfl
theorem cmpL_end {l m : List Int} (h2 : l.length ≤ m.length) : cmpL (l.drop l.length) (m.drop l.length) = if l.length < m.length then -1 else 0 := by
  rw [List.drop_length]
  by_cases h : l.length < m.length
  · rw [if_pos h, List.drop_eq_getElem_cons h]; rfl
  · rw [if_neg h, List.drop_eq_nil_of_le (by omega)]; rfl
set_option maxHeartbeats 2000000 in
set_option maxRecDepth 20000 in
theorem slCompare_ok (l m : List Int) (hl : l.length ≤ 1000000) (hm : m.length ≤ 1000000) (W : World) (v u : Value) (hv : IntsV W W.heap.size v l) (hu : IntsV W W.heap.size u m) :
    Calls Tryz.prog 70 #[v, u] W fun e W' => e = .returned (.int .i64 (cmpL l m)) ∧ W' = W := by
  obtain ⟨va, vc, rfl, hv⟩ := hv
  obtain ⟨ua, uc, rfl, hu⟩ := hu
  have HCMP := Lib.hid (fun x y w => Tryz.cmp_Compare_int x y w)
  obtain ⟨R, hR⟩ : ∃ R, cmpL l m = R := ⟨_, rfl⟩
  rw [hR]
  have HR := Lib.hid hR
  have HV := Lib.hid hv
  have HU := Lib.hid hu
  obtain ⟨ln, hln⟩ : ∃ ln, l.length = ln := ⟨_, rfl⟩
  obtain ⟨mn, hmn⟩ : ∃ mn, m.length = mn := ⟨_, rfl⟩
  have HLN := Lib.hid hln
  have HMN := Lib.hid hmn
  rw [hln] at hl ⊢
  rw [hmn] at hm ⊢
  clear hR hv hu hln hmn
  go_enter Tryz.func70, Tryz.ntmps70
  go_wp2_with fail
  go_loopw [11] (fun c wr => ∃ (j : Nat), c = .int .i64 j ∧ j ≤ ln ∧ j ≤ mn ∧ Hid (cmpL (l.drop j) (m.drop j) = R) ∧ wr = W) (fun c _ => ln - (intOf c).toNat)
  case atStart => exact ⟨0, rfl, by omega, by omega, HR.out, rfl⟩
  case round =>
    obtain ⟨j, rfl, hj, hjm, HC, rfl⟩ := hrel
    by_cases hlt : j < ln
    · have h1 : j < l.length := by rw [HLN.out]; exact hlt
      obtain ⟨b, off, rfl, hb, hc⟩ := HV.out j h1
      obtain ⟨x, hx⟩ : ∃ x, l[j] = x := ⟨_, rfl⟩
      rw [hx] at hc
      by_cases hlm : j < mn
      · have h2 : j < m.length := by rw [HMN.out]; exact hlm
        have hlmi : ¬ (mn : Int) ≤ (j : Int) := by omega
        obtain ⟨b', off', rfl, hb', hc'⟩ := HU.out j h2
        obtain ⟨y, hy⟩ : ∃ y, m[j] = y := ⟨_, rfl⟩
        rw [hy] at hc'
        have hcm := HC.out
        rw [cmpL_drop h1 h2, hx, hy] at hcm
        have HX := Lib.hid (HCMP.out x y wr)
        obtain ⟨c, hcc⟩ : ∃ c, Lib.compareInt x y = c := ⟨_, rfl⟩
        rw [hcc] at hcm HX
        clear h1 h2 hx hy hcc
        by_cases h0 : c = 0
        · subst h0
          rw [if_neg (by simp)] at hcm
          have HCM := Lib.hid hcm
          clear hcm
          go_wp2_with fail
          refine HX.out.mono ?_
          rintro e w ⟨rfl, rfl⟩
          go_wp2_with fail
          exact ⟨⟨j + 1, by go_num, by omega, by omega, HCM.out, by first | rfl | trivial⟩, by simp [intOf]; omega⟩
        · rw [if_pos h0] at hcm
          have q0 : (c == 0) = false := beq_eq_false_iff_ne.2 h0
          have q1 : (c != 0) = true := by simp [h0]
          have HCM := Lib.hid hcm
          clear hcm
          go_wp2_with fail
          refine HX.out.mono ?_
          rintro e w ⟨rfl, rfl⟩
          go_wp2_with fail
          go_ret
          exact ⟨ret_int HCM.out, by first | rfl | trivial⟩
      · have hlmi : (mn : Int) ≤ (j : Int) := by omega
        have hcm := HC.out
        rw [cmpL_out h1 (by rw [HMN.out]; omega)] at hcm
        have HCM := Lib.hid hcm
        clear hcm h1 hx
        go_wp2_with fail
        go_ret
        exact ⟨ret_int HCM.out, by first | rfl | trivial⟩
    · obtain rfl : j = ln := by omega
      have hcm := HC.out
      have e := cmpL_end (l := l) (m := m) (by rw [HLN.out, HMN.out]; exact hjm)
      rw [HLN.out, HMN.out] at e
      rw [e] at hcm
      clear e
      by_cases hmj : j < mn
      · have hmji : (j : Int) < (mn : Int) := by omega
        rw [if_pos hmj] at hcm
        have HCM := Lib.hid hcm
        clear hcm
        go_wp2_with fail
        go_ret
        exact ⟨ret_int HCM.out, by first | rfl | trivial⟩
      · have hmji : ¬ (j : Int) < (mn : Int) := by omega
        rw [if_neg hmj] at hcm
        have HCM := Lib.hid hcm
        clear hcm
        go_wp2_with fail
        go_ret
        exact ⟨ret_int HCM.out, by first | rfl | trivial⟩
set_option maxHeartbeats 2000000 in
set_option maxRecDepth 20000 in
theorem cmpOr_ok (a c : Int) (b : Nat) (W : World) (h : Owns W b [.int .i64 a, .int .i64 c] 3) : Calls Tryz.prog 68 #[.slice (some ⟨b, 0, none⟩) 2 2] W fun e W' => e = .returned (.int .i64 (if a ≠ 0 then a else c)) ∧ W' = W := by
  have c0 := h.cell_at (i := 0) rfl
  have c1 := h.cell_at (i := 1) rfl
  have cl := h.lt
  clear h
  go_enter Tryz.func68, Tryz.ntmps68
  go_wp2_with fail
  go_loopw [8] (fun x wr => ∃ (j : Nat), x = .int .i64 j ∧ j ≤ 2 ∧ (0 < j → a = 0) ∧ (1 < j → c = 0) ∧ wr = W) (fun x _ => 2 - (intOf x).toNat)
  case atStart => exact ⟨0, rfl, by omega, by omega, by omega, rfl⟩
  case round =>
    obtain ⟨j, rfl, hj, ha, hc, rfl⟩ := hrel
    have h3 : j = 0 ∨ j = 1 ∨ j = 2 := by omega
    rcases h3 with rfl | rfl | rfl
    · by_cases h0 : a = 0
      · subst h0
        go_wp2_with fail
        exact ⟨⟨1, rfl, by omega, by simp, by omega, by first | rfl | trivial⟩, by simp [intOf]⟩
      · have q1 : (a != 0) = true := by simp [h0]
        go_wp2_with fail
        go_ret
        exact ⟨ret_int (by simp), by first | rfl | trivial⟩
    · obtain rfl := ha (by omega)
      by_cases h0 : c = 0
      · subst h0
        go_wp2_with fail
        exact ⟨⟨2, rfl, by omega, by simp, by simp, by first | rfl | trivial⟩, by simp [intOf]⟩
      · have q1 : (c != 0) = true := by simp [h0]
        go_wp2_with fail
        go_ret
        exact ⟨ret_int (by simp), by first | rfl | trivial⟩
    · obtain rfl := ha (by omega)
      obtain rfl := hc (by omega)
      go_wp2_with fail
      go_ret
      exact ⟨ret_int (by simp), by first | rfl | trivial⟩

def firstLt (f g : Fst) : Bool :=
  if f.long = -1 ∨ g.long = -1 then decide (f.long ≠ -1)
  else decide ((if Lib.compareInt f.long g.long ≠ 0 then Lib.compareInt f.long g.long else cmpL f.w g.w) < 0)
def NewTwo (lim : Nat) (a c : Int) (v : Value) (w : World) : Prop := ∃ b, v = .slice (some ⟨b, 0, none⟩) 2 2 ∧ lim ≤ b ∧ Owns w b [.int .i64 a, .int .i64 c] 3
theorem NewTwo.keep {lim : Nat} {a c : Int} {v : Value} {w w' : World} (hg : Grew w w') (h : NewTwo lim a c v w) : NewTwo lim a c v w' := by
  obtain ⟨b, h1, h2, h3⟩ := h
  exact ⟨b, h1, h2, h3.keep hg⟩
set_option maxHeartbeats 4000000 in
set_option maxRecDepth 20000 in
theorem sbefore_ok (f g : Fst) (hf : f.w.length ≤ 1000000) (hg : g.w.length ≤ 1000000) (W : World) (v u : Value) (hv : IntsV W W.heap.size v f.w) (hu : IntsV W W.heap.size u g.w) :
    Calls Tryz.prog 49 #[.agg #[.int .i64 f.long, v], .agg #[.int .i64 g.long, u]] W fun e W' => e = .returned (.bool (firstLt f g)) ∧ Grew W W' := by
  obtain ⟨fl, fw⟩ := f
  obtain ⟨gl, gw⟩ := g
  dsimp only at hf hg hv hu ⊢
  unfold firstLt
  dsimp only
  obtain ⟨w1, hw1⟩ : ∃ w1, W.alloc (.cells #[.int .i64 fl, v] 60) = w1 := ⟨_, rfl⟩
  have g1 : Grew W w1 := hw1 ▸ grew_alloc W _
  have o1 : Owns w1 W.heap.size [.int .i64 fl, v] 60 := hw1 ▸ Owns.alloc W _ _
  have y1 : w1.heap.size = W.heap.size + 1 := by rw [← hw1]; exact World.size_alloc _ _
  obtain ⟨w2, hw2⟩ : ∃ w2, w1.alloc (.cells #[.int .i64 gl, u] 60) = w2 := ⟨_, rfl⟩
  have g2 : Grew w1 w2 := hw2 ▸ grew_alloc w1 _
  have o2 : Owns w2 (W.heap.size + 1) [.int .i64 gl, u] 60 := y1 ▸ hw2 ▸ Owns.alloc w1 _ _
  have o12 := o1.keep g2
  have f0 := o12.cell_at (i := 0) rfl
  have f1 := o12.cell_at (i := 1) rfl
  have fl1 := o12.lt
  have q0 := o2.cell_at (i := 0) rfl
  have q1 := o2.cell_at (i := 1) rfl
  have ql := o2.lt
  have HG := Lib.hid (g1.trans g2)
  have HV := Lib.hid hv
  have HU := Lib.hid hu
  obtain ⟨va, vc, rfl, -⟩ := hv
  obtain ⟨ua, uc, rfl, -⟩ := hu
  have hg1 := HG.out
  clear g1 g2 o1 o2 o12 hg1
  by_cases hx : fl = -1
  · subst hx
    rw [if_pos (.inl rfl)]
    go_enter Tryz.func49, Tryz.ntmps49
    go_wp2_with fail
    go_ret
    exact ⟨by first | rfl | simp, HG.out⟩
  · have e1 : (fl == -1) = false := beq_eq_false_iff_ne.2 hx
    by_cases hy : gl = -1
    · subst hy
      rw [if_pos (.inr rfl)]
      go_enter Tryz.func49, Tryz.ntmps49
      go_wp2_with fail
      go_ret
      exact ⟨by first | rfl | simp [hx], HG.out⟩
    · have e2 : (gl == -1) = false := beq_eq_false_iff_ne.2 hy
      rw [if_neg (fun h => h.elim hx hy)]
      have HCMP := Lib.hid (fun w => Tryz.cmp_Compare_int fl gl w)
      have HSL : Hid (∀ w, Grew w2 w → Calls Tryz.prog 70 #[.slice va fw.length vc, .slice ua gw.length uc] w fun e W' => e = .returned (.int .i64 (cmpL fw gw)) ∧ W' = w) := Lib.hid fun w hw =>
        slCompare_ok fw gw hf hg w _ _ ((HV.out.keep (HG.out.trans hw)).mono (HG.out.trans hw).size) ((HU.out.keep (HG.out.trans hw)).mono (HG.out.trans hw).size)
      obtain ⟨c1, hc1⟩ : ∃ c, Lib.compareInt fl gl = c := ⟨_, rfl⟩
      obtain ⟨c2, hc2⟩ : ∃ c, cmpL fw gw = c := ⟨_, rfl⟩
      rw [hc1] at HCMP ⊢
      rw [hc2] at HSL ⊢
      clear hc1 hc2 HV HU hf hg
      generalize fw.length = n1 at *
      generalize gw.length = n2 at *
      obtain ⟨R, hR⟩ : ∃ R, (if c1 ≠ 0 then c1 else c2) = R := ⟨_, rfl⟩
      rw [hR]
      have HR := Lib.hid hR
      clear hR
      go_enter Tryz.func49, Tryz.ntmps49
      go_upto_region 3 with fail
      refine wp_region_hav_lit follows (by kernel_rfl) ?_
      iterate 4 (first
        | (refine HavG.skip (fun _ => rfl) ?_; simp only [Act.put, List.setIfInBounds_toArray, List.set_cons_zero, List.set_cons_succ])
        | (refine HavG.val (fun _ => rfl) ?_ (fun x w hw _ => ?_) ?_; rotate_left; (focus (have hc := hw.cells; clear hw; go_simp; first | done | rfl)); simp only [Act.put, List.setIfInBounds_toArray, List.set_cons_zero, List.set_cons_succ]))
      refine HavG.det (fun _ => rfl) (.int .i64 c1) (fun x w hw hd => ?_) ?_
      · clear hd hw
        go_simp
        refine (HCMP.out w).mono ?_
        rintro e w' ⟨rfl, rfl⟩
        exact ⟨rfl, Grew.refl _⟩
      simp only [Act.put, List.setIfInBounds_toArray, List.set_cons_zero, List.set_cons_succ]
      iterate 4 (first
        | (refine HavG.skip (fun _ => rfl) ?_; simp only [Act.put, List.setIfInBounds_toArray, List.set_cons_zero, List.set_cons_succ])
        | (refine HavG.val (fun _ => rfl) ?_ (fun x w hw _ => ?_) ?_; rotate_left; (focus (have hc := hw.cells; clear hw; go_simp; first | done | rfl)); simp only [Act.put, List.setIfInBounds_toArray, List.set_cons_zero, List.set_cons_succ]))
      refine HavG.det (fun _ => rfl) (.int .i64 c2) (fun x w hw hd => ?_) ?_
      · have HW := Lib.hid hw
        clear hd hw
        go_simp
        refine (HSL.out w HW.out).mono ?_
        rintro e w' ⟨rfl, rfl⟩
        exact ⟨rfl, Grew.refl _⟩
      simp only [Act.put, List.setIfInBounds_toArray, List.set_cons_zero, List.set_cons_succ]
      refine HavG.any (fun _ => rfl) (NewTwo w2.heap.size c1 c2) (fun _ _ _ hg h => h.keep hg) (fun x w hw _ => ?_) ?_
      · have HW := Lib.hid hw
        clear hw
        go_simp
        exact ⟨grew_alloc w _, _, rfl, HW.out.size, Owns.alloc w _ _⟩
      simp only [Act.put, List.setIfInBounds_toArray, List.set_cons_zero, List.set_cons_succ]
      refine HavG.det (fun _ => rfl) (.int .i64 R) (fun x w hw hd => ?_) ?_
      · obtain ⟨b, hx, -, hob⟩ := hd _ (List.mem_append_right _ (List.mem_singleton.2 rfl)) (by kernel_rfl)
        dsimp only at hx
        have HO := Lib.hid (cmpOr_ok c1 c2 b w hob)
        rw [HR.out] at HO
        clear hd hw hob
        simp only [hx]
        go_simp
        refine HO.out.mono ?_
        rintro e w' ⟨rfl, rfl⟩
        exact ⟨rfl, Grew.refl _⟩
      simp only [Act.put, List.setIfInBounds_toArray, List.set_cons_zero, List.set_cons_succ]
      repeat (first
        | (refine HavG.skip (fun _ => rfl) ?_; simp only [Act.put, List.setIfInBounds_toArray, List.set_cons_zero, List.set_cons_succ])
        | (refine HavG.val (fun _ => rfl) ?_ (fun x w hw _ => ?_) ?_; rotate_left; (focus (have hc := hw.cells; clear hw; go_simp; first | done | rfl)); simp only [Act.put, List.setIfInBounds_toArray, List.set_cons_zero, List.set_cons_succ]))
      refine HavG.tail (by kernel_rfl) (by kernel_rfl) (fun x w hw _ => ?_)
      have HW := Lib.hid (HG.out.trans hw)
      clear hw
      go_wp2_with fail
      go_ret
      exact ⟨rfl, HW.out⟩
end Go.Proofs.YtgegjjfjhpokpaaGreatDoor

/- math/bits.Mul of one and a small number. -/
namespace Go.Proofs.YtgegjjfjhpokpaaGreatDoor
open Go.RowKit

set_option maxHeartbeats 2000000 in
set_option maxRecDepth 20000 in
theorem mul64_ok (n : Nat) (hn : n ≤ 12) (W : World) : Calls Tryz.prog 52 #[.int .u64 1, .int .u64 (n : Int)] W fun e W' => e = .returned (.tuple #[.int .u64 0, .int .u64 (n : Int)]) ∧ W' = W := by
  have a1 : ∀ n : Nat, n ≤ 12 → bits .and .u64 (n : Int) 4294967295 = (n : Int) := by decide
  have b1 := a1 n hn
  have b2 : bits .and .u64 1 4294967295 = 1 := by decide
  have b3 : bits .and .u64 0 4294967295 = 0 := by decide
  have b4 : (n : Int) / 4294967296 = 0 := by omega
  have b5 : IntKind.u64.wrap (n : Int) = (n : Int) := by
    have : ∀ n : Nat, n ≤ 12 → IntKind.u64.wrap (n : Int) = (n : Int) := by decide
    exact this n hn
  clear a1
  go_enter Tryz.func52, Tryz.ntmps52
  go_wp2_with fail
  go_ret2
  exact ⟨rfl, rfl⟩
theorem mul_ok (n : Nat) (hn : n ≤ 12) (W : World) : Calls Tryz.prog 33 #[.int .u64 1, .int .u64 (n : Int)] W fun e W' => e = .returned (.tuple #[.int .u64 0, .int .u64 (n : Int)]) ∧ W' = W := by
  have HC := Lib.hid (mul64_ok n hn W)
  have b5 : IntKind.u64.wrap (n : Int) = (n : Int) := by
    have : ∀ n : Nat, n ≤ 12 → IntKind.u64.wrap (n : Int) = (n : Int) := by decide
    exact this n hn
  go_enter Tryz.func33, Tryz.ntmps33
  go_wp2_with fail
  refine HC.out.mono ?_
  rintro e w ⟨rfl, rfl⟩
  go_wp2_with fail
  go_ret2
  exact ⟨rfl, rfl⟩
end Go.Proofs.YtgegjjfjhpokpaaGreatDoor

/- slices.Repeat of one number. -/
namespace Go.Proofs.YtgegjjfjhpokpaaGreatDoor
open Go.RowKit

def wrAt (cs : List Value) : Nat → List Value → List Value
  | _, [] => cs
  | o, v :: r => wrAt (cs.set o v) (o + 1) r
theorem Owns.setCells {b T : Nat} : ∀ (vs : List Value) (o : Nat) (W : World) (cs : List Value), Owns W b cs T → Owns (W.setCells b o vs) b (wrAt cs o vs) T
  | [], _, _, _, h => h
  | v :: r, o, _, _, h => Owns.setCells r (o + 1) _ _ (h.set o v)
theorem setCells_below {b B : Nat} (hb : B ≤ b) : ∀ (vs : List Value) (o : Nat) (W W0 : World), Below B W0 W → Below B W0 (W.setCells b o vs)
  | [], _, _, _, h => h
  | _ :: r, o, _, _, h => setCells_below hb r (o + 1) _ _ (h.setCell hb _)
/-- c of n are written -/
def half (c n : Nat) : List Value := List.replicate c (.int .i64 (-2)) ++ List.replicate (n - c) (.int .i64 0)
theorem half_len {c n : Nat} (h : c ≤ n) : (half c n).length = n := by simp [half]; omega
theorem half_set {c n : Nat} (h : c < n) : (half c n).set c (.int .i64 (-2)) = half (c + 1) n := by
  apply List.ext_getElem?
  intro i
  unfold half
  rw [List.getElem?_set]
  simp only [List.length_append, List.length_replicate]
  by_cases e : c = i
  · subst e
    rw [if_pos rfl, if_pos (by omega), List.getElem?_append_left (by simp), List.getElem?_replicate, if_pos (by omega)]
  · rw [if_neg e]
    by_cases hi : i < c
    · rw [List.getElem?_append_left (by simp; omega), List.getElem?_append_left (by simp; omega), List.getElem?_replicate, List.getElem?_replicate, if_pos hi, if_pos (by omega)]
    · rw [List.getElem?_append_right (by simp; omega), List.getElem?_append_right (by simp; omega), List.getElem?_replicate, List.getElem?_replicate]
      simp only [List.length_replicate]
      by_cases h2 : i < n
      · rw [if_pos (by omega), if_pos (by omega)]
      · rw [if_neg (by omega), if_neg (by omega)]
theorem half_wr : ∀ {k c n : Nat}, c + k ≤ n → wrAt (half c n) c (List.replicate k (.int .i64 (-2))) = half (c + k) n
  | 0, c, n, _ => rfl
  | k + 1, c, n, h => by
    rw [List.replicate_succ, wrAt, half_set (by omega), half_wr (by omega), show c + 1 + k = c + (k + 1) by omega]
theorem half_get {c n i : Nat} (h : i < c) : (half c n)[i]? = some (.int .i64 (-2)) := by
  unfold half
  rw [List.getElem?_append_left (by simp; omega), List.getElem?_replicate, if_pos h]
theorem rep_one (k : Nat) : ∀ u ∈ List.replicate k (Value.int .i64 (-2)), u.oneCell' = true := by
  intro u hu
  rw [List.eq_of_mem_replicate hu]; rfl
/-- so many of the first ones are put behind them -/
theorem run_copy_half {w : World} {g c n : Nat} (h : Owns w g (half c n) 3) (hc : c ≤ n) (src : Addr) (sl sc dc : Nat) (hsrc : ∀ j, j < min sl (n - c) → w.cell? (src.add j) = some (.int .i64 (-2))) (ty : TypeId) :
    ∃ w', (Builtin.copy_ #[22, 22] ty #[.slice (some ⟨g, c, none⟩) (n - c) dc, .slice (some src) sl sc]).run Tryz.prog w = .ok (.int .i64 ((min sl (n - c) : Nat) : Int)) w' ∧ Owns w' g (half (c + min sl (n - c)) n) 3 ∧ (∀ B W0, B ≤ g → Below B W0 w → Below B W0 w') := by
  obtain ⟨i0, hi, hz0, hz1, hz2⟩ := info_parts info_int
  have hl : (List.replicate (min sl (n - c)) (Value.int .i64 (-2))).length = min sl (n - c) := by simp
  have hr := run_copy_cells (P := Tryz.prog) w 22 22 ty 3 g c (n - c) dc src sl sc (List.replicate (min sl (n - c)) (.int .i64 (-2))) Tryz.underlying22 (by rw [hi]; simp [hz1]) (by rw [hl]) (fun j v hj => by
    obtain ⟨h1, h2⟩ := List.getElem?_eq_some_iff.1 hj
    rw [hl] at h1
    rw [List.getElem_replicate] at h2
    rw [← h2]
    exact hsrc j h1) (fun j hj => by
    rw [hl] at hj
    rw [h.cell]
    have := half_len hc
    rw [List.getElem?_eq_getElem (by omega)]; rfl) (fun j _ => h.free _) (rep_one _)
  rw [hl] at hr
  refine ⟨_, hr, ?_, fun B W0 hB hb => setCells_below hB _ _ _ _ hb⟩
  have := h.setCells (List.replicate (min sl (n - c)) (.int .i64 (-2))) c
  rw [half_wr (by omega)] at this
  exact this
set_option maxHeartbeats 4000000 in
set_option maxRecDepth 20000 in
theorem repeat_ok (n : Nat) (hn : n ≤ 12) (W : World) (xb : Nat) (hx : Owns W xb [.int .i64 (-2)] 3) :
    Calls Tryz.prog 16 #[.slice (some ⟨xb, 0, none⟩) 1 1, .int .i64 (n : Int)] W fun e W' => ∃ g, e = .returned (.slice (some ⟨g, 0, none⟩) n n) ∧ W.heap.size ≤ g ∧ Owns W' g (half n n) 3 ∧ Grew W W' := by
  obtain ⟨i0, hi, hz0, hz1, hz2⟩ := info_parts info_int
  have HM := Lib.hid (mul_ok n hn W)
  have hmk := run_make (P := Tryz.prog) W 22 3 i0 (.int .i64 0) Tryz.underlying22 hi hz0 .i64 .i64 (n : Int) (n : Int) (by omega) (by omega) (by rw [hz2]; omega) (by omega)
  obtain ⟨g, hg⟩ : ∃ g, W.heap.size = g := ⟨_, rfl⟩
  obtain ⟨w1, hw1⟩ : ∃ w1, W.alloc (.cells (madeCells (Value.int .i64 0).cells ((n : Int).toNat * i0.size)) 3) = w1 := ⟨_, rfl⟩
  have g1 : Grew W w1 := hw1 ▸ grew_alloc W _
  have h1 : w1.heap[W.heap.size]? = some (.cells (madeCells (Value.int .i64 0).cells ((n : Int).toNat * i0.size)) 3 (0, 0)) := by rw [← hw1]; exact heap_alloc_new W _
  have e2 : (n : Int).toNat = n := by omega
  rw [hw1, hg] at hmk
  rw [e2, hz1, Nat.mul_one] at h1
  rw [e2] at hmk
  have o1 : Owns w1 g (half 0 n) 3 := by
    unfold Owns
    rw [← hg, h1]
    have : (madeCells (Value.int .i64 0).cells n).toList = half 0 n := by
      rw [show (Value.int .i64 0).cells = #[Value.int .i64 0] from rfl, toList_madeCells_one]
      simp [half]
    rw [← this]
  have hxw := hx.keep g1
  obtain ⟨w2, hcp, o2, b2⟩ := run_copy_half o1 (Nat.zero_le n) ⟨xb, 0, none⟩ 1 1 n (fun j hj => by
    have : j = 0 := by omega
    subst this
    rw [padd_off]
    exact hxw.cell_at (i := 0) rfl) 3
  simp only [Nat.zero_add, Nat.sub_zero] at hcp o2
  obtain ⟨c0, hc0⟩ : ∃ c0, min 1 n = c0 := ⟨_, rfl⟩
  rw [hc0] at hcp o2
  have HC0 := Lib.hid hc0
  have HB2 := Lib.hid (b2 _ _ (Nat.le_of_eq hg) g1)
  have HCP := Lib.hid hcp
  have HO2 := Lib.hid o2
  have HG := Lib.hid hg
  have HN := Lib.hid hn
  have hcn : c0 ≤ n := by omega
  have hcp1 : 0 < n → 0 < c0 := fun h => by omega
  have HCP1 := Lib.hid hcp1
  have b5 : IntKind.u64.wrap (n : Int) = (n : Int) := by
    have : ∀ n : Nat, n ≤ 12 → IntKind.u64.wrap (n : Int) = (n : Int) := by decide
    exact this n hn
  have b6 : IntKind.i64.wrap (n : Int) = (n : Int) := wrap_small _ (by omega) (by omega)
  have b7 : ¬ (n : Int) > 9223372036854775807 := by omega
  clear hi hz0 hz1 hz2 hw1 g1 h1 e2 o1 hxw hx hcp o2 b2 hg hc0 hcp1
  go_enter Tryz.func16, Tryz.ntmps16
  go_wp2_with fail
  refine HM.out.mono ?_
  rintro e w ⟨rfl, rfl⟩
  have hcp := HCP.out
  clear HCP
  go_wp2_with fail
  clear hcp
  go_loopw [8] (fun c wr => ∃ k : Nat, c = .int .i64 k ∧ k ≤ n ∧ Hid (0 < n → 0 < k) ∧ Hid (Owns wr g (half k n) 3) ∧ Hid (Grew w wr)) (fun c _ => n - (intOf c).toNat)
  case atStart => exact ⟨c0, rfl, hcn, HCP1.out, HO2.out, HB2.out⟩
  case round =>
    obtain ⟨k, rfl, hk, HP, HO, HGW⟩ := hrel
    by_cases hlt : k < n
    · have hki : (k : Int) < (n : Int) := by omega
      have hki2 : (k : Int) ≤ (n : Int) := by omega
      have hk0 : 0 < k := HP.out (by omega)
      have hadd : IntKind.i64.wrap ((k : Int) + ((min k (n - k) : Nat) : Int)) = ((k + min k (n - k) : Nat) : Int) := by rw [wrap_small _ (by omega) (by omega)]; push_cast; rfl
      have hnext : k + min k (n - k) ≤ n ∧ k < k + min k (n - k) := by omega
      have HRUN : Hid (∀ w4, Grew wr w4 → ∃ w3, (Builtin.copy_ #[22, 22] 3 #[.slice (some ⟨g, k, none⟩) (n - k) (n - k), .slice (some ⟨g, 0, none⟩) k n]).run Tryz.prog w4 = .ok (.int .i64 ((min k (n - k) : Nat) : Int)) w3 ∧ Owns w3 g (half (k + min k (n - k)) n) 3 ∧ (∀ B W0, B ≤ g → Below B W0 w4 → Below B W0 w3)) := Lib.hid fun w4 hw =>
        run_copy_half (HO.out.keep hw) hk ⟨g, 0, none⟩ k n (n - k) (fun j hj => by rw [padd_off, Nat.zero_add, (HO.out.keep hw).cell, half_get (by omega)]) 3
      generalize hmin : min k (n - k) = d at *
      obtain ⟨t, ht⟩ : ∃ t, k + d = t := ⟨_, rfl⟩
      rw [ht] at hadd hnext HRUN
      clear hmin
      go_upto_region 9 with fail
      refine wp_region_hav_lit follows (by kernel_rfl) ?_
      iterate 7 (first
        | (refine HavG.skip (fun _ => rfl) ?_; simp only [Act.put, List.setIfInBounds_toArray, List.set_cons_zero, List.set_cons_succ])
        | (refine HavG.val (fun _ => rfl) ?_ (fun x w hw _ => ?_) ?_; rotate_left; (focus (clear hw; go_simp; first | done | rfl)); simp only [Act.put, List.setIfInBounds_toArray, List.set_cons_zero, List.set_cons_succ]))
      refine HavG.tail0 (by kernel_rfl) (by kernel_rfl) (by kernel_rfl) (fun _ _ d _ _ h => by cases d <;> exact h) (by decide) (fun x w4 hw hx => ?_)
      obtain ⟨w3, hcp, o3, b3⟩ := HRUN.out w4 hw
      have HO3 := Lib.hid o3
      have HG3 := Lib.hid (b3 _ _ (Nat.le_of_eq HG.out) (HGW.out.trans hw))
      clear hx hw o3 b3 HRUN
      go_wp2_with fail
      refine ⟨⟨t, rfl, hnext.1, fun _ => by omega, HO3.out, HG3.out⟩, by simp [intOf]; omega⟩
    · obtain rfl : k = n := by omega
      go_wp2_with fail
      go_ret
      exact ⟨g, rfl, Nat.le_of_eq HG.out, HO.out, HGW.out⟩
end Go.Proofs.YtgegjjfjhpokpaaGreatDoor
