/- Has, Least. -/
import Derived.Laws.IdiomCopy
import Derived.Test.YtoflfkffldpglaaGreatDoorQM11
namespace Go.Proofs.YtoflfkffldpglaaGreatDoor
open Go.RowKit
def HasIs (B : Bk) (r : Int) (wl : List Int) (W : World) (e : Ending) (W' : World) : Prop := ∃ b, e = .returned (.bool b) ∧ (b = true ↔ hasR B r = true ∧ wl.length ≤ 64 ∧ -2 ∉ wl ∧ B.D r.toNat wl) ∧ Grew W W'
set_option maxHeartbeats 4000000 in
set_option maxRecDepth 20000 in
theorem sHas_ok (B : Bk) (hG : B.Good) (r : Int) (V : BV) (bk lim : Nat) (wl : List Int) (hwl : wl.length ≤ reachN) (wv : Value) (W : World) (hB : BookAt W lim bk V B) (hT : IntsV W W.heap.size wv wl) :
    Calls Tryz.prog 9 #[.pointer (some ⟨bk, 0, none⟩), .int .i64 r, wv] W (HasIs B r wl W) := by
  have HH := Lib.hid (sbhas_ok B r V bk lim W hB)
  have HC := Lib.hid (containsInt_ok wl (-2) W wv hwl hT)
  have HB := Lib.hid hB
  have HT := Lib.hid hT
  obtain ⟨Q, hQ⟩ : ∃ Q, HasIs B r wl W = Q := ⟨_, rfl⟩
  have HF : Hid (∀ (b : Bool) w', (b = true ↔ hasR B r = true ∧ wl.length ≤ 64 ∧ -2 ∉ wl ∧ B.D r.toNat wl) → Grew W w' → Q (.returned (.bool b)) w') := Lib.hid fun b w' h1 h2 => by rw [← hQ]; exact ⟨b, rfl, h1, h2⟩
  rw [hQ]
  clear hQ
  have HG := Lib.hid hG
  obtain ⟨a, cap, rfl, -⟩ := hT
  obtain ⟨n, hn⟩ : ∃ n, wl.length = n := ⟨_, rfl⟩
  have HN := Lib.hid hn
  unfold reachN at hwl
  rw [hn] at hwl HC ⊢
  obtain ⟨cb, hcb⟩ : ∃ cb, (wl.any fun y => -2 == y) = cb := ⟨_, rfl⟩
  have HCB := Lib.hid hcb
  rw [hcb] at HC
  clear hB hn hcb hG
  cases hh : hasR B r with
  | false =>
    rw [hh] at HH
    have HHH := Lib.hid hh
    clear hh
    go_enter Tryz.func9, Tryz.ntmps9
    go_wp2_with fail
    refine HH.out.mono ?_
    rintro e w ⟨rfl, rfl⟩
    go_wp2_with fail
    show Q (.returned (.bool false)) w
    exact HF.out _ _ ⟨fun h => (by cases h), fun h => by rw [HHH.out] at h; exact absurd h.1 (by decide)⟩ (Grew.refl _)
  | true =>
    rw [hh] at HH
    have HHH := Lib.hid hh
    have hrr : ∃ k : Nat, r = k ∧ k < B.bodies.length := by
      unfold hasR at hh
      rw [Bool.and_eq_true, decide_eq_true_eq, decide_eq_true_eq] at hh
      obtain ⟨k, rfl⟩ := Int.eq_ofNat_of_zero_le hh.1
      exact ⟨k, rfl, by omega⟩
    clear hh
    by_cases h64 : n ≤ 64
    · have h64i : (n : Int) ≤ 64 := by omega
      cases cb with
      | true =>
        go_enter Tryz.func9, Tryz.ntmps9
        go_wp2_with fail
        refine HH.out.mono ?_
        rintro e w ⟨rfl, rfl⟩
        go_wp2_with fail
        refine HC.out.mono ?_
        rintro e w2 ⟨rfl, hg⟩
        have HG2 := Lib.hid hg
        clear hg
        go_wp2_with fail
        show Q (.returned (.bool false)) w2
        refine HF.out _ _ ⟨fun h => (by cases h), fun h => ?_⟩ HG2.out
        obtain ⟨x, hx, he⟩ := List.any_eq_true.1 HCB.out
        rw [beq_iff_eq] at he
        subst he
        exact absurd hx h.2.2.1
      | false =>
        obtain ⟨k, rfl, hk⟩ := hrr
        have HK := Lib.hid hk
        clear hk
        go_enter Tryz.func9, Tryz.ntmps9
        go_wp2_with fail
        refine HH.out.mono ?_
        rintro e w ⟨rfl, rfl⟩
        go_wp2_with fail
        refine HC.out.mono ?_
        rintro e w2 ⟨rfl, hg⟩
        have HG2 := Lib.hid hg
        have HD := Lib.hid (sderives_ok B HG.out k HK.out V bk lim wl (by rw [HN.out]; exact h64) _ w2 (HB.out.keep (hg.mono HB.out.low)) ((HT.out.keep hg).mono hg.size))
        rw [HN.out] at HD
        clear hg
        go_wp2_with fail
        refine HD.out.mono ?_
        rintro e w3 ⟨b, rfl, hb, hg⟩
        have HG3 := Lib.hid (HG2.out.trans hg)
        have HBB := Lib.hid hb
        clear hg hb
        go_wp2_with fail
        show Q (.returned (.bool b)) w3
        refine HF.out _ _ (HBB.out.trans ⟨fun h => ⟨HHH.out, by rw [HN.out]; exact h64, fun hm => ?_, h⟩, fun h => h.2.2.2⟩) HG3.out
        have := List.any_eq_false.1 HCB.out (-2) hm
        simp at this
    · have h64i : ¬ (n : Int) ≤ 64 := by omega
      go_enter Tryz.func9, Tryz.ntmps9
      go_wp2_with fail
      refine HH.out.mono ?_
      rintro e w ⟨rfl, rfl⟩
      go_wp2_with fail
      show Q (.returned (.bool false)) w
      exact HF.out _ _ ⟨fun h => (by cases h), fun h => absurd (by rw [← HN.out]; exact h.2.1) h64⟩ (Grew.refl _)
def Bk.leastL (B : Bk) (r : Int) : Option (List Int) :=
  if hasR B r then (match B.firsts[r.toNat]? with
    | some f => if f.long = -1 ∨ 256 < f.long then none else some f.w
    | none => none) else none
def LeastSIs (o : Option (List Int)) (W : World) (e : Ending) (W' : World) : Prop :=
  (match o with
    | none => e = .returned (.tuple #[.slice none 0 0, .bool false])
    | some l => ∃ u, e = .returned (.tuple #[u, .bool true]) ∧ looseRow W' W.heap.size 3 1 u l.length (intVs l)) ∧ Grew W W'
set_option maxHeartbeats 4000000 in
set_option maxRecDepth 20000 in
theorem sLeast_ok (B : Bk) (r : Int) (V : BV) (bk lim : Nat) (W : World) (hB : BookAt W lim bk V B) (hw : ∀ f ∈ B.firsts, f.w.length ≤ 1000) :
    Calls Tryz.prog 10 #[.pointer (some ⟨bk, 0, none⟩), .int .i64 r] W (LeastSIs (B.leastL r) W) := by
  have HH := Lib.hid (sbhas_ok B r V bk lim W hB)
  have c4 := hB.box.cell_at (i := 4) rfl
  have cl := hB.box.lt
  have hf := hB.firsts
  have hlow := hB.low
  have hlen := hB.few.2
  unfold Bk.leastL
  cases hh : hasR B r with
  | false =>
    rw [hh] at HH
    clear hf hw
    go_enter Tryz.func10, Tryz.ntmps10
    go_wp2_with fail
    refine HH.out.mono ?_
    rintro e w ⟨rfl, rfl⟩
    go_wp2_with fail
    go_ret2
    exact ⟨rfl, Grew.refl _⟩
  | true =>
    rw [hh] at HH
    unfold hasR at hh
    rw [Bool.and_eq_true, decide_eq_true_eq, decide_eq_true_eq] at hh
    obtain ⟨k, rfl⟩ := Int.eq_ofNat_of_zero_le hh.1
    have hk : k < B.firsts.length := by omega
    obtain ⟨b, off, e, hl, h1, v, h2, hrw, -⟩ := hf k hk
    have h3 := loose_ints hrw
    clear hrw
    rw [e] at c4
    have hl2 : b < W.heap.size := by omega
    have hi : (k : Int) < (B.firsts.length : Int) := by omega
    have hwk := hw _ (List.getElem_mem hk)
    have HCL := Lib.hid (cloneInt_ok _ W v (by omega) h3)
    rw [if_pos rfl, Int.toNat_natCast, List.getElem?_eq_getElem hk]
    dsimp only
    obtain ⟨fx, hfx⟩ : ∃ fx, B.firsts[k] = fx := ⟨_, rfl⟩
    rw [hfx] at h1 h3 HCL hwk ⊢
    obtain ⟨x, l⟩ := fx
    dsimp only at h1 h3 HCL hwk ⊢
    obtain ⟨va, vc, rfl, -⟩ := h3
    clear hf hfx hB e hlen hh hw hk
    generalize B.firsts.length = n at *
    by_cases hx1 : x = -1
    · subst hx1
      rw [if_pos (.inl rfl)]
      go_enter Tryz.func10, Tryz.ntmps10
      go_wp2_with fail
      refine HH.out.mono ?_
      rintro e w ⟨rfl, rfl⟩
      go_wp2_with fail
      go_ret2
      exact ⟨rfl, Grew.refl _⟩
    · have q1 : (x == -1) = false := beq_eq_false_iff_ne.2 hx1
      by_cases hx2 : 256 < x
      · rw [if_pos (.inr hx2)]
        go_enter Tryz.func10, Tryz.ntmps10
        go_wp2_with fail
        refine HH.out.mono ?_
        rintro e w ⟨rfl, rfl⟩
        go_wp2_with fail
        go_ret2
        exact ⟨rfl, Grew.refl _⟩
      · rw [if_neg (fun h => h.elim hx1 hx2)]
        go_enter Tryz.func10, Tryz.ntmps10
        go_wp2_with fail
        refine HH.out.mono ?_
        rintro e w ⟨rfl, rfl⟩
        go_wp2_with fail
        refine HCL.out.mono ?_
        rintro e w2 ⟨u, rfl, hr, hg⟩
        have HG2 := Lib.hid hg
        have HCP := Lib.hid (clipInt_ok w2 _ u l hr)
        clear hg hr
        go_wp2_with fail
        refine HCP.out.mono ?_
        rintro e w3 ⟨⟨u2, rfl, hr⟩, rfl⟩
        have HR := Lib.hid hr
        clear hr
        go_wp2_with fail
        go_ret2
        exact ⟨⟨u2, rfl, HR.out⟩, HG2.out⟩
end Go.Proofs.YtoflfkffldpglaaGreatDoor

/- math/bits.Mul of one and a small number. -/
namespace Go.Proofs.YtoflfkffldpglaaGreatDoor
open Go.RowKit
set_option maxHeartbeats 2000000 in
set_option maxRecDepth 20000 in
theorem mul64_ok (n : Nat) (hn : n ≤ 12) (W : World) : Calls Tryz.prog 75 #[.int .u64 1, .int .u64 (n : Int)] W fun e W' => e = .returned (.tuple #[.int .u64 0, .int .u64 (n : Int)]) ∧ W' = W := by
  have a1 : ∀ n : Nat, n ≤ 12 → bits .and .u64 (n : Int) 4294967295 = (n : Int) := by decide
  have b1 := a1 n hn
  have b2 : bits .and .u64 1 4294967295 = 1 := by decide
  have b3 : bits .and .u64 0 4294967295 = 0 := by decide
  have b4 : (n : Int) / 4294967296 = 0 := by omega
  have b5 : IntKind.u64.wrap (n : Int) = (n : Int) := by
    have : ∀ n : Nat, n ≤ 12 → IntKind.u64.wrap (n : Int) = (n : Int) := by decide
    exact this n hn
  clear a1
  go_enter Tryz.func75, Tryz.ntmps75
  go_wp2_with fail
  go_ret2
  exact ⟨rfl, rfl⟩
theorem mul_ok (n : Nat) (hn : n ≤ 12) (W : World) : Calls Tryz.prog 56 #[.int .u64 1, .int .u64 (n : Int)] W fun e W' => e = .returned (.tuple #[.int .u64 0, .int .u64 (n : Int)]) ∧ W' = W := by
  have HC := Lib.hid (mul64_ok n hn W)
  have b5 : IntKind.u64.wrap (n : Int) = (n : Int) := by
    have : ∀ n : Nat, n ≤ 12 → IntKind.u64.wrap (n : Int) = (n : Int) := by decide
    exact this n hn
  go_enter Tryz.func56, Tryz.ntmps56
  go_wp2_with fail
  refine HC.out.mono ?_
  rintro e w ⟨rfl, rfl⟩
  go_wp2_with fail
  go_ret2
  exact ⟨rfl, rfl⟩
end Go.Proofs.YtoflfkffldpglaaGreatDoor

/- slices.Repeat of one number. -/
namespace Go.Proofs.YtoflfkffldpglaaGreatDoor
open Go.RowKit
def wrAt (cs : List Value) : Nat → List Value → List Value
  | _, [] => cs
  | o, v :: r => wrAt (cs.set o v) (o + 1) r
theorem Owns.setCells {b T : Nat} : ∀ (vs : List Value) (o : Nat) (W : World) (cs : List Value), Owns W b cs T → Owns (W.setCells b o vs) b (wrAt cs o vs) T
  | [], _, _, _, h => h
  | v :: r, o, _, _, h => Owns.setCells r (o + 1) _ _ (h.set o v)
theorem setCells_below {b B : Nat} (hb : B ≤ b) : ∀ (vs : List Value) (o : Nat) (W W0 : World), Below B W0 W → Below B W0 (W.setCells b o vs)
  | [], _, _, _, h => h
  | _ :: r, o, _, _, h => setCells_below hb r (o + 1) _ _ (h.setCell hb _)
def half (c n : Nat) : List Value := List.replicate c (.int .i64 (-2)) ++ List.replicate (n - c) (.int .i64 0)
theorem half_len {c n : Nat} (h : c ≤ n) : (half c n).length = n := by simp [half]; omega
theorem half_set {c n : Nat} (h : c < n) : (half c n).set c (.int .i64 (-2)) = half (c + 1) n := by
  apply List.ext_getElem?
  intro i
  unfold half
  rw [List.getElem?_set]
  simp only [List.length_append, List.length_replicate]
  by_cases e : c = i
  · subst e
    rw [if_pos rfl, if_pos (by omega), List.getElem?_append_left (by simp), List.getElem?_replicate, if_pos (by omega)]
  · rw [if_neg e]
    by_cases hi : i < c
    · rw [List.getElem?_append_left (by simp; omega), List.getElem?_append_left (by simp; omega), List.getElem?_replicate, List.getElem?_replicate, if_pos hi, if_pos (by omega)]
    · rw [List.getElem?_append_right (by simp; omega), List.getElem?_append_right (by simp; omega), List.getElem?_replicate, List.getElem?_replicate]
      simp only [List.length_replicate]
      by_cases h2 : i < n
      · rw [if_pos (by omega), if_pos (by omega)]
      · rw [if_neg (by omega), if_neg (by omega)]
theorem half_wr : ∀ {k c n : Nat}, c + k ≤ n → wrAt (half c n) c (List.replicate k (.int .i64 (-2))) = half (c + k) n
  | 0, c, n, _ => rfl
  | k + 1, c, n, h => by
    rw [List.replicate_succ, wrAt, half_set (by omega), half_wr (by omega), show c + 1 + k = c + (k + 1) by omega]
theorem half_get {c n i : Nat} (h : i < c) : (half c n)[i]? = some (.int .i64 (-2)) := by
  unfold half
  rw [List.getElem?_append_left (by simp; omega), List.getElem?_replicate, if_pos h]
theorem rep_one (k : Nat) : ∀ u ∈ List.replicate k (Value.int .i64 (-2)), u.oneCell' = true := by
  intro u hu
  rw [List.eq_of_mem_replicate hu]; rfl
theorem run_copy_half {w : World} {g c n : Nat} (h : Owns w g (half c n) 3) (hc : c ≤ n) (src : Addr) (sl sc dc : Nat) (hsrc : ∀ j, j < min sl (n - c) → w.cell? (src.add j) = some (.int .i64 (-2))) (ty : TypeId) :
    ∃ w', (Builtin.copy_ #[27, 27] ty #[.slice (some ⟨g, c, none⟩) (n - c) dc, .slice (some src) sl sc]).run Tryz.prog w = .ok (.int .i64 ((min sl (n - c) : Nat) : Int)) w' ∧ Owns w' g (half (c + min sl (n - c)) n) 3 ∧ (∀ B W0, B ≤ g → Below B W0 w → Below B W0 w') := by
  obtain ⟨i0, hi, hz0, hz1, hz2⟩ := info_parts info_int
  have hl : (List.replicate (min sl (n - c)) (Value.int .i64 (-2))).length = min sl (n - c) := by simp
  have hr := run_copy_cells (P := Tryz.prog) w 27 27 ty 3 g c (n - c) dc src sl sc (List.replicate (min sl (n - c)) (.int .i64 (-2))) Tryz.underlying27 (by rw [hi]; simp [hz1]) (by rw [hl]) (fun j v hj => by
    obtain ⟨h1, h2⟩ := List.getElem?_eq_some_iff.1 hj
    rw [hl] at h1
    rw [List.getElem_replicate] at h2
    rw [← h2]
    exact hsrc j h1) (fun j hj => by
    rw [hl] at hj
    rw [h.cell]
    have := half_len hc
    rw [List.getElem?_eq_getElem (by omega)]; rfl) (fun j _ => h.free _) (rep_one _)
  rw [hl] at hr
  refine ⟨_, hr, ?_, fun B W0 hB hb => setCells_below hB _ _ _ _ hb⟩
  have := h.setCells (List.replicate (min sl (n - c)) (.int .i64 (-2))) c
  rw [half_wr (by omega)] at this
  exact this
set_option maxHeartbeats 4000000 in
set_option maxRecDepth 20000 in
theorem repeat_ok (n : Nat) (hn : n ≤ 12) (W : World) (xb : Nat) (hx : Owns W xb [.int .i64 (-2)] 3) :
    Calls Tryz.prog 35 #[.slice (some ⟨xb, 0, none⟩) 1 1, .int .i64 (n : Int)] W fun e W' => ∃ g, e = .returned (.slice (some ⟨g, 0, none⟩) n n) ∧ W.heap.size ≤ g ∧ Owns W' g (half n n) 3 ∧ Grew W W' := by
  obtain ⟨i0, hi, hz0, hz1, hz2⟩ := info_parts info_int
  have HM := Lib.hid (mul_ok n hn W)
  have hmk := run_make (P := Tryz.prog) W 27 3 i0 (.int .i64 0) Tryz.underlying27 hi hz0 .i64 .i64 (n : Int) (n : Int) (by omega) (by omega) (by rw [hz2]; omega) (by omega)
  obtain ⟨g, hg⟩ : ∃ g, W.heap.size = g := ⟨_, rfl⟩
  obtain ⟨w1, hw1⟩ : ∃ w1, W.alloc (.cells (madeCells (Value.int .i64 0).cells ((n : Int).toNat * i0.size)) 3) = w1 := ⟨_, rfl⟩
  have g1 : Grew W w1 := hw1 ▸ grew_alloc W _
  have h1 : w1.heap[W.heap.size]? = some (.cells (madeCells (Value.int .i64 0).cells ((n : Int).toNat * i0.size)) 3 (0, 0)) := by rw [← hw1]; exact heap_alloc_new W _
  have e2 : (n : Int).toNat = n := by omega
  rw [hw1, hg] at hmk
  rw [e2, hz1, Nat.mul_one] at h1
  rw [e2] at hmk
  have o1 : Owns w1 g (half 0 n) 3 := by
    unfold Owns
    rw [← hg, h1]
    have : (madeCells (Value.int .i64 0).cells n).toList = half 0 n := by
      rw [show (Value.int .i64 0).cells = #[Value.int .i64 0] from rfl, toList_madeCells_one]
      simp [half]
    rw [← this]
  have hxw := hx.keep g1
  obtain ⟨w2, hcp, o2, b2⟩ := run_copy_half o1 (Nat.zero_le n) ⟨xb, 0, none⟩ 1 1 n (fun j hj => by
    have : j = 0 := by omega
    subst this
    rw [padd_off]
    exact hxw.cell_at (i := 0) rfl) 3
  simp only [Nat.zero_add, Nat.sub_zero] at hcp o2
  obtain ⟨c0, hc0⟩ : ∃ c0, min 1 n = c0 := ⟨_, rfl⟩
  rw [hc0] at hcp o2
  have HC0 := Lib.hid hc0
  have HB2 := Lib.hid (b2 _ _ (Nat.le_of_eq hg) g1)
  have HCP := Lib.hid hcp
  have HO2 := Lib.hid o2
  have HG := Lib.hid hg
  have HN := Lib.hid hn
  have hcn : c0 ≤ n := by omega
  have hcp1 : 0 < n → 0 < c0 := fun h => by omega
  have HCP1 := Lib.hid hcp1
  have b5 : IntKind.u64.wrap (n : Int) = (n : Int) := by
    have : ∀ n : Nat, n ≤ 12 → IntKind.u64.wrap (n : Int) = (n : Int) := by decide
    exact this n hn
  have b6 : IntKind.i64.wrap (n : Int) = (n : Int) := wrap_small _ (by omega) (by omega)
  have b7 : ¬ (n : Int) > 9223372036854775807 := by omega
  clear hi hz0 hz1 hz2 hw1 g1 h1 e2 o1 hxw hx hcp o2 b2 hg hc0 hcp1
  go_enter Tryz.func35, Tryz.ntmps35
  go_wp2_with fail
  refine HM.out.mono ?_
  rintro e w ⟨rfl, rfl⟩
  have hcp := HCP.out
  clear HCP
  go_wp2_with fail
  clear hcp
  go_loopw [8] (fun c wr => ∃ k : Nat, c = .int .i64 k ∧ k ≤ n ∧ Hid (0 < n → 0 < k) ∧ Hid (Owns wr g (half k n) 3) ∧ Hid (Grew w wr)) (fun c _ => n - (intOf c).toNat)
  case atStart => exact ⟨c0, rfl, hcn, HCP1.out, HO2.out, HB2.out⟩
  case round =>
    obtain ⟨k, rfl, hk, HP, HO, HGW⟩ := hrel
    by_cases hlt : k < n
    · have hki : (k : Int) < (n : Int) := by omega
      have hki2 : (k : Int) ≤ (n : Int) := by omega
      have hk0 : 0 < k := HP.out (by omega)
      have hadd : IntKind.i64.wrap ((k : Int) + ((min k (n - k) : Nat) : Int)) = ((k + min k (n - k) : Nat) : Int) := by rw [wrap_small _ (by omega) (by omega)]; push_cast; rfl
      have hnext : k + min k (n - k) ≤ n ∧ k < k + min k (n - k) := by omega
      have HRUN : Hid (∀ w4, Grew wr w4 → ∃ w3, (Builtin.copy_ #[27, 27] 3 #[.slice (some ⟨g, k, none⟩) (n - k) (n - k), .slice (some ⟨g, 0, none⟩) k n]).run Tryz.prog w4 = .ok (.int .i64 ((min k (n - k) : Nat) : Int)) w3 ∧ Owns w3 g (half (k + min k (n - k)) n) 3 ∧ (∀ B W0, B ≤ g → Below B W0 w4 → Below B W0 w3)) := Lib.hid fun w4 hw =>
        run_copy_half (HO.out.keep hw) hk ⟨g, 0, none⟩ k n (n - k) (fun j hj => by rw [padd_off, Nat.zero_add, (HO.out.keep hw).cell, half_get (by omega)]) 3
      generalize hmin : min k (n - k) = d at *
      obtain ⟨t, ht⟩ : ∃ t, k + d = t := ⟨_, rfl⟩
      rw [ht] at hadd hnext HRUN
      clear hmin
      go_upto_region 9 with fail
      refine wp_region_hav_lit follows (by kernel_rfl) ?_
      iterate 7 (first
        | (refine HavG.skip (fun _ => rfl) ?_; simp only [Act.put, List.setIfInBounds_toArray, List.set_cons_zero, List.set_cons_succ])
        | (refine HavG.val (fun _ => rfl) ?_ (fun x w hw _ => ?_) ?_; rotate_left; (focus (clear hw; go_simp; first | done | rfl)); simp only [Act.put, List.setIfInBounds_toArray, List.set_cons_zero, List.set_cons_succ]))
      refine HavG.tail0 (by kernel_rfl) (by kernel_rfl) (by kernel_rfl) (fun _ _ d _ _ h => by cases d <;> exact h) (by decide) (fun x w4 hw hx => ?_)
      obtain ⟨w3, hcp, o3, b3⟩ := HRUN.out w4 hw
      have HO3 := Lib.hid o3
      have HG3 := Lib.hid (b3 _ _ (Nat.le_of_eq HG.out) (HGW.out.trans hw))
      clear hx hw o3 b3 HRUN
      go_wp2_with fail
      refine ⟨⟨t, rfl, hnext.1, fun _ => by omega, HO3.out, HG3.out⟩, by simp [intOf]; omega⟩
    · obtain rfl : k = n := by omega
      go_wp2_with fail
      go_ret
      exact ⟨g, rfl, Nat.le_of_eq HG.out, HO.out, HGW.out⟩
end Go.Proofs.YtoflfkffldpglaaGreatDoor

/- Rows of rows of integers that a call made; fill, plain. -/
namespace Go.Proofs.YtoflfkffldpglaaGreatDoor
open Go.RowKit
theorem But.grown {F : Nat → Prop} {w w' : World} {row : Option Nat} (h : w.grownBy w' row) (hF : ∀ k, row = some k → F k) : But F w w' :=
  ⟨h.os, h.tape, h.output, h.size, fun k hk hn => h.block k hk fun e => hn (hF k e.symm)⟩
theorem But.row {F : Nat → Prop} {w w' : World} {base : Nat} {e : TypeId} {size : Nat} {v : Value} {n : Nat} {xs : List Value} (h : But F w w') (hr : looseRow w base e size v n xs) (hn : ∀ k, v.ownBlock = some k → ¬F k) : looseRow w' base e size v n xs := by
  refine ⟨hr.1, hr.2.imp id ?_⟩
  rintro ⟨g, cap, cur, rfl, h2, h3, h4⟩
  exact ⟨g, cap, cur, rfl, h2, by rw [h.block g (Array.getElem?_eq_some_iff.1 h3).1 (hn g rfl)]; exact h3, h4⟩
theorem row_type {w : World} {base : Nat} {e : TypeId} {size : Nat} {v : Value} {n : Nat} {xs : List Value} (hr : looseRow w base e size v n xs) {k : Nat} (hk : v.ownBlock = some k) : base ≤ k ∧ k < w.heap.size ∧ ∃ cur, w.heap[k]? = some (.cells cur e (0, 0)) := by
  rcases hr.2 with ⟨rfl, _⟩ | ⟨g, cap, cur, rfl, h2, h3, _⟩
  · simp [Value.ownBlock] at hk
  · simp only [Value.ownBlock, Option.some.injEq] at hk
    subst hk
    exact ⟨h2, (Array.getElem?_eq_some_iff.1 h3).1, cur, h3⟩
theorem owns_type {w : World} {b T : Nat} {cs : List Value} (h : Owns w b cs T) : ∃ cur, w.heap[b]? = some (.cells cur T (0, 0)) := ⟨_, h⟩
theorem type_ne {w : World} {b c T U : Nat} (h : ∃ cur, w.heap[b]? = some (.cells cur T (0, 0))) (k : ∃ cur, w.heap[c]? = some (.cells cur U (0, 0))) (hT : T ≠ U) : b ≠ c := by
  rintro rfl
  obtain ⟨x, hx⟩ := h
  obtain ⟨y, hy⟩ := k
  rw [hx] at hy
  simp only [Option.some.injEq, Obj.cells.injEq] at hy
  exact hT hy.2.1
theorem looseRow.weak {w : World} {base b2 e size k : Nat} {v : Value} {xs : List Value} (h : looseRow w base e size v k xs) (hb : b2 ≤ base) : looseRow w b2 e size v k xs := by
  refine ⟨h.1, h.2.imp id ?_⟩
  rintro ⟨b, cap, cur, h1, h2, h3⟩
  exact ⟨b, cap, cur, h1, Nat.le_trans hb h2, h3⟩
def OutU (W : World) (base wb : Nat) (v : Value) (L : List (List Int)) (us : List Value) : Prop := us.length = L.length ∧ looseRow W base 27 1 v L.length us ∧ v.ownBlock ≠ some wb ∧
  ∀ (i : Nat) u l, us[i]? = some u → L[i]? = some l → looseRow W base 3 1 u l.length (intVs l) ∧ u.ownBlock ≠ some wb
def OutAt (W : World) (base wb : Nat) (v : Value) (L : List (List Int)) : Prop := ∃ us : List Value, OutU W base wb v L us
theorem OutAt.nil (W : World) (base wb : Nat) : OutAt W base wb (.slice none 0 0) [] := ⟨[], rfl, ⟨rfl, .inl ⟨rfl, rfl⟩⟩, by simp [Value.ownBlock], fun i u l h => by simp at h⟩
theorem OutAt.form {W : World} {base wb : Nat} {v : Value} {L : List (List Int)} (h : OutAt W base wb v L) : ∃ a c, v = .slice a L.length c := by
  obtain ⟨us, _, h2, _⟩ := h
  exact loose_form h2
theorem OutAt.keep {W W' : World} {base wb : Nat} {v : Value} {L : List (List Int)} (h : OutAt W base wb v L) (hb : But (fun q => q = wb) W W') : OutAt W' base wb v L := by
  obtain ⟨us, h1, h2, h3, h4⟩ := h
  refine ⟨us, h1, hb.row h2 (fun k hk e => h3 (by rw [hk, e])), h3, fun i u l hu hl => ?_⟩
  obtain ⟨h5, h6⟩ := h4 i u l hu hl
  exact ⟨hb.row h5 (fun k hk e => h6 (by rw [hk, e])), h6⟩
theorem OutU.push {W W' : World} {base wb : Nat} {v v' u : Value} {L : List (List Int)} {us : List Value} {l : List Int} (h : OutU W base wb v L us) (hg : W.grownBy W' v.ownBlock) (hu : looseRow W base 3 1 u l.length (intVs l)) (huw : u.ownBlock ≠ some wb) (hwb : wb < W.heap.size)
    (hv : looseRow W' base 27 1 v' (L.length + 1) (us ++ [u])) (hown : v'.ownBlock = v.ownBlock ∨ ∃ g, v'.ownBlock = some g ∧ W.heap.size ≤ g) : OutAt W' base wb v' (L ++ [l]) := by
  obtain ⟨h1, h2, h3, h4⟩ := h
  have hb : But (fun k => v.ownBlock = some k) W W' := But.grown hg fun _ e => e
  have hne : ∀ {x : Value} {n : Nat} {xs : List Value}, looseRow W base 3 1 x n xs → ∀ k, x.ownBlock = some k → ¬ v.ownBlock = some k := fun hx k hk e =>
    type_ne (row_type hx hk).2.2 (row_type h2 e).2.2 (by decide) rfl
  refine ⟨us ++ [u], by simp [h1], by rw [List.length_append, List.length_singleton]; exact hv, ?_, fun i x y hx hy => ?_⟩
  · rcases hown with e | ⟨g, e, hg⟩
    · rw [e]; exact h3
    · rw [e]
      intro e'
      rw [Option.some.inj e'] at hg
      omega
  · by_cases hi : i < us.length
    · rw [List.getElem?_append_left hi] at hx
      rw [List.getElem?_append_left (by omega)] at hy
      obtain ⟨h5, h6⟩ := h4 i x y hx hy
      exact ⟨hb.row h5 (hne h5), h6⟩
    · have hil : i = us.length := by
        have := (List.getElem?_eq_some_iff.1 hx).1
        simp at this
        omega
      subst hil
      rw [List.getElem?_append_right (Nat.le_refl _), Nat.sub_self] at hx
      rw [h1, List.getElem?_append_right (Nat.le_refl _), Nat.sub_self] at hy
      cases hx
      cases hy
      exact ⟨hb.row hu (hne hu), huw⟩
/-! ### fill, plain -/
def fillF (db : List Int → Bool) (K : List Int) (many : Nat) : Nat → List Int → List (List Int) → List (List Int)
  | 0, p, out => out ++ [p]
  | d + 1, p, out => K.foldl (fun o t => if decide (o.length ≤ many) && db (p ++ t :: List.replicate d (-2)) then fillF db K many d (p ++ [t]) o else o) out
def fillS (db : List Int → Bool) (K : List Int) (many d : Nat) (p : List Int) (o : List (List Int)) (t : Int) : List (List Int) :=
  if decide (o.length ≤ many) && db (p ++ t :: List.replicate d (-2)) then fillF db K many d (p ++ [t]) o else o
theorem fillF_succ (db : List Int → Bool) (K : List Int) (many d : Nat) (p : List Int) (out : List (List Int)) : fillF db K many (d + 1) p out = K.foldl (fillS db K many d p) out := rfl
theorem foldl_few {β : Type} (f : List (List Int) → β → List (List Int)) (many : Nat) (hf : ∀ o t, o.length ≤ many + 1 → (f o t).length ≤ many + 1) : ∀ (K : List β) (o : List (List Int)), o.length ≤ many + 1 → (K.foldl f o).length ≤ many + 1
  | [], _, h => h
  | t :: K, o, h => foldl_few f many hf K _ (hf o t h)
theorem fillF_few (db : List Int → Bool) (K : List Int) (many : Nat) : ∀ (d : Nat) (p : List Int) (out : List (List Int)), out.length ≤ many → (fillF db K many d p out).length ≤ many + 1
  | 0, p, out, h => by simp [fillF]; omega
  | d + 1, p, out, h => by
    rw [fillF_succ]
    refine foldl_few _ _ (fun o t ho => ?_) K out (by omega)
    unfold fillS
    split
    · rename_i hc
      rw [Bool.and_eq_true, decide_eq_true_eq] at hc
      exact fillF_few db K many d _ _ hc.1
    · exact ho
theorem foldl_take {β : Type} (f : List (List Int) → β → List (List Int)) (K : List β) (o : List (List Int)) (j : Nat) (h : j < K.length) : (K.take (j + 1)).foldl f o = f ((K.take j).foldl f o) K[j] := by
  rw [List.take_succ_eq_append_getElem h, List.foldl_append]; rfl
noncomputable def Bk.dB (B : Bk) (r : Nat) (w : List Int) : Bool := @decide (B.D r w) (Classical.propDecidable _)
theorem Bk.dB_iff {B : Bk} {r : Nat} {w : List Int} {b : Bool} (h : b = true ↔ B.D r w) : b = B.dB r w := by
  unfold Bk.dB
  rw [Bool.eq_iff_iff, h]
  simp
theorem owns_ints {w : World} {b T cap : Nat} {l : List Int} (h : Owns w b (intVs l) T) : IntsV w w.heap.size (.slice (some ⟨b, 0, none⟩) l.length cap) l :=
  ⟨_, _, rfl, fun k hk => ⟨b, 0, rfl, h.lt, by rw [Nat.zero_add]; exact h.cell_at (by simp [intVs, hk])⟩⟩
end Go.Proofs.YtoflfkffldpglaaGreatDoor
