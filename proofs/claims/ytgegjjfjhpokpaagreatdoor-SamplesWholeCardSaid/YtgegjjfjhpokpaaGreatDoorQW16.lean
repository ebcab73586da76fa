/- Rows of rows of integers that a call made; fill, plain. -/
import Derived.Test.YtgegjjfjhpokpaaGreatDoorQW15
namespace Go.Proofs.YtgegjjfjhpokpaaGreatDoor
open Go.RowKit

theorem But.grown {F : Nat → Prop} {w w' : World} {row : Option Nat} (h : w.grownBy w' row) (hF : ∀ k, row = some k → F k) : But F w w' :=
  ⟨h.os, h.tape, h.output, h.size, fun k hk hn => h.block k hk fun e => hn (hF k e.symm)⟩
theorem But.row {F : Nat → Prop} {w w' : World} {base : Nat} {e : TypeId} {size : Nat} {v : Value} {n : Nat} {xs : List Value} (h : But F w w') (hr : looseRow w base e size v n xs) (hn : ∀ k, v.ownBlock = some k → ¬F k) : looseRow w' base e size v n xs := by
  refine ⟨hr.1, hr.2.imp id ?_⟩
  rintro ⟨g, cap, cur, rfl, h2, h3, h4⟩
  exact ⟨g, cap, cur, rfl, h2, by rw [h.block g (Array.getElem?_eq_some_iff.1 h3).1 (hn g rfl)]; exact h3, h4⟩
theorem row_type {w : World} {base : Nat} {e : TypeId} {size : Nat} {v : Value} {n : Nat} {xs : List Value} (hr : looseRow w base e size v n xs) {k : Nat} (hk : v.ownBlock = some k) : base ≤ k ∧ k < w.heap.size ∧ ∃ cur, w.heap[k]? = some (.cells cur e (0, 0)) := by
  rcases hr.2 with ⟨rfl, _⟩ | ⟨g, cap, cur, rfl, h2, h3, _⟩
  · simp [Value.ownBlock] at hk
  · simp only [Value.ownBlock, Option.some.injEq] at hk
    subst hk
    exact ⟨h2, (Array.getElem?_eq_some_iff.1 h3).1, cur, h3⟩
theorem owns_type {w : World} {b T : Nat} {cs : List Value} (h : Owns w b cs T) : ∃ cur, w.heap[b]? = some (.cells cur T (0, 0)) := ⟨_, h⟩
theorem type_ne {w : World} {b c T U : Nat} (h : ∃ cur, w.heap[b]? = some (.cells cur T (0, 0))) (k : ∃ cur, w.heap[c]? = some (.cells cur U (0, 0))) (hT : T ≠ U) : b ≠ c := by
  rintro rfl
  obtain ⟨x, hx⟩ := h
  obtain ⟨y, hy⟩ := k
  rw [hx] at hy
  simp only [Option.some.injEq, Obj.cells.injEq] at hy
  exact hT hy.2.1
theorem looseRow.weak {w : World} {base b2 e size k : Nat} {v : Value} {xs : List Value} (h : looseRow w base e size v k xs) (hb : b2 ≤ base) : looseRow w b2 e size v k xs := by
  refine ⟨h.1, h.2.imp id ?_⟩
  rintro ⟨b, cap, cur, h1, h2, h3⟩
  exact ⟨b, cap, cur, h1, Nat.le_trans hb h2, h3⟩
/-- rows of integers, none of them at wb -/
def OutU (W : World) (base wb : Nat) (v : Value) (L : List (List Int)) (us : List Value) : Prop := us.length = L.length ∧ looseRow W base 22 1 v L.length us ∧ v.ownBlock ≠ some wb ∧
  ∀ (i : Nat) u l, us[i]? = some u → L[i]? = some l → looseRow W base 3 1 u l.length (intVs l) ∧ u.ownBlock ≠ some wb
def OutAt (W : World) (base wb : Nat) (v : Value) (L : List (List Int)) : Prop := ∃ us : List Value, OutU W base wb v L us
theorem OutAt.nil (W : World) (base wb : Nat) : OutAt W base wb (.slice none 0 0) [] := ⟨[], rfl, ⟨rfl, .inl ⟨rfl, rfl⟩⟩, by simp [Value.ownBlock], fun i u l h => by simp at h⟩
theorem OutAt.form {W : World} {base wb : Nat} {v : Value} {L : List (List Int)} (h : OutAt W base wb v L) : ∃ a c, v = .slice a L.length c := by
  obtain ⟨us, _, h2, _⟩ := h
  exact loose_form h2
/-- what leaves all blocks from base on but wb as they are -/
theorem OutAt.keep {W W' : World} {base wb : Nat} {v : Value} {L : List (List Int)} (h : OutAt W base wb v L) (hb : But (fun q => q = wb) W W') : OutAt W' base wb v L := by
  obtain ⟨us, h1, h2, h3, h4⟩ := h
  refine ⟨us, h1, hb.row h2 (fun k hk e => h3 (by rw [hk, e])), h3, fun i u l hu hl => ?_⟩
  obtain ⟨h5, h6⟩ := h4 i u l hu hl
  exact ⟨hb.row h5 (fun k hk e => h6 (by rw [hk, e])), h6⟩
/-- one more is put behind -/
theorem OutU.push {W W' : World} {base wb : Nat} {v v' u : Value} {L : List (List Int)} {us : List Value} {l : List Int} (h : OutU W base wb v L us) (hg : W.grownBy W' v.ownBlock) (hu : looseRow W base 3 1 u l.length (intVs l)) (huw : u.ownBlock ≠ some wb) (hwb : wb < W.heap.size)
    (hv : looseRow W' base 22 1 v' (L.length + 1) (us ++ [u])) (hown : v'.ownBlock = v.ownBlock ∨ ∃ g, v'.ownBlock = some g ∧ W.heap.size ≤ g) : OutAt W' base wb v' (L ++ [l]) := by
  obtain ⟨h1, h2, h3, h4⟩ := h
  have hb : But (fun k => v.ownBlock = some k) W W' := But.grown hg fun _ e => e
  have hne : ∀ {x : Value} {n : Nat} {xs : List Value}, looseRow W base 3 1 x n xs → ∀ k, x.ownBlock = some k → ¬ v.ownBlock = some k := fun hx k hk e =>
    type_ne (row_type hx hk).2.2 (row_type h2 e).2.2 (by decide) rfl
  refine ⟨us ++ [u], by simp [h1], by rw [List.length_append, List.length_singleton]; exact hv, ?_, fun i x y hx hy => ?_⟩
  · rcases hown with e | ⟨g, e, hg⟩
    · rw [e]; exact h3
    · rw [e]
      intro e'
      rw [Option.some.inj e'] at hg
      omega
  · by_cases hi : i < us.length
    · rw [List.getElem?_append_left hi] at hx
      rw [List.getElem?_append_left (by omega)] at hy
      obtain ⟨h5, h6⟩ := h4 i x y hx hy
      exact ⟨hb.row h5 (hne h5), h6⟩
    · have hil : i = us.length := by
        have := (List.getElem?_eq_some_iff.1 hx).1
        simp at this
        omega
      subst hil
      rw [List.getElem?_append_right (Nat.le_refl _), Nat.sub_self] at hx
      rw [h1, List.getElem?_append_right (Nat.le_refl _), Nat.sub_self] at hy
      cases hx
      cases hy
      exact ⟨hb.row hu (hne hu), huw⟩

/-! ### fill, plain -/
def fillF (db : List Int → Bool) (K : List Int) (many : Nat) : Nat → List Int → List (List Int) → List (List Int)
  | 0, p, out => out ++ [p]
  | d + 1, p, out => K.foldl (fun o t => if decide (o.length ≤ many) && db (p ++ t :: List.replicate d (-2)) then fillF db K many d (p ++ [t]) o else o) out
def fillS (db : List Int → Bool) (K : List Int) (many d : Nat) (p : List Int) (o : List (List Int)) (t : Int) : List (List Int) :=
  if decide (o.length ≤ many) && db (p ++ t :: List.replicate d (-2)) then fillF db K many d (p ++ [t]) o else o
theorem fillF_succ (db : List Int → Bool) (K : List Int) (many d : Nat) (p : List Int) (out : List (List Int)) : fillF db K many (d + 1) p out = K.foldl (fillS db K many d p) out := rfl
theorem foldl_few {β : Type} (f : List (List Int) → β → List (List Int)) (many : Nat) (hf : ∀ o t, o.length ≤ many + 1 → (f o t).length ≤ many + 1) : ∀ (K : List β) (o : List (List Int)), o.length ≤ many + 1 → (K.foldl f o).length ≤ many + 1
  | [], _, h => h
  | t :: K, o, h => foldl_few f many hf K _ (hf o t h)
theorem fillF_few (db : List Int → Bool) (K : List Int) (many : Nat) : ∀ (d : Nat) (p : List Int) (out : List (List Int)), out.length ≤ many → (fillF db K many d p out).length ≤ many + 1
  | 0, p, out, h => by simp [fillF]; omega
  | d + 1, p, out, h => by
    rw [fillF_succ]
    refine foldl_few _ _ (fun o t ho => ?_) K out (by omega)
    unfold fillS
    split
    · rename_i hc
      rw [Bool.and_eq_true, decide_eq_true_eq] at hc
      exact fillF_few db K many d _ _ hc.1
    · exact ho
theorem fillS_few (db : List Int → Bool) (K : List Int) (many d : Nat) (p : List Int) (o : List (List Int)) (t : Int) (h : o.length ≤ many + 1) : (fillS db K many d p o t).length ≤ many + 1 := by
  unfold fillS
  split
  · rename_i hc
    rw [Bool.and_eq_true, decide_eq_true_eq] at hc
    exact fillF_few db K many d _ _ hc.1
  · exact h
theorem foldl_take {β : Type} (f : List (List Int) → β → List (List Int)) (K : List β) (o : List (List Int)) (j : Nat) (h : j < K.length) : (K.take (j + 1)).foldl f o = f ((K.take j).foldl f o) K[j] := by
  rw [List.take_succ_eq_append_getElem h, List.foldl_append]; rfl
noncomputable def Bk.dB (B : Bk) (r : Nat) (w : List Int) : Bool := @decide (B.D r w) (Classical.propDecidable _)
theorem Bk.dB_iff {B : Bk} {r : Nat} {w : List Int} {b : Bool} (h : b = true ↔ B.D r w) : b = B.dB r w := by
  unfold Bk.dB
  rw [Bool.eq_iff_iff, h]
  simp
theorem owns_ints {w : World} {b T cap : Nat} {l : List Int} (h : Owns w b (intVs l) T) : IntsV w w.heap.size (.slice (some ⟨b, 0, none⟩) l.length cap) l :=
  ⟨_, _, rfl, fun k hk => ⟨b, 0, rfl, h.lt, by rw [Nat.zero_add]; exact h.cell_at (by simp [intVs, hk])⟩⟩
end Go.Proofs.YtgegjjfjhpokpaaGreatDoor

/- fill. -/
namespace Go.Proofs.YtgegjjfjhpokpaaGreatDoor
open Go.RowKit

theorem info_ints27 : (Tryz.prog.info? 22).map (fun i => (i.zero, i.size, i.bytes)) = some (some (.slice none 0 0), 1, 24) := by kernel_rfl
def FillIs (lim wb : Nat) (L : List (List Int)) (cs : List Value) (W : World) (e : Ending) (W' : World) : Prop := ∃ v, e = .returned v ∧ OutAt W' lim wb v L ∧ Owns W' wb cs 3 ∧ Below lim W W'
set_option maxHeartbeats 4000000 in
set_option maxRecDepth 20000 in
theorem sfill_none (bk r many wb lim n : Nat) (p : List Int) (hp : p.length = n) (hn : n ≤ 12) (out : List (List Int)) (ho : out.length ≤ 600) (v : Value) (W : World) (hlim : lim ≤ W.heap.size) (hw : Owns W wb (intVs p) 3) (hO : OutAt W lim wb v out) :
    Calls Tryz.prog 18 #[.pointer (some ⟨bk, 0, none⟩), .int .i64 (r : Int), .slice (some ⟨wb, 0, none⟩) n n, .int .i64 (n : Int), .int .i64 (many : Int), v] W (FillIs lim wb (out ++ [p]) (intVs p) W) := by
  obtain ⟨i0, hi, hz0, hz1, hz2⟩ := info_parts info_ints27
  have hT := owns_ints (cap := n) hw
  rw [hp] at hT
  have HC := Lib.hid (cloneInt_ok p W _ (by omega) hT)
  obtain ⟨Q, hQ⟩ : ∃ Q, FillIs lim wb (out ++ [p]) (intVs p) W = Q := ⟨_, rfl⟩
  rw [hQ]
  have HQ := Lib.hid hQ
  have HW := Lib.hid hw
  have HO := Lib.hid hO
  have HP := Lib.hid hp
  obtain ⟨va, vc, rfl⟩ := hO.form
  have HI := Lib.hid hi
  have HZ0 := Lib.hid hz0
  have HZ1 := Lib.hid hz1
  have HZ2 := Lib.hid hz2
  obtain ⟨m, hm⟩ : ∃ m, out.length = m := ⟨_, rfl⟩
  have HM := Lib.hid hm
  rw [hm] at ho HO ⊢
  clear hT hw hO hp hQ hi hz0 hz1 hz2 hm
  go_enter Tryz.func18, Tryz.ntmps18
  go_wp2_with fail
  refine HC.out.mono ?_
  rintro e w1 ⟨u, rfl, hu, hg⟩
  have HG1 := Lib.hid hg
  have HCP := Lib.hid (clipInt_ok w1 _ u p hu)
  clear hu hg
  go_wp2_with fail
  refine HCP.out.mono ?_
  rintro e w2 ⟨⟨u2, rfl, hu⟩, rfl⟩
  obtain ⟨ua, uc, rfl⟩ := loose_form hu
  have HU := Lib.hid hu
  obtain ⟨pl, hpl⟩ : ∃ pl, p.length = pl := ⟨_, rfl⟩
  rw [hpl]
  obtain ⟨w3, hw3⟩ : ∃ w3, w1.alloc (.cells #[.slice ua pl uc] 22) = w3 := ⟨_, rfl⟩
  have g3 : Grew w1 w3 := hw3 ▸ grew_alloc w1 _
  have o3 : Owns w3 w1.heap.size [Value.slice ua pl uc] 22 := hw3 ▸ Owns.alloc w1 _ _
  have HG3 := Lib.hid g3
  have HNW := Lib.hid (owns_newsO o3)
  have HLL := Lib.hid (Nat.le_trans hlim (HG1.out.trans g3).size)
  have HO3 := Lib.hid (HO.out.keep (But.of_grew (HG1.out.trans g3)))
  have HPL := Lib.hid hpl
  rw [hpl] at hu
  have HU3 := Lib.hid ((But.of_grew (F := fun _ => False) g3).row hu (fun _ _ h => h))
  have HONE : Hid (∀ x ∈ [Value.slice ua pl uc], x.oneCell' = true) := Lib.hid fun x hx => by rw [List.mem_singleton.1 hx]; rfl
  have h63 : m + 1 ≤ maxLen := by unfold maxLen; omega
  have h64 : (m + 1) * 24 ≤ 140737488355328 := by omega
  have hus := HO3.out
  obtain ⟨us, hus⟩ := hus
  have HUS := Lib.hid hus
  have hrow := hus.2.1
  rw [HM.out] at hrow
  have HROW := Lib.hid hrow
  have hwl : wb < W.heap.size := HW.out.lt
  have HWL := Lib.hid hwl
  clear hu hpl g3 o3 hus hrow HCP HC
  go_wp2_with (at_builtin; refine wpList_append_loose w3 rfl _ _ 32 rfl lim 22 i0 _ 1 24 Tryz.underlying32 HI.out HZ0.out HZ1.out HZ2.out rfl (by decide) _ m us rfl HROW.out ⟨w1.heap.size, 0, none⟩ 1 1 [Value.slice ua pl uc] rfl rfl HNW.out HONE.out (by decide) h63 h64 HLL.out _ rfl ?_; intro g cap' w7 hown hgrow hat hlt7; have HOWN := Lib.hid hown; have HGROW := Lib.hid hgrow; have HAT := Lib.hid hat; clear hown hgrow hat hlt7)
  show Q (.returned (.slice (some ⟨g, 0, none⟩) (m + 1) cap')) w7
  rw [← HQ.out]
  have hbut : But (fun k => (Value.slice va m vc).ownBlock = some k) w3 w7 := But.grown HGROW.out fun _ e => e
  have hvb : ∀ k, (Value.slice va m vc).ownBlock = some k → lim ≤ k := fun k hk => (row_type HUS.out.2.1 hk).1
  have ho3 : Owns w3 wb (intVs p) 3 := (HW.out.keep HG1.out).keep HG3.out
  refine ⟨_, rfl, HUS.out.push (u := .slice ua pl uc) HGROW.out ?_ ?_ ho3.lt ?_ ?_, hbut.owns ho3 fun e => HUS.out.2.2.1 e, ?_⟩
  · have := HU3.out.weak (b2 := lim) hlim
    rw [HPL.out]
    exact this
  · intro e
    have := (row_type HU3.out e).1
    omega
  · rw [HM.out]; exact HOWN.out
  · rcases HAT.out with e | e
    · left
      have e' : (Value.slice va m vc).ownBlock = some g := e
      rw [e']; rfl
    · right; exact ⟨g, rfl, by omega⟩
  · exact (Below.trans (Below.mono (Grew.trans HG1.out HG3.out) hlim) (hbut.below HLL.out hvb))
theorem intVs_set (p : List Int) (x t : Int) (q : List Int) : (intVs (p ++ x :: q)).set p.length (.int .i64 t) = intVs (p ++ t :: q) := by
  simp [intVs]
theorem intVs_at (p : List Int) (x : Int) (q : List Int) : (intVs (p ++ x :: q))[p.length]? = some (.int .i64 x) := by
  simp [intVs]
def FillOk (B : Bk) (r bk : Nat) (V : BV) (lim wb many n d : Nat) : Prop := ∀ (p : List Int) (out : List (List Int)) (v : Value) (W : World), p.length + d = n → BookAt W lim bk V B → Owns W wb (intVs (p ++ List.replicate d (-2))) 3 → OutAt W lim wb v out → out.length ≤ many →
  Calls Tryz.prog 18 #[.pointer (some ⟨bk, 0, none⟩), .int .i64 (r : Int), .slice (some ⟨wb, 0, none⟩) n n, .int .i64 (p.length : Int), .int .i64 (many : Int), v] W (FillIs lim wb (fillF (B.dB r) B.kinds many d p out) (intVs (p ++ List.replicate d (-2))) W)
set_option maxHeartbeats 4000000 in
set_option maxRecDepth 20000 in
theorem sfill_ok (B : Bk) (hG : B.Good) (r : Nat) (hr : r < B.bodies.length) (V : BV) (bk lim wb many n : Nat) (hwl : lim ≤ wb) (hn : n ≤ 12) (hm : many ≤ 512) (hkl : B.kinds.length ≤ 1000) : ∀ d, FillOk B r bk V lim wb many n d
  | 0 => by
    intro p out v W hp hB hw hO ho
    simp only [List.replicate_zero, List.append_nil] at hw ⊢
    have hp' : p.length = n := by omega
    rw [hp']
    exact sfill_none bk r many wb lim n p hp' hn out (by omega) v W hB.low hw hO
  | d + 1 => by
    have ih := Lib.hid (sfill_ok B hG r hr V bk lim wb many n hwl hn hm hkl d)
    intro p out v W hp hB hw hO ho
    obtain ⟨va, vc, rfl⟩ := hO.form
    have HG := Lib.hid hG
    have HRR := Lib.hid hr
    have HB := Lib.hid hB
    have HW := Lib.hid hw
    have HO := Lib.hid hO
    have c2 := hB.box.cell_at (i := 2) rfl
    have cl := hB.box.lt
    obtain ⟨ka, kc, hkv, hks⟩ := hB.kinds
    rw [hkv] at c2
    have HKS := Lib.hid hks
    obtain ⟨Q, hQ⟩ : ∃ Q, FillIs lim wb (fillF (B.dB r) B.kinds many (d + 1) p out) (intVs (p ++ List.replicate (d + 1) (-2))) W = Q := ⟨_, rfl⟩
    rw [hQ]
    have HQ := Lib.hid hQ
    obtain ⟨at', hat⟩ : ∃ at' , p.length = at' := ⟨_, rfl⟩
    have HAT := Lib.hid hat
    rw [hat] at hp ⊢
    obtain ⟨kn, hkn⟩ : ∃ kn, B.kinds.length = kn := ⟨_, rfl⟩
    have HKN := Lib.hid hkn
    rw [hkn] at c2 hkl
    obtain ⟨m, hm0⟩ : ∃ m, out.length = m := ⟨_, rfl⟩
    have HM := Lib.hid hm0
    rw [hm0] at ho HO ⊢
    have q1 : ((at' : Int) == (n : Int)) = false := beq_eq_false_iff_ne.2 (by omega)
    have HWL := Lib.hid hwl
    clear hB hw hO hQ hat hkv hks hkn hm0 hG hr
    go_enter Tryz.func18, Tryz.ntmps18
    go_wp2_with fail
    clear c2 cl
    go_loopw [5, 30] (fun v c wr => ∃ (j : Nat) (o : List (List Int)) (x : Int), c = .int .i64 j ∧ j ≤ kn ∧ Hid (o = (B.kinds.take j).foldl (fillS (B.dB r) B.kinds many d p) out) ∧ Hid (o.length ≤ many + 1) ∧ Hid (OutAt wr lim wb v o) ∧ Hid (Owns wr wb (intVs (p ++ x :: List.replicate d (-2))) 3) ∧ Hid (Below lim W wr)) (fun _ c _ => kn - (intOf c).toNat)
    case atStart =>
      refine ⟨0, out, -2, rfl, by omega, rfl, ?_, HO.out, HW.out, Below.refl _ _⟩
      show out.length ≤ many + 1
      rw [HM.out]; omega
    case round =>
      obtain ⟨j, o, x, rfl, hj, HOE, HOL, HOO, HOW, HBL⟩ := hrel
      obtain ⟨oa, oc, hof⟩ := HOO.out.form
      by_cases hlt : j < kn
      · as_aux_lemma =>
        have hlt' : j < B.kinds.length := by rw [HKN.out]; exact hlt
        have hBk := HB.out.keep HBL.out
        obtain ⟨b, off, rfl, hb, hkc⟩ := HKS.out j hlt'
        have hlw := hBk.low
        have hkc2 : wr.cell? ⟨b, off + j, none⟩ = some (.int .i64 B.kinds[j]) := by rw [HBL.out.cell hb]; exact hkc
        have hb2 : b < wr.heap.size := by omega
        have HTK := Lib.hid (foldl_take (fillS (B.dB r) B.kinds many d p) B.kinds out j hlt')
        obtain ⟨t, ht⟩ : ∃ t, B.kinds[j] = t := ⟨_, rfl⟩
        rw [ht] at hkc2 HTK
        subst hof
        obtain ⟨ol, hol⟩ : ∃ ol, o.length = ol := ⟨_, rfl⟩
        have HOLN := Lib.hid hol
        rw [hol] at HOL HOO ⊢
        have holm : ol ≤ many + 1 := HOL.out
        have w0 : wr.cell? ⟨wb, at', none⟩ = some (.int .i64 x) := by rw [← HAT.out, HOW.out.cell]; exact intVs_at _ _ _
        have wl := HOW.out.lt
        have wf := HOW.out.free at'
        have hat1 : (at' : Int) < (n : Int) := by omega
        have hat2 : at' < n := by omega
        have ho2 : Owns (wr.setCell ⟨wb, at', none⟩ (.int .i64 t)) wb (intVs (p ++ t :: List.replicate d (-2))) 3 := by
          have := HOW.out.set at' (.int .i64 t)
          rw [← HAT.out, intVs_set, HAT.out] at this
          exact this
        have HO2 := Lib.hid ho2
        have hbt := set_but (i := at') (v := .int .i64 t) HOW.out
        have HOO2 := Lib.hid (HOO.out.keep hbt)
        have HBL2 := Lib.hid (Below.trans HBL.out (hbt.below hlw fun q e => by rw [e]; exact HWL.out))
        clear ht hkc hb hlt' hBk ho2 hbt hol
        go_upto_region 7 with fail
        clear w0 wl wf hkc2 hb2 hlw
        generalize wr.setCell ⟨wb, at', none⟩ (.int .i64 t) = w2 at *
        have hB2 := HB.out.keep HBL2.out
        have HB2 := Lib.hid hB2
        by_cases hle : ol ≤ many
        · have hlei : (ol : Int) ≤ (many : Int) := by omega
          have hlen : (p ++ t :: List.replicate d (-2)).length = n := by simp [HAT.out]; omega
          have hT := owns_ints (cap := n) HO2.out
          rw [hlen] at hT
          have HD := Lib.hid (sderives_ok B HG.out r HRR.out V bk lim (p ++ t :: List.replicate d (-2)) (by rw [hlen]; omega) _ w2 hB2 hT)
          clear hB2 hT hlen
          go_wp2_with fail
          refine HD.out.mono ?_
          rintro e w3 ⟨y, rfl, hy, hg⟩
          have hyd := Bk.dB_iff hy
          have HYD := Lib.hid hyd
          have HO3 := Lib.hid (HO2.out.keep hg)
          have HOO3 := Lib.hid (HOO2.out.keep (But.of_grew hg))
          have HBL3 := Lib.hid (Below.trans HBL2.out (hg.mono HB2.out.low))
          clear hyd hy hg HD
          cases y with
          | false =>
            go_wp2_with fail
            refine ⟨⟨j + 1, o, t, by go_num, by omega, ?_, by rw [HOLN.out]; exact HOL.out, HOO3.out, HO3.out, HBL3.out⟩, by simp [intOf]; omega⟩
            rw [HTK.out, ← HOE.out, fillS, ← HYD.out, Bool.and_false]
            rfl
          | true =>
            have hwr : IntKind.i64.wrap ((at' : Int) + 1) = ((at' + 1 : Nat) : Int) := by rw [wrap_small _ (by omega) (by omega)]; rfl
            have HREC := Lib.hid (ih.out (p ++ [t]) o (.slice oa ol oc) w3 (by rw [List.length_append, List.length_singleton, HAT.out]; omega) (HB.out.keep HBL3.out) (by rw [List.append_assoc]; exact HO3.out) HOO3.out (by rw [HOLN.out]; exact hle))
            have e1 : (p ++ [t]).length = at' + 1 := by rw [List.length_append, List.length_singleton, HAT.out]
            rw [e1] at HREC
            clear e1
            go_wp2_with fail
            refine HREC.out.mono ?_
            rintro e w4 ⟨v4, rfl, hO4, hw4, hb4⟩
            have HO4 := Lib.hid hO4
            have HW4 := Lib.hid hw4
            have HB4 := Lib.hid hb4
            clear hO4 hw4 hb4 HREC
            go_wp2_with fail
            refine ⟨⟨j + 1, fillF (B.dB r) B.kinds many d (p ++ [t]) o, t, by go_num, by omega, ?_, ?_, HO4.out, ?_, Below.trans HBL3.out HB4.out⟩, by simp [intOf]; omega⟩
            · show _ = _
              rw [HTK.out, ← HOE.out, fillS, ← HYD.out, decide_eq_true (by rw [HOLN.out]; exact hle)]
              rfl
            · exact fillF_few _ _ _ _ _ _ (by rw [HOLN.out]; exact hle)
            · have := HW4.out
              rw [List.append_assoc] at this
              exact this
        · have hlei : ¬ (ol : Int) ≤ (many : Int) := by omega
          clear hB2
          go_wp2_with fail
          refine ⟨⟨j + 1, o, t, by go_num, by omega, ?_, by rw [HOLN.out]; exact HOL.out, HOO2.out, HO2.out, HBL2.out⟩, by simp [intOf]; omega⟩
          rw [HTK.out, ← HOE.out, fillS, decide_eq_false (by rw [HOLN.out]; exact hle), Bool.false_and]
          rfl
      · obtain rfl : j = kn := by omega
        have w0 : wr.cell? ⟨wb, at', none⟩ = some (.int .i64 x) := by rw [← HAT.out, HOW.out.cell]; exact intVs_at _ _ _
        have wl := HOW.out.lt
        have wf := HOW.out.free at'
        have hat1 : (at' : Int) < (n : Int) := by omega
        have hat2 : at' < n := by omega
        have ho2 : Owns (wr.setCell ⟨wb, at', none⟩ (.int .i64 (-2))) wb (intVs (p ++ (-2) :: List.replicate d (-2))) 3 := by
          have := HOW.out.set at' (.int .i64 (-2))
          rw [← HAT.out, intVs_set, HAT.out] at this
          exact this
        have HO2 := Lib.hid ho2
        have hbt := set_but (i := at') (v := .int .i64 (-2)) HOW.out
        have HOO2 := Lib.hid (HOO.out.keep hbt)
        have HBL2 := Lib.hid (Below.trans HBL.out (hbt.below (HB.out.keep HBL.out).low fun q e => by rw [e]; exact HWL.out))
        subst hof
        clear ho2 hbt
        go_wp2_with fail
        show Q (.returned (.slice oa o.length oc)) _
        rw [← HQ.out]
        refine ⟨_, rfl, ?_, HO2.out, HBL2.out⟩
        have he := HOE.out
        rw [List.take_of_length_le (by rw [HKN.out]; exact Nat.le_refl _), ← fillF_succ] at he
        rw [← he]
        exact HOO2.out
end Go.Proofs.YtgegjjfjhpokpaaGreatDoor
