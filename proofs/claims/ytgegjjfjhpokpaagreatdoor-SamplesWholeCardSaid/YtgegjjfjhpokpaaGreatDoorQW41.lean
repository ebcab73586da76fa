/- SameNums; same of chapter 27: are lists of lists one? -/
import Derived.Test.YtgegjjfjhpokpaaGreatDoorQW17
import Derived.Test.YtgegjjfjhpokpaaGreatDoorQW40
namespace Go.Proofs.YtgegjjfjhpokpaaGreatDoor
open Go.RowKit

set_option maxHeartbeats 1000000 in
set_option maxRecDepth 20000 in
theorem ssameI_ok (l m : List Int) (W : World) (v u : Value) (hl : l.length ≤ 1000000) (hm : m.length ≤ 1000000) (hv : IntsV W W.heap.size v l) (hu : IntsV W W.heap.size u m) :
    Calls Tryz.prog 32 #[v, u] W fun e W' => e = .returned (.bool (decide (l = m))) ∧ Grew W W' := by
  obtain ⟨a, cap, rfl, hA⟩ := hv
  obtain ⟨b, cap', rfl, hB⟩ := hu
  go_enter Tryz.func32, Tryz.ntmps32
  by_cases hlen : l.length = m.length
  · have hne : ((l.length : Int) != (m.length : Int)) = false := by rw [hlen]; simp
    have HLN := Lib.hid hlen
    rw [hlen]
    rw [hlen] at hne
    clear hlen
    go_wp2
    go_loopw [5] (fun i wr => ∃ (j : Nat), i = .int .i64 j ∧ j ≤ m.length ∧ Hid (∀ i (h1 : i < l.length) (h2 : i < m.length), i < j → l[i] = m[i]) ∧ Hid (Grew W wr)) (fun i _ => m.length - (intOf i).toNat)
    case atStart => exact ⟨0, rfl, by omega, fun i _ _ h => absurd h (by omega), Grew.refl W⟩
    case round =>
      obtain ⟨j, rfl, hj, hf, hbw⟩ := hrel
      by_cases hlt : j < m.length
      · have hlt' : j < l.length := by rw [HLN.out]; exact hlt
        obtain ⟨b1, o1, rfl, hb1, hc1⟩ := hA j hlt'
        obtain ⟨b2, o2, rfl, hb2, hc2⟩ := hB j hlt
        have hz := hbw.out.size
        have d1 : wr.cell? ⟨b1, o1 + j, none⟩ = some (.int .i64 l[j]) := by rw [hbw.out.cells _ _ hb1]; exact hc1
        have d2 : wr.cell? ⟨b2, o2 + j, none⟩ = some (.int .i64 m[j]) := by rw [hbw.out.cells _ _ hb2]; exact hc2
        have l1 : b1 < wr.heap.size := by omega
        have l2 : b2 < wr.heap.size := by omega
        clear hA hB hc1 hc2 hb1 hb2 hz
        by_cases heq : l[j] = m[j]
        · have HEQ := Lib.hid heq
          rw [heq] at d1
          have hne2 : (m[j] != m[j]) = false := by simp
          clear heq
          go_wp2_with fail
          refine wp_region_hav_lit follows (by kernel_rfl) ?_
          repeat (first
            | (refine HavG.skip (fun _ => rfl) ?_; simp only [Act.put, List.setIfInBounds_toArray, List.set_cons_zero, List.set_cons_succ])
            | (refine HavG.val (fun _ => rfl) ?_ (fun x w hw _ => ?_) ?_; rotate_left; (focus (have hc := hw.cells; clear hw; go_simp; first | done | rfl)); simp only [Act.put, List.setIfInBounds_toArray, List.set_cons_zero, List.set_cons_succ]))
          refine HavG.tail (by kernel_rfl) (by kernel_rfl) (fun x w2 hw _ => ?_)
          have HW := Lib.hid hw
          clear hw
          go_wp2_with fail
          go_round
          case rel => exact ⟨j + 1, by go_num, by omega, fun i h1 h2 h3 => (by
            by_cases e : i = j
            · subst e; exact HEQ.out
            · exact hf.out i h1 h2 (by omega)), hbw.out.trans HW.out⟩
          case measure => simp [intOf]; omega
        · have hne2 : (l[j] != m[j]) = true := by simpa using heq
          have HEQ := Lib.hid heq
          clear heq
          go_wp2_with fail
          refine wp_region_hav_lit follows (by kernel_rfl) ?_
          repeat (first
            | (refine HavG.skip (fun _ => rfl) ?_; simp only [Act.put, List.setIfInBounds_toArray, List.set_cons_zero, List.set_cons_succ])
            | (refine HavG.val (fun _ => rfl) ?_ (fun x w hw _ => ?_) ?_; rotate_left; (focus (have hc := hw.cells; clear hw; go_simp; first | done | rfl)); simp only [Act.put, List.setIfInBounds_toArray, List.set_cons_zero, List.set_cons_succ]))
          refine HavG.tail (by kernel_rfl) (by kernel_rfl) (fun x w2 hw _ => ?_)
          have HW := Lib.hid hw
          clear hw
          go_wp2_with fail
          go_ret
          refine ⟨ret_bool ?_, hbw.out.trans HW.out⟩
          symm
          rw [decide_eq_false_iff_not]
          intro e
          subst e
          exact HEQ.out rfl
      · go_wp2_with fail
        go_ret
        refine ⟨ret_bool ?_, hbw.out⟩
        symm
        rw [decide_eq_true_eq]
        exact List.ext_getElem HLN.out fun i h1 h2 => hf.out i h1 h2 (by omega)
  · have hne : ((l.length : Int) != (m.length : Int)) = true := by simp; omega
    have HLN := Lib.hid hlen
    clear hlen
    go_wp2
    go_ret
    refine ⟨ret_bool ?_, Grew.refl W⟩
    symm
    rw [decide_eq_false_iff_not]
    exact fun e => HLN.out (by rw [e])
theorem ssameNums_ok (l m : List Int) (W : World) (v u : Value) (hl : l.length ≤ 1000000) (hm : m.length ≤ 1000000) (hv : IntsV W W.heap.size v l) (hu : IntsV W W.heap.size u m) :
    Calls Tryz.prog 14 #[v, u] W fun e W' => e = .returned (.bool (decide (l = m))) ∧ Grew W W' := by
  have HS := Lib.hid (ssameI_ok l m W v u hl hm hv hu)
  obtain ⟨a, cap, rfl, hA⟩ := hv
  obtain ⟨b, cap', rfl, hB⟩ := hu
  clear hA hB
  go_enter Tryz.func14, Tryz.ntmps14
  go_wp2_with (go_at_call 32; refine HS.out.mono ?_; rintro e w' ⟨rfl, hb⟩)
  go_ret
  exact ⟨rfl, hb⟩



theorem OutR.get {W : World} {base : Nat} {v : Value} {L : List (List Int)} (h : OutR W base v L) {j : Nat} (hj : j < L.length) : ∃ g a c, v.ownBlock = some g ∧ g < W.heap.size ∧ W.cell? ⟨g, j, none⟩ = some (.slice a L[j].length c) ∧ looseRow W base 3 1 (.slice a L[j].length c) L[j].length (intVs L[j]) := by
  obtain ⟨us, h1, h2, h3⟩ := h
  have hj' : j < us.length := by omega
  have h4 := h3 j us[j] L[j] (List.getElem?_eq_getElem hj') (List.getElem?_eq_getElem hj)
  obtain ⟨a, c, e⟩ := loose_form h4
  rcases h2.2 with ⟨-, h0⟩ | ⟨g, cap, cur, rfl, -⟩
  · omega
  · have hc := looseRow_cells h2 (g := g) rfl j us[j] (List.getElem?_eq_getElem hj')
    rw [e] at hc h4
    exact ⟨g, a, c, rfl, lt_of_cell hc, hc, h4⟩
theorem OutR.form {W : World} {base : Nat} {v : Value} {L : List (List Int)} (h : OutR W base v L) : (v = .slice none 0 0 ∧ L.length = 0) ∨ ∃ g c, v = .slice (some ⟨g, 0, none⟩) L.length c := by
  obtain ⟨us, h1, h2, h3⟩ := h
  rcases h2.2 with ⟨h4, h5⟩ | ⟨g, cap, cur, h4, -⟩
  · exact .inl ⟨h4, h5⟩
  · exact .inr ⟨g, cap, h4⟩
set_option maxHeartbeats 2000000 in
set_option maxRecDepth 20000 in
theorem same27_ok (L M : List (List Int)) (hl : ∀ l ∈ L, l.length ≤ 1000000) (hm : ∀ l ∈ M, l.length ≤ 1000000) (hM : M.length ≤ 1000000) (W : World) (b1 b2 : Nat) (v u : Value) (hv : OutR W b1 v L) (hu : OutR W b2 u M) :
    Calls Tryz.prog 24 #[v, u] W fun e W' => e = .returned (.bool (decide (L = M))) ∧ Grew W W' := by
  have HV := Lib.hid hv
  have HU := Lib.hid hu
  have HLL := Lib.hid hl
  have HMM := Lib.hid hm
  obtain ⟨va, vc, rfl⟩ : ∃ a c, v = .slice a L.length c := by
    obtain ⟨us, _, h2, _⟩ := hv
    exact loose_form h2
  obtain ⟨ua, uc, rfl⟩ : ∃ a c, u = .slice a M.length c := by
    obtain ⟨us, _, h2, _⟩ := hu
    exact loose_form h2
  clear hv hu hl hm
  by_cases hlen : L.length = M.length
  · have hne : ((L.length : Int) != (M.length : Int)) = false := by rw [hlen]; simp
    have HLN := Lib.hid hlen
    obtain ⟨n, hn⟩ : ∃ n, M.length = n := ⟨_, rfl⟩
    have HN := Lib.hid hn
    rw [hlen, hn] at HV
    rw [hn] at HU
    rw [hlen, hn]
    rw [hlen, hn] at hne
    rw [hn] at hM
    clear hlen hn
    go_enter Tryz.func24, Tryz.ntmps24
    go_wp2
    go_loopw [5] (fun i wr => ∃ (j : Nat), i = .int .i64 j ∧ j ≤ n ∧ Hid (∀ i (h1 : i < L.length) (h2 : i < M.length), i < j → L[i] = M[i]) ∧ Hid (Grew W wr)) (fun i _ => n - (intOf i).toNat)
    case atStart => exact ⟨0, rfl, by omega, fun i _ _ h => absurd h (by omega), Grew.refl W⟩
    case round =>
      obtain ⟨j, rfl, hj, hf, hbw⟩ := hrel
      by_cases hlt : j < n
      · have hlt2 : j < M.length := by rw [HN.out]; exact hlt
        have hlt1 : j < L.length := by rw [HLN.out]; exact hlt2
        obtain ⟨g1, a1, c1, o1, l1, d1, r1⟩ := (HV.out.keep hbw.out).get hlt1
        obtain ⟨g2, a2, c2, o2, l2, d2, r2⟩ := (HU.out.keep hbw.out).get hlt2
        have hva : va = some ⟨g1, 0, none⟩ := by
          rcases HV.out.form with ⟨e, h0⟩ | ⟨g, c, e⟩
          · omega
          · cases e; cases o1; rfl
        have hua : ua = some ⟨g2, 0, none⟩ := by
          rcases HU.out.form with ⟨e, h0⟩ | ⟨g, c, e⟩
          · omega
          · cases e; cases o2; rfl
        subst hva
        subst hua
        obtain ⟨x, hx⟩ : ∃ x, L[j] = x := ⟨_, rfl⟩
        obtain ⟨y, hy⟩ : ∃ y, M[j] = y := ⟨_, rfl⟩
        have hxl := HLL.out _ (List.getElem_mem hlt1)
        have hyl := HMM.out _ (List.getElem_mem hlt2)
        rw [hx] at d1 r1 hxl
        rw [hy] at d2 r2 hyl
        have HX := Lib.hid (And.intro hx hy)
        have HC : Hid (∀ w, Grew wr w → Calls Tryz.prog 14 #[.slice a1 x.length c1, .slice a2 y.length c2] w fun e W' => e = .returned (.bool (decide (x = y))) ∧ Grew w W') := Lib.hid fun w hw =>
          ssameNums_ok x y w _ _ hxl hyl (loose_ints ((But.of_grew (F := fun _ => False) hw).row r1 (fun _ _ h => h))) (loose_ints ((But.of_grew (F := fun _ => False) hw).row r2 (fun _ _ h => h)))
        obtain ⟨t, ht⟩ : ∃ t, decide (x = y) = t := ⟨_, rfl⟩
        rw [ht] at HC
        have HT := Lib.hid ht
        obtain ⟨xl, hxl'⟩ : ∃ n, x.length = n := ⟨_, rfl⟩
        obtain ⟨yl, hyl'⟩ : ∃ n, y.length = n := ⟨_, rfl⟩
        rw [hxl'] at HC d1
        rw [hyl'] at HC d2
        clear hx hy ht o1 o2 r1 r2 hxl hyl hxl' hyl'
        go_upto_region 6 with fail
        refine wp_region_hav_lit follows (by kernel_rfl) ?_
        iterate 8 (first
          | (refine HavG.skip (fun _ => rfl) ?_; simp only [Act.put, List.setIfInBounds_toArray, List.set_cons_zero, List.set_cons_succ])
          | (refine HavG.val (fun _ => rfl) ?_ (fun x w hw _ => ?_) ?_; rotate_left; (focus (have hc := hw.cells; clear hw; go_simp; first | done | rfl)); simp only [Act.put, List.setIfInBounds_toArray, List.set_cons_zero, List.set_cons_succ]))
        refine HavG.det (fun _ => rfl) (.bool t) (fun x w hw hd => ?_) ?_
        · clear hd
          have HW := Lib.hid hw
          clear hw
          go_simp
          refine (HC.out w HW.out).mono ?_
          rintro e w' ⟨rfl, hg⟩
          exact ⟨rfl, hg⟩
        simp only [Act.put, List.setIfInBounds_toArray, List.set_cons_zero, List.set_cons_succ]
        repeat (first
          | (refine HavG.skip (fun _ => rfl) ?_; simp only [Act.put, List.setIfInBounds_toArray, List.set_cons_zero, List.set_cons_succ])
          | (refine HavG.val (fun _ => rfl) ?_ (fun x w hw _ => ?_) ?_; rotate_left; (focus (have hc := hw.cells; clear hw; go_simp; first | done | rfl)); simp only [Act.put, List.setIfInBounds_toArray, List.set_cons_zero, List.set_cons_succ]))
        refine HavG.tail (by kernel_rfl) (by kernel_rfl) (fun x w2 hw _ => ?_)
        have HW := Lib.hid hw
        clear hw d1 d2 l1 l2
        cases t
        · go_wp2_with fail
          go_ret
          refine ⟨ret_bool ?_, hbw.out.trans HW.out⟩
          symm
          rw [decide_eq_false_iff_not]
          intro e
          subst e
          have h1 := HX.out.1.symm.trans HX.out.2
          have h2 := HT.out
          rw [h1] at h2
          simp at h2
        · go_wp2_with fail
          refine ⟨⟨j + 1, by go_num, by omega, fun i h1 h2 h3 => (by
            by_cases e : i = j
            · subst e
              rw [HX.out.1, HX.out.2]
              exact of_decide_eq_true HT.out
            · exact hf.out i h1 h2 (by omega)), hbw.out.trans HW.out⟩, by simp [intOf]; omega⟩
      · go_wp2_with fail
        go_ret
        refine ⟨ret_bool ?_, hbw.out⟩
        symm
        rw [decide_eq_true_eq]
        exact List.ext_getElem HLN.out fun i h1 h2 => hf.out i h1 h2 (by have := HN.out; omega)
  · have hne : ((L.length : Int) != (M.length : Int)) = true := by simp; omega
    have HLN := Lib.hid hlen
    clear hlen
    go_enter Tryz.func24, Tryz.ntmps24
    go_wp2
    go_ret
    refine ⟨ret_bool ?_, Grew.refl W⟩
    symm
    rw [decide_eq_false_iff_not]
    exact fun e => HLN.out (by rw [e])
end Go.Proofs.YtgegjjfjhpokpaaGreatDoor

/- All, plain: which lists there are, in which order. -/
namespace Go.Proofs.YtgegjjfjhpokpaaGreatDoor

/-- all lists of a length over K, in order -/
def enumK (K : List Int) : Nat → List (List Int)
  | 0 => [[]]
  | d + 1 => K.flatMap fun t => (enumK K d).map fun u => t :: u
theorem mem_enum {K : List Int} : ∀ {d : Nat} {u : List Int}, u ∈ enumK K d ↔ u.length = d ∧ ∀ x ∈ u, x ∈ K
  | 0, u => by
    rw [enumK, List.mem_singleton]
    constructor
    · rintro rfl
      exact ⟨rfl, fun x hx => by cases hx⟩
    · rintro ⟨h, -⟩
      exact List.length_eq_zero_iff.1 h
  | d + 1, u => by
    rw [enumK, List.mem_flatMap]
    constructor
    · rintro ⟨t, ht, h⟩
      obtain ⟨v, hv, rfl⟩ := List.mem_map.1 h
      obtain ⟨h1, h2⟩ := mem_enum.1 hv
      refine ⟨by rw [List.length_cons, h1], fun x hx => ?_⟩
      rcases List.mem_cons.1 hx with rfl | hx
      · exact ht
      · exact h2 x hx
    · rintro ⟨h1, h2⟩
      cases u with
      | nil => cases h1
      | cons t v => exact ⟨t, h2 t (List.mem_cons_self ..), List.mem_map.2 ⟨v, mem_enum.2 ⟨by simpa using h1, fun x hx => h2 x (List.mem_cons_of_mem _ hx)⟩, rfl⟩⟩
/-- lists in order: the shorter one ahead; then by the first place at which they differ -/
def lexB : List Int → List Int → Bool
  | a :: l, b :: m => if a = b then lexB l m else decide (a < b)
  | _, _ => false
def slB (a b : List Int) : Bool := if a.length = b.length then lexB a b else decide (a.length < b.length)
theorem lexB_pre {t : Int} {u v : List Int} : lexB (t :: u) (t :: v) = lexB u v := by rw [lexB, if_pos rfl]
theorem enum_rise {K : List Int} (hK : K.Pairwise (· < ·)) : ∀ d, (enumK K d).Pairwise fun a b => lexB a b = true
  | 0 => by rw [enumK]; exact List.pairwise_singleton _ _
  | d + 1 => by
    have ih := enum_rise hK d
    rw [enumK]
    have key : ∀ K' : List Int, K'.Pairwise (· < ·) → (K'.flatMap fun t => (enumK K d).map fun u => t :: u).Pairwise fun a b => lexB a b = true := by
      intro K'
      induction K' with
      | nil => intro _; exact List.Pairwise.nil
      | cons t r ihr =>
        intro h
        rw [List.pairwise_cons] at h
        rw [List.flatMap_cons, List.pairwise_append]
        refine ⟨?_, ihr h.2, ?_⟩
        · rw [List.pairwise_map]
          exact ih.imp fun hab => by rw [lexB_pre]; exact hab
        · intro a ha b hb
          obtain ⟨u, -, rfl⟩ := List.mem_map.1 ha
          obtain ⟨s, hs, hb⟩ := List.mem_flatMap.1 hb
          obtain ⟨v, -, rfl⟩ := List.mem_map.1 hb
          have := h.1 s hs
          rw [lexB, if_neg (by omega)]
          simpa using this
    exact key K hK
/-- whatever tokens may stand for any -/
def WildB (db : List Int → Bool) : Prop := ∀ p u, db (p ++ u) = true → db (p ++ List.replicate u.length (-2)) = true
theorem foldl_grow {β : Type} (f : List (List Int) → β → List (List Int)) (hf : ∀ o t, o.length ≤ (f o t).length) : ∀ (K : List β) (o : List (List Int)), o.length ≤ (K.foldl f o).length
  | [], _ => Nat.le_refl _
  | t :: K, o => Nat.le_trans (hf o t) (foldl_grow f hf K _)
theorem fillF_grow (db : List Int → Bool) (K : List Int) (many : Nat) : ∀ (d : Nat) (p : List Int) (out : List (List Int)), out.length ≤ (fillF db K many d p out).length
  | 0, p, out => by simp [fillF]
  | d + 1, p, out => by
    rw [fillF_succ]
    refine foldl_grow _ (fun o t => ?_) K out
    unfold fillS
    split
    · exact fillF_grow db K many d _ _
    · exact Nat.le_refl _
theorem fillS_grow (db : List Int → Bool) (K : List Int) (many d : Nat) (p : List Int) (o : List (List Int)) (t : Int) : o.length ≤ (fillS db K many d p o t).length := by
  unfold fillS
  split
  · exact fillF_grow db K many d _ _
  · exact Nat.le_refl _
/-- fill, where it came not to be too many -/
theorem fillF_all {db : List Int → Bool} (hw : WildB db) {K : List Int} {many : Nat} : ∀ (d : Nat) (p : List Int) (out : List (List Int)), (fillF db K many d p out).length ≤ many → (d = 0 → db p = true) →
    fillF db K many d p out = out ++ ((enumK K d).filter fun u => db (p ++ u)).map fun u => p ++ u
  | 0, p, out, _, h0 => by
    rw [fillF, enumK]
    have := h0 rfl
    simp [this]
  | d + 1, p, out, hl, _ => by
    rw [fillF_succ] at hl ⊢
    have key : ∀ (K' : List Int) (o : List (List Int)), (K'.foldl (fillS db K many d p) o).length ≤ many →
        K'.foldl (fillS db K many d p) o = o ++ K'.flatMap fun t => ((enumK K d).filter fun u => db (p ++ t :: u)).map fun u => p ++ t :: u := by
      intro K'
      induction K' with
      | nil => intro o _; simp
      | cons t r ihr =>
        intro o hr
        rw [List.foldl_cons] at hr ⊢
        have h1 : (fillS db K many d p o t).length ≤ many := Nat.le_trans (foldl_grow _ (fillS_grow db K many d p) r _) hr
        have h2 : o.length ≤ many := Nat.le_trans (fillS_grow db K many d p o t) h1
        have h3 : fillS db K many d p o t = o ++ ((enumK K d).filter fun u => db (p ++ t :: u)).map fun u => p ++ t :: u := by
          unfold fillS at h1 ⊢
          split
          · rename_i hc
            rw [if_pos hc] at h1
            rw [Bool.and_eq_true] at hc
            have e : ∀ u : List Int, p ++ [t] ++ u = p ++ t :: u := fun u => by simp
            rw [fillF_all hw d (p ++ [t]) o h1 (fun h0 => by subst h0; simpa using hc.2)]
            simp only [e]
          · rename_i hc
            have hdb : db (p ++ t :: List.replicate d (-2)) = false := by
              rw [Bool.and_eq_true, decide_eq_true_eq] at hc
              cases hx : db (p ++ t :: List.replicate d (-2))
              · rfl
              · exact absurd ⟨h2, hx⟩ hc
            have hno : ((enumK K d).filter fun u => db (p ++ t :: u)) = [] := by
              rw [List.filter_eq_nil_iff]
              intro u hu hd
              have hul := (mem_enum.1 hu).1
              have e : ∀ u : List Int, p ++ [t] ++ u = p ++ t :: u := fun u => by simp
              have := hw (p ++ [t]) u (by rw [e]; exact hd)
              rw [e, hul, hdb] at this
              cases this
            rw [hno]
            simp
        rw [ihr _ hr, h3, List.flatMap_cons, List.append_assoc]
    rw [key K out hl, enumK, List.filter_flatMap, List.map_flatMap]
    congr 1
    congr 1
    funext t
    rw [List.filter_map, List.map_map]
    rfl
theorem allR_all {db : List Int → Bool} (hw : WildB db) {K : List Int} {many : Nat} : ∀ (k n : Nat) (out L : List (List Int)), allR db K many k n out = some L → L = out ++ (List.range' n k).flatMap fun m => (enumK K m).filter db
  | 0, n, out, L, h => by
    rw [allR] at h
    cases h
    simp
  | k + 1, n, out, L, h => by
    rw [allR] at h
    obtain ⟨o, ho⟩ : ∃ o, (if db (List.replicate n (-2)) = true then fillF db K many n [] out else out) = o := ⟨_, rfl⟩
    rw [ho] at h
    by_cases hc : many < o.length
    · rw [if_pos hc] at h
      cases h
    · rw [if_neg hc] at h
      rw [List.range'_succ, List.flatMap_cons, ← List.append_assoc]
      have e : o = out ++ (enumK K n).filter db := by
        rw [← ho] at hc ⊢
        by_cases hd : db (List.replicate n (-2)) = true
        · rw [if_pos hd] at hc ⊢
          rw [fillF_all hw n [] out (by omega) (fun h0 => by subst h0; exact hd)]
          simp
        · rw [if_neg hd]
          have hno : (enumK K n).filter db = [] := by
            rw [List.filter_eq_nil_iff]
            intro u hu hdu
            have hul := (mem_enum.1 hu).1
            have := hw [] u hdu
            rw [hul] at this
            exact hd this
          rw [hno, List.append_nil]
      rw [e] at h
      exact allR_all hw k (n + 1) _ L h
structure AllSpec (db : List Int → Bool) (K : List Int) (long : Nat) (L : List (List Int)) : Prop where
  mem : ∀ u, u ∈ L ↔ u.length ≤ long ∧ (∀ x ∈ u, x ∈ K) ∧ db u = true
  rise : L.Pairwise fun a b => slB a b = true
theorem allR_spec {db : List Int → Bool} (hw : WildB db) {K : List Int} (hK : K.Pairwise (· < ·)) {many long : Nat} {L : List (List Int)} (h : allR db K many (long + 1) 0 [] = some L) : AllSpec db K long L := by
  have e := allR_all hw (long + 1) 0 [] L h
  rw [List.nil_append] at e
  subst e
  refine ⟨fun u => ?_, ?_⟩
  · rw [List.mem_flatMap]
    constructor
    · rintro ⟨m, hm, hu⟩
      rw [List.mem_filter, mem_enum] at hu
      rw [List.mem_range'_1] at hm
      exact ⟨by omega, hu.1.2, hu.2⟩
    · rintro ⟨h1, h2, h3⟩
      exact ⟨u.length, by rw [List.mem_range'_1]; omega, by rw [List.mem_filter, mem_enum]; exact ⟨⟨rfl, h2⟩, h3⟩⟩
  · have key : ∀ (k n : Nat), ((List.range' n k).flatMap fun m => (enumK K m).filter db).Pairwise fun a b => slB a b = true := by
      intro k
      induction k with
      | zero => intro n; exact List.Pairwise.nil
      | succ k ih =>
        intro n
        rw [List.range'_succ, List.flatMap_cons, List.pairwise_append]
        refine ⟨?_, ih (n + 1), ?_⟩
        · have h1 := ((enum_rise hK n).filter db)
          refine List.Pairwise.imp_of_mem (fun {a b} ha hb hab => ?_) h1
          have ha' := (mem_enum.1 (List.mem_filter.1 ha).1).1
          have hb' := (mem_enum.1 (List.mem_filter.1 hb).1).1
          unfold slB
          rw [if_pos (by rw [ha', hb'])]
          exact hab
        · intro a ha b hb
          obtain ⟨m, hm, hb⟩ := List.mem_flatMap.1 hb
          have ha' := (mem_enum.1 (List.mem_filter.1 ha).1).1
          have hb' := (mem_enum.1 (List.mem_filter.1 hb).1).1
          rw [List.mem_range'_1] at hm
          unfold slB
          rw [if_neg (by omega), decide_eq_true_eq]
          omega
    exact key (long + 1) 0
end Go.Proofs.YtgegjjfjhpokpaaGreatDoor

/- less of chapter 27: by length, then from the left. -/
namespace Go.Proofs.YtgegjjfjhpokpaaGreatDoor
open Go.RowKit

theorem lexB_at : ∀ (j : Nat) (l m : List Int) (h1 : j < l.length) (h2 : j < m.length), (∀ i (h1 : i < l.length) (h2 : i < m.length), i < j → l[i] = m[i]) → l[j] ≠ m[j] → lexB l m = decide (l[j] < m[j])
  | 0, a :: l, b :: m, _, _, _, h => by
    rw [lexB, if_neg (by simpa using h)]
    simp
  | j + 1, a :: l, b :: m, h1, h2, hf, h => by
    have h0 : a = b := hf 0 (by simp) (by simp) (by omega)
    rw [lexB, if_pos h0, lexB_at j l m (by simpa using h1) (by simpa using h2) (fun i h3 h4 h5 => hf (i + 1) (Nat.succ_lt_succ h3) (Nat.succ_lt_succ h4) (by omega)) (by simpa using h)]
    simp
  | _, [], _, h1, _, _, _ => absurd h1 (by simp)
  | _, _ :: _, [], _, h2, _, _ => absurd h2 (by simp)
theorem lexB_self : ∀ l : List Int, lexB l l = false
  | [] => by rw [lexB]; intros; contradiction
  | a :: l => by rw [lexB_pre, lexB_self l]

set_option maxHeartbeats 1000000 in
set_option maxRecDepth 20000 in
theorem less27_ok (l m : List Int) (W : World) (v u : Value) (hl : l.length ≤ 1000000) (hm : m.length ≤ 1000000) (hv : IntsV W W.heap.size v l) (hu : IntsV W W.heap.size u m) :
    Calls Tryz.prog 13 #[v, u] W fun e W' => e = .returned (.bool (slB l m)) ∧ Grew W W' := by
  obtain ⟨a, cap, rfl, hA⟩ := hv
  obtain ⟨b, cap', rfl, hB⟩ := hu
  go_enter Tryz.func13, Tryz.ntmps13
  by_cases hlen : l.length = m.length
  · have hne : ((l.length : Int) != (m.length : Int)) = false := by rw [hlen]; simp
    have HLN := Lib.hid hlen
    rw [hlen]
    rw [hlen] at hne
    clear hlen
    go_wp2
    go_loopw [5] (fun i wr => ∃ (j : Nat), i = .int .i64 j ∧ j ≤ m.length ∧ Hid (∀ i (h1 : i < l.length) (h2 : i < m.length), i < j → l[i] = m[i]) ∧ Hid (Grew W wr)) (fun i _ => m.length - (intOf i).toNat)
    case atStart => exact ⟨0, rfl, by omega, fun i _ _ h => absurd h (by omega), Grew.refl W⟩
    case round =>
      obtain ⟨j, rfl, hj, hf, hbw⟩ := hrel
      by_cases hlt : j < m.length
      · have hlt' : j < l.length := by rw [HLN.out]; exact hlt
        obtain ⟨b1, o1, rfl, hb1, hc1⟩ := hA j hlt'
        obtain ⟨b2, o2, rfl, hb2, hc2⟩ := hB j hlt
        have hz := hbw.out.size
        have d1 : wr.cell? ⟨b1, o1 + j, none⟩ = some (.int .i64 l[j]) := by rw [hbw.out.cells _ _ hb1]; exact hc1
        have d2 : wr.cell? ⟨b2, o2 + j, none⟩ = some (.int .i64 m[j]) := by rw [hbw.out.cells _ _ hb2]; exact hc2
        have l1 : b1 < wr.heap.size := by omega
        have l2 : b2 < wr.heap.size := by omega
        clear hA hB hc1 hc2 hb1 hb2 hz
        by_cases heq : l[j] = m[j]
        · have HEQ := Lib.hid heq
          rw [heq] at d1
          have hne2 : (m[j] != m[j]) = false := by simp
          clear heq
          go_wp2_with fail
          refine wp_region_hav_lit follows (by kernel_rfl) ?_
          repeat (first
            | (refine HavG.skip (fun _ => rfl) ?_; simp only [Act.put, List.setIfInBounds_toArray, List.set_cons_zero, List.set_cons_succ])
            | (refine HavG.val (fun _ => rfl) ?_ (fun x w hw _ => ?_) ?_; rotate_left; (focus (have hc := hw.cells; clear hw; go_simp; first | done | rfl)); simp only [Act.put, List.setIfInBounds_toArray, List.set_cons_zero, List.set_cons_succ]))
          refine HavG.tail (by kernel_rfl) (by kernel_rfl) (fun x w2 hw _ => ?_)
          have HW := Lib.hid hw
          clear hw
          go_wp2_with fail
          go_round
          case rel => exact ⟨j + 1, by go_num, by omega, fun i h1 h2 h3 => (by
            by_cases e : i = j
            · subst e; exact HEQ.out
            · exact hf.out i h1 h2 (by omega)), hbw.out.trans HW.out⟩
          case measure => simp [intOf]; omega
        · have hne2 : (l[j] != m[j]) = true := by simpa using heq
          have HEQ := Lib.hid heq
          clear heq
          go_upto_region 6 with fail
          refine wp_region_hav_lit follows (by kernel_rfl) ?_
          repeat (first
            | (refine HavG.skip (fun _ => rfl) ?_; simp only [Act.put, List.setIfInBounds_toArray, List.set_cons_zero, List.set_cons_succ])
            | (refine HavG.val (fun _ => rfl) ?_ (fun x w hw _ => ?_) ?_; rotate_left; (focus (have hc := hw.cells; clear hw; go_simp; first | done | rfl)); simp only [Act.put, List.setIfInBounds_toArray, List.set_cons_zero, List.set_cons_succ]))
          refine HavG.tail (by kernel_rfl) (by kernel_rfl) (fun x w2 hw _ => ?_)
          have d1' : w2.cell? ⟨b1, o1 + j, none⟩ = some (.int .i64 l[j]) := by rw [hw.cells _ _ l1]; exact d1
          have d2' : w2.cell? ⟨b2, o2 + j, none⟩ = some (.int .i64 m[j]) := by rw [hw.cells _ _ l2]; exact d2
          have l1' : b1 < w2.heap.size := by have := hw.size; omega
          have l2' : b2 < w2.heap.size := by have := hw.size; omega
          have HW := Lib.hid hw
          clear hw d1 d2 l1 l2
          go_upto_region 7 with fail
          refine wp_region_hav_lit follows (by kernel_rfl) ?_
          repeat (first
            | (refine HavG.skip (fun _ => rfl) ?_; simp only [Act.put, List.setIfInBounds_toArray, List.set_cons_zero, List.set_cons_succ])
            | (refine HavG.val (fun _ => rfl) ?_ (fun x w hw _ => ?_) ?_; rotate_left; (focus (have hc := hw.cells; clear hw; go_simp; first | done | rfl)); simp only [Act.put, List.setIfInBounds_toArray, List.set_cons_zero, List.set_cons_succ]))
          refine HavG.tail (by kernel_rfl) (by kernel_rfl) (fun x w2 hw _ => ?_)
          have HW2 := Lib.hid hw
          clear hw
          go_wp2_with fail
          go_ret
          refine ⟨ret_bool ?_, (hbw.out.trans HW.out).trans HW2.out⟩
          symm
          unfold slB
          rw [if_pos HLN.out]
          exact lexB_at j l m hlt' hlt hf.out HEQ.out
      · go_wp2_with fail
        go_ret
        refine ⟨ret_bool ?_, hbw.out⟩
        symm
        have e : l = m := List.ext_getElem HLN.out fun i h1 h2 => hf.out i h1 h2 (by omega)
        subst e
        unfold slB
        rw [if_pos rfl]
        exact lexB_self l
  · have hne : ((l.length : Int) != (m.length : Int)) = true := by simp; omega
    have HLN := Lib.hid hlen
    clear hlen
    go_wp2
    go_ret
    refine ⟨ret_bool ?_, Grew.refl W⟩
    symm
    unfold slB
    rw [if_neg HLN.out]
end Go.Proofs.YtgegjjfjhpokpaaGreatDoor
