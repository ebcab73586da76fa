/- follows.Of: the sets of a grammar. -/
import Derived.Test.YtldoinfbimelpaaQ14
import Derived.Test.YtldoinfbimelpaaQ18
import Derived.Test.YtldoinfbimelpaaQ31
import Derived.Test.YtldoinfbimelpaaQ32
import Derived.Test.YtldoinfbimelpaaQ8
namespace Go.Proofs.Ytldoinfbimelpaa
open Go.RowKit

theorem make_ptrs (n : Nat) (hn : n ≤ 1000) (u : World) : (Instr.makeSlice 30 (.int .i64 (n : Int)) (.int .i64 (n : Int))).run Try.prog u =
    .ok (.slice (some ⟨u.heap.size, 0, none⟩) n n) (u.alloc (.cells (List.replicate n (.pointer none)).toArray 64)) := by
  obtain ⟨i0, hi, hz0, hz1, hz2⟩ := info_parts (show (Try.prog.info? 64).map (fun i => (i.zero, i.size, i.bytes)) = some (some (.pointer none), 1, 8) by kernel_rfl)
  have h := run_make (P := Try.prog) u 30 64 i0 (.pointer none) Try.underlying30 hi hz0 .i64 .i64 (n : Int) (n : Int) (by omega) (Int.le_refl _) (by rw [hz2]; omega) (by omega)
  rw [Int.toNat_natCast, hz1, Nat.mul_one] at h
  rw [h]
  have : madeCells (Value.pointer none).cells n = (List.replicate n (Value.pointer none)).toArray := by
    unfold madeCells
    apply Array.ext
    · simp
    · intro k h1 h2
      simp [Value.cells, Nat.mod_one]
  rw [this]

/-- what is wanted of the grammar -/
structure OfPre (g : Gr) (es : List Bool) (st : Nat) : Prop where
  few : g.Few
  fine : ∀ es' M N, g.IsEmpty es' → IsReach (g.Once es') g.rules.length M → IsReach g.rd0 g.rules.length N → g.told es' (at2 M) (at2 N) = []
  empty : ∀ es', g.IsEmpty es' → es' = es
  len : es.length = g.rules.length
  names : ∀ i j (hi : i < g.rules.length) (hj : j < g.rules.length), g.rules[i].name = g.rules[j].name → i = j
  st : ∃ h : st < g.rules.length, g.start = (st : Int) ∧ g.rules[st].sort = 0

theorem cell_but {F : Nat → Prop} {w w' : World} (h : But F w w') {b o : Nat} {v : Value} (hc : w.cell? ⟨b, o, none⟩ = some v) (hn : ¬F b) : w'.cell? ⟨b, o, none⟩ = some v := by
  have hl := lt_of_cell hc
  rw [World.cell?_of_block (w := w) (h.block b hl hn)]
  exact hc
theorem cell_map {w : World} {b b' o : Nat} {v : Value} {L : List (Value × Value)} (hc : w.cell? ⟨b, o, none⟩ = some v) (h' : w.heap[b']? = some (mapObj L)) : b ≠ b' := by
  rintro rfl
  unfold mapObj at h'
  simp [World.cell?, h'] at hc
theorem grewRel : Rel Grew := ⟨Grew.refl, fun h k => h.trans k, fun w => (Below.refl _ w).drew⟩
theorem fset_new : ∀ x y w v w', (Instr.makeSlice 60 x y).run Try.prog w = .ok v w' → NewV v w w' := fun x y w v w' h => by
  obtain ⟨i0, hi, hz0, hz1, hz2⟩ := info_parts info_bool
  exact run_make_new Try.underlying60 hi hz0 x y v w' h
/-- a row that was made -/
def RowN (B n : Nat) (v : Value) (w : World) : Prop := ∃ f, v = .slice (some ⟨f, 0, none⟩) n n ∧ Owns w f (fbs (List.replicate n false)) 4 ∧ B ≤ f
/-- a new name in a map of places -/
theorem run_name_put {P : Program} {w : World} {t kt e : TypeId} {b k : Nat} {nm : ByteArray} {l : List (ByteArray × Nat)} (ht : P.underlying t = some (.map kt e)) (hkt : P.underlying kt = some .string) (hb : w.heap[b]? = some (mapObj (mapL l))) (hn : lookB l nm = none) :
    (Instr.mapUpdate t (.map (some b)) (.string nm) (.int .i64 k)).run P w = .ok () (putObj w b (mapObj (mapL (l ++ [(nm, k)])))) := by
  have hK : KeyRun P w kt (.string nm) (fun v => match v with | .string b => nm == b | _ => false) (mapL l) := KeyRun.string hkt fun x hx => by
    obtain ⟨y, -, rfl⟩ := List.mem_map.1 hx
    exact ⟨y.1, rfl, rfl⟩
  have hno : ∀ x ∈ mapL l, (match x.1 with | .string b => nm == b | _ => false) = false := by
    have : ∀ (l : List (ByteArray × Nat)), lookB l nm = none → ∀ x ∈ l, (nm == x.1) = false := by
      intro l
      induction l with
      | nil => intro _ x hx; simp at hx
      | cons y r ih =>
        intro h x hx
        rw [lookB] at h
        split at h
        · cases h
        · rename_i hc
          rcases List.mem_cons.1 hx with rfl | hx
          · simpa using hc
          · exact ih h x hx
    intro x hx
    obtain ⟨y, hy, rfl⟩ := List.mem_map.1 hx
    exact this l hn y hy
  have h := run_update_new (x := .int .i64 k) ht hb hK hno
  rw [h]
  simp [mapL]

set_option maxHeartbeats 4000000 in
set_option maxRecDepth 40000 in
theorem fsOf_ok (g : Gr) (es : List Bool) (st : Nat) (hp : OfPre g es st) (K : Nat → Nat) (he : Hid ((FS.begun g es st).Ends K)) (W : World) (v0 v1 v2 v3 : Value) (hG : GrAt W W.heap.size (some v0) (some v1) (some v2) (some v3) g)
    (hfit : ∀ i (h : i < g.rules.length), ∃ b off n c, v3 = .slice (some ⟨b, off, none⟩) n c ∧ FitAt W W.heap.size (W.cell? ⟨b, off + i * 10 + 6, none⟩) g.rules[i].body) :
    Calls Try.prog 15 #[.agg #[v0, v1, v2, v3]] W (OfIs g es st K W) := by
  have hG0 := hG
  have HFIT := Lib.hid hfit
  clear hfit
  obtain ⟨q1, -, q2, q3, q4, q5, ra, rc, q6, -, hrules⟩ := hG0
  obtain rfl := Option.some.inj q1
  obtain rfl := Option.some.inj q2
  obtain rfl := Option.some.inj q3
  obtain rfl := Option.some.inj q6
  obtain ⟨Q, hQ⟩ : ∃ Q, OfIs g es st K W = Q := ⟨_, rfl⟩
  rw [hQ]
  have HQ9 := Lib.hid hQ
  clear hQ
  obtain ⟨w1, hw1⟩ : ∃ w1, W.alloc (.cells #[.string g.name, .int .i64 g.bound, .int .i64 g.states, .slice ra g.rules.length rc] 54) = w1 := ⟨_, rfl⟩
  have g1 : Grew W w1 := hw1 ▸ grew_alloc W _
  have o1 : Owns w1 W.heap.size [.string g.name, .int .i64 g.bound, .int .i64 g.states, .slice ra g.rules.length rc] 54 := hw1 ▸ Owns.alloc W _ _
  have hlen := hp.few.len
  have HP := Lib.hid hp
  have HG1 := Lib.hid g1
  have HO1 := Lib.hid o1
  have HGR := Lib.hid hG
  have HC := Lib.hid (cfine_ok g hp.few w1 _ _ _ _ ((hG.keep g1).mono g1.size))
  have c0 := o1.cell_at (i := 0) rfl
  have c1 := o1.cell_at (i := 1) rfl
  have c2 := o1.cell_at (i := 2) rfl
  have c3 := o1.cell_at (i := 3) rfl
  have cl := o1.lt
  clear hp g1 o1 hG q1 q2 q3 q4 q5 q6 hrules
  go_enter Try.func15, Try.ntmps15
  go_wp2_with fail
  refine HC.out.mono ?_
  rintro e w2 ⟨es', M, N, rfl, he, hM, hN, hg2⟩
  rw [HP.out.fine es' M N he hM hN]
  clear he hM hN hw1 HC
  have o2 := HO1.out.keep hg2
  have d0 := o2.cell_at (i := 0) rfl
  have d1 := o2.cell_at (i := 1) rfl
  have d2 := o2.cell_at (i := 2) rfl
  have d3 := o2.cell_at (i := 3) rfl
  have dl := o2.lt
  have HG2 := Lib.hid (HG1.out.trans hg2)
  have HG1w := Lib.hid (show Grew w1 w2 from hg2)
  clear o2 hg2 c0 c1 c2 c3 cl
  simp only [List.isEmpty_nil]
  obtain ⟨L, hL⟩ : ∃ L, g.rules.length = L := ⟨_, rfl⟩
  have HL := Lib.hid hL
  obtain ⟨B, hB⟩ : ∃ B, w2.heap.size = B := ⟨_, rfl⟩
  have HBB := Lib.hid hB
  have hmk : ∀ (t : TypeId) (w : World), (Instr.makeMap t none).run Try.prog w = .ok (.map (some w.heap.size)) (w.alloc (.map #[] 0)) := fun _ _ => rfl
  obtain ⟨wA, hwA⟩ : ∃ wA, w2.alloc (.map #[] 0) = wA := ⟨_, rfl⟩
  obtain ⟨wB, hwB⟩ : ∃ wB, wA.alloc (.map #[] 0) = wB := ⟨_, rfl⟩
  obtain ⟨wC, hwC⟩ : ∃ wC, wB.alloc (.cells (List.replicate L (.pointer none)).toArray 64) = wC := ⟨_, rfl⟩
  obtain ⟨wD, hwD⟩ : ∃ wD, wC.alloc (.cells #[.map (some B), .map (some (B + 1)), .slice (some ⟨B + 1 + 1, 0, none⟩) L L] 32) = wD := ⟨_, rfl⟩
  have zA : wA.heap.size = B + 1 := by rw [← hwA, ← hB]; exact World.size_alloc _ _
  have zB : wB.heap.size = B + 1 + 1 := by rw [← hwB, ← zA]; exact World.size_alloc _ _
  have zC : wC.heap.size = B + 1 + 1 + 1 := by rw [← hwC, ← zB]; exact World.size_alloc _ _
  have gA : Grew w2 wA := hwA ▸ grew_alloc w2 _
  have gB : Grew wA wB := hwB ▸ grew_alloc wA _
  have gC : Grew wB wC := hwC ▸ grew_alloc wB _
  have gD : Grew wC wD := hwD ▸ grew_alloc wC _
  have hm1 : ∀ ty, (Instr.makeMap ty none).run Try.prog w2 = .ok (.map (some B)) wA := fun ty => by rw [hmk, hwA, hB]
  have hm2 : ∀ ty, (Instr.makeMap ty none).run Try.prog wA = .ok (.map (some (B + 1))) wB := fun ty => by rw [hmk, hwB, zA]
  have hm3 : (Instr.makeSlice 30 (.int .i64 (L : Int)) (.int .i64 (L : Int))).run Try.prog wB = .ok (.slice (some ⟨B + 1 + 1, 0, none⟩) L L) wC := by rw [make_ptrs L (by omega), hwC, zB]
  have gAB := gA.trans gB
  have oM1 : wD.heap[B]? = some (mapObj []) := by
    have h1 : wA.heap[B]? = some (mapObj []) := by rw [← hwA, ← hB]; exact World.alloc_heap_new _ _
    rw [((gB.trans gC).trans gD).block B (by omega)]; exact h1
  have oM2 : wD.heap[B + 1]? = some (mapObj []) := by
    have h1 : wB.heap[B + 1]? = some (mapObj []) := by rw [← hwB, ← zA]; exact World.alloc_heap_new _ _
    rw [(gC.trans gD).block (B + 1) (by omega)]; exact h1
  have oR : Owns wD (B + 1 + 1) (List.replicate L (.pointer none)) 64 := by
    have h1 : Owns wC (B + 1 + 1) (List.replicate L (.pointer none)) 64 := by rw [← hwC, ← zB]; exact Owns.alloc wB _ _
    exact h1.keep gD
  have oS : Owns wD (B + 1 + 1 + 1) [.map (some B), .map (some (B + 1)), .slice (some ⟨B + 1 + 1, 0, none⟩) L L] 32 := by rw [← hwD, ← zC]; exact Owns.alloc wC _ _
  have hGD := ((gAB.trans gC).trans gD)
  have p0 := (gA.cells _ 0 dl).trans d0
  have p1 := (gA.cells _ 1 dl).trans d1
  have p2 := (gA.cells _ 2 dl).trans d2
  have p3 := (gA.cells _ 3 dl).trans d3
  have pl := Nat.lt_of_lt_of_le dl gA.size
  have q0 := (gB.cells _ 0 pl).trans p0
  have q1 := (gB.cells _ 1 pl).trans p1
  have q2 := (gB.cells _ 2 pl).trans p2
  have q3 := (gB.cells _ 3 pl).trans p3
  have ql := Nat.lt_of_lt_of_le pl gB.size
  have HGD := Lib.hid (HG2.out.trans hGD)
  have HGG := Lib.hid (HG1w.out.trans hGD)
  clear hmk hwA hwB hwC gA gB gC gD gAB hGD p0 p1 p2 p3 d0 d1 d2 zA zB hB
  rw [hL] at d3 q3 hlen
  clear hL
  obtain ⟨wE, hwE⟩ : ∃ wE, wD.alloc (.cells #[.int .u8 1, .int .u8 3] 43) = wE := ⟨_, rfl⟩
  have gE : Grew wD wE := hwE ▸ grew_alloc wD _
  have hso : SortsAt wE wD.heap.size [1, 3] := by
    have ho : Owns wE wD.heap.size [.int .u8 1, .int .u8 3] 43 := hwE ▸ Owns.alloc wD _ _
    refine ⟨ho.lt, fun k hk => ?_⟩
    have hk : k = 0 ∨ k = 1 := by simp at hk; omega
    rcases hk with rfl | rfl
    · exact ho.cell_at (i := 0) rfl
    · exact ho.cell_at (i := 1) rfl
  have HOT := Lib.hid (mof_ok g [1, 3] (by simp) wE _ _ _ _ ((HGR.out.keep (HGD.out.trans gE)).mono (HGD.out.trans gE).size) (by rw [HL.out]; omega) wD.heap.size 2 hso)
  have HGE := Lib.hid (HGD.out.trans gE)
  have HGDE := Lib.hid gE
  obtain ⟨T, hT⟩ : ∃ T, g.of [1, 3] = T := ⟨_, rfl⟩
  have HT := Lib.hid hT
  rw [hT] at HOT
  clear gE hso hT
  have oD := HO1.out.keep HGG.out
  have e0 := oD.cell_at (i := 0) rfl
  have e1 := oD.cell_at (i := 1) rfl
  have e2 := oD.cell_at (i := 2) rfl
  have e3 := oD.cell_at (i := 3) rfl
  have el := oD.lt
  skip
  clear oD
  have HM1 := Lib.hid oM1
  have HM2 := Lib.hid oM2
  have HRW := Lib.hid oR
  have HSB := Lib.hid oS
  clear oM1 oM2 oR oS
  go_wp2_with fail
  refine HOT.out.mono ?_
  rintro e wF ⟨tv, rfl, hrow, hgF⟩
  obtain ⟨ta, tc, rfl⟩ : ∃ a c, tv = .slice a T.length c := loose_form hrow
  have HTI := Lib.hid (loose_ints hrow)
  have htl9 : T.length ≤ 60 := by rw [← HT.out]; have := Gr.ofTo_len g [1, 3] g.rules.length; unfold Gr.of; rw [HL.out] at this ⊢; omega
  have hGF := HGDE.out.trans hgF
  have HGF := Lib.hid (HGE.out.trans hgF)
  have hm1 : wF.heap[B]? = some (mapObj []) := by rw [hGF.block B (Array.getElem?_eq_some_iff.1 HM1.out).1]; exact HM1.out
  have hm2 : wF.heap[B + 1]? = some (mapObj []) := by rw [hGF.block (B + 1) (Array.getElem?_eq_some_iff.1 HM2.out).1]; exact HM2.out
  have HM1 := Lib.hid hm1
  have HM2 := Lib.hid hm2
  have HM2' := Lib.hid hm2
  have HRW := Lib.hid (HRW.out.keep hGF)
  have HSB := Lib.hid (HSB.out.keep hGF)
  have HOG := Lib.hid ((HO1.out.keep HGG.out).keep hGF)
  have HRG := Lib.hid (HGR.out.keep HGF.out)
  clear hrow hgF hGF hm1 hm2 e0 e1 e2 e3 el HOT
  go_wp2_with fail
  go_loopw [30] (fun c wr => ∃ (j : Nat), c = .int .i64 j ∧ j ≤ T.length ∧ Hid (But (fun q => q = B + 1) wF wr) ∧ Hid (wr.heap[B + 1]? = some (mapObj (mapL (tokTo g T j))))) (fun c _ => T.length - (intOf c).toNat)
  case atStart => exact ⟨0, rfl, by omega, But.refl _ _, HM2.out⟩
  case round =>
    obtain ⟨j, rfl, hj, HB, HM⟩ := hrel
    by_cases hlt : j < T.length
    · as_aux_lemma => -- ok
      have hTj : (g.of [1, 3])[j]? = some (T[j]) := by rw [HT.out]; exact List.getElem?_eq_getElem hlt
      obtain ⟨k, hk, hTk, -⟩ := of_get hTj
      obtain ⟨ta', tc', hta, hin⟩ := HTI.out
      cases hta
      obtain ⟨tb, to', rfl, htl, htc⟩ := hin j hlt
      rw [hTk] at htc hTj
      have hne := cell_map htc HM2.out
      have t0 := cell_but HB.out htc hne
      have tl := Nat.lt_of_lt_of_le htl HB.out.size
      obtain ⟨-, -, -, -, -, -, xra, xrc, hxr, -, hrules⟩ := HRG.out
      cases hxr
      obtain ⟨rb, ro, rfl, hrb, hrule⟩ := hrules.get hk
      simp only [Nat.zero_add] at hrule
      obtain ⟨x2, x3, x4, x5, x6, f0, f1, f2, f3, f4, f5, f6, f7, f8, f9, -, -⟩ := hrule.vals
      have hnr := cell_map f0 HM2.out
      have g0 := cell_but HB.out f0 hnr
      have g1 := cell_but HB.out f1 hnr
      have gl : rb < wr.heap.size := lt_of_cell g0
      have og := HB.out.owns HOG.out (owns_map HOG.out HM2.out)
      have e3 := og.cell_at (i := 3) rfl
      have el := og.lt
      have os := HB.out.owns HSB.out (owns_map HSB.out HM2.out)
      have s1 := os.cell_at (i := 1) rfl
      have sl := os.lt
      have hkl : (k : Int) < (g.rules.length : Int) := by omega
      have hk0 : (0 : Int) ≤ (k : Int) := by omega
      have HNEW := Lib.hid (tok_new HP.out.names hTj hk)
      rw [HT.out] at HNEW
      have hnx : tokTo g T (j + 1) = if g.rules[k].sort = 1 then tokTo g T j ++ [(g.rules[k].name, j)] else tokTo g T j := by
        rw [tokTo]
        rw [HT.out] at hTj
        rw [hTj]
        simp only [Int.toNat_natCast, List.getElem?_eq_getElem hk]
      have HNX := Lib.hid hnx
      have HUP := Lib.hid (fun w' (hg : Grew wr w') => run_name_put (P := Try.prog) (w := w') (t := 29) (nm := g.rules[k].name) (k := j) (l := tokTo g T j) Try.underlying29 Try.underlying9 (by rw [hg.block _ (Array.getElem?_eq_some_iff.1 HM.out).1]; exact HM.out) HNEW.out)
      have hkk := hk
      clear hTj hTk hin htc hne htl hrules hrule f0 f1 f2 f3 f4 f5 f6 f7 f8 f9 hnr og os hnx
      by_cases hs1 : g.rules[k].sort = 1
      · have hsb : (g.rules[k].sort == 1) = true := by rw [hs1]; rfl
        go_upto_region 9 with fail
        refine wp_region_hav_lit follows (by kernel_rfl) ?_
        repeat (first
          | (refine HavG.skip (fun _ => rfl) ?_; simp only [Act.put, List.setIfInBounds_toArray, List.set_cons_zero, List.set_cons_succ])
          | (refine HavG.val (fun _ => rfl) ?_ (fun x w hw _ => ?_) ?_; rotate_left; (focus (have hc := hw.cells; clear hw; go_simp; first | done | rfl)); simp only [Act.put, List.setIfInBounds_toArray, List.set_cons_zero, List.set_cons_succ]))
        refine HavG.tail (by kernel_rfl) (by kernel_rfl) (fun x w hw _ => ?_)
        have HUW := Lib.hid (HUP.out w hw)
        have HW9 := Lib.hid hw
        clear hw HUP t0 tl g0 g1 gl e3 el s1 sl
        go_wp2_with fail
        rw [HUW.out]
        simp only [Result.andThen]
        rw [if_pos hs1] at HNX
        have hMw : w.heap[B + 1]? = some (mapObj (mapL (tokTo g T j))) := by rw [HW9.out.block _ (Array.getElem?_eq_some_iff.1 HM.out).1]; exact HM.out
        have HB9 := Lib.hid (HB.out.trans (But.trans (But.of_grew (F := fun q => q = B + 1) HW9.out) (But.put (b := B + 1) (o := mapObj (mapL (tokTo g T j ++ [(g.rules[k].name, j)]))) (F := fun q => q = B + 1) rfl) (fun _ _ h => h)) (fun _ _ h => h))
        have HM9 := Lib.hid (putObj_same (Array.getElem?_eq_some_iff.1 hMw).1 (mapObj (mapL (tokTo g T j ++ [(g.rules[k].name, j)]))))
        clear hMw
        generalize putObj w (B + 1) (mapObj (mapL (tokTo g T j ++ [(g.rules[k].name, j)]))) = w9 at *
        go_wp2_with fail
        refine ⟨⟨j + 1, by go_num, by omega, HB9.out, by rw [HNX.out]; exact HM9.out⟩, by simp [intOf]; omega⟩
      · have hsb : (g.rules[k].sort == 1) = false := beq_eq_false_iff_ne.2 hs1
        rw [if_neg hs1] at HNX
        go_wp2_with fail
        refine ⟨⟨j + 1, by go_num, by omega, HB.out, by rw [HNX.out]; exact HM.out⟩, by simp [intOf]; omega⟩
    · obtain rfl : j = T.length := by omega
      have hB0 : W.heap.size + 1 ≤ B := by have h1 := HG1w.out.size; have h2 := HO1.out.lt; have h3 := HBB.out; omega
      have hbl : Below W.heap.size wF wr := HB.out.below HGF.out.size (fun q e => by subst e; omega)
      have HGW := Lib.hid (show Grew W wr from Below.trans HGF.out hbl)
      have hrg := HRG.out.keep hbl
      have og := HB.out.owns HOG.out (owns_map HOG.out HM2.out)
      have e0 := og.cell_at (i := 0) rfl
      have e1 := og.cell_at (i := 1) rfl
      have e2 := og.cell_at (i := 2) rfl
      have e3 := og.cell_at (i := 3) rfl
      have el := og.lt
      have HEM := Lib.hid (empty_ok g wr _ _ _ _ (hrg.mono HGW.out.size))
      have HRG := Lib.hid hrg
      have HOG := Lib.hid og
      have HM1 := Lib.hid (show wr.heap[B]? = some (mapObj []) by rw [HB.out.block B (Array.getElem?_eq_some_iff.1 HM1.out).1 (by omega)]; exact HM1.out)
      have HM2 := HM
      have HRW := Lib.hid (HB.out.owns HRW.out (owns_map HRW.out HM2'.out))
      have HSB := Lib.hid (HB.out.owns HSB.out (owns_map HSB.out HM2'.out))
      have HB0 := Lib.hid hB0
      clear hbl hrg og hB0
      go_wp2_with fail
      refine HEM.out.mono ?_
      rintro e wG ⟨eb, es', rfl, hes, hoe, hle, hgG⟩
      obtain rfl := HP.out.empty es' hes
      have HEL := Lib.hid HP.out.len
      have hgG : Grew wr wG := hgG
      obtain ⟨wH, hwH⟩ : ∃ wH, wG.alloc (.cells #[.int .u8 0] 43) = wH := ⟨_, rfl⟩
      have gH : Grew wG wH := hwH ▸ grew_alloc wG _
      have hso : SortsAt wH wG.heap.size [0] := by
        have ho : Owns wH wG.heap.size [.int .u8 0] 43 := hwH ▸ Owns.alloc wG _ _
        refine ⟨ho.lt, fun k hk => ?_⟩
        have hk : k = 0 := by simp at hk; omega
        subst hk
        exact ho.cell_at (i := 0) rfl
      have hGH : Grew wr wH := hgG.trans gH
      have HOP := Lib.hid (mof_ok g [0] (by simp) wH _ _ _ _ ((HGR.out.keep (HGW.out.trans hGH)).mono (HGW.out.trans hGH).size) (by rw [HL.out]; omega) wG.heap.size 1 hso)
      obtain ⟨P, hP⟩ : ∃ P, g.of [0] = P := ⟨_, rfl⟩
      have HPP := Lib.hid hP
      rw [hP] at HOP
      have HGH := Lib.hid hGH
      have HEB := Lib.hid (hoe.keep gH)
      have ogG := HOG.out.keep hgG
      have e0 := ogG.cell_at (i := 0) rfl
      have e1 := ogG.cell_at (i := 1) rfl
      have e2 := ogG.cell_at (i := 2) rfl
      have e3 := ogG.cell_at (i := 3) rfl
      have el := ogG.lt
      clear gH hso hP hgG hGH hle hoe hes ogG HEM
      go_wp2_with fail
      refine HOP.out.mono ?_
      rintro e wI ⟨pv, rfl, hrow, hgI⟩
      obtain ⟨pa, pc, rfl⟩ : ∃ a c, pv = .slice a P.length c := loose_form hrow
      have HROW := Lib.hid hrow
      have hGI := HGH.out.trans hgI
      have HGI := Lib.hid (HGW.out.trans hGI)
      have HEB := Lib.hid (HEB.out.keep hgI)
      have HOG := Lib.hid (HOG.out.keep hGI)
      have HRW := Lib.hid (HRW.out.keep hGI)
      have HSB := Lib.hid (HSB.out.keep hGI)
      have hm1 : wI.heap[B]? = some (mapObj []) := by rw [hGI.block B (Array.getElem?_eq_some_iff.1 HM1.out).1]; exact HM1.out
      have hm2 : wI.heap[B + 1]? = some (mapObj (mapL (tokTo g T T.length))) := by rw [hGI.block (B + 1) (Array.getElem?_eq_some_iff.1 HM.out).1]; exact HM.out
      have hpl9 : P.length ≤ 60 := by rw [← HPP.out]; have := Gr.ofTo_len g [0] g.rules.length; unfold Gr.of; rw [HL.out] at this ⊢; omega
      have hS0 : SetsAt wI ⟨B + 1 + 1 + 1, B, B + 1, B + 1 + 1, fun _ => 0, fun _ => 0, fun _ => 0, fun _ => []⟩ (FS.ofTo g es' T P 0) := by
        have hnone : ∀ i, (FS.ofTo g es' T P 0).at i = none := fun i => by
          unfold FS.at FS.ofTo
          simp only [List.getElem?_replicate]
          split <;> rfl
        refine ⟨?_, hm1, hm2, ?_, fun i r hi => by rw [hnone] at hi; cases hi⟩
        · show Owns wI _ [_, _, .slice _ (List.replicate g.rules.length none).length (List.replicate g.rules.length none).length] _
          rw [List.length_replicate, HL.out]
          exact HSB.out
        · have hpt : FV.ptrs ⟨B + 1 + 1 + 1, B, B + 1, B + 1 + 1, fun _ => 0, fun _ => 0, fun _ => 0, fun _ => []⟩ (FS.ofTo g es' T P 0) = List.replicate L (.pointer none) := by
            unfold FV.ptrs FV.ptr
            rw [(ofTo_len g es' T P 0).1, HL.out]
            apply List.ext_getElem
            · simp
            · intro i h1 h2
              simp [hnone]
          rw [hpt]
          exact HRW.out
      have HS0 := Lib.hid hS0
      have HB1 := Lib.hid HB0.out
      clear hrow hgI hGI hm1 hm2 e0 e1 e2 e3 el HOP hS0
      go_wp2_with fail
      clear hlt
      go_loopw [60] (fun c wr => ∃ (j : Nat) (V : FV), c = .int .i64 j ∧ j ≤ P.length ∧ Hid (V.sb = B + 1 + 1 + 1 ∧ V.pm = B ∧ V.tm = B + 1 ∧ V.rb = B + 1 + 1) ∧ Hid (PreAt wr W.heap.size V (FS.ofTo g es' T P j)) ∧ Hid (But (fun q => q = B ∨ q = B + 1 + 1) wI wr)) (fun c _ => P.length - (intOf c).toNat)
      case atStart => exact ⟨0, ⟨B + 1 + 1 + 1, B, B + 1, B + 1 + 1, fun _ => 0, fun _ => 0, fun _ => 0, fun _ => []⟩, rfl, by omega, ⟨rfl, rfl, rfl, rfl⟩, ⟨HS0.out, fun i j r q hi => by
          obtain ⟨k, hk, -⟩ := ofTo_at (hP := fun y hy => by
            rw [← HPP.out] at hy
            obtain ⟨n, hn⟩ := List.mem_iff_getElem?.1 hy
            obtain ⟨k, -, rfl, -⟩ := of_get hn
            omega) hi
          omega, fun i r hi => by
          obtain ⟨k, hk, -⟩ := ofTo_at (hP := fun y hy => by
            rw [← HPP.out] at hy
            obtain ⟨n, hn⟩ := List.mem_iff_getElem?.1 hy
            obtain ⟨k, -, rfl, -⟩ := of_get hn
            omega) hi
          omega, fun i r hi => by
          obtain ⟨k, hk, -⟩ := ofTo_at (hP := fun y hy => by
            rw [← HPP.out] at hy
            obtain ⟨n, hn⟩ := List.mem_iff_getElem?.1 hy
            obtain ⟨k, -, rfl, -⟩ := of_get hn
            omega) hi
          omega⟩, But.refl _ _⟩
      case round =>
        obtain ⟨j, V, rfl, hj, HV, HPR, HBW⟩ := hrel
        by_cases hlt : j < P.length
        · as_aux_lemma => -- ok
          -- RULES
          have hPj : (g.of [0])[j]? = some (P[j]) := by rw [HPP.out]; exact List.getElem?_eq_getElem hlt
          obtain ⟨k, hk, hPk, -⟩ := of_get hPj
          rw [hPk] at hPj
          obtain ⟨pb, hpa, hpc, cs, hpo⟩ : ∃ pb, pa = some ⟨pb, 0, none⟩ ∧ wI.cell? ⟨pb, j, none⟩ = some (.int .i64 (k : Int)) ∧ ∃ cs, wI.heap[pb]? = some (.cells cs 3 (0, 0)) := by
            have hr := HROW.out
            rcases hr.2 with ⟨h1, h0⟩ | ⟨b, cap, cur, hv, h2⟩
            · omega
            · injection hv with h3 h4 h5
              have hr' := HROW.out
              rw [h3] at hr'
              refine ⟨b, h3, ?_, (row_own hr' rfl).2⟩
              have := looseRow_cells hr' (g := b) rfl j (.int .i64 (k : Int)) (by simp [intVs, List.getElem?_eq_getElem hlt, hPk])
              exact this
          subst hpa
          have hpB : pb ≠ B := fun e => by rw [e] at hpo; rw [HS0.out.places] at hpo; cases hpo
          have hpR : pb ≠ B + 1 + 1 := fun e => by
            have h1 := HS0.out.row
            unfold Owns at h1
            rw [e] at hpo
            rw [show (FV.mk (B + 1 + 1 + 1) B (B + 1) (B + 1 + 1) (fun _ => 0) (fun _ => 0) (fun _ => 0) (fun _ => [])).rb = B + 1 + 1 from rfl, hpo] at h1
            have h3 := Option.some.inj h1
            injection h3 with _ ht _
            exact absurd ht (by decide)
          have t0 := cell_but HBW.out hpc (fun e => e.elim hpB hpR)
          have tl : pb < wr.heap.size := lt_of_cell t0
          have hFB : ∀ q, (q = B ∨ q = B + 1 + 1) → W.heap.size ≤ q := fun q e => by have := HB1.out; rcases e with e | e <;> omega
          have hbW : Below W.heap.size W wr := Below.trans HGI.out (HBW.out.below HGI.out.size hFB)
          have hWr : W.heap.size ≤ wr.heap.size := hbW.size
          have hgr := HGR.out.keep hbW
          obtain ⟨-, -, -, -, -, -, xra, xrc, hxr, -, hrules⟩ := hgr
          cases hxr
          obtain ⟨fb, fo, fn, fc, hfx, hfitk⟩ := HFIT.out k hk
          cases hfx
          obtain ⟨rb, ro, hrr, hrb, hrule⟩ := hrules.get hk
          cases hrr
          simp only [Nat.zero_add] at hrule
          obtain ⟨x2, x3, x4, x5, x6, f0, f1, f2, f3, f4, f5, f6, f7, f8, f9, hrule, hnode⟩ := hrule.vals
          have hfit9 : FitAt wr W.heap.size (some x6) g.rules[k].body := by
            have := hfitk.keep hbW
            have hc : W.cell? ⟨fb, fo + k * 10 + 6, none⟩ = some x6 := by rw [← hbW.cell (p := ⟨fb, fo + k * 10 + 6, none⟩) hrb]; exact f6
            rw [hc] at this
            exact this
          obtain ⟨m0, m1, m2, m3, m4, m5, m6, m7, m8, rfl, rfl, rfl, rfl, rfl⟩ := hnode.forms
          have hrl : fb < wr.heap.size := lt_of_cell f0
          obtain ⟨wR, hwR⟩ : ∃ wR, wr.alloc (.cells #[.string g.rules[k].name, .int .u8 g.rules[k].sort, .int .u8 m0, .string m1, .string m2, .slice m3 m4 m5, .slice m6 m7 m8, .int .i64 g.rules[k].p0, .int .i64 g.rules[k].p1, .int .i64 g.rules[k].p2] 47) = wR := ⟨_, rfl⟩
          have gR : Grew wr wR := hwR ▸ grew_alloc wr _
          have oR : Owns wR wr.heap.size [.string g.rules[k].name, .int .u8 g.rules[k].sort, .int .u8 m0, .string m1, .string m2, .slice m3 m4 m5, .slice m6 m7 m8, .int .i64 g.rules[k].p0, .int .i64 g.rules[k].p1, .int .i64 g.rules[k].p2] 47 := hwR ▸ Owns.alloc wr _ _
          have og := HBW.out.owns HOG.out (fun e => by have := HB1.out; rcases e with e | e <;> omega)
          have e3 := og.cell_at (i := 3) rfl
          have el := og.lt
          obtain ⟨v1, v2, v3, v4⟩ := HV.out
          have hsx := HPR.out.sets
          have hLr : (FS.ofTo g es' T P j).rules.length = L := by rw [(ofTo_len g es' T P j).1, HL.out]
          have hSn : (FS.ofTo g es' T P j).n = T.length + 1 := (ofTo_len g es' T P j).2.1
          have os := hsx.box
          rw [hLr, v1, v2, v3, v4] at os
          have s0 := (os.keep gR).cell_at (i := 0) rfl
          have sl := (os.keep gR).lt
          have orr := oR.cell_at (i := 0) rfl
          have orl := oR.lt
          have hkl : (k : Int) < (L : Int) := by have := HL.out; omega
          have hkg : (k : Int) < (g.rules.length : Int) := by omega
          have hk0 : (0 : Int) ≤ (k : Int) := by omega
          have hm9 : wR.heap[B]? = some (mapObj (mapL (FS.ofTo g es' T P j).places)) := by
            have h1 := hsx.places
            rw [v2] at h1
            rw [gR.block B (Array.getElem?_eq_some_iff.1 h1).1]; exact h1
          have HNEW := Lib.hid (place_new (es := es') (T := T) HP.out.names hPj hk)
          rw [HPP.out] at HNEW
          have hnx : FS.ofTo g es' T P (j + 1) = (FS.ofTo g es' T P j).addRule k g.rules[k] (es'.getD k false) := by
            rw [FS.ofTo]
            rw [HPP.out] at hPj
            rw [hPj]
            simp only [Int.toNat_natCast, List.getElem?_eq_getElem hk]
          have HNX := Lib.hid hnx
          have HUP := Lib.hid (fun w' (hg : Grew wR w') => run_name_put (P := Try.prog) (w := w') (t := 29) (nm := g.rules[k].name) (k := k) (l := (FS.ofTo g es' T P j).places) Try.underlying29 Try.underlying9 (by rw [hg.block _ (Array.getElem?_eq_some_iff.1 hm9).1]; exact hm9) HNEW.out)
          have HM9 := Lib.hid hm9
          have HGR9 := Lib.hid gR
          have HOR := Lib.hid oR
          have HOS := Lib.hid os
          have HND := Lib.hid hnode
          have HFT := Lib.hid hfit9
          have HBW2 := Lib.hid hbW
          have HLR := Lib.hid hLr
          have HSN := Lib.hid hSn
          have HKK := Lib.hid hk
          have hoe := HBW.out.owns HEB.out (fun e => by
            rcases e with e | e
            · exact owns_map HEB.out HS0.out.places e
            · exact owns_ne HEB.out HS0.out.row (by decide) e)
          have HOE := Lib.hid hoe
          clear hPj hPk hpc hpo hpB hpR hFB hbW hrules hfitk hrule hnode hfit9 gR oR og os hsx hLr hSn hm9 hnx hoe v1 v2 v3 v4
          go_upto_region 16 with fail
          clear t0 tl f0 f1 f2 f3 f4 f5 f6 f7 f8 f9 e3 el hrl hwR
          refine wp_region_hav_lit follows (by kernel_rfl) ?_
          repeat (first
            | (refine HavG.skip (fun _ => rfl) ?_; simp only [Act.put, List.setIfInBounds_toArray, List.set_cons_zero, List.set_cons_succ])
            | (refine HavG.val (fun _ => rfl) ?_ (fun x w hw _ => ?_) ?_; rotate_left; (focus (have hc := hw.cells; clear hw; go_simp; first | done | rfl)); simp only [Act.put, List.setIfInBounds_toArray, List.set_cons_zero, List.set_cons_succ]))
          refine HavG.tail (by kernel_rfl) (by kernel_rfl) (fun x w hw _ => ?_)
          have HUW := Lib.hid (HUP.out w hw)
          have HW9 := Lib.hid hw
          clear hw HUP s0 sl orr orl
          go_wp2_with fail
          rw [HUW.out]
          simp only [Result.andThen]
          have hgw := HGR9.out.trans HW9.out
          have hMw : w.heap[B]? = some (mapObj (mapL (FS.ofTo g es' T P j).places)) := by rw [HW9.out.block _ (Array.getElem?_eq_some_iff.1 HM9.out).1]; exact HM9.out
          have HMN := Lib.hid (putObj_same (Array.getElem?_eq_some_iff.1 hMw).1 (mapObj (mapL ((FS.ofTo g es' T P j).places ++ [(g.rules[k].name, k)]))))
          have hbp : But (fun q => q = B) w (putObj w B (mapObj (mapL ((FS.ofTo g es' T P j).places ++ [(g.rules[k].name, k)])))) := But.put (F := fun q => q = B) rfl
          have oR2 := hbp.owns (HOR.out.keep HW9.out) (owns_map (HOR.out.keep HW9.out) hMw)
          have oS2 := hbp.owns (HOS.out.keep hgw) (fun e => by omega)
          have oE2 := hbp.owns (HOE.out.keep hgw) (owns_map (HOE.out.keep hgw) hMw)
          have HBP := Lib.hid (show But (fun q => q = B) wr _ from But.trans (But.of_grew hgw) hbp (fun _ _ h => h))
          generalize putObj w B (mapObj (mapL ((FS.ofTo g es' T P j).places ++ [(g.rules[k].name, k)]))) = wM at *
          have s2 := oS2.cell_at (i := 2) rfl
          have sl := oS2.lt
          have r2 := oR2.cell_at (i := 2) rfl
          have r3 := oR2.cell_at (i := 3) rfl
          have r4 := oR2.cell_at (i := 4) rfl
          have r5 := oR2.cell_at (i := 5) rfl
          have r6 := oR2.cell_at (i := 6) rfl
          have rl := oR2.lt
          have hel : k < es'.length := by
            have h1 := HEL.out
            have h2 := HKK.out
            omega
          have eb1 := oE2.cell_at (i := k) (v := .bool (es'.getD k false)) (by rw [List.getElem?_map, List.getElem?_eq_getElem hel]; simp [List.getD_eq_getElem?_getD, List.getElem?_eq_getElem hel])
          have ebl := oE2.lt
          have hrow2 : Owns wM (B + 1 + 1) (V.ptrs (FS.ofTo g es' T P j)) 64 := by
            have h1 := HPR.out.sets.row
            rw [HV.out.2.2.2] at h1
            exact HBP.out.owns h1 (fun e => by omega)
          have HR2 := Lib.hid hrow2
          have rrl := hrow2.lt
          have HMK : Hid (∀ u, (Instr.makeSlice 60 (.int .i64 ((T.length : Int) + 1)) (.int .i64 ((T.length : Int) + 1))).run Try.prog u = .ok (.slice (some ⟨u.heap.size, 0, none⟩) (T.length + 1) (T.length + 1)) (u.alloc (.cells (fbs (List.replicate (T.length + 1) false)).toArray 4))) := fun u => by
            have := make_fset (T.length + 1) (by omega) u
            rw [fbs_rep] at this
            exact_mod_cast this
          clear hgw hMw hbp oR2 oS2 oE2 hel hrow2
          go_upto_region 17 with fail
          refine wp_region_havN_lit (t := 60) grewRel (fun _ _ h => h.size) fset_new follows (by kernel_rfl) ?_
          iterate 14 (first
            | (refine HavN.skip (fun _ => rfl) ?_; simp only [Act.put, List.setIfInBounds_toArray, List.set_cons_zero, List.set_cons_succ])
            | (refine HavN.val grewRel (fun _ => rfl) ?_ (fun x w hw _ => ?_) ?_; rotate_left; (focus (have hc := Grew.cells hw; clear hw; go_simp; first | done | rfl)); simp only [Act.put, List.setIfInBounds_toArray, List.set_cons_zero, List.set_cons_succ]))
          refine HavN.any (fun _ => rfl) (fun _ => RowN wM.heap.size (T.length + 1)) (fun _ _ _ _ _ h => h) (fun _ v w w' hg h => by obtain ⟨f, h1, h2, h3⟩ := h; exact ⟨f, h1, h2.keep hg, h3⟩) (fun x w hw _ => ?_) ?_
          · have HW := Lib.hid hw
            clear hw
            go_simp
            rw [wrap_small _ (by omega) (by omega), HMK.out w]
            exact ⟨grew_alloc w _, _, rfl, Owns.alloc w _ _, HW.out.size⟩
          simp only [Act.put, List.setIfInBounds_toArray, List.set_cons_zero, List.set_cons_succ]
          iterate 3 (first
            | (refine HavN.skip (fun _ => rfl) ?_; simp only [Act.put, List.setIfInBounds_toArray, List.set_cons_zero, List.set_cons_succ])
            | (refine HavN.val grewRel (fun _ => rfl) ?_ (fun x w hw _ => ?_) ?_; rotate_left; (focus (have hc := Grew.cells hw; clear hw; go_simp; first | done | rfl)); simp only [Act.put, List.setIfInBounds_toArray, List.set_cons_zero, List.set_cons_succ]))
          refine HavN.any (fun _ => rfl) (fun _ => RowN wM.heap.size (T.length + 1)) (fun _ _ _ _ _ h => h) (fun _ v w w' hg h => by obtain ⟨f, h1, h2, h3⟩ := h; exact ⟨f, h1, h2.keep hg, h3⟩) (fun x w hw _ => ?_) ?_
          · have HW := Lib.hid hw
            clear hw
            go_simp
            rw [wrap_small _ (by omega) (by omega), HMK.out w]
            exact ⟨grew_alloc w _, _, rfl, Owns.alloc w _ _, HW.out.size⟩
          simp only [Act.put, List.setIfInBounds_toArray, List.set_cons_zero, List.set_cons_succ]
          refine HavN.any (fun _ => rfl) (fun x v _ => v = .agg #[.int .u8 m0, .string m1, .string m2, .slice m3 m4 m5, .slice m6 m7 m8, .bool (es'.getD k false), x 14, x 18, .int .i64 (-1)]) (fun x x' v w h hx => by rw [hx, h 14 (by decide) (by kernel_rfl), h 18 (by decide) (by kernel_rfl)]) (fun _ _ _ _ _ h => h) (fun x w hw hd => ?_) ?_
          · have hd14 := hd _ (List.mem_append_left _ (List.mem_append_right _ (List.mem_singleton.2 rfl))) (by kernel_rfl)
            have hd18 := hd _ (List.mem_append_right _ (List.mem_singleton.2 rfl)) (by kernel_rfl)
            dsimp only at hd14 hd18
            clear hd
            obtain ⟨f, hf1, -, -⟩ := hd14
            obtain ⟨f', hg1, -, -⟩ := hd18
            simp only [hf1, hg1]
            obtain ⟨BU, hBU⟩ : ∃ f, f = Instr.build 67 := ⟨_, rfl⟩
            have hbd := build_frule m0 m1 m2 m3 m6 m4 m5 m7 m8 (es'.getD k false) f f' (T.length + 1)
            rw [← hBU] at hbd
            clear hw
            rw [exec_build BU rfl hBU (v := .agg #[.int .u8 m0, .string m1, .string m2, .slice m3 m4 m5, .slice m6 m7 m8, .bool (es'.getD k false), .slice (some ⟨f, 0, none⟩) (T.length + 1) (T.length + 1), .slice (some ⟨f', 0, none⟩) (T.length + 1) (T.length + 1), .int .i64 (-1)]) (by clear hBU; go_simp; exact hbd w)]
            exact ⟨Grew.refl _, rfl⟩
          simp only [Act.put, List.setIfInBounds_toArray, List.set_cons_zero, List.set_cons_succ]
          refine HavN.any (fun _ => rfl) (fun x v w => ∃ t, v = .pointer (some ⟨t, 0, none⟩) ∧ wM.heap.size ≤ t ∧ Owns w t [.int .u8 m0, .string m1, .string m2, .slice m3 m4 m5, .slice m6 m7 m8, .bool (es'.getD k false), x 14, x 18, .int .i64 (-1)] 67) (fun x x' v w h hx => by
              obtain ⟨t, h1, h2, h3⟩ := hx
              refine ⟨t, h1, h2, ?_⟩
              have e14 := h 14 (by decide) (by kernel_rfl)
              have e18 := h 18 (by decide) (by kernel_rfl)
              first | (rw [e14, e18]; exact h3) | (rw [← e14, ← e18]; exact h3)) (fun _ v w w' hg h => by obtain ⟨t, h1, h2, h3⟩ := h; exact ⟨t, h1, h2, h3.keep hg⟩) (fun x w hw hd => ?_) ?_
          · have hd14 := hd _ (List.mem_append_left _ (List.mem_append_left _ (List.mem_append_right _ (List.mem_singleton.2 rfl)))) (by kernel_rfl)
            have hd18 := hd _ (List.mem_append_left _ (List.mem_append_right _ (List.mem_singleton.2 rfl))) (by kernel_rfl)
            have hd19 := hd _ (List.mem_append_right _ (List.mem_singleton.2 rfl)) (by kernel_rfl)
            dsimp only at hd14 hd18 hd19
            clear hd
            obtain ⟨f, hf1, -, -⟩ := hd14
            obtain ⟨f', hg1, -, -⟩ := hd18
            have e14 : x 14 = _ := hf1
            have e18 : x 18 = _ := hg1
            rw [e14, e18] at hd19 ⊢
            simp only [hd19]
            have HW := Lib.hid hw
            clear hw
            go_simp
            exact ⟨grew_alloc w _, HW.out.size, Owns.alloc w _ _⟩
          simp only [Act.put, List.setIfInBounds_toArray, List.set_cons_zero, List.set_cons_succ]
          iterate 1 (first
            | (refine HavN.skip (fun _ => rfl) ?_; simp only [Act.put, List.setIfInBounds_toArray, List.set_cons_zero, List.set_cons_succ])
            | (refine HavN.val grewRel (fun _ => rfl) ?_ (fun x w hw _ => ?_) ?_; rotate_left; (focus (have hc := Grew.cells hw; clear hw; go_simp; first | done | rfl)); simp only [Act.put, List.setIfInBounds_toArray, List.set_cons_zero, List.set_cons_succ]))
          refine HavN.tail (by kernel_rfl) (by kernel_rfl) (fun x w hw hd hap => ?_)
          have hd14 := hd _ (List.mem_append_left _ (List.mem_append_left _ (List.mem_append_left _ (List.mem_append_right _ (List.mem_singleton.2 rfl)))))
          have hd18 := hd _ (List.mem_append_left _ (List.mem_append_left _ (List.mem_append_right _ (List.mem_singleton.2 rfl))))
          have hd20 := hd _ (List.mem_append_right _ (List.mem_singleton.2 rfl))
          dsimp only at hd14 hd18 hd20
          clear hd
          obtain ⟨f, hf1, hf3, hf2⟩ := hd14
          obtain ⟨f', hg1, hg3, hg2⟩ := hd18
          obtain ⟨t, ht1, ht2, ht3⟩ := hd20
          have e14 : x 14 = _ := hf1
          have e18 : x 18 = _ := hg1
          have hff : f ≠ f' := fun e => by
            have := hap 14 18 (by decide) (by decide) (by kernel_rfl) (by kernel_rfl) (by decide)
            rw [e14, e18, e] at this
            exact this rfl
          rw [e14, e18] at ht3
          simp only [ht1]
          clear hap e14 e18 hf1 hg1 ht1
          have HW := Lib.hid hw
          have HT3 := Lib.hid ht3
          have HF3 := Lib.hid hf3
          have HG3 := Lib.hid hg3
          have rrw := Nat.lt_of_lt_of_le rrl hw.size
          have hr2 := HR2.out.keep hw
          have hkr : k < (FS.ofTo g es' T P j).rules.length := by rw [HLR.out]; have := HL.out; have := HKK.out; omega
          have rrc := hr2.cell_at (i := k) (V.ptrs_at _ hkr)
          have rrf := hr2.free k
          generalize V.ptr (FS.ofTo g es' T P j) k = pv at rrc
          have HRW2 := Lib.hid hr2
          have HKR := Lib.hid hkr
          clear hr2 hkr
          clear hw ht3 hf3 hg3 s2 sl r2 r3 r4 r5 r6 rl eb1 ebl rrl

          go_wp2_with fail
          have hq := PreAt.round (k := k) HPR.out HV.out HSN.out HKR.out HBP.out HMN.out HW.out HRW2.out HT3.out HF3.out HG3.out hff ht2 hf2 hg2 hWr (by have := HB1.out; omega) HND.out HFT.out
          obtain ⟨V', q1, q2, q3⟩ := hq
          exact ⟨⟨j + 1, V', by go_num, by omega, q1, by rw [HNX.out]; exact q2, (HBW.out.trans q3 (fun _ _ h => h))⟩, by simp [intOf]; omega⟩
          -- SELUR
        · obtain rfl : j = P.length := by omega
          -- LAST
          have hbr : Below W.heap.size wI wr := HBW.out.below HGI.out.size (fun q e => by have := HB1.out; rcases e with e | e <;> omega)
          have hbW : Below W.heap.size W wr := Below.trans HGI.out hbr
          have hWr : W.heap.size ≤ wr.heap.size := hbW.size
          obtain ⟨hst, hst1, hst2⟩ := HP.out.st
          have hS1 : ∃ r, (FS.ofTo g es' T P P.length).at st = some r := by
            obtain ⟨i, hi⟩ : ∃ i, P[i]? = some (st : Int) := by
              rw [← HPP.out]
              exact of_has g [0] st hst (by simp [hst2])
            exact ⟨_, ofTo_some (List.getElem?_eq_some_iff.1 hi).1 hi (List.getElem?_eq_getElem hst)⟩
          have hwf : (FS.ofTo g es' T P P.length).Wf := by
            obtain ⟨r, hr⟩ := hS1
            refine ofTo_wf (by rw [HL.out]; omega) (by omega) (fun y hy => ?_) ⟨st, r, hr⟩
            rw [← HPP.out] at hy
            obtain ⟨n, hn⟩ := List.mem_iff_getElem?.1 hy
            obtain ⟨k, -, rfl, -⟩ := of_get hn
            omega
          obtain ⟨r, hr⟩ := hS1
          have hbg : (FS.ofTo g es' T P P.length).start st = FS.begun g es' st := by unfold FS.begun; rw [HT.out, HPP.out]
          have hLr : (FS.ofTo g es' T P P.length).rules.length = L := by rw [(ofTo_len g es' T P P.length).1, HL.out]
          obtain ⟨S1, hS1⟩ : ∃ S1, FS.ofTo g es' T P P.length = S1 := ⟨_, rfl⟩
          rw [hS1] at hwf hr hbg hLr HPR
          have hpr := HPR.out
          have HSS : Hid (∀ w, Grew wr w → StAt (w.setCell ⟨V.gk st, 0, none⟩ (.bool true)) W.heap.size V (FS.begun g es' st) ∧ Below W.heap.size W (w.setCell ⟨V.gk st, 0, none⟩ (.bool true))) := Lib.hid fun w hg => by
            obtain ⟨h1, h2⟩ := (hpr.keep hg hWr).start hwf (Nat.le_trans hWr hg.size) hr
            rw [hbg] at h1
            exact ⟨h1, (hbW.trans (hg.mono hWr)).trans h2⟩
          obtain ⟨v1, v2, v3, v4⟩ := HV.out
          have os := hpr.sets.box
          rw [hLr, v1, v2, v3, v4] at os
          have HOS := Lib.hid os
          have s2 := os.cell_at (i := 2) rfl
          have sl := os.lt
          have orow := hpr.sets.row
          rw [v4] at orow
          have hstL : st < S1.rules.length := by rw [hLr, ← HL.out]; exact hst
          have r0 := orow.cell_at (V.ptrs_at S1 hstL)
          have rl := orow.lt
          unfold FV.ptr at r0
          rw [hr] at r0
          simp only [Option.isSome_some, if_true] at r0
          obtain ⟨q1, q2, q3, -⟩ := hpr.sets.rule st r hr
          obtain ⟨b0, b1, b2, b3, b4, hbv, -, -⟩ := hpr.body st r hr
          unfold FV.rcs at q1
          rw [hbv] at q1
          have r7 := q1.cell_at (i := 7) rfl
          have r7l := q1.lt
          have hfn : 0 < r.follow.length := by
            have h1 := (hwf.first st r hr).2
            have h2 : S1.n = T.length + 1 := by rw [← hS1]; exact (ofTo_len g es' T P P.length).2.1
            omega
          have f0 := q3.cell_at (i := 0) (v := .bool r.follow[0]) (by simp [fbs, hfn])
          have HQ3 := Lib.hid q3
          have f0f := q3.free 0
          have f0l := q3.lt
          have hsn : S1.n = T.length + 1 := by rw [← hS1]; exact (ofTo_len g es' T P P.length).2.1
          rw [hsn] at r7
          have og := HBW.out.owns HOG.out (fun e => by have := HO1.out.lt; have := HB1.out; rcases e with e | e <;> omega)
          have e0 := og.cell_at (i := 0) rfl
          have e1 := og.cell_at (i := 1) rfl
          have e2 := og.cell_at (i := 2) rfl
          have e3 := og.cell_at (i := 3) rfl
          have el := og.lt
          have HCS := Lib.hid (fun w' (hg : Grew wr w') => start_ok g w' _ _ _ _ ((HGR.out.keep (hbW.trans (hg.mono hWr))).mono (hbW.trans (hg.mono hWr)).size))
          rw [hst1] at HCS
          have hstn : (st : Int) < (L : Int) := by have := HL.out; omega
          have hst0 : (0 : Int) ≤ (st : Int) := by omega
          have HBE := Lib.hid hbW
          clear hbr hbW hwf hbg hpr os orow q1 q2 q3 hbv og hst hst1 hst2 hr hsn hS1
          go_upto_region 19 with fail
          refine wp_region_hav_lit follows (by kernel_rfl) ?_
          iterate 5 (first
            | (refine HavG.skip (fun _ => rfl) ?_; simp only [Act.put, List.setIfInBounds_toArray, List.set_cons_zero, List.set_cons_succ])
            | (refine HavG.val (fun _ => rfl) ?_ (fun x w hw _ => ?_) ?_; rotate_left; (focus (have hc := hw.cells; clear hw; go_simp; first | done | rfl)); simp only [Act.put, List.setIfInBounds_toArray, List.set_cons_zero, List.set_cons_succ]))
          refine HavG.det (fun _ => rfl) (.int .i64 (st : Int)) (fun x w hw hd => ?_) ?_
          · clear hd
            have HW := Lib.hid hw
            clear hw
            go_simp
            refine (HCS.out _ HW.out).mono ?_
            rintro e w' ⟨rfl, hg⟩
            exact ⟨rfl, hg⟩
          simp only [Act.put, List.setIfInBounds_toArray, List.set_cons_zero, List.set_cons_succ]
          repeat (first
            | (refine HavG.skip (fun _ => rfl) ?_; simp only [Act.put, List.setIfInBounds_toArray, List.set_cons_zero, List.set_cons_succ])
            | (refine HavG.val (fun _ => rfl) ?_ (fun x w hw _ => ?_) ?_; rotate_left; (focus (have hc := hw.cells; clear hw; go_simp; first | done | rfl)); simp only [Act.put, List.setIfInBounds_toArray, List.set_cons_zero, List.set_cons_succ]))
          refine HavG.tail (by kernel_rfl) (by kernel_rfl) (fun x w hw _ => ?_)
          have g0 := (hw.cells _ 0 f0l).trans f0
          have g0l := Nat.lt_of_lt_of_le f0l hw.size
          have g0f := (HQ3.out.keep hw).free 0
          obtain ⟨hs9, hb9⟩ := HSS.out w hw
          clear hw s2 sl r0 rl r7 r7l f0 f0f f0l e0 e1 e2 e3 el HCS HSS HQ3
          go_upto_region 20 with fail
          clear g0 g0l g0f
          generalize w.setCell ⟨V.gk st, 0, none⟩ (.bool true) = w2 at *
          obtain ⟨w3, hw3⟩ : ∃ w3, w2.alloc (.cells #[.func (.func 26) #[.pointer (some ⟨B + 1 + 1 + 1, 0, none⟩)] #[], .func (.func 27) #[.pointer (some ⟨B + 1 + 1 + 1, 0, none⟩)] #[], .func (.func 28) #[.pointer (some ⟨B + 1 + 1 + 1, 0, none⟩)] #[]] 72) = w3 := ⟨_, rfl⟩
          have g3 : Grew w2 w3 := hw3 ▸ grew_alloc w2 _
          have o3 : Owns w3 w2.heap.size [growV (B + 1 + 1 + 1) 0, growV (B + 1 + 1 + 1) 1, growV (B + 1 + 1 + 1) 2] 72 := hw3 ▸ Owns.alloc w2 _ _
          obtain ⟨fb, hfb⟩ : ∃ fb, w2.heap.size = fb := ⟨_, rfl⟩
          obtain ⟨S0, hS0⟩ : ∃ S0, FS.begun g es' st = S0 := ⟨_, rfl⟩
          rw [hS0] at hs9
          rw [hfb] at o3
          have HOW : Hid (∀ q, V.Own S0 q → q ≠ fb) := Lib.hid fun q hq e => by have := hs9.own_lt hq; omega
          have HS3 := Lib.hid (hs9.keep g3)
          have HB3 := Lib.hid (hb9.trans (g3.mono (hb9.size)))
          have HE := Lib.hid he.out
          rw [hS0] at HE
          have HSZ := Lib.hid hS0
          have HO3 := Lib.hid o3
          have HV1 := Lib.hid HV.out.1
          clear g3 o3 hs9 hb9 hS0 he
          go_wp2_with fail
          clear hw3 hfb
          go_loopw [119] (fun c wr => ∃ i : Nat, c = .int .i64 i ∧ i ≤ 3 ∧ Hid (StAt wr W.heap.size V (FS.stage S0 K i)) ∧ Hid (Kin S0 (FS.stage S0 K i)) ∧ Hid (But (V.Own S0) w3 wr)) (fun c _ => 3 - (intOf c).toNat)
          case atStart => exact ⟨0, rfl, by omega, HS3.out, Kin.refl S0, But.refl _ _⟩
          case round =>
            obtain ⟨i, rfl, hi, HSI, HKI, HBI⟩ := hrel
            obtain ⟨wo, rfl⟩ : ∃ wo : World, wo = wr := ⟨_, rfl⟩
            by_cases hi3 : i < 3
            · have hoi := HBI.out.owns HO3.out (fun e => HOW.out fb e rfl)
              have ci := hoi.lt3 hi3
              have cil := hoi.lt
              obtain ⟨gv, hgv⟩ : ∃ gv, growV (B + 1 + 1 + 1) i = gv := ⟨_, rfl⟩
              rw [hgv] at ci
              have HGV := Lib.hid hgv
              clear hoi hgv
              go_wp2_with fail
              clear ci cil
              have d3 : decide ((i : Int) < 3) = true := decide_eq_true (by omega)
              simp only [d3]
              go_loopg [125] (K i) (fun gk _ wr => ∃ q : Nat, Hid (q + gk = K i) ∧ Hid (StAt wr W.heap.size V (FS.rounds (FS.gr i) (FS.stage S0 K i) q)) ∧ Hid (Kin S0 (FS.rounds (FS.gr i) (FS.stage S0 K i) q)) ∧ Hid (But (V.Own S0) w3 wr))
              case atStart => exact ⟨0, by unfold Hid; omega, HSI.out, HKI.out, HBI.out⟩
              case round =>
                obtain ⟨q, HQK, HSQ, HKQ, HBQ⟩ := hrel
                have hqk : q ≤ K i := by have := HQK.out; omega
                have HCG := Lib.hid (grown_ok V W.heap.size S0 K HE.out i hi3 q hqk wr HSQ.out HKQ.out)
                rw [HV1.out, HGV.out] at HCG
                have hset := HE.out.all i hi3
                have hlen : (FS.rounds (FS.gr i) (FS.stage S0 K i) q).rules.length = (FS.stage S0 K i).rules.length := by rw [HKQ.out.len, HKI.out.len]
                obtain ⟨y1, y2, hy⟩ : ∃ y1 y2, FS.grown (FS.gr i) (FS.rounds (FS.gr i) (FS.stage S0 K i) q) (FS.stage S0 K i).rules.length = (y1, y2) := ⟨_, _, rfl⟩
                have hr2 : FS.rounds (FS.gr i) (FS.stage S0 K i) (q + 1) = y2 := by rw [rounds_succ, hy]
                rw [hlen, hy] at HCG
                have HR2 := Lib.hid hr2
                have HLT := Lib.hid (show q < K i → y1 = true from fun h => by have := hset.1 q h; rw [hy] at this; exact this)
                have HEQ := Lib.hid (show q = K i → y1 = false from fun h => by have := hset.2; rw [← h, hy] at this; exact this)
                have HLA := Lib.hid (show q = K i → FS.stage S0 K (i + 1) = y2 from fun h => by rw [← hr2, h]; rfl)
                clear hset hlen hy hr2
                go_wp2_with fail
                refine HCG.out.mono ?_
                rintro e w5 ⟨rfl, hs5, hk5, hb5⟩
                have HS5 := Lib.hid hs5
                have HK5 := Lib.hid (HKQ.out.trans hk5)
                have HB5 := Lib.hid (But.trans HBQ.out hb5 (fun _ _ e => FV.Own.kin HKQ.out e))
                clear hs5 hk5 hb5 HCG
                dsimp only at HS5 HK5
                by_cases hql : q < K i
                · have hy1 := HLT.out hql
                  subst hy1
                  go_wp2_with fail
                  go_roundg (gk - 1)
                  case measure => have := HQK.out; omega
                  case rel => exact ⟨q + 1, by have := HQK.out; unfold Hid; omega, by rw [HR2.out]; exact HS5.out, by rw [HR2.out]; exact HK5.out, HB5.out⟩
                · have hqe : q = K i := by omega
                  have hy1 := HEQ.out hqe
                  have HQL : Hid (StAt w5 W.heap.size V (FS.stage S0 K (i + 1))) := Lib.hid (by
                    have h1 := HLA.out hqe
                    rw [h1]; exact HS5.out)
                  have HQM : Hid (Kin S0 (FS.stage S0 K (i + 1))) := Lib.hid (by
                    have h1 := HLA.out hqe
                    rw [h1]; exact HK5.out)
                  subst hy1
                  go_wp2_with fail
                  exact ⟨⟨i + 1, by go_num, by omega, HQL.out, HQM.out, HB5.out⟩, by simp [intOf]; omega⟩
            · obtain rfl : i = 3 := by omega
              go_wp2_with fail
              rw [← HQ9.out]
              refine ⟨V, by rw [HV1.out]; rfl, by rw [HSZ.out]; exact HSI.out, HB3.out.trans (HBI.out.below HS3.out.lo (fun q hq => HS3.out.own_lo hq))⟩
          -- TSAL
end Go.Proofs.Ytldoinfbimelpaa
