/- prunes.alive: from which states something is taken, or tried. -/
import Derived.Test.YtogmlonhciiomaaDoorPrFine
import Derived.Laws.EntriesVeiled
namespace Go.Proofs.YtogmlonhciiomaaDoor
open Go.RowKit

theorem info_pbool : (Tryd.prog.info? 4).map (fun i => (i.zero, i.size, i.bytes)) = some (some (.bool false), 1, 1) := by kernel_rfl
theorem pmake_bools (n : Nat) (hn : n ≤ 1048576) (u : World) : (Instr.makeSlice 72 (.int .i64 (n : Int)) (.int .i64 (n : Int))).run Tryd.prog u =
    .ok (.slice (some ⟨u.heap.size, 0, none⟩) n n) (u.alloc (.cells (List.replicate n (.bool false)).toArray 4)) := by
  obtain ⟨i0, hi, hz0, hz1, hz2⟩ := info_parts info_pbool
  have h := run_make (P := Tryd.prog) u 72 4 i0 (.bool false) Tryd.underlying72 hi hz0 .i64 .i64 (n : Int) (n : Int) (by omega) (Int.le_refl _) (by rw [hz2]; omega) (by omega)
  rw [Int.toNat_natCast, hz1, Nat.mul_one] at h
  rw [h, ← pmade_ones]
  rfl
def falses (es : List Bool) : Nat := (es.filter fun b => !b).length
theorem falses_set (es : List Bool) (i : Nat) (h : i < es.length) (hf : es[i] = false) : falses (es.set i true) + 1 = falses es := by
  induction es generalizing i with
  | nil => simp at h
  | cons b r ih =>
    cases i with
    | zero => simp at hf; subst hf; simp [falses]
    | succ i =>
      have := ih i (by simpa using h) (by simpa using hf)
      simp only [List.set_cons_succ, falses, List.filter_cons] at *
      split <;> simp_all
def isF : Value → Bool
  | .bool false => true
  | _ => false
/-- how many falses a block holds -/
def fal (w : World) (b : Nat) : Nat :=
  match w.heap[b]? with
  | some (.cells c _ _) => (c.toList.filter isF).length
  | _ => 0
theorem isF_count (es : List Bool) : ((es.map Value.bool).filter isF).length = (es.filter fun b => !b).length := by
  induction es with
  | nil => rfl
  | cons x r ih =>
    have h1 : isF (.bool false) = true := rfl
    have h2 : isF (.bool true) = false := rfl
    cases x <;> simp [h1, h2, ih]
theorem fal_of {w : World} {b : Nat} {es : List Bool} {T : Nat} (h : Owns w b (es.map .bool) T) : fal w b = falses es := by
  unfold Owns at h
  unfold fal falses
  simp only [h]
  exact isF_count es

/-! ### the plain law -/
/-- is a state to be added? -/
def Aut.addB (a : Aut) (es : List Bool) (k : Nat) : Bool := !(es.getD k false) && (a.dec k || (a.edges k).any fun e => es.getD e.tgt.toNat false && (e.tok != -1 || a.dec e.tgt.toNat))
/-- a sweep, as far as j: from es0 on -/
structure Swp (a : Aut) (es0 es : List Bool) (m : Bool) (j : Nat) : Prop where
  len : es.length = a.length
  sound : ∀ i, es.getD i false = true → a.Live i
  none : m = false → es = es0 ∧ ∀ k, k < j → a.addB es k = false
  some : m = true → falses es < falses es0
theorem Swp.start {a : Aut} {es : List Bool} (h : es.length = a.length) (hs : ∀ i, es.getD i false = true → a.Live i) : Swp a es es false 0 := ⟨h, hs, fun _ => ⟨rfl, fun k hk => absurd hk (by omega)⟩, fun h => by cases h⟩
theorem Swp.no {a : Aut} {es0 es : List Bool} {m : Bool} {j : Nat} (h : Swp a es0 es m j) (hb : a.addB es j = false) : Swp a es0 es m (j + 1) :=
  ⟨h.len, h.sound, fun hm => ⟨(h.none hm).1, fun k hk => by
    by_cases e : k = j
    · subst e; exact hb
    · exact (h.none hm).2 k (by omega)⟩, h.some⟩
theorem Swp.yes {a : Aut} {es0 es : List Bool} {m : Bool} {j : Nat} (h : Swp a es0 es m j) (hj : j < a.length) (hb : a.addB es j = true) : Swp a es0 (es.set j true) true (j + 1) := by
  have hjl : j < es.length := by rw [h.len]; exact hj
  simp only [Aut.addB, Bool.and_eq_true, Bool.not_eq_true', Bool.or_eq_true, List.any_eq_true] at hb
  obtain ⟨h1, h2⟩ := hb
  have hf : es[j] = false := by simpa [List.getD, hjl] using h1
  refine ⟨by simp [h.len], fun i hi => ?_, fun h => (by cases h), fun _ => ?_⟩
  · by_cases e : i = j
    · subst e
      rcases h2 with h2 | ⟨e, he, h3, h4⟩
      · exact .dec h2
      · exact .step he (h.sound _ h3) (by simpa [bne_iff_ne] using h4)
    · refine h.sound i ?_
      have : (es.set j true)[i]? = es[i]? := List.getElem?_set_ne (fun x => e x.symm)
      rwa [List.getD, this] at hi
  · have := falses_set es j hjl hf
    cases m with
    | true => have := h.some rfl; omega
    | false => rw [← (h.none rfl).1]; omega
/-- nothing more is to be added: that are they -/
theorem Swp.done {a : Aut} {es0 es : List Bool} (h : Swp a es0 es false a.length) : ∀ i, es.getD i false = true ↔ a.Live i := by
  have hn := (h.none rfl).2
  intro i
  refine ⟨h.sound i, fun hl => ?_⟩
  induction hl with
  | @dec i hd =>
    have hlt := (Aut.Live.dec hd).lt
    have h2 := hn i hlt
    cases hv : es.getD i false
    · rw [Aut.addB, hv, hd] at h2
      simp at h2
    · rfl
  | @step i e he hl hd ih =>
    have hlt := (Aut.Live.step he hl hd).lt
    have := hn i hlt
    cases hv : es.getD i false
    · have hany : (a.edges i).any (fun e => es.getD e.tgt.toNat false && (e.tok != -1 || a.dec e.tgt.toNat)) = true := by
        rw [List.any_eq_true]
        refine ⟨e, he, ?_⟩
        rw [ih, Bool.true_and]
        simpa [bne_iff_ne] using hd
      rw [Aut.addB, hv, hany] at this
      simp at this
    · rfl

/-! ### the closures -/
theorem palive1_ok (a : Aut) (i : Nat) (hi : i < a.length) (W : World) (v : Value) (hA : AutV .u8 W W.heap.size v a) (ba : Nat) (hb : W.cell? ⟨ba, 0, none⟩ = some v) :
    Calls Tryd.prog 39 (#[.int .i64 i] ++ #[.pointer (some ⟨ba, 0, none⟩)]) W fun e W' => e = .returned (.bool (a.dec i)) ∧ W' = W := by
  obtain ⟨ad, cap, rfl, hcap, hA⟩ := hA
  obtain ⟨b, off, v0, v1, v2, rfl, hbl, c0, c1, c2, hs⟩ := hA i hi
  obtain rfl := hs.1
  have hd : a.dec i = (a[i].kind == 1 || a[i].kind == 3) := by unfold Aut.dec; rw [(Aut.at hi).1]
  have HD := Lib.hid hd
  clear hd hs hA c1 c2
  generalize a[i].kind = k at *
  simp only [List.append_toArray, List.cons_append, List.nil_append]
  by_cases h1 : k = 1
  · subst h1
    go_enter Tryd.func39, Tryd.ntmps39
    go_wp2_with fail
    go_ret
    exact ⟨ret_bool HD.out.symm, rfl⟩
  · have t1 : (k == 1) = false := by simpa using h1
    have T1 := Lib.hid t1
    clear h1
    go_enter Tryd.func39, Tryd.ntmps39
    go_wp2_with fail
    go_ret
    exact ⟨ret_bool (by rw [HD.out, T1.out]; rfl), rfl⟩
theorem enters39 : Enters 39 := fun _ _ => by kernel_rfl
theorem enters40 : Enters 40 := fun _ _ => by kernel_rfl

/-- what alive has in memory: its boxes, and the bools -/
structure AlvAt (a : Aut) (v : Value) (B : Nat) (es : List Bool) (W0 W : World) : Prop where
  aut : AutV .u8 W0 B v a
  below : Below B W0 W
  box : Owns W B [v] 24
  row : Owns W (B + 1) (es.map .bool) 4
  out : Owns W (B + 1 + 1) [.slice (some ⟨B + 1, 0, none⟩) a.length a.length] 72
  dec : Owns W (B + 1 + 1 + 1) [.func (.func 39) #[] #[.pointer (some ⟨B, 0, none⟩)]] 83
  len : es.length = a.length
theorem AlvAt.keep {a : Aut} {v : Value} {B : Nat} {es : List Bool} {W0 W W' : World} (h : AlvAt a v B es W0 W) (hg : Grew W W') : AlvAt a v B es W0 W' :=
  ⟨h.aut, h.below.trans (hg.mono (Nat.le_of_lt h.box.lt)), h.box.keep hg, h.row.keep hg, h.out.keep hg, h.dec.keep hg, h.len⟩
theorem AlvAt.autV {a : Aut} {v : Value} {B : Nat} {es : List Bool} {W0 W : World} (h : AlvAt a v B es W0 W) : AutV .u8 W W.heap.size v a := (h.aut.keep h.below).mono (Nat.le_of_lt h.box.lt)
theorem AlvAt.set {a : Aut} {v : Value} {B : Nat} {es : List Bool} {W0 W : World} (h : AlvAt a v B es W0 W) (j : Nat) : AlvAt a v B (es.set j true) W0 (W.setCell ⟨B + 1, j, none⟩ (.bool true)) := by
  refine ⟨h.aut, h.below.setCell (Nat.le_succ _) _, h.box.other (by simp) _, ?_, h.out.other (by simp) _, h.dec.other (by simp) _, by simp [h.len]⟩
  have := h.row.set j (.bool true)
  rwa [← List.map_set] at this

set_option maxHeartbeats 1000000 in
theorem palive2_ok (a : Aut) (v : Value) (B : Nat) (es : List Bool) (W0 W : World) (hM : AlvAt a v B es W0 W) (e : Ed) (he : ∃ j : Nat, e.tgt = j ∧ j < a.length) :
    Calls Tryd.prog 40 (#[.agg #[.int .i64 e.tok, .int .i64 e.tgt]] ++ #[.pointer (some ⟨B + 1 + 1, 0, none⟩), .pointer (some ⟨B + 1 + 1 + 1, 0, none⟩)]) W
      fun r W' => r = .returned (.bool (es.getD e.tgt.toNat false && (e.tok != -1 || a.dec e.tgt.toNat))) ∧ Grew W W' := by
  obtain ⟨j, hj, hlt⟩ := he
  rw [hj]
  simp only [Int.toNat_natCast]
  obtain ⟨w1, hw1⟩ : ∃ w1, W.alloc (.cells #[.int .i64 e.tok, .int .i64 (j : Int)] 53) = w1 := ⟨_, rfl⟩
  have g1 : Grew W w1 := hw1 ▸ grew_alloc W _
  have o1 : Owns w1 W.heap.size [.int .i64 e.tok, .int .i64 (j : Int)] 53 := hw1 ▸ Owns.alloc W _ _
  have M1 := hM.keep g1
  have d0 := o1.cell_at (i := 0) rfl
  have d1 := o1.cell_at (i := 1) rfl
  have c1 := M1.out.cell_at (i := 0) rfl
  have c2 := M1.dec.cell_at (i := 0) rfl
  have hjl : j < es.length := by rw [hM.len]; exact hlt
  have c3 : w1.cell? ⟨B + 1, j, none⟩ = some (.bool es[j]) := M1.row.cell_at (by simp [hjl])
  have hx : es.getD j false = es[j] := by simp [List.getD, hjl]
  rw [hx]
  obtain ⟨t, ht⟩ : ∃ t, t = es[j] := ⟨_, rfl⟩
  rw [← ht] at c3 ⊢
  have HC := Lib.hid (palive1_ok a j hlt w1 v M1.autV B (M1.box.cell_at (i := 0) rfl))
  simp only [List.append_toArray, List.cons_append, List.nil_append] at HC ⊢
  have HG := Lib.hid g1
  have hFx := enters39
  unfold Enters at hFx
  clear g1 o1 M1 hM hx ht
  generalize e.tok = tk at *
  generalize a.dec j = d at *
  cases t
  · go_enter Tryd.func40, Tryd.ntmps40
    go_wp2_with fail
    go_ret
    exact ⟨rfl, HG.out⟩
  · by_cases h1 : tk = -1
    · subst h1
      go_enter Tryd.func40, Tryd.ntmps40
      go_wp2_with fail
      refine HC.out.mono ?_
      rintro r w' ⟨rfl, rfl⟩
      go_wp2_with fail
      go_ret
      exact ⟨rfl, HG.out⟩
    · have t1 : (tk != -1) = true := by simpa using h1
      have T1 := Lib.hid t1
      clear h1
      go_enter Tryd.func40, Tryd.ntmps40
      go_wp2_with fail
      go_ret
      exact ⟨ret_bool (by rw [T1.out]; rfl), HG.out⟩
/-- what alive gives -/
def AliveIs (a : Aut) (W : World) (e : Ending) (W' : World) : Prop := ∃ (ob : Nat) (es : List Bool), e = .returned (.slice (some ⟨ob, 0, none⟩) a.length a.length) ∧ Owns W' ob (es.map .bool) 4 ∧ es.length = a.length ∧ (∀ i, es.getD i false = true ↔ a.Live i) ∧ W.heap.size ≤ ob ∧ Grew W W'
theorem alive_rows (n : Nat) : (List.replicate n (Value.bool false)) = (List.replicate n false).map Value.bool := by simp

set_option maxHeartbeats 2000000 in
set_option maxRecDepth 20000 in
theorem palive_ok (a : Aut) (ha : a.Few) (ht : Inside a) (W : World) (v : Value) (hA : AutV .u8 W W.heap.size v a) :
    Calls Tryd.prog 32 #[.agg #[v]] W (AliveIs a W) := by
  have hA2 := hA
  obtain ⟨ad, cap, rfl, hcap, hA⟩ := hA
  have hst := ha.states
  obtain ⟨w1, hw1⟩ : ∃ w1, W.alloc (.cells #[.slice ad a.length cap] 24) = w1 := ⟨_, rfl⟩
  obtain ⟨w2, hw2⟩ : ∃ w2, w1.alloc (.cells (List.replicate a.length (.bool false)).toArray 4) = w2 := ⟨_, rfl⟩
  obtain ⟨w3, hw3⟩ : ∃ w3, w2.alloc (.cells #[.slice (some ⟨W.heap.size + 1, 0, none⟩) a.length a.length] 72) = w3 := ⟨_, rfl⟩
  obtain ⟨w4, hw4⟩ : ∃ w4, w3.alloc (.cells #[.func (.func 39) #[] #[.pointer (some ⟨W.heap.size, 0, none⟩)]] 83) = w4 := ⟨_, rfl⟩
  have z1 : w1.heap.size = W.heap.size + 1 := by rw [← hw1]; simp
  have z2 : w2.heap.size = W.heap.size + 1 + 1 := by rw [← hw2]; simp; omega
  have z3 : w3.heap.size = W.heap.size + 1 + 1 + 1 := by rw [← hw3]; simp; omega
  have g1 : Grew W w1 := hw1 ▸ grew_alloc W _
  have g2 : Grew w1 w2 := hw2 ▸ grew_alloc w1 _
  have g3 : Grew w2 w3 := hw3 ▸ grew_alloc w2 _
  have g4 : Grew w3 w4 := hw4 ▸ grew_alloc w3 _
  have o1 : Owns w1 W.heap.size [.slice ad a.length cap] 24 := hw1 ▸ Owns.alloc W _ _
  have o2 : Owns w2 (W.heap.size + 1) (List.replicate a.length (.bool false)) 4 := z1 ▸ hw2 ▸ Owns.alloc w1 _ _
  have o3 : Owns w3 (W.heap.size + 1 + 1) [.slice (some ⟨W.heap.size + 1, 0, none⟩) a.length a.length] 72 := z2 ▸ hw3 ▸ Owns.alloc w2 _ _
  have o4 : Owns w4 (W.heap.size + 1 + 1 + 1) [.func (.func 39) #[] #[.pointer (some ⟨W.heap.size, 0, none⟩)]] 83 := z3 ▸ hw4 ▸ Owns.alloc w3 _ _
  rw [alive_rows] at o2
  have M4 : AlvAt a (.slice ad a.length cap) W.heap.size (List.replicate a.length false) W w4 :=
    ⟨hA2, (g1.trans g2).trans (g3.trans g4), o1.keep (g2.trans (g3.trans g4)), o2.keep (g3.trans g4), o3.keep g4, o4, by simp⟩
  have c1 := o1.cell_at (i := 0) rfl
  have hmk := pmake_bools a.length (by omega) w1
  rw [hw2, z1] at hmk
  have HM := Lib.hid M4
  clear M4 o1 o2 o3 o4 g1 g2 g3 g4 hA hA2 hcap
  go_enter Tryd.func32, Tryd.ntmps32
  go_wp2_with fail
  obtain ⟨B, hB⟩ : ∃ B, B = W.heap.size := ⟨_, rfl⟩
  rw [← hB] at HM c1 hmk ⊢
  have HB := Lib.hid hB
  clear hB c1 hmk hw1 hw2 hw3 hw4 z1 z2 z3
  go_loopw [5] (fun m wr => ∃ (b : Bool) (es : List Bool), m = .bool b ∧ Hid (AlvAt a (.slice ad a.length cap) B es W wr) ∧ Hid (∀ i, es.getD i false = true → a.Live i) ∧ Hid (b = false → ∀ k, k < a.length → a.addB es k = false))
    (fun m wr => 2 * fal wr (B + 1) + (match m with | .bool true => 1 | _ => 0))
  case atStart => exact ⟨true, _, rfl, HM.out, fun i h => by simp [List.getD, List.getElem?_replicate] at h; split at h <;> simp at h, fun h => by cases h⟩
  case round =>
    obtain ⟨b, es, rfl, HM1, HS1, HN1⟩ := hrel
    have r1 := HM1.out.out.cell_at (i := 0) rfl
    have r2 := HM1.out.box.cell_at (i := 0) rfl
    cases b
    · go_wp2_with fail
      go_ret
      refine ⟨B + 1, es, rfl, HM1.out.row, HM1.out.len, Swp.done (es0 := es) ⟨HM1.out.len, HS1.out, fun _ => ⟨rfl, HN1.out (by trivial)⟩, fun h => by cases h⟩, ?_, ?_⟩
      · rw [← HB.out]; exact Nat.le_succ _
      · show Below W.heap.size W _
        rw [← HB.out]; exact HM1.out.below
    · obtain ⟨wo, rfl⟩ : ∃ wo : World, wo = wr := ⟨_, rfl⟩
      go_wp2_with fail
      go_loopw [5, 18] (fun m i wr => ∃ (j : Nat) (b : Bool) (es' : List Bool), i = .int .i64 j ∧ m = .bool b ∧ j ≤ a.length ∧ Hid (AlvAt a (.slice ad a.length cap) B es' W wr) ∧ Hid (Swp a es es' b j)) (fun _ i _ => a.length - (intOf i).toNat)
      case atStart => exact ⟨0, false, es, rfl, rfl, by omega, HM1.out, Swp.start HM1.out.len HS1.out⟩
      case round =>
        obtain ⟨j, b, es', rfl, rfl, hj, HM2, HS2⟩ := hrel
        by_cases hlt : j < a.length
        · obtain ⟨ad', cap', hv, _, hst'⟩ := HM2.out.autV
          simp only [Value.slice.injEq] at hv
          obtain ⟨rfl, _, rfl⟩ := hv
          obtain ⟨bb, off, v0, v1, v2, rfl, hbl, e0, e1, e2, hs⟩ := hst' j hlt
          clear hst'
          obtain ⟨rfl, ⟨a1, n1, hv1, hcc1, hcc3⟩, hE⟩ := hs
          have hE2 := hE
          obtain ⟨a2, c2, rfl, hcc2, hE⟩ := hE
          obtain ⟨w5, hw5⟩ : ∃ w5, wr.alloc (.cells #[.int .u8 a[j].kind, v1, .slice a2 a[j].edges.length c2] 51) = w5 := ⟨_, rfl⟩
          have g5 : Grew wr w5 := hw5 ▸ grew_alloc wr _
          have o5 : Owns w5 wr.heap.size [.int .u8 a[j].kind, v1, .slice a2 a[j].edges.length c2] 51 := hw5 ▸ Owns.alloc wr _ _
          have M5 := HM2.out.keep g5
          have hjl : j < es'.length := by rw [HM2.out.len]; exact hlt
          have d2 := o5.cell_at (i := 2) rfl
          have k0 := M5.out.cell_at (i := 0) rfl
          have k1 := M5.dec.cell_at (i := 0) rfl
          have k2 : w5.cell? ⟨B + 1, j, none⟩ = some (.bool es'[j]) := M5.row.cell_at (by simp [hjl])
          have k3 := M5.row.free j
          have hadd : a.addB es' j = (!es'[j] && (a.dec j || a[j].edges.any fun e => es'.getD e.tgt.toNat false && (e.tok != -1 || a.dec e.tgt.toNat))) := by
            unfold Aut.addB
            rw [(Aut.at hlt).2.2]
            simp [List.getD, hjl]
          have HC1 := Lib.hid (palive1_ok a j hlt w5 _ M5.autV B (M5.box.cell_at (i := 0) rfl))
          have HC2 := Lib.hid (pcontE_ok a[j].edges (fun e => es'.getD e.tgt.toNat false && (e.tok != -1 || a.dec e.tgt.toNat)) 40 #[.pointer (some ⟨B + 1 + 1, 0, none⟩), .pointer (some ⟨B + 1 + 1 + 1, 0, none⟩)] enters40 w5 _ (by unfold reachN; have := ha.edges _ (List.getElem_mem hlt); omega) (hE2.grew g5)
            (fun i hi W' hg => palive2_ok a _ B es' W W' (M5.keep hg) a[j].edges[i] (ht j _ (by rw [(Aut.at hlt).2.2]; exact List.getElem_mem hi))))
          simp only [List.append_toArray, List.cons_append, List.nil_append] at HC1
          have hFx := enters39
          unfold Enters at hFx
          have HM5 := Lib.hid M5
          have HAdd := Lib.hid hadd
          have sl := ha.edges _ (List.getElem_mem hlt)
          clear M5 hadd hE hE2 g5 o5 HM2
          obtain ⟨a1', n1', c1', rfl⟩ : ∃ a1' n1' c1', v1 = .slice a1' n1' c1' := ⟨_, _, _, hv1⟩
          clear hv1 hcc1 hcc3
          obtain ⟨t, hte⟩ : ∃ t, t = es'[j] := ⟨_, rfl⟩
          rw [← hte] at k2 HAdd
          generalize (a[j].edges.any fun e => es'.getD e.tgt.toNat false && (e.tok != -1 || a.dec e.tgt.toNat)) = an at *
          generalize a.dec j = d at *
          clear hte
          cases t
          · cases d
            · cases an
              · go_wp2_with fail
                refine HC1.out.mono ?_
                rintro e w' ⟨rfl, rfl⟩
                go_wp2_with fail
                refine HC2.out.mono ?_
                rintro e w6 ⟨rfl, hb2⟩
                have M6 := Lib.hid (HM5.out.keep hb2)
                clear hb2
                go_wp2_with fail
                go_round
                case rel => exact ⟨j + 1, b, es', by go_num, rfl, by omega, M6.out, HS2.out.no HAdd.out⟩
                case measure => simp [intOf]; omega
              · go_wp2_with fail
                refine HC1.out.mono ?_
                rintro e w' ⟨rfl, rfl⟩
                go_wp2_with fail
                refine HC2.out.mono ?_
                rintro e w6 ⟨rfl, hb2⟩
                have M6 := HM5.out.keep hb2
                have m0 := M6.out.cell_at (i := 0) rfl
                have m2 : w6.cell? ⟨B + 1, j, none⟩ = some (.bool es'[j]) := M6.row.cell_at (by simp [hjl])
                have m3 := M6.row.free j
                have M7 := Lib.hid (M6.set j)
                clear hb2 M6
                go_wp2_with fail
                go_round
                case rel => exact ⟨j + 1, true, _, by go_num, rfl, by omega, M7.out, HS2.out.yes hlt HAdd.out⟩
                case measure => simp [intOf]; omega
            · go_wp2_with fail
              refine HC1.out.mono ?_
              rintro e w' ⟨rfl, rfl⟩
              have M6 := Lib.hid (HM5.out.set j)
              go_wp2_with fail
              go_round
              case rel => exact ⟨j + 1, true, _, by go_num, rfl, by omega, M6.out, HS2.out.yes hlt HAdd.out⟩
              case measure => simp [intOf]; omega
          · go_wp2_with fail
            go_round
            case rel => exact ⟨j + 1, b, es', by go_num, rfl, by omega, HM5.out, HS2.out.no HAdd.out⟩
            case measure => simp [intOf]; omega
        · have hje : j = a.length := by omega
          subst hje
          have hrel : ∃ (b' : Bool) (es'' : List Bool), Value.bool b = .bool b' ∧ Hid (AlvAt a (.slice ad a.length cap) B es'' W wr) ∧ Hid (∀ i, es''.getD i false = true → a.Live i) ∧ Hid (b' = false → ∀ k, k < a.length → a.addB es'' k = false) :=
            ⟨b, es', rfl, HM2.out, HS2.out.sound, fun hb => (HS2.out.none hb).2⟩
          have hmu : 2 * fal wr (B + 1) + (match Value.bool b with | .bool true => 1 | _ => 0) < 2 * fal wo (B + 1) + 1 := by
            rw [fal_of HM2.out.row, fal_of HM1.out.row]
            cases b
            · rw [(HS2.out.none rfl).1]; simp
            · have := HS2.out.some rfl; simp; omega
          have HR := Lib.hid hrel
          have HMU := Lib.hid hmu
          clear hrel hmu
          go_wp2_with fail
          go_round
          case rel => exact HR.out
          case measure => exact HMU.out
end Go.Proofs.YtogmlonhciiomaaDoor
