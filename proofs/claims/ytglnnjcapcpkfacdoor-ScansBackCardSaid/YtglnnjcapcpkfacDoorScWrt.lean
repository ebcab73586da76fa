/- Written: a word, written anew. -/
import Derived.Test.YtglnnjcapcpkfacDoorScBk3
import Derived.Test.YtglnnjcapcpkfacDoorScTxt
import Derived.Test.YtglnnjcapcpkfacDoorScLives
namespace Go.Proofs.YtglnnjcapcpkfacDoor
open Go.RowKit

theorem ba_append (a b : List UInt8) : ({ data := a.toArray } : ByteArray) ++ { data := b.toArray } = { data := (a ++ b).toArray } := by
  apply ByteArray.ext
  simp [ByteArray.data_append]
theorem ba_size (a : List UInt8) : ({ data := a.toArray } : ByteArray).size = a.length := by simp [ByteArray.size]
theorem textsL_append : ∀ (a b : List Int), textsL (a ++ b) = textsL a ++ textsL b
  | [], _ => rfl
  | r :: a, b => by rw [List.cons_append, textsL, textsL, textsL_append a b, List.append_assoc]
theorem rangesL_append (a b : List (Nat × Nat)) : rangesL (a ++ b) = rangesL a ++ rangesL b := by
  induction a with
  | nil => rfl
  | cons x a ih =>
    obtain ⟨x, y⟩ := x
    rw [List.cons_append, rangesL, rangesL, ih, List.append_assoc, List.cons_append, List.append_assoc]

theorem rangesL_one (x : Nat × Nat) : rangesL [x] = textL (x.1 : Int) ++ (45 :: textL (x.2 : Int)) := by
  obtain ⟨a, b⟩ := x
  rw [rangesL, rangesL, List.append_nil]

set_option maxHeartbeats 8000000 in
set_option maxRecDepth 20000 in
theorem written_ok (w : Wd) (R : List Int) (hw : Whole w R) (hlen : (writtenL w R).length ≤ 65536) (W : World) (hW : LaidB W) (base : Nat) (T : ByteArray) (sv : Value) (x y z : Int) (hT : T.data.toList = w.text) (hS : RangesV W base sv w.set) :
    Calls Tryd.prog 6 #[.agg #[.int .u8 (w.kind : Nat), .string T, sv, .int .i64 x, .int .i64 y, .int .i64 z]] W fun e W' => e = .returned (.string ⟨(writtenL w R).toArray⟩) ∧ Grew W W' := by
  obtain ⟨kind, text, set, at_⟩ := w
  have hk := hw.kind
  simp only at hk hT hS
  obtain ⟨sa, sc, rfl, hsc, hcell⟩ := hS.get
  have hgw := grew_alloc W (.cells #[.int .u8 (kind : Nat), .string T, .slice sa set.length sc, .int .i64 x, .int .i64 y, .int .i64 z] 37)
  have howb := Owns.alloc W [.int .u8 (kind : Nat), .string T, .slice sa set.length sc, .int .i64 x, .int .i64 y, .int .i64 z] 37
  have HTX := Lib.hid (fun r w (hg : Grew W w) => rtext_ok r w (hW.below hg))
  have HW := Lib.hid hW
  rcases kind_ways hk with rfl | rfl | rfl | rfl | rfl
  · have ht : (⟨(writtenL ⟨0, text, set, at_⟩ R).toArray⟩ : ByteArray) = T := by
      rw [text_det hT]; rfl
    rw [ht]
    have HG := Lib.hid hgw
    clear hcell hw hW hS hT hlen hgw howb HTX HW
    go_enter Tryd.func6, Tryd.ntmps6
    go_wp2_with fail
    go_ret
    exact ⟨rfl, HG.out⟩
  · have ht : (⟨(writtenL ⟨1, text, set, at_⟩ R).toArray⟩ : ByteArray) = T := by
      rw [text_det hT]; rfl
    rw [ht]
    have HG := Lib.hid hgw
    clear hcell hw hW hS hT hlen hgw howb HTX HW
    go_enter Tryd.func6, Tryd.ntmps6
    go_wp2_with fail
    go_ret
    exact ⟨rfl, HG.out⟩
  · obtain ⟨-, hne, hv, htx⟩ := hw.text rfl
    simp only at htx
    have hwl : writtenL ⟨2, text, set, at_⟩ R = 39 :: (textsL R ++ [39]) := rfl
    rw [hwl] at hlen ⊢
    simp only [List.length_cons, List.length_append, List.length_nil] at hlen
    obtain ⟨RES, hRES⟩ : ∃ RES : ByteArray, ({ data := (39 :: (textsL R ++ [39])).toArray } : ByteArray) = RES := ⟨_, rfl⟩
    rw [hRES]
    have HRES := Lib.hid hRES
    clear hRES
    have hTl : T.data.toList = allBytes R := hT.trans htx
    have hTs : T.size = (allBytes R).length := by rw [Lib.size_eq, hTl]
    have hI := World.iter_heap (W.alloc (.cells #[.int .u8 ((2 : Nat) : Int), .string T, .slice sa set.length sc, .int .i64 x, .int .i64 y, .int .i64 z] 37)) T 0
    have hgi : Grew (W.alloc (.cells #[.int .u8 ((2 : Nat) : Int), .string T, .slice sa set.length sc, .int .i64 x, .int .i64 y, .int .i64 z] 37)) ((W.alloc (.cells #[.int .u8 ((2 : Nat) : Int), .string T, .slice sa set.length sc, .int .i64 x, .int .i64 y, .int .i64 z] 37)).iter T 0) := Below.alloc (Below.refl _ _) (Nat.le_refl _) _
    have hz : (W.alloc (.cells #[.int .u8 ((2 : Nat) : Int), .string T, .slice sa set.length sc, .int .i64 x, .int .i64 y, .int .i64 z] 37)).heap.size = W.heap.size + 1 := by simp
    rw [hz] at hI
    have HI := Lib.hid hI
    have HG := Lib.hid (hgw.trans hgi)
    have HV := Lib.hid hv
    have HTL := Lib.hid hTl
    clear hcell hw hW hS hT hgw howb HW hI hgi hz hv hTl hne htx
    change Calls Tryd.prog 6 #[.agg #[.int .u8 2, .string T, .slice sa set.length sc, .int .i64 x, .int .i64 y, .int .i64 z]] W _
    go_enter Tryd.func6, Tryd.ntmps6
    go_wp2_with fail
    generalize (W.alloc (.cells #[.int .u8 2, .string T, .slice sa set.length sc, .int .i64 x, .int .i64 y, .int .i64 z] 37)).iter T 0 = w1 at *
    go_loopw [3, 5] (fun vs _ wr => ∃ (R1 R2 : List Int) (pos : Nat), vs = .string ⟨(textsL R1).toArray⟩ ∧ R = R1 ++ R2 ∧ wr.heap[W.heap.size + 1]? = some (.stringIter T pos) ∧ Hid (T.data.toList.drop pos = allBytes R2) ∧ pos + (allBytes R2).length = T.size ∧ Hid (Grew W wr)) (fun _ _ wr => T.size + 4 - wr.iterPos (W.heap.size + 1))
    case atStart =>
      exact ⟨[], R, 0, rfl, rfl, HI.out, HTL.out, by omega, HG.out⟩
    case round =>
      obtain ⟨R1, R2, pos, rfl, hR, hit, hdr, hps, hgr⟩ := hrel
      have hsz : W.heap.size + 1 < wr.heap.size := (Array.getElem?_eq_some_iff.1 hit).1
      have hip : wr.iterPos (W.heap.size + 1) = pos := by
        unfold World.iterPos
        rw [hit]
      cases R2 with
      | nil =>
        rw [List.append_nil] at hR
        subst hR
        have hpe : pos = T.size := by simpa [allBytes] using hps
        have hnp : ¬ pos < T.size := by omega
        have hnx : ∀ ty, (Instr.next (.pointer (some ⟨W.heap.size + 1, 0, none⟩)) true ty).run Tryd.prog wr = _ := fun ty => Lib.run_next_end_at wr (W.heap.size + 1) T pos ty hit hnp
        have hj : ({ data := #[39] } : ByteArray) ++ { data := (textsL R).toArray } ++ { data := #[39] } = { data := (39 :: (textsL R ++ [39])).toArray } := by
          have e1 := ba_append [39] (textsL R)
          have e2 := ba_append ([39] ++ textsL R) [39]
          rw [show ({ data := #[39] } : ByteArray) = { data := [39].toArray } from rfl, e1, e2]
          rfl
        have HJ := Lib.hid (HRES.out.symm.trans hj.symm)
        have hbs := ba_size (textsL R)
        clear hj
        generalize ({ data := (textsL R).toArray } : ByteArray) = S at *
        clear HI HG HV HTL hdr hit hip
        go_wp2_with fail
        go_ret
        exact ⟨by rw [HJ.out]; rfl, hgr.out⟩
      | cons r R3 =>
        have hvr : Lib.validRune r = true := HV.out r (by rw [hR]; simp)
        have hvi := valid_in r hvr
        have hb := decode_bytes r hvr (allBytes R3)
        have hps' : pos + ((bytesOf r).length + (allBytes R3).length) = T.size := by
          rw [allBytes, List.length_append] at hps
          exact hps
        have hp : pos < T.size := by omega
        have hde : Utf8.decode T pos = (r.toNat, (bytesOf r).length) := by
          rw [← Lib.decodeL_drop, hdr.out, allBytes]
          exact hb.1
        have hnx : ∀ ty, (Instr.next (.pointer (some ⟨W.heap.size + 1, 0, none⟩)) true ty).run Tryd.prog wr = _ := fun ty => Lib.run_next_any_at wr (W.heap.size + 1) T pos ty hit hp
        rw [hde] at hnx
        simp only at hnx
        rw [show ((r.toNat : Nat) : Int) = r by omega] at hnx
        have hit1 := Lib.iterAt_heap wr _ T pos (pos + (bytesOf r).length) hit
        have hb1 := Lib.below_iterAt (B := W.heap.size) (k := W.heap.size + 1) hgr.out (by omega) T (pos + (bytesOf r).length)
        have hdr1 : Hid (T.data.toList.drop (pos + (bytesOf r).length) = allBytes R3) := by
          have := hdr.out
          rw [allBytes] at this
          exact drop_more this
        have HTR := Lib.hid (HTX.out r (wr.iterAt (W.heap.size + 1) T (pos + (bytesOf r).length)) hb1)
        have hj := ba_append (textsL R1) (textL r)
        have hts : textsL (R1 ++ [r]) = textsL R1 ++ textL r := by rw [textsL_append]; simp [textsL]
        rw [← hts] at hj
        have hbs := ba_size (textsL R1)
        have hbt := ba_size (textL r)
        have htl : (textL r).length ≤ 10 := (textL_len r hvr).2
        have hl1 : (textsL R1).length ≤ 65536 := by
          rw [hR, textsL_append, List.length_append] at hlen
          omega
        have hmu : T.size + 4 - (pos + (bytesOf r).length) < T.size + 4 - pos := by omega
        have hR' : R = (R1 ++ [r]) ++ R3 := by rw [hR]; simp
        have HJ := Lib.hid hj
        have HITE := Lib.hid hit1
        have HMU := Lib.hid hmu
        have HB1 := Lib.hid hb1
        unfold TextIs at HTR
        clear hb hde hj hts hdr hvr HG HI HTL hit1 hb1 hmu
        generalize hwI : wr.iterAt (W.heap.size + 1) T (pos + (bytesOf r).length) = wi at *
        generalize ({ data := (textL r).toArray } : ByteArray) = S2 at *
        generalize hS1 : ({ data := (textsL R1).toArray } : ByteArray) = S1 at *
        go_wp2_with fail
        refine HTR.out.mono ?_
        rintro e w2 ⟨rfl, hg2⟩
        have G2 := Lib.hid (HB1.out.trans (hg2.mono (by have := HB1.out.size; omega)))
        have hit2 : w2.heap[W.heap.size + 1]? = some (.stringIter T (pos + (bytesOf r).length)) := (hg2.block _ (by have := HITE.out; exact (Array.getElem?_eq_some_iff.1 this).1)).trans HITE.out
        clear hg2
        go_wp2_with fail
        refine ⟨⟨R1 ++ [r], R3, pos + (bytesOf r).length, by rw [HJ.out], hR', hit2, hdr1, by omega, G2.out⟩, ?_⟩
        rw [hip]
        unfold World.iterPos
        rw [hit2]
        exact HMU.out
  · obtain ⟨-, hne, hv⟩ := hw.set rfl
    simp only at hv
    have hwl : writtenL ⟨3, text, set, at_⟩ R = 91 :: (rangesL set ++ [93]) := rfl
    rw [hwl] at hlen ⊢
    simp only [List.length_cons, List.length_append, List.length_nil] at hlen
    obtain ⟨RES, hRES⟩ : ∃ RES : ByteArray, ({ data := (91 :: (rangesL set ++ [93])).toArray } : ByteArray) = RES := ⟨_, rfl⟩
    rw [hRES]
    have HRES := Lib.hid hRES
    have HG := Lib.hid hgw
    have HV := Lib.hid hv
    have HCE := Lib.hid hcell
    have howb : Owns (W.alloc (.cells #[.int .u8 3, .string T, .slice sa set.length sc, .int .i64 x, .int .i64 y, .int .i64 z] 37)) W.heap.size [.int .u8 3, .string T, .slice sa set.length sc, .int .i64 x, .int .i64 y, .int .i64 z] 37 := Owns.alloc W _ _
    have HOW := Lib.hid howb
    clear hRES hcell hw hW hS hT hgw howb HW hv hne
    obtain ⟨n, hn⟩ : ∃ n, set.length = n := ⟨_, rfl⟩
    have HN := Lib.hid hn
    rw [hn] at hsc HG HOW ⊢
    have hn6 : n ≤ 65536 := by have := rangesL_le set; omega
    have hmost : n ≤ 9223372036854775807 := by omega
    change Calls Tryd.prog 6 #[.agg #[.int .u8 3, .string T, .slice sa n sc, .int .i64 x, .int .i64 y, .int .i64 z]] W _
    clear hn
    go_enter Tryd.func6, Tryd.ntmps6
    go_wp2_with fail
    generalize W.alloc (.cells #[.int .u8 3, .string T, .slice sa n sc, .int .i64 x, .int .i64 y, .int .i64 z] 37) = w1 at *
    go_loopw [3, 6] (fun vs vi wr => ∃ (j : Nat), vs = .string ⟨(rangesL (set.take j)).toArray⟩ ∧ vi = .int .i64 j ∧ j ≤ n ∧ Hid (Grew W wr) ∧ Hid (Grew w1 wr)) (fun _ vi _ => n - (intOf vi).toNat)
    case atStart =>
      exact ⟨0, rfl, rfl, Nat.zero_le _, HG.out, Grew.refl _⟩
    case round =>
      obtain ⟨j, rfl, rfl, hj, hgr, hg1⟩ := hrel
      have howr := HOW.out.keep hg1.out
      have b2 := howr.cell_at (i := 2) rfl
      have hlw := howr.lt
      by_cases hlt : j < n
      · have hjs : j < set.length := by rw [HN.out]; exact hlt
        obtain ⟨g, rfl, hgl, q0, q1⟩ := HCE.out j hjs
        have hxv := HV.out set[j] (List.getElem_mem hjs)
        have c0 := (hgr.out.cells _ _ hgl).trans q0
        have c1 := (hgr.out.cells _ _ hgl).trans q1
        have hg2 : g < wr.heap.size := Nat.lt_of_lt_of_le hgl hgr.out.size
        have hts : rangesL (set.take (j + 1)) = rangesL (set.take j) ++ (textL (set[j].1 : Int) ++ (45 :: textL (set[j].2 : Int))) := by
          rw [List.take_succ_eq_append_getElem hjs, rangesL_append, rangesL_one]
        have hl1 : (rangesL (set.take j)).length ≤ 65536 := by
          have := congrArg (fun l => (rangesL l).length) (List.take_append_drop j set)
          simp only [rangesL_append, List.length_append] at this
          omega
        obtain ⟨hx1, hx2, _⟩ := hxv
        clear q0 q1
        generalize set[j] = xx at *
        obtain ⟨x1, x2⟩ := xx
        have c0 : wr.cell? ⟨g, j * 2, none⟩ = some (.int .i32 (x1 : Nat)) := c0
        have c1 : wr.cell? ⟨g, j * 2 + 1, none⟩ = some (.int .i32 (x2 : Nat)) := c1
        have hts : rangesL (set.take (j + 1)) = rangesL (set.take j) ++ (textL (x1 : Int) ++ (45 :: textL (x2 : Int))) := hts
        have hx1 : Lib.validRune (x1 : Int) = true := hx1
        have hx2 : Lib.validRune (x2 : Int) = true := hx2
        have ht1 := (textL_len (x1 : Int) hx1).2
        have ht2 := (textL_len (x2 : Int) hx2).2
        have hr1 := valid_small x1 hx1
        have hr2 := valid_small x2 hx2
        have hj := ba_append (rangesL (set.take j)) (textL (x1 : Int))
        have hj2 := ba_append (rangesL (set.take j) ++ textL (x1 : Int)) [45]
        have hj3 := ba_append (rangesL (set.take j) ++ textL (x1 : Int) ++ [45]) (textL (x2 : Int))
        have hjj : ({ data := (rangesL (set.take j)).toArray } : ByteArray) ++ { data := (textL (x1 : Int)).toArray } ++ { data := #[45] } ++ { data := (textL (x2 : Int)).toArray } = { data := (rangesL (set.take (j + 1))).toArray } := by
          rw [hj, show ({ data := #[45] } : ByteArray) = { data := [45].toArray } from rfl, hj2, hj3, hts]
          rw [List.append_assoc, List.append_assoc, List.singleton_append]
        have hbs := ba_size (rangesL (set.take j))
        have hb1 := ba_size (textL (x1 : Int))
        have hb2 := ba_size (textL (x2 : Int))
        have HT1 := Lib.hid (fun w hg => HTX.out (x1 : Int) w hg)
        have HT2 := Lib.hid (fun w hg => HTX.out (x2 : Int) w hg)
        unfold TextIs at HT1 HT2
        have HJJ := Lib.hid hjj
        clear hj2 hj3 hjj hts hx1 hx2
        generalize ({ data := (textL (x1 : Int)).toArray } : ByteArray) = S1 at *
        generalize ({ data := (textL (x2 : Int)).toArray } : ByteArray) = S2 at *
        generalize hS0 : ({ data := (rangesL (set.take j)).toArray } : ByteArray) = S0 at *
        have hs1 : S1.size ≤ 10 := by omega
        have hs2 : S2.size ≤ 10 := by omega
        have hs0 : S0.size ≤ 65536 := by omega
        clear hj hb1 hb2 hbs
        go_wp2_with fail
        refine wp_region_hav_lit follows (by kernel_rfl) ?_
        iterate 7 (first
          | (refine HavG.skip (fun _ => rfl) ?_; simp only [Act.put, List.setIfInBounds_toArray, List.set_cons_zero, List.set_cons_succ])
          | (refine HavG.val (fun _ => rfl) ?_ (fun x w hw _ => ?_) ?_; rotate_left; (focus (have hc := hw.cells; clear hw; go_simp; first | done | rfl)); simp only [Act.put, List.setIfInBounds_toArray, List.set_cons_zero, List.set_cons_succ]))
        refine HavG.det (fun _ => rfl) (.string S1) (fun x w hw hd => ?_) ?_
        · clear hd
          have HWW := Lib.hid hw
          clear hw
          go_simp
          refine (HT1.out w (hgr.out.trans HWW.out)).mono ?_
          rintro e w' ⟨rfl, hg⟩
          exact ⟨rfl, hg⟩
        simp only [Act.put, List.setIfInBounds_toArray, List.set_cons_zero, List.set_cons_succ]
        refine HavG.val (fun _ => rfl) (.string (S0 ++ S1)) (fun x w hw _ => ?_) ?_
        · clear hw
          go_simp
          omega
        simp only [Act.put, List.setIfInBounds_toArray, List.set_cons_zero, List.set_cons_succ]
        refine HavG.val (fun _ => rfl) (.string (S0 ++ S1 ++ { data := #[45] })) (fun x w hw _ => ?_) ?_
        · clear hw
          go_simp
          omega
        simp only [Act.put, List.setIfInBounds_toArray, List.set_cons_zero, List.set_cons_succ]
        iterate 6 (first
          | (refine HavG.skip (fun _ => rfl) ?_; simp only [Act.put, List.setIfInBounds_toArray, List.set_cons_zero, List.set_cons_succ])
          | (refine HavG.val (fun _ => rfl) ?_ (fun x w hw _ => ?_) ?_; rotate_left; (focus (have hc := hw.cells; clear hw; go_simp; first | done | rfl)); simp only [Act.put, List.setIfInBounds_toArray, List.set_cons_zero, List.set_cons_succ]))
        refine HavG.det (fun _ => rfl) (.string S2) (fun x w hw hd => ?_) ?_
        · clear hd
          have HWW := Lib.hid hw
          clear hw
          go_simp
          refine (HT2.out w (hgr.out.trans HWW.out)).mono ?_
          rintro e w' ⟨rfl, hg⟩
          exact ⟨rfl, hg⟩
        simp only [Act.put, List.setIfInBounds_toArray, List.set_cons_zero, List.set_cons_succ]
        refine HavG.val (fun _ => rfl) (.string (S0 ++ S1 ++ { data := #[45] } ++ S2)) (fun x w hw _ => ?_) ?_
        · have h45 : ({ data := #[45] } : ByteArray).size = 1 := rfl
          clear hw
          go_simp
          first | omega | (simp only [ByteArray.size_append]; omega)
        simp only [Act.put, List.setIfInBounds_toArray, List.set_cons_zero, List.set_cons_succ]
        refine HavG.tail (by kernel_rfl) (by kernel_rfl) (fun x w hw _ => ?_)
        have HR1 := Lib.hid (hgr.out.trans hw)
        have HR2 := Lib.hid (hg1.out.trans hw)
        clear hw
        go_wp2_with fail
        exact ⟨⟨j + 1, by rw [HJJ.out], by go_num, by omega, HR1.out, HR2.out⟩, by simp [intOf]; omega⟩
      · have hjn : j = n := by omega
        have hset : set.take j = set := List.take_of_length_le (by rw [HN.out]; omega)
        rw [hset]
        have hj : ({ data := #[91] } : ByteArray) ++ { data := (rangesL set).toArray } ++ { data := #[93] } = { data := (91 :: (rangesL set ++ [93])).toArray } := by
          have e1 := ba_append [91] (rangesL set)
          have e2 := ba_append ([91] ++ rangesL set) [93]
          rw [show ({ data := #[91] } : ByteArray) = { data := [91].toArray } from rfl, show ({ data := #[93] } : ByteArray) = { data := [93].toArray } from rfl, e1, e2]
          rfl
        have HJ := Lib.hid (HRES.out.symm.trans hj.symm)
        have hbs := ba_size (rangesL set)
        clear hj hset HCE HV HTX
        generalize ({ data := (rangesL set).toArray } : ByteArray) = S at *
        go_wp2_with fail
        go_ret
        exact ⟨by rw [HJ.out]; rfl, hgr.out⟩
  · have ht : (⟨(writtenL ⟨4, text, set, at_⟩ R).toArray⟩ : ByteArray) = T := by
      rw [text_det hT]; rfl
    rw [ht]
    have HG := Lib.hid hgw
    clear hcell hw hW hS hT hlen hgw howb HTX HW
    go_enter Tryd.func6, Tryd.ntmps6
    go_wp2_with fail
    go_ret
    exact ⟨rfl, HG.out⟩
end Go.Proofs.YtglnnjcapcpkfacDoor
