/- (part).parted: states parted anew by their signs. -/
import Derived.Test.YtogmlonhciiomaaDoorPrSign
import Derived.Test.YtogmlonhciiomaaDoorPrMap
namespace Go.Proofs.YtogmlonhciiomaaDoor
open Go.RowKit

/-- parting, as far as j -/
structure PtInv (sg : Nat → List UInt8) (ks : List (List UInt8)) (qs : List Nat) (j : Nat) : Prop where
  len : qs.length = j
  at' : ∀ i (h : i < qs.length), ∃ hq : qs[i] < ks.length, ks[qs[i]] = sg i
  surj : ∀ c, c < ks.length → ∃ i, ∃ h : i < qs.length, qs[i] = c
  inj : ∀ a b (ha : a < ks.length) (hb : b < ks.length), ks[a] = ks[b] → a = b
theorem PtInv.start (sg : Nat → List UInt8) : PtInv sg [] [] 0 := ⟨rfl, fun i h => absurd h (by simp), fun c h => absurd h (by simp), fun a b h => absurd h (by simp)⟩
theorem PtInv.old {sg : Nat → List UInt8} {ks : List (List UInt8)} {qs : List Nat} {j c : Nat} (h : PtInv sg ks qs j) (hc : ks.findIdx? (fun k => sg j == k) = some c) : PtInv sg ks (qs ++ [c]) (j + 1) := by
  rw [List.findIdx?_eq_some_iff_getElem] at hc
  obtain ⟨hlt, he, _⟩ := hc
  refine ⟨by simp [h.len], fun i hi => ?_, fun d hd => ?_, h.inj⟩
  · by_cases e : i < qs.length
    · rw [List.getElem_append_left e]; exact h.at' i e
    · have e' : i = qs.length := by simp only [List.length_append, List.length_cons, List.length_nil] at hi; omega
      subst e'
      simp only [List.getElem_concat_length]
      exact ⟨hlt, (by simpa using he : sg j = ks[c]).symm.trans (by rw [h.len])⟩
  · obtain ⟨i, hi, e⟩ := h.surj d hd
    exact ⟨i, by simp; omega, by rw [List.getElem_append_left hi]; exact e⟩
theorem PtInv.new {sg : Nat → List UInt8} {ks : List (List UInt8)} {qs : List Nat} {j : Nat} (h : PtInv sg ks qs j) (hc : ks.findIdx? (fun k => sg j == k) = none) : PtInv sg (ks ++ [sg j]) (qs ++ [ks.length]) (j + 1) := by
  rw [List.findIdx?_eq_none_iff] at hc
  have hno : ∀ a (ha : a < ks.length), ks[a] ≠ sg j := fun a ha e => by
    have := hc _ (List.getElem_mem ha)
    rw [e] at this
    simp at this
  refine ⟨by simp [h.len], fun i hi => ?_, fun d hd => ?_, fun a b ha hb e => ?_⟩
  · by_cases e : i < qs.length
    · obtain ⟨h1, h2⟩ := h.at' i e
      rw [List.getElem_append_left e]
      exact ⟨by simp; omega, by rw [List.getElem_append_left h1]; exact h2⟩
    · have e' : i = qs.length := by simp only [List.length_append, List.length_cons, List.length_nil] at hi; omega
      subst e'
      simp only [List.getElem_concat_length]
      exact ⟨by simp, by rw [h.len]⟩
  · by_cases e : d < ks.length
    · obtain ⟨i, hi, e⟩ := h.surj d e
      exact ⟨i, by simp; omega, by rw [List.getElem_append_left hi]; exact e⟩
    · have e' : d = ks.length := by simp only [List.length_append, List.length_cons, List.length_nil] at hd; omega
      subst e'
      exact ⟨qs.length, by simp, by simp⟩
  · simp only [List.length_append, List.length_cons, List.length_nil] at ha hb
    by_cases ea : a < ks.length
    · by_cases eb : b < ks.length
      · rw [List.getElem_append_left ea, List.getElem_append_left eb] at e
        exact h.inj a b ea eb e
      · have : b = ks.length := by omega
        subst this
        rw [List.getElem_append_left ea, List.getElem_concat_length rfl] at e
        exact absurd e (hno a ea)
    · have : a = ks.length := by omega
      subst this
      by_cases eb : b < ks.length
      · rw [List.getElem_append_left eb, List.getElem_concat_length rfl] at e
        exact absurd e.symm (hno b eb)
      · omega
theorem PtInv.done {t : Aut} {p qs : List Nat} {ks : List (List UInt8)} {sg : Nat → List UInt8} (h : PtInv sg ks qs t.length) (hs : ∀ i (hi : i < t.length), sg i = t[i].sg p) (hm : ∀ i (hi : i < t.length), 0 ≤ t[i].kind ∧ t[i].kind ≤ 255) : Parted t p qs ks.length := by
  refine ⟨h.len, fun i hi => (h.at' i hi).1, h.surj, fun i j hi hj => ?_⟩
  have hi' : i < t.length := by rw [← h.len]; exact hi
  have hj' : j < t.length := by rw [← h.len]; exact hj
  obtain ⟨a1, a2⟩ := h.at' i hi
  obtain ⟨b1, b2⟩ := h.at' j hj
  have key : sg i = sg j ↔ Sg t p i = Sg t p j := by
    rw [hs i hi', hs j hj']
    unfold Stt.sg Sg
    obtain ⟨k1, k2, k3⟩ := Aut.at hi'
    obtain ⟨m1, m2, m3⟩ := Aut.at hj'
    rw [k1, k2, k3, m1, m2, m3]
    constructor
    · intro e
      obtain ⟨e1, e2, e3⟩ := sgB_inj (hm i hi') (hm j hj') e
      rw [e1, e2, e3]
    · intro e
      simp only [Prod.mk.injEq] at e
      rw [e.1, e.2.1, e.2.2]
  rw [← key, ← a2, ← b2]
  constructor
  · intro e; simp only [e]
  · intro e; exact h.inj _ _ a1 b1 e

def keyV (l : List UInt8) : Value := .string ⟨l.toArray⟩
def keyF (a : ByteArray) : Value → Bool
  | .string b => a == b
  | _ => false
theorem key_beq (l m : List UInt8) : ((⟨l.toArray⟩ : ByteArray) == ⟨m.toArray⟩) = (l == m) := by
  rw [beq_toListBytes, ByteArray.toList_eq, ByteArray.toList_eq]
theorem key_find (l : List UInt8) (ks : List (List UInt8)) : (ks.map keyV).findIdx? (keyF ⟨l.toArray⟩) = ks.findIdx? fun k => l == k := by
  rw [List.findIdx?_map]
  congr 1
  funext k
  exact key_beq l k
theorem key_run (P : Program) (w : World) {kt : TypeId} (ht : P.underlying kt = some .string) (l : List UInt8) (ks : List (List UInt8)) : KeyRun P w kt (keyV l) (keyF ⟨l.toArray⟩) (numL (ks.map keyV)) :=
  KeyRun.string ht fun x hx => by
    obtain ⟨i, hi, rfl⟩ := List.mem_iff_getElem.1 hx
    rw [numL_len] at hi
    have := numL_at (ks.map keyV) i hi
    rw [List.getElem?_eq_some_iff] at this
    obtain ⟨_, e⟩ := this
    rw [e]
    simp only [List.getElem_map]
    exact ⟨_, rfl, rfl⟩
theorem pmake_part (n : Nat) (hn : n ≤ 1048576) (u : World) : (Instr.makeSlice 75 (.int .i64 (n : Int)) (.int .i64 (n : Int))).run Tryd.prog u =
    .ok (.slice (some ⟨u.heap.size, 0, none⟩) n n) (u.alloc (.cells (List.replicate n (.int .i64 0)).toArray 3)) := by
  obtain ⟨i0, hi, hz0, hz1, hz2⟩ := info_parts info_pint
  have h := run_make (P := Tryd.prog) u 75 3 i0 (.int .i64 0) Tryd.underlying75 hi hz0 .i64 .i64 (n : Int) (n : Int) (by omega) (Int.le_refl _) (by rw [hz2]; omega) (by omega)
  rw [Int.toNat_natCast, hz1, Nat.mul_one] at h
  rw [h, ← pmade_ones]
  rfl
theorem putObj_below {w w0 : World} {b B : Nat} (h : Below B w0 w) (hb : B ≤ b) (o : Obj) : Below B w0 (putObj w b o) :=
  ⟨h.os, h.tape, h.output, by rw [putObj_size]; exact h.size, fun k hk => by rw [putObj_other (by omega)]; exact h.block k hk⟩
theorem putObj_owns {w : World} {b g T : Nat} {cs : List Value} (h : Owns w g cs T) (hne : g ≠ b) (o : Obj) : Owns (putObj w b o) g cs T := by
  unfold Owns at *
  rw [putObj_other hne]; exact h
/-- what parted gives -/
def PartedIs (t : Aut) (p : List Nat) (W : World) (e : Ending) (W' : World) : Prop := ∃ (ob : Nat) (qs : List Nat) (m : Nat), e = .returned (.tuple #[.slice (some ⟨ob, 0, none⟩) t.length t.length, .int .i64 m]) ∧ Owns W' ob (intVs (partL qs)) 3 ∧ Parted t p qs m ∧ W.heap.size ≤ ob ∧ Grew W W'
theorem qs_set (xs : List Value) (n : Nat) (v z : Value) (h : xs.length < n) : (xs ++ List.replicate (n - xs.length) z).set xs.length v = (xs ++ [v]) ++ List.replicate (n - (xs ++ [v]).length) z := by
  rw [List.set_append_right _ _ (Nat.le_refl _), Nat.sub_self]
  obtain ⟨m, hm⟩ : ∃ m, n - xs.length = m + 1 := ⟨n - xs.length - 1, by omega⟩
  rw [hm, List.replicate_succ, List.set_cons_zero, List.append_assoc, List.length_append, List.length_singleton, show n - (xs.length + 1) = m by omega]
  rfl

set_option maxHeartbeats 4000000 in
set_option maxRecDepth 20000 in
theorem pparted_ok (t : Aut) (p : List Nat) (hpl : p.length = t.length) (hn : t.length ≤ 4096) (hm : ∀ s ∈ t, s.Mild t.length) (hp : ∀ x ∈ p, x ≤ 1000000) (W : World) (hT : Tab W) (pv v : Value) (hP : IntsV W W.heap.size pv (partL p)) (hA : AutV .u8 W W.heap.size v t) :
    Calls Tryd.prog 34 #[pv, .agg #[v]] W (PartedIs t p W) := by
  have hA2 := hA
  obtain ⟨ad, cap, rfl, hcap, hA⟩ := hA
  have hP2 := hP
  obtain ⟨pa, pc, rfl, hpc, hP⟩ := hP
  have hplen : (partL p).length = t.length := by simp [partL, hpl]
  rw [hplen] at hP2 ⊢
  have hmk : ∀ (ty : TypeId) (w : World), (Instr.makeMap ty none).run Tryd.prog w = .ok (.map (some w.heap.size)) (w.alloc (.map #[] 0)) := fun _ _ => rfl
  obtain ⟨w1, hw1⟩ : ∃ w1, W.alloc (.cells #[.slice ad t.length cap] 24) = w1 := ⟨_, rfl⟩
  obtain ⟨w2, hw2⟩ : ∃ w2, w1.alloc (.map #[] 0) = w2 := ⟨_, rfl⟩
  obtain ⟨w3, hw3⟩ : ∃ w3, w2.alloc (.cells (List.replicate t.length (.int .i64 0)).toArray 3) = w3 := ⟨_, rfl⟩
  have z1 : w1.heap.size = W.heap.size + 1 := by rw [← hw1]; simp
  have z2 : w2.heap.size = W.heap.size + 1 + 1 := by rw [← hw2]; simp; omega
  have g1 : Grew W w1 := hw1 ▸ grew_alloc W _
  have g2 : Grew w1 w2 := hw2 ▸ grew_alloc w1 _
  have g3 : Grew w2 w3 := hw3 ▸ grew_alloc w2 _
  have o1 : Owns w3 W.heap.size [.slice ad t.length cap] 24 := (hw1 ▸ Owns.alloc W _ _ : Owns w1 W.heap.size [.slice ad t.length cap] 24).keep (g2.trans g3)
  have o3 : Owns w3 (W.heap.size + 1 + 1) (List.replicate t.length (.int .i64 0)) 3 := z2 ▸ hw3 ▸ Owns.alloc w2 _ _
  have hmap : w3.heap[W.heap.size + 1]? = some (mapObj (numL (([] : List (List UInt8)).map keyV))) := by
    rw [g3.block _ (by omega), ← hw2, ← z1]
    exact heap_alloc_new w1 _
  have c1 := o1.cell_at (i := 0) rfl
  have hms := pmake_part t.length (by omega) w2
  rw [hw3, z2] at hms
  have hmk2 : ∀ (ty : TypeId), (Instr.makeMap ty none).run Tryd.prog w1 = .ok (.map (some (W.heap.size + 1))) w2 := fun ty => by rw [hmk, hw2, z1]
  have HG := Lib.hid (g1.trans (g2.trans g3))
  have HO3 := Lib.hid o3
  have HMP := Lib.hid hmap
  have HA := Lib.hid hA
  have HP2 := Lib.hid hP2
  have HT := Lib.hid hT
  have HA2 := Lib.hid hA2
  clear g1 g2 g3 o1 o3 hmap hA hA2 hP2 hP hmk hT hpc
  go_enter Tryd.func34, Tryd.ntmps34
  go_wp2_with fail
  have HH := Lib.hid hplen
  clear hplen hmk2 hms hw1 hw2 hw3 z1 z2 c1
  have z3 : W.heap.size + 1 + 1 < w3.heap.size := HO3.out.lt
  go_loopw [20] (fun i wr => ∃ (j : Nat) (ks : List (List UInt8)) (qs : List Nat), i = .int .i64 j ∧ j ≤ t.length ∧ Hid (wr.heap[W.heap.size + 1]? = some (mapObj (numL (ks.map keyV)))) ∧
      Hid (Owns wr (W.heap.size + 1 + 1) (intVs (partL qs) ++ List.replicate (t.length - (intVs (partL qs)).length) (.int .i64 0)) 3) ∧ Hid (Grew W wr) ∧ Hid (PtInv (fun i => if hi : i < t.length then t[i].sg p else []) ks qs j)) (fun i _ => t.length - (intOf i).toNat)
  case atStart => exact ⟨0, [], [], rfl, by omega, HMP.out, by simpa [partL, intVs] using HO3, HG.out, PtInv.start _⟩
  case round =>
    obtain ⟨j, ks, qs, rfl, hj, HMP, HO, HGW, HI⟩ := hrel
    by_cases hlt : j < t.length
    · obtain ⟨b, off, v0, v1, v2, rfl, hbl, e0, e1, e2, hs⟩ := HA.out j hlt
      obtain ⟨k0, rfl⟩ : ∃ k0, v0 = .int .u8 k0 := ⟨_, hs.1⟩
      obtain ⟨a1, n1, c1, rfl⟩ : ∃ a1 n1 c1, v1 = .slice a1 n1 c1 := by obtain ⟨a, c, h, _⟩ := hs.2.1; exact ⟨_, _, _, h⟩
      obtain ⟨a2, n2, c2, rfl⟩ : ∃ a2 n2 c2, v2 = .slice a2 n2 c2 := by obtain ⟨a, c, h, _⟩ := hs.2.2; exact ⟨_, _, _, h⟩
      have r0 : wr.cell? ⟨b, off + j * 3, none⟩ = some (.int .u8 k0) := by rw [HGW.out.cells _ _ hbl]; exact e0
      have r1 : wr.cell? ⟨b, off + j * 3 + 1, none⟩ = some (.slice a1 n1 c1) := by rw [HGW.out.cells _ _ hbl]; exact e1
      have r2 : wr.cell? ⟨b, off + j * 3 + 2, none⟩ = some (.slice a2 n2 c2) := by rw [HGW.out.cells _ _ hbl]; exact e2
      obtain ⟨w4, hw4⟩ : ∃ w4, wr.alloc (.cells #[.int .u8 k0, .slice a1 n1 c1, .slice a2 n2 c2] 51) = w4 := ⟨_, rfl⟩
      have g4 : Grew wr w4 := hw4 ▸ grew_alloc wr _
      have o4 : Owns w4 wr.heap.size [.int .u8 k0, .slice a1 n1 c1, .slice a2 n2 c2] 51 := hw4 ▸ Owns.alloc wr _ _
      have hgw4 : Grew W w4 := HGW.out.trans g4
      have d0 := o4.cell_at (i := 0) rfl
      have d1 := o4.cell_at (i := 1) rfl
      have d2 := o4.cell_at (i := 2) rfl
      have HS := Lib.hid (psign_ok t[j] p (by rw [hpl]; exact hm _ (List.getElem_mem hlt)) hp w4 (HT.out.keep hgw4) _ _ _ _ (HP2.out.grew hgw4) (hs.grew hgw4))
      have hM4 := g4.block _ (Array.getElem?_eq_some_iff.1 HMP.out).1
      rw [HMP.out] at hM4
      have HM4 := Lib.hid hM4
      have HO4 := Lib.hid (HO.out.keep g4)
      have HG4 := Lib.hid hgw4
      have hsg : (fun i => if hi : i < t.length then t[i].sg p else []) j = t[j].sg p := by simp [hlt]
      have HSG := Lib.hid hsg
      clear e0 e1 e2 hs hM4 o4 g4 hgw4 hsg
      go_wp2_with fail
      refine HS.out.mono ?_
      rintro e w5 ⟨rfl, hb5⟩
      have hM5 := hb5.block _ (Array.getElem?_eq_some_iff.1 HM4.out).1
      rw [HM4.out] at hM5
      have hO5 := HO4.out.keep hb5
      have hG5 := HG4.out.trans hb5
      have hql : (intVs (partL qs)).length = j := by simp [intVs, partL, HI.out.len]
      have hjl : j < (intVs (partL qs) ++ List.replicate (t.length - (intVs (partL qs)).length) (Value.int .i64 0)).length := by simp only [List.length_append, List.length_replicate]; omega
      obtain ⟨x, hx⟩ : ∃ x, (intVs (partL qs) ++ List.replicate (t.length - (intVs (partL qs)).length) (Value.int .i64 0))[j]? = some x := ⟨_, List.getElem?_eq_getElem hjl⟩
      have hset : ∀ c : Nat, (intVs (partL qs) ++ List.replicate (t.length - (intVs (partL qs)).length) (Value.int .i64 0)).set j (.int .i64 c) = intVs (partL (qs ++ [c])) ++ List.replicate (t.length - (intVs (partL (qs ++ [c]))).length) (.int .i64 0) := by
        intro c
        have h1 := qs_set (intVs (partL qs)) t.length (.int .i64 (c : Int)) (.int .i64 0) (by omega)
        rw [hql] at h1 ⊢
        have h2 : intVs (partL (qs ++ [c])) = intVs (partL qs) ++ [.int .i64 (c : Int)] := by simp [intVs, partL]
        rw [h2]; exact h1
      have hzv : ∀ w : World, (zeroValue 3).run Tryd.prog w = .ok (.int .i64 0) w := fun w => by kernel_rfl
      generalize hLg : t[j].sg p = L at *
      have HSET := Lib.hid hset
      have hlook := fun (w : World) (ks' : List (List UInt8)) (hw : w.heap[W.heap.size + 1]? = some (mapObj (numL (ks'.map keyV)))) => run_num_look (P := Tryd.prog) (t := 88) (kt := 9) (e := 3) (v := keyV L) Tryd.underlying88 hw (key_run Tryd.prog w Tryd.underlying9 L ks') (hzv w)
      have HLK := Lib.hid hlook
      have hput := run_num_put (P := Tryd.prog) (w := w5) (t := 88) (kt := 9) (e := 3) (v := keyV L) Tryd.underlying88 hM5 (key_run Tryd.prog w5 Tryd.underlying9 L ks)
      have HPT := Lib.hid hput
      have hlen := fun ty => run_len_map (P := Tryd.prog) (w := w5) (t := 88) (kt := 9) (e := 3) (ty := ty) Tryd.underlying88 hM5
      have HM5 := Lib.hid hM5
      have HO5 := Lib.hid hO5
      have HG5 := Lib.hid hG5
      have HX := Lib.hid hx
      clear hM5 hO5 hG5 hb5 hset hx hlook hput hzv HM4 HO4 HG4 HS HMP HGW HO hjl
      rw [List.length_map] at HPT
      have hlen2 : ∀ ty, (Builtin.len_ #[88] ty #[.map (some (W.heap.size + 1))]).run Tryd.prog w5 = .ok (.int .i64 ks.length) w5 := fun ty => by rw [hlen ty, numL_len, List.length_map]
      have HLN := Lib.hid hlen2
      clear hlen hlen2
      cases hfi : ks.findIdx? (fun k => L == k) with
      | some c =>
        have hk := (HLK.out w5 ks HM5.out).1 c (by rw [key_find]; exact hfi)
        unfold keyV at hk
        obtain ⟨k1, k2⟩ := hk
        have p1 := HO5.out.cell_at HX.out
        have p2 := HO5.out.free j
        have hI2 := HI.out.old (c := c) (by rw [HSG.out]; exact hfi)
        obtain ⟨w6, hw6⟩ : ∃ w6, w5.setCell ⟨W.heap.size + 1 + 1, j, none⟩ (.int .i64 (c : Int)) = w6 := ⟨_, rfl⟩
        have o6 := HO5.out.set j (.int .i64 (c : Int))
        rw [HSET.out c, hw6] at o6
        have m6 : w6.heap[W.heap.size + 1]? = some (mapObj (numL (ks.map keyV))) := by rw [← hw6, Below.heap_setCell _ _ _ _ (by simp)]; exact HM5.out
        have g6 : Grew W w6 := by rw [← hw6]; exact Below.setCell HG5.out (by show W.heap.size ≤ W.heap.size + 1 + 1; omega) _
        have HO6 := Lib.hid o6
        have HM6 := Lib.hid m6
        have HG6 := Lib.hid g6
        have HI6 := Lib.hid hI2
        clear o6 m6 g6 hI2 hfi hql hLg
        go_wp2_with fail
        go_round
        case rel => exact ⟨j + 1, ks, qs ++ [c], by go_num, by omega, HM6.out, HO6.out, HG6.out, HI6.out⟩
        case measure => simp [intOf]; omega
      | none =>
        have hnone : (ks.map keyV).findIdx? (keyF ⟨L.toArray⟩) = none := by rw [key_find]; exact hfi
        have hk := (HLK.out w5 ks HM5.out).2 hnone
        have hu := HPT.out hnone
        have hml : ks.map keyV ++ [keyV L] = (ks ++ [L]).map keyV := by simp
        rw [hml] at hu
        obtain ⟨w6, hw6⟩ : ∃ w6, putObj w5 (W.heap.size + 1) (mapObj (numL ((ks ++ [L]).map keyV))) = w6 := ⟨_, rfl⟩
        rw [hw6] at hu
        have hMl := (Array.getElem?_eq_some_iff.1 HM5.out).1
        have m6 : w6.heap[W.heap.size + 1]? = some (mapObj (numL ((ks ++ [L]).map keyV))) := by rw [← hw6]; exact putObj_same hMl _
        have o6 : Owns w6 (W.heap.size + 1 + 1) _ 3 := hw6 ▸ putObj_owns HO5.out (by omega) _
        have g6 : Grew W w6 := by rw [← hw6]; exact putObj_below HG5.out (by omega) _
        have hf6 : (ks ++ [L]).findIdx? (fun k => L == k) = some ks.length := by
          rw [List.findIdx?_eq_some_iff_getElem]
          refine ⟨by simp, by simp, fun i hi => ?_⟩
          rw [List.findIdx?_eq_none_iff] at hfi
          rw [List.getElem_append_left hi]
          simpa using hfi _ (List.getElem_mem hi)
        have hk2 := ((HLK.out w6 (ks ++ [L]) m6).1 ks.length (by rw [key_find]; exact hf6)).2
        unfold keyV at hk hk2 hu
        have hl := HLN.out 3
        have p1 := o6.cell_at HX.out
        have p2 := o6.free j
        have hI2 := HI.out.new (by rw [HSG.out]; exact hfi)
        rw [HSG.out] at hI2
        obtain ⟨w7, hw7⟩ : ∃ w7, w6.setCell ⟨W.heap.size + 1 + 1, j, none⟩ (.int .i64 (ks.length : Int)) = w7 := ⟨_, rfl⟩
        have o7 := o6.set j (.int .i64 (ks.length : Int))
        rw [HSET.out ks.length, hw7] at o7
        have m7 : w7.heap[W.heap.size + 1]? = some (mapObj (numL ((ks ++ [L]).map keyV))) := by rw [← hw7, Below.heap_setCell _ _ _ _ (by simp)]; exact m6
        have g7 : Grew W w7 := by rw [← hw7]; exact Below.setCell g6 (by show W.heap.size ≤ W.heap.size + 1 + 1; omega) _
        have HO7 := Lib.hid o7
        have HM7 := Lib.hid m7
        have HG7 := Lib.hid g7
        have HI7 := Lib.hid hI2
        clear o6 m6 g6 o7 m7 g7 hI2 hfi hql hLg hnone hf6 hml hw6
        go_wp2_with fail
        go_round
        case rel => exact ⟨j + 1, ks ++ [L], qs ++ [ks.length], by go_num, by omega, HM7.out, HO7.out, HG7.out, HI7.out⟩
        case measure => simp [intOf]; omega
    · have hje : j = t.length := by omega
      subst hje
      have hqt : (intVs (partL qs)).length = t.length := by simp [intVs, partL, HI.out.len]
      have hO := HO.out
      rw [hqt, Nat.sub_self, List.replicate_zero, List.append_nil] at hO
      have hlen2 : ∀ ty, (Builtin.len_ #[88] ty #[.map (some (W.heap.size + 1))]).run Tryd.prog wr = .ok (.int .i64 ks.length) wr := fun ty => by rw [run_len_map (P := Tryd.prog) (kt := 9) (e := 3) Tryd.underlying88 HMP.out, numL_len, List.length_map]
      have HO2 := Lib.hid hO
      have HD := Lib.hid (HI.out.done (t := t) (p := p) (fun i hi => by simp [hi]) (fun i hi => (hm _ (List.getElem_mem hi)).kind))
      clear hO hqt hlt
      go_wp2_with fail
      go_ret2
      exact ⟨_, qs, ks.length, rfl, HO2.out, HD.out, by omega, HGW.out⟩
end Go.Proofs.YtogmlonhciiomaaDoor
