/- (part).sign: a state's sign. -/
import Derived.Test.YtogmlonhciiomaaDoorPrClone
import Derived.Test.YtogmlonhciiomaaDoorPrSgLaw
import Derived.Test.YtogmlonhciiomaaDoorShelf
import Derived.Laws.IdiomStrings
namespace Go.Proofs.YtogmlonhciiomaaDoor
open Go.RowKit

/-- the table that AppendInt reads -/
def Tab (W : World) : Prop := Lib.TabIs Tryd.prog W "internal/strconv.uint64pow10" .u64 Lib.pow10Tab
theorem Tab.keep {W W' : World} (h : Tab W) (hg : Grew W W') : Tab W' := Lib.tabBelow_of_tabIs h W' hg
theorem info_u8 : (Tryd.prog.info? 5).map (fun i => (i.zero, i.size, i.bytes)) = some (some (.int .u8 0), 1, 1) := by kernel_rfl

/-- bytes that the call owns -/
def BytesAt (W : World) (B : Nat) (v : Value) (l : List UInt8) : Prop := W.ownsRow B 5 1 v l.length (Lib.byteCells l)
theorem ownsRow_keep {W W' : World} {base : Nat} {e : TypeId} {size : Nat} {v : Value} {n : Nat} {xs : List Value} (h : W.ownsRow base e size v n xs) (hg : Grew W W') : W'.ownsRow base e size v n xs := by
  refine ⟨h.1, h.2.imp id ?_⟩
  rintro ⟨g, cap, cur, h1, h2, h3, h4⟩
  exact ⟨g, cap, cur, h1, h2, by rw [hg.block g (Array.getElem?_eq_some_iff.1 h3).1]; exact h3, h4⟩
theorem BytesAt.keep {W W' : World} {B : Nat} {v : Value} {l : List UInt8} (h : BytesAt W B v l) (hg : Grew W W') : BytesAt W' B v l := ownsRow_keep h hg
theorem Owns.others {W W' : World} {b T : Nat} {cs : List Value} (h : Owns W b cs T) (hk : Lib.OthersKept 5 none W W') (hT : T ≠ 5) : Owns W' b cs T :=
  hk b _ h (by simp) fun c fz e => hT (by injection e)
theorem Owns.grown {W W' : World} {b T B : Nat} {v : Value} {n : Nat} {xs cs : List Value} (h : Owns W b cs T) (hr : W.ownsRow B 5 1 v n xs) (hg : W.grownBy W' v.ownBlock) (hT : T ≠ 5) : Owns W' b cs T := by
  unfold Owns
  rw [hg.block b h.lt ?_]
  · exact h
  · intro e
    rcases hr.2 with ⟨rfl, _⟩ | ⟨g, cap, cur, rfl, _, hb, _⟩
    · simp [Value.ownBlock] at e
    · simp only [Value.ownBlock, Option.some.injEq] at e
      subst e
      unfold Owns at h
      rw [hb] at h
      injection h with h
      injection h with _ h _
      exact hT h.symm
theorem below_grown {B : Nat} {W W' W0 : World} {v : Value} {n : Nat} {xs : List Value} (h : Below B W0 W) (hr : W.ownsRow B 5 1 v n xs) (hg : W.grownBy W' v.ownBlock) (hB : B ≤ W.heap.size) : Below B W0 W' :=
  h.trans ⟨hg.os, hg.tape, hg.output, hg.size, fun k hk => hg.block k (by omega) fun e => by
    rcases hr.2 with ⟨rfl, _⟩ | ⟨g, cap, cur, rfl, h2, _⟩
    · simp [Value.ownBlock] at e
    · simp only [Value.ownBlock, Option.some.injEq] at e
      omega⟩
/-- a number is put behind -/
theorem putNum (W W' : World) (hT : Tab W) (hb : Below W.heap.size W W') (v : Value) (l : List UInt8) (h : BytesAt W' W.heap.size v l) (i : Int) (h0 : -1000000 ≤ i) (h1 : i ≤ 1000000) (hl : l.length ≤ 1000000) :
    Calls Tryd.prog 51 #[v, .int .i64 i, .int .i64 10] W' fun e W2 => (∃ v', e = .returned v' ∧ BytesAt W2 W.heap.size v' (l ++ Lib.itoa i)) ∧ Below W.heap.size W' W2 ∧ Lib.OthersKept 5 none W' W2 :=
  (Tryd.strconv_AppendInt_10 W.heap.size l.length i (by omega) (by omega) v _ W' h hb.size (by omega) ((Lib.tabBelow_of_tabIs hT).on hb)).mono fun e W2 ⟨v', h1, h2, h3, h4⟩ => ⟨⟨v', h1, by
    unfold BytesAt
    rw [List.length_append]
    have : Lib.byteCells (l ++ Lib.itoa i) = Lib.byteCells l ++ Lib.byteCells (Lib.itoa i) := by simp [Lib.byteCells]
    rw [this]
    exact h2⟩, h3, h4⟩
theorem byte_done {W : World} {B : Nat} {v : Value} {l : List UInt8} (c : UInt8) (h : W.ownsRow B 5 1 v (l.length + 1) (Lib.byteCells l ++ [.int .u8 c.toNat])) : BytesAt W B v (l ++ [c]) := by
  unfold BytesAt
  have : Lib.byteCells (l ++ [c]) = Lib.byteCells l ++ [.int .u8 c.toNat] := by simp [Lib.byteCells]
  rw [this, List.length_append]
  exact h
/-- what lies in memory as a part -/
def partL (p : List Nat) : List Int := List.map (fun (n : Nat) => (n : Int)) p
def Stt.sg (s : Stt) (p : List Nat) : List UInt8 := sgB s.kind s.alts (s.edges.map fun e => (e.tok, ((p.getD e.tgt.toNat 0 : Nat) : Int)))
/-- a state that may be -/
structure Stt.Mild (s : Stt) (n : Nat) : Prop where
  kind : 0 ≤ s.kind ∧ s.kind ≤ 255
  alts : ∀ x ∈ s.alts, -1000000 ≤ x ∧ x ≤ 1000000
  toks : ∀ e ∈ s.edges, -1000000 ≤ e.tok ∧ e.tok ≤ 1000000
  tgts : ∀ e ∈ s.edges, ∃ j : Nat, e.tgt = j ∧ j < n
  altN : s.alts.length ≤ 400
  edgeN : s.edges.length ≤ 400

def altSegs (l : List Int) : List (Int × UInt8) := l.map fun n => (n, 44)
theorem altSegs_succ (l : List Int) (j : Nat) (h : j < l.length) : altSegs (l.take (j + 1)) = altSegs (l.take j) ++ [(l[j], 44)] := by
  rw [List.take_succ_eq_append_getElem h, altSegs, List.map_append]; rfl
def edSegs (p : List Nat) (l : List Ed) : List (Int × UInt8) := l.flatMap fun e => [(e.tok, 58), (((p.getD e.tgt.toNat 0 : Nat) : Int), 59)]
theorem edSegs_succ (p : List Nat) (l : List Ed) (j : Nat) (h : j < l.length) : edSegs p (l.take (j + 1)) = edSegs p (l.take j) ++ [(l[j].tok, 58), (((p.getD l[j].tgt.toNat 0 : Nat) : Int), 59)] := by
  rw [List.take_succ_eq_append_getElem h, edSegs, List.flatMap_append]; simp [edSegs]
theorem segB_len (l : List (Int × UInt8)) (h : ∀ x ∈ l, -1000000 ≤ x.1 ∧ x.1 ≤ 1000000) : (segB l).length ≤ l.length * 22 := by
  induction l with
  | nil => simp [segB]
  | cons x l ih =>
    have h1 := Lib.itoa_length_le x.1 (by have := h x (.head _); omega) (by have := h x (.head _); omega)
    have h2 := ih fun y hy => h y (.tail _ hy)
    simp only [segB, List.flatMap_cons, List.length_append, List.length_cons, List.length_nil] at h2 ⊢
    omega

set_option maxHeartbeats 4000000 in
set_option maxRecDepth 20000 in
theorem psign_ok (s : Stt) (p : List Nat) (hm : s.Mild p.length) (hp : ∀ x ∈ p, x ≤ 1000000) (W : World) (hT : Tab W) (pv v0 v1 v2 : Value) (hP : IntsV W W.heap.size pv (partL p)) (hS : SttV .u8 W W.heap.size v0 v1 v2 s) :
    Calls Tryd.prog 46 #[pv, .agg #[v0, v1, v2]] W fun e W' => e = .returned (.string ⟨(s.sg p).toArray⟩) ∧ Grew W W' := by
  obtain ⟨i0, hi, hz0, hz1, hz2⟩ := info_parts info_u8
  obtain ⟨rfl, ⟨a1, c1, rfl, hc1, hA⟩, a2, c2, rfl, hc2, hE⟩ := hS
  obtain ⟨a3, c3, rfl, hc3, hPA⟩ := hP
  have hal := hm.altN
  have hel := hm.edgeN
  obtain ⟨w1, hw1⟩ : ∃ w1, W.alloc (.cells #[.int .u8 s.kind, .slice a1 s.alts.length c1, .slice a2 s.edges.length c2] 51) = w1 := ⟨_, rfl⟩
  obtain ⟨w2, hw2⟩ : ∃ w2, w1.alloc (.cells #[.int .u8 s.kind] 5) = w2 := ⟨_, rfl⟩
  have z1 : w1.heap.size = W.heap.size + 1 := by rw [← hw1]; simp
  have g1 : Grew W w1 := hw1 ▸ grew_alloc W _
  have g2 : Grew w1 w2 := hw2 ▸ grew_alloc w1 _
  have o1 : Owns w1 W.heap.size [.int .u8 s.kind, .slice a1 s.alts.length c1, .slice a2 s.edges.length c2] 51 := hw1 ▸ Owns.alloc W _ _
  have d0 := o1.cell_at (i := 0) rfl
  have e1 := (o1.keep g2).cell_at (i := 1) rfl
  have hk : Value.int .u8 s.kind = .int .u8 ((UInt8.ofNat s.kind.toNat).toNat : Int) := by
    have := hm.kind
    congr 1
    simp only [UInt8.toNat_ofNat']
    omega
  have hB2 : BytesAt w2 W.heap.size (.slice (some ⟨W.heap.size + 1, 0, none⟩) 1 1) [UInt8.ofNat s.kind.toNat] := by
    refine ⟨rfl, .inr ⟨W.heap.size + 1, 1, #[.int .u8 s.kind], rfl, by omega, ?_, by simp, by unfold maxLen; omega, rfl, ?_⟩⟩
    · rw [← hw2, ← z1]; exact heap_alloc_new w1 _
    · have := hm.kind
      simp [Lib.byteCells]
      omega
  have HB2 := Lib.hid hB2
  have HG := Lib.hid (g1.trans g2)
  have HO := Lib.hid (o1.keep g2)
  have HT := Lib.hid hT
  have HK := Lib.hid hk
  clear g1 g2 o1 hB2 hT hk
  unfold partL at hc3
  go_enter Tryd.func46, Tryd.ntmps46
  go_wp2_with fail
  have HP := Lib.hid hPA
  have H2 : Hid (Below (W.heap.size + 1) w2 w2) := Lib.hid (Below.refl _ _)
  clear hPA hw1 hw2 z1 d0
  have z2 : W.heap.size < w2.heap.size := HO.out.lt
  have hE1 := Lib.hid e1
  go_loopw [5, 16] (fun v i wr => ∃ (j : Nat), i = .int .i64 j ∧ j ≤ s.alts.length ∧ Hid (BytesAt wr W.heap.size v (UInt8.ofNat s.kind.toNat :: segB (altSegs (s.alts.take j)))) ∧ Hid (Owns wr W.heap.size [.int .u8 s.kind, .slice a1 s.alts.length c1, .slice a2 s.edges.length c2] 51) ∧ Hid (Grew W wr)) (fun _ i _ => s.alts.length - (intOf i).toNat)
  case atStart => exact ⟨0, rfl, by omega, HB2.out, HO.out, HG.out⟩
  case round =>
    obtain ⟨j, rfl, hj, HB, HOW, HGW⟩ := hrel
    by_cases hlt : j < s.alts.length
    · obtain ⟨b, off, rfl, hb, hc⟩ := hA j hlt
      have k0 : wr.cell? ⟨b, off + j, none⟩ = some (.int .i64 s.alts[j]) := by rw [HGW.out.cells _ _ hb]; exact hc
      have hmj := hm.alts _ (List.getElem_mem hlt)
      have hlen := segB_len (altSegs (s.alts.take j)) (fun x hx => by
        obtain ⟨y, hy, rfl⟩ := List.mem_map.1 hx
        exact hm.alts _ (List.mem_of_mem_take hy))
      have hln : (altSegs (s.alts.take j)).length ≤ 400 := by simp [altSegs]; omega
      have HN := Lib.hid (putNum W wr HT.out HGW.out _ _ HB.out s.alts[j] (by omega) (by omega) (by simp only [List.length_cons]; omega))
      have hsegs : UInt8.ofNat s.kind.toNat :: segB (altSegs (s.alts.take (j + 1))) = (UInt8.ofNat s.kind.toNat :: segB (altSegs (s.alts.take j))) ++ Lib.itoa s.alts[j] ++ [44] := by
        rw [altSegs_succ s.alts j hlt, segB_append]
        simp [segB]
      have HSG := Lib.hid hsegs
      have hl2 := Lib.itoa_length_le s.alts[j] (by omega) (by omega)
      clear hsegs hc hA
      go_wp2_with fail
      refine HN.out.mono ?_
      rintro e w3 ⟨⟨v', rfl, hb3⟩, hbl, hot⟩
      have hg3 : Grew W w3 := Below.trans (B := W.heap.size) HGW.out hbl
      have HB3 := Lib.hid hb3
      have HG3 := Lib.hid hg3
      have HO3 := Lib.hid (HOW.out.others hot (by decide))
      clear hb3 hbl hot hg3
      generalize hL : UInt8.ofNat s.kind.toNat :: segB (altSegs (s.alts.take j)) ++ Lib.itoa s.alts[j] = L at *
      have hLl : L.length ≤ 30000 := by rw [← hL]; simp only [List.length_append, List.length_cons]; omega
      clear hL hlen hln hl2 hmj HN
      go_wp2_with (at_builtin; refine wpList_append_own _ rfl _ _ 59 rfl W.heap.size 5 i0 (.int .u8 0) 1 1 Tryd.underlying59 hi hz0 hz1 hz2 rfl (by decide) _ _ _ rfl (ownsRow_keep HB3.out (grew_alloc _ _)) ⟨w3.heap.size, 0, none⟩ 1 1 [.int .u8 44] rfl rfl ?qc2 ?qc3 ?qc4 ?qc5 ?qc6 ?_)
      case qc2 =>
        intro q u hq
        match q, hq with
        | 0, hq => simp only [List.getElem?_cons_zero, Option.some.injEq] at hq; subst hq; simp [go_sem]
      case qc3 => intro u hu; simp only [List.mem_singleton] at hu; subst hu; rfl
      case qc4 => unfold maxLen; omega
      case qc5 => omega
      case qc6 => have := HG3.out.size; simp; omega
      intro v2 w5 hown hgrow hnil
      have HB5 := Lib.hid (byte_done 44 hown)
      have HG5 := Lib.hid (show Grew W w5 from below_grown (Grew.trans HG3.out (grew_alloc w3 _)) (ownsRow_keep HB3.out (grew_alloc w3 _)) hgrow (by have := HG3.out.size; simp; omega))
      have HO5 := Lib.hid ((HO3.out.keep (grew_alloc w3 _)).grown (ownsRow_keep HB3.out (grew_alloc w3 _)) hgrow (by decide))
      clear hown hgrow hnil HB3 HG3 HO3
      go_wp2_with fail
      go_round
      case rel => exact ⟨j + 1, by go_num, by omega, by rw [HSG.out]; exact HB5.out, HO5.out, HG5.out⟩
      case measure => simp [intOf]; omega
    · have hje : j = s.alts.length := by omega
      subst hje
      have f2 := HOW.out.cell_at (i := 2) rfl
      have hB0 := HB.out
      rw [List.take_length] at hB0
      have HB0 := Lib.hid hB0
      have HOW0 := Lib.hid HOW.out
      have HGW0 := Lib.hid HGW.out
      have hal2 : (segB (altSegs s.alts)).length ≤ 8800 := by
        have := segB_len (altSegs s.alts) (fun x hx => by
          obtain ⟨y, hy, rfl⟩ := List.mem_map.1 hx
          exact hm.alts _ hy)
        have h2 : (altSegs s.alts).length = s.alts.length := by simp [altSegs]
        omega
      clear hB0 HB HOW HGW hlt hj e1 hE1
      go_wp2_with fail
      go_loopw [5, 29] (fun v i wr => ∃ (j : Nat), i = .int .i64 j ∧ j ≤ s.edges.length ∧ Hid (BytesAt wr W.heap.size v (UInt8.ofNat s.kind.toNat :: segB (altSegs s.alts) ++ segB (edSegs p (s.edges.take j)))) ∧ Hid (Grew W wr)) (fun _ i _ => s.edges.length - (intOf i).toNat)
      case atStart => exact ⟨0, rfl, by omega, by simpa [edSegs, segB] using HB0, HGW0.out⟩
      case round =>
        obtain ⟨j, rfl, hj, HB, HGW⟩ := hrel
        by_cases hlt : j < s.edges.length
        · obtain ⟨b, off, rfl, hb, hc0, hc1'⟩ := hE j hlt
          have k0 : wr.cell? ⟨b, off + j * 2, none⟩ = some (.int .i64 s.edges[j].tok) := by rw [HGW.out.cells _ _ hb]; exact hc0
          have k1 : wr.cell? ⟨b, off + j * 2 + 1, none⟩ = some (.int .i64 s.edges[j].tgt) := by rw [HGW.out.cells _ _ hb]; exact hc1'
          have hmj := hm.toks _ (List.getElem_mem hlt)
          obtain ⟨t, htg, htl⟩ := hm.tgts _ (List.getElem_mem hlt)
          obtain ⟨b3, off3, rfl, hb3l, hc3'⟩ := HP.out t (by simpa [partL] using htl)
          have hpt : p[t] ≤ 1000000 := hp _ (List.getElem_mem htl)
          have ept : (partL p)[t]'(by simpa [partL] using htl) = (p[t] : Int) := by simp [partL]
          rw [ept] at hc3'
          have hlen := segB_len (edSegs p (s.edges.take j)) (fun x hx => by
            obtain ⟨y, hy, hx⟩ := List.mem_flatMap.1 hx
            have hy' := List.mem_of_mem_take hy
            simp only [List.mem_cons, List.not_mem_nil, or_false] at hx
            rcases hx with rfl | rfl
            · exact hm.toks _ hy'
            · obtain ⟨q, hq, hql⟩ := hm.tgts _ hy'
              have := hp _ (List.getElem_mem hql)
              simp only [hq, Int.toNat_natCast, List.getD, List.getElem?_eq_getElem hql, Option.getD_some]
              omega)
          have hln : (edSegs p (s.edges.take j)).length ≤ 800 := by
            unfold edSegs
            rw [flat_len _ 2 (fun _ => rfl), List.length_take]
            omega
          obtain ⟨w1, hw1⟩ : ∃ w1, wr.alloc (.cells #[.int .i64 s.edges[j].tok, .int .i64 s.edges[j].tgt] 53) = w1 := ⟨_, rfl⟩
          have g1 : Grew wr w1 := hw1 ▸ grew_alloc wr _
          have o1 : Owns w1 wr.heap.size [.int .i64 s.edges[j].tok, .int .i64 s.edges[j].tgt] 53 := hw1 ▸ Owns.alloc wr _ _
          have hgw1 : Grew W w1 := HGW.out.trans g1
          have HN := Lib.hid (putNum W w1 HT.out hgw1 _ _ (HB.out.keep g1) s.edges[j].tok (by omega) (by omega) (by simp only [List.length_append, List.length_cons]; omega))
          have hsegs : segB (edSegs p (s.edges.take (j + 1))) = segB (edSegs p (s.edges.take j)) ++ Lib.itoa s.edges[j].tok ++ [58] ++ Lib.itoa (p[t] : Int) ++ [59] := by
            rw [edSegs_succ p s.edges j hlt, segB_append]
            rw [htg]
            simp [segB, List.getD, htl]
          have HSG := Lib.hid hsegs
          have hl2 := Lib.itoa_length_le s.edges[j].tok (by omega) (by omega)
          have hl3 := Lib.itoa_length_le (p[t] : Int) (by omega) (by omega)
          have d0 := o1.cell_at (i := 0) rfl
          have HO1 := Lib.hid o1
          have HC3 := Lib.hid hc3'
          have HTG := Lib.hid htg
          clear hsegs hc0 hc1' hc3' g1 o1 hE htg ept hgw1
          go_wp2_with fail
          refine HN.out.mono ?_
          rintro e w3 ⟨⟨v', rfl, hb3⟩, hbl, hot⟩
          have HB3 := Lib.hid hb3
          have HG3 := Lib.hid (show Grew W w3 from Below.trans (B := W.heap.size) (Grew.trans HGW.out (hw1 ▸ grew_alloc wr _)) hbl)
          have HO3 := Lib.hid (HO1.out.others hot (by decide))
          clear hb3 hbl hot HN HO1
          generalize hL : UInt8.ofNat s.kind.toNat :: segB (altSegs s.alts) ++ segB (edSegs p (s.edges.take j)) ++ Lib.itoa s.edges[j].tok = L at *
          have hLl : L.length ≤ 30000 := by rw [← hL]; simp only [List.length_append, List.length_cons]; omega
          have HLL := Lib.hid hL
          clear hL hlen hln hl2 hmj d0
          go_wp2_with (at_builtin; refine wpList_append_own _ rfl _ _ 59 rfl W.heap.size 5 i0 (.int .u8 0) 1 1 Tryd.underlying59 hi hz0 hz1 hz2 rfl (by decide) _ _ _ rfl (ownsRow_keep HB3.out (grew_alloc _ _)) ⟨w3.heap.size, 0, none⟩ 1 1 [.int .u8 58] rfl rfl ?qc2 ?qc3 ?qc4 ?qc5 ?qc6 ?_)
          case qc2 =>
            intro q u hq
            match q, hq with
            | 0, hq => simp only [List.getElem?_cons_zero, Option.some.injEq] at hq; subst hq; simp [go_sem]
          case qc3 => intro u hu; simp only [List.mem_singleton] at hu; subst hu; rfl
          case qc4 => unfold maxLen; omega
          case qc5 => omega
          case qc6 => have := HG3.out.size; simp; omega
          intro v2 w5 hown hgrow hnil
          have HB5 := Lib.hid (byte_done 58 hown)
          have HG5 := Lib.hid (show Grew W w5 from below_grown (Grew.trans HG3.out (grew_alloc w3 _)) (ownsRow_keep HB3.out (grew_alloc w3 _)) hgrow (by have := HG3.out.size; simp; omega))
          have HO5 := Lib.hid ((HO3.out.keep (grew_alloc w3 _)).grown (ownsRow_keep HB3.out (grew_alloc w3 _)) hgrow (by decide))
          clear hown hgrow hnil HB3 HG3 HO3
          have d1 : w5.cell? ⟨wr.heap.size, 1, none⟩ = some (.int .i64 (t : Int)) := by rw [← HTG.out]; exact HO5.out.cell_at (i := 1) rfl
          have d2 : w5.cell? ⟨b3, off3 + t, none⟩ = some (.int .i64 (p[t] : Int)) := by rw [HG5.out.cells _ _ hb3l]; exact HC3.out
          have htl' : (t : Int) < (partL p).length := by simp [partL]; omega
          have HN5 := Lib.hid (putNum W w5 HT.out HG5.out _ _ HB5.out (p[t] : Int) (by omega) (by omega) (by simp only [List.length_append, List.length_cons, List.length_nil]; omega))
          go_wp2_with fail
          refine HN5.out.mono ?_
          rintro e w6 ⟨⟨v6, rfl, hb6⟩, hbl, hot⟩
          have HB6 := Lib.hid hb6
          have HG6 := Lib.hid (show Grew W w6 from Below.trans (B := W.heap.size) HG5.out hbl)
          clear hb6 hbl hot HN5 HO5 HB5 HG5 d1 d2
          have hL2 : (L ++ [58] ++ Lib.itoa (p[t] : Int)).length ≤ 40000 := by simp only [List.length_append, List.length_cons, List.length_nil]; omega
          generalize hL3 : L ++ [58] ++ Lib.itoa (p[t] : Int) = L3 at *
          have HL3 := Lib.hid hL3
          clear hL3
          go_wp2_with (at_builtin; refine wpList_append_own _ rfl _ _ 59 rfl W.heap.size 5 i0 (.int .u8 0) 1 1 Tryd.underlying59 hi hz0 hz1 hz2 rfl (by decide) _ _ _ rfl (ownsRow_keep HB6.out (grew_alloc _ _)) ⟨w6.heap.size, 0, none⟩ 1 1 [.int .u8 59] rfl rfl ?qc2 ?qc3 ?qc4 ?qc5 ?qc6 ?_)
          case qc2 =>
            intro q u hq
            match q, hq with
            | 0, hq => simp only [List.getElem?_cons_zero, Option.some.injEq] at hq; subst hq; simp [go_sem]
          case qc3 => intro u hu; simp only [List.mem_singleton] at hu; subst hu; rfl
          case qc4 => unfold maxLen; omega
          case qc5 => omega
          case qc6 => have := HG6.out.size; simp; omega
          intro v7 w7 hown hgrow hnil
          have HB7 := Lib.hid (byte_done 59 hown)
          have HG7 := Lib.hid (show Grew W w7 from below_grown (Grew.trans HG6.out (grew_alloc w6 _)) (ownsRow_keep HB6.out (grew_alloc w6 _)) hgrow (by have := HG6.out.size; simp; omega))
          clear hown hgrow hnil HB6 HG6
          have HB8 : Hid (BytesAt w7 W.heap.size v7 (UInt8.ofNat s.kind.toNat :: segB (altSegs s.alts) ++ segB (edSegs p (s.edges.take (j + 1))))) := Lib.hid (by
            rw [HSG.out]
            have := HB7.out
            rw [← HL3.out, ← HLL.out] at this
            simpa [List.append_assoc] using this)
          go_wp2_with fail
          go_round
          case rel => exact ⟨j + 1, by go_num, by omega, HB8.out, HG7.out⟩
          case measure => simp [intOf]; omega
        · have hje : j = s.edges.length := by omega
          subst hje
          have hB0 := HB.out
          rw [List.take_length] at hB0
          have hsg : UInt8.ofNat s.kind.toNat :: segB (altSegs s.alts) ++ segB (edSegs p s.edges) = s.sg p := by
            unfold Stt.sg sgB segsOf altSegs edSegs
            rw [segB_append, List.flatMap_map]
            rfl
          rw [hsg] at hB0
          have hne : (s.sg p).length ≠ 0 := by unfold Stt.sg sgB; simp
          rcases row_cells (looseRow_of hB0) with ⟨_, h0⟩ | ⟨g, cap, rfl, hcap, hBg, hgl, hcell⟩
          · exact absurd h0 hne
          · have hcv := run_convert_bytes_back (P := Tryd.prog) wr 59 9 5 ⟨g, 0, none⟩ cap (s.sg p) (by kernel_rfl) (by kernel_rfl) (by kernel_rfl) fun q hq => by
              rw [Addr.add_lit, Nat.zero_add]
              exact hcell q _ (by simp [Lib.byteCells, hq])
            have HGE := Lib.hid HGW.out
            clear hB0 hcell HB hsg hne
            go_wp2_with fail
            go_ret
            exact ⟨rfl, HGE.out⟩
end Go.Proofs.YtogmlonhciiomaaDoor
