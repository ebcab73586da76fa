/- The rules of some sorts, by their numbers (as for nets). -/
import Derived.StillTailTactics
import Derived.Test.YtkinlcichclnkaaDoorQO4
import Derived.Test.YtkinlcichclnkaaDoorQO5
import Derived.Test.YtkinlcichclnkaaDoorQO2
namespace Go.Proofs.YtkinlcichclnkaaDoor
open Go.RowKit

theorem info_int : (Tryd.prog.info? 3).map (fun i => (i.zero, i.size, i.bytes)) = some (some (.int .i64 0), 1, 8) := by kernel_rfl
def intVs (l : List Int) : List Value := l.map fun i => .int .i64 i
theorem loose_form {w : World} {base e size n : Nat} {v : Value} {xs : List Value} (h : looseRow w base e size v n xs) : ∃ a c, v = .slice a n c := by
  rcases h.2 with ⟨h1, h0⟩ | ⟨b, cap, cur, h1, h2, h3, h4⟩
  · exact ⟨none, 0, by rw [h1, h0]⟩
  · exact ⟨_, cap, h1⟩
theorem loose_ints {w : World} {base : Nat} {v : Value} {l : List Int} (h : looseRow w base 3 1 v l.length (intVs l)) : IntsV w w.heap.size v l := by
  rcases h.2 with ⟨h1, h0⟩ | ⟨b, cap, cur, h1, h2, h3, h4⟩
  · have hn : l = [] := List.eq_nil_of_length_eq_zero h0
    subst hn
    exact ⟨none, 0, h1, fun k hk => absurd hk (by simp)⟩
  · refine ⟨some ⟨b, 0, none⟩, cap, h1, fun k hk => ⟨b, 0, rfl, (Array.getElem?_eq_some_iff.1 h3).1, ?_⟩⟩
    rw [Nat.zero_add]
    exact looseRow_cells h (g := b) (by rw [h1]; rfl) k _ (by simp [intVs, hk])

def SortsAt (W : World) (b : Nat) (l : List Int) : Prop := b < W.heap.size ∧ ∀ k (h : k < l.length), W.cell? ⟨b, k, none⟩ = some (.int .u8 l[k])
theorem SortsAt.keep {W W' : World} {b : Nat} {l : List Int} (h : SortsAt W b l) (hg : Grew W W') : SortsAt W' b l := ⟨Nat.lt_of_lt_of_le h.1 hg.size, fun k hk => (hg.cells _ _ h.1).trans (h.2 k hk)⟩

set_option maxHeartbeats 1000000 in
set_option maxRecDepth 20000 in
theorem indexSort_ok (l : List Int) (x : Int) (W : World) (b cap : Nat) (hl : l.length ≤ reachN) (hR : SortsAt W b l) :
    Calls Tryd.prog 50 #[.slice (some ⟨b, 0, none⟩) l.length cap, .int .u8 x] W fun e W' => e = .returned (.int .i64 (ixOf l fun y => x == y)) ∧ Grew W W' := by
  obtain ⟨hb, hR⟩ := hR
  unfold reachN at hl
  go_enter Tryd.func50, Tryd.ntmps50
  go_wp2
  go_loopw [8] (fun i wr => ∃ (j : Nat), i = .int .i64 j ∧ j ≤ l.length ∧ Hid (NoneTo l (fun y => x == y) j) ∧ Hid (Grew W wr)) (fun i _ => l.length - (intOf i).toNat)
  case atStart =>
    exact ⟨0, rfl, by omega, fun i hi h => absurd h (by omega), Grew.refl W⟩
  case round =>
    obtain ⟨j, rfl, hj, hf, hbw⟩ := hrel
    by_cases hlt : j < l.length
    · have hc' : wr.cell? ⟨b, j, none⟩ = some (.int .u8 l[j]) := by rw [hbw.out.cells _ _ hb]; exact hR j hlt
      have hb' : b < wr.heap.size := Nat.lt_of_lt_of_le hb hbw.out.size
      clear hR
      obtain ⟨t, ht⟩ : ∃ t, (x == l[j]) = t := ⟨_, rfl⟩
      cases t
      · have HQ := Lib.hid ht
        go_wp2_with fail
        exact ⟨⟨j + 1, by go_num, by omega, noneTo_next hf.out hlt HQ.out, hbw.out⟩, by simp [intOf]; omega⟩
      · have HQ := Lib.hid ht
        go_wp2_with fail
        go_ret
        exact ⟨ret_int (ixOf_at hlt hf.out HQ.out).symm, hbw.out⟩
    · go_wp2_with fail
      go_ret
      exact ⟨ret_int (ixOf_none fun i hi => hf.out i hi (by omega)).symm, hbw.out⟩
theorem ixOf_anyS {α : Type} (l : List α) (q : α → Bool) : decide (0 ≤ ixOf l q) = l.any q := by
  rcases ixOf_cases l q with ⟨h, hn⟩ | ⟨j, hj, h, hq, _⟩
  · rw [h]
    symm
    have : l.any q = false := by
      rw [List.any_eq_false]
      intro x hx
      obtain ⟨i, hi, rfl⟩ := List.mem_iff_getElem.1 hx
      simp [hn i hi]
    rw [this]; rfl
  · rw [h]
    have : l.any q = true := List.any_eq_true.2 ⟨l[j], List.getElem_mem hj, hq⟩
    rw [this]
    simp
theorem contSort_ok (l : List Int) (x : Int) (W : World) (b cap : Nat) (hl : l.length ≤ reachN) (hR : SortsAt W b l) :
    Calls Tryd.prog 30 #[.slice (some ⟨b, 0, none⟩) l.length cap, .int .u8 x] W fun e W' => e = .returned (.bool (l.any fun y => x == y)) ∧ Grew W W' := by
  have HC := Lib.hid (indexSort_ok l x W b cap hl hR)
  have HA := Lib.hid (ixOf_anyS l fun y => x == y)
  clear hR
  go_enter Tryd.func30, Tryd.ntmps30
  go_wp2_with (refine HC.out.mono ?_; rintro e w ⟨rfl, hb⟩; have HB := Lib.hid hb; clear hb)
  go_ret
  exact ⟨ret_bool HA.out, HB.out⟩

theorem clipInt_ok (W : World) (base : Nat) (v : Value) (l : List Int) (h : looseRow W base 3 1 v l.length (intVs l)) :
    Calls Tryd.prog 31 #[v] W fun e W' => (∃ u, e = .returned u ∧ looseRow W base 3 1 u l.length (intVs l)) ∧ W = W' := by
  rcases h.2 with ⟨rfl, h0⟩ | ⟨b, cap, cur, rfl, h1, h2, h3, h4, h5, h6⟩
  · have hn : l = [] := List.eq_nil_of_length_eq_zero h0
    subst hn
    go_enter Tryd.func31, Tryd.ntmps31
    go_wp2
    go_ret
    exact ⟨⟨_, rfl, rfl, .inl ⟨rfl, rfl⟩⟩, rfl⟩
  · have HL : Hid (looseRow W base 3 1 (.slice (some ⟨b, 0, none⟩) l.length l.length) l.length (intVs l)) := ⟨h.1, .inr ⟨b, _, cur, rfl, h1, h2, Nat.le_refl _, Nat.le_trans h3 h4, by omega, h6⟩⟩
    unfold maxLen at h4
    obtain ⟨n, hn⟩ : ∃ n, l.length = n := ⟨_, rfl⟩
    rw [hn] at h3 HL ⊢
    clear h h2 h5 h6 hn
    go_enter Tryd.func31, Tryd.ntmps31
    go_wp2
    go_ret
    exact ⟨⟨_, rfl, HL.out⟩, rfl⟩

/-- the numbers of the rules of some sorts, below j -/
def Gr.isAt (g : Gr) (S : List Int) (j : Nat) : Bool := match g.rules[j]? with
  | some r => S.any fun y => r.sort == y
  | none => false
def Gr.ofTo (g : Gr) (S : List Int) : Nat → List Int
  | 0 => []
  | j + 1 => if g.isAt S j = true then Gr.ofTo g S j ++ [(j : Int)] else Gr.ofTo g S j
theorem Gr.isAt_get {g : Gr} {S : List Int} {j : Nat} (h : j < g.rules.length) : g.isAt S j = S.any fun y => g.rules[j].sort == y := by unfold Gr.isAt; rw [List.getElem?_eq_getElem h]
def Gr.of (g : Gr) (S : List Int) : List Int := g.ofTo S g.rules.length
theorem Gr.ofTo_len (g : Gr) (S : List Int) : ∀ j, (g.ofTo S j).length ≤ j
  | 0 => Nat.le_refl _
  | j + 1 => by have := Gr.ofTo_len g S j; rw [Gr.ofTo]; split <;> simp <;> omega
theorem Gr.ofTo_mem (g : Gr) (S : List Int) : ∀ j x, x ∈ g.ofTo S j → ∃ i, ∃ h : i < g.rules.length, i < j ∧ x = i ∧ (S.any fun y => g.rules[i].sort == y) = true
  | 0, x, h => by simp [Gr.ofTo] at h
  | j + 1, x, h => by
    rw [Gr.ofTo] at h
    have old : x ∈ g.ofTo S j → ∃ i, ∃ h : i < g.rules.length, i < j + 1 ∧ x = i ∧ (S.any fun y => g.rules[i].sort == y) = true := fun hx => by
      obtain ⟨i, h1, h2, h3⟩ := Gr.ofTo_mem g S j x hx
      exact ⟨i, h1, by omega, h3⟩
    split at h
    · rename_i hc
      rcases List.mem_append.1 h with h | h
      · exact old h
      · have hx : x = (j : Int) := by simpa using h
        rcases Nat.lt_or_ge j g.rules.length with hj | hj
        · rw [Gr.isAt_get hj] at hc
          exact ⟨j, hj, by omega, hx, hc⟩
        · unfold Gr.isAt at hc
          rw [List.getElem?_eq_none hj] at hc
          cases hc
    · exact old h

theorem intVs_snoc (l : List Int) (x : Int) : intVs (l ++ [x]) = intVs l ++ [.int .i64 x] := by unfold intVs; rw [List.map_append]; rfl
theorem grew_loose {W w w' : World} {e size n : Nat} {v : Value} {xs : List Value} (h : looseRow w W.heap.size e size v n xs) (hg : Grew W w) (hgr : w.grownBy w' v.ownBlock) : Grew W w' :=
  ⟨hgr.os.trans hg.os, hgr.tape.trans hg.tape, hgr.output.trans hg.output, Nat.le_trans hg.size hgr.size, fun k hk => by
    rw [hgr.block k (Nat.lt_of_lt_of_le hk hg.size) (fun e => by have := (row_own h e.symm).1; omega), hg.block k hk]⟩

set_option maxHeartbeats 2000000 in
set_option maxRecDepth 20000 in
theorem mof_ok (g : Gr) (S : List Int) (hS : S.length ≤ 100) (W : World) (v0 v1 v2 v3 : Value) (hG : GrAt W W.heap.size (some v0) (some v1) (some v2) (some v3) g) (hn : g.rules.length ≤ 1000000) (sb sc : Nat) (hs : SortsAt W sb S) :
    Calls Tryd.prog 16 #[.agg #[v0, v1, v2, v3], .slice (some ⟨sb, 0, none⟩) S.length sc] W fun e W' => ∃ v, e = .returned v ∧ looseRow W' W.heap.size 3 1 v (g.of S).length (intVs (g.of S)) ∧ Grew W W' := by
  obtain ⟨q1, -, q2, q3, q4, q5, ra, rc, q6, -, hrules⟩ := hG
  obtain rfl := Option.some.inj q1
  obtain rfl := Option.some.inj q2
  obtain rfl := Option.some.inj q3
  obtain rfl := Option.some.inj q6
  obtain ⟨w1, hw1⟩ : ∃ w1, W.alloc (.cells #[.string g.name, .int .i64 g.bound, .int .i64 g.states, .slice ra g.rules.length rc] 26) = w1 := ⟨_, rfl⟩
  have g1 : Grew W w1 := hw1 ▸ grew_alloc W _
  have o1 : Owns w1 W.heap.size [.string g.name, .int .i64 g.bound, .int .i64 g.states, .slice ra g.rules.length rc] 26 := hw1 ▸ Owns.alloc W _ _
  have c3 := o1.cell_at (i := 3) rfl
  have cl := o1.lt
  have G1 := Lib.hid g1
  have HR := Lib.hid hrules
  have HSS := Lib.hid hs
  obtain ⟨i0, hi, hz0, hz1, hz2⟩ := info_parts info_int
  have HI := Lib.hid hi
  have HZ0 := Lib.hid hz0
  have HZ1 := Lib.hid hz1
  have HZ2 := Lib.hid hz2
  clear hi hz0 hz1 hz2 g1 o1 hrules hs q1 q2 q3 q4 q5 q6
  go_enter Tryd.func16, Tryd.ntmps16
  go_wp2_with fail
  go_loopw [4, 10] (fun v c w => ∃ (j : Nat), c = .int .i64 j ∧ j ≤ g.rules.length ∧ Hid (looseRow w W.heap.size 3 1 v (g.ofTo S j).length (intVs (g.ofTo S j))) ∧ Hid (Grew W w)) (fun _ c _ => g.rules.length - (intOf c).toNat)
  case atStart => exact ⟨0, rfl, by omega, ⟨rfl, .inl ⟨rfl, rfl⟩⟩, G1.out⟩
  case round =>
    obtain ⟨j, rfl, hj, hrow, hgw⟩ := hrel
    clear c3 cl
    by_cases hlt : j < g.rules.length
    · obtain ⟨b, off, rfl, hb, hrule⟩ := (HR.out.keep hgw.out).get hlt
      simp only [Nat.zero_add] at hrule
      obtain ⟨u2, u3, u4, u5, u6, e0, e1, e2, e3, e4, e5, e6, e7, e8, e9, hrule, hnode⟩ := hrule.vals
      obtain ⟨ck, cnm, ctx, csa, csl, csc, cna, cnl, cnc, rfl, rfl, rfl, rfl, rfl⟩ := hnode.forms
      have hbl : b < wr.heap.size := Nat.lt_of_lt_of_le hb hgw.out.size
      obtain ⟨w2, hw2⟩ : ∃ w2, wr.alloc (.cells #[.string g.rules[j].name, .int .u8 g.rules[j].sort, .int .u8 ck, .string cnm, .string ctx, .slice csa csl csc, .slice cna cnl cnc, .int .i64 g.rules[j].p0, .int .i64 g.rules[j].p1, .int .i64 g.rules[j].p2] 38) = w2 := ⟨_, rfl⟩
      have g2 : Grew wr w2 := hw2 ▸ grew_alloc wr _
      have o2 : Owns w2 wr.heap.size [.string g.rules[j].name, .int .u8 g.rules[j].sort, .int .u8 ck, .string cnm, .string ctx, .slice csa csl csc, .slice cna cnl cnc, .int .i64 g.rules[j].p0, .int .i64 g.rules[j].p1, .int .i64 g.rules[j].p2] 38 := hw2 ▸ Owns.alloc wr _ _
      have f1 := o2.cell_at (i := 1) rfl
      have fl := o2.lt
      have HG2 := Lib.hid (hgw.out.trans g2)
      have HC := Lib.hid (contSort_ok S g.rules[j].sort w2 sb sc (by unfold reachN; omega) (HSS.out.keep (hgw.out.trans g2)))
      have HRW := Lib.hid (row_but hrow.out (But.of_grew (F := fun _ => False) g2) fun _ _ => id)
      have hnx : g.ofTo S (j + 1) = if (S.any fun y => g.rules[j].sort == y) = true then g.ofTo S j ++ [(j : Int)] else g.ofTo S j := by rw [Gr.ofTo, Gr.isAt_get hlt]
      have hnl := Gr.ofTo_len g S j
      clear g2 o2 hrule hnode hrow hgw
      obtain ⟨t, ht⟩ : ∃ t, (S.any fun y => g.rules[j].sort == y) = t := ⟨_, rfl⟩
      rw [ht] at HC hnx
      clear ht
      cases t
      · simp only [Bool.false_eq_true, if_false] at hnx
        rw [← hnx] at HRW
        clear hnx hnl
        go_wp2_with (refine HC.out.mono ?_; rintro e w3 ⟨rfl, hb3⟩; have HB3 := Lib.hid hb3; clear hb3)
        exact ⟨⟨j + 1, by go_num, by omega, row_but HRW.out (But.of_grew (F := fun _ => False) HB3.out) (fun _ _ => id), HG2.out.trans HB3.out⟩, by simp [intOf]; omega⟩
      · simp only [if_true] at hnx
        have HNX := Lib.hid hnx
        clear hnx
        obtain ⟨n, hn9⟩ : ∃ n, (g.ofTo S j).length = n := ⟨_, rfl⟩
        rw [hn9] at HRW hnl
        have HN9 := Lib.hid hn9
        clear hn9
        go_wp2_with fail
        refine HC.out.mono ?_
        rintro e w3 ⟨rfl, hb3⟩
        obtain ⟨w4, hw4⟩ : ∃ w4, w3.alloc (.cells #[.int .i64 j] 3) = w4 := ⟨_, rfl⟩
        have g4 : Grew w3 w4 := hw4 ▸ grew_alloc w3 _
        have o4 : Owns w4 w3.heap.size [.int .i64 j] 3 := hw4 ▸ Owns.alloc w3 _ _
        have HR4 := Lib.hid (row_but HRW.out (But.of_grew (F := fun _ => False) (hb3.trans g4)) fun _ _ => id)
        have HG4 := Lib.hid (HG2.out.trans (hb3.trans g4))
        have HNS := Lib.hid (owns_newsO o4)
        have H63 := Lib.hid (show n + 1 ≤ maxLen by unfold maxLen; omega)
        have H64 := Lib.hid (show (n + 1) * 8 ≤ 140737488355328 by omega)
        have HLIM := Lib.hid HG4.out.size
        clear hb3 g4 o4
        go_wp2_with (at_builtin; refine wpList_append_loose w4 rfl _ _ 40 rfl W.heap.size 3 i0 _ 1 8 Tryd.underlying40 HI.out HZ0.out HZ1.out HZ2.out rfl (by decide) _ n (intVs (g.ofTo S j)) rfl HR4.out ⟨w3.heap.size, 0, none⟩ 1 1 [.int .i64 j] rfl rfl HNS.out (fun u hu => by rw [List.mem_singleton.1 hu]; rfl) (by decide) H63.out H64.out HLIM.out _ rfl ?_; intro gb cap w5 hown hgrow hat hlt5; have HOWN := Lib.hid hown; have HGROW := Lib.hid hgrow; clear hown hgrow hat hlt5)
        refine ⟨⟨j + 1, by go_num, by omega, ?_, grew_loose HR4.out HG4.out HGROW.out⟩, by simp [intOf]; omega⟩
        have hlen : (g.ofTo S j ++ [(j : Int)]).length = n + 1 := by simp [HN9.out]
        unfold Hid
        rw [HNX.out, hlen, intVs_snoc]
        exact HOWN.out
    · obtain rfl : j = g.rules.length := by omega
      have HC := Lib.hid (clipInt_ok wr W.heap.size _ (g.of S) hrow.out)
      go_wp2_with (refine HC.out.mono ?_; rintro e w3 ⟨⟨u, rfl, hu⟩, rfl⟩; have HU := Lib.hid hu; clear hu)
      go_ret
      exact ⟨u, rfl, HU.out, hgw.out⟩
end Go.Proofs.YtkinlcichclnkaaDoor

/- The mirror of nfas: what a node is made to. Plain. -/
namespace Go.Proofs.YtkinlcichclnkaaDoor

/-- a place: its set, of which token, what may come behind (bits) -/
structure NPl where
  set : List (Int × Int)
  kind : Int
  fol : Nat
/-- what is built: places; nodes that may be gone through still; is it too much? -/
structure NB where
  out : List NPl
  steps : Int
  full : Bool
/-- a part: first places, last ones (bits); may it be empty? -/
structure NPart where
  first : Nat
  last : Nat
  empty : Bool
def NB.place (kind : Int) (set : List (Int × Int)) (b : NB) : NPart × NB :=
  if (b.full || decide (4096 ≤ b.out.length)) = true then (⟨0, 0, false⟩, { b with full := true })
  else (⟨2 ^ b.out.length, 2 ^ b.out.length, false⟩, { b with out := b.out ++ [⟨set, kind, 0⟩] })
def NPl.more (p : NPl) (c : Nat) : NPl := { p with fol := p.fol ||| c }
/-- the places of a, from i on, may be followed by c -/
def folL (a c : Nat) : Nat → List NPl → List NPl
  | _, [] => []
  | i, p :: r => (if a.testBit i then p.more c else p) :: folL a c (i + 1) r
def NB.follow (a c : Nat) (b : NB) : NB := { b with out := folL a c 0 b.out }
def joinP (x y : NPart) : NPart := ⟨if x.empty then x.first ||| y.first else x.first, if y.empty then x.last ||| y.last else y.last, x.empty && y.empty⟩
def joinN (x y : NPart) (b : NB) : NPart × NB := (joinP x y, b.follow x.last y.first)
def eitherN (x y : NPart) : NPart := ⟨x.first ||| y.first, x.last ||| y.last, x.empty || y.empty⟩
def runesAt (s : ByteArray) : Nat → Nat → List Int
  | 0, _ => []
  | f + 1, p => if p < s.size then ((Utf8.decode s p).1 : Int) :: runesAt s f (p + (Utf8.decode s p).2) else []
def runesOf (s : ByteArray) : List Int := runesAt s s.size 0
section
variable (f : Nd → NB → NPart × NB)
def altsN : List Nd → NPart → NB → NPart × NB
  | [], x, b => (x, b)
  | s :: r, x, b => altsN r (eitherN x (f s b).1) (f s b).2
def seqN : List Nd → NPart → NB → NPart × NB
  | [], x, b => (x, b)
  | s :: r, x, b => seqN r (joinP x (f s b).1) ((f s b).2.follow x.last (f s b).1.first)
def subN : List Nd → NB → NPart × NB
  | [], b => (⟨0, 0, false⟩, b)
  | s :: _, b => f s b
end
def litN (kind : Int) : List Int → NPart → NB → NPart × NB
  | [], x, b => (x, b)
  | r :: l, x, b => litN kind l (joinP x (b.place kind [(r, r)]).1) ((b.place kind [(r, r)]).2.follow x.last (b.place kind [(r, r)]).1.first)
def againN (q : NPart × NB) : NPart × NB := (q.1, q.2.follow q.1.last q.1.first)
/-- a node, made to a part: k is more than the steps that are left -/
def nodeN (lk : ByteArray → Nd) (kind : Int) : Nat → Nd → NB → NPart × NB
  | 0, _, b => (⟨0, 0, true⟩, ⟨b.out, b.steps - 1, true⟩)
  | k + 1, .mk kd nm tx set subs, b =>
    if (decide (b.steps - 1 < 0) || b.full) = true then (⟨0, 0, true⟩, ⟨b.out, b.steps - 1, true⟩)
    else if kd = 0 then altsN (nodeN lk kind k) subs ⟨0, 0, false⟩ ⟨b.out, b.steps - 1, b.full⟩
    else if kd = 1 then seqN (nodeN lk kind k) subs ⟨0, 0, true⟩ ⟨b.out, b.steps - 1, b.full⟩
    else if kd = 8 then litN kind (runesOf tx) ⟨0, 0, true⟩ ⟨b.out, b.steps - 1, b.full⟩
    else if kd = 9 then NB.place kind set ⟨b.out, b.steps - 1, b.full⟩
    else if kd = 6 then nodeN lk kind k (lk nm) ⟨b.out, b.steps - 1, b.full⟩
    else if kd = 2 then (⟨(subN (nodeN lk kind k) subs ⟨b.out, b.steps - 1, b.full⟩).1.first, (subN (nodeN lk kind k) subs ⟨b.out, b.steps - 1, b.full⟩).1.last, true⟩, (subN (nodeN lk kind k) subs ⟨b.out, b.steps - 1, b.full⟩).2)
    else if kd = 3 then (⟨(againN (subN (nodeN lk kind k) subs ⟨b.out, b.steps - 1, b.full⟩)).1.first, (againN (subN (nodeN lk kind k) subs ⟨b.out, b.steps - 1, b.full⟩)).1.last, true⟩, (againN (subN (nodeN lk kind k) subs ⟨b.out, b.steps - 1, b.full⟩)).2)
    else if kd = 4 then againN (subN (nodeN lk kind k) subs ⟨b.out, b.steps - 1, b.full⟩)
    else (⟨0, 0, true⟩, ⟨b.out, b.steps - 1, b.full⟩)
/-- the rules, one behind the other, from number i on -/
def rulesN (lk : ByteArray → Nd) : Nat → List Nd → Nat → Nat → NB → (Nat × Nat) × NB
  | _, [], f, l, b => ((f, l), b)
  | i, n :: r, f, l, b => rulesN lk (i + 1) r (f ||| (nodeN lk i 65537 n b).1.first) (l ||| (nodeN lk i 65537 n b).1.last) (nodeN lk i 65537 n b).2
def Gr.lk (g : Gr) (nm : ByteArray) : Nd := match g.rules.find? (fun r => sameB r.name nm) with
  | some r => r.body
  | none => .mk 0 ⟨#[]⟩ ⟨#[]⟩ [] []
def tokR (r : Rl) : Bool := r.sort == 1 || r.sort == 3
def Gr.toks (g : Gr) : List Rl := g.rules.filter tokR
def Gr.made (g : Gr) : (Nat × Nat) × NB := rulesN g.lk 0 (g.toks.map Rl.body) 0 0 ⟨[], 65536, false⟩

/-! ### bounds -/
theorem folL_len (a c : Nat) : ∀ (i : Nat) (l : List NPl), (folL a c i l).length = l.length
  | _, [] => rfl
  | i, p :: r => by rw [folL, List.length_cons, List.length_cons, folL_len a c (i + 1) r]
theorem folL_get (a c : Nat) : ∀ (l : List NPl) (i j : Nat) (h : j < l.length), (folL a c i l)[j]'(by rw [folL_len]; exact h) = if a.testBit (i + j) then l[j].more c else l[j]
  | p :: r, i, 0, h => rfl
  | p :: r, i, j + 1, h => by
    have := folL_get a c r (i + 1) j (by simpa using h)
    rw [show i + 1 + j = i + (j + 1) by omega] at this
    simpa [folL] using this
/-- places that are there -/
def NPart.In (x : NPart) (n : Nat) : Prop := x.first < 2 ^ n ∧ x.last < 2 ^ n
/-- what is built stays within bounds -/
structure NB.Ok (b : NB) : Prop where
  few : b.out.length ≤ 4096
  fol : ∀ p ∈ b.out, p.fol < 2 ^ b.out.length
theorem NPart.In.mono {x : NPart} {n m : Nat} (h : x.In n) (hm : n ≤ m) : x.In m :=
  ⟨Nat.lt_of_lt_of_le h.1 (Nat.pow_le_pow_right (by omega) hm), Nat.lt_of_lt_of_le h.2 (Nat.pow_le_pow_right (by omega) hm)⟩
theorem NPart.In.zero {e : Bool} {n : Nat} : NPart.In ⟨0, 0, e⟩ n := ⟨Nat.two_pow_pos n, Nat.two_pow_pos n⟩
/-- a step of what is built: more places, no more steps; what was full stays so -/
structure NB.To (b c : NB) : Prop where
  ok : c.Ok
  more : b.out.length ≤ c.out.length
  steps : c.steps ≤ b.steps
  full : b.full = true → c.full = true
theorem NB.To.trans {a b c : NB} (h : a.To b) (k : b.To c) : a.To c := ⟨k.ok, Nat.le_trans h.more k.more, Int.le_trans k.steps h.steps, fun e => k.full (h.full e)⟩
theorem NB.To.refl {b : NB} (h : b.Ok) : b.To b := ⟨h, Nat.le_refl _, Int.le_refl _, id⟩
theorem NB.follow_to {b : NB} (h : b.Ok) {a c : Nat} (hc : c < 2 ^ b.out.length) : b.To (b.follow a c) := by
  refine ⟨⟨?_, fun p hp => ?_⟩, ?_, Int.le_refl _, id⟩
  · unfold NB.follow; dsimp only; rw [folL_len]; exact h.few
  · unfold NB.follow at hp ⊢
    dsimp only at hp ⊢
    rw [folL_len]
    obtain ⟨j, hj, rfl⟩ := List.getElem_of_mem hp
    rw [folL_len] at hj
    rw [folL_get]
    have h1 := h.fol _ (List.getElem_mem hj)
    split
    · exact Nat.or_lt_two_pow h1 hc
    · exact h1
  · unfold NB.follow; dsimp only; rw [folL_len]; exact Nat.le_refl _
theorem joinP_in {x y : NPart} {n : Nat} (hx : x.In n) (hy : y.In n) : (joinP x y).In n := by
  unfold joinP
  refine ⟨?_, ?_⟩
  · dsimp only; split
    · exact Nat.or_lt_two_pow hx.1 hy.1
    · exact hx.1
  · dsimp only; split
    · exact Nat.or_lt_two_pow hx.2 hy.2
    · exact hy.2
theorem eitherN_in {x y : NPart} {n : Nat} (hx : x.In n) (hy : y.In n) : (eitherN x y).In n := ⟨Nat.or_lt_two_pow hx.1 hy.1, Nat.or_lt_two_pow hx.2 hy.2⟩
theorem NB.place_to {b : NB} (h : b.Ok) (kind : Int) (set : List (Int × Int)) : b.To (b.place kind set).2 ∧ (b.place kind set).1.In (b.place kind set).2.out.length := by
  unfold NB.place
  split
  · exact ⟨⟨⟨h.few, h.fol⟩, Nat.le_refl _, Int.le_refl _, fun _ => rfl⟩, NPart.In.zero⟩
  · rename_i hf
    rw [Bool.or_eq_true, decide_eq_true_eq, not_or] at hf
    have hp : 2 ^ b.out.length < 2 ^ (b.out.length + 1) := Nat.pow_lt_pow_right (by omega) (by omega)
    refine ⟨⟨⟨?_, fun p hp' => ?_⟩, ?_, Int.le_refl _, id⟩, ?_⟩
    · simp; omega
    · simp only [List.length_append, List.length_cons, List.length_nil]
      rcases List.mem_append.1 hp' with h1 | h1
      · exact Nat.lt_trans (h.fol _ h1) hp
      · rw [List.mem_singleton.1 h1]; exact Nat.two_pow_pos _
    · simp
    · simp only [List.length_append, List.length_cons, List.length_nil]
      exact ⟨hp, hp⟩
/-- a node's part lies within what is built -/
def StepOk (q : NPart × NB) (b : NB) : Prop := b.To q.2 ∧ q.1.In q.2.out.length
theorem altsN_to {f : Nd → NB → NPart × NB} (hf : ∀ n b, b.Ok → StepOk (f n b) b) : ∀ (l : List Nd) (x : NPart) (b : NB), b.Ok → x.In b.out.length → StepOk (altsN f l x b) b
  | [], x, b, hb, hx => ⟨NB.To.refl hb, hx⟩
  | s :: r, x, b, hb, hx => by
    have h1 := hf s b hb
    have h2 := altsN_to hf r _ _ h1.1.ok (eitherN_in (hx.mono h1.1.more) h1.2)
    exact ⟨h1.1.trans h2.1, h2.2⟩
theorem follow_len (b : NB) (a c : Nat) : (b.follow a c).out.length = b.out.length := by unfold NB.follow; exact folL_len _ _ _ _
theorem seqN_to {f : Nd → NB → NPart × NB} (hf : ∀ n b, b.Ok → StepOk (f n b) b) : ∀ (l : List Nd) (x : NPart) (b : NB), b.Ok → x.In b.out.length → StepOk (seqN f l x b) b
  | [], x, b, hb, hx => ⟨NB.To.refl hb, hx⟩
  | s :: r, x, b, hb, hx => by
    have h1 := hf s b hb
    have h3 := NB.follow_to h1.1.ok (a := x.last) h1.2.1
    have h2 := seqN_to hf r (joinP x (f s b).1) _ h3.ok (by rw [follow_len]; exact joinP_in (hx.mono h1.1.more) h1.2)
    exact ⟨h1.1.trans (h3.trans h2.1), h2.2⟩
theorem litN_to (kind : Int) : ∀ (l : List Int) (x : NPart) (b : NB), b.Ok → x.In b.out.length → StepOk (litN kind l x b) b
  | [], x, b, hb, hx => ⟨NB.To.refl hb, hx⟩
  | r :: l, x, b, hb, hx => by
    have h1 := NB.place_to hb kind [(r, r)]
    have h3 := NB.follow_to h1.1.ok (a := x.last) h1.2.1
    have h2 := litN_to kind l (joinP x (b.place kind [(r, r)]).1) _ h3.ok (by rw [follow_len]; exact joinP_in (hx.mono h1.1.more) h1.2)
    exact ⟨h1.1.trans (h3.trans h2.1), h2.2⟩
theorem subN_to {f : Nd → NB → NPart × NB} (hf : ∀ n b, b.Ok → StepOk (f n b) b) (l : List Nd) (b : NB) (hb : b.Ok) : StepOk (subN f l b) b := by
  cases l with
  | nil => exact ⟨NB.To.refl hb, NPart.In.zero⟩
  | cons s r => exact hf s b hb
theorem againN_to {q : NPart × NB} {b : NB} (h : StepOk q b) : StepOk (againN q) b := by
  have h3 := NB.follow_to h.1.ok (a := q.1.last) h.2.1
  exact ⟨h.1.trans h3, by unfold againN; dsimp only; rw [follow_len]; exact h.2⟩
theorem NPart.In.open {q : NPart} {n : Nat} {e : Bool} (h : q.In n) : NPart.In ⟨q.first, q.last, e⟩ n := h
theorem nodeN_to (lk : ByteArray → Nd) (kind : Int) : ∀ (k : Nat) (n : Nd) (b : NB), b.Ok → StepOk (nodeN lk kind k n b) b
  | 0, _, b, hb => ⟨⟨⟨hb.few, hb.fol⟩, Nat.le_refl _, by unfold nodeN; dsimp only; omega, fun _ => rfl⟩, NPart.In.zero⟩
  | k + 1, .mk kd nm tx set subs, b, hb => by
    have hc : NB.Ok ⟨b.out, b.steps - 1, b.full⟩ := ⟨hb.few, hb.fol⟩
    have ht : b.To ⟨b.out, b.steps - 1, b.full⟩ := ⟨hc, Nat.le_refl _, by dsimp only; omega, id⟩
    have up : ∀ q, StepOk q ⟨b.out, b.steps - 1, b.full⟩ → StepOk q b := fun q h => ⟨ht.trans h.1, h.2⟩
    have hf := nodeN_to lk kind k
    have hs := subN_to hf subs _ hc
    unfold nodeN
    split
    · exact ⟨⟨⟨hb.few, hb.fol⟩, Nat.le_refl _, by dsimp only; omega, fun _ => rfl⟩, NPart.In.zero⟩
    split
    · exact up _ (altsN_to hf _ _ _ hc NPart.In.zero)
    split
    · exact up _ (seqN_to hf _ _ _ hc NPart.In.zero)
    split
    · exact up _ (litN_to kind _ _ _ hc NPart.In.zero)
    split
    · exact up _ (NB.place_to hc kind set)
    split
    · exact up _ (hf _ _ hc)
    split
    · exact up _ ⟨hs.1, hs.2⟩
    split
    · exact up _ ⟨(againN_to hs).1, (againN_to hs).2⟩
    split
    · exact up _ (againN_to hs)
    · exact ⟨ht, NPart.In.zero⟩
end Go.Proofs.YtkinlcichclnkaaDoor
