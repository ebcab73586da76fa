/- grams.Sound: yes just if the grammar is sound. -/
import Derived.Test.YtppjmdanckdobaaGreatDoorQV23
import Derived.Test.YtppjmdanckdobaaGreatDoorQV15
import Derived.Test.YtppjmdanckdobaaGreatDoorQV11
namespace Go.Proofs.YtppjmdanckdobaaGreatDoor
open Go.RowKit
def IdxP (l : List Rl) (W : World) (e : Ending) (W' : World) : Prop := (∃ k : Int, e = .returned (.int .i64 k) ∧ -1 ≤ k ∧ k < 1000000000000 ∧ (k < 0 ↔ ∀ i (h : i < l.length), ruleP l[i])) ∧ Grew W W'
def RulesTo (l : List Rl) (j : Nat) : Prop := ∀ i (h : i < l.length), i < j → ruleP l[i]
theorem RulesTo.next {l : List Rl} {j : Nat} (h : RulesTo l j) (hj : j < l.length) (hp : ruleP l[j]) : RulesTo l (j + 1) := fun i hi hij => by
  rcases Nat.lt_or_ge i j with h1 | h1
  · exact h i hi h1
  · have : i = j := by omega
    subst this
    exact hp
set_option maxHeartbeats 1000000 in
set_option maxRecDepth 20000 in
theorem indexSound_ok (l : List Rl) (W : World) (hT : Lib.Utf8Tabs 1 2 W) (a : Option Addr) (cap : Nat) (hl : l.length ≤ 1000) (hR : RulesAt W W.heap.size a 0 l) :
    Calls Tryz.prog 79 #[.slice a l.length cap, .func (.func 52) #[] #[]] W (IdxP l W) := by
  have HT := Lib.hid hT
  clear hT
  go_enter Tryz.func79, Tryz.ntmps79
  go_wp2
  go_loopw [8] (fun i wr => ∃ (j : Nat), i = .int .i64 j ∧ j ≤ l.length ∧ Hid (RulesTo l j) ∧ Below W.heap.size W wr) (fun i _ => l.length - (intOf i).toNat)
  case atStart =>
    exact ⟨0, rfl, by omega, fun i hi h => absurd h (by omega), Below.refl _ _⟩
  case round =>
    obtain ⟨j, rfl, hj, hf, hbw⟩ := hrel
    by_cases hlt : j < l.length
    · obtain ⟨b, off, rfl, hb, hrule⟩ := (hR.keep hbw).get hlt
      simp only [Nat.zero_add] at hrule
      obtain ⟨u2, u3, u4, u5, u6, e0, e1, e2, e3, e4, e5, e6, e7, e8, e9, hrule, hnode⟩ := hrule.vals
      have HS := Lib.hid (sound1_ok l[j] wr (tabs_grew HT.out hbw) _ _ _ _ _ _ _ _ _ _ (hrule.mono hbw.size))
      have HB := Lib.hid hbw
      clear hrule hnode hR
      go_wp2_with fail
      refine HS.out.mono ?_
      rintro e w2 ⟨⟨x, rfl, hx⟩, hb2⟩
      have HX := Lib.hid hx
      have HG := Lib.hid (HB.out.trans (hb2.mono HB.out.size))
      clear hx hb2 hbw
      cases x
      · go_wp2_with fail
        exact ⟨⟨j + 1, by go_num, by omega, hf.out.next hlt (Classical.byContradiction fun h => absurd (HX.out.2 h) (by simp)), HG.out⟩, by simp [intOf]; omega⟩
      · go_wp2_with fail
        go_ret
        exact ⟨⟨j, rfl, by omega, by omega, fun h => by omega, fun h => absurd (h j hlt) (HX.out.1 (by first | rfl | trivial))⟩, HG.out⟩
    · have HB := Lib.hid hbw
      clear hbw hR
      go_wp2_with fail
      go_ret
      exact ⟨⟨-1, rfl, by omega, by omega, fun _ i hi => hf.out i hi (by omega), fun _ => by omega⟩, HB.out⟩
set_option maxRecDepth 20000 in
theorem contSound_ok (l : List Rl) (W : World) (hT : Lib.Utf8Tabs 1 2 W) (a : Option Addr) (cap : Nat) (hl : l.length ≤ 1000) (hR : RulesAt W W.heap.size a 0 l) :
    Calls Tryz.prog 51 #[.slice a l.length cap, .func (.func 52) #[] #[]] W (JustIf (¬ ∀ i (h : i < l.length), ruleP l[i]) W) := by
  have hS := Lib.hid (indexSound_ok l W hT a cap hl hR)
  clear hT hR
  go_enter Tryz.func51, Tryz.ntmps51
  go_wp2_with fail
  refine hS.out.mono ?_
  rintro e w ⟨⟨k, rfl, h1, h2, hk⟩, hg⟩
  have HK := Lib.hid hk
  have HG := Lib.hid hg
  clear hk hg
  by_cases h0 : k < 0
  · have hb : decide (0 ≤ k) = false := decide_eq_false (by omega)
    go_wp2_with fail
    go_ret
    exact ⟨⟨_, rfl, fun h => by simp at h, fun h => absurd (HK.out.1 h0) h⟩, HG.out⟩
  · have hb : decide (0 ≤ k) = true := decide_eq_true (by omega)
    go_wp2_with fail
    go_ret
    exact ⟨⟨_, rfl, fun _ h => absurd (HK.out.2 h) (by omega), fun _ => by simp⟩, HG.out⟩
def soundP (g : Gr) : Prop := wordP g.name ∧ (1 ≤ g.bound ∧ g.bound ≤ 8) ∧ (1 ≤ g.states ∧ g.states ≤ 4096) ∧ ∀ i (h : i < g.rules.length), ruleP g.rules[i]
set_option maxHeartbeats 2000000 in
set_option maxRecDepth 20000 in
theorem sound_ok (g : Gr) (hfair : g.rules.length ≤ 64) (W : World) (hT : Lib.Utf8Tabs 1 2 W) (v0 v1 v2 v3 : Value) (hG : GrAt W W.heap.size (some v0) (some v1) (some v2) (some v3) g) :
    Calls Tryz.prog 31 #[.agg #[v0, v1, v2, v3]] W (JustIf (soundP g) W) := by
  obtain ⟨h1, hs, h2, h3, h4, h5, ra, rc, h6, h7, h8⟩ := hG
  obtain rfl := Option.some.inj h1
  obtain rfl := Option.some.inj h2
  obtain rfl := Option.some.inj h3
  obtain rfl := Option.some.inj h6
  have hl : g.rules.length ≤ 1000 := by omega
  clear h1 h2 h3 h4 h5 h6
  have hg1 := grew_alloc W (.cells #[.string g.name, .int .i64 g.bound, .int .i64 g.states, .slice ra g.rules.length rc] 44)
  have hg2 := grew_alloc (W.alloc (.cells #[.string g.name, .int .i64 g.bound, .int .i64 g.states, .slice ra g.rules.length rc] 44)) (.cells #[.int .i64 g.bound, .int .i64 g.states] 41)
  have o1 := (Owns.alloc W [.string g.name, .int .i64 g.bound, .int .i64 g.states, .slice ra g.rules.length rc] 44).keep hg2
  have o2 := Owns.alloc (W.alloc (.cells #[.string g.name, .int .i64 g.bound, .int .i64 g.states, .slice ra g.rules.length rc] 44)) [.int .i64 g.bound, .int .i64 g.states] 41
  have hg := hg1.trans hg2
  clear hg1 hg2
  have H8 := Lib.hid h8
  have HT := Lib.hid hT
  clear h8 hT
  have hsz : (W.alloc (.cells #[.string g.name, .int .i64 g.bound, .int .i64 g.states, .slice ra g.rules.length rc] 44)).heap.size = W.heap.size + 1 := by simp
  rw [hsz] at o2
  clear hsz
  have HSP := Lib.hid (show soundP g ↔ wordP g.name ∧ (1 ≤ g.bound ∧ g.bound ≤ 8) ∧ (1 ≤ g.states ∧ g.states ≤ 4096) ∧ ∀ i (h : i < g.rules.length), ruleP g.rules[i] from Iff.rfl)
  obtain ⟨P, hP⟩ : ∃ P, soundP g = P := ⟨_, rfl⟩
  rw [hP] at HSP ⊢
  clear hP
  go_enter Tryz.func31, Tryz.ntmps31
  go_wp2_with fail
  generalize (W.alloc (.cells #[.string g.name, .int .i64 g.bound, .int .i64 g.states, .slice ra g.rules.length rc] 44)).alloc (.cells #[.int .i64 g.bound, .int .i64 g.states] 41) = w1 at *
  refine (word_ok g.name hs w1 (tabs_grew HT.out hg)).mono ?_
  rintro e w ⟨⟨b, rfl, hbw⟩, hb⟩
  have p1 := o1.keep hb
  have p2 := o2.keep hb
  have c0 := p2.cell_at (i := 0) rfl
  have c1 := p2.cell_at (i := 1) rfl
  have c2 := p1.cell_at (i := 3) rfl
  have cl := p2.lt
  have HG := Lib.hid (hg.trans hb)
  have HBW := Lib.hid hbw
  have hS := Lib.hid (contSound_ok g.rules w (tabs_grew HT.out HG.out) ra rc hl ((H8.out.keep HG.out).mono HG.out.size))
  clear o1 o2 p1 p2 hg hb H8 hbw
  have HNO := Lib.hid (fun (h : ¬ P) => show ((∃ b, Ending.returned (.bool false) = .returned (.bool b) ∧ (b = true ↔ P)) ∧ Grew W w) from ⟨⟨false, rfl, fun h => (by cases h), fun hp => absurd hp h⟩, HG.out⟩)
  cases b with
  | false =>
    have HX := Lib.hid (HNO.out fun h => absurd (HBW.out.2 (HSP.out.1 h).1) (by simp))
    go_wp2_with fail
    go_ret
    exact HX.out
  | true =>
    by_cases b1 : g.bound < 1
    · have HX := Lib.hid (HNO.out fun h => by have := (HSP.out.1 h).2.1; omega)
      go_wp2_with fail
      go_ret
      exact HX.out
    by_cases b2 : 8 < g.bound
    · have HX := Lib.hid (HNO.out fun h => by have := (HSP.out.1 h).2.1; omega)
      go_wp2_with fail
      go_ret
      exact HX.out
    by_cases b3 : g.states < 1
    · have HX := Lib.hid (HNO.out fun h => by have := (HSP.out.1 h).2.2.1; omega)
      go_wp2_with fail
      go_ret
      exact HX.out
    by_cases b4 : 4096 < g.states
    · have HX := Lib.hid (HNO.out fun h => by have := (HSP.out.1 h).2.2.1; omega)
      go_wp2_with fail
      go_ret
      exact HX.out
    have HB1 := Lib.hid (show (1 ≤ g.bound ∧ g.bound ≤ 8) ∧ (1 ≤ g.states ∧ g.states ≤ 4096) by omega)
    by_cases b5 : (64 : Int) < (g.rules.length : Int)
    · omega
    go_wp2_with fail
    refine hS.out.mono ?_
    rintro e w2 ⟨⟨x, rfl, hx⟩, hg2⟩
    have HX := Lib.hid hx
    have HG2 := Lib.hid (HG.out.trans hg2)
    clear hx hg2
    go_wp2_with fail
    go_ret
    refine ⟨⟨_, rfl, ?_⟩, HG2.out⟩
    cases x
    · exact ⟨fun _ => HSP.out.2 ⟨HBW.out.1 (by first | rfl | trivial), HB1.out.1, HB1.out.2, Classical.byContradiction fun h => absurd (HX.out.2 h) (by simp)⟩, fun _ => rfl⟩
    · exact ⟨fun h => (by cases h), fun h => absurd (HSP.out.1 h).2.2.2 (HX.out.1 (by first | rfl | trivial))⟩
end Go.Proofs.YtppjmdanckdobaaGreatDoor

/- Plain law for ChecksFine: where nothing is told, each name has one rule, of the sort that may be named there, and each loop's body takes something. -/
namespace Go.Proofs.YtppjmdanckdobaaGreatDoor
def Gr.nodeFine (g : Gr) (es : List Bool) (r : Rl) (n : Nd) : Bool :=
  !(n.isName && (decide (g.find n.name < 0) || ((n.kind == 5) != (g.sortAt (g.find n.name) == 0)) || g.sortAt (g.find n.name) == 3 || (r.sort == 0 && g.sortAt (g.find n.name) == 2))) && !(g.loopBad es r n)
mutual
def Gr.soundN (g : Gr) (es : List Bool) (r : Rl) : Nd → Bool
  | .mk k nm tx set subs => g.nodeFine es r (.mk k nm tx set subs) && Gr.soundL g es r subs
def Gr.soundL (g : Gr) (es : List Bool) (r : Rl) : List Nd → Bool
  | [] => true
  | n :: l => Gr.soundN g es r n && Gr.soundL g es r l
end
mutual
theorem soundN_all (g : Gr) (es : List Bool) (r : Rl) : ∀ n : Nd, (∀ m ∈ n.all, g.nodeFine es r m = true) → g.soundN es r n = true
  | .mk k nm tx set subs, h => by
    rw [Nd.all] at h
    rw [Gr.soundN, h _ (List.mem_cons_self ..), soundL_all g es r subs fun m hm => h m (List.mem_cons_of_mem _ hm)]
    rfl
theorem soundL_all (g : Gr) (es : List Bool) (r : Rl) : ∀ l : List Nd, (∀ m ∈ Nd.allL l, g.nodeFine es r m = true) → g.soundL es r l = true
  | [], _ => by rw [Gr.soundL]
  | n :: l, h => by
    rw [Nd.allL] at h
    rw [Gr.soundL, soundN_all g es r n fun m hm => h m (List.mem_append_left _ hm), soundL_all g es r l fun m hm => h m (List.mem_append_right _ hm)]
    rfl
end
theorem fine_find {g : Gr} {es : List Bool} {rch rnd : Nat → Nat → Bool} {i : Nat} (hi : i < g.rules.length) (q : Quiet g es rch rnd i g.rules[i]) : g.find g.rules[i].name = (i : Int) := by
  have h := q.twice
  unfold Gr.find at h ⊢
  rcases ixOf_cases g.rules (fun r => sameB r.name g.rules[i].name) with ⟨h1, h2⟩ | ⟨j, hj, h1, h2, h3⟩
  · rw [h1] at h
    omega
  · rw [h1] at h ⊢
    by_cases hji : j = i
    · rw [hji]
    · have hlt : i < j := by omega
      have := h3 i hi hlt
      rw [sameB_refl] at this
      cases this
end Go.Proofs.YtppjmdanckdobaaGreatDoor

/- The book of a grammar, plain. -/
namespace Go.Proofs.YtppjmdanckdobaaGreatDoor
open Go.RowKit
def Gr.rAt (g : Gr) (x : Int) : Rl := (g.rules[x.toNat]?).getD ⟨⟨#[]⟩, 0, .mk 0 ⟨#[]⟩ ⟨#[]⟩ [] [], 0, 0, 0⟩
theorem Gr.rAt_nat (g : Gr) {k : Nat} (hk : k < g.rules.length) : g.rAt (k : Int) = g.rules[k] := by
  unfold Gr.rAt
  rw [Int.toNat_natCast, List.getElem?_eq_getElem hk]
  rfl
def nmsTo (g : Gr) (T : List Int) : Nat → List (ByteArray × Nat)
  | 0 => []
  | j + 1 => nmsTo g T j ++ [((g.rAt (T.getD j 0)).name, j)]
def kindsTo (g : Gr) (T : List Int) : Nat → List Int
  | 0 => []
  | j + 1 => if (g.rAt (T.getD j 0)).sort = 1 then kindsTo g T j ++ [(j : Int)] else kindsTo g T j
def bodsTo (g : Gr) (P : List Int) : Nat → List Nd
  | 0 => []
  | j + 1 => bodsTo g P j ++ [(g.rAt (P.getD j 0)).body]
theorem kindsTo_len (g : Gr) (T : List Int) : ∀ j, (kindsTo g T j).length ≤ j
  | 0 => Nat.le_refl _
  | j + 1 => by
    have := kindsTo_len g T j
    rw [kindsTo]
    split
    · rw [List.length_append, List.length_singleton]; omega
    · omega
theorem bodsTo_len (g : Gr) (P : List Int) : ∀ j, (bodsTo g P j).length = j
  | 0 => rfl
  | j + 1 => by rw [bodsTo, List.length_append, bodsTo_len g P j, List.length_singleton]
theorem nmsTo_mem {g : Gr} {T : List Int} : ∀ {j : Nat} {x : ByteArray × Nat}, x ∈ nmsTo g T j → x.2 < j ∧ x.1 = (g.rAt (T.getD x.2 0)).name
  | 0, x, h => by simp [nmsTo] at h
  | j + 1, x, h => by
    rw [nmsTo] at h
    rcases List.mem_append.1 h with h | h
    · have := nmsTo_mem h
      exact ⟨by omega, this.2⟩
    · rw [List.mem_singleton.1 h]
      exact ⟨by simp, rfl⟩
theorem bodsTo_at {g : Gr} {P : List Int} : ∀ {j k : Nat}, k < j → (bodsTo g P j)[k]? = some (g.rAt (P.getD k 0)).body
  | 0, k, h => absurd h (by omega)
  | j + 1, k, h => by
    rw [bodsTo]
    by_cases e : k < j
    · rw [List.getElem?_append_left (by rw [bodsTo_len]; exact e)]
      exact bodsTo_at e
    · have : k = j := by omega
      subst this
      rw [List.getElem?_append_right (by rw [bodsTo_len]; exact Nat.le_refl _), bodsTo_len, Nat.sub_self]
      rfl
theorem ba_eqS {a b : ByteArray} (h : (a == b) = true) : a = b := by
  cases a; cases b
  have h2 : ByteArray.beq _ _ = true := h
  unfold ByteArray.beq at h2
  simp at h2
  rw [h2]
theorem lookS_mem : ∀ {l : List (ByteArray × Nat)} {nm : ByteArray} {k : Nat}, lookS l nm = some k → ∃ x ∈ l, x.1 = nm ∧ x.2 = k
  | [], nm, k, h => by cases h
  | x :: r, nm, k, h => by
    rw [lookS] at h
    split at h
    · rename_i hc
      exact ⟨x, by simp, (ba_eqS hc).symm, Option.some.inj h⟩
    · obtain ⟨y, hy, h2⟩ := lookS_mem h
      exact ⟨y, List.mem_cons_of_mem _ hy, h2⟩
theorem lookS_none : ∀ {l : List (ByteArray × Nat)} {nm : ByteArray}, (∀ x ∈ l, x.1 ≠ nm) → lookS l nm = none
  | [], _, _ => rfl
  | x :: r, nm, h => by
    rw [lookS, if_neg (fun e => h x (by simp) (ba_eqS e).symm)]
    exact lookS_none fun y hy => h y (List.mem_cons_of_mem _ hy)
theorem ofTo_rise (g : Gr) (S : List Int) : ∀ j, (∀ x ∈ g.ofTo S j, x < (j : Int)) ∧ (g.ofTo S j).Pairwise (· < ·)
  | 0 => ⟨by simp [Gr.ofTo], by simp [Gr.ofTo]⟩
  | j + 1 => by
    obtain ⟨h1, h2⟩ := ofTo_rise g S j
    rw [Gr.ofTo]
    split
    · refine ⟨fun x hx => ?_, ?_⟩
      · rcases List.mem_append.1 hx with hx | hx
        · have := h1 x hx; omega
        · rw [List.mem_singleton.1 hx]; omega
      · rw [List.pairwise_append]
        exact ⟨h2, by simp, fun a ha b hb => by rw [List.mem_singleton.1 hb]; exact h1 a ha⟩
    · exact ⟨fun x hx => by have := h1 x hx; omega, h2⟩
theorem of_rise (g : Gr) (S : List Int) {a b : Nat} (hab : a < b) {x y : Int} (hx : (g.of S)[a]? = some x) (hy : (g.of S)[b]? = some y) : x < y := by
  obtain ⟨ha, rfl⟩ := List.getElem?_eq_some_iff.1 hx
  obtain ⟨hb, rfl⟩ := List.getElem?_eq_some_iff.1 hy
  exact (List.pairwise_iff_getElem.1 (ofTo_rise g S g.rules.length).2) a b ha hb hab
theorem of_get {g : Gr} {S : List Int} {j : Nat} {x : Int} (h : (g.of S)[j]? = some x) : ∃ k, ∃ hk : k < g.rules.length, x = (k : Int) ∧ (S.any fun y => g.rules[k].sort == y) = true := by
  obtain ⟨i, hi, -, h1, h2⟩ := Gr.ofTo_mem g S g.rules.length x (List.mem_of_getElem? h)
  exact ⟨i, hi, h1, h2⟩
def Gr.Names (g : Gr) : Prop := ∀ i j (hi : i < g.rules.length) (hj : j < g.rules.length), g.rules[i].name = g.rules[j].name → i = j
theorem nms_new {g : Gr} (hn : g.Names) {S : List Int} {j k : Nat} (hj : (g.of S)[j]? = some (k : Int)) (hk : k < g.rules.length) : lookS (nmsTo g (g.of S) j) g.rules[k].name = none := by
  refine lookS_none fun x hx e => ?_
  obtain ⟨h1, h2⟩ := nmsTo_mem hx
  have hjl := (List.getElem?_eq_some_iff.1 hj).1
  have h3 : (g.of S)[x.2]? = some ((g.of S)[x.2]'(by omega)) := List.getElem?_eq_getElem _
  have h4 := of_rise g S h1 h3 hj
  obtain ⟨m, hm, hme, -⟩ := of_get h3
  rw [hme] at h4 h3
  rw [List.getD_eq_getElem?_getD, h3, Option.getD_some, Gr.rAt_nat g hm] at h2
  have := hn m k hm hk (h2.symm.trans e)
  omega
def Gr.Fine (g : Gr) : Prop := ∃ es M N, g.IsEmpty es ∧ IsReach (g.Once es) g.rules.length M ∧ IsReach g.rd0 g.rules.length N ∧ g.told es (at2 M) (at2 N) = []
theorem told_quiet {g : Gr} {es : List Bool} {rch rnd : Nat → Nat → Bool} (h : g.told es rch rnd = []) : (∀ i (h : i < g.rules.length), Quiet g es rch rnd i g.rules[i]) ∧ 0 ≤ g.start := by
  unfold Gr.told at h
  rw [List.append_eq_nil_iff] at h
  refine ⟨fun i hi => ?_, ?_⟩
  · have := rulesTold_at g.rules 0 h.1 i hi
    rw [Nat.zero_add] at this
    exact quiet_of this
  · rcases Int.lt_or_le g.start 0 with h1 | h1
    · rw [if_pos h1] at h
      cases h.2
    · exact h1
theorem Gr.Fine.names {g : Gr} (h : g.Fine) : g.Names := by
  obtain ⟨es, M, N, -, -, -, ht⟩ := h
  intro i j hi hj e
  have h1 := fine_find hi ((told_quiet ht).1 i hi)
  have h2 := fine_find hj ((told_quiet ht).1 j hj)
  rw [e, h2] at h1
  omega
theorem Gr.Fine.start {g : Gr} (h : g.Fine) : 0 < (g.of [0]).length := by
  obtain ⟨es, M, N, -, -, -, ht⟩ := h
  have h0 := (told_quiet ht).2
  unfold Gr.start at h0
  rcases ixOf_cases g.rules (fun r => r.parser) with ⟨h1, -⟩ | ⟨j, hj, h1, h2, -⟩
  · omega
  · have hmem : ∀ m, j < m → m ≤ g.rules.length → (j : Int) ∈ g.ofTo [0] m := by
      intro m
      induction m with
      | zero => intro h; omega
      | succ m ih =>
        intro hm hl
        rw [Gr.ofTo]
        by_cases e : j = m
        · subst e
          rw [if_pos (by rw [Gr.isAt_get hj]; unfold Rl.parser at h2; simp only [List.any_cons, List.any_nil, Bool.or_false]; exact h2)]
          simp
        · have := ih (by omega) (by omega)
          split
          · exact List.mem_append_left _ this
          · exact this
    exact List.length_pos_of_mem (hmem g.rules.length hj (Nat.le_refl _))
def book0 (g : Gr) (T P : List Int) : Bk := ⟨nmsTo g P P.length, nmsTo g T T.length, kindsTo g T T.length, bodsTo g P P.length, List.replicate P.length ⟨-1, []⟩⟩
def Bk.step (B : Bk) : Bk := { B with firsts := B.bodies.map fun n => B.firstN n }
def Bk.iter (B : Bk) : Nat → Bk
  | 0 => B
  | k + 1 => (B.iter k).step
theorem Bk.iter_rest (B : Bk) : ∀ k, (B.iter k).rules = B.rules ∧ (B.iter k).tokens = B.tokens ∧ (B.iter k).kinds = B.kinds ∧ (B.iter k).bodies = B.bodies
  | 0 => ⟨rfl, rfl, rfl, rfl⟩
  | k + 1 => B.iter_rest k
theorem Bk.iter_len (B : Bk) (h : B.firsts.length = B.bodies.length) : ∀ k, (B.iter k).firsts.length = B.bodies.length
  | 0 => h
  | k + 1 => by
    show ((B.iter k).bodies.map _).length = _
    rw [List.length_map, (B.iter_rest k).2.2.2]
theorem Bk.iter_ok (B : Bk) (h : ∀ f ∈ B.firsts, f.Ok) : ∀ k, ∀ f ∈ (B.iter k).firsts, f.Ok
  | 0 => h
  | k + 1 => fun f hf => by
    obtain ⟨n, -, rfl⟩ := List.mem_map.1 (show f ∈ (B.iter k).bodies.map fun n => (B.iter k).firstN n from hf)
    exact Bk.firstN_ok (B.iter_ok h k) n
def bookOf (g : Gr) : Bk := (book0 g (g.of [1, 3]) (g.of [0])).iter ((g.of [0]).length + 1)
theorem book0_ok (g : Gr) (T P : List Int) : ∀ f ∈ (book0 g T P).firsts, f.Ok := fun f hf => by
  rw [(List.mem_replicate.1 (show f ∈ List.replicate P.length ⟨-1, []⟩ from hf)).2]
  exact ok_none
theorem book0_rule (g : Gr) (T P : List Int) (hp : 0 < P.length) (k : Nat) (nm : ByteArray) : ((book0 g T P).iter k).rule nm < ((book0 g T P).iter k).firsts.length := by
  rw [Bk.iter_len _ (by show (List.replicate P.length _).length = (bodsTo g P P.length).length; rw [List.length_replicate, bodsTo_len])]
  show _ < (bodsTo g P P.length).length
  rw [bodsTo_len]
  unfold Bk.rule
  rw [((book0 g T P).iter_rest k).1]
  cases h : lookS (book0 g T P).rules nm with
  | none => exact hp
  | some q =>
    obtain ⟨x, hx, -, rfl⟩ := lookS_mem h
    exact (nmsTo_mem hx).1
mutual
theorem lp_of_plain (token : Bool) : ∀ (n : Nd) (d : Int), (∀ p ∈ n.alld d, plainN token p.2 = true) → n.lp
  | .mk k nm tx set subs, d, h => by
    rw [Nd.alld] at h
    rw [Nd.lp]
    refine ⟨fun hk he => ?_, lpL_of_plain token subs _ fun p hp => h p (List.mem_cons_of_mem _ hp)⟩
    have h1 := h _ (List.mem_cons_self ..)
    unfold plainN plainX plainK at h1
    rw [Bool.and_eq_true] at h1
    have h2 := h1.2
    have hk' : (Nd.mk k nm tx set subs).kind = k := rfl
    have hs : (Nd.mk k nm tx set subs).subs = subs := rfl
    simp only [hk', hs] at h2
    rw [if_neg (by omega), if_neg (by omega), if_pos hk, he] at h2
    simp at h2
theorem lpL_of_plain (token : Bool) : ∀ (l : List Nd) (d : Int), (∀ p ∈ Nd.alldL d l, plainN token p.2 = true) → Nd.lpL l
  | [], _, _ => by rw [Nd.lpL]; trivial
  | n :: r, d, h => by
    rw [Nd.alldL] at h
    rw [Nd.lpL]
    exact ⟨lp_of_plain token n d fun p hp => h p (List.mem_append_left _ hp), lpL_of_plain token r d fun p hp => h p (List.mem_append_right _ hp)⟩
end
theorem sound_lp {g : Gr} (h : soundP g) {i : Nat} (hi : i < g.rules.length) : g.rules[i].body.lp := by
  obtain ⟨-, -, -, h4⟩ := h
  obtain ⟨-, -, h5⟩ := h4 i hi
  exact lp_of_plain _ _ 1 fun p hp => (h5.2 p hp).2
theorem bods_lp {g : Gr} (h : soundP g) : ∀ n ∈ bodsTo g (g.of [0]) (g.of [0]).length, n.lp := by
  intro n hn
  obtain ⟨k, hk⟩ := List.getElem?_of_mem hn
  have hkl := (List.getElem?_eq_some_iff.1 hk).1
  rw [bodsTo_len] at hkl
  rw [bodsTo_at hkl] at hk
  have h3 : (g.of [0])[k]? = some (g.of [0])[k] := List.getElem?_eq_getElem hkl
  obtain ⟨m, hm, hme, -⟩ := of_get h3
  rw [hme] at h3
  rw [List.getD_eq_getElem?_getD, h3, Option.getD_some, Gr.rAt_nat g hm] at hk
  rw [← Option.some.inj hk]
  exact sound_lp h hm
end Go.Proofs.YtppjmdanckdobaaGreatDoor
