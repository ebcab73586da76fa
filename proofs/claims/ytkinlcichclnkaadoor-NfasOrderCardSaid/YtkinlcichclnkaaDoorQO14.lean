/- checks.all: a node and all that lie below it, one by one: the contract of the iterator. -/
import Derived.RangeFuncNested
import Derived.RangeFuncBound
import Derived.RangeFuncCalls
import Derived.RangeFuncLeaves
import Derived.Shelf.Abstract
import Derived.OwnWalkIn
import Derived.TacticsInMore
import Derived.LoopNIn
import Derived.LoopIn
import Derived.Test.YtkinlcichclnkaaDoorQO13
import Derived.Test.YtkinlcichclnkaaDoorQO9
import Derived.Test.YtkinlcichclnkaaDoorQO3
import Derived.Test.YtkinlcichclnkaaDoorQO5
namespace Go.Proofs.YtkinlcichclnkaaDoor
open Go.RowKit Go.Shelf
attribute [local go_sem] Oper.semAt_some

/-- a node, as it lies in a first world -/
structure NV (W0 : World) (lim : Nat) where
  n : Nd
  v0 : Value
  v1 : Value
  v2 : Value
  v3 : Value
  v4 : Value
  lies : NodeAt W0 lim (some v0) (some v1) (some v2) (some v3) (some v4) n
def NV.enc {W0 : World} {lim : Nat} (x : NV W0 lim) : Array Value := #[.agg #[x.v0, x.v1, x.v2, x.v3, x.v4]]

/-- what a round keeps: what lay below lim, and the boxes of nodes and of functions over nodes -/
structure KpN (lim : Nat) (W W' : World) : Prop where
  low : Below lim W W'
  box : ∀ (b : Nat) (cs : Array Value) (T : Nat) (f : Nat × Nat), W.heap[b]? = some (.cells cs T f) → (T = 34 ∨ T = 51) → W'.heap[b]? = some (.cells cs T f)
theorem KpN.refl (lim : Nat) (W : World) : KpN lim W W := ⟨Below.refl _ _, fun _ _ _ _ h _ => h⟩
theorem KpN.trans {lim : Nat} {A B C : World} (h : KpN lim A B) (k : KpN lim B C) : KpN lim A C := ⟨h.low.trans k.low, fun b cs T f hb hT => k.box b cs T f (h.box b cs T f hb hT) hT⟩
theorem KpN.grew {lim : Nat} {A B : World} (h : Grew A B) (hl : lim ≤ A.heap.size) : KpN lim A B :=
  ⟨h.mono hl, fun b cs T f hb _ => by rw [h.block b (Array.getElem?_eq_some_iff.1 hb).1]; exact hb⟩

/-- every element of a list of nodes, one by one, in a state that each turns, until one says yes -/
def IdxPost (l : List Nd) (Inv St : Nat → World → Prop) (e : Ending) (W' : World) : Prop :=
  (e = .returned (.int .i64 (-1)) ∧ Inv l.length W') ∨ ∃ j, j < l.length ∧ e = .returned (.int .i64 (j : Int)) ∧ St j W'
def CntPost (l : List Nd) (Inv St : Nat → World → Prop) (e : Ending) (W' : World) : Prop :=
  (e = .returned (.bool false) ∧ Inv l.length W') ∨ ∃ j, j < l.length ∧ e = .returned (.bool true) ∧ St j W'
def ElPost (Inv St : Nat → World → Prop) (j : Nat) (e : Ending) (W' : World) : Prop :=
  (e = .returned (.bool false) ∧ Inv (j + 1) W') ∨ (e = .returned (.bool true) ∧ St j W')

set_option maxHeartbeats 1000000 in
set_option maxRecDepth 20000 in
theorem indexNodesI_ok (F : Fence) (hd : F.depth = none) (hfn : ∀ k, F.fn k) (hro : F.round = none) (n : Nat) (l : List Nd) (G : Nat) (cp : Array Value) (hF : Enters G) (W0 : World) (lim : Nat) (a : Option Addr) (cap : Nat) (hl : l.length ≤ reachN) (hR : NodesAt W0 lim a 0 l)
    (Inv St : Nat → World → Prop) (hI : ∀ j W, Inv j W → Below lim W0 W)
    (HF : ∀ (j : Nat) (hj : j < l.length) (m : Nat) (W : World) (v0 v1 v2 v3 v4 : Value), Inv j W → NodeAt W0 lim (some v0) (some v1) (some v2) (some v3) (some v4) l[j] → CallsIn F m Tryd.prog G (#[.agg #[v0, v1, v2, v3, v4]] ++ cp) W (ElPost Inv St j))
    (W : World) (h0 : Inv 0 W) : CallsIn F n Tryd.prog 76 #[.slice a l.length cap, .func (.func G) #[] cp] W (IdxPost l Inv St) := by
  have hdd : ∀ k : Nat, (F.depth.isSome = true → 1 ≤ k) := fun k h => by rw [hd] at h; cases h
  unfold reachN at hl
  refine callsIn_of_wp Tryd.func76 rfl (hfn _) ?_ hro
  simp only [Tryd.ntmps76, List.size_toArray, List.length_cons, List.length_nil, Nat.reduceAdd, Nat.reduceSub, Array.replicate_succ, Array.replicate_zero, List.push_toArray, List.append_toArray, List.nil_append, List.cons_append]
  gi_wp2
  gi_loopw [8] (fun i wr => ∃ (j : Nat), i = .int .i64 j ∧ j ≤ l.length ∧ Hid (Inv j wr)) (fun i _ => l.length - (intOf i).toNat)
  case atStart =>
    exact ⟨0, rfl, by omega, h0⟩
  case round =>
    obtain ⟨j, rfl, hj, hf⟩ := hrel
    by_cases hlt : j < l.length
    · obtain ⟨b, off, rfl, hb, hnode⟩ := hR.get hlt
      simp only [Nat.zero_add] at hnode
      obtain ⟨u0, u1, u2, u3, u4, e0, e1, e2, e3, e4, hnode⟩ := hnode.vals
      obtain ⟨k0, k1, k2, k3, k4, k5, k6, k7, k8, rfl, rfl, rfl, rfl, rfl⟩ := hnode.forms
      have HS := Lib.hid (fun m => HF j hlt m wr _ _ _ _ _ hf.out hnode)
      have hlo := hI j wr hf.out
      rw [← hlo.cell (p := ⟨b, off + j * 5, none⟩) hb] at e0
      rw [← hlo.cell (p := ⟨b, off + j * 5 + 1, none⟩) hb] at e1
      rw [← hlo.cell (p := ⟨b, off + j * 5 + 2, none⟩) hb] at e2
      rw [← hlo.cell (p := ⟨b, off + j * 5 + 3, none⟩) hb] at e3
      rw [← hlo.cell (p := ⟨b, off + j * 5 + 4, none⟩) hb] at e4
      clear hnode hR HF hlo hI
      have hFx := hF
      unfold Enters at hFx
      clear hF
      gi_wp2_with ((try refine ⟨hdd _, ?_⟩); refine (HS.out _).mono ?_; rintro e w2 (⟨rfl, h2⟩ | ⟨rfl, h2⟩))
      · go_roundw
        case rel => exact ⟨j + 1, by go_num, by omega, h2⟩
        case measure => simp [intOf]; omega
      · go_ret
        exact .inr ⟨j, hlt, rfl, h2⟩
    · have hjl : j = l.length := by omega
      subst hjl
      gi_wp2_with fail
      go_ret
      exact .inl ⟨rfl, hf.out⟩

theorem contNodesI_ok (F : Fence) (hd : F.depth = none) (hfn : ∀ k, F.fn k) (hro : F.round = none) (n : Nat) (l : List Nd) (G : Nat) (cp : Array Value) (hF : Enters G) (W0 : World) (lim : Nat) (a : Option Addr) (cap : Nat) (hl : l.length ≤ reachN) (hR : NodesAt W0 lim a 0 l)
    (Inv St : Nat → World → Prop) (hI : ∀ j W, Inv j W → Below lim W0 W)
    (HF : ∀ (j : Nat) (hj : j < l.length) (m : Nat) (W : World) (v0 v1 v2 v3 v4 : Value), Inv j W → NodeAt W0 lim (some v0) (some v1) (some v2) (some v3) (some v4) l[j] → CallsIn F m Tryd.prog G (#[.agg #[v0, v1, v2, v3, v4]] ++ cp) W (ElPost Inv St j))
    (W : World) (h0 : Inv 0 W) : CallsIn F n Tryd.prog 73 #[.slice a l.length cap, .func (.func G) #[] cp] W (CntPost l Inv St) := by
  have hdd : ∀ k : Nat, (F.depth.isSome = true → 1 ≤ k) := fun k h => by rw [hd] at h; cases h
  have hS := Lib.hid (fun m => indexNodesI_ok F hd hfn hro m l G cp hF W0 lim a cap hl hR Inv St hI HF W h0)
  clear HF hR hF hI
  refine callsIn_of_wp Tryd.func73 rfl (hfn _) ?_ hro
  simp only [Tryd.ntmps73, List.size_toArray, List.length_cons, List.length_nil, Nat.reduceAdd, Nat.reduceSub, Array.replicate_succ, Array.replicate_zero, List.push_toArray, List.append_toArray, List.nil_append, List.cons_append]
  gi_wp2_with ((try refine ⟨hdd _, ?_⟩); gi_at_call 76; refine (hS.out _).mono ?_; rintro e w' (⟨rfl, h2⟩ | ⟨j, hj, rfl, h2⟩))
  · go_ret
    exact .inl ⟨rfl, h2⟩
  · go_ret
    exact .inr ⟨j, hj, by simp, h2⟩

/-- it says yes, and then A; or no, and then B -/
def YesNo (A B : World → Prop) (e : Ending) (W' : World) : Prop := (e = .returned (.bool true) ∧ A W') ∨ (e = .returned (.bool false) ∧ B W')
theorem enters_walk1 : Enters 75 := fun _ _ => by kernel_rfl

theorem walk1_in (F : Fence) (hd : F.depth = none) (hfn : ∀ k, F.fn k) (hro : F.round = none) (l pb : Nat) (v0 v1 v2 v3 v4 : Value) (A B : World → Prop) (n : Nat) (W : World) (hc : W.cell? ⟨pb, 0, none⟩ = some (.func (.yield l) #[] #[]))
    (H : ∀ m W1, Grew W W1 → CallsIn F m Tryd.prog 71 #[.agg #[v0, v1, v2, v3, v4], .func (.yield l) #[] #[]] W1 (YesNo A B)) :
    CallsIn F n Tryd.prog 75 (#[.agg #[v0, v1, v2, v3, v4]] ++ #[.pointer (some ⟨pb, 0, none⟩)]) W (YesNo B A) := by
  have hdd : ∀ k : Nat, (F.depth.isSome = true → 1 ≤ k) := fun k h => by rw [hd] at h; cases h
  have hgr := grew_alloc W (.cells #[v0, v1, v2, v3, v4] 34)
  have hl := lt_of_cell hc
  have hS := Lib.hid (fun m => H m _ hgr)
  clear H hgr
  simp only [List.append_toArray, List.cons_append, List.nil_append]
  refine callsIn_of_wp Tryd.func75 rfl (hfn _) ?_ hro
  simp only [Tryd.ntmps75, List.size_toArray, List.length_cons, List.length_nil, Nat.reduceAdd, Nat.reduceSub, Array.replicate_succ, Array.replicate_zero, List.push_toArray, List.append_toArray, List.nil_append, List.cons_append]
  gi_wp2_with ((try refine ⟨hdd _, ?_⟩); gi_at_call 71; refine (hS.out _).mono ?_; rintro e w' (⟨rfl, h2⟩ | ⟨rfl, h2⟩))
  · go_ret
    exact .inr ⟨rfl, h2⟩
  · go_ret
    exact .inl ⟨rfl, h2⟩

/-- all of these have come, and what a round keeps is kept; or a first part of them, and it was said that it is enough -/
def AllCame {W0 : World} {lim : Nat} (J : List (NV W0 lim) → World → Prop) (pre : List (NV W0 lim)) (L : List Nd) (W W' : World) : Prop := ∃ q : List (NV W0 lim), q.map NV.n = L ∧ J (pre ++ q) W' ∧ KpN lim W W'
def PartCame {W0 : World} {lim : Nat} (Jx : List (NV W0 lim) → World → Prop) (pre : List (NV W0 lim)) (L : List Nd) (W' : World) : Prop := ∃ q : List (NV W0 lim), q.map NV.n <+: L ∧ Jx (pre ++ q) W'

theorem allL_take (l : List Nd) (j : Nat) (hj : j < l.length) : Nd.allL (l.take (j + 1)) = Nd.allL (l.take j) ++ l[j].all := by
  induction l generalizing j with
  | nil => exact absurd hj (by simp)
  | cons a r ih =>
    cases j with
    | zero => simp [Nd.allL]
    | succ j =>
      have := ih j (by simpa using hj)
      simp only [List.take_succ_cons, List.getElem_cons_succ, Nd.allL]
      rw [this, List.append_assoc]
theorem allL_take_le (l : List Nd) (j : Nat) (hj : j < l.length) : Nd.allL (l.take j) ++ l[j].all <+: Nd.allL l := by
  rw [← allL_take l j hj]
  have : ∀ (l : List Nd) k, Nd.allL (l.take k) <+: Nd.allL l := by
    intro l
    induction l with
    | nil => intro k; simp [Nd.allL]
    | cons a r ih =>
      intro k
      cases k with
      | zero => simp [Nd.allL]
      | succ k =>
        obtain ⟨t, ht⟩ := ih k
        exact ⟨t, by simp only [List.take_succ_cons, Nd.allL, List.append_assoc, ht]⟩
  exact this l _

set_option maxHeartbeats 4000000 in
set_option maxRecDepth 20000 in
theorem walkN_ok (F : Fence) (hd : F.depth = none) (hfn : ∀ k, F.fn k) (hro : F.round = none) (l lim N : Nat) (W0 : World) (hlim : lim ≤ W0.heap.size) (J Jx : List (NV W0 lim) → World → Prop) (hJ : ∀ s A B, J s A → Grew A B → J s B)
    (hY : ∀ m pre (x : NV W0 lim) W, J pre W → Below lim W0 W → pre.length < N → YieldAt F m Tryd.prog l x.enc W (YesNo (fun W' => J (pre ++ [x]) W' ∧ KpN lim W W') (Jx (pre ++ [x])))) :
    ∀ n : Nd, ∀ (m : Nat) (v0 v1 v2 v3 v4 : Value) (_ : NodeAt W0 lim (some v0) (some v1) (some v2) (some v3) (some v4) n) (pre : List (NV W0 lim)) (W : World), J pre W → Below lim W0 W → pre.length + n.all.length ≤ N →
      CallsIn F m Tryd.prog 71 #[.agg #[v0, v1, v2, v3, v4], .func (.yield l) #[] #[]] W (YesNo (AllCame J pre n.all W) (PartCame Jx pre n.all)) := by
  have hdd : ∀ k : Nat, (F.depth.isSome = true → 1 ≤ k) := fun k h => by rw [hd] at h; cases h
  refine Nd.ind ?_
  intro k nm tx set subs ih m v0 v1 v2 v3 v4 hN pre W hj hb hlen
  obtain ⟨x, hx⟩ : ∃ x : NV W0 lim, x = ⟨_, _, _, _, _, _, hN⟩ := ⟨_, rfl⟩
  have hxe : x.enc = #[.agg #[v0, v1, v2, v3, v4]] := by rw [hx]; rfl
  have hxn : x.n = .mk k nm tx set subs := by rw [hx]
  clear hx
  rw [NodeAt] at hN
  obtain ⟨hk, h1, h2, h3, h4, h5, ⟨sa, sc, h6, h6', h7⟩, na, nc, h8, h8', h9⟩ := hN
  obtain rfl := Option.some.inj h3
  obtain rfl := Option.some.inj h4
  obtain rfl := Option.some.inj h5
  obtain rfl := Option.some.inj h6
  obtain rfl := Option.some.inj h8
  clear h3 h4 h5 h6 h7 h8
  rw [Nd.all, List.length_cons] at hlen
  have hg1 := grew_alloc W (.cells #[.int .u8 k, .string nm, .string tx, .slice sa set.length sc, .slice na subs.length nc] 34)
  have hg2 := grew_alloc (W.alloc (.cells #[.int .u8 k, .string nm, .string tx, .slice sa set.length sc, .slice na subs.length nc] 34)) (.cells #[.func (.yield l) #[] #[]] 51)
  have ho1 := (Owns.alloc W [.int .u8 k, .string nm, .string tx, .slice sa set.length sc, .slice na subs.length nc] 34).keep hg2
  have ho2 := Owns.alloc (W.alloc (.cells #[.int .u8 k, .string nm, .string tx, .slice sa set.length sc, .slice na subs.length nc] 34)) [.func (.yield l) #[] #[]] 51
  have e1 : (W.alloc (.cells #[.int .u8 k, .string nm, .string tx, .slice sa set.length sc, .slice na subs.length nc] 34)).heap.size = W.heap.size + 1 := by simp
  rw [e1] at ho2
  clear e1
  have hg := hg1.trans hg2
  have hsz := hb.size
  have hbA := hb.trans (hg.mono (show lim ≤ W.heap.size by omega))
  have hYA := hY (m - 1) pre x _ (hJ _ _ _ hj hg) hbA (by omega)
  obtain ⟨fn, tmps, assign, body, hy, hR⟩ := hYA
  rw [hxe] at hy
  have HKG := Lib.hid (KpN.grew hg (show lim ≤ W.heap.size by omega))
  have hR' := hR.mono (R' := fun e W2 => (e = .returned (.bool true) ∧ Hid (J (pre ++ [x]) W2) ∧ Hid (KpN lim W W2) ∧ Hid (Below lim W0 W2) ∧ W2.cell? ⟨W.heap.size, 4, none⟩ = some (.slice na subs.length nc) ∧ Hid (W2.cell? ⟨W.heap.size + 1, 0, none⟩ = some (.func (.yield l) #[] #[])) ∧
      Hid (W2.heap[W.heap.size + 1]? = some (.cells #[.func (.yield l) #[] #[]] 51 (0, 0)))) ∨ (e = .returned (.bool false) ∧ Jx (pre ++ [x]) W2)) (by
    rintro e W2 (⟨rfl, hj2, hk2⟩ | ⟨rfl, hx2⟩)
    · have o1 : Owns W2 W.heap.size _ 34 := hk2.box _ _ _ _ ho1 (.inl rfl)
      have o2 : Owns W2 (W.heap.size + 1) _ 51 := hk2.box _ _ _ _ ho2 (.inr rfl)
      exact .inl ⟨rfl, hj2, (KpN.grew hg (show lim ≤ W.heap.size by omega)).trans hk2, hbA.trans hk2.low, o1.cell_at rfl, o2.cell_at rfl, o2⟩
    · exact .inr ⟨rfl, hx2⟩)
  have HR := Lib.hid hR'
  have HIH := Lib.hid ih
  have HJ := Lib.hid hJ
  have H9 := Lib.hid h9
  clear hY hg1 hg2 ho1 ho2 hg hR hR' hbA ih hJ hb h9 hxe hj hsz
  unfold reachN at h1 h2 h6' h8'
  refine callsIn_of_wp Tryd.func71 rfl (hfn _) ?_ hro
  simp only [Tryd.ntmps71, List.size_toArray, List.length_cons, List.length_nil, Nat.reduceAdd, Nat.reduceSub, Array.replicate_succ, Array.replicate_zero, List.push_toArray, List.append_toArray, List.nil_append, List.cons_append]
  gi_wp2_with ((try refine ⟨hdd _, ?_⟩); refine HR.out.mono ?_; rintro e W2 (⟨rfl, hj2, hk2, hb2, hc2, hy2, ho2⟩ | ⟨rfl, hx2⟩))
  · have hC : ∀ m, CallsIn F m Tryd.prog 73 #[.slice na subs.length nc, .func (.func 75) #[] #[.pointer (some ⟨W.heap.size + 1, 0, none⟩)]] W2
        (CntPost subs (fun j W' => AllCame J (pre ++ [x]) (Nd.allL (subs.take j)) W2 W') (fun _ W' => PartCame Jx (pre ++ [x]) (Nd.allL subs) W')) := by
      intro m
      refine contNodesI_ok F hd hfn hro m subs 75 _ enters_walk1 W0 lim na nc (by unfold reachN; omega) H9.out _ _ (fun j W' ⟨q, _, _, h⟩ => hb2.out.trans h.low) ?_ W2 ⟨[], by simp [Nd.allL], by simpa using hj2.out, KpN.refl _ _⟩
      rintro j hj m W' u0 u1 u2 u3 u4 ⟨q, hq1, hq2, hq3⟩ hnode
      have hty : W'.cell? ⟨W.heap.size + 1, 0, none⟩ = some (.func (.yield l) #[] #[]) := Owns.cell_at (hq3.box _ _ _ _ ho2.out (.inr rfl)) rfl
      have hql := congrArg List.length hq1
      have hal := (allL_take_le subs j hj).length_le
      simp only [List.length_map, List.length_append] at hql hal
      refine (walk1_in F hd hfn hro l _ u0 u1 u2 u3 u4 (AllCame J (pre ++ [x] ++ q) subs[j].all W') (PartCame Jx (pre ++ [x] ++ q) subs[j].all) m W' hty (fun m W1 hg => ?_)).mono ?_
      · have hb' := hb2.out.trans hq3.low
        refine (HIH.out j hj m u0 u1 u2 u3 u4 hnode (pre ++ [x] ++ q) W1 (HJ.out _ _ _ hq2 hg) (hb'.trans (hg.mono (by have := hb'.size; omega))) (by simp only [List.length_append, List.length_singleton]; omega)).mono ?_
        rintro e W3 (⟨rfl, q', r1, r2, r3⟩ | h)
        · exact .inl ⟨rfl, q', r1, r2, (KpN.grew hg (by have := hb'.size; omega)).trans r3⟩
        · exact .inr h
      · rintro e W3 (⟨rfl, q', r1, r2⟩ | ⟨rfl, q', r1, r2, r3⟩)
        · refine .inr ⟨rfl, q ++ q', ?_, by simpa using r2⟩
          rw [List.map_append, hq1]
          exact (List.prefix_append_right_inj _).2 r1 |>.trans (allL_take_le subs j hj)
        · refine .inl ⟨rfl, q ++ q', ?_, by simpa using r2, hq3.trans r3⟩
          rw [List.map_append, hq1, r1, allL_take subs j hj]
    have HC := Lib.hid hC
    clear hC HIH HJ H9 hy HR
    gi_wp2_with ((try refine ⟨hdd _, ?_⟩); gi_at_call 73; refine (HC.out _).mono ?_; rintro e W3 (⟨rfl, q, hq1, hq2, hq3⟩ | ⟨j, hj, rfl, q, hq1, hq2⟩))
    · go_ret
      refine .inl ⟨rfl, x :: q, ?_, by simpa using hq2, hk2.out.trans hq3⟩
      rw [List.map_cons, hxn, Nd.all, hq1, List.take_length]
    · go_ret
      refine .inr ⟨rfl, x :: q, ?_, by simpa using hq2⟩
      rw [List.map_cons, hxn, Nd.all]
      obtain ⟨t, ht⟩ := hq1
      exact ⟨t, by simp [ht]⟩
  · go_ret
    refine .inr ⟨rfl, [x], ?_, hx2⟩
    rw [List.map_singleton, hxn, Nd.all]
    exact ⟨_, rfl⟩

theorem grew_abides {β : Type} {B : Nat} {J : β → World → Prop} (h : AbidesFrom B J) : ∀ s A C, J s A → Grew A C → J s C := fun s A C hs hg =>
  h s A C none hs ⟨hg.os, hg.tape, hg.output, hg.size, fun k hk _ => hg.block k hk⟩ (fun r e => by cases e)

/-- **all(n) hands back a value that yields n's nodes, each ahead of its subs** -/
theorem all_stops (F : Fence) (hd : F.depth = none) (hfn : ∀ k, F.fn k) (hro : F.round = none) (m lim Bn : Nat) (W0 w : World) (hlim : lim ≤ W0.heap.size) (hw : KpN lim W0 w) (n : Nd) (v0 v1 v2 v3 v4 : Value)
    (hN : NodeAt W0 lim (some v0) (some v1) (some v2) (some v3) (some v4) n) (hB : Owns w Bn [v0, v1, v2, v3, v4] 34) :
    SeqStopsK F m Tryd.prog 70 #[.pointer (some ⟨Bn, 0, none⟩)] (NV.enc (W0 := W0) (lim := lim)) (KpN lim) (fun q => q.map NV.n = n.all) (fun q => q.map NV.n <+: n.all) n.all.length w := by
  have hdd : ∀ k : Nat, (F.depth.isSome = true → 1 ≤ k) := fun k h => by rw [hd] at h; cases h
  intro l J Jx W hW hJ _ hY h0
  have hwz := hw.low.size
  have hbl : Below lim W0 W := hw.low.trans (hW.mono (by omega))
  have hBo : Owns W Bn [v0, v1, v2, v3, v4] 34 := hB.keep hW
  have hY' : ∀ m' pre (x : NV W0 lim) W, J pre W → Below lim W0 W → pre.length < n.all.length → YieldAt F m' Tryd.prog l x.enc W (YesNo (fun W' => J (pre ++ [x]) W' ∧ KpN lim W W') (Jx (pre ++ [x]))) := fun m' pre x W hj _ hl => by
    obtain ⟨fn, tmps, assign, body, hy, hR⟩ := hY pre x W hj hl
    exact ⟨fn, tmps, assign, body, hy, hR.1, fun c cs _ => hR.2 c cs (fun d h => by rw [hd] at h; cases h)⟩
  have hS := Lib.hid (fun m' => walkN_ok F hd hfn hro l lim n.all.length W0 hlim J Jx (grew_abides hJ) hY' n m' v0 v1 v2 v3 v4 hN [] W h0 hbl (by simp))
  obtain ⟨k0, k1, k2, k3, k4, k5, k6, k7, k8, rfl, rfl, rfl, rfl, rfl⟩ := hN.forms
  have c0 := hBo.cell_at (i := 0) rfl
  have c1 := hBo.cell_at (i := 1) rfl
  have c2 := hBo.cell_at (i := 2) rfl
  have c3 := hBo.cell_at (i := 3) rfl
  have c4 := hBo.cell_at (i := 4) rfl
  have hbl := hBo.lt
  clear hY hY' hJ hN hB hBo hW hw
  simp only [List.append_toArray, List.cons_append, List.nil_append]
  refine callsIn_of_wp Tryd.func70 rfl (hfn _) ?_ hro
  simp only [Tryd.ntmps70, List.size_toArray, List.length_cons, List.length_nil, Nat.reduceAdd, Nat.reduceSub, Array.replicate_succ, Array.replicate_zero, List.push_toArray, List.append_toArray, List.nil_append, List.cons_append]
  gi_wp2_with ((try refine ⟨hdd _, ?_⟩); gi_at_call 71; refine (hS.out _).mono ?_; rintro e w' (⟨rfl, q, h1, h2, h3⟩ | ⟨rfl, q, h1, h2⟩))
  · go_end0
    exact ⟨⟨_, rfl⟩, .inl ⟨q, h1, by simpa using h2⟩⟩
  · go_end0
    exact ⟨⟨_, rfl⟩, .inr ⟨q, h1, by simpa using h2⟩⟩

theorem all_in (F : Fence) (hfn : ∀ k, F.fn k) (hro : F.round = none) (m : Nat) (v0 v1 v2 v3 v4 : Value) (w : World) :
    CallsIn F m Tryd.prog 59 #[.agg #[v0, v1, v2, v3, v4]] w fun e w' => e = .returned (.func (.func 70) #[] #[.pointer (some ⟨w.heap.size, 0, none⟩)]) ∧ w' = w.alloc (.cells #[v0, v1, v2, v3, v4] 34) := by
  refine callsIn_of_wp Tryd.func59 rfl (hfn _) ?_ hro
  simp only [Tryd.ntmps59, List.size_toArray, List.length_cons, List.length_nil, Nat.reduceAdd, Nat.reduceSub, Array.replicate_succ, Array.replicate_zero, List.push_toArray, List.append_toArray, List.nil_append, List.cons_append]
  gi_wp2
  go_ret
  exact ⟨rfl, rfl⟩
end Go.Proofs.YtkinlcichclnkaaDoor

/- checks.parser, names, sorted, Start: what they answer. -/
namespace Go.Proofs.YtkinlcichclnkaaDoor
open Go.RowKit

theorem parser_ok (r : Rl) (W : World) (v0 v1 v2 v3 v4 v5 v6 v7 v8 v9 : Value) (hR : v1 = .int .u8 r.sort) :
    Calls Tryd.prog 61 #[.agg #[v0, v1, v2, v3, v4, v5, v6, v7, v8, v9]] W fun e W' => e = .returned (.bool r.parser) ∧ Below W.heap.size W W' := by
  subst hR
  go_enter Tryd.func61, Tryd.ntmps61
  go_wp2
  go_ret
  exact ⟨rfl, (Below.refl _ _).alloc (Nat.le_refl _) _⟩

theorem names_ok (n : Nd) (W : World) (v0 v1 v2 v3 v4 : Value) (h : v0 = .int .u8 n.kind) :
    Calls Tryd.prog 60 #[.agg #[v0, v1, v2, v3, v4]] W fun e W' => e = .returned (.bool n.isName) ∧ Below W.heap.size W W' := by
  subst h
  unfold Nd.isName
  by_cases h5 : n.kind = 5
  · rw [h5]
    go_enter Tryd.func60, Tryd.ntmps60
    go_wp2
    go_ret
    exact ⟨rfl, (Below.refl _ _).alloc (Nat.le_refl _) _⟩
  · have e5 : (n.kind == 5) = false := beq_eq_false_iff_ne.2 h5
    go_enter Tryd.func60, Tryd.ntmps60
    go_wp2
    go_ret
    exact ⟨by rw [e5]; first | rfl | simp, (Below.refl _ _).alloc (Nat.le_refl _) _⟩

theorem enters_parser : Enters 61 := fun _ _ => by kernel_rfl

theorem start_ok (g : Gr) (W : World) (v0 v1 v2 v3 : Value) (hG : GrAt W W.heap.size (some v0) (some v1) (some v2) (some v3) g) :
    Calls Tryd.prog 47 #[.agg #[v0, v1, v2, v3]] W fun e W' => e = .returned (.int .i64 g.start) ∧ Below W.heap.size W W' := by
  obtain ⟨h1, hs, h2, h3, h4, h5, ra, rc, h6, h7, h8⟩ := hG
  obtain rfl := Option.some.inj h1
  obtain rfl := Option.some.inj h2
  obtain rfl := Option.some.inj h3
  obtain rfl := Option.some.inj h6
  clear h1 h2 h3 h4 h5 h6
  have hB : Below W.heap.size W (W.alloc (.cells #[.string g.name, .int .i64 g.bound, .int .i64 g.states, .slice ra g.rules.length rc] 26)) := (Below.refl _ _).alloc (Nat.le_refl _) _
  have hS := Lib.hid (indexRules_ok g.rules (fun r => r.parser) 61 #[] enters_parser _ ra rc h7 ((h8.keep hB).mono hB.size)
    (fun i hi W' v0 v1 v2 v3 v4 v5 v6 v7 v8 v9 hb hr => by
      obtain ⟨_, _, _, _, _, _, e1, _⟩ := hr.vals
      exact parser_ok _ W' _ _ _ _ _ _ _ _ _ _ (Option.some.inj e1)))
  have HB := Lib.hid hB
  clear hB h8
  unfold reachN at h7 hs
  go_enter Tryd.func47, Tryd.ntmps47
  go_wp2_with (go_at_call 40; refine hS.out.mono ?_; rintro e w' ⟨rfl, hb2⟩)
  go_ret
  exact ⟨rfl, HB.out.trans (hb2.mono (by simp))⟩

set_option maxRecDepth 20000 in
theorem sorted_ok (r : Rl) (n : Nd) (o : Int) (W : World) (v0 v1 v2 v3 v4 v5 v6 v7 v8 v9 u0 u1 u2 u3 u4 : Value) (hR : v1 = .int .u8 r.sort) (hN : u0 = .int .u8 n.kind) :
    Calls Tryd.prog 65 #[.agg #[v0, v1, v2, v3, v4, v5, v6, v7, v8, v9], .agg #[u0, u1, u2, u3, u4], .int .u8 o] W fun e W' => e = .returned (.bool (sortedB r n o)) ∧ Below W.heap.size W W' := by
  subst hN
  have HP := Lib.hid (fun w => parser_ok r w v0 v1 v2 v3 v4 v5 v6 v7 v8 v9 hR)
  clear hR
  unfold sortedB
  generalize r.parser = p at *
  by_cases h5 : n.kind = 5
  · rw [h5]
    cases p
    · go_enter Tryd.func65, Tryd.ntmps65
      go_wp2_with fail
      refine (HP.out _).mono ?_
      rintro e w1 ⟨rfl, hb1⟩
      go_wp2_with fail
      go_ret
      have s1 := hb1.size
      exact ⟨rfl, (((Below.refl W.heap.size W).alloc (Nat.le_refl _) _).alloc (by simp) _).trans (hb1.mono (by simp; omega))⟩
    · go_enter Tryd.func65, Tryd.ntmps65
      go_wp2_with fail
      refine (HP.out _).mono ?_
      rintro e w1 ⟨rfl, hb1⟩
      go_wp2_with fail
      go_ret
      have s1 := hb1.size
      exact ⟨rfl, (((Below.refl W.heap.size W).alloc (Nat.le_refl _) _).alloc (by simp) _).trans (hb1.mono (by simp; omega))⟩
  · rw [show (n.kind == 5) = false from beq_eq_false_iff_ne.2 h5]
    cases p
    · go_enter Tryd.func65, Tryd.ntmps65
      go_wp2_with fail
      refine (HP.out _).mono ?_
      rintro e w1 ⟨rfl, hb1⟩
      go_wp2_with fail
      go_ret
      have s1 := hb1.size
      exact ⟨rfl, (((Below.refl W.heap.size W).alloc (Nat.le_refl _) _).alloc (by simp) _).trans (hb1.mono (by simp; omega))⟩
    · go_enter Tryd.func65, Tryd.ntmps65
      go_wp2_with fail
      refine (HP.out _).mono ?_
      rintro e w1 ⟨rfl, hb1⟩
      go_wp2_with fail
      go_ret
      have s1 := hb1.size
      exact ⟨rfl, (((Below.refl W.heap.size W).alloc (Nat.le_refl _) _).alloc (by simp) _).trans (hb1.mono (by simp; omega))⟩
end Go.Proofs.YtkinlcichclnkaaDoor
