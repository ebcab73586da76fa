/- node of nfas, whatever it is of. -/
import Derived.Lib.Hide
import Derived.Outline
import Derived.BigQuiet
import Derived.Test.YtkinlcichclnkaaDoorQT26
import Derived.Test.YtkinlcichclnkaaDoorQT27
import Derived.Test.YtkinlcichclnkaaDoorQT28
import Derived.Test.YtkinlcichclnkaaDoorQT29
import Derived.Test.YtkinlcichclnkaaDoorQT6
import Derived.Test.YtkinlcichclnkaaDoorQT3
import Derived.Test.YtkinlcichclnkaaDoorQT4
import Derived.Test.YtkinlcichclnkaaDoorQT12
namespace Go.Proofs.YtkinlcichclnkaaDoor
open Go.RowKit

theorem nnode_ok (lim : Nat) (g0 g1 g2 g3 : Value) (g : Gr) (kind : Int) : ∀ k, k ≤ 100000 → NodeC lim g0 g1 g2 g3 g kind k
  | 0, _ => by
    intro n W V b v0 v1 v2 v3 v4 hE hN hb hs hl hA hf
    obtain ⟨kd, nm, tx, set, subs⟩ := n
    have := nn_closed (k := 0) (by omega) kd nm tx set subs W V b v0 v1 v2 v3 v4 hE hN hb (by omega) hl hA hf (by rw [Bool.or_eq_true, decide_eq_true_eq]; left; omega)
    rw [nodeN]
    exact this
  | k + 1, hk => by
    have hrec := nnode_ok lim g0 g1 g2 g3 g kind k (by omega)
    intro n W V b v0 v1 v2 v3 v4 hE hN hb hs hl hA hf
    obtain ⟨kd, nm, tx, set, subs⟩ := n
    have hk' : k ≤ 100000 := by omega
    by_cases hcl : (decide (b.steps - 1 < 0) || b.full) = true
    · rw [nodeN, if_pos hcl]
      exact nn_closed hk' kd nm tx set subs W V b v0 v1 v2 v3 v4 hE hN hb hs hl hA hf hcl
    · rw [nodeN, if_neg hcl]
      rw [Bool.or_eq_true, decide_eq_true_eq, not_or, Bool.not_eq_true] at hcl
      obtain ⟨ho, hfl⟩ := hcl
      by_cases e0 : kd = 0
      · subst e0; exact nn_alts hrec hk' nm tx set subs W V b v0 v1 v2 v3 v4 hE hN hb hs hl hA hf ho hfl
      rw [if_neg e0]
      by_cases e1 : kd = 1
      · subst e1; exact nn_seq hrec hk' nm tx set subs W V b v0 v1 v2 v3 v4 hE hN hb hs hl hA hf ho hfl
      rw [if_neg e1]
      by_cases e8 : kd = 8
      · subst e8; exact nn_lit hk' nm tx set subs W V b v0 v1 v2 v3 v4 hE hN hb hs hl hA hf ho hfl
      rw [if_neg e8]
      by_cases e9 : kd = 9
      · subst e9; exact nn_set hrec hk' nm tx set subs W V b v0 v1 v2 v3 v4 hE hN hb hs hl hA hf ho hfl
      rw [if_neg e9]
      by_cases e6 : kd = 6
      · subst e6; exact nn_tok hrec hk' nm tx set subs W V b v0 v1 v2 v3 v4 hE hN hb hs hl hA hf ho hfl
      rw [if_neg e6]
      by_cases e2 : kd = 2
      · subst e2; exact nn_opt hrec hk' nm tx set subs W V b v0 v1 v2 v3 v4 hE hN hb hs hl hA hf ho hfl
      rw [if_neg e2]
      by_cases e3 : kd = 3
      · subst e3; exact nn_star hrec hk' nm tx set subs W V b v0 v1 v2 v3 v4 hE hN hb hs hl hA hf ho hfl
      rw [if_neg e3]
      by_cases e4 : kd = 4
      · subst e4; exact nn_plus hrec hk' nm tx set subs W V b v0 v1 v2 v3 v4 hE hN hb hs hl hA hf ho hfl
      rw [if_neg e4]
      exact nn_other hk' kd nm tx set subs e0 e1 e8 e9 e6 e2 e3 e4 W V b v0 v1 v2 v3 v4 hE hN hb hs hl hA hf ho hfl
end Go.Proofs.YtkinlcichclnkaaDoor

/- NfasOrder's plain law: where rules stand makes no difference. -/
namespace Go.Proofs.YtkinlcichclnkaaDoor

def NamesB (l : List Rl) : Prop := l.Pairwise fun a b => sameB a.name b.name = false
theorem sameB_trans' {a b c : ByteArray} (h : sameB a c = true) (k : sameB b c = true) : sameB a b = true :=
  (sameB_iff a b).2 (((sameB_iff a c).1 h).trans ((sameB_iff b c).1 k).symm)
theorem find_mem : ∀ {l : List Rl}, NamesB l → ∀ (nm : ByteArray) (r : Rl), l.find? (fun r => sameB r.name nm) = some r ↔ r ∈ l ∧ sameB r.name nm = true
  | [], _, nm, r => by simp
  | x :: l, h, nm, r => by
    obtain ⟨h1, h2⟩ := List.pairwise_cons.1 h
    rw [List.find?_cons]
    cases hx : sameB x.name nm with
    | true =>
      simp only
      constructor
      · intro e
        cases e
        exact ⟨List.mem_cons_self .., hx⟩
      · rintro ⟨hm, hr⟩
        rcases List.mem_cons.1 hm with rfl | hm
        · rfl
        · have := h1 r hm
          rw [sameB_trans' hx hr] at this
          cases this
    | false =>
      simp only
      rw [find_mem h2 nm r, List.mem_cons]
      constructor
      · rintro ⟨hm, hr⟩
        exact ⟨.inr hm, hr⟩
      · rintro ⟨rfl | hm, hr⟩
        · rw [hx] at hr; cases hr
        · exact ⟨hm, hr⟩
theorem find_same {l l' : List Rl} (h : NamesB l) (h' : NamesB l') (hm : ∀ r, r ∈ l ↔ r ∈ l') (nm : ByteArray) : l.find? (fun r => sameB r.name nm) = l'.find? fun r => sameB r.name nm := by
  apply Option.ext
  intro r
  rw [find_mem h, find_mem h', hm]
theorem lk_same {g h : Gr} (hg : NamesB g.rules) (hh : NamesB h.rules) (hm : ∀ r, r ∈ g.rules ↔ r ∈ h.rules) : g.lk = h.lk := by
  funext nm
  unfold Gr.lk
  rw [find_same hg hh hm nm]
def fragR (r : Rl) : Bool := r.sort == 2
def restR (r : Rl) : Bool := !fragR r && !tokR r
def sortedL (l : List Rl) : List Rl := l.filter fragR ++ l.filter tokR ++ l.filter restR
theorem sorted_mem (l : List Rl) (r : Rl) : r ∈ l ↔ r ∈ sortedL l := by
  unfold sortedL
  simp only [List.mem_append, List.mem_filter]
  constructor
  · intro h
    cases h1 : fragR r
    · cases h2 : tokR r
      · exact .inr ⟨h, by unfold restR; rw [h1, h2]; rfl⟩
      · exact .inl (.inr ⟨h, rfl⟩)
    · exact .inl (.inl ⟨h, rfl⟩)
  · rintro ((h | h) | h) <;> exact h.1
theorem frag_tok (r : Rl) (h : fragR r = true) : tokR r = false := by
  unfold fragR at h
  unfold tokR
  rw [beq_iff_eq] at h
  rw [h]
  rfl
theorem sorted_toks (l : List Rl) : (sortedL l).filter tokR = l.filter tokR := by
  unfold sortedL
  rw [List.filter_append, List.filter_append]
  have h1 : (l.filter fragR).filter tokR = [] := List.filter_eq_nil_iff.2 fun r hr => by
    rw [frag_tok r (List.mem_filter.1 hr).2]
    simp
  have h2 : (l.filter tokR).filter tokR = l.filter tokR := List.filter_eq_self.2 fun r hr => (List.mem_filter.1 hr).2
  have h3 : (l.filter restR).filter tokR = [] := List.filter_eq_nil_iff.2 fun r hr => by
    have := (List.mem_filter.1 hr).2
    unfold restR at this
    rw [Bool.and_eq_true, Bool.not_eq_true', Bool.not_eq_true'] at this
    rw [this.2]
    simp
  rw [h1, h2, h3, List.nil_append, List.append_nil]
theorem made_same {g h : Gr} (hr : h.rules = sortedL g.rules) (hg : NamesB g.rules) (hh : NamesB h.rules) : g.made = h.made := by
  unfold Gr.made
  rw [lk_same hg hh (fun r => by rw [hr]; exact sorted_mem _ _), show h.toks = g.toks by unfold Gr.toks; rw [hr, sorted_toks]]
end Go.Proofs.YtkinlcichclnkaaDoor

/- How much a node is: it is gone through no deeper than 100, and no further than 9000. -/
namespace Go.Proofs.YtkinlcichclnkaaDoor
open Go.RowKit

mutual
def Nd.total : Nd → Nat
  | .mk _ nm tx set subs => 1 + tx.size + nm.size + set.length + Nd.totals subs
def Nd.totals : List Nd → Nat
  | [] => 0
  | n :: r => n.total + Nd.totals r
end

theorem Nd.totals_snoc (l : List Nd) (n : Nd) : Nd.totals (l ++ [n]) = Nd.totals l + n.total := by
  induction l with
  | nil => simp [Nd.totals]
  | cons x r ih => simp only [List.cons_append, Nd.totals, ih]; omega
theorem Nd.totals_take (l : List Nd) (k : Nat) (h : k < l.length) : Nd.totals (l.take (k + 1)) = Nd.totals (l.take k) + l[k].total := by
  rw [List.take_succ_eq_append_getElem h, Nd.totals_snoc]

/-- the sum that is kept in the loop -/
def WtAt (own : Nat) (l : List Nd) (i : Nat) (q : Int) : Prop := 0 ≤ q ∧ (q < 9000 → q = own + Nd.totals (l.take i))
def WtIs (n : Nd) (deep : Int) (e : Ending) : Prop := ∃ r : Int, e = .returned (.int .i64 r) ∧ 0 ≤ r ∧ r ≤ 422212465065985 + 9000 * (102 - deep) ∧ (r < 9000 → r = n.total)

theorem wtAt_next {own : Nat} {l : List Nd} {i : Nat} {q r : Int} (h : WtAt own l i q) (hi : i < l.length) (hq : q < 9000) (hr : 0 ≤ r) (hr' : r < 9000 → r = l[i].total) : WtAt own l (i + 1) (q + r) := by
  obtain ⟨h1, h2⟩ := h
  refine ⟨by omega, fun h3 => ?_⟩
  rw [Nd.totals_take l i hi, h2 hq]
  have := hr' (by omega)
  omega

set_option maxHeartbeats 1000000 in
theorem weight_ok (n : Nd) : ∀ (W : World) (v0 v1 v2 v3 v4 : Value) (deep : Int), 0 ≤ deep → deep ≤ 101 → NodeAt W W.heap.size (some v0) (some v1) (some v2) (some v3) (some v4) n →
    Calls Tryd.prog 42 #[.agg #[v0, v1, v2, v3, v4], .int .i64 deep] W fun e W' => WtIs n deep e ∧ Below W.heap.size W W' := by
  induction n using Nd.ind with
  | h k nm tx set subs ih =>
  intro W v0 v1 v2 v3 v4 deep hd0 hd1 hN
  rw [NodeAt] at hN
  obtain ⟨hk, h1, h2, h3, h4, h5, ⟨sa, sc, h6, h6', h7⟩, na, nc, h8, h8', h9⟩ := hN
  obtain rfl := Option.some.inj h3
  obtain rfl := Option.some.inj h4
  obtain rfl := Option.some.inj h5
  obtain rfl := Option.some.inj h6
  obtain rfl := Option.some.inj h8
  clear h3 h4 h5 h6 h8
  unfold reachN at h1 h2 h6' h8'
  by_cases hdeep : deep ≤ 100
  · go_enter Tryd.func42, Tryd.ntmps42
    go_wp2
    go_loopw [5, 6] (fun v i wr => ∃ (q : Int) (j : Nat), v = .int .i64 q ∧ i = .int .i64 j ∧ j ≤ subs.length ∧ WtAt (1 + tx.size + nm.size + set.length) subs j q ∧ q ≤ 422212465065985 + 9000 * (102 - deep) ∧ Below W.heap.size W wr ∧ W.heap.size < wr.heap.size ∧ wr.cell? ⟨W.heap.size, 4, none⟩ = some (.slice na subs.length nc)) (fun _ i _ => subs.length - (intOf i).toNat)
    case atStart =>
      refine ⟨_, 0, rfl, rfl, by omega, ⟨by omega, fun _ => by simp [Nd.totals]⟩, by omega, ?_, by simp, ?_⟩
      · exact (Below.refl _ _).alloc (Nat.le_refl _) _
      · simp [go_sem]
    case round =>
      obtain ⟨q, j, rfl, rfl, hj, hwt, hq1, hbw, hsz, hbox⟩ := hrel
      have hq0 := hwt.1
      by_cases hlt : j < subs.length
      · by_cases hlq : q < 9000
        · obtain ⟨b, off, rfl, hb, hnode⟩ := (h9.keep hbw).get hlt
          simp only [Nat.zero_add] at hnode
          obtain ⟨u0, u1, u2, u3, u4, e0, e1, e2, e3, e4, hnode⟩ := hnode.vals
          have hsub := ih j hlt wr u0 u1 u2 u3 u4 (deep + 1) (by omega) (by omega) (hnode.mono hbw.size)
          have HS := Lib.hid hsub
          have HW := Lib.hid hwt
          clear hsub hwt hnode ih h7 h9
          go_wp2_with (go_at_call 42; refine HS.out.mono ?_; rintro e w' ⟨⟨r, rfl, hr0, hr1, hr2⟩, hb2⟩)
          exact ⟨⟨q + r, j + 1, rfl, by go_num, by omega, wtAt_next HW.out hlt hlq hr0 hr2, by omega, hbw.trans (hb2.mono (by omega)), by have := hb2.size; omega, by rw [hb2.cell hsz]; exact hbox⟩, by simp [intOf]; omega⟩
        · have HW := Lib.hid hwt
          clear hwt ih h7 h9
          go_wp2_with fail
          go_ret
          exact ⟨⟨q, rfl, hq0, by omega, fun h => by omega⟩, hbw⟩
      · have HW := Lib.hid hwt
        clear hwt ih h7 h9
        go_wp2_with fail
        go_ret
        refine ⟨⟨q, rfl, hq0, by omega, fun h => ?_⟩, hbw⟩
        have := HW.out.2 h
        rw [List.take_of_length_le (by omega)] at this
        rw [this, Nd.total]
        omega
  · clear ih h7 h9
    go_enter Tryd.func42, Tryd.ntmps42
    go_wp2_with fail
    go_ret
    exact ⟨⟨9000, rfl, by omega, by omega, fun h => by omega⟩, (Below.refl _ _).alloc (Nat.le_refl _) _⟩
end Go.Proofs.YtkinlcichclnkaaDoor

/- Whether a grammar is more than is gone through: where it is not, its rules are few and its nodes small. -/
namespace Go.Proofs.YtkinlcichclnkaaDoor
open Go.RowKit

mutual
def Nd.cnt : Nd → Nat
  | .mk _ _ _ _ subs => 1 + Nd.cnts subs
def Nd.cnts : List Nd → Nat
  | [] => 0
  | n :: r => n.cnt + Nd.cnts r
end
theorem Nd.cnts_snoc (l : List Nd) (n : Nd) : Nd.cnts (l ++ [n]) = Nd.cnts l + n.cnt := by
  induction l with
  | nil => simp [Nd.cnts]
  | cons x r ih => simp only [List.cons_append, Nd.cnts, ih]; omega
theorem Nd.cnts_take (l : List Nd) (k : Nat) (h : k < l.length) : Nd.cnts (l.take (k + 1)) = Nd.cnts (l.take k) + l[k].cnt := by
  rw [List.take_succ_eq_append_getElem h, Nd.cnts_snoc]
theorem Nd.cnts_take_le (l : List Nd) (k : Nat) : Nd.cnts (l.take k) ≤ Nd.cnts l := by
  induction l generalizing k with
  | nil => simp [Nd.cnts]
  | cons x r ih =>
    cases k with
    | zero => simp [Nd.cnts]
    | succ k => have := ih k; simp only [List.take_succ_cons, Nd.cnts]; omega
mutual
theorem Nd.cnt_le_total : ∀ n : Nd, n.cnt ≤ n.total
  | .mk k nm tx set subs => by have := Nd.cnts_le_totals subs; rw [Nd.cnt, Nd.total]; omega
theorem Nd.cnts_le_totals : ∀ l : List Nd, Nd.cnts l ≤ Nd.totals l
  | [] => by simp [Nd.cnts]
  | n :: r => by have := Nd.cnt_le_total n; have := Nd.cnts_le_totals r; rw [Nd.cnts, Nd.totals]; omega
end

/-- a bool that, where it is false, tells p -/
def BoolTells (p : Prop) (e : Ending) : Prop := e = .returned (.bool true) ∨ (e = .returned (.bool false) ∧ p)
theorem boolTells_mk {p : Prop} (b : Bool) (h : b = false → p) : BoolTells p (.returned (.bool b)) := by
  cases b
  · exact .inr ⟨rfl, h rfl⟩
  · exact .inl rfl

theorem great3_ok (n : Nd) (W : World) (v0 v1 v2 v3 v4 : Value) (hN : NodeAt W W.heap.size (some v0) (some v1) (some v2) (some v3) (some v4) n) :
    Calls Tryd.prog 28 #[.agg #[v0, v1, v2, v3, v4]] W fun e W' => BoolTells (n.total ≤ 3000) e ∧ Below W.heap.size W W' := by
  have hb : Below W.heap.size W (W.alloc (.cells #[v0, v1, v2, v3, v4] 34)) := (Below.refl _ _).alloc (Nat.le_refl _) _
  have hw := Lib.hid (weight_ok n (W.alloc (.cells #[v0, v1, v2, v3, v4] 34)) v0 v1 v2 v3 v4 0 (by omega) (by omega) ((hN.keep hb).mono hb.size))
  have hB := Lib.hid hb
  clear hN hb
  go_enter Tryd.func28, Tryd.ntmps28
  go_wp2_with (go_at_call 42; refine hw.out.mono ?_; rintro e w' ⟨⟨r, rfl, hr0, hr1, hr2⟩, hb2⟩)
  go_ret
  refine ⟨boolTells_mk _ fun h => ?_, hB.out.trans (hb2.mono (by simp))⟩
  have : r ≤ 3000 := by simpa using h
  have := hr2 (by omega)
  omega

set_option maxHeartbeats 1000000 in
theorem many_ok (n : Nd) : ∀ (W : World) (v0 v1 v2 v3 v4 : Value), n.cnt ≤ 9000 → NodeAt W W.heap.size (some v0) (some v1) (some v2) (some v3) (some v4) n →
    Calls Tryd.prog 14 #[.agg #[v0, v1, v2, v3, v4]] W fun e W' => e = .returned (.int .i64 n.cnt) ∧ Below W.heap.size W W' := by
  induction n using Nd.ind with
  | h k nm tx set subs ih =>
  intro W v0 v1 v2 v3 v4 hC hN
  rw [NodeAt] at hN
  obtain ⟨hk, h1, h2, h3, h4, h5, ⟨sa, sc, h6, h6', h7⟩, na, nc, h8, h8', h9⟩ := hN
  obtain rfl := Option.some.inj h3
  obtain rfl := Option.some.inj h4
  obtain rfl := Option.some.inj h5
  obtain rfl := Option.some.inj h6
  obtain rfl := Option.some.inj h8
  clear h3 h4 h5 h6 h8
  unfold reachN at h1 h2 h6' h8'
  rw [Nd.cnt] at hC ⊢
  have hcl := Nd.cnts_take_le subs
  have HC := Lib.hid hC
  have HL := Lib.hid hcl
  clear hcl hC
  go_enter Tryd.func14, Tryd.ntmps14
  go_wp2
  go_loopw [3, 4] (fun v i wr => ∃ (q : Int) (j : Nat), v = .int .i64 q ∧ i = .int .i64 j ∧ j ≤ subs.length ∧ Hid (q = 1 + Nd.cnts (subs.take j)) ∧ 0 ≤ q ∧ q ≤ 9000 ∧ Below W.heap.size W wr ∧ W.heap.size < wr.heap.size ∧ wr.cell? ⟨W.heap.size, 4, none⟩ = some (.slice na subs.length nc)) (fun _ i _ => subs.length - (intOf i).toNat)
  case atStart =>
    refine ⟨_, 0, rfl, rfl, by omega, by simp [Hid, Nd.cnts], by omega, by omega, ?_, by simp, ?_⟩
    · exact (Below.refl _ _).alloc (Nat.le_refl _) _
    · simp [go_sem]
  case round =>
    obtain ⟨q, j, rfl, rfl, hj, hq, hq0, hq1, hbw, hsz, hbox⟩ := hrel
    by_cases hlt : j < subs.length
    · obtain ⟨b, off, rfl, hb, hnode⟩ := (h9.keep hbw).get hlt
      simp only [Nat.zero_add] at hnode
      obtain ⟨u0, u1, u2, u3, u4, e0, e1, e2, e3, e4, hnode⟩ := hnode.vals
      have hle : q + subs[j].cnt ≤ 9000 := by
        have a1 := HL.out (j + 1)
        have a2 := Nd.cnts_take subs j hlt
        have a3 := HC.out
        have a4 := hq.out
        omega
      have hsub := ih j hlt wr u0 u1 u2 u3 u4 (by omega) (hnode.mono hbw.size)
      have HS := Lib.hid hsub
      clear hsub hnode ih h7 h9
      go_wp2_with (go_at_call 14; refine HS.out.mono ?_; rintro e w' ⟨rfl, hb2⟩)
      exact ⟨⟨q + subs[j].cnt, j + 1, rfl, by go_num, by omega, by have := hq.out; have := Nd.cnts_take subs j hlt; unfold Hid; omega, by omega, by omega, hbw.trans (hb2.mono (by omega)), by have := hb2.size; omega, by rw [hb2.cell hsz]; exact hbox⟩, by simp [intOf]; omega⟩
    · clear ih h7 h9
      go_wp2_with fail
      go_ret
      refine ⟨?_, hbw⟩
      have := hq.out
      rw [List.take_of_length_le (by omega)] at this
      rw [this]
      rfl
end Go.Proofs.YtkinlcichclnkaaDoor

/- Whether a grammar is more than is gone through: the further functions. -/
namespace Go.Proofs.YtkinlcichclnkaaDoor
open Go.RowKit

/-- what is known of a grammar that is not too great -/
structure Gr.Fair4 (g : Gr) : Prop where
  len : g.rules.length ≤ 80
  name : g.name.size ≤ 200
  rule : ∀ i (h : i < g.rules.length), g.rules[i].body.total ≤ 3000 ∧ g.rules[i].name.size ≤ 200

def Fair4To (g : Gr) (j : Nat) : Prop := ∀ i (h : i < g.rules.length), i < j → g.rules[i].body.total ≤ 3000 ∧ g.rules[i].name.size ≤ 200

theorem fair4_next {g : Gr} {j : Nat} (h : Fair4To g j) (hj : j < g.rules.length) (h1 : g.rules[j].body.total ≤ 3000) (h2 : g.rules[j].name.size ≤ 200) : Fair4To g (j + 1) := by
  intro i hi hlt
  by_cases e : i = j
  · subst e; exact ⟨h1, h2⟩
  · exact h i hi (by omega)

set_option maxHeartbeats 1000000 in
theorem great4_ok (g : Gr) (W : World) (v0 v1 v2 v3 : Value) (hG : GrAt W W.heap.size (some v0) (some v1) (some v2) (some v3) g) :
    Calls Tryd.prog 13 #[.agg #[v0, v1, v2, v3]] W fun e W' => BoolTells g.Fair4 e ∧ Below W.heap.size W W' := by
  obtain ⟨h1, hs, h2, h3, h4, h5, ra, rc, h6, h7, h8⟩ := hG
  obtain rfl := Option.some.inj h1
  obtain rfl := Option.some.inj h2
  obtain rfl := Option.some.inj h3
  obtain rfl := Option.some.inj h6
  clear h1 h2 h3 h4 h5 h6
  unfold reachN at hs h7
  by_cases hlen : g.rules.length ≤ 80
  · go_enter Tryd.func13, Tryd.ntmps13
    go_wp2
    go_loopw [3] (fun i wr => ∃ (j : Nat), i = .int .i64 j ∧ j ≤ g.rules.length ∧ Hid (Fair4To g j) ∧ Below W.heap.size W wr ∧ W.heap.size < wr.heap.size ∧ wr.cell? ⟨W.heap.size, 0, none⟩ = some (.string g.name) ∧ wr.cell? ⟨W.heap.size, 3, none⟩ = some (.slice ra g.rules.length rc)) (fun i _ => g.rules.length - (intOf i).toNat)
    case atStart =>
      refine ⟨0, rfl, by omega, fun i hi h => absurd h (by omega), ?_, by simp, ?_, ?_⟩
      · exact (Below.refl _ _).alloc (Nat.le_refl _) _
      · simp [go_sem]
      · simp [go_sem]
    case round =>
      obtain ⟨j, rfl, hj, hf, hbw, hsz, hbox0, hbox⟩ := hrel
      by_cases hlt : j < g.rules.length
      · obtain ⟨b, off, rfl, hb, hrule⟩ := (h8.keep hbw).get hlt
        simp only [Nat.zero_add] at hrule
        obtain ⟨u2, u3, u4, u5, u6, e0, e1, e2, e3, e4, e5, e6, e7, e8, e9, hrule, hnode⟩ := hrule.vals
        have hrs := hrule.2.1
        unfold reachN at hrs
        have HS := Lib.hid (great3_ok _ wr _ _ _ _ _ (hnode.mono hbw.size))
        clear hrule hnode h8
        by_cases h200 : g.rules[j].name.size ≤ 200
        · go_wp2_with (go_at_call 28; refine HS.out.mono ?_; rintro e w' ⟨(rfl | ⟨rfl, ht⟩), hb2⟩ <;> (have ec : ∀ o, w'.cell? ⟨b, o, none⟩ = wr.cell? ⟨b, o, none⟩ := (fun o => hb2.cell (p := ⟨b, o, none⟩) (by show b < _; omega)); have eb : w'.cell? ⟨W.heap.size, 3, none⟩ = wr.cell? ⟨W.heap.size, 3, none⟩ := hb2.cell hsz))
          all_goals first
            | (go_ret; exact ⟨.inl rfl, hbw.trans (hb2.mono (by omega))⟩)
            | exact ⟨⟨j + 1, by go_num, by omega, fair4_next hf hlt ht h200, hbw.trans (hb2.mono (by omega)), by have := hb2.size; omega, by rw [hb2.cell hsz]; exact hbox0, by rw [hb2.cell hsz]; exact hbox⟩, by simp [intOf]; omega⟩
        · go_wp2_with (go_at_call 28; refine HS.out.mono ?_; rintro e w' ⟨(rfl | ⟨rfl, ht⟩), hb2⟩ <;> (have ec : ∀ o, w'.cell? ⟨b, o, none⟩ = wr.cell? ⟨b, o, none⟩ := (fun o => hb2.cell (p := ⟨b, o, none⟩) (by show b < _; omega)); have eb : w'.cell? ⟨W.heap.size, 3, none⟩ = wr.cell? ⟨W.heap.size, 3, none⟩ := hb2.cell hsz))
          all_goals (go_ret; exact ⟨.inl rfl, hbw.trans (hb2.mono (by omega))⟩)
      · clear h8
        go_wp2_with fail
        go_ret
        refine ⟨boolTells_mk _ fun h => ⟨hlen, by simp at h; omega, fun i hi => hf.out i hi (by omega)⟩, hbw⟩
  · go_enter Tryd.func13, Tryd.ntmps13
    go_wp2
    go_ret
    exact ⟨.inl rfl, (Below.refl _ _).alloc (Nat.le_refl _) _⟩

def Gr.cnts (g : Gr) (j : Nat) : Nat := Nd.cnts ((g.rules.take j).map (·.body))
theorem Gr.cnts_next (g : Gr) (j : Nat) (h : j < g.rules.length) : g.cnts (j + 1) = g.cnts j + g.rules[j].body.cnt := by
  unfold Gr.cnts
  rw [List.take_succ_eq_append_getElem h, List.map_append, List.map_cons, List.map_nil, Nd.cnts_snoc]
/-- what is known of a grammar that is gone through -/
structure Gr.Fair (g : Gr) : Prop where
  len : g.rules.length ≤ 20
  name : g.name.size ≤ 200
  rule : ∀ i (h : i < g.rules.length), g.rules[i].body.total ≤ 3000 ∧ g.rules[i].name.size ≤ 200
  cnt : g.cnts g.rules.length ≤ 500

set_option maxHeartbeats 1000000 in
theorem great5_ok (g : Gr) (W : World) (v0 v1 v2 v3 : Value) (hG : GrAt W W.heap.size (some v0) (some v1) (some v2) (some v3) g) :
    Calls Tryd.prog 5 #[.agg #[v0, v1, v2, v3]] W fun e W' => BoolTells g.Fair e ∧ Below W.heap.size W W' := by
  have hB : Below W.heap.size W (W.alloc (.cells #[v0, v1, v2, v3] 26)) := (Below.refl _ _).alloc (Nat.le_refl _) _
  have hS := Lib.hid (great4_ok g (W.alloc (.cells #[v0, v1, v2, v3] 26)) v0 v1 v2 v3 ((hG.keep hB).mono hB.size))
  have HB := Lib.hid hB
  clear hB
  obtain ⟨h1, hs, h2, h3, h4, h5, ra, rc, h6, h7, h8⟩ := hG
  obtain rfl := Option.some.inj h1
  obtain rfl := Option.some.inj h2
  obtain rfl := Option.some.inj h3
  obtain rfl := Option.some.inj h6
  clear h1 h2 h3 h4 h5 h6
  unfold reachN at hs h7
  by_cases hlen : g.rules.length ≤ 20
  · go_enter Tryd.func5, Tryd.ntmps5
    go_wp2_with (go_at_call 13; refine hS.out.mono ?_; rintro e w' ⟨(rfl | ⟨rfl, ht⟩), hb2⟩ <;> (have eb : ∀ o, w'.cell? ⟨W.heap.size, o, none⟩ = (W.alloc (.cells #[.string g.name, .int .i64 g.bound, .int .i64 g.states, .slice ra g.rules.length rc] 26)).cell? ⟨W.heap.size, o, none⟩ := (fun o => hb2.cell (p := ⟨W.heap.size, o, none⟩) (by show W.heap.size < _; simp)); have HB2 := Lib.hid hb2; clear hb2))
    · go_ret
      exact ⟨.inl rfl, HB.out.trans (HB2.out.mono (by simp))⟩
    · have hf := Lib.hid ht
      have hbw : Below W.heap.size W w' := HB.out.trans (HB2.out.mono (by simp))
      have hsz : W.heap.size < w'.heap.size := by have := HB2.out.size; simp at this; omega
      go_loopw [3, 4] (fun v i wr => ∃ (q j : Nat), v = .int .i64 q ∧ i = .int .i64 j ∧ j ≤ g.rules.length ∧ Hid (q = g.cnts j) ∧ q ≤ j * 3000 ∧ Below W.heap.size W wr ∧ W.heap.size < wr.heap.size ∧ wr.cell? ⟨W.heap.size, 3, none⟩ = some (.slice ra g.rules.length rc)) (fun _ i _ => g.rules.length - (intOf i).toNat)
      case atStart =>
        refine ⟨0, 0, rfl, rfl, by omega, rfl, by omega, hbw, hsz, ?_⟩
        rw [eb]
        simp [go_sem]
      case round =>
        clear eb
        obtain ⟨q, j, rfl, rfl, hj, hq, hq1, hbw2, hsz2, hbox⟩ := hrel
        by_cases hlt : j < g.rules.length
        · obtain ⟨b, off, rfl, hb, hrule⟩ := (h8.keep hbw2).get hlt
          simp only [Nat.zero_add] at hrule
          obtain ⟨u2, u3, u4, u5, u6, e0, e1, e2, e3, e4, e5, e6, e7, e8, e9, hrule, hnode⟩ := hrule.vals
          have hc : g.rules[j].body.cnt ≤ 3000 := Nat.le_trans (Nd.cnt_le_total _) (hf.out.rule j hlt).1
          have HS := Lib.hid (many_ok _ wr _ _ _ _ _ (by omega) (hnode.mono hbw2.size))
          clear hrule hnode h8
          go_wp2_with (go_at_call 14; refine HS.out.mono ?_; rintro e w2 ⟨rfl, hb2⟩)
          exact ⟨⟨q + g.rules[j].body.cnt, j + 1, by go_num, by go_num, by omega, by have := hq.out; unfold Hid; rw [g.cnts_next j hlt, this], by omega, hbw2.trans (hb2.mono (by omega)), by have := hb2.size; omega, by rw [hb2.cell hsz2]; exact hbox⟩, by simp [intOf]; omega⟩
        · clear h8
          go_wp2_with fail
          go_ret
          refine ⟨boolTells_mk _ fun h => ?_, hbw2⟩
          have e1 := hq.out
          have e2 : j = g.rules.length := by omega
          simp at h
          exact ⟨hlen, hf.out.name, hf.out.rule, by rw [← e2, ← e1]; omega⟩
  · go_enter Tryd.func5, Tryd.ntmps5
    go_wp2_with (go_at_call 13; refine hS.out.mono ?_; rintro e w' ⟨(rfl | ⟨rfl, ht⟩), hb2⟩ <;> (have eb : ∀ o, w'.cell? ⟨W.heap.size, o, none⟩ = (W.alloc (.cells #[.string g.name, .int .i64 g.bound, .int .i64 g.states, .slice ra g.rules.length rc] 26)).cell? ⟨W.heap.size, o, none⟩ := (fun o => hb2.cell (p := ⟨W.heap.size, o, none⟩) (by show W.heap.size < _; simp)); have HB2 := Lib.hid hb2; clear hb2))
    all_goals (go_ret; exact ⟨.inl rfl, HB.out.trans (HB2.out.mono (by simp))⟩)
end Go.Proofs.YtkinlcichclnkaaDoor

/- Plain law: who goes on to whom, of rules that are no parser's, as it is marked node by node. -/
namespace Go.Proofs.YtkinlcichclnkaaDoor

/-- is a rule marked for this node? -/
def Gr.rdHit (g : Gr) (r : Rl) (n : Nd) : Bool := n.isName && (!r.parser && (decide (0 ≤ g.find n.name) && !(g.sortAt (g.find n.name) == 0)))
def Gr.rdMark (g : Gr) (r : Rl) (l : List Bool) (n : Nd) : List Bool := if g.rdHit r n then l.set (g.find n.name).toNat true else l
def Gr.rdMarks (g : Gr) (r : Rl) (ns : List Nd) : List Bool := ns.foldl (g.rdMark r) (List.replicate g.rules.length false)
theorem rdMarks_snoc (g : Gr) (r : Rl) (ns : List Nd) (n : Nd) : g.rdMarks r (ns ++ [n]) = g.rdMark r (g.rdMarks r ns) n := by
  unfold Gr.rdMarks
  rw [List.foldl_append]
  rfl
theorem rdMark_length (g : Gr) (r : Rl) (l : List Bool) (n : Nd) : (g.rdMark r l n).length = l.length := by
  unfold Gr.rdMark
  split <;> simp
theorem rdMarks_length (g : Gr) (r : Rl) (ns : List Nd) : (g.rdMarks r ns).length = g.rules.length := by
  unfold Gr.rdMarks
  have : ∀ (ns : List Nd) (l : List Bool), (ns.foldl (g.rdMark r) l).length = l.length := by
    intro ns
    induction ns with
    | nil => intro l; rfl
    | cons n ns ih => intro l; rw [List.foldl_cons, ih, rdMark_length]
  rw [this]
  simp
theorem rdMarks_iff (g : Gr) (r : Rl) (k : Nat) (hk : k < g.rules.length) : ∀ (ns : List Nd) (l : List Bool), l.length = g.rules.length →
    ((ns.foldl (g.rdMark r) l).getD k false = true ↔ l.getD k false = true ∨ ∃ m ∈ ns, g.rdHit r m = true ∧ g.find m.name = (k : Int)) := by
  intro ns
  induction ns with
  | nil => intro l _; simp
  | cons n ns ih =>
    intro l hl
    rw [List.foldl_cons, ih _ (by rw [rdMark_length, hl])]
    have h1 : (g.rdMark r l n).getD k false = true ↔ l.getD k false = true ∨ (g.rdHit r n = true ∧ g.find n.name = (k : Int)) := by
      unfold Gr.rdMark
      split
      · next hh =>
        rw [getD_set]
        have hpos : 0 ≤ g.find n.name := by
          unfold Gr.rdHit at hh
          simp only [Bool.and_eq_true, decide_eq_true_eq] at hh
          exact hh.2.2.1
        split
        · next he =>
          refine ⟨fun _ => .inr ⟨hh, by omega⟩, fun _ => rfl⟩
        · next he =>
          refine ⟨.inl, fun h => h.elim id fun h => absurd ⟨by omega, by omega⟩ he⟩
      · next hh => exact ⟨.inl, fun h => h.elim id fun h => absurd h.1 hh⟩
    rw [h1]
    constructor
    · rintro ((h | h) | ⟨m, hm, h⟩)
      · exact .inl h
      · exact .inr ⟨n, List.mem_cons_self .., h⟩
      · exact .inr ⟨m, List.mem_cons_of_mem _ hm, h⟩
    · rintro (h | ⟨m, hm, h⟩)
      · exact .inl (.inl h)
      · rcases List.mem_cons.1 hm with rfl | hm
        · exact .inl (.inr h)
        · exact .inr ⟨m, hm, h⟩

def Gr.rdM (g : Gr) : List (List Bool) := g.rules.map fun r => g.rdMarks r r.body.all
theorem rdM_square (g : Gr) : Square g.rules.length g.rdM := by
  refine ⟨by simp [Gr.rdM], fun i h => ?_⟩
  simp only [Gr.rdM, List.getElem_map]
  exact rdMarks_length ..
theorem rdM_at (g : Gr) (i k : Nat) (hi : i < g.rules.length) : at2 g.rdM i k = (g.rdMarks g.rules[i] g.rules[i].body.all).getD k false := by
  unfold at2 Gr.rdM
  rw [List.getD_eq_getElem?_getD (l := List.map _ _), List.getElem?_map, List.getElem?_eq_getElem hi]
  rfl
theorem rdM_iff (g : Gr) (i k : Nat) : at2 g.rdM i k = true ↔ g.rd0 i k := by
  constructor
  · intro h
    obtain ⟨hi, hk⟩ := at2_lt (rdM_square g) h
    rw [rdM_at g i k hi] at h
    unfold Gr.rdMarks at h
    rw [rdMarks_iff g _ k hk _ _ (by simp)] at h
    rcases h with h | ⟨m, hm, h1, h2⟩
    · rw [List.getD_eq_getElem?_getD, List.getElem?_replicate] at h
      split at h <;> simp at h
    · unfold Gr.rdHit at h1
      rw [h2, sortAt_nat g k hk] at h1
      simp only [Bool.and_eq_true, Bool.not_eq_true'] at h1
      exact ⟨hi, hk, h1.2.1, h1.2.2.2, m, hm, h1.1, h2⟩
  · rintro ⟨hi, hk, h1, h2, m, hm, h3, h4⟩
    rw [rdM_at g i k hi]
    unfold Gr.rdMarks
    rw [rdMarks_iff g _ k hk _ _ (by simp)]
    refine .inr ⟨m, hm, ?_, h4⟩
    unfold Gr.rdHit
    rw [h3, h1, h4, sortAt_nat g k hk]
    have : (g.rules[k].sort == 0) = false := h2
    rw [this]
    simp
end Go.Proofs.YtkinlcichclnkaaDoor
