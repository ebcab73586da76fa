/- The book of a grammar, plain. -/
import Derived.Test.YtoflfkffldpglaaGreatDoorQM15
import Derived.Test.YtoflfkffldpglaaGreatDoorQM28
import Derived.Test.YtoflfkffldpglaaGreatDoorQM13
namespace Go.Proofs.YtoflfkffldpglaaGreatDoor
open Go.RowKit
def Gr.rAt (g : Gr) (x : Int) : Rl := (g.rules[x.toNat]?).getD ⟨⟨#[]⟩, 0, .mk 0 ⟨#[]⟩ ⟨#[]⟩ [] [], 0, 0, 0⟩
theorem Gr.rAt_nat (g : Gr) {k : Nat} (hk : k < g.rules.length) : g.rAt (k : Int) = g.rules[k] := by
  unfold Gr.rAt
  rw [Int.toNat_natCast, List.getElem?_eq_getElem hk]
  rfl
def nmsTo (g : Gr) (T : List Int) : Nat → List (ByteArray × Nat)
  | 0 => []
  | j + 1 => nmsTo g T j ++ [((g.rAt (T.getD j 0)).name, j)]
def kindsTo (g : Gr) (T : List Int) : Nat → List Int
  | 0 => []
  | j + 1 => if (g.rAt (T.getD j 0)).sort = 1 then kindsTo g T j ++ [(j : Int)] else kindsTo g T j
def bodsTo (g : Gr) (P : List Int) : Nat → List Nd
  | 0 => []
  | j + 1 => bodsTo g P j ++ [(g.rAt (P.getD j 0)).body]
theorem kindsTo_len (g : Gr) (T : List Int) : ∀ j, (kindsTo g T j).length ≤ j
  | 0 => Nat.le_refl _
  | j + 1 => by
    have := kindsTo_len g T j
    rw [kindsTo]
    split
    · rw [List.length_append, List.length_singleton]; omega
    · omega
theorem bodsTo_len (g : Gr) (P : List Int) : ∀ j, (bodsTo g P j).length = j
  | 0 => rfl
  | j + 1 => by rw [bodsTo, List.length_append, bodsTo_len g P j, List.length_singleton]
theorem nmsTo_mem {g : Gr} {T : List Int} : ∀ {j : Nat} {x : ByteArray × Nat}, x ∈ nmsTo g T j → x.2 < j ∧ x.1 = (g.rAt (T.getD x.2 0)).name
  | 0, x, h => by simp [nmsTo] at h
  | j + 1, x, h => by
    rw [nmsTo] at h
    rcases List.mem_append.1 h with h | h
    · have := nmsTo_mem h
      exact ⟨by omega, this.2⟩
    · rw [List.mem_singleton.1 h]
      exact ⟨by simp, rfl⟩
theorem bodsTo_at {g : Gr} {P : List Int} : ∀ {j k : Nat}, k < j → (bodsTo g P j)[k]? = some (g.rAt (P.getD k 0)).body
  | 0, k, h => absurd h (by omega)
  | j + 1, k, h => by
    rw [bodsTo]
    by_cases e : k < j
    · rw [List.getElem?_append_left (by rw [bodsTo_len]; exact e)]
      exact bodsTo_at e
    · have : k = j := by omega
      subst this
      rw [List.getElem?_append_right (by rw [bodsTo_len]; exact Nat.le_refl _), bodsTo_len, Nat.sub_self]
      rfl
theorem ba_eqS {a b : ByteArray} (h : (a == b) = true) : a = b := by
  cases a; cases b
  have h2 : ByteArray.beq _ _ = true := h
  unfold ByteArray.beq at h2
  simp at h2
  rw [h2]
theorem lookS_mem : ∀ {l : List (ByteArray × Nat)} {nm : ByteArray} {k : Nat}, lookS l nm = some k → ∃ x ∈ l, x.1 = nm ∧ x.2 = k
  | [], nm, k, h => by cases h
  | x :: r, nm, k, h => by
    rw [lookS] at h
    split at h
    · rename_i hc
      exact ⟨x, by simp, (ba_eqS hc).symm, Option.some.inj h⟩
    · obtain ⟨y, hy, h2⟩ := lookS_mem h
      exact ⟨y, List.mem_cons_of_mem _ hy, h2⟩
theorem lookS_none : ∀ {l : List (ByteArray × Nat)} {nm : ByteArray}, (∀ x ∈ l, x.1 ≠ nm) → lookS l nm = none
  | [], _, _ => rfl
  | x :: r, nm, h => by
    rw [lookS, if_neg (fun e => h x (by simp) (ba_eqS e).symm)]
    exact lookS_none fun y hy => h y (List.mem_cons_of_mem _ hy)
theorem ofTo_rise (g : Gr) (S : List Int) : ∀ j, (∀ x ∈ g.ofTo S j, x < (j : Int)) ∧ (g.ofTo S j).Pairwise (· < ·)
  | 0 => ⟨by simp [Gr.ofTo], by simp [Gr.ofTo]⟩
  | j + 1 => by
    obtain ⟨h1, h2⟩ := ofTo_rise g S j
    rw [Gr.ofTo]
    split
    · refine ⟨fun x hx => ?_, ?_⟩
      · rcases List.mem_append.1 hx with hx | hx
        · have := h1 x hx; omega
        · rw [List.mem_singleton.1 hx]; omega
      · rw [List.pairwise_append]
        exact ⟨h2, by simp, fun a ha b hb => by rw [List.mem_singleton.1 hb]; exact h1 a ha⟩
    · exact ⟨fun x hx => by have := h1 x hx; omega, h2⟩
theorem of_rise (g : Gr) (S : List Int) {a b : Nat} (hab : a < b) {x y : Int} (hx : (g.of S)[a]? = some x) (hy : (g.of S)[b]? = some y) : x < y := by
  obtain ⟨ha, rfl⟩ := List.getElem?_eq_some_iff.1 hx
  obtain ⟨hb, rfl⟩ := List.getElem?_eq_some_iff.1 hy
  exact (List.pairwise_iff_getElem.1 (ofTo_rise g S g.rules.length).2) a b ha hb hab
theorem of_get {g : Gr} {S : List Int} {j : Nat} {x : Int} (h : (g.of S)[j]? = some x) : ∃ k, ∃ hk : k < g.rules.length, x = (k : Int) ∧ (S.any fun y => g.rules[k].sort == y) = true := by
  obtain ⟨i, hi, -, h1, h2⟩ := Gr.ofTo_mem g S g.rules.length x (List.mem_of_getElem? h)
  exact ⟨i, hi, h1, h2⟩
def Gr.Names (g : Gr) : Prop := ∀ i j (hi : i < g.rules.length) (hj : j < g.rules.length), g.rules[i].name = g.rules[j].name → i = j
theorem nms_new {g : Gr} (hn : g.Names) {S : List Int} {j k : Nat} (hj : (g.of S)[j]? = some (k : Int)) (hk : k < g.rules.length) : lookS (nmsTo g (g.of S) j) g.rules[k].name = none := by
  refine lookS_none fun x hx e => ?_
  obtain ⟨h1, h2⟩ := nmsTo_mem hx
  have hjl := (List.getElem?_eq_some_iff.1 hj).1
  have h3 : (g.of S)[x.2]? = some ((g.of S)[x.2]'(by omega)) := List.getElem?_eq_getElem _
  have h4 := of_rise g S h1 h3 hj
  obtain ⟨m, hm, hme, -⟩ := of_get h3
  rw [hme] at h4 h3
  rw [List.getD_eq_getElem?_getD, h3, Option.getD_some, Gr.rAt_nat g hm] at h2
  have := hn m k hm hk (h2.symm.trans e)
  omega
def Gr.Fine (g : Gr) : Prop := ∃ es M N, g.IsEmpty es ∧ IsReach (g.Once es) g.rules.length M ∧ IsReach g.rd0 g.rules.length N ∧ g.told es (at2 M) (at2 N) = []
theorem told_quiet {g : Gr} {es : List Bool} {rch rnd : Nat → Nat → Bool} (h : g.told es rch rnd = []) : (∀ i (h : i < g.rules.length), Quiet g es rch rnd i g.rules[i]) ∧ 0 ≤ g.start := by
  unfold Gr.told at h
  rw [List.append_eq_nil_iff] at h
  refine ⟨fun i hi => ?_, ?_⟩
  · have := rulesTold_at g.rules 0 h.1 i hi
    rw [Nat.zero_add] at this
    exact quiet_of this
  · rcases Int.lt_or_le g.start 0 with h1 | h1
    · rw [if_pos h1] at h
      cases h.2
    · exact h1
theorem Gr.Fine.names {g : Gr} (h : g.Fine) : g.Names := by
  obtain ⟨es, M, N, -, -, -, ht⟩ := h
  intro i j hi hj e
  have h1 := fine_find hi ((told_quiet ht).1 i hi)
  have h2 := fine_find hj ((told_quiet ht).1 j hj)
  rw [e, h2] at h1
  omega
theorem Gr.Fine.start {g : Gr} (h : g.Fine) : 0 < (g.of [0]).length := by
  obtain ⟨es, M, N, -, -, -, ht⟩ := h
  have h0 := (told_quiet ht).2
  unfold Gr.start at h0
  rcases ixOf_cases g.rules (fun r => r.parser) with ⟨h1, -⟩ | ⟨j, hj, h1, h2, -⟩
  · omega
  · have hmem : ∀ m, j < m → m ≤ g.rules.length → (j : Int) ∈ g.ofTo [0] m := by
      intro m
      induction m with
      | zero => intro h; omega
      | succ m ih =>
        intro hm hl
        rw [Gr.ofTo]
        by_cases e : j = m
        · subst e
          rw [if_pos (by rw [Gr.isAt_get hj]; unfold Rl.parser at h2; simp only [List.any_cons, List.any_nil, Bool.or_false]; exact h2)]
          simp
        · have := ih (by omega) (by omega)
          split
          · exact List.mem_append_left _ this
          · exact this
    exact List.length_pos_of_mem (hmem g.rules.length hj (Nat.le_refl _))
/-! ### the book -/
def book0 (g : Gr) (T P : List Int) : Bk := ⟨nmsTo g P P.length, nmsTo g T T.length, kindsTo g T T.length, bodsTo g P P.length, List.replicate P.length ⟨-1, []⟩⟩
def Bk.step (B : Bk) : Bk := { B with firsts := B.bodies.map fun n => B.firstN n }
def Bk.iter (B : Bk) : Nat → Bk
  | 0 => B
  | k + 1 => (B.iter k).step
theorem Bk.iter_rest (B : Bk) : ∀ k, (B.iter k).rules = B.rules ∧ (B.iter k).tokens = B.tokens ∧ (B.iter k).kinds = B.kinds ∧ (B.iter k).bodies = B.bodies
  | 0 => ⟨rfl, rfl, rfl, rfl⟩
  | k + 1 => B.iter_rest k
theorem Bk.iter_len (B : Bk) (h : B.firsts.length = B.bodies.length) : ∀ k, (B.iter k).firsts.length = B.bodies.length
  | 0 => h
  | k + 1 => by
    show ((B.iter k).bodies.map _).length = _
    rw [List.length_map, (B.iter_rest k).2.2.2]
theorem Bk.iter_ok (B : Bk) (h : ∀ f ∈ B.firsts, f.Ok) : ∀ k, ∀ f ∈ (B.iter k).firsts, f.Ok
  | 0 => h
  | k + 1 => fun f hf => by
    obtain ⟨n, -, rfl⟩ := List.mem_map.1 (show f ∈ (B.iter k).bodies.map fun n => (B.iter k).firstN n from hf)
    exact Bk.firstN_ok (B.iter_ok h k) n
def bookOf (g : Gr) : Bk := (book0 g (g.of [1, 3]) (g.of [0])).iter ((g.of [0]).length + 1)
theorem book0_ok (g : Gr) (T P : List Int) : ∀ f ∈ (book0 g T P).firsts, f.Ok := fun f hf => by
  rw [(List.mem_replicate.1 (show f ∈ List.replicate P.length ⟨-1, []⟩ from hf)).2]
  exact ok_none
theorem book0_rule (g : Gr) (T P : List Int) (hp : 0 < P.length) (k : Nat) (nm : ByteArray) : ((book0 g T P).iter k).rule nm < ((book0 g T P).iter k).firsts.length := by
  rw [Bk.iter_len _ (by show (List.replicate P.length _).length = (bodsTo g P P.length).length; rw [List.length_replicate, bodsTo_len])]
  show _ < (bodsTo g P P.length).length
  rw [bodsTo_len]
  unfold Bk.rule
  rw [((book0 g T P).iter_rest k).1]
  cases h : lookS (book0 g T P).rules nm with
  | none => exact hp
  | some q =>
    obtain ⟨x, hx, -, rfl⟩ := lookS_mem h
    exact (nmsTo_mem hx).1
/-! ### what loops has something to loop over -/
mutual
theorem lp_of_plain (token : Bool) : ∀ (n : Nd) (d : Int), (∀ p ∈ n.alld d, plainN token p.2 = true) → n.lp
  | .mk k nm tx set subs, d, h => by
    rw [Nd.alld] at h
    rw [Nd.lp]
    refine ⟨fun hk he => ?_, lpL_of_plain token subs _ fun p hp => h p (List.mem_cons_of_mem _ hp)⟩
    have h1 := h _ (List.mem_cons_self ..)
    unfold plainN plainX plainK at h1
    rw [Bool.and_eq_true] at h1
    have h2 := h1.2
    have hk' : (Nd.mk k nm tx set subs).kind = k := rfl
    have hs : (Nd.mk k nm tx set subs).subs = subs := rfl
    simp only [hk', hs] at h2
    rw [if_neg (by omega), if_neg (by omega), if_pos hk, he] at h2
    simp at h2
theorem lpL_of_plain (token : Bool) : ∀ (l : List Nd) (d : Int), (∀ p ∈ Nd.alldL d l, plainN token p.2 = true) → Nd.lpL l
  | [], _, _ => by rw [Nd.lpL]; trivial
  | n :: r, d, h => by
    rw [Nd.alldL] at h
    rw [Nd.lpL]
    exact ⟨lp_of_plain token n d fun p hp => h p (List.mem_append_left _ hp), lpL_of_plain token r d fun p hp => h p (List.mem_append_right _ hp)⟩
end
theorem sound_lp {g : Gr} (h : soundP g) {i : Nat} (hi : i < g.rules.length) : g.rules[i].body.lp := by
  obtain ⟨-, -, -, h4⟩ := h
  obtain ⟨-, -, h5⟩ := h4 i hi
  exact lp_of_plain _ _ 1 fun p hp => (h5.2 p hp).2
theorem bods_lp {g : Gr} (h : soundP g) : ∀ n ∈ bodsTo g (g.of [0]) (g.of [0]).length, n.lp := by
  intro n hn
  obtain ⟨k, hk⟩ := List.getElem?_of_mem hn
  have hkl := (List.getElem?_eq_some_iff.1 hk).1
  rw [bodsTo_len] at hkl
  rw [bodsTo_at hkl] at hk
  have h3 : (g.of [0])[k]? = some (g.of [0])[k] := List.getElem?_eq_getElem hkl
  obtain ⟨m, hm, hme, -⟩ := of_get h3
  rw [hme] at h3
  rw [List.getD_eq_getElem?_getD, h3, Option.getD_some, Gr.rAt_nat g hm] at hk
  rw [← Option.some.inj hk]
  exact sound_lp h hm
end Go.Proofs.YtoflfkffldpglaaGreatDoor

/- Nodes that lie in blocks of a set; rows of nodes of the call's own; Clone and Clip of rows of ranges and of nodes. -/
namespace Go.Proofs.YtoflfkffldpglaaGreatDoor
open Go.RowKit
theorem fmap_len {α β : Type} (f : α → List β) (k : Nat) (hk : ∀ x, (f x).length = k) : ∀ l : List α, (l.flatMap f).length = l.length * k
  | [] => by simp
  | x :: l => by rw [List.flatMap_cons, List.length_append, hk, fmap_len f k hk l, List.length_cons, Nat.succ_mul]; omega
theorem fmap_get {α β : Type} (f : α → List β) (k : Nat) (hk : ∀ x, (f x).length = k) : ∀ (l : List α) (i j : Nat), j < k → (l.flatMap f)[i * k + j]? = (l[i]?).bind fun x => (f x)[j]?
  | [], i, j, _ => by simp
  | x :: l, 0, j, hj => by
    rw [List.flatMap_cons, Nat.zero_mul, Nat.zero_add, List.getElem?_append_left (by rw [hk]; exact hj)]
    simp
  | x :: l, i + 1, j, hj => by
    rw [List.flatMap_cons, List.getElem?_append_right (by rw [hk, Nat.succ_mul]; omega), hk, show (i + 1) * k + j - k = i * k + j by rw [Nat.succ_mul]; omega, fmap_get f k hk l i j hj]
    simp
theorem fmap_cut {α β : Type} (f : α → List β) (k : Nat) (hk : ∀ x, (f x).length = k) (l : List α) {p : Nat} {u : β} (h : (l.flatMap f)[p]? = some u) : ∃ i j x, p = i * k + j ∧ j < k ∧ l[i]? = some x ∧ (f x)[j]? = some u := by
  have hlt := (List.getElem?_eq_some_iff.1 h).1
  rw [fmap_len f k hk] at hlt
  have hk0 : 0 < k := by
    rcases Nat.eq_zero_or_pos k with e | e
    · subst e; omega
    · exact e
  have e : p = p / k * k + p % k := by rw [Nat.mul_comm]; exact (Nat.div_add_mod p k).symm
  have hm := Nat.mod_lt p hk0
  rw [e, fmap_get f k hk l _ _ hm] at h
  cases hx : l[p / k]? with
  | none => rw [hx] at h; cases h
  | some x => rw [hx] at h; exact ⟨_, _, x, e, hm, hx, h⟩
theorem cell_block {W W' : World} {b o : Nat} (h : W'.heap[b]? = W.heap[b]?) : W'.cell? ⟨b, o, none⟩ = W.cell? ⟨b, o, none⟩ := by
  simp [World.cell?, h]
def RangesFp (W : World) (S : Nat → Prop) (a : Option Addr) (i : Nat) : List (Int × Int) → Prop
  | [] => True
  | x :: r => (∃ b off, a = some ⟨b, off, none⟩ ∧ S b ∧ W.cell? ⟨b, off + i * 2, none⟩ = some (.int .i32 x.1) ∧ W.cell? ⟨b, off + i * 2 + 1, none⟩ = some (.int .i32 x.2)) ∧ RangesFp W S a (i + 1) r
mutual
def NodeFp (W : World) (S : Nat → Prop) (c0 c1 c2 c3 c4 : Option Value) : Nd → Prop
  | .mk k nm tx set subs => (0 ≤ k ∧ k ≤ 255) ∧ nm.size ≤ reachN ∧ tx.size ≤ reachN ∧ c0 = some (.int .u8 k) ∧ c1 = some (.string nm) ∧ c2 = some (.string tx) ∧
      (∃ a cap, c3 = some (.slice a set.length cap) ∧ set.length ≤ reachN ∧ RangesFp W S a 0 set) ∧ (∃ a cap, c4 = some (.slice a subs.length cap) ∧ subs.length ≤ min reachN cap ∧ NodesFp W S a 0 subs)
def NodesFp (W : World) (S : Nat → Prop) (a : Option Addr) (i : Nat) : List Nd → Prop
  | [] => True
  | n :: r => (∃ b off, a = some ⟨b, off, none⟩ ∧ S b ∧ NodeFp W S (W.cell? ⟨b, off + i * 5, none⟩) (W.cell? ⟨b, off + i * 5 + 1, none⟩) (W.cell? ⟨b, off + i * 5 + 2, none⟩) (W.cell? ⟨b, off + i * 5 + 3, none⟩) (W.cell? ⟨b, off + i * 5 + 4, none⟩) n) ∧ NodesFp W S a (i + 1) r
end
theorem RangesFp.keep {W W' : World} {S T : Nat → Prop} (hb : ∀ b, S b → T b ∧ W'.heap[b]? = W.heap[b]?) {a : Option Addr} : ∀ {l : List (Int × Int)} {i : Nat}, RangesFp W S a i l → RangesFp W' T a i l
  | [], _, _ => trivial
  | x :: r, i, h => by
    obtain ⟨⟨b, off, h1, h2, h3, h4⟩, h5⟩ := h
    exact ⟨⟨b, off, h1, (hb b h2).1, by rw [cell_block (hb b h2).2]; exact h3, by rw [cell_block (hb b h2).2]; exact h4⟩, RangesFp.keep hb h5⟩
mutual
theorem NodeFp.keep {W W' : World} {S T : Nat → Prop} (hb : ∀ b, S b → T b ∧ W'.heap[b]? = W.heap[b]?) {c0 c1 c2 c3 c4 : Option Value} : ∀ {n : Nd}, NodeFp W S c0 c1 c2 c3 c4 n → NodeFp W' T c0 c1 c2 c3 c4 n
  | .mk k nm tx set subs, h => by
    rw [NodeFp] at h ⊢
    obtain ⟨hk, h1, h2, h3, h4, h5, ⟨a, cap, h6, h6', h7⟩, a', cap', h8, h8', h9⟩ := h
    exact ⟨hk, h1, h2, h3, h4, h5, ⟨a, cap, h6, h6', h7.keep hb⟩, a', cap', h8, h8', NodesFp.keep hb h9⟩
theorem NodesFp.keep {W W' : World} {S T : Nat → Prop} (hb : ∀ b, S b → T b ∧ W'.heap[b]? = W.heap[b]?) {a : Option Addr} : ∀ {l : List Nd} {i : Nat}, NodesFp W S a i l → NodesFp W' T a i l
  | [], _, _ => by rw [NodesFp]; trivial
  | n :: r, i, h => by
    rw [NodesFp] at h ⊢
    obtain ⟨⟨b, off, h1, h2, h3⟩, h5⟩ := h
    refine ⟨⟨b, off, h1, (hb b h2).1, ?_⟩, NodesFp.keep hb h5⟩
    have e : ∀ o, W'.cell? ⟨b, o, none⟩ = W.cell? ⟨b, o, none⟩ := fun o => cell_block (hb b h2).2
    rw [e, e, e, e, e]
    exact NodeFp.keep hb h3
end
theorem RangesFp.at {W : World} {S : Nat → Prop} {lim : Nat} (hb : ∀ b, S b → b < lim) {a : Option Addr} : ∀ {l : List (Int × Int)} {i : Nat}, RangesFp W S a i l → RangesAt W lim a i l
  | [], _, _ => trivial
  | x :: r, i, h => by
    obtain ⟨⟨b, off, h1, h2, h3, h4⟩, h5⟩ := h
    exact ⟨⟨b, off, h1, hb b h2, h3, h4⟩, RangesFp.at hb h5⟩
mutual
theorem NodeFp.at {W : World} {S : Nat → Prop} {lim : Nat} (hb : ∀ b, S b → b < lim) {c0 c1 c2 c3 c4 : Option Value} : ∀ {n : Nd}, NodeFp W S c0 c1 c2 c3 c4 n → NodeAt W lim c0 c1 c2 c3 c4 n
  | .mk k nm tx set subs, h => by
    rw [NodeFp] at h
    rw [NodeAt]
    obtain ⟨hk, h1, h2, h3, h4, h5, ⟨a, cap, h6, h6', h7⟩, a', cap', h8, h8', h9⟩ := h
    exact ⟨hk, h1, h2, h3, h4, h5, ⟨a, cap, h6, h6', h7.at hb⟩, a', cap', h8, h8', NodesFp.at hb h9⟩
theorem NodesFp.at {W : World} {S : Nat → Prop} {lim : Nat} (hb : ∀ b, S b → b < lim) {a : Option Addr} : ∀ {l : List Nd} {i : Nat}, NodesFp W S a i l → NodesAt W lim a i l
  | [], _, _ => by rw [NodesAt]; trivial
  | n :: r, i, h => by
    rw [NodesFp] at h
    rw [NodesAt]
    obtain ⟨⟨b, off, h1, h2, h3⟩, h5⟩ := h
    exact ⟨⟨b, off, h1, hb b h2, NodeFp.at hb h3⟩, NodesFp.at hb h5⟩
end
theorem NodeFp.forms {W : World} {S : Nat → Prop} {v0 v1 v2 v3 v4 : Value} {n : Nd} (h : NodeFp W S (some v0) (some v1) (some v2) (some v3) (some v4) n) :
    ∃ k nm tx sa sl sc na nl nc, v0 = .int .u8 k ∧ v1 = .string nm ∧ v2 = .string tx ∧ v3 = .slice sa sl sc ∧ v4 = .slice na nl nc := by
  cases n with
  | mk k nm tx set subs =>
    rw [NodeFp] at h
    obtain ⟨hk, h1, h2, h3, h4, h5, ⟨a, cap, h6, h6', h7⟩, a', cap', h8, h8', h9⟩ := h
    exact ⟨k, nm, tx, a, _, cap, a', _, cap', Option.some.inj h3, Option.some.inj h4, Option.some.inj h5, Option.some.inj h6, Option.some.inj h8⟩
/-! ### rows of ranges -/
def rgF (x : Int × Int) : List Value := [.int .i32 x.1, .int .i32 x.2]
def rgVs (l : List (Int × Int)) : List Value := l.flatMap rgF
theorem rgF_len (x : Int × Int) : (rgF x).length = 2 := rfl
theorem rgVs_len (l : List (Int × Int)) : (rgVs l).length = l.length * 2 := fmap_len _ _ rgF_len l
theorem rgVs_one (l : List (Int × Int)) : ∀ u ∈ rgVs l, u.oneCell' = true := by
  intro u hu
  obtain ⟨e, _, he⟩ := List.mem_flatMap.1 hu
  simp only [rgF, List.mem_cons, List.not_mem_nil, or_false] at he
  rcases he with rfl | rfl <;> rfl
theorem RangesAt.getS {W : World} {lim : Nat} {a : Option Addr} : ∀ {l : List (Int × Int)} {i k : Nat} (_ : RangesAt W lim a i l) (hk : k < l.length),
    ∃ b off, a = some ⟨b, off, none⟩ ∧ b < lim ∧ W.cell? ⟨b, off + (i + k) * 2, none⟩ = some (.int .i32 l[k].1) ∧ W.cell? ⟨b, off + (i + k) * 2 + 1, none⟩ = some (.int .i32 l[k].2)
  | [], _, _, _, hk => absurd hk (by simp)
  | n :: r, i, 0, h, _ => by rw [RangesAt] at h; simpa using h.1
  | n :: r, i, k + 1, h, hk => by
    rw [RangesAt] at h
    obtain ⟨b, off, h1, h2, h3⟩ := RangesAt.getS (k := k) h.2 (by simpa using hk)
    refine ⟨b, off, h1, h2, ?_⟩
    have e : i + 1 + k = i + (k + 1) := by omega
    rw [e] at h3
    simpa using h3
theorem cellsIn_rg {W : World} {lim : Nat} {l : List (Int × Int)} {ad : Addr} (h : RangesAt W lim (some ad) 0 l) : CellsIn W lim ad (rgVs l) := by
  intro p u hp
  obtain ⟨i, j, x, rfl, hj, hx, hu⟩ := fmap_cut _ _ rgF_len l hp
  obtain ⟨hlt, rfl⟩ := List.getElem?_eq_some_iff.1 hx
  obtain ⟨b, off, e, h1, h2, h3⟩ := h.getS hlt
  obtain rfl := Option.some.inj e
  rw [Nat.zero_add] at h2 h3
  refine ⟨h1, ?_⟩
  rw [padd_off]
  match j, hj with
  | 0, _ => simp only [rgF, List.getElem?_cons_zero, Option.some.injEq] at hu; subst hu; exact h2
  | 1, _ => simp only [rgF, List.getElem?_cons_succ, List.getElem?_cons_zero, Option.some.injEq] at hu; subst hu; rw [← Nat.add_assoc]; exact h3
theorem row_ranges {W : World} {base : Nat} {l : List (Int × Int)} {v : Value} (h : looseRow W base 95 2 v l.length (rgVs l)) : ∃ a c, v = .slice a l.length c ∧ RangesFp W (fun b => v.ownBlock = some b) a 0 l := by
  rcases h.2 with ⟨rfl, h0⟩ | ⟨g, cap, cur, rfl, h2, h3, h4, h5⟩
  · cases l with
    | nil => exact ⟨_, _, rfl, trivial⟩
    | cons x r => simp at h0
  · refine ⟨_, _, rfl, ?_⟩
    have hcell := looseRow_cells h (g := g) rfl
    have key : ∀ (m : List (Int × Int)) (i : Nat), l.drop i = m → RangesFp W (fun b => Value.ownBlock (.slice (some ⟨g, 0, none⟩) l.length cap) = some b) (some ⟨g, 0, none⟩) i m := by
      intro m
      induction m with
      | nil => intro i _; exact trivial
      | cons x r ih =>
        intro i hd
        have hlt : i < l.length := by
          rcases Nat.lt_or_ge i l.length with h | h
          · exact h
          · rw [List.drop_of_length_le h] at hd; cases hd
        rw [List.drop_eq_getElem_cons hlt] at hd
        have hx := (List.cons.inj hd).1
        refine ⟨⟨g, 0, rfl, rfl, ?_, ?_⟩, ih (i + 1) (List.cons.inj hd).2⟩
        · rw [Nat.zero_add]
          refine hcell _ _ ?_
          have := fmap_get rgF 2 rgF_len l i 0 (by omega)
          rw [Nat.add_zero] at this
          unfold rgVs
          rw [this, List.getElem?_eq_getElem hlt, hx]
          rfl
        · rw [Nat.zero_add]
          refine hcell _ _ ?_
          have := fmap_get rgF 2 rgF_len l i 1 (by omega)
          unfold rgVs
          rw [this, List.getElem?_eq_getElem hlt, hx]
          rfl
    exact key l 0 rfl
theorem info_range : (Tryz.prog.info? 95).map (fun i => (i.zero, i.size, i.bytes)) = some (some (.agg #[.int .i32 0, .int .i32 0]), 2, 8) := by kernel_rfl
theorem info_node : (Tryz.prog.info? 42).map (fun i => (i.zero, i.size, i.bytes)) = some (some (.agg #[.int .u8 0, .string { data := #[] }, .string { data := #[] }, .slice none 0 0, .slice none 0 0]), 5, 88) := by kernel_rfl
set_option maxHeartbeats 2000000 in
set_option maxRecDepth 20000 in
theorem cloneRg_cells (n c : Nat) (cs : List Value) (hl : cs.length = n * 2) (h1 : ∀ u ∈ cs, u.oneCell' = true) (hn : n ≤ 1048576) (W : World) (a : Addr) (hc : CellsIn W W.heap.size a cs) :
    Calls Tryz.prog 47 #[.slice (some a) n c] W (Cloned W 95 2 n cs) := by
  obtain ⟨i0, hi, hz0, hz1, hz2⟩ := info_parts info_range
  have q : ∀ (w : World) (a : Option Addr) (n c n' c' : Nat), (binOp .eql 39 (.slice a n c) (.slice none n' c')).run Tryz.prog w = .ok (.bool a.isNone) w := fun w a n c n' c' => Lib.run_eql_slice_nil w _ _ a n c n' c' Tryz.underlying39
  have HCS := Lib.hid hc
  have HL := Lib.hid hl
  have H1 := Lib.hid h1
  clear hc hl h1
  go_enter Tryz.func47, Tryz.ntmps47
  go_wp2_with (at_builtin; refine wpList_append_own _ rfl _ _ 39 rfl W.heap.size 95 i0 (.agg #[.int .i32 0, .int .i32 0]) 2 8 Tryz.underlying39 hi hz0 hz1 hz2 rfl (by decide) _ _ _ rfl (World.ownsRow_made W #[] 0 (Nat.le_refl _) (Nat.zero_le _) rfl) a n c cs rfl ?qc1 ?qc2 ?qc3 ?qc4 ?qc5 ?qc6 ?_)
  case qc1 => exact HL.out
  case qc2 =>
    intro j u hj
    exact Lib.cell?_alloc_some _ (HCS.out j u hj).2
  case qc3 => exact H1.out
  case qc4 => unfold maxLen; omega
  case qc5 => omega
  case qc6 => simp
  intro v' w1 hown hgrow hnil
  go_wp2_with fail
  go_ret
  refine ⟨v', rfl, looseRow_of (by simpa using hown), ?_⟩
  exact ((Below.refl _ W).alloc (Nat.le_refl _) _).grown hgrow (by simp) (by intro k hk; simp [Value.ownBlock] at hk; omega)
theorem cloneRg_nil (n c : Nat) (W : World) : Calls Tryz.prog 47 #[.slice none n c] W fun e W' => e = .returned (.slice none 0 0) ∧ W' = W := by
  have q : ∀ (w : World) (a : Option Addr) (n c n' c' : Nat), (binOp .eql 39 (.slice a n c) (.slice none n' c')).run Tryz.prog w = .ok (.bool a.isNone) w := fun w a n c n' c' => Lib.run_eql_slice_nil w _ _ a n c n' c' Tryz.underlying39
  go_enter Tryz.func47, Tryz.ntmps47
  go_wp2
  go_ret
  exact ⟨rfl, rfl⟩
theorem cloneRg_ok (l : List (Int × Int)) (W : World) (a : Option Addr) (c : Nat) (hl : l.length ≤ 1000000) (hA : RangesAt W W.heap.size a 0 l) : Calls Tryz.prog 47 #[.slice a l.length c] W (Cloned W 95 2 l.length (rgVs l)) := by
  cases a with
  | none =>
    have hz : l = [] := by
      cases l with
      | nil => rfl
      | cons x r => obtain ⟨⟨b, o, e, -⟩, -⟩ := hA; cases e
    subst hz
    refine (cloneRg_nil _ _ W).mono ?_
    rintro e W' ⟨rfl, rfl⟩
    exact ⟨_, rfl, ⟨rfl, .inl ⟨rfl, rfl⟩⟩, Grew.refl _⟩
  | some ad => exact cloneRg_cells _ _ _ (rgVs_len l) (rgVs_one l) (by omega) W ad (cellsIn_rg hA)
theorem clipRg_ok (W : World) (base n : Nat) (v : Value) (us : List Value) (h : looseRow W base 95 2 v n us) :
    Calls Tryz.prog 46 #[v] W fun e W' => (∃ u, e = .returned u ∧ looseRow W base 95 2 u n us ∧ u.ownBlock = v.ownBlock) ∧ W = W' := by
  rcases h.2 with ⟨rfl, rfl⟩ | ⟨b, cap, cur, rfl, h1, h2, h3, h4, h5, h6⟩
  · have HL := Lib.hid h
    clear h
    go_enter Tryz.func46, Tryz.ntmps46
    go_wp2
    go_ret
    exact ⟨⟨_, rfl, HL.out, rfl⟩, rfl⟩
  · have HL : Hid (looseRow W base 95 2 (.slice (some ⟨b, 0, none⟩) n n) n us) := ⟨h.1, .inr ⟨b, _, cur, rfl, h1, h2, Nat.le_refl _, Nat.le_trans h3 h4, Nat.le_trans (Nat.mul_le_mul_right _ h3) h5, h6⟩⟩
    unfold maxLen at h4
    clear h h2 h5 h6
    go_enter Tryz.func46, Tryz.ntmps46
    go_wp2
    go_ret
    exact ⟨⟨_, rfl, HL.out, rfl⟩, rfl⟩
theorem clipNd_ok (W : World) (base n : Nat) (v : Value) (us : List Value) (h : looseRow W base 42 5 v n us) :
    Calls Tryz.prog 48 #[v] W fun e W' => (∃ u, e = .returned u ∧ looseRow W base 42 5 u n us ∧ u.ownBlock = v.ownBlock) ∧ W = W' := by
  rcases h.2 with ⟨rfl, rfl⟩ | ⟨b, cap, cur, rfl, h1, h2, h3, h4, h5, h6⟩
  · have HL := Lib.hid h
    clear h
    go_enter Tryz.func48, Tryz.ntmps48
    go_wp2
    go_ret
    exact ⟨⟨_, rfl, HL.out, rfl⟩, rfl⟩
  · have HL : Hid (looseRow W base 42 5 (.slice (some ⟨b, 0, none⟩) n n) n us) := ⟨h.1, .inr ⟨b, _, cur, rfl, h1, h2, Nat.le_refl _, Nat.le_trans h3 h4, Nat.le_trans (Nat.mul_le_mul_right _ h3) h5, h6⟩⟩
    unfold maxLen at h4
    clear h h2 h5 h6
    go_enter Tryz.func48, Tryz.ntmps48
    go_wp2
    go_ret
    exact ⟨⟨_, rfl, HL.out, rfl⟩, rfl⟩
/-! ### rows of nodes -/
abbrev V5 := Value × Value × Value × Value × Value
def v5 (u : V5) : List Value := [u.1, u.2.1, u.2.2.1, u.2.2.2.1, u.2.2.2.2]
theorem v5_len (u : V5) : (v5 u).length = 5 := rfl
def SubsFp (W : World) (S : Nat → Prop) (base : Nat) (v : Value) (l : List Nd) : Prop :=
  ∃ us : List V5, us.length = l.length ∧ looseRow W base 42 5 v l.length (us.flatMap v5) ∧ ∀ (i : Nat) u n, us[i]? = some u → l[i]? = some n → NodeFp W S (some u.1) (some u.2.1) (some u.2.2.1) (some u.2.2.2.1) (some u.2.2.2.2) n
theorem SubsFp.nil (W : World) (S : Nat → Prop) (base : Nat) : SubsFp W S base (.slice none 0 0) [] := ⟨[], rfl, ⟨rfl, .inl ⟨rfl, rfl⟩⟩, fun i u n h => by simp at h⟩
theorem SubsFp.form {W : World} {S : Nat → Prop} {base : Nat} {v : Value} {l : List Nd} (h : SubsFp W S base v l) : ∃ a c, v = .slice a l.length c := by
  obtain ⟨us, _, h2, _⟩ := h
  exact loose_form h2
theorem SubsFp.keep {W W' : World} {S T : Nat → Prop} {base : Nat} {v : Value} {l : List Nd} (h : SubsFp W S base v l) (hb : ∀ b, S b → T b ∧ W'.heap[b]? = W.heap[b]?) (hv : ∀ b, v.ownBlock = some b → W'.heap[b]? = W.heap[b]?) : SubsFp W' T base v l := by
  obtain ⟨us, h1, h2, h3⟩ := h
  refine ⟨us, h1, ⟨h2.1, h2.2.imp id ?_⟩, fun i u n hu hn => (h3 i u n hu hn).keep hb⟩
  rintro ⟨g, cap, cur, rfl, k2, k3, k4⟩
  exact ⟨g, cap, cur, rfl, k2, by rw [hv g rfl]; exact k3, k4⟩
theorem SubsFp.nodes {W : World} {S : Nat → Prop} {base : Nat} {v : Value} {l : List Nd} (h : SubsFp W S base v l) {T : Nat → Prop} (hS : ∀ b, S b → T b) (hv : ∀ b, v.ownBlock = some b → T b) : ∃ a c, v = .slice a l.length c ∧ l.length ≤ c ∧ NodesFp W T a 0 l := by
  obtain ⟨us, h1, h2, h3⟩ := h
  rcases h2.2 with ⟨rfl, h0⟩ | ⟨g, cap, cur, rfl, k2, k3, k4, k5⟩
  · cases l with
    | nil => exact ⟨_, _, rfl, Nat.le_refl _, by rw [NodesFp]; trivial⟩
    | cons x r => simp at h0
  · refine ⟨_, _, rfl, k4, ?_⟩
    have hcell := looseRow_cells h2 (g := g) rfl
    have key : ∀ (m : List Nd) (i : Nat), l.drop i = m → NodesFp W T (some ⟨g, 0, none⟩) i m := by
      intro m
      induction m with
      | nil => intro i _; rw [NodesFp]; trivial
      | cons x r ih =>
        intro i hd
        have hlt : i < l.length := by
          rcases Nat.lt_or_ge i l.length with h | h
          · exact h
          · rw [List.drop_of_length_le h] at hd; cases hd
        rw [List.drop_eq_getElem_cons hlt] at hd
        have hx := (List.cons.inj hd).1
        have hlt' : i < us.length := by omega
        have hc : ∀ j (hj : j < 5), W.cell? ⟨g, i * 5 + j, none⟩ = (v5 us[i])[j]? := by
          intro j hj
          have e := fmap_get v5 5 v5_len us i j hj
          rw [List.getElem?_eq_getElem hlt'] at e
          have hj' : j < (v5 us[i]).length := by rw [v5_len]; exact hj
          rw [List.getElem?_eq_getElem hj']
          refine hcell _ _ ?_
          rw [e]
          exact List.getElem?_eq_getElem hj'
        rw [NodesFp]
        refine ⟨⟨g, 0, rfl, hv g rfl, ?_⟩, ih (i + 1) (List.cons.inj hd).2⟩
        rw [Nat.zero_add]
        have c0 := hc 0 (by omega)
        rw [Nat.add_zero] at c0
        rw [c0, hc 1 (by omega), hc 2 (by omega), hc 3 (by omega), hc 4 (by omega)]
        rw [← hx]
        exact (h3 i us[i] l[i] (List.getElem?_eq_getElem hlt') (List.getElem?_eq_getElem hlt)).keep (W' := W) fun b hb => ⟨hS b hb, rfl⟩
    exact key l 0 rfl
end Go.Proofs.YtoflfkffldpglaaGreatDoor
