/- What holds of all that is made: plain laws of the mirror. No program in sight. -/
import Derived.Test.YtgdcnndmdgcjlaaQ9
import Derived.Test.YtgdcnndmdgcjlaaQ10
import Derived.Test.YtgdcnndmdgcjlaaQ13
import Derived.Test.YtgdcnndmdgcjlaaQ1
import Derived.Test.YtgdcnndmdgcjlaaQ2
import Derived.Test.YtgdcnndmdgcjlaaQ3
namespace Go.Proofs.Ytgdcnndmdgcjlaa
structure StepRel (C : Nat) (R : Mk → Mk → Prop) : Prop where
  refl : ∀ m, R m m
  trans : ∀ {a b c}, R a b → R b c → R a c
  state : ∀ m : Mk, R m m.state.2
  edge : ∀ (m : Mk) a kd wh b, 0 ≤ kd ∧ kd ≤ 3 → R m (m.edge a kd wh b)
  alt : ∀ (m : Mk) d x e, R m (m.alt d x e)
  wait : ∀ (m : Mk) n, n.cnt ≤ C → R m (m.wait n)
section
variable {C : Nat} {R : Mk → Mk → Prop}
theorem StepRel.empty (h : StepRel C R) (m : Mk) (a b : Nat) : R m (m.empty a b) := h.edge m a 0 0 b (by omega)
theorem StepRel.leaving (h : StepRel C R) (m : Mk) (d e b : Nat) : R m (m.leaving d e b) := by
  unfold Mk.leaving
  exact h.trans (h.trans (h.trans (h.state _) (h.alt _ _ _ _)) (h.empty _ _ _)) (h.empty _ _ _)
theorem sub1_cnt (subs : List Nd) : (match subs with | [] => noNd | s :: _ => s).cnt ≤ 1 + Nd.cnts subs := by
  cases subs with
  | nil => exact Nat.le_refl _
  | cons s r => rw [Nd.cnts]; show s.cnt ≤ _; omega
mutual
theorem Nd.piece_rel (h : StepRel C R) (P : Nums) : ∀ (n : Nd) (a b : Nat) (m : Mk), n.cnt ≤ C → R m (n.piece P a b m)
  | .mk k nm tx set subs, a, b, m, hc => by
    rw [Nd.cnt] at hc
    have hw := sub1_cnt subs
    rw [Nd.piece.eq_def]
    dsimp only
    have hone := fun a b m => Nd.piece1_rel h P subs a b m (by omega)
    split
    · exact h.refl m
    split
    · exact h.edge _ _ _ _ _ (by omega)
    split
    · exact h.edge _ _ _ _ _ (by omega)
    split
    · exact h.trans (h.edge _ _ _ _ _ (by omega)) (h.wait _ _ (Nat.le_trans hw hc))
    split
    · exact Nd.pieces_rel h P subs a b m (by omega)
    split
    · exact h.trans (h.trans (h.trans (h.trans (h.state _) (h.state _)) (h.empty _ _ _)) (Nd.palts_rel h P subs _ _ _ (by omega))) (h.empty _ _ _)
    split
    · have h1 := h.trans (h.trans (h.trans (h.trans (h.state m) (h.state _)) (h.empty _ a m.state.1)) (h.state _)) (h.alt _ m.state.1 (m.state.2.state.2.empty a m.state.1).state.1 m.state.2.state.1)
      have h2 := h.trans h1 (hone (m.state.2.state.2.empty a m.state.1).state.1 m.state.2.state.1 _)
      generalize Nd.piece1 P subs (m.state.2.state.2.empty a m.state.1).state.1 m.state.2.state.1 _ = m2 at *
      have h3 := h.trans h2 (h.trans (h.state m2) (h.alt _ m.state.1 m2.state.1 m.state.2.state.1))
      generalize m2.state.2.alt m.state.1 m2.state.1 m.state.2.state.1 = m3 at *
      split
      · exact h.trans h3 (h.empty _ _ _)
      · exact h.trans (h.trans h3 (h.empty _ _ _)) (h.empty _ _ _)
    split
    · exact h.trans (h.trans (h.trans (h.trans (h.trans (h.trans (h.state m) (h.state _)) (h.empty _ a m.state.1)) (h.state _)) (h.alt _ _ _ _)) (hone _ _ _)) (h.leaving _ _ _ _)
    split
    · exact h.trans (h.trans (h.trans (h.trans (h.trans (h.trans (h.state m) (h.state _)) (h.state _)) (h.empty _ a m.state.1)) (hone _ _ _)) (h.alt _ _ _ _)) (h.leaving _ _ _ _)
    · exact h.empty _ _ _
theorem Nd.piece1_rel (h : StepRel C R) (P : Nums) : ∀ (l : List Nd) (a b : Nat) (m : Mk), Nd.cnts l ≤ C → R m (Nd.piece1 P l a b m)
  | [], a, b, m, _ => by
    rw [Nd.piece1]
    split
    · exact h.refl m
    · exact h.empty _ _ _
  | s :: r, a, b, m, hc => by
    rw [Nd.cnts] at hc
    rw [Nd.piece1]
    exact Nd.piece_rel h P s a b m (by omega)
theorem Nd.pieces_rel (h : StepRel C R) (P : Nums) : ∀ (l : List Nd) (a b : Nat) (m : Mk), Nd.cnts l ≤ C → R m (Nd.pieces P l a b m)
  | [], _, _, m, _ => by rw [Nd.pieces]; exact h.refl m
  | s :: r, a, b, m, hc => by
    rw [Nd.cnts] at hc
    rw [Nd.pieces]
    split
    · exact Nd.piece_rel h P s a b m (by omega)
    · exact h.trans (h.trans (h.state m) (Nd.piece_rel h P s a m.state.1 _ (by omega))) (Nd.pieces_rel h P r m.state.1 b _ (by omega))
theorem Nd.palts_rel (h : StepRel C R) (P : Nums) : ∀ (l : List Nd) (e d : Nat) (m : Mk), Nd.cnts l ≤ C → R m (Nd.palts P l e d m)
  | [], _, _, m, _ => by rw [Nd.palts]; exact h.refl m
  | s :: r, e, d, m, hc => by
    rw [Nd.cnts] at hc
    rw [Nd.palts]
    exact h.trans (h.trans (h.trans (h.state m) (h.alt _ d m.state.1 e)) (Nd.piece_rel h P s m.state.1 e _ (by omega))) (Nd.palts_rel h P r e d _ (by omega))
end
end
def Mk.WSmall (C : Nat) (m : Mk) : Prop := ∀ x ∈ m.waits, x.2.cnt ≤ C
theorem wsmall_rel (C : Nat) : StepRel C fun m m' => m.WSmall C → m'.WSmall C where
  refl _ h := h
  trans h g x := g (h x)
  state m h := by
    unfold Mk.state
    split <;> exact h
  edge m a kd wh b _ h := by
    unfold Mk.edge
    split <;> exact h
  alt m d x e h := by
    unfold Mk.alt Mk.empty Mk.edge
    split <;> exact h
  wait m n hn h x hx := by
    rcases List.mem_append.1 hx with hx | hx
    · exact h x hx
    · have : x = (m.rule, n) := by simpa using hx
      rw [this]; exact hn
def Net.Kinds3 (N : Net) : Prop := ∀ s ∈ N.states, ∀ e ∈ s.edges, 0 ≤ e.kind ∧ e.kind ≤ 3
theorem mem_modify {α : Type} {l : List α} {a : Nat} {f : α → α} {s : α} (h : s ∈ l.modify a f) : s ∈ l ∨ ∃ t ∈ l, s = f t := by
  obtain ⟨i, hi, rfl⟩ := List.mem_iff_getElem.1 h
  have hi' : i < l.length := by simpa using hi
  rw [List.getElem_modify]
  split
  · exact .inr ⟨l[i], List.getElem_mem hi', rfl⟩
  · exact .inl (List.getElem_mem hi')
theorem kinds_rel (C : Nat) : StepRel C fun m m' => m.N.Kinds3 → m'.N.Kinds3 where
  refl _ h := h
  trans h g x := g (h x)
  state m h := by
    unfold Mk.state
    split
    · exact h
    · intro s hs e he
      rcases List.mem_append.1 hs with hs | hs
      · exact h s hs e he
      · have : s = ⟨m.rule, [], []⟩ := by simpa using hs
        rw [this] at he; simp at he
  edge m a kd wh b hk h := by
    unfold Mk.edge
    split
    · exact h
    · intro s hs e he
      rcases mem_modify hs with hs | ⟨t, ht, rfl⟩
      · exact h s hs e he
      · rcases List.mem_append.1 he with he | he
        · exact h t ht e he
        · have : e = ⟨kd, wh, b⟩ := by simpa using he
          rw [this]; exact hk
  alt m d x e h := by
    have h1 : (m.empty d x).N.Kinds3 := by
      unfold Mk.empty Mk.edge
      split
      · exact h
      · intro s hs e he
        rcases mem_modify hs with hs | ⟨t, ht, rfl⟩
        · exact h s hs e he
        · rcases List.mem_append.1 he with he | he
          · exact h t ht e he
          · have : e = ⟨0, 0, x⟩ := by simpa using he
            rw [this]; exact ⟨Int.le_refl 0, (by decide : (0 : Int) ≤ 3)⟩
    unfold Mk.alt
    split
    · exact h1
    · intro s hs e he
      rcases mem_modify hs with hs | ⟨t, ht, rfl⟩
      · exact h1 s hs e he
      · exact h1 t ht e he
  wait m n _ h := h
/-! ### Build -/
def Mk.m0 : Mk := ⟨0, ⟨[], [], [], [], []⟩, [], 0, false⟩
def Mk.setRule (m : Mk) (r : Int) : Mk := { m with rule := r }
def Mk.addSS (m : Mk) (a b : Nat) : Mk := { m with N := { m.N with starts := m.N.starts ++ [(a : Int)], stops := m.N.stops ++ [(b : Int)] } }
def Mk.addPred (m : Mk) (a : Nat) : Mk := { m with N := { m.N with preds := m.N.preds ++ [(a : Int)] } }
def Mk.addDec (m : Mk) (i : Nat) : Mk := { m with N := { m.N with decisions := m.N.decisions ++ [(i : Int)] } }
def Gr.body (g : Gr) (x : Int) : Nd := match g.rules[x.toNat]? with
  | some r => r.body
  | none => noNd
def Mk.ruleStep (P : Nums) (body : Nd) (i : Int) (m : Mk) : Mk :=
  body.piece P (m.setRule i).state.1 (m.setRule i).state.2.state.1 ((m.setRule i).state.2.state.2.addSS (m.setRule i).state.1 (m.setRule i).state.2.state.1)
def Mk.rulesTo (P : Nums) (g : Gr) (l : List Int) : Nat → Mk
  | 0 => Mk.m0
  | j + 1 => (Mk.rulesTo P g l j).ruleStep P (g.body ((l[j]?).getD 0)) j
def Mk.waitStep (P : Nums) (m : Mk) : Mk := match m.waits with
  | [] => m
  | x :: _ => x.2.piece P (m.dropWait.setRule x.1).state.1 (m.dropWait.setRule x.1).state.2.state.1 ((m.dropWait.setRule x.1).state.2.state.2.addPred (m.dropWait.setRule x.1).state.1)
inductive Mk.Wts (P : Nums) (m : Mk) : Mk → Prop
  | refl : Mk.Wts P m m
  | step {m'} (h : Mk.Wts P m m') (hf : m'.full = false) (hw : m'.waits ≠ []) : Mk.Wts P m (m'.waitStep P)
def Mk.decsTo (m : Mk) : Nat → Mk
  | 0 => m
  | i + 1 => if 0 < (m.N.ends i).length then (Mk.decsTo m i).addDec i else Mk.decsTo m i
def Built (P : Nums) (g : Gr) (rules : List Int) (m : Mk) : Prop := Mk.Wts P (Mk.rulesTo P g rules rules.length) m ∧ (m.full = true ∨ m.waits = [])
end Go.Proofs.Ytgdcnndmdgcjlaa

/- Two appends in a region that draws its order. -/
namespace Go.Proofs.Ytgdcnndmdgcjlaa
open Go.RowKit
structure OnceM (M : Nat → Option Obj) (w w' : World) : Prop where
  but : But (fun b => M b ≠ none) w w'
  row : ∀ b N, M b = some N → w'.heap[b]? = w.heap[b]? ∨ w'.heap[b]? = some N
theorem OnceM.rel (M : Nat → Option Obj) : Rel (OnceM M) where
  refl w := ⟨But.refl _ w, fun _ _ _ => .inl rfl⟩
  trans h k := ⟨h.but.trans k.but fun _ _ h => h, fun b N hb => by
    rcases k.row b N hb with h1 | h1
    · rw [h1]; exact h.row b N hb
    · exact .inr h1⟩
  drew w := ⟨⟨rfl, rfl, rfl, Nat.le_refl _, fun _ _ _ => rfl⟩, fun _ _ _ => .inl rfl⟩
section
variable {M : Nat → Option Obj} {F : Option Nat} {N : Obj} {w w' : World}
theorem OnceM.grew (h : Grew w w') (hF : ∀ b, M b ≠ none → b < w.heap.size) : OnceM M w w' := ⟨But.of_grew h, fun b N hb => .inl (h.block b (hF b (by rw [hb]; simp)))⟩
theorem OnceM.cell (h : OnceM M w w') {a : Addr} {v : Value} (hc : w.cell? a = some v) (hn : M a.block = none) : w'.cell? a = some v := by
  have hlt : a.block < w.heap.size := by
    rcases Nat.lt_or_ge a.block w.heap.size with hl | hl
    · exact hl
    · simp [World.cell?, Array.getElem?_eq_none hl] at hc
  rw [World.cell?_of_block (h.but.block _ hlt (fun e => e hn))]
  exact hc
theorem OnceM.owns (h : OnceM M w w') {b T : Nat} {cs : List Value} (hc : Owns w b cs T) (hn : M b = none) : Owns w' b cs T := h.but.owns hc fun e => e hn
theorem OnceM.size (h : OnceM M w w') : w.heap.size ≤ w'.heap.size := h.but.size
theorem AppR.keepM {S base e size n : Nat} {xs : List Value} {v : Value} (h : OnceM M w w') (hF : ∀ b, F = some b → M b = some N) (hS : ∀ b, S ≤ b → M b = none) (hr : AppR F N S base e size n xs v w) : AppR F N S base e size n xs v w' := by
  obtain ⟨g, cap, rfl, h1, h2, h3⟩ := hr
  rcases h3 with ⟨hF1, h4⟩ | ⟨hF1, h4⟩
  · have hh : w'.heap[g]? = some N := by
      rcases h.row g N (hF g hF1) with h5 | h5
      · rw [h5]; exact h4
      · exact h5
    exact ⟨g, cap, rfl, loose_same h1 (hh.trans h4.symm), Nat.lt_of_lt_of_le h2 h.size, .inl ⟨hF1, hh⟩⟩
  · exact ⟨g, cap, rfl, loose_same h1 (h.but.block g h2 (fun e => e (hS g h4))), Nat.lt_of_lt_of_le h2 h.size, .inr ⟨hF1, h4⟩⟩
end
theorem append_onceM {P : Program} (w0 : World) (t ty : TypeId) (base : Nat) (e : TypeId) (i : TypeInfo) (z : Value) (size bytes : Nat) (ht : P.underlying t = some (.slice e)) (hi : P.info? e = some i) (hz : i.zero = some z)
    (hsize : i.size = size) (hby : i.bytes = bytes) (hzs : z.cells.size = size)
    (v : Value) (n : Nat) (xs : List Value) (hown : looseRow w0 base e size v n xs)
    (m : Nat) (news : List Value) (hl : news.length = m * size) (h1 : ∀ u ∈ news, u.oneCell' = true)
    (hm : 0 < m) (h63 : n + m ≤ maxLen) (hbytes : (n + m) * bytes ≤ 140737488355328) (hbase : base ≤ w0.heap.size) :
    ∃ F N, (∀ b, F = some b → v.ownBlock = some b ∧ b < w0.heap.size) ∧ ∀ (M : Nat → Option Obj), (∀ b, M b ≠ none → b < w0.heap.size) → (∀ b, v.ownBlock = some b → M b = if F = some b then some N else none) → ∀ w ad c, OnceM M w0 w → (∀ j u, news[j]? = some u → w.cell? (ad.add j) = some u) →
      ∃ r w', (Builtin.append_ #[t, t] ty #[v, .slice (some ad) m c]).run P w = .ok r w' ∧ OnceM M w w' ∧ AppR F N w0.heap.size base e size (n + m) (xs ++ news) r w' ∧ (F = none → ∀ g, r.ownBlock = some g → w.heap.size ≤ g) ∧ ∀ b, F = some b → r.ownBlock = some b := by
  subst hsize
  subst hby
  have hsmall : n + m ≤ 9223372036854775807 := by simp only [maxLen] at h63; omega
  have hlen : (xs ++ news).length = (n + m) * i.size := by rw [List.length_append, hown.1, hl, Nat.add_mul]
  have grown : ∀ (M : Nat → Option Obj) (w : World), (∀ b, M b ≠ none → b < w.heap.size) → base ≤ w.heap.size → w0.heap.size ≤ w.heap.size → ∀ (old : Nat), old < n + m → ∀ N,
      OnceM M w (w.drew.alloc (.cells (xs.toArray ++ news.toArray ++ Builtin.zeroCells z.cells (grownCap w (n + m) old e - (n + m))) e)) ∧
      AppR none N w0.heap.size base e i.size (n + m) (xs ++ news) (.slice (some ⟨w.heap.size, 0, none⟩) (n + m) (grownCap w (n + m) old e)) (w.drew.alloc (.cells (xs.toArray ++ news.toArray ++ Builtin.zeroCells z.cells (grownCap w (n + m) old e - (n + m))) e)) := by
    intro M w hMl hbw hw0 old ho N
    have hge := grownCap_ge w (n + m) old e
    have hcm : grownCap w (n + m) old e ≤ maxLen := grownCap_le_maxLen w (n + m) old e h63
    have hgw : Grew w (w.drew.alloc (.cells (xs.toArray ++ news.toArray ++ Builtin.zeroCells z.cells (grownCap w (n + m) old e - (n + m))) e)) := ⟨rfl, rfl, rfl, by simp, fun k hk => (Below.refl _ w.drew).alloc (Nat.le_refl _) _ |>.block k hk⟩
    refine ⟨OnceM.grew hgw hMl, w.heap.size, _, rfl, ⟨hlen, .inr ⟨w.heap.size, _, _, rfl, hbw, heap_alloc_new w.drew _, hge, hcm, ?_, ?_⟩⟩, by simp, .inr ⟨rfl, hw0⟩⟩
    · apply Nat.le_of_eq
      simp only [Array.size_append, List.size_toArray, size_zeroCells, hzs, hown.1, hl, ← Nat.add_mul]
      congr 1
      omega
    · simp only [Array.toList_append, List.append_assoc]
      rw [← List.append_assoc, ← hlen]
      exact List.take_left
  have fresh : ∀ (w : World) (cap : Nat), (none : Option Nat) = none → ∀ g, (Value.slice (some ⟨w.heap.size, 0, none⟩) (n + m) cap).ownBlock = some g → w.heap.size ≤ g := fun w cap _ g hg => by simp only [Value.ownBlock, Option.some.injEq] at hg; omega
  rcases hown.2 with ⟨rfl, rfl⟩ | ⟨g, cap, cur, rfl, hbg, hg, hnc, hcm, hcs, htake⟩
  · have hx : xs = [] := List.eq_nil_of_length_eq_zero (by simpa using hown.1)
    subst hx
    refine ⟨none, .cells #[] 0 (0, 0), fun b hb => (by cases hb), fun M hM0 _ w ad c hw hnews => ?_⟩
    have hr := run_append_nil (P := P) w t ty e i z ht hi hz ad m c news hl hnews (by omega) (by omega) (by have hb := hbytes; simp only [Nat.zero_add] at hb; omega)
    have hgr := grown M w (fun b hb => Nat.lt_of_lt_of_le (hM0 b hb) hw.size) (Nat.le_trans hbase hw.size) hw.size 0 (by omega) (.cells #[] 0 (0, 0))
    have hfr := fresh w (grownCap w (0 + m) 0 e)
    simp only [Nat.zero_add, List.nil_append, Array.empty_append] at hgr hfr ⊢
    exact ⟨_, _, hr, hgr.1, hgr.2, hfr, fun b hb => by cases hb⟩
  · have hlt := (Array.getElem?_eq_some_iff.1 hg).1
    by_cases hroom : n + m ≤ cap
    · have hfit : n * i.size + news.length ≤ cur.size := by
        rw [hl, ← Nat.add_mul]
        exact Nat.le_trans (Nat.mul_le_mul_right _ hroom) hcs
      obtain ⟨nc, hnc9⟩ : ∃ nc, cur.toList.take (n * i.size) ++ news ++ cur.toList.drop (n * i.size + news.length) = nc := ⟨_, rfl⟩
      have hagain := put_again cur.toList news (n * i.size) (by simpa using hfit)
      have hncl : nc.length = cur.size := by
        rw [← hnc9]
        simp only [List.length_append, List.length_take, List.length_drop, Array.length_toList]
        omega
      have hnct : nc.take ((n + m) * i.size) = xs ++ news := by
        rw [← hnc9, htake, ← hlen]
        exact List.take_left
      rw [hnc9] at hagain
      refine ⟨some g, .cells nc.toArray e (0, 0), fun b hb => (by cases hb; exact ⟨rfl, hlt⟩), fun M hM0 hMo w ad c hw hnews => ?_⟩
      have hMg : M g = some (.cells nc.toArray e (0, 0)) := by rw [hMo g rfl, if_pos rfl]
      have fin : ∀ c9 : Array Value, w.heap[g]? = some (.cells c9 e (0, 0)) → c9.toList.take (n * i.size) ++ news ++ c9.toList.drop (n * i.size + news.length) = nc → n * i.size + news.length ≤ c9.size →
          ∃ r w', (Builtin.append_ #[t, t] ty #[.slice (some ⟨g, 0, none⟩) n cap, .slice (some ad) m c]).run P w = .ok r w' ∧ OnceM M w w' ∧ AppR (some g) (.cells nc.toArray e (0, 0)) w0.heap.size base e i.size (n + m) (xs ++ news) r w' ∧ (some g = none → ∀ g', r.ownBlock = some g' → w.heap.size ≤ g') ∧ ∀ b, some g = some b → r.ownBlock = some b := by
        intro c9 hg9 he9 hf9
        have hr := run_append_room (P := P) w t ty e i ht hi g n cap c9 hg9 ad m c news hl hnews h1 hroom hf9
        rw [he9] at hr
        have hh := setRow_heap w g c9 nc.toArray e _ hg9
        refine ⟨_, _, hr, ⟨⟨rfl, rfl, rfl, by simp, fun k _ hk => setRow_other w g k _ (fun e => hk (by rw [e, hMg]; simp))⟩, fun b N hb => ?_⟩, ⟨g, cap, rfl, ⟨hlen, .inr ⟨g, cap, _, rfl, hbg, hh, hroom, hcm, ?_, ?_⟩⟩, ?_, .inl ⟨rfl, hh⟩⟩, fun hx => (by cases hx), fun b hb => (by cases hb; rfl)⟩
        · by_cases e9 : b = g
          · subst e9
            rw [hMg] at hb
            cases hb
            exact .inr hh
          · exact .inl (setRow_other w g b _ e9)
        · simp only [List.size_toArray, hncl]; exact hcs
        · exact hnct
        · have := hw.size; simp; omega
      rcases hw.row g _ hMg with h9 | h9
      · exact fin cur (h9.trans hg) hnc9 hfit
      · exact fin nc.toArray h9 hagain (by simp only [List.size_toArray, hncl]; exact hfit)
    · refine ⟨none, .cells #[] 0 (0, 0), fun b hb => (by cases hb), fun M hM0 hMo w ad c hw hnews => ?_⟩
      have hMg : M g = none := by rw [hMo g rfl, if_neg (by simp)]
      have hgw : w.heap[g]? = some (.cells cur e (0, 0)) := (hw.but.block g hlt (fun x => x hMg)).trans hg
      have hownw : looseRow w base e i.size (.slice (some ⟨g, 0, none⟩) n cap) n xs := loose_same hown (hgw.trans hg.symm)
      have holds : ∀ j u, xs[j]? = some u → w.cell? ((⟨g, 0, none⟩ : Addr).add j) = some u := fun j u hj => by
        have := looseRow_cells hownw (g := g) rfl j u hj
        rw [show (⟨g, 0, none⟩ : Addr).add j = ⟨g, j, none⟩ by unfold Addr.add; split <;> simp_all]
        exact this
      have hr := run_append_grow (P := P) w t ty e i z ht hi hz ⟨g, 0, none⟩ n cap xs hown.1 holds ad m c news hl hnews (by omega) (by omega) (growslice_fits (by omega) hbytes)
      have hgr := grown M w (fun b hb => Nat.lt_of_lt_of_le (hM0 b hb) hw.size) (Nat.le_trans hbase hw.size) hw.size cap (by omega) (.cells #[] 0 (0, 0))
      exact ⟨_, _, hr, hgr.1, hgr.2, fresh w _, fun b hb => by cases hb⟩
/-! ### a start and a stop more -/
def MkV.withSS (V : MkV) (v1 v2 : Value) : MkV := { V with iv := fun r => if r = .starts then v1 else if r = .stops then v2 else V.iv r }
theorem MkAt.pushSS {E : MkE} {m : Mk} {V : MkV} {w w2 : World} (h : MkAt E w m V) {v1 v2 : Value} {g1 g2 a b : Nat} (hb : But (fun c => (V.iv .starts).ownBlock = some c ∨ (V.iv .stops).ownBlock = some c) w w2)
    (hr1 : looseRow w2 E.base 3 1 v1 (m.N.starts.length + 1) (intVs m.N.starts ++ [.int .i64 a])) (hr2 : looseRow w2 E.base 3 1 v2 (m.N.stops.length + 1) (intVs m.N.stops ++ [.int .i64 b]))
    (ho1 : v1.ownBlock = some g1) (ho2 : v2.ownBlock = some g2) (hne : g1 ≠ g2) (hat1 : (V.iv .starts).ownBlock = some g1 ∨ w.heap.size ≤ g1) (hat2 : (V.iv .stops).ownBlock = some g2 ∨ w.heap.size ≤ g2) :
    MkAt E ((w2.setCell ⟨E.mb, 8, none⟩ v1).setCell ⟨E.mb, 9, none⟩ v2) (m.addSS a b) (V.withSS v1 v2) ∧ Frk E m V (m.addSS a b) (V.withSS v1 v2) w ((w2.setCell ⟨E.mb, 8, none⟩ v1).setCell ⟨E.mb, 9, none⟩ v2) := by
  have hbm : ¬((V.iv .starts).ownBlock = some E.mb ∨ (V.iv .stops).ownBlock = some E.mb) := fun hx => hx.elim (own_box (h.ints .starts trivial) h.box (by decide)) (own_box (h.ints .stops trivial) h.box (by decide))
  have hbx : Owns w2 E.mb (V.box E m) 113 := hb.owns h.box hbm
  have hl : ∀ r, (m.addSS a b).live r ↔ m.live r := fun r => by cases r <;> exact Iff.rfl
  have hput2 : ∀ {e size n : Nat} {u : Value} {xs : List Value}, looseRow w2 E.base e size u n xs → e ≠ 113 → looseRow ((w2.setCell ⟨E.mb, 8, none⟩ v1).setCell ⟨E.mb, 9, none⟩ v2) E.base e size u n xs := fun hx hT => by
    have h1 := loose_put (i := 8) (x := v1) hx (own_box hx hbx hT)
    exact loose_put h1 (own_box h1 (hbx.set 8 v1) hT)
  have hofar : ∀ r, m.live r → r ≠ .starts → r ≠ .stops → looseRow w2 E.base 3 1 (V.iv r) (E.ints m r).length (intVs (E.ints m r)) := fun r hr h1 h2 =>
    row_but (h.ints r hr) hb fun c hc hx => hx.elim (fun hx => h.iinj r .starts hr trivial h1 (by simp [IRole.fix]) c hc hx) (fun hx => h.iinj r .stops hr trivial h2 (by simp [IRole.fix]) c hc hx)
  have hlt : ∀ r c, m.live r → (V.iv r).ownBlock = some c → c < w.heap.size := fun r c hr hc => h.mine_lt (.inr (.inr (.inr (.inl ⟨r, hr, hc⟩))))
  have hmine : ∀ c, (V.withSS v1 v2).mine E (m.addSS a b) c → V.mine E m c ∨ w.heap.size ≤ c := by
    intro c hc
    rcases hc with hc | hc | hc | ⟨r, hr, hc⟩ | ⟨k, hk, hc⟩
    · exact .inl (.inl hc)
    · exact .inl (.inr (.inl hc))
    · exact .inl (.inr (.inr (.inl hc)))
    · by_cases e1 : r = .starts
      · subst e1
        have hc : v1.ownBlock = some c := hc
        rw [ho1] at hc; cases hc
        exact hat1.imp (fun hx => .inr (.inr (.inr (.inl ⟨.starts, trivial, hx⟩)))) id
      · by_cases e2 : r = .stops
        · subst e2
          have hc : v2.ownBlock = some c := hc
          rw [ho2] at hc; cases hc
          exact hat2.imp (fun hx => .inr (.inr (.inr (.inl ⟨.stops, trivial, hx⟩)))) id
        · simp only [MkV.withSS, e1, e2, if_false] at hc
          exact .inl (.inr (.inr (.inr (.inl ⟨r, hr, hc⟩))))
    · exact .inl (.inr (.inr (.inr (.inr ⟨k, hk, hc⟩))))
  have fresh1 : ∀ r, m.live r → r ≠ .starts → (V.iv r).ownBlock ≠ some g1 := fun r hr hx hc => by
    rcases hat1 with ha | ha
    · exact h.iinj r .starts hr trivial hx (by simp [IRole.fix]) g1 hc ha
    · have := hlt r g1 hr hc; omega
  have fresh2 : ∀ r, m.live r → r ≠ .stops → (V.iv r).ownBlock ≠ some g2 := fun r hr hx hc => by
    rcases hat2 with ha | ha
    · exact h.iinj r .stops hr trivial hx (by simp [IRole.fix]) g2 hc ha
    · have := hlt r g2 hr hc; omega
  refine ⟨⟨?_, fun r hr => ?_, fun k hk => ?_, ?_, ?_, fun r1 r2 h1 h2 hne9 hff c hc => ?_, h.einj, h.lo⟩, ⟨⟨hb.os, hb.tape, hb.output, Nat.le_trans hb.size (by simp [World.setCell]), fun k hk hn => ?_⟩, hmine, fun r hr => ?_⟩⟩
  · have := (hbx.set 8 v1).set 9 v2
    exact this
  · by_cases e1 : r = .starts
    · subst e1
      have : looseRow w2 E.base 3 1 v1 (m.N.starts ++ [(a : Int)]).length (intVs (m.N.starts ++ [(a : Int)])) := by rw [List.length_append, intVs_snoc]; exact hr1
      exact hput2 this (by decide)
    · by_cases e2 : r = .stops
      · subst e2
        have : looseRow w2 E.base 3 1 v2 (m.N.stops ++ [(b : Int)]).length (intVs (m.N.stops ++ [(b : Int)])) := by rw [List.length_append, intVs_snoc]; exact hr2
        exact hput2 this (by decide)
      · have h1 := hput2 (hofar r hr e1 e2) (by decide)
        have hi : E.ints (m.addSS a b) r = E.ints m r := by cases r <;> first | rfl | exact absurd rfl e1 | exact absurd rfl e2
        rw [hi]
        simp only [MkV.withSS, e1, e2, if_false]
        exact h1
  · have h1 := h.edges k hk
    exact hput2 (row_but h1 hb fun c hc hx => hx.elim (own_ne h1 (h.ints .starts trivial) (by decide) c hc) (own_ne h1 (h.ints .stops trivial) (by decide) c hc)) (by decide)
  · have h1 := row_but h.states hb fun c hc hx => hx.elim (own_ne h.states (h.ints .starts trivial) (by decide) c hc) (own_ne h.states (h.ints .stops trivial) (by decide) c hc)
    have hs : (V.withSS v1 v2).srow (m.addSS a b) = V.srow m := by
      unfold MkV.srow
      rfl
    rw [hs]
    exact hput2 h1 (by decide)
  · obtain ⟨cs, h1, h2⟩ := h.waits
    have h3 := trow_but h1 hb fun c hc hx => hx.elim (own_neT h1 (h.ints .starts trivial) (by decide) c hc) (own_neT h1 (h.ints .stops trivial) (by decide) c hc)
    have h4 := loose_putT (i := 8) (x := v1) h3 (own_boxT h3 hbx (by decide))
    refine ⟨cs, loose_putT h4 (own_boxT h4 (hbx.set 8 v1) (by decide)), h2.keep ?_⟩
    exact Below.setCell (Below.setCell (hb.below h.lim fun k hk => hk.elim (fun hx => (row_own (h.ints .starts trivial) hx).1) (fun hx => (row_own (h.ints .stops trivial) hx).1)) (p := ⟨E.mb, 8, none⟩) h.lo v1) (p := ⟨E.mb, 9, none⟩) h.lo v2
  · by_cases e1 : r1 = .starts
    · subst e1
      have hc : v1.ownBlock = some c := hc
      rw [ho1] at hc; cases hc
      by_cases e2 : r2 = .stops
      · subst e2
        show v2.ownBlock ≠ _
        rw [ho2]; simpa using fun e => hne e.symm
      · have e3 : r2 ≠ .starts := fun e => hne9 e.symm
        simp only [MkV.withSS, e3, e2, if_false]
        exact fresh1 r2 h2 e3
    · by_cases e1' : r1 = .stops
      · subst e1'
        have hc : v2.ownBlock = some c := hc
        rw [ho2] at hc; cases hc
        by_cases e2 : r2 = .starts
        · subst e2
          show v1.ownBlock ≠ _
          rw [ho1]; simpa using hne
        · have e3 : r2 ≠ .stops := fun e => hne9 e.symm
          simp only [MkV.withSS, e3, e2, if_false]
          exact fresh2 r2 h2 e3
      · simp only [MkV.withSS, e1, e1', if_false] at hc
        by_cases e2 : r2 = .starts
        · subst e2
          show v1.ownBlock ≠ _
          rw [ho1]
          exact fun e => fresh1 r1 h1 e1 (by rw [hc, e])
        · by_cases e3 : r2 = .stops
          · subst e3
            show v2.ownBlock ≠ _
            rw [ho2]
            exact fun e => fresh2 r1 h1 e1' (by rw [hc, e])
          · simp only [MkV.withSS, e2, e3, if_false]
            exact h.iinj r1 r2 h1 h2 hne9 hff c hc
  · have e1 : k ≠ E.mb := fun e => hn (.inl e)
    rw [put_heap (a := ⟨E.mb, 9, none⟩) (fun e => e1 e.symm), put_heap (a := ⟨E.mb, 8, none⟩) (fun e => e1 e.symm)]
    exact hb.block k hk fun hx => hn (hx.elim (fun hx => .inr (.inr (.inr (.inl ⟨.starts, trivial, hx⟩)))) (fun hx => .inr (.inr (.inr (.inl ⟨.stops, trivial, hx⟩)))))
  · cases r <;> first | rfl | cases hr
end Go.Proofs.Ytgdcnndmdgcjlaa

/- Alternatives between two states, where each one's piece may be made. -/
namespace Go.Proofs.Ytgdcnndmdgcjlaa
open Go.RowKit
def PieceOk (E : MkE) (g : Gr) (n : Nd) : Prop := ∀ (m : Mk) (V : MkV) (W : World) (v0 v1 v2 v3 v4 : Value) (a b : Nat), MkAt E W m V → GrAt W E.base (some E.g0) (some E.g1) (some E.g2) (some E.g3) g → NodeAt W E.base (some v0) (some v1) (some v2) (some v3) (some v4) n → m.has a → m.Slim n.req →
  Calls Try.prog 44 #[.pointer (some ⟨E.mb, 0, none⟩), .agg #[v0, v1, v2, v3, v4], .int .i64 a, .int .i64 b] W fun e W' => (∃ v, e = .returned v) ∧ Made E m V (n.piece (E.nums g) a b m) W W'
def OwnsX (E : MkE) (m : Mk) (V : MkV) (w : World) (b : Nat) (cs : List Value) (T : TypeId) : Prop := Owns w b cs T ∧ ¬V.mine E m b
theorem OwnsX.next {E : MkE} {m m' : Mk} {V V' : MkV} {w w' : World} {b T : Nat} {cs : List Value} (h : OwnsX E m V w b cs T) (hf : Frk E m V m' V' w w') : OwnsX E m' V' w' b cs T :=
  ⟨hf.but.owns h.1 h.2, fun hm => (hf.new b hm).elim h.2 fun hge => by have := h.1.lt; omega⟩
theorem OwnsX.fresh {E : MkE} {m : Mk} {V : MkV} {w w' : World} {cs : List Value} {T : Nat} (h : MkAt E w m V) (ho : Owns w' w.heap.size cs T) : OwnsX E m V w' w.heap.size cs T :=
  ⟨ho, fun hm => by have := h.mine_lt hm; omega⟩
def SubsAt (E : MkE) (m : Mk) (V : MkV) (W : World) (a : Option Addr) (l : List Nd) : Prop := ∀ k (h : k < l.length), ∃ b off, a = some ⟨b, off, none⟩ ∧ b < W.heap.size ∧ ¬V.mine E m b ∧
  NodeAt W E.base (W.cell? ⟨b, off + k * 5, none⟩) (W.cell? ⟨b, off + k * 5 + 1, none⟩) (W.cell? ⟨b, off + k * 5 + 2, none⟩) (W.cell? ⟨b, off + k * 5 + 3, none⟩) (W.cell? ⟨b, off + k * 5 + 4, none⟩) l[k]
theorem SubsAt.next {E : MkE} {m m' : Mk} {V V' : MkV} {w w' : World} {a : Option Addr} {l : List Nd} (h : SubsAt E m V w a l) (hM : MkAt E w m V) (hf : Frk E m V m' V' w w') : SubsAt E m' V' w' a l := fun k hk => by
  obtain ⟨b, off, h1, h2, h3, h4⟩ := h k hk
  have e : ∀ o, w'.cell? ⟨b, o, none⟩ = w.cell? ⟨b, o, none⟩ := fun o => World.cell?_of_block (hf.but.block b h2 h3)
  refine ⟨b, off, h1, Nat.lt_of_lt_of_le h2 hf.but.size, fun hm => (hf.new b hm).elim h3 fun hge => by omega, ?_⟩
  rw [e, e, e, e, e]
  exact h4.keep (hf.below hM)
theorem SubsAt.of {E : MkE} {m : Mk} {V : MkV} {w : World} {a : Option Addr} {l : List Nd} (hM : MkAt E w m V) (h : NodesAt w E.base a 0 l) : SubsAt E m V w a l := fun k hk => by
  obtain ⟨b, off, h1, h2, h3⟩ := h.get hk
  rw [Nat.zero_add] at h3
  exact ⟨b, off, h1, Nat.lt_of_lt_of_le h2 hM.lim, fun hm => by have := hM.mine_lo hm; omega, h3⟩
def Nd.mkAlts (P : Nums) (l : List Nd) (a b : Nat) (m : Mk) : Mk := (Nd.palts P l m.state.2.state.1 m.state.1 (m.state.2.state.2.empty a m.state.1)).empty m.state.2.state.1 b
set_option maxHeartbeats 4000000 in
set_option maxRecDepth 20000 in
theorem malts_ok (E : MkE) (g : Gr) (l : List Nd) (hp : ∀ k (h : k < l.length), PieceOk E g l[k]) (hl : l.length ≤ reachN) (m0 : Mk) (V0 : MkV) (w0 : World) (h : MkAt E w0 m0 V0) (hg : GrAt w0 E.base (some E.g0) (some E.g1) (some E.g2) (some E.g3) g)
    (sa : Option Addr) (sc : Nat) (hsu : SubsAt E m0 V0 w0 sa l) (a b : Nat) (ha : m0.has a) (K0 : Nat) (hk0 : 2 + Nd.reqs l ≤ K0) (hs : m0.Slim K0) :
    Calls Try.prog 62 #[.pointer (some ⟨E.mb, 0, none⟩), .slice sa l.length sc, .int .i64 a, .int .i64 b] w0 fun e' W' => (∃ v, e' = .returned v) ∧ Made E m0 V0 (Nd.mkAlts (E.nums g) l a b m0) w0 W' := by
  have HM0 := Lib.hid h
  have HF0 := Lib.hid (Frk.refl E m0 V0 w0)
  have HL0 := Lib.hid (Mk.Le.refl m0)
  have HS := Lib.hid hs
  have HX_a := Lib.hid ha
  have HG := Lib.hid hg
  have HSU := Lib.hid hsu
  have HP := Lib.hid hp
  unfold reachN at hl
  clear h hs ha hg hsu hp
  go_enter Try.func62, Try.ntmps62
  have HC := Lib.hid (mstate_ok E m0 V0 w0 HM0.out ((HS.out.mono (show 0 + 0 ≤ K0 by omega)).next HL0.out).cap)
  go_wp2_with fail
  refine HC.out.mono ?_
  clear HC
  rintro e9 w1 ⟨rfl, V1, hM, hF⟩
  obtain ⟨m1, hm⟩ : ∃ m9, m9 = m0.state.2 := ⟨_, rfl⟩
  rw [← hm] at hM hF
  have hle : Mk.Le 0 m0 m1 := hm ▸ m0.state_le
  obtain ⟨d, hx⟩ : ∃ x9, x9 = m0.state.1 := ⟨_, rfl⟩
  rw [← hx]
  have HX_d : Hid (m1.has d) := Lib.hid (by rw [hm, hx]; exact m0.state_has)
  have HEX_d := Lib.hid hx
  clear hx
  have HX_a := Lib.hid (HX_a.out.next hle)
  have HG := Lib.hid (HG.out.keep (hF.below HM0.out))
  have HSU := Lib.hid (HSU.out.next HM0.out hF)
  have HL1 : Hid (Mk.Le 0 m0 m1) := Lib.hid ((HL0.out.trans hle).mono (by omega))
  have HM1 := Lib.hid hM
  have HF1 := Lib.hid (HF0.out.trans hF)
  have HEM1 := Lib.hid hm
  clear hM hF hm hle HM0 HF0 HL0
  have HC := Lib.hid (mstate_ok E m1 V1 w1 HM1.out ((HS.out.mono (show 0 + 0 ≤ K0 by omega)).next HL1.out).cap)
  go_wp2_with fail
  refine HC.out.mono ?_
  clear HC
  rintro e9 w2 ⟨rfl, V2, hM, hF⟩
  obtain ⟨m2, hm⟩ : ∃ m9, m9 = m1.state.2 := ⟨_, rfl⟩
  rw [← hm] at hM hF
  have hle : Mk.Le 0 m1 m2 := hm ▸ m1.state_le
  obtain ⟨e, hx⟩ : ∃ x9, x9 = m1.state.1 := ⟨_, rfl⟩
  rw [← hx]
  have HX_e : Hid (m2.has e) := Lib.hid (by rw [hm, hx]; exact m1.state_has)
  have HEX_e := Lib.hid hx
  clear hx
  have HX_a := Lib.hid (HX_a.out.next hle)
  have HX_d := Lib.hid (HX_d.out.next hle)
  have HG := Lib.hid (HG.out.keep (hF.below HM1.out))
  have HSU := Lib.hid (HSU.out.next HM1.out hF)
  have HL2 : Hid (Mk.Le 0 m0 m2) := Lib.hid ((HL1.out.trans hle).mono (by omega))
  have HM2 := Lib.hid hM
  have HF2 := Lib.hid (HF1.out.trans hF)
  have HEM2 := Lib.hid hm
  clear hM hF hm hle HM1 HF1 HL1
  have HC := Lib.hid (mempty_ok E m2 V2 w2 HM2.out a d HX_a.out (by have := ((HS.out.mono (show 0 + 1 ≤ K0 by omega)).next HL2.out).edges a; omega))
  go_wp2_with fail
  refine HC.out.mono ?_
  clear HC
  rintro e9 w3 ⟨⟨v, rfl⟩, V3, hM, hF⟩
  obtain ⟨m3, hm⟩ : ∃ m9, m9 = m2.empty a d := ⟨_, rfl⟩
  rw [← hm] at hM hF
  have hle : Mk.Le 1 m2 m3 := hm ▸ m2.empty_le a d
  have HX_a := Lib.hid (HX_a.out.next hle)
  have HX_d := Lib.hid (HX_d.out.next hle)
  have HX_e := Lib.hid (HX_e.out.next hle)
  have HG := Lib.hid (HG.out.keep (hF.below HM2.out))
  have HSU := Lib.hid (HSU.out.next HM2.out hF)
  have HL3 : Hid (Mk.Le 1 m0 m3) := Lib.hid ((HL2.out.trans hle).mono (by omega))
  have HM3 := Lib.hid hM
  have HF3 := Lib.hid (HF2.out.trans hF)
  have HEM3 := Lib.hid hm
  clear hM hF hm hle HM2 HF2 HL2
  go_wp2_with fail
  go_loopw [23] (fun i wr => ∃ (j : Nat) (m10 : Mk) (V10 : MkV), i = .int .i64 j ∧ j ≤ l.length ∧ Hid (MkAt E wr m10 V10) ∧ Hid (Frk E m0 V0 m10 V10 w0 wr) ∧ Hid (Mk.Le (1 + Nd.reqs (l.take j)) m0 m10) ∧ Hid (GrAt wr E.base (some E.g0) (some E.g1) (some E.g2) (some E.g3) g) ∧ Hid (SubsAt E m10 V10 wr sa l) ∧ Hid (m10.has d) ∧ Hid (m10.has e) ∧ Hid (Nd.palts (E.nums g) (l.drop j) e d m10 = Nd.palts (E.nums g) l e d m3)) (fun i _ => l.length - (intOf i).toNat)
  case atStart =>
    exact ⟨0, m3, V3, rfl, by omega, HM3.out, HF3.out, HL3.out.mono (by omega), HG.out, HSU.out, HX_d.out, HX_e.out, rfl⟩
  case round =>
    clear HG HSU HX_d HX_e
    obtain ⟨j, m10, V10, rfl, hj, HM10, HFX, HLX, HG, HSU, HX_d, HX_e, HEQ⟩ := hrel
    by_cases hlt : j < l.length
    · obtain ⟨nb, noff, rfl, hnb, -, hnode⟩ := HSU.out j hlt
      obtain ⟨u0, u1, u2, u3, u4, e0, e1, e2, e3, e4, hnode⟩ := hnode.vals
      obtain ⟨ck, cnm, ctx, csa, csl, csc, cna, cnl, cnc, rfl, rfl, rfl, rfl, rfl⟩ := hnode.forms
      have hcnt : Nd.reqs (l.take (j + 1)) = Nd.reqs (l.take j) + (1 + l[j].req) := Nd.reqs_take l j hlt
      have hcle := Nd.reqs_take_le l (j + 1)
      have hsl : m10.Slim (1 + l[j].req) := (HS.out.mono (show 1 + Nd.reqs (l.take j) + (1 + l[j].req) ≤ K0 by omega)).next HLX.out
      have HN := Lib.hid hnode
      have HPJ := Lib.hid (HP.out j hlt)
      have HSX := HS
      clear HS
      have HS := Lib.hid hsl
      have HCNT := Lib.hid hcnt
      have hpos := l[j].req_pos
      obtain ⟨w10, hw10⟩ : ∃ w10, wr.alloc (.cells #[.int .u8 ck, .string cnm, .string ctx, .slice csa csl csc, .slice cna cnl cnc] 104) = w10 := ⟨_, rfl⟩
      have hgr : Grew wr w10 := hw10 ▸ grew_alloc wr _
      have hob : Owns w10 wr.heap.size [.int .u8 ck, .string cnm, .string ctx, .slice csa csl csc, .slice cna cnl cnc] 104 := hw10 ▸ Owns.alloc wr _ _
      have HB := Lib.hid (OwnsX.fresh HM10.out hob)
      have HG := Lib.hid (HG.out.keep (hgr.mono HM10.out.lim))
      have HN := Lib.hid (HN.out.keep (hgr.mono HM10.out.lim))
      have HSU := Lib.hid (HSU.out.next HM10.out (Frk.grew hgr))
      have HF10 := Lib.hid (HFX.out.trans (Frk.grew hgr))
      have HM10 := Lib.hid (HM10.out.grew hgr)
      have HL10 := Lib.hid (Mk.Le.refl m10)
      clear hnode hsl hcnt hcle hgr hob
      have HC := Lib.hid (mstate_ok E m10 V10 w10 HM10.out ((HS.out.mono (show 0 + 0 ≤ (1 + l[j].req) by omega)).next HL10.out).cap)
      go_wp2_with fail
      refine HC.out.mono ?_
      clear HC
      rintro e9 w11 ⟨rfl, V11, hM, hF⟩
      obtain ⟨m11, hm⟩ : ∃ m9, m9 = m10.state.2 := ⟨_, rfl⟩
      rw [← hm] at hM hF
      have hle : Mk.Le 0 m10 m11 := hm ▸ m10.state_le
      obtain ⟨x, hx⟩ : ∃ x9, x9 = m10.state.1 := ⟨_, rfl⟩
      rw [← hx]
      have HX_x : Hid (m11.has x) := Lib.hid (by rw [hm, hx]; exact m10.state_has)
      have HEX_x := Lib.hid hx
      clear hx
      have HX_d := Lib.hid (HX_d.out.next hle)
      have HX_e := Lib.hid (HX_e.out.next hle)
      have HG := Lib.hid (HG.out.keep (hF.below HM10.out))
      have HSU := Lib.hid (HSU.out.next HM10.out hF)
      have HB := Lib.hid (HB.out.next hF)
      have HN := Lib.hid (HN.out.keep (hF.below HM10.out))
      have HL11 : Hid (Mk.Le 0 m10 m11) := Lib.hid ((HL10.out.trans hle).mono (by omega))
      have HM11 := Lib.hid hM
      have HF11 := Lib.hid (HF10.out.trans hF)
      have HEM11 := Lib.hid hm
      clear hM hF hm hle HM10 HF10 HL10
      have HC := Lib.hid (malt_ok E m11 V11 w11 HM11.out d x e HX_d.out (by have := ((HS.out.mono (show 0 + 1 ≤ (1 + l[j].req) by omega)).next HL11.out).edges d; omega) (by have := ((HS.out.mono (show 0 + 1 ≤ (1 + l[j].req) by omega)).next HL11.out).ends d; omega))
      go_wp2_with fail
      refine HC.out.mono ?_
      clear HC
      rintro e9 w12 ⟨⟨v, rfl⟩, V12, hM, hF⟩
      obtain ⟨m12, hm⟩ : ∃ m9, m9 = m11.alt d x e := ⟨_, rfl⟩
      rw [← hm] at hM hF
      have hle : Mk.Le 1 m11 m12 := hm ▸ m11.alt_le d x e
      have HX_d := Lib.hid (HX_d.out.next hle)
      have HX_e := Lib.hid (HX_e.out.next hle)
      have HX_x := Lib.hid (HX_x.out.next hle)
      have HG := Lib.hid (HG.out.keep (hF.below HM11.out))
      have HSU := Lib.hid (HSU.out.next HM11.out hF)
      have HB := Lib.hid (HB.out.next hF)
      have HN := Lib.hid (HN.out.keep (hF.below HM11.out))
      have HL12 : Hid (Mk.Le 1 m10 m12) := Lib.hid ((HL11.out.trans hle).mono (by omega))
      have HM12 := Lib.hid hM
      have HF12 := Lib.hid (HF11.out.trans hF)
      have HEM12 := Lib.hid hm
      clear hM hF hm hle HM11 HF11 HL11
      have b0 := HB.out.1.cell_at (i := 0) rfl
      have b1 := HB.out.1.cell_at (i := 1) rfl
      have b2 := HB.out.1.cell_at (i := 2) rfl
      have b3 := HB.out.1.cell_at (i := 3) rfl
      have b4 := HB.out.1.cell_at (i := 4) rfl
      have bl := HB.out.1.lt
      have HC := Lib.hid (HPJ.out m12 V12 w12 (.int .u8 ck) (.string cnm) (.string ctx) (.slice csa csl csc) (.slice cna cnl cnc) x e HM12.out HG.out HN.out HX_x.out (((HS.out.mono (show 1 + (l[j]).req ≤ (1 + l[j].req) by omega)).next HL12.out).mono (by omega)))
      go_wp2_with fail
      refine HC.out.mono ?_
      clear HC
      rintro e9 w13 ⟨⟨v, rfl⟩, V13, hM, hF⟩
      obtain ⟨m13, hm⟩ : ∃ m9, m9 = (l[j]).piece (E.nums g) x e m12 := ⟨_, rfl⟩
      rw [← hm] at hM hF
      have hle : Mk.Le (l[j]).req m12 m13 := hm ▸ Nd.piece_le (E.nums g) (l[j]) x e m12
      have HX_d := Lib.hid (HX_d.out.next hle)
      have HX_e := Lib.hid (HX_e.out.next hle)
      have HX_x := Lib.hid (HX_x.out.next hle)
      have HG := Lib.hid (HG.out.keep (hF.below HM12.out))
      have HSU := Lib.hid (HSU.out.next HM12.out hF)
      have HB := Lib.hid (HB.out.next hF)
      have HN := Lib.hid (HN.out.keep (hF.below HM12.out))
      have HL13 : Hid (Mk.Le (1 + (l[j]).req) m10 m13) := Lib.hid ((HL12.out.trans hle).mono (by omega))
      have HM13 := Lib.hid hM
      have HF13 := Lib.hid (HF12.out.trans hF)
      have HEM13 := Lib.hid hm
      clear hM hF hm hle HM12 HF12 HL12
      clear b0 b1 b2 b3 b4 bl
      go_wp2_with fail
      have hd : l.drop j = l[j] :: l.drop (j + 1) := List.drop_eq_getElem_cons hlt
      have heq := HEQ.out
      rw [hd, Nd.palts, ← HEM11.out, ← HEX_x.out, ← HEM12.out, ← HEM13.out] at heq
      have hcnt := HCNT.out
      have hle9 : 1 + Nd.reqs (l.take j) + (1 + (l[j]).req) ≤ 1 + Nd.reqs (l.take (j + 1)) := by rw [hcnt]; omega
      exact ⟨⟨j + 1, m13, V13, by go_num, by omega, HM13.out, HF13.out, (HLX.out.trans HL13.out).mono hle9, HG.out, HSU.out, HX_d.out, HX_e.out, heq⟩, by simp [intOf]; omega⟩
    · obtain rfl : j = l.length := by omega
      rw [List.take_length] at HLX
      rw [List.drop_length, Nd.palts] at HEQ
      have HSX := HS
      clear HS
      have HS := Lib.hid ((HSX.out.mono (show 1 + Nd.reqs l + 1 ≤ K0 by omega)).next HLX.out)
      have HX_a := Lib.hid ((HX_a.out.next (Mk.Le.refl m3)))
      have HF10 := HFX
      have HL10 := Lib.hid (Mk.Le.refl m10)
      obtain ⟨w10, rfl⟩ : ∃ w10, w10 = wr := ⟨_, rfl⟩
      clear HX_a HFX
      have HC := Lib.hid (mempty_ok E m10 V10 w10 HM10.out e b HX_e.out (by have := ((HS.out.mono (show 0 + 1 ≤ 1 by omega)).next HL10.out).edges e; omega))
      go_wp2_with fail
      refine HC.out.mono ?_
      clear HC
      rintro e9 w11 ⟨⟨v, rfl⟩, V11, hM, hF⟩
      obtain ⟨m11, hm⟩ : ∃ m9, m9 = m10.empty e b := ⟨_, rfl⟩
      rw [← hm] at hM hF
      have hle : Mk.Le 1 m10 m11 := hm ▸ m10.empty_le e b
      have HX_e := Lib.hid (HX_e.out.next hle)
      have HL11 : Hid (Mk.Le 1 m10 m11) := Lib.hid ((HL10.out.trans hle).mono (by omega))
      have HM11 := Lib.hid hM
      have HF11 := Lib.hid (HF10.out.trans hF)
      have HEM11 := Lib.hid hm
      clear hM hF hm hle HM10 HF10 HL10
      go_wp2_with fail
      go_end0
      have hres : Nd.mkAlts (E.nums g) l a b m0 = m11 := by
        unfold Nd.mkAlts
        rw [← HEM1.out, ← HEM2.out, ← HEX_d.out, ← HEX_e.out, ← HEM3.out, ← HEQ.out, ← HEM11.out]
      rw [hres]
      exact ⟨⟨_, rfl⟩, _, HM11.out, HF11.out⟩
end Go.Proofs.Ytgdcnndmdgcjlaa

/- The first Sub of a node; a node of nothing. -/
namespace Go.Proofs.Ytgdcnndmdgcjlaa
open Go.RowKit
def NodeR (lim : Nat) (n : Nd) (v : Value) (W : World) : Prop := ∃ v0 v1 v2 v3 v4, v = .agg #[v0, v1, v2, v3, v4] ∧ NodeAt W lim (some v0) (some v1) (some v2) (some v3) (some v4) n
theorem noNd_at (W : World) (lim : Nat) : NodeAt W lim (some (.int .u8 1)) (some (.string { data := #[] })) (some (.string { data := #[] })) (some (.slice none 0 0)) (some (.slice none 0 0)) noNd := by
  unfold noNd
  rw [NodeAt]
  exact ⟨by omega, by decide, by decide, rfl, rfl, rfl, ⟨none, 0, rfl, by decide, trivial⟩, none, 0, rfl, by decide, by rw [NodesAt]; trivial⟩
set_option maxRecDepth 20000 in
theorem mnothing_ok (W : World) : Calls Try.prog 63 #[] W fun e W' => e = .returned (.agg #[.int .u8 1, .string { data := #[] }, .string { data := #[] }, .slice none 0 0, .slice none 0 0]) ∧ Grew W W' := by
  go_enter Try.func63, Try.ntmps63
  go_wp2_with fail
  refine bodyPost_ret (results_cell_row (d := Try.prog.underlying 104 |>.getD default) rfl _ _ W.heap.size 104 _ (0, 0) rfl (heap_alloc_new _ _) rfl rfl rfl) rfl ?_
  exact ⟨rfl, grew_alloc _ _⟩
theorem owns_five {w : World} {b T : Nat} {x0 x1 x2 x3 x4 : Value} (h : Owns w b [x0, x1, x2, x3, x4] T) (y0 y1 y2 y3 y4 : Value) :
    Owns (((((w.setCell ⟨b, 0, none⟩ y0).setCell ⟨b, 1, none⟩ y1).setCell ⟨b, 2, none⟩ y2).setCell ⟨b, 3, none⟩ y3).setCell ⟨b, 4, none⟩ y4) b [y0, y1, y2, y3, y4] T :=
  ((((h.set 0 y0).set 1 y1).set 2 y2).set 3 y3).set 4 y4
theorem grew_five {W w : World} {b : Nat} (h : Grew W w) (hb : W.heap.size ≤ b) (y0 y1 y2 y3 y4 : Value) : Grew W (((((w.setCell ⟨b, 0, none⟩ y0).setCell ⟨b, 1, none⟩ y1).setCell ⟨b, 2, none⟩ y2).setCell ⟨b, 3, none⟩ y3).setCell ⟨b, 4, none⟩ y4) :=
  Below.setCell (Below.setCell (Below.setCell (Below.setCell (Below.setCell h (p := ⟨b, 0, none⟩) hb y0) (p := ⟨b, 1, none⟩) hb y1) (p := ⟨b, 2, none⟩) hb y2) (p := ⟨b, 3, none⟩) hb y3) (p := ⟨b, 4, none⟩) hb y4
set_option maxHeartbeats 2000000 in
set_option maxRecDepth 20000 in
theorem msub_ok (n : Nd) (lim : Nat) (W : World) (v0 v1 v2 v3 v4 : Value) (hlim : lim ≤ W.heap.size) (hN : NodeAt W lim (some v0) (some v1) (some v2) (some v3) (some v4) n) :
    Calls Try.prog 61 #[.agg #[v0, v1, v2, v3, v4]] W fun e W' => (∃ v, e = .returned v ∧ NodeR lim n.sub1 v W') ∧ Grew W W' := by
  obtain ⟨k, nm, tx, set, subs⟩ := n
  have hN9 := hN
  obtain ⟨bk, bnm, btx, bsa, bsl, bsc, bna, bnl, bnc, rfl, rfl, rfl, rfl, rfl⟩ := hN.forms
  rw [NodeAt] at hN9
  obtain ⟨-, -, -, -, -, -, -, na, nc, hsl, -, hsubs⟩ := hN9
  simp only [Option.some.injEq, Value.slice.injEq] at hsl
  obtain ⟨rfl, rfl, rfl⟩ := hsl
  obtain ⟨ln, hln⟩ : ∃ ln, subs.length = ln := ⟨_, rfl⟩
  rw [hln]
  obtain ⟨w1, hw1⟩ : ∃ w1, W.alloc (.cells #[.int .u8 bk, .string bnm, .string btx, .slice bsa bsl bsc, .slice bna ln bnc] 104) = w1 := ⟨_, rfl⟩
  have z1 : w1.heap.size = W.heap.size + 1 := by rw [← hw1]; exact World.size_alloc W _
  have g1 : Grew W w1 := hw1 ▸ grew_alloc W _
  have o1 : Owns w1 W.heap.size [.int .u8 bk, .string bnm, .string btx, .slice bsa bsl bsc, .slice bna ln bnc] 104 := hw1 ▸ Owns.alloc W _ _
  obtain ⟨w2, hw2⟩ : ∃ w2, w1.alloc (.cells #[.int .u8 0, .string { data := #[] }, .string { data := #[] }, .slice none 0 0, .slice none 0 0] 104) = w2 := ⟨_, rfl⟩
  have g2 : Grew w1 w2 := hw2 ▸ grew_alloc w1 _
  have o2 : Owns w2 (W.heap.size + 1) [.int .u8 0, .string { data := #[] }, .string { data := #[] }, .slice none 0 0, .slice none 0 0] 104 := by rw [← z1, ← hw2]; exact Owns.alloc w1 _ _
  have c4 := (o1.keep g2).cell_at (i := 4) rfl
  have cl := (o1.keep g2).lt
  have r0 := o2.cell_at (i := 0) rfl
  have r1 := o2.cell_at (i := 1) rfl
  have r2 := o2.cell_at (i := 2) rfl
  have r3 := o2.cell_at (i := 3) rfl
  have r4 := o2.cell_at (i := 4) rfl
  have rl := o2.lt
  have f0 := o2.free 0
  have f1 := o2.free 1
  have f2 := o2.free 2
  have f3 := o2.free 3
  have f4 := o2.free 4
  have hg12 := g1.trans g2
  have HG := Lib.hid hg12
  have HO2 := Lib.hid o2
  cases subs with
  | nil =>
    simp only [List.length_nil] at hln
    subst hln
    have HC := Lib.hid (mnothing_ok w2)
    clear g1 g2 o1 o2 hg12 hsubs hN hlim r0 r1 r2 r3 r4 rl f0 f1 f2 f3 f4
    go_enter Try.func61, Try.ntmps61
    go_wp2_with fail
    refine HC.out.mono ?_
    rintro e w3 ⟨he, hg3⟩
    obtain ⟨kk, hkk⟩ : ∃ kk : Int, kk = 1 := ⟨_, rfl⟩
    obtain ⟨es, hes⟩ : ∃ es : ByteArray, es = { data := #[] } := ⟨_, rfl⟩
    rw [← hkk, ← hes] at he
    subst he
    have HK := Lib.hid hkk
    have HES := Lib.hid hes
    have o3 := HO2.out.keep hg3
    rw [← hes] at o3
    have r0 := o3.cell_at (i := 0) rfl
    have r1 := o3.cell_at (i := 1) rfl
    have r2 := o3.cell_at (i := 2) rfl
    have r3 := o3.cell_at (i := 3) rfl
    have r4 := o3.cell_at (i := 4) rfl
    have rl := o3.lt
    have f0 := o3.free 0
    have f1 := o3.free 1
    have f2 := o3.free 2
    have f3 := o3.free 3
    have f4 := o3.free 4
    have HO3 := Lib.hid (owns_five o3 (.int .u8 kk) (.string es) (.string es) (.slice none 0 0) (.slice none 0 0))
    have HG3 := Lib.hid (grew_five (HG.out.trans hg3) (show W.heap.size ≤ W.heap.size + 1 by omega) (.int .u8 kk) (.string es) (.string es) (.slice none 0 0) (.slice none 0 0))
    clear o3 hg3 HC hw1 hw2 c4 cl HG HO2 hkk hes z1
    generalize W.heap.size + 1 = rb at *
    go_wp2_with fail
    refine bodyPost_ret (results_cell_row (d := Try.prog.underlying 104 |>.getD default) rfl _ _ rb 104 _ (0, 0) rfl HO3.out rfl rfl rfl) rfl ?_
    refine ⟨⟨_, rfl, _, _, _, _, _, rfl, ?_⟩, HG3.out⟩
    rw [HK.out, HES.out]
    exact noNd_at _ _
  | cons s rest =>
    rw [NodesAt] at hsubs
    obtain ⟨⟨nb, noff, rfl, hnb, hs⟩, -⟩ := hsubs
    obtain ⟨u0, u1, u2, u3, u4, e0, e1, e2, e3, e4, hs⟩ := hs.vals
    obtain ⟨ck, cnm, ctx, csa, csl, csc, cna, cnl, cnc, rfl, rfl, rfl, rfl, rfl⟩ := hs.forms
    have hnl : nb < w2.heap.size := by have := hg12.size; omega
    have hnW : nb < W.heap.size := by omega
    have x0 := (hg12.cells _ _ hnW).trans e0
    have x1 := (hg12.cells _ _ hnW).trans e1
    have x2 := (hg12.cells _ _ hnW).trans e2
    have x3 := (hg12.cells _ _ hnW).trans e3
    have x4 := (hg12.cells _ _ hnW).trans e4
    simp only [Nat.zero_mul, Nat.add_zero] at x0 x1 x2 x3 x4
    have HS := Lib.hid hs
    have HO3 := Lib.hid (owns_five o2 (.int .u8 ck) (.string cnm) (.string ctx) (.slice csa csl csc) (.slice cna cnl cnc))
    have HG3 := Lib.hid (grew_five hg12 (show W.heap.size ≤ W.heap.size + 1 by omega) (.int .u8 ck) (.string cnm) (.string ctx) (.slice csa csl csc) (.slice cna cnl cnc))
    have HLM := Lib.hid hlim
    have hlp : 0 < ln := by rw [← hln]; simp
    have hz : ((ln : Int) == 0) = false := by rw [beq_eq_false_iff_ne]; omega
    clear g1 g2 o1 o2 hg12 hN hlim hs e0 e1 e2 e3 e4 hnb hnW hln
    go_enter Try.func61, Try.ntmps61
    go_wp2_with fail
    refine bodyPost_ret (results_cell_row (d := Try.prog.underlying 104 |>.getD default) rfl _ _ (W.heap.size + 1) 104 _ (0, 0) rfl HO3.out rfl rfl rfl) rfl ?_
    exact ⟨⟨_, rfl, _, _, _, _, _, rfl, HS.out.keep (HG3.out.mono HLM.out)⟩, HG3.out⟩
end Go.Proofs.Ytgdcnndmdgcjlaa

/- The making's piece: the cases without parts. -/
namespace Go.Proofs.Ytgdcnndmdgcjlaa
open Go.RowKit
set_option maxHeartbeats 4000000 in
set_option maxRecDepth 40000 in
theorem mpiece_full (E : MkE) (g : Gr) (hE : E.rules.length ≤ reachN ∧ E.tokens.length ≤ reachN) (k : Int) (nm tx : ByteArray) (set : List (Int × Int)) (subs : List Nd)  (m0 : Mk) (V0 : MkV) (W : World) (v0 v1 v2 v3 v4 : Value) (a b : Nat) (h : MkAt E W m0 V0) (hg : GrAt W E.base (some E.g0) (some E.g1) (some E.g2) (some E.g3) g)
    (hn : NodeAt W E.base (some v0) (some v1) (some v2) (some v3) (some v4) (.mk k nm tx set subs)) (ha : m0.has a) (hs : m0.Slim (Nd.mk k nm tx set subs).req) (hf : m0.full = true) :
    Calls Try.prog 44 #[.pointer (some ⟨E.mb, 0, none⟩), .agg #[v0, v1, v2, v3, v4], .int .i64 a, .int .i64 b] W fun e W' => (∃ v, e = .returned v) ∧ Made E m0 V0 (m0) W W' := by
  have hKp := Nd.req_pos (.mk k nm tx set subs)
  have hK9 : ¬(k = 1 ∧ subs.length = 0) → (Nd.mk k nm tx set subs).req = 9 + Nd.reqs subs := fun h => by rw [Nd.req, if_neg h]
  generalize (Nd.mk k nm tx set subs).req = K at hs hKp hK9
  have hn9 := hn
  obtain ⟨bk, bnm, btx, bsa, bsl, bsc, bna, bnl, bnc, rfl, rfl, rfl, rfl, rfl⟩ := hn.forms
  rw [NodeAt] at hn9
  obtain ⟨-, -, -, hz0, hz1, -, -, na, nc, hz4, hsl, hsubs⟩ := hn9
  simp only [Option.some.injEq, Value.slice.injEq, Value.int.injEq, true_and] at hz4 hz0
  have hy1 := Value.string.inj (Option.some.inj hz1)
  clear hz1
  subst hy1
  obtain ⟨rfl, rfl, rfl⟩ := hz4
  have hy0 := hz0.symm
  clear hz0
  subst hy0
  obtain ⟨w0, hw0⟩ : ∃ w0, W.alloc (.cells #[.int .u8 k, .string bnm, .string btx, .slice bsa bsl bsc, .slice bna subs.length bnc] 104) = w0 := ⟨_, rfl⟩
  have hgr : Grew W w0 := hw0 ▸ grew_alloc W _
  have hob : Owns w0 W.heap.size [.int .u8 k, .string bnm, .string btx, .slice bsa bsl bsc, .slice bna subs.length bnc] 104 := hw0 ▸ Owns.alloc W _ _
  have HB := Lib.hid (OwnsX.fresh h hob)
  have HG := Lib.hid (hg.keep (hgr.mono h.lim))
  have HN := Lib.hid (hn.keep (hgr.mono h.lim))
  have HF0 := Lib.hid (Frk.grew (E := E) (m := m0) (V := V0) hgr)
  have hm9 := h.grew hgr
  have c14 := hm9.box.cell_at (i := 14) rfl
  rw [hf] at c14
  have cl := hm9.box.lt
  have b0 := hob.cell_at (i := 0) rfl
  have b1 := hob.cell_at (i := 1) rfl
  have b2 := hob.cell_at (i := 2) rfl
  have b3 := hob.cell_at (i := 3) rfl
  have b4 := hob.cell_at (i := 4) rfl
  have bl := hob.lt
  have HSUB := Lib.hid (SubsAt.of h hsubs)
  have HSU := Lib.hid (HSUB.out.next h (Frk.grew hgr))
  have HM0 := Lib.hid hm9
  have HL0 := Lib.hid (Mk.Le.refl m0)
  have HS := Lib.hid hs
  have HFU := Lib.hid hf
  have HX_a := Lib.hid ha
  have HE := Lib.hid hE
  unfold reachN at hsl
  clear h hg hn ha hs hgr hob hm9 hsubs HSUB hE hf
  go_enter Try.func44, Try.ntmps44
  go_wp2_with fail
  go_end0
  exact ⟨⟨_, rfl⟩, V0, HM0.out, HF0.out⟩
set_option maxHeartbeats 4000000 in
set_option maxRecDepth 40000 in
theorem mpiece_else (E : MkE) (g : Gr) (hE : E.rules.length ≤ reachN ∧ E.tokens.length ≤ reachN) (k : Int) (nm tx : ByteArray) (set : List (Int × Int)) (subs : List Nd) (h6 : (k == 6) = false) (h5 : (k == 5) = false) (h7 : (k == 7) = false) (h1 : (k == 1) = false) (h0 : (k == 0) = false) (h2 : (k == 2) = false) (h3 : (k == 3) = false) (h4 : (k == 4) = false) (m0 : Mk) (V0 : MkV) (W : World) (v0 v1 v2 v3 v4 : Value) (a b : Nat) (h : MkAt E W m0 V0) (hg : GrAt W E.base (some E.g0) (some E.g1) (some E.g2) (some E.g3) g)
    (hn : NodeAt W E.base (some v0) (some v1) (some v2) (some v3) (some v4) (.mk k nm tx set subs)) (ha : m0.has a) (hs : m0.Slim (Nd.mk k nm tx set subs).req) (hf : m0.full = false) :
    Calls Try.prog 44 #[.pointer (some ⟨E.mb, 0, none⟩), .agg #[v0, v1, v2, v3, v4], .int .i64 a, .int .i64 b] W fun e W' => (∃ v, e = .returned v) ∧ Made E m0 V0 (m0.empty a b) W W' := by
  have hKp := Nd.req_pos (.mk k nm tx set subs)
  have hK9 : ¬(k = 1 ∧ subs.length = 0) → (Nd.mk k nm tx set subs).req = 9 + Nd.reqs subs := fun h => by rw [Nd.req, if_neg h]
  generalize (Nd.mk k nm tx set subs).req = K at hs hKp hK9
  have hn9 := hn
  obtain ⟨bk, bnm, btx, bsa, bsl, bsc, bna, bnl, bnc, rfl, rfl, rfl, rfl, rfl⟩ := hn.forms
  rw [NodeAt] at hn9
  obtain ⟨-, -, -, hz0, hz1, -, -, na, nc, hz4, hsl, hsubs⟩ := hn9
  simp only [Option.some.injEq, Value.slice.injEq, Value.int.injEq, true_and] at hz4 hz0
  have hy1 := Value.string.inj (Option.some.inj hz1)
  clear hz1
  subst hy1
  obtain ⟨rfl, rfl, rfl⟩ := hz4
  have hy0 := hz0.symm
  clear hz0
  subst hy0
  obtain ⟨w0, hw0⟩ : ∃ w0, W.alloc (.cells #[.int .u8 k, .string bnm, .string btx, .slice bsa bsl bsc, .slice bna subs.length bnc] 104) = w0 := ⟨_, rfl⟩
  have hgr : Grew W w0 := hw0 ▸ grew_alloc W _
  have hob : Owns w0 W.heap.size [.int .u8 k, .string bnm, .string btx, .slice bsa bsl bsc, .slice bna subs.length bnc] 104 := hw0 ▸ Owns.alloc W _ _
  have HB := Lib.hid (OwnsX.fresh h hob)
  have HG := Lib.hid (hg.keep (hgr.mono h.lim))
  have HN := Lib.hid (hn.keep (hgr.mono h.lim))
  have HF0 := Lib.hid (Frk.grew (E := E) (m := m0) (V := V0) hgr)
  have hm9 := h.grew hgr
  have c14 := hm9.box.cell_at (i := 14) rfl
  rw [hf] at c14
  have cl := hm9.box.lt
  have b0 := hob.cell_at (i := 0) rfl
  have b1 := hob.cell_at (i := 1) rfl
  have b2 := hob.cell_at (i := 2) rfl
  have b3 := hob.cell_at (i := 3) rfl
  have b4 := hob.cell_at (i := 4) rfl
  have bl := hob.lt
  have HSUB := Lib.hid (SubsAt.of h hsubs)
  have HSU := Lib.hid (HSUB.out.next h (Frk.grew hgr))
  have HM0 := Lib.hid hm9
  have HL0 := Lib.hid (Mk.Le.refl m0)
  have HS := Lib.hid hs
  have HFU := Lib.hid hf
  have HX_a := Lib.hid ha
  have HE := Lib.hid hE
  unfold reachN at hsl
  clear h hg hn ha hs hgr hob hm9 hsubs HSUB hE hf
  go_enter Try.func44, Try.ntmps44
  have HC := Lib.hid (mempty_ok E m0 V0 w0 HM0.out a b HX_a.out (by have := ((HS.out.mono (show 0 + 1 ≤ K by omega)).next HL0.out).edges a; omega))
  go_wp2_with fail
  refine HC.out.mono ?_
  clear HC
  rintro e9 w1 ⟨⟨v, rfl⟩, V1, hM, hF⟩
  obtain ⟨m1, hm⟩ : ∃ m9, m9 = m0.empty a b := ⟨_, rfl⟩
  rw [← hm] at hM hF
  have hle : Mk.Le 1 m0 m1 := hm ▸ m0.empty_le a b
  have HX_a := Lib.hid (HX_a.out.next hle)
  have HL1 : Hid (Mk.Le 1 m0 m1) := Lib.hid ((HL0.out.trans hle).mono (by omega))
  have HM1 := Lib.hid hM
  have HF1 := Lib.hid (HF0.out.trans hF)
  have HEM1 := Lib.hid hm
  clear hM hF hm hle HM0 HF0 HL0
  go_wp2_with fail
  go_end0
  rw [← HEM1.out]
  exact ⟨⟨_, rfl⟩, V1, HM1.out, HF1.out⟩
set_option maxHeartbeats 4000000 in
set_option maxRecDepth 40000 in
theorem mpiece_none (E : MkE) (g : Gr) (hE : E.rules.length ≤ reachN ∧ E.tokens.length ≤ reachN) (k : Int) (nm tx : ByteArray) (set : List (Int × Int)) (subs : List Nd) (hk : k = 1) (hsb : subs = []) (m0 : Mk) (V0 : MkV) (W : World) (v0 v1 v2 v3 v4 : Value) (a b : Nat) (h : MkAt E W m0 V0) (hg : GrAt W E.base (some E.g0) (some E.g1) (some E.g2) (some E.g3) g)
    (hn : NodeAt W E.base (some v0) (some v1) (some v2) (some v3) (some v4) (.mk k nm tx set subs)) (ha : m0.has a) (hs : m0.Slim (Nd.mk k nm tx set subs).req) (hf : m0.full = false) :
    Calls Try.prog 44 #[.pointer (some ⟨E.mb, 0, none⟩), .agg #[v0, v1, v2, v3, v4], .int .i64 a, .int .i64 b] W fun e W' => (∃ v, e = .returned v) ∧ Made E m0 V0 (m0.empty a b) W W' := by
  have hKp := Nd.req_pos (.mk k nm tx set subs)
  have hK9 : ¬(k = 1 ∧ subs.length = 0) → (Nd.mk k nm tx set subs).req = 9 + Nd.reqs subs := fun h => by rw [Nd.req, if_neg h]
  generalize (Nd.mk k nm tx set subs).req = K at hs hKp hK9
  have hn9 := hn
  obtain ⟨bk, bnm, btx, bsa, bsl, bsc, bna, bnl, bnc, rfl, rfl, rfl, rfl, rfl⟩ := hn.forms
  rw [NodeAt] at hn9
  obtain ⟨-, -, -, hz0, hz1, -, -, na, nc, hz4, hsl, hsubs⟩ := hn9
  simp only [Option.some.injEq, Value.slice.injEq, Value.int.injEq, true_and] at hz4 hz0
  have hy1 := Value.string.inj (Option.some.inj hz1)
  clear hz1
  subst hy1
  obtain ⟨rfl, rfl, rfl⟩ := hz4
  have hy0 := hz0.symm
  clear hz0
  subst hy0
  subst hk
  subst hsb
  clear hK9
  simp only [List.length_nil] at *
  have h6 : ((1 : Int) == 6) = false := by decide
  have h5 : ((1 : Int) == 5) = false := by decide
  have h7 : ((1 : Int) == 7) = false := by decide
  have h1 : ((1 : Int) == 1) = true := by decide
  have h0 : ((1 : Int) == 0) = false := by decide
  have h2 : ((1 : Int) == 2) = false := by decide
  have h3 : ((1 : Int) == 3) = false := by decide
  have h4 : ((1 : Int) == 4) = false := by decide
  obtain ⟨w0, hw0⟩ : ∃ w0, W.alloc (.cells #[.int .u8 1, .string bnm, .string btx, .slice bsa bsl bsc, .slice bna 0 bnc] 104) = w0 := ⟨_, rfl⟩
  have hgr : Grew W w0 := hw0 ▸ grew_alloc W _
  have hob : Owns w0 W.heap.size [.int .u8 1, .string bnm, .string btx, .slice bsa bsl bsc, .slice bna 0 bnc] 104 := hw0 ▸ Owns.alloc W _ _
  have HB := Lib.hid (OwnsX.fresh h hob)
  have HG := Lib.hid (hg.keep (hgr.mono h.lim))
  have HN := Lib.hid (hn.keep (hgr.mono h.lim))
  have HF0 := Lib.hid (Frk.grew (E := E) (m := m0) (V := V0) hgr)
  have hm9 := h.grew hgr
  have c14 := hm9.box.cell_at (i := 14) rfl
  rw [hf] at c14
  have cl := hm9.box.lt
  have b0 := hob.cell_at (i := 0) rfl
  have b1 := hob.cell_at (i := 1) rfl
  have b2 := hob.cell_at (i := 2) rfl
  have b3 := hob.cell_at (i := 3) rfl
  have b4 := hob.cell_at (i := 4) rfl
  have bl := hob.lt
  have HSUB := Lib.hid (SubsAt.of h hsubs)
  have HSU := Lib.hid (HSUB.out.next h (Frk.grew hgr))
  have HM0 := Lib.hid hm9
  have HL0 := Lib.hid (Mk.Le.refl m0)
  have HS := Lib.hid hs
  have HFU := Lib.hid hf
  have HX_a := Lib.hid ha
  have HE := Lib.hid hE
  unfold reachN at hsl
  clear h hg hn ha hs hgr hob hm9 hsubs HSUB hE hf
  go_enter Try.func44, Try.ntmps44
  have HC := Lib.hid (mempty_ok E m0 V0 w0 HM0.out a b HX_a.out (by have := ((HS.out.mono (show 0 + 1 ≤ K by omega)).next HL0.out).edges a; omega))
  go_wp2_with fail
  refine HC.out.mono ?_
  clear HC
  rintro e9 w1 ⟨⟨v, rfl⟩, V1, hM, hF⟩
  obtain ⟨m1, hm⟩ : ∃ m9, m9 = m0.empty a b := ⟨_, rfl⟩
  rw [← hm] at hM hF
  have hle : Mk.Le 1 m0 m1 := hm ▸ m0.empty_le a b
  have HX_a := Lib.hid (HX_a.out.next hle)
  have HL1 : Hid (Mk.Le 1 m0 m1) := Lib.hid ((HL0.out.trans hle).mono (by omega))
  have HM1 := Lib.hid hM
  have HF1 := Lib.hid (HF0.out.trans hF)
  have HEM1 := Lib.hid hm
  clear hM hF hm hle HM0 HF0 HL0
  go_wp2_with fail
  go_end0
  rw [← HEM1.out]
  exact ⟨⟨_, rfl⟩, V1, HM1.out, HF1.out⟩
set_option maxHeartbeats 4000000 in
set_option maxRecDepth 40000 in
theorem mpiece_tok (E : MkE) (g : Gr) (hE : E.rules.length ≤ reachN ∧ E.tokens.length ≤ reachN) (k : Int) (nm tx : ByteArray) (set : List (Int × Int)) (subs : List Nd) (hk : k = 6) (m0 : Mk) (V0 : MkV) (W : World) (v0 v1 v2 v3 v4 : Value) (a b : Nat) (h : MkAt E W m0 V0) (hg : GrAt W E.base (some E.g0) (some E.g1) (some E.g2) (some E.g3) g)
    (hn : NodeAt W E.base (some v0) (some v1) (some v2) (some v3) (some v4) (.mk k nm tx set subs)) (ha : m0.has a) (hs : m0.Slim (Nd.mk k nm tx set subs).req) (hf : m0.full = false) :
    Calls Try.prog 44 #[.pointer (some ⟨E.mb, 0, none⟩), .agg #[v0, v1, v2, v3, v4], .int .i64 a, .int .i64 b] W fun e W' => (∃ v, e = .returned v) ∧ Made E m0 V0 (m0.edge a 1 ((E.nums g).tok nm) b) W W' := by
  have hKp := Nd.req_pos (.mk k nm tx set subs)
  have hK9 : ¬(k = 1 ∧ subs.length = 0) → (Nd.mk k nm tx set subs).req = 9 + Nd.reqs subs := fun h => by rw [Nd.req, if_neg h]
  generalize (Nd.mk k nm tx set subs).req = K at hs hKp hK9
  have hn9 := hn
  obtain ⟨bk, bnm, btx, bsa, bsl, bsc, bna, bnl, bnc, rfl, rfl, rfl, rfl, rfl⟩ := hn.forms
  rw [NodeAt] at hn9
  obtain ⟨-, -, -, hz0, hz1, -, -, na, nc, hz4, hsl, hsubs⟩ := hn9
  simp only [Option.some.injEq, Value.slice.injEq, Value.int.injEq, true_and] at hz4 hz0
  have hy1 := Value.string.inj (Option.some.inj hz1)
  clear hz1
  subst hy1
  obtain ⟨rfl, rfl, rfl⟩ := hz4
  have hy0 := hz0.symm
  clear hz0
  subst hy0
  subst hk
  have hK9 := hK9 (by rintro ⟨h, _⟩; exact absurd h (by decide))
  have hk6 : ((6 : Int) == 6) = true := by decide
  obtain ⟨w0, hw0⟩ : ∃ w0, W.alloc (.cells #[.int .u8 6, .string bnm, .string btx, .slice bsa bsl bsc, .slice bna subs.length bnc] 104) = w0 := ⟨_, rfl⟩
  have hgr : Grew W w0 := hw0 ▸ grew_alloc W _
  have hob : Owns w0 W.heap.size [.int .u8 6, .string bnm, .string btx, .slice bsa bsl bsc, .slice bna subs.length bnc] 104 := hw0 ▸ Owns.alloc W _ _
  have HB := Lib.hid (OwnsX.fresh h hob)
  have HG := Lib.hid (hg.keep (hgr.mono h.lim))
  have HN := Lib.hid (hn.keep (hgr.mono h.lim))
  have HF0 := Lib.hid (Frk.grew (E := E) (m := m0) (V := V0) hgr)
  have hm9 := h.grew hgr
  have c14 := hm9.box.cell_at (i := 14) rfl
  rw [hf] at c14
  have cl := hm9.box.lt
  have b0 := hob.cell_at (i := 0) rfl
  have b1 := hob.cell_at (i := 1) rfl
  have b2 := hob.cell_at (i := 2) rfl
  have b3 := hob.cell_at (i := 3) rfl
  have b4 := hob.cell_at (i := 4) rfl
  have bl := hob.lt
  have HSUB := Lib.hid (SubsAt.of h hsubs)
  have HSU := Lib.hid (HSUB.out.next h (Frk.grew hgr))
  have HM0 := Lib.hid hm9
  have HL0 := Lib.hid (Mk.Le.refl m0)
  have HS := Lib.hid hs
  have HFU := Lib.hid hf
  have HX_a := Lib.hid ha
  have HE := Lib.hid hE
  unfold reachN at hsl
  have c5 := hm9.box.cell_at (i := 5) rfl
  obtain ⟨la, lc, hla⟩ : ∃ la lc, V0.iv .tokens = .slice la E.tokens.length lc := loose_form (hm9.ints .tokens trivial)
  rw [hla] at c5
  have HNUM : Hid (∀ w, Grew w0 w → Calls Try.prog 60 #[.pointer (some ⟨E.mb, 0, none⟩), .agg #[.int .u8 6, .string bnm, .string btx, .slice bsa bsl bsc, .slice bna subs.length bnc], .slice la E.tokens.length lc] w fun e W' => e = .returned (.int .i64 ((E.nums g).tok bnm)) ∧ Grew w W') :=
    Lib.hid fun w hw => by
      have hiv := loose_ints (((hm9.grew hw).ints .tokens trivial))
      rw [hla] at hiv
      exact mnumber_ok E m0 V0 w (hm9.grew hw) g (HG.out.keep (hw.mono hm9.lim)) E.tokens _ HE.out.2 hiv _ _ _ _ _ _ (HN.out.keep (hw.mono hm9.lim))
  clear hla
  clear h hg hn ha hs hgr hob hm9 hsubs HSUB hE hf
  go_enter Try.func44, Try.ntmps44
  go_wp2_with fail
  refine wp_region_hav_lit follows (by kernel_rfl) ?_
  repeat (first
    | (refine HavG.skip (fun _ => rfl) ?_; simp only [Act.put, List.setIfInBounds_toArray, List.set_cons_zero, List.set_cons_succ])
    | (refine HavG.val (fun _ => rfl) ?_ (fun x w hw _ => ?_) ?_; rotate_left; (focus (have hc := hw.cells; clear hw; go_simp; first | done | rfl)); simp only [Act.put, List.setIfInBounds_toArray, List.set_cons_zero, List.set_cons_succ]))
  refine HavG.det (fun _ => rfl) (.int .i64 ((E.nums g).tok bnm)) (fun x w hw _ => ?_) ?_
  · have HW := Lib.hid hw
    clear hw
    go_simp
    refine (HNUM.out _ HW.out).mono ?_
    rintro e w' ⟨rfl, hb⟩
    exact ⟨rfl, hb⟩
  simp only [Act.put, List.setIfInBounds_toArray, List.set_cons_zero, List.set_cons_succ]
  repeat (first
    | (refine HavG.skip (fun _ => rfl) ?_; simp only [Act.put, List.setIfInBounds_toArray, List.set_cons_zero, List.set_cons_succ])
    | (refine HavG.val (fun _ => rfl) ?_ (fun x w hw _ => ?_) ?_; rotate_left; (focus (have hc := hw.cells; clear hw; go_simp; first | done | rfl)); simp only [Act.put, List.setIfInBounds_toArray, List.set_cons_zero, List.set_cons_succ]))
  refine HavG.tail (by kernel_rfl) (by kernel_rfl) (fun x w hw _ => ?_)
  have HC := Lib.hid (medge_ok E m0 V0 w (HM0.out.grew hw) a 1 ((E.nums g).tok bnm) b HX_a.out (by have := HS.out.edges a; omega))
  have HW := Lib.hid (HF0.out.trans (Frk.grew (E := E) (m := m0) (V := V0) hw))
  clear hw
  go_wp2_with fail
  refine HC.out.mono ?_
  rintro e w1 ⟨⟨v, rfl⟩, V1, hM, hF⟩
  have HM1 := Lib.hid hM
  have HF1 := Lib.hid (HW.out.trans hF)
  clear hM hF
  go_wp2_with fail
  go_end0
  exact ⟨⟨_, rfl⟩, V1, HM1.out, HF1.out⟩
set_option maxHeartbeats 4000000 in
set_option maxRecDepth 40000 in
theorem mpiece_ref (E : MkE) (g : Gr) (hE : E.rules.length ≤ reachN ∧ E.tokens.length ≤ reachN) (k : Int) (nm tx : ByteArray) (set : List (Int × Int)) (subs : List Nd) (hk : k = 5) (m0 : Mk) (V0 : MkV) (W : World) (v0 v1 v2 v3 v4 : Value) (a b : Nat) (h : MkAt E W m0 V0) (hg : GrAt W E.base (some E.g0) (some E.g1) (some E.g2) (some E.g3) g)
    (hn : NodeAt W E.base (some v0) (some v1) (some v2) (some v3) (some v4) (.mk k nm tx set subs)) (ha : m0.has a) (hs : m0.Slim (Nd.mk k nm tx set subs).req) (hf : m0.full = false) :
    Calls Try.prog 44 #[.pointer (some ⟨E.mb, 0, none⟩), .agg #[v0, v1, v2, v3, v4], .int .i64 a, .int .i64 b] W fun e W' => (∃ v, e = .returned v) ∧ Made E m0 V0 (m0.edge a 2 ((E.nums g).rule nm) b) W W' := by
  have hKp := Nd.req_pos (.mk k nm tx set subs)
  have hK9 : ¬(k = 1 ∧ subs.length = 0) → (Nd.mk k nm tx set subs).req = 9 + Nd.reqs subs := fun h => by rw [Nd.req, if_neg h]
  generalize (Nd.mk k nm tx set subs).req = K at hs hKp hK9
  have hn9 := hn
  obtain ⟨bk, bnm, btx, bsa, bsl, bsc, bna, bnl, bnc, rfl, rfl, rfl, rfl, rfl⟩ := hn.forms
  rw [NodeAt] at hn9
  obtain ⟨-, -, -, hz0, hz1, -, -, na, nc, hz4, hsl, hsubs⟩ := hn9
  simp only [Option.some.injEq, Value.slice.injEq, Value.int.injEq, true_and] at hz4 hz0
  have hy1 := Value.string.inj (Option.some.inj hz1)
  clear hz1
  subst hy1
  obtain ⟨rfl, rfl, rfl⟩ := hz4
  have hy0 := hz0.symm
  clear hz0
  subst hy0
  subst hk
  have hK9 := hK9 (by rintro ⟨h, _⟩; exact absurd h (by decide))
  have hk6 : ((5 : Int) == 6) = false := by decide
  have hk5 : ((5 : Int) == 5) = true := by decide
  obtain ⟨w0, hw0⟩ : ∃ w0, W.alloc (.cells #[.int .u8 5, .string bnm, .string btx, .slice bsa bsl bsc, .slice bna subs.length bnc] 104) = w0 := ⟨_, rfl⟩
  have hgr : Grew W w0 := hw0 ▸ grew_alloc W _
  have hob : Owns w0 W.heap.size [.int .u8 5, .string bnm, .string btx, .slice bsa bsl bsc, .slice bna subs.length bnc] 104 := hw0 ▸ Owns.alloc W _ _
  have HB := Lib.hid (OwnsX.fresh h hob)
  have HG := Lib.hid (hg.keep (hgr.mono h.lim))
  have HN := Lib.hid (hn.keep (hgr.mono h.lim))
  have HF0 := Lib.hid (Frk.grew (E := E) (m := m0) (V := V0) hgr)
  have hm9 := h.grew hgr
  have c14 := hm9.box.cell_at (i := 14) rfl
  rw [hf] at c14
  have cl := hm9.box.lt
  have b0 := hob.cell_at (i := 0) rfl
  have b1 := hob.cell_at (i := 1) rfl
  have b2 := hob.cell_at (i := 2) rfl
  have b3 := hob.cell_at (i := 3) rfl
  have b4 := hob.cell_at (i := 4) rfl
  have bl := hob.lt
  have HSUB := Lib.hid (SubsAt.of h hsubs)
  have HSU := Lib.hid (HSUB.out.next h (Frk.grew hgr))
  have HM0 := Lib.hid hm9
  have HL0 := Lib.hid (Mk.Le.refl m0)
  have HS := Lib.hid hs
  have HFU := Lib.hid hf
  have HX_a := Lib.hid ha
  have HE := Lib.hid hE
  unfold reachN at hsl
  have c4 := hm9.box.cell_at (i := 4) rfl
  obtain ⟨la, lc, hla⟩ : ∃ la lc, V0.iv .rules = .slice la E.rules.length lc := loose_form (hm9.ints .rules trivial)
  rw [hla] at c4
  have HNUM : Hid (∀ w, Grew w0 w → Calls Try.prog 60 #[.pointer (some ⟨E.mb, 0, none⟩), .agg #[.int .u8 5, .string bnm, .string btx, .slice bsa bsl bsc, .slice bna subs.length bnc], .slice la E.rules.length lc] w fun e W' => e = .returned (.int .i64 ((E.nums g).rule bnm)) ∧ Grew w W') :=
    Lib.hid fun w hw => by
      have hiv := loose_ints (((hm9.grew hw).ints .rules trivial))
      rw [hla] at hiv
      exact mnumber_ok E m0 V0 w (hm9.grew hw) g (HG.out.keep (hw.mono hm9.lim)) E.rules _ HE.out.1 hiv _ _ _ _ _ _ (HN.out.keep (hw.mono hm9.lim))
  clear hla
  clear h hg hn ha hs hgr hob hm9 hsubs HSUB hE hf
  go_enter Try.func44, Try.ntmps44
  go_wp2_with fail
  refine wp_region_hav_lit follows (by kernel_rfl) ?_
  repeat (first
    | (refine HavG.skip (fun _ => rfl) ?_; simp only [Act.put, List.setIfInBounds_toArray, List.set_cons_zero, List.set_cons_succ])
    | (refine HavG.val (fun _ => rfl) ?_ (fun x w hw _ => ?_) ?_; rotate_left; (focus (have hc := hw.cells; clear hw; go_simp; first | done | rfl)); simp only [Act.put, List.setIfInBounds_toArray, List.set_cons_zero, List.set_cons_succ]))
  refine HavG.det (fun _ => rfl) (.int .i64 ((E.nums g).rule bnm)) (fun x w hw _ => ?_) ?_
  · have HW := Lib.hid hw
    clear hw
    go_simp
    refine (HNUM.out _ HW.out).mono ?_
    rintro e w' ⟨rfl, hb⟩
    exact ⟨rfl, hb⟩
  simp only [Act.put, List.setIfInBounds_toArray, List.set_cons_zero, List.set_cons_succ]
  repeat (first
    | (refine HavG.skip (fun _ => rfl) ?_; simp only [Act.put, List.setIfInBounds_toArray, List.set_cons_zero, List.set_cons_succ])
    | (refine HavG.val (fun _ => rfl) ?_ (fun x w hw _ => ?_) ?_; rotate_left; (focus (have hc := hw.cells; clear hw; go_simp; first | done | rfl)); simp only [Act.put, List.setIfInBounds_toArray, List.set_cons_zero, List.set_cons_succ]))
  refine HavG.tail (by kernel_rfl) (by kernel_rfl) (fun x w hw _ => ?_)
  have HC := Lib.hid (medge_ok E m0 V0 w (HM0.out.grew hw) a 2 ((E.nums g).rule bnm) b HX_a.out (by have := HS.out.edges a; omega))
  have HW := Lib.hid (HF0.out.trans (Frk.grew (E := E) (m := m0) (V := V0) hw))
  clear hw
  go_wp2_with fail
  refine HC.out.mono ?_
  rintro e w1 ⟨⟨v, rfl⟩, V1, hM, hF⟩
  have HM1 := Lib.hid hM
  have HF1 := Lib.hid (HW.out.trans hF)
  clear hM hF
  go_wp2_with fail
  go_end0
  exact ⟨⟨_, rfl⟩, V1, HM1.out, HF1.out⟩
end Go.Proofs.Ytgdcnndmdgcjlaa
