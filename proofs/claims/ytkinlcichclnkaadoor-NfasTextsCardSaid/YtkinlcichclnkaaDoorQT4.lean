/- A row of the call's own that may be shorter than the block in which it lies: append onto it. -/
import Derived.Test.YtkinlcichclnkaaDoorRows
import Derived.WalkKit
import Derived.Deep.AppendLies
import Derived.Deep.CutBlock
import Derived.Deep.DeepCutAuto
import Derived.Deep.LoopGhost
import Derived.Deep.RegionLaw
import Derived.Test.YtkinlcichclnkaaDoorQT1
import Derived.Test.YtkinlcichclnkaaDoorQT3
namespace Go.Proofs.YtkinlcichclnkaaDoor
open Go.RowKit

def looseRow (w : World) (base : Nat) (e : TypeId) (size : Nat) (v : Value) (n : Nat) (xs : List Value) : Prop :=
  xs.length = n * size ∧
  ((v = .slice none 0 0 ∧ n = 0) ∨
   ∃ g cap cur, v = .slice (some ⟨g, 0, none⟩) n cap ∧ base ≤ g ∧ w.heap[g]? = some (.cells cur e (0, 0)) ∧ n ≤ cap ∧ cap ≤ maxLen ∧ cap * size ≤ cur.size ∧ cur.toList.take (n * size) = xs)
theorem looseRow_of {w : World} {base e size n : Nat} {v : Value} {xs : List Value} (h : w.ownsRow base e size v n xs) : looseRow w base e size v n xs := by
  refine ⟨h.1, h.2.imp id ?_⟩
  rintro ⟨g, cap, cur, h1, h2, h3, h4, h5, h6, h7⟩
  exact ⟨g, cap, cur, h1, h2, h3, h4, h5, Nat.le_of_eq h6.symm, h7⟩
theorem looseRow_cells {w : World} {base e size n : Nat} {v : Value} {xs : List Value} (h : looseRow w base e size v n xs) {g : Nat} (hg : v.ownBlock = some g) : ∀ (j : Nat) u, xs[j]? = some u → w.cell? ⟨g, j, none⟩ = some u := by
  intro j u hj
  rcases h.2 with ⟨rfl, _⟩ | ⟨g', cap, cur, rfl, _, hb, _, _, _, htake⟩
  · simp [Value.ownBlock] at hg
  · simp only [Value.ownBlock, Option.some.injEq] at hg
    subst hg
    rw [← htake, List.getElem?_take] at hj
    split at hj
    · rw [cell_of_row w g' j cur e (0, 0) hb]
      simpa using hj
    · cases hj

section
variable {P : Program} (w : World)
theorem run_append_loose (t ty : TypeId) (base : Nat) (e : TypeId) (i : TypeInfo) (z : Value) (size bytes : Nat) (ht : P.underlying t = some (.slice e)) (hi : P.info? e = some i) (hz : i.zero = some z)
    (hsize : i.size = size) (hby : i.bytes = bytes) (hzs : z.cells.size = size) (_hsz : 0 < size)
    (v : Value) (n : Nat) (xs : List Value) (hown : looseRow w base e size v n xs)
    (ad : Addr) (m c : Nat) (news : List Value) (hl : news.length = m * size) (hnews : ∀ j u, news[j]? = some u → w.cell? (ad.add j) = some u) (h1 : ∀ u ∈ news, u.oneCell' = true)
    (hm : 0 < m) (h63 : n + m ≤ maxLen) (hbytes : (n + m) * bytes ≤ 140737488355328) (hbase : base ≤ w.heap.size) (H : Nat) (hH : w.heap.size = H) :
    ∃ g cap w', (Builtin.append_ #[t, t] ty #[v, .slice (some ad) m c]).run P w = .ok (.slice (some ⟨g, 0, none⟩) (n + m) cap) w' ∧
      looseRow w' base e size (.slice (some ⟨g, 0, none⟩) (n + m) cap) (n + m) (xs ++ news) ∧ w.grownBy w' v.ownBlock ∧ (v.ownBlock = some g ∨ g = H) ∧ g < w'.heap.size := by
  subst hsize
  subst hby
  subst hH
  have hsmall : n + m ≤ 9223372036854775807 := by simp only [maxLen] at h63; omega
  have hlen : (xs ++ news).length = (n + m) * i.size := by rw [List.length_append, hown.1, hl, Nat.add_mul]
  have grown : ∀ (old : Nat), old < n + m → ∀ (row : Option Nat),
      looseRow (w.drew.alloc (.cells (xs.toArray ++ news.toArray ++ Builtin.zeroCells z.cells (grownCap w (n + m) old e - (n + m))) e)) base e i.size
        (.slice (some ⟨w.heap.size, 0, none⟩) (n + m) (grownCap w (n + m) old e)) (n + m) (xs ++ news) ∧
      w.grownBy (w.drew.alloc (.cells (xs.toArray ++ news.toArray ++ Builtin.zeroCells z.cells (grownCap w (n + m) old e - (n + m))) e)) row := by
    intro old ho row
    have hge := grownCap_ge w (n + m) old e
    have hcm : grownCap w (n + m) old e ≤ maxLen := grownCap_le_maxLen w (n + m) old e h63
    refine ⟨⟨hlen, .inr ⟨w.heap.size, _, _, rfl, hbase, heap_alloc_new w.drew _, hge, hcm, ?_, ?_⟩⟩, ⟨rfl, rfl, rfl, by simp, fun k hk _ => (Below.refl _ w.drew).alloc (Nat.le_refl _) _ |>.block k hk⟩⟩
    · apply Nat.le_of_eq
      simp only [Array.size_append, List.size_toArray, size_zeroCells, hzs, hown.1, hl, ← Nat.add_mul]
      congr 1
      omega
    · simp only [Array.toList_append, List.append_assoc]
      rw [← List.append_assoc, ← hlen]
      exact List.take_left
  have fresh : ∀ {cs : Array Value}, w.heap.size < (w.drew.alloc (.cells cs e)).heap.size := by intro cs; simp
  rcases hown.2 with ⟨rfl, rfl⟩ | ⟨g, cap, cur, rfl, hbg, hg, hnc, hcm, hcs, htake⟩
  · have hx : xs = [] := List.eq_nil_of_length_eq_zero (by simpa using hown.1)
    subst hx
    have hr := run_append_nil (P := P) w t ty e i z ht hi hz ad m c news hl hnews (by omega) (by omega) (by have hb := hbytes; simp only [Nat.zero_add] at hb; omega)
    have hgr := grown 0 (by omega) (Value.ownBlock (.slice none 0 0))
    simp only [Nat.zero_add, List.nil_append, Array.empty_append] at hgr ⊢
    exact ⟨_, _, _, hr, hgr.1, hgr.2, .inr rfl, fresh⟩
  · by_cases hroom : n + m ≤ cap
    · have hfit : n * i.size + news.length ≤ cur.size := by
        rw [hl, ← Nat.add_mul]
        exact Nat.le_trans (Nat.mul_le_mul_right _ hroom) hcs
      have hr := run_append_room (P := P) w t ty e i ht hi g n cap cur hg ad m c news hl hnews h1 hroom hfit
      have hlt := (Array.getElem?_eq_some_iff.1 hg).1
      refine ⟨_, _, _, hr, ⟨hlen, .inr ⟨g, cap, _, rfl, hbg, setRow_heap w g cur _ e _ hg, hroom, hcm, ?_, ?_⟩⟩, ⟨rfl, rfl, rfl, by simp, fun k _ hk => setRow_other w g k _ (fun e => hk (by simp [Value.ownBlock, e]))⟩, .inl rfl, by simpa using hlt⟩
      · simp only [List.size_toArray, List.length_append, List.length_take, List.length_drop, Array.length_toList]
        omega
      · rw [htake, ← hlen]
        exact List.take_left
    · have holds : ∀ j u, xs[j]? = some u → w.cell? ((⟨g, 0, none⟩ : Addr).add j) = some u := fun j u hj => by
        have := looseRow_cells hown (g := g) rfl j u hj
        rw [show (⟨g, 0, none⟩ : Addr).add j = ⟨g, j, none⟩ by unfold Addr.add; split <;> simp_all]
        exact this
      have hr := run_append_grow (P := P) w t ty e i z ht hi hz ⟨g, 0, none⟩ n cap xs hown.1 holds ad m c news hl hnews (by omega) (by omega) (growslice_fits (by omega) hbytes)
      have hgr := grown cap (by omega) (Value.ownBlock (.slice (some ⟨g, 0, none⟩) n cap))
      exact ⟨_, _, _, hr, hgr.1, hgr.2, .inr rfl, fresh⟩

theorem wp_append_loose {o : Oper} {a : Act} {K : Act → World → Prop} {Q : Exit → Act → World → Prop} (s x : Operand) (t : TypeId)
    (ho : o.op = .call { callee := .builtin .append, args := #[s, x], argTypes := #[t, t] })
    (base : Nat) (e : TypeId) (i : TypeInfo) (z : Value) (size bytes : Nat) (ht : P.underlying t = some (.slice e)) (hi : P.info? e = some i) (hz : i.zero = some z)
    (hsize : i.size = size) (hby : i.bytes = bytes) (hzs : z.cells.size = size) (hsz : 0 < size)
    (v : Value) (n : Nat) (xs : List Value) (hs : a.eval s = v) (hown : looseRow w base e size v n xs)
    (ad : Addr) (m c : Nat) (news : List Value) (hx : a.eval x = .slice (some ad) m c) (hl : news.length = m * size) (hnews : ∀ j u, news[j]? = some u → w.cell? (ad.add j) = some u) (h1 : ∀ u ∈ news, u.oneCell' = true)
    (hm : 0 < m) (h63 : n + m ≤ maxLen) (hbytes : (n + m) * bytes ≤ 140737488355328) (hbase : base ≤ w.heap.size) (H : Nat) (hH : w.heap.size = H)
    (h : ∀ g cap w', looseRow w' base e size (.slice (some ⟨g, 0, none⟩) (n + m) cap) (n + m) (xs ++ news) → w.grownBy w' v.ownBlock → (v.ownBlock = some g ∨ g = H) → g < w'.heap.size → K (a.put o.dst (.slice (some ⟨g, 0, none⟩) (n + m) cap)) w') : o.wp P a w K Q := by
  obtain ⟨g, cap, w', hr, h2, h3, h4, h5⟩ := run_append_loose (P := P) w t o.type base e i z size bytes ht hi hz hsize hby hzs hsz v n xs hown ad m c news hl hnews h1 hm h63 hbytes hbase H hH
  unfold Oper.wp execOp
  simp only [ho, resolve, invoke, builtin, Sem.run_bind, Sem.run_pure, Result.andThen_ok, List.map_toArray, List.map_cons, List.map_nil, hs, hx, hr]
  exact h g cap w' h2 h3 h4 h5
theorem wpList_append_loose {ops : Array Oper} {rest : List Oper} {o : Oper} {a : Act} {Q : Exit → Act → World → Prop} (hgd : o.guard = none) (s x : Operand) (t : TypeId)
    (ho : o.op = .call { callee := .builtin .append, args := #[s, x], argTypes := #[t, t] })
    (base : Nat) (e : TypeId) (i : TypeInfo) (z : Value) (size bytes : Nat) (ht : P.underlying t = some (.slice e)) (hi : P.info? e = some i) (hz : i.zero = some z)
    (hsize : i.size = size) (hby : i.bytes = bytes) (hzs : z.cells.size = size) (hsz : 0 < size)
    (v : Value) (n : Nat) (xs : List Value) (hs : a.eval s = v) (hown : looseRow w base e size v n xs)
    (ad : Addr) (m c : Nat) (news : List Value) (hx : a.eval x = .slice (some ad) m c) (hl : news.length = m * size) (hnews : ∀ j u, news[j]? = some u → w.cell? (ad.add j) = some u) (h1 : ∀ u ∈ news, u.oneCell' = true)
    (hm : 0 < m) (h63 : n + m ≤ maxLen) (hbytes : (n + m) * bytes ≤ 140737488355328) (hbase : base ≤ w.heap.size) (H : Nat) (hH : w.heap.size = H)
    (h : ∀ g cap w', looseRow w' base e size (.slice (some ⟨g, 0, none⟩) (n + m) cap) (n + m) (xs ++ news) → w.grownBy w' v.ownBlock → (v.ownBlock = some g ∨ g = H) → g < w'.heap.size → wpList P ops Q rest (a.put o.dst (.slice (some ⟨g, 0, none⟩) (n + m) cap)) w') : wpList P ops Q (o :: rest) a w :=
  wpList_plain hgd fun _ hK => wp_append_loose w s x t ho base e i z size bytes ht hi hz hsize hby hzs hsz v n xs hs hown ad m c news hx hl hnews h1 hm h63 hbytes hbase H hH fun g cap w' h2 h3 h4 h5 => hK _ _ (h g cap w' h2 h3 h4 h5)
end
end Go.Proofs.YtkinlcichclnkaaDoor

/- A net in memory; a search of ways in memory: who lies where, and what stays. -/
namespace Go.Proofs.YtkinlcichclnkaaDoor
open Go.RowKit

/-! ### a net -/
def IntsAt (W : World) (lim : Nat) (a : Option Addr) (l : List Int) : Prop := ∀ k (h : k < l.length), ∃ b off, a = some ⟨b, off, none⟩ ∧ b < lim ∧ W.cell? ⟨b, off + k, none⟩ = some (.int .i64 l[k])
def EdgesAt (W : World) (lim : Nat) (a : Option Addr) (l : List Edg) : Prop := ∀ k (h : k < l.length), ∃ b off, a = some ⟨b, off, none⟩ ∧ b < lim ∧
  W.cell? ⟨b, off + k * 3, none⟩ = some (.int .u8 l[k].kind) ∧ W.cell? ⟨b, off + k * 3 + 1, none⟩ = some (.int .i64 l[k].what) ∧ W.cell? ⟨b, off + k * 3 + 2, none⟩ = some (.int .i64 l[k].to)
def SttAt (W : World) (lim : Nat) (c0 c1 c2 : Option Value) (s : Sta) : Prop :=
  c0 = some (.int .i64 s.rule) ∧ (∃ a cap, c1 = some (.slice a s.edges.length cap) ∧ EdgesAt W lim a s.edges) ∧ ∃ a cap, c2 = some (.slice a s.ends.length cap) ∧ IntsAt W lim a s.ends
def StatesAt (W : World) (lim : Nat) (a : Option Addr) (l : List Sta) : Prop := ∀ k (h : k < l.length), ∃ b off, a = some ⟨b, off, none⟩ ∧ b < lim ∧
  SttAt W lim (W.cell? ⟨b, off + k * 3, none⟩) (W.cell? ⟨b, off + k * 3 + 1, none⟩) (W.cell? ⟨b, off + k * 3 + 2, none⟩) l[k]
/-- a slice of integers -/
def IntsV (W : World) (lim : Nat) (v : Value) (l : List Int) : Prop := ∃ a cap, v = .slice a l.length cap ∧ IntsAt W lim a l
structure NetAt (W : World) (lim : Nat) (v0 v1 v2 v3 v4 : Value) (N : Net) : Prop where
  states : ∃ a cap, v0 = .slice a N.states.length cap ∧ StatesAt W lim a N.states
  starts : IntsV W lim v1 N.starts
  stops : IntsV W lim v2 N.stops
  preds : IntsV W lim v3 N.preds
  decisions : IntsV W lim v4 N.decisions

section
variable {W W' : World} {lim : Nat}
theorem IntsAt.keep (hb : Below lim W W') {a : Option Addr} {l : List Int} (h : IntsAt W lim a l) : IntsAt W' lim a l := fun k hk => by
  obtain ⟨b, off, h1, h2, h3⟩ := h k hk
  exact ⟨b, off, h1, h2, by rw [hb.cell h2]; exact h3⟩
theorem EdgesAt.keep (hb : Below lim W W') {a : Option Addr} {l : List Edg} (h : EdgesAt W lim a l) : EdgesAt W' lim a l := fun k hk => by
  obtain ⟨b, off, h1, h2, h3, h4, h5⟩ := h k hk
  exact ⟨b, off, h1, h2, by rw [hb.cell h2]; exact h3, by rw [hb.cell h2]; exact h4, by rw [hb.cell h2]; exact h5⟩
theorem SttAt.keep (hb : Below lim W W') {c0 c1 c2 : Option Value} {s : Sta} (h : SttAt W lim c0 c1 c2 s) : SttAt W' lim c0 c1 c2 s := by
  obtain ⟨h1, ⟨a, cap, h2, h3⟩, a', cap', h4, h5⟩ := h
  exact ⟨h1, ⟨a, cap, h2, h3.keep hb⟩, a', cap', h4, h5.keep hb⟩
theorem StatesAt.keep (hb : Below lim W W') {a : Option Addr} {l : List Sta} (h : StatesAt W lim a l) : StatesAt W' lim a l := fun k hk => by
  obtain ⟨b, off, h1, h2, h3⟩ := h k hk
  have e : ∀ o, W'.cell? ⟨b, o, none⟩ = W.cell? ⟨b, o, none⟩ := fun o => hb.cell h2
  exact ⟨b, off, h1, h2, by rw [e, e, e]; exact h3.keep hb⟩
theorem IntsV.keep (hb : Below lim W W') {v : Value} {l : List Int} (h : IntsV W lim v l) : IntsV W' lim v l := by
  obtain ⟨a, cap, h1, h2⟩ := h
  exact ⟨a, cap, h1, h2.keep hb⟩
theorem NetAt.keep (hb : Below lim W W') {v0 v1 v2 v3 v4 : Value} {N : Net} (h : NetAt W lim v0 v1 v2 v3 v4 N) : NetAt W' lim v0 v1 v2 v3 v4 N := by
  obtain ⟨⟨a, cap, h1, h2⟩, h3, h4, h5, h6⟩ := h
  exact ⟨⟨a, cap, h1, h2.keep hb⟩, h3.keep hb, h4.keep hb, h5.keep hb, h6.keep hb⟩
theorem IntsAt.mono {lim' : Nat} (hl : lim ≤ lim') {a : Option Addr} {l : List Int} (h : IntsAt W lim a l) : IntsAt W lim' a l := fun k hk => by
  obtain ⟨b, off, h1, h2, h3⟩ := h k hk
  exact ⟨b, off, h1, by omega, h3⟩
theorem IntsV.mono {lim' : Nat} (hl : lim ≤ lim') {v : Value} {l : List Int} (h : IntsV W lim v l) : IntsV W lim' v l := by
  obtain ⟨a, cap, h1, h2⟩ := h
  exact ⟨a, cap, h1, h2.mono hl⟩
theorem EdgesAt.mono {lim' : Nat} (hl : lim ≤ lim') {a : Option Addr} {l : List Edg} (h : EdgesAt W lim a l) : EdgesAt W lim' a l := fun k hk => by
  obtain ⟨b, off, h1, h2, h3⟩ := h k hk
  exact ⟨b, off, h1, by omega, h3⟩
theorem SttAt.mono {lim' : Nat} (hl : lim ≤ lim') {c0 c1 c2 : Option Value} {s : Sta} (h : SttAt W lim c0 c1 c2 s) : SttAt W lim' c0 c1 c2 s := by
  obtain ⟨h1, ⟨a, cap, h2, h3⟩, a', cap', h4, h5⟩ := h
  exact ⟨h1, ⟨a, cap, h2, h3.mono hl⟩, a', cap', h4, h5.mono hl⟩
theorem NetAt.mono {lim' : Nat} (hl : lim ≤ lim') {v0 v1 v2 v3 v4 : Value} {N : Net} (h : NetAt W lim v0 v1 v2 v3 v4 N) : NetAt W lim' v0 v1 v2 v3 v4 N := by
  obtain ⟨⟨a, cap, h1, h2⟩, h3, h4, h5, h6⟩ := h
  refine ⟨⟨a, cap, h1, fun k hk => ?_⟩, h3.mono hl, h4.mono hl, h5.mono hl, h6.mono hl⟩
  obtain ⟨b, off, h7, h8, h9⟩ := h2 k hk
  exact ⟨b, off, h7, by omega, h9.mono hl⟩
end

/-! ### all blocks but some stay -/
structure But (F : Nat → Prop) (w w' : World) : Prop where
  os : w'.os = w.os
  tape : w'.tape = w.tape
  output : w'.output = w.output
  size : w.heap.size ≤ w'.heap.size
  block : ∀ k, k < w.heap.size → ¬F k → w'.heap[k]? = w.heap[k]?
theorem But.refl (F : Nat → Prop) (w : World) : But F w w := ⟨rfl, rfl, rfl, Nat.le_refl _, fun _ _ _ => rfl⟩
theorem But.trans {F G : Nat → Prop} {a b c : World} (h : But F a b) (k : But G b c) (hG : ∀ i, i < a.heap.size → G i → F i) : But F a c :=
  ⟨k.os.trans h.os, k.tape.trans h.tape, k.output.trans h.output, Nat.le_trans h.size k.size, fun i hi hn => (k.block i (Nat.lt_of_lt_of_le hi h.size) (fun g => hn (hG i hi g))).trans (h.block i hi hn)⟩
theorem But.of_grew {F : Nat → Prop} {a b : World} (h : Grew a b) : But F a b := ⟨h.os, h.tape, h.output, h.size, fun k hk _ => h.block k hk⟩
theorem But.put {w : World} {b : Nat} {o : Obj} {F : Nat → Prop} (hb : F b) : But F w (putObj w b o) :=
  ⟨rfl, rfl, rfl, by rw [putObj_size]; exact Nat.le_refl _, fun k _ hn => putObj_other (fun e => hn (by rw [e]; exact hb)) o⟩
theorem But.below {F : Nat → Prop} {w w' : World} {lim : Nat} (h : But F w w') (hl : lim ≤ w.heap.size) (hF : ∀ k, F k → lim ≤ k) : Below lim w w' :=
  ⟨h.os, h.tape, h.output, h.size, fun k hk => h.block k (by omega) (fun hf => by have := hF k hf; omega)⟩
theorem But.drew {F : Nat → Prop} {a b : World} (h : But F a b) : But F a b.drew := ⟨h.os, h.tape, h.output, h.size, h.block⟩
theorem But.owns {F : Nat → Prop} {w w' : World} {b T : Nat} {cs : List Value} (h : But F w w') (ho : Owns w b cs T) (hn : ¬F b) : Owns w' b cs T := by
  have := ho.lt
  unfold Owns at *
  rw [h.block b this hn]; exact ho

theorem setCell_put {w : World} {b T i : Nat} {cs : List Value} (h : Owns w b cs T) (v : Value) : w.setCell ⟨b, i, none⟩ v = putObj w b (.cells (cs.set i v).toArray T (0, 0)) := by
  have hlt := h.lt
  unfold Owns at h
  unfold World.setCell putObj
  have hget : w.heap[b] = .cells cs.toArray T (0, 0) := by
    have := Array.getElem?_eq_getElem hlt
    rw [h] at this
    exact (Option.some.inj this).symm
  congr 1
  apply Array.ext
  · simp
  · intro j h1 h2
    by_cases e : j = b
    · subst e
      simp [Array.getElem_modify, hget]
    · rw [Array.getElem_setIfInBounds_ne (by simpa using h1) (Ne.symm e)]
      simp [Array.getElem_modify, Ne.symm e]

section
variable {w w' : World}
theorem row_own {base e size n : Nat} {v : Value} {xs : List Value} (h : looseRow w base e size v n xs) {g : Nat} (hg : v.ownBlock = some g) : base ≤ g ∧ ∃ cs, w.heap[g]? = some (.cells cs e (0, 0)) := by
  rcases h.2 with ⟨rfl, _⟩ | ⟨g', cap, cur, rfl, h1, h2, _⟩
  · simp [Value.ownBlock] at hg
  · simp only [Value.ownBlock, Option.some.injEq] at hg
    subst hg
    exact ⟨h1, cur, h2⟩
theorem row_but {base e size n : Nat} {v : Value} {xs : List Value} (h : looseRow w base e size v n xs) {F : Nat → Prop} (hb : But F w w') (hn : ∀ g, v.ownBlock = some g → ¬F g) : looseRow w' base e size v n xs := by
  refine ⟨h.1, ?_⟩
  rcases h.2 with h2 | ⟨g, cap, cur, rfl, h1, h2, h3⟩
  · exact .inl h2
  · exact .inr ⟨g, cap, cur, rfl, h1, by rw [hb.block g (Array.getElem?_eq_some_iff.1 h2).1 (hn g rfl)]; exact h2, h3⟩
end
theorem padd_off (b o j : Nat) : (⟨b, o, none⟩ : Addr).add j = ⟨b, o + j, none⟩ := by
  unfold Addr.add
  split
  · rename_i h; rw [h]; rfl
  · rfl
end Go.Proofs.YtkinlcichclnkaaDoor

/- Two small laws. -/
namespace Go.Proofs.YtkinlcichclnkaaDoor
open Go.RowKit
theorem put_heap {w : World} {a : Addr} {v : Value} {i : Nat} (h : a.block ≠ i) : (w.setCell a v).heap[i]? = w.heap[i]? := Below.heap_setCell _ _ _ _ (fun e => h e.symm)

theorem owns_newsO {w : World} {b T : Nat} {cs : List Value} (h : Owns w b cs T) : ∀ j u, cs[j]? = some u → w.cell? ((⟨b, 0, none⟩ : Addr).add j) = some u := by
  intro j u hj
  rw [padd_off, Nat.zero_add, h.cell, hj]
end Go.Proofs.YtkinlcichclnkaaDoor

/- A grammar's rules, and how they lie in memory. -/
namespace Go.Proofs.YtkinlcichclnkaaDoor
open Go.RowKit

/-- a rule -/
structure Rl where
  name : ByteArray
  sort : Int
  body : Nd
  p0 : Int
  p1 : Int
  p2 : Int

/-- a grammar -/
structure Gr where
  name : ByteArray
  bound : Int
  states : Int
  rules : List Rl

def InI64 (n : Int) : Prop := -9223372036854775808 ≤ n ∧ n ≤ 9223372036854775807

/-- ten cells read as a rule -/
def RuleAt (W : World) (lim : Nat) (c0 c1 c2 c3 c4 c5 c6 c7 c8 c9 : Option Value) (r : Rl) : Prop :=
  c0 = some (.string r.name) ∧ r.name.size ≤ reachN ∧ c1 = some (.int .u8 r.sort) ∧ (0 ≤ r.sort ∧ r.sort ≤ 255) ∧ NodeAt W lim c2 c3 c4 c5 c6 r.body ∧
  c7 = some (.int .i64 r.p0) ∧ c8 = some (.int .i64 r.p1) ∧ c9 = some (.int .i64 r.p2) ∧ InI64 r.p0 ∧ InI64 r.p1 ∧ InI64 r.p2

def RulesAt (W : World) (lim : Nat) (a : Option Addr) (i : Nat) : List Rl → Prop
  | [] => True
  | n :: r => (∃ b off, a = some ⟨b, off, none⟩ ∧ b < lim ∧ RuleAt W lim (W.cell? ⟨b, off + i * 10, none⟩) (W.cell? ⟨b, off + i * 10 + 1, none⟩) (W.cell? ⟨b, off + i * 10 + 2, none⟩) (W.cell? ⟨b, off + i * 10 + 3, none⟩) (W.cell? ⟨b, off + i * 10 + 4, none⟩)
      (W.cell? ⟨b, off + i * 10 + 5, none⟩) (W.cell? ⟨b, off + i * 10 + 6, none⟩) (W.cell? ⟨b, off + i * 10 + 7, none⟩) (W.cell? ⟨b, off + i * 10 + 8, none⟩) (W.cell? ⟨b, off + i * 10 + 9, none⟩) n) ∧ RulesAt W lim a (i + 1) r

/-- four cells read as a grammar -/
def GrAt (W : World) (lim : Nat) (c0 c1 c2 c3 : Option Value) (g : Gr) : Prop :=
  c0 = some (.string g.name) ∧ g.name.size ≤ reachN ∧ c1 = some (.int .i64 g.bound) ∧ c2 = some (.int .i64 g.states) ∧ InI64 g.bound ∧ InI64 g.states ∧
  ∃ a cap, c3 = some (.slice a g.rules.length cap) ∧ g.rules.length ≤ reachN ∧ RulesAt W lim a 0 g.rules

theorem RulesAt.get {W : World} {lim : Nat} {a : Option Addr} : ∀ {l : List Rl} {i k : Nat} (_ : RulesAt W lim a i l) (hk : k < l.length),
    ∃ b off, a = some ⟨b, off, none⟩ ∧ b < lim ∧ RuleAt W lim (W.cell? ⟨b, off + (i + k) * 10, none⟩) (W.cell? ⟨b, off + (i + k) * 10 + 1, none⟩) (W.cell? ⟨b, off + (i + k) * 10 + 2, none⟩) (W.cell? ⟨b, off + (i + k) * 10 + 3, none⟩) (W.cell? ⟨b, off + (i + k) * 10 + 4, none⟩)
      (W.cell? ⟨b, off + (i + k) * 10 + 5, none⟩) (W.cell? ⟨b, off + (i + k) * 10 + 6, none⟩) (W.cell? ⟨b, off + (i + k) * 10 + 7, none⟩) (W.cell? ⟨b, off + (i + k) * 10 + 8, none⟩) (W.cell? ⟨b, off + (i + k) * 10 + 9, none⟩) l[k]
  | [], _, _, _, hk => absurd hk (by simp)
  | n :: r, i, 0, h, _ => by simpa using h.1
  | n :: r, i, k + 1, h, hk => by
    obtain ⟨b, off, h1, h2, h3⟩ := RulesAt.get (k := k) h.2 (by simpa using hk)
    refine ⟨b, off, h1, h2, ?_⟩
    have e : i + 1 + k = i + (k + 1) := by omega
    rw [e] at h3
    simpa using h3

theorem RuleAt.keep {W W' : World} {lim : Nat} (hb : Below lim W W') {c0 c1 c2 c3 c4 c5 c6 c7 c8 c9 : Option Value} {r : Rl} (h : RuleAt W lim c0 c1 c2 c3 c4 c5 c6 c7 c8 c9 r) : RuleAt W' lim c0 c1 c2 c3 c4 c5 c6 c7 c8 c9 r :=
  ⟨h.1, h.2.1, h.2.2.1, h.2.2.2.1, h.2.2.2.2.1.keep hb, h.2.2.2.2.2⟩
theorem RuleAt.mono {W : World} {lim lim' : Nat} (hl : lim ≤ lim') {c0 c1 c2 c3 c4 c5 c6 c7 c8 c9 : Option Value} {r : Rl} (h : RuleAt W lim c0 c1 c2 c3 c4 c5 c6 c7 c8 c9 r) : RuleAt W lim' c0 c1 c2 c3 c4 c5 c6 c7 c8 c9 r :=
  ⟨h.1, h.2.1, h.2.2.1, h.2.2.2.1, h.2.2.2.2.1.mono hl, h.2.2.2.2.2⟩
theorem RulesAt.keep {W W' : World} {lim : Nat} (hb : Below lim W W') {a : Option Addr} : ∀ {l : List Rl} {i : Nat}, RulesAt W lim a i l → RulesAt W' lim a i l
  | [], _, _ => trivial
  | n :: r, i, h => by
    obtain ⟨⟨b, off, h1, h2, h3⟩, h5⟩ := h
    refine ⟨⟨b, off, h1, h2, ?_⟩, RulesAt.keep hb h5⟩
    have e : ∀ o, W'.cell? ⟨b, o, none⟩ = W.cell? ⟨b, o, none⟩ := fun o => hb.cell h2
    simp only [e]
    exact h3.keep hb
theorem RulesAt.mono {W : World} {lim lim' : Nat} (hl : lim ≤ lim') {a : Option Addr} : ∀ {l : List Rl} {i : Nat}, RulesAt W lim a i l → RulesAt W lim' a i l
  | [], _, _ => trivial
  | n :: r, i, h => by
    obtain ⟨⟨b, off, h1, h2, h3⟩, h5⟩ := h
    exact ⟨⟨b, off, h1, by omega, h3.mono hl⟩, RulesAt.mono hl h5⟩
theorem GrAt.keep {W W' : World} {lim : Nat} (hb : Below lim W W') {c0 c1 c2 c3 : Option Value} {g : Gr} (h : GrAt W lim c0 c1 c2 c3 g) : GrAt W' lim c0 c1 c2 c3 g := by
  obtain ⟨h1, h2, h3, h4, h5, h6, a, cap, h7, h8, h9⟩ := h
  exact ⟨h1, h2, h3, h4, h5, h6, a, cap, h7, h8, h9.keep hb⟩
theorem GrAt.mono {W : World} {lim lim' : Nat} (hl : lim ≤ lim') {c0 c1 c2 c3 : Option Value} {g : Gr} (h : GrAt W lim c0 c1 c2 c3 g) : GrAt W lim' c0 c1 c2 c3 g := by
  obtain ⟨h1, h2, h3, h4, h5, h6, a, cap, h7, h8, h9⟩ := h
  exact ⟨h1, h2, h3, h4, h5, h6, a, cap, h7, h8, h9.mono hl⟩

theorem RuleAt.vals {W : World} {lim : Nat} {c0 c1 c2 c3 c4 c5 c6 c7 c8 c9 : Option Value} {r : Rl} (h : RuleAt W lim c0 c1 c2 c3 c4 c5 c6 c7 c8 c9 r) :
    ∃ v2 v3 v4 v5 v6, c0 = some (.string r.name) ∧ c1 = some (.int .u8 r.sort) ∧ c2 = some v2 ∧ c3 = some v3 ∧ c4 = some v4 ∧ c5 = some v5 ∧ c6 = some v6 ∧
      c7 = some (.int .i64 r.p0) ∧ c8 = some (.int .i64 r.p1) ∧ c9 = some (.int .i64 r.p2) ∧
      RuleAt W lim (some (.string r.name)) (some (.int .u8 r.sort)) (some v2) (some v3) (some v4) (some v5) (some v6) (some (.int .i64 r.p0)) (some (.int .i64 r.p1)) (some (.int .i64 r.p2)) r ∧
      NodeAt W lim (some v2) (some v3) (some v4) (some v5) (some v6) r.body := by
  have h' := h
  obtain ⟨rfl, h2, rfl, h4, h5, rfl, rfl, rfl, h9⟩ := h
  obtain ⟨u0, u1, u2, u3, u4, rfl, rfl, rfl, rfl, rfl, hn⟩ := h5.vals
  exact ⟨_, _, _, _, _, rfl, rfl, rfl, rfl, rfl, rfl, rfl, rfl, rfl, rfl, h', hn⟩
end Go.Proofs.YtkinlcichclnkaaDoor
