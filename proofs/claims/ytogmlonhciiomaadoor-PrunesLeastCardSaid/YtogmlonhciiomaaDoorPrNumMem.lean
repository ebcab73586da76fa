/- The numbering in memory: a map, a row of those that came, the states that are made. -/
import Derived.Test.YtogmlonhciiomaaDoorPrBut
import Derived.Test.YtogmlonhciiomaaDoorPrEdges
import Derived.Test.YtogmlonhciiomaaDoorPrParted
namespace Go.Proofs.YtogmlonhciiomaaDoor
open Go.RowKit

theorem follows : Tryd.prog.follows .mixedOrders = true := by kernel_rfl
/-- a fresh variable -/
def FreshAt (lim : Nat) (cs : List Value) (T : Nat) (v : Value) (w : World) : Prop := ∃ b, v = .pointer (some ⟨b, 0, none⟩) ∧ lim ≤ b ∧ Owns w b cs T
theorem FreshAt.keep {lim : Nat} {cs : List Value} {T : Nat} {v : Value} {w w' : World} (hg : Grew w w') (h : FreshAt lim cs T v w) : FreshAt lim cs T v w' := by
  obtain ⟨b, h1, h2, h3⟩ := h
  exact ⟨b, h1, h2, h3.keep hg⟩
theorem looseRow.off {w : World} {base : Nat} {e : TypeId} {size : Nat} {v : Value} {n : Nat} {xs : List Value} (h : looseRow w base e size v n xs) {a : Addr} (ha : v.ownBlock ≠ some a.block) (x : Value) : looseRow (w.setCell a x) base e size v n xs :=
  (But.set (F := fun k => k = a.block) (a := a) rfl x).row h fun _ hk e => ha (e ▸ hk)
theorem Owns.apart {w w' : World} {b T base e size n : Nat} {cs xs : List Value} {v : Value} (h : Owns w b cs T) (hr : looseRow w base e size v n xs) (hg : w.grownBy w' v.ownBlock) (hT : T ≠ e) : Owns w' b cs T :=
  (But.grown (F := fun k => v.ownBlock = some k) hg fun _ e => e).owns h fun e => type_ne (row_type hr e) (owns_type h) (fun x => hT x.symm) rfl
theorem news_owns {w : World} {b T : Nat} {cs : List Value} (h : Owns w b cs T) : ∀ j u, cs[j]? = some u → w.cell? ((⟨b, 0, none⟩ : Addr).add j) = some u := by
  intro j u hj
  rw [Addr.add_lit, Nat.zero_add, h.cell, hj]
theorem two_ints (a b : Int) : ∀ u ∈ [Value.int .i64 a, .int .i64 b], u.oneCell' = true := by
  intro u hu
  simp only [List.mem_cons, List.not_mem_nil, or_false] at hu
  rcases hu with rfl | rfl <;> rfl
theorem one_int (a : Int) : ∀ u ∈ [Value.int .i64 a], u.oneCell' = true := by
  intro u hu
  simp only [List.mem_singleton] at hu
  subst hu; rfl
theorem own_slice {a : Option Addr} {m c : Nat} {v' : Value} {g H m' c' : Nat} {v : Value} (hv' : v' = .slice (some ⟨g, 0, none⟩) m' c') (hat : v.ownBlock = some g ∨ g = H) (_ : v = .slice a m c) : ∀ k, v'.ownBlock = some k → v.ownBlock = some k ∨ H ≤ k := by
  subst hv'
  intro k hk
  have : g = k := Option.some.inj hk
  subst this
  rcases hat with h | h
  · exact .inl h
  · exact .inr (by omega)
/-- a row of integers, and a state built of it -/
def AltsR (lim : Nat) (l : List Int) (v : Value) (w : World) : Prop := looseRow w lim 3 1 v l.length (intVs l)
theorem AltsR.keep {lim : Nat} {l : List Int} {v : Value} {w w' : World} (hg : Grew w w') (h : AltsR lim l v w) : AltsR lim l v w' := looseRow.keep h hg
def BuiltR (lim : Nat) (k : Int) (l : List Int) (v : Value) (w : World) : Prop := ∃ a m c, v = .agg #[.int .u8 k, .slice a m c, .slice none 0 0] ∧ AltsR lim l (.slice a m c) w
theorem BuiltR.keep {lim : Nat} {k : Int} {l : List Int} {v : Value} {w w' : World} (hg : Grew w w') (h : BuiltR lim k l v w) : BuiltR lim k l v w' := by
  obtain ⟨a, m, c, h1, h2⟩ := h
  exact ⟨a, m, c, h1, h2.keep hg⟩
/-- three cells are written -/
theorem Owns.put3 {w : World} {b T : Nat} {x0 x1 x2 : Value} (h : Owns w b [x0, x1, x2] T) (y0 y1 y2 : Value) : Owns (((w.setCell ⟨b, 0, none⟩ y0).setCell ⟨b, 1, none⟩ y1).setCell ⟨b, 2, none⟩ y2) b [y0, y1, y2] T := ((h.set 0 y0).set 1 y1).set 2 y2
theorem below_put3 {B : Nat} {w w0 : World} {b : Nat} (h : Below B w0 w) (hb : B ≤ b) (y0 y1 y2 : Value) : Below B w0 (((w.setCell ⟨b, 0, none⟩ y0).setCell ⟨b, 1, none⟩ y1).setCell ⟨b, 2, none⟩ y2) := ((h.setCell hb _).setCell hb _).setCell hb _
def pkey (q : List Nat) (c : Nat) : Value := .int .i64 ((q.getD c 0 : Nat) : Int)
def intF (a : Int) : Value → Bool
  | .int .i64 b => a == b
  | _ => false
def sameQ (q : List Nat) (i j : Nat) : Bool := q.getD i 0 == q.getD j 0
theorem pkey_find (q come : List Nat) (t : Nat) : (come.map (pkey q)).findIdx? (intF ((q.getD t 0 : Nat) : Int)) = come.findIdx? fun c => sameQ q c t := by
  rw [List.findIdx?_map]
  congr 1
  funext c
  show (((q.getD t 0 : Nat) : Int) == ((q.getD c 0 : Nat) : Int)) = (q.getD c 0 == q.getD t 0)
  rw [Bool.eq_iff_iff, beq_iff_eq, beq_iff_eq]
  omega
theorem pkey_run (P : Program) (w : World) {kt : TypeId} (ht : P.underlying kt = some (.int .i64)) (a : Int) (q come : List Nat) : KeyRun P w kt (.int .i64 a) (intF a) (numL (come.map (pkey q))) :=
  KeyRun.int ht fun x hx => by
    obtain ⟨i, hi, rfl⟩ := List.mem_iff_getElem.1 hx
    rw [numL_len] at hi
    have := numL_at (come.map (pkey q)) i hi
    rw [List.getElem?_eq_some_iff] at this
    obtain ⟨_, e⟩ := this
    rw [e]
    simp only [List.getElem_map]
    exact ⟨_, rfl, rfl⟩

/-- the blocks that grow -/
def Grows (M O R : Nat) (vs : List Value) (k : Nat) : Prop := k = M ∨ k = O ∨ k ≤ R ∨ ∃ v ∈ vs, v.ownBlock = some k
def atBlock (b : Nat) : Value := .slice (some ⟨b, 0, none⟩) 1 1
theorem atBlock_own (b : Nat) : (atBlock b).ownBlock = some b := rfl

/-- states whose rows are the call's own -/
def RowsIn (B : Nat) (w : World) (vs : List (Value × Value × Value)) (l : Aut) : Prop := vs.length = l.length ∧ ∀ k (h : k < l.length) (h' : k < vs.length), vs[k].1 = .int .u8 l[k].kind ∧ looseRow w B 3 1 vs[k].2.1 l[k].alts.length (intVs l[k].alts) ∧ looseRow w B 53 2 vs[k].2.2 l[k].edges.length (edVs l[k].edges)
theorem RowsIn.sts {B : Nat} {w : World} {vs : List (Value × Value × Value)} {l : Aut} (h : RowsIn B w vs l) : StsIn .u8 w w.heap.size vs l := ⟨h.1, fun k a b => ⟨(h.2 k a b).1, ints_of_row (h.2 k a b).2.1, eds_of_row (h.2 k a b).2.2⟩⟩
theorem RowsIn.base {B B' : Nat} {w : World} {vs : List (Value × Value × Value)} {l : Aut} (h : RowsIn B w vs l) (hb : B' ≤ B) : RowsIn B' w vs l := ⟨h.1, fun k a b => ⟨(h.2 k a b).1, (h.2 k a b).2.1.base hb, (h.2 k a b).2.2.base hb⟩⟩
theorem RowsIn.but {B : Nat} {F : Nat → Prop} {w w' : World} {vs : List (Value × Value × Value)} {l : Aut} (h : RowsIn B w vs l) (hb : But F w w') (hF : ∀ k, B ≤ k → ¬F k) : RowsIn B w' vs l :=
  ⟨h.1, fun k a b => ⟨(h.2 k a b).1, hb.row (h.2 k a b).2.1 fun i hi => hF i (row_lt (h.2 k a b).2.1 hi).1, hb.row (h.2 k a b).2.2 fun i hi => hF i (row_lt (h.2 k a b).2.2 hi).1⟩⟩
theorem RowsIn.keep {B : Nat} {w w' : World} {vs : List (Value × Value × Value)} {l : Aut} (h : RowsIn B w vs l) (hg : Grew w w') : RowsIn B w' vs l := ⟨h.1, fun k a b => ⟨(h.2 k a b).1, (h.2 k a b).2.1.keep hg, (h.2 k a b).2.2.keep hg⟩⟩
theorem RowsIn.snoc {B : Nat} {w : World} {vs : List (Value × Value × Value)} {l : Aut} (h : RowsIn B w vs l) {x1 x2 : Value} {kd : Int} {al : List Int} {es : List Ed} (h1 : looseRow w B 3 1 x1 al.length (intVs al)) (h2 : looseRow w B 53 2 x2 es.length (edVs es)) : RowsIn B w (vs ++ [(.int .u8 kd, x1, x2)]) (l ++ [⟨kd, al, es⟩]) := by
  refine ⟨by simp [h.1], fun k hk hk' => ?_⟩
  by_cases e : k < l.length
  · have e' : k < vs.length := by rw [h.1]; exact e
    rw [List.getElem_append_left e, List.getElem_append_left e']
    exact h.2 k e e'
  · have e1 : k = l.length := by simp only [List.length_append, List.length_cons, List.length_nil] at hk; omega
    subst e1
    have e2 : (vs ++ [(.int .u8 kd, x1, x2)])[l.length]'hk' = (.int .u8 kd, x1, x2) := by simp only [← h.1, List.getElem_concat_length]
    rw [e2]
    simp only [List.getElem_concat_length]
    exact ⟨trivial, h1, h2⟩
/-- within a state: what lies in memory -/
structure InMem (W : World) (B M O R X : Nat) (q mk come : List Nat) (kd : Int) (al : List Int) (es : List Ed) (out : Aut) (cv ov av eb ev : Value) (vs : List (Value × Value × Value)) (w : World) : Prop where
  below : Below B W w
  map : w.heap[M]? = some (mapObj (numL (mk.map (pkey q))))
  come : looseRow w B 3 1 cv come.length (intVs (partL come))
  obox : Owns w O [ov] 24
  orow : looseRow w B 51 3 ov out.length (triVs vs)
  ostay : Stay (Grows M O R [cv, ov, atBlock X, ev]) w fun w => RowsIn B w vs out
  xbox : Owns w X [.int .u8 kd, av, eb] 51
  erow : looseRow w B 53 2 ev es.length (edVs es)
  astay : Stay (Grows M O R [cv, ov, atBlock X, ev]) w fun w => looseRow w B 3 1 av al.length (intVs al)
  xo : ov.ownBlock ≠ some X
  bM : B ≤ M
  bO : B ≤ O
  bX : B ≤ X
  bR : R < B
  size : B ≤ w.heap.size

section
variable {W : World} {B M O R X : Nat} {q mk come : List Nat} {kd : Int} {al : List Int} {es : List Ed} {out : Aut} {cv ov av eb ev : Value} {vs : List (Value × Value × Value)} {w w' : World}
theorem InMem.grew (h : InMem W B M O R X q mk come kd al es out cv ov av eb ev vs w) (hg : Grew w w') : InMem W B M O R X q mk come kd al es out cv ov av eb ev vs w' where
  below := h.below.trans (hg.mono h.size)
  map := by rw [hg.block M (Array.getElem?_eq_some_iff.1 h.map).1]; exact h.map
  come := h.come.keep hg
  obox := h.obox.keep hg
  orow := h.orow.keep hg
  ostay := h.ostay.step (But.of_grew hg) fun _ _ hk => hk
  xbox := h.xbox.keep hg
  erow := h.erow.keep hg
  astay := h.astay.step (But.of_grew hg) fun _ _ hk => hk
  xo := h.xo
  bM := h.bM
  bO := h.bO
  bX := h.bX
  bR := h.bR
  size := Nat.le_trans h.size hg.size
/-- a key more -/
theorem InMem.put (h : InMem W B M O R X q mk come kd al es out cv ov av eb ev vs w) (c : Nat) : InMem W B M O R X q (mk ++ [c]) come kd al es out cv ov av eb ev vs (putObj w M (mapObj (numL ((mk ++ [c]).map (pkey q))))) := by
  have hb : But (fun k => k = M) w (putObj w M (mapObj (numL ((mk ++ [c]).map (pkey q))))) := But.put rfl
  have ne : ∀ {k T : Nat}, (∃ cur, w.heap[k]? = some (.cells cur T (0, 0))) → ¬ k = M := fun hk e => map_ne h.map hk e.symm
  refine ⟨putObj_below h.below h.bM _, putObj_same (Array.getElem?_eq_some_iff.1 h.map).1 _, hb.row h.come fun k hk => ne (row_type h.come hk), hb.owns h.obox (ne (owns_type h.obox)), hb.row h.orow fun k hk => ne (row_type h.orow hk),
    h.ostay.step (hb.mono fun k _ e => .inl e) fun _ _ hk => hk, hb.owns h.xbox (ne (owns_type h.xbox)), hb.row h.erow fun k hk => ne (row_type h.erow hk), h.astay.step (hb.mono fun k _ e => .inl e) fun _ _ hk => hk, h.xo, h.bM, h.bO, h.bX, h.bR, by rw [putObj_size]; exact h.size⟩
/-- one more has come -/
theorem InMem.comes (h : InMem W B M O R X q mk come kd al es out cv ov av eb ev vs w) {cv' : Value} {c : Nat} (hr : looseRow w' B 3 1 cv' (come.length + 1) (intVs (partL come) ++ [.int .i64 c])) (hg : w.grownBy w' cv.ownBlock) (hk : ∀ k, cv'.ownBlock = some k → cv.ownBlock = some k ∨ w.heap.size ≤ k) :
    InMem W B M O R X q mk (come ++ [c]) kd al es out cv' ov av eb ev vs w' := by
  have hb : But (fun k => cv.ownBlock = some k) w w' := But.grown hg fun k e => e
  have ne : ∀ {k T : Nat}, (∃ cur, w.heap[k]? = some (.cells cur T (0, 0))) → 3 ≠ T → ¬ cv.ownBlock = some k := fun hk hT e => type_ne (row_type h.come e) hk hT rfl
  have hF : But (Grows M O R [cv, ov, atBlock X, ev]) w w' := hb.mono fun k _ e => .inr (.inr (.inr ⟨cv, by simp, e⟩))
  have hG : ∀ k, k < w.heap.size → Grows M O R [cv', ov, atBlock X, ev] k → Grows M O R [cv, ov, atBlock X, ev] k := by
    rintro k hlt (e | e | e | ⟨v, hv, e⟩)
    · exact .inl e
    · exact .inr (.inl e)
    · exact .inr (.inr (.inl e))
    · simp only [List.mem_cons, List.not_mem_nil, or_false] at hv
      rcases hv with rfl | rfl | rfl | rfl
      · rcases hk k e with e | e
        · exact .inr (.inr (.inr ⟨cv, by simp, e⟩))
        · omega
      · exact .inr (.inr (.inr ⟨v, by simp, e⟩))
      · exact .inr (.inr (.inr ⟨_, by simp, e⟩))
      · exact .inr (.inr (.inr ⟨v, by simp, e⟩))
  refine ⟨h.below.trans (⟨hg.os, hg.tape, hg.output, hg.size, fun k hk => hb.block k (Nat.lt_of_lt_of_le hk h.size) fun e => by have := (row_lt h.come e).1; omega⟩), ?_, ?_, hb.owns h.obox (ne (owns_type h.obox) (by decide)), hb.row h.orow fun k hk => ne (row_type h.orow hk) (by decide),
    h.ostay.step hF hG, hb.owns h.xbox (ne (owns_type h.xbox) (by decide)), hb.row h.erow fun k hk => ne (row_type h.erow hk) (by decide), h.astay.step hF hG, h.xo, h.bM, h.bO, h.bX, h.bR, Nat.le_trans h.size hg.size⟩
  · rw [hb.block M (Array.getElem?_eq_some_iff.1 h.map).1 fun e => map_ne h.map (row_type h.come e) rfl]; exact h.map
  · have e : intVs (partL (come ++ [c])) = intVs (partL come) ++ [.int .i64 (c : Int)] := by simp [intVs, partL]
    rw [e, List.length_append]
    exact hr
/-- an edge more, in the row -/
theorem InMem.edge (h : InMem W B M O R X q mk come kd al es out cv ov av eb ev vs w) {ev' : Value} {e : Ed} (hr : looseRow w' B 53 2 ev' (es.length + 1) (edVs es ++ [.int .i64 e.tok, .int .i64 e.tgt])) (hg : w.grownBy w' ev.ownBlock) (hk : ∀ k, ev'.ownBlock = some k → ev.ownBlock = some k ∨ w.heap.size ≤ k) :
    InMem W B M O R X q mk come kd al (es ++ [e]) out cv ov av eb ev' vs w' := by
  have hb : But (fun k => ev.ownBlock = some k) w w' := But.grown hg fun k e => e
  have ne : ∀ {k T : Nat}, (∃ cur, w.heap[k]? = some (.cells cur T (0, 0))) → 53 ≠ T → ¬ ev.ownBlock = some k := fun hk hT e => type_ne (row_type h.erow e) hk hT rfl
  have hF : But (Grows M O R [cv, ov, atBlock X, ev]) w w' := hb.mono fun k _ e => .inr (.inr (.inr ⟨ev, by simp, e⟩))
  have hG : ∀ k, k < w.heap.size → Grows M O R [cv, ov, atBlock X, ev'] k → Grows M O R [cv, ov, atBlock X, ev] k := by
    rintro k hlt (e | e | e | ⟨v, hv, e⟩)
    · exact .inl e
    · exact .inr (.inl e)
    · exact .inr (.inr (.inl e))
    · simp only [List.mem_cons, List.not_mem_nil, or_false] at hv
      rcases hv with rfl | rfl | rfl | rfl
      · exact .inr (.inr (.inr ⟨v, by simp, e⟩))
      · exact .inr (.inr (.inr ⟨v, by simp, e⟩))
      · exact .inr (.inr (.inr ⟨_, by simp, e⟩))
      · rcases hk k e with e | e
        · exact .inr (.inr (.inr ⟨ev, by simp, e⟩))
        · omega
  refine ⟨h.below.trans (⟨hg.os, hg.tape, hg.output, hg.size, fun k hk => hb.block k (Nat.lt_of_lt_of_le hk h.size) fun e => by have := (row_lt h.erow e).1; omega⟩), ?_, hb.row h.come fun k hk => ne (row_type h.come hk) (by decide), hb.owns h.obox (ne (owns_type h.obox) (by decide)), hb.row h.orow fun k hk => ne (row_type h.orow hk) (by decide),
    h.ostay.step hF hG, hb.owns h.xbox (ne (owns_type h.xbox) (by decide)), ?_, h.astay.step hF hG, h.xo, h.bM, h.bO, h.bX, h.bR, Nat.le_trans h.size hg.size⟩
  · rw [hb.block M (Array.getElem?_eq_some_iff.1 h.map).1 fun e => map_ne h.map (row_type h.erow e) rfl]; exact h.map
  · have e' : edVs (es ++ [e]) = edVs es ++ [.int .i64 e.tok, .int .i64 e.tgt] := by simp [edVs, edF]
    rw [e', List.length_append]
    exact hr
/-- the row is put into the state -/
theorem InMem.store (h : InMem W B M O R X q mk come kd al es out cv ov av eb ev vs w) (x : Value) : InMem W B M O R X q mk come kd al es out cv ov av x ev vs (w.setCell ⟨X, 2, none⟩ x) := by
  have hb : But (fun k => k = X) w (w.setCell ⟨X, 2, none⟩ x) := But.set (F := fun k => k = X) (a := ⟨X, 2, none⟩) rfl _
  have ne : ∀ {k T : Nat}, (∃ cur, w.heap[k]? = some (.cells cur T (0, 0))) → 51 ≠ T → ¬ k = X := fun hk hT e => type_ne (owns_type h.xbox) hk hT e.symm
  refine ⟨h.below.setCell h.bX _, ?_, hb.row h.come fun k hk => ne (row_type h.come hk) (by decide), hb.owns h.obox (ne (owns_type h.obox) (by decide)), hb.row h.orow fun k hk e => h.xo (e ▸ hk),
    h.ostay.step (hb.mono fun k _ e => .inr (.inr (.inr ⟨atBlock X, by simp, by rw [atBlock_own, e]⟩))) fun _ _ hk => hk, h.xbox.set 2 x, hb.row h.erow fun k hk => ne (row_type h.erow hk) (by decide),
    h.astay.step (hb.mono fun k _ e => .inr (.inr (.inr ⟨atBlock X, by simp, by rw [atBlock_own, e]⟩))) fun _ _ hk => hk, h.xo, h.bM, h.bO, h.bX, h.bR, by simpa using h.size⟩
  rw [hb.block M (Array.getElem?_eq_some_iff.1 h.map).1 fun e => map_ne h.map (owns_type h.xbox) e]; exact h.map
/-- the row, clipped -/
theorem InMem.clip (h : InMem W B M O R X q mk come kd al es out cv ov av eb ev vs w) {u : Value} (hu : looseRow w B 53 2 u es.length (edVs es)) (ho : u.ownBlock = ev.ownBlock) : InMem W B M O R X q mk come kd al es out cv ov av eb u vs w := by
  have hG : ∀ k, k < w.heap.size → Grows M O R [cv, ov, atBlock X, u] k → Grows M O R [cv, ov, atBlock X, ev] k := by
    rintro k _ (e | e | e | ⟨v, hv, e⟩)
    · exact .inl e
    · exact .inr (.inl e)
    · exact .inr (.inr (.inl e))
    · simp only [List.mem_cons, List.not_mem_nil, or_false] at hv
      rcases hv with rfl | rfl | rfl | rfl
      · exact .inr (.inr (.inr ⟨v, by simp, e⟩))
      · exact .inr (.inr (.inr ⟨v, by simp, e⟩))
      · exact .inr (.inr (.inr ⟨_, by simp, e⟩))
      · exact .inr (.inr (.inr ⟨ev, by simp, ho ▸ e⟩))
  exact ⟨h.below, h.map, h.come, h.obox, h.orow, h.ostay.step (But.refl _ _) hG, h.xbox, hu, h.astay.step (But.refl _ _) hG, h.xo, h.bM, h.bO, h.bX, h.bR, h.size⟩
end

/-- between states: what lies in memory -/
structure OutMem (W : World) (B M O R : Nat) (q come : List Nat) (out : Aut) (cv ov : Value) (vs : List (Value × Value × Value)) (w : World) : Prop where
  below : Below B W w
  map : w.heap[M]? = some (mapObj (numL (come.map (pkey q))))
  come : looseRow w B 3 1 cv come.length (intVs (partL come))
  obox : Owns w O [ov] 24
  orow : looseRow w B 51 3 ov out.length (triVs vs)
  ostay : Stay (Grows M O R [cv, ov]) w fun w => RowsIn B w vs out
  bM : B ≤ M
  bO : B ≤ O
  bR : R < B
  size : B ≤ w.heap.size
theorem StsIn.snoc {K : IntKind} {W : World} {lim : Nat} {vs : List (Value × Value × Value)} {l : Aut} (h : StsIn K W lim vs l) {x0 x1 x2 : Value} {s : Stt} (hs : SttV K W lim x0 x1 x2 s) : StsIn K W lim (vs ++ [(x0, x1, x2)]) (l ++ [s]) := by
  refine ⟨by simp [h.1], fun k hk hk' => ?_⟩
  by_cases e : k < l.length
  · have e' : k < vs.length := by rw [h.1]; exact e
    rw [List.getElem_append_left e, List.getElem_append_left e']
    exact h.2 k e e'
  · have e1 : k = l.length := by simp only [List.length_append, List.length_cons, List.length_nil] at hk; omega
    subst e1
    have e2 : (vs ++ [(x0, x1, x2)])[l.length]'hk' = (x0, x1, x2) := by simp only [← h.1, List.getElem_concat_length]
    rw [e2]
    simpa using hs
section
variable {W : World} {B M O R X : Nat} {q come : List Nat} {kd : Int} {al : List Int} {es : List Ed} {out : Aut} {cv ov av ev : Value} {vs : List (Value × Value × Value)} {w w' : World}
theorem OutMem.grew (h : OutMem W B M O R q come out cv ov vs w) (hg : Grew w w') : OutMem W B M O R q come out cv ov vs w' :=
  ⟨h.below.trans (hg.mono h.size), by rw [hg.block M (Array.getElem?_eq_some_iff.1 h.map).1]; exact h.map, h.come.keep hg, h.obox.keep hg, h.orow.keep hg, h.ostay.step (But.of_grew hg) fun _ _ hk => hk, h.bM, h.bO, h.bR, Nat.le_trans h.size hg.size⟩
/-- a state is begun -/
theorem OutMem.begin (h : OutMem W B M O R q come out cv ov vs w) (hg : Grew w w') (hX : w.heap.size ≤ X) (ho : Owns w' X [.int .u8 kd, av, .slice none 0 0] 51) (ha : looseRow w' w.heap.size 3 1 av al.length (intVs al)) :
    InMem W B M O R X q come come kd al [] out cv ov av (.slice none 0 0) (.slice none 0 0) vs w' := by
  have hM := (Array.getElem?_eq_some_iff.1 h.map).1
  have hO := h.obox.lt
  have old : ∀ k, k < w.heap.size → Grows M O R [cv, ov, atBlock X, .slice none 0 0] k → Grows M O R [cv, ov] k := by
    rintro k hlt (e | e | e | ⟨v, hv, e⟩)
    · exact .inl e
    · exact .inr (.inl e)
    · exact .inr (.inr (.inl e))
    · simp only [List.mem_cons, List.not_mem_nil, or_false] at hv
      rcases hv with rfl | rfl | rfl | rfl
      · exact .inr (.inr (.inr ⟨v, by simp, e⟩))
      · exact .inr (.inr (.inr ⟨v, by simp, e⟩))
      · rw [atBlock_own] at e
        have := Option.some.inj e
        omega
      · simp [Value.ownBlock] at e
  have h' := h.grew hg
  refine ⟨h'.below, h'.map, h'.come, h'.obox, h'.orow, h.ostay.step (But.of_grew hg) old, ho, ⟨rfl, .inl ⟨rfl, rfl⟩⟩, ?_, ?_, h.bM, h.bO, Nat.le_trans h.size hX, h.bR, h'.size⟩
  · refine (Stay.row ha fun k hk hG => ?_).imp fun w hr => looseRow.base hr h.size
    have h1 := row_lt ha hk
    have hR := h.bR
    have hS := h.size
    rcases hG with e | e | e | ⟨v, hv, e⟩
    · omega
    · omega
    · omega
    · simp only [List.mem_cons, List.not_mem_nil, or_false] at hv
      rcases hv with rfl | rfl | rfl | rfl
      · have := (row_lt h.come e).2; omega
      · have := (row_lt h.orow e).2; omega
      · rw [atBlock_own] at e
        exact type_ne (owns_type ho) (row_type ha hk) (by decide) (Option.some.inj e)
      · simp [Value.ownBlock] at e
  · intro e
    have := (row_lt h.orow e).2
    omega
/-- a state is done -/
theorem InMem.finish (h : InMem W B M O R X q come come kd al es out cv ov av ev ev vs w) {ov' : Value} (hr : looseRow w' B 51 3 ov' (out.length + 1) (triVs vs ++ [.int .u8 kd, av, ev])) (hg : w.grownBy w' ov.ownBlock) (hk : ∀ k, ov'.ownBlock = some k → ov.ownBlock = some k ∨ w.heap.size ≤ k) :
    OutMem W B M O R q come (out ++ [⟨kd, al, es⟩]) cv ov' (vs ++ [(.int .u8 kd, av, ev)]) (w'.setCell ⟨O, 0, none⟩ ov') := by
  have hb : But (fun k => ov.ownBlock = some k) w w' := But.grown hg fun k e => e
  have ne : ∀ {k T : Nat}, (∃ cur, w.heap[k]? = some (.cells cur T (0, 0))) → 51 ≠ T → ¬ ov.ownBlock = some k := fun hk hT e => type_ne (row_type h.orow e) hk hT rfl
  have hM' : w'.heap[M]? = some (mapObj (numL (come.map (pkey q)))) := by
    rw [hb.block M (Array.getElem?_eq_some_iff.1 h.map).1 fun e => map_ne h.map (row_type h.orow e) rfl]; exact h.map
  have hc' := hb.row h.come fun k hk => ne (row_type h.come hk) (by decide)
  have ho' := hb.owns h.obox (ne (owns_type h.obox) (by decide))
  have he' := hb.row h.erow fun k hk => ne (row_type h.erow hk) (by decide)
  have hs : But (fun k => k = O) w' (w'.setCell ⟨O, 0, none⟩ ov') := But.set (F := fun k => k = O) (a := ⟨O, 0, none⟩) rfl _
  have ne2 : ∀ {k T : Nat}, (∃ cur, w'.heap[k]? = some (.cells cur T (0, 0))) → 24 ≠ T → ¬ k = O := fun hk hT e => type_ne (owns_type ho') hk hT e.symm
  have hall : But (Grows M O R [cv, ov, atBlock X, ev]) w (w'.setCell ⟨O, 0, none⟩ ov') :=
    (hb.mono fun k _ e => (.inr (.inr (.inr ⟨ov, by simp, e⟩)) : Grows M O R [cv, ov, atBlock X, ev] k)).trans hs fun k _ e => .inr (.inl e)
  have hG : ∀ k, k < w.heap.size → Grows M O R [cv, ov'] k → Grows M O R [cv, ov, atBlock X, ev] k := by
    rintro k hlt (e | e | e | ⟨v, hv, e⟩)
    · exact .inl e
    · exact .inr (.inl e)
    · exact .inr (.inr (.inl e))
    · simp only [List.mem_cons, List.not_mem_nil, or_false] at hv
      rcases hv with rfl | rfl
      · exact .inr (.inr (.inr ⟨v, by simp, e⟩))
      · rcases hk k e with e | e
        · exact .inr (.inr (.inr ⟨ov, by simp, e⟩))
        · omega
  have he2 := hs.row he' fun k hk => ne2 (row_type he' hk) (by decide)
  have hr2 := hs.row hr fun k hk => ne2 (row_type hr hk) (by decide)
  have hc2 := hs.row hc' fun k hk => ne2 (row_type hc' hk) (by decide)
  have hM2 : (w'.setCell ⟨O, 0, none⟩ ov').heap[M]? = some (mapObj (numL (come.map (pkey q)))) := by
    rw [hs.block M (Array.getElem?_eq_some_iff.1 hM').1 fun e => map_ne hM' (owns_type ho') e]; exact hM'
  have ho2 := ho'.set 0 ov'
  have hst : Stay (Grows M O R [cv, ov']) (w'.setCell ⟨O, 0, none⟩ ov') fun w => looseRow w B 53 2 ev es.length (edVs es) := Stay.row he2 fun k hkk hG => by
    rcases hG with e | e | e | ⟨v, hv, e⟩
    · exact map_ne hM2 (row_type he2 hkk) e.symm
    · exact type_ne (owns_type ho2) (row_type he2 hkk) (by decide) e.symm
    · have := (row_lt he2 hkk).1; have := h.bR; omega
    · simp only [List.mem_cons, List.not_mem_nil, or_false] at hv
      rcases hv with rfl | rfl
      · exact type_ne (row_type hc2 e) (row_type he2 hkk) (by decide) rfl
      · exact type_ne (row_type hr2 e) (row_type he2 hkk) (by decide) rfl
  refine ⟨(h.below.trans (⟨hg.os, hg.tape, hg.output, hg.size, fun k hk => hb.block k (Nat.lt_of_lt_of_le hk h.size) fun e => by have := (row_lt h.orow e).1; omega⟩)).setCell h.bO _, hM2, hc2, ho2, ?_, ?_, h.bM, h.bO, h.bR, by have := h.size; have := hg.size; simp; omega⟩
  · have e : triVs (vs ++ [(.int .u8 kd, av, ev)]) = triVs vs ++ [.int .u8 kd, av, ev] := by simp [triVs, triF]
    rw [e, List.length_append]
    exact hr2
  · exact ((h.ostay.step hall hG).and ((h.astay.step hall hG).and hst)).imp fun w ⟨a1, a2, a3⟩ => a1.snoc a2 a3
end
end Go.Proofs.YtogmlonhciiomaaDoor
