/- The numbering of the document's Least in memory. -/
import Derived.Test.YtogmlonhciiomaaDoorPrApart
import Derived.Test.YtogmlonhciiomaaDoorPrOther
namespace Go.Proofs.YtogmlonhciiomaaDoor
open Go.RowKit

/-- the blocks that grow -/
def RGrows (O R : Nat) (vs : List Value) (k : Nat) : Prop := k = O ∨ k ≤ R ∨ ∃ v ∈ vs, v.ownBlock = some k
/-- within a state: what lies in memory -/
structure RIn (W : World) (B O R X : Nat) (come : List Nat) (kd : Int) (al : List Int) (es : List Ed) (out : Aut) (cv ov av eb ev : Value) (vs : List (Value × Value × Value)) (w : World) : Prop where
  below : Below B W w
  come : looseRow w B 3 1 cv come.length (intVs (partL come))
  obox : Owns w O [ov] 31
  orow : looseRow w B 63 3 ov out.length (triVs vs)
  ostay : Stay (RGrows O R [cv, ov, atBlock X, ev]) w fun w => StsIn .i64 w w.heap.size vs out
  xbox : Owns w X [.int .i64 kd, av, eb] 63
  erow : looseRow w B 64 2 ev es.length (edVs es)
  astay : Stay (RGrows O R [cv, ov, atBlock X, ev]) w fun w => IntsV w w.heap.size av al
  xo : ov.ownBlock ≠ some X
  bO : B ≤ O
  bX : B ≤ X
  bR : R < B
  size : B ≤ w.heap.size

section
variable {W : World} {B O R X : Nat} {come : List Nat} {kd : Int} {al : List Int} {es : List Ed} {out : Aut} {cv ov av eb ev : Value} {vs : List (Value × Value × Value)} {w w' : World}
theorem RIn.grew (h : RIn W B O R X come kd al es out cv ov av eb ev vs w) (hg : Grew w w') : RIn W B O R X come kd al es out cv ov av eb ev vs w' where
  below := h.below.trans (hg.mono h.size)
  come := h.come.keep hg
  obox := h.obox.keep hg
  orow := h.orow.keep hg
  ostay := h.ostay.step (But.of_grew hg) fun _ _ hk => hk
  xbox := h.xbox.keep hg
  erow := h.erow.keep hg
  astay := h.astay.step (But.of_grew hg) fun _ _ hk => hk
  xo := h.xo
  bO := h.bO
  bX := h.bX
  bR := h.bR
  size := Nat.le_trans h.size hg.size
/-- one more has come -/
theorem RIn.comes (h : RIn W B O R X come kd al es out cv ov av eb ev vs w) {cv' : Value} {c : Nat} (hr : looseRow w' B 3 1 cv' (come.length + 1) (intVs (partL come) ++ [.int .i64 c])) (hg : w.grownBy w' cv.ownBlock) (hk : ∀ k, cv'.ownBlock = some k → cv.ownBlock = some k ∨ w.heap.size ≤ k) :
    RIn W B O R X (come ++ [c]) kd al es out cv' ov av eb ev vs w' := by
  have hb : But (fun k => cv.ownBlock = some k) w w' := But.grown hg fun k e => e
  have ne : ∀ {k T : Nat}, (∃ cur, w.heap[k]? = some (.cells cur T (0, 0))) → 3 ≠ T → ¬ cv.ownBlock = some k := fun hk hT e => type_ne (row_type h.come e) hk hT rfl
  have hF : But (RGrows O R [cv, ov, atBlock X, ev]) w w' := hb.mono fun k _ e => .inr (.inr ⟨cv, by simp, e⟩)
  have hG : ∀ k, k < w.heap.size → RGrows O R [cv', ov, atBlock X, ev] k → RGrows O R [cv, ov, atBlock X, ev] k := by
    rintro k hlt (e | e | ⟨v, hv, e⟩)
    · exact .inl e
    · exact .inr (.inl e)
    · simp only [List.mem_cons, List.not_mem_nil, or_false] at hv
      rcases hv with rfl | rfl | rfl | rfl
      · rcases hk k e with e | e
        · exact .inr (.inr ⟨cv, by simp, e⟩)
        · omega
      · exact .inr (.inr ⟨v, by simp, e⟩)
      · exact .inr (.inr ⟨_, by simp, e⟩)
      · exact .inr (.inr ⟨v, by simp, e⟩)
  refine ⟨h.below.trans (⟨hg.os, hg.tape, hg.output, hg.size, fun k hk => hb.block k (Nat.lt_of_lt_of_le hk h.size) fun e => by have := (row_lt h.come e).1; omega⟩), ?_, hb.owns h.obox (ne (owns_type h.obox) (by decide)), hb.row h.orow fun k hk => ne (row_type h.orow hk) (by decide),
    h.ostay.step hF hG, hb.owns h.xbox (ne (owns_type h.xbox) (by decide)), hb.row h.erow fun k hk => ne (row_type h.erow hk) (by decide), h.astay.step hF hG, h.xo, h.bO, h.bX, h.bR, Nat.le_trans h.size hg.size⟩
  · have e : intVs (partL (come ++ [c])) = intVs (partL come) ++ [.int .i64 (c : Int)] := by simp [intVs, partL]
    rw [e, List.length_append]
    exact hr
/-- an edge more, in the row -/
theorem RIn.edge (h : RIn W B O R X come kd al es out cv ov av eb ev vs w) {ev' : Value} {e : Ed} (hr : looseRow w' B 64 2 ev' (es.length + 1) (edVs es ++ [.int .i64 e.tok, .int .i64 e.tgt])) (hg : w.grownBy w' ev.ownBlock) (hk : ∀ k, ev'.ownBlock = some k → ev.ownBlock = some k ∨ w.heap.size ≤ k) :
    RIn W B O R X come kd al (es ++ [e]) out cv ov av eb ev' vs w' := by
  have hb : But (fun k => ev.ownBlock = some k) w w' := But.grown hg fun k e => e
  have ne : ∀ {k T : Nat}, (∃ cur, w.heap[k]? = some (.cells cur T (0, 0))) → 64 ≠ T → ¬ ev.ownBlock = some k := fun hk hT e => type_ne (row_type h.erow e) hk hT rfl
  have hF : But (RGrows O R [cv, ov, atBlock X, ev]) w w' := hb.mono fun k _ e => .inr (.inr ⟨ev, by simp, e⟩)
  have hG : ∀ k, k < w.heap.size → RGrows O R [cv, ov, atBlock X, ev'] k → RGrows O R [cv, ov, atBlock X, ev] k := by
    rintro k hlt (e | e | ⟨v, hv, e⟩)
    · exact .inl e
    · exact .inr (.inl e)
    · simp only [List.mem_cons, List.not_mem_nil, or_false] at hv
      rcases hv with rfl | rfl | rfl | rfl
      · exact .inr (.inr ⟨v, by simp, e⟩)
      · exact .inr (.inr ⟨v, by simp, e⟩)
      · exact .inr (.inr ⟨_, by simp, e⟩)
      · rcases hk k e with e | e
        · exact .inr (.inr ⟨ev, by simp, e⟩)
        · omega
  refine ⟨h.below.trans (⟨hg.os, hg.tape, hg.output, hg.size, fun k hk => hb.block k (Nat.lt_of_lt_of_le hk h.size) fun e => by have := (row_lt h.erow e).1; omega⟩), hb.row h.come fun k hk => ne (row_type h.come hk) (by decide), hb.owns h.obox (ne (owns_type h.obox) (by decide)), hb.row h.orow fun k hk => ne (row_type h.orow hk) (by decide),
    h.ostay.step hF hG, hb.owns h.xbox (ne (owns_type h.xbox) (by decide)), ?_, h.astay.step hF hG, h.xo, h.bO, h.bX, h.bR, Nat.le_trans h.size hg.size⟩
  · have e' : edVs (es ++ [e]) = edVs es ++ [.int .i64 e.tok, .int .i64 e.tgt] := by simp [edVs, edF]
    rw [e', List.length_append]
    exact hr
/-- the row is put into the state -/
theorem RIn.store (h : RIn W B O R X come kd al es out cv ov av eb ev vs w) (x : Value) : RIn W B O R X come kd al es out cv ov av x ev vs (w.setCell ⟨X, 2, none⟩ x) := by
  have hb : But (fun k => k = X) w (w.setCell ⟨X, 2, none⟩ x) := But.set (F := fun k => k = X) (a := ⟨X, 2, none⟩) rfl _
  have ne : ∀ {k T : Nat}, (∃ cur, w.heap[k]? = some (.cells cur T (0, 0))) → 63 ≠ T → ¬ k = X := fun hk hT e => type_ne (owns_type h.xbox) hk hT e.symm
  refine ⟨h.below.setCell h.bX _, hb.row h.come fun k hk => ne (row_type h.come hk) (by decide), hb.owns h.obox (ne (owns_type h.obox) (by decide)), hb.row h.orow fun k hk e => h.xo (e ▸ hk),
    h.ostay.step (hb.mono fun k _ e => .inr (.inr ⟨atBlock X, by simp, by rw [atBlock_own, e]⟩)) fun _ _ hk => hk, h.xbox.set 2 x, hb.row h.erow fun k hk => ne (row_type h.erow hk) (by decide),
    h.astay.step (hb.mono fun k _ e => .inr (.inr ⟨atBlock X, by simp, by rw [atBlock_own, e]⟩)) fun _ _ hk => hk, h.xo, h.bO, h.bX, h.bR, by simpa using h.size⟩
end

/-- between states: what lies in memory -/
structure ROut (W : World) (B O R : Nat) (come : List Nat) (out : Aut) (cv ov : Value) (vs : List (Value × Value × Value)) (w : World) : Prop where
  below : Below B W w
  come : looseRow w B 3 1 cv come.length (intVs (partL come))
  obox : Owns w O [ov] 31
  orow : looseRow w B 63 3 ov out.length (triVs vs)
  ostay : Stay (RGrows O R [cv, ov]) w fun w => StsIn .i64 w w.heap.size vs out
  bO : B ≤ O
  bR : R < B
  size : B ≤ w.heap.size
section
variable {W : World} {B O R X : Nat} {come : List Nat} {kd : Int} {al : List Int} {es : List Ed} {out : Aut} {cv ov av ev : Value} {vs : List (Value × Value × Value)} {w w' : World}
theorem ROut.grew (h : ROut W B O R come out cv ov vs w) (hg : Grew w w') : ROut W B O R come out cv ov vs w' :=
  ⟨h.below.trans (hg.mono h.size), h.come.keep hg, h.obox.keep hg, h.orow.keep hg, h.ostay.step (But.of_grew hg) fun _ _ hk => hk, h.bO, h.bR, Nat.le_trans h.size hg.size⟩
/-- a state is begun -/
theorem ROut.begin (h : ROut W B O R come out cv ov vs w) (hg : Grew w w') (hX : w.heap.size ≤ X) (ho : Owns w' X [.int .i64 kd, av, .slice none 0 0] 63) (ha : looseRow w' w.heap.size 3 1 av al.length (intVs al)) :
    RIn W B O R X come kd al [] out cv ov av (.slice none 0 0) (.slice none 0 0) vs w' := by
  have hO := h.obox.lt
  have old : ∀ k, k < w.heap.size → RGrows O R [cv, ov, atBlock X, .slice none 0 0] k → RGrows O R [cv, ov] k := by
    rintro k hlt (e | e | ⟨v, hv, e⟩)
    · exact .inl e
    · exact .inr (.inl e)
    · simp only [List.mem_cons, List.not_mem_nil, or_false] at hv
      rcases hv with rfl | rfl | rfl | rfl
      · exact .inr (.inr ⟨v, by simp, e⟩)
      · exact .inr (.inr ⟨v, by simp, e⟩)
      · rw [atBlock_own] at e
        have := Option.some.inj e
        omega
      · simp [Value.ownBlock] at e
  have h' := h.grew hg
  refine ⟨h'.below, h'.come, h'.obox, h'.orow, h.ostay.step (But.of_grew hg) old, ho, ⟨rfl, .inl ⟨rfl, rfl⟩⟩, ?_, ?_, h.bO, Nat.le_trans h.size hX, h.bR, h'.size⟩
  · refine (Stay.row ha fun k hk hG => ?_).imp fun w hr => ints_of_row hr
    have h1 := row_lt ha hk
    have hR := h.bR
    have hS := h.size
    rcases hG with e | e | ⟨v, hv, e⟩
    · omega
    · omega
    · simp only [List.mem_cons, List.not_mem_nil, or_false] at hv
      rcases hv with rfl | rfl | rfl | rfl
      · have := (row_lt h.come e).2; omega
      · have := (row_lt h.orow e).2; omega
      · rw [atBlock_own] at e
        exact type_ne (owns_type ho) (row_type ha hk) (by decide) (Option.some.inj e)
      · simp [Value.ownBlock] at e
  · intro e
    have := (row_lt h.orow e).2
    omega
/-- a state is done -/
theorem RIn.finish (h : RIn W B O R X come kd al es out cv ov av ev ev vs w) {ov' : Value} (hr : looseRow w' B 63 3 ov' (out.length + 1) (triVs vs ++ [.int .i64 kd, av, ev])) (hg : w.grownBy w' ov.ownBlock) (hk : ∀ k, ov'.ownBlock = some k → ov.ownBlock = some k ∨ w.heap.size ≤ k) :
    ROut W B O R come (out ++ [⟨kd, al, es⟩]) cv ov' (vs ++ [(.int .i64 kd, av, ev)]) (w'.setCell ⟨O, 0, none⟩ ov') := by
  have hb : But (fun k => ov.ownBlock = some k) w w' := But.grown hg fun k e => e
  have ne : ∀ {k T : Nat}, (∃ cur, w.heap[k]? = some (.cells cur T (0, 0))) → 63 ≠ T → ¬ ov.ownBlock = some k := fun hk hT e => type_ne (row_type h.orow e) hk hT rfl
  have hc' := hb.row h.come fun k hk => ne (row_type h.come hk) (by decide)
  have ho' := hb.owns h.obox (ne (owns_type h.obox) (by decide))
  have he' := hb.row h.erow fun k hk => ne (row_type h.erow hk) (by decide)
  have hs : But (fun k => k = O) w' (w'.setCell ⟨O, 0, none⟩ ov') := But.set (F := fun k => k = O) (a := ⟨O, 0, none⟩) rfl _
  have ne2 : ∀ {k T : Nat}, (∃ cur, w'.heap[k]? = some (.cells cur T (0, 0))) → 31 ≠ T → ¬ k = O := fun hk hT e => type_ne (owns_type ho') hk hT e.symm
  have hall : But (RGrows O R [cv, ov, atBlock X, ev]) w (w'.setCell ⟨O, 0, none⟩ ov') :=
    (hb.mono fun k _ e => (.inr (.inr ⟨ov, by simp, e⟩) : RGrows O R [cv, ov, atBlock X, ev] k)).trans hs fun k _ e => .inl e
  have hG : ∀ k, k < w.heap.size → RGrows O R [cv, ov'] k → RGrows O R [cv, ov, atBlock X, ev] k := by
    rintro k hlt (e | e | ⟨v, hv, e⟩)
    · exact .inl e
    · exact .inr (.inl e)
    · simp only [List.mem_cons, List.not_mem_nil, or_false] at hv
      rcases hv with rfl | rfl
      · exact .inr (.inr ⟨v, by simp, e⟩)
      · rcases hk k e with e | e
        · exact .inr (.inr ⟨ov, by simp, e⟩)
        · omega
  have he2 := hs.row he' fun k hk => ne2 (row_type he' hk) (by decide)
  have hr2 := hs.row hr fun k hk => ne2 (row_type hr hk) (by decide)
  have hc2 := hs.row hc' fun k hk => ne2 (row_type hc' hk) (by decide)
  have ho2 := ho'.set 0 ov'
  have hst : Stay (RGrows O R [cv, ov']) (w'.setCell ⟨O, 0, none⟩ ov') fun w => looseRow w B 64 2 ev es.length (edVs es) := Stay.row he2 fun k hkk hG => by
    rcases hG with e | e | ⟨v, hv, e⟩
    · exact type_ne (owns_type ho2) (row_type he2 hkk) (by decide) e.symm
    · have := (row_lt he2 hkk).1; have := h.bR; omega
    · simp only [List.mem_cons, List.not_mem_nil, or_false] at hv
      rcases hv with rfl | rfl
      · exact type_ne (row_type hc2 e) (row_type he2 hkk) (by decide) rfl
      · exact type_ne (row_type hr2 e) (row_type he2 hkk) (by decide) rfl
  refine ⟨(h.below.trans (⟨hg.os, hg.tape, hg.output, hg.size, fun k hk => hb.block k (Nat.lt_of_lt_of_le hk h.size) fun e => by have := (row_lt h.orow e).1; omega⟩)).setCell h.bO _, hc2, ho2, ?_, ?_, h.bO, h.bR, by have := h.size; have := hg.size; simp; omega⟩
  · have e : triVs (vs ++ [(.int .i64 kd, av, ev)]) = triVs vs ++ [.int .i64 kd, av, ev] := by simp [triVs, triF]
    rw [e, List.length_append]
    exact hr2
  · exact ((h.ostay.step hall hG).and ((h.astay.step hall hG).and hst)).imp fun w ⟨a1, a2, a3⟩ => a1.snoc ⟨rfl, a2, loose_eds a3⟩
end
end Go.Proofs.YtogmlonhciiomaaDoor
