/- A state of the doubled automaton being built: what lies in memory. -/
import Derived.Test.YtogmlonhciiomaaDoorPrOnMem
namespace Go.Proofs.YtogmlonhciiomaaDoor
open Go.RowKit

theorem info_oEdge : (Tryd.prog.info? 53).map (fun i => (i.zero, i.size, i.bytes)) = some (some (.agg #[.int .i64 0, .int .i64 0]), 2, 16) := by kernel_rfl
theorem info_oState : (Tryd.prog.info? 51).map (fun i => (i.zero, i.size, i.bytes)) = some (some (.agg #[.int .u8 0, .slice none 0 0, .slice none 0 0]), 3, 56) := by kernel_rfl
theorem edVs_snoc (l : List Ed) (e : Ed) : edVs l ++ [.int .i64 e.tok, .int .i64 e.tgt] = edVs (l ++ [e]) := by
  unfold edVs
  rw [List.flatMap_append]
  rfl
/-- the state in the making: its box, its alternatives, its edges so far -/
structure InAt (wo wr : World) (b : Nat) (kd : Int) (al : List Int) (u ev : Value) (es : List Ed) : Prop where
  low : Grew wo wr
  far : wo.heap.size ≤ b
  box : Owns wr b [.int .u8 kd, u, ev] 51
  alts : looseRow wr wo.heap.size 3 1 u al.length (intVs al)
  row : looseRow wr wo.heap.size 53 2 ev es.length (edVs es)
theorem InAt.keep {wo w w' : World} {b : Nat} {kd : Int} {al : List Int} {u ev : Value} {es : List Ed} (h : InAt wo w b kd al u ev es) (hg : Grew w w') : InAt wo w' b kd al u ev es :=
  ⟨h.low.trans hg, h.far, h.box.keep hg, h.alts.keep hg, h.row.keep hg⟩
/-- an edge more -/
theorem InAt.push {wo w w1 : World} {b g cap : Nat} {kd : Int} {al : List Int} {u ev : Value} {es : List Ed} {e : Ed} {n : Nat} (h : InAt wo w b kd al u ev es) (hn : es.length = n)
    (hown : looseRow w1 wo.heap.size 53 2 (.slice (some ⟨g, 0, none⟩) (n + 1) cap) (n + 1) (edVs es ++ [.int .i64 e.tok, .int .i64 e.tgt])) (hgrow : w.grownBy w1 ev.ownBlock) :
    InAt wo (w1.setCell ⟨b, 2, none⟩ (.slice (some ⟨g, 0, none⟩) (n + 1) cap)) b kd al u (.slice (some ⟨g, 0, none⟩) (n + 1) cap) (es ++ [e]) := by
  subst hn
  have hb4 := h.box.apart h.row hgrow (by decide)
  have hty : ∀ {e size n : Nat} {y : Value} {xs : List Value}, looseRow w1 wo.heap.size e size y n xs → 51 ≠ e → y.ownBlock ≠ some b := fun hr hT e => type_ne (owns_type hb4) (row_type hr e) hT rfl
  have ha := row_apart h.row hgrow h.alts (by decide)
  refine ⟨Below.setCell (grew_row h.low h.row hgrow) (p := ⟨b, 2, none⟩) h.far _, h.far, hb4.set 2 _, ha.off (a := ⟨b, 2, none⟩) (hty ha (by decide)) _, ?_⟩
  have := looseRow.off hown (a := ⟨b, 2, none⟩) (hty hown (by decide)) (.slice (some ⟨g, 0, none⟩) (es.length + 1) cap)
  rw [edVs_snoc] at this
  rw [List.length_append]
  exact this
/-- the edge in hand -/
theorem dblE_snoc (how : List Int) (n : Nat) (l : List Ed) (q k : Nat) (h : k < l.length) :
    (dblE how n l q).take (k + 1) = (dblE how n l q).take k ++ [⟨l[k].tok, if upB how (q + k) then l[k].tgt + n else l[k].tgt⟩] := by
  have h1 : k < (dblE how n l q).length := by rw [dblE_len]; exact h
  rw [List.take_add_one, List.getElem?_eq_getElem h1, dblE_get how n l q k h1 h]
  rfl
theorem dblE_last (how : List Int) (n : Nat) (l : List Ed) (q : Nat) (h : 0 < l.length) : ∃ h' : l.length - 1 < l.length, l.getLast? = some l[l.length - 1] ∧ ∃ h2 : l.length - 1 < (dblE how n l q).length, (dblE how n l q)[l.length - 1].tok = l[l.length - 1].tok := by
  have h1 : l.length - 1 < l.length := by omega
  have h2 : l.length - 1 < (dblE how n l q).length := by rw [dblE_len]; exact h1
  refine ⟨h1, ?_, h2, ?_⟩
  · rw [List.getLast?_eq_getElem?, List.getElem?_eq_getElem h1]
  · rw [dblE_get how n l q _ h2 h1]
theorem how_out {how : List Int} {r : Nat} (h : how.length ≤ r) : upB how r = false ∧ downB how r = false := by
  unfold upB downB
  rw [List.getElem?_eq_none h]
  exact ⟨rfl, rfl⟩
theorem up_in {how : List Int} {r : Nat} (h : r < how.length) {k : Int} (h0 : 0 ≤ how[r]) (hk : Int.tmod how[r] 2 = k) : 0 ≤ k ∧ k ≤ 1 ∧ upB how r = (k == 1) := by
  rw [Int.tmod_eq_emod_of_nonneg h0] at hk
  unfold upB
  rw [List.getElem?_eq_getElem h]
  subst hk
  exact ⟨by omega, by omega, rfl⟩
theorem down_in {how : List Int} {r : Nat} (h : r < how.length) {k : Int} (h0 : 0 ≤ how[r]) (hk : Int.tmod how[r] 4 = k) : 0 ≤ k ∧ k ≤ 3 ∧ downB how r = decide (1 < k) := by
  rw [Int.tmod_eq_emod_of_nonneg h0] at hk
  unfold downB
  rw [List.getElem?_eq_getElem h]
  subst hk
  exact ⟨by omega, by omega, rfl⟩
theorem room_nil {many : Int} {l : List Ed} (h : l.length = 0) : roomB many l = true := by
  rw [List.length_eq_zero_iff] at h
  subst h
  rfl
theorem room_dbl {how : List Int} {n : Nat} {many : Int} {l E : List Ed} {q k : Nat} (hE : dblE how n l q = E) (h : l.length = k + 1) : ∃ x, (edVs E)[k * 2]? = some (.int .i64 x) ∧ roomB many l = decide (x < many - 1) := by
  have h0 : 0 < l.length := by omega
  obtain ⟨h1, h2, h3, h4⟩ := dblE_last how n l q h0
  subst hE
  refine ⟨(dblE how n l q)[l.length - 1].tok, ?_, ?_⟩
  · have e : k = l.length - 1 := by omega
    have := flat_get _ _ edF_len (dblE how n l q) k 0 (by omega)
    simp only [Nat.add_zero] at this
    unfold edVs
    rw [this, e, List.getElem?_eq_getElem h3]
    rfl
  · unfold roomB
    rw [h2, h4]
theorem mb_is {k m : Int} {rb db mb : Bool} (h : decide (k = 0 ∧ 0 < m ∧ rb = true ∧ db = true) = mb) {kb lb : Bool} (h1 : decide (k = 0) = kb) (h2 : decide (0 < m) = lb) : Value.bool (kb && lb && rb && db) = .bool mb := by
  subst h1 h2 h
  congr 1
  by_cases g1 : k = 0 <;> by_cases g2 : 0 < m <;> cases rb <;> cases db <;> simp [g1, g2]
theorem more_is {how : List Int} {n r : Nat} {m : Int} {s : Stt} {mb : Bool} (h : decide (s.kind = 0 ∧ 0 < m ∧ roomB m s.edges = true ∧ downB how r = true) = mb) : moreE how n m s r = if mb then [⟨m - 1, 2 * (n : Int)⟩] else [] := by
  subst h
  unfold moreE
  by_cases g : s.kind = 0 ∧ 0 < m ∧ roomB m s.edges = true ∧ downB how r = true
  · rw [if_pos g, decide_eq_true g]; rfl
  · rw [if_neg g, decide_eq_false g]; rfl
theorem wrap_u8_few {k : Int} (h : 0 ≤ k ∧ k ≤ 3) : IntKind.u8.wrap k = k := by
  rcases (by omega : k = 0 ∨ k = 1 ∨ k = 2 ∨ k = 3) with rfl | rfl | rfl | rfl <;> rfl
theorem AtOf.more {a : Aut} {how : List Int} {many : Int} {j p : Nat} (h : AtOf a how many j p) (hF : a.Few) (hj : j < 2 * a.length) :
    ∃ jm, ∃ h' : jm < a.length, Int.tmod (j : Int) (a.length : Int) = (jm : Int) ∧ (∃ h1 : j < (dblA a how many).length, (dblA a how many)[j] = dblS how a.length many a[jm] p) ∧ AtOf a how many (j + 1) (p + a[jm].edges.length) := by
  have hmod : j % a.length < a.length := Nat.mod_lt _ (by omega)
  refine ⟨j % a.length, hmod, ?_, h.next hj hmod (hF.edges _ (List.getElem_mem hmod))⟩
  rw [Int.tmod_eq_emod_of_nonneg (by omega)]
  omega
/-- a fresh row of one -/
theorem row_one {w : World} {b T base size : Nat} {cs : List Value} (h : Owns w b cs T) (hb : base ≤ b) (hl : cs.length = size) : looseRow w base T size (.slice (some ⟨b, 0, none⟩) 1 1) 1 cs :=
  ⟨by omega, .inr ⟨b, 1, cs.toArray, rfl, hb, h, Nat.le_refl _, by unfold maxLen; omega, by simp [hl], by simp [← hl]⟩⟩
/-- the last state -/
theorem dblA_end {a : Aut} {how : List Int} {many : Int} (h : 0 < a.length) : ∃ h1 : 2 * a.length < (dblA a how many).length, (dblA a how many)[2 * a.length] = ⟨0, [], [⟨-1, 2 * (a.length : Int)⟩]⟩ := by
  obtain ⟨h1, h2⟩ := List.getElem?_eq_some_iff.1 (dblA_last a how many h)
  exact ⟨h1, h2⟩
end Go.Proofs.YtogmlonhciiomaaDoor
