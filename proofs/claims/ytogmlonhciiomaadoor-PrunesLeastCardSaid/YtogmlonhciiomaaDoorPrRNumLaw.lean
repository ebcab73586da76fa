/- The numbering of the document's Least: by a matrix of pairs told apart. No program in sight. -/
import Derived.Test.YtogmlonhciiomaaDoorPrApLaw
import Derived.Test.YtogmlonhciiomaaDoorPrEdges
namespace Go.Proofs.YtogmlonhciiomaaDoor

theorem may_tok {a : Aut} {al tk : Int} (h : a.mayB al tk = true) : ∀ i, ∀ e ∈ a.edges i, e.tok < tk := by
  intro i e he
  rcases Nat.lt_or_ge i a.length with hi | hi
  · rw [(Aut.at hi).2.2] at he
    unfold Aut.mayB at h
    simp only [Bool.and_eq_true, List.all_eq_true] at h
    have hf := h.2 _ (List.getElem_mem hi)
    simp only [Stt.fineB, Bool.and_eq_true] at hf
    exact (((riseB_iff _ _ _).1 hf.1.2).1 _ (List.mem_map_of_mem he)).2
  · rw [(Aut.out hi).2.2] at he
    cases he
/-- which are told from nothing -/
def liveL (n : Nat) (g : Nat → Nat → Bool) : List Bool := (List.range n).map fun i => g i n
theorem liveL_get {n : Nat} (g : Nat → Nat → Bool) (i : Nat) : (liveL n g).getD i false = (decide (i < n) && g i n) := by
  unfold liveL
  rw [List.getD_eq_getElem?_getD, List.getElem?_map]
  by_cases h : i < n
  · rw [List.getElem?_range h]; simp [h]
  · rw [List.getElem?_eq_none (by simpa using h)]; simp [h]
theorem trim_at (a : Aut) (es : List Bool) (i : Nat) : (a.trim es).kind i = a.kind i ∧ (a.trim es).alts i = a.alts i ∧ (a.trim es).edges i = (a.edges i).filter fun e => !a.strike es e := by
  have hat : (a.trim es)[i]? = (a[i]?).map fun s => (⟨s.kind, s.alts, s.edges.filter fun e => !a.strike es e⟩ : Stt) := by simp [Aut.trim]
  unfold Aut.kind Aut.alts Aut.edges
  rw [hat]
  cases a[i]? <;> simp

/-- what the matrix tells -/
structure Tells (a : Aut) (g : Nat → Nat → Bool) : Prop where
  self : ∀ c, a.Live c → g c c = false
  live : ∀ i, i < a.length → (g i a.length = true ↔ a.Live i)
  trim : Trim a (a.trim (liveL a.length g))
  like : ∀ i j, a.Live i → a.Live j → ((!g i j) = true ↔ (a.trim (liveL a.length g)).Like i j)
theorem tells_of {a : Aut} {T : Int} {g : Nat → Nat → Bool} (ok : Okay a) (hn : ∀ i, ∀ e ∈ a.edges i, e.tok < T) (h : ∀ i k, i ≤ a.length → k ≤ a.length → (g i k = true ↔ Apt a T (optN a.length i) (optN a.length k))) : Tells a g := by
  have ho : ∀ {i}, i < a.length → optN a.length i = some i := fun hi => by unfold optN; rw [if_neg (by omega)]
  have hN : optN a.length a.length = none := by unfold optN; rw [if_pos rfl]
  have hl : ∀ i, i < a.length → (g i a.length = true ↔ a.Live i) := fun i hi => by
    rw [h i _ (by omega) (Nat.le_refl _), ho hi, hN]
    exact apt_none ok hn
  have ht : Trim a (a.trim (liveL a.length g)) := trim_of fun i => by
    rw [liveL_get, Bool.and_eq_true, decide_eq_true_eq]
    constructor
    · rintro ⟨h1, h2⟩; exact (hl i h1).1 h2
    · intro hL; exact ⟨hL.lt, (hl i hL.lt).2 hL⟩
  have hk : ∀ i j, a.Live i → a.Live j → ((!g i j) = true ↔ (a.trim (liveL a.length g)).Like i j) := fun i j hi hj => by
    have h1 := h i j (Nat.le_of_lt hi.lt) (Nat.le_of_lt hj.lt)
    rw [ho hi.lt, ho hj.lt, apt_iff ok hn ht hi hj] at h1
    cases hg : g i j with
    | true => rw [hg] at h1; simpa using h1.1 rfl
    | false =>
      rw [hg] at h1
      simp only [Bool.not_false, true_iff]
      exact Classical.byContradiction fun hc => by have := h1.2 hc; cases this
  refine ⟨fun c hc => ?_, hl, ht, hk⟩
  have := (hk c c hc hc).2 (Aut.Like.refl _ _)
  simpa using this
/-- is an edge gone over? -/
theorem Tells.strike {a : Aut} {g : Nat → Nat → Bool} {e : Ed} {j : Nat} (hj : e.tgt = j) (hl : j < a.length) : a.strike (liveL a.length g) e = (!g j a.length || (e.tok == -1 && a.kind j == 0)) := by
  unfold Aut.strike
  rw [hj, Int.toNat_natCast, liveL_get, decide_eq_true hl, Bool.true_and]
theorem Tells.least {a : Aut} {g : Nat → Nat → Bool} (h : Tells a g) (h0 : a.Live 0) : IsLeast a (numM (a.trim (liveL a.length g)) fun i j => !g i j) := .inr ⟨h0, _, _, h.trim, h.like, rfl⟩
theorem Tells.dead {a : Aut} {g : Nat → Nat → Bool} (h : Tells a g) (hl : 0 < a.length) (h0 : g 0 a.length = false) : IsLeast a [⟨2, [], []⟩] := .inl ⟨fun hL => (by rw [(h.live 0 hl).2 hL] at h0; cases h0), rfl⟩

/-- those that came -/
structure CIv (a : Aut) (g : Nat → Nat → Bool) (come : List Nat) : Prop where
  lt : ∀ c ∈ come, c < a.length
  live : ∀ c ∈ come, a.Live c
  apart : ∀ k l (h1 : k < come.length) (h2 : l < come.length), k < l → g come[k] come[l] = true
  pos : 0 < come.length
theorem CIv.most {a : Aut} {g : Nat → Nat → Bool} {come : List Nat} (h : CIv a g come) (hT : Tells a g) : come.length ≤ a.length :=
  nodup_below a.length come (by
    rw [List.nodup_iff_pairwise_ne, List.pairwise_iff_getElem]
    intro k l h1 h2 hkl e
    have := h.apart k l h1 h2 hkl
    rw [e, hT.self _ (h.live _ (List.getElem_mem h2))] at this
    cases this) h.lt
theorem CIv.snoc {a : Aut} {g : Nat → Nat → Bool} {come : List Nat} (h : CIv a g come) {c : Nat} (hc : c < a.length) (hL : a.Live c) (hn : ∀ k (h1 : k < come.length), g come[k] c = true) : CIv a g (come ++ [c]) := by
  refine ⟨fun d hd => ?_, fun d hd => ?_, fun k l h1 h2 hkl => ?_, by simp⟩
  · rcases List.mem_append.1 hd with hd | hd
    · exact h.lt d hd
    · rw [List.mem_singleton.1 hd]; exact hc
  · rcases List.mem_append.1 hd with hd | hd
    · exact h.live d hd
    · rw [List.mem_singleton.1 hd]; exact hL
  · simp only [List.length_append, List.length_cons, List.length_nil] at h1 h2
    by_cases e : l < come.length
    · rw [List.getElem_append_left (by omega), List.getElem_append_left e]; exact h.apart k l (by omega) e hkl
    · have : l = come.length := by omega
      subst this
      rw [List.getElem_append_left hkl, List.getElem_concat_length rfl]
      exact hn k hkl
theorem CIv.start {a : Aut} {g : Nat → Nat → Bool} (h : a.Live 0) : CIv a g [0] := ⟨by simpa using h.lt, by simpa using h, fun k l h1 h2 hkl => by simp at h1 h2; omega, by simp⟩
/-- the first one of which an edge's state is not told apart -/
theorem find_none {g : Nat → Nat → Bool} {come : List Nat} {t : Nat} (h : ∀ k (h1 : k < come.length), g come[k] t = true) : come.findIdx? (fun c => !g c t) = none := by
  rw [List.findIdx?_eq_none_iff]
  intro c hc
  obtain ⟨k, hk, rfl⟩ := List.mem_iff_getElem.1 hc
  rw [h k hk]; rfl
theorem find_some {g : Nat → Nat → Bool} {come : List Nat} {t k : Nat} (hk : k < come.length) (h : ∀ j (h1 : j < come.length), j < k → g come[j] t = true) (hg : g come[k] t = false) : come.findIdx? (fun c => !g c t) = some k := by
  rw [List.findIdx?_eq_some_iff_getElem]
  refine ⟨hk, by rw [hg]; rfl, fun j hj => ?_⟩
  rw [h j (by omega) hj]
  simp
/-- within a state: how far the numbering is -/
def NumF (same : Nat → Nat → Bool) (p : Ed → Bool) (l : List Ed) (come0 come : List Nat) (es : List Ed) (k : Nat) : Prop := numE same (l.filter p) come0 = (es ++ (numE same ((l.drop k).filter p) come).1, (numE same ((l.drop k).filter p) come).2)
section
variable {same : Nat → Nat → Bool} {p : Ed → Bool} {l : List Ed} {come0 come : List Nat} {es : List Ed} {k c : Nat}
theorem NumF.start : NumF same p l come0 come0 [] 0 := rfl
theorem NumF.skip (h : NumF same p l come0 come es k) (hk : k < l.length) (hp : p l[k] = false) : NumF same p l come0 come es (k + 1) := by
  unfold NumF at *
  rw [h, List.drop_eq_getElem_cons hk, List.filter_cons_of_neg (by rw [hp]; simp)]
theorem NumF.old (h : NumF same p l come0 come es k) (hk : k < l.length) (hp : p l[k] = true) (hf : come.findIdx? (fun d => same d l[k].tgt.toNat) = some c) : NumF same p l come0 come (es ++ [⟨l[k].tok, c⟩]) (k + 1) := by
  unfold NumF at *
  rw [h, List.drop_eq_getElem_cons hk, List.filter_cons_of_pos hp, numE_some hf]
  simp
theorem NumF.new (h : NumF same p l come0 come es k) (hk : k < l.length) (hp : p l[k] = true) (hf : come.findIdx? (fun d => same d l[k].tgt.toNat) = none) : NumF same p l come0 (come ++ [l[k].tgt.toNat]) (es ++ [⟨l[k].tok, come.length⟩]) (k + 1) := by
  unfold NumF at *
  rw [h, List.drop_eq_getElem_cons hk, List.filter_cons_of_pos hp, numE_none hf]
  simp
theorem NumF.done (h : NumF same p l come0 come es l.length) : numE same (l.filter p) come0 = (es, come) := by
  unfold NumF at h
  rw [h, List.drop_length]
  simp [numE]
theorem NumF.len (h : NumF same p l come0 come es k) : es.length ≤ l.length := by
  have := congrArg (fun x => x.1.length) h
  simp only [List.length_append, numE_len] at this
  have h2 := List.length_filter_le p l
  omega
end
/-- between states -/
def NumA (t : Aut) (same : Nat → Nat → Bool) (i : Nat) (come : List Nat) (out : Aut) : Prop := numM t same = numAll t same (5000 - i) i come out
theorem NumA.next {t : Aut} {same : Nat → Nat → Bool} {i : Nat} {come come' : List Nat} {out : Aut} {es : List Ed} (h : NumA t same i come out) {c : Nat} (hi : come[i]? = some c) (h5 : i < 5000) (hn : numE same (t.edges c) come = (es, come')) :
    NumA t same (i + 1) come' (out ++ [⟨t.kind c, t.alts c, es⟩]) := by
  unfold NumA at *
  rw [h, show 5000 - i = (5000 - (i + 1)) + 1 by omega, numAll, hi]
  simp only [hn]
theorem NumA.done {t : Aut} {same : Nat → Nat → Bool} {come : List Nat} {out : Aut} (h : NumA t same come.length come out) (h5 : come.length < 5000) : numM t same = out := by
  unfold NumA at h
  rw [h, show 5000 - come.length = (5000 - (come.length + 1)) + 1 by omega, numAll, List.getElem?_eq_none (Nat.le_refl _)]
end Go.Proofs.YtogmlonhciiomaaDoor
