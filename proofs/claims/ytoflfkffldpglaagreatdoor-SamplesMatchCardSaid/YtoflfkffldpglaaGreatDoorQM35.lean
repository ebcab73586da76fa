/- So many rounds tell all that is least. Plain. -/
import Derived.Test.YtoflfkffldpglaaGreatDoorQM34
namespace Go.Proofs.YtoflfkffldpglaaGreatDoor
section
variable {B : Bk} {Fk : Nat → List Fst}
structure Chain (B : Bk) (Fk : Nat → List Fst) : Prop where
  sound : ∀ k, SoundF B (Fk k)
  next : ∀ (k r : Nat) (n : Nd), B.bodies[r]? = some n → (Fk (k + 1))[r]? = some ((B.wf (Fk k)).firstN n)
  start : ∀ (r : Nat) (f : Fst), (Fk 0)[r]? = some f → f.long = -1
  lp : ∀ n ∈ B.bodies, n.lp
theorem mkF_long (v : List Int) : (mkF v).long ≠ -1 := by unfold mkF; dsimp only; omega
theorem Min.uniq {n : Nd} {u v : List Int} (h : Min B n u) (k : Min B n v) : u = v := slB_tri (k.2 u h.1) (h.2 v k.1)
mutual
theorem exN (hC : Chain B Fk) : ∀ {n : Nd} {u : List Int}, Lg B n u → n.lp → Min B n u → u.length ≤ 256 → ∃ k, ∀ k', k ≤ k' → (B.wf (Fk k')).firstN n = mkF u
  | _, _, .tok (x := x) h, _, hm, _ => ⟨0, fun k' _ => by
    rw [Bk.firstN, if_pos rfl]
    rcases h with rfl | rfl
    · rfl
    · exact absurd hm.1.2 (by simp)⟩
  | .mk _ nm tx set subs, u, .ref h hd, _, hm, hl => by
    obtain ⟨⟨-, h2⟩, h3⟩ := hm
    obtain ⟨k, hk⟩ := exN hC hd (hC.lp _ (List.mem_of_getElem? h)) ⟨⟨hd, h2⟩, fun u hu => h3 u ⟨.ref h hu.1, hu.2⟩⟩ hl
    refine ⟨k + 1, fun k' hk' => ?_⟩
    obtain ⟨m, rfl⟩ : ∃ m, k' = m + 1 := ⟨k' - 1, by omega⟩
    have h5 := hC.next m _ _ h
    rw [hk m (by omega)] at h5
    rw [Bk.firstN, if_neg (by decide), if_pos rfl]
    have e : (B.wf (Fk (m + 1))).firsts[(B.wf (Fk (m + 1))).rule nm]? = some (mkF u) := h5
    rw [e]
    rfl
  | .mk _ nm tx set subs, u, .seq h, hlp, hm, hl => by
    rw [Nd.lp] at hlp
    obtain ⟨⟨-, h2⟩, h3⟩ := hm
    obtain ⟨k, hk⟩ := exL hC h hlp.2 ⟨⟨h, h2⟩, fun u hu => h3 u ⟨.seq hu.1, hu.2⟩⟩ hl
    refine ⟨k, fun k' hk' => ?_⟩
    rw [Bk.firstN, if_neg (by decide), if_neg (by decide), if_pos rfl]
    have := hk k' hk' [] (by simpa using hl)
    rw [List.nil_append] at this
    exact this
  | .mk _ nm tx set subs, u, .alt hx h, hlp, hm, hl => by
    rw [Nd.lp] at hlp
    have hma := hm.alt
    obtain ⟨k, hk⟩ := exN hC h (hlp.2.mem _ hx) ⟨⟨h, hm.1.2⟩, fun u hu => hma _ hx u hu⟩ hl
    refine ⟨k, fun k' hk' => ?_⟩
    rw [Bk.firstN, if_neg (by decide), if_neg (by decide), if_neg (by decide), if_pos rfl]
    exact alt_find (hC.sound k') hl subs hlp.2 hma ⟨_, hx, hk k' hk'⟩ _ (behind_none u)
  | _, _, .opt0, _, _, _ => ⟨0, fun k' _ => by
    rw [Bk.firstN, if_neg (by decide), if_neg (by decide), if_neg (by decide), if_neg (by decide), if_neg (by decide)]
    rfl⟩
  | .mk _ nm tx set _, u, .opt h, _, hm, _ => ⟨0, fun k' _ => by
    rw [Bk.firstN, if_neg (by decide), if_neg (by decide), if_neg (by decide), if_neg (by decide), if_neg (by decide), slB_nil (hm.2 [] ⟨.opt0, by simp⟩)]
    rfl⟩
  | _, _, .star0, _, _, _ => ⟨0, fun k' _ => by
    rw [Bk.firstN, if_neg (by decide), if_neg (by decide), if_neg (by decide), if_neg (by decide), if_neg (by decide)]
    rfl⟩
  | .mk _ nm tx set _, u, .star h, _, hm, _ => ⟨0, fun k' _ => by
    rw [Bk.firstN, if_neg (by decide), if_neg (by decide), if_neg (by decide), if_neg (by decide), if_neg (by decide), slB_nil (hm.2 [] ⟨.star0, by simp⟩)]
    rfl⟩
  | .mk _ nm tx set _, u, .plus (x := x) (r := r) h, hlp, hm, hl => by
    rw [Nd.lp] at hlp
    obtain ⟨k, hk⟩ := exP hC h (hlp.2.mem _ (List.mem_cons_self ..)) (fun u' hu' h2 => hm.2 u' ⟨.plus hu', h2⟩) hm.1.2 hl
    refine ⟨k, fun k' hk' => ?_⟩
    rw [Bk.firstN, if_neg (by decide), if_neg (by decide), if_neg (by decide), if_neg (by decide), if_pos rfl, Bk.firstHd]
    exact hk k' hk'
  | .mk k nm tx set subs, _, .other hk, _, _, _ => ⟨0, fun k' _ => by
    rw [Bk.firstN, if_neg (by omega), if_neg (by omega), if_neg (by omega), if_neg (by omega), if_neg (by omega)]
    rfl⟩
theorem exL (hC : Chain B Fk) : ∀ {l : List Nd} {u : List Int}, LgL B l u → Nd.lpL l → MinL B l u → u.length ≤ 256 → ∃ k, ∀ k', k ≤ k' → ∀ p, p.length + u.length ≤ 256 → (B.wf (Fk k')).firstSeq l (mkF p) = mkF (p ++ u)
  | _, _, .nil, _, _, _ => ⟨0, fun k' _ p _ => by rw [Bk.firstSeq, List.append_nil]⟩
  | _, _, .cons (u := a) (v := b) h hr, hlp, hm, hl => by
    rw [Nd.lpL] at hlp
    rw [List.length_append] at hl
    obtain ⟨m1, m2⟩ := hm.parts h hr
    obtain ⟨k1, hk1⟩ := exN hC h hlp.1 m1 (by omega)
    obtain ⟨k2, hk2⟩ := exL hC hr hlp.2 m2 (by omega)
    refine ⟨k1 + k2, fun k' hk' p hp => ?_⟩
    rw [List.length_append] at hp
    rw [Bk.firstSeq, hk1 k' (by omega), join_mk p a (by omega), ← List.append_assoc]
    exact hk2 k' (by omega) (p ++ a) (by rw [List.length_append]; omega)
theorem exP (hC : Chain B Fk) : ∀ {x : Nd} {u : List Int}, LgP B x u → x.lp → (∀ u', LgP B x u' → -2 ∉ u' → slB u' u = false) → -2 ∉ u → u.length ≤ 256 → ∃ k, ∀ k', k ≤ k' → (B.wf (Fk k')).firstN x = mkF u
  | _, _, .one h, hlp, hm, h2, hl => exN hC h hlp ⟨⟨h, h2⟩, fun u' hu' => hm u' (.one hu'.1) hu'.2⟩ hl
  | _, _, .more (u := a) (v := b) h _, hlp, hm, h2, hl => by
    have hc := no2_app.1 h2
    have h3 := hm a h hc.1
    have hb : b = [] := by
      cases b with
      | nil => rfl
      | cons y r =>
        unfold slB at h3
        rw [if_neg (by simp)] at h3
        simp at h3
    rw [hb, List.append_nil] at hm hl ⊢
    exact exP hC h hlp hm hc.1 hl
end
theorem KeepF.refl (F : List Fst) : KeepF B F F := fun _ _ _ _ _ _ h => h
theorem KeepF.trans {F G H : List Fst} (h : KeepF B F G) (k : KeepF B G H) : KeepF B F H := fun r n v h1 h2 h3 h4 => k r n v h1 h2 h3 (h r n v h1 h2 h3 h4)
theorem Chain.lift (hC : Chain B Fk) {j k : Nat} (h : KeepF B (Fk j) (Fk k)) : KeepF B (Fk (j + 1)) (Fk (k + 1)) := fun r n v h1 h2 h3 h4 => by
  rw [hC.next j r n h1] at h4
  rw [hC.next k r n h1, keep_min (hC.sound j) (hC.sound k) h n (hC.lp n (List.mem_of_getElem? h1)) v h2 h3 (Option.some.inj h4)]
theorem Chain.up (hC : Chain B Fk) : ∀ k, KeepF B (Fk k) (Fk (k + 1))
  | 0 => fun r _ v _ _ _ h4 => absurd (hC.start r _ h4) (mkF_long v)
  | k + 1 => hC.lift (hC.up k)
theorem Chain.up_to (hC : Chain B Fk) (k : Nat) : ∀ m, KeepF B (Fk k) (Fk (k + m))
  | 0 => KeepF.refl _
  | m + 1 => (hC.up_to k m).trans (hC.up (k + m))
theorem Chain.down (hC : Chain B Fk) {j : Nat} (h : KeepF B (Fk (j + 1)) (Fk j)) : ∀ m, KeepF B (Fk (j + m + 1)) (Fk (j + m))
  | 0 => h
  | m + 1 => hC.lift (hC.down h m)
theorem Chain.down_to (hC : Chain B Fk) {j : Nat} (h : KeepF B (Fk (j + 1)) (Fk j)) : ∀ m, KeepF B (Fk (j + m)) (Fk j)
  | 0 => KeepF.refl _
  | m + 1 => (hC.down h m).trans (hC.down_to h m)
def Done (B : Bk) (F : List Fst) (r : Nat) : Prop := ∃ (n : Nd) (v : List Int), B.bodies[r]? = some n ∧ Min B n v ∧ v.length ≤ 256 ∧ F[r]? = some (mkF v)
noncomputable def doneB (B : Bk) (F : List Fst) (r : Nat) : Bool := @decide (Done B F r) (Classical.propDecidable _)
theorem doneB_iff {F : List Fst} {r : Nat} : doneB B F r = true ↔ Done B F r := by unfold doneB; simp
theorem grow_of {F G : List Fst} (h : KeepF B F G) (hn : ¬ KeepF B G F) : ((List.range B.bodies.length).filter (doneB B F)).length < ((List.range B.bodies.length).filter (doneB B G)).length := by
  obtain ⟨r, n, v, h1, h2, h3, h4, h5⟩ : ∃ (r : Nat) (n : Nd) (v : List Int), B.bodies[r]? = some n ∧ Min B n v ∧ v.length ≤ 256 ∧ G[r]? = some (mkF v) ∧ ¬ F[r]? = some (mkF v) := by
    refine Classical.byContradiction fun hc => hn fun r n v h1 h2 h3 h4 => Classical.byContradiction fun h5 => hc ⟨r, n, v, h1, h2, h3, h4, h5⟩
  refine filter_less (x := r) (fun k _ hk => ?_) (List.mem_range.2 (List.getElem?_eq_some_iff.1 h1).1) (doneB_iff.2 ⟨n, v, h1, h2, h3, h4⟩) ?_
  · obtain ⟨n, v, k1, k2, k3, k4⟩ := doneB_iff.1 hk
    exact doneB_iff.2 ⟨n, v, k1, k2, k3, h _ n v k1 k2 k3 k4⟩
  · cases hd : doneB B F r
    · rfl
    · obtain ⟨n', v', k1, k2, k3, k4⟩ := doneB_iff.1 hd
      rw [h1] at k1
      cases k1
      rw [k2.uniq h2] at k4
      exact absurd k4 h5
theorem Chain.all (hC : Chain B Fk) {r : Nat} {n : Nd} {v : List Int} (hb : B.bodies[r]? = some n) (hm : Min B n v) (hv : v.length ≤ 256) (m : Nat) : (Fk (B.bodies.length + m))[r]? = some (mkF v) := by
  obtain ⟨k, hk⟩ := exN hC hm.1.1 (hC.lp n (List.mem_of_getElem? hb)) hm hv
  refine hC.up_to _ m r n v hb hm hv ?_
  refine Classical.byContradiction fun hno => ?_
  have hstep : ∀ j, j ≤ B.bodies.length → ¬ KeepF B (Fk (j + 1)) (Fk j) := by
    intro j hj hkeep
    have h1 : (Fk (j + (k + 1)))[r]? = some (mkF v) := by
      have := hC.next (j + k) r n hb
      rw [hk (j + k) (by omega)] at this
      exact this
    have h2 := hC.down_to hkeep (k + 1) r n v hb hm hv h1
    have h3 := hC.up_to j (B.bodies.length - j) r n v hb hm hv h2
    rw [show j + (B.bodies.length - j) = B.bodies.length by omega] at h3
    exact hno h3
  have hcnt : ∀ j, j ≤ B.bodies.length + 1 → j ≤ ((List.range B.bodies.length).filter (doneB B (Fk j))).length := by
    intro j
    induction j with
    | zero => intro _; omega
    | succ j ih =>
      intro hj
      have h1 := ih (by omega)
      have h2 := grow_of (hC.up j) (hstep j (by omega))
      omega
  have h1 := hcnt (B.bodies.length + 1) (Nat.le_refl _)
  have h2 := List.length_filter_le (doneB B (Fk (B.bodies.length + 1))) (List.range B.bodies.length)
  rw [List.length_range] at h2
  omega
end
/-! ### the grammar's own book -/
theorem iter_wf (B : Bk) : ∀ k, B.iter k = B.wf (B.iter k).firsts
  | 0 => rfl
  | k + 1 => by
    obtain ⟨h1, h2, h3, h4⟩ := B.iter_rest (k + 1)
    cases h : B.iter (k + 1) with
    | mk a b c d e =>
      rw [h] at h1 h2 h3 h4
      dsimp only at h1 h2 h3 h4
      rw [h1, h2, h3, h4]
      rfl
theorem chain_of {B : Bk} (hlp : ∀ n ∈ B.bodies, n.lp) (hst : ∀ f ∈ B.firsts, f = ⟨-1, []⟩) (hlen : B.firsts.length = B.bodies.length) : Chain B fun k => (B.iter k).firsts := by
  have hnext : ∀ (k r : Nat) (n : Nd), B.bodies[r]? = some n → ((B.iter (k + 1)).firsts)[r]? = some ((B.wf (B.iter k).firsts).firstN n) := by
    intro k r n h
    show ((B.iter k).bodies.map fun n => (B.iter k).firstN n)[r]? = _
    rw [List.getElem?_map, (B.iter_rest k).2.2.2, h, ← iter_wf]
    rfl
  refine ⟨fun k => ?_, hnext, fun r f hf => ?_, hlp⟩
  · induction k with
    | zero =>
      refine ⟨hlen, fun r f hf => ?_⟩
      have := hst f (List.mem_of_getElem? hf)
      subst this
      exact ⟨ok_none, fun _ _ h => absurd rfl h⟩
    | succ k ih =>
      have hl := B.iter_len hlen (k + 1)
      refine ⟨hl, fun r f hf => ?_⟩
      have hr : r < B.bodies.length := by rw [← hl]; exact (List.getElem?_eq_some_iff.1 hf).1
      have hn := hnext k r _ (List.getElem?_eq_getElem hr)
      have e : f = (B.wf (B.iter k).firsts).firstN B.bodies[r] := Option.some.inj (hf.symm.trans hn)
      subst e
      refine ⟨Bk.firstN_ok (B := B.wf (B.iter k).firsts) ih.ok _, fun n hb h1 h2 => ?_⟩
      rw [List.getElem?_eq_getElem hr] at hb
      cases hb
      exact firstN_sound ih _ (hlp _ (List.getElem_mem hr)) h1 h2
  · rw [hst f (List.mem_of_getElem? hf)]
end Go.Proofs.YtoflfkffldpglaaGreatDoor

/- SamplesWhole, plain: what All, Has, Least and Long tell of a grammar in which nothing is wrong. -/
namespace Go.Proofs.YtoflfkffldpglaaGreatDoor
section
variable {B : Bk} {F : List Fst}
mutual
theorem lg_wf : ∀ {n : Nd} {u : List Int}, Lg B n u → Lg (B.wf F) n u
  | _, _, .tok h => .tok h
  | _, _, .ref h hd => .ref h (lg_wf hd)
  | _, _, .seq h => .seq (lgL_wf h)
  | _, _, .alt hx h => .alt hx (lg_wf h)
  | _, _, .opt0 => .opt0
  | _, _, .opt h => .opt (lg_wf h)
  | _, _, .star0 => .star0
  | _, _, .star h => .star (lgP_wf h)
  | _, _, .plus h => .plus (lgP_wf h)
  | _, _, .other hk => .other hk
theorem lgL_wf : ∀ {l : List Nd} {u : List Int}, LgL B l u → LgL (B.wf F) l u
  | _, _, .nil => .nil
  | _, _, .cons h hr => .cons (lg_wf h) (lgL_wf hr)
theorem lgP_wf : ∀ {n : Nd} {u : List Int}, LgP B n u → LgP (B.wf F) n u
  | _, _, .one h => .one (lg_wf h)
  | _, _, .more h hr => .more (lgP_wf h) (lg_wf hr)
end
theorem lg_wf_iff {n : Nd} {u : List Int} : Lg (B.wf F) n u ↔ Lg B n u := ⟨fun h => lg_wf (B := B.wf F) (F := B.firsts) h, lg_wf⟩
end
theorem of_hasS {g : Gr} {S : List Int} {k : Nat} (hk : k < g.rules.length) (hs : (S.any fun y => g.rules[k].sort == y) = true) : ∃ q, q < (g.of S).length ∧ (g.of S)[q]? = some (k : Int) := by
  have hmem : ∀ m, k < m → m ≤ g.rules.length → (k : Int) ∈ g.ofTo S m := by
    intro m
    induction m with
    | zero => intro h; omega
    | succ m ih =>
      intro hm hl
      rw [Gr.ofTo]
      by_cases e : k = m
      · subst e
        rw [if_pos (by rw [Gr.isAt_get hk]; exact hs)]
        simp
      · have := ih (by omega) (by omega)
        split
        · exact List.mem_append_left _ this
        · exact this
  obtain ⟨q, hq⟩ := List.getElem?_of_mem (hmem g.rules.length hk (Nat.le_refl _))
  exact ⟨q, (List.getElem?_eq_some_iff.1 hq).1, hq⟩
theorem tok_ix {g : Gr} (hn : g.Names) {q k : Nat} (hk : k < g.rules.length) (hq : (g.of [1, 3])[q]? = some (k : Int)) : (bookOf g).tok g.rules[k].name = q := by
  unfold Bk.tok bookOf
  rw [(Bk.iter_rest _ _).2.1]
  show (lookS (nmsTo g (g.of [1, 3]) (g.of [1, 3]).length) g.rules[k].name).getD 0 = q
  have hql := (List.getElem?_eq_some_iff.1 hq).1
  have hmem := nmsTo_has (g := g) (T := g.of [1, 3]) hql
  rw [List.getD_eq_getElem?_getD, hq, Option.getD_some, Gr.rAt_nat g hk] at hmem
  obtain ⟨p, hp⟩ := lookS_some hmem rfl
  rw [hp, Option.getD_some]
  obtain ⟨x, hx, hx1, rfl⟩ := lookS_mem hp
  obtain ⟨h1, h2⟩ := nmsTo_mem hx
  have h3 : (g.of [1, 3])[x.2]? = some ((g.of [1, 3])[x.2]'h1) := List.getElem?_eq_getElem _
  obtain ⟨m, hm, hme, -⟩ := of_get h3
  rw [hme] at h3
  rw [List.getD_eq_getElem?_getD, h3, Option.getD_some, Gr.rAt_nat g hm] at h2
  have e := hn m k hm hk (h2.symm.trans hx1)
  subst e
  rcases Nat.lt_trichotomy x.2 q with h | h | h
  · have := of_rise g _ h h3 hq; omega
  · exact h
  · have := of_rise g _ h hq h3; omega
end Go.Proofs.YtoflfkffldpglaaGreatDoor

/- What a match answers, plain. -/
namespace Go.Proofs.YtoflfkffldpglaaGreatDoor
open Go.RowKit
theorem least_sound {g : Gr} (hs : soundP g) {r : Nat} (hr : r < (bookOf g).bodies.length) : ∀ w, (bookOf g).leastL r = some w → -2 ∉ w ∧ (bookOf g).D r w := by
  obtain ⟨B0, hB0⟩ : ∃ B0, book0 g (g.of [1, 3]) (g.of [0]) = B0 := ⟨_, rfl⟩
  have hbook : bookOf g = B0.iter ((g.of [0]).length + 1) := by unfold bookOf; rw [hB0]
  have hlen0 : B0.bodies.length = (g.of [0]).length := by rw [← hB0]; exact bodsTo_len g _ _
  have hC : Chain B0 fun k => (B0.iter k).firsts := by
    refine chain_of ?_ ?_ ?_
    · rw [← hB0]; exact bods_lp hs
    · intro f hf
      rw [← hB0] at hf
      exact (List.mem_replicate.1 (show f ∈ List.replicate (g.of [0]).length ⟨-1, []⟩ from hf)).2
    · rw [hlen0, ← hB0]; exact List.length_replicate
  have hbod : (bookOf g).bodies = B0.bodies := by rw [hbook]; exact (B0.iter_rest _).2.2.2
  have hwf : bookOf g = B0.wf (bookOf g).firsts := by rw [hbook]; exact iter_wf B0 _
  obtain ⟨n, hbn⟩ : ∃ n, B0.bodies[r]? = some n := ⟨_, List.getElem?_eq_getElem (by rw [← hbod]; exact hr)⟩
  have hD : ∀ u, (bookOf g).D r u ↔ Lg B0 n u := fun u => by
    rw [d_rg]
    unfold Bk.Rg
    rw [hbod, hbn, hwf]
    constructor
    · rintro ⟨m, hm, hl⟩
      cases Option.some.inj hm
      exact lg_wf_iff.1 hl
    · intro hl
      exact ⟨n, rfl, lg_wf_iff.2 hl⟩
  have hsF' : SoundF B0 (bookOf g).firsts := by rw [hbook]; exact hC.sound ((g.of [0]).length + 1)
  intro w hw
  unfold Bk.leastL at hw
  split at hw
  · rw [show ((r : Int)).toNat = r from rfl] at hw
    cases hfr : (bookOf g).firsts[r]? with
    | none => rw [hfr] at hw; cases hw
    | some f =>
      rw [hfr] at hw
      dsimp only at hw
      split at hw
      · cases hw
      · rename_i hc
        obtain ⟨hok, hsd⟩ := hsF'.2 r f hfr
        have h1 : f.long ≠ -1 := fun e => hc (.inl e)
        have h3 := hsd n hbn h1 (by omega)
        cases hw
        exact ⟨h3.2, (hD _).2 h3.1⟩
  · cases hw
/-! ### what a node of a body names -/
structure Nd.Mt (g : Gr) (m : Nd) : Prop where
  tok : m.kind = 6 → ∃ k q : Nat, k < g.rules.length ∧ g.find m.name = (k : Int) ∧ (g.of [1, 3])[q]? = some (k : Int) ∧ (bookOf g).tok m.name = q
  ref : m.kind = 5 → ∃ k, ∃ hk : k < g.rules.length, g.find m.name = (k : Int) ∧ (bookOf g).bodies[(bookOf g).rule m.name]? = some g.rules[k].body
  kind : 0 ≤ m.kind ∧ m.kind ≤ 7
  alts : m.kind = 0 → m.subs.length ≤ 32
  one : m.kind = 2 ∨ m.kind = 3 ∨ m.kind = 4 ∨ m.kind = 7 → m.subs.length = 1
def Nd.Mts (g : Gr) (n : Nd) : Prop := ∀ m ∈ n.all, m.Mt g
theorem Nd.Mts.self {g : Gr} {n : Nd} (h : n.Mts g) : n.Mt g := h n (all_self n)
theorem Nd.Mts.sub {g : Gr} {k : Int} {nm tx : ByteArray} {set : List (Int × Int)} {subs : List Nd} (h : (Nd.mk k nm tx set subs).Mts g) {x : Nd} (hx : x ∈ subs) : x.Mts g := fun m hm => h m (by rw [Nd.all]; exact List.mem_cons_of_mem _ (mem_allL hx hm))
theorem plain_one {n : Nd} (h : plainN false n = true) : n.kind = 2 ∨ n.kind = 3 ∨ n.kind = 4 ∨ n.kind = 7 → n.subs.length = 1 := by
  intro hk
  unfold plainN plainX plainK at h
  rw [Bool.and_eq_true] at h
  have h2 := h.2
  rw [if_neg (by omega), if_neg (by omega)] at h2
  split at h2
  · simpa using h2
  · rw [if_pos (by omega)] at h2
    simpa using h2
theorem plain_alts {n : Nd} (h : plainN false n = true) : n.kind = 0 → n.subs.length ≤ 32 := by
  intro hk
  unfold plainN plainX plainK at h
  rw [Bool.and_eq_true, if_pos hk] at h
  have := h.2
  simp at this
  omega
theorem book_mts {g : Gr} (hs : soundP g) (hf : g.Fine) : ∀ n ∈ (bookOf g).bodies, n.Mts g := by
  have hn := hf.names
  obtain ⟨es, M, N, he, hM, hN, ht⟩ := hf
  have hL := book_lnk hs ht hn
  intro n hnm m hm
  have hb := bookOf_bodies g
  obtain ⟨r, hr⟩ := List.getElem?_of_mem hnm
  obtain ⟨hi, h2, -⟩ := hL.bod r n hr
  have hr0 := hr
  rw [hb] at hr
  have hr' : r < (g.of [0]).length := by have := (List.getElem?_eq_some_iff.1 hr).1; rw [bodsTo_len] at this; exact this
  obtain ⟨_, h1, -⟩ := ix_get hr'
  have hq := (told_quiet ht).1 _ hi
  have hmb : m ∈ g.rules[g.ix r].body.all := by rw [h2]; exact hm
  have hpar : g.rules[g.ix r].parser = true := by unfold Rl.parser; rw [h1]; rfl
  have hpl : plainN false m = true := by
    obtain ⟨-, -, -, h4⟩ := hs
    obtain ⟨-, -, h5⟩ := h4 _ hi
    rw [h1, h2] at h5
    obtain ⟨e, he⟩ := all_of_alld n 1 m hm
    exact (h5.2 _ he).2
  refine ⟨fun h6k => ?_, fun h5k => ?_, plain_kind hpl, plain_alts hpl, plain_one hpl⟩
  · have hname : m.isName = true := by unfold Nd.isName; rw [h6k]; rfl
    have h6 := hq.none_ m hmb
    have h7 := hq.sorts m hmb
    unfold Gr.noneBad at h6
    unfold Gr.sortBad at h7
    rw [hname] at h6 h7
    have h0 : ¬ g.find m.name < 0 := by simpa using h6
    have h8 : decide (0 ≤ g.find m.name) = true := decide_eq_true (by omega)
    rw [h8] at h7
    have h9 : sortedB g.rules[g.ix r] m (g.sortAt (g.find m.name)) = true := by simpa using h7
    unfold sortedB at h9
    rw [h6k, hpar] at h9
    have h10 : g.sortAt (g.find m.name) = 1 := by simpa using h9
    rcases ixOf_cases g.rules (fun r => sameB r.name m.name) with ⟨hf, -⟩ | ⟨k, hk, hf, hsame, -⟩
    · unfold Gr.find at h0
      omega
    · have hf' : g.find m.name = (k : Int) := hf
      rw [hf', sortAt_nat g k hk] at h10
      obtain ⟨q, hq1, hq2⟩ := of_hasS (g := g) (S := [1, 3]) hk (by simp [h10])
      have hnm2 : m.name = g.rules[k].name := (toList_eq ((sameB_iff _ _).1 hsame)).symm
      exact ⟨k, q, hk, hf', hq2, by rw [hnm2, tok_ix hn hk hq2]⟩
  · obtain ⟨h3, h4⟩ := (hL.all n hnm m hm).name h5k
    obtain ⟨hi2, h5, -⟩ := hL.bod _ _ (List.getElem?_eq_getElem h3)
    obtain ⟨h6, -⟩ := named_is h4
    exact ⟨_, hi2, h6, by rw [List.getElem?_eq_getElem h3, h5]⟩
/-! ### nodes in which nothing is chosen -/
mutual
def Nd.plainM : Nd → Bool
  | .mk k _ _ _ subs => (k == 6 || k == 5 || k == 1) && Nd.plainMs subs
def Nd.plainMs : List Nd → Bool
  | [] => true
  | n :: r => n.plainM && Nd.plainMs r
end
theorem plainMs_all {l : List Nd} : Nd.plainMs l = l.all Nd.plainM := by
  induction l with
  | nil => rfl
  | cons n r ih => rw [Nd.plainMs, ih, List.all_cons]
def Straight (B : Bk) (w : List Int) : Prop := (∀ n ∈ B.bodies, n.plainM = true) ∧ -2 ∉ w
def Cl (w : List Int) (i j : Nat) : Prop := ∀ p, i ≤ p → p < j → w[p]? ≠ some (-2)
theorem Cl.same (w : List Int) (i : Nat) : Cl w i i := fun p h1 h2 => absurd h1 (by omega)
theorem Cl.trans {w : List Int} {i j k : Nat} (h : Cl w i j) (g : Cl w j k) : Cl w i k := fun p h1 h2 => by
  rcases Nat.lt_or_ge p j with h3 | h3
  · exact h p h1 h3
  · exact g p h3 h2
structure MatchS (B : Bk) (w : List Int) (n : Nd) (i : Nat) (tz : Int) : Prop where
  place : tz = -1 ∨ ∃ j : Nat, tz = (j : Int) ∧ j ≤ w.length
  sound : ∀ j : Nat, tz = (j : Int) → Der B w n i j
  clean : ∀ j : Nat, tz = (j : Int) → Cl w i j
  full : Straight B w → n.plainM = true → ∀ j, Der B w n i j → tz = (j : Int)
variable {B : Bk} {w : List Int} {nm tx : ByteArray} {set : List (Int × Int)} {subs : List Nd} {i : Nat}
theorem MatchS.tokNo (h : ∀ x, w[i]? = some x → x ≠ (B.tok nm : Int)) : MatchS B w (.mk 6 nm tx set subs) i (-1) :=
  ⟨.inl rfl, fun j e => by omega, fun j e => by omega, fun hs _ j hd => by
    cases hd with
    | tok ht =>
      obtain ⟨x, hx, h1 | h1⟩ := ht
      · exact absurd h1 (h x hx)
      · exact absurd (h1 ▸ List.mem_of_getElem? hx) hs.2
    | other hk => omega⟩
theorem MatchS.tokYes (h : w[i]? = some (B.tok nm : Int)) : MatchS B w (.mk 6 nm tx set subs) i ((i : Int) + 1) :=
  ⟨.inr ⟨i + 1, by omega, by have := (List.getElem?_eq_some_iff.1 h).1; omega⟩, fun j e => by
    have : j = i + 1 := by omega
    subst this
    exact .tok ⟨_, h, .inl rfl⟩, fun j e p h1 h2 => by
    have : p = i := by omega
    subst this
    rw [h]
    intro hc
    have := Option.some.inj hc
    omega, fun hs _ j hd => by
    cases hd with
    | tok ht => omega
    | other hk => omega⟩
theorem MatchS.ref {n : Nd} {tz : Int} (hb : B.bodies[B.rule nm]? = some n) (h : MatchS B w n i tz) : MatchS B w (.mk 5 nm tx set subs) i tz :=
  ⟨h.place, fun j e => .ref hb (h.sound j e), h.clean, fun hs _ j hd => by
    cases hd with
    | ref hb2 hd =>
      rw [hb] at hb2
      cases hb2
      exact h.full hs (hs.1 _ (List.mem_of_getElem? hb)) j hd
    | other hk => omega⟩
structure SeqS (B : Bk) (w : List Int) (l : List Nd) (i at_ : Nat) (k : Nat) : Prop where
  here : at_ ≤ w.length
  clean : Cl w i at_
  sound : ∀ j, DerL B w (l.drop k) at_ j → DerL B w l i j
  full : Straight B w → Nd.plainMs l = true → ∀ j, DerL B w l i j → DerL B w (l.drop k) at_ j
theorem SeqS.start (l : List Nd) (hi : i ≤ w.length) : SeqS B w l i i 0 := ⟨hi, Cl.same w i, fun _ h => h, fun _ _ _ h => h⟩
theorem plainMs_get {l : List Nd} (h : Nd.plainMs l = true) {k : Nat} (hk : k < l.length) : l[k].plainM = true := by
  rw [plainMs_all, List.all_eq_true] at h
  exact h _ (List.getElem_mem hk)
theorem SeqS.next {l : List Nd} {a b k : Nat} (h : SeqS B w l i a k) (hk : k < l.length) (hm : MatchS B w l[k] a (b : Int)) (hb : b ≤ w.length) : SeqS B w l i b (k + 1) := by
  have e : l.drop k = l[k] :: l.drop (k + 1) := List.drop_eq_getElem_cons hk
  refine ⟨hb, h.clean.trans (hm.clean b rfl), fun j hj => h.sound j ?_, fun hs hp j hj => ?_⟩
  · rw [e]
    exact .cons (hm.sound b rfl) hj
  · have h1 := h.full hs hp j hj
    rw [e] at h1
    cases h1 with
    | cons h2 h3 =>
      have := hm.full hs (plainMs_get hp hk) _ h2
      have h4 : b = _ := Int.ofNat.inj this
      subst h4
      exact h3
theorem SeqS.fail {a k : Nat} (h : SeqS B w subs i a k) (hk : k < subs.length) (hm : MatchS B w subs[k] a (-1)) : MatchS B w (.mk 1 nm tx set subs) i (-1) := by
  refine ⟨.inl rfl, fun j e => by omega, fun j e => by omega, fun hs hp j hd => ?_⟩
  rw [Nd.plainM, Bool.and_eq_true] at hp
  cases hd with
  | seq hd =>
    have h1 := h.full hs hp.2 j hd
    rw [List.drop_eq_getElem_cons hk] at h1
    cases h1 with
    | cons h2 h3 =>
      have := hm.full hs (plainMs_get hp.2 hk) _ h2
      omega
  | other hk => omega
theorem SeqS.done {a : Nat} (h : SeqS B w subs i a subs.length) : MatchS B w (.mk 1 nm tx set subs) i (a : Int) := by
  refine ⟨.inr ⟨a, rfl, h.here⟩, fun j e => ?_, fun j e => Int.ofNat.inj e ▸ h.clean, fun hs hp j hd => ?_⟩
  · have : a = j := Int.ofNat.inj e
    subst this
    refine .seq (h.sound a ?_)
    rw [List.drop_length]
    exact .nil
  · rw [Nd.plainM, Bool.and_eq_true] at hp
    cases hd with
    | seq hd =>
      have h1 := h.full hs hp.2 j hd
      rw [List.drop_length] at h1
      cases h1
      rfl
    | other hk => omega
theorem MatchS.altYes {x : Nd} (hx : x ∈ subs) {j : Nat} (h : MatchS B w x i (j : Int)) : MatchS B w (.mk 0 nm tx set subs) i (j : Int) :=
  ⟨h.place, fun q e => .alt hx (h.sound q e), h.clean, fun _ hp => by rw [Nd.plainM] at hp; simp at hp⟩
theorem MatchS.no {k : Int} (hk : k = 0 ∨ k = 2 ∨ k = 3 ∨ k = 4 ∨ k = 7) : MatchS B w (.mk k nm tx set subs) i (-1) :=
  ⟨.inl rfl, fun j e => by omega, fun j e => by omega, fun _ hp => by
    rw [Nd.plainM, Bool.and_eq_true] at hp
    have := hp.1
    rcases hk with rfl | rfl | rfl | rfl | rfl <;> simp at this⟩
theorem MatchS.same {k : Int} (hk : k = 2 ∨ k = 3 ∨ k < 0 ∨ 6 < k) (hi : i ≤ w.length) : MatchS B w (.mk k nm tx set subs) i (i : Int) := by
  refine ⟨.inr ⟨i, rfl, hi⟩, fun j e => ?_, fun j e => Int.ofNat.inj e ▸ Cl.same w i, fun _ hp => ?_⟩
  · have : i = j := Int.ofNat.inj e
    subst this
    rcases hk with rfl | rfl | hk
    · exact .opt0
    · exact .star0
    · exact .other hk
  · rw [Nd.plainM, Bool.and_eq_true] at hp
    exfalso
    have := hp.1
    rcases hk with rfl | rfl | hk
    · simp at this
    · simp at this
    · simp only [Bool.or_eq_true, beq_iff_eq] at this
      omega
theorem MatchS.opt {x : Nd} {r : List Nd} {j : Nat} (h : MatchS B w x i (j : Int)) : MatchS B w (.mk 2 nm tx set (x :: r)) i (j : Int) :=
  ⟨h.place, fun q e => .opt (h.sound q e), h.clean, fun _ hp => by rw [Nd.plainM] at hp; simp at hp⟩
def LoopS (B : Bk) (w : List Int) (x : Nd) (i a : Nat) (m : Nat) : Prop := a ≤ w.length ∧ Cl w i a ∧ ((m = 0 ∧ a = i) ∨ (0 < m ∧ DerP B w x i a))
theorem LoopS.next {x : Nd} {a b m : Nat} (h : LoopS B w x i a m) (hm : MatchS B w x a (b : Int)) : LoopS B w x i b (m + 1) := by
  obtain ⟨h1, hc, h2⟩ := h
  have hd := hm.sound b rfl
  refine ⟨hd.le.2 h1, hc.trans (hm.clean b rfl), .inr ⟨by omega, ?_⟩⟩
  rcases h2 with ⟨rfl, rfl⟩ | ⟨-, h3⟩
  · exact .one hd
  · exact .more h3 hd
theorem LoopS.done {x : Nd} {r : List Nd} {k : Int} {a m : Nat} (hk : k = 2 ∨ k = 3 ∨ k = 4) (h : LoopS B w x i a m) (h2 : k = 2 → m = 0) (h4 : k = 4 → 0 < m) : MatchS B w (.mk k nm tx set (x :: r)) i (a : Int) := by
  obtain ⟨h1, hcl, hc⟩ := h
  refine ⟨.inr ⟨a, rfl, h1⟩, fun j e => ?_, fun j e => Int.ofNat.inj e ▸ hcl, fun _ hp => ?_⟩
  · have : a = j := Int.ofNat.inj e
    subst this
    rcases hc with ⟨rfl, rfl⟩ | ⟨hm, hd⟩
    · rcases hk with rfl | rfl | rfl
      · exact .opt0
      · exact .star0
      · exact absurd (h4 rfl) (by omega)
    · rcases hk with rfl | rfl | rfl
      · exact absurd (h2 rfl) (by omega)
      · exact .star hd
      · exact .plus hd
  · rw [Nd.plainM, Bool.and_eq_true] at hp
    exfalso
    have := hp.1
    rcases hk with rfl | rfl | rfl <;> simp at this
theorem clean_mem {w : List Int} (h : Cl w 0 w.length) : -2 ∉ w := fun hc => by
  obtain ⟨p, hp⟩ := List.getElem?_of_mem hc
  exact h p (Nat.zero_le _) (List.getElem?_eq_some_iff.1 hp).1 hp
theorem start_first {g : Gr} (hf : g.Fine) : ∃ k : Nat, ∃ hk : k < g.rules.length, g.start = (k : Int) ∧ (bookOf g).bodies[0]? = some g.rules[k].body := by
  have h0 := hf.start
  obtain ⟨es, M, N, -, -, -, ht⟩ := hf
  have hst := (told_quiet ht).2
  rcases ixOf_cases g.rules (fun r => r.parser) with ⟨h1, -⟩ | ⟨j, hj, h1, h2, h3⟩
  · unfold Gr.start at hst
    omega
  · obtain ⟨hi, hs, hget⟩ := ix_get h0
    obtain ⟨q, hq, hqe⟩ := of_has hj (by unfold Rl.parser at h2; simpa using h2)
    obtain ⟨hi2, hr⟩ := rAt_ix h0
    have hz : q = 0 := by
      rcases Nat.eq_zero_or_pos q with h | h
      · exact h
      · obtain ⟨_, -, hgq⟩ := ix_get hq
        have hlt := of_rise g [0] h hget hgq
        rw [hqe] at hlt
        have h4 := h3 _ hi (by omega)
        unfold Rl.parser at h4
        rw [hs] at h4
        cases h4
    subst hz
    refine ⟨j, hj, h1, ?_⟩
    rw [bookOf_bodies, bodsTo_at h0, hr]
    simp only [hqe]
theorem straight_of {g : Gr} {w : List Int} (h : (g.rules.all fun r => r.sort != 0 || r.body.plainM) = true) (hw : -2 ∉ w) : Straight (bookOf g) w := by
  refine ⟨fun n hn => ?_, hw⟩
  rw [bookOf_bodies] at hn
  obtain ⟨k, hk⟩ := List.getElem?_of_mem hn
  have hkl := (List.getElem?_eq_some_iff.1 hk).1
  rw [bodsTo_len] at hkl
  obtain ⟨hi, hs, -⟩ := ix_get hkl
  obtain ⟨hi2, hr⟩ := rAt_ix hkl
  rw [bodsTo_at hkl, hr] at hk
  rw [List.all_eq_true] at h
  have := h _ (List.getElem_mem hi)
  rw [hs] at this
  cases hk
  simpa using this
end Go.Proofs.YtoflfkffldpglaaGreatDoor
