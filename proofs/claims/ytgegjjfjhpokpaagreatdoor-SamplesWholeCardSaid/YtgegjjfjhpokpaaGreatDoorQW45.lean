/- What a node derives, as lists. Plain. -/
import Derived.Test.YtgegjjfjhpokpaaGreatDoorQW42
import Derived.Test.YtgegjjfjhpokpaaGreatDoorQW41
namespace Go.Proofs.YtgegjjfjhpokpaaGreatDoor

mutual
/-- node n derives the list -/
inductive Lg (B : Bk) : Nd → List Int → Prop
  | tok {nm tx : ByteArray} {set : List (Int × Int)} {subs : List Nd} {x : Int} (h : x = (B.tok nm : Int) ∨ x = -2) : Lg B (.mk 6 nm tx set subs) [x]
  | ref {nm tx : ByteArray} {set : List (Int × Int)} {subs : List Nd} {u : List Int} {n : Nd} (h : B.bodies[B.rule nm]? = some n) (hd : Lg B n u) : Lg B (.mk 5 nm tx set subs) u
  | seq {nm tx : ByteArray} {set : List (Int × Int)} {subs : List Nd} {u : List Int} (h : LgL B subs u) : Lg B (.mk 1 nm tx set subs) u
  | alt {nm tx : ByteArray} {set : List (Int × Int)} {subs : List Nd} {u : List Int} {x : Nd} (hx : x ∈ subs) (h : Lg B x u) : Lg B (.mk 0 nm tx set subs) u
  | opt0 {nm tx : ByteArray} {set : List (Int × Int)} {subs : List Nd} : Lg B (.mk 2 nm tx set subs) []
  | opt {nm tx : ByteArray} {set : List (Int × Int)} {x : Nd} {r : List Nd} {u : List Int} (h : Lg B x u) : Lg B (.mk 2 nm tx set (x :: r)) u
  | star0 {nm tx : ByteArray} {set : List (Int × Int)} {subs : List Nd} : Lg B (.mk 3 nm tx set subs) []
  | star {nm tx : ByteArray} {set : List (Int × Int)} {x : Nd} {r : List Nd} {u : List Int} (h : LgP B x u) : Lg B (.mk 3 nm tx set (x :: r)) u
  | plus {nm tx : ByteArray} {set : List (Int × Int)} {x : Nd} {r : List Nd} {u : List Int} (h : LgP B x u) : Lg B (.mk 4 nm tx set (x :: r)) u
  | other {k : Int} {nm tx : ByteArray} {set : List (Int × Int)} {subs : List Nd} (hk : k < 0 ∨ 6 < k) : Lg B (.mk k nm tx set subs) []
inductive LgL (B : Bk) : List Nd → List Int → Prop
  | nil : LgL B [] []
  | cons {x : Nd} {r : List Nd} {u v : List Int} (h : Lg B x u) (hr : LgL B r v) : LgL B (x :: r) (u ++ v)
inductive LgP (B : Bk) : Nd → List Int → Prop
  | one {x : Nd} {u : List Int} (h : Lg B x u) : LgP B x u
  | more {x : Nd} {u v : List Int} (h : LgP B x u) (hr : Lg B x v) : LgP B x (u ++ v)
end
theorem slice_app {w : List Int} {i j k : Nat} (h1 : i ≤ j) (h2 : j ≤ k) : (w.drop i).take (k - i) = (w.drop i).take (j - i) ++ (w.drop j).take (k - j) := by
  have e : w.drop j = (w.drop i).drop (j - i) := by rw [List.drop_drop]; congr 1; omega
  rw [e, show k - i = (j - i) + (k - j) by omega, List.take_add]
theorem slice_nil {w : List Int} {i : Nat} : (w.drop i).take (i - i) = [] := by rw [Nat.sub_self, List.take_zero]
theorem slice_one {w : List Int} {i : Nat} {x : Int} (h : w[i]? = some x) : (w.drop i).take (i + 1 - i) = [x] := by
  obtain ⟨hi, rfl⟩ := List.getElem?_eq_some_iff.1 h
  rw [show i + 1 - i = 1 by omega, List.drop_eq_getElem_cons hi]
  rfl
section
variable {B : Bk} {w : List Int}
mutual
theorem lg_of_der : ∀ {n : Nd} {i j : Nat}, Der B w n i j → Lg B n ((w.drop i).take (j - i))
  | _, _, _, .tok ⟨_, h1, h2⟩ => by rw [slice_one h1]; exact .tok h2
  | _, _, _, .ref h hd => .ref h (lg_of_der hd)
  | _, _, _, .seq h => .seq (lgL_of_der h)
  | _, _, _, .alt hx h => .alt hx (lg_of_der h)
  | _, _, _, .opt0 => by rw [slice_nil]; exact .opt0
  | _, _, _, .opt h => .opt (lg_of_der h)
  | _, _, _, .star0 => by rw [slice_nil]; exact .star0
  | _, _, _, .star h => .star (lgP_of_der h)
  | _, _, _, .plus h => .plus (lgP_of_der h)
  | _, _, _, .other hk => by rw [slice_nil]; exact .other hk
theorem lgL_of_der : ∀ {l : List Nd} {i j : Nat}, DerL B w l i j → LgL B l ((w.drop i).take (j - i))
  | _, _, _, .nil => by rw [slice_nil]; exact .nil
  | _, _, _, .cons h hr => by rw [slice_app h.le.1 hr.le.1]; exact .cons (lg_of_der h) (lgL_of_der hr)
theorem lgP_of_der : ∀ {n : Nd} {i j : Nat}, DerP B w n i j → LgP B n ((w.drop i).take (j - i))
  | _, _, _, .one h => .one (lg_of_der h)
  | _, _, _, .more h hr => by rw [slice_app h.le.1 hr.le.1]; exact .more (lgP_of_der h) (lg_of_der hr)
end
mutual
theorem der_of_lg : ∀ {n : Nd} {u : List Int}, Lg B n u → ∀ p q : List Int, Der B (p ++ u ++ q) n p.length (p.length + u.length)
  | _, _, .tok h => fun p q => .tok ⟨_, by simp, h⟩
  | _, _, .ref h hd => fun p q => .ref h (der_of_lg hd p q)
  | _, _, .seq h => fun p q => .seq (derL_of_lg h p q)
  | _, _, .alt hx h => fun p q => .alt hx (der_of_lg h p q)
  | _, _, .opt0 => fun _ _ => .opt0
  | _, _, .opt h => fun p q => .opt (der_of_lg h p q)
  | _, _, .star0 => fun _ _ => .star0
  | _, _, .star h => fun p q => .star (derP_of_lg h p q)
  | _, _, .plus h => fun p q => .plus (derP_of_lg h p q)
  | _, _, .other hk => fun _ _ => .other hk
theorem derL_of_lg : ∀ {l : List Nd} {u : List Int}, LgL B l u → ∀ p q : List Int, DerL B (p ++ u ++ q) l p.length (p.length + u.length)
  | _, _, .nil => fun _ _ => .nil
  | _, _, .cons (u := u) (v := v) h hr => fun p q => by
    have h1 := der_of_lg h p (v ++ q)
    have h2 := derL_of_lg hr (p ++ u) q
    rw [List.length_append] at h2
    rw [List.length_append, ← Nat.add_assoc]
    have e1 : p ++ u ++ (v ++ q) = p ++ (u ++ v) ++ q := by simp
    have e2 : p ++ u ++ v ++ q = p ++ (u ++ v) ++ q := by simp
    rw [e1] at h1
    rw [e2] at h2
    exact .cons h1 h2
theorem derP_of_lg : ∀ {n : Nd} {u : List Int}, LgP B n u → ∀ p q : List Int, DerP B (p ++ u ++ q) n p.length (p.length + u.length)
  | _, _, .one h => fun p q => .one (der_of_lg h p q)
  | _, _, .more (u := u) (v := v) h hr => fun p q => by
    have h1 := derP_of_lg h p (v ++ q)
    have h2 := der_of_lg hr (p ++ u) q
    rw [List.length_append] at h2
    rw [List.length_append, ← Nat.add_assoc]
    have e1 : p ++ u ++ (v ++ q) = p ++ (u ++ v) ++ q := by simp
    have e2 : p ++ u ++ v ++ q = p ++ (u ++ v) ++ q := by simp
    rw [e1] at h1
    rw [e2] at h2
    exact .more h1 h2
end
end
/-- rule r derives the list -/
def Bk.Rg (B : Bk) (r : Nat) (u : List Int) : Prop := ∃ n, B.bodies[r]? = some n ∧ Lg B n u
theorem d_rg {B : Bk} {r : Nat} {w : List Int} : B.D r w ↔ B.Rg r w := by
  unfold Bk.D Bk.Rg
  constructor
  · rintro ⟨n, hn, h⟩
    have := lg_of_der h
    rw [List.drop_zero, Nat.sub_zero, List.take_length] at this
    exact ⟨n, hn, this⟩
  · rintro ⟨n, hn, h⟩
    have := der_of_lg h [] []
    rw [List.nil_append, List.append_nil, List.length_nil, Nat.zero_add] at this
    exact ⟨n, hn, this⟩

/-! ### wild tokens -/
/-- some tokens are whatever -/
def Wld : List Int → List Int → Prop
  | [], [] => True
  | a :: u, b :: v => (b = a ∨ b = -2) ∧ Wld u v
  | _, _ => False
theorem Wld.refl : ∀ u : List Int, Wld u u
  | [] => trivial
  | _ :: u => ⟨.inl rfl, Wld.refl u⟩
theorem Wld.split : ∀ {u v w : List Int}, Wld (u ++ v) w → ∃ a b, w = a ++ b ∧ Wld u a ∧ Wld v b
  | [], _, w, h => ⟨[], w, rfl, trivial, h⟩
  | _ :: _, _, [], h => by cases h
  | _ :: _, _, y :: _, h => by
    obtain ⟨a, b, rfl, h1, h2⟩ := Wld.split h.2
    exact ⟨y :: a, b, rfl, ⟨h.1, h1⟩, h2⟩
theorem Wld.app : ∀ {u v a b : List Int}, Wld u a → Wld v b → Wld (u ++ v) (a ++ b)
  | [], _, [], _, _, h => h
  | _ :: _, _, _ :: _, _, h1, h2 => ⟨h1.1, Wld.app h1.2 h2⟩
theorem Wld.all : ∀ u : List Int, Wld u (List.replicate u.length (-2))
  | [] => trivial
  | _ :: u => ⟨.inr rfl, Wld.all u⟩
theorem Wld.nil {w : List Int} (h : Wld [] w) : w = [] := by
  cases w with
  | nil => rfl
  | cons _ _ => cases h
section
variable {B : Bk}
mutual
theorem lg_wild : ∀ {n : Nd} {u : List Int}, Lg B n u → ∀ w, Wld u w → Lg B n w
  | _, _, .tok (x := x) h => fun w hw => by
    match w, hw with
    | [y], hw =>
      refine .tok ?_
      rcases hw.1 with rfl | rfl
      · exact h
      · exact .inr rfl
  | _, _, .ref h hd => fun w hw => .ref h (lg_wild hd w hw)
  | _, _, .seq h => fun w hw => .seq (lgL_wild h w hw)
  | _, _, .alt hx h => fun w hw => .alt hx (lg_wild h w hw)
  | _, _, .opt0 => fun w hw => by rw [hw.nil]; exact .opt0
  | _, _, .opt h => fun w hw => .opt (lg_wild h w hw)
  | _, _, .star0 => fun w hw => by rw [hw.nil]; exact .star0
  | _, _, .star h => fun w hw => .star (lgP_wild h w hw)
  | _, _, .plus h => fun w hw => .plus (lgP_wild h w hw)
  | _, _, .other hk => fun w hw => by rw [hw.nil]; exact .other hk
theorem lgL_wild : ∀ {l : List Nd} {u : List Int}, LgL B l u → ∀ w, Wld u w → LgL B l w
  | _, _, .nil => fun w hw => by rw [hw.nil]; exact .nil
  | _, _, .cons h hr => fun w hw => by
    obtain ⟨a, b, rfl, h1, h2⟩ := Wld.split hw
    exact .cons (lg_wild h a h1) (lgL_wild hr b h2)
theorem lgP_wild : ∀ {n : Nd} {u : List Int}, LgP B n u → ∀ w, Wld u w → LgP B n w
  | _, _, .one h => fun w hw => .one (lg_wild h w hw)
  | _, _, .more h hr => fun w hw => by
    obtain ⟨a, b, rfl, h1, h2⟩ := Wld.split hw
    exact .more (lgP_wild h a h1) (lg_wild hr b h2)
end
theorem rg_wild {r : Nat} {u w : List Int} (h : B.Rg r u) (hw : Wld u w) : B.Rg r w := by
  obtain ⟨n, h1, h2⟩ := h
  exact ⟨n, h1, lg_wild h2 w hw⟩

/-! ### which tokens -/
/-- whose tokens may stand in a parser's rule -/
def TokIn (B : Bk) (n : Nd) : Prop := ∀ m ∈ n.all, m.kind = 6 → (B.tok m.name : Int) ∈ B.kinds
theorem TokIn.sub {k : Int} {nm tx : ByteArray} {set : List (Int × Int)} {subs : List Nd} (h : TokIn B (.mk k nm tx set subs)) {x : Nd} (hx : x ∈ subs) : TokIn B x := fun m hm => h m (by rw [Nd.all]; exact List.mem_cons_of_mem _ (mem_allL hx hm))
mutual
theorem lg_toks (hB : ∀ n ∈ B.bodies, TokIn B n) : ∀ {n : Nd} {u : List Int}, Lg B n u → TokIn B n → ∀ x ∈ u, x = -2 ∨ x ∈ B.kinds
  | .mk _ nm tx set subs, _, .tok h, ht => fun x hx => by
    rw [List.mem_singleton.1 hx]
    rcases h with rfl | rfl
    · exact .inr (ht _ (all_self _) rfl)
    · exact .inl rfl
  | _, _, .ref h hd, _ => lg_toks hB hd (hB _ (List.mem_of_getElem? h))
  | .mk _ nm tx set subs, _, .seq h, ht => lgL_toks hB h fun _ hx => ht.sub hx
  | .mk _ nm tx set subs, _, .alt hx h, ht => lg_toks hB h (ht.sub hx)
  | _, _, .opt0, _ => fun x hx => by cases hx
  | .mk _ nm tx set _, _, .opt h, ht => lg_toks hB h (ht.sub (List.mem_cons_self ..))
  | _, _, .star0, _ => fun x hx => by cases hx
  | .mk _ nm tx set _, _, .star h, ht => lgP_toks hB h (ht.sub (List.mem_cons_self ..))
  | .mk _ nm tx set _, _, .plus h, ht => lgP_toks hB h (ht.sub (List.mem_cons_self ..))
  | _, _, .other _, _ => fun x hx => by cases hx
theorem lgL_toks (hB : ∀ n ∈ B.bodies, TokIn B n) : ∀ {l : List Nd} {u : List Int}, LgL B l u → (∀ n ∈ l, TokIn B n) → ∀ x ∈ u, x = -2 ∨ x ∈ B.kinds
  | _, _, .nil, _ => fun x hx => by cases hx
  | _, _, .cons h hr, ht => fun x hx => by
    rcases List.mem_append.1 hx with hx | hx
    · exact lg_toks hB h (ht _ (List.mem_cons_self ..)) x hx
    · exact lgL_toks hB hr (fun n hn => ht n (List.mem_cons_of_mem _ hn)) x hx
theorem lgP_toks (hB : ∀ n ∈ B.bodies, TokIn B n) : ∀ {n : Nd} {u : List Int}, LgP B n u → TokIn B n → ∀ x ∈ u, x = -2 ∨ x ∈ B.kinds
  | _, _, .one h, ht => lg_toks hB h ht
  | _, _, .more h hr, ht => fun x hx => by
    rcases List.mem_append.1 hx with hx | hx
    · exact lgP_toks hB h ht x hx
    · exact lg_toks hB hr ht x hx
end
theorem rg_toks (hB : ∀ n ∈ B.bodies, TokIn B n) {r : Nat} {u : List Int} (h : B.Rg r u) : ∀ x ∈ u, x = -2 ∨ x ∈ B.kinds := by
  obtain ⟨n, h1, h2⟩ := h
  exact lg_toks hB h2 (hB _ (List.mem_of_getElem? h1))
end
end Go.Proofs.YtgegjjfjhpokpaaGreatDoor

/- The first lists are the least ones. Plain. -/
namespace Go.Proofs.YtgegjjfjhpokpaaGreatDoor

/-! ### the order of lists -/
theorem lexB_irr : ∀ u : List Int, lexB u u = false
  | [] => rfl
  | a :: u => by rw [lexB_pre, lexB_irr u]
theorem slB_irr (u : List Int) : slB u u = false := by unfold slB; rw [if_pos rfl, lexB_irr]
theorem lexB_tri : ∀ {u v : List Int}, u.length = v.length → lexB u v = false → lexB v u = false → u = v
  | [], [], _, _, _ => rfl
  | a :: u, b :: v, hl, h1, h2 => by
    rw [lexB] at h1 h2
    by_cases e : a = b
    · subst e
      rw [if_pos rfl] at h1 h2
      rw [lexB_tri (by simpa using hl) h1 h2]
    · rw [if_neg e, decide_eq_false_iff_not] at h1
      rw [if_neg (fun x => e x.symm), decide_eq_false_iff_not] at h2
      omega
theorem slB_tri {u v : List Int} (h1 : slB u v = false) (h2 : slB v u = false) : u = v := by
  unfold slB at h1 h2
  by_cases e : u.length = v.length
  · rw [if_pos e] at h1
    rw [if_pos e.symm] at h2
    exact lexB_tri e h1 h2
  · rw [if_neg e, decide_eq_false_iff_not] at h1
    rw [if_neg (fun x => e x.symm), decide_eq_false_iff_not] at h2
    omega
theorem lexB_app : ∀ {u v : List Int} (q : List Int), u.length = v.length → lexB u v = true → lexB (u ++ q) (v ++ q) = true
  | [], [], _, _, h => by cases h
  | a :: u, b :: v, q, hl, h => by
    rw [List.cons_append, List.cons_append]
    rw [lexB] at h ⊢
    split
    · rename_i e
      rw [if_pos e] at h
      exact lexB_app q (by simpa using hl) h
    · rename_i e
      rw [if_neg e] at h
      exact h
theorem lexB_pref {u v : List Int} : ∀ p : List Int, lexB u v = true → lexB (p ++ u) (p ++ v) = true
  | [], h => h
  | a :: p, h => by rw [List.cons_append, List.cons_append, lexB_pre]; exact lexB_pref p h
theorem slB_mid {u v : List Int} (p q : List Int) (h : slB u v = true) : slB (p ++ (u ++ q)) (p ++ (v ++ q)) = true := by
  unfold slB at h ⊢
  simp only [List.length_append]
  by_cases e : u.length = v.length
  · rw [if_pos e] at h
    rw [if_pos (by omega)]
    exact lexB_pref p (lexB_app q e h)
  · rw [if_neg e, decide_eq_true_eq] at h
    rw [if_neg (by omega), decide_eq_true_eq]
    omega
theorem slB_nil {u : List Int} (h : slB [] u = false) : u = [] := by
  cases u with
  | nil => rfl
  | cons a u =>
    unfold slB at h
    rw [if_neg (by simp)] at h
    simp at h
theorem cI_lt {x y : Int} (h : x < y) : Lib.compareInt x y = -1 := by unfold Lib.compareInt; rw [if_pos h]
theorem cI_eq (x : Int) : Lib.compareInt x x = 0 := by unfold Lib.compareInt; rw [if_neg (by omega), if_neg (by omega)]
theorem cI_gt {x y : Int} (h : y < x) : Lib.compareInt x y = 1 := by unfold Lib.compareInt; rw [if_neg (by omega), if_pos h]
theorem cmpL_neg : ∀ {u v : List Int}, u.length = v.length → (cmpL u v < 0 ↔ lexB u v = true)
  | [], [], _ => by simp [cmpL, lexB]
  | a :: u, b :: v, hl => by
    have ih := cmpL_neg (u := u) (v := v) (by simpa using hl)
    rw [cmpL, lexB]
    rcases Int.lt_trichotomy a b with h | h | h
    · rw [cI_lt h, if_pos (by decide), if_neg (by omega)]
      simp [h]
    · subst h
      rw [cI_eq, if_neg (by decide), if_pos rfl]
      exact ih
    · rw [cI_gt h, if_pos (by decide), if_neg (by omega)]
      simp
      omega
/-- a short list, as a first list -/
def mkF (v : List Int) : Fst := ⟨v.length, v⟩
theorem Fst.Ok.short {f : Fst} (h : f.Ok) (h1 : f.long ≠ -1) (h2 : f.long ≤ 256) : f = mkF f.w := by
  rcases h with ⟨e, -⟩ | ⟨h3, h4, h5, h6⟩
  · exact absurd e h1
  · obtain ⟨l, w⟩ := f
    have := h5 h2
    unfold mkF
    dsimp only at this ⊢
    rw [this]
theorem lt_mk (u v : List Int) : firstLt (mkF u) (mkF v) = slB u v := by
  unfold firstLt slB mkF
  dsimp only
  rw [if_neg (by omega)]
  by_cases e : u.length = v.length
  · rw [if_pos e, e, cI_eq, if_neg (by decide)]
    rw [Bool.eq_iff_iff, decide_eq_true_eq]
    exact cmpL_neg e
  · rw [if_neg e]
    by_cases h : u.length < v.length
    · rw [cI_lt (by omega), if_pos (by decide)]
      simp [h]
    · rw [cI_gt (by omega), if_pos (by decide)]
      simp
      omega
theorem lt_none (v : List Int) {o : Fst} (h : o.long = -1) : firstLt (mkF v) o = true := by
  unfold firstLt mkF
  rw [if_pos (.inr h)]
  simp
theorem lt_long (v : List Int) {o : Fst} (hl : (v.length : Int) < o.long) : firstLt (mkF v) o = true := by
  unfold firstLt mkF
  dsimp only
  rw [if_neg (by omega), cI_lt hl, if_pos (by decide)]
  rfl
theorem none_lt (v : List Int) {o : Fst} (h : o.long = -1) : firstLt o (mkF v) = false := by
  unfold firstLt
  rw [if_pos (.inl h)]
  simp [h]
theorem long_lt (v : List Int) {o : Fst} (hl : (v.length : Int) < o.long) : firstLt o (mkF v) = false := by
  unfold firstLt mkF
  dsimp only
  rw [if_neg (by omega), cI_gt hl, if_pos (by decide)]
  rfl
theorem join_mk (u v : List Int) (h : u.length + v.length ≤ 256) : joinF (mkF u) (mkF v) = mkF (u ++ v) := by
  unfold joinF mkF
  dsimp only
  rw [if_neg (by omega), if_pos (by omega), List.length_append]
  congr 1
/-- what a short joined one is made of -/
theorem join_short {f g : Fst} (hf : f.Ok) (hg : g.Ok) (h1 : (joinF f g).long ≠ -1) (h2 : (joinF f g).long ≤ 256) : f.long ≠ -1 ∧ f.long ≤ 256 ∧ g.long ≠ -1 ∧ g.long ≤ 256 ∧ joinF f g = mkF (f.w ++ g.w) ∧ f.w.length + g.w.length ≤ 256 := by
  unfold joinF at h1 h2 ⊢
  split at h1
  · exact absurd rfl h1
  · rename_i h
    rw [if_neg h] at h2 ⊢
    dsimp only at h1 h2
    rcases hf with ⟨e, -⟩ | ⟨f1, f2, f3, f4⟩
    · exact absurd (.inl e) h
    rcases hg with ⟨e, -⟩ | ⟨g1, g2, g3, g4⟩
    · exact absurd (.inr (.inl e)) h
    have a1 := f3 (by omega)
    have a2 := g3 (by omega)
    refine ⟨by omega, by omega, by omega, by omega, ?_, by omega⟩
    rw [if_pos h2]
    unfold mkF
    rw [List.length_append]
    congr 1
    omega

/-! ### least lists -/
section
variable {B : Bk}
/-- derived, no token of it whatever -/
def Lc (B : Bk) (n : Nd) (u : List Int) : Prop := Lg B n u ∧ -2 ∉ u
def LcL (B : Bk) (l : List Nd) (u : List Int) : Prop := LgL B l u ∧ -2 ∉ u
def Min (B : Bk) (n : Nd) (v : List Int) : Prop := Lc B n v ∧ ∀ u, Lc B n u → slB u v = false
def MinL (B : Bk) (l : List Nd) (v : List Int) : Prop := LcL B l v ∧ ∀ u, LcL B l u → slB u v = false
theorem no2_app {u v : List Int} : -2 ∉ u ++ v ↔ -2 ∉ u ∧ -2 ∉ v := by rw [List.mem_append, not_or]
theorem MinL.parts {s : Nd} {r : List Nd} {a b : List Int} (h : MinL B (s :: r) (a ++ b)) (ha : Lg B s a) (hb : LgL B r b) : Min B s a ∧ MinL B r b := by
  obtain ⟨⟨-, h2⟩, h3⟩ := h
  rw [no2_app] at h2
  refine ⟨⟨⟨ha, h2.1⟩, fun u hu => ?_⟩, ⟨hb, h2.2⟩, fun u hu => ?_⟩
  · cases hc : slB u a
    · rfl
    · have := slB_mid [] b hc
      rw [List.nil_append, List.nil_append] at this
      rw [h3 (u ++ b) ⟨.cons hu.1 hb, no2_app.2 ⟨hu.2, h2.2⟩⟩] at this
      cases this
  · cases hc : slB u b
    · rfl
    · have := slB_mid a [] hc
      rw [List.append_nil, List.append_nil] at this
      rw [h3 (a ++ u) ⟨.cons ha hu.1, no2_app.2 ⟨h2.1, hu.2⟩⟩] at this
      cases this
/-- what is known of rules' first lists is so -/
def SoundF (B : Bk) (F : List Fst) : Prop := F.length = B.bodies.length ∧ ∀ (r : Nat) (f : Fst), F[r]? = some f → f.Ok ∧ ∀ n, B.bodies[r]? = some n → f.long ≠ -1 → f.long ≤ 256 → Lc B n f.w
def Bk.wf (B : Bk) (F : List Fst) : Bk := { B with firsts := F }
theorem firstSeq_none {F : List Fst} : ∀ (l : List Nd) (o : Fst), o.long = -1 → ((B.wf F).firstSeq l o).long = -1
  | [], o, h => by rw [Bk.firstSeq]; exact h
  | s :: r, o, h => by
    rw [Bk.firstSeq]
    refine firstSeq_none r _ ?_
    unfold joinF
    rw [if_pos (.inl h)]
theorem firstSeq_long {F : List Fst} (hF : ∀ f ∈ F, f.Ok) : ∀ (l : List Nd) (o : Fst), o.Ok → ((B.wf F).firstSeq l o).long ≠ -1 → o.long ≤ ((B.wf F).firstSeq l o).long ∧ o.long ≠ -1
  | [], o, _, h => by rw [Bk.firstSeq] at h ⊢; exact ⟨Int.le_refl _, h⟩
  | s :: r, o, ho, h => by
    rw [Bk.firstSeq] at h ⊢
    have hn : ((B.wf F).firstN s).Ok := Bk.firstN_ok hF s
    obtain ⟨h1, h2⟩ := firstSeq_long hF r _ (joinF_ok ho hn) h
    unfold joinF at h1 h2
    split at h2
    · exact absurd rfl h2
    · rename_i hc
      rw [if_neg hc] at h1
      dsimp only at h1
      have : 0 ≤ ((B.wf F).firstN s).long := by
        rcases hn with ⟨e, -⟩ | ⟨e, -⟩
        · exact absurd (.inr (.inl e)) hc
        · exact e
      refine ⟨?_, fun e => hc (.inl e)⟩
      unfold joinF
      rw [if_neg hc]
      omega
theorem joinF_ok' {f g : Fst} (hf : f.Ok) (hg : g.Ok) : (joinF f g).Ok := joinF_ok hf hg
theorem SoundF.ok {F : List Fst} (h : SoundF B F) : ∀ f ∈ F, f.Ok := fun f hf => by
  obtain ⟨r, hr⟩ := List.getElem?_of_mem hf
  exact (h.2 r f hr).1
theorem firstAlt_one {F : List Fst} : ∀ (l : List Nd) (o : Fst), (B.wf F).firstAlt l o = o ∨ ∃ s ∈ l, (B.wf F).firstAlt l o = (B.wf F).firstN s
  | [], o => by rw [Bk.firstAlt]; exact .inl rfl
  | s :: r, o => by
    rw [Bk.firstAlt]
    rcases firstAlt_one r (if firstLt ((B.wf F).firstN s) o then (B.wf F).firstN s else o) with e | ⟨t, ht, e⟩
    · rw [e]
      split
      · exact .inr ⟨s, List.mem_cons_self .., rfl⟩
      · exact .inl rfl
    · exact .inr ⟨t, List.mem_cons_of_mem _ ht, e⟩
mutual
/-- what is told is derived -/
theorem firstN_sound {F : List Fst} (hF : SoundF B F) : ∀ n : Nd, n.lp → ((B.wf F).firstN n).long ≠ -1 → ((B.wf F).firstN n).long ≤ 256 → Lc B n ((B.wf F).firstN n).w
  | .mk k nm tx set subs, hlp, h1, h2 => by
    rw [Nd.lp] at hlp
    rw [Bk.firstN] at h1 h2 ⊢
    by_cases k6 : k = 6
    · subst k6
      rw [if_pos rfl]
      refine ⟨.tok (.inl rfl), ?_⟩
      simp
    rw [if_neg k6] at h1 h2 ⊢
    by_cases k5 : k = 5
    · subst k5
      rw [if_pos rfl] at h1 h2 ⊢
      cases hf : (B.wf F).firsts[(B.wf F).rule nm]? with
      | none => rw [hf] at h1; exact absurd rfl h1
      | some f =>
        rw [hf] at h1 h2
        obtain ⟨ho, hs⟩ := hF.2 _ f hf
        rw [Option.getD_some] at h1 h2 ⊢
        cases hb : B.bodies[B.rule nm]? with
        | none =>
          have h3 := (List.getElem?_eq_some_iff.1 hf).1
          have h4 := List.getElem?_eq_none_iff.1 hb
          have h5 : F.length = B.bodies.length := hF.1
          have h6 : B.rule nm < F.length := h3
          omega
        | some n =>
          have := hs n hb h1 h2
          exact ⟨.ref hb this.1, this.2⟩
    rw [if_neg k5] at h1 h2 ⊢
    by_cases k1 : k = 1
    · subst k1
      rw [if_pos rfl] at h1 h2 ⊢
      obtain ⟨u, hu, e⟩ := firstSeq_sound hF subs hlp.2 ⟨0, []⟩ ok_zero h1 h2
      rw [e]
      exact ⟨.seq hu.1, by simpa using hu.2⟩
    rw [if_neg k1] at h1 h2 ⊢
    by_cases k0 : k = 0
    · subst k0
      rw [if_pos rfl] at h1 h2 ⊢
      rcases firstAlt_one (B := B) (F := F) subs ⟨-1, []⟩ with e | ⟨s, hs, e⟩
      · rw [e] at h1; exact absurd rfl h1
      · rw [e] at h1 h2 ⊢
        have := firstN_all hF subs hlp.2 s hs h1 h2
        exact ⟨.alt hs this.1, this.2⟩
    rw [if_neg k0] at h1 h2 ⊢
    by_cases k4 : k = 4
    · subst k4
      rw [if_pos rfl] at h1 h2 ⊢
      cases subs with
      | nil => exact absurd rfl (hlp.1 (by omega))
      | cons s r =>
        rw [Bk.firstHd] at h1 h2 ⊢
        have := firstN_all hF (s :: r) hlp.2 s (List.mem_cons_self ..) h1 h2
        exact ⟨.plus (.one this.1), this.2⟩
    rw [if_neg k4]
    refine ⟨?_, by simp⟩
    by_cases k2 : k = 2
    · subst k2; exact .opt0
    by_cases k3 : k = 3
    · subst k3; exact .star0
    exact .other (by omega)
theorem firstN_all {F : List Fst} (hF : SoundF B F) : ∀ l : List Nd, Nd.lpL l → ∀ s ∈ l, ((B.wf F).firstN s).long ≠ -1 → ((B.wf F).firstN s).long ≤ 256 → Lc B s ((B.wf F).firstN s).w
  | n :: r, hlp, s, hs, h1, h2 => by
    rw [Nd.lpL] at hlp
    rcases List.mem_cons.1 hs with e | hs
    · rw [e] at h1 h2 ⊢
      exact firstN_sound hF n hlp.1 h1 h2
    · exact firstN_all hF r hlp.2 s hs h1 h2
theorem firstSeq_sound {F : List Fst} (hF : SoundF B F) : ∀ (l : List Nd), Nd.lpL l → ∀ (o : Fst), o.Ok → ((B.wf F).firstSeq l o).long ≠ -1 → ((B.wf F).firstSeq l o).long ≤ 256 → ∃ u, LcL B l u ∧ ((B.wf F).firstSeq l o).w = o.w ++ u
  | [], _, o, _, _, _ => ⟨[], ⟨.nil, by simp⟩, by rw [Bk.firstSeq]; simp⟩
  | s :: r, hlp, o, ho, h1, h2 => by
    rw [Nd.lpL] at hlp
    rw [Bk.firstSeq] at h1 h2 ⊢
    have hn : ((B.wf F).firstN s).Ok := Bk.firstN_ok hF.ok s
    obtain ⟨h3, h4⟩ := firstSeq_long hF.ok r _ (joinF_ok ho hn) h1
    obtain ⟨-, -, j3, j4, j5, -⟩ := join_short ho hn h4 (by omega)
    have hs := firstN_sound hF s hlp.1 j3 j4
    obtain ⟨u, hu, e⟩ := firstSeq_sound hF r hlp.2 _ (joinF_ok ho hn) h1 h2
    refine ⟨((B.wf F).firstN s).w ++ u, ⟨.cons hs.1 hu.1, no2_app.2 ⟨hs.2, hu.2⟩⟩, ?_⟩
    rw [e, j5]
    show o.w ++ _ ++ u = _
    rw [List.append_assoc]
end
/-! ### alternatives -/
/-- nothing that is told is ahead of v -/
theorem alt_not {G : List Fst} (hG : SoundF B G) {s : Nd} (hlp : s.lp) {v : List Int} (hmin : ∀ u, Lc B s u → slB u v = false) (hv : v.length ≤ 256) : firstLt ((B.wf G).firstN s) (mkF v) = false := by
  have ho : ((B.wf G).firstN s).Ok := Bk.firstN_ok hG.ok s
  by_cases h1 : ((B.wf G).firstN s).long = -1
  · exact none_lt v h1
  · by_cases h2 : (v.length : Int) < ((B.wf G).firstN s).long
    · exact long_lt v h2
    · rw [ho.short h1 (by omega), lt_mk]
      exact hmin _ (firstN_sound hG s hlp h1 (by omega))
theorem alt_keep {G : List Fst} (hG : SoundF B G) {v : List Int} (hv : v.length ≤ 256) : ∀ l : List Nd, Nd.lpL l → (∀ s ∈ l, ∀ u, Lc B s u → slB u v = false) → (B.wf G).firstAlt l (mkF v) = mkF v
  | [], _, _ => by rw [Bk.firstAlt]
  | s :: r, hlp, hmin => by
    rw [Nd.lpL] at hlp
    rw [Bk.firstAlt, alt_not hG hlp.1 (hmin s (List.mem_cons_self ..)) hv]
    exact alt_keep hG hv r hlp.2 fun t ht => hmin t (List.mem_cons_of_mem _ ht)
/-- what may stand ahead of v so far -/
def Behind (v : List Int) (o : Fst) : Prop := o.Ok ∧ (o.long ≠ -1 → o.long ≤ 256 → slB o.w v = false)
theorem alt_find {G : List Fst} (hG : SoundF B G) {v : List Int} (hv : v.length ≤ 256) : ∀ (l : List Nd), Nd.lpL l → (∀ s ∈ l, ∀ u, Lc B s u → slB u v = false) → (∃ s ∈ l, (B.wf G).firstN s = mkF v) → ∀ o, Behind v o → (B.wf G).firstAlt l o = mkF v
  | [], _, _, ⟨s, hs, _⟩, _, _ => by cases hs
  | s :: r, hlp, hmin, hex, o, ho => by
    rw [Nd.lpL] at hlp
    have hmin' : ∀ t ∈ r, ∀ u, Lc B t u → slB u v = false := fun t ht => hmin t (List.mem_cons_of_mem _ ht)
    rw [Bk.firstAlt]
    by_cases hx : (B.wf G).firstN s = mkF v
    · rw [hx]
      split
      · exact alt_keep hG hv r hlp.2 hmin'
      · rename_i hc
        have h1 : o.long ≠ -1 := fun e => hc (lt_none v e)
        have h2 : ¬ (v.length : Int) < o.long := fun e => hc (lt_long v e)
        have h3 := ho.1.short h1 (by omega)
        rw [h3, lt_mk, Bool.not_eq_true] at hc
        have h4 := ho.2 h1 (by omega)
        have h5 := slB_tri hc h4
        rw [← h5] at h3
        rw [h3]
        exact alt_keep hG hv r hlp.2 hmin'
    · refine alt_find hG hv r hlp.2 hmin' ?_ _ ?_
      · obtain ⟨t, ht, e⟩ := hex
        rcases List.mem_cons.1 ht with rfl | ht
        · exact absurd e hx
        · exact ⟨t, ht, e⟩
      · split
        · exact ⟨Bk.firstN_ok hG.ok s, fun h1 h2 => hmin s (List.mem_cons_self ..) _ (firstN_sound hG s hlp.1 h1 h2)⟩
        · exact ho
theorem behind_none (v : List Int) : Behind v ⟨-1, []⟩ := ⟨ok_none, fun h => absurd rfl h⟩
/-- what is least among alternatives is least of its own -/
theorem Min.alt {nm tx : ByteArray} {set : List (Int × Int)} {subs : List Nd} {v : List Int} (h : Min B (.mk 0 nm tx set subs) v) : ∀ s ∈ subs, ∀ u, Lc B s u → slB u v = false := fun _ hs u hu => h.2 u ⟨.alt hs hu.1, hu.2⟩

/-! ### what is least stays told -/
def KeepF (B : Bk) (F G : List Fst) : Prop := ∀ (r : Nat) (n : Nd) (v : List Int), B.bodies[r]? = some n → Min B n v → v.length ≤ 256 → F[r]? = some (mkF v) → G[r]? = some (mkF v)
mutual
theorem keep_min {F G : List Fst} (hF : SoundF B F) (hG : SoundF B G) (hFG : KeepF B F G) :
    ∀ n : Nd, n.lp → ∀ v, Min B n v → v.length ≤ 256 → (B.wf F).firstN n = mkF v → (B.wf G).firstN n = mkF v
  | .mk k nm tx set subs, hlp, v, hm, hv, h => by
    rw [Nd.lp] at hlp
    rw [Bk.firstN] at h ⊢
    by_cases k6 : k = 6
    · rw [if_pos k6] at h ⊢
      exact h
    rw [if_neg k6] at h ⊢
    by_cases k5 : k = 5
    · subst k5
      rw [if_pos rfl] at h ⊢
      cases hf : (B.wf F).firsts[(B.wf F).rule nm]? with
      | none =>
        rw [hf] at h
        have := congrArg Fst.long h
        unfold mkF at this
        dsimp only [Option.getD_none] at this
        omega
      | some f =>
        rw [hf, Option.getD_some] at h
        subst h
        obtain ⟨⟨hlg, h2⟩, h3⟩ := hm
        cases hlg with
        | ref hb hd =>
          have := hFG _ _ v hb ⟨⟨hd, h2⟩, fun u hu => h3 u ⟨.ref hb hu.1, hu.2⟩⟩ hv hf
          have e : (B.wf G).firsts[(B.wf G).rule nm]? = some (mkF v) := this
          rw [e]
          rfl
        | other hk => omega
    rw [if_neg k5] at h ⊢
    by_cases k1 : k = 1
    · subst k1
      rw [if_pos rfl] at h ⊢
      have hml : MinL B subs v := by
        obtain ⟨⟨hlg, h2⟩, h3⟩ := hm
        cases hlg with
        | seq hs => exact ⟨⟨hs, h2⟩, fun u hu => h3 u ⟨.seq hu.1, hu.2⟩⟩
        | other hk => omega
      exact keep_minL hF hG hFG subs hlp.2 [] v hml (by simpa using hv) h
    rw [if_neg k1] at h ⊢
    by_cases k0 : k = 0
    · subst k0
      rw [if_pos rfl] at h ⊢
      refine alt_find hG hv subs hlp.2 hm.alt ?_ _ (behind_none v)
      rcases firstAlt_one (B := B) (F := F) subs ⟨-1, []⟩ with e | ⟨s, hs, e⟩
      · rw [e] at h
        have := congrArg Fst.long h
        unfold mkF at this
        dsimp only at this
        omega
      · rw [e] at h
        have hok : ((B.wf F).firstN s).Ok := Bk.firstN_ok hF.ok s
        have hlg := firstN_all hF subs hlp.2 s hs (by rw [h]; unfold mkF; dsimp only; omega) (by rw [h]; unfold mkF; dsimp only; omega)
        rw [h] at hlg
        exact ⟨s, hs, keep_all hF hG hFG subs hlp.2 s hs v ⟨hlg, fun u hu => hm.alt s hs u hu⟩ hv h⟩
    rw [if_neg k0] at h ⊢
    by_cases k4 : k = 4
    · subst k4
      rw [if_pos rfl] at h ⊢
      match subs, hlp, hm, h with
      | [], hlp, _, _ => exact absurd rfl (hlp.1 (by omega))
      | s :: r, hlp, hm, h =>
        rw [Bk.firstHd] at h ⊢
        have hlg := firstN_all hF (s :: r) hlp.2 s (List.mem_cons_self ..) (by rw [h]; unfold mkF; dsimp only; omega) (by rw [h]; unfold mkF; dsimp only; omega)
        rw [h] at hlg
        exact keep_all hF hG hFG (s :: r) hlp.2 s (List.mem_cons_self ..) v ⟨hlg, fun u hu => hm.2 u ⟨.plus (.one hu.1), hu.2⟩⟩ hv h
    rw [if_neg k4] at h ⊢
    exact h
theorem keep_all {F G : List Fst} (hF : SoundF B F) (hG : SoundF B G) (hFG : KeepF B F G) :
    ∀ l : List Nd, Nd.lpL l → ∀ s ∈ l, ∀ v, Min B s v → v.length ≤ 256 → (B.wf F).firstN s = mkF v → (B.wf G).firstN s = mkF v
  | n :: r, hlp, s, hs, v, hm, hv, h => by
    rw [Nd.lpL] at hlp
    rcases List.mem_cons.1 hs with e | hs
    · rw [e] at hm h ⊢
      exact keep_min hF hG hFG n hlp.1 v hm hv h
    · exact keep_all hF hG hFG r hlp.2 s hs v hm hv h
theorem keep_minL {F G : List Fst} (hF : SoundF B F) (hG : SoundF B G) (hFG : KeepF B F G) :
    ∀ l : List Nd, Nd.lpL l → ∀ p u, MinL B l u → p.length + u.length ≤ 256 → (B.wf F).firstSeq l (mkF p) = mkF (p ++ u) → (B.wf G).firstSeq l (mkF p) = mkF (p ++ u)
  | [], _, p, u, _, _, h => by rw [Bk.firstSeq] at h ⊢; exact h
  | s :: r, hlp, p, u, hm, hl, h => by
    rw [Nd.lpL] at hlp
    rw [Bk.firstSeq] at h ⊢
    have hn : ((B.wf F).firstN s).Ok := Bk.firstN_ok hF.ok s
    have hp : (mkF p).Ok := .inr ⟨by unfold mkF; dsimp only; omega, by unfold mkF; dsimp only; omega, fun _ => rfl, fun h => by unfold mkF at h; dsimp only at h; omega⟩
    have hlong : ((B.wf F).firstSeq r (joinF (mkF p) ((B.wf F).firstN s))).long ≠ -1 := by rw [h]; unfold mkF; dsimp only; omega
    have hshort : ((B.wf F).firstSeq r (joinF (mkF p) ((B.wf F).firstN s))).long ≤ 256 := by rw [h]; unfold mkF; dsimp only; rw [List.length_append]; omega
    obtain ⟨h3, h4⟩ := firstSeq_long hF.ok r _ (joinF_ok hp hn) hlong
    obtain ⟨-, -, j3, j4, j5, j6⟩ := join_short hp hn h4 (by omega)
    have hs := firstN_sound hF s hlp.1 j3 j4
    obtain ⟨u', hu', e⟩ := firstSeq_sound hF r hlp.2 _ (joinF_ok hp hn) hlong hshort
    rw [h, j5] at e
    have e' : u = ((B.wf F).firstN s).w ++ u' := by
      have : p ++ u = p ++ ((B.wf F).firstN s).w ++ u' := e
      rw [List.append_assoc] at this
      exact List.append_cancel_left this
    obtain ⟨a, ha⟩ : ∃ a, ((B.wf F).firstN s).w = a := ⟨_, rfl⟩
    have hna := hn.short j3 j4
    rw [ha] at hna hs e' j5 j6
    subst e'
    obtain ⟨m1, m2⟩ := hm.parts hs.1 hu'.1
    rw [List.length_append] at hl
    have hga := keep_min hF hG hFG s hlp.1 a m1 (by omega) hna
    rw [hna, join_mk p a (by omega)] at h
    rw [hga, join_mk p a (by omega)]
    rw [← List.append_assoc] at h ⊢
    exact keep_minL hF hG hFG r hlp.2 (p ++ a) u' m2 (by rw [List.length_append]; omega) h
end
end
end Go.Proofs.YtgegjjfjhpokpaaGreatDoor

/- So many rounds tell all that is least. Plain. -/
namespace Go.Proofs.YtgegjjfjhpokpaaGreatDoor

section
variable {B : Bk} {Fk : Nat → List Fst}
structure Chain (B : Bk) (Fk : Nat → List Fst) : Prop where
  sound : ∀ k, SoundF B (Fk k)
  next : ∀ (k r : Nat) (n : Nd), B.bodies[r]? = some n → (Fk (k + 1))[r]? = some ((B.wf (Fk k)).firstN n)
  start : ∀ (r : Nat) (f : Fst), (Fk 0)[r]? = some f → f.long = -1
  lp : ∀ n ∈ B.bodies, n.lp
theorem mkF_long (v : List Int) : (mkF v).long ≠ -1 := by unfold mkF; dsimp only; omega
theorem Min.uniq {n : Nd} {u v : List Int} (h : Min B n u) (k : Min B n v) : u = v := slB_tri (k.2 u h.1) (h.2 v k.1)
mutual
theorem exN (hC : Chain B Fk) : ∀ {n : Nd} {u : List Int}, Lg B n u → n.lp → Min B n u → u.length ≤ 256 → ∃ k, ∀ k', k ≤ k' → (B.wf (Fk k')).firstN n = mkF u
  | _, _, .tok (x := x) h, _, hm, _ => ⟨0, fun k' _ => by
    rw [Bk.firstN, if_pos rfl]
    rcases h with rfl | rfl
    · rfl
    · exact absurd hm.1.2 (by simp)⟩
  | .mk _ nm tx set subs, u, .ref h hd, _, hm, hl => by
    obtain ⟨⟨-, h2⟩, h3⟩ := hm
    obtain ⟨k, hk⟩ := exN hC hd (hC.lp _ (List.mem_of_getElem? h)) ⟨⟨hd, h2⟩, fun u hu => h3 u ⟨.ref h hu.1, hu.2⟩⟩ hl
    refine ⟨k + 1, fun k' hk' => ?_⟩
    obtain ⟨m, rfl⟩ : ∃ m, k' = m + 1 := ⟨k' - 1, by omega⟩
    have h5 := hC.next m _ _ h
    rw [hk m (by omega)] at h5
    rw [Bk.firstN, if_neg (by decide), if_pos rfl]
    have e : (B.wf (Fk (m + 1))).firsts[(B.wf (Fk (m + 1))).rule nm]? = some (mkF u) := h5
    rw [e]
    rfl
  | .mk _ nm tx set subs, u, .seq h, hlp, hm, hl => by
    rw [Nd.lp] at hlp
    obtain ⟨⟨-, h2⟩, h3⟩ := hm
    obtain ⟨k, hk⟩ := exL hC h hlp.2 ⟨⟨h, h2⟩, fun u hu => h3 u ⟨.seq hu.1, hu.2⟩⟩ hl
    refine ⟨k, fun k' hk' => ?_⟩
    rw [Bk.firstN, if_neg (by decide), if_neg (by decide), if_pos rfl]
    have := hk k' hk' [] (by simpa using hl)
    rw [List.nil_append] at this
    exact this
  | .mk _ nm tx set subs, u, .alt hx h, hlp, hm, hl => by
    rw [Nd.lp] at hlp
    have hma := hm.alt
    obtain ⟨k, hk⟩ := exN hC h (hlp.2.mem _ hx) ⟨⟨h, hm.1.2⟩, fun u hu => hma _ hx u hu⟩ hl
    refine ⟨k, fun k' hk' => ?_⟩
    rw [Bk.firstN, if_neg (by decide), if_neg (by decide), if_neg (by decide), if_pos rfl]
    exact alt_find (hC.sound k') hl subs hlp.2 hma ⟨_, hx, hk k' hk'⟩ _ (behind_none u)
  | _, _, .opt0, _, _, _ => ⟨0, fun k' _ => by
    rw [Bk.firstN, if_neg (by decide), if_neg (by decide), if_neg (by decide), if_neg (by decide), if_neg (by decide)]
    rfl⟩
  | .mk _ nm tx set _, u, .opt h, _, hm, _ => ⟨0, fun k' _ => by
    rw [Bk.firstN, if_neg (by decide), if_neg (by decide), if_neg (by decide), if_neg (by decide), if_neg (by decide), slB_nil (hm.2 [] ⟨.opt0, by simp⟩)]
    rfl⟩
  | _, _, .star0, _, _, _ => ⟨0, fun k' _ => by
    rw [Bk.firstN, if_neg (by decide), if_neg (by decide), if_neg (by decide), if_neg (by decide), if_neg (by decide)]
    rfl⟩
  | .mk _ nm tx set _, u, .star h, _, hm, _ => ⟨0, fun k' _ => by
    rw [Bk.firstN, if_neg (by decide), if_neg (by decide), if_neg (by decide), if_neg (by decide), if_neg (by decide), slB_nil (hm.2 [] ⟨.star0, by simp⟩)]
    rfl⟩
  | .mk _ nm tx set _, u, .plus (x := x) (r := r) h, hlp, hm, hl => by
    rw [Nd.lp] at hlp
    obtain ⟨k, hk⟩ := exP hC h (hlp.2.mem _ (List.mem_cons_self ..)) (fun u' hu' h2 => hm.2 u' ⟨.plus hu', h2⟩) hm.1.2 hl
    refine ⟨k, fun k' hk' => ?_⟩
    rw [Bk.firstN, if_neg (by decide), if_neg (by decide), if_neg (by decide), if_neg (by decide), if_pos rfl, Bk.firstHd]
    exact hk k' hk'
  | .mk k nm tx set subs, _, .other hk, _, _, _ => ⟨0, fun k' _ => by
    rw [Bk.firstN, if_neg (by omega), if_neg (by omega), if_neg (by omega), if_neg (by omega), if_neg (by omega)]
    rfl⟩
theorem exL (hC : Chain B Fk) : ∀ {l : List Nd} {u : List Int}, LgL B l u → Nd.lpL l → MinL B l u → u.length ≤ 256 → ∃ k, ∀ k', k ≤ k' → ∀ p, p.length + u.length ≤ 256 → (B.wf (Fk k')).firstSeq l (mkF p) = mkF (p ++ u)
  | _, _, .nil, _, _, _ => ⟨0, fun k' _ p _ => by rw [Bk.firstSeq, List.append_nil]⟩
  | _, _, .cons (u := a) (v := b) h hr, hlp, hm, hl => by
    rw [Nd.lpL] at hlp
    rw [List.length_append] at hl
    obtain ⟨m1, m2⟩ := hm.parts h hr
    obtain ⟨k1, hk1⟩ := exN hC h hlp.1 m1 (by omega)
    obtain ⟨k2, hk2⟩ := exL hC hr hlp.2 m2 (by omega)
    refine ⟨k1 + k2, fun k' hk' p hp => ?_⟩
    rw [List.length_append] at hp
    rw [Bk.firstSeq, hk1 k' (by omega), join_mk p a (by omega), ← List.append_assoc]
    exact hk2 k' (by omega) (p ++ a) (by rw [List.length_append]; omega)
theorem exP (hC : Chain B Fk) : ∀ {x : Nd} {u : List Int}, LgP B x u → x.lp → (∀ u', LgP B x u' → -2 ∉ u' → slB u' u = false) → -2 ∉ u → u.length ≤ 256 → ∃ k, ∀ k', k ≤ k' → (B.wf (Fk k')).firstN x = mkF u
  | _, _, .one h, hlp, hm, h2, hl => exN hC h hlp ⟨⟨h, h2⟩, fun u' hu' => hm u' (.one hu'.1) hu'.2⟩ hl
  | _, _, .more (u := a) (v := b) h _, hlp, hm, h2, hl => by
    have hc := no2_app.1 h2
    have h3 := hm a h hc.1
    have hb : b = [] := by
      cases b with
      | nil => rfl
      | cons y r =>
        unfold slB at h3
        rw [if_neg (by simp)] at h3
        simp at h3
    rw [hb, List.append_nil] at hm hl ⊢
    exact exP hC h hlp hm hc.1 hl
end
theorem KeepF.refl (F : List Fst) : KeepF B F F := fun _ _ _ _ _ _ h => h
theorem KeepF.trans {F G H : List Fst} (h : KeepF B F G) (k : KeepF B G H) : KeepF B F H := fun r n v h1 h2 h3 h4 => k r n v h1 h2 h3 (h r n v h1 h2 h3 h4)
theorem Chain.lift (hC : Chain B Fk) {j k : Nat} (h : KeepF B (Fk j) (Fk k)) : KeepF B (Fk (j + 1)) (Fk (k + 1)) := fun r n v h1 h2 h3 h4 => by
  rw [hC.next j r n h1] at h4
  rw [hC.next k r n h1, keep_min (hC.sound j) (hC.sound k) h n (hC.lp n (List.mem_of_getElem? h1)) v h2 h3 (Option.some.inj h4)]
theorem Chain.up (hC : Chain B Fk) : ∀ k, KeepF B (Fk k) (Fk (k + 1))
  | 0 => fun r _ v _ _ _ h4 => absurd (hC.start r _ h4) (mkF_long v)
  | k + 1 => hC.lift (hC.up k)
theorem Chain.up_to (hC : Chain B Fk) (k : Nat) : ∀ m, KeepF B (Fk k) (Fk (k + m))
  | 0 => KeepF.refl _
  | m + 1 => (hC.up_to k m).trans (hC.up (k + m))
theorem Chain.down (hC : Chain B Fk) {j : Nat} (h : KeepF B (Fk (j + 1)) (Fk j)) : ∀ m, KeepF B (Fk (j + m + 1)) (Fk (j + m))
  | 0 => h
  | m + 1 => hC.lift (hC.down h m)
theorem Chain.down_to (hC : Chain B Fk) {j : Nat} (h : KeepF B (Fk (j + 1)) (Fk j)) : ∀ m, KeepF B (Fk (j + m)) (Fk j)
  | 0 => KeepF.refl _
  | m + 1 => (hC.down h m).trans (hC.down_to h m)
/-- what is told for good -/
def Done (B : Bk) (F : List Fst) (r : Nat) : Prop := ∃ (n : Nd) (v : List Int), B.bodies[r]? = some n ∧ Min B n v ∧ v.length ≤ 256 ∧ F[r]? = some (mkF v)
noncomputable def doneB (B : Bk) (F : List Fst) (r : Nat) : Bool := @decide (Done B F r) (Classical.propDecidable _)
theorem doneB_iff {F : List Fst} {r : Nat} : doneB B F r = true ↔ Done B F r := by unfold doneB; simp
theorem grow_of {F G : List Fst} (h : KeepF B F G) (hn : ¬ KeepF B G F) : ((List.range B.bodies.length).filter (doneB B F)).length < ((List.range B.bodies.length).filter (doneB B G)).length := by
  obtain ⟨r, n, v, h1, h2, h3, h4, h5⟩ : ∃ (r : Nat) (n : Nd) (v : List Int), B.bodies[r]? = some n ∧ Min B n v ∧ v.length ≤ 256 ∧ G[r]? = some (mkF v) ∧ ¬ F[r]? = some (mkF v) := by
    refine Classical.byContradiction fun hc => hn fun r n v h1 h2 h3 h4 => Classical.byContradiction fun h5 => hc ⟨r, n, v, h1, h2, h3, h4, h5⟩
  refine filter_less (x := r) (fun k _ hk => ?_) (List.mem_range.2 (List.getElem?_eq_some_iff.1 h1).1) (doneB_iff.2 ⟨n, v, h1, h2, h3, h4⟩) ?_
  · obtain ⟨n, v, k1, k2, k3, k4⟩ := doneB_iff.1 hk
    exact doneB_iff.2 ⟨n, v, k1, k2, k3, h _ n v k1 k2 k3 k4⟩
  · cases hd : doneB B F r
    · rfl
    · obtain ⟨n', v', k1, k2, k3, k4⟩ := doneB_iff.1 hd
      rw [h1] at k1
      cases k1
      rw [k2.uniq h2] at k4
      exact absurd k4 h5
theorem Chain.all (hC : Chain B Fk) {r : Nat} {n : Nd} {v : List Int} (hb : B.bodies[r]? = some n) (hm : Min B n v) (hv : v.length ≤ 256) (m : Nat) : (Fk (B.bodies.length + m))[r]? = some (mkF v) := by
  obtain ⟨k, hk⟩ := exN hC hm.1.1 (hC.lp n (List.mem_of_getElem? hb)) hm hv
  refine hC.up_to _ m r n v hb hm hv ?_
  refine Classical.byContradiction fun hno => ?_
  have hstep : ∀ j, j ≤ B.bodies.length → ¬ KeepF B (Fk (j + 1)) (Fk j) := by
    intro j hj hkeep
    have h1 : (Fk (j + (k + 1)))[r]? = some (mkF v) := by
      have := hC.next (j + k) r n hb
      rw [hk (j + k) (by omega)] at this
      exact this
    have h2 := hC.down_to hkeep (k + 1) r n v hb hm hv h1
    have h3 := hC.up_to j (B.bodies.length - j) r n v hb hm hv h2
    rw [show j + (B.bodies.length - j) = B.bodies.length by omega] at h3
    exact hno h3
  have hcnt : ∀ j, j ≤ B.bodies.length + 1 → j ≤ ((List.range B.bodies.length).filter (doneB B (Fk j))).length := by
    intro j
    induction j with
    | zero => intro _; omega
    | succ j ih =>
      intro hj
      have h1 := ih (by omega)
      have h2 := grow_of (hC.up j) (hstep j (by omega))
      omega
  have h1 := hcnt (B.bodies.length + 1) (Nat.le_refl _)
  have h2 := List.length_filter_le (doneB B (Fk (B.bodies.length + 1))) (List.range B.bodies.length)
  rw [List.length_range] at h2
  omega
end
/-! ### the grammar's own book -/
theorem iter_wf (B : Bk) : ∀ k, B.iter k = B.wf (B.iter k).firsts
  | 0 => rfl
  | k + 1 => by
    obtain ⟨h1, h2, h3, h4⟩ := B.iter_rest (k + 1)
    cases h : B.iter (k + 1) with
    | mk a b c d e =>
      rw [h] at h1 h2 h3 h4
      dsimp only at h1 h2 h3 h4
      rw [h1, h2, h3, h4]
      rfl
theorem chain_of {B : Bk} (hlp : ∀ n ∈ B.bodies, n.lp) (hst : ∀ f ∈ B.firsts, f = ⟨-1, []⟩) (hlen : B.firsts.length = B.bodies.length) : Chain B fun k => (B.iter k).firsts := by
  have hnext : ∀ (k r : Nat) (n : Nd), B.bodies[r]? = some n → ((B.iter (k + 1)).firsts)[r]? = some ((B.wf (B.iter k).firsts).firstN n) := by
    intro k r n h
    show ((B.iter k).bodies.map fun n => (B.iter k).firstN n)[r]? = _
    rw [List.getElem?_map, (B.iter_rest k).2.2.2, h, ← iter_wf]
    rfl
  refine ⟨fun k => ?_, hnext, fun r f hf => ?_, hlp⟩
  · induction k with
    | zero =>
      refine ⟨hlen, fun r f hf => ?_⟩
      have := hst f (List.mem_of_getElem? hf)
      subst this
      exact ⟨ok_none, fun _ _ h => absurd rfl h⟩
    | succ k ih =>
      have hl := B.iter_len hlen (k + 1)
      refine ⟨hl, fun r f hf => ?_⟩
      have hr : r < B.bodies.length := by rw [← hl]; exact (List.getElem?_eq_some_iff.1 hf).1
      have hn := hnext k r _ (List.getElem?_eq_getElem hr)
      have e : f = (B.wf (B.iter k).firsts).firstN B.bodies[r] := Option.some.inj (hf.symm.trans hn)
      subst e
      refine ⟨Bk.firstN_ok (B := B.wf (B.iter k).firsts) ih.ok _, fun n hb h1 h2 => ?_⟩
      rw [List.getElem?_eq_getElem hr] at hb
      cases hb
      exact firstN_sound ih _ (hlp _ (List.getElem_mem hr)) h1 h2
  · rw [hst f (List.mem_of_getElem? hf)]
end Go.Proofs.YtgegjjfjhpokpaaGreatDoor

/- SamplesWhole, plain: what All, Has, Least and Long tell of a grammar in which nothing is wrong. -/
namespace Go.Proofs.YtgegjjfjhpokpaaGreatDoor

theorem lexB_asym : ∀ {u v : List Int}, lexB u v = true → lexB v u = false
  | [], _, h => by cases h
  | _ :: _, [], h => by cases h
  | a :: u, b :: v, h => by
    rw [lexB] at h ⊢
    by_cases e : a = b
    · subst e
      rw [if_pos rfl] at h ⊢
      exact lexB_asym h
    · rw [if_neg e, decide_eq_true_eq] at h
      rw [if_neg (fun x => e x.symm), decide_eq_false_iff_not]
      omega
theorem slB_asym {u v : List Int} (h : slB u v = true) : slB v u = false := by
  unfold slB at h ⊢
  by_cases e : u.length = v.length
  · rw [if_pos e] at h
    rw [if_pos e.symm]
    exact lexB_asym h
  · rw [if_neg e, decide_eq_true_eq] at h
    rw [if_neg (fun x => e x.symm), decide_eq_false_iff_not]
    omega
section
variable {B : Bk} {F : List Fst}
mutual
theorem lg_wf : ∀ {n : Nd} {u : List Int}, Lg B n u → Lg (B.wf F) n u
  | _, _, .tok h => .tok h
  | _, _, .ref h hd => .ref h (lg_wf hd)
  | _, _, .seq h => .seq (lgL_wf h)
  | _, _, .alt hx h => .alt hx (lg_wf h)
  | _, _, .opt0 => .opt0
  | _, _, .opt h => .opt (lg_wf h)
  | _, _, .star0 => .star0
  | _, _, .star h => .star (lgP_wf h)
  | _, _, .plus h => .plus (lgP_wf h)
  | _, _, .other hk => .other hk
theorem lgL_wf : ∀ {l : List Nd} {u : List Int}, LgL B l u → LgL (B.wf F) l u
  | _, _, .nil => .nil
  | _, _, .cons h hr => .cons (lg_wf h) (lgL_wf hr)
theorem lgP_wf : ∀ {n : Nd} {u : List Int}, LgP B n u → LgP (B.wf F) n u
  | _, _, .one h => .one (lg_wf h)
  | _, _, .more h hr => .more (lgP_wf h) (lg_wf hr)
end
theorem lg_wf_iff {n : Nd} {u : List Int} : Lg (B.wf F) n u ↔ Lg B n u := ⟨fun h => lg_wf (B := B.wf F) (F := B.firsts) h, lg_wf⟩
end
theorem kindsTo_rise (g : Gr) (T : List Int) : ∀ j, (∀ x ∈ kindsTo g T j, 0 ≤ x ∧ x < (j : Int)) ∧ (kindsTo g T j).Pairwise (· < ·)
  | 0 => ⟨by simp [kindsTo], by simp [kindsTo]⟩
  | j + 1 => by
    obtain ⟨h1, h2⟩ := kindsTo_rise g T j
    rw [kindsTo]
    split
    · refine ⟨fun x hx => ?_, ?_⟩
      · rcases List.mem_append.1 hx with hx | hx
        · have := h1 x hx; omega
        · rw [List.mem_singleton.1 hx]; omega
      · rw [List.pairwise_append]
        exact ⟨h2, by simp, fun a ha b hb => by rw [List.mem_singleton.1 hb]; exact (h1 a ha).2⟩
    · exact ⟨fun x hx => by have := h1 x hx; omega, h2⟩
theorem kindsTo_has {g : Gr} {T : List Int} : ∀ {j q : Nat}, q < j → (g.rAt (T.getD q 0)).sort = 1 → (q : Int) ∈ kindsTo g T j
  | 0, q, h, _ => absurd h (by omega)
  | j + 1, q, h, hs => by
    rw [kindsTo]
    by_cases e : q = j
    · subst e
      rw [if_pos hs]
      simp
    · have := kindsTo_has (j := j) (q := q) (by omega) hs
      split
      · exact List.mem_append_left _ this
      · exact this
theorem of_hasS {g : Gr} {S : List Int} {k : Nat} (hk : k < g.rules.length) (hs : (S.any fun y => g.rules[k].sort == y) = true) : ∃ q, q < (g.of S).length ∧ (g.of S)[q]? = some (k : Int) := by
  have hmem : ∀ m, k < m → m ≤ g.rules.length → (k : Int) ∈ g.ofTo S m := by
    intro m
    induction m with
    | zero => intro h; omega
    | succ m ih =>
      intro hm hl
      rw [Gr.ofTo]
      by_cases e : k = m
      · subst e
        rw [if_pos (by rw [Gr.isAt_get hk]; exact hs)]
        simp
      · have := ih (by omega) (by omega)
        split
        · exact List.mem_append_left _ this
        · exact this
  obtain ⟨q, hq⟩ := List.getElem?_of_mem (hmem g.rules.length hk (Nat.le_refl _))
  exact ⟨q, (List.getElem?_eq_some_iff.1 hq).1, hq⟩
/-- a token's place, by its name -/
theorem tok_ix {g : Gr} (hn : g.Names) {q k : Nat} (hk : k < g.rules.length) (hq : (g.of [1, 3])[q]? = some (k : Int)) : (bookOf g).tok g.rules[k].name = q := by
  unfold Bk.tok bookOf
  rw [(Bk.iter_rest _ _).2.1]
  show (lookS (nmsTo g (g.of [1, 3]) (g.of [1, 3]).length) g.rules[k].name).getD 0 = q
  have hql := (List.getElem?_eq_some_iff.1 hq).1
  have hmem := nmsTo_has (g := g) (T := g.of [1, 3]) hql
  rw [List.getD_eq_getElem?_getD, hq, Option.getD_some, Gr.rAt_nat g hk] at hmem
  obtain ⟨p, hp⟩ := lookS_some hmem rfl
  rw [hp, Option.getD_some]
  obtain ⟨x, hx, hx1, rfl⟩ := lookS_mem hp
  obtain ⟨h1, h2⟩ := nmsTo_mem hx
  have h3 : (g.of [1, 3])[x.2]? = some ((g.of [1, 3])[x.2]'h1) := List.getElem?_eq_getElem _
  obtain ⟨m, hm, hme, -⟩ := of_get h3
  rw [hme] at h3
  rw [List.getD_eq_getElem?_getD, h3, Option.getD_some, Gr.rAt_nat g hm] at h2
  have e := hn m k hm hk (h2.symm.trans hx1)
  subst e
  rcases Nat.lt_trichotomy x.2 q with h | h | h
  · have := of_rise g _ h h3 hq; omega
  · exact h
  · have := of_rise g _ h hq h3; omega
theorem bookOf_kinds (g : Gr) : (bookOf g).kinds = kindsTo g (g.of [1, 3]) (g.of [1, 3]).length := by
  unfold bookOf
  rw [(Bk.iter_rest _ _).2.2.1]
  rfl
theorem book_toks {g : Gr} {es : List Bool} {rch rnd : Nat → Nat → Bool} (ht : g.told es rch rnd = []) (hn : g.Names) : ∀ n ∈ (bookOf g).bodies, TokIn (bookOf g) n := by
  intro n hnm m hm h6k
  have hb := bookOf_bodies g
  obtain ⟨r, hr⟩ := List.getElem?_of_mem hnm
  rw [hb] at hr
  have hr' : r < (g.of [0]).length := by have := (List.getElem?_eq_some_iff.1 hr).1; rw [bodsTo_len] at this; exact this
  obtain ⟨hi, h1, -⟩ := ix_get hr'
  obtain ⟨hi2, h2⟩ := rAt_ix hr'
  rw [bodsTo_at hr', h2] at hr
  have h2 := Option.some.inj hr
  have hq := (told_quiet ht).1 _ hi
  have hmb : m ∈ g.rules[g.ix r].body.all := by rw [h2]; exact hm
  have hname : m.isName = true := by unfold Nd.isName; rw [h6k]; rfl
  have h6 := hq.none_ m hmb
  have h7 := hq.sorts m hmb
  unfold Gr.noneBad at h6
  unfold Gr.sortBad at h7
  rw [hname] at h6 h7
  have h0 : ¬ g.find m.name < 0 := by simpa using h6
  have h8 : decide (0 ≤ g.find m.name) = true := decide_eq_true (by omega)
  rw [h8] at h7
  have h9 : sortedB g.rules[g.ix r] m (g.sortAt (g.find m.name)) = true := by simpa using h7
  unfold sortedB at h9
  rw [h6k] at h9
  have hpar : g.rules[g.ix r].parser = true := by unfold Rl.parser; rw [h1]; rfl
  rw [hpar] at h9
  have h10 : g.sortAt (g.find m.name) = 1 := by simpa using h9
  rcases ixOf_cases g.rules (fun r => sameB r.name m.name) with ⟨hf, -⟩ | ⟨k, hk, hf, hsame, -⟩
  · unfold Gr.find at h0
    omega
  · have hf' : g.find m.name = (k : Int) := hf
    rw [hf', sortAt_nat g k hk] at h10
    obtain ⟨q, hq1, hq2⟩ := of_hasS (g := g) (S := [1, 3]) hk (by simp [h10])
    have hnm2 : m.name = g.rules[k].name := (toList_eq ((sameB_iff _ _).1 hsame)).symm
    rw [hnm2, tok_ix hn hk hq2, bookOf_kinds]
    refine kindsTo_has hq1 ?_
    rw [List.getD_eq_getElem?_getD, hq2, Option.getD_some, Gr.rAt_nat g hk]
    exact h10

/-- all that is told of rule r -/
structure WholeLaw (B : Bk) (r long : Nat) (L : List (List Int)) : Prop where
  has : ∀ u : List Int, u.length ≤ long → (u ∈ L ↔ -2 ∉ u ∧ B.D r u)
  short : ∀ l ∈ L, l.length ≤ long
  rise : L.Pairwise fun a b => slB a b = true
  sound : ∀ w, B.leastL r = some w → -2 ∉ w ∧ B.D r w ∧ B.firsts[r]? = some (mkF w) ∧ w.length ≤ 256
  head : ∀ l0 L', L = l0 :: L' → B.leastL r = some l0
theorem whole_law {g : Gr} (hs : soundP g) (hf : g.Fine) {r long : Nat} (hr : r < (bookOf g).bodies.length) (hlong : long ≤ 12) {L : List (List Int)} (h : allR ((bookOf g).dB r) (bookOf g).kinds 512 (long + 1) 0 [] = some L) : WholeLaw (bookOf g) r long L := by
  have hn := hf.names
  have hf' := hf
  obtain ⟨es, M, N, he, hM, hN, ht⟩ := hf'
  have hdb : ∀ u, (bookOf g).dB r u = true ↔ (bookOf g).D r u := fun u => by unfold Bk.dB; simp
  have hwild : WildB ((bookOf g).dB r) := fun p u hu => by
    rw [hdb, d_rg] at hu ⊢
    exact rg_wild hu (Wld.app (Wld.refl p) (Wld.all u))
  have hkr := kindsTo_rise g (g.of [1, 3]) (g.of [1, 3]).length
  rw [← bookOf_kinds] at hkr
  have hsp := allR_spec hwild hkr.2 h
  have htk := book_toks ht hn
  have hhas : ∀ u : List Int, u.length ≤ long → (u ∈ L ↔ -2 ∉ u ∧ (bookOf g).D r u) := fun u hu => by
    rw [hsp.mem, hdb]
    constructor
    · rintro ⟨-, h2, h3⟩
      exact ⟨fun hc => by have := (hkr.1 _ (h2 _ hc)).1; omega, h3⟩
    · rintro ⟨h2, h3⟩
      refine ⟨hu, fun x hx => ?_, h3⟩
      rcases rg_toks htk (d_rg.1 h3) x hx with rfl | hk
      · exact absurd hx h2
      · exact hk
  -- the chain
  obtain ⟨B0, hB0⟩ : ∃ B0, book0 g (g.of [1, 3]) (g.of [0]) = B0 := ⟨_, rfl⟩
  have hbook : bookOf g = B0.iter ((g.of [0]).length + 1) := by unfold bookOf; rw [hB0]
  have hlen0 : B0.bodies.length = (g.of [0]).length := by rw [← hB0]; exact bodsTo_len g _ _
  have hC : Chain B0 fun k => (B0.iter k).firsts := by
    refine chain_of ?_ ?_ ?_
    · rw [← hB0]; exact bods_lp hs
    · intro f hf
      rw [← hB0] at hf
      exact (List.mem_replicate.1 (show f ∈ List.replicate (g.of [0]).length ⟨-1, []⟩ from hf)).2
    · rw [hlen0, ← hB0]; exact List.length_replicate
  have hbod : (bookOf g).bodies = B0.bodies := by rw [hbook]; exact (B0.iter_rest _).2.2.2
  have hwf : bookOf g = B0.wf (bookOf g).firsts := by rw [hbook]; exact iter_wf B0 _
  obtain ⟨n, hbn⟩ : ∃ n, B0.bodies[r]? = some n := ⟨_, List.getElem?_eq_getElem (by rw [← hbod]; exact hr)⟩
  have hD : ∀ u, (bookOf g).D r u ↔ Lg B0 n u := fun u => by
    rw [d_rg]
    unfold Bk.Rg
    rw [hbod, hbn, hwf]
    constructor
    · rintro ⟨m, hm, hl⟩
      cases Option.some.inj hm
      exact lg_wf_iff.1 hl
    · intro hl
      exact ⟨n, rfl, lg_wf_iff.2 hl⟩
  have hsF := hC.sound ((g.of [0]).length + 1)
  have hsF' : SoundF B0 (bookOf g).firsts := by rw [hbook]; exact hsF
  have hsound : ∀ w, (bookOf g).leastL r = some w → -2 ∉ w ∧ (bookOf g).D r w ∧ (bookOf g).firsts[r]? = some (mkF w) ∧ w.length ≤ 256 := by
    intro w hw
    unfold Bk.leastL at hw
    split at hw
    · rw [show ((r : Int)).toNat = r from rfl] at hw
      cases hfr : (bookOf g).firsts[r]? with
      | none => rw [hfr] at hw; cases hw
      | some f =>
        rw [hfr] at hw
        dsimp only at hw
        split at hw
        · cases hw
        · rename_i hc
          obtain ⟨hok, hsd⟩ := hsF'.2 r f hfr
          have h1 : f.long ≠ -1 := fun e => hc (.inl e)
          have h2 : f.long ≤ 256 := by omega
          have h3 := hsd n hbn h1 h2
          have h4 := hok.short h1 h2
          cases hw
          have h5 : (f.w.length : Int) = f.long := by have := congrArg Fst.long h4; unfold mkF at this; dsimp only at this; omega
          exact ⟨h3.2, (hD _).2 h3.1, by rw [← h4], by omega⟩
    · cases hw
  refine ⟨hhas, fun l hl => ((hsp.mem l).1 hl).1, hsp.rise, hsound, fun l0 L' hL => ?_⟩
  subst hL
  have hrise := hsp.rise
  rw [List.pairwise_cons] at hrise
  have h0 := (hsp.mem l0).1 (List.mem_cons_self ..)
  have h0' := (hhas l0 h0.1).1 (List.mem_cons_self ..)
  have hmin : Min B0 n l0 := by
    refine ⟨⟨(hD _).1 h0'.2, h0'.1⟩, fun u hu => ?_⟩
    cases hc : slB u l0
    · rfl
    · have hul : u.length ≤ l0.length := by
        unfold slB at hc
        split at hc
        · omega
        · rw [decide_eq_true_eq] at hc; omega
      have hmem := (hhas u (by omega)).2 ⟨hu.2, (hD _).2 hu.1⟩
      rcases List.mem_cons.1 hmem with e | hm
      · rw [e, slB_irr] at hc; cases hc
      · rw [slB_asym (hrise.1 u hm)] at hc; cases hc
  have hall := hC.all hbn hmin (by omega) 1
  have hfr : (bookOf g).firsts[r]? = some (mkF l0) := by rw [hbook, ← hlen0]; exact hall
  unfold Bk.leastL
  have hhr : hasR (bookOf g) (r : Int) = true := by unfold hasR; rw [Bool.and_eq_true, decide_eq_true_eq, decide_eq_true_eq]; omega
  rw [if_pos hhr, show ((r : Int)).toNat = r from rfl, hfr]
  dsimp only
  rw [if_neg (by unfold mkF; dsimp only; omega)]
  rfl
end Go.Proofs.YtgegjjfjhpokpaaGreatDoor
