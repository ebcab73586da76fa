/- What a node derives, as lists. Plain. -/
import Derived.Test.YtppjmdanckdobaaGreatDoorQV25
import Derived.Test.YtppjmdanckdobaaGreatDoorQV1
namespace Go.Proofs.YtppjmdanckdobaaGreatDoor
mutual
inductive Lg (B : Bk) : Nd → List Int → Prop
  | tok {nm tx : ByteArray} {set : List (Int × Int)} {subs : List Nd} {x : Int} (h : x = (B.tok nm : Int) ∨ x = -2) : Lg B (.mk 6 nm tx set subs) [x]
  | ref {nm tx : ByteArray} {set : List (Int × Int)} {subs : List Nd} {u : List Int} {n : Nd} (h : B.bodies[B.rule nm]? = some n) (hd : Lg B n u) : Lg B (.mk 5 nm tx set subs) u
  | seq {nm tx : ByteArray} {set : List (Int × Int)} {subs : List Nd} {u : List Int} (h : LgL B subs u) : Lg B (.mk 1 nm tx set subs) u
  | alt {nm tx : ByteArray} {set : List (Int × Int)} {subs : List Nd} {u : List Int} {x : Nd} (hx : x ∈ subs) (h : Lg B x u) : Lg B (.mk 0 nm tx set subs) u
  | opt0 {nm tx : ByteArray} {set : List (Int × Int)} {subs : List Nd} : Lg B (.mk 2 nm tx set subs) []
  | opt {nm tx : ByteArray} {set : List (Int × Int)} {x : Nd} {r : List Nd} {u : List Int} (h : Lg B x u) : Lg B (.mk 2 nm tx set (x :: r)) u
  | star0 {nm tx : ByteArray} {set : List (Int × Int)} {subs : List Nd} : Lg B (.mk 3 nm tx set subs) []
  | star {nm tx : ByteArray} {set : List (Int × Int)} {x : Nd} {r : List Nd} {u : List Int} (h : LgP B x u) : Lg B (.mk 3 nm tx set (x :: r)) u
  | plus {nm tx : ByteArray} {set : List (Int × Int)} {x : Nd} {r : List Nd} {u : List Int} (h : LgP B x u) : Lg B (.mk 4 nm tx set (x :: r)) u
  | other {k : Int} {nm tx : ByteArray} {set : List (Int × Int)} {subs : List Nd} (hk : k < 0 ∨ 6 < k) : Lg B (.mk k nm tx set subs) []
inductive LgL (B : Bk) : List Nd → List Int → Prop
  | nil : LgL B [] []
  | cons {x : Nd} {r : List Nd} {u v : List Int} (h : Lg B x u) (hr : LgL B r v) : LgL B (x :: r) (u ++ v)
inductive LgP (B : Bk) : Nd → List Int → Prop
  | one {x : Nd} {u : List Int} (h : Lg B x u) : LgP B x u
  | more {x : Nd} {u v : List Int} (h : LgP B x u) (hr : Lg B x v) : LgP B x (u ++ v)
end
theorem slice_app {w : List Int} {i j k : Nat} (h1 : i ≤ j) (h2 : j ≤ k) : (w.drop i).take (k - i) = (w.drop i).take (j - i) ++ (w.drop j).take (k - j) := by
  have e : w.drop j = (w.drop i).drop (j - i) := by rw [List.drop_drop]; congr 1; omega
  rw [e, show k - i = (j - i) + (k - j) by omega, List.take_add]
theorem slice_nil {w : List Int} {i : Nat} : (w.drop i).take (i - i) = [] := by rw [Nat.sub_self, List.take_zero]
theorem slice_one {w : List Int} {i : Nat} {x : Int} (h : w[i]? = some x) : (w.drop i).take (i + 1 - i) = [x] := by
  obtain ⟨hi, rfl⟩ := List.getElem?_eq_some_iff.1 h
  rw [show i + 1 - i = 1 by omega, List.drop_eq_getElem_cons hi]
  rfl
section
variable {B : Bk} {w : List Int}
mutual
theorem lg_of_der : ∀ {n : Nd} {i j : Nat}, Der B w n i j → Lg B n ((w.drop i).take (j - i))
  | _, _, _, .tok ⟨_, h1, h2⟩ => by rw [slice_one h1]; exact .tok h2
  | _, _, _, .ref h hd => .ref h (lg_of_der hd)
  | _, _, _, .seq h => .seq (lgL_of_der h)
  | _, _, _, .alt hx h => .alt hx (lg_of_der h)
  | _, _, _, .opt0 => by rw [slice_nil]; exact .opt0
  | _, _, _, .opt h => .opt (lg_of_der h)
  | _, _, _, .star0 => by rw [slice_nil]; exact .star0
  | _, _, _, .star h => .star (lgP_of_der h)
  | _, _, _, .plus h => .plus (lgP_of_der h)
  | _, _, _, .other hk => by rw [slice_nil]; exact .other hk
theorem lgL_of_der : ∀ {l : List Nd} {i j : Nat}, DerL B w l i j → LgL B l ((w.drop i).take (j - i))
  | _, _, _, .nil => by rw [slice_nil]; exact .nil
  | _, _, _, .cons h hr => by rw [slice_app h.le.1 hr.le.1]; exact .cons (lg_of_der h) (lgL_of_der hr)
theorem lgP_of_der : ∀ {n : Nd} {i j : Nat}, DerP B w n i j → LgP B n ((w.drop i).take (j - i))
  | _, _, _, .one h => .one (lg_of_der h)
  | _, _, _, .more h hr => by rw [slice_app h.le.1 hr.le.1]; exact .more (lgP_of_der h) (lg_of_der hr)
end
mutual
theorem der_of_lg : ∀ {n : Nd} {u : List Int}, Lg B n u → ∀ p q : List Int, Der B (p ++ u ++ q) n p.length (p.length + u.length)
  | _, _, .tok h => fun p q => .tok ⟨_, by simp, h⟩
  | _, _, .ref h hd => fun p q => .ref h (der_of_lg hd p q)
  | _, _, .seq h => fun p q => .seq (derL_of_lg h p q)
  | _, _, .alt hx h => fun p q => .alt hx (der_of_lg h p q)
  | _, _, .opt0 => fun _ _ => .opt0
  | _, _, .opt h => fun p q => .opt (der_of_lg h p q)
  | _, _, .star0 => fun _ _ => .star0
  | _, _, .star h => fun p q => .star (derP_of_lg h p q)
  | _, _, .plus h => fun p q => .plus (derP_of_lg h p q)
  | _, _, .other hk => fun _ _ => .other hk
theorem derL_of_lg : ∀ {l : List Nd} {u : List Int}, LgL B l u → ∀ p q : List Int, DerL B (p ++ u ++ q) l p.length (p.length + u.length)
  | _, _, .nil => fun _ _ => .nil
  | _, _, .cons (u := u) (v := v) h hr => fun p q => by
    have h1 := der_of_lg h p (v ++ q)
    have h2 := derL_of_lg hr (p ++ u) q
    rw [List.length_append] at h2
    rw [List.length_append, ← Nat.add_assoc]
    have e1 : p ++ u ++ (v ++ q) = p ++ (u ++ v) ++ q := by simp
    have e2 : p ++ u ++ v ++ q = p ++ (u ++ v) ++ q := by simp
    rw [e1] at h1
    rw [e2] at h2
    exact .cons h1 h2
theorem derP_of_lg : ∀ {n : Nd} {u : List Int}, LgP B n u → ∀ p q : List Int, DerP B (p ++ u ++ q) n p.length (p.length + u.length)
  | _, _, .one h => fun p q => .one (der_of_lg h p q)
  | _, _, .more (u := u) (v := v) h hr => fun p q => by
    have h1 := derP_of_lg h p (v ++ q)
    have h2 := der_of_lg hr (p ++ u) q
    rw [List.length_append] at h2
    rw [List.length_append, ← Nat.add_assoc]
    have e1 : p ++ u ++ (v ++ q) = p ++ (u ++ v) ++ q := by simp
    have e2 : p ++ u ++ v ++ q = p ++ (u ++ v) ++ q := by simp
    rw [e1] at h1
    rw [e2] at h2
    exact .more h1 h2
end
end
def Bk.Rg (B : Bk) (r : Nat) (u : List Int) : Prop := ∃ n, B.bodies[r]? = some n ∧ Lg B n u
theorem d_rg {B : Bk} {r : Nat} {w : List Int} : B.D r w ↔ B.Rg r w := by
  unfold Bk.D Bk.Rg
  constructor
  · rintro ⟨n, hn, h⟩
    have := lg_of_der h
    rw [List.drop_zero, Nat.sub_zero, List.take_length] at this
    exact ⟨n, hn, this⟩
  · rintro ⟨n, hn, h⟩
    have := der_of_lg h [] []
    rw [List.nil_append, List.append_nil, List.length_nil, Nat.zero_add] at this
    exact ⟨n, hn, this⟩
def Wld : List Int → List Int → Prop
  | [], [] => True
  | a :: u, b :: v => (b = a ∨ b = -2) ∧ Wld u v
  | _, _ => False
theorem Wld.split : ∀ {u v w : List Int}, Wld (u ++ v) w → ∃ a b, w = a ++ b ∧ Wld u a ∧ Wld v b
  | [], _, w, h => ⟨[], w, rfl, trivial, h⟩
  | _ :: _, _, [], h => by cases h
  | _ :: _, _, y :: _, h => by
    obtain ⟨a, b, rfl, h1, h2⟩ := Wld.split h.2
    exact ⟨y :: a, b, rfl, ⟨h.1, h1⟩, h2⟩
theorem Wld.app : ∀ {u v a b : List Int}, Wld u a → Wld v b → Wld (u ++ v) (a ++ b)
  | [], _, [], _, _, h => h
  | _ :: _, _, _ :: _, _, h1, h2 => ⟨h1.1, Wld.app h1.2 h2⟩
theorem Wld.nil {w : List Int} (h : Wld [] w) : w = [] := by
  cases w with
  | nil => rfl
  | cons _ _ => cases h
section
variable {B : Bk}
mutual
theorem lg_wild : ∀ {n : Nd} {u : List Int}, Lg B n u → ∀ w, Wld u w → Lg B n w
  | _, _, .tok (x := x) h => fun w hw => by
    match w, hw with
    | [y], hw =>
      refine .tok ?_
      rcases hw.1 with rfl | rfl
      · exact h
      · exact .inr rfl
  | _, _, .ref h hd => fun w hw => .ref h (lg_wild hd w hw)
  | _, _, .seq h => fun w hw => .seq (lgL_wild h w hw)
  | _, _, .alt hx h => fun w hw => .alt hx (lg_wild h w hw)
  | _, _, .opt0 => fun w hw => by rw [hw.nil]; exact .opt0
  | _, _, .opt h => fun w hw => .opt (lg_wild h w hw)
  | _, _, .star0 => fun w hw => by rw [hw.nil]; exact .star0
  | _, _, .star h => fun w hw => .star (lgP_wild h w hw)
  | _, _, .plus h => fun w hw => .plus (lgP_wild h w hw)
  | _, _, .other hk => fun w hw => by rw [hw.nil]; exact .other hk
theorem lgL_wild : ∀ {l : List Nd} {u : List Int}, LgL B l u → ∀ w, Wld u w → LgL B l w
  | _, _, .nil => fun w hw => by rw [hw.nil]; exact .nil
  | _, _, .cons h hr => fun w hw => by
    obtain ⟨a, b, rfl, h1, h2⟩ := Wld.split hw
    exact .cons (lg_wild h a h1) (lgL_wild hr b h2)
theorem lgP_wild : ∀ {n : Nd} {u : List Int}, LgP B n u → ∀ w, Wld u w → LgP B n w
  | _, _, .one h => fun w hw => .one (lg_wild h w hw)
  | _, _, .more h hr => fun w hw => by
    obtain ⟨a, b, rfl, h1, h2⟩ := Wld.split hw
    exact .more (lgP_wild h a h1) (lg_wild hr b h2)
end
def TokIn (B : Bk) (n : Nd) : Prop := ∀ m ∈ n.all, m.kind = 6 → (B.tok m.name : Int) ∈ B.kinds
theorem TokIn.sub {k : Int} {nm tx : ByteArray} {set : List (Int × Int)} {subs : List Nd} (h : TokIn B (.mk k nm tx set subs)) {x : Nd} (hx : x ∈ subs) : TokIn B x := fun m hm => h m (by rw [Nd.all]; exact List.mem_cons_of_mem _ (mem_allL hx hm))
mutual
theorem lg_toks (hB : ∀ n ∈ B.bodies, TokIn B n) : ∀ {n : Nd} {u : List Int}, Lg B n u → TokIn B n → ∀ x ∈ u, x = -2 ∨ x ∈ B.kinds
  | .mk _ nm tx set subs, _, .tok h, ht => fun x hx => by
    rw [List.mem_singleton.1 hx]
    rcases h with rfl | rfl
    · exact .inr (ht _ (all_self _) rfl)
    · exact .inl rfl
  | _, _, .ref h hd, _ => lg_toks hB hd (hB _ (List.mem_of_getElem? h))
  | .mk _ nm tx set subs, _, .seq h, ht => lgL_toks hB h fun _ hx => ht.sub hx
  | .mk _ nm tx set subs, _, .alt hx h, ht => lg_toks hB h (ht.sub hx)
  | _, _, .opt0, _ => fun x hx => by cases hx
  | .mk _ nm tx set _, _, .opt h, ht => lg_toks hB h (ht.sub (List.mem_cons_self ..))
  | _, _, .star0, _ => fun x hx => by cases hx
  | .mk _ nm tx set _, _, .star h, ht => lgP_toks hB h (ht.sub (List.mem_cons_self ..))
  | .mk _ nm tx set _, _, .plus h, ht => lgP_toks hB h (ht.sub (List.mem_cons_self ..))
  | _, _, .other _, _ => fun x hx => by cases hx
theorem lgL_toks (hB : ∀ n ∈ B.bodies, TokIn B n) : ∀ {l : List Nd} {u : List Int}, LgL B l u → (∀ n ∈ l, TokIn B n) → ∀ x ∈ u, x = -2 ∨ x ∈ B.kinds
  | _, _, .nil, _ => fun x hx => by cases hx
  | _, _, .cons h hr, ht => fun x hx => by
    rcases List.mem_append.1 hx with hx | hx
    · exact lg_toks hB h (ht _ (List.mem_cons_self ..)) x hx
    · exact lgL_toks hB hr (fun n hn => ht n (List.mem_cons_of_mem _ hn)) x hx
theorem lgP_toks (hB : ∀ n ∈ B.bodies, TokIn B n) : ∀ {n : Nd} {u : List Int}, LgP B n u → TokIn B n → ∀ x ∈ u, x = -2 ∨ x ∈ B.kinds
  | _, _, .one h, ht => lg_toks hB h ht
  | _, _, .more h hr, ht => fun x hx => by
    rcases List.mem_append.1 hx with hx | hx
    · exact lgP_toks hB h ht x hx
    · exact lg_toks hB hr ht x hx
end
end
end Go.Proofs.YtppjmdanckdobaaGreatDoor

/- Lists in order, plain. -/
namespace Go.Proofs.YtppjmdanckdobaaGreatDoor
def lexB : List Int → List Int → Bool
  | a :: l, b :: m => if a = b then lexB l m else decide (a < b)
  | _, _ => false
def slB (a b : List Int) : Bool := if a.length = b.length then lexB a b else decide (a.length < b.length)
theorem lexB_pre {t : Int} {u v : List Int} : lexB (t :: u) (t :: v) = lexB u v := by rw [lexB, if_pos rfl]
end Go.Proofs.YtppjmdanckdobaaGreatDoor
