/- How far the count of steps goes down; what is asked of nodes. Plain. -/
import Derived.Test.YtkinlcichclnkaaDoorQO6
import Derived.Test.YtkinlcichclnkaaDoorQO13
namespace Go.Proofs.YtkinlcichclnkaaDoor

/-- what is asked of a node: small, and what it names is there -/
structure NdFit (g : Gr) (n : Nd) : Prop where
  set : ∀ m ∈ n.all, m.set.length ≤ 3000
  subs : ∀ m ∈ n.all, m.subs.length ≤ 3000
  text : ∀ m ∈ n.all, m.text.size ≤ 3000
  tok : ∀ m ∈ n.all, m.kind = 6 → 0 ≤ g.find m.name
theorem allL_mem {m : Nd} : ∀ {l : List Nd}, m ∈ Nd.allL l ↔ ∃ n ∈ l, m ∈ n.all
  | [] => by rw [Nd.allL]; simp
  | x :: r => by
    rw [Nd.allL, List.mem_append, allL_mem (l := r)]
    simp
theorem NdFit.sub {g : Gr} {k : Int} {nm tx : ByteArray} {set : List (Int × Int)} {subs : List Nd} (h : NdFit g (.mk k nm tx set subs)) {s : Nd} (hs : s ∈ subs) : NdFit g s := by
  have hm : ∀ m ∈ s.all, m ∈ (Nd.mk k nm tx set subs).all := fun m hm => by
    rw [Nd.all]
    exact List.mem_cons_of_mem _ (allL_mem.2 ⟨s, hs, hm⟩)
  exact ⟨fun m h1 => h.set m (hm m h1), fun m h1 => h.subs m (hm m h1), fun m h1 => h.text m (hm m h1), fun m h1 => h.tok m (hm m h1)⟩
/-- of all rules -/
structure GrFit (g : Gr) : Prop where
  len : g.rules.length ≤ 1000
  rule : ∀ i (h : i < g.rules.length), NdFit g g.rules[i].body
theorem NdFit.none (g : Gr) : NdFit g (.mk 0 ⟨#[]⟩ ⟨#[]⟩ [] []) := by
  have h : ∀ m ∈ (Nd.mk 0 ⟨#[]⟩ ⟨#[]⟩ [] []).all, m = .mk 0 ⟨#[]⟩ ⟨#[]⟩ [] [] := fun m hm => by
    rw [Nd.all, Nd.allL] at hm
    simpa using hm
  exact ⟨fun m hm => by rw [h m hm]; decide, fun m hm => by rw [h m hm]; decide, fun m hm => by rw [h m hm]; decide, fun m hm e => by rw [h m hm] at e; cases e⟩
theorem ixOf_find {α : Type} (l : List α) (q : α → Bool) : (∀ j (h : j < l.length), ixOf l q = (j : Int) → l.find? q = some l[j]) := by
  intro j h e
  rcases ixOf_cases l q with ⟨h1, _⟩ | ⟨i, hi, h1, h2, h3⟩
  · omega
  · obtain rfl : i = j := by omega
    rw [List.find?_eq_some_iff_getElem]
    exact ⟨h2, i, hi, rfl, fun k hk => by rw [h3 k (by omega) hk]; rfl⟩
theorem Gr.lk_at {g : Gr} {nm : ByteArray} {j : Nat} (h : j < g.rules.length) (e : g.find nm = (j : Int)) : g.lk nm = g.rules[j].body := by
  unfold Gr.lk
  rw [ixOf_find g.rules (fun r => sameB r.name nm) j h e]
theorem Gr.find_lt {g : Gr} {nm : ByteArray} (h : 0 ≤ g.find nm) : ∃ j, j < g.rules.length ∧ g.find nm = (j : Int) := by
  unfold Gr.find at h ⊢
  rcases ixOf_cases g.rules (fun r => sameB r.name nm) with ⟨h1, _⟩ | ⟨i, hi, h1, _⟩
  · omega
  · exact ⟨i, hi, h1⟩
theorem GrFit.lk {g : Gr} (h : GrFit g) (nm : ByteArray) : NdFit g (g.lk nm) := by
  unfold Gr.lk
  cases e : g.rules.find? (fun r => sameB r.name nm) with
  | none => exact NdFit.none g
  | some r =>
    obtain ⟨i, hi, rfl⟩ := List.getElem_of_mem (List.mem_of_find?_eq_some e)
    exact h.rule i hi

/-- the count of steps, with what may come yet -/
def NB.hgt (b : NB) : Int := b.steps - 3000 * max b.steps 0
def Low1 (b c : NB) : Prop := b.hgt - 1 ≤ c.hgt
theorem hgt_place (kind : Int) (set : List (Int × Int)) (b : NB) : (b.place kind set).2.hgt = b.hgt := by
  unfold NB.place NB.hgt
  split <;> rfl
theorem hgt_follow (a c : Nat) (b : NB) : (b.follow a c).hgt = b.hgt := rfl
theorem altsN_low {f : Nd → NB → NPart × NB} : ∀ (l : List Nd) (_ : ∀ n ∈ l, ∀ b, Low1 b (f n b).2) (x : NPart) (b : NB), b.hgt - (l.length : Int) ≤ (altsN f l x b).2.hgt
  | [], _, x, b => by unfold altsN; simp
  | s :: r, hf, x, b => by
    have h1 := hf s (List.mem_cons_self ..) b
    have h2 := altsN_low r (fun n hn => hf n (List.mem_cons_of_mem _ hn)) (eitherN x (f s b).1) (f s b).2
    unfold altsN
    unfold Low1 at h1
    simp only [List.length_cons]
    omega
theorem seqN_low {f : Nd → NB → NPart × NB} : ∀ (l : List Nd) (_ : ∀ n ∈ l, ∀ b, Low1 b (f n b).2) (x : NPart) (b : NB), b.hgt - (l.length : Int) ≤ (seqN f l x b).2.hgt
  | [], _, x, b => by unfold seqN; simp
  | s :: r, hf, x, b => by
    have h1 := hf s (List.mem_cons_self ..) b
    have h2 := seqN_low r (fun n hn => hf n (List.mem_cons_of_mem _ hn)) (joinP x (f s b).1) ((f s b).2.follow x.last (f s b).1.first)
    rw [hgt_follow] at h2
    unfold seqN
    unfold Low1 at h1
    simp only [List.length_cons]
    omega
theorem litN_low (kind : Int) : ∀ (l : List Int) (x : NPart) (b : NB), (litN kind l x b).2.hgt = b.hgt
  | [], x, b => rfl
  | r :: l, x, b => by
    unfold litN
    rw [litN_low kind l, hgt_follow, hgt_place]
theorem subN_low {f : Nd → NB → NPart × NB} (l : List Nd) (hf : ∀ n ∈ l, ∀ b, Low1 b (f n b).2) (b : NB) : Low1 b (subN f l b).2 := by
  cases l with
  | nil => unfold subN Low1; dsimp only; omega
  | cons s r => exact hf s (List.mem_cons_self ..) b
theorem hgt_dec (b : NB) : b.hgt - 1 ≤ NB.hgt ⟨b.out, b.steps - 1, b.full⟩ := by
  unfold NB.hgt
  dsimp only
  omega
theorem hgt_open {b : NB} (h : ¬ b.steps - 1 < 0) : NB.hgt ⟨b.out, b.steps - 1, b.full⟩ = b.hgt + 2999 := by
  unfold NB.hgt
  dsimp only
  omega
theorem nodeN_low {g : Gr} (hg : GrFit g) (kind : Int) : ∀ (k : Nat) (n : Nd), NdFit g n → ∀ b, Low1 b (nodeN g.lk kind k n b).2
  | 0, n, hn, b => by unfold nodeN; exact hgt_dec b
  | k + 1, .mk kd nm tx set subs, hn, b => by
    have hl : subs.length ≤ 3000 := hn.subs _ (all_self _)
    have hf : ∀ n ∈ subs, ∀ b, Low1 b (nodeN g.lk kind k n b).2 := fun n h => nodeN_low hg kind k n (hn.sub h)
    unfold nodeN
    split
    · exact hgt_dec b
    · rename_i hc
      rw [Bool.or_eq_true, decide_eq_true_eq, not_or] at hc
      have ho := hgt_open hc.1
      have hs := subN_low subs hf ⟨b.out, b.steps - 1, b.full⟩
      unfold Low1 at hs ⊢
      split
      · have := altsN_low subs hf ⟨0, 0, false⟩ ⟨b.out, b.steps - 1, b.full⟩
        omega
      split
      · have := seqN_low subs hf ⟨0, 0, true⟩ ⟨b.out, b.steps - 1, b.full⟩
        omega
      split
      · rw [litN_low]; omega
      split
      · rw [hgt_place]; omega
      split
      · have := nodeN_low hg kind k (g.lk nm) (hg.lk nm) ⟨b.out, b.steps - 1, b.full⟩
        unfold Low1 at this
        omega
      split
      · dsimp only; omega
      split
      · dsimp only; unfold againN; dsimp only; rw [hgt_follow]; omega
      split
      · unfold againN; dsimp only; rw [hgt_follow]; omega
      · dsimp only; omega
end Go.Proofs.YtkinlcichclnkaaDoor
