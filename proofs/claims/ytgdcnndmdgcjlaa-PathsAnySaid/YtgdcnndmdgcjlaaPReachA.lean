/- What a search does to its memory, step by step. -/
import Derived.Test.YtgdcnndmdgcjlaaPHas
import Derived.Deep.RegionLaw
namespace Go.Proofs.Ytgdcnndmdgcjlaa
open Go.RowKit

section
variable {E : Env} {S : St} {w w' : World}
theorem Rep.srch (h : Rep E S w) : Owns w (S.loc .srch) (S.srchL E) 93 := h.obj .srch trivial
theorem Rep.walk (h : Rep E S w) {κ : Key} (hk : S.has κ) : Owns w (S.loc (.walk κ)) (S.walkL E κ) 75 := h.obj (.walk κ) hk
theorem Rep.call (h : Rep E S w) {c : Nat × Nat} (hc : c ∈ S.calls) : Owns w (S.loc (.call c)) (S.callL c) 147 := h.obj (.call c) hc
theorem Rep.seenM (h : Rep E S w) {κ : Key} (hk : S.has κ) : w.heap[S.loc (.seen κ)]? = some (mapObj (S.seenL κ)) := h.obj (.seen κ) hk
theorem Rep.endsM (h : Rep E S w) {c : Nat × Nat} (hc : c ∈ S.calls) : w.heap[S.loc (.ends c)]? = some (mapObj (S.endsL c)) := h.obj (.ends c) hc
theorem Rep.waitsM (h : Rep E S w) {c : Nat × Nat} (hc : c ∈ S.calls) : w.heap[S.loc (.waits c)]? = some (mapObj (S.waitsL c)) := h.obj (.waits c) hc
theorem Rep.callsM (h : Rep E S w) : w.heap[S.loc .cmap]? = some (mapObj S.callsL) := h.obj .cmap trivial

/-- k.seen[p] = struct{}{} -/
theorem upd_seen (h : Rep E S w) {κ : Key} (hk : S.has κ) {p : Pl} (hn : p ∉ S.seen κ) :
    (Instr.mapUpdate 72 (.map (some (S.loc (.seen κ)))) (plV p) unitV).run Try.prog w = .ok () (putObj w (S.loc (.seen κ)) (mapObj (((S.seen κ) ++ [p]).map fun q => (plV q, unitV)))) := by
  have := run_update_new (x := unitV) (P := Try.prog) (t := 72) (kt := 71) (e := 122) (by kernel_rfl) (h.seenM hk) (key_at w p (S.seen κ) unitV) (fun x hx => by
    obtain ⟨q, hq, rfl⟩ := List.mem_map.1 hx
    exact isV_false.2 fun e => hn (by rw [← plV_inj e]; exact hq))
  rw [this]
  unfold St.seenL
  rw [List.map_append]
  rfl
theorem upd_ends (h : Rep E S w) {c : Nat × Nat} (hc : c ∈ S.calls) {i : Nat} (hn : i ∉ S.ends c) :
    (Instr.mapUpdate 144 (.map (some (S.loc (.ends c)))) (.int .i64 i) unitV).run Try.prog w = .ok () (putObj w (S.loc (.ends c)) (mapObj (((S.ends c) ++ [i]).map fun (q : Nat) => (.int .i64 q, unitV)))) := by
  have := run_update_new (x := unitV) (P := Try.prog) (t := 144) (kt := 3) (e := 122) (by kernel_rfl) (h.endsM hc) (key_int w i (S.ends c)) (fun x hx => by
    obtain ⟨q, hq, rfl⟩ := List.mem_map.1 hx
    refine isV_false.2 fun e => hn ?_
    simp at e
    rw [show i = q by omega]; exact hq)
  rw [this]
  unfold St.endsL
  rw [List.map_append]
  rfl
end
theorem follows : Try.prog.follows .mixedOrders = true := by kernel_rfl
theorem info_step : (Try.prog.info? 120).map (fun i => (i.zero, i.size, i.bytes)) = some (some (.agg #[.pointer none, .int .i64 0, .int .i64 0]), 3, 24) := by kernel_rfl

section
variable {E : Env} {S : St} {w w' : World}
def St.seenAnd (S : St) (κ : Key) (p : Pl) : St := { S with seen := fun k => if k = κ then S.seen k ++ [p] else S.seen k }
def St.withAll (S : St) (b : Bool) : St := { S with all := b }
def St.todoAnd (S : St) (x : Key × Pl) (v : Value) : St := { S with todo := S.todo ++ [x], tv := v }
def St.endsAnd (S : St) (c : Nat × Nat) (i : Nat) : St := { S with ends := fun d => if d = c then S.ends d ++ [i] else S.ends d }

theorem has_same {S S' : St} (h : S'.calls = S.calls) (κ : Key) : S'.has κ ↔ S.has κ := by
  cases κ with
  | none => exact Iff.rfl
  | some c => unfold St.has; rw [h]
theorem ex_same {S S' : St} (h : S'.calls = S.calls) (r : Role) : S'.ex r ↔ S.ex r := by
  cases r <;> first | exact Iff.rfl | exact has_same h _ | (unfold St.ex; rw [h])
theorem put_seen (h : Rep E S w) {κ : Key} (hk : S.has κ) (p : Pl) :
    Rep E (S.seenAnd κ p) (putObj w (S.loc (.seen κ)) (mapObj (((S.seen κ) ++ [p]).map fun q => (plV q, unitV)))) ∧ Frm S (S.seenAnd κ p) w (putObj w (S.loc (.seen κ)) (mapObj (((S.seen κ) ++ [p]).map fun q => (plV q, unitV)))) := by
  have e : (S.seenAnd κ p).obj E (.seen κ) = mapObj (((S.seen κ) ++ [p]).map fun q => (plV q, unitV)) := by
    unfold St.obj St.seenL St.seenAnd
    simp only [if_true]
  rw [← e]
  refine h.put (r := .seen κ) hk rfl (ex_same rfl) rfl rfl fun r' hr' => ?_
  cases r' with
  | seen k =>
    have : k ≠ κ := fun e => hr' (by rw [e])
    unfold St.obj St.seenL St.seenAnd
    simp only [if_neg this]
  | walk κ => rfl
  | _ => rfl
theorem put_ends (h : Rep E S w) {c : Nat × Nat} (hc : c ∈ S.calls) (i : Nat) :
    Rep E (S.endsAnd c i) (putObj w (S.loc (.ends c)) (mapObj (((S.ends c) ++ [i]).map fun (q : Nat) => (.int .i64 q, unitV)))) ∧ Frm S (S.endsAnd c i) w (putObj w (S.loc (.ends c)) (mapObj (((S.ends c) ++ [i]).map fun (q : Nat) => (.int .i64 q, unitV)))) := by
  have e : (S.endsAnd c i).obj E (.ends c) = mapObj (((S.ends c) ++ [i]).map fun (q : Nat) => (.int .i64 q, unitV)) := by
    unfold St.obj St.endsL St.endsAnd
    simp only [if_true]
  rw [← e]
  refine h.put (r := .ends c) hc rfl (ex_same rfl) rfl rfl fun r' hr' => ?_
  cases r' with
  | ends k =>
    have : k ≠ c := fun e => hr' (by rw [e])
    unfold St.obj St.endsL St.endsAnd
    simp only [if_neg this]
  | walk κ => rfl
  | _ => rfl
theorem put_ends_at (h : Rep E S w) {c : Nat × Nat} (hc : c ∈ S.calls) (i : Nat) {w1 : World} (he : putObj w (S.loc (.ends c)) (mapObj (((S.ends c) ++ [i]).map fun (q : Nat) => (.int .i64 q, unitV))) = w1) : Rep E (S.endsAnd c i) w1 ∧ Frm S (S.endsAnd c i) w w1 := by
  subst he
  exact put_ends h hc i
theorem put_all (h : Rep E S w) (b : Bool) : Rep E (S.withAll b) (w.setCell ⟨S.loc .srch, 8, none⟩ (.bool b)) ∧ Frm S (S.withAll b) w (w.setCell ⟨S.loc .srch, 8, none⟩ (.bool b)) := by
  rw [setCell_put h.srch]
  have e : (S.withAll b).obj E .srch = .cells ((S.srchL E).set 8 (.bool b)).toArray 93 (0, 0) := rfl
  rw [← e]
  refine h.put (r := .srch) trivial rfl (ex_same rfl) rfl rfl fun r' hr' => ?_
  cases r' with
  | srch => exact absurd rfl hr'
  | walk κ => rfl
  | _ => rfl
/-- a step more: the row has grown, and the search knows it -/
theorem put_todo (h : Rep E S w) (x : Key × Pl) {v : Value} {w1 : World} (hgrow : w.grownBy w1 S.tv.ownBlock) (hown : looseRow w1 E.lim 120 3 v (S.todo.length + 1) (S.todoCells ++ [ptrV (S.loc (.walk x.1)), .int .i64 x.2.1, .int .i64 x.2.2]))
    {g : Nat} (hg : v.ownBlock = some g) (hat : S.tv.ownBlock = some g ∨ w.heap.size ≤ g) :
    Rep E (S.todoAnd x v) (w1.setCell ⟨S.loc .srch, 7, none⟩ v) ∧ Frm S (S.todoAnd x v) w (w1.setCell ⟨S.loc .srch, 7, none⟩ v) := by
  have hb1 : But (fun b => S.tv.ownBlock = some b) w w1 := ⟨hgrow.os, hgrow.tape, hgrow.output, hgrow.size, fun k hk hn => hgrow.block k hk fun e => hn e.symm⟩
  have hobj : ∀ r, S.ex r → w1.heap[S.loc r]? = some (S.obj E r) := fun r hr => by rw [hb1.block _ (h.lt hr) (h.far hr)]; exact h.obj r hr
  have hsrch : Owns w1 (S.loc .srch) (S.srchL E) 93 := hobj .srch trivial
  have hgne : ∀ r, S.ex r → S.loc r ≠ g := by
    intro r hr e
    obtain ⟨_, cs, h2⟩ := row_own hown hg
    have h3 := hobj r hr
    rw [e, h2] at h3
    exact obj_step S E r cs (0, 0) (Option.some.inj h3).symm
  rw [setCell_put hsrch]
  have hsz : S.loc .srch < w1.heap.size := hsrch.lt
  refine ⟨⟨fun r hr => ?_, h.lo, h.inj, ?_⟩, ?_, fun b hb => ?_⟩
  · have hr' : S.ex r := (ex_same (S := S) (S' := S.todoAnd x v) rfl r).1 hr
    by_cases e : r = .srch
    · subst e
      exact putObj_same hsz _
    · show (putObj w1 _ _).heap[S.loc r]? = _
      rw [putObj_other (fun e2 => e (h.inj _ _ hr' trivial e2)), hobj r hr']
      cases r with
      | srch => exact absurd rfl e
      | walk κ => rfl
      | _ => rfl
  · have e1 : (S.todoAnd x v).todoCells = S.todoCells ++ [ptrV (S.loc (.walk x.1)), .int .i64 x.2.1, .int .i64 x.2.2] := by
      unfold St.todoCells St.todoAnd
      simp [List.flatMap_append]
    rw [e1, show (S.todoAnd x v).todo.length = S.todo.length + 1 by simp [St.todoAnd]]
    exact row_but (F := fun b => b = S.loc .srch) hown (But.put rfl) fun g' hg' e => by
      have h2 : v.ownBlock = some g' := hg'
      rw [hg] at h2
      cases h2
      exact hgne .srch trivial e.symm
  · exact (show But S.mine w w1 from ⟨hb1.os, hb1.tape, hb1.output, hb1.size, fun k hk hn => hb1.block k hk fun e => hn (.inr e)⟩).trans (But.put (F := fun b => b = S.loc .srch) rfl) fun i _ hi => .inl ⟨.srch, trivial, hi.symm⟩
  · rcases hb with ⟨r, hr, rfl⟩ | hb
    · exact .inl (.inl ⟨r, (ex_same (S := S) (S' := S.todoAnd x v) rfl r).1 hr, rfl⟩)
    · have : g = b := by
        have h2 : v.ownBlock = some b := hb
        rw [hg] at h2
        exact Option.some.inj h2
      subst this
      rcases hat with h1 | h1
      · exact .inl (.inr h1)
      · exact .inr h1
theorem put_all_at (h : Rep E S w) {b bv : Bool} {w1 : World} (he : w.setCell ⟨S.loc .srch, 8, none⟩ (.bool b) = w1) (hb : b = bv) : Rep E (S.withAll bv) w1 ∧ Frm S (S.withAll bv) w w1 := by
  subst he; subst hb
  exact put_all h b
theorem put_todo_at (h : Rep E S w) (x : Key × Pl) {v : Value} {w1 w2 : World} (hgrow : w.grownBy w1 S.tv.ownBlock) (hown : looseRow w1 E.lim 120 3 v (S.todo.length + 1) (S.todoCells ++ [ptrV (S.loc (.walk x.1)), .int .i64 x.2.1, .int .i64 x.2.2]))
    {g : Nat} (hg : v.ownBlock = some g) (hat : S.tv.ownBlock = some g ∨ g = w.heap.size) (he : w1.setCell ⟨S.loc .srch, 7, none⟩ v = w2) :
    Rep E (S.todoAnd x v) w2 ∧ Frm S (S.todoAnd x v) w w2 := by
  subst he
  exact put_todo h x hgrow hown hg (hat.imp id (fun e => Nat.le_of_eq e.symm))
theorem far_srch (h : Rep E S w) {w1 : World} (hgrow : w.grownBy w1 S.tv.ownBlock) : Owns w1 (S.loc .srch) (S.srchL E) 93 := by
  have h1 := h.srch
  unfold Owns at *
  rw [hgrow.block _ (h.lt (r := .srch) trivial) (fun e => h.far (r := .srch) trivial e.symm)]
  exact h1
theorem Inv.todo_le (h : Inv E S) : S.todo.length ≤ E.univ.length := by
  refine List.Nodup.length_le_of_subset h.todoN fun x hx => ?_
  have h1 := h.todoS x hx
  exact h.univ (h.seenH _ _ h1) (h.seenR _ _ h1)
end

theorem padd_off (b o j : Nat) : (⟨b, o, none⟩ : Addr).add j = ⟨b, o + j, none⟩ := by
  unfold Addr.add
  split
  · rename_i h; rw [h]; rfl
  · rfl
theorem pnews {w : World} {b T : Nat} {cs : List Value} (h : Owns w b cs T) : ∀ j u, cs[j]? = some u → w.cell? ((⟨b, 0, none⟩ : Addr).add j) = some u := by
  intro j u hj
  rw [padd_off, Nat.zero_add]
  exact h.cell_at hj
theorem step_one (b : Nat) (s i : Int) : ∀ u ∈ [ptrV b, Value.int .i64 s, .int .i64 i], u.oneCell' = true := by
  intro u hu
  simp only [List.mem_cons, List.not_mem_nil, or_false] at hu
  rcases hu with rfl | rfl | rfl <;> rfl
section
variable {E : Env} {S : St}
theorem see_eq {κ : Key} {p : Pl} {v : Value} {bv : Bool} (hb : (S.all || (p.2 == E.w.length)) = bv) (hno : ∀ c, ¬(κ = some c ∧ p.1 = E.N.stop c.1)) : ((S.seenAnd κ p).withAll bv).todoAnd (κ, p) v = S.see E κ p v := by
  subst hb
  unfold St.see St.todoAnd St.withAll St.seenAnd
  congr 1
  funext c
  rw [if_neg (hno c)]
theorem see_eq2 {c : Nat × Nat} {p : Pl} {v : Value} {bv : Bool} (hb : (S.all || (p.2 == E.w.length)) = bv) (hst : p.1 = E.N.stop c.1) : (((S.seenAnd (some c) p).withAll bv).todoAnd (some c, p) v).endsAnd c p.2 = S.see E (some c) p v := by
  subst hb
  unfold St.see St.endsAnd St.todoAnd St.withAll St.seenAnd
  congr 1
  funext d
  by_cases h : d = c
  · subst h; simp [hst]
  · have : ¬(some c = some d ∧ p.1 = E.N.stop d.1) := fun e => h (by have := e.1; simp at this; exact this.symm)
    simp only [if_neg h, if_neg this]
theorem see_done {κ : Key} {p : Pl} {v : Value} (hI : Inv E S) (hk : S.has κ) (hn : p ∉ S.seen κ) (hr : p.1 < E.N.states.length ∧ p.2 ≤ E.w.length) (hL : Lv E.N E.w E.p0 E.over κ p) (hno : ∀ c, ¬(κ = some c ∧ p.1 = E.N.stop c.1)) : Reached E S (S.see E κ p v) κ p := by
  obtain ⟨h1, h2⟩ := hI.see hk hn hr hL v
  exact ⟨h1, h2, (see_seen S E κ p v κ p).2 (.inr ⟨rfl, rfl⟩), rfl, fun _ => rfl, fun c i x ho => (see_opn ho).resolve_right fun ⟨e1, e2, _⟩ => hno c ⟨e1, e2⟩⟩
end
end Go.Proofs.Ytgdcnndmdgcjlaa
