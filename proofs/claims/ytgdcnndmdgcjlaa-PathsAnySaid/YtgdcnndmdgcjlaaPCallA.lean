/- paths.call: a call more in memory, somebody more who waits; what the rounds over a call's ends keep. -/
import Derived.Test.YtgdcnndmdgcjlaaPLoop
namespace Go.Proofs.Ytgdcnndmdgcjlaa
open Go.RowKit

section
variable {E : Env} {S S' S3 T T' : St} {w w' : World} {c : Nat × Nat}

theorem alloc_at (w : World) (o : Obj) : (w.alloc o).heap[w.heap.size]? = some o := by
  show (w.heap.push o)[w.heap.size]? = _
  simp
theorem alloc_size (w : World) (o : Obj) : (w.alloc o).heap.size = w.heap.size + 1 := by simp
/-- two maps, and the call that holds them -/
theorem three_new (w : World) : Grew w (((w.alloc (.map #[] 0)).alloc (.map #[] 0)).alloc (.cells #[.map (some w.heap.size), .map (some (w.heap.size + 1))] 147)) ∧
    (((w.alloc (.map #[] 0)).alloc (.map #[] 0)).alloc (.cells #[.map (some w.heap.size), .map (some (w.heap.size + 1))] 147)).heap[w.heap.size]? = some (mapObj []) ∧
    (((w.alloc (.map #[] 0)).alloc (.map #[] 0)).alloc (.cells #[.map (some w.heap.size), .map (some (w.heap.size + 1))] 147)).heap[w.heap.size + 1]? = some (mapObj []) ∧
    Owns (((w.alloc (.map #[] 0)).alloc (.map #[] 0)).alloc (.cells #[.map (some w.heap.size), .map (some (w.heap.size + 1))] 147)) (w.heap.size + 2) [.map (some w.heap.size), .map (some (w.heap.size + 1))] 147 := by
  have g1 := grew_alloc w (.map #[] 0)
  have g2 := grew_alloc (w.alloc (.map #[] 0)) (.map #[] 0)
  have g3 := grew_alloc ((w.alloc (.map #[] 0)).alloc (.map #[] 0)) (.cells #[.map (some w.heap.size), .map (some (w.heap.size + 1))] 147)
  have a1 := alloc_at w (.map #[] 0)
  have a2 := alloc_at (w.alloc (.map #[] 0)) (.map #[] 0)
  have a3 := alloc_at ((w.alloc (.map #[] 0)).alloc (.map #[] 0)) (.cells #[.map (some w.heap.size), .map (some (w.heap.size + 1))] 147)
  rw [alloc_size] at a2
  rw [alloc_size, alloc_size] at a3
  refine ⟨(g1.trans g2).trans g3, ?_, ?_, a3⟩
  · rw [(g2.trans g3).block _ (by rw [alloc_size]; omega)]; exact a1
  · rw [g3.block _ (by rw [alloc_size, alloc_size]; omega)]; exact a2

/-- a call's parts lie in wherever has grown from there -/
theorem parts_keep {w w' : World} {eb xb cb : Nat} (hg : Grew w w') (he : w.heap[eb]? = some (mapObj [])) (hx : w.heap[xb]? = some (mapObj [])) (hc : Owns w cb [.map (some eb), .map (some xb)] 147) :
    w'.heap[eb]? = some (mapObj []) ∧ w'.heap[xb]? = some (mapObj []) ∧ Owns w' cb [.map (some eb), .map (some xb)] 147 :=
  ⟨by rw [hg.block _ (Array.getElem?_eq_some_iff.1 he).1]; exact he, by rw [hg.block _ (Array.getElem?_eq_some_iff.1 hx).1]; exact hx, hc.keep hg⟩
/-- .. though the map of calls was written -/
theorem parts_but {w w' : World} {eb xb cb m : Nat} (hg : But (fun b => b = m) w w') (hm : m < eb ∧ m < xb ∧ m < cb) (he : w.heap[eb]? = some (mapObj [])) (hx : w.heap[xb]? = some (mapObj [])) (hc : Owns w cb [.map (some eb), .map (some xb)] 147) :
    w'.heap[eb]? = some (mapObj []) ∧ w'.heap[xb]? = some (mapObj []) ∧ Owns w' cb [.map (some eb), .map (some xb)] 147 :=
  ⟨by rw [hg.block _ (Array.getElem?_eq_some_iff.1 he).1 (by omega)]; exact he, by rw [hg.block _ (Array.getElem?_eq_some_iff.1 hx).1 (by omega)]; exact hx, hg.owns hc (by omega)⟩

def NewMap (lo : Nat) (v : Value) (w : World) : Prop := ∃ mb, v = .map (some mb) ∧ lo ≤ mb ∧ w.heap[mb]? = some (mapObj [])
def NewPart (lo cb : Nat) (st : Int) (v : Value) (w : World) : Prop := ∃ mb, v = .agg #[.map (some mb), .pointer (some ⟨cb, 0, none⟩), .int .i64 st] ∧ lo ≤ mb ∧ w.heap[mb]? = some (mapObj [])
def NewWalk (lo cb : Nat) (st : Int) (v : Value) (w : World) : Prop := ∃ kb mb, v = .pointer (some ⟨kb, 0, none⟩) ∧ lo ≤ mb ∧ lo ≤ kb ∧ kb ≠ mb ∧ w.heap[mb]? = some (mapObj []) ∧ Owns w kb [.map (some mb), .pointer (some ⟨cb, 0, none⟩), .int .i64 st] 75
theorem NewMap.keep {lo : Nat} {v : Value} {w w' : World} (hg : Grew w w') (h : NewMap lo v w) : NewMap lo v w' := by
  obtain ⟨mb, h1, h2, h3⟩ := h
  exact ⟨mb, h1, h2, by rw [hg.block _ (Array.getElem?_eq_some_iff.1 h3).1]; exact h3⟩
theorem NewPart.keep {lo cb : Nat} {st : Int} {v : Value} {w w' : World} (hg : Grew w w') (h : NewPart lo cb st v w) : NewPart lo cb st v w' := by
  obtain ⟨mb, h1, h2, h3⟩ := h
  exact ⟨mb, h1, h2, by rw [hg.block _ (Array.getElem?_eq_some_iff.1 h3).1]; exact h3⟩
theorem NewWalk.keep {lo cb : Nat} {st : Int} {v : Value} {w w' : World} (hg : Grew w w') (h : NewWalk lo cb st v w) : NewWalk lo cb st v w' := by
  obtain ⟨kb, mb, h1, h2, h3, h4, h5, h6⟩ := h
  exact ⟨kb, mb, h1, h2, h3, h4, by rw [hg.block _ (Array.getElem?_eq_some_iff.1 h5).1]; exact h5, h6.keep hg⟩
theorem NewMap.made {lo : Nat} {w : World} (h : lo ≤ w.heap.size) : NewMap lo (.map (some w.heap.size)) (w.alloc (.map #[] 0)) := ⟨_, rfl, h, alloc_at _ _⟩
theorem NewWalk.made {lo cb mb : Nat} {st : Int} {w : World} (h : lo ≤ w.heap.size) (h1 : lo ≤ mb) (h2 : w.heap[mb]? = some (mapObj [])) :
    NewWalk lo cb st (.pointer (some ⟨w.heap.size, 0, none⟩)) (w.alloc (.cells #[.map (some mb), .pointer (some ⟨cb, 0, none⟩), .int .i64 st] 75)) := by
  have hml := (Array.getElem?_eq_some_iff.1 h2).1
  exact ⟨_, mb, rfl, h1, h, by omega, by rw [(grew_alloc _ _).block _ hml]; exact h2, Owns.alloc _ _ _⟩

/-- where things lie behind a new call -/
def newLoc (loc : Role → Nat) (c : Nat × Nat) (cb eb xb kb sb : Nat) : Role → Nat
  | .call d => if d = c then cb else loc (.call d)
  | .ends d => if d = c then eb else loc (.ends d)
  | .waits d => if d = c then xb else loc (.waits d)
  | .walk κ => if κ = some c then kb else loc (.walk κ)
  | .seen κ => if κ = some c then sb else loc (.seen κ)
  | r => loc r
theorem newLoc_old {loc : Role → Nat} {cb eb xb kb sb : Nat} (hn : c ∉ S.calls) {r : Role} (hr : S.ex r) : newLoc loc c cb eb xb kb sb r = loc r := by
  cases r with
  | srch => rfl
  | cmap => rfl
  | call d => exact if_neg (fun (e : d = c) => hn (by rw [← e]; exact hr))
  | ends d => exact if_neg (fun (e : d = c) => hn (by rw [← e]; exact hr))
  | waits d => exact if_neg (fun (e : d = c) => hn (by rw [← e]; exact hr))
  | walk κ =>
    refine if_neg (fun e => hn ?_)
    subst e
    exact hr
  | seen κ =>
    refine if_neg (fun e => hn ?_)
    subst e
    exact hr

theorem Inv.fresh (h : Inv E S) (hn : c ∉ S.calls) : S.seen (some c) = [] ∧ S.ends c = [] ∧ S.waits c = [] := by
  have h1 : S.seen (some c) = [] := List.eq_nil_iff_forall_not_mem.2 fun p hp => hn (h.seenH _ p hp)
  refine ⟨h1, List.eq_nil_iff_forall_not_mem.2 fun i hi => ?_, List.eq_nil_iff_forall_not_mem.2 fun x hx => hn (h.waitsH c x hx)⟩
  have := (h.endsIff c i).1 hi
  rw [h1] at this
  cases this

/-- a call more, in memory: five blocks are new, the map of calls knows it -/
theorem Rep.more (h : Rep E S w) (hI : Inv E S) (hn : c ∉ S.calls) {cb eb xb kb sb : Nat} {w0 : World}
    (hbut : But (fun b => b = S.loc .cmap) w w0) (hcm : w0.heap[S.loc .cmap]? = some (mapObj (S.callsL ++ [(plV c, ptrV cb)])))
    (he : w0.heap[eb]? = some (mapObj [])) (hx : w0.heap[xb]? = some (mapObj [])) (hc : Owns w0 cb [.map (some eb), .map (some xb)] 147)
    (hs : w0.heap[sb]? = some (mapObj [])) (hk : Owns w0 kb [.map (some sb), ptrV cb, .int .i64 (E.N.stops.getD c.1 0)] 75)
    (hnew : w.heap.size ≤ eb ∧ eb < xb ∧ xb < cb ∧ w.heap.size ≤ sb ∧ w.heap.size ≤ kb ∧ sb ≠ eb ∧ sb ≠ xb ∧ sb ≠ cb ∧ kb ≠ eb ∧ kb ≠ xb ∧ kb ≠ cb ∧ kb ≠ sb) :
    Rep E (S.more c (newLoc S.loc c cb eb xb kb sb)) w0 ∧ Frm S (S.more c (newLoc S.loc c cb eb xb kb sb)) w w0 := by
  obtain ⟨n1, n2, n3, n4, n5, n6, n7, n8, n9, n10, n11, n12⟩ := hnew
  obtain ⟨f1, f2, f3⟩ := hI.fresh hn
  have old : ∀ {r : Role}, S.ex r → newLoc S.loc c cb eb xb kb sb r = S.loc r := fun hr => newLoc_old hn hr
  have hl := h.lim_le
  -- which roles there are
  have cases_ : ∀ r, (S.more c (newLoc S.loc c cb eb xb kb sb)).ex r → S.ex r ∨ r = .call c ∨ r = .ends c ∨ r = .waits c ∨ r = .walk (some c) ∨ r = .seen (some c) := by
    have key : ∀ d, d ∈ S.calls ++ [c] → d ∈ S.calls ∨ d = c := fun d hd => by simpa using hd
    have key2 : ∀ κ, (S.more c (newLoc S.loc c cb eb xb kb sb)).has κ → S.has κ ∨ κ = some c := fun κ hκ => by
      cases κ with
      | none => exact .inl trivial
      | some d =>
        rcases key d hκ with h | h
        · exact .inl h
        · exact .inr (by rw [h])
    intro r hr
    cases r with
    | srch => exact .inl trivial
    | cmap => exact .inl trivial
    | call d => rcases key d hr with h | rfl; exact .inl h; exact .inr (.inl rfl)
    | ends d => rcases key d hr with h | rfl; exact .inl h; exact .inr (.inr (.inl rfl))
    | waits d => rcases key d hr with h | rfl; exact .inl h; exact .inr (.inr (.inr (.inl rfl)))
    | walk κ => rcases key2 κ hr with h | rfl; exact .inl h; exact .inr (.inr (.inr (.inr (.inl rfl))))
    | seen κ => rcases key2 κ hr with h | rfl; exact .inl h; exact .inr (.inr (.inr (.inr (.inr rfl))))
  have lc : newLoc S.loc c cb eb xb kb sb (.call c) = cb := if_pos rfl
  have le : newLoc S.loc c cb eb xb kb sb (.ends c) = eb := if_pos rfl
  have lx : newLoc S.loc c cb eb xb kb sb (.waits c) = xb := if_pos rfl
  have lk : newLoc S.loc c cb eb xb kb sb (.walk (some c)) = kb := if_pos rfl
  have ls : newLoc S.loc c cb eb xb kb sb (.seen (some c)) = sb := if_pos rfl
  have hwalks : ∀ d, (S.waits d).map (fun x => ((S.more c (newLoc S.loc c cb eb xb kb sb)).waitV x, unitV)) = (S.waits d).map (fun x => (S.waitV x, unitV)) := fun d =>
    List.map_congr_left fun x hx => by
      unfold St.waitV St.more
      simp only
      rw [old (r := .walk x.1) (hI.waitsR d x hx).1]
  -- the old ones
  have oldObj : ∀ r, S.ex r → r ≠ .cmap → (S.more c (newLoc S.loc c cb eb xb kb sb)).obj E r = S.obj E r := by
    intro r hr hne
    cases r with
    | cmap => exact absurd rfl hne
    | srch => rfl
    | seen κ => rfl
    | ends d => rfl
    | waits d =>
      unfold St.obj St.waitsL
      simp only
      rw [show (S.more c (newLoc S.loc c cb eb xb kb sb)).waits d = S.waits d from rfl, hwalks d]
    | call d =>
      unfold St.obj St.callL St.more
      simp only
      rw [old (r := .ends d) hr, old (r := .waits d) hr]
    | walk κ =>
      unfold St.obj St.walkL St.more
      simp only
      rw [old (r := .seen κ) hr]
      cases κ with
      | none => rfl
      | some d =>
        unfold St.ownV
        simp only
        rw [old (r := .call d) hr]
  have hcalls : (S.more c (newLoc S.loc c cb eb xb kb sb)).callsL = S.callsL ++ [(plV c, ptrV cb)] := by
    unfold St.callsL St.more
    simp only [List.map_append, List.map_cons, List.map_nil, lc]
    congr 1
    exact List.map_congr_left fun d hd => by rw [old (r := .call d) hd]
  have hobj : ∀ r, (S.more c (newLoc S.loc c cb eb xb kb sb)).ex r → w0.heap[(S.more c (newLoc S.loc c cb eb xb kb sb)).loc r]? = some ((S.more c (newLoc S.loc c cb eb xb kb sb)).obj E r) := by
    intro r hr
    show w0.heap[newLoc S.loc c cb eb xb kb sb r]? = _
    rcases cases_ r hr with h1 | rfl | rfl | rfl | rfl | rfl
    · rw [old h1]
      by_cases e : r = .cmap
      · subst e
        rw [hcm]
        unfold St.obj
        rw [hcalls]
      · rw [oldObj r h1 e, hbut.block _ (h.lt h1) (fun e2 => e (h.inj _ _ h1 trivial e2))]
        exact h.obj r h1
    · rw [lc]
      unfold St.obj St.callL St.more
      simp only [le, lx]
      exact hc
    · rw [le, he]
      unfold St.obj St.endsL St.more
      simp only [f2]
      rfl
    · rw [lx, hx]
      unfold St.obj St.waitsL St.more
      simp only [f3]
      rfl
    · rw [lk]
      unfold St.obj St.walkL St.ownV St.more
      simp only [ls, lc]
      exact hk
    · rw [ls, hs]
      unfold St.obj St.seenL St.more
      simp only [f1]
      rfl
  have hlt : ∀ {r}, S.ex r → S.loc r < w.heap.size := fun hr => h.lt hr
  refine ⟨⟨hobj, fun r hr => ?_, fun a b ha hb e => ?_, ?_⟩, ?_, fun b hb => ?_⟩
  · show E.lim ≤ newLoc S.loc c cb eb xb kb sb r
    rcases cases_ r hr with h1 | rfl | rfl | rfl | rfl | rfl
    · rw [old h1]; exact h.lo r h1
    · rw [lc]; omega
    · rw [le]; omega
    · rw [lx]; omega
    · rw [lk]; omega
    · rw [ls]; omega
  · have e' : newLoc S.loc c cb eb xb kb sb a = newLoc S.loc c cb eb xb kb sb b := e
    rcases cases_ a ha with h1 | rfl | rfl | rfl | rfl | rfl <;> rcases cases_ b hb with h2 | rfl | rfl | rfl | rfl | rfl <;>
      first
      | rfl
      | (rw [old h1, old h2] at e'; exact h.inj a b h1 h2 e')
      | (exfalso
         first
         | (have h3 := hlt h1; rw [old h1] at e'; simp only [lc, le, lx, lk, ls] at e'; omega)
         | (have h3 := hlt h2; rw [old h2] at e'; simp only [lc, le, lx, lk, ls] at e'; omega)
         | (simp only [lc, le, lx, lk, ls] at e'; omega))
  · have e1 : (S.more c (newLoc S.loc c cb eb xb kb sb)).todoCells = S.todoCells := by
      unfold St.todoCells St.more
      simp only
      have hh : ∀ x ∈ S.todo, newLoc S.loc c cb eb xb kb sb (.walk x.1) = S.loc (.walk x.1) := fun x hx => old (r := .walk x.1) (hI.seenH _ _ (hI.todoS x hx))
      rw [List.flatMap_def, List.flatMap_def]
      exact congrArg List.flatten (List.map_congr_left fun x hx => by rw [hh x hx])
    rw [e1]
    exact row_but h.row hbut fun g hg e => h.far (r := .cmap) trivial (by have h2 : S.tv.ownBlock = some g := hg; rw [h2, e])
  · exact ⟨hbut.os, hbut.tape, hbut.output, hbut.size, fun k hk' hm => hbut.block k hk' fun e => hm (.inl ⟨.cmap, trivial, e.symm⟩)⟩
  · rcases hb with ⟨r, hr, rfl⟩ | hb
    · show S.mine (newLoc S.loc c cb eb xb kb sb r) ∨ w.heap.size ≤ newLoc S.loc c cb eb xb kb sb r
      rcases cases_ r hr with h1 | rfl | rfl | rfl | rfl | rfl
      · rw [old h1]; exact .inl (.inl ⟨r, h1, rfl⟩)
      · rw [lc]; exact .inr (by omega)
      · rw [le]; exact .inr (by omega)
      · rw [lx]; exact .inr (by omega)
      · rw [lk]; exact .inr (by omega)
      · rw [ls]; exact .inr (by omega)
    · exact .inl (.inr hb)
/-- whom a name leads to -/
theorem look_none (h : Rep E S w) (hn : c ∉ S.calls) : (Instr.lookup 90 (.map (some (S.loc .cmap))) (plV c) false).run Try.prog w = .ok (.pointer none) w := by
  rcases run_look (P := Try.prog) (t := 90) (kt := 71) (e := 73) (by kernel_rfl) h.callsM (key_at2 w c S.calls _) (show (zeroValue 73).run Try.prog w = .ok (.pointer none) w by kernel_rfl) with ⟨_, h2⟩ | ⟨x, hx, hf, _⟩
  · exact h2
  · obtain ⟨d, hd, rfl⟩ := List.mem_map.1 hx
    exact absurd (plV_inj (isV_true.1 hf) ▸ hd) hn
theorem look_some (h : Rep E S w) (hc : c ∈ S.calls) : (Instr.lookup 90 (.map (some (S.loc .cmap))) (plV c) false).run Try.prog w = .ok (ptrV (S.loc (.call c))) w := by
  rcases run_look (P := Try.prog) (t := 90) (kt := 71) (e := 73) (by kernel_rfl) h.callsM (key_at2 w c S.calls _) (show (zeroValue 73).run Try.prog w = .ok (.pointer none) w by kernel_rfl) with ⟨h2, _⟩ | ⟨x, hx, hf, h2⟩
  · have := h2 (plV c, ptrV (S.loc (.call c))) (List.mem_map.2 ⟨c, hc, rfl⟩)
    rw [isV_true.2 rfl] at this
    cases this
  · obtain ⟨d, hd, rfl⟩ := List.mem_map.1 hx
    have : d = c := plV_inj (isV_true.1 hf)
    subst this
    exact h2
theorem upd_calls (h : Rep E S w) (hn : c ∉ S.calls) (cb : Nat) : (Instr.mapUpdate 90 (.map (some (S.loc .cmap))) (plV c) (ptrV cb)).run Try.prog w = .ok () (putObj w (S.loc .cmap) (mapObj (S.callsL ++ [(plV c, ptrV cb)]))) :=
  run_update_new (x := ptrV cb) (P := Try.prog) (t := 90) (kt := 71) (e := 73) (by kernel_rfl) h.callsM (key_at2 w c S.calls _) fun x hx => by
    obtain ⟨d, hd, rfl⟩ := List.mem_map.1 hx
    exact isV_false.2 fun e => hn (plV_inj e ▸ hd)

/-- those who wait, by where their walks lie -/
def St.waitsN (S : St) (c : Nat × Nat) : List (Nat × Nat) := (S.waits c).map fun x => (S.loc (.walk x.1), x.2)
theorem waitsL_eq (S : St) (c : Nat × Nat) : S.waitsL c = (S.waitsN c).map fun q => (waitN q, unitV) := by
  unfold St.waitsL St.waitsN
  rw [List.map_map]
  rfl
theorem mem_waitsN (h : Rep E S w) (hI : Inv E S) {x : Key × Nat} (hx : S.has x.1) : (S.loc (.walk x.1), x.2) ∈ S.waitsN c ↔ x ∈ S.waits c := by
  unfold St.waitsN
  rw [List.mem_map]
  constructor
  · rintro ⟨y, hy, e⟩
    rw [Prod.mk.injEq] at e
    have h1 := h.inj (.walk y.1) (.walk x.1) (hI.waitsR c y hy).1 hx e.1
    simp only [Role.walk.injEq] at h1
    have : y = x := Prod.ext h1 e.2
    exact this ▸ hy
  · exact fun hx => ⟨x, hx, rfl⟩
theorem waits_own (h : Rep E S w) (hI : Inv E S) : ∀ q ∈ S.waitsN c, ∃ cs T, Owns w q.1 cs T := by
  intro q hq
  obtain ⟨x, hx, rfl⟩ := List.mem_map.1 hq
  exact ⟨_, _, h.walk (hI.waitsR c x hx).1⟩
theorem haswait_at (h : Rep E S w) (hI : Inv E S) (hc : c ∈ S.calls) (x : Key × Nat) (hx : S.has x.1) :
    Calls Try.prog 81 #[.map (some (S.loc (.waits c))), S.waitV x] w fun e W' => e = .returned (.bool (decide (x ∈ S.waits c))) ∧ Grew w W' := by
  have hm := h.waitsM hc
  rw [waitsL_eq] at hm
  have := haswait_ok w _ _ (S.loc (.walk x.1), x.2) hm ⟨_, _, h.walk hx⟩ (waits_own h hI)
  rw [show decide ((S.loc (.walk x.1), x.2) ∈ S.waitsN c) = decide (x ∈ S.waits c) from decide_eq_decide.2 (mem_waitsN h hI hx)] at this
  exact this
theorem upd_waits (h : Rep E S w) (hI : Inv E S) (hc : c ∈ S.calls) {x : Key × Nat} (hx : S.has x.1) (hn : x ∉ S.waits c) :
    (Instr.mapUpdate 145 (.map (some (S.loc (.waits c)))) (S.waitV x) unitV).run Try.prog w = .ok () (putObj w (S.loc (.waits c)) (mapObj (S.waitsL c ++ [(S.waitV x, unitV)]))) := by
  have hm := h.waitsM hc
  have hm' := hm
  rw [waitsL_eq] at hm'
  have := run_update_new (x := unitV) (P := Try.prog) (t := 145) (kt := 149) (e := 122) (by kernel_rfl) hm' (key_wait w (S.waitsN c) (S.loc (.walk x.1), x.2) ⟨_, _, h.walk hx⟩ (waits_own h hI)) fun y hy => by
    obtain ⟨q, hq, rfl⟩ := List.mem_map.1 hy
    exact isV_false.2 fun e => hn ((mem_waitsN h hI hx).1 (waitN_inj _ _ e ▸ hq))
  rw [waitsL_eq]
  exact this
theorem put_wait_at (h : Rep E S w) (hc : c ∈ S.calls) (x : Key × Nat) {w1 : World} (he : putObj w (S.loc (.waits c)) (mapObj (S.waitsL c ++ [(S.waitV x, unitV)])) = w1) : Rep E (S.wait c x) w1 ∧ Frm S (S.wait c x) w w1 := by
  subst he
  have e : (S.wait c x).obj E (.waits c) = mapObj (S.waitsL c ++ [(S.waitV x, unitV)]) := by
    unfold St.obj St.waitsL St.wait
    simp only [if_true, List.map_append, List.map_cons, List.map_nil]
    rfl
  rw [← e]
  refine h.put (r := .waits c) hc rfl (ex_same rfl) rfl rfl fun r' hr' => ?_
  cases r' with
  | waits k =>
    have : k ≠ c := fun e => hr' (by rw [e])
    unfold St.obj St.waitsL St.wait
    simp only [if_neg this]
    rfl
  | walk κ => rfl
  | _ => rfl

/-- the post of call -/
structure Called (E : Env) (S S' : St) (c : Nat × Nat) (x : Key × Nat) : Prop where
  inv : Inv E S'
  le : Le S S'
  there : c ∈ S'.calls
  waits : x ∈ S'.waits c
  begun : Begun E S → Begun E S'
  opn : ∀ d i y, Opn S' d i y → Opn S d i y
theorem Begun.mono (h : Begun E S) (hle : Le S S') (hc : S'.calls = S.calls) : Begun E S' := fun d hd => hle.seen _ _ (h d (hc ▸ hd))

/-- over the ends of a call: to whom was told of them -/
structure CLoop (E : Env) (S3 : St) (c : Nat × Nat) (x : Key × Nat) (T : St) (seen : List Nat) : Prop where
  inv : Inv E T
  le : Le (S3.wait c x) T
  calls : T.calls = S3.calls
  waits : x ∈ T.waits c
  opn : ∀ d k y, Opn T d k y → Opn S3 d k y ∨ (d = c ∧ y = x ∧ k ∈ S3.ends c)
  got : ∀ j (h : j < (S3.ends c).length), j ∈ seen → (x.2, (S3.ends c)[j]) ∈ T.seen x.1
theorem CLoop.start {x : Key × Nat} (hI : Inv E (S3.wait c x)) : CLoop E S3 c x (S3.wait c x) [] :=
  ⟨hI, Le.refl _, rfl, (wait_mem S3 c x c x).2 (.inr ⟨rfl, rfl⟩), fun _ _ _ ho => wait_opn ho, fun j h hj => by cases hj⟩
theorem CLoop.pre {x : Key × Nat} {seen : List Nat} (h : CLoop E S3 c x T seen) : S3.ends c <+: T.ends c := h.le.ends c
theorem CLoop.next {x : Key × Nat} {seen : List Nat} (h : CLoop E S3 c x T seen) {j : Nat} (hj : j < (T.ends c).length) (hR : Reached E T T' x.1 (x.2, (T.ends c)[j])) : CLoop E S3 c x T' (seen ++ [j]) := by
  refine ⟨hR.inv, h.le.trans hR.le, hR.calls.trans h.calls, by rw [hR.waits]; exact h.waits, fun d k y ho => h.opn d k y (hR.opn d k y ho), fun m hm hmem => ?_⟩
  rcases List.mem_append.1 hmem with h1 | h1
  · exact hR.le.seen _ _ (h.got m hm h1)
  · simp at h1
    subst h1
    obtain ⟨l, hl⟩ := h.pre
    have e : (T.ends c)[m] = (S3.ends c)[m] := by
      have : (S3.ends c ++ l)[m]'(by simp; omega) = (S3.ends c)[m] := List.getElem_append_left hm
      rw [← this]
      congr 1
      exact hl.symm
    rw [← e]
    exact hR.got
theorem CLoop.done {x : Key × Nat} {seen : List Nat} (h : CLoop E S3 c x T seen) (hI : Inv E (S3.wait c x)) (hle : Le S S3) (hc : c ∈ S3.calls) (hb : Begun E S → Begun E S3) (ho : ∀ d i y, Opn S3 d i y → Opn S d i y)
    (hle4 : Le S3 (S3.wait c x)) (hall : ∀ j, j < (S3.ends c).length → j ∈ seen) : Called E S T c x := by
  have hle2 := hle4.trans h.le
  refine ⟨h.inv, hle.trans hle2, hle2.calls c hc, h.waits, fun hB => (hb hB).mono hle2 h.calls, fun d k y hop => ?_⟩
  rcases h.opn d k y hop with h1 | ⟨rfl, rfl, h3⟩
  · exact ho d k y h1
  · obtain ⟨j, hj, hx⟩ := List.mem_iff_getElem.1 h3
    have h4 := h.got j hj (hall j hj)
    rw [hx] at h4
    exact absurd h4 hop.2.2
/-- who waits may go on -/
theorem CLoop.live {x : Key × Nat} {seen : List Nat} (h : CLoop E S3 c x T seen) {j : Nat} (hj : j < (T.ends c).length) :
    T.has x.1 ∧ x.2 < E.N.states.length ∧ (T.ends c)[j] ≤ E.w.length ∧ Lv E.N E.w E.p0 E.over x.1 (x.2, (T.ends c)[j]) := by
  obtain ⟨h1, h2⟩ := h.inv.waitsR c x h.waits
  obtain ⟨s, e, h3, h4, h5, h6, h7, h8⟩ := h.inv.waitS c x h.waits
  have hm : (T.ends c)[j] ∈ T.ends c := List.getElem_mem hj
  have h9 := (h.inv.endsIff c _).1 hm
  refine ⟨h1, h2, (h.inv.seenR _ _ h9).2, ?_⟩
  rw [← h8]
  refine Lv.back h3 h4 h5 h6 ?_
  rw [h7]
  exact h.inv.sound _ _ h9
theorem Inv.ends_le (h : Inv E S) : (S.ends c).length ≤ E.w.length + 1 := by
  refine nodup_below (h.endsN c) fun i hi => ?_
  have := (h.seenR _ _ ((h.endsIff c i).1 hi)).2
  simp only at this
  omega
end
end Go.Proofs.Ytgdcnndmdgcjlaa
