/- paths.Along of a net that may be. -/
import Derived.Test.YtgdcnndmdgcjlaaPWays
namespace Go.Proofs.Ytgdcnndmdgcjlaa
open Go.RowKit

/-- what Along answers -/
def AlongAt (N : Net) (w : List Int) (t : Nat) (o : Int) (W : World) (e : Ending) (W' : World) : Prop := ∃ b, e = .returned (.bool b) ∧ (b = true ↔ AlongIs N w (t, 0) o) ∧ Grew W W'

set_option maxHeartbeats 2000000 in
set_option maxRecDepth 20000 in
theorem along_ok (N : Net) (hN : N.Small) (hM : N.mayB = true) (w : List Int) (hw : w.length ≤ 7) (f k : Nat) (hf : f < N.states.length) (hk : k < N.states[f].ends.length) (hk2 : k < N.states[f].edges.length) (W : World) (n0 n1 n2 n3 n4 wv : Value) (hB : NetAt W W.heap.size n0 n1 n2 n3 n4 N) (hWV : IntsV W W.heap.size wv w) :
    Calls Try.prog 13 #[.agg #[n0, n1, n2, n3, n4], .int .i64 f, .int .i64 k, wv] W (AlongAt N w (N.states[f].edges[k].to.toNat) N.states[f].ends[k] W) := by
  have hOk := Net.ok_of_may hM
  have hE : N.edges f = N.states[f].edges := by unfold Net.edges; rw [List.getElem?_eq_getElem hf]; rfl
  have hD : N.ends f = N.states[f].ends := by unfold Net.ends; rw [List.getElem?_eq_getElem hf]; rfl
  have hto := (hOk.edge f N.states[f].edges[k] (by rw [hE]; exact List.getElem_mem hk2)).1
  have hov := hOk.endsR f N.states[f].ends[k] (by rw [hD]; exact List.getElem_mem hk)
  obtain ⟨na, nc, rfl, hN0⟩ := hB.states
  obtain ⟨ta, tc, rfl, hT⟩ := hB.starts
  obtain ⟨ua, uc, rfl, hU⟩ := hB.stops
  obtain ⟨pa, pc, rfl, hP⟩ := hB.preds
  obtain ⟨da, dc, rfl, hD⟩ := hB.decisions
  obtain ⟨wa, wc, rfl, hWA⟩ := hWV
  obtain ⟨n0, hn0⟩ : ∃ v : Value, v = .slice na N.states.length nc := ⟨_, rfl⟩
  obtain ⟨n1, hn1⟩ : ∃ v : Value, v = .slice ta N.starts.length tc := ⟨_, rfl⟩
  obtain ⟨n2, hn2⟩ : ∃ v : Value, v = .slice ua N.stops.length uc := ⟨_, rfl⟩
  obtain ⟨n3, hn3⟩ : ∃ v : Value, v = .slice pa N.preds.length pc := ⟨_, rfl⟩
  obtain ⟨n4, hn4⟩ : ∃ v : Value, v = .slice da N.decisions.length dc := ⟨_, rfl⟩
  obtain ⟨wv, hwv⟩ : ∃ v : Value, v = .slice wa w.length wc := ⟨_, rfl⟩
  have hWV : IntsV W W.heap.size wv w := ⟨wa, wc, hwv, hWA⟩
  rw [← hn0, ← hn1, ← hn2, ← hn3, ← hn4] at hB
  obtain ⟨b, off, hna, hb, hS⟩ := hN0 f hf
  obtain ⟨hr0, ⟨ea, ec, he, hEd⟩, za, zc, hz, hZ⟩ := hS
  obtain ⟨eb, eoff, rfl, heb, _, _, he2⟩ := hEd k hk2
  obtain ⟨zb, zoff, rfl, hzb, hz0⟩ := hZ k hk
  obtain ⟨w1, hw1⟩ : ∃ w1, W.alloc (.cells #[n0, n1, n2, n3, n4] 25) = w1 := ⟨_, rfl⟩
  have z1 : w1.heap.size = W.heap.size + 1 := by rw [← hw1]; exact World.size_alloc W _
  have g1 : Grew W w1 := hw1 ▸ grew_alloc W _
  have o1 : Owns w1 W.heap.size [n0, n1, n2, n3, n4] 25 := hw1 ▸ Owns.alloc W _ _
  obtain ⟨w2, hw2⟩ : ∃ w2, w1.alloc (.cells #[.int .i64 f] 3) = w2 := ⟨_, rfl⟩
  have z2 : w2.heap.size = W.heap.size + 1 + 1 := by rw [← hw2, World.size_alloc, z1]
  have g2 : Grew w1 w2 := hw2 ▸ grew_alloc w1 _
  have o2 : Owns w2 (W.heap.size + 1) [.int .i64 f] 3 := by rw [← z1, ← hw2]; exact Owns.alloc w1 _ _
  have c0 := o1.cell_at (i := 0) rfl
  have c1 := o1.cell_at (i := 1) rfl
  have c2 := o1.cell_at (i := 2) rfl
  have c3 := o1.cell_at (i := 3) rfl
  have c4 := o1.cell_at (i := 4) rfl
  have g12 := g1.trans g2
  have hmay := pmay_ok N hN w [f] hw (fun i hi => by
    simp only [List.mem_cons, List.not_mem_nil, or_false] at hi
    rcases hi with rfl
    rw [okN_iff]; omega) w2 n0 n1 n2 n3 n4 wv ((hB.keep g12).mono g12.size) ((hWV.keep g12).mono g12.size) (W.heap.size + 1) 1 (by omega) (by simp)
    (fun k hk => by
      match k, hk with
      | 0, _ => exact o2.cell_at (i := 0) rfl)
  rw [hM] at hmay
  have HMAY := Lib.hid (show Calls Try.prog 23 #[.agg #[n0, n1, n2, n3, n4], wv, .slice (some ⟨W.heap.size + 1, 0, none⟩) 1 1] w2 fun e W' => e = .returned (.bool true) ∧ Grew w2 W' from hmay)
  have HB := Lib.hid hB
  have HWV := Lib.hid hWV
  have HG := Lib.hid g12
  have HO := Lib.hid (o1.keep g2)
  have hM0 := Lib.hid hOk
  have HTO := Lib.hid (And.intro hto hov)
  have HCE := Lib.hid (And.intro heb (And.intro hzb hb))
  have HC0 := Lib.hid (And.intro he (And.intro hz (And.intro he2 hz0)))
  have hki : ((k : Int) < 0) = False := by simp
  clear hmay g12 o1 o2 g1 g2 hB hWA hM hT hU hP hD hWV hE hEd hZ hN0 he hz he2 hz0 hr0 hto hov hOk heb hzb hb
  subst hn0 hn1 hn2 hn3 hn4 hwv
  subst hna
  obtain ⟨t, ht⟩ : ∃ t : Nat, N.states[f].edges[k].to = t := ⟨N.states[f].edges[k].to.toNat, by have := HTO.out.1; omega⟩
  obtain ⟨o, ho⟩ : ∃ o : Nat, N.states[f].ends[k] = o := ⟨N.states[f].ends[k].toNat, by have := HTO.out.2; omega⟩
  have htt : N.states[f].edges[k].to.toNat = t := by omega
  have htl : t < N.states.length := by have := HTO.out.1; omega
  have hcs : Hid (∀ w4, Grew W w4 → w4.cell? ⟨b, off + f * 3 + 1, none⟩ = some (.slice (some ⟨eb, eoff, none⟩) N.states[f].edges.length ec) ∧ w4.cell? ⟨b, off + f * 3 + 2, none⟩ = some (.slice (some ⟨zb, zoff, none⟩) N.states[f].ends.length zc) ∧
      w4.cell? ⟨eb, eoff + k * 3 + 2, none⟩ = some (.int .i64 t) ∧ w4.cell? ⟨zb, zoff + k, none⟩ = some (.int .i64 o)) := Lib.hid fun w4 g4 => by
    rw [g4.cells _ _ HCE.out.2.2, g4.cells _ _ HCE.out.2.2, g4.cells _ _ HCE.out.1, g4.cells _ _ HCE.out.2.1, ← ht, ← ho]
    exact HC0.out
  rw [htt, ho]
  clear ht ho htt
  clear HC0
  go_enter Try.func13, Try.ntmps13
  go_wp2_with fail
  refine HMAY.out.mono ?_
  rintro e w3 ⟨rfl, hb3⟩
  have g3 := HG.out.trans hb3
  have o3 := HO.out.keep hb3
  have c0 := o3.cell_at (i := 0) rfl
  have c1 := o3.cell_at (i := 1) rfl
  have c2 := o3.cell_at (i := 2) rfl
  have c3 := o3.cell_at (i := 3) rfl
  have c4 := o3.cell_at (i := 4) rfl
  obtain ⟨sf1, sf2, ed, zd⟩ := hcs.out w3 g3
  obtain ⟨E, hE⟩ : ∃ E : Env, E = ⟨N, w, .slice (some ⟨b, off, none⟩) N.states.length nc, .slice ta N.starts.length tc, .slice ua N.stops.length uc, .slice pa N.preds.length pc, .slice da N.decisions.length dc, .slice wa w.length wc, W.heap.size, (t, 0), o⟩ := ⟨_, rfl⟩
  have hL3 : Laid E w3 := by rw [hE]; exact ⟨HB.out.keep g3, HWV.out.keep g3⟩
  have HL3 := Lib.hid hL3
  have hbeg := began_ok E w3 (by rw [hE]; exact g3.size) hL3
  have hlim : Hid (E.lim = W.heap.size) := Lib.hid (by rw [hE])
  have hEN : Hid (E.N = N ∧ E.w = w ∧ E.p0 = (t, 0) ∧ E.over = o ∧ E.wv = .slice wa w.length wc) := Lib.hid (by rw [hE]; exact ⟨rfl, rfl, rfl, rfl, rfl⟩)
  have hfrom : Hid (∀ (w4 : World) (sb cm : Nat), Began E w4 sb cm → Laid E w4 → Calls Try.prog 25 #[ptrV sb, .int .i64 t, .int .i64 o] w4 fun e W' => ∃ S', e = .returned (ptrV (S'.loc (.walk none))) ∧ Rep E S' W' ∧ FLoop E S' ∧ S'.todo = [] ∧ S'.loc .srch = sb ∧ Below E.lim w4 W') := Lib.hid fun w4 sb cm hBe hLa => by
    have := from_ok E (by rw [hEN.out.1]; exact hM0.out) wa wc (univ_small E (by rw [hEN.out.1]; exact hN) (by rw [hEN.out.2.1]; exact hw)) (by rw [hEN.out.2.1]; omega) (fun s => by rw [hEN.out.1]; exact edges_small N hN s) (by rw [hEN.out.2.1]; exact hEN.out.2.2.2.2) t hEN.out.2.2.1 (by rw [hEN.out.1]; exact htl) w4 sb cm hBe hLa
    rw [hEN.out.2.2.2.1] at this
    exact this
  rw [hE] at hbeg
  have HBEG := Lib.hid hbeg
  have HE := Lib.hid hE
  have HG3 := Lib.hid g3
  have HO3 := Lib.hid o3
  clear hbeg hE g3 hb3 o3 hL3 HO HMAY HB HWV HG hw1 hw2 z1 z2 HCE HTO htl hM0
  go_wp2_with (go_at_call 24; refine HBEG.out.mono ?_; rintro e w4 ⟨sb, cm, rfl, hBe, hg4, hsb⟩; rw [← HE.out] at hBe; have HF := Lib.hid (hfrom.out w4 sb cm hBe (HL3.out.keep (by rw [hlim.out]; exact hg4.mono HG3.out.size))); have HG4 := Lib.hid (HG3.out.trans hg4); obtain ⟨sg1, sg2, ee, zz⟩ := hcs.out w4 HG4.out; have cc0 := (HO3.out.keep hg4).cell_at (i := 0) rfl; clear hBe hg4)
  refine HF.out.mono ?_
  rintro e w5 ⟨S, rfl, hR, hFL, htodo, hls, hb5⟩
  have hg5 : Grew W w5 := Below.trans (B := W.heap.size) HG4.out (by rw [hlim.out] at hb5; exact hb5)
  have hkb := (hR.walk (κ := none) trivial)
  have hmb := hR.seenM (κ := none) trivial
  have hkl := hkb.lt
  have hml : S.loc (.seen none) < w5.heap.size := hR.lt (r := .seen none) trivial
  have hsr := hR.srch
  rw [hls] at hsr
  unfold St.seenL at hmb
  have hwh : ∀ κ p, p ∈ S.seen κ ↔ Lv N w (t, 0) o κ p := fun κ p => by
    have := hFL.ends htodo (κ := κ) (p := p)
    rw [hEN.out.1, hEN.out.2.1, hEN.out.2.2.1, hEN.out.2.2.2.1] at this
    exact this
  have hall : S.all = true ↔ ∃ κ p, Lv N w (t, 0) o κ p ∧ p.2 = w.length := by
    have := hFL.inv.all
    rw [hEN.out.2.1] at this
    rw [this]
    exact ⟨fun ⟨κ, p, h1, h2⟩ => ⟨κ, p, (hwh κ p).1 h1, h2⟩, fun ⟨κ, p, h1, h2⟩ => ⟨κ, p, (hwh κ p).2 h1, h2⟩⟩
  have hseen := hwh none
  have a8 : w5.cell? ⟨sb, 8, none⟩ = some (.bool S.all) := hsr.cell_at (i := 8) rfl
  have hsl : sb < w5.heap.size := hsr.lt
  have HA := Lib.hid hall
  have HS := Lib.hid hseen
  have k0 : w5.cell? ⟨S.loc (.walk none), 0, none⟩ = some (.map (some (S.loc (.seen none)))) := hkb.cell_at (i := 0) rfl
  have HMB := Lib.hid hmb
  have HK0 := Lib.hid k0
  have HG5 := Lib.hid hg5
  clear hwh hall hseen hmb hkb hR hFL htodo hls hb5 hg5 hsr hlim hEN HE hcs hfrom HBEG HG3 HO3 HL3 HF HG4 k0
  generalize S.seen none = l at *
  generalize S.loc (.walk none) = kb at *
  generalize S.loc (.seen none) = mb at *
  generalize S.all = sa at *
  unfold ptrV
  clear c0 c1 c2 c3 c4 sf1 sf2 ed zd
  have hadd : IntKind.i64.wrap ((w.length : Int) + 1) = (w.length : Int) + 1 := by rw [IntKind.wrap_i64]; omega
  cases sa
  · go_wp2_with fail
    go_loopw [66] (fun i wr => ∃ (j : Nat), i = .int .i64 j ∧ j ≤ w.length + 1 ∧ Hid (∀ i, i < j → (o, i) ∉ l) ∧ Hid (Grew w5 wr)) (fun i _ => w.length + 1 - (intOf i).toNat)
    case atStart => exact ⟨0, rfl, by omega, fun i h => absurd h (by omega), Grew.refl _⟩
    case round =>
      obtain ⟨j, rfl, hj, hno, hg⟩ := hrel
      by_cases hlt : j < w.length + 1
      · have hlti : (j : Int) < (w.length : Int) + 1 := by omega
        have k0 : wr.cell? ⟨kb, 0, none⟩ = some (.map (some mb)) := by rw [hg.out.cells _ _ hkl]; exact HK0.out
        have hkl' : kb < wr.heap.size := Nat.lt_of_lt_of_le hkl hg.out.size
        have HC := Lib.hid (show Calls Try.prog 26 #[.map (some mb), .agg #[.int .i64 o, .int .i64 j]] wr fun e W' => e = .returned (.bool (decide ((o, j) ∈ l))) ∧ Grew wr W' from hasat_ok wr mb l (o, j) ((hg.out.block mb hml).trans HMB.out))
        by_cases hin : (o, j) ∈ l
        · rw [decide_eq_true hin] at HC
          have HIN := Lib.hid hin
          clear hin a8
          go_wp2_with (refine HC.out.mono ?_; rintro e w7 ⟨rfl, hb7⟩)
          go_ret
          exact ⟨true, rfl, ⟨fun _ => .inr ⟨j, by omega, by rw [Int.toNat_natCast]; exact (HS.out _).1 HIN.out⟩, fun _ => rfl⟩, HG5.out.trans (hg.out.trans hb7)⟩
        · rw [decide_eq_false hin] at HC
          have HIN := Lib.hid hin
          clear hin a8
          go_wp2_with (refine HC.out.mono ?_; rintro e w7 ⟨rfl, hb7⟩)
          exact ⟨⟨j + 1, by go_num, by omega, fun i hi => by
            by_cases hij : i = j
            · subst hij; exact HIN.out
            · exact hno.out i (by omega), hg.out.trans hb7⟩, by simp [intOf]; omega⟩
      · have hlti : ¬ ((j : Int) < (w.length : Int) + 1) := by omega
        go_wp2_with fail
        go_ret
        refine ⟨false, rfl, ⟨fun h => (by cases h), fun h => ?_⟩, HG5.out.trans hg.out⟩
        rcases h with h | ⟨i, hi, h⟩
        · exact HA.out.2 h
        · rw [Int.toNat_natCast] at h
          exact absurd ((HS.out _).2 h) (hno.out i (by omega))
  · go_wp2_with fail
    go_ret
    exact ⟨true, rfl, ⟨fun _ => .inl (HA.out.1 (by trivial)), fun _ => rfl⟩, HG5.out⟩
end Go.Proofs.Ytgdcnndmdgcjlaa
