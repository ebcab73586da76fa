/- NfasTexts, walked. Printed by gennftx.py. -/
import Derived.Deep.DeepCutAuto
import Derived.Deep.CutBlock
import Derived.Test.YtkinlcichclnkaaDoorRows
import Derived.Test.YtkinlcichclnkaaDoorCards
import Derived.Test.YtkinlcichclnkaaDoorTie
import Derived.Lib.LaidU8
import Derived.PinnedBridge
import Derived.Shelf.Vars
import Derived.WalkKit
import Derived.ProofKit
import Derived.OpenShut
import Derived.Carry
import Derived.ChangeMaps5
import Derived.Deep.DeepHandedRow
import Derived.Lay
import Derived.LaidOnce
import Derived.SevenTiedAt
import Derived.Test.YtkinlcichclnkaaDoorQT46
import Derived.Test.YtkinlcichclnkaaDoorQT13
namespace Go.Proofs.YtkinlcichclnkaaDoor
open Go.RowKit

set_option maxHeartbeats 8000000 in
set_option maxRecDepth 40000 in
theorem texts8_ok (g : Gr) (l : List Int) (W : World) (v0 v1 v2 v3 : Value) (la : Option Addr) (lc : Nat) (hG : GrAt W W.heap.size (some v0) (some v1) (some v2) (some v3) g) (hR : RunesAt W W.heap.size la l) (hlc : l.length ≤ reachN) (hT : BruAt W) (hpos : 0 < W.heap.size) :
    Calls Tryd.prog 4 #[.agg #[v0, v1, v2, v3], .slice la l.length lc] W fun e W' => e = .returned (.bool true) ∧ Grew W W' := by
  obtain ⟨q1, q1', q2, q3, q4, q5, ra, rc, q6, q7, q8⟩ := id hG
  obtain rfl := Option.some.inj q1
  obtain rfl := Option.some.inj q2
  obtain rfl := Option.some.inj q3
  obtain rfl := Option.some.inj q6
  have HG0 := Lib.hid hG
  have HR0 := Lib.hid hR
  have HT := Lib.hid hT
  have HPOS := Lib.hid hpos
  have HQ8 := Lib.hid q8
  unfold reachN at q7 hlc
  clear q1 q1' q2 q3 q4 q5 q6 q8 hG hT hpos hR
  obtain ⟨P, hP⟩ : ∃ P, W.heap.size = P := ⟨_, rfl⟩
  obtain ⟨w1, hw1⟩ : ∃ w1, W.alloc (.cells #[.string g.name, .int .i64 g.bound, .int .i64 g.states, .slice ra g.rules.length rc] 26) = w1 := ⟨_, rfl⟩
  have g1 : Grew W w1 := hw1 ▸ grew_alloc W _
  have o1 : Owns w1 P [.string g.name, .int .i64 g.bound, .int .i64 g.states, .slice ra g.rules.length rc] 26 := hP ▸ hw1 ▸ Owns.alloc W _ _
  have HPP := Lib.hid hP
  have HO1 := Lib.hid o1
  have G1 := Lib.hid g1
  have HGT := Lib.hid (great5_ok g w1 _ _ _ _ ((HG0.out.keep g1).mono g1.size))
  have HLV : Hid (∀ w, Grew W w → Calls Tryd.prog 6 #[] w fun e W' => e = .returned (.bool true) ∧ Grew w W') := Lib.hid fun w hw => lives8_ok w (HT.out.grew hw) (Nat.lt_of_lt_of_le HPOS.out hw.size)
  have c0 := o1.cell_at (i := 0) rfl
  have c1 := o1.cell_at (i := 1) rfl
  have c2 := o1.cell_at (i := 2) rfl
  have c3 := o1.cell_at (i := 3) rfl
  have cl := o1.lt
  clear g1 o1
  go_enter Tryd.func4, Tryd.ntmps4
  go_wp2_with fail
  refine HGT.out.mono ?_
  clear HGT hw1 hP
  rintro e w2 ⟨(rfl | ⟨rfl, hfair⟩), hb2⟩
  · have G2 := Lib.hid (G1.out.trans hb2)
    clear hb2 c0 c1 c2 c3 cl
    go_wp2_with fail
    refine (HLV.out w2 G2.out).mono ?_
    rintro e w3 ⟨rfl, hb3⟩
    go_wp2_with fail
    go_ret
    exact ⟨rfl, G2.out.trans hb3⟩
  have HSL := Lib.hid hfair.slight
  have G2 := Lib.hid (G1.out.trans hb2)
  have HO2 := Lib.hid (HO1.out.keep hb2)
  obtain ⟨L, hL⟩ : ∃ L, l.length = L := ⟨_, rfl⟩
  have HL := Lib.hid hL
  rw [hL] at hlc ⊢
  obtain ⟨n, hn⟩ : ∃ n, g.rules.length = n := ⟨_, rfl⟩
  have HN := Lib.hid hn
  have hn60 : n ≤ 60 := hn ▸ hfair.slight.few
  simp only [hn] at HO2 q7 ⊢
  clear hb2 c0 c1 c2 c3 cl hfair hn HO1 hL
  by_cases h12 : (12 : Int) < (L : Int)
  · go_wp2_with fail
    refine (HLV.out w2 G2.out).mono ?_
    rintro e w3 ⟨rfl, hb3⟩
    go_wp2_with fail
    go_ret
    exact ⟨rfl, G2.out.trans hb3⟩
  have hL12 : L ≤ 12 := by omega
  go_wp2_with fail
  go_loopw [5] (fun c wr => ∃ (j : Nat), c = .int .i64 j ∧ j ≤ n ∧ Hid (Grew w2 wr) ∧ Hid (∀ i (h : i < g.rules.length), i < j → g.rules[i].body.whole)) (fun c _ => n - (intOf c).toNat)
  case atStart => exact ⟨0, rfl, Nat.zero_le _, Grew.refl _, fun i _ h => absurd h (by omega)⟩
  case round =>
    obtain ⟨j, rfl, hj, GR, AR⟩ := hrel
    have hO := HO2.out.keep GR.out
    have c3 := hO.cell_at (i := 3) rfl
    have cl := hO.lt
    by_cases hlt : j < n
    · have hjn : j < g.rules.length := by rw [HN.out]; exact hlt
      obtain ⟨rb, ro, rfl, hrb, hrule⟩ := HQ8.out.get hjn
      simp only [Nat.zero_add] at hrule
      have GW := Lib.hid (G2.out.trans GR.out)
      have hrb4 : rb < wr.heap.size := Nat.lt_of_lt_of_le hrb GW.out.size
      have ecell : ∀ o, wr.cell? ⟨rb, o, none⟩ = W.cell? ⟨rb, o, none⟩ := fun o => GW.out.cells _ _ hrb
      obtain ⟨y0, y1, y2, y3, y4, -, -, e2, e3, e4, e5, e6, -, -, -, -, hnode⟩ := hrule.vals
      obtain ⟨p0, p1, p2, p3, p4, p5, p6, p7, p8, rfl, rfl, rfl, rfl, rfl⟩ := hnode.forms
      rw [← ecell] at e2 e3 e4 e5 e6
      have HC := Lib.hid (whole8_ok _ wr _ _ _ _ _ ((hnode.keep GW.out).mono GW.out.size))
      have HBD : Hid (∃ s, s = g.rules[j].body) := Lib.hid ⟨_, rfl⟩
      obtain ⟨b, hb⟩ : ∃ b, wholeB g.rules[j].body = b := ⟨_, rfl⟩
      have HB := Lib.hid hb
      rw [hb] at HC
      clear hrule hnode ecell hO hb hrb
      go_wp2_with fail
      refine HC.out.mono ?_
      rintro e w3 ⟨rfl, hg3⟩
      have G3 := Lib.hid (GR.out.trans hg3)
      clear hg3 e2 e3 e4 e5 e6 c3 cl hrb4 HC
      cases b
      · go_wp2_with fail
        refine (HLV.out w3 (G2.out.trans G3.out)).mono ?_
        rintro e w4 ⟨rfl, hb4⟩
        go_wp2_with fail
        go_ret
        exact ⟨rfl, (G2.out.trans G3.out).trans hb4⟩
      · go_wp2_with fail
        refine ⟨⟨j + 1, by go_num, by omega, G3.out, fun i hi hij => ?_⟩, by simp [intOf]; omega⟩
        by_cases e : i = j
        · subst e; exact wholeB_iff HB.out
        · exact AR.out i hi (by omega)
    · obtain rfl : n = j := by omega
      have HWH : Hid (∀ i (h : i < g.rules.length), g.rules[i].body.whole) := Lib.hid fun i hi => AR.out i hi (by rw [← HN.out]; exact hi)
      have GW := Lib.hid (G2.out.trans GR.out)
      have HB1 := Lib.hid (nbuild_ok g HSL.out wr _ _ _ _ ((HG0.out.keep GW.out).mono GW.out.size) (HT.out.grew GW.out) (Nat.lt_of_lt_of_le HPOS.out GW.out.size))
      rw [HN.out] at HB1
      have c0 := hO.cell_at (i := 0) rfl
      have c1 := hO.cell_at (i := 1) rfl
      have c2 := hO.cell_at (i := 2) rfl
      have HOR := Lib.hid hO
      clear hO
      go_wp2_with fail
      refine HB1.out.mono ?_
      rintro e w9 ⟨hg9, pv, fv, kinds, ka, rfl, hres⟩
      clear c0 c1 c2 c3 cl HB1
      have hpf : ∃ pa pn pc fa fn fc, pv = .slice pa pn pc ∧ fv = .slice fa fn fc := by
        rcases hres with ⟨-, -, -, sv, fl, h⟩ | ⟨-, -, -, h1, h2, -⟩ | ⟨-, -, h1, h2, -⟩
        · obtain ⟨x, y, hx⟩ := loose_form h.row
          obtain ⟨x', y', hx'⟩ := loose_form h.first
          exact ⟨_, _, _, _, _, _, hx, hx'⟩
        · exact ⟨_, _, _, _, _, _, h1, h2⟩
        · exact ⟨_, _, _, _, _, _, h1, h2⟩
      obtain ⟨pa, pn, pc, fa, fn, fc, rfl, rfl⟩ := hpf
      obtain ⟨w10, hw10⟩ : ∃ w10, w9.alloc (.cells #[.slice pa pn pc, .slice fa fn fc, .int .i64 kinds] 42) = w10 := ⟨_, rfl⟩
      obtain ⟨B8, hB8⟩ : ∃ B8, w9.heap.size = B8 := ⟨_, rfl⟩
      have g10 : Grew w9 w10 := hw10 ▸ grew_alloc w9 _
      have oA : Owns w10 B8 [.slice pa pn pc, .slice fa fn fc, .int .i64 kinds] 42 := hB8 ▸ hw10 ▸ Owns.alloc w9 _ _
      have HA10 := Lib.hid oA
      have GA := Lib.hid (GW.out.trans (hg9.trans g10))
      have HOA := Lib.hid (HOR.out.keep (hg9.trans g10))
      have HRES := Lib.hid hres
      have G910 := Lib.hid g10
      have k0 := oA.cell_at (i := 0) rfl
      have kl := oA.lt
      have hpn : pn ≤ 4096 := by
        rcases hres with ⟨-, -, -, sv, fl, h⟩ | ⟨-, -, -, h1, -⟩ | ⟨-, -, h1, -⟩
        · obtain ⟨x, y, hx⟩ := loose_form h.row
          simp only [Value.slice.injEq] at hx
          rw [hx.2.1]
          exact made_few g
        · simp only [Value.slice.injEq] at h1; omega
        · simp only [Value.slice.injEq] at h1; omega
      have hpn2 : (pn : Int) ≤ 4096 := by omega
      clear hg9 g10 oA
      go_upto_region 9 with fail
      clear hw10 hB8
      have hcase : (ka = 0 ∧ g.Tidy ∧ g.made.2.full = false ∧ ∃ sv fl, AutoAt w9 (.slice pa pn pc) (.slice fa fn fc) kinds sv fl g) ∨ ka = 1 ∨ ka = 3 := by
        rcases hres with h | ⟨h, -⟩ | ⟨h, -⟩
        · exact .inl h
        · exact .inr (.inr h)
        · exact .inr (.inl h)
      clear hres
      rcases hcase with ⟨rfl, htid, hful, sv, fl, hau⟩ | hk13
      · by_cases h300 : (300 : Int) < (pn : Int)
        · go_wp2_with fail
          refine (HLV.out w10 GA.out).mono ?_
          rintro e w11 ⟨rfl, hb11⟩
          go_wp2_with fail
          go_ret
          exact ⟨rfl, GA.out.trans hb11⟩
        · obtain ⟨x1, y1, e1⟩ := loose_form hau.row
          simp only [Value.slice.injEq] at e1
          obtain ⟨rfl, rfl, rfl⟩ := e1
          obtain ⟨x2, y2, e2⟩ := loose_form hau.first
          simp only [Value.slice.injEq] at e2
          obtain ⟨rfl, rfl, rfl⟩ := e2
          have HAU := Lib.hid (hau.grew G910.out)
          have HFUL := Lib.hid hful
          have HTID := Lib.hid htid
          obtain ⟨M, hM⟩ : ∃ M, g.made.2.out.length = M := ⟨_, rfl⟩
          have HM := Lib.hid hM
          obtain ⟨FN, hFN⟩ : ∃ n, (placesL g.made.1.1).length = n := ⟨_, rfl⟩
          have HFN := Lib.hid hFN
          rw [hM] at HA10 hpn hpn2 h300 k0 ⊢
          rw [hFN] at HA10 ⊢
          have hM300 : M ≤ 300 := by omega
          have hFN2 : (FN : Int) ≤ 9223372036854775807 := by
            have := loose_le HAU.out.first
            rw [HFN.out] at this
            unfold maxLen at this
            omega
          have hkin := hau.kinds
          have HKIN := Lib.hid hkin
          have hmb := make_bools M (by unfold reachN; omega) w10
          obtain ⟨w11, hw11⟩ : ∃ w11, w10.alloc (.cells (List.replicate M (.bool false)).toArray 4) = w11 := ⟨_, rfl⟩
          rw [hw11] at hmb
          obtain ⟨q0, hq0⟩ : ∃ q, w10.heap.size = q := ⟨_, rfl⟩
          rw [hq0] at hmb
          have g11 : Grew w10 w11 := hw11 ▸ grew_alloc w10 _
          have HB11 := Lib.hid (show BW w11 q0 (List.replicate M false) by
            unfold BW
            rw [List.map_replicate, ← hq0, ← hw11]
            exact Owns.alloc w10 _ _)
          have HP10 : Hid (P ≤ w10.heap.size) := Lib.hid (by have := GA.out.size; have := HPP.out; omega)
          have HK11 := Lib.hid (Kb.grew (s := P) g11 HP10.out)
          have HQ0 : Hid (P ≤ q0) := Lib.hid (by have := HP10.out; omega)
          clear g11 hau hful htid hM hFN hkin
          go_wp2_with fail
          clear k0 kl hw11 hmb hq0
          go_loopw [8, 9, 10] (fun a8 a9 c wr => ∃ (i k q : Nat) (AT : List Bool), a8 = .slice (some ⟨q, 0, none⟩) M M ∧ a9 = .int .i64 k ∧ c = .int .i64 i ∧ i ≤ n ∧ k ≤ i ∧ Hid (P ≤ q) ∧ Hid (Kb P w10 wr) ∧ Hid (BW wr q AT) ∧ Hid (AT.length = M) ∧ Hid (k = ((g.rules.take i).filter tokR).length)) (fun _ _ c _ => n - (intOf c).toNat)
          case atStart => exact ⟨0, 0, q0, _, rfl, rfl, rfl, Nat.zero_le _, Nat.le_refl _, HQ0.out, HK11.out, HB11.out, List.length_replicate, rfl⟩
          case round =>
            obtain ⟨i, k, q, AT, rfl, rfl, rfl, hi, hki, HQ, KR, BR, LR, HKC⟩ := hrel
            have hOG := KR.out.owns HOA.out (by decide)
            have d3 := hOG.cell_at (i := 3) rfl
            have dl := hOG.lt
            by_cases hlt : i < n
            · have hin : i < g.rules.length := by rw [HN.out]; exact hlt
              obtain ⟨rb, ro, rfl, hrbW, hrule⟩ := HQ8.out.get hin
              simp only [Nat.zero_add] at hrule
              have HWR : Hid (Below P W wr) := Lib.hid (by
                have h := GA.out
                unfold Grew at h
                rw [HPP.out] at h
                exact h.trans KR.out.low)
              rw [HPP.out] at hrbW
              have hrb : rb < wr.heap.size := Nat.lt_of_lt_of_le hrbW (Nat.le_trans HP10.out KR.out.low.size)
              have ecell : ∀ o, wr.cell? ⟨rb, o, none⟩ = W.cell? ⟨rb, o, none⟩ := fun o => HWR.out.cell hrbW
              have r1 := hrule.2.2.1
              rw [← ecell] at r1
              obtain ⟨srt, hsrt⟩ : ∃ s, g.rules[i].sort = s := ⟨_, rfl⟩
              rw [hsrt] at r1
              have HSRT := Lib.hid hsrt
              have HRULE := Lib.hid hrule
              clear hrule ecell hsrt
              by_cases htok : srt = 1 ∨ srt = 3
              · go_upto_region 16 with fail
                go_cut [91] (fun s wx => s = .bool false ∧ wx = wr)
                case first =>
                  rcases htok with rfl | rfl
                  · have q1 : ((1 : Int) != 1) = false := by decide
                    go_wp2_with fail
                    go_meet
                    exact ⟨rfl, rfl⟩
                  · have q1 : ((3 : Int) != 1) = true := by decide
                    have q3 : ((3 : Int) != 3) = false := by decide
                    go_wp2_with fail
                    go_meet
                    exact ⟨rfl, rfl⟩
                case rest =>
                  obtain ⟨rfl, rfl⟩ := hcut
                  obtain ⟨w13, hw13⟩ : ∃ z, z = wc := ⟨_, rfl⟩
                  subst hw13
                  have htk : tokR g.rules[i] = true := by
                    unfold tokR
                    rw [HSRT.out]
                    rcases htok with rfl | rfl <;> rfl
                  have HTK := Lib.hid htk
                  have hkt : k < g.toks.length ∧ ∀ h : k < g.toks.length, g.toks[k] = g.rules[i] := tok_at hin htk HKC.out
                  have HKT := Lib.hid hkt
                  clear htk htok r1 hrb hkt hOG d3 dl
                  go_wp2_with fail
                  go_loopw [11] (fun c wr' => ∃ (p : Nat) (AT' : List Bool), c = .int .i64 p ∧ p ≤ M ∧ Hid (Kb P w10 wr') ∧ Hid (BW wr' q AT') ∧ Hid (AT'.length = M) ∧ Hid (∀ z, z < p → AT'.getD z false = false)) (fun c _ => M - (intOf c).toNat)
                  case atStart => exact ⟨0, AT, rfl, Nat.zero_le _, KR.out, BR.out, LR.out, fun z h => absurd h (by omega)⟩
                  case round =>
                    obtain ⟨p, AT', rfl, hp, KR2, BR2, LR2, ZR2⟩ := hrel
                    by_cases hpm : p < M
                    · have hpl : p < AT'.length := by rw [LR2.out]; exact hpm
                      have t0 := BR2.out.cell hpl
                      have t1 := Owns.free BR2.out p
                      have t2 := Owns.lt BR2.out
                      have KR3 := Lib.hid (KR2.out.trans (Kb.set (i := p) (v := .bool false) BR2.out HQ.out (Nat.le_trans HP10.out KR2.out.low.size)))
                      have BR3 := Lib.hid (BR2.out.set (i := p) false)
                      have LR3 : Hid ((AT'.set p false).length = M) := Lib.hid (by rw [List.length_set]; exact LR2.out)
                      have ZR3 : Hid (∀ z, z < p + 1 → (AT'.set p false).getD z false = false) := Lib.hid fun z hz => by
                        rw [getD_setN hpl]
                        by_cases e : p = z
                        · rw [if_pos e]
                        · rw [if_neg e]
                          exact ZR2.out z (by omega)
                      clear hpl
                      go_wp2_with fail
                      exact ⟨⟨p + 1, _, by go_num, by omega, KR3.out, BR3.out, LR3.out, ZR3.out⟩, by simp [intOf]; omega⟩
                    · obtain rfl : M = p := by omega
                      have HB0 : Hid (Bs M AT' (fun z => Way g.made.2.out g.made.1.1 (k : Int) l 0 z)) := Lib.hid (Bs.zero LR2.out ZR2.out fun z h => h)
                      go_upto_block 6 with fail
                      refine blk6_ok HAU HA10 HM HFN HFUL HP10 hM300 hFN2 hL12 HPP GA HR0 HL HQ KR2 BR2 HB0 (hs := ?hs) (HK := Lib.hid ?hk)
                      case hs => kernel_rfl
                      case hk =>
                        intro x4 x13 x14 x15 x16 x17 x18 x19 x101 x102 x103 x104 x105 x106 x107 x108 x109 x110 x111 x112 x113 x114 x115 x116 x117 x118 x119 x120 x121 x122 x123 x124 x125 x126 x127 x128 x129 x130 x131 x132 x133 x134 x135 x136 x137 x138 x139 x140 x141 x142 x143 x144 x145 x146 x147 x148 x149 x150 x151 x152 x153 x154 x155 x156 x157 x158 x159 x160 x161 x162 x163 x164 x165 x166 x167 x168 x169 x170 x171 x172 x173 x174 x175 x176 x177 x178 x179 x180 x181 x182 x183 x184 x185 x186 x187 x188 x189 x190 x191 x192 x193 x194 x195 x196 x197 x198 x199 x200 x201 x202 x203 x204 x205 x206 x207 x208 x209 x210 x211 x212 x213 x214 x215 x216 x217 x218 x219 x220 x221 x222 x223 x224 x225 x226 x227 x228 x229 x230 x231 x232 x233 x234 x235 x236 x237 x238 x239 x240 x241 x242 x243 x244 x245 x246 x247 x248 x249 x250 x251 x252 x253 x254 x255 x256 x257 x258 wr q' AT2 lb HQ' KR4 BR4 BS4 LB4
                        have hmb := make_bools (L + 1) (by unfold reachN; omega) wr
                        rw [show ((L + 1 : Nat) : Int) = (L : Int) + 1 from rfl] at hmb
                        obtain ⟨qi, hqi⟩ : ∃ q, wr.heap.size = q := ⟨_, rfl⟩
                        obtain ⟨wa, hwa⟩ : ∃ w, wr.alloc (.cells (List.replicate (L + 1) (.bool false)).toArray 4) = w := ⟨_, rfl⟩
                        rw [hwa, hqi] at hmb
                        have ga : Grew wr wa := hwa ▸ grew_alloc wr _
                        have ba : BW wa qi (List.replicate (L + 1) false) := by
                          unfold BW
                          rw [List.map_replicate, ← hqi, ← hwa]
                          exact Owns.alloc wr _ _
                        have t0 := ba.cell (i := 0) (by rw [List.length_replicate]; omega)
                        have t1 := Owns.free ba 0
                        have t2 := Owns.lt ba
                        obtain ⟨wb, hwb⟩ : ∃ w, wa.setCell ⟨qi, 0, none⟩ (.bool true) = w := ⟨_, rfl⟩
                        have hlr : P ≤ wr.heap.size := Nat.le_trans HP10.out KR4.out.low.size
                        have hlq : P ≤ qi := by omega
                        have kb := (Kb.grew (s := P) ga hlr).trans (Kb.set (i := 0) (v := .bool true) ba hlq (Nat.le_trans hlr ga.size))
                        have bb := ba.set (i := 0) true
                        have oq := Owns.keep BR4.out ga
                        have oq2 := (set_but (i := 0) (v := .bool true) ba).owns oq (fun e => by have := Owns.lt BR4.out; omega)
                        rw [hwb] at kb bb oq2
                        have KRB := Lib.hid (KR4.out.trans kb)
                        have BRB := Lib.hid (show BW wb q' AT2 from oq2)
                        obtain ⟨inn, hinn⟩ : ∃ i, (List.replicate (L + 1) false).set 0 true = i := ⟨_, rfl⟩
                        rw [hinn] at bb
                        have hinl : inn.length = L + 1 := by rw [← hinn, List.length_set, List.length_replicate]
                        have hin0 : ∀ i, inn.getD i false = true ↔ i = 0 := fun i => by
                          rw [← hinn, getD_setN (by rw [List.length_replicate]; omega)]
                          by_cases e : 0 = i
                          · rw [if_pos e]; exact ⟨fun _ => e.symm, fun _ => rfl⟩
                          · rw [if_neg e]
                            constructor
                            · intro h
                              rw [List.getD_eq_getElem?_getD, List.getElem?_replicate] at h
                              split at h <;> cases h
                            · intro h; omega
                        have hbi := owns_bools bb (by rw [hinl]; omega)
                        rw [hinl] at hbi
                        have HBI := Lib.hid hbi
                        have HINL := Lib.hid hinl
                        have HIN0 := Lib.hid hin0
                        clear kb bb oq oq2 ba ga hinn hinl hin0 hbi hlr hlq
                        go_upto_region 52 with fail
                        have HKC2 : Hid (k + 1 = ((g.rules.take (i + 1)).filter tokR).length) := Lib.hid (by
                          rw [List.take_succ_eq_append_getElem hin, List.filter_append, List.length_append, ← HKC.out]
                          simp [List.filter, HTK.out])
                        refine reg52_ok hin hlt hL12 GA HPP HP10 KRB HOA HQ8 HTID HSL HTK HWH HFUL HKT HN HL HG0 HR0 LB4 HBI HINL HIN0 (hs := ?hs52) (HK := Lib.hid ?hk52)
                        case hs52 => kernel_rfl
                        case hk52 =>
                          intro x265 x266 x267 x268 x269 x270 x271 x272 x273 x274 x275 x276 x277 x278 x279 x280 x281 x282 x283 x284 w9 GX
                          have K9 := Lib.hid (KRB.out.trans (Kb.grew GX.out (Nat.le_trans HP10.out KRB.out.low.size)))
                          have B9 := Lib.hid (show BW w9 q' AT2 from Owns.keep BRB.out GX.out)
                          go_wp2_with fail
                          exact ⟨⟨i + 1, k + 1, q', AT2, rfl, rfl, by go_num, by omega, by omega, HQ'.out, K9.out, B9.out, BS4.out.1, HKC2⟩, by simp [intOf]; omega⟩
              · have q1 : (srt != 1) = true := by simp; omega
                have q3 : (srt != 3) = true := by simp; omega
                have hnt : Hid (k = ((g.rules.take (i + 1)).filter tokR).length) := Lib.hid (by
                  have h1 : ¬ tokR g.rules[i] = true := by
                    unfold tokR
                    rw [HSRT.out]
                    simp
                    omega
                  rw [List.take_succ_eq_append_getElem hin, List.filter_append, List.length_append, ← HKC.out]
                  simp [List.filter, h1])
                clear hOG htok
                go_wp2_with fail
                exact ⟨⟨i + 1, k, q, AT, rfl, rfl, by go_num, by omega, by omega, HQ.out, KR.out, BR.out, LR.out, hnt⟩, by simp [intOf]; omega⟩
            · obtain rfl : n = i := by omega
              have hOA := KR.out.owns HA10.out (by decide)
              have b2 := hOA.cell_at (i := 2) rfl
              have bl := hOA.lt
              have hkk : (k : Int) = kinds := by
                rw [HKIN.out, Gr.of_len8, HKC.out, ← HN.out, List.take_length]
                rfl
              have GX : Grew W wr := by
                have h := GA.out
                unfold Grew at h ⊢
                rw [HPP.out] at h ⊢
                exact h.trans KR.out.low
              have HLX := Lib.hid (HLV.out wr GX)
              have HGX := Lib.hid GX
              subst hkk
              clear hOA hOG GX
              go_wp2_with fail
              refine HLX.out.mono ?_
              rintro e w12 ⟨rfl, hg12⟩
              go_wp2_with fail
              go_ret
              exact ⟨rfl, HGX.out.trans hg12⟩
      · rcases hk13 with rfl | rfl
        all_goals
          go_wp2_with fail
          refine (HLV.out w10 GA.out).mono ?_
          rintro e w11 ⟨rfl, hb11⟩
          go_wp2_with fail
          go_ret
          exact ⟨rfl, GA.out.trans hb11⟩
end Go.Proofs.YtkinlcichclnkaaDoor

/- What a row's listed variables give: the table of TrailingZeros64. -/
namespace Go.Proofs.YtkinlcichclnkaaDoor
open Go.ChangeShapes Go.WideShapes Go.ChangeAt Go.RowKit

theorem nown : ownKnob Tryd.prog.godebug = none := by kernel_rfl
theorem nlaidOut : laidOutB Tryd.prog = true := by kernel_rfl
set_option maxRecDepth 100000 in
theorem bru_of {W : World} (h : Lib.VarReads Tryd.prog W "math/bits.deBruijn64tab" Rows.laid_math_bits_deBruijn64tab) : BruAt W := by
  obtain ⟨g, t, cs, fuel, p, hg, hty, hvar, hd⟩ := h
  have hgn : Tryd.prog.globalNamed "math/bits.deBruijn64tab" = some 0 := by kernel_rfl
  obtain rfl := Option.some.inj (hgn.symm.trans hg)
  obtain rfl := Option.some.inj ((show (Tryd.prog.globals[0]?).map (·.type) = some 116 by kernel_rfl).symm.trans hty)
  have hcs := Lib.cells_of_tab (k := .u8) (zs := bruT) (n := 64) (e := 5) (by kernel_rfl) (by kernel_rfl) (by kernel_rfl) (by kernel_rfl) ((show Rows.laid_math_bits_deBruijn64tab (H := Unit) = Lib.tabData .u8 bruT by kernel_rfl) ▸ hd)
  have ht : Lib.TabIs Tryd.prog W "math/bits.deBruijn64tab" .u8 bruT := by
    unfold Lib.TabIs
    rw [hvar, ← hcs]
  have hc : ∀ i (_ : i < 64), W.cell? ⟨0, i, none⟩ = some (.int .u8 (bruT.getD i 0)) := fun i hi => ht.cell hgn i hi
  refine ⟨?_, hc⟩
  have h0 := hc 0 (by decide)
  rcases Nat.eq_zero_or_pos W.heap.size with hz | hz
  · simp [World.cell?, Array.getElem?_eq_none (show W.heap.size ≤ 0 by omega)] at h0
  · exact hz
end Go.Proofs.YtkinlcichclnkaaDoor
