/- The rule for a statement whose order Go leaves open (Hav), for a round of a range over a function. No program in sight. -/
import Derived.Test.YtnopnihdobedcaaHav
import Derived.OrdersIn
import Derived.RangeFuncCalls
import Derived.RangeFuncLeaves
namespace Go.Proofs.Ytnopnihdobedcaa
open Go.RowKit
section
variable {P : Program} {ops : Array Oper} {Q : Exit → Act → World → Prop} {l n : Nat}

theorem uponIn_of_upon {o : Oper} {a : Act} {K : Act → World → Prop} {r : Result Next} (h : o.upon P a K Q r) : o.uponIn (Fence.wide.inRound l) n P a K Q r := by
  cases r with
  | halt x w =>
    cases x <;> first
      | exact h
      | exact h.elim
  | ok m w =>
    cases m <;> first
      | exact h
      | exact h.elim
      | exact ⟨fun h => (by cases h), CallsIn.inRound l (callsIn_wide.2 h)⟩
      | exact ⟨fun h => (by cases h), fun c cs _ => let ⟨v, w', r, s⟩ := h c cs; ⟨v, w', r, stepsIn_wide.2 s⟩⟩

def noDefer (ops : Array Oper) : Bool := ops.toList.all fun o => match o.op with | .defer _ => false | _ => true

theorem wpOpIn_of {i : Nat} {K K' : Act → World → Prop} {a : Act} {w : World} (hnd : noDefer ops = true) (hQ : ¬ LetsOut Q) (hK : ∀ a w, K a w → K' a w) (h : wpOp P ops Q i K a w) : wpOpIn (Fence.wide.inRound l) n P ops Q i K' a w := by
  have h' := wpOp_mono hK h
  clear h hK
  unfold wpOp at h'
  unfold wpOpIn
  cases ho : ops[i]? with
  | none => simpa [ho] using h'
  | some o =>
    simp only [ho] at h'
    have hd : ∀ c, o.op ≠ .defer c := fun c hc => by
      have hm : o ∈ ops.toList := by
        have := Array.mem_of_getElem? ho
        simpa using this
      have := List.all_eq_true.1 hnd o hm
      rw [hc] at this
      cases this
    simp only
    split
    · rename_i hw
      rw [if_pos hw] at h'
      rcases h' with h' | ⟨_, h'⟩
      · refine ⟨fun _ _ => trivial, ?_⟩
        rw [Oper.semAt_eq _ _ _ hd]
        exact uponIn_of_upon h'
      · exact absurd h' hQ
    · rename_i hw
      rw [if_neg hw] at h'
      exact ⟨fun _ _ => trivial, h'⟩

theorem wpAnyIn_of {md : Region.Mode} (hnd : noDefer ops = true) (hQ : ¬ LetsOut Q) : ∀ (f : Nat) (S : Array Bool) (a : Act) (w : World), wpAny P md ops Q f S a w → wpAnyIn (Fence.wide.inRound l) n P md ops Q f S a w
  | 0, _, _, _, h => h
  | f + 1, _, _, _, h => ⟨h.1, fun i hi => wpOpIn_of hnd hQ (fun a w h' => wpAnyIn_of hnd hQ f _ a w h') (h.2 i hi)⟩

theorem wpIn_region_hav {id : Nat} {a0 : Act} {w : World} (hm : P.follows .mixedOrders = true) (hok : havB ops = true) (hnd : noDefer ops = true) (hQ : ¬ LetsOut Q) (h : HavG P ops Q w ops.toList 0 (fun _ => a0) []) : (Code.region id ops true).wpIn (Fence.wide.inRound l) n P Q a0 w :=
  wpIn_region_any hm (wpAnyIn_of hnd hQ _ _ _ _ (wpAny_hav hok h))
theorem wpIn_region_hav_lit {id : Nat} {a0 : Act} {w : World} {os : List Oper} (hm : P.follows .mixedOrders = true) (hok : havB os.toArray = true) (hnd : noDefer os.toArray = true) (hQ : ¬ LetsOut Q) (h : HavG P os.toArray Q w os 0 (fun _ => a0) []) :
    (Code.region id os.toArray true).wpIn (Fence.wide.inRound l) n P Q a0 w :=
  wpIn_region_hav hm hok hnd hQ (by simpa using h)
end
end Go.Proofs.Ytnopnihdobedcaa
