/- nulls.token: what takes a token at once. -/
import Derived.Test.YtnopnihdobedcaaMay2
import Derived.Test.YtnopnihdobedcaaOwn
namespace Go.Proofs.Ytnopnihdobedcaa
open Go.RowKit
/-- is it a token's rule? -/
def Rl.token (r : Rl) : Bool := !(r.sort == 0)

theorem token_ok (r : Rl) (W : World) (v0 v1 v2 v3 v4 v5 v6 v7 v8 v9 : Value) (hR : v1 = .int .u8 r.sort) :
    Calls Try.prog 38 #[.agg #[v0, v1, v2, v3, v4, v5, v6, v7, v8, v9]] W fun e W2 => e = .returned (.bool r.token) ∧ Below W.heap.size W W2 := by
  subst hR
  go_enter Try.func38, Try.ntmps38
  go_wp2
  go_ret
  exact ⟨rfl, (Below.refl _ _).alloc (Nat.le_refl _) _⟩
end Go.Proofs.Ytnopnihdobedcaa
