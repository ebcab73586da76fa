/-
  NARROWER THAN 'FOR EVERY INPUT', by the rows' own cells (each row's printed sentence says how): PathsGrammar: loops.
  DERIVED. THE GIVEN ROWS OF THIS SEAT. 3 by the template 'for every input the law returns true; each argument reads behind the call as it read before'; 0 by the template 'total and deterministic' (their statements: YtgdcnndmdgcjlaaTotals.lean).
  GIVEN WITH THE SEED: the statements are not yours to turn. If you find one false, say at which input.
  Laid BY PROGRAM, IN A SANDBOX (cutbox-rows.mjs): the forced cells as the released guide's own fill.sh prints them over the translation 0812943cf20da495… (all of the seat's roots in one cut). By AI agents, Wed Nov 11 2026. No macro, syntax, notation, axiom, sorry.
-/
import Derived.Test.YtgdcnndmdgcjlaaChecked
import GoSem.Claim
import GoSem.ClaimJoined
import GoSem.ClaimMapViews
import Derived.JoinedTies
import Derived.KernelRfl
namespace Go.Proofs.Ytgdcnndmdgcjlaa
/- THE CELL 'sum', in the pinned program and in every row, IS THE sha256 OF THE DUMP (.gsa) THAT YtgdcnndmdgcjlaaProg.lean LOADS. Nothing in Lean hashes anything: it is a label: what it is worth is what the hold of that sum in a sandbox is worth. -/
noncomputable def Try.pinned : Pinned := { name := "ytgdcnndmdgcjlaa", sum := "0812943cf20da49500bcab70a859d9c9f35ebe34ecc469c2d6982154ccd24ad3", checked := Try.checked }
namespace Rows
def none {H : Type} : Left H := { results := [], args := [] }

/-- 'harbingerlaw13.PathsAny': WHATEVER THE INPUT: true; the input reads as it did. -/
def pathsAnySpec : ChangeSpec := { name := "pathsAny", fn := fun _ => fun
  | [d1, d2, d3] => { results := [.lit (.bool true)], args := [d1, d2, d3] }
  | _ => none }
def pathsAnyRow : OpenClaim := { program := "ytgdcnndmdgcjlaa", sum := "0812943cf20da49500bcab70a859d9c9f35ebe34ecc469c2d6982154ccd24ad3", func := "harbinger/harbingerlaw13.PathsAny", spec := "pathsAny", unfollowed := true, recurses := true, plainKeys := false, apart := false }
def PathsAnySaid : Prop := pathsAnyRow.holds Try.pinned (OpenSpec.ofChange pathsAnySpec)

/-- ITS FALSE NEIGHBOUR: 'it returns false'. Refute it at one input. -/
def pathsAnyWrong : ChangeSpec := { name := "pathsAny", fn := fun _ => fun
  | [d1, d2, d3] => { results := [.lit (.bool false)], args := [d1, d2, d3] }
  | _ => none }
def PathsAnyWrongFalsely : Prop := pathsAnyRow.holds Try.pinned (OpenSpec.ofChange pathsAnyWrong)

/-- 'harbingerlaw13.PathsJoin': WHATEVER THE INPUT: true; the input reads as it did. -/
def pathsJoinSpec : ChangeSpec := { name := "pathsJoin", fn := fun _ => fun
  | [d1, d2, d3] => { results := [.lit (.bool true)], args := [d1, d2, d3] }
  | _ => none }
def pathsJoinRow : OpenClaim := { program := "ytgdcnndmdgcjlaa", sum := "0812943cf20da49500bcab70a859d9c9f35ebe34ecc469c2d6982154ccd24ad3", func := "harbinger/harbingerlaw13.PathsJoin", spec := "pathsJoin", unfollowed := true, recurses := true, plainKeys := false, apart := false }
def PathsJoinSaid : Prop := pathsJoinRow.holds Try.pinned (OpenSpec.ofChange pathsJoinSpec)

/-- ITS FALSE NEIGHBOUR: 'it returns false'. Refute it at one input. -/
def pathsJoinWrong : ChangeSpec := { name := "pathsJoin", fn := fun _ => fun
  | [d1, d2, d3] => { results := [.lit (.bool false)], args := [d1, d2, d3] }
  | _ => none }
def PathsJoinWrongFalsely : Prop := pathsJoinRow.holds Try.pinned (OpenSpec.ofChange pathsJoinWrong)

/-- 'harbingerlaw13.PathsGrammar': WHATEVER THE INPUT: true; the input reads as it did. -/
def pathsGrammarSpec : ChangeSpec := { name := "pathsGrammar", fn := fun _ => fun
  | [d1, d2] => { results := [.lit (.bool true)], args := [d1, d2] }
  | _ => none }
def pathsGrammarRow : OpenClaim := { program := "ytgdcnndmdgcjlaa", sum := "0812943cf20da49500bcab70a859d9c9f35ebe34ecc469c2d6982154ccd24ad3", func := "harbinger/harbingerlaw13.PathsGrammar", spec := "pathsGrammar", unfollowed := true, recurses := true, loops := true, plainKeys := false, apart := false }
def PathsGrammarSaid : Prop := pathsGrammarRow.holds Try.pinned (OpenSpec.ofChange pathsGrammarSpec)

/-- ITS FALSE NEIGHBOUR: 'it returns false'. Refute it at one input. -/
def pathsGrammarWrong : ChangeSpec := { name := "pathsGrammar", fn := fun _ => fun
  | [d1, d2] => { results := [.lit (.bool false)], args := [d1, d2] }
  | _ => none }
def PathsGrammarWrongFalsely : Prop := pathsGrammarRow.holds Try.pinned (OpenSpec.ofChange pathsGrammarWrong)

/- THE SECOND FORM. 'bulk': how many values and letters a reading holds, each counted each time it is reached (what is shared counts as often as it is met; a slice's spare places count too). A statement '..UptoSaid' is the law's where the arguments, and the package variables that the reading takes, are together of bulk at most 1048576: NARROWER than '..Said'. Prove '..Said' where nothing that the law and all that it calls make is longer than what came in: it says more and counts as full. Else prove '..UptoSaid'. A law counts once. -/
mutual
def uptoBulk {H : Type} : DataW H → Nat
  | .lit (.string bytes) => bytes.length + 1
  | .lit _ => 1
  | .nil => 1
  | .ptr d => uptoBulk d + 1
  | .slice elems spare => uptoBulkAll elems + uptoBulkAll spare + 1
  | .agg parts => uptoBulkAll parts + 1
  | .iface _ d => uptoBulk d + 1
  | .map entries => uptoBulkEntries entries + 1
  | .held _ => 1
def uptoBulkAll {H : Type} : List (DataW H) → Nat
  | [] => 0
  | d :: r => uptoBulk d + uptoBulkAll r
def uptoBulkEntries {H : Type} : List (Lit × DataW H) → Nat
  | [] => 0
  | x :: r => uptoBulkEntry x + uptoBulkEntries r
def uptoBulkEntry {H : Type} : Lit × DataW H → Nat
  | (.string bytes, d) => bytes.length + uptoBulk d + 1
  | (_, d) => uptoBulk d + 1
 end
def uptoSmall : (H : Type) → List (DataW H) → Bool := fun _ ds => decide (uptoBulkAll ds ≤ 1048576)
def OpenSpec.upto (s : _root_.Go.ChangeSpec) : _root_.Go.OpenSpec := { _root_.Go.OpenSpec.ofChange s with cond := some uptoSmall }

/-- 'harbingerlaw13.PathsAny', WHERE WHAT IT READS IS OF BULK AT MOST 1048576: true; the input reads as it did. -/
def pathsAnyUptoRow : OpenClaim := { program := "ytgdcnndmdgcjlaa", sum := "0812943cf20da49500bcab70a859d9c9f35ebe34ecc469c2d6982154ccd24ad3", func := "harbinger/harbingerlaw13.PathsAny", spec := "pathsAny", unfollowed := true, recurses := true, plainKeys := false, apart := false, narrowed := true }
def PathsAnyUptoSaid : Prop := pathsAnyUptoRow.holds Try.pinned (OpenSpec.upto pathsAnySpec)

/-- 'harbingerlaw13.PathsJoin', WHERE WHAT IT READS IS OF BULK AT MOST 1048576: true; the input reads as it did. -/
def pathsJoinUptoRow : OpenClaim := { program := "ytgdcnndmdgcjlaa", sum := "0812943cf20da49500bcab70a859d9c9f35ebe34ecc469c2d6982154ccd24ad3", func := "harbinger/harbingerlaw13.PathsJoin", spec := "pathsJoin", unfollowed := true, recurses := true, plainKeys := false, apart := false, narrowed := true }
def PathsJoinUptoSaid : Prop := pathsJoinUptoRow.holds Try.pinned (OpenSpec.upto pathsJoinSpec)

/-- 'harbingerlaw13.PathsGrammar', WHERE WHAT IT READS IS OF BULK AT MOST 1048576: true; the input reads as it did. -/
def pathsGrammarUptoRow : OpenClaim := { program := "ytgdcnndmdgcjlaa", sum := "0812943cf20da49500bcab70a859d9c9f35ebe34ecc469c2d6982154ccd24ad3", func := "harbinger/harbingerlaw13.PathsGrammar", spec := "pathsGrammar", unfollowed := true, recurses := true, loops := true, plainKeys := false, apart := false, narrowed := true }
def PathsGrammarUptoSaid : Prop := pathsGrammarUptoRow.holds Try.pinned (OpenSpec.upto pathsGrammarSpec)

end Rows
end Go.Proofs.Ytgdcnndmdgcjlaa
