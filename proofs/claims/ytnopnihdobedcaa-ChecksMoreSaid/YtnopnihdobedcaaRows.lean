/-
  NARROWER THAN 'FOR EVERY INPUT', by the rows' own cells (each row's printed sentence says how): NullsGrow: loops · NullsClosed: loops · ChecksFine: loops · ChecksMore: loops.
  DERIVED. THE GIVEN ROWS OF THIS SEAT. 6 by the template 'for every input the law returns true; each argument reads behind the call as it read before'; 0 by the template 'total and deterministic' (their statements: YtnopnihdobedcaaTotals.lean).
  GIVEN WITH THE SEED: the statements are not yours to turn. If you find one false, say at which input.
  Laid BY PROGRAM, IN A SANDBOX (cutbox-rows.mjs): the forced cells as the released guide's own fill.sh prints them over the translation 1ec520a0e7a02b00… (all of the seat's roots in one cut). By AI agents, Wed Nov 11 2026. No macro, syntax, notation, axiom, sorry.
-/
import Derived.Test.YtnopnihdobedcaaChecked
import GoSem.Claim
import GoSem.ClaimJoined
import GoSem.ClaimMapViews
import Derived.JoinedTies
import Derived.KernelRfl
namespace Go.Proofs.Ytnopnihdobedcaa
/- THE CELL 'sum', in the pinned program and in every row, IS THE sha256 OF THE DUMP (.gsa) THAT YtnopnihdobedcaaProg.lean LOADS. Nothing in Lean hashes anything: it is a label: what it is worth is what the hold of that sum in a sandbox is worth. -/
noncomputable def Try.pinned : Pinned := { name := "ytnopnihdobedcaa", sum := "1ec520a0e7a02b00faa7ead22f58db21daec07a51e6f50ee59bc3a3d0f5c102d", checked := Try.checked }
namespace Rows
def none {H : Type} : Left H := { results := [], args := [] }

/-- 'harbingerlaw05.NullsGrow': WHATEVER THE INPUT: true; the input reads as it did. -/
def nullsGrowSpec : ChangeSpec := { name := "nullsGrow", fn := fun _ => fun
  | [d1, d2] => { results := [.lit (.bool true)], args := [d1, d2] }
  | _ => none }
def nullsGrowRow : OpenClaim := { program := "ytnopnihdobedcaa", sum := "1ec520a0e7a02b00faa7ead22f58db21daec07a51e6f50ee59bc3a3d0f5c102d", func := "harbinger/harbingerlaw05.NullsGrow", spec := "nullsGrow", unfollowed := true, recurses := true, loops := true, plainKeys := false, apart := false }
def NullsGrowSaid : Prop := nullsGrowRow.holds Try.pinned (OpenSpec.ofChange nullsGrowSpec)

/-- ITS FALSE NEIGHBOUR: 'it returns false'. Refute it at one input. -/
def nullsGrowWrong : ChangeSpec := { name := "nullsGrow", fn := fun _ => fun
  | [d1, d2] => { results := [.lit (.bool false)], args := [d1, d2] }
  | _ => none }
def NullsGrowWrongFalsely : Prop := nullsGrowRow.holds Try.pinned (OpenSpec.ofChange nullsGrowWrong)

/-- 'harbingerlaw05.NullsClosed': WHATEVER THE INPUT: true; the input reads as it did. -/
def nullsClosedSpec : ChangeSpec := { name := "nullsClosed", fn := fun _ => fun
  | [d] => { results := [.lit (.bool true)], args := [d] }
  | _ => none }
def nullsClosedRow : OpenClaim := { program := "ytnopnihdobedcaa", sum := "1ec520a0e7a02b00faa7ead22f58db21daec07a51e6f50ee59bc3a3d0f5c102d", func := "harbinger/harbingerlaw05.NullsClosed", spec := "nullsClosed", unfollowed := true, recurses := true, loops := true, plainKeys := false, apart := false }
def NullsClosedSaid : Prop := nullsClosedRow.holds Try.pinned (OpenSpec.ofChange nullsClosedSpec)

/-- ITS FALSE NEIGHBOUR: 'it returns false'. Refute it at one input. -/
def nullsClosedWrong : ChangeSpec := { name := "nullsClosed", fn := fun _ => fun
  | [d] => { results := [.lit (.bool false)], args := [d] }
  | _ => none }
def NullsClosedWrongFalsely : Prop := nullsClosedRow.holds Try.pinned (OpenSpec.ofChange nullsClosedWrong)

/-- 'harbingerlaw06.ChecksFine': WHATEVER THE INPUT: true; the input reads as it did. -/
def checksFineSpec : ChangeSpec := { name := "checksFine", fn := fun _ => fun
  | [d] => { results := [.lit (.bool true)], args := [d] }
  | _ => none }
def checksFineRow : OpenClaim := { program := "ytnopnihdobedcaa", sum := "1ec520a0e7a02b00faa7ead22f58db21daec07a51e6f50ee59bc3a3d0f5c102d", func := "harbinger/harbingerlaw06.ChecksFine", spec := "checksFine", unfollowed := true, recurses := true, loops := true, plainKeys := false, apart := false }
def ChecksFineSaid : Prop := checksFineRow.holds Try.pinned (OpenSpec.ofChange checksFineSpec)

/-- ITS FALSE NEIGHBOUR: 'it returns false'. Refute it at one input. -/
def checksFineWrong : ChangeSpec := { name := "checksFine", fn := fun _ => fun
  | [d] => { results := [.lit (.bool false)], args := [d] }
  | _ => none }
def ChecksFineWrongFalsely : Prop := checksFineRow.holds Try.pinned (OpenSpec.ofChange checksFineWrong)

/-- 'harbingerlaw06.ChecksMore': WHATEVER THE INPUT: true; the input reads as it did. -/
def checksMoreSpec : ChangeSpec := { name := "checksMore", fn := fun _ => fun
  | [d1, d2] => { results := [.lit (.bool true)], args := [d1, d2] }
  | _ => none }
def checksMoreRow : OpenClaim := { program := "ytnopnihdobedcaa", sum := "1ec520a0e7a02b00faa7ead22f58db21daec07a51e6f50ee59bc3a3d0f5c102d", func := "harbinger/harbingerlaw06.ChecksMore", spec := "checksMore", unfollowed := true, recurses := true, loops := true, plainKeys := false, apart := false }
def ChecksMoreSaid : Prop := checksMoreRow.holds Try.pinned (OpenSpec.ofChange checksMoreSpec)

/-- ITS FALSE NEIGHBOUR: 'it returns false'. Refute it at one input. -/
def checksMoreWrong : ChangeSpec := { name := "checksMore", fn := fun _ => fun
  | [d1, d2] => { results := [.lit (.bool false)], args := [d1, d2] }
  | _ => none }
def ChecksMoreWrongFalsely : Prop := checksMoreRow.holds Try.pinned (OpenSpec.ofChange checksMoreWrong)

/-- 'harbingerlaw13.PathsAny': WHATEVER THE INPUT: true; the input reads as it did. -/
def pathsAnySpec : ChangeSpec := { name := "pathsAny", fn := fun _ => fun
  | [d1, d2, d3] => { results := [.lit (.bool true)], args := [d1, d2, d3] }
  | _ => none }
def pathsAnyRow : OpenClaim := { program := "ytnopnihdobedcaa", sum := "1ec520a0e7a02b00faa7ead22f58db21daec07a51e6f50ee59bc3a3d0f5c102d", func := "harbinger/harbingerlaw13.PathsAny", spec := "pathsAny", unfollowed := true, recurses := true, plainKeys := false, apart := false }
def PathsAnySaid : Prop := pathsAnyRow.holds Try.pinned (OpenSpec.ofChange pathsAnySpec)

/-- ITS FALSE NEIGHBOUR: 'it returns false'. Refute it at one input. -/
def pathsAnyWrong : ChangeSpec := { name := "pathsAny", fn := fun _ => fun
  | [d1, d2, d3] => { results := [.lit (.bool false)], args := [d1, d2, d3] }
  | _ => none }
def PathsAnyWrongFalsely : Prop := pathsAnyRow.holds Try.pinned (OpenSpec.ofChange pathsAnyWrong)

/-- 'harbingerlaw13.PathsJoin': WHATEVER THE INPUT: true; the input reads as it did. -/
def pathsJoinSpec : ChangeSpec := { name := "pathsJoin", fn := fun _ => fun
  | [d1, d2, d3] => { results := [.lit (.bool true)], args := [d1, d2, d3] }
  | _ => none }
def pathsJoinRow : OpenClaim := { program := "ytnopnihdobedcaa", sum := "1ec520a0e7a02b00faa7ead22f58db21daec07a51e6f50ee59bc3a3d0f5c102d", func := "harbinger/harbingerlaw13.PathsJoin", spec := "pathsJoin", unfollowed := true, recurses := true, plainKeys := false, apart := false }
def PathsJoinSaid : Prop := pathsJoinRow.holds Try.pinned (OpenSpec.ofChange pathsJoinSpec)

/-- ITS FALSE NEIGHBOUR: 'it returns false'. Refute it at one input. -/
def pathsJoinWrong : ChangeSpec := { name := "pathsJoin", fn := fun _ => fun
  | [d1, d2, d3] => { results := [.lit (.bool false)], args := [d1, d2, d3] }
  | _ => none }
def PathsJoinWrongFalsely : Prop := pathsJoinRow.holds Try.pinned (OpenSpec.ofChange pathsJoinWrong)

/- THE SECOND FORM. 'bulk': how many values and letters a reading holds, each counted each time it is reached (what is shared counts as often as it is met; a slice's spare places count too). A statement '..UptoSaid' is the law's where the arguments, and the package variables that the reading takes, are together of bulk at most 1048576: NARROWER than '..Said'. Prove '..Said' where nothing that the law and all that it calls make is longer than what came in: it says more and counts as full. Else prove '..UptoSaid'. A law counts once. -/
mutual
def uptoBulk {H : Type} : DataW H → Nat
  | .lit (.string bytes) => bytes.length + 1
  | .lit _ => 1
  | .nil => 1
  | .ptr d => uptoBulk d + 1
  | .slice elems spare => uptoBulkAll elems + uptoBulkAll spare + 1
  | .agg parts => uptoBulkAll parts + 1
  | .iface _ d => uptoBulk d + 1
  | .map entries => uptoBulkEntries entries + 1
  | .held _ => 1
def uptoBulkAll {H : Type} : List (DataW H) → Nat
  | [] => 0
  | d :: r => uptoBulk d + uptoBulkAll r
def uptoBulkEntries {H : Type} : List (Lit × DataW H) → Nat
  | [] => 0
  | x :: r => uptoBulkEntry x + uptoBulkEntries r
def uptoBulkEntry {H : Type} : Lit × DataW H → Nat
  | (.string bytes, d) => bytes.length + uptoBulk d + 1
  | (_, d) => uptoBulk d + 1
 end
def uptoSmall : (H : Type) → List (DataW H) → Bool := fun _ ds => decide (uptoBulkAll ds ≤ 1048576)
def OpenSpec.upto (s : _root_.Go.ChangeSpec) : _root_.Go.OpenSpec := { _root_.Go.OpenSpec.ofChange s with cond := some uptoSmall }

/-- 'harbingerlaw05.NullsGrow', WHERE WHAT IT READS IS OF BULK AT MOST 1048576: true; the input reads as it did. -/
def nullsGrowUptoRow : OpenClaim := { program := "ytnopnihdobedcaa", sum := "1ec520a0e7a02b00faa7ead22f58db21daec07a51e6f50ee59bc3a3d0f5c102d", func := "harbinger/harbingerlaw05.NullsGrow", spec := "nullsGrow", unfollowed := true, recurses := true, loops := true, plainKeys := false, apart := false, narrowed := true }
def NullsGrowUptoSaid : Prop := nullsGrowUptoRow.holds Try.pinned (OpenSpec.upto nullsGrowSpec)

/-- 'harbingerlaw05.NullsClosed', WHERE WHAT IT READS IS OF BULK AT MOST 1048576: true; the input reads as it did. -/
def nullsClosedUptoRow : OpenClaim := { program := "ytnopnihdobedcaa", sum := "1ec520a0e7a02b00faa7ead22f58db21daec07a51e6f50ee59bc3a3d0f5c102d", func := "harbinger/harbingerlaw05.NullsClosed", spec := "nullsClosed", unfollowed := true, recurses := true, loops := true, plainKeys := false, apart := false, narrowed := true }
def NullsClosedUptoSaid : Prop := nullsClosedUptoRow.holds Try.pinned (OpenSpec.upto nullsClosedSpec)

/-- 'harbingerlaw06.ChecksFine', WHERE WHAT IT READS IS OF BULK AT MOST 1048576: true; the input reads as it did. -/
def checksFineUptoRow : OpenClaim := { program := "ytnopnihdobedcaa", sum := "1ec520a0e7a02b00faa7ead22f58db21daec07a51e6f50ee59bc3a3d0f5c102d", func := "harbinger/harbingerlaw06.ChecksFine", spec := "checksFine", unfollowed := true, recurses := true, loops := true, plainKeys := false, apart := false, narrowed := true }
def ChecksFineUptoSaid : Prop := checksFineUptoRow.holds Try.pinned (OpenSpec.upto checksFineSpec)

/-- 'harbingerlaw06.ChecksMore', WHERE WHAT IT READS IS OF BULK AT MOST 1048576: true; the input reads as it did. -/
def checksMoreUptoRow : OpenClaim := { program := "ytnopnihdobedcaa", sum := "1ec520a0e7a02b00faa7ead22f58db21daec07a51e6f50ee59bc3a3d0f5c102d", func := "harbinger/harbingerlaw06.ChecksMore", spec := "checksMore", unfollowed := true, recurses := true, loops := true, plainKeys := false, apart := false, narrowed := true }
def ChecksMoreUptoSaid : Prop := checksMoreUptoRow.holds Try.pinned (OpenSpec.upto checksMoreSpec)

/-- 'harbingerlaw13.PathsAny', WHERE WHAT IT READS IS OF BULK AT MOST 1048576: true; the input reads as it did. -/
def pathsAnyUptoRow : OpenClaim := { program := "ytnopnihdobedcaa", sum := "1ec520a0e7a02b00faa7ead22f58db21daec07a51e6f50ee59bc3a3d0f5c102d", func := "harbinger/harbingerlaw13.PathsAny", spec := "pathsAny", unfollowed := true, recurses := true, plainKeys := false, apart := false, narrowed := true }
def PathsAnyUptoSaid : Prop := pathsAnyUptoRow.holds Try.pinned (OpenSpec.upto pathsAnySpec)

/-- 'harbingerlaw13.PathsJoin', WHERE WHAT IT READS IS OF BULK AT MOST 1048576: true; the input reads as it did. -/
def pathsJoinUptoRow : OpenClaim := { program := "ytnopnihdobedcaa", sum := "1ec520a0e7a02b00faa7ead22f58db21daec07a51e6f50ee59bc3a3d0f5c102d", func := "harbinger/harbingerlaw13.PathsJoin", spec := "pathsJoin", unfollowed := true, recurses := true, plainKeys := false, apart := false, narrowed := true }
def PathsJoinUptoSaid : Prop := pathsJoinUptoRow.holds Try.pinned (OpenSpec.upto pathsJoinSpec)

end Rows
end Go.Proofs.Ytnopnihdobedcaa
