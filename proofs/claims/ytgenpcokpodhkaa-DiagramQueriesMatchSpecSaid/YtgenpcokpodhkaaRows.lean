/-
  No cell of these rows narrows 'for every input' (looked for: loops, veiled, ifaces, maps, wideKeys, modest, calm, conditions, laid).
  DERIVED. THE GIVEN ROWS OF THIS SEAT. 7 by the template 'for every input the law returns true; each argument reads behind the call as it read before'; 0 by the template 'total and deterministic' (their statements: YtgenpcokpodhkaaTotals.lean).
  GIVEN WITH THE SEED: the statements are not yours to turn. If you find one false, say at which input.
  Laid BY PROGRAM, IN A SANDBOX (cutbox-rows.mjs): the forced cells as the released guide's own fill.sh prints them over the translation 3941fbdf1f9773b5… (all of the seat's roots in one cut). By AI agents, Wed Nov 11 2026. No macro, syntax, notation, axiom, sorry.
-/
import Derived.Test.YtgenpcokpodhkaaChecked
import GoSem.Claim
import GoSem.ClaimJoined
import GoSem.ClaimMapViews
import Derived.JoinedTies
import Derived.KernelRfl
namespace Go.Proofs.Ytgenpcokpodhkaa
/- THE CELL 'sum', in the pinned program and in every row, IS THE sha256 OF THE DUMP (.gsa) THAT YtgenpcokpodhkaaProg.lean LOADS. Nothing in Lean hashes anything: it is a label: what it is worth is what the hold of that sum in a sandbox is worth. -/
noncomputable def Try.pinned : Pinned := { name := "ytgenpcokpodhkaa", sum := "3941fbdf1f9773b51adeab89e4fbb4c4ba885826d992725a51093d9a1012fdb5", checked := Try.checked }
namespace Rows
def none {H : Type} : Left H := { results := [], args := [] }

/-- 'helmsmanlaw6.DiagramOfMatchesSpec': WHATEVER THE INPUT: true; the input reads as it did. -/
def diagramOfMatchesSpecSpec : ChangeSpec := { name := "diagramOfMatchesSpec", fn := fun _ => fun
  | [d1, d2] => { results := [.lit (.bool true)], args := [d1, d2] }
  | _ => none }
def diagramOfMatchesSpecRow : OpenClaim := { program := "ytgenpcokpodhkaa", sum := "3941fbdf1f9773b51adeab89e4fbb4c4ba885826d992725a51093d9a1012fdb5", func := "helmsman/helmsmanlaw6.DiagramOfMatchesSpec", spec := "diagramOfMatchesSpec", unfollowed := true, recurses := true, plainKeys := false, apart := false }
def DiagramOfMatchesSpecSaid : Prop := diagramOfMatchesSpecRow.holds Try.pinned (OpenSpec.ofChange diagramOfMatchesSpecSpec)

/-- ITS FALSE NEIGHBOUR: 'it returns false'. Refute it at one input. -/
def diagramOfMatchesSpecWrong : ChangeSpec := { name := "diagramOfMatchesSpec", fn := fun _ => fun
  | [d1, d2] => { results := [.lit (.bool false)], args := [d1, d2] }
  | _ => none }
def DiagramOfMatchesSpecWrongFalsely : Prop := diagramOfMatchesSpecRow.holds Try.pinned (OpenSpec.ofChange diagramOfMatchesSpecWrong)

/-- 'helmsmanlaw6.DiagramBinaryMatchSpec': WHATEVER THE INPUT: true; the input reads as it did. -/
def diagramBinaryMatchSpecSpec : ChangeSpec := { name := "diagramBinaryMatchSpec", fn := fun _ => fun
  | [d1, d2] => { results := [.lit (.bool true)], args := [d1, d2] }
  | _ => none }
def diagramBinaryMatchSpecRow : OpenClaim := { program := "ytgenpcokpodhkaa", sum := "3941fbdf1f9773b51adeab89e4fbb4c4ba885826d992725a51093d9a1012fdb5", func := "helmsman/helmsmanlaw6.DiagramBinaryMatchSpec", spec := "diagramBinaryMatchSpec", unfollowed := true, recurses := true, plainKeys := false, apart := false }
def DiagramBinaryMatchSpecSaid : Prop := diagramBinaryMatchSpecRow.holds Try.pinned (OpenSpec.ofChange diagramBinaryMatchSpecSpec)

/-- ITS FALSE NEIGHBOUR: 'it returns false'. Refute it at one input. -/
def diagramBinaryMatchSpecWrong : ChangeSpec := { name := "diagramBinaryMatchSpec", fn := fun _ => fun
  | [d1, d2] => { results := [.lit (.bool false)], args := [d1, d2] }
  | _ => none }
def DiagramBinaryMatchSpecWrongFalsely : Prop := diagramBinaryMatchSpecRow.holds Try.pinned (OpenSpec.ofChange diagramBinaryMatchSpecWrong)

/-- 'helmsmanlaw6.DiagramUnaryMatchSpec': WHATEVER THE INPUT: true; the input reads as it did. -/
def diagramUnaryMatchSpecSpec : ChangeSpec := { name := "diagramUnaryMatchSpec", fn := fun _ => fun
  | [d1, d2] => { results := [.lit (.bool true)], args := [d1, d2] }
  | _ => none }
def diagramUnaryMatchSpecRow : OpenClaim := { program := "ytgenpcokpodhkaa", sum := "3941fbdf1f9773b51adeab89e4fbb4c4ba885826d992725a51093d9a1012fdb5", func := "helmsman/helmsmanlaw6.DiagramUnaryMatchSpec", spec := "diagramUnaryMatchSpec", unfollowed := true, recurses := true, plainKeys := false, apart := false }
def DiagramUnaryMatchSpecSaid : Prop := diagramUnaryMatchSpecRow.holds Try.pinned (OpenSpec.ofChange diagramUnaryMatchSpecSpec)

/-- ITS FALSE NEIGHBOUR: 'it returns false'. Refute it at one input. -/
def diagramUnaryMatchSpecWrong : ChangeSpec := { name := "diagramUnaryMatchSpec", fn := fun _ => fun
  | [d1, d2] => { results := [.lit (.bool false)], args := [d1, d2] }
  | _ => none }
def DiagramUnaryMatchSpecWrongFalsely : Prop := diagramUnaryMatchSpecRow.holds Try.pinned (OpenSpec.ofChange diagramUnaryMatchSpecWrong)

/-- 'helmsmanlaw6.DiagramQueriesMatchSpec': WHATEVER THE INPUT: true; the input reads as it did. -/
def diagramQueriesMatchSpecSpec : ChangeSpec := { name := "diagramQueriesMatchSpec", fn := fun _ => fun
  | [d1, d2] => { results := [.lit (.bool true)], args := [d1, d2] }
  | _ => none }
def diagramQueriesMatchSpecRow : OpenClaim := { program := "ytgenpcokpodhkaa", sum := "3941fbdf1f9773b51adeab89e4fbb4c4ba885826d992725a51093d9a1012fdb5", func := "helmsman/helmsmanlaw6.DiagramQueriesMatchSpec", spec := "diagramQueriesMatchSpec", unfollowed := true, recurses := true, plainKeys := false, apart := false }
def DiagramQueriesMatchSpecSaid : Prop := diagramQueriesMatchSpecRow.holds Try.pinned (OpenSpec.ofChange diagramQueriesMatchSpecSpec)

/-- ITS FALSE NEIGHBOUR: 'it returns false'. Refute it at one input. -/
def diagramQueriesMatchSpecWrong : ChangeSpec := { name := "diagramQueriesMatchSpec", fn := fun _ => fun
  | [d1, d2] => { results := [.lit (.bool false)], args := [d1, d2] }
  | _ => none }
def DiagramQueriesMatchSpecWrongFalsely : Prop := diagramQueriesMatchSpecRow.holds Try.pinned (OpenSpec.ofChange diagramQueriesMatchSpecWrong)

/-- 'helmsmanlaw6.DiagramIsBooleanAlgebra': WHATEVER THE INPUT: true; the input reads as it did. -/
def diagramIsBooleanAlgebraSpec : ChangeSpec := { name := "diagramIsBooleanAlgebra", fn := fun _ => fun
  | [d1, d2] => { results := [.lit (.bool true)], args := [d1, d2] }
  | _ => none }
def diagramIsBooleanAlgebraRow : OpenClaim := { program := "ytgenpcokpodhkaa", sum := "3941fbdf1f9773b51adeab89e4fbb4c4ba885826d992725a51093d9a1012fdb5", func := "helmsman/helmsmanlaw6.DiagramIsBooleanAlgebra", spec := "diagramIsBooleanAlgebra", unfollowed := true, recurses := true, plainKeys := false, apart := false }
def DiagramIsBooleanAlgebraSaid : Prop := diagramIsBooleanAlgebraRow.holds Try.pinned (OpenSpec.ofChange diagramIsBooleanAlgebraSpec)

/-- ITS FALSE NEIGHBOUR: 'it returns false'. Refute it at one input. -/
def diagramIsBooleanAlgebraWrong : ChangeSpec := { name := "diagramIsBooleanAlgebra", fn := fun _ => fun
  | [d1, d2] => { results := [.lit (.bool false)], args := [d1, d2] }
  | _ => none }
def DiagramIsBooleanAlgebraWrongFalsely : Prop := diagramIsBooleanAlgebraRow.holds Try.pinned (OpenSpec.ofChange diagramIsBooleanAlgebraWrong)

/-- 'helmsmanlaw6.DiagramCountsAddUp': WHATEVER THE INPUT: true; the input reads as it did. -/
def diagramCountsAddUpSpec : ChangeSpec := { name := "diagramCountsAddUp", fn := fun _ => fun
  | [d1, d2] => { results := [.lit (.bool true)], args := [d1, d2] }
  | _ => none }
def diagramCountsAddUpRow : OpenClaim := { program := "ytgenpcokpodhkaa", sum := "3941fbdf1f9773b51adeab89e4fbb4c4ba885826d992725a51093d9a1012fdb5", func := "helmsman/helmsmanlaw6.DiagramCountsAddUp", spec := "diagramCountsAddUp", unfollowed := true, recurses := true, plainKeys := false, apart := false }
def DiagramCountsAddUpSaid : Prop := diagramCountsAddUpRow.holds Try.pinned (OpenSpec.ofChange diagramCountsAddUpSpec)

/-- ITS FALSE NEIGHBOUR: 'it returns false'. Refute it at one input. -/
def diagramCountsAddUpWrong : ChangeSpec := { name := "diagramCountsAddUp", fn := fun _ => fun
  | [d1, d2] => { results := [.lit (.bool false)], args := [d1, d2] }
  | _ => none }
def DiagramCountsAddUpWrongFalsely : Prop := diagramCountsAddUpRow.holds Try.pinned (OpenSpec.ofChange diagramCountsAddUpWrong)

/-- 'helmsmanlaw6.DiagramPickIsTrue': WHATEVER THE INPUT: true; the input reads as it did. -/
def diagramPickIsTrueSpec : ChangeSpec := { name := "diagramPickIsTrue", fn := fun _ => fun
  | [d] => { results := [.lit (.bool true)], args := [d] }
  | _ => none }
def diagramPickIsTrueRow : OpenClaim := { program := "ytgenpcokpodhkaa", sum := "3941fbdf1f9773b51adeab89e4fbb4c4ba885826d992725a51093d9a1012fdb5", func := "helmsman/helmsmanlaw6.DiagramPickIsTrue", spec := "diagramPickIsTrue", unfollowed := true, recurses := true, plainKeys := false, apart := false }
def DiagramPickIsTrueSaid : Prop := diagramPickIsTrueRow.holds Try.pinned (OpenSpec.ofChange diagramPickIsTrueSpec)

/-- ITS FALSE NEIGHBOUR: 'it returns false'. Refute it at one input. -/
def diagramPickIsTrueWrong : ChangeSpec := { name := "diagramPickIsTrue", fn := fun _ => fun
  | [d] => { results := [.lit (.bool false)], args := [d] }
  | _ => none }
def DiagramPickIsTrueWrongFalsely : Prop := diagramPickIsTrueRow.holds Try.pinned (OpenSpec.ofChange diagramPickIsTrueWrong)

/- THE SECOND FORM. 'bulk': how many values and letters a reading holds, each counted each time it is reached (what is shared counts as often as it is met; a slice's spare places count too). A statement '..UptoSaid' is the law's where the arguments, and the package variables that the reading takes, are together of bulk at most 1048576: NARROWER than '..Said'. Prove '..Said' where nothing that the law and all that it calls make is longer than what came in: it says more and counts as full. Else prove '..UptoSaid'. A law counts once. -/
mutual
def uptoBulk {H : Type} : DataW H → Nat
  | .lit (.string bytes) => bytes.length + 1
  | .lit _ => 1
  | .nil => 1
  | .ptr d => uptoBulk d + 1
  | .slice elems spare => uptoBulkAll elems + uptoBulkAll spare + 1
  | .agg parts => uptoBulkAll parts + 1
  | .iface _ d => uptoBulk d + 1
  | .map entries => uptoBulkEntries entries + 1
  | .held _ => 1
def uptoBulkAll {H : Type} : List (DataW H) → Nat
  | [] => 0
  | d :: r => uptoBulk d + uptoBulkAll r
def uptoBulkEntries {H : Type} : List (Lit × DataW H) → Nat
  | [] => 0
  | x :: r => uptoBulkEntry x + uptoBulkEntries r
def uptoBulkEntry {H : Type} : Lit × DataW H → Nat
  | (.string bytes, d) => bytes.length + uptoBulk d + 1
  | (_, d) => uptoBulk d + 1
 end
def uptoSmall : (H : Type) → List (DataW H) → Bool := fun _ ds => decide (uptoBulkAll ds ≤ 1048576)
def OpenSpec.upto (s : _root_.Go.ChangeSpec) : _root_.Go.OpenSpec := { _root_.Go.OpenSpec.ofChange s with cond := some uptoSmall }

/-- 'helmsmanlaw6.DiagramOfMatchesSpec', WHERE WHAT IT READS IS OF BULK AT MOST 1048576: true; the input reads as it did. -/
def diagramOfMatchesSpecUptoRow : OpenClaim := { program := "ytgenpcokpodhkaa", sum := "3941fbdf1f9773b51adeab89e4fbb4c4ba885826d992725a51093d9a1012fdb5", func := "helmsman/helmsmanlaw6.DiagramOfMatchesSpec", spec := "diagramOfMatchesSpec", unfollowed := true, recurses := true, plainKeys := false, apart := false, narrowed := true }
def DiagramOfMatchesSpecUptoSaid : Prop := diagramOfMatchesSpecUptoRow.holds Try.pinned (OpenSpec.upto diagramOfMatchesSpecSpec)

/-- 'helmsmanlaw6.DiagramBinaryMatchSpec', WHERE WHAT IT READS IS OF BULK AT MOST 1048576: true; the input reads as it did. -/
def diagramBinaryMatchSpecUptoRow : OpenClaim := { program := "ytgenpcokpodhkaa", sum := "3941fbdf1f9773b51adeab89e4fbb4c4ba885826d992725a51093d9a1012fdb5", func := "helmsman/helmsmanlaw6.DiagramBinaryMatchSpec", spec := "diagramBinaryMatchSpec", unfollowed := true, recurses := true, plainKeys := false, apart := false, narrowed := true }
def DiagramBinaryMatchSpecUptoSaid : Prop := diagramBinaryMatchSpecUptoRow.holds Try.pinned (OpenSpec.upto diagramBinaryMatchSpecSpec)

/-- 'helmsmanlaw6.DiagramUnaryMatchSpec', WHERE WHAT IT READS IS OF BULK AT MOST 1048576: true; the input reads as it did. -/
def diagramUnaryMatchSpecUptoRow : OpenClaim := { program := "ytgenpcokpodhkaa", sum := "3941fbdf1f9773b51adeab89e4fbb4c4ba885826d992725a51093d9a1012fdb5", func := "helmsman/helmsmanlaw6.DiagramUnaryMatchSpec", spec := "diagramUnaryMatchSpec", unfollowed := true, recurses := true, plainKeys := false, apart := false, narrowed := true }
def DiagramUnaryMatchSpecUptoSaid : Prop := diagramUnaryMatchSpecUptoRow.holds Try.pinned (OpenSpec.upto diagramUnaryMatchSpecSpec)

/-- 'helmsmanlaw6.DiagramQueriesMatchSpec', WHERE WHAT IT READS IS OF BULK AT MOST 1048576: true; the input reads as it did. -/
def diagramQueriesMatchSpecUptoRow : OpenClaim := { program := "ytgenpcokpodhkaa", sum := "3941fbdf1f9773b51adeab89e4fbb4c4ba885826d992725a51093d9a1012fdb5", func := "helmsman/helmsmanlaw6.DiagramQueriesMatchSpec", spec := "diagramQueriesMatchSpec", unfollowed := true, recurses := true, plainKeys := false, apart := false, narrowed := true }
def DiagramQueriesMatchSpecUptoSaid : Prop := diagramQueriesMatchSpecUptoRow.holds Try.pinned (OpenSpec.upto diagramQueriesMatchSpecSpec)

/-- 'helmsmanlaw6.DiagramIsBooleanAlgebra', WHERE WHAT IT READS IS OF BULK AT MOST 1048576: true; the input reads as it did. -/
def diagramIsBooleanAlgebraUptoRow : OpenClaim := { program := "ytgenpcokpodhkaa", sum := "3941fbdf1f9773b51adeab89e4fbb4c4ba885826d992725a51093d9a1012fdb5", func := "helmsman/helmsmanlaw6.DiagramIsBooleanAlgebra", spec := "diagramIsBooleanAlgebra", unfollowed := true, recurses := true, plainKeys := false, apart := false, narrowed := true }
def DiagramIsBooleanAlgebraUptoSaid : Prop := diagramIsBooleanAlgebraUptoRow.holds Try.pinned (OpenSpec.upto diagramIsBooleanAlgebraSpec)

/-- 'helmsmanlaw6.DiagramCountsAddUp', WHERE WHAT IT READS IS OF BULK AT MOST 1048576: true; the input reads as it did. -/
def diagramCountsAddUpUptoRow : OpenClaim := { program := "ytgenpcokpodhkaa", sum := "3941fbdf1f9773b51adeab89e4fbb4c4ba885826d992725a51093d9a1012fdb5", func := "helmsman/helmsmanlaw6.DiagramCountsAddUp", spec := "diagramCountsAddUp", unfollowed := true, recurses := true, plainKeys := false, apart := false, narrowed := true }
def DiagramCountsAddUpUptoSaid : Prop := diagramCountsAddUpUptoRow.holds Try.pinned (OpenSpec.upto diagramCountsAddUpSpec)

/-- 'helmsmanlaw6.DiagramPickIsTrue', WHERE WHAT IT READS IS OF BULK AT MOST 1048576: true; the input reads as it did. -/
def diagramPickIsTrueUptoRow : OpenClaim := { program := "ytgenpcokpodhkaa", sum := "3941fbdf1f9773b51adeab89e4fbb4c4ba885826d992725a51093d9a1012fdb5", func := "helmsman/helmsmanlaw6.DiagramPickIsTrue", spec := "diagramPickIsTrue", unfollowed := true, recurses := true, plainKeys := false, apart := false, narrowed := true }
def DiagramPickIsTrueUptoSaid : Prop := diagramPickIsTrueUptoRow.holds Try.pinned (OpenSpec.upto diagramPickIsTrueSpec)

end Rows
end Go.Proofs.Ytgenpcokpodhkaa
