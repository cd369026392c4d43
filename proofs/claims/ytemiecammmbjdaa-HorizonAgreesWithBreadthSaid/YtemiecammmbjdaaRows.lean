/-
  No cell of these rows narrows 'for every input' (looked for: loops, veiled, ifaces, maps, wideKeys, modest, calm, conditions, laid).
  DERIVED. THE GIVEN ROWS OF THIS SEAT. 3 by the template 'for every input the law returns true; each argument reads behind the call as it read before'; 0 by the template 'total and deterministic' (their statements: YtemiecammmbjdaaTotals.lean).
  GIVEN WITH THE SEED: the statements are not yours to turn. If you find one false, say at which input.
  Laid BY PROGRAM, IN A SANDBOX (cutbox-rows.mjs): the forced cells as the released guide's own fill.sh prints them over the translation 13cf8b3eefc5103a… (all of the seat's roots in one cut). By AI agents, Wed Nov 11 2026. No macro, syntax, notation, axiom, sorry.
-/
import Derived.Test.YtemiecammmbjdaaChecked
import GoSem.Claim
import GoSem.ClaimJoined
import GoSem.ClaimMapViews
import Derived.JoinedTies
import Derived.KernelRfl
namespace Go.Proofs.Ytemiecammmbjdaa
/- THE CELL 'sum', in the pinned program and in every row, IS THE sha256 OF THE DUMP (.gsa) THAT YtemiecammmbjdaaProg.lean LOADS. Nothing in Lean hashes anything: it is a label: what it is worth is what the hold of that sum in a sandbox is worth. -/
noncomputable def Try.pinned : Pinned := { name := "ytemiecammmbjdaa", sum := "13cf8b3eefc5103a1e82b9bbba29975a1f5543bb14ae62e84ddcbec10275c6a7", checked := Try.checked }
namespace Rows
def none {H : Type} : Left H := { results := [], args := [] }

/-- 'helmsmanlaw6.HorizonGrows': WHATEVER THE INPUT: true; the input reads as it did. -/
def horizonGrowsSpec : ChangeSpec := { name := "horizonGrows", fn := fun _ => fun
  | [d1, d2, d3] => { results := [.lit (.bool true)], args := [d1, d2, d3] }
  | _ => none }
def horizonGrowsRow : OpenClaim := { program := "ytemiecammmbjdaa", sum := "13cf8b3eefc5103a1e82b9bbba29975a1f5543bb14ae62e84ddcbec10275c6a7", func := "helmsman/helmsmanlaw6.HorizonGrows", spec := "horizonGrows", unfollowed := true, recurses := true, apart := false }
def HorizonGrowsSaid : Prop := horizonGrowsRow.holds Try.pinned (OpenSpec.ofChange horizonGrowsSpec)

/-- ITS FALSE NEIGHBOUR: 'it returns false'. Refute it at one input. -/
def horizonGrowsWrong : ChangeSpec := { name := "horizonGrows", fn := fun _ => fun
  | [d1, d2, d3] => { results := [.lit (.bool false)], args := [d1, d2, d3] }
  | _ => none }
def HorizonGrowsWrongFalsely : Prop := horizonGrowsRow.holds Try.pinned (OpenSpec.ofChange horizonGrowsWrong)

/-- 'helmsmanlaw6.HorizonAgreesWithBreadth': WHATEVER THE INPUT: true; the input reads as it did. -/
def horizonAgreesWithBreadthSpec : ChangeSpec := { name := "horizonAgreesWithBreadth", fn := fun _ => fun
  | [d1, d2] => { results := [.lit (.bool true)], args := [d1, d2] }
  | _ => none }
def horizonAgreesWithBreadthRow : OpenClaim := { program := "ytemiecammmbjdaa", sum := "13cf8b3eefc5103a1e82b9bbba29975a1f5543bb14ae62e84ddcbec10275c6a7", func := "helmsman/helmsmanlaw6.HorizonAgreesWithBreadth", spec := "horizonAgreesWithBreadth", unfollowed := true, recurses := true, apart := false }
def HorizonAgreesWithBreadthSaid : Prop := horizonAgreesWithBreadthRow.holds Try.pinned (OpenSpec.ofChange horizonAgreesWithBreadthSpec)

/-- ITS FALSE NEIGHBOUR: 'it returns false'. Refute it at one input. -/
def horizonAgreesWithBreadthWrong : ChangeSpec := { name := "horizonAgreesWithBreadth", fn := fun _ => fun
  | [d1, d2] => { results := [.lit (.bool false)], args := [d1, d2] }
  | _ => none }
def HorizonAgreesWithBreadthWrongFalsely : Prop := horizonAgreesWithBreadthRow.holds Try.pinned (OpenSpec.ofChange horizonAgreesWithBreadthWrong)

/-- 'helmsmanlaw6.HorizonSolvesByResolution': WHATEVER THE INPUT: true; the input reads as it did. -/
def horizonSolvesByResolutionSpec : ChangeSpec := { name := "horizonSolvesByResolution", fn := fun _ => fun
  | [d1, d2] => { results := [.lit (.bool true)], args := [d1, d2] }
  | _ => none }
def horizonSolvesByResolutionRow : OpenClaim := { program := "ytemiecammmbjdaa", sum := "13cf8b3eefc5103a1e82b9bbba29975a1f5543bb14ae62e84ddcbec10275c6a7", func := "helmsman/helmsmanlaw6.HorizonSolvesByResolution", spec := "horizonSolvesByResolution", unfollowed := true, recurses := true, apart := false }
def HorizonSolvesByResolutionSaid : Prop := horizonSolvesByResolutionRow.holds Try.pinned (OpenSpec.ofChange horizonSolvesByResolutionSpec)

/-- ITS FALSE NEIGHBOUR: 'it returns false'. Refute it at one input. -/
def horizonSolvesByResolutionWrong : ChangeSpec := { name := "horizonSolvesByResolution", fn := fun _ => fun
  | [d1, d2] => { results := [.lit (.bool false)], args := [d1, d2] }
  | _ => none }
def HorizonSolvesByResolutionWrongFalsely : Prop := horizonSolvesByResolutionRow.holds Try.pinned (OpenSpec.ofChange horizonSolvesByResolutionWrong)

/- THE SECOND FORM. 'bulk': how many values and letters a reading holds, each counted each time it is reached (what is shared counts as often as it is met; a slice's spare places count too). A statement '..UptoSaid' is the law's where the arguments, and the package variables that the reading takes, are together of bulk at most 1048576: NARROWER than '..Said'. Prove '..Said' where nothing that the law and all that it calls make is longer than what came in: it says more and counts as full. Else prove '..UptoSaid'. A law counts once. -/
mutual
def uptoBulk {H : Type} : DataW H → Nat
  | .lit (.string bytes) => bytes.length + 1
  | .lit _ => 1
  | .nil => 1
  | .ptr d => uptoBulk d + 1
  | .slice elems spare => uptoBulkAll elems + uptoBulkAll spare + 1
  | .agg parts => uptoBulkAll parts + 1
  | .iface _ d => uptoBulk d + 1
  | .map entries => uptoBulkEntries entries + 1
  | .held _ => 1
def uptoBulkAll {H : Type} : List (DataW H) → Nat
  | [] => 0
  | d :: r => uptoBulk d + uptoBulkAll r
def uptoBulkEntries {H : Type} : List (Lit × DataW H) → Nat
  | [] => 0
  | x :: r => uptoBulkEntry x + uptoBulkEntries r
def uptoBulkEntry {H : Type} : Lit × DataW H → Nat
  | (.string bytes, d) => bytes.length + uptoBulk d + 1
  | (_, d) => uptoBulk d + 1
 end
def uptoSmall : (H : Type) → List (DataW H) → Bool := fun _ ds => decide (uptoBulkAll ds ≤ 1048576)
def OpenSpec.upto (s : _root_.Go.ChangeSpec) : _root_.Go.OpenSpec := { _root_.Go.OpenSpec.ofChange s with cond := some uptoSmall }

/-- 'helmsmanlaw6.HorizonGrows', WHERE WHAT IT READS IS OF BULK AT MOST 1048576: true; the input reads as it did. -/
def horizonGrowsUptoRow : OpenClaim := { program := "ytemiecammmbjdaa", sum := "13cf8b3eefc5103a1e82b9bbba29975a1f5543bb14ae62e84ddcbec10275c6a7", func := "helmsman/helmsmanlaw6.HorizonGrows", spec := "horizonGrows", unfollowed := true, recurses := true, apart := false, narrowed := true }
def HorizonGrowsUptoSaid : Prop := horizonGrowsUptoRow.holds Try.pinned (OpenSpec.upto horizonGrowsSpec)

/-- 'helmsmanlaw6.HorizonAgreesWithBreadth', WHERE WHAT IT READS IS OF BULK AT MOST 1048576: true; the input reads as it did. -/
def horizonAgreesWithBreadthUptoRow : OpenClaim := { program := "ytemiecammmbjdaa", sum := "13cf8b3eefc5103a1e82b9bbba29975a1f5543bb14ae62e84ddcbec10275c6a7", func := "helmsman/helmsmanlaw6.HorizonAgreesWithBreadth", spec := "horizonAgreesWithBreadth", unfollowed := true, recurses := true, apart := false, narrowed := true }
def HorizonAgreesWithBreadthUptoSaid : Prop := horizonAgreesWithBreadthUptoRow.holds Try.pinned (OpenSpec.upto horizonAgreesWithBreadthSpec)

/-- 'helmsmanlaw6.HorizonSolvesByResolution', WHERE WHAT IT READS IS OF BULK AT MOST 1048576: true; the input reads as it did. -/
def horizonSolvesByResolutionUptoRow : OpenClaim := { program := "ytemiecammmbjdaa", sum := "13cf8b3eefc5103a1e82b9bbba29975a1f5543bb14ae62e84ddcbec10275c6a7", func := "helmsman/helmsmanlaw6.HorizonSolvesByResolution", spec := "horizonSolvesByResolution", unfollowed := true, recurses := true, apart := false, narrowed := true }
def HorizonSolvesByResolutionUptoSaid : Prop := horizonSolvesByResolutionUptoRow.holds Try.pinned (OpenSpec.upto horizonSolvesByResolutionSpec)

end Rows
end Go.Proofs.Ytemiecammmbjdaa
