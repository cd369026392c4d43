/-
  No cell of these rows narrows 'for every input' (looked for: loops, veiled, ifaces, maps, wideKeys, modest, calm, conditions, laid).
  DERIVED. THE GIVEN ROWS OF THIS SEAT. 12 by the template 'for every input the law returns true; each argument reads behind the call as it read before'; 0 by the template 'total and deterministic' (their statements: YtnfeknfakkdbhaaTotals.lean).
  GIVEN WITH THE SEED: the statements are not yours to turn. If you find one false, say at which input.
  Laid BY PROGRAM, IN A SANDBOX (cutbox-rows.mjs): the forced cells as the released guide's own fill.sh prints them over the translation ebb35d7416af9358… (all of the seat's roots in one cut). By AI agents, Wed Nov 11 2026. No macro, syntax, notation, axiom, sorry.
-/
import Derived.Test.YtnfeknfakkdbhaaChecked
import GoSem.Claim
import GoSem.ClaimJoined
import GoSem.ClaimMapViews
import Derived.JoinedTies
import Derived.KernelRfl
namespace Go.Proofs.Ytnfeknfakkdbhaa
/- THE CELL 'sum', in the pinned program and in every row, IS THE sha256 OF THE DUMP (.gsa) THAT YtnfeknfakkdbhaaProg.lean LOADS. Nothing in Lean hashes anything: it is a label: what it is worth is what the hold of that sum in a sandbox is worth. -/
noncomputable def Try.pinned : Pinned := { name := "ytnfeknfakkdbhaa", sum := "ebb35d7416af9358f3964222aa8ee171b3269cc5a4c4be113a510642c7fdac66", checked := Try.checked }
namespace Rows
def none {H : Type} : Left H := { results := [], args := [] }

/-- 'helmsmanlaw6.MacrosCombineMatchesSpec': WHATEVER THE INPUT: true; the input reads as it did. -/
def macrosCombineMatchesSpecSpec : ChangeSpec := { name := "macrosCombineMatchesSpec", fn := fun _ => fun
  | [d1, d2] => { results := [.lit (.bool true)], args := [d1, d2] }
  | _ => none }
def macrosCombineMatchesSpecRow : OpenClaim := { program := "ytnfeknfakkdbhaa", sum := "ebb35d7416af9358f3964222aa8ee171b3269cc5a4c4be113a510642c7fdac66", func := "helmsman/helmsmanlaw6.MacrosCombineMatchesSpec", spec := "macrosCombineMatchesSpec", unfollowed := true, recurses := true, apart := false }
def MacrosCombineMatchesSpecSaid : Prop := macrosCombineMatchesSpecRow.holds Try.pinned (OpenSpec.ofChange macrosCombineMatchesSpecSpec)

/-- ITS FALSE NEIGHBOUR: 'it returns false'. Refute it at one input. -/
def macrosCombineMatchesSpecWrong : ChangeSpec := { name := "macrosCombineMatchesSpec", fn := fun _ => fun
  | [d1, d2] => { results := [.lit (.bool false)], args := [d1, d2] }
  | _ => none }
def MacrosCombineMatchesSpecWrongFalsely : Prop := macrosCombineMatchesSpecRow.holds Try.pinned (OpenSpec.ofChange macrosCombineMatchesSpecWrong)

/-- 'helmsmanlaw6.MacrosExtendMatchesSpec': WHATEVER THE INPUT: true; the input reads as it did. -/
def macrosExtendMatchesSpecSpec : ChangeSpec := { name := "macrosExtendMatchesSpec", fn := fun _ => fun
  | [d1, d2, d3] => { results := [.lit (.bool true)], args := [d1, d2, d3] }
  | _ => none }
def macrosExtendMatchesSpecRow : OpenClaim := { program := "ytnfeknfakkdbhaa", sum := "ebb35d7416af9358f3964222aa8ee171b3269cc5a4c4be113a510642c7fdac66", func := "helmsman/helmsmanlaw6.MacrosExtendMatchesSpec", spec := "macrosExtendMatchesSpec", unfollowed := true, recurses := true, apart := false }
def MacrosExtendMatchesSpecSaid : Prop := macrosExtendMatchesSpecRow.holds Try.pinned (OpenSpec.ofChange macrosExtendMatchesSpecSpec)

/-- ITS FALSE NEIGHBOUR: 'it returns false'. Refute it at one input. -/
def macrosExtendMatchesSpecWrong : ChangeSpec := { name := "macrosExtendMatchesSpec", fn := fun _ => fun
  | [d1, d2, d3] => { results := [.lit (.bool false)], args := [d1, d2, d3] }
  | _ => none }
def MacrosExtendMatchesSpecWrongFalsely : Prop := macrosExtendMatchesSpecRow.holds Try.pinned (OpenSpec.ofChange macrosExtendMatchesSpecWrong)

/-- 'helmsmanlaw6.ResolveSolveMatchesSpec': WHATEVER THE INPUT: true; the input reads as it did. -/
def resolveSolveMatchesSpecSpec : ChangeSpec := { name := "resolveSolveMatchesSpec", fn := fun _ => fun
  | [d] => { results := [.lit (.bool true)], args := [d] }
  | _ => none }
def resolveSolveMatchesSpecRow : OpenClaim := { program := "ytnfeknfakkdbhaa", sum := "ebb35d7416af9358f3964222aa8ee171b3269cc5a4c4be113a510642c7fdac66", func := "helmsman/helmsmanlaw6.ResolveSolveMatchesSpec", spec := "resolveSolveMatchesSpec", unfollowed := true, recurses := true, apart := false }
def ResolveSolveMatchesSpecSaid : Prop := resolveSolveMatchesSpecRow.holds Try.pinned (OpenSpec.ofChange resolveSolveMatchesSpecSpec)

/-- ITS FALSE NEIGHBOUR: 'it returns false'. Refute it at one input. -/
def resolveSolveMatchesSpecWrong : ChangeSpec := { name := "resolveSolveMatchesSpec", fn := fun _ => fun
  | [d] => { results := [.lit (.bool false)], args := [d] }
  | _ => none }
def ResolveSolveMatchesSpecWrongFalsely : Prop := resolveSolveMatchesSpecRow.holds Try.pinned (OpenSpec.ofChange resolveSolveMatchesSpecWrong)

/-- 'helmsmanlaw6.ResolveCheckMatchesSpec': WHATEVER THE INPUT: true; the input reads as it did. -/
def resolveCheckMatchesSpecSpec : ChangeSpec := { name := "resolveCheckMatchesSpec", fn := fun _ => fun
  | [d1, d2] => { results := [.lit (.bool true)], args := [d1, d2] }
  | _ => none }
def resolveCheckMatchesSpecRow : OpenClaim := { program := "ytnfeknfakkdbhaa", sum := "ebb35d7416af9358f3964222aa8ee171b3269cc5a4c4be113a510642c7fdac66", func := "helmsman/helmsmanlaw6.ResolveCheckMatchesSpec", spec := "resolveCheckMatchesSpec", unfollowed := true, recurses := true, apart := false }
def ResolveCheckMatchesSpecSaid : Prop := resolveCheckMatchesSpecRow.holds Try.pinned (OpenSpec.ofChange resolveCheckMatchesSpecSpec)

/-- ITS FALSE NEIGHBOUR: 'it returns false'. Refute it at one input. -/
def resolveCheckMatchesSpecWrong : ChangeSpec := { name := "resolveCheckMatchesSpec", fn := fun _ => fun
  | [d1, d2] => { results := [.lit (.bool false)], args := [d1, d2] }
  | _ => none }
def ResolveCheckMatchesSpecWrongFalsely : Prop := resolveCheckMatchesSpecRow.holds Try.pinned (OpenSpec.ofChange resolveCheckMatchesSpecWrong)

/-- 'helmsmanlaw6.ResolveClausesOnlyExclude': WHATEVER THE INPUT: true; the input reads as it did. -/
def resolveClausesOnlyExcludeSpec : ChangeSpec := { name := "resolveClausesOnlyExclude", fn := fun _ => fun
  | [d1, d2] => { results := [.lit (.bool true)], args := [d1, d2] }
  | _ => none }
def resolveClausesOnlyExcludeRow : OpenClaim := { program := "ytnfeknfakkdbhaa", sum := "ebb35d7416af9358f3964222aa8ee171b3269cc5a4c4be113a510642c7fdac66", func := "helmsman/helmsmanlaw6.ResolveClausesOnlyExclude", spec := "resolveClausesOnlyExclude", unfollowed := true, recurses := true, apart := false }
def ResolveClausesOnlyExcludeSaid : Prop := resolveClausesOnlyExcludeRow.holds Try.pinned (OpenSpec.ofChange resolveClausesOnlyExcludeSpec)

/-- ITS FALSE NEIGHBOUR: 'it returns false'. Refute it at one input. -/
def resolveClausesOnlyExcludeWrong : ChangeSpec := { name := "resolveClausesOnlyExclude", fn := fun _ => fun
  | [d1, d2] => { results := [.lit (.bool false)], args := [d1, d2] }
  | _ => none }
def ResolveClausesOnlyExcludeWrongFalsely : Prop := resolveClausesOnlyExcludeRow.holds Try.pinned (OpenSpec.ofChange resolveClausesOnlyExcludeWrong)

/-- 'helmsmanlaw6.MacrosExpandedPlansSolve': WHATEVER THE INPUT: true; the input reads as it did. -/
def macrosExpandedPlansSolveSpec : ChangeSpec := { name := "macrosExpandedPlansSolve", fn := fun _ => fun
  | [d1, d2, d3] => { results := [.lit (.bool true)], args := [d1, d2, d3] }
  | _ => none }
def macrosExpandedPlansSolveRow : OpenClaim := { program := "ytnfeknfakkdbhaa", sum := "ebb35d7416af9358f3964222aa8ee171b3269cc5a4c4be113a510642c7fdac66", func := "helmsman/helmsmanlaw6.MacrosExpandedPlansSolve", spec := "macrosExpandedPlansSolve", unfollowed := true, recurses := true, apart := false }
def MacrosExpandedPlansSolveSaid : Prop := macrosExpandedPlansSolveRow.holds Try.pinned (OpenSpec.ofChange macrosExpandedPlansSolveSpec)

/-- ITS FALSE NEIGHBOUR: 'it returns false'. Refute it at one input. -/
def macrosExpandedPlansSolveWrong : ChangeSpec := { name := "macrosExpandedPlansSolve", fn := fun _ => fun
  | [d1, d2, d3] => { results := [.lit (.bool false)], args := [d1, d2, d3] }
  | _ => none }
def MacrosExpandedPlansSolveWrongFalsely : Prop := macrosExpandedPlansSolveRow.holds Try.pinned (OpenSpec.ofChange macrosExpandedPlansSolveWrong)

/-- 'helmsmanlaw6.ResolveAnswersAreProved': WHATEVER THE INPUT: true; the input reads as it did. -/
def resolveAnswersAreProvedSpec : ChangeSpec := { name := "resolveAnswersAreProved", fn := fun _ => fun
  | [d] => { results := [.lit (.bool true)], args := [d] }
  | _ => none }
def resolveAnswersAreProvedRow : OpenClaim := { program := "ytnfeknfakkdbhaa", sum := "ebb35d7416af9358f3964222aa8ee171b3269cc5a4c4be113a510642c7fdac66", func := "helmsman/helmsmanlaw6.ResolveAnswersAreProved", spec := "resolveAnswersAreProved", unfollowed := true, recurses := true, apart := false }
def ResolveAnswersAreProvedSaid : Prop := resolveAnswersAreProvedRow.holds Try.pinned (OpenSpec.ofChange resolveAnswersAreProvedSpec)

/-- ITS FALSE NEIGHBOUR: 'it returns false'. Refute it at one input. -/
def resolveAnswersAreProvedWrong : ChangeSpec := { name := "resolveAnswersAreProved", fn := fun _ => fun
  | [d] => { results := [.lit (.bool false)], args := [d] }
  | _ => none }
def ResolveAnswersAreProvedWrongFalsely : Prop := resolveAnswersAreProvedRow.holds Try.pinned (OpenSpec.ofChange resolveAnswersAreProvedWrong)

/-- 'helmsmanlaw6.ResolveRefutationsExclude': WHATEVER THE INPUT: true; the input reads as it did. -/
def resolveRefutationsExcludeSpec : ChangeSpec := { name := "resolveRefutationsExclude", fn := fun _ => fun
  | [d1, d2, d3] => { results := [.lit (.bool true)], args := [d1, d2, d3] }
  | _ => none }
def resolveRefutationsExcludeRow : OpenClaim := { program := "ytnfeknfakkdbhaa", sum := "ebb35d7416af9358f3964222aa8ee171b3269cc5a4c4be113a510642c7fdac66", func := "helmsman/helmsmanlaw6.ResolveRefutationsExclude", spec := "resolveRefutationsExclude", unfollowed := true, recurses := true, apart := false }
def ResolveRefutationsExcludeSaid : Prop := resolveRefutationsExcludeRow.holds Try.pinned (OpenSpec.ofChange resolveRefutationsExcludeSpec)

/-- ITS FALSE NEIGHBOUR: 'it returns false'. Refute it at one input. -/
def resolveRefutationsExcludeWrong : ChangeSpec := { name := "resolveRefutationsExclude", fn := fun _ => fun
  | [d1, d2, d3] => { results := [.lit (.bool false)], args := [d1, d2, d3] }
  | _ => none }
def ResolveRefutationsExcludeWrongFalsely : Prop := resolveRefutationsExcludeRow.holds Try.pinned (OpenSpec.ofChange resolveRefutationsExcludeWrong)

/-- 'helmsmanlaw6.MacrosCombinedActsLikeSequence': WHATEVER THE INPUT: true; the input reads as it did. -/
def macrosCombinedActsLikeSequenceSpec : ChangeSpec := { name := "macrosCombinedActsLikeSequence", fn := fun _ => fun
  | [d1, d2, d3] => { results := [.lit (.bool true)], args := [d1, d2, d3] }
  | _ => none }
def macrosCombinedActsLikeSequenceRow : OpenClaim := { program := "ytnfeknfakkdbhaa", sum := "ebb35d7416af9358f3964222aa8ee171b3269cc5a4c4be113a510642c7fdac66", func := "helmsman/helmsmanlaw6.MacrosCombinedActsLikeSequence", spec := "macrosCombinedActsLikeSequence", unfollowed := true, recurses := true, apart := false }
def MacrosCombinedActsLikeSequenceSaid : Prop := macrosCombinedActsLikeSequenceRow.holds Try.pinned (OpenSpec.ofChange macrosCombinedActsLikeSequenceSpec)

/-- ITS FALSE NEIGHBOUR: 'it returns false'. Refute it at one input. -/
def macrosCombinedActsLikeSequenceWrong : ChangeSpec := { name := "macrosCombinedActsLikeSequence", fn := fun _ => fun
  | [d1, d2, d3] => { results := [.lit (.bool false)], args := [d1, d2, d3] }
  | _ => none }
def MacrosCombinedActsLikeSequenceWrongFalsely : Prop := macrosCombinedActsLikeSequenceRow.holds Try.pinned (OpenSpec.ofChange macrosCombinedActsLikeSequenceWrong)

/-- 'helmsmanlaw6.HorizonEncodeMatchesSpec': WHATEVER THE INPUT: true; the input reads as it did. -/
def horizonEncodeMatchesSpecSpec : ChangeSpec := { name := "horizonEncodeMatchesSpec", fn := fun _ => fun
  | [d1, d2, d3, d4] => { results := [.lit (.bool true)], args := [d1, d2, d3, d4] }
  | _ => none }
def horizonEncodeMatchesSpecRow : OpenClaim := { program := "ytnfeknfakkdbhaa", sum := "ebb35d7416af9358f3964222aa8ee171b3269cc5a4c4be113a510642c7fdac66", func := "helmsman/helmsmanlaw6.HorizonEncodeMatchesSpec", spec := "horizonEncodeMatchesSpec", unfollowed := true, recurses := true, apart := false }
def HorizonEncodeMatchesSpecSaid : Prop := horizonEncodeMatchesSpecRow.holds Try.pinned (OpenSpec.ofChange horizonEncodeMatchesSpecSpec)

/-- ITS FALSE NEIGHBOUR: 'it returns false'. Refute it at one input. -/
def horizonEncodeMatchesSpecWrong : ChangeSpec := { name := "horizonEncodeMatchesSpec", fn := fun _ => fun
  | [d1, d2, d3, d4] => { results := [.lit (.bool false)], args := [d1, d2, d3, d4] }
  | _ => none }
def HorizonEncodeMatchesSpecWrongFalsely : Prop := horizonEncodeMatchesSpecRow.holds Try.pinned (OpenSpec.ofChange horizonEncodeMatchesSpecWrong)

/-- 'helmsmanlaw6.HorizonDecodeMatchesSpec': WHATEVER THE INPUT: true; the input reads as it did. -/
def horizonDecodeMatchesSpecSpec : ChangeSpec := { name := "horizonDecodeMatchesSpec", fn := fun _ => fun
  | [d1, d2, d3] => { results := [.lit (.bool true)], args := [d1, d2, d3] }
  | _ => none }
def horizonDecodeMatchesSpecRow : OpenClaim := { program := "ytnfeknfakkdbhaa", sum := "ebb35d7416af9358f3964222aa8ee171b3269cc5a4c4be113a510642c7fdac66", func := "helmsman/helmsmanlaw6.HorizonDecodeMatchesSpec", spec := "horizonDecodeMatchesSpec", unfollowed := true, recurses := true, apart := false }
def HorizonDecodeMatchesSpecSaid : Prop := horizonDecodeMatchesSpecRow.holds Try.pinned (OpenSpec.ofChange horizonDecodeMatchesSpecSpec)

/-- ITS FALSE NEIGHBOUR: 'it returns false'. Refute it at one input. -/
def horizonDecodeMatchesSpecWrong : ChangeSpec := { name := "horizonDecodeMatchesSpec", fn := fun _ => fun
  | [d1, d2, d3] => { results := [.lit (.bool false)], args := [d1, d2, d3] }
  | _ => none }
def HorizonDecodeMatchesSpecWrongFalsely : Prop := horizonDecodeMatchesSpecRow.holds Try.pinned (OpenSpec.ofChange horizonDecodeMatchesSpecWrong)

/-- 'helmsmanlaw6.HorizonGrows': WHATEVER THE INPUT: true; the input reads as it did. -/
def horizonGrowsSpec : ChangeSpec := { name := "horizonGrows", fn := fun _ => fun
  | [d1, d2, d3] => { results := [.lit (.bool true)], args := [d1, d2, d3] }
  | _ => none }
def horizonGrowsRow : OpenClaim := { program := "ytnfeknfakkdbhaa", sum := "ebb35d7416af9358f3964222aa8ee171b3269cc5a4c4be113a510642c7fdac66", func := "helmsman/helmsmanlaw6.HorizonGrows", spec := "horizonGrows", unfollowed := true, recurses := true, apart := false }
def HorizonGrowsSaid : Prop := horizonGrowsRow.holds Try.pinned (OpenSpec.ofChange horizonGrowsSpec)

/-- ITS FALSE NEIGHBOUR: 'it returns false'. Refute it at one input. -/
def horizonGrowsWrong : ChangeSpec := { name := "horizonGrows", fn := fun _ => fun
  | [d1, d2, d3] => { results := [.lit (.bool false)], args := [d1, d2, d3] }
  | _ => none }
def HorizonGrowsWrongFalsely : Prop := horizonGrowsRow.holds Try.pinned (OpenSpec.ofChange horizonGrowsWrong)

/- THE SECOND FORM. 'bulk': how many values and letters a reading holds, each counted each time it is reached (what is shared counts as often as it is met; a slice's spare places count too). A statement '..UptoSaid' is the law's where the arguments, and the package variables that the reading takes, are together of bulk at most 1048576: NARROWER than '..Said'. Prove '..Said' where nothing that the law and all that it calls make is longer than what came in: it says more and counts as full. Else prove '..UptoSaid'. A law counts once. -/
mutual
def uptoBulk {H : Type} : DataW H → Nat
  | .lit (.string bytes) => bytes.length + 1
  | .lit _ => 1
  | .nil => 1
  | .ptr d => uptoBulk d + 1
  | .slice elems spare => uptoBulkAll elems + uptoBulkAll spare + 1
  | .agg parts => uptoBulkAll parts + 1
  | .iface _ d => uptoBulk d + 1
  | .map entries => uptoBulkEntries entries + 1
  | .held _ => 1
def uptoBulkAll {H : Type} : List (DataW H) → Nat
  | [] => 0
  | d :: r => uptoBulk d + uptoBulkAll r
def uptoBulkEntries {H : Type} : List (Lit × DataW H) → Nat
  | [] => 0
  | x :: r => uptoBulkEntry x + uptoBulkEntries r
def uptoBulkEntry {H : Type} : Lit × DataW H → Nat
  | (.string bytes, d) => bytes.length + uptoBulk d + 1
  | (_, d) => uptoBulk d + 1
 end
def uptoSmall : (H : Type) → List (DataW H) → Bool := fun _ ds => decide (uptoBulkAll ds ≤ 1048576)
def OpenSpec.upto (s : _root_.Go.ChangeSpec) : _root_.Go.OpenSpec := { _root_.Go.OpenSpec.ofChange s with cond := some uptoSmall }

/-- 'helmsmanlaw6.MacrosCombineMatchesSpec', WHERE WHAT IT READS IS OF BULK AT MOST 1048576: true; the input reads as it did. -/
def macrosCombineMatchesSpecUptoRow : OpenClaim := { program := "ytnfeknfakkdbhaa", sum := "ebb35d7416af9358f3964222aa8ee171b3269cc5a4c4be113a510642c7fdac66", func := "helmsman/helmsmanlaw6.MacrosCombineMatchesSpec", spec := "macrosCombineMatchesSpec", unfollowed := true, recurses := true, apart := false, narrowed := true }
def MacrosCombineMatchesSpecUptoSaid : Prop := macrosCombineMatchesSpecUptoRow.holds Try.pinned (OpenSpec.upto macrosCombineMatchesSpecSpec)

/-- 'helmsmanlaw6.MacrosExtendMatchesSpec', WHERE WHAT IT READS IS OF BULK AT MOST 1048576: true; the input reads as it did. -/
def macrosExtendMatchesSpecUptoRow : OpenClaim := { program := "ytnfeknfakkdbhaa", sum := "ebb35d7416af9358f3964222aa8ee171b3269cc5a4c4be113a510642c7fdac66", func := "helmsman/helmsmanlaw6.MacrosExtendMatchesSpec", spec := "macrosExtendMatchesSpec", unfollowed := true, recurses := true, apart := false, narrowed := true }
def MacrosExtendMatchesSpecUptoSaid : Prop := macrosExtendMatchesSpecUptoRow.holds Try.pinned (OpenSpec.upto macrosExtendMatchesSpecSpec)

/-- 'helmsmanlaw6.ResolveSolveMatchesSpec', WHERE WHAT IT READS IS OF BULK AT MOST 1048576: true; the input reads as it did. -/
def resolveSolveMatchesSpecUptoRow : OpenClaim := { program := "ytnfeknfakkdbhaa", sum := "ebb35d7416af9358f3964222aa8ee171b3269cc5a4c4be113a510642c7fdac66", func := "helmsman/helmsmanlaw6.ResolveSolveMatchesSpec", spec := "resolveSolveMatchesSpec", unfollowed := true, recurses := true, apart := false, narrowed := true }
def ResolveSolveMatchesSpecUptoSaid : Prop := resolveSolveMatchesSpecUptoRow.holds Try.pinned (OpenSpec.upto resolveSolveMatchesSpecSpec)

/-- 'helmsmanlaw6.ResolveCheckMatchesSpec', WHERE WHAT IT READS IS OF BULK AT MOST 1048576: true; the input reads as it did. -/
def resolveCheckMatchesSpecUptoRow : OpenClaim := { program := "ytnfeknfakkdbhaa", sum := "ebb35d7416af9358f3964222aa8ee171b3269cc5a4c4be113a510642c7fdac66", func := "helmsman/helmsmanlaw6.ResolveCheckMatchesSpec", spec := "resolveCheckMatchesSpec", unfollowed := true, recurses := true, apart := false, narrowed := true }
def ResolveCheckMatchesSpecUptoSaid : Prop := resolveCheckMatchesSpecUptoRow.holds Try.pinned (OpenSpec.upto resolveCheckMatchesSpecSpec)

/-- 'helmsmanlaw6.ResolveClausesOnlyExclude', WHERE WHAT IT READS IS OF BULK AT MOST 1048576: true; the input reads as it did. -/
def resolveClausesOnlyExcludeUptoRow : OpenClaim := { program := "ytnfeknfakkdbhaa", sum := "ebb35d7416af9358f3964222aa8ee171b3269cc5a4c4be113a510642c7fdac66", func := "helmsman/helmsmanlaw6.ResolveClausesOnlyExclude", spec := "resolveClausesOnlyExclude", unfollowed := true, recurses := true, apart := false, narrowed := true }
def ResolveClausesOnlyExcludeUptoSaid : Prop := resolveClausesOnlyExcludeUptoRow.holds Try.pinned (OpenSpec.upto resolveClausesOnlyExcludeSpec)

/-- 'helmsmanlaw6.MacrosExpandedPlansSolve', WHERE WHAT IT READS IS OF BULK AT MOST 1048576: true; the input reads as it did. -/
def macrosExpandedPlansSolveUptoRow : OpenClaim := { program := "ytnfeknfakkdbhaa", sum := "ebb35d7416af9358f3964222aa8ee171b3269cc5a4c4be113a510642c7fdac66", func := "helmsman/helmsmanlaw6.MacrosExpandedPlansSolve", spec := "macrosExpandedPlansSolve", unfollowed := true, recurses := true, apart := false, narrowed := true }
def MacrosExpandedPlansSolveUptoSaid : Prop := macrosExpandedPlansSolveUptoRow.holds Try.pinned (OpenSpec.upto macrosExpandedPlansSolveSpec)

/-- 'helmsmanlaw6.ResolveAnswersAreProved', WHERE WHAT IT READS IS OF BULK AT MOST 1048576: true; the input reads as it did. -/
def resolveAnswersAreProvedUptoRow : OpenClaim := { program := "ytnfeknfakkdbhaa", sum := "ebb35d7416af9358f3964222aa8ee171b3269cc5a4c4be113a510642c7fdac66", func := "helmsman/helmsmanlaw6.ResolveAnswersAreProved", spec := "resolveAnswersAreProved", unfollowed := true, recurses := true, apart := false, narrowed := true }
def ResolveAnswersAreProvedUptoSaid : Prop := resolveAnswersAreProvedUptoRow.holds Try.pinned (OpenSpec.upto resolveAnswersAreProvedSpec)

/-- 'helmsmanlaw6.ResolveRefutationsExclude', WHERE WHAT IT READS IS OF BULK AT MOST 1048576: true; the input reads as it did. -/
def resolveRefutationsExcludeUptoRow : OpenClaim := { program := "ytnfeknfakkdbhaa", sum := "ebb35d7416af9358f3964222aa8ee171b3269cc5a4c4be113a510642c7fdac66", func := "helmsman/helmsmanlaw6.ResolveRefutationsExclude", spec := "resolveRefutationsExclude", unfollowed := true, recurses := true, apart := false, narrowed := true }
def ResolveRefutationsExcludeUptoSaid : Prop := resolveRefutationsExcludeUptoRow.holds Try.pinned (OpenSpec.upto resolveRefutationsExcludeSpec)

/-- 'helmsmanlaw6.MacrosCombinedActsLikeSequence', WHERE WHAT IT READS IS OF BULK AT MOST 1048576: true; the input reads as it did. -/
def macrosCombinedActsLikeSequenceUptoRow : OpenClaim := { program := "ytnfeknfakkdbhaa", sum := "ebb35d7416af9358f3964222aa8ee171b3269cc5a4c4be113a510642c7fdac66", func := "helmsman/helmsmanlaw6.MacrosCombinedActsLikeSequence", spec := "macrosCombinedActsLikeSequence", unfollowed := true, recurses := true, apart := false, narrowed := true }
def MacrosCombinedActsLikeSequenceUptoSaid : Prop := macrosCombinedActsLikeSequenceUptoRow.holds Try.pinned (OpenSpec.upto macrosCombinedActsLikeSequenceSpec)

/-- 'helmsmanlaw6.HorizonEncodeMatchesSpec', WHERE WHAT IT READS IS OF BULK AT MOST 1048576: true; the input reads as it did. -/
def horizonEncodeMatchesSpecUptoRow : OpenClaim := { program := "ytnfeknfakkdbhaa", sum := "ebb35d7416af9358f3964222aa8ee171b3269cc5a4c4be113a510642c7fdac66", func := "helmsman/helmsmanlaw6.HorizonEncodeMatchesSpec", spec := "horizonEncodeMatchesSpec", unfollowed := true, recurses := true, apart := false, narrowed := true }
def HorizonEncodeMatchesSpecUptoSaid : Prop := horizonEncodeMatchesSpecUptoRow.holds Try.pinned (OpenSpec.upto horizonEncodeMatchesSpecSpec)

/-- 'helmsmanlaw6.HorizonDecodeMatchesSpec', WHERE WHAT IT READS IS OF BULK AT MOST 1048576: true; the input reads as it did. -/
def horizonDecodeMatchesSpecUptoRow : OpenClaim := { program := "ytnfeknfakkdbhaa", sum := "ebb35d7416af9358f3964222aa8ee171b3269cc5a4c4be113a510642c7fdac66", func := "helmsman/helmsmanlaw6.HorizonDecodeMatchesSpec", spec := "horizonDecodeMatchesSpec", unfollowed := true, recurses := true, apart := false, narrowed := true }
def HorizonDecodeMatchesSpecUptoSaid : Prop := horizonDecodeMatchesSpecUptoRow.holds Try.pinned (OpenSpec.upto horizonDecodeMatchesSpecSpec)

/-- 'helmsmanlaw6.HorizonGrows', WHERE WHAT IT READS IS OF BULK AT MOST 1048576: true; the input reads as it did. -/
def horizonGrowsUptoRow : OpenClaim := { program := "ytnfeknfakkdbhaa", sum := "ebb35d7416af9358f3964222aa8ee171b3269cc5a4c4be113a510642c7fdac66", func := "helmsman/helmsmanlaw6.HorizonGrows", spec := "horizonGrows", unfollowed := true, recurses := true, apart := false, narrowed := true }
def HorizonGrowsUptoSaid : Prop := horizonGrowsUptoRow.holds Try.pinned (OpenSpec.upto horizonGrowsSpec)

end Rows
end Go.Proofs.Ytnfeknfakkdbhaa
