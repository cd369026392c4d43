/-
  No cell of these rows narrows 'for every input' (looked for: loops, veiled, ifaces, maps, wideKeys, modest, calm, conditions, laid).
  DERIVED. THE GIVEN ROWS OF THIS SEAT. 5 by the template 'for every input the law returns true; each argument reads behind the call as it read before'; 0 by the template 'total and deterministic' (their statements: YtmjiiddncbhgpaaTotals.lean).
  GIVEN WITH THE SEED: the statements are not yours to turn. If you find one false, say at which input.
  Laid BY PROGRAM, IN A SANDBOX (cutbox-rows.mjs): the forced cells as the released guide's own fill.sh prints them over the translation 3f7e41d8d53635e6… (all of the seat's roots in one cut). By AI agents, Wed Nov 11 2026. No macro, syntax, notation, axiom, sorry.
-/
import Derived.Test.YtmjiiddncbhgpaaChecked
import GoSem.Claim
import GoSem.ClaimJoined
import GoSem.ClaimMapViews
import Derived.JoinedTies
import Derived.KernelRfl
namespace Go.Proofs.Ytmjiiddncbhgpaa
/- THE CELL 'sum', in the pinned program and in every row, IS THE sha256 OF THE DUMP (.gsa) THAT YtmjiiddncbhgpaaProg.lean LOADS. Nothing in Lean hashes anything: it is a label: what it is worth is what the hold of that sum in a sandbox is worth. -/
noncomputable def Try.pinned : Pinned := { name := "ytmjiiddncbhgpaa", sum := "3f7e41d8d53635e6f8d14c4ca0073ca0cc553ccf984d6e3f033dd3bbfc481a9f", checked := Try.checked }
namespace Rows
def none {H : Type} : Left H := { results := [], args := [] }

/-- 'helmsmanlaw6.DeadendIgnoresOrder': WHATEVER THE INPUT: true; the input reads as it did. -/
def deadendIgnoresOrderSpec : ChangeSpec := { name := "deadendIgnoresOrder", fn := fun _ => fun
  | [d1, d2] => { results := [.lit (.bool true)], args := [d1, d2] }
  | _ => none }
def deadendIgnoresOrderRow : OpenClaim := { program := "ytmjiiddncbhgpaa", sum := "3f7e41d8d53635e6f8d14c4ca0073ca0cc553ccf984d6e3f033dd3bbfc481a9f", func := "helmsman/helmsmanlaw6.DeadendIgnoresOrder", spec := "deadendIgnoresOrder", unfollowed := true, recurses := true, plainKeys := false, apart := false }
def DeadendIgnoresOrderSaid : Prop := deadendIgnoresOrderRow.holds Try.pinned (OpenSpec.ofChange deadendIgnoresOrderSpec)

/-- ITS FALSE NEIGHBOUR: 'it returns false'. Refute it at one input. -/
def deadendIgnoresOrderWrong : ChangeSpec := { name := "deadendIgnoresOrder", fn := fun _ => fun
  | [d1, d2] => { results := [.lit (.bool false)], args := [d1, d2] }
  | _ => none }
def DeadendIgnoresOrderWrongFalsely : Prop := deadendIgnoresOrderRow.holds Try.pinned (OpenSpec.ofChange deadendIgnoresOrderWrong)

/-- 'helmsmanlaw6.HierarchyDecomposeMatchesSpec': WHATEVER THE INPUT: true; the input reads as it did. -/
def hierarchyDecomposeMatchesSpecSpec : ChangeSpec := { name := "hierarchyDecomposeMatchesSpec", fn := fun _ => fun
  | [d1, d2] => { results := [.lit (.bool true)], args := [d1, d2] }
  | _ => none }
def hierarchyDecomposeMatchesSpecRow : OpenClaim := { program := "ytmjiiddncbhgpaa", sum := "3f7e41d8d53635e6f8d14c4ca0073ca0cc553ccf984d6e3f033dd3bbfc481a9f", func := "helmsman/helmsmanlaw6.HierarchyDecomposeMatchesSpec", spec := "hierarchyDecomposeMatchesSpec", unfollowed := true, recurses := true, plainKeys := false, apart := false }
def HierarchyDecomposeMatchesSpecSaid : Prop := hierarchyDecomposeMatchesSpecRow.holds Try.pinned (OpenSpec.ofChange hierarchyDecomposeMatchesSpecSpec)

/-- ITS FALSE NEIGHBOUR: 'it returns false'. Refute it at one input. -/
def hierarchyDecomposeMatchesSpecWrong : ChangeSpec := { name := "hierarchyDecomposeMatchesSpec", fn := fun _ => fun
  | [d1, d2] => { results := [.lit (.bool false)], args := [d1, d2] }
  | _ => none }
def HierarchyDecomposeMatchesSpecWrongFalsely : Prop := hierarchyDecomposeMatchesSpecRow.holds Try.pinned (OpenSpec.ofChange hierarchyDecomposeMatchesSpecWrong)

/-- 'helmsmanlaw6.HierarchyMoreMethodsPermitMore': WHATEVER THE INPUT: true; the input reads as it did. -/
def hierarchyMoreMethodsPermitMoreSpec : ChangeSpec := { name := "hierarchyMoreMethodsPermitMore", fn := fun _ => fun
  | [d1, d2, d3] => { results := [.lit (.bool true)], args := [d1, d2, d3] }
  | _ => none }
def hierarchyMoreMethodsPermitMoreRow : OpenClaim := { program := "ytmjiiddncbhgpaa", sum := "3f7e41d8d53635e6f8d14c4ca0073ca0cc553ccf984d6e3f033dd3bbfc481a9f", func := "helmsman/helmsmanlaw6.HierarchyMoreMethodsPermitMore", spec := "hierarchyMoreMethodsPermitMore", unfollowed := true, recurses := true, plainKeys := false, apart := false }
def HierarchyMoreMethodsPermitMoreSaid : Prop := hierarchyMoreMethodsPermitMoreRow.holds Try.pinned (OpenSpec.ofChange hierarchyMoreMethodsPermitMoreSpec)

/-- ITS FALSE NEIGHBOUR: 'it returns false'. Refute it at one input. -/
def hierarchyMoreMethodsPermitMoreWrong : ChangeSpec := { name := "hierarchyMoreMethodsPermitMore", fn := fun _ => fun
  | [d1, d2, d3] => { results := [.lit (.bool false)], args := [d1, d2, d3] }
  | _ => none }
def HierarchyMoreMethodsPermitMoreWrongFalsely : Prop := hierarchyMoreMethodsPermitMoreRow.holds Try.pinned (OpenSpec.ofChange hierarchyMoreMethodsPermitMoreWrong)

/-- 'helmsmanlaw6.HierarchyPlansAreRefinements': WHATEVER THE INPUT: true; the input reads as it did. -/
def hierarchyPlansAreRefinementsSpec : ChangeSpec := { name := "hierarchyPlansAreRefinements", fn := fun _ => fun
  | [d1, d2] => { results := [.lit (.bool true)], args := [d1, d2] }
  | _ => none }
def hierarchyPlansAreRefinementsRow : OpenClaim := { program := "ytmjiiddncbhgpaa", sum := "3f7e41d8d53635e6f8d14c4ca0073ca0cc553ccf984d6e3f033dd3bbfc481a9f", func := "helmsman/helmsmanlaw6.HierarchyPlansAreRefinements", spec := "hierarchyPlansAreRefinements", unfollowed := true, recurses := true, plainKeys := false, apart := false }
def HierarchyPlansAreRefinementsSaid : Prop := hierarchyPlansAreRefinementsRow.holds Try.pinned (OpenSpec.ofChange hierarchyPlansAreRefinementsSpec)

/-- ITS FALSE NEIGHBOUR: 'it returns false'. Refute it at one input. -/
def hierarchyPlansAreRefinementsWrong : ChangeSpec := { name := "hierarchyPlansAreRefinements", fn := fun _ => fun
  | [d1, d2] => { results := [.lit (.bool false)], args := [d1, d2] }
  | _ => none }
def HierarchyPlansAreRefinementsWrongFalsely : Prop := hierarchyPlansAreRefinementsRow.holds Try.pinned (OpenSpec.ofChange hierarchyPlansAreRefinementsWrong)

/-- 'helmsmanlaw6.HierarchyFreeMethodsPermitAll': WHATEVER THE INPUT: true; the input reads as it did. -/
def hierarchyFreeMethodsPermitAllSpec : ChangeSpec := { name := "hierarchyFreeMethodsPermitAll", fn := fun _ => fun
  | [d1, d2] => { results := [.lit (.bool true)], args := [d1, d2] }
  | _ => none }
def hierarchyFreeMethodsPermitAllRow : OpenClaim := { program := "ytmjiiddncbhgpaa", sum := "3f7e41d8d53635e6f8d14c4ca0073ca0cc553ccf984d6e3f033dd3bbfc481a9f", func := "helmsman/helmsmanlaw6.HierarchyFreeMethodsPermitAll", spec := "hierarchyFreeMethodsPermitAll", unfollowed := true, recurses := true, plainKeys := false, apart := false }
def HierarchyFreeMethodsPermitAllSaid : Prop := hierarchyFreeMethodsPermitAllRow.holds Try.pinned (OpenSpec.ofChange hierarchyFreeMethodsPermitAllSpec)

/-- ITS FALSE NEIGHBOUR: 'it returns false'. Refute it at one input. -/
def hierarchyFreeMethodsPermitAllWrong : ChangeSpec := { name := "hierarchyFreeMethodsPermitAll", fn := fun _ => fun
  | [d1, d2] => { results := [.lit (.bool false)], args := [d1, d2] }
  | _ => none }
def HierarchyFreeMethodsPermitAllWrongFalsely : Prop := hierarchyFreeMethodsPermitAllRow.holds Try.pinned (OpenSpec.ofChange hierarchyFreeMethodsPermitAllWrong)

/- THE SECOND FORM. 'bulk': how many values and letters a reading holds, each counted each time it is reached (what is shared counts as often as it is met; a slice's spare places count too). A statement '..UptoSaid' is the law's where the arguments, and the package variables that the reading takes, are together of bulk at most 1048576: NARROWER than '..Said'. Prove '..Said' where nothing that the law and all that it calls make is longer than what came in: it says more and counts as full. Else prove '..UptoSaid'. A law counts once. -/
mutual
def uptoBulk {H : Type} : DataW H → Nat
  | .lit (.string bytes) => bytes.length + 1
  | .lit _ => 1
  | .nil => 1
  | .ptr d => uptoBulk d + 1
  | .slice elems spare => uptoBulkAll elems + uptoBulkAll spare + 1
  | .agg parts => uptoBulkAll parts + 1
  | .iface _ d => uptoBulk d + 1
  | .map entries => uptoBulkEntries entries + 1
  | .held _ => 1
def uptoBulkAll {H : Type} : List (DataW H) → Nat
  | [] => 0
  | d :: r => uptoBulk d + uptoBulkAll r
def uptoBulkEntries {H : Type} : List (Lit × DataW H) → Nat
  | [] => 0
  | x :: r => uptoBulkEntry x + uptoBulkEntries r
def uptoBulkEntry {H : Type} : Lit × DataW H → Nat
  | (.string bytes, d) => bytes.length + uptoBulk d + 1
  | (_, d) => uptoBulk d + 1
 end
def uptoSmall : (H : Type) → List (DataW H) → Bool := fun _ ds => decide (uptoBulkAll ds ≤ 1048576)
def OpenSpec.upto (s : _root_.Go.ChangeSpec) : _root_.Go.OpenSpec := { _root_.Go.OpenSpec.ofChange s with cond := some uptoSmall }

/-- 'helmsmanlaw6.DeadendIgnoresOrder', WHERE WHAT IT READS IS OF BULK AT MOST 1048576: true; the input reads as it did. -/
def deadendIgnoresOrderUptoRow : OpenClaim := { program := "ytmjiiddncbhgpaa", sum := "3f7e41d8d53635e6f8d14c4ca0073ca0cc553ccf984d6e3f033dd3bbfc481a9f", func := "helmsman/helmsmanlaw6.DeadendIgnoresOrder", spec := "deadendIgnoresOrder", unfollowed := true, recurses := true, plainKeys := false, apart := false, narrowed := true }
def DeadendIgnoresOrderUptoSaid : Prop := deadendIgnoresOrderUptoRow.holds Try.pinned (OpenSpec.upto deadendIgnoresOrderSpec)

/-- 'helmsmanlaw6.HierarchyDecomposeMatchesSpec', WHERE WHAT IT READS IS OF BULK AT MOST 1048576: true; the input reads as it did. -/
def hierarchyDecomposeMatchesSpecUptoRow : OpenClaim := { program := "ytmjiiddncbhgpaa", sum := "3f7e41d8d53635e6f8d14c4ca0073ca0cc553ccf984d6e3f033dd3bbfc481a9f", func := "helmsman/helmsmanlaw6.HierarchyDecomposeMatchesSpec", spec := "hierarchyDecomposeMatchesSpec", unfollowed := true, recurses := true, plainKeys := false, apart := false, narrowed := true }
def HierarchyDecomposeMatchesSpecUptoSaid : Prop := hierarchyDecomposeMatchesSpecUptoRow.holds Try.pinned (OpenSpec.upto hierarchyDecomposeMatchesSpecSpec)

/-- 'helmsmanlaw6.HierarchyMoreMethodsPermitMore', WHERE WHAT IT READS IS OF BULK AT MOST 1048576: true; the input reads as it did. -/
def hierarchyMoreMethodsPermitMoreUptoRow : OpenClaim := { program := "ytmjiiddncbhgpaa", sum := "3f7e41d8d53635e6f8d14c4ca0073ca0cc553ccf984d6e3f033dd3bbfc481a9f", func := "helmsman/helmsmanlaw6.HierarchyMoreMethodsPermitMore", spec := "hierarchyMoreMethodsPermitMore", unfollowed := true, recurses := true, plainKeys := false, apart := false, narrowed := true }
def HierarchyMoreMethodsPermitMoreUptoSaid : Prop := hierarchyMoreMethodsPermitMoreUptoRow.holds Try.pinned (OpenSpec.upto hierarchyMoreMethodsPermitMoreSpec)

/-- 'helmsmanlaw6.HierarchyPlansAreRefinements', WHERE WHAT IT READS IS OF BULK AT MOST 1048576: true; the input reads as it did. -/
def hierarchyPlansAreRefinementsUptoRow : OpenClaim := { program := "ytmjiiddncbhgpaa", sum := "3f7e41d8d53635e6f8d14c4ca0073ca0cc553ccf984d6e3f033dd3bbfc481a9f", func := "helmsman/helmsmanlaw6.HierarchyPlansAreRefinements", spec := "hierarchyPlansAreRefinements", unfollowed := true, recurses := true, plainKeys := false, apart := false, narrowed := true }
def HierarchyPlansAreRefinementsUptoSaid : Prop := hierarchyPlansAreRefinementsUptoRow.holds Try.pinned (OpenSpec.upto hierarchyPlansAreRefinementsSpec)

/-- 'helmsmanlaw6.HierarchyFreeMethodsPermitAll', WHERE WHAT IT READS IS OF BULK AT MOST 1048576: true; the input reads as it did. -/
def hierarchyFreeMethodsPermitAllUptoRow : OpenClaim := { program := "ytmjiiddncbhgpaa", sum := "3f7e41d8d53635e6f8d14c4ca0073ca0cc553ccf984d6e3f033dd3bbfc481a9f", func := "helmsman/helmsmanlaw6.HierarchyFreeMethodsPermitAll", spec := "hierarchyFreeMethodsPermitAll", unfollowed := true, recurses := true, plainKeys := false, apart := false, narrowed := true }
def HierarchyFreeMethodsPermitAllUptoSaid : Prop := hierarchyFreeMethodsPermitAllUptoRow.holds Try.pinned (OpenSpec.upto hierarchyFreeMethodsPermitAllSpec)

end Rows
end Go.Proofs.Ytmjiiddncbhgpaa
