/-
  No cell of these rows narrows 'for every input' (looked for: loops, veiled, ifaces, maps, wideKeys, modest, calm, conditions, laid).
  DERIVED. THE GIVEN ROWS OF THIS SEAT. 7 by the template 'for every input the law returns true; each argument reads behind the call as it read before'; 0 by the template 'total and deterministic' (their statements: YtliggcmohcdchaaTotals.lean).
  GIVEN WITH THE SEED: the statements are not yours to turn. If you find one false, say at which input.
  Laid BY PROGRAM, IN A SANDBOX (cutbox-rows.mjs): the forced cells as the released guide's own fill.sh prints them over the translation 92a854c257474cf0… (all of the seat's roots in one cut). By AI agents, Wed Nov 11 2026. No macro, syntax, notation, axiom, sorry.
-/
import Derived.Test.YtliggcmohcdchaaChecked
import GoSem.Claim
import GoSem.ClaimJoined
import GoSem.ClaimMapViews
import Derived.JoinedTies
import Derived.KernelRfl
namespace Go.Proofs.Ytliggcmohcdchaa
/- THE CELL 'sum', in the pinned program and in every row, IS THE sha256 OF THE DUMP (.gsa) THAT YtliggcmohcdchaaProg.lean LOADS. Nothing in Lean hashes anything: it is a label: what it is worth is what the hold of that sum in a sandbox is worth. -/
noncomputable def Try.pinned : Pinned := { name := "ytliggcmohcdchaa", sum := "92a854c257474cf08add4efce6b5682cb1e7b6256d82b0fddb5e8585f6b5004b", checked := Try.checked }
namespace Rows
def none {H : Type} : Left H := { results := [], args := [] }

/-- 'helmsmanlaw6.LowerboundCheckMatchesSpec': WHATEVER THE INPUT: true; the input reads as it did. -/
def lowerboundCheckMatchesSpecSpec : ChangeSpec := { name := "lowerboundCheckMatchesSpec", fn := fun _ => fun
  | [d1, d2] => { results := [.lit (.bool true)], args := [d1, d2] }
  | _ => none }
def lowerboundCheckMatchesSpecRow : OpenClaim := { program := "ytliggcmohcdchaa", sum := "92a854c257474cf08add4efce6b5682cb1e7b6256d82b0fddb5e8585f6b5004b", func := "helmsman/helmsmanlaw6.LowerboundCheckMatchesSpec", spec := "lowerboundCheckMatchesSpec", unfollowed := true, recurses := true, plainKeys := false, apart := false }
def LowerboundCheckMatchesSpecSaid : Prop := lowerboundCheckMatchesSpecRow.holds Try.pinned (OpenSpec.ofChange lowerboundCheckMatchesSpecSpec)

/-- ITS FALSE NEIGHBOUR: 'it returns false'. Refute it at one input. -/
def lowerboundCheckMatchesSpecWrong : ChangeSpec := { name := "lowerboundCheckMatchesSpec", fn := fun _ => fun
  | [d1, d2] => { results := [.lit (.bool false)], args := [d1, d2] }
  | _ => none }
def LowerboundCheckMatchesSpecWrongFalsely : Prop := lowerboundCheckMatchesSpecRow.holds Try.pinned (OpenSpec.ofChange lowerboundCheckMatchesSpecWrong)

/-- 'helmsmanlaw6.LowerboundMakeMatchesSpec': WHATEVER THE INPUT: true; the input reads as it did. -/
def lowerboundMakeMatchesSpecSpec : ChangeSpec := { name := "lowerboundMakeMatchesSpec", fn := fun _ => fun
  | [d] => { results := [.lit (.bool true)], args := [d] }
  | _ => none }
def lowerboundMakeMatchesSpecRow : OpenClaim := { program := "ytliggcmohcdchaa", sum := "92a854c257474cf08add4efce6b5682cb1e7b6256d82b0fddb5e8585f6b5004b", func := "helmsman/helmsmanlaw6.LowerboundMakeMatchesSpec", spec := "lowerboundMakeMatchesSpec", unfollowed := true, recurses := true, plainKeys := false, apart := false }
def LowerboundMakeMatchesSpecSaid : Prop := lowerboundMakeMatchesSpecRow.holds Try.pinned (OpenSpec.ofChange lowerboundMakeMatchesSpecSpec)

/-- ITS FALSE NEIGHBOUR: 'it returns false'. Refute it at one input. -/
def lowerboundMakeMatchesSpecWrong : ChangeSpec := { name := "lowerboundMakeMatchesSpec", fn := fun _ => fun
  | [d] => { results := [.lit (.bool false)], args := [d] }
  | _ => none }
def LowerboundMakeMatchesSpecWrongFalsely : Prop := lowerboundMakeMatchesSpecRow.holds Try.pinned (OpenSpec.ofChange lowerboundMakeMatchesSpecWrong)

/-- 'helmsmanlaw6.LowerboundRaisedTablesHold': WHATEVER THE INPUT: true; the input reads as it did. -/
def lowerboundRaisedTablesHoldSpec : ChangeSpec := { name := "lowerboundRaisedTablesHold", fn := fun _ => fun
  | [d1, d2] => { results := [.lit (.bool true)], args := [d1, d2] }
  | _ => none }
def lowerboundRaisedTablesHoldRow : OpenClaim := { program := "ytliggcmohcdchaa", sum := "92a854c257474cf08add4efce6b5682cb1e7b6256d82b0fddb5e8585f6b5004b", func := "helmsman/helmsmanlaw6.LowerboundRaisedTablesHold", spec := "lowerboundRaisedTablesHold", unfollowed := true, recurses := true, plainKeys := false, apart := false }
def LowerboundRaisedTablesHoldSaid : Prop := lowerboundRaisedTablesHoldRow.holds Try.pinned (OpenSpec.ofChange lowerboundRaisedTablesHoldSpec)

/-- ITS FALSE NEIGHBOUR: 'it returns false'. Refute it at one input. -/
def lowerboundRaisedTablesHoldWrong : ChangeSpec := { name := "lowerboundRaisedTablesHold", fn := fun _ => fun
  | [d1, d2] => { results := [.lit (.bool false)], args := [d1, d2] }
  | _ => none }
def LowerboundRaisedTablesHoldWrongFalsely : Prop := lowerboundRaisedTablesHoldRow.holds Try.pinned (OpenSpec.ofChange lowerboundRaisedTablesHoldWrong)

/-- 'helmsmanlaw6.LowerboundMadeTablesHold': WHATEVER THE INPUT: true; the input reads as it did. -/
def lowerboundMadeTablesHoldSpec : ChangeSpec := { name := "lowerboundMadeTablesHold", fn := fun _ => fun
  | [d] => { results := [.lit (.bool true)], args := [d] }
  | _ => none }
def lowerboundMadeTablesHoldRow : OpenClaim := { program := "ytliggcmohcdchaa", sum := "92a854c257474cf08add4efce6b5682cb1e7b6256d82b0fddb5e8585f6b5004b", func := "helmsman/helmsmanlaw6.LowerboundMadeTablesHold", spec := "lowerboundMadeTablesHold", unfollowed := true, recurses := true, plainKeys := false, apart := false }
def LowerboundMadeTablesHoldSaid : Prop := lowerboundMadeTablesHoldRow.holds Try.pinned (OpenSpec.ofChange lowerboundMadeTablesHoldSpec)

/-- ITS FALSE NEIGHBOUR: 'it returns false'. Refute it at one input. -/
def lowerboundMadeTablesHoldWrong : ChangeSpec := { name := "lowerboundMadeTablesHold", fn := fun _ => fun
  | [d] => { results := [.lit (.bool false)], args := [d] }
  | _ => none }
def LowerboundMadeTablesHoldWrongFalsely : Prop := lowerboundMadeTablesHoldRow.holds Try.pinned (OpenSpec.ofChange lowerboundMadeTablesHoldWrong)

/-- 'helmsmanlaw6.DeadendIgnoresOrder': WHATEVER THE INPUT: true; the input reads as it did. -/
def deadendIgnoresOrderSpec : ChangeSpec := { name := "deadendIgnoresOrder", fn := fun _ => fun
  | [d1, d2] => { results := [.lit (.bool true)], args := [d1, d2] }
  | _ => none }
def deadendIgnoresOrderRow : OpenClaim := { program := "ytliggcmohcdchaa", sum := "92a854c257474cf08add4efce6b5682cb1e7b6256d82b0fddb5e8585f6b5004b", func := "helmsman/helmsmanlaw6.DeadendIgnoresOrder", spec := "deadendIgnoresOrder", unfollowed := true, recurses := true, plainKeys := false, apart := false }
def DeadendIgnoresOrderSaid : Prop := deadendIgnoresOrderRow.holds Try.pinned (OpenSpec.ofChange deadendIgnoresOrderSpec)

/-- ITS FALSE NEIGHBOUR: 'it returns false'. Refute it at one input. -/
def deadendIgnoresOrderWrong : ChangeSpec := { name := "deadendIgnoresOrder", fn := fun _ => fun
  | [d1, d2] => { results := [.lit (.bool false)], args := [d1, d2] }
  | _ => none }
def DeadendIgnoresOrderWrongFalsely : Prop := deadendIgnoresOrderRow.holds Try.pinned (OpenSpec.ofChange deadendIgnoresOrderWrong)

/-- 'helmsmanlaw6.MacrosKeepOptimalCost': WHATEVER THE INPUT: true; the input reads as it did. -/
def macrosKeepOptimalCostSpec : ChangeSpec := { name := "macrosKeepOptimalCost", fn := fun _ => fun
  | [d1, d2] => { results := [.lit (.bool true)], args := [d1, d2] }
  | _ => none }
def macrosKeepOptimalCostRow : OpenClaim := { program := "ytliggcmohcdchaa", sum := "92a854c257474cf08add4efce6b5682cb1e7b6256d82b0fddb5e8585f6b5004b", func := "helmsman/helmsmanlaw6.MacrosKeepOptimalCost", spec := "macrosKeepOptimalCost", unfollowed := true, recurses := true, plainKeys := false, apart := false }
def MacrosKeepOptimalCostSaid : Prop := macrosKeepOptimalCostRow.holds Try.pinned (OpenSpec.ofChange macrosKeepOptimalCostSpec)

/-- ITS FALSE NEIGHBOUR: 'it returns false'. Refute it at one input. -/
def macrosKeepOptimalCostWrong : ChangeSpec := { name := "macrosKeepOptimalCost", fn := fun _ => fun
  | [d1, d2] => { results := [.lit (.bool false)], args := [d1, d2] }
  | _ => none }
def MacrosKeepOptimalCostWrongFalsely : Prop := macrosKeepOptimalCostRow.holds Try.pinned (OpenSpec.ofChange macrosKeepOptimalCostWrong)

/-- 'helmsmanlaw6.LowerboundIsBound': WHATEVER THE INPUT: true; the input reads as it did. -/
def lowerboundIsBoundSpec : ChangeSpec := { name := "lowerboundIsBound", fn := fun _ => fun
  | [d1, d2, d3] => { results := [.lit (.bool true)], args := [d1, d2, d3] }
  | _ => none }
def lowerboundIsBoundRow : OpenClaim := { program := "ytliggcmohcdchaa", sum := "92a854c257474cf08add4efce6b5682cb1e7b6256d82b0fddb5e8585f6b5004b", func := "helmsman/helmsmanlaw6.LowerboundIsBound", spec := "lowerboundIsBound", unfollowed := true, recurses := true, plainKeys := false, apart := false }
def LowerboundIsBoundSaid : Prop := lowerboundIsBoundRow.holds Try.pinned (OpenSpec.ofChange lowerboundIsBoundSpec)

/-- ITS FALSE NEIGHBOUR: 'it returns false'. Refute it at one input. -/
def lowerboundIsBoundWrong : ChangeSpec := { name := "lowerboundIsBound", fn := fun _ => fun
  | [d1, d2, d3] => { results := [.lit (.bool false)], args := [d1, d2, d3] }
  | _ => none }
def LowerboundIsBoundWrongFalsely : Prop := lowerboundIsBoundRow.holds Try.pinned (OpenSpec.ofChange lowerboundIsBoundWrong)

/- THE SECOND FORM. 'bulk': how many values and letters a reading holds, each counted each time it is reached (what is shared counts as often as it is met; a slice's spare places count too). A statement '..UptoSaid' is the law's where the arguments, and the package variables that the reading takes, are together of bulk at most 1048576: NARROWER than '..Said'. Prove '..Said' where nothing that the law and all that it calls make is longer than what came in: it says more and counts as full. Else prove '..UptoSaid'. A law counts once. -/
mutual
def uptoBulk {H : Type} : DataW H → Nat
  | .lit (.string bytes) => bytes.length + 1
  | .lit _ => 1
  | .nil => 1
  | .ptr d => uptoBulk d + 1
  | .slice elems spare => uptoBulkAll elems + uptoBulkAll spare + 1
  | .agg parts => uptoBulkAll parts + 1
  | .iface _ d => uptoBulk d + 1
  | .map entries => uptoBulkEntries entries + 1
  | .held _ => 1
def uptoBulkAll {H : Type} : List (DataW H) → Nat
  | [] => 0
  | d :: r => uptoBulk d + uptoBulkAll r
def uptoBulkEntries {H : Type} : List (Lit × DataW H) → Nat
  | [] => 0
  | x :: r => uptoBulkEntry x + uptoBulkEntries r
def uptoBulkEntry {H : Type} : Lit × DataW H → Nat
  | (.string bytes, d) => bytes.length + uptoBulk d + 1
  | (_, d) => uptoBulk d + 1
 end
def uptoSmall : (H : Type) → List (DataW H) → Bool := fun _ ds => decide (uptoBulkAll ds ≤ 1048576)
def OpenSpec.upto (s : _root_.Go.ChangeSpec) : _root_.Go.OpenSpec := { _root_.Go.OpenSpec.ofChange s with cond := some uptoSmall }

/-- 'helmsmanlaw6.LowerboundCheckMatchesSpec', WHERE WHAT IT READS IS OF BULK AT MOST 1048576: true; the input reads as it did. -/
def lowerboundCheckMatchesSpecUptoRow : OpenClaim := { program := "ytliggcmohcdchaa", sum := "92a854c257474cf08add4efce6b5682cb1e7b6256d82b0fddb5e8585f6b5004b", func := "helmsman/helmsmanlaw6.LowerboundCheckMatchesSpec", spec := "lowerboundCheckMatchesSpec", unfollowed := true, recurses := true, plainKeys := false, apart := false, narrowed := true }
def LowerboundCheckMatchesSpecUptoSaid : Prop := lowerboundCheckMatchesSpecUptoRow.holds Try.pinned (OpenSpec.upto lowerboundCheckMatchesSpecSpec)

/-- 'helmsmanlaw6.LowerboundMakeMatchesSpec', WHERE WHAT IT READS IS OF BULK AT MOST 1048576: true; the input reads as it did. -/
def lowerboundMakeMatchesSpecUptoRow : OpenClaim := { program := "ytliggcmohcdchaa", sum := "92a854c257474cf08add4efce6b5682cb1e7b6256d82b0fddb5e8585f6b5004b", func := "helmsman/helmsmanlaw6.LowerboundMakeMatchesSpec", spec := "lowerboundMakeMatchesSpec", unfollowed := true, recurses := true, plainKeys := false, apart := false, narrowed := true }
def LowerboundMakeMatchesSpecUptoSaid : Prop := lowerboundMakeMatchesSpecUptoRow.holds Try.pinned (OpenSpec.upto lowerboundMakeMatchesSpecSpec)

/-- 'helmsmanlaw6.LowerboundRaisedTablesHold', WHERE WHAT IT READS IS OF BULK AT MOST 1048576: true; the input reads as it did. -/
def lowerboundRaisedTablesHoldUptoRow : OpenClaim := { program := "ytliggcmohcdchaa", sum := "92a854c257474cf08add4efce6b5682cb1e7b6256d82b0fddb5e8585f6b5004b", func := "helmsman/helmsmanlaw6.LowerboundRaisedTablesHold", spec := "lowerboundRaisedTablesHold", unfollowed := true, recurses := true, plainKeys := false, apart := false, narrowed := true }
def LowerboundRaisedTablesHoldUptoSaid : Prop := lowerboundRaisedTablesHoldUptoRow.holds Try.pinned (OpenSpec.upto lowerboundRaisedTablesHoldSpec)

/-- 'helmsmanlaw6.LowerboundMadeTablesHold', WHERE WHAT IT READS IS OF BULK AT MOST 1048576: true; the input reads as it did. -/
def lowerboundMadeTablesHoldUptoRow : OpenClaim := { program := "ytliggcmohcdchaa", sum := "92a854c257474cf08add4efce6b5682cb1e7b6256d82b0fddb5e8585f6b5004b", func := "helmsman/helmsmanlaw6.LowerboundMadeTablesHold", spec := "lowerboundMadeTablesHold", unfollowed := true, recurses := true, plainKeys := false, apart := false, narrowed := true }
def LowerboundMadeTablesHoldUptoSaid : Prop := lowerboundMadeTablesHoldUptoRow.holds Try.pinned (OpenSpec.upto lowerboundMadeTablesHoldSpec)

/-- 'helmsmanlaw6.DeadendIgnoresOrder', WHERE WHAT IT READS IS OF BULK AT MOST 1048576: true; the input reads as it did. -/
def deadendIgnoresOrderUptoRow : OpenClaim := { program := "ytliggcmohcdchaa", sum := "92a854c257474cf08add4efce6b5682cb1e7b6256d82b0fddb5e8585f6b5004b", func := "helmsman/helmsmanlaw6.DeadendIgnoresOrder", spec := "deadendIgnoresOrder", unfollowed := true, recurses := true, plainKeys := false, apart := false, narrowed := true }
def DeadendIgnoresOrderUptoSaid : Prop := deadendIgnoresOrderUptoRow.holds Try.pinned (OpenSpec.upto deadendIgnoresOrderSpec)

/-- 'helmsmanlaw6.MacrosKeepOptimalCost', WHERE WHAT IT READS IS OF BULK AT MOST 1048576: true; the input reads as it did. -/
def macrosKeepOptimalCostUptoRow : OpenClaim := { program := "ytliggcmohcdchaa", sum := "92a854c257474cf08add4efce6b5682cb1e7b6256d82b0fddb5e8585f6b5004b", func := "helmsman/helmsmanlaw6.MacrosKeepOptimalCost", spec := "macrosKeepOptimalCost", unfollowed := true, recurses := true, plainKeys := false, apart := false, narrowed := true }
def MacrosKeepOptimalCostUptoSaid : Prop := macrosKeepOptimalCostUptoRow.holds Try.pinned (OpenSpec.upto macrosKeepOptimalCostSpec)

/-- 'helmsmanlaw6.LowerboundIsBound', WHERE WHAT IT READS IS OF BULK AT MOST 1048576: true; the input reads as it did. -/
def lowerboundIsBoundUptoRow : OpenClaim := { program := "ytliggcmohcdchaa", sum := "92a854c257474cf08add4efce6b5682cb1e7b6256d82b0fddb5e8585f6b5004b", func := "helmsman/helmsmanlaw6.LowerboundIsBound", spec := "lowerboundIsBound", unfollowed := true, recurses := true, plainKeys := false, apart := false, narrowed := true }
def LowerboundIsBoundUptoSaid : Prop := lowerboundIsBoundUptoRow.holds Try.pinned (OpenSpec.upto lowerboundIsBoundSpec)

end Rows
end Go.Proofs.Ytliggcmohcdchaa
