/-
  No cell of these rows narrows 'for every input' (looked for: loops, veiled, ifaces, maps, wideKeys, modest, calm, conditions, laid).
  DERIVED. THE GIVEN ROWS OF THIS SEAT. 5 by the template 'for every input the law returns true; each argument reads behind the call as it read before'; 0 by the template 'total and deterministic' (their statements: YtmjiiddncbhgpaaGreatTotals.lean).
  GIVEN WITH THE SEED: the statements are not yours to turn. If you find one false, say at which input.
  Laid BY PROGRAM, IN A SANDBOX (cutbox-rows.mjs): the forced cells as the released guide's own fill.sh prints them over the translation 301d3b7647cd6719… (all of the seat's roots in one cut). By AI agents, Wed Nov 11 2026. No macro, syntax, notation, axiom, sorry.
-/
import Derived.Test.YtmjiiddncbhgpaaGreatChecked
import GoSem.Claim
import GoSem.ClaimJoined
import GoSem.ClaimMapViews
import Derived.JoinedTies
import Derived.KernelRfl
namespace Go.Proofs.YtmjiiddncbhgpaaGreat
/- THE CELL 'sum', in the pinned program and in every row, IS THE sha256 OF THE DUMP (.gsa) THAT YtmjiiddncbhgpaaGreatProg.lean LOADS. Nothing in Lean hashes anything: it is a label: what it is worth is what the hold of that sum in a sandbox is worth. -/
noncomputable def Tryz.pinned : Pinned := { name := "ytmjiiddncbhgpaagreat", sum := "301d3b7647cd67193698330a09df8bcd1868d63eee17684138abccc667527591", checked := Tryz.checked }
namespace Rows
def none {H : Type} : Left H := { results := [], args := [] }

/-- 'helmsmanlaw6.DeadendCheckMatchesSpec': WHATEVER THE INPUT: true; the input reads as it did. -/
def deadendCheckMatchesSpecSpec : ChangeSpec := { name := "deadendCheckMatchesSpec", fn := fun _ => fun
  | [d1, d2, d3] => { results := [.lit (.bool true)], args := [d1, d2, d3] }
  | _ => none }
def deadendCheckMatchesSpecRow : OpenClaim := { program := "ytmjiiddncbhgpaagreat", sum := "301d3b7647cd67193698330a09df8bcd1868d63eee17684138abccc667527591", func := "helmsman/helmsmanlaw6.DeadendCheckMatchesSpec", spec := "deadendCheckMatchesSpec", unfollowed := true, recurses := true, plainKeys := false, apart := false }
def DeadendCheckMatchesSpecSaid : Prop := deadendCheckMatchesSpecRow.holds Tryz.pinned (OpenSpec.ofChange deadendCheckMatchesSpecSpec)

/-- ITS FALSE NEIGHBOUR: 'it returns false'. Refute it at one input. -/
def deadendCheckMatchesSpecWrong : ChangeSpec := { name := "deadendCheckMatchesSpec", fn := fun _ => fun
  | [d1, d2, d3] => { results := [.lit (.bool false)], args := [d1, d2, d3] }
  | _ => none }
def DeadendCheckMatchesSpecWrongFalsely : Prop := deadendCheckMatchesSpecRow.holds Tryz.pinned (OpenSpec.ofChange deadendCheckMatchesSpecWrong)

/-- 'helmsmanlaw6.DeadendMakeMatchesSpec': WHATEVER THE INPUT: true; the input reads as it did. -/
def deadendMakeMatchesSpecSpec : ChangeSpec := { name := "deadendMakeMatchesSpec", fn := fun _ => fun
  | [d] => { results := [.lit (.bool true)], args := [d] }
  | _ => none }
def deadendMakeMatchesSpecRow : OpenClaim := { program := "ytmjiiddncbhgpaagreat", sum := "301d3b7647cd67193698330a09df8bcd1868d63eee17684138abccc667527591", func := "helmsman/helmsmanlaw6.DeadendMakeMatchesSpec", spec := "deadendMakeMatchesSpec", unfollowed := true, recurses := true, plainKeys := false, apart := false }
def DeadendMakeMatchesSpecSaid : Prop := deadendMakeMatchesSpecRow.holds Tryz.pinned (OpenSpec.ofChange deadendMakeMatchesSpecSpec)

/-- ITS FALSE NEIGHBOUR: 'it returns false'. Refute it at one input. -/
def deadendMakeMatchesSpecWrong : ChangeSpec := { name := "deadendMakeMatchesSpec", fn := fun _ => fun
  | [d] => { results := [.lit (.bool false)], args := [d] }
  | _ => none }
def DeadendMakeMatchesSpecWrongFalsely : Prop := deadendMakeMatchesSpecRow.holds Tryz.pinned (OpenSpec.ofChange deadendMakeMatchesSpecWrong)

/-- 'helmsmanlaw6.HierarchyPlanMatchesSpec': WHATEVER THE INPUT: true; the input reads as it did. -/
def hierarchyPlanMatchesSpecSpec : ChangeSpec := { name := "hierarchyPlanMatchesSpec", fn := fun _ => fun
  | [d1, d2] => { results := [.lit (.bool true)], args := [d1, d2] }
  | _ => none }
def hierarchyPlanMatchesSpecRow : OpenClaim := { program := "ytmjiiddncbhgpaagreat", sum := "301d3b7647cd67193698330a09df8bcd1868d63eee17684138abccc667527591", func := "helmsman/helmsmanlaw6.HierarchyPlanMatchesSpec", spec := "hierarchyPlanMatchesSpec", unfollowed := true, recurses := true, plainKeys := false, apart := false }
def HierarchyPlanMatchesSpecSaid : Prop := hierarchyPlanMatchesSpecRow.holds Tryz.pinned (OpenSpec.ofChange hierarchyPlanMatchesSpecSpec)

/-- ITS FALSE NEIGHBOUR: 'it returns false'. Refute it at one input. -/
def hierarchyPlanMatchesSpecWrong : ChangeSpec := { name := "hierarchyPlanMatchesSpec", fn := fun _ => fun
  | [d1, d2] => { results := [.lit (.bool false)], args := [d1, d2] }
  | _ => none }
def HierarchyPlanMatchesSpecWrongFalsely : Prop := hierarchyPlanMatchesSpecRow.holds Tryz.pinned (OpenSpec.ofChange hierarchyPlanMatchesSpecWrong)

/-- 'helmsmanlaw6.DeadendProofsExcludePlans': WHATEVER THE INPUT: true; the input reads as it did. -/
def deadendProofsExcludePlansSpec : ChangeSpec := { name := "deadendProofsExcludePlans", fn := fun _ => fun
  | [d1, d2, d3] => { results := [.lit (.bool true)], args := [d1, d2, d3] }
  | _ => none }
def deadendProofsExcludePlansRow : OpenClaim := { program := "ytmjiiddncbhgpaagreat", sum := "301d3b7647cd67193698330a09df8bcd1868d63eee17684138abccc667527591", func := "helmsman/helmsmanlaw6.DeadendProofsExcludePlans", spec := "deadendProofsExcludePlans", unfollowed := true, recurses := true, plainKeys := false, apart := false }
def DeadendProofsExcludePlansSaid : Prop := deadendProofsExcludePlansRow.holds Tryz.pinned (OpenSpec.ofChange deadendProofsExcludePlansSpec)

/-- ITS FALSE NEIGHBOUR: 'it returns false'. Refute it at one input. -/
def deadendProofsExcludePlansWrong : ChangeSpec := { name := "deadendProofsExcludePlans", fn := fun _ => fun
  | [d1, d2, d3] => { results := [.lit (.bool false)], args := [d1, d2, d3] }
  | _ => none }
def DeadendProofsExcludePlansWrongFalsely : Prop := deadendProofsExcludePlansRow.holds Tryz.pinned (OpenSpec.ofChange deadendProofsExcludePlansWrong)

/-- 'helmsmanlaw6.DeadendMadeProofsCheck': WHATEVER THE INPUT: true; the input reads as it did. -/
def deadendMadeProofsCheckSpec : ChangeSpec := { name := "deadendMadeProofsCheck", fn := fun _ => fun
  | [d] => { results := [.lit (.bool true)], args := [d] }
  | _ => none }
def deadendMadeProofsCheckRow : OpenClaim := { program := "ytmjiiddncbhgpaagreat", sum := "301d3b7647cd67193698330a09df8bcd1868d63eee17684138abccc667527591", func := "helmsman/helmsmanlaw6.DeadendMadeProofsCheck", spec := "deadendMadeProofsCheck", unfollowed := true, recurses := true, plainKeys := false, apart := false }
def DeadendMadeProofsCheckSaid : Prop := deadendMadeProofsCheckRow.holds Tryz.pinned (OpenSpec.ofChange deadendMadeProofsCheckSpec)

/-- ITS FALSE NEIGHBOUR: 'it returns false'. Refute it at one input. -/
def deadendMadeProofsCheckWrong : ChangeSpec := { name := "deadendMadeProofsCheck", fn := fun _ => fun
  | [d] => { results := [.lit (.bool false)], args := [d] }
  | _ => none }
def DeadendMadeProofsCheckWrongFalsely : Prop := deadendMadeProofsCheckRow.holds Tryz.pinned (OpenSpec.ofChange deadendMadeProofsCheckWrong)

/- THE SECOND FORM. 'bulk': how many values and letters a reading holds, each counted each time it is reached (what is shared counts as often as it is met; a slice's spare places count too). A statement '..UptoSaid' is the law's where the arguments, and the package variables that the reading takes, are together of bulk at most 1048576: NARROWER than '..Said'. Prove '..Said' where nothing that the law and all that it calls make is longer than what came in: it says more and counts as full. Else prove '..UptoSaid'. A law counts once. -/
mutual
def uptoBulk {H : Type} : DataW H → Nat
  | .lit (.string bytes) => bytes.length + 1
  | .lit _ => 1
  | .nil => 1
  | .ptr d => uptoBulk d + 1
  | .slice elems spare => uptoBulkAll elems + uptoBulkAll spare + 1
  | .agg parts => uptoBulkAll parts + 1
  | .iface _ d => uptoBulk d + 1
  | .map entries => uptoBulkEntries entries + 1
  | .held _ => 1
def uptoBulkAll {H : Type} : List (DataW H) → Nat
  | [] => 0
  | d :: r => uptoBulk d + uptoBulkAll r
def uptoBulkEntries {H : Type} : List (Lit × DataW H) → Nat
  | [] => 0
  | x :: r => uptoBulkEntry x + uptoBulkEntries r
def uptoBulkEntry {H : Type} : Lit × DataW H → Nat
  | (.string bytes, d) => bytes.length + uptoBulk d + 1
  | (_, d) => uptoBulk d + 1
 end
def uptoSmall : (H : Type) → List (DataW H) → Bool := fun _ ds => decide (uptoBulkAll ds ≤ 1048576)
def OpenSpec.upto (s : _root_.Go.ChangeSpec) : _root_.Go.OpenSpec := { _root_.Go.OpenSpec.ofChange s with cond := some uptoSmall }

/-- 'helmsmanlaw6.DeadendCheckMatchesSpec', WHERE WHAT IT READS IS OF BULK AT MOST 1048576: true; the input reads as it did. -/
def deadendCheckMatchesSpecUptoRow : OpenClaim := { program := "ytmjiiddncbhgpaagreat", sum := "301d3b7647cd67193698330a09df8bcd1868d63eee17684138abccc667527591", func := "helmsman/helmsmanlaw6.DeadendCheckMatchesSpec", spec := "deadendCheckMatchesSpec", unfollowed := true, recurses := true, plainKeys := false, apart := false, narrowed := true }
def DeadendCheckMatchesSpecUptoSaid : Prop := deadendCheckMatchesSpecUptoRow.holds Tryz.pinned (OpenSpec.upto deadendCheckMatchesSpecSpec)

/-- 'helmsmanlaw6.DeadendMakeMatchesSpec', WHERE WHAT IT READS IS OF BULK AT MOST 1048576: true; the input reads as it did. -/
def deadendMakeMatchesSpecUptoRow : OpenClaim := { program := "ytmjiiddncbhgpaagreat", sum := "301d3b7647cd67193698330a09df8bcd1868d63eee17684138abccc667527591", func := "helmsman/helmsmanlaw6.DeadendMakeMatchesSpec", spec := "deadendMakeMatchesSpec", unfollowed := true, recurses := true, plainKeys := false, apart := false, narrowed := true }
def DeadendMakeMatchesSpecUptoSaid : Prop := deadendMakeMatchesSpecUptoRow.holds Tryz.pinned (OpenSpec.upto deadendMakeMatchesSpecSpec)

/-- 'helmsmanlaw6.HierarchyPlanMatchesSpec', WHERE WHAT IT READS IS OF BULK AT MOST 1048576: true; the input reads as it did. -/
def hierarchyPlanMatchesSpecUptoRow : OpenClaim := { program := "ytmjiiddncbhgpaagreat", sum := "301d3b7647cd67193698330a09df8bcd1868d63eee17684138abccc667527591", func := "helmsman/helmsmanlaw6.HierarchyPlanMatchesSpec", spec := "hierarchyPlanMatchesSpec", unfollowed := true, recurses := true, plainKeys := false, apart := false, narrowed := true }
def HierarchyPlanMatchesSpecUptoSaid : Prop := hierarchyPlanMatchesSpecUptoRow.holds Tryz.pinned (OpenSpec.upto hierarchyPlanMatchesSpecSpec)

/-- 'helmsmanlaw6.DeadendProofsExcludePlans', WHERE WHAT IT READS IS OF BULK AT MOST 1048576: true; the input reads as it did. -/
def deadendProofsExcludePlansUptoRow : OpenClaim := { program := "ytmjiiddncbhgpaagreat", sum := "301d3b7647cd67193698330a09df8bcd1868d63eee17684138abccc667527591", func := "helmsman/helmsmanlaw6.DeadendProofsExcludePlans", spec := "deadendProofsExcludePlans", unfollowed := true, recurses := true, plainKeys := false, apart := false, narrowed := true }
def DeadendProofsExcludePlansUptoSaid : Prop := deadendProofsExcludePlansUptoRow.holds Tryz.pinned (OpenSpec.upto deadendProofsExcludePlansSpec)

/-- 'helmsmanlaw6.DeadendMadeProofsCheck', WHERE WHAT IT READS IS OF BULK AT MOST 1048576: true; the input reads as it did. -/
def deadendMadeProofsCheckUptoRow : OpenClaim := { program := "ytmjiiddncbhgpaagreat", sum := "301d3b7647cd67193698330a09df8bcd1868d63eee17684138abccc667527591", func := "helmsman/helmsmanlaw6.DeadendMadeProofsCheck", spec := "deadendMadeProofsCheck", unfollowed := true, recurses := true, plainKeys := false, apart := false, narrowed := true }
def DeadendMadeProofsCheckUptoSaid : Prop := deadendMadeProofsCheckUptoRow.holds Tryz.pinned (OpenSpec.upto deadendMadeProofsCheckSpec)

end Rows
end Go.Proofs.YtmjiiddncbhgpaaGreat
