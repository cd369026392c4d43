/-
  No cell of these rows narrows 'for every input' (looked for: loops, veiled, ifaces, maps, wideKeys, modest, calm, conditions, laid).
  DERIVED. THE GIVEN ROWS OF THIS SEAT. 4 by the template 'for every input the law returns true; each argument reads behind the call as it read before'; 0 by the template 'total and deterministic' (their statements: YtmhcbadggmhopaaTotals.lean).
  GIVEN WITH THE SEED: the statements are not yours to turn. If you find one false, say at which input.
  Laid BY PROGRAM, IN A SANDBOX (cutbox-rows.mjs): the forced cells as the released guide's own fill.sh prints them over the translation 28f00bd758a1bdf9… (all of the seat's roots in one cut). By AI agents, Wed Nov 11 2026. No macro, syntax, notation, axiom, sorry.
-/
import Derived.Test.YtmhcbadggmhopaaChecked
import GoSem.Claim
import GoSem.ClaimJoined
import GoSem.ClaimMapViews
import Derived.JoinedTies
import Derived.KernelRfl
namespace Go.Proofs.Ytmhcbadggmhopaa
/- THE CELL 'sum', in the pinned program and in every row, IS THE sha256 OF THE DUMP (.gsa) THAT YtmhcbadggmhopaaProg.lean LOADS. Nothing in Lean hashes anything: it is a label: what it is worth is what the hold of that sum in a sandbox is worth. -/
noncomputable def Try.pinned : Pinned := { name := "ytmhcbadggmhopaa", sum := "28f00bd758a1bdf9d68c5d1116b1c4245684e08997251cc708013d3df9eddc11", checked := Try.checked }
namespace Rows
def none {H : Type} : Left H := { results := [], args := [] }

/-- 'helmsmanlaw6.ClausesFunctionsMatchSpec': WHATEVER THE INPUT: true; the input reads as it did. -/
def clausesFunctionsMatchSpecSpec : ChangeSpec := { name := "clausesFunctionsMatchSpec", fn := fun _ => fun
  | [d1, d2, d3] => { results := [.lit (.bool true)], args := [d1, d2, d3] }
  | _ => none }
def clausesFunctionsMatchSpecRow : OpenClaim := { program := "ytmhcbadggmhopaa", sum := "28f00bd758a1bdf9d68c5d1116b1c4245684e08997251cc708013d3df9eddc11", func := "helmsman/helmsmanlaw6.ClausesFunctionsMatchSpec", spec := "clausesFunctionsMatchSpec", unfollowed := true, recurses := true, apart := false }
def ClausesFunctionsMatchSpecSaid : Prop := clausesFunctionsMatchSpecRow.holds Try.pinned (OpenSpec.ofChange clausesFunctionsMatchSpecSpec)

/-- ITS FALSE NEIGHBOUR: 'it returns false'. Refute it at one input. -/
def clausesFunctionsMatchSpecWrong : ChangeSpec := { name := "clausesFunctionsMatchSpec", fn := fun _ => fun
  | [d1, d2, d3] => { results := [.lit (.bool false)], args := [d1, d2, d3] }
  | _ => none }
def ClausesFunctionsMatchSpecWrongFalsely : Prop := clausesFunctionsMatchSpecRow.holds Try.pinned (OpenSpec.ofChange clausesFunctionsMatchSpecWrong)

/-- 'helmsmanlaw6.ClausesPropagateIsClosure': WHATEVER THE INPUT: true; the input reads as it did. -/
def clausesPropagateIsClosureSpec : ChangeSpec := { name := "clausesPropagateIsClosure", fn := fun _ => fun
  | [d1, d2, d3] => { results := [.lit (.bool true)], args := [d1, d2, d3] }
  | _ => none }
def clausesPropagateIsClosureRow : OpenClaim := { program := "ytmhcbadggmhopaa", sum := "28f00bd758a1bdf9d68c5d1116b1c4245684e08997251cc708013d3df9eddc11", func := "helmsman/helmsmanlaw6.ClausesPropagateIsClosure", spec := "clausesPropagateIsClosure", unfollowed := true, recurses := true, apart := false }
def ClausesPropagateIsClosureSaid : Prop := clausesPropagateIsClosureRow.holds Try.pinned (OpenSpec.ofChange clausesPropagateIsClosureSpec)

/-- ITS FALSE NEIGHBOUR: 'it returns false'. Refute it at one input. -/
def clausesPropagateIsClosureWrong : ChangeSpec := { name := "clausesPropagateIsClosure", fn := fun _ => fun
  | [d1, d2, d3] => { results := [.lit (.bool false)], args := [d1, d2, d3] }
  | _ => none }
def ClausesPropagateIsClosureWrongFalsely : Prop := clausesPropagateIsClosureRow.holds Try.pinned (OpenSpec.ofChange clausesPropagateIsClosureWrong)

/-- 'helmsmanlaw6.ClausesPropagateIsSound': WHATEVER THE INPUT: true; the input reads as it did. -/
def clausesPropagateIsSoundSpec : ChangeSpec := { name := "clausesPropagateIsSound", fn := fun _ => fun
  | [d1, d2, d3] => { results := [.lit (.bool true)], args := [d1, d2, d3] }
  | _ => none }
def clausesPropagateIsSoundRow : OpenClaim := { program := "ytmhcbadggmhopaa", sum := "28f00bd758a1bdf9d68c5d1116b1c4245684e08997251cc708013d3df9eddc11", func := "helmsman/helmsmanlaw6.ClausesPropagateIsSound", spec := "clausesPropagateIsSound", unfollowed := true, recurses := true, apart := false }
def ClausesPropagateIsSoundSaid : Prop := clausesPropagateIsSoundRow.holds Try.pinned (OpenSpec.ofChange clausesPropagateIsSoundSpec)

/-- ITS FALSE NEIGHBOUR: 'it returns false'. Refute it at one input. -/
def clausesPropagateIsSoundWrong : ChangeSpec := { name := "clausesPropagateIsSound", fn := fun _ => fun
  | [d1, d2, d3] => { results := [.lit (.bool false)], args := [d1, d2, d3] }
  | _ => none }
def ClausesPropagateIsSoundWrongFalsely : Prop := clausesPropagateIsSoundRow.holds Try.pinned (OpenSpec.ofChange clausesPropagateIsSoundWrong)

/-- 'helmsmanlaw6.ClausesAreConjunctions': WHATEVER THE INPUT: true; the input reads as it did. -/
def clausesAreConjunctionsSpec : ChangeSpec := { name := "clausesAreConjunctions", fn := fun _ => fun
  | [d1, d2, d3] => { results := [.lit (.bool true)], args := [d1, d2, d3] }
  | _ => none }
def clausesAreConjunctionsRow : OpenClaim := { program := "ytmhcbadggmhopaa", sum := "28f00bd758a1bdf9d68c5d1116b1c4245684e08997251cc708013d3df9eddc11", func := "helmsman/helmsmanlaw6.ClausesAreConjunctions", spec := "clausesAreConjunctions", unfollowed := true, recurses := true, apart := false }
def ClausesAreConjunctionsSaid : Prop := clausesAreConjunctionsRow.holds Try.pinned (OpenSpec.ofChange clausesAreConjunctionsSpec)

/-- ITS FALSE NEIGHBOUR: 'it returns false'. Refute it at one input. -/
def clausesAreConjunctionsWrong : ChangeSpec := { name := "clausesAreConjunctions", fn := fun _ => fun
  | [d1, d2, d3] => { results := [.lit (.bool false)], args := [d1, d2, d3] }
  | _ => none }
def ClausesAreConjunctionsWrongFalsely : Prop := clausesAreConjunctionsRow.holds Try.pinned (OpenSpec.ofChange clausesAreConjunctionsWrong)

/- THE SECOND FORM. 'bulk': how many values and letters a reading holds, each counted each time it is reached (what is shared counts as often as it is met; a slice's spare places count too). A statement '..UptoSaid' is the law's where the arguments, and the package variables that the reading takes, are together of bulk at most 1048576: NARROWER than '..Said'. Prove '..Said' where nothing that the law and all that it calls make is longer than what came in: it says more and counts as full. Else prove '..UptoSaid'. A law counts once. -/
mutual
def uptoBulk {H : Type} : DataW H → Nat
  | .lit (.string bytes) => bytes.length + 1
  | .lit _ => 1
  | .nil => 1
  | .ptr d => uptoBulk d + 1
  | .slice elems spare => uptoBulkAll elems + uptoBulkAll spare + 1
  | .agg parts => uptoBulkAll parts + 1
  | .iface _ d => uptoBulk d + 1
  | .map entries => uptoBulkEntries entries + 1
  | .held _ => 1
def uptoBulkAll {H : Type} : List (DataW H) → Nat
  | [] => 0
  | d :: r => uptoBulk d + uptoBulkAll r
def uptoBulkEntries {H : Type} : List (Lit × DataW H) → Nat
  | [] => 0
  | x :: r => uptoBulkEntry x + uptoBulkEntries r
def uptoBulkEntry {H : Type} : Lit × DataW H → Nat
  | (.string bytes, d) => bytes.length + uptoBulk d + 1
  | (_, d) => uptoBulk d + 1
 end
def uptoSmall : (H : Type) → List (DataW H) → Bool := fun _ ds => decide (uptoBulkAll ds ≤ 1048576)
def OpenSpec.upto (s : _root_.Go.ChangeSpec) : _root_.Go.OpenSpec := { _root_.Go.OpenSpec.ofChange s with cond := some uptoSmall }

/-- 'helmsmanlaw6.ClausesFunctionsMatchSpec', WHERE WHAT IT READS IS OF BULK AT MOST 1048576: true; the input reads as it did. -/
def clausesFunctionsMatchSpecUptoRow : OpenClaim := { program := "ytmhcbadggmhopaa", sum := "28f00bd758a1bdf9d68c5d1116b1c4245684e08997251cc708013d3df9eddc11", func := "helmsman/helmsmanlaw6.ClausesFunctionsMatchSpec", spec := "clausesFunctionsMatchSpec", unfollowed := true, recurses := true, apart := false, narrowed := true }
def ClausesFunctionsMatchSpecUptoSaid : Prop := clausesFunctionsMatchSpecUptoRow.holds Try.pinned (OpenSpec.upto clausesFunctionsMatchSpecSpec)

/-- 'helmsmanlaw6.ClausesPropagateIsClosure', WHERE WHAT IT READS IS OF BULK AT MOST 1048576: true; the input reads as it did. -/
def clausesPropagateIsClosureUptoRow : OpenClaim := { program := "ytmhcbadggmhopaa", sum := "28f00bd758a1bdf9d68c5d1116b1c4245684e08997251cc708013d3df9eddc11", func := "helmsman/helmsmanlaw6.ClausesPropagateIsClosure", spec := "clausesPropagateIsClosure", unfollowed := true, recurses := true, apart := false, narrowed := true }
def ClausesPropagateIsClosureUptoSaid : Prop := clausesPropagateIsClosureUptoRow.holds Try.pinned (OpenSpec.upto clausesPropagateIsClosureSpec)

/-- 'helmsmanlaw6.ClausesPropagateIsSound', WHERE WHAT IT READS IS OF BULK AT MOST 1048576: true; the input reads as it did. -/
def clausesPropagateIsSoundUptoRow : OpenClaim := { program := "ytmhcbadggmhopaa", sum := "28f00bd758a1bdf9d68c5d1116b1c4245684e08997251cc708013d3df9eddc11", func := "helmsman/helmsmanlaw6.ClausesPropagateIsSound", spec := "clausesPropagateIsSound", unfollowed := true, recurses := true, apart := false, narrowed := true }
def ClausesPropagateIsSoundUptoSaid : Prop := clausesPropagateIsSoundUptoRow.holds Try.pinned (OpenSpec.upto clausesPropagateIsSoundSpec)

/-- 'helmsmanlaw6.ClausesAreConjunctions', WHERE WHAT IT READS IS OF BULK AT MOST 1048576: true; the input reads as it did. -/
def clausesAreConjunctionsUptoRow : OpenClaim := { program := "ytmhcbadggmhopaa", sum := "28f00bd758a1bdf9d68c5d1116b1c4245684e08997251cc708013d3df9eddc11", func := "helmsman/helmsmanlaw6.ClausesAreConjunctions", spec := "clausesAreConjunctions", unfollowed := true, recurses := true, apart := false, narrowed := true }
def ClausesAreConjunctionsUptoSaid : Prop := clausesAreConjunctionsUptoRow.holds Try.pinned (OpenSpec.upto clausesAreConjunctionsSpec)

end Rows
end Go.Proofs.Ytmhcbadggmhopaa
