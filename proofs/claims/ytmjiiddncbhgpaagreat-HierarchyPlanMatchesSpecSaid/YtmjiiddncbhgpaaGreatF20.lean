/- The law HierarchyPlanMatchesSpec of the package hierarchy holds, without a condition., part 20: Swd. -/
import Derived.Test.YtmjiiddncbhgpaaGreatF1
import Derived.Test.YtmjiiddncbhgpaaGreatF2
import Derived.Test.YtmjiiddncbhgpaaGreatF3
import Derived.Test.YtmjiiddncbhgpaaGreatF4
import Derived.Test.YtmjiiddncbhgpaaGreatF5
import Derived.Test.YtmjiiddncbhgpaaGreatF6
import Derived.Test.YtmjiiddncbhgpaaGreatF7
import Derived.Test.YtmjiiddncbhgpaaGreatF8
import Derived.Test.YtmjiiddncbhgpaaGreatF13
import Derived.Test.YtmjiiddncbhgpaaGreatF14
import Derived.Test.YtmjiiddncbhgpaaGreatF17
import Derived.BigQuiet
import Derived.Deep.AppendLies
import Derived.Deep.DeepCutAuto
import Derived.Deep.Draws
import Derived.Deep.Fields
import Derived.Deep.LoopGhost
import Derived.Deep.QuietTactic
import Derived.Deep.RegionHeld3
import Derived.Deep.Slices
import Derived.DeepKeys4
import Derived.Ground.Names2Prog
import Derived.Ground.SlgnProg
import Derived.Ground.SlsfProg
import Derived.IntWalk
import Derived.Laws.AppendOwnNone
import Derived.Laws.BitsAllLaws
import Derived.Laws.OwnMore
import Derived.Lib.Hide
import Derived.Lib.SlicesCompact
import Derived.LoopIn
import Derived.LoopNIn
import Derived.Maps.AppendAt
import Derived.Maps.OwnIn
import Derived.Maps.OwnOps
import Derived.Maps.OwnSet
import Derived.OwnWalkIn
import Derived.RangeFuncBound
import Derived.RangeFuncCalls
import Derived.RangeFuncLeaves
import Derived.RangeFuncNested
import Derived.Shelf.Abstract
import Derived.Shelf.RegionOpen
import Derived.Shelf.Slices.Cells
import Derived.Shelf.Slices.Clone
import Derived.Shelf.Slices.CompactI
import Derived.Shelf.Slices.Empties
import Derived.Shelf.Slices.In.SortNone
import Derived.Shelf.Slices.SearchI
import Derived.Shelf.Sort.Plain
import Derived.Sort.OwnSortedInts
import Derived.TacticsInMore
import Derived.Test.YtmjiiddncbhgpaaGreatProg
import Derived.WalkKit
namespace Go.Proofs.YtmjiiddncbhgpaaGreat
set_option linter.unusedVariables false
set_option linter.unusedSimpArgs false
open Go.RowKit
/-- the reachable states of a task, each once, in their order -/
structure ListOf (T : Tsk) (l : List Nat) : Prop where
  all : AllOf (stepW (T.ops.map mkOp)) (wordF T.init) l
  up : SortedW l
  few : l.length ≤ 2000
theorem below_setG {B : Nat} {w w' : World} (h : Below B w w') {g : Nat} (hg : B ≤ g) (i : Nat) (u : Value) : Below B w (w'.setCell ⟨g, i, none⟩ u) := h.setCell hg u
def CheckedP (w : World) (T : Tsk) (e : Ending) (w' : World) : Prop :=
  Below w.heap.size w w' ∧ (((taskFault T).1 ≠ 0 ∧ e = .returned (.tuple #[.pointer none, .slice none 0 0, fault (taskFault T).1 (taskFault T).2])) ∨
    ((taskFault T).1 = 0 ∧ TooMany T ∧ e = .returned (.tuple #[.pointer none, .slice none 0 0, fault 10 (-7)])) ∨
    ((taskFault T).1 = 0 ∧ ∃ (g : Nat) (A : Option Addr) (c : Nat) (l : List Nat), e = .returned (.tuple #[.pointer (some ⟨g, 0, none⟩), .slice A l.length c, fault 0 0]) ∧ w.heap.size ≤ g ∧ g < w'.heap.size ∧
      (∀ w'', Chg (fun b => b < w.heap.size) w' w'' → WordsR w'' g (wordF T.init) (wordF T.goal) (T.ops.map mkOp)) ∧ RowW w.heap.size w' A l.length c l ∧ ListOf T l))
end Go.Proofs.YtmjiiddncbhgpaaGreat
