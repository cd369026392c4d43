/- Dead ends: the law that Check and Covers answer as the specification requires. No condition., part 35: DdOpen. -/
import Derived.Test.YtmjiiddncbhgpaaGreatA1
import Derived.Test.YtmjiiddncbhgpaaGreatA2
import Derived.Test.YtmjiiddncbhgpaaGreatA3
import Derived.Test.YtmjiiddncbhgpaaGreatA4
import Derived.Test.YtmjiiddncbhgpaaGreatA5
import Derived.Test.YtmjiiddncbhgpaaGreatA6
import Derived.Test.YtmjiiddncbhgpaaGreatA7
import Derived.Test.YtmjiiddncbhgpaaGreatA8
import Derived.Test.YtmjiiddncbhgpaaGreatA9
import Derived.Test.YtmjiiddncbhgpaaGreatA10
import Derived.Test.YtmjiiddncbhgpaaGreatA11
import Derived.Test.YtmjiiddncbhgpaaGreatA12
import Derived.Test.YtmjiiddncbhgpaaGreatA13
import Derived.Test.YtmjiiddncbhgpaaGreatA14
import Derived.Test.YtmjiiddncbhgpaaGreatA15
import Derived.Test.YtmjiiddncbhgpaaGreatA16
import Derived.Test.YtmjiiddncbhgpaaGreatA17
import Derived.Test.YtmjiiddncbhgpaaGreatA18
import Derived.Test.YtmjiiddncbhgpaaGreatA19
import Derived.Test.YtmjiiddncbhgpaaGreatA20
import Derived.Test.YtmjiiddncbhgpaaGreatA33
import Derived.Test.YtmjiiddncbhgpaaGreatA34
import Derived.BigQuiet
import Derived.ChangeOld
import Derived.Deep.AppendLies
import Derived.Deep.DeepCutAuto
import Derived.Deep.Draws
import Derived.Deep.Fields
import Derived.Deep.LoopGhost
import Derived.Deep.QuietTactic
import Derived.Deep.RegionHeld
import Derived.Deep.RegionHeld3
import Derived.Deep.RegionLaw
import Derived.Deep.Slices
import Derived.DeepKeys4
import Derived.Ground.Names2Prog
import Derived.Ground.SlgnProg
import Derived.IntWalk
import Derived.Laws.AppendOwnNone
import Derived.Laws.BitsAllLaws
import Derived.Laws.EntriesVeiled
import Derived.Laws.OwnMore
import Derived.Lib.Hide
import Derived.Lib.SlicesCompact
import Derived.LoopIn
import Derived.LoopNIn
import Derived.Maps.AppendAt
import Derived.Maps.OwnIn
import Derived.Maps.OwnOps
import Derived.Maps.OwnSet
import Derived.OpenShut
import Derived.OrdersHeld
import Derived.OrdersIn
import Derived.OwnWalkIn
import Derived.ProofKit
import Derived.RangeFuncBound
import Derived.RangeFuncCalls
import Derived.RangeFuncLeaves
import Derived.RangeFuncNested
import Derived.Shelf.Abstract
import Derived.Shelf.RegionOpen
import Derived.Shelf.Slices.Cells
import Derived.Shelf.Slices.Clone
import Derived.Shelf.Slices.CompactI
import Derived.Shelf.Slices.Empties
import Derived.Shelf.Slices.In.SortNone
import Derived.Shelf.Slices.SearchI
import Derived.Shelf.Sort.Plain
import Derived.Sort.OwnSortedInts
import Derived.StillTail
import Derived.StillTailTactics
import Derived.TacticsInMore
import Derived.Test.YtmjiiddncbhgpaaGreatProg
import Derived.Test.YtmjiiddncbhgpaaGreatRows
import Derived.WalkKit
import Init
namespace Go.Proofs.YtmjiiddncbhgpaaGreat
open Go.ChangeShapes Go.WideShapes Go.ChangeAt Go.RowKit
theorem opens_ss2 : Opens ((Enc.sl Enc.int).pair (Enc.sl Enc.int)) Tryz.prog 70 :=
  opens_struct2 Tryz.underlying70 (by kernel_rfl) opens_ints opens_ints rfl rfl
set_option maxRecDepth 100000 in
theorem opens_ss : Opens Enc.ss Tryz.prog 70 :=
  ⟨opens_ss2.1, fun H enc w base spare held fuel cs x h => by
    obtain ⟨⟨a, k⟩, us, vs, rfl, ⟨A, n, e, rfl, ha⟩, ⟨B, m, d, rfl, hb⟩⟩ := opens_ss2.2 H enc w base spare held fuel cs x h
    exact ⟨⟨a, k⟩, A, n, e, B, m, d, rfl, ha, hb⟩⟩
theorem opens_sets : Opens (Enc.sl Enc.ss) Tryz.prog 26 := opens_sl Tryz.underlying26 (by kernel_rfl) opens_ss (by decide)
end Go.Proofs.YtmjiiddncbhgpaaGreat
