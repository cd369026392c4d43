/- Dead ends: the law that a proof excludes plans and covers all reachable states. No condition., part 42: DdOpen. -/
import Derived.Test.YtmjiiddncbhgpaaGreatC1
import Derived.Test.YtmjiiddncbhgpaaGreatC2
import Derived.Test.YtmjiiddncbhgpaaGreatC3
import Derived.Test.YtmjiiddncbhgpaaGreatC4
import Derived.Test.YtmjiiddncbhgpaaGreatC5
import Derived.Test.YtmjiiddncbhgpaaGreatC6
import Derived.Test.YtmjiiddncbhgpaaGreatC7
import Derived.Test.YtmjiiddncbhgpaaGreatC8
import Derived.Test.YtmjiiddncbhgpaaGreatC9
import Derived.Test.YtmjiiddncbhgpaaGreatC10
import Derived.Test.YtmjiiddncbhgpaaGreatC11
import Derived.Test.YtmjiiddncbhgpaaGreatC12
import Derived.Test.YtmjiiddncbhgpaaGreatC13
import Derived.Test.YtmjiiddncbhgpaaGreatC14
import Derived.Test.YtmjiiddncbhgpaaGreatC15
import Derived.Test.YtmjiiddncbhgpaaGreatC16
import Derived.Test.YtmjiiddncbhgpaaGreatC17
import Derived.Test.YtmjiiddncbhgpaaGreatC18
import Derived.Test.YtmjiiddncbhgpaaGreatC19
import Derived.Test.YtmjiiddncbhgpaaGreatC20
import Derived.Test.YtmjiiddncbhgpaaGreatC21
import Derived.Test.YtmjiiddncbhgpaaGreatC40
import Derived.Test.YtmjiiddncbhgpaaGreatC41
import Derived.BigQuiet
import Derived.ChangeOld
import Derived.Deep.AppendLies
import Derived.Deep.DeepCutAuto
import Derived.Deep.Draws
import Derived.Deep.Fields
import Derived.Deep.LoopGhost
import Derived.Deep.QuietTactic
import Derived.Deep.RegionHeld
import Derived.Deep.RegionHeld3
import Derived.Deep.RegionLaw
import Derived.Deep.Slices
import Derived.DeepKeys4
import Derived.Ground.Names2Prog
import Derived.Ground.SlgnProg
import Derived.IntWalk
import Derived.Laws.AppendOwnNone
import Derived.Laws.BitsAllLaws
import Derived.Laws.EntriesVeiled
import Derived.Laws.OwnMore
import Derived.Lib.Hide
import Derived.Lib.SlicesCompact
import Derived.LoopIn
import Derived.LoopNIn
import Derived.Maps.AppendAt
import Derived.Maps.OwnIn
import Derived.Maps.OwnOps
import Derived.Maps.OwnSet
import Derived.OpenShut
import Derived.OrdersHeld
import Derived.OrdersIn
import Derived.OwnWalkIn
import Derived.ProofKit
import Derived.RangeFuncBound
import Derived.RangeFuncCalls
import Derived.RangeFuncLeaves
import Derived.RangeFuncNested
import Derived.Shelf.Abstract
import Derived.Shelf.RegionOpen
import Derived.Shelf.Slices.Cells
import Derived.Shelf.Slices.Clone
import Derived.Shelf.Slices.CompactI
import Derived.Shelf.Slices.Empties
import Derived.Shelf.Slices.In.SortNone
import Derived.Shelf.Slices.SearchI
import Derived.Shelf.Sort.Plain
import Derived.Sort.OwnSortedInts
import Derived.StillTail
import Derived.StillTailTactics
import Derived.TacticsInMore
import Derived.Test.YtmjiiddncbhgpaaGreatProg
import Derived.Test.YtmjiiddncbhgpaaGreatRows
import Derived.WalkKit
import Init
namespace Go.Proofs.YtmjiiddncbhgpaaGreat
open Go.ChangeShapes Go.WideShapes Go.ChangeAt Go.RowKit
theorem opens_ss2 : Opens ((Enc.sl Enc.int).pair (Enc.sl Enc.int)) Tryz.prog 70 :=
  opens_struct2 Tryz.underlying70 (by kernel_rfl) opens_ints opens_ints rfl rfl
set_option maxRecDepth 100000 in
theorem opens_ss : Opens Enc.ss Tryz.prog 70 :=
  ⟨opens_ss2.1, fun H enc w base spare held fuel cs x h => by
    obtain ⟨⟨a, k⟩, us, vs, rfl, ⟨A, n, e, rfl, ha⟩, ⟨B, m, d, rfl, hb⟩⟩ := opens_ss2.2 H enc w base spare held fuel cs x h
    exact ⟨⟨a, k⟩, A, n, e, B, m, d, rfl, ha, hb⟩⟩
theorem opens_sets : Opens (Enc.sl Enc.ss) Tryz.prog 26 := opens_sl Tryz.underlying26 (by kernel_rfl) opens_ss (by decide)
end Go.Proofs.YtmjiiddncbhgpaaGreat
