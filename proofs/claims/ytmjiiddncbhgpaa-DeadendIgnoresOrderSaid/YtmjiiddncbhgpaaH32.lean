/- What the law DeadendIgnoresOrder asks for, part 32: DdOpen. -/
import Derived.Test.YtmjiiddncbhgpaaH1
import Derived.Test.YtmjiiddncbhgpaaH2
import Derived.Test.YtmjiiddncbhgpaaH3
import Derived.Test.YtmjiiddncbhgpaaH4
import Derived.Test.YtmjiiddncbhgpaaH5
import Derived.Test.YtmjiiddncbhgpaaH6
import Derived.Test.YtmjiiddncbhgpaaH7
import Derived.Test.YtmjiiddncbhgpaaH8
import Derived.Test.YtmjiiddncbhgpaaH9
import Derived.Test.YtmjiiddncbhgpaaH10
import Derived.Test.YtmjiiddncbhgpaaH11
import Derived.Test.YtmjiiddncbhgpaaH12
import Derived.Test.YtmjiiddncbhgpaaH13
import Derived.Test.YtmjiiddncbhgpaaH14
import Derived.Test.YtmjiiddncbhgpaaH15
import Derived.Test.YtmjiiddncbhgpaaH16
import Derived.Test.YtmjiiddncbhgpaaH17
import Derived.Test.YtmjiiddncbhgpaaH18
import Derived.Test.YtmjiiddncbhgpaaH19
import Derived.Test.YtmjiiddncbhgpaaH20
import Derived.Test.YtmjiiddncbhgpaaH30
import Derived.Test.YtmjiiddncbhgpaaH31
import Derived.BigQuiet
import Derived.ChangeOld
import Derived.Deep.AppendLies
import Derived.Deep.DeepCutAuto
import Derived.Deep.Draws
import Derived.Deep.Fields
import Derived.Deep.LoopGhost
import Derived.Deep.QuietTactic
import Derived.Deep.RegionHeld
import Derived.Deep.RegionHeld3
import Derived.Deep.RegionLaw
import Derived.Deep.Slices
import Derived.DeepKeys4
import Derived.Ground.Names2Prog
import Derived.Ground.SlgnProg
import Derived.Ground.SlsfProg
import Derived.IntWalk
import Derived.Laws.AppendOwnNone
import Derived.Laws.BitsAllLaws
import Derived.Laws.EntriesVeiled
import Derived.Laws.OwnMore
import Derived.Lib.Hide
import Derived.Lib.SlicesCompact
import Derived.LoopIn
import Derived.LoopNIn
import Derived.Maps.AppendAt
import Derived.Maps.OwnIn
import Derived.Maps.OwnOps
import Derived.Maps.OwnSet
import Derived.OpenShut
import Derived.OrdersHeld
import Derived.OrdersIn
import Derived.OwnWalkIn
import Derived.ProofKit
import Derived.RangeFuncBound
import Derived.RangeFuncCalls
import Derived.RangeFuncLeaves
import Derived.RangeFuncNested
import Derived.Shelf.Abstract
import Derived.Shelf.RegionOpen
import Derived.Shelf.Slices.Cells
import Derived.Shelf.Slices.Clone
import Derived.Shelf.Slices.CompactI
import Derived.Shelf.Slices.Empties
import Derived.Shelf.Slices.In.SortNone
import Derived.Shelf.Slices.SearchI
import Derived.Shelf.Sort.Plain
import Derived.Sort.OwnSortedInts
import Derived.StillTail
import Derived.StillTailTactics
import Derived.TacticsInMore
import Derived.Test.YtmjiiddncbhgpaaProg
import Derived.Test.YtmjiiddncbhgpaaRows
import Derived.WalkKit
import Init
namespace Go.Proofs.Ytmjiiddncbhgpaa
open Go.ChangeShapes Go.WideShapes Go.ChangeAt Go.RowKit
theorem opens_ss2 : Opens ((Enc.sl Enc.int).pair (Enc.sl Enc.int)) Try.prog 33 :=
  opens_struct2 Try.underlying33 (by kernel_rfl) opens_ints opens_ints rfl rfl
set_option maxRecDepth 100000 in
theorem opens_ss : Opens Enc.ss Try.prog 33 :=
  ⟨opens_ss2.1, fun H enc w base spare held fuel cs x h => by
    obtain ⟨⟨a, k⟩, us, vs, rfl, ⟨A, n, e, rfl, ha⟩, ⟨B, m, d, rfl, hb⟩⟩ := opens_ss2.2 H enc w base spare held fuel cs x h
    exact ⟨⟨a, k⟩, A, n, e, B, m, d, rfl, ha, hb⟩⟩
theorem opens_sets : Opens (Enc.sl Enc.ss) Try.prog 26 := opens_sl Try.underlying26 (by kernel_rfl) opens_ss (by decide)
end Go.Proofs.Ytmjiiddncbhgpaa
