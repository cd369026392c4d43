/- What the laws of lowerbound ask for, part 37: LoOpen. -/
import Derived.Test.YtliggcmohcdchaaU1
import Derived.Test.YtliggcmohcdchaaU2
import Derived.Test.YtliggcmohcdchaaU3
import Derived.Test.YtliggcmohcdchaaU4
import Derived.Test.YtliggcmohcdchaaU5
import Derived.Test.YtliggcmohcdchaaU6
import Derived.Test.YtliggcmohcdchaaU7
import Derived.Test.YtliggcmohcdchaaU8
import Derived.Test.YtliggcmohcdchaaU16
import Derived.Test.YtliggcmohcdchaaU17
import Derived.Test.YtliggcmohcdchaaU18
import Derived.Test.YtliggcmohcdchaaU35
import Derived.Test.YtliggcmohcdchaaU36
import Derived.BigQuiet
import Derived.ChangeOld
import Derived.Deep.AppendLies
import Derived.Deep.Draws
import Derived.Deep.Fields
import Derived.Deep.LoopGhost
import Derived.Deep.QuietTactic
import Derived.Deep.Slices
import Derived.DeepKeys4
import Derived.Ground.Names2Prog
import Derived.Ground.SlgnProg
import Derived.Ground.SlsfProg
import Derived.IntWalk
import Derived.Laws.AppendOwnNone
import Derived.Laws.BitsAllLaws
import Derived.Laws.OwnMore
import Derived.Lib.Hide
import Derived.Lib.SlicesCompact
import Derived.LoopIn
import Derived.LoopNIn
import Derived.Maps.AppendAt
import Derived.Maps.OwnIn
import Derived.Maps.OwnOps
import Derived.Maps.OwnSet
import Derived.OpenShut
import Derived.OwnWalkIn
import Derived.ProofKit
import Derived.RangeFuncBound
import Derived.RangeFuncCalls
import Derived.RangeFuncLeaves
import Derived.RangeFuncNested
import Derived.Shelf.Abstract
import Derived.Shelf.RegionOpen
import Derived.Shelf.Slices.Cells
import Derived.Shelf.Slices.Clone
import Derived.Shelf.Slices.CompactI
import Derived.Shelf.Slices.Empties
import Derived.Shelf.Slices.In.SortNone
import Derived.Shelf.Slices.SearchI
import Derived.Shelf.Sort.Plain
import Derived.Sort.OwnSortedInts
import Derived.TacticsInMore
import Derived.Test.YtliggcmohcdchaaProg
import Derived.Test.YtliggcmohcdchaaRows
import Derived.WalkKit
namespace Go.Proofs.Ytliggcmohcdchaa
open Go.ChangeShapes Go.WideShapes Go.ChangeAt Go.RowKit
theorem opens_ent2 : Opens ((Enc.sl Enc.int).pair Enc.int) Try.prog 38 :=
  opens_struct2 Try.underlying38 (by kernel_rfl) opens_ints (opens_int Try.underlying3 (by kernel_rfl)) rfl rfl
set_option maxRecDepth 100000 in
theorem opens_ent : Opens Enc.ent Try.prog 38 :=
  ⟨opens_ent2.1, fun H enc w base spare held fuel cs x h => by
    obtain ⟨⟨a, k⟩, us, vs, rfl, ⟨A, n, e, rfl, ha⟩, rfl, hk⟩ := opens_ent2.2 H enc w base spare held fuel cs x h
    exact ⟨⟨a, k⟩, A, n, e, rfl, ha, hk⟩⟩
theorem opens_ents : Opens (Enc.sl Enc.ent) Try.prog 26 := opens_sl Try.underlying26 (by kernel_rfl) opens_ent (by decide)
end Go.Proofs.Ytliggcmohcdchaa
