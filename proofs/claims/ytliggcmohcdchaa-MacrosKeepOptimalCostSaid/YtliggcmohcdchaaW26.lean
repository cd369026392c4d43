/- What the law of macros' costs asks for, part 26: Lo1. -/
import Derived.Test.YtliggcmohcdchaaW1
import Derived.Test.YtliggcmohcdchaaW2
import Derived.Test.YtliggcmohcdchaaW3
import Derived.Test.YtliggcmohcdchaaW4
import Derived.Test.YtliggcmohcdchaaW5
import Derived.Test.YtliggcmohcdchaaW9
import Derived.Test.YtliggcmohcdchaaW10
import Derived.Test.YtliggcmohcdchaaW11
import Derived.Test.YtliggcmohcdchaaW12
import Derived.Test.YtliggcmohcdchaaW13
import Derived.BigQuiet
import Derived.Deep.AppendLies
import Derived.Deep.Draws
import Derived.Deep.Fields
import Derived.Deep.LoopGhost
import Derived.Deep.QuietTactic
import Derived.Deep.Slices
import Derived.DeepKeys4
import Derived.Ground.Names2Prog
import Derived.Ground.SlgnProg
import Derived.Ground.SlsfProg
import Derived.IntWalk
import Derived.Laws.AppendOwnNone
import Derived.Laws.BitsAllLaws
import Derived.Laws.OwnMore
import Derived.Lib.Hide
import Derived.Lib.SlicesCompact
import Derived.LoopIn
import Derived.LoopNIn
import Derived.Maps.AppendAt
import Derived.Maps.OwnIn
import Derived.Maps.OwnOps
import Derived.Maps.OwnSet
import Derived.OwnWalkIn
import Derived.RangeFuncBound
import Derived.RangeFuncCalls
import Derived.RangeFuncLeaves
import Derived.RangeFuncNested
import Derived.Shelf.Abstract
import Derived.Shelf.RegionOpen
import Derived.Shelf.Slices.Cells
import Derived.Shelf.Slices.Clone
import Derived.Shelf.Slices.CompactI
import Derived.Shelf.Slices.Empties
import Derived.Shelf.Slices.In.SortNone
import Derived.Shelf.Slices.SearchI
import Derived.Shelf.Sort.Plain
import Derived.Sort.OwnSortedInts
import Derived.TacticsInMore
import Derived.Test.YtliggcmohcdchaaProg
import Derived.WalkKit
namespace Go.Proofs.Ytliggcmohcdchaa
set_option linter.unusedVariables false
open Go.RowKit
def Enc.ent : Enc Ent where
  size := 2
  ok := fun w vs e => ∃ A n c, vs = [.slice A n c, .int .i64 e.val] ∧ Rd Enc.int w A n c e.st ∧ I64s e.val
  len := fun ⟨_, _, _, h, _⟩ => by rw [h]; rfl
  keep := fun ⟨A, n, c, h, h1, h2⟩ hb => ⟨A, n, c, h, h1.keep hb, h2⟩
theorem Rd.ent {w : World} {A : Option Addr} {n c k : Nat} {es : List Ent} (h : Rd Enc.ent w A n c es) (hk : k < n) :
    ∃ b off e A1 n1 c1, A = some ⟨b, off, none⟩ ∧ es[k]? = some e ∧ w.cell? ⟨b, off + k * 2, none⟩ = some (.slice A1 n1 c1) ∧ w.cell? ⟨b, off + k * 2 + 1, none⟩ = some (.int .i64 e.val) ∧ Rd Enc.int w A1 n1 c1 e.st ∧ I64s e.val := by
  obtain ⟨b, off, e, vs, ha, he, ⟨A1, n1, c1, hvs, h1, h2⟩, hv⟩ := h.get hk
  subst hvs
  exact ⟨b, off, e, A1, n1, c1, ha, he, hv 0 _ rfl, hv 1 _ rfl, h1, h2⟩
end Go.Proofs.Ytliggcmohcdchaa
