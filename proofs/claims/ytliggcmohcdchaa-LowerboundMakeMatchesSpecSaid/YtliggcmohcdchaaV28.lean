/- What the law of made tables' costs asks for, part 28: Mc1. -/
import Derived.Test.YtliggcmohcdchaaV1
import Derived.Test.YtliggcmohcdchaaV2
import Derived.Test.YtliggcmohcdchaaV3
import Derived.Test.YtliggcmohcdchaaV16
import Derived.Test.YtliggcmohcdchaaV17
import Derived.BigQuiet
import Derived.Deep.AppendLies
import Derived.Deep.Draws
import Derived.Deep.Fields
import Derived.Deep.LoopGhost
import Derived.Deep.QuietTactic
import Derived.Deep.RegionHeld3
import Derived.Deep.Slices
import Derived.Ground.Names2Prog
import Derived.Ground.SlgnProg
import Derived.Ground.SlsfProg
import Derived.IntWalk
import Derived.Laws.AppendOwnNone
import Derived.Laws.OwnMore
import Derived.Lib.Hide
import Derived.Lib.SlicesCompact
import Derived.Maps.AppendAt
import Derived.Shelf.Slices.Cells
import Derived.Shelf.Slices.Clone
import Derived.Shelf.Slices.CompactI
import Derived.Shelf.Slices.Empties
import Derived.Shelf.Slices.In.SortNone
import Derived.Shelf.Slices.SearchI
import Derived.Shelf.Sort.Plain
import Derived.Sort.OwnSortedInts
import Derived.Test.YtliggcmohcdchaaProg
import Derived.WalkKit
namespace Go.Proofs.Ytliggcmohcdchaa
set_option linter.unusedVariables false
set_option linter.unusedSimpArgs false
open Go.RowKit
def opAt (os : List Opr) (i : Int) : Opr := os.getD i.toNat ⟨[], [], [], 0⟩
theorem opAt_eq {os : List Opr} {k : Nat} {o : Opr} (h : os[k]? = some o) : opAt os (k : Int) = o := by
  unfold opAt
  rw [Int.toNat_natCast, List.getD_eq_getElem?_getD, h]
  rfl
/-- the sets of an operator lie below n -/
structure SetOp (n : Nat) (o : Opr) : Prop where
  pre : setB n o.pre = true
  add : setB n o.add = true
  del : setB n o.del = true
theorem OkOp.sets {n : Nat} {o : Opr} (h : OkOp n o) : SetOp n o := ⟨h.pre, h.add, h.del⟩
section
variable {X : Nat} {w w' : World} {A : Option Addr} {n c : Nat} {l : List Int}
end
section
variable {X : Nat} {w w' : World} {A : Option Addr} {n c : Nat} {l : List Int}
end
theorem below_set {B : Nat} {w w' : World} (h : Below B w w') {g : Nat} (hg : B ≤ g) (i : Nat) (u : Value) : Below B w (w'.setCell ⟨g, i, none⟩ u) := h.setCell hg u
end Go.Proofs.Ytliggcmohcdchaa
