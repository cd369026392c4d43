/- The law HierarchyPlanMatchesSpec of the package hierarchy holds, without a condition., part 30: ClOpen. -/
import Derived.Test.YtmjiiddncbhgpaaGreatF1
import Derived.BigQuiet
import Derived.ChangeOld
import Derived.Deep.AppendLies
import Derived.Deep.Draws
import Derived.Deep.Fields
import Derived.Deep.LoopGhost
import Derived.Deep.QuietTactic
import Derived.Deep.Slices
import Derived.Laws.AppendOwnNone
import Derived.Laws.OwnMore
import Derived.Lib.Hide
import Derived.OpenShut
import Derived.ProofKit
import Derived.Test.YtmjiiddncbhgpaaGreatProg
import Derived.Test.YtmjiiddncbhgpaaGreatRows
import Derived.WalkKit
namespace Go.Proofs.YtmjiiddncbhgpaaGreat
open Go.ChangeShapes Go.WideShapes Go.ChangeAt Go.RowKit
theorem own_knob : ownKnob Tryz.prog.godebug = none := by kernel_rfl
theorem laid_out : laidOutB Tryz.prog = true := by kernel_rfl

section
variable {H : Type} {enc : TypeId × Value → H} {W : World} {sp : Nat → Bool} {hd : Bool} {v : Value} {d : DataW H} {p : List MemPlace} {base : Nat}
theorem arg_of {α : Type} {E : Enc α} {t : TypeId} (hE : Opens E Tryz.prog t) (h : DataW.Trod enc Tryz.prog W 0 sp hd t v d p) : ∃ a, E.ok W v.cells.toList a := by
  obtain ⟨fuel, hf⟩ := h
  exact hE.2 _ _ _ _ _ _ _ _ _ hf
theorem trod_lt {t : TypeId} (h : DataW.Trod enc Tryz.prog W 0 sp hd t v d p) : ∀ x ∈ p, x.block < W.heap.size := by
  obtain ⟨m, hm⟩ := h
  exact DataW.trod_lt m _ _ _ hm
end
theorem opens_ints : Opens (Enc.sl Enc.int) Tryz.prog 22 := opens_sl Tryz.underlying22 (by kernel_rfl) (opens_int Tryz.underlying3 (by kernel_rfl)) (by decide)
end Go.Proofs.YtmjiiddncbhgpaaGreat
