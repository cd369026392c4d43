/- The law HierarchyDecomposeMatchesSpec of the package hierarchy holds, without a condition., part 32: ClOpen. -/
import Derived.Test.YtmjiiddncbhgpaaP1
import Derived.BigQuiet
import Derived.ChangeOld
import Derived.Deep.AppendLies
import Derived.Deep.Draws
import Derived.Deep.Fields
import Derived.Deep.LoopGhost
import Derived.Deep.QuietTactic
import Derived.Deep.Slices
import Derived.Laws.AppendOwnNone
import Derived.Laws.OwnMore
import Derived.Lib.Hide
import Derived.OpenShut
import Derived.ProofKit
import Derived.Test.YtmjiiddncbhgpaaProg
import Derived.Test.YtmjiiddncbhgpaaRows
import Derived.WalkKit
namespace Go.Proofs.Ytmjiiddncbhgpaa
open Go.ChangeShapes Go.WideShapes Go.ChangeAt Go.RowKit
theorem own_knob : ownKnob Try.prog.godebug = none := by kernel_rfl
theorem laid_out : laidOutB Try.prog = true := by kernel_rfl

section
variable {H : Type} {enc : TypeId × Value → H} {W : World} {sp : Nat → Bool} {hd : Bool} {v : Value} {d : DataW H} {p : List MemPlace} {base : Nat}
theorem arg_of {α : Type} {E : Enc α} {t : TypeId} (hE : Opens E Try.prog t) (h : DataW.Trod enc Try.prog W 0 sp hd t v d p) : ∃ a, E.ok W v.cells.toList a := by
  obtain ⟨fuel, hf⟩ := h
  exact hE.2 _ _ _ _ _ _ _ _ _ hf
theorem trod_lt {t : TypeId} (h : DataW.Trod enc Try.prog W 0 sp hd t v d p) : ∀ x ∈ p, x.block < W.heap.size := by
  obtain ⟨m, hm⟩ := h
  exact DataW.trod_lt m _ _ _ hm
set_option maxRecDepth 100000 in
theorem open_sl {α : Type} {E : Enc α} {t e : TypeId} (ht : Try.prog.underlying t = some (.slice e)) (hE : Opens (Enc.sl E) Try.prog t) (hv : Value.okWide Try.prog W .any base t v) (h : DataW.Trod enc Try.prog W 0 sp hd t v d p) :
    ∃ A n c xs, v = .slice A n c ∧ Rd E W A n c xs := by
  obtain ⟨a, len, cap, rfl⟩ := okWide_slice ht hv
  obtain ⟨xs, A, n, c, e1, hr⟩ := arg_of hE h
  simp only [Value.cells, List.cons.injEq, and_true, Value.slice.injEq] at e1
  obtain ⟨rfl, rfl, rfl⟩ := e1
  exact ⟨_, _, _, xs, rfl, hr⟩
end
theorem opens_ints : Opens (Enc.sl Enc.int) Try.prog 22 := opens_sl Try.underlying22 (by kernel_rfl) (opens_int Try.underlying3 (by kernel_rfl)) (by decide)
end Go.Proofs.Ytmjiiddncbhgpaa
