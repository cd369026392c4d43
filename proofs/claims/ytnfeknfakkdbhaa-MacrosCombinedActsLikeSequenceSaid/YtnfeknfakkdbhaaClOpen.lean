/- The laws' arguments: from the form's own words to the walks' words. -/
import Derived.Test.YtnfeknfakkdbhaaBase
import Derived.Test.YtnfeknfakkdbhaaRows
import Derived.ProofKit
import Derived.OpenShut
import Derived.ChangeOld
namespace Go.Proofs.Ytnfeknfakkdbhaa
open Go.ChangeShapes Go.WideShapes Go.ChangeAt Go.RowKit

theorem own_knob : ownKnob Try.prog.godebug = none := by kernel_rfl
theorem laid_out : laidOutB Try.prog = true := by kernel_rfl

section
variable {H : Type} {enc : TypeId × Value → H} {W : World} {sp : Nat → Bool} {hd : Bool} {v : Value} {d : DataW H} {p : List MemPlace} {base : Nat}
theorem arg_of {α : Type} {E : Enc α} {t : TypeId} (hE : Opens E Try.prog t) (h : DataW.Trod enc Try.prog W 0 sp hd t v d p) : ∃ a, E.ok W v.cells.toList a := by
  obtain ⟨fuel, hf⟩ := h
  exact hE.2 _ _ _ _ _ _ _ _ _ hf
theorem trod_lt {t : TypeId} (h : DataW.Trod enc Try.prog W 0 sp hd t v d p) : ∀ x ∈ p, x.block < W.heap.size := by
  obtain ⟨m, hm⟩ := h
  exact DataW.trod_lt m _ _ _ hm
set_option maxRecDepth 100000 in
theorem open_sl {α : Type} {E : Enc α} {t e : TypeId} (ht : Try.prog.underlying t = some (.slice e)) (hE : Opens (Enc.sl E) Try.prog t) (hv : Value.okWide Try.prog W .any base t v) (h : DataW.Trod enc Try.prog W 0 sp hd t v d p) :
    ∃ A n c xs, v = .slice A n c ∧ Rd E W A n c xs := by
  obtain ⟨a, len, cap, rfl⟩ := okWide_slice ht hv
  obtain ⟨xs, A, n, c, e1, hr⟩ := arg_of hE h
  simp only [Value.cells, List.cons.injEq, and_true, Value.slice.injEq] at e1
  obtain ⟨rfl, rfl, rfl⟩ := e1
  exact ⟨_, _, _, xs, rfl, hr⟩
end

theorem opens_ints : Opens (Enc.sl Enc.int) Try.prog 22 := opens_sl Try.underlying22 (by kernel_rfl) (opens_int Try.underlying3 (by kernel_rfl)) (by decide)
theorem opens_bools : Opens (Enc.sl Enc.bool) Try.prog 52 := opens_sl Try.underlying52 (by kernel_rfl) (opens_bool Try.underlying4 (by kernel_rfl)) (by decide)
theorem opens_rows : Opens (Enc.sl (Enc.sl Enc.int)) Try.prog 40 := opens_sl Try.underlying40 (by kernel_rfl) opens_ints (by decide)
theorem opens_cnf : Opens (Enc.int.pair (Enc.sl (Enc.sl Enc.int))) Try.prog 51 := opens_struct2 Try.underlying51 (by kernel_rfl) (opens_int Try.underlying3 (by kernel_rfl)) opens_rows rfl rfl

set_option maxRecDepth 100000 in
theorem open_cnf {H : Type} {enc : TypeId × Value → H} {W : World} {sp : Nat → Bool} {hd : Bool} {v : Value} {d : DataW H} {p : List MemPlace} {base : Nat} (hv : Value.okWide Try.prog W .any base 51 v) (h : DataW.Trod enc Try.prog W 0 sp hd 51 v d p) :
    ∃ x A n c cs, v = .agg #[.int .i64 x, .slice A n c] ∧ (-9223372036854775808 ≤ x ∧ x ≤ 9223372036854775807) ∧ Rd (Enc.sl Enc.int) W A n c cs := by
  obtain ⟨cs, rfl, _⟩ := okWide_struct Try.underlying51 hv
  obtain ⟨a, us, vs, e1, ⟨rfl, hx⟩, A, n, c, rfl, hr⟩ := arg_of opens_cnf h
  refine ⟨_, A, n, c, _, ?_, hx, hr⟩
  congr 1
  apply Array.ext'
  simpa [Value.cells] using e1
end Go.Proofs.Ytnfeknfakkdbhaa
