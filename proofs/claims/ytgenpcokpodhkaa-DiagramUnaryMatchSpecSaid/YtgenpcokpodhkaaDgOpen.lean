/- The laws' diagrams: from the form's own words to the walks' words. -/
import Derived.Test.YtgenpcokpodhkaaClOpenD
import Derived.Test.YtgenpcokpodhkaaStore7
namespace Go.Proofs.Ytgenpcokpodhkaa
open Go.ChangeShapes Go.WideShapes Go.ChangeAt Go.RowKit

theorem opens_struct3 {P : Program} {α β γ : Type} {E : Enc α} {F : Enc β} {G : Enc γ} {t : TypeId} {f0 f1 f2 : Field} (ht : P.underlying t = some (.struct #[f0, f1, f2])) (hc : P.cellsOf t = E.size + (F.size + G.size))
    (h0 : Opens E P f0.type) (h1 : Opens F P f1.type) (h2 : Opens G P f2.type) (o0 : f0.offset = 0) (o1 : f1.offset = E.size) (o2 : f2.offset = E.size + F.size) : Opens (E.pair (F.pair G)) P t :=
  ⟨hc, fun H enc w base spare held fuel cs x h => by
    obtain ⟨xs, n, _, _, hl, hxl, hf⟩ := DataW.trod_struct ht h
    have g0 := hf 0 f0 rfl
    have g1 := hf 1 f1 rfl
    have g2 := hf 2 f2 rfl
    rw [o0, h0.1, List.drop_zero] at g0
    rw [o1, h1.1] at g1
    rw [o2, h2.1] at g2
    rw [hc] at hl
    have e0 : xs[0]? = some (xs[0]'(by rw [hxl]; simp)) := List.getElem?_eq_getElem _
    have e1 : xs[1]? = some (xs[1]'(by rw [hxl]; simp)) := List.getElem?_eq_getElem _
    have e2 : xs[2]? = some (xs[2]'(by rw [hxl]; simp)) := List.getElem?_eq_getElem _
    obtain ⟨a, ha⟩ := h0.2 _ _ _ _ _ _ _ _ _ (g0.trans e0)
    obtain ⟨b, hb⟩ := h1.2 _ _ _ _ _ _ _ _ _ (g1.trans e1)
    obtain ⟨c, hd⟩ := h2.2 _ _ _ _ _ _ _ _ _ (g2.trans e2)
    rw [List.take_of_length_le (by rw [List.length_drop]; omega)] at hd
    exact ⟨(a, b, c), _, _, (List.take_append_drop E.size cs).symm, ha, _, _, (List.take_append_drop F.size (cs.drop E.size)).symm, hb, by rw [List.drop_drop]; exact hd⟩⟩
theorem opens_node : Opens Enc.node Try.prog 69 :=
  opens_struct3 Try.underlying69 (by kernel_rfl) (opens_int Try.underlying3 (by kernel_rfl)) (opens_int Try.underlying3 (by kernel_rfl)) (opens_int Try.underlying3 (by kernel_rfl)) rfl rfl rfl
theorem opens_nodes : Opens (Enc.sl Enc.node) Try.prog 28 := opens_sl Try.underlying28 (by kernel_rfl) opens_node (by decide)
theorem opens_dia : Opens (Enc.int.pair ((Enc.sl Enc.node).pair Enc.int)) Try.prog 30 :=
  opens_struct3 Try.underlying30 (by kernel_rfl) (opens_int Try.underlying3 (by kernel_rfl)) opens_nodes (opens_int Try.underlying3 (by kernel_rfl)) rfl rfl rfl
theorem open_dia {H : Type} {enc : TypeId × Value → H} {W : World} {sp : Nat → Bool} {hd : Bool} {v : Value} {d : DataW H} {p : List MemPlace} {base : Nat} (hv : Value.okWide Try.prog W .any base 30 v) (h : DataW.Trod enc Try.prog W 0 sp hd 30 v d p) :
    ∃ x A n c ns r, v = .agg #[.int .i64 x, .slice A n c, .int .i64 r] ∧ (-9223372036854775808 ≤ x ∧ x ≤ 9223372036854775807) ∧ (-9223372036854775808 ≤ r ∧ r ≤ 9223372036854775807) ∧ Rd Enc.node W A n c ns := by
  obtain ⟨cs, rfl, _⟩ := okWide_struct Try.underlying30 hv
  obtain ⟨a, us, vs, e1, ⟨rfl, hx⟩, us2, vs2, rfl, ⟨A, n, c, rfl, hr⟩, ⟨rfl, hy⟩⟩ := arg_of opens_dia h
  refine ⟨_, A, n, c, _, _, ?_, hx, hy, hr⟩
  congr 1
  apply Array.ext'
  simpa [Value.cells] using e1
end Go.Proofs.Ytgenpcokpodhkaa
