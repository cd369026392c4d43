/- HierarchyMoreMethodsPermitMore: the call returns true for every input and leaves its arguments as they were. No condition. -/
import Derived.Test.YtmjiiddncbhgpaaJ32
import Derived.Test.YtmjiiddncbhgpaaJ30
import Derived.Test.YtmjiiddncbhgpaaJ32
namespace Go.Proofs.Ytmjiiddncbhgpaa.hierarchyMoreMethodsPermitMoreRow
open Go.ChangeShapes Go.WideShapes Go.ChangeAt Go.RowKit
set_option linter.unusedVariables false
set_option maxRecDepth 100000 in
theorem lifted (os : Os) (started : os.Started) (H : Type) (enc : TypeId × Value → H) :
    ReturnsInHanded {} Try.checked os 5 .any (Rows.hierarchyMoreMethodsPermitMoreSpec.pre6 enc Try.prog Try.f5 Rows.hierarchyMoreMethodsPermitMoreRow.domain false) (Rows.hierarchyMoreMethodsPermitMoreSpec.post enc Try.prog Try.f5 false true false false) := by
  refine returnsInHanded_of_change_sized (C := Try.checked) own_knob started (by kernel_rfl) Try.func5
    (ChangeSpec.witness6 (enc := enc) (C := Try.checked) false ⟨#[], #[.agg #[.int .i64 0, .slice none 0 0, .slice none 0 0, .slice none 0 0, .int .i64 0, .slice none 0 0, .slice none 0 0], .agg #[.int .i64 0, .slice none 0 0, .slice none 0 0], .slice none 0 0], []⟩ 8 (by kernel_rfl) (by kernel_rfl) (by kernel_rfl) (by kernel_rfl)) ?_
  intro W base args ds gs before hval0 hW hcnd hwt _
  have hval : ∀ (j : Nat) t v, Try.f5.params[j]? = some t → args[j]? = some v → Value.okWide Try.prog W .any base t v := hval0
  have hW' := hW
  obtain ⟨p, q, hA0, hV, rfl, hfz, hnd⟩ := hW
  have hA : DataW.TrodAll enc Try.prog W 0 (fun _ => true) true Try.f5.params.toList args.toList ds p := hA0
  rw [Try.params5] at hA hval
  obtain ⟨v0, vs0, d0, ds0, p0, q0, hargs, rfl, rfl, h0, r0⟩ := trodAll_cons hA
  obtain ⟨v1, vs1, d1, ds1, p1, q1, rfl, rfl, rfl, h1, r1⟩ := trodAll_cons r0
  obtain ⟨v2, vs2, d2, ds2, p2, q2, rfl, rfl, rfl, h2, r2⟩ := trodAll_cons r1
  obtain ⟨rfl, rfl, rfl⟩ := trodAll_nil r2
  obtain rfl : args = #[v0, v1, v2] := by cases args; simp_all
  obtain ⟨rfl, rfl⟩ := trodVars_none hV
  have k0 := h0
  have lt0 := trod_lt h0
  have k1 := h1
  have lt1 := trod_lt h1
  have k2 := h2
  have lt2 := trod_lt h2
  obtain ⟨x0, y0, rfl, g0⟩ := open_hier (hval 0 37 v0 rfl rfl) h0
  have nb0 := weight_hier k0 (fun x hx => by simpa using List.all_eq_true.1 hwt x (DataW.weights_mem_each (j := 0) (t := 37) (by kernel_rfl) rfl x hx))
  obtain ⟨x1, A1, n1, c1, B1, m1, e1, rfl, z1, g1, gg1⟩ := open_meth (hval 1 43 v1 rfl rfl) h1
  obtain ⟨A2, n2, c2, y2, rfl, g2⟩ := open_sl Try.underlying22 opens_ints (hval 2 22 v2 rfl rfl) h2
  clear hA0 hval0
  refine (moreLaw_ct x0 y0 x1 A1 n1 c1 B1 m1 e1 A2 n2 c2 y2 W nb0 z1 g0 g1 gg1 g2).mono fun e W' ⟨he, bel⟩ => ?_
  subst he
  exact ⟨_, rfl, _, _, _, [], _, [], hW', trodAll_mk1 (shut_bool Try.underlying4 _), (trodAll_cons_mk (Below.trod laid_out (by kernel_rfl) (of_decide_eq_true (by kernel_rfl)) k0 bel lt0) (trodAll_cons_mk (Below.trod laid_out (by kernel_rfl) (of_decide_eq_true (by kernel_rfl)) k1 bel lt1) (trodAll_cons_mk (Below.trod laid_out (by kernel_rfl) (of_decide_eq_true (by kernel_rfl)) k2 bel lt2) trodAll_mk0))), rfl, bel.frame _, fun h => by cases h⟩

theorem holds : Rows.HierarchyMoreMethodsPermitMoreSaid :=
  OpenClaim.holds_of_wide 5 Try.f5 rfl rfl rfl rfl rfl rfl rfl ⟨rfl, rfl, rfl, rfl, rfl⟩ rfl rfl rfl rfl rfl (by kernel_rfl) Try.func5 (by kernel_rfl)
    (of_decide_eq_true (by kernel_rfl)) (by unfold Func.isWrapper; first | (rw [if_pos (by decide +kernel)]; kernel_rfl) | (rw [if_neg (by decide +kernel)]; exact ⟨rfl, rfl⟩))
    (fun os started H enc _ => lifted os started H enc)
end Go.Proofs.Ytmjiiddncbhgpaa.hierarchyMoreMethodsPermitMoreRow
