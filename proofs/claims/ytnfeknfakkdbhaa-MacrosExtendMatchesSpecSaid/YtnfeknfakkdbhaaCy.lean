/- The reference's Extended: what it wants beside the package's extend. -/
import Derived.Test.YtnfeknfakkdbhaaCv
import Derived.Test.YtnfeknfakkdbhaaMc7
import Derived.Test.YtnfeknfakkdbhaaTk6
namespace Go.Proofs.Ytnfeknfakkdbhaa
set_option linter.unusedVariables false
set_option linter.unusedSimpArgs false
open Go.RowKit

section
variable {w W : World} {T : Tsk} {tc : List Value} {a : ExA} {n oc : Nat} {O : Option Addr} {vs : List Value} {os : List Opr}
/-- a store into a box ahead of the copies -/
theorem ExS.setp (h : ExS w W T tc a n O oc vs os) {g : Nat} (hg : a.gT + 1 + 1 < g) (hB : g < a.Bl) (i : Nat) (u : Value) : ExS w (W.setCell ⟨g, i, none⟩ u) T tc a n O oc vs os := by
  have g1 := h.g1
  have g2 := h.g2
  have g3 := h.g3
  have g4 := h.g4
  refine ⟨h.par.far (p := ⟨g, i, none⟩) (by show a.gT ≠ g; omega) _, h.res.far (p := ⟨g, i, none⟩) (by show a.gT + 1 ≠ g; omega) _, h.flt.far (p := ⟨g, i, none⟩) (by show a.gT + 1 + 1 ≠ g; omega) _, h.out.far (p := ⟨g, i, none⟩) (by show a.gX ≠ g; omega) _,
    below_set h.low (by omega) i _, ?_, h.ne, h.init.set (.inl hB) i u, h.goal.set (.inl hB) i u, g1, g2, g3, g4⟩
  have h3 := h.own.chg (M' := fun b => b = g) (Chg.set W g i u) (fun i e => .inr (.inl (by omega))) (fun r hr e => by have := (h.own.base hr).1; omega)
  exact h3.less (fun i hi e => by
    rcases e with e | e | e | e
    · exact .inl e
    · exact .inr (.inl e)
    · exact .inr (.inr (.inl e))
    · simp at e
      exact .inr (.inr (.inr e)))
end
/-- a combined operator, or none: in one form -/
def CombU (w : World) (r : Option Opr) (e : Ending) (w' : World) : Prop :=
  Below w.heap.size w w' ∧ ∃ (o : Opr) (ok : Bool) (A1 : Option Addr) (n1 c1 : Nat) (A2 : Option Addr) (n2 c2 : Nat) (A3 : Option Addr) (n3 c3 : Nat), e = .returned (.tuple #[.agg #[.slice A1 n1 c1, .slice A2 n2 c2, .slice A3 n3 c3, .int .i64 o.cost], .bool ok]) ∧
    RdN w.heap.size w' A1 n1 c1 o.pre ∧ RdN w.heap.size w' A2 n2 c2 o.add ∧ RdN w.heap.size w' A3 n3 c3 o.del ∧ ((r = none ∧ ok = false) ∨ (r = some o ∧ ok = true))
theorem CombP.u {n : Nat} {w w' : World} {r : Option Opr} {e : Ending} (h : CombP n w r e w') : CombU w r e w' := by
  obtain ⟨hb, ⟨h1, h2⟩ | ⟨o, A1, n1, c1, A2, n2, c2, A3, n3, c3, h1, h2, q1, q2, q3, _⟩⟩ := h
  · exact ⟨hb, zeroOp, false, none, 0, 0, none, 0, 0, none, 0, 0, h2, RdN.nil _ _, RdN.nil _ _, RdN.nil _ _, .inl ⟨h1, rfl⟩⟩
  · exact ⟨hb, o, true, A1, n1, c1, A2, n2, c2, A3, n3, c3, h2, q1, q2, q3, .inr ⟨h1, rfl⟩⟩
end Go.Proofs.Ytnfeknfakkdbhaa
