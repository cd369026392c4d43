/- The reference's loops over facts and operators, in plain Lean. -/
import Derived.Test.YtnfeknfakkdbhaaCq
namespace Go.Proofs.Ytnfeknfakkdbhaa
set_option linter.unusedVariables false
set_option linter.unusedSimpArgs false
open Go.RowKit

theorem run_append {p : Int} : ∀ (xs ys : List Opr) (s : FS), factRun p s (xs ++ ys) = match factRun p s xs with | none => none | some s' => factRun p s' ys := by
  intro xs
  induction xs with
  | nil => intro ys s; rfl
  | cons x xs ih =>
    intro ys s
    rw [List.cons_append, factRun, factRun]
    cases factStep p x s with
    | none => rfl
    | some s' => exact ih ys s'
theorem run_next {p : Int} {os : List Opr} {j : Nat} {o : Opr} {s s' : FS} {s0 : FS} (h : factRun p s0 (os.take j) = some s) (ho : os[j]? = some o) (hs : factStep p o s = some s') : factRun p s0 (os.take (j + 1)) = some s' := by
  rw [List.take_add_one, ho, run_append, h]
  show factRun p s [o] = some s'
  rw [factRun, hs]
  rfl
theorem run_stop {p : Int} {os : List Opr} {j : Nat} {o : Opr} {s : FS} {s0 : FS} (h : factRun p s0 (os.take j) = some s) (ho : os[j]? = some o) (hs : factStep p o s = none) : factRun p s0 os = none := by
  have hj := (List.getElem?_eq_some_iff.1 ho).1
  have he : os = os.take j ++ o :: os.drop (j + 1) := by
    rw [← drop_cons ho, List.take_append_drop]
  rw [he, run_append, h]
  show factRun p s (o :: os.drop (j + 1)) = none
  rw [factRun, hs]
theorem filter_upto {f : Int → Bool} {n : Nat} : (upto (n + 1)).filter f = (upto n).filter f ++ (if f n = true then [(n : Int)] else []) := by
  rw [upto_succ, List.filter_append]
  congr 1
  simp [List.filter_cons]
/-- the state of a fact at an operator, case by case -/
theorem step_stop {p : Int} {o : Opr} {s : FS} (h1 : hasB o.pre p = true) (h2 : s.now < 0) : factStep p o s = none := by
  unfold factStep
  rw [if_pos ⟨h1, h2⟩]
theorem step_go {p : Int} {o : Opr} {s : FS} (h : ¬ (hasB o.pre p = true ∧ s.now < 0)) :
    factStep p o s = some ⟨if hasB o.del p = true then -1 else if hasB o.add p = true then 1 else if hasB o.pre p = true ∧ s.now = 0 then 1 else s.now, s.ch || hasB o.add p || hasB o.del p, s.pr || (hasB o.pre p && decide (s.now = 0))⟩ := by
  unfold factStep
  rw [if_neg h]
/-- a fact that stops: no state permits the sequence -/
theorem comb_stops {N : Nat} {os : List Opr} (hs : ∀ o ∈ os, SetOp N o ∧ meetB o.add o.del = false) {p : Int} (h : fr os p = none) : combF zeroOp os = none := by
  rcases comb_law hs with ⟨h1, _⟩ | ⟨_, h2⟩
  · exact h1
  · obtain ⟨s, hs⟩ := h2 p
    rw [h] at hs
    cases hs
/-- all facts go through -/
theorem comb_goes {N : Nat} {os : List Opr} (hs : ∀ o ∈ os, SetOp N o ∧ meetB o.add o.del = false) (h : ∀ p : Nat, p < N → ∃ s, fr os (p : Int) = some s) : combF zeroOp os = some (combTo os N) := by
  rcases comb_law hs with ⟨_, p, h1, h2, h3⟩ | ⟨h1, _⟩
  · obtain ⟨k, rfl⟩ : ∃ k : Nat, p = k := ⟨p.toNat, by omega⟩
    obtain ⟨s, hs⟩ := h k (by omega)
    rw [h3] at hs
    cases hs
  · exact h1
end Go.Proofs.Ytnfeknfakkdbhaa
