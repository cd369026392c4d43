/- The reference's Combined: bounds of its rows. -/
import Derived.Test.YtnfeknfakkdbhaaCs
namespace Go.Proofs.Ytnfeknfakkdbhaa
set_option linter.unusedVariables false
set_option linter.unusedSimpArgs false
open Go.RowKit

theorem upto_len (n : Nat) : (upto n).length = n := by simp [upto]
theorem combTo_pre (os : List Opr) (p : Nat) : (combTo os p).pre.length ≤ p := Nat.le_trans (List.length_filter_le _ _) (by rw [upto_len]; omega)
theorem combTo_add (os : List Opr) (p : Nat) : (combTo os p).add.length ≤ p := Nat.le_trans (List.length_filter_le _ _) (by rw [upto_len]; omega)
theorem combTo_del (os : List Opr) (p : Nat) : (combTo os p).del.length ≤ p := Nat.le_trans (List.length_filter_le _ _) (by rw [upto_len]; omega)
theorem combTo_succ {os : List Opr} {p : Nat} {now : Int} {ch pr : Bool} (h : fr os (p : Int) = some ⟨now, ch, pr⟩) :
    (combTo os (p + 1)).pre = (combTo os p).pre ++ (if pr = true then [(p : Int)] else []) ∧
    (combTo os (p + 1)).add = (combTo os p).add ++ (if (ch && decide (0 < now)) = true then [(p : Int)] else []) ∧
    (combTo os (p + 1)).del = (combTo os p).del ++ (if (ch && decide (now < 0)) = true then [(p : Int)] else []) := by
  have h1 : isPre os (p : Int) = pr := by unfold isPre; rw [h]
  have h2 : isAdd os (p : Int) = (ch && decide (0 < now)) := by unfold isAdd; rw [h]
  have h3 : isDel os (p : Int) = (ch && decide (now < 0)) := by unfold isDel; rw [h]
  rw [← h1, ← h2, ← h3]
  exact ⟨filter_upto, filter_upto, filter_upto⟩
theorem fr_next {os : List Opr} {p : Nat} (h : ∀ q : Nat, q < p → ∃ s', fr os (q : Int) = some s') {s : FS} (hp : fr os (p : Int) = some s) : ∀ q : Nat, q < p + 1 → ∃ s', fr os (q : Int) = some s' := fun q hq => by
  rcases Nat.lt_or_ge q p with h1 | h1
  · exact h q h1
  · obtain rfl : q = p := by omega
    exact ⟨s, hp⟩
end Go.Proofs.Ytnfeknfakkdbhaa
