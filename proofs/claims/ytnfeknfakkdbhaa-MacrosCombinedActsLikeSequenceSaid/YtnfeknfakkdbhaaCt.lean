/- The laws' example, in plain Lean. -/
import Derived.Test.YtnfeknfakkdbhaaMk
import Derived.Test.YtnfeknfakkdbhaaMj
namespace Go.Proofs.Ytnfeknfakkdbhaa
set_option linter.unusedVariables false
set_option linter.unusedSimpArgs false
open Go.RowKit

theorem fault_mT : taskFault mT = (0, 0) := by decide +kernel
theorem seq_mT (i : Int) : seqFault mT.ops.length [0, 1] i = (0, 0) := by
  unfold seqFault
  rw [if_neg (by decide), if_neg (by decide)]
theorem upd1 : updF [] [] [] = [] := by decide +kernel
theorem upd2 : updF [] [0] [] = [0] := by decide +kernel
theorem upd3 : updF [0] [] [0] = [] := by decide +kernel
theorem upd4 : updF [0] [1] [0] = [1] := by decide +kernel
theorem upd5 : updF [] [0] [1] = [0] := by decide +kernel
theorem comb_mT : combF zeroOp ([0, 1].map (opAt mT.ops)) = some ⟨[], [1], [0], 3⟩ := by
  have e1 : opAt mT.ops 0 = ⟨[], [0], [], 1⟩ := rfl
  have e2 : opAt mT.ops 1 = ⟨[0], [1], [0], 2⟩ := rfl
  simp only [List.map_cons, List.map_nil, e1, e2]
  rw [combF, if_neg (by decide), combF, if_neg (by
    show ¬ meetB [0] (updF [] [] [0]) = true
    have : updF [] [] [0] = [] := by decide +kernel
    rw [this]
    decide), combF]
  show some (⟨updF (updF [] (updF [] [] []) []) (updF [0] [] (updF [] [0] [])) [], updF (updF [] [0] []) [1] [0], updF (updF [] [] [0]) [0] [1], 0 + 1 + 2⟩ : Opr) = _
  have u6 : updF [] [] [0] = [] := by decide +kernel
  rw [upd1, upd2, upd3, upd4, u6, upd5, upd1]
  try rw [upd1]
  rfl
theorem combine_mT : combineR mT [0, 1] = (⟨[], [1], [0], 3⟩, true, 0, 0) := by
  unfold combineR
  rw [fault_mT, if_neg (by simp), seq_mT, if_neg (by simp), comb_mT]
  rfl
theorem extend_mT : extendR mT [[0, 1]] = (⟨2, [], [1], [⟨[], [0], [], 1⟩, ⟨[0], [1], [0], 2⟩, ⟨[], [1], [0], 3⟩]⟩, 0, 0) := by
  unfold extendR
  rw [fault_mT, if_neg (by simp), if_neg (by decide)]
  unfold extLoop
  rw [seq_mT, if_neg (by simp), comb_mT]
  rfl
theorem expand_mT : expandR mT [[0, 1]] [2] = ([0, 1], 0, 0) := by
  unfold expandR
  rw [extend_mT]
  rfl
end Go.Proofs.Ytnfeknfakkdbhaa
