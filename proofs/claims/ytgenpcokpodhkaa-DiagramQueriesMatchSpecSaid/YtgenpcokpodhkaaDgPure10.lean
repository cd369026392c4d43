/- The laws on matching the reference, in plain Lean: made and failed. -/
import Derived.Test.YtgenpcokpodhkaaRef6m
import Derived.Test.YtgenpcokpodhkaaRef6j
import Derived.Test.YtgenpcokpodhkaaDgPure7
namespace Go.Proofs.Ytgenpcokpodhkaa
open Go.RowKit

theorem fail_same (f : Int × Int) : failB 0 [] 0 f f = true := by simp [failB, sameD]
theorem made_lim (L : Nat) (d : List BN × Nat) : madeB (limF L d).1.1 (limF L d).1.2.1 (limF L d).1.2.2 (limF L d).2 L d = true := by
  unfold madeB
  by_cases h : d.1.length ≤ 300
  · rw [if_neg (by omega), limF_few h]
    simp [sameD]
  · rw [if_pos (by omega), limF_many h]
    exact fail_same _
theorem scanC_code {L : Int} : ∀ (cs : List (List Int)) (k : Nat) (p : Int × Int), scanC L k cs = some p → p.1 ≠ 0 := by
  intro cs
  induction cs with
  | nil => intro k p h; simp [scanC] at h
  | cons c l ih =>
    intro k p h
    rw [scanC] at h
    split at h
    · exact ih _ _ h
    · injection h with h
      subst h
      assumption
theorem ofFault_code {L : Int} {cs : List (List Int)} (h : (ofFault L cs).1 = 0) : ofFault L cs = (0, 0) := by
  unfold ofFault at h ⊢
  split at h
  · simp at h
  · split at h
    · simp at h
    · rename_i h1 h2
      rw [if_neg h1, if_neg h2]
      cases hs : scanC L 0 cs with
      | none => rfl
      | some p =>
        rw [hs] at h
        exact absurd h (scanC_code cs 0 p hs)
theorem ofR_bad {L : Int} {cs : List (List Int)} (h : (ofFault L cs).1 ≠ 0) : ofR L cs = ((0, [], 0), ofFault L cs) := by
  unfold ofR
  rw [if_neg (fun e => h (by rw [e]))]
end Go.Proofs.Ytgenpcokpodhkaa
