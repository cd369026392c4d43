/- Expand, in plain Lean. -/
import Derived.Test.YtnfeknfakkdbhaaMi
import Derived.Test.YtnfeknfakkdbhaaMc9
import Derived.Test.YtnfeknfakkdbhaaSt
namespace Go.Proofs.Ytnfeknfakkdbhaa
set_option linter.unusedVariables false
set_option linter.unusedSimpArgs false
open Go.RowKit

theorem extLoop_ok {T : Tsk} : ∀ (ms : List (List Int)) (os : List Opr) (i : Nat), (extLoop T os i ms).2.1 = 0 → (extLoop T os i ms).2 = (0, 0) ∧ (extLoop T os i ms).1.ops.length = os.length + ms.length ∧ ∀ l ∈ ms, l.length ≤ 6 := by
  intro ms
  induction ms with
  | nil => intro os i h; exact ⟨rfl, rfl, fun l hl => by cases hl⟩
  | cons l ms ih =>
    intro os i h
    unfold extLoop at h ⊢
    by_cases h1 : (seqFault T.ops.length l (-20 - (i : Int))).1 ≠ 0
    · rw [if_pos h1] at h
      exact absurd h h1
    · rw [if_neg h1] at h ⊢
      have h2 := seqFault_ok (k := T.ops.length) (l := l) (i := -20 - (i : Int)) (by simpa using h1)
      cases hc : combF zeroOp (l.map (opAt T.ops)) with
      | none => rw [hc] at h; simp at h
      | some o =>
        rw [hc] at h
        simp only at h ⊢
        by_cases h3 : 100 < o.cost
        · rw [if_pos h3] at h; simp at h
        · rw [if_neg h3] at h ⊢
          obtain ⟨e1, e2, e3⟩ := ih _ _ h
          refine ⟨e1, by rw [e2, List.length_append, List.length_cons]; simp; omega, fun q hq => ?_⟩
          rcases List.mem_cons.1 hq with rfl | hq
          · exact h2.2.2.1
          · exact e3 q hq
theorem extend_ok {T : Tsk} {ms : List (List Int)} (h : (extendR T ms).2.1 = 0) : (extendR T ms).2 = (0, 0) ∧ (extendR T ms).1.ops.length = T.ops.length + ms.length ∧ ms.length ≤ 8 ∧ (∀ l ∈ ms, l.length ≤ 6) ∧ T.ops.length ≤ 40 := by
  unfold extendR at h ⊢
  by_cases h1 : (taskFault T).1 ≠ 0
  · rw [if_pos h1] at h
    exact absurd h h1
  · rw [if_neg h1] at h ⊢
    by_cases h2 : 8 < ms.length ∨ 40 < T.ops.length + ms.length
    · rw [if_pos h2] at h; simp at h
    · rw [if_neg h2] at h ⊢
      obtain ⟨e1, e2, e3⟩ := extLoop_ok ms T.ops 0 h
      exact ⟨e1, e2, by omega, e3, by omega⟩
/-- what Expand answers -/
def expandR (T : Tsk) (ms : List (List Int)) (l : List Int) : List Int × Int × Int :=
  if (extendR T ms).2.1 ≠ 0 then ([], (extendR T ms).2) else
  if (stepsFault (extendR T ms).1.ops.length l).1 ≠ 0 then ([], stepsFault (extendR T ms).1.ops.length l) else
  if 60 < (expandF T.ops.length ms l).length then ([], 10, -9) else (expandF T.ops.length ms l, 0, 0)
theorem steps_ok {n : Nat} {l : List Int} (h : (stepsFault n l).1 = 0) : stepsFault n l = (0, 0) ∧ l.length ≤ 60 ∧ ∀ x ∈ l, 0 ≤ x ∧ x < n := by
  unfold stepsFault at h ⊢
  by_cases h1 : 60 < l.length
  · rw [if_pos h1] at h; simp at h
  · rw [if_neg h1] at h ⊢
    by_cases h2 : l.any (outB n) = true
    · rw [if_pos h2] at h; simp at h
    · rw [if_neg h2]
      refine ⟨rfl, by omega, fun x hx => ?_⟩
      have := List.any_eq_false.1 (by simpa using h2) x hx
      unfold outB at this
      simp at this
      omega
def ExpandP (w : World) (r : List Int × Int × Int) (e : Ending) (w' : World) : Prop :=
  Below w.heap.size w w' ∧ ∃ (A : Option Addr) (n c : Nat), e = .returned (.tuple #[.slice A n c, fault r.2.1 r.2.2]) ∧ ∀ w'', Chg (fun b => b < w.heap.size) w' w'' → Rd Enc.int w'' A n c r.1
theorem expandP_nil {w w' : World} (h : Below w.heap.size w w') (c i : Int) : ExpandP w ([], c, i) (.returned (.tuple #[.slice none 0 0, fault c i])) w' := ⟨h, none, 0, 0, rfl, fun _ _ => Rd.nil_ _ _⟩
end Go.Proofs.Ytnfeknfakkdbhaa
