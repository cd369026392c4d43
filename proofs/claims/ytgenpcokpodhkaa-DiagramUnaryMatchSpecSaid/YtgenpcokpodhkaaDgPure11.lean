/- The laws on diagrams against the reference, in plain Lean: Not, Exists on tables. -/
import Derived.Test.YtgenpcokpodhkaaDgPure10
namespace Go.Proofs.Ytgenpcokpodhkaa
open Go.RowKit

theorem tableF_not (L : Nat) (φ : Fun) : (tableF L φ).map (!·) = tableF L (fun s => !φ s) := by simp [tableF]

theorem unary_may (L : Int) (ns : List DI) (r lv : Int) :
    ((faultD L ns r).1 = 0 → (faultD L ns r).2 = 0 ∧ ∃ (L' r' : Nat) (ds : List BN), L = L' ∧ r = r' ∧ ns = ds.map castN ∧ Valid L' ds r' ∧ notR L ns r = limF L' (diaF L' (fun s => !sem ds r' s)) ∧
      ((lv < 0 ∨ (L' : Int) ≤ lv → existsR L ns r lv = ((0, [], 0), (3, -6))) ∧ (¬ (lv < 0 ∨ (L' : Int) ≤ lv) → existsR L ns r lv = limF L' (diaF L' (existsF lv.toNat (sem ds r')))))) ∧
    ((faultD L ns r).1 ≠ 0 → notR L ns r = ((0, [], 0), faultD L ns r) ∧ existsR L ns r lv = ((0, [], 0), faultD L ns r)) := by
  constructor
  · intro h
    have hf := fault_code h
    obtain ⟨hv, e1, e2, e3⟩ := faultD_valid hf
    refine ⟨by rw [hf], L.toNat, r.toNat, ns.map natN, e2.symm, e3.symm, e1.symm, hv, ?_, ?_, ?_⟩
    · unfold notR
      rw [if_pos hf]
    · intro hl
      unfold existsR
      rw [if_pos hf, if_pos (by omega)]
    · intro hl
      unfold existsR
      rw [if_pos hf, if_neg (by omega)]
  · intro h
    have hf : ¬ faultD L ns r = (0, 0) := fun e => h (by rw [e])
    constructor
    · unfold notR
      rw [if_neg hf]
    · unfold existsR
      rw [if_neg hf]

theorem flip_bit : ∀ (m i j : Nat), i / 2 ^ m % 2 = 0 → j ≠ m → (i + 2 ^ m) / 2 ^ j % 2 = i / 2 ^ j % 2 := by
  intro m
  induction m with
  | zero =>
    intro i j h hj
    obtain ⟨j, rfl⟩ : ∃ q, j = q + 1 := ⟨j - 1, by omega⟩
    have h1 : ∀ a : Nat, a / 2 ^ (j + 1) = a / 2 / 2 ^ j := fun a => by rw [Nat.pow_succ, Nat.mul_comm, Nat.div_div_eq_div_mul]
    rw [h1, h1]
    have : (i + 2 ^ 0) / 2 = i / 2 := by simp at h ⊢; omega
    rw [this]
  | succ m ih =>
    intro i j h hj
    have h1 : ∀ (a q : Nat), a / 2 ^ (q + 1) = a / 2 / 2 ^ q := fun a q => by rw [Nat.pow_succ, Nat.mul_comm, Nat.div_div_eq_div_mul]
    have h2 : 2 ^ (m + 1) = 2 * 2 ^ m := by rw [Nat.pow_succ, Nat.mul_comm]
    cases j with
    | zero =>
      rw [h2]
      simp
    | succ j =>
      rw [h1, h1, h2]
      have : (i + 2 * 2 ^ m) / 2 = i / 2 + 2 ^ m := by omega
      rw [this]
      exact ih (i / 2) j (by rw [← h1]; exact h) (by omega)
theorem bits_flip {L v i : Nat} (hv : v < L) (h : i / 2 ^ (L - 1 - v) % 2 = 0) : bits L 0 (i + 2 ^ (L - 1 - v)) = setV (bits L 0 i) v true ∧ bits L 0 i = setV (bits L 0 i) v false := by
  constructor
  · funext u
    unfold setV bits
    simp only [Nat.shiftRight_eq_div_pow]
    by_cases hu : u = v
    · subst hu
      rw [if_pos rfl]
      have h2 : (i + 2 ^ (L - 1 - u)) / 2 ^ (L - 1 - u) = i / 2 ^ (L - 1 - u) + 1 := Nat.add_div_right _ (Nat.two_pow_pos _)
      rw [h2]
      have : (i / 2 ^ (L - 1 - u) + 1) % 2 = 1 := by omega
      rw [this]
      simp [hv]
    · rw [if_neg hu]
      by_cases huL : u < L
      · rw [flip_bit _ _ _ h (by omega)]
      · simp [huL]
  · funext u
    unfold setV
    by_cases hu : u = v
    · subst hu
      rw [if_pos rfl]
      unfold bits
      simp only [Nat.shiftRight_eq_div_pow, h]
      simp
    · rw [if_neg hu]
theorem exists_step {L v i : Nat} {φ : Fun} {U : List Bool} (hv : v < L) (hU : U = tableF L φ) (hi : i < 2 ^ L) :
    ∃ k, k < 2 ^ L ∧ ((i / 2 ^ (L - 1 - v) % 2 = 1 ∧ k + 2 ^ (L - 1 - v) = i) ∨ (i / 2 ^ (L - 1 - v) % 2 = 0 ∧ k = i + 2 ^ (L - 1 - v))) ∧
      ∀ x y, U[i]? = some x → U[k]? = some y → existsF v φ (bits L 0 i) = (x || y) := by
  have hget : ∀ j x, U[j]? = some x → x = φ (bits L 0 j) := fun j x h => by
    rw [hU] at h
    unfold tableF at h
    rw [List.getElem?_map] at h
    cases hr : (List.range (2 ^ L))[j]? with
    | none => rw [hr] at h; cases h
    | some q =>
      rw [hr] at h
      obtain ⟨_, e⟩ := List.getElem?_eq_some_iff.1 hr
      rw [List.getElem_range] at e
      subst e
      exact (Option.some.inj h).symm
  have hpw : 2 ^ L = 2 ^ v * (2 * 2 ^ (L - 1 - v)) := by
    rw [← Nat.pow_succ', ← Nat.pow_add]
    congr 1
    omega
  have hpos := Nat.two_pow_pos (L - 1 - v)
  generalize hQ : 2 ^ (L - 1 - v) = Q at hpw hpos
  have hdm := Nat.div_add_mod i Q
  have hmod := Nat.mod_lt i hpos
  rcases Nat.mod_two_eq_zero_or_one (i / Q) with h | h
  · refine ⟨i + Q, ?_, .inr ⟨h, rfl⟩, fun x y hx hy => ?_⟩
    · have hlt : i / Q < 2 ^ v * 2 := by
        rw [Nat.div_lt_iff_lt_mul hpos]
        rw [hpw] at hi
        rw [Nat.mul_assoc]
        exact hi
      have h1 : i / Q + 1 < 2 ^ v * 2 := by omega
      have h2 : (i / Q + 1 + 1) * Q ≤ 2 ^ v * 2 * Q := Nat.mul_le_mul_right _ (by omega)
      rw [hpw]
      have h3 : (i / Q + 1 + 1) * Q = Q * (i / Q) + Q + Q := by rw [Nat.add_mul, Nat.add_mul, Nat.mul_comm (i / Q) Q]; omega
      have h4 : 2 ^ v * (2 * Q) = 2 ^ v * 2 * Q := by rw [Nat.mul_assoc]
      omega
    · rw [hget i x hx, hget _ y hy]
      rw [← hQ] at h ⊢
      obtain ⟨e1, e2⟩ := bits_flip hv h
      unfold existsF
      rw [e1, ← e2]
  · have hge : Q ≤ i := by
      rcases Nat.lt_or_ge i Q with hl | hl
      · rw [Nat.div_eq_of_lt hl] at h
        omega
      · exact hl
    have hsub : (i - Q) / Q % 2 = 0 := by
      have : i / Q = (i - Q) / Q + 1 := by
        conv => lhs; rw [show i = i - Q + Q from by omega]
        exact Nat.add_div_right _ hpos
      omega
    refine ⟨i - Q, by omega, .inl ⟨h, by omega⟩, fun x y hx hy => ?_⟩
    rw [hget i x hx, hget _ y hy]
    rw [← hQ] at hsub
    obtain ⟨e1, e2⟩ := bits_flip hv hsub
    have e3 : i - 2 ^ (L - 1 - v) + 2 ^ (L - 1 - v) = i := by rw [hQ]; omega
    rw [e3] at e1
    unfold existsF
    rw [← hQ, e1]
    have e4 : ∀ b, setV (setV (bits L 0 (i - 2 ^ (L - 1 - v))) v true) v b = setV (bits L 0 (i - 2 ^ (L - 1 - v))) v b := fun b => by
      funext u
      unfold setV
      split <;> rfl
    rw [e4, e4, ← e2, Bool.or_comm]
end Go.Proofs.Ytgenpcokpodhkaa
