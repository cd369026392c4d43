/- The law on Count, Pick and Eval: what the functions return. -/
import Derived.Test.YtgenpcokpodhkaaDgPure13
namespace Go.Proofs.Ytgenpcokpodhkaa
open Go.RowKit
theorem query_may (L : Int) (ns : List DI) (r : Int) (set : List Int) :
    ((faultD L ns r).1 ≠ 0 → countR L ns r = (0, faultD L ns r) ∧ pickR L ns r = ([], false, faultD L ns r) ∧ evalR L ns r set = (false, faultD L ns r)) ∧
    ((faultD L ns r).1 = 0 → (faultD L ns r).2 = 0 ∧ ∃ (L' r' : Nat) (ds : List BN), L = L' ∧ r = r' ∧ ns = ds.map castN ∧ Valid L' ds r' ∧
      countR L ns r = (((cntT (tableF L' (sem ds r')) : Nat) : Int), (0, 0)) ∧
      (setOk L none set = false → evalR L ns r set = (false, (5, -4))) ∧
      (setOk L none set = true → evalR L ns r set = (sem ds r' (bits L' 0 (numI L' set)), (0, 0)) ∧ (∀ v ∈ set, 0 ≤ v ∧ v < L') ∧ set.length ≤ L' ∧ numI L' set < 2 ^ L') ∧
      ((pickR L ns r = ([], false, (0, 0)) ∧ firstL (tableF L' (sem ds r')) 0 = -1) ∨
        ∃ (q : Nat) (l : List Int), pickR L ns r = (l, true, (0, 0)) ∧ firstL (tableF L' (sem ds r')) 0 = q ∧ membI q L' = l ∧ q < 2 ^ L')) := by
  constructor
  · intro h
    have hf : ¬ faultD L ns r = (0, 0) := fun e => h (by rw [e])
    refine ⟨?_, ?_, ?_⟩
    · unfold countR
      rw [if_neg hf]
    · unfold pickR
      rw [if_neg hf]
    · unfold evalR
      rw [if_neg hf]
  · intro h
    have hf := fault_code h
    obtain ⟨hv, e1, e2, e3⟩ := faultD_valid hf
    refine ⟨by rw [hf], L.toNat, r.toNat, ns.map natN, e2.symm, e3.symm, e1.symm, hv, ?_, ?_, ?_, ?_⟩
    · unfold countR
      rw [if_pos hf, table_cnt hv]
    · intro hs
      unfold evalR
      rw [if_pos hf, if_neg (by rw [hs]; simp)]
    · intro hs
      have hs' : setOk (L.toNat : Int) none set = true := by rw [e2]; exact hs
      obtain ⟨h1, h2, h3, h4⟩ := set_eval hv hs'
      refine ⟨?_, h1, h2, h3⟩
      unfold evalR
      rw [if_pos hf, if_pos hs, h4]
    · unfold pickR
      rw [if_pos hf]
      by_cases h0 : r.toNat = 0
      · rw [h0]
        refine .inl ⟨?_, table_none⟩
        rw [pick_small _ (by omega)]
        rfl
      · obtain ⟨t1, t2, t3⟩ := table_first hv h0
        refine .inr ⟨_, _, ?_, t1, t3, valF_lt _ _ _⟩
        rw [if_pos t2]
theorem drop_last {α : Type} {U : List α} {m : Nat} {x : α} (h : U[m]? = some x) : U.drop m = x :: U.drop (m + 1) := drop_cons h
end Go.Proofs.Ytgenpcokpodhkaa
