/- The law on counts, in plain Lean. -/
import Derived.Test.YtgenpcokpodhkaaDgPure8
namespace Go.Proofs.Ytgenpcokpodhkaa

theorem countR_valid {L : Nat} {ns : List BN} {r : Nat} (h : Valid L ns r) : countR L (ns.map castN) r = (((count L ns r : Nat) : Int), (0, 0)) := by
  unfold countR
  rw [if_pos (valid_fault h)]
  simp only [Int.toNat_natCast, natN_cast]
theorem countR_code {L : Int} {ns : List DI} {r : Int} (h : (countR L ns r).2.1 = 0) : ∃ (L' : Nat) (ds : List BN) (r' : Nat), L = L' ∧ ns = ds.map castN ∧ r = r' ∧ Valid L' ds r' := by
  have hf : faultD L ns r = (0, 0) := by
    unfold countR at h
    split at h
    · assumption
    · exact fault_code h
  obtain ⟨hv, hc, h1, h2⟩ := faultD_valid hf
  exact ⟨L.toNat, ns.map natN, r.toNat, h1.symm, hc.symm, h2.symm, hv⟩
theorem countR_bad {L : Int} {ns : List DI} {r : Int} (h : (countR L ns r).2.1 ≠ 0) : (countR L ns r).1 = 0 := by
  unfold countR at h ⊢
  split
  · rw [if_pos (by assumption)] at h
    exact absurd rfl h
  · rfl
/-- a function and its negation are true for all sets together, those of a and b are counted once in And and Or -/
def countsTrue (L : Int) (ns : List DI) (r L2 : Int) (ns2 : List DI) (r2 : Int) : Bool :=
  let n := countR L ns r
  let x := notR L ns r
  let k := countR x.1.1 x.1.2.1 x.1.2.2
  if n.2.1 ≠ 0 then decide (n.1 = 0) else
    if x.2.1 ≠ 0 ∨ k.2.1 ≠ 0 ∨ n.1 + k.1 ≠ ((2 ^ L.toNat : Nat) : Int) then false else
      let m := countR L2 ns2 r2
      let a := combineR 0 L ns r L2 ns2 r2
      let o := combineR 1 L ns r L2 ns2 r2
      if m.2.1 ≠ 0 ∨ a.2.1 ≠ 0 ∨ o.2.1 ≠ 0 then true else
        let x2 := countR a.1.1 a.1.2.1 a.1.2.2
        let y2 := countR o.1.1 o.1.2.1 o.1.2.2
        decide (x2.2.1 = 0 ∧ y2.2.1 = 0 ∧ x2.1 + y2.1 = n.1 + m.1)
theorem countsTrue_true (L : Int) (ns : List DI) (r L2 : Int) (ns2 : List DI) (r2 : Int) : countsTrue L ns r L2 ns2 r2 = true := by
  unfold countsTrue
  simp only
  by_cases h0 : (countR L ns r).2.1 ≠ 0
  · rw [if_pos h0, countR_bad h0]
    rfl
  · rw [if_neg h0]
    simp only [ne_eq, Decidable.not_not] at h0
    obtain ⟨L', ds, r', rfl, rfl, rfl, hv⟩ := countR_code h0
    obtain ⟨xs, xr, hvx, hsx, hxe⟩ := notR_valid hv
    rw [hxe, countR_valid hv]
    simp only
    rw [countR_valid hvx]
    simp only [Int.toNat_natCast]
    have hsum : count L' ds r' + count L' xs xr = 2 ^ L' := by
      rw [count_tot hv.ok hv.root (fun _ => false), count_tot hvx.ok hvx.root (fun _ => false), show sem xs xr = fun s => !sem ds r' s from funext hsx]
      exact tot_not _ _ _ _
    rw [if_neg (by
      simp only [ne_eq, not_true_eq_false, false_or, Decidable.not_not]
      rw [← hsum]
      simp)]
    by_cases h1 : (countR L2 ns2 r2).2.1 ≠ 0 ∨ (combineR 0 L' (ds.map castN) r' L2 ns2 r2).2.1 ≠ 0 ∨ (combineR 1 L' (ds.map castN) r' L2 ns2 r2).2.1 ≠ 0
    · rw [if_pos h1]
    · rw [if_neg h1]
      simp only [not_or, ne_eq, Decidable.not_not] at h1
      obtain ⟨hm, ha, ho⟩ := h1
      obtain ⟨L2', ds2, r2', rfl, rfl, rfl, hv2⟩ := countR_code hm
      have hLL : L' = L2' := by
        apply Classical.byContradiction
        intro hne
        unfold combineR at ha
        rw [if_pos (valid_fault hv), if_pos (valid_fault hv2), if_neg (by omega)] at ha
        cases ha
      subst hLL
      rw [combineR_valid hv hv2] at ha ho ⊢
      rw [combineR_valid hv hv2]
      obtain ⟨fa, ea⟩ := limF_code ha
      obtain ⟨fo, eo⟩ := limF_code ho
      obtain ⟨na, ka, oka, lta, sema⟩ := ex_dia0 (L := L') (φ := fun s => opF 0 (sem ds r' s) (sem ds2 r2' s)) (fun s t h => by rw [hv.dep s t h, hv2.dep s t h])
      obtain ⟨no, ko, oko, lto, semo⟩ := ex_dia0 (L := L') (φ := fun s => opF 1 (sem ds r' s) (sem ds2 r2' s)) (fun s t h => by rw [hv.dep s t h, hv2.dep s t h])
      have hva := valid_dia hv.low oka lta sema fa
      have hvo := valid_dia hv.low oko lto semo fo
      have hsa := (diaF_ok oka lta sema).2.2.1
      have hso := (diaF_ok oko lto semo).2.2.1
      rw [ea, eo]
      simp only
      rw [countR_valid hva, countR_valid hvo, countR_valid hv2]
      simp only [decide_eq_true_eq, true_and]
      have := tot_and_or L' 0 (sem ds r') (sem ds2 r2') (fun _ => false)
      rw [count_tot hva.ok hva.root (fun _ => false), count_tot hvo.ok hvo.root (fun _ => false), count_tot hv.ok hv.root (fun _ => false), count_tot hv2.ok hv2.root (fun _ => false), show sem _ _ = _ from funext hsa, show sem (diaF L' (fun s => opF 1 (sem ds r' s) (sem ds2 r2' s))).1 _ = _ from funext hso]
      have e0 : (fun s => opF 0 (sem ds r' s) (sem ds2 r2' s)) = fun s => sem ds r' s && sem ds2 r2' s := rfl
      have e1 : (fun s => opF 1 (sem ds r' s) (sem ds2 r2' s)) = fun s => sem ds r' s || sem ds2 r2' s := rfl
      rw [e0, e1]
      omega
end Go.Proofs.Ytgenpcokpodhkaa
