/- Bounds of what the functions on diagrams return. -/
import Derived.Test.YtgenpcokpodhkaaDgPure9
namespace Go.Proofs.Ytgenpcokpodhkaa
open Go.RowKit Go.Maps
def Small (x : DR) : Prop := (-9223372036854775808 ≤ x.1.1 ∧ x.1.1 ≤ 9223372036854775807) ∧ (-9223372036854775808 ≤ x.1.2.2 ∧ x.1.2.2 ≤ 9223372036854775807)
theorem valid_small {L : Nat} {ns : List BN} {r : Nat} (h : Valid L ns r) (f : Int × Int) : Small (((L : Int), ns.map castN, (r : Int)), f) := by
  have h1 := h.low
  have h2 := h.few
  have h3 := h.root
  exact ⟨⟨by simp only; omega, by simp only; omega⟩, ⟨by simp only; omega, by simp only; omega⟩⟩
theorem zero_small (f : Int × Int) : Small ((0, [], 0), f) := ⟨⟨by simp, by simp⟩, ⟨by simp, by simp⟩⟩
theorem notR_small (L : Int) (ns : List DI) (r : Int) : Small (notR L ns r) := by
  by_cases hf : faultD L ns r = (0, 0)
  · obtain ⟨hv, e1, e2, e3⟩ := faultD_valid hf
    obtain ⟨ns', r', hv', _, he⟩ := notR_valid hv
    rw [e1, e2, e3] at he
    rw [he, ← e2]
    exact valid_small hv' _
  · unfold notR
    rw [if_neg hf]
    exact zero_small _
theorem limF_small {L : Nat} {d : List BN × Nat} (hL : L ≤ 24) (h : d.2 < d.1.length + 2) : Small (limF L d) := by
  by_cases h3 : d.1.length ≤ 300
  · rw [limF_few h3]
    exact ⟨⟨by simp only; omega, by simp only; omega⟩, ⟨by simp only; omega, by simp only; omega⟩⟩
  · rw [limF_many h3]
    exact zero_small _
theorem combineR_small (op : Nat) (L : Int) (ns : List DI) (r L2 : Int) (ns2 : List DI) (r2 : Int) : Small (combineR op L ns r L2 ns2 r2) := by
  by_cases hf : faultD L ns r = (0, 0)
  · by_cases hf2 : faultD L2 ns2 r2 = (0, 0)
    · by_cases hl : L = L2
      · obtain ⟨hv, e1, e2, e3⟩ := faultD_valid hf
        obtain ⟨hv2, e1', e2', e3'⟩ := faultD_valid hf2
        subst hl
        obtain ⟨na, ka, oka, lta, sema⟩ := ex_dia0 (L := L.toNat) (φ := fun s => opF op (sem (ns.map natN) r.toNat s) (sem (ns2.map natN) r2.toNat s)) (fun s t h => by rw [hv.dep s t h, hv2.dep s t h])
        have h4 := (diaF_ok oka lta sema).2.1
        unfold combineR
        rw [if_pos hf, if_pos hf2, if_pos rfl]
        exact limF_small hv.low h4
      · unfold combineR
        rw [if_pos hf, if_pos hf2, if_neg hl]
        exact zero_small _
    · unfold combineR
      rw [if_pos hf, if_neg hf2]
      exact zero_small _
  · unfold combineR
    rw [if_neg hf]
    exact zero_small _
theorem count_bound {L : Nat} {ds : List BN} {r : Nat} (h : Valid L ds r) : count L ds r ≤ 2 ^ L := by
  obtain ⟨xs, xr, hvx, hsx, hxe⟩ := notR_valid h
  have hsum : count L ds r + count L xs xr = 2 ^ L := by
    rw [count_tot h.ok h.root (fun _ => false), count_tot hvx.ok hvx.root (fun _ => false), show sem xs xr = fun s => !sem ds r s from funext hsx]
    exact tot_not _ _ _ _
  omega
theorem countR_bound (L : Int) (ns : List DI) (r : Int) : 0 ≤ (countR L ns r).1 ∧ (countR L ns r).1 ≤ 16777216 := by
  by_cases hf : faultD L ns r = (0, 0)
  · obtain ⟨hv, e1, e2, e3⟩ := faultD_valid hf
    have hb := count_bound hv
    have h2 : 2 ^ L.toNat ≤ 2 ^ 24 := Nat.pow_le_pow_right (by omega) hv.low
    unfold countR
    rw [if_pos hf]
    simp only
    omega
  · unfold countR
    rw [if_neg hf]
    simp
end Go.Proofs.Ytgenpcokpodhkaa
