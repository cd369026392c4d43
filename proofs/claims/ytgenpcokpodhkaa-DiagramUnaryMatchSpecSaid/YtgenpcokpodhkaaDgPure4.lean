/- Counting the sets for which a diagram is true, in plain Lean. -/
import Derived.Test.YtgenpcokpodhkaaDgPure
namespace Go.Proofs.Ytgenpcokpodhkaa

/-- for how many values of the d variables from lv on f is true -/
def tot : Nat → Nat → ((Nat → Bool) → Bool) → (Nat → Bool) → Nat
  | 0, _, f, s => if f s = true then 1 else 0
  | d + 1, lv, f, s => tot d (lv + 1) f (setV s lv false) + tot d (lv + 1) f (setV s lv true)
theorem tot_le : ∀ (d lv : Nat) (f : (Nat → Bool) → Bool) (s : Nat → Bool), tot d lv f s ≤ 2 ^ d := by
  intro d
  induction d with
  | zero => intro lv f s; unfold tot; split <;> omega
  | succ d ih =>
    intro lv f s
    have h1 := ih (lv + 1) f (setV s lv false)
    have h2 := ih (lv + 1) f (setV s lv true)
    rw [Nat.pow_succ]
    unfold tot
    omega
/-- equal on all sets that agree with s below lv and beyond -/
theorem tot_congr : ∀ (d lv : Nat) (f g : (Nat → Bool) → Bool) (s t : Nat → Bool), (∀ u u' : Nat → Bool, (∀ v, lv ≤ v → v < lv + d → u v = u' v) → (∀ v, v < lv ∨ lv + d ≤ v → u v = s v ∧ u' v = t v) → f u = g u') → tot d lv f s = tot d lv g t := by
  intro d
  induction d with
  | zero =>
    intro lv f g s t h
    unfold tot
    rw [h s t (fun v h1 h2 => by omega) (fun v _ => ⟨rfl, rfl⟩)]
  | succ d ih =>
    intro lv f g s t h
    have step : ∀ b, tot d (lv + 1) f (setV s lv b) = tot d (lv + 1) g (setV t lv b) := fun b => by
      refine ih (lv + 1) f g _ _ (fun u u' h1 h2 => h u u' (fun v hv hv' => ?_) (fun v hv => ?_))
      · by_cases he : v = lv
        · obtain ⟨e1, e2⟩ := h2 v (.inl (by omega))
          rw [e1, e2, he, setV_same, setV_same]
        · exact h1 v (by omega) (by omega)
      · obtain ⟨e1, e2⟩ := h2 v (by omega)
        rw [e1, e2, setV_other _ _ (by omega), setV_other _ _ (by omega)]
        exact ⟨rfl, rfl⟩
    unfold tot
    rw [step false, step true]
/-- variables that f does not look at -/
theorem tot_skip {m : Nat} {f : (Nat → Bool) → Bool} (hf : ∀ s t : Nat → Bool, (∀ v, m ≤ v → s v = t v) → f s = f t) : ∀ (n d lv : Nat) (s : Nat → Bool), lv + n = m → tot (n + d) lv f s = tot d m f s * 2 ^ n := by
  intro n
  induction n with
  | zero =>
    intro d lv s h
    obtain rfl : lv = m := by omega
    rw [Nat.zero_add, Nat.pow_zero, Nat.mul_one]
  | succ n ih =>
    intro d lv s h
    have e : ∀ b, tot (n + d) (lv + 1) f (setV s lv b) = tot d m f s * 2 ^ n := fun b => by
      rw [ih d (lv + 1) (setV s lv b) (by omega)]
      congr 1
      refine tot_congr d m f f _ _ (fun u u' h1 h2 => hf u u' (fun v hv => ?_))
      by_cases hv' : v < m + d
      · exact h1 v hv hv'
      · obtain ⟨e1, e2⟩ := h2 v (.inr (by omega))
        rw [e1, e2, setV_other _ _ (by omega)]
    rw [show n + 1 + d = n + d + 1 from by omega, tot, e, e, Nat.pow_succ, ← Nat.mul_assoc]
    omega
theorem tot_not : ∀ (d lv : Nat) (f : (Nat → Bool) → Bool) (s : Nat → Bool), tot d lv f s + tot d lv (fun t => !f t) s = 2 ^ d := by
  intro d
  induction d with
  | zero => intro lv f s; unfold tot; cases h : f s <;> simp [h]
  | succ d ih =>
    intro lv f s
    have h1 := ih (lv + 1) f (setV s lv false)
    have h2 := ih (lv + 1) f (setV s lv true)
    rw [Nat.pow_succ, tot, tot]
    omega
theorem tot_and_or : ∀ (d lv : Nat) (f g : (Nat → Bool) → Bool) (s : Nat → Bool), tot d lv (fun t => f t && g t) s + tot d lv (fun t => f t || g t) s = tot d lv f s + tot d lv g s := by
  intro d
  induction d with
  | zero => intro lv f g s; unfold tot; cases h : f s <;> cases h' : g s <;> simp [h, h']
  | succ d ih =>
    intro lv f g s
    have h1 := ih (lv + 1) f g (setV s lv false)
    have h2 := ih (lv + 1) f g (setV s lv true)
    simp only [tot]
    omega
theorem tot_pos : ∀ (d lv : Nat) (f : (Nat → Bool) → Bool) (s : Nat → Bool), 0 < tot d lv f s ↔ ∃ t, (∀ v, v < lv ∨ lv + d ≤ v → t v = s v) ∧ f t = true := by
  intro d
  induction d with
  | zero =>
    intro lv f s
    unfold tot
    constructor
    · intro h
      refine ⟨s, fun _ _ => rfl, ?_⟩
      split at h
      · assumption
      · omega
    · rintro ⟨t, h1, h2⟩
      obtain rfl : t = s := funext fun v => h1 v (by omega)
      rw [if_pos h2]
      omega
  | succ d ih =>
    intro lv f s
    unfold tot
    constructor
    · intro h
      rcases Nat.eq_zero_or_pos (tot d (lv + 1) f (setV s lv false)) with h0 | h0
      · obtain ⟨t, h1, h2⟩ := (ih (lv + 1) f (setV s lv true)).1 (by omega)
        exact ⟨t, fun v hv => by rw [h1 v (by omega), setV_other _ _ (by omega)], h2⟩
      · obtain ⟨t, h1, h2⟩ := (ih (lv + 1) f (setV s lv false)).1 h0
        exact ⟨t, fun v hv => by rw [h1 v (by omega), setV_other _ _ (by omega)], h2⟩
    · rintro ⟨t, h1, h2⟩
      have : 0 < tot d (lv + 1) f (setV s lv (t lv)) := (ih (lv + 1) f _).2 ⟨t, fun v hv => by
        by_cases he : v = lv
        · rw [he, setV_same]
        · rw [setV_other _ _ he, h1 v (by omega)], h2⟩
      cases ht : t lv <;> rw [ht] at this <;> omega

/-- what Count reckons for a node -/
def cnt (L : Nat) (ns : List BN) (k : Nat) : Nat := tot (L - lvl L ns k) (lvl L ns k) (sem ns k) (fun _ => false)
section
variable {L : Nat} {ns : List BN}
theorem cnt_zero : cnt L ns 0 = 0 := by
  unfold cnt
  rw [lvl_small ns (by omega), Nat.sub_self, tot, sem_zero]
  rfl
theorem cnt_one : cnt L ns 1 = 1 := by
  unfold cnt
  rw [lvl_small ns (by omega), Nat.sub_self, tot, sem_one]
  rfl
theorem sem_dep' (ok : OkD L ns) {k : Nat} (hk : k < ns.length + 2) : ∀ s t : Nat → Bool, (∀ v, lvl L ns k ≤ v → s v = t v) → sem ns k s = sem ns k t := fun s t h => sem_dep ok k k (Nat.le_refl _) hk s t h
/-- from an earlier variable on -/
theorem tot_cnt (ok : OkD L ns) {k lv : Nat} (hk : k < ns.length + 2) (h : lv ≤ lvl L ns k) (s : Nat → Bool) : tot (L - lv) lv (sem ns k) s = cnt L ns k * 2 ^ (lvl L ns k - lv) := by
  have hL := lvl_le ok k
  have := tot_skip (sem_dep' ok hk) (lvl L ns k - lv) (L - lvl L ns k) lv s (by omega)
  rw [show lvl L ns k - lv + (L - lvl L ns k) = L - lv from by omega] at this
  rw [this]
  congr 1
  refine tot_congr _ _ _ _ _ _ (fun u u' h1 h2 => sem_beyond ok hk (fun v hv hv' => h1 v hv (by omega)))
theorem cnt_node (ok : OkD L ns) {i v l h : Nat} (hn : ns[i]? = some (v, l, h)) : cnt L ns (i + 2) = cnt L ns l * 2 ^ (lvl L ns l - v - 1) + cnt L ns h * 2 ^ (lvl L ns h - v - 1) := by
  obtain ⟨b1, b2, b3, b4, b5, b6⟩ := ok.node i v l h hn
  have hi : i < ns.length := (List.getElem?_eq_some_iff.1 hn).1
  have e1 := tot_cnt ok (k := l) (lv := v + 1) (by omega) (by omega) (setV (fun _ => false) v false)
  have e2 := tot_cnt ok (k := h) (lv := v + 1) (by omega) (by omega) (setV (fun _ => false) v true)
  rw [Nat.sub_sub, Nat.sub_sub, ← e1, ← e2]
  unfold cnt
  rw [lvl_node hn, show L - v = (L - (v + 1)) + 1 from by omega, tot]
  congr 1
  · refine tot_congr _ _ _ _ _ _ (fun u u' h1 h2 => ?_)
    have : u v = false := by rw [(h2 v (.inl (by omega))).1, setV_same]
    rw [sem_node ok hn, this, if_neg (by simp)]
    exact sem_beyond ok (by omega) (fun w hw hw' => h1 w (by omega) (by omega))
  · refine tot_congr _ _ _ _ _ _ (fun u u' h1 h2 => ?_)
    have : u v = true := by rw [(h2 v (.inl (by omega))).1, setV_same]
    rw [sem_node ok hn, this, if_pos rfl]
    exact sem_beyond ok (by omega) (fun w hw hw' => h1 w (by omega) (by omega))
theorem cnt_le (k : Nat) : cnt L ns k ≤ 2 ^ (L - lvl L ns k) := tot_le _ _ _ _
/-- what Count returns -/
def count (L : Nat) (ns : List BN) (k : Nat) : Nat := cnt L ns k * 2 ^ lvl L ns k
theorem count_tot (ok : OkD L ns) {k : Nat} (hk : k < ns.length + 2) (s : Nat → Bool) : count L ns k = tot L 0 (sem ns k) s := by
  have := tot_cnt ok hk (Nat.zero_le _) s
  rw [Nat.sub_zero, Nat.sub_zero] at this
  exact this.symm
theorem count_same {ns' : List BN} (ok : OkD L ns) (ok' : OkD L ns') {k k' : Nat} (hk : k < ns.length + 2) (hk' : k' < ns'.length + 2) (h : ∀ s, sem ns k s = sem ns' k' s) : count L ns k = count L ns' k' := by
  rw [count_tot ok hk (fun _ => false), count_tot ok' hk' (fun _ => false), show sem ns k = sem ns' k' from funext h]
end
end Go.Proofs.Ytgenpcokpodhkaa
