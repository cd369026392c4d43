/- The law on Pick, in plain Lean. -/
import Derived.Test.YtgenpcokpodhkaaDgPure7
namespace Go.Proofs.Ytgenpcokpodhkaa

theorem pick_ok {L : Nat} {ns : List BN} (ok : OkD L ns) : ∀ (n k : Nat), k ≤ n → k < ns.length + 2 → k ≠ 0 →
    (pick ns k).2 = 1 ∧ (∀ v ∈ (pick ns k).1, lvl L ns k ≤ v ∧ v < L) ∧ List.Pairwise (· < ·) (pick ns k).1 ∧ sem ns k (fun v => decide (v ∈ (pick ns k).1)) = true := by
  intro n
  induction n with
  | zero => intro k hk _ h0; omega
  | succ n ih =>
    intro k hk hlt h0
    by_cases h2 : k < 2
    · obtain rfl : k = 1 := by omega
      rw [pick_small ns h2]
      exact ⟨rfl, fun v h => by simp at h, List.Pairwise.nil, sem_one _ _⟩
    · obtain ⟨i, v, l, h, rfl, hn⟩ := node_of (ns := ns) (by omega) hlt
      obtain ⟨b1, b2, b3, b4, b5, b6⟩ := ok.node i v l h hn
      have hi : i < ns.length := (List.getElem?_eq_some_iff.1 hn).1
      rw [pick_node ok hn, lvl_node hn]
      by_cases hl : l = 0
      · rw [if_pos hl]
        obtain ⟨c1, c2, c3, c4⟩ := ih h (by omega) (by omega) (by omega)
        refine ⟨c1, fun u hu => ?_, ?_, ?_⟩
        · rcases List.mem_cons.1 hu with rfl | hu
          · exact ⟨Nat.le_refl _, b1⟩
          · have := c2 u hu
            omega
        · exact List.Pairwise.cons (fun u hu => by have := c2 u hu; omega) c3
        · rw [sem_node ok hn, if_pos (by simp), ← c4]
          refine sem_dep ok h h (Nat.le_refl _) (by omega) _ _ (fun u hu => ?_)
          have : u ≠ v := by omega
          simp [this]
      · rw [if_neg hl]
        obtain ⟨c1, c2, c3, c4⟩ := ih l (by omega) (by omega) hl
        refine ⟨c1, fun u hu => by have := c2 u hu; omega, c3, ?_⟩
        rw [sem_node ok hn, if_neg (by simp; intro hv; have := c2 v hv; omega)]
        exact c4
theorem setOk_some (L : Nat) : ∀ (l : List Nat) (q : Nat), List.Pairwise (· < ·) (q :: l) → (∀ v ∈ l, v < L) → setOk L (some (q : Int)) (l.map Int.ofNat) = true := by
  intro l
  induction l with
  | nil => intro q _ _; rfl
  | cons x l ih =>
    intro q hp hb
    rw [List.map_cons, setOk_next, if_neg]
    · exact ih x (List.Pairwise.tail hp) (fun v hv => hb v (List.mem_cons_of_mem _ hv))
    · have h1 := List.rel_of_pairwise_cons hp (List.mem_cons_self ..)
      have h2 := hb x (List.mem_cons_self ..)
      simp only [Int.ofNat_eq_natCast, not_or]
      omega
theorem setOk_pick (L : Nat) (l : List Nat) (hp : List.Pairwise (· < ·) l) (hb : ∀ v ∈ l, v < L) : setOk L none (l.map Int.ofNat) = true := by
  cases l with
  | nil => rfl
  | cons x l =>
    rw [List.map_cons, setOk_first, if_neg]
    · exact setOk_some L l x hp (fun v hv => hb v (List.mem_cons_of_mem _ hv))
    · have h2 := hb x (List.mem_cons_self ..)
      simp only [Int.ofNat_eq_natCast, not_or]
      omega
theorem count_pos {L : Nat} {ns : List BN} (ok : OkD L ns) {k : Nat} (hk : k < ns.length + 2) (h0 : k ≠ 0) : 0 < count L ns k := by
  obtain ⟨_, c2, _, c4⟩ := pick_ok ok k k (Nat.le_refl _) hk h0
  rw [count_tot ok hk (fun _ => false), tot_pos]
  refine ⟨_, fun v hv => ?_, c4⟩
  have : v ∉ (pick ns k).1 := fun hm => by have := c2 v hm; omega
  simp [this]
theorem count_zero (L : Nat) (ns : List BN) : count L ns 0 = 0 := by unfold count; rw [cnt_zero, Nat.zero_mul]

/-- a diagram is true for the set that Pick returns, and there is one unless the count is 0 -/
def pickTrue (L : Int) (ns : List DI) (r : Int) : Bool :=
  let p := pickR L ns r
  let n := countR L ns r
  if p.2.2.1 ≠ 0 ∨ n.2.1 ≠ 0 then decide (p.2.2 = n.2) && !p.2.1 else
    if p.2.1 = false then decide (n.1 = 0) else
      decide ((evalR L ns r p.1).2.1 = 0) && (evalR L ns r p.1).1 && decide (0 < n.1)
theorem pickTrue_true (L : Int) (ns : List DI) (r : Int) : pickTrue L ns r = true := by
  unfold pickTrue
  simp only
  by_cases hf : faultD L ns r = (0, 0)
  · obtain ⟨hv, hc, h1, h2⟩ := faultD_valid hf
    have hcnt : countR L ns r = (((count L.toNat (ns.map natN) r.toNat : Nat) : Int), (0, 0)) := by unfold countR; rw [if_pos hf]
    by_cases h0 : r.toNat = 0
    · have hp : pickR L ns r = ([], false, (0, 0)) := by
        unfold pickR
        rw [if_pos hf, h0, pick_small _ (by omega), if_neg (by simp)]
      rw [hp, hcnt, h0, count_zero]
      simp
    · obtain ⟨c1, c2, c3, c4⟩ := pick_ok hv.ok r.toNat r.toNat (Nat.le_refl _) hv.root h0
      have hp : pickR L ns r = ((pick (ns.map natN) r.toNat).1.map Int.ofNat, true, (0, 0)) := by
        unfold pickR
        rw [if_pos hf, if_pos c1]
      have hpos := count_pos hv.ok hv.root h0
      have hset := setOk_pick L.toNat _ c3 (fun v hm => (c2 v hm).2)
      rw [h1] at hset
      have hev : evalR L ns r ((pick (ns.map natN) r.toNat).1.map Int.ofNat) = (true, (0, 0)) := by
        unfold evalR
        rw [if_pos hf, if_pos hset]
        rw [← c4]
        congr 2
        funext v
        have : ((v : Int) ∈ (pick (ns.map natN) r.toNat).1.map Int.ofNat) ↔ v ∈ (pick (ns.map natN) r.toNat).1 := by
          simp only [List.mem_map, Int.ofNat_eq_natCast, Int.natCast_inj, exists_eq_right]
        exact decide_eq_decide.2 this
      rw [hp, hcnt]
      simp only [hev]
      simp [hpos]
  · have hp : pickR L ns r = ([], false, faultD L ns r) := by unfold pickR; rw [if_neg hf]
    have hcnt : countR L ns r = (0, faultD L ns r) := by unfold countR; rw [if_neg hf]
    have hcode : (faultD L ns r).1 ≠ 0 := fun h => hf (fault_code h)
    rw [hp, hcnt, if_pos (.inl hcode)]
    simp
end Go.Proofs.Ytgenpcokpodhkaa
