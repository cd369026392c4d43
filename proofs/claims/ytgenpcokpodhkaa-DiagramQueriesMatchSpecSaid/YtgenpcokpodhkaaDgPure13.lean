/- The law on Count, Pick and Eval against the reference, in plain Lean. -/
import Derived.Test.YtgenpcokpodhkaaDgPure12
namespace Go.Proofs.Ytgenpcokpodhkaa
open Go.RowKit

/-- the number of a set over the d variables from lv -/
def valF : Nat → Nat → (Nat → Bool) → Nat
  | 0, _, _ => 0
  | d + 1, lv, s => (if s lv = true then 2 ^ d else 0) + valF d (lv + 1) s
theorem valF_lt : ∀ (d lv : Nat) (s : Nat → Bool), valF d lv s < 2 ^ d := by
  intro d
  induction d with
  | zero => intro lv s; simp [valF]
  | succ d ih =>
    intro lv s
    have := ih (lv + 1) s
    rw [valF, Nat.pow_succ]
    split <;> omega
theorem valF_congr : ∀ (d lv : Nat) (s t : Nat → Bool), (∀ v, lv ≤ v → v < lv + d → s v = t v) → valF d lv s = valF d lv t := by
  intro d
  induction d with
  | zero => intro lv s t _; rfl
  | succ d ih =>
    intro lv s t h
    rw [valF, valF, h lv (Nat.le_refl _) (by omega), ih (lv + 1) s t (fun v h1 h2 => h v (by omega) (by omega))]
theorem valF_bit : ∀ (d lv : Nat) (s : Nat → Bool) (v : Nat), lv ≤ v → v < lv + d → (valF d lv s / 2 ^ (lv + d - 1 - v) % 2 = 1 ↔ s v = true) := by
  intro d
  induction d with
  | zero => intro lv s v h1 h2; omega
  | succ d ih =>
    intro lv s v h1 h2
    have hlt := valF_lt d (lv + 1) s
    have hp := Nat.two_pow_pos d
    by_cases hv : v = lv
    · subst hv
      rw [valF, show v + (d + 1) - 1 - v = d from by omega]
      by_cases hs : s v = true
      · rw [if_pos hs, Nat.add_comm, Nat.add_div_right _ hp, Nat.div_eq_of_lt hlt]
        simp [hs]
      · rw [if_neg hs, Nat.zero_add, Nat.div_eq_of_lt hlt]
        simp [hs]
    · have h3 := ih (lv + 1) s v (by omega) (by omega)
      rw [show lv + 1 + d - 1 - v = lv + (d + 1) - 1 - v from by omega] at h3
      rw [← h3, valF]
      have hd : 2 ^ d = 2 ^ (lv + (d + 1) - 1 - v) * (2 * 2 ^ (d - 1 - (lv + (d + 1) - 1 - v))) := by
        rw [← Nat.pow_succ', ← Nat.pow_add]
        congr 1
        omega
      split
      · rw [hd, Nat.add_comm, Nat.add_mul_div_left _ _ (Nat.two_pow_pos _)]
        omega
      · rw [Nat.zero_add]
theorem bits_val (L : Nat) (s : Nat → Bool) {v : Nat} (hv : v < L) : bits L 0 (valF L 0 s) v = s v := by
  unfold bits
  rw [decide_eq_true (show 0 ≤ v ∧ v < L by omega), Bool.true_and, Nat.shiftRight_eq_div_pow]
  have := valF_bit L 0 s v (by omega) (by omega)
  rw [Nat.zero_add] at this
  rw [Bool.eq_iff_iff, beq_iff_eq]
  exact this
theorem bits_pos {L i v : Nat} (hv : v < L) : bits L 0 i v = true ↔ i / 2 ^ (L - 1 - v) % 2 = 1 := by
  unfold bits
  rw [decide_eq_true (show 0 ≤ v ∧ v < L by omega), Bool.true_and, Nat.shiftRight_eq_div_pow, beq_iff_eq]
theorem val_bitsD (L i : Nat) : ∀ (d lv : Nat), lv + d = L → valF d lv (bits L 0 i) = i % 2 ^ d := by
  intro d
  induction d with
  | zero => intro lv _; simp [valF, Nat.mod_one]
  | succ d ih =>
    intro lv h
    rw [valF, ih (lv + 1) (by omega)]
    have hb := bits_pos (L := L) (i := i) (v := lv) (by omega)
    rw [show L - 1 - lv = d from by omega] at hb
    have hm : i % 2 ^ (d + 1) = i % 2 ^ d + 2 ^ d * (i / 2 ^ d % 2) := by
      rw [Nat.pow_succ, Nat.mod_mul]
    rw [hm]
    by_cases h1 : bits L 0 i lv = true
    · rw [if_pos h1, hb.1 h1]
      omega
    · rw [if_neg h1]
      have : i / 2 ^ d % 2 = 0 := by
        have := mt hb.2 h1
        omega
      rw [this]
      omega
theorem val_bits {L i : Nat} (hi : i < 2 ^ L) : valF L 0 (bits L 0 i) = i := by
  rw [val_bitsD L i L 0 (by omega), Nat.mod_eq_of_lt hi]

/-- the set that Pick returns is the first -/
theorem pick_least {L : Nat} {ns : List BN} (ok : OkD L ns) : ∀ (n k : Nat), k ≤ n → k < ns.length + 2 → k ≠ 0 → ∀ s : Nat → Bool, sem ns k s = true → ∀ (d lv : Nat), lv + d = L → lv ≤ lvl L ns k →
    valF d lv (fun v => decide (v ∈ (pick ns k).1)) ≤ valF d lv s := by
  intro n
  induction n with
  | zero => intro k hk _ h0; omega
  | succ n ih =>
    intro k hk hlt h0 s hs d
    induction d with
    | zero => intro lv _ _; exact Nat.le_refl _
    | succ d ihd =>
      intro lv hd hl
      obtain ⟨c1, c2, c3, c4⟩ := pick_ok ok k k (Nat.le_refl _) hlt h0
      by_cases hlv : lv < lvl L ns k
      · have hno : ¬ lv ∈ (pick ns k).1 := fun hm => by have := c2 lv hm; omega
        rw [valF, valF, if_neg (by simpa using hno), Nat.zero_add]
        have := ihd (lv + 1) (by omega) (by omega)
        omega
      · by_cases h2 : k < 2
        · obtain rfl : k = 1 := by omega
          rw [lvl_small ns h2] at hlv
          omega
        · obtain ⟨i, v, l, h, rfl, hn⟩ := node_of (ns := ns) (by omega) hlt
          obtain ⟨b1, b2, b3, b4, b5, b6⟩ := ok.node i v l h hn
          have hi : i < ns.length := (List.getElem?_eq_some_iff.1 hn).1
          rw [lvl_node hn] at hlv hl
          obtain rfl : lv = v := by omega
          rw [sem_node ok hn] at hs
          rw [valF, valF, pick_node ok hn]
          by_cases hl0 : l = 0
          · rw [if_pos hl0, if_pos (by simp)]
            have hsv : s lv = true := by
              cases hh : s lv
              · rw [hh, if_neg (by simp), hl0, sem_zero] at hs
                cases hs
              · rfl
            rw [if_pos hsv] at hs ⊢
            have := ih h (by omega) (by omega) (by omega) s hs d (lv + 1) (by omega) (by omega)
            have he : valF d (lv + 1) (fun u => decide (u ∈ lv :: (pick ns h).1)) = valF d (lv + 1) (fun u => decide (u ∈ (pick ns h).1)) := valF_congr _ _ _ _ (fun u hu _ => by
              have : u ≠ lv := by omega
              simp [this])
            rw [he]
            omega
          · rw [if_neg hl0]
            obtain ⟨e1, e2, e3, e4⟩ := pick_ok ok l l (Nat.le_refl _) (by omega) hl0
            have hno : ¬ lv ∈ (pick ns l).1 := fun hm => by have := e2 lv hm; omega
            rw [if_neg (by simpa using hno), Nat.zero_add]
            cases hh : s lv
            · rw [hh, if_neg (by simp)] at hs
              rw [if_neg (by simp), Nat.zero_add]
              exact ih l (by omega) (by omega) hl0 s hs d (lv + 1) (by omega) (by omega)
            · rw [if_pos rfl]
              have := valF_lt d (lv + 1) (fun u => decide (u ∈ (pick ns l).1))
              omega

theorem filt_sorted : ∀ (n lo : Nat) (p : List Nat), List.Pairwise (· < ·) p → (∀ v ∈ p, lo ≤ v ∧ v < lo + n) → (List.range' lo n).filter (fun v => decide (v ∈ p)) = p := by
  intro n
  induction n with
  | zero =>
    intro lo p _ hb
    cases p with
    | nil => rfl
    | cons x l => have := hb x (List.mem_cons_self ..); omega
  | succ n ih =>
    intro lo p hp hb
    rw [List.range'_succ, List.filter_cons]
    cases p with
    | nil => simp
    | cons x l =>
      by_cases hx : x = lo
      · subst hx
        rw [if_pos (by simp)]
        congr 1
        have := ih (x + 1) l (List.Pairwise.tail hp) (fun v hv => by
          have h1 := List.rel_of_pairwise_cons hp hv
          have h2 := hb v (List.mem_cons_of_mem _ hv)
          omega)
        rw [← this]
        apply List.filter_congr
        intro v hv
        rw [this]
        rw [List.mem_range'_1] at hv
        have : v ≠ x := by omega
        simp [this]
      · have hxl : lo < x := by have := hb x (List.mem_cons_self ..); omega
        rw [if_neg (by
          simp only [decide_eq_true_eq, List.mem_cons, not_or]
          refine ⟨fun e => hx e.symm, fun hm => ?_⟩
          have := List.rel_of_pairwise_cons hp hm
          omega)]
        refine ih (lo + 1) (x :: l) hp (fun v hv => ?_)
        have h2 := hb v hv
        rcases List.mem_cons.1 hv with rfl | hv
        · omega
        · have := List.rel_of_pairwise_cons hp hv
          omega
theorem memb_val {L : Nat} {p : List Nat} (hp : List.Pairwise (· < ·) p) (hb : ∀ v ∈ p, v < L) : membI (valF L 0 (fun v => decide (v ∈ p))) L = p.map Int.ofNat := by
  unfold membI membK
  have h1 : (List.range L).filter (fun v => bitB (valF L 0 (fun v => decide (v ∈ p))) v L) = (List.range L).filter (fun v => decide (v ∈ p)) := by
    apply List.filter_congr
    intro v hv
    rw [List.mem_range] at hv
    rw [← bits_bit hv, bits_val L _ hv]
  rw [h1, List.range_eq_range', filt_sorted L 0 p hp (fun v hv => by have := hb v hv; omega)]
  rfl

/-- the first true place of a list -/
def firstL : List Bool → Nat → Int
  | [], _ => -1
  | b :: l, j => if b = true then (j : Int) else firstL l (j + 1)
def cntT (l : List Bool) : Nat := (l.filter (· == true)).length
theorem cntT_cons (b : Bool) (l : List Bool) : cntT (b :: l) = (if b = true then 1 else 0) + cntT l := by
  unfold cntT
  rw [List.filter_cons]
  cases b <;> simp; omega
theorem cntT_append (l m : List Bool) : cntT (l ++ m) = cntT l + cntT m := by simp [cntT]
theorem cntT_le (l : List Bool) : cntT l ≤ l.length := List.length_filter_le _ _
theorem firstL_none : ∀ (l : List Bool) (j : Nat), (∀ b ∈ l, b = false) → firstL l j = -1 := by
  intro l
  induction l with
  | nil => intro j _; rfl
  | cons b l ih =>
    intro j h
    rw [firstL, if_neg (by rw [h b (List.mem_cons_self ..)]; simp)]
    exact ih _ (fun c hc => h c (List.mem_cons_of_mem _ hc))
theorem firstL_at : ∀ (l : List Bool) (j q : Nat), l[q]? = some true → (∀ i, i < q → l[i]? = some false) → firstL l j = ((j + q : Nat) : Int) := by
  intro l
  induction l with
  | nil => intro j q h; simp at h
  | cons b l ih =>
    intro j q h hn
    cases q with
    | zero =>
      simp at h
      subst h
      rw [firstL, if_pos rfl]
      rfl
    | succ q =>
      have h0 := hn 0 (by omega)
      simp at h0
      subst h0
      rw [firstL, if_neg (by simp), ih (j + 1) q (by simpa using h) (fun i hi => by have := hn (i + 1) (by omega); simpa using this)]
      congr 1
      omega
theorem firstL_bd : ∀ (l : List Bool) (j : Nat), firstL l j = -1 ∨ ((j : Int) ≤ firstL l j ∧ firstL l j < (j : Int) + l.length) := by
  intro l
  induction l with
  | nil => intro j; exact .inl rfl
  | cons b l ih =>
    intro j
    rw [firstL]
    split
    · exact .inr ⟨Int.le_refl _, by simp; omega⟩
    · rcases ih (j + 1) with h | h
      · exact .inl h
      · refine .inr ⟨by omega, by simp only [List.length_cons]; omega⟩

/-- the table of a function over the d variables from lv, the others as in s -/
def tabAt : Nat → Nat → Fun → (Nat → Bool) → List Bool
  | 0, _, f, s => [f s]
  | d + 1, lv, f, s => tabAt d (lv + 1) f (setV s lv false) ++ tabAt d (lv + 1) f (setV s lv true)
theorem tabAt_tot : ∀ (d lv : Nat) (f : Fun) (s : Nat → Bool), cntT (tabAt d lv f s) = tot d lv f s := by
  intro d
  induction d with
  | zero =>
    intro lv f s
    rw [tabAt, tot, cntT_cons]
    rfl
  | succ d ih =>
    intro lv f s
    rw [tabAt, tot, cntT_append, ih, ih]
theorem tabAt_len : ∀ (d lv : Nat) (f : Fun) (s : Nat → Bool), (tabAt d lv f s).length = 2 ^ d := by
  intro d
  induction d with
  | zero => intro lv f s; rfl
  | succ d ih => intro lv f s; rw [tabAt, List.length_append, ih, ih, Nat.pow_succ]; omega
def overB (s : Nat → Bool) (lv d i : Nat) : Nat → Bool := fun v => if lv ≤ v ∧ v < lv + d then (i / 2 ^ (lv + d - 1 - v) % 2 == 1) else s v
theorem tabAt_get : ∀ (d lv : Nat) (f : Fun) (s : Nat → Bool) (i : Nat), i < 2 ^ d → (tabAt d lv f s)[i]? = some (f (overB s lv d i)) := by
  intro d
  induction d with
  | zero =>
    intro lv f s i hi
    obtain rfl : i = 0 := by simpa using hi
    rw [tabAt]
    simp only [List.getElem?_cons_zero, Option.some.injEq]
    congr 1
    funext v
    unfold overB
    rw [if_neg (by omega)]
  | succ d ih =>
    intro lv f s i hi
    have hp := Nat.two_pow_pos d
    have hl := tabAt_len d (lv + 1) f (setV s lv false)
    rw [Nat.pow_succ] at hi
    have key : ∀ (b : Bool) (q : Nat), q < 2 ^ d → i = q + (if b = true then 2 ^ d else 0) → overB (setV s lv b) (lv + 1) d q = overB s lv (d + 1) i := fun b q hq he => by
      funext v
      unfold overB
      by_cases hv : v = lv
      · subst hv
        rw [if_neg (by omega), if_pos (by omega), setV_same, show v + (d + 1) - 1 - v = d from by omega, he]
        cases b
        · simp only [Bool.false_eq_true, if_false, Nat.add_zero, Nat.div_eq_of_lt hq]
          rfl
        · simp only [if_true, Nat.add_div_right _ hp, Nat.div_eq_of_lt hq]
          rfl
      · by_cases hin : lv + 1 ≤ v ∧ v < lv + 1 + d
        · rw [if_pos hin, if_pos (by omega), show lv + 1 + d - 1 - v = lv + (d + 1) - 1 - v from by omega, he]
          cases b
          · simp
          · simp only [if_true]
            rw [flip_bit d q (lv + (d + 1) - 1 - v) (by rw [Nat.div_eq_of_lt hq]) (by omega)]
        · rw [if_neg hin, if_neg (by omega), setV_other s b hv]
    rw [tabAt]
    by_cases hlt : i < 2 ^ d
    · rw [List.getElem?_append_left (by omega), ih _ _ _ _ hlt, key false i hlt (by simp)]
    · rw [List.getElem?_append_right (by omega), hl, ih _ _ _ _ (by omega), key true (i - 2 ^ d) (by omega) (by simp; omega)]
theorem table_tab (L : Nat) (f : Fun) : tableF L f = tabAt L 0 f (fun _ => false) := by
  apply List.ext_getElem?
  intro i
  by_cases hi : i < 2 ^ L
  · rw [tabAt_get L 0 f _ i hi]
    unfold tableF
    rw [List.getElem?_map, List.getElem?_range hi]
    simp only [Option.map_some, Option.some.injEq]
    congr 1
    funext v
    unfold bits overB
    by_cases hv : v < L
    · rw [decide_eq_true (show 0 ≤ v ∧ v < L by omega), Bool.true_and, Nat.shiftRight_eq_div_pow, if_pos (by omega), Nat.zero_add]
    · rw [decide_eq_false (by omega), Bool.false_and, if_neg (by omega)]
  · rw [List.getElem?_eq_none (by simp [tableF]; omega), List.getElem?_eq_none (by rw [tabAt_len]; omega)]
theorem table_cnt {L : Nat} {ds : List BN} {r : Nat} (h : Valid L ds r) : cntT (tableF L (sem ds r)) = count L ds r := by
  rw [table_tab, tabAt_tot, count_tot h.ok h.root]
theorem table_at {L i : Nat} (f : Fun) (hi : i < 2 ^ L) : (tableF L f)[i]? = some (f (bits L 0 i)) := by
  unfold tableF
  rw [List.getElem?_map, List.getElem?_range hi]
  rfl
theorem table_first {L : Nat} {ds : List BN} {r : Nat} (h : Valid L ds r) (h0 : r ≠ 0) :
    firstL (tableF L (sem ds r)) 0 = ((valF L 0 (fun v => decide (v ∈ (pick ds r).1)) : Nat) : Int) ∧ (pick ds r).2 = 1 ∧ membI (valF L 0 (fun v => decide (v ∈ (pick ds r).1))) L = (pick ds r).1.map Int.ofNat := by
  obtain ⟨c1, c2, c3, c4⟩ := pick_ok h.ok r r (Nat.le_refl _) h.root h0
  have hlt := valF_lt L 0 (fun v => decide (v ∈ (pick ds r).1))
  refine ⟨?_, c1, memb_val c3 (fun v hv => (c2 v hv).2)⟩
  rw [firstL_at _ 0 (valF L 0 (fun v => decide (v ∈ (pick ds r).1))), Nat.zero_add]
  · rw [table_at _ hlt]
    congr 1
    rw [← c4]
    exact h.dep _ _ (fun v hv => bits_val L _ hv)
  · intro i hi
    rw [table_at _ (by omega)]
    congr 1
    cases hs : sem ds r (bits L 0 i) with
    | false => rfl
    | true =>
      have := pick_least h.ok r r (Nat.le_refl _) h.root h0 _ hs L 0 (by omega) (by omega)
      rw [val_bits (by omega)] at this
      omega
theorem table_none {L : Nat} {ds : List BN} : firstL (tableF L (sem ds 0)) 0 = -1 := by
  apply firstL_none
  intro b hb
  unfold tableF at hb
  obtain ⟨i, _, rfl⟩ := List.mem_map.1 hb
  exact sem_zero _ _

/-- a set that is one, as a list of numbers -/
theorem setOk_nat (L : Nat) : ∀ (set : List Int) (q : Option Int), (∀ x, q = some x → 0 ≤ x) → setOk (L : Int) q set = true → ∃ l : List Nat, set = l.map Int.ofNat ∧ List.Pairwise (· < ·) l ∧ (∀ v ∈ l, v < L) ∧ ∀ x, q = some x → ∀ v ∈ l, x < (v : Int) := by
  intro set
  induction set with
  | nil => intro q _ _; exact ⟨[], rfl, List.Pairwise.nil, (fun v hv => by cases hv), (fun x _ v hv => by cases hv)⟩
  | cons x l ih =>
    intro q hq h
    have hx : 0 ≤ x ∧ x < L ∧ (∀ y, q = some y → y < x) ∧ setOk (L : Int) (some x) l = true := by
      cases q with
      | none =>
        rw [setOk_first] at h
        split at h
        · cases h
        · exact ⟨by omega, by omega, (fun y hy => by cases hy), h⟩
      | some y =>
        rw [setOk_next] at h
        split at h
        · cases h
        · exact ⟨by omega, by omega, (fun z hz => by injection hz; omega), h⟩
    obtain ⟨h1, h2, h3, h4⟩ := hx
    obtain ⟨m, e, hp, hb, hm⟩ := ih (some x) (fun y hy => by injection hy; omega) h4
    refine ⟨x.toNat :: m, by simp [e, Int.toNat_of_nonneg h1], List.Pairwise.cons (fun v hv => ?_) hp, fun v hv => ?_, fun y hy v hv => ?_⟩
    · have := hm x rfl v hv
      omega
    · rcases List.mem_cons.1 hv with rfl | hv
      · omega
      · exact hb v hv
    · have h5 := h3 y hy
      rcases List.mem_cons.1 hv with rfl | hv
      · omega
      · have := hm x rfl v hv
        omega
theorem numI_val : ∀ (d lv : Nat) (l : List Nat), List.Pairwise (· < ·) l → (∀ v ∈ l, lv ≤ v ∧ v < lv + d) → numI (lv + d) (l.map Int.ofNat) = valF d lv (fun v => decide (v ∈ l)) := by
  intro d
  induction d with
  | zero =>
    intro lv l _ hb
    cases l with
    | nil => rfl
    | cons x l => have := hb x (List.mem_cons_self ..); omega
  | succ d ih =>
    intro lv l hp hb
    rw [valF]
    cases l with
    | nil =>
      have := ih (lv + 1) [] List.Pairwise.nil (fun v hv => by cases hv)
      simp at this
      simp [← this, numI]
    | cons x l =>
      have he : lv + 1 + d = lv + (d + 1) := by omega
      by_cases hx : x = lv
      · subst hx
        have := ih (x + 1) l (List.Pairwise.tail hp) (fun v hv => by
          have h1 := List.rel_of_pairwise_cons hp hv
          have h2 := hb v (List.mem_cons_of_mem _ hv)
          omega)
        rw [he] at this
        rw [List.map_cons, numI, this, if_pos (by simp)]
        congr 1
        · congr 1
          simp only [Int.ofNat_eq_natCast, Int.toNat_natCast]
          omega
        · refine valF_congr _ _ _ _ (fun v h1 _ => ?_)
          have : v ≠ x := by omega
          simp [this]
      · have hxl : lv < x := by have := hb x (List.mem_cons_self ..); omega
        have := ih (lv + 1) (x :: l) hp (fun v hv => by
          have h2 := hb v hv
          rcases List.mem_cons.1 hv with rfl | hv
          · omega
          · have := List.rel_of_pairwise_cons hp hv
            omega)
        rw [he] at this
        rw [this, if_neg (by
          simp only [decide_eq_true_eq, List.mem_cons, not_or]
          refine ⟨fun e => hx e.symm, fun hm => ?_⟩
          have := List.rel_of_pairwise_cons hp hm
          omega), Nat.zero_add]
theorem set_eval {L : Nat} {ds : List BN} {r : Nat} (h : Valid L ds r) {set : List Int} (hs : setOk (L : Int) none set = true) :
    (∀ v ∈ set, 0 ≤ v ∧ v < L) ∧ set.length ≤ L ∧ numI L set < 2 ^ L ∧ sem ds r (bits L 0 (numI L set)) = sem ds r (fun v => decide ((v : Int) ∈ set)) := by
  obtain ⟨l, rfl, hp, hb, _⟩ := setOk_nat L set none (fun x hx => by cases hx) hs
  have hn := numI_val L 0 l hp (fun v hv => by have := hb v hv; omega)
  rw [Nat.zero_add] at hn
  refine ⟨fun v hv => ?_, ?_, ?_, ?_⟩
  · obtain ⟨a, ha, rfl⟩ := List.mem_map.1 hv
    have := hb a ha
    simp only [Int.ofNat_eq_natCast]
    omega
  · rw [List.length_map]
    exact nodup_len (hp.imp (fun hab => Nat.ne_of_lt hab)) hb
  · rw [hn]
    exact valF_lt _ _ _
  · rw [hn]
    refine h.dep _ _ (fun v hv => ?_)
    rw [bits_val L _ hv]
    exact decide_eq_decide.2 ⟨fun hm => List.mem_map.2 ⟨v, hm, rfl⟩, fun hm => by
      obtain ⟨a, ha, e⟩ := List.mem_map.1 hm
      have : (a : Int) = (v : Int) := e
      obtain rfl : a = v := by omega
      exact ha⟩
end Go.Proofs.Ytgenpcokpodhkaa
