/- One canonical text: the walk that writes a diagram, and the reference's folding of a table of values, agree wherever the meaning agrees. -/
import Derived.Test.YtgenpcokpodhkaaDgPure
namespace Go.Proofs.Ytgenpcokpodhkaa

def look : List (Nat × Nat) → Nat → Option Nat
  | [], _ => none
  | p :: l, k => if p.1 = k then some p.2 else look l k
theorem look_same (l : List (Nat × Nat)) (k m : Nat) : look ((k, m) :: l) k = some m := by simp [look]
theorem look_other (l : List (Nat × Nat)) {k j : Nat} (m : Nat) (h : k ≠ j) : look ((k, m) :: l) j = look l j := by simp [look, h]

/-- the walk that completes the nodes below k -/
def wr (ns : List BN) : Nat → Nat → List (Nat × Nat) → List BN → Nat × List (Nat × Nat) × List BN
  | 0, _, at_, out => (0, at_, out)
  | f + 1, k, at_, out =>
    match look at_ k with
    | some to => (to, at_, out)
    | none =>
      match ns[k - 2]? with
      | none => (0, at_, out)
      | some n =>
        let a := wr ns f n.2.1 at_ out
        let b := wr ns f n.2.2 a.2.1 a.2.2
        (b.2.2.length + 2, (k, b.2.2.length + 2) :: b.2.1, b.2.2 ++ [(n.1, a.1, b.1)])
theorem wr_known {ns : List BN} {f k to : Nat} {at_ : List (Nat × Nat)} (out : List BN) (h : look at_ k = some to) : wr ns (f + 1) k at_ out = (to, at_, out) := by
  rw [wr, h]
theorem wr_new {ns : List BN} {f i v l h : Nat} {at_ : List (Nat × Nat)} (out : List BN) (hk : look at_ (i + 2) = none) (hn : ns[i]? = some (v, l, h)) {a b : Nat × List (Nat × Nat) × List BN} (ha : wr ns f l at_ out = a) (hb : wr ns f h a.2.1 a.2.2 = b) :
    wr ns (f + 1) (i + 2) at_ out = (b.2.2.length + 2, (i + 2, b.2.2.length + 2) :: b.2.1, b.2.2 ++ [(v, a.1, b.1)]) := by
  rw [wr, hk]
  simp only [Nat.add_sub_cancel, hn, ha, hb]
def start : List (Nat × Nat) := [(0, 0), (1, 1)]
/-- a diagram in its canonical form -/
def canon (ns : List BN) (k : Nat) : List BN × Nat := ((wr ns (k + 1) k start []).2.2, (wr ns (k + 1) k start []).1)

/-- two walks that have met the same functions -/
structure Pairs (ns ns' : List BN) (a a' : List (Nat × Nat)) : Prop where
  same : ∀ k k', k < ns.length + 2 → k' < ns'.length + 2 → (∀ s, sem ns k s = sem ns' k' s) → look a k = look a' k'
  zero : look a 0 = some 0
  one : look a 1 = some 1
theorem Pairs.start {L : Nat} {ns ns' : List BN} (ok : OkD L ns) (ok' : OkD L ns') : Pairs ns ns' start start := by
  refine ⟨fun k k' hk hk' e => ?_, rfl, rfl⟩
  rcases cross ok ok' hk hk' e with ⟨_, rfl⟩ | ⟨i, i', _, _, _, _, _, rfl, rfl, _⟩
  · rfl
  · simp [Go.Proofs.Ytgenpcokpodhkaa.start, look]

theorem wr_sim {L : Nat} {ns ns' : List BN} (ok : OkD L ns) (ok' : OkD L ns') : ∀ (n k k' f f' : Nat) (a a' : List (Nat × Nat)) (out : List BN), k ≤ n → k < f → k' < f' → k < ns.length + 2 → k' < ns'.length + 2 → (∀ s, sem ns k s = sem ns' k' s) → Pairs ns ns' a a' →
    ∃ m a1 a1' out1, wr ns f k a out = (m, a1, out1) ∧ wr ns' f' k' a' out = (m, a1', out1) ∧ Pairs ns ns' a1 a1' := by
  intro n
  induction n with
  | zero =>
    intro k k' f f' a a' out hk hf hf' hlt hlt' e hp
    obtain rfl : k = 0 := by omega
    obtain ⟨f, rfl⟩ : ∃ g, f = g + 1 := ⟨f - 1, by omega⟩
    obtain ⟨f', rfl⟩ : ∃ g, f' = g + 1 := ⟨f' - 1, by omega⟩
    have h0 := hp.same 0 k' hlt hlt' e
    rw [hp.zero] at h0
    exact ⟨0, a, a', out, wr_known out hp.zero, wr_known out h0.symm, hp⟩
  | succ n ih =>
    intro k k' f f' a a' out hk hf hf' hlt hlt' e hp
    obtain ⟨f, rfl⟩ : ∃ g, f = g + 1 := ⟨f - 1, by omega⟩
    obtain ⟨f', rfl⟩ : ∃ g, f' = g + 1 := ⟨f' - 1, by omega⟩
    have h0 := hp.same k k' hlt hlt' e
    cases hl : look a k with
    | some to =>
      rw [hl] at h0
      exact ⟨to, a, a', out, wr_known out hl, wr_known out h0.symm, hp⟩
    | none =>
      rw [hl] at h0
      rcases cross ok ok' hlt hlt' e with ⟨h2, _⟩ | ⟨i, i', v, l, h, l', h', rfl, rfl, hn, hn', el, eh⟩
      · rcases (show k = 0 ∨ k = 1 by omega) with rfl | rfl
        · rw [hp.zero] at hl; cases hl
        · rw [hp.one] at hl; cases hl
      · obtain ⟨_, b1, b2, _⟩ := ok.node i v l h hn
        obtain ⟨_, c1, c2, _⟩ := ok'.node i' v l' h' hn'
        obtain ⟨m1, a1, a1', o1, w1, w1', p1⟩ := ih l l' f f' a a' out (by omega) (by omega) (by omega) (by omega) (by omega) el hp
        obtain ⟨m2, a2, a2', o2, w2, w2', p2⟩ := ih h h' f f' a1 a1' o1 (by omega) (by omega) (by omega) (by omega) (by omega) eh p1
        refine ⟨o2.length + 2, _, _, _, wr_new out hl hn w1 w2, wr_new out h0.symm hn' w1' w2', ⟨fun j j' hj hj' ej => ?_, ?_, ?_⟩⟩
        · by_cases hji : i + 2 = j
          · subst hji
            have : i' + 2 = j' := sem_eq ok' hlt' hj' (fun s => by rw [← e, ej])
            subst this
            rw [look_same, look_same]
          · have : i' + 2 ≠ j' := fun h => hji (sem_eq ok hlt hj (fun s => by rw [e, ej, h]))
            rw [look_other _ _ hji, look_other _ _ this]
            exact p2.same j j' hj hj' ej
        · rw [look_other _ _ (by omega)]; exact p2.zero
        · rw [look_other _ _ (by omega)]; exact p2.one
/-- equal meaning, equal text -/
theorem canon_eq {L : Nat} {ns ns' : List BN} (ok : OkD L ns) (ok' : OkD L ns') {k k' : Nat} (hk : k < ns.length + 2) (hk' : k' < ns'.length + 2) (e : ∀ s, sem ns k s = sem ns' k' s) : canon ns k = canon ns' k' := by
  obtain ⟨m, a1, a1', o, w, w', _⟩ := wr_sim ok ok' k k k' (k + 1) (k' + 1) start start [] (Nat.le_refl _) (by omega) (by omega) hk hk' e (Pairs.start ok ok')
  unfold canon
  rw [w, w']

/-! ### tables of values -/
/-- set number i of the variables from lv to L - 1 -/
def bits (L lv i : Nat) : Nat → Bool := fun v => decide (lv ≤ v ∧ v < L) && ((i >>> (L - 1 - v)) % 2 == 1)
/-- vals is the table of node k over the variables from lv on -/
structure Tab (L lv : Nat) (ns : List BN) (k : Nat) (vals : List Bool) : Prop where
  le : lv ≤ L
  len : vals.length = 2 ^ (L - lv)
  low : lv ≤ lvl L ns k
  val : ∀ i, i < vals.length → vals[i]? = some (sem ns k (bits L lv i))

theorem bits_low {L lv i : Nat} (hlv : lv < L) (hi : i < 2 ^ (L - lv - 1)) : ∀ v, lv ≤ v → bits L lv i v = setV (bits L (lv + 1) i) lv false v := by
  intro v hv
  by_cases h : v = lv
  · subst h
    rw [setV_same]
    unfold bits
    rw [Nat.shiftRight_eq_div_pow, Nat.div_eq_of_lt (by rwa [show L - 1 - v = L - v - 1 from by omega])]
    simp
  · rw [setV_other _ _ h]
    unfold bits
    rw [show decide (lv ≤ v ∧ v < L) = decide (lv + 1 ≤ v ∧ v < L) from by congr 1; apply propext; omega]
theorem bits_high {L lv i : Nat} (hlv : lv < L) (hi : i < 2 ^ (L - lv - 1)) : ∀ v, lv ≤ v → bits L lv (2 ^ (L - lv - 1) + i) v = setV (bits L (lv + 1) i) lv true v := by
  intro v hv
  by_cases h : v = lv
  · subst h
    rw [setV_same]
    unfold bits
    rw [Nat.shiftRight_eq_div_pow, show L - 1 - v = L - v - 1 from by omega, Nat.add_div_left _ (Nat.two_pow_pos _), Nat.div_eq_of_lt hi]
    simp [hlv]
  · rw [setV_other _ _ h]
    unfold bits
    rw [show decide (lv ≤ v ∧ v < L) = decide (lv + 1 ≤ v ∧ v < L) from by congr 1; apply propext; omega]
    by_cases hvL : v < L
    · congr 2
      rw [Nat.shiftRight_eq_div_pow, Nat.shiftRight_eq_div_pow]
      have e : 2 ^ (L - lv - 1) = 2 ^ (L - 1 - v) * (2 * 2 ^ (v - lv - 1)) := by
        rw [← Nat.pow_succ', ← Nat.pow_add]
        congr 1
        omega
      rw [e, Nat.add_comm, Nat.add_mul_div_left _ _ (Nat.two_pow_pos _), Nat.add_mul_mod_self_left]
    · have : decide (lv + 1 ≤ v ∧ v < L) = false := decide_eq_false (by omega)
      rw [this]
      rfl
/-- every assignment is a number, as far as the variables from lv on go -/
theorem bits_all (L : Nat) (s : Nat → Bool) : ∀ d lv, lv + d = L → ∃ i, i < 2 ^ d ∧ ∀ v, lv ≤ v → v < L → bits L lv i v = s v := by
  intro d
  induction d with
  | zero => intro lv h; exact ⟨0, by simp, fun v h1 h2 => by omega⟩
  | succ d ih =>
    intro lv h
    obtain ⟨i, hi, hv⟩ := ih (lv + 1) (by omega)
    have hi' : i < 2 ^ (L - lv - 1) := by rwa [show L - lv - 1 = d from by omega]
    have hd : 2 ^ (L - lv - 1) = 2 ^ d := by rw [show L - lv - 1 = d from by omega]
    cases hs : s lv with
    | false =>
      refine ⟨i, by rw [Nat.pow_succ]; omega, fun v h1 h2 => ?_⟩
      rw [bits_low (by omega) hi' v h1]
      by_cases hvl : v = lv
      · rw [hvl, setV_same, hs]
      · rw [setV_other _ _ hvl]; exact hv v (by omega) h2
    | true =>
      refine ⟨2 ^ (L - lv - 1) + i, by rw [hd, Nat.pow_succ]; omega, fun v h1 h2 => ?_⟩
      rw [bits_high (by omega) hi' v h1]
      by_cases hvl : v = lv
      · rw [hvl, setV_same, hs]
      · rw [setV_other _ _ hvl]; exact hv v (by omega) h2

section
variable {L lv : Nat} {ns : List BN} {k : Nat} {vals : List Bool}
theorem sem_beyond (ok : OkD L ns) (hk : k < ns.length + 2) {s t : Nat → Bool} (h : ∀ v, lvl L ns k ≤ v → v < L → s v = t v) : sem ns k s = sem ns k t := by
  have key : ∀ (n j : Nat), j ≤ n → j < ns.length + 2 → lvl L ns k ≤ lvl L ns j → sem ns j s = sem ns j t := by
    intro n
    induction n with
    | zero =>
      intro j hj _ _
      obtain rfl : j = 0 := by omega
      rw [sem_zero, sem_zero]
    | succ n ih =>
      intro j hj hjl hl
      by_cases h2 : j < 2
      · rcases (show j = 0 ∨ j = 1 by omega) with rfl | rfl <;> simp [sem_zero, sem_one]
      · obtain ⟨i, v, l, h', rfl, hn⟩ := node_of (ns := ns) (by omega) hjl
        obtain ⟨h1, h3, h4, h5, h6, h7⟩ := ok.node i v l h' hn
        have hi : i < ns.length := (List.getElem?_eq_some_iff.1 hn).1
        rw [lvl_node hn] at hl
        rw [sem_node ok hn, sem_node ok hn, h v hl h1, ih h' (by omega) (by omega) (by omega), ih l (by omega) (by omega) (by omega)]
  exact key k k (Nat.le_refl _) hk (Nat.le_refl _)

theorem Tab.half (ok : OkD L ns) (hk : k < ns.length + 2) (ht : Tab L lv ns k vals) (hlv : lv < L) :
    vals.length / 2 = 2 ^ (L - lv - 1) ∧ vals.length = 2 ^ (L - lv - 1) + 2 ^ (L - lv - 1) ∧
    (∀ i, i < 2 ^ (L - lv - 1) → (vals.take (vals.length / 2))[i]? = some (sem ns k (setV (bits L (lv + 1) i) lv false))) ∧
    (∀ i, i < 2 ^ (L - lv - 1) → (vals.drop (vals.length / 2))[i]? = some (sem ns k (setV (bits L (lv + 1) i) lv true))) := by
  have e : vals.length = 2 ^ (L - lv - 1) + 2 ^ (L - lv - 1) := by
    rw [ht.len, show L - lv = (L - lv - 1) + 1 from by omega, Nat.pow_succ]
    simp
    omega
  have e2 : vals.length / 2 = 2 ^ (L - lv - 1) := by omega
  refine ⟨e2, e, fun i hi => ?_, fun i hi => ?_⟩
  · rw [e2, List.getElem?_take_of_lt hi, ht.val i (by omega)]
    congr 1
    exact sem_dep ok k k (Nat.le_refl _) hk _ _ (fun v hv => bits_low hlv hi v (by have := ht.low; omega))
  · rw [e2, List.getElem?_drop, ht.val _ (by omega)]
    congr 1
    exact sem_dep ok k k (Nat.le_refl _) hk _ _ (fun v hv => bits_high hlv hi v (by have := ht.low; omega))
theorem half_eq {n : Nat} {a b : List Bool} (ha : a.length = n) (hb : b.length = n) (h : ∀ i, i < n → a[i]? = b[i]?) : a = b := by
  apply List.ext_getElem?
  intro i
  by_cases hi : i < n
  · exact h i hi
  · rw [List.getElem?_eq_none (by omega), List.getElem?_eq_none (by omega)]
/-- the halves are equal just if the node does not look at the variable -/
theorem Tab.flat (ok : OkD L ns) (hk : k < ns.length + 2) (ht : Tab L lv ns k vals) (hlv : lv < L) : (vals.take (vals.length / 2) = vals.drop (vals.length / 2)) ↔ lv < lvl L ns k := by
  obtain ⟨e1, e2, h1, h2⟩ := ht.half ok hk hlv
  have l1 : (vals.take (vals.length / 2)).length = 2 ^ (L - lv - 1) := by rw [List.length_take]; omega
  have l2 : (vals.drop (vals.length / 2)).length = 2 ^ (L - lv - 1) := by rw [List.length_drop]; omega
  constructor
  · intro he
    apply Classical.byContradiction
    intro hno
    have hl : lvl L ns k = lv := by have := ht.low; omega
    have hk2 : ¬ k < 2 := fun h => by rw [lvl_small ns h] at hl; omega
    obtain ⟨i, v, l, h, rfl, hn⟩ := node_of (ns := ns) (by omega) hk
    rw [lvl_node hn] at hl
    subst hl
    obtain ⟨s, hs⟩ := sem_looks ok hn
    obtain ⟨j, hj, hjs⟩ := bits_all L s (L - v - 1) (v + 1) (by omega)
    have g1 := h1 j hj
    have g2 := h2 j hj
    rw [he] at g1
    have := Option.some.inj (g1.symm.trans g2)
    refine hs ?_
    have conv : ∀ b, sem ns (i + 2) (setV s v b) = sem ns (i + 2) (setV (bits L (v + 1) j) v b) := fun b => by
      refine sem_beyond ok hk (fun u hu hu' => ?_)
      by_cases huv : u = v
      · rw [huv, setV_same, setV_same]
      · rw [lvl_node hn] at hu
        rw [setV_other _ _ huv, setV_other _ _ huv, hjs u (by omega) hu']
    rw [conv, conv, this]
  · intro hl
    refine half_eq l1 l2 (fun i hi => ?_)
    rw [h1 i hi, h2 i hi]
    congr 1
    exact sem_dep ok k k (Nat.le_refl _) hk _ _ (fun v hv => by rw [setV_other _ _ (by omega), setV_other _ _ (by omega)])
theorem Tab.skip (ok : OkD L ns) (hk : k < ns.length + 2) (ht : Tab L lv ns k vals) (hlv : lv < L) (hl : lv < lvl L ns k) : Tab L (lv + 1) ns k (vals.take (vals.length / 2)) := by
  obtain ⟨e1, e2, h1, _⟩ := ht.half ok hk hlv
  have l1 : (vals.take (vals.length / 2)).length = 2 ^ (L - lv - 1) := by rw [List.length_take]; omega
  refine ⟨by omega, by rw [l1]; congr 1, by omega, fun i hi => ?_⟩
  rw [h1 i (by omega)]
  congr 1
  exact sem_dep ok k k (Nat.le_refl _) hk _ _ (fun v hv => by rw [setV_other _ _ (by omega)])
theorem Tab.lo (ok : OkD L ns) {i l h : Nat} (hn : ns[i]? = some (lv, l, h)) (ht : Tab L lv ns (i + 2) vals) : Tab L (lv + 1) ns l (vals.take (vals.length / 2)) := by
  obtain ⟨a1, a2, a3, a4, a5, a6⟩ := ok.node i lv l h hn
  have hi : i < ns.length := (List.getElem?_eq_some_iff.1 hn).1
  obtain ⟨e1, e2, h1, _⟩ := ht.half ok (by omega) a1
  have l1 : (vals.take (vals.length / 2)).length = 2 ^ (L - lv - 1) := by rw [List.length_take]; omega
  refine ⟨by omega, by rw [l1]; congr 1, by omega, fun j hj => ?_⟩
  rw [h1 j (by omega), sem_low ok hn]
theorem Tab.hi (ok : OkD L ns) {i l h : Nat} (hn : ns[i]? = some (lv, l, h)) (ht : Tab L lv ns (i + 2) vals) : Tab L (lv + 1) ns h (vals.drop (vals.length / 2)) := by
  obtain ⟨a1, a2, a3, a4, a5, a6⟩ := ok.node i lv l h hn
  have hi : i < ns.length := (List.getElem?_eq_some_iff.1 hn).1
  obtain ⟨e1, e2, _, h2⟩ := ht.half ok (by omega) a1
  have l1 : (vals.drop (vals.length / 2)).length = 2 ^ (L - lv - 1) := by rw [List.length_drop]; omega
  refine ⟨by omega, by rw [l1]; congr 1, by omega, fun j hj => ?_⟩
  rw [h2 j (by omega), sem_high ok hn]
/-- equal tables, equal nodes -/
theorem Tab.inj (ok : OkD L ns) {k' : Nat} (hk : k < ns.length + 2) (hk' : k' < ns.length + 2) (ht : Tab L lv ns k vals) (ht' : Tab L lv ns k' vals) : k = k' := by
  refine sem_eq ok hk hk' (fun s => ?_)
  obtain ⟨j, hj, hjs⟩ := bits_all L s (L - lv) lv (by have := ht.le; omega)
  have h1 := ht.val j (by rw [ht.len]; exact hj)
  have h2 := ht'.val j (by rw [ht'.len]; exact hj)
  rw [sem_beyond ok hk (t := bits L lv j) (fun v hv hvL => (hjs v (by have := ht.low; omega) hvL).symm), sem_beyond ok hk' (t := bits L lv j) (fun v hv hvL => (hjs v (by have := ht'.low; omega) hvL).symm)]
  exact Option.some.inj (h1.symm.trans h2)
end

/-! ### the reference's folding -/
abbrev Part := Nat × List Bool × Nat
def findPart : List Part → Nat → List Bool → Option Nat
  | [], _, _ => none
  | p :: l, lv, vals => if p.1 = lv ∧ p.2.1 = vals then some p.2.2 else findPart l lv vals
theorem findPart_snoc (l : List Part) (p : Part) (lv : Nat) (vals : List Bool) : findPart (l ++ [p]) lv vals = match findPart l lv vals with
    | some m => some m
    | none => if p.1 = lv ∧ p.2.1 = vals then some p.2.2 else none := by
  induction l with
  | nil => simp [findPart]
  | cons q l ih =>
    simp only [List.cons_append, findPart]
    split
    · rfl
    · exact ih
def fold : Nat → List BN → Nat → List Bool → List Part → List BN × Nat × List Part
  | 0, out, _, _, known => (out, 0, known)
  | f + 1, out, lv, vals, known =>
    if vals.length = 1 then (out, if vals.headD false = true then 1 else 0, known)
    else if vals.take (vals.length / 2) = vals.drop (vals.length / 2) then fold f out (lv + 1) (vals.take (vals.length / 2)) known
    else match findPart known lv vals with
      | some k => (out, k, known)
      | none =>
        let a := fold f out (lv + 1) (vals.take (vals.length / 2)) known
        let b := fold f a.1 (lv + 1) (vals.drop (vals.length / 2)) a.2.2
        (b.1 ++ [(lv, a.2.1, b.2.1)], b.1.length + 2, b.2.2 ++ [(lv, vals, b.1.length + 2)])

/-- the parts and the walk's map know the same -/
structure Knows (L : Nat) (ns : List BN) (known : List Part) (a : List (Nat × Nat)) : Prop where
  same : ∀ lv k vals, k < ns.length + 2 → lv < L → lvl L ns k = lv → Tab L lv ns k vals → findPart known lv vals = look a k
  zero : look a 0 = some 0
  one : look a 1 = some 1

theorem fold_sim {L : Nat} {ns : List BN} (ok : OkD L ns) : ∀ (d lv : Nat) (k f f' : Nat) (vals : List Bool) (known : List Part) (a : List (Nat × Nat)) (out : List BN), lv + d = L → d < f → k < f' → k < ns.length + 2 → Tab L lv ns k vals → Knows L ns known a →
    ∃ m a1 known1 out1, fold f out lv vals known = (out1, m, known1) ∧ wr ns f' k a out = (m, a1, out1) ∧ Knows L ns known1 a1 ∧ (∀ j, lvl L ns j < lv → look a1 j = look a j) := by
  intro d
  induction d with
  | zero =>
    intro lv k f f' vals known a out hd hf hf' hk ht hkn
    obtain ⟨f, rfl⟩ : ∃ g, f = g + 1 := ⟨f - 1, by omega⟩
    obtain ⟨f', rfl⟩ : ∃ g, f' = g + 1 := ⟨f' - 1, by omega⟩
    have hlen : vals.length = 1 := by rw [ht.len, show L - lv = 0 from by omega]
    have hk2 : k < 2 := by
      rcases Nat.lt_or_ge k 2 with h | h
      · exact h
      · obtain ⟨i, v, l, h', rfl, hn⟩ := node_of (ns := ns) h hk
        have := (ok.node i v l h' hn).1
        have h2 := ht.low
        rw [lvl_node hn] at h2
        omega
    have hv := ht.val 0 (by omega)
    obtain ⟨x, rfl⟩ : ∃ x, vals = [x] := by
      match vals, hlen with
      | [x], _ => exact ⟨x, rfl⟩
    have hx : x = sem ns k (bits L lv 0) := by simpa using hv
    have hl : look a k = some (if x = true then 1 else 0) := by
      rcases (show k = 0 ∨ k = 1 by omega) with rfl | rfl
      · rw [hx, sem_zero, hkn.zero]; rfl
      · rw [hx, sem_one, hkn.one]; rfl
    refine ⟨_, a, known, out, ?_, wr_known out hl, hkn, fun _ _ => rfl⟩
    rw [fold, if_pos hlen]
    rfl
  | succ d ih =>
    intro lv k f f' vals known a out hd hf hf' hk ht hkn
    obtain ⟨f, rfl⟩ : ∃ g, f = g + 1 := ⟨f - 1, by omega⟩
    have hlv : lv < L := by omega
    obtain ⟨e1, e2, _, _⟩ := ht.half ok hk hlv
    have hpos : 0 < 2 ^ (L - lv - 1) := Nat.two_pow_pos _
    rw [fold, if_neg (by omega)]
    by_cases hflat : vals.take (vals.length / 2) = vals.drop (vals.length / 2)
    · rw [if_pos hflat]
      have hl := (ht.flat ok hk hlv).1 hflat
      obtain ⟨m, a1, known1, out1, h1, h2, h3, h4⟩ := ih (lv + 1) k f f' _ known a out (by omega) (by omega) hf' hk (ht.skip ok hk hlv hl) hkn
      exact ⟨m, a1, known1, out1, h1, h2, h3, fun j hj => h4 j (by omega)⟩
    · rw [if_neg hflat]
      have hl : lvl L ns k = lv := by
        have h1 := ht.low
        have h2 : ¬ lv < lvl L ns k := fun h => hflat ((ht.flat ok hk hlv).2 h)
        omega
      have hk2 : ¬ k < 2 := fun h => by rw [lvl_small ns h] at hl; omega
      obtain ⟨f', rfl⟩ : ∃ g, f' = g + 1 := ⟨f' - 1, by omega⟩
      have hfind := hkn.same lv k vals hk hlv hl ht
      cases hfp : findPart known lv vals with
      | some m =>
        rw [hfp] at hfind
        exact ⟨m, a, known, out, rfl, wr_known out hfind.symm, hkn, fun _ _ => rfl⟩
      | none =>
        rw [hfp] at hfind
        obtain ⟨i, v, l, h, rfl, hn⟩ := node_of (ns := ns) (by omega) hk
        rw [lvl_node hn] at hl
        subst hl
        obtain ⟨b1, b2, b3, b4, b5, b6⟩ := ok.node i v l h hn
        have hi : i < ns.length := (List.getElem?_eq_some_iff.1 hn).1
        obtain ⟨m1, a1, k1, o1, g1, w1, q1, r1⟩ := ih (v + 1) l f f' _ known a out (by omega) (by omega) (by omega) (by omega) (ht.lo ok hn) hkn
        obtain ⟨m2, a2, k2, o2, g2, w2, q2, r2⟩ := ih (v + 1) h f f' _ k1 a1 o1 (by omega) (by omega) (by omega) (by omega) (ht.hi ok hn) q1
        refine ⟨o2.length + 2, (i + 2, o2.length + 2) :: a2, k2 ++ [(v, vals, o2.length + 2)], o2 ++ [(v, m1, m2)], ?_, wr_new out hfind.symm hn w1 w2, ⟨fun lv' j vals' hj hlv' hlj htj => ?_, ?_, ?_⟩, fun j hj => ?_⟩
        · simp only [g1, g2]
        · rw [findPart_snoc]
          by_cases hji : i + 2 = j
          · subst hji
            rw [lvl_node hn] at hlj
            subst hlj
            have hnone : findPart k2 v vals' = none := by
              rw [q2.same v (i + 2) vals' hj hlv' (lvl_node hn) htj, r2 _ (by rw [lvl_node hn]; omega), r1 _ (by rw [lvl_node hn]; omega), ← hfind]
            have hvals : vals = vals' := by
              apply List.ext_getElem?
              intro j
              by_cases hjl : j < vals.length
              · rw [ht.val j hjl, htj.val j (by rw [htj.len, ← ht.len]; exact hjl)]
              · rw [List.getElem?_eq_none (by omega), List.getElem?_eq_none (by rw [htj.len, ← ht.len]; omega)]
            rw [hnone, look_same]
            simp [hvals]
          · have hne : ¬ (v = lv' ∧ vals = vals') := by
              rintro ⟨rfl, rfl⟩
              exact hji (Tab.inj ok hk hj ht htj)
            rw [q2.same lv' j vals' hj hlv' hlj htj, look_other _ _ hji]
            cases look a2 j with
            | some x => rfl
            | none => simp only [if_neg hne]
        · rw [look_other _ _ (by omega)]; exact q2.zero
        · rw [look_other _ _ (by omega)]; exact q2.one
        · have hji : i + 2 ≠ j := fun h => by rw [← h, lvl_node hn] at hj; omega
          rw [look_other _ _ hji, r2 j (by omega), r1 j (by omega)]
def canonical (L : Nat) (vals : List Bool) : List BN × Nat := ((fold (L + 1) [] 0 vals []).1, (fold (L + 1) [] 0 vals []).2.1)
theorem canonical_eq {L : Nat} {ns : List BN} (ok : OkD L ns) {k : Nat} (hk : k < ns.length + 2) {vals : List Bool} (ht : Tab L 0 ns k vals) : canonical L vals = canon ns k := by
  have hkn : Knows L ns [] start := by
    refine ⟨fun lv j vals' hj hlv hlj htj => ?_, rfl, rfl⟩
    have h2 : ¬ j < 2 := fun h => by rw [lvl_small ns h] at hlj; omega
    have h0 : ¬ 0 = j := by omega
    have h1 : ¬ 1 = j := by omega
    simp [findPart, start, look, h0, h1]
  obtain ⟨m, a1, known1, out1, h1, h2, _⟩ := fold_sim ok L 0 k (L + 1) (k + 1) vals [] start [] (by omega) (by omega) (by omega) hk ht hkn
  unfold canonical canon
  rw [h1, h2]
end Go.Proofs.Ytgenpcokpodhkaa
