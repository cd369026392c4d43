/- Decision diagrams in plain Lean: what a node means; equal meaning, equal node; one canonical text for each function. One canonical text: the walk that writes a diagram, and the reference's folding of a table of values, agree wherever the meaning agrees. The canonical text of a diagram is a diagram of the same meaning; what a walk completes, and when a text is its own canonical text. -/
import Init
namespace Go.Proofs.Ytgenpcokpodhkaa

/-- a node: level, low, high -/
abbrev BN := Nat × Nat × Nat

/-- what node number k of a list of nodes means for an assignment -/
def sem (ns : List BN) (k : Nat) (s : Nat → Bool) : Bool :=
  if k < 2 then k == 1 else
    match ns[k - 2]? with
    | none => false
    | some n => if _h : n.2.1 < k ∧ n.2.2 < k then (if s n.1 = true then sem ns n.2.2 s else sem ns n.2.1 s) else false
termination_by k
decreasing_by
  · exact _h.2
  · exact _h.1

def lvl (L : Nat) (ns : List BN) (k : Nat) : Nat := if k < 2 then L else (ns[k - 2]?.map (·.1)).getD L

/-- the nodes are ordered and reduced -/
structure OkD (L : Nat) (ns : List BN) : Prop where
  node : ∀ (i : Nat) (v l h : Nat), ns[i]? = some (v, l, h) → v < L ∧ l < i + 2 ∧ h < i + 2 ∧ l ≠ h ∧ v < lvl L ns l ∧ v < lvl L ns h
  one : ∀ (i j : Nat) (n : BN), ns[i]? = some n → ns[j]? = some n → i = j

theorem sem_zero (ns : List BN) (s : Nat → Bool) : sem ns 0 s = false := by rw [sem]; rfl
theorem sem_one (ns : List BN) (s : Nat → Bool) : sem ns 1 s = true := by rw [sem]; rfl
theorem lvl_small {L k : Nat} (ns : List BN) (h : k < 2) : lvl L ns k = L := by rw [lvl, if_pos h]
theorem lvl_node {L i v l h : Nat} {ns : List BN} (hn : ns[i]? = some (v, l, h)) : lvl L ns (i + 2) = v := by
  rw [lvl, if_neg (by omega), Nat.add_sub_cancel, hn]
  rfl

section
variable {L : Nat} {ns : List BN}
theorem sem_node (ok : OkD L ns) {i v l h : Nat} (hn : ns[i]? = some (v, l, h)) (s : Nat → Bool) : sem ns (i + 2) s = if s v = true then sem ns h s else sem ns l s := by
  obtain ⟨_, h1, h2, _⟩ := ok.node i v l h hn
  rw [sem, if_neg (by omega)]
  simp only [Nat.add_sub_cancel, hn]
  rw [dif_pos ⟨h1, h2⟩]
theorem lvl_le (ok : OkD L ns) (k : Nat) : lvl L ns k ≤ L := by
  unfold lvl
  split
  · exact Nat.le_refl _
  · cases hn : ns[k - 2]? with
    | none => simp
    | some n =>
      obtain ⟨v, l, h⟩ := n
      have := (ok.node _ v l h hn).1
      simp
      omega
theorem node_of {k : Nat} (hk : 2 ≤ k) (hlt : k < ns.length + 2) : ∃ i v l h, k = i + 2 ∧ ns[i]? = some (v, l, h) := by
  have h1 : k - 2 < ns.length := by omega
  exact ⟨k - 2, ns[k - 2].1, ns[k - 2].2.1, ns[k - 2].2.2, by omega, List.getElem?_eq_getElem h1⟩
/-- a node looks at the variables from its level on alone -/
theorem sem_dep (ok : OkD L ns) : ∀ (n k : Nat), k ≤ n → k < ns.length + 2 → ∀ (s t : Nat → Bool), (∀ v, lvl L ns k ≤ v → s v = t v) → sem ns k s = sem ns k t := by
  intro n
  induction n with
  | zero =>
    intro k hk _ s t _
    obtain rfl : k = 0 := by omega
    rw [sem_zero, sem_zero]
  | succ n ih =>
    intro k hk hlt s t hst
    by_cases h2 : k < 2
    · rcases (show k = 0 ∨ k = 1 by omega) with rfl | rfl
      · rw [sem_zero, sem_zero]
      · rw [sem_one, sem_one]
    · obtain ⟨i, v, l, h, rfl, hn⟩ := node_of (ns := ns) (by omega) hlt
      obtain ⟨h1, h3, h4, h5, h6, h7⟩ := ok.node i v l h hn
      have hi : i < ns.length := (List.getElem?_eq_some_iff.1 hn).1
      rw [lvl_node hn] at hst
      rw [sem_node ok hn, sem_node ok hn, hst v (Nat.le_refl _), ih h (by omega) (by omega) s t (fun u hu => hst u (by omega)), ih l (by omega) (by omega) s t (fun u hu => hst u (by omega))]

/-- the assignment with variable v set -/
def setV (s : Nat → Bool) (v : Nat) (b : Bool) : Nat → Bool := fun u => if u = v then b else s u
theorem setV_same (s : Nat → Bool) (v : Nat) (b : Bool) : setV s v b v = b := by simp [setV]
theorem setV_other (s : Nat → Bool) {u v : Nat} (b : Bool) (h : u ≠ v) : setV s v b u = s u := by simp [setV, h]
theorem sem_low (ok : OkD L ns) {i v l h : Nat} (hn : ns[i]? = some (v, l, h)) (s : Nat → Bool) : sem ns (i + 2) (setV s v false) = sem ns l s := by
  obtain ⟨_, h3, _, _, h6, _⟩ := ok.node i v l h hn
  have hi : i < ns.length := (List.getElem?_eq_some_iff.1 hn).1
  rw [sem_node ok hn, setV_same, if_neg (by simp)]
  exact sem_dep ok l l (Nat.le_refl _) (by omega) _ _ (fun u hu => setV_other _ _ (by omega))
theorem sem_high (ok : OkD L ns) {i v l h : Nat} (hn : ns[i]? = some (v, l, h)) (s : Nat → Bool) : sem ns (i + 2) (setV s v true) = sem ns h s := by
  obtain ⟨_, _, h3, _, _, h6⟩ := ok.node i v l h hn
  have hi : i < ns.length := (List.getElem?_eq_some_iff.1 hn).1
  rw [sem_node ok hn, setV_same, if_pos rfl]
  exact sem_dep ok h h (Nat.le_refl _) (by omega) _ _ (fun u hu => setV_other _ _ (by omega))

/-- equal meaning, equal node -/
theorem sem_inj (ok : OkD L ns) : ∀ (n k k' : Nat), k ≤ n → k' ≤ n → k < ns.length + 2 → k' < ns.length + 2 → (∀ s, sem ns k s = sem ns k' s) → k = k' := by
  intro n
  induction n with
  | zero => intro k k' h h' _ _ _; omega
  | succ n ih =>
    intro k k' hk hk' hlt hlt' e
    -- a node whose variable the other does not look at
    have indep : ∀ (a b : Nat), a ≤ n + 1 → a < ns.length + 2 → b < ns.length + 2 → 2 ≤ a → lvl L ns a < lvl L ns b → (∀ s, sem ns a s = sem ns b s) → False := by
      intro a b ha halt hblt ha2 hlv hab
      obtain ⟨i, v, l, h, rfl, hn⟩ := node_of (ns := ns) ha2 halt
      obtain ⟨h1, h3, h4, h5, h6, h7⟩ := ok.node i v l h hn
      have hi : i < ns.length := (List.getElem?_eq_some_iff.1 hn).1
      rw [lvl_node hn] at hlv
      refine h5 (ih l h (by omega) (by omega) (by omega) (by omega) (fun s => ?_))
      rw [← sem_low ok hn s, ← sem_high ok hn s, hab, hab]
      exact sem_dep ok b b (Nat.le_refl _) hblt _ _ (fun u hu => by rw [setV_other _ _ (by omega), setV_other _ _ (by omega)])
    have e' : ∀ s, sem ns k' s = sem ns k s := fun s => (e s).symm
    rcases Nat.lt_trichotomy (lvl L ns k) (lvl L ns k') with hl | hl | hl
    · have : 2 ≤ k := by
        rcases Nat.lt_or_ge k 2 with h2 | h2
        · rw [lvl_small ns h2] at hl
          have := lvl_le ok k'
          omega
        · exact h2
      exact (indep k k' hk hlt hlt' this hl e).elim
    · by_cases h2 : k < 2
      · by_cases h2' : k' < 2
        · rcases (show k = 0 ∨ k = 1 by omega) with rfl | rfl <;> rcases (show k' = 0 ∨ k' = 1 by omega) with rfl | rfl
          · rfl
          · have := e (fun _ => false)
            rw [sem_zero, sem_one] at this
            cases this
          · have := e (fun _ => false)
            rw [sem_zero, sem_one] at this
            cases this
          · rfl
        · obtain ⟨i', v', l', h', rfl, hn'⟩ := node_of (ns := ns) (by omega) hlt'
          have := (ok.node i' v' l' h' hn').1
          rw [lvl_small ns h2, lvl_node hn'] at hl
          omega
      · by_cases h2' : k' < 2
        · obtain ⟨i, v, l, h, rfl, hn⟩ := node_of (ns := ns) (by omega) hlt
          have := (ok.node i v l h hn).1
          rw [lvl_small ns h2', lvl_node hn] at hl
          omega
        · obtain ⟨i, v, l, h, rfl, hn⟩ := node_of (ns := ns) (by omega) hlt
          obtain ⟨i', v', l', h', rfl, hn'⟩ := node_of (ns := ns) (by omega) hlt'
          obtain ⟨h1, h3, h4, h5, h6, h7⟩ := ok.node i v l h hn
          obtain ⟨h1', h3', h4', h5', h6', h7'⟩ := ok.node i' v' l' h' hn'
          have hi : i < ns.length := (List.getElem?_eq_some_iff.1 hn).1
          have hi' : i' < ns.length := (List.getElem?_eq_some_iff.1 hn').1
          rw [lvl_node hn, lvl_node hn'] at hl
          subst hl
          obtain rfl : l = l' := ih l l' (by omega) (by omega) (by omega) (by omega) (fun s => by rw [← sem_low ok hn s, ← sem_low ok hn' s, e])
          obtain rfl : h = h' := ih h h' (by omega) (by omega) (by omega) (by omega) (fun s => by rw [← sem_high ok hn s, ← sem_high ok hn' s, e])
          have := ok.one i i' _ hn hn'
          omega
    · have : 2 ≤ k' := by
        rcases Nat.lt_or_ge k' 2 with h2 | h2
        · rw [lvl_small ns h2] at hl
          have := lvl_le ok k
          omega
        · exact h2
      exact (indep k' k hk' hlt' hlt this hl e').elim
theorem sem_eq (ok : OkD L ns) {k k' : Nat} (h : k < ns.length + 2) (h' : k' < ns.length + 2) (e : ∀ s, sem ns k s = sem ns k' s) : k = k' :=
  sem_inj ok (max k k') k k' (Nat.le_max_left _ _) (Nat.le_max_right _ _) h h' e

/-- a node looks at its own variable -/
theorem sem_looks (ok : OkD L ns) {i v l h : Nat} (hn : ns[i]? = some (v, l, h)) : ∃ s, sem ns (i + 2) (setV s v false) ≠ sem ns (i + 2) (setV s v true) := by
  obtain ⟨_, h3, h4, h5, _, _⟩ := ok.node i v l h hn
  have hi : i < ns.length := (List.getElem?_eq_some_iff.1 hn).1
  apply Classical.byContradiction
  intro hno
  refine h5 (sem_eq ok (by omega) (by omega) (fun s => ?_))
  rw [← sem_low ok hn s, ← sem_high ok hn s]
  apply Classical.byContradiction
  exact fun hne => hno ⟨s, hne⟩
end

/-- nodes of equal meaning in two lists -/
theorem cross {L : Nat} {ns ns' : List BN} (ok : OkD L ns) (ok' : OkD L ns') {k k' : Nat} (hk : k < ns.length + 2) (hk' : k' < ns'.length + 2) (e : ∀ s, sem ns k s = sem ns' k' s) :
    (k < 2 ∧ k' = k) ∨ ∃ i i' v l h l' h', k = i + 2 ∧ k' = i' + 2 ∧ ns[i]? = some (v, l, h) ∧ ns'[i']? = some (v, l', h') ∧ (∀ s, sem ns l s = sem ns' l' s) ∧ ∀ s, sem ns h s = sem ns' h' s := by
  by_cases h2 : k < 2 <;> by_cases h2' : k' < 2
  · left
    refine ⟨h2, ?_⟩
    have := e (fun _ => false)
    rcases (show k = 0 ∨ k = 1 by omega) with rfl | rfl <;> rcases (show k' = 0 ∨ k' = 1 by omega) with rfl | rfl <;> simp [sem_zero, sem_one] at this ⊢
  · exfalso
    obtain ⟨i', v', l', h', rfl, hn'⟩ := node_of (ns := ns') (by omega) hk'
    obtain ⟨s, hs⟩ := sem_looks ok' hn'
    refine hs ?_
    rw [← e, ← e]
    rcases (show k = 0 ∨ k = 1 by omega) with rfl | rfl <;> simp [sem_zero, sem_one]
  · exfalso
    obtain ⟨i, v, l, h, rfl, hn⟩ := node_of (ns := ns) (by omega) hk
    obtain ⟨s, hs⟩ := sem_looks ok hn
    refine hs ?_
    rw [e, e]
    rcases (show k' = 0 ∨ k' = 1 by omega) with rfl | rfl <;> simp [sem_zero, sem_one]
  · right
    obtain ⟨i, v, l, h, rfl, hn⟩ := node_of (ns := ns) (by omega) hk
    obtain ⟨i', v', l', h', rfl, hn'⟩ := node_of (ns := ns') (by omega) hk'
    have hv : v = v' := by
      rcases Nat.lt_trichotomy v v' with hl | hl | hl
      · exfalso
        obtain ⟨s, hs⟩ := sem_looks ok hn
        refine hs ?_
        rw [e, e]
        exact sem_dep ok' _ _ (Nat.le_refl _) hk' _ _ (fun u hu => by rw [lvl_node hn'] at hu; rw [setV_other _ _ (by omega), setV_other _ _ (by omega)])
      · exact hl
      · exfalso
        obtain ⟨s, hs⟩ := sem_looks ok' hn'
        refine hs ?_
        rw [← e, ← e]
        exact sem_dep ok _ _ (Nat.le_refl _) hk _ _ (fun u hu => by rw [lvl_node hn] at hu; rw [setV_other _ _ (by omega), setV_other _ _ (by omega)])
    subst hv
    exact ⟨i, i', v, l, h, l', h', rfl, rfl, hn, hn', fun s => by rw [← sem_low ok hn s, ← sem_low ok' hn' s, e], fun s => by rw [← sem_high ok hn s, ← sem_high ok' hn' s, e]⟩

/-! ### more nodes behind the old ones -/
theorem sem_more {L : Nat} {ns : List BN} (ok : OkD L ns) (ms : List BN) : ∀ (n k : Nat), k ≤ n → k < ns.length + 2 → ∀ s, sem (ns ++ ms) k s = sem ns k s := by
  intro n
  induction n with
  | zero =>
    intro k hk _ s
    obtain rfl : k = 0 := by omega
    rw [sem_zero, sem_zero]
  | succ n ih =>
    intro k hk hlt s
    by_cases h2 : k < 2
    · rcases (show k = 0 ∨ k = 1 by omega) with rfl | rfl
      · rw [sem_zero, sem_zero]
      · rw [sem_one, sem_one]
    · obtain ⟨i, v, l, h, rfl, hn⟩ := node_of (ns := ns) (by omega) hlt
      obtain ⟨_, h3, h4, _⟩ := ok.node i v l h hn
      have hi : i < ns.length := (List.getElem?_eq_some_iff.1 hn).1
      rw [sem_node ok hn, sem, if_neg (by omega)]
      simp only [Nat.add_sub_cancel]
      rw [List.getElem?_append_left hi, hn]
      simp only
      rw [dif_pos ⟨h3, h4⟩, ih h (by omega) (by omega), ih l (by omega) (by omega)]
theorem sem_add {L : Nat} {ns : List BN} (ok : OkD L ns) (ms : List BN) {k : Nat} (hk : k < ns.length + 2) (s : Nat → Bool) : sem (ns ++ ms) k s = sem ns k s := sem_more ok ms k k (Nat.le_refl _) hk s
theorem lvl_add {L : Nat} {ns : List BN} (ms : List BN) {k : Nat} (hk : k < ns.length + 2) : lvl L (ns ++ ms) k = lvl L ns k := by
  unfold lvl
  split
  · rfl
  · rw [List.getElem?_append_left (by omega)]
/-- a new node behind the old ones -/
theorem OkD.push {L : Nat} {ns : List BN} (ok : OkD L ns) {v l h : Nat} (hv : v < L) (hl : l < ns.length + 2) (hh : h < ns.length + 2) (hne : l ≠ h) (h1 : v < lvl L ns l) (h2 : v < lvl L ns h) (hnew : (v, l, h) ∉ ns) : OkD L (ns ++ [(v, l, h)]) := by
  have hold : ∀ i n, (ns ++ [(v, l, h)])[i]? = some n → (i < ns.length ∧ ns[i]? = some n) ∨ (i = ns.length ∧ n = (v, l, h)) := by
    intro i n hi
    by_cases hlt : i < ns.length
    · rw [List.getElem?_append_left hlt] at hi
      exact .inl ⟨hlt, hi⟩
    · rw [List.getElem?_append_right (by omega)] at hi
      have h0 : i - ns.length = 0 := by
        have := (List.getElem?_eq_some_iff.1 hi).1
        simpa using this
      rw [h0] at hi
      exact .inr ⟨by omega, by simpa using hi.symm⟩
  constructor
  · intro i v' l' h' hi
    rcases hold i _ hi with ⟨hlt, hn⟩ | ⟨rfl, e⟩
    · obtain ⟨a1, a2, a3, a4, a5, a6⟩ := ok.node i v' l' h' hn
      exact ⟨a1, a2, a3, a4, by rw [lvl_add _ (by omega)]; exact a5, by rw [lvl_add _ (by omega)]; exact a6⟩
    · simp only [Prod.mk.injEq] at e
      obtain ⟨rfl, rfl, rfl⟩ := e
      exact ⟨hv, hl, hh, hne, by rw [lvl_add _ hl]; exact h1, by rw [lvl_add _ hh]; exact h2⟩
  · intro i j n hi hj
    rcases hold i n hi with ⟨hlt, hn⟩ | ⟨rfl, rfl⟩ <;> rcases hold j _ hj with ⟨hlt', hn'⟩ | ⟨rfl, e⟩
    · exact ok.one i j n hn hn'
    · subst e
      exact absurd (List.mem_of_getElem? hn) hnew
    · exact absurd (List.mem_of_getElem? hn') hnew
    · rfl
theorem OkD.nil (L : Nat) : OkD L [] := ⟨fun i v l h hi => by simp at hi, fun i j n hi => by simp at hi⟩
end Go.Proofs.Ytgenpcokpodhkaa
namespace Go.Proofs.Ytgenpcokpodhkaa

def look : List (Nat × Nat) → Nat → Option Nat
  | [], _ => none
  | p :: l, k => if p.1 = k then some p.2 else look l k
theorem look_same (l : List (Nat × Nat)) (k m : Nat) : look ((k, m) :: l) k = some m := by simp [look]
theorem look_other (l : List (Nat × Nat)) {k j : Nat} (m : Nat) (h : k ≠ j) : look ((k, m) :: l) j = look l j := by simp [look, h]

/-- the walk that completes the nodes below k -/
def wr (ns : List BN) : Nat → Nat → List (Nat × Nat) → List BN → Nat × List (Nat × Nat) × List BN
  | 0, _, at_, out => (0, at_, out)
  | f + 1, k, at_, out =>
    match look at_ k with
    | some to => (to, at_, out)
    | none =>
      match ns[k - 2]? with
      | none => (0, at_, out)
      | some n =>
        let a := wr ns f n.2.1 at_ out
        let b := wr ns f n.2.2 a.2.1 a.2.2
        (b.2.2.length + 2, (k, b.2.2.length + 2) :: b.2.1, b.2.2 ++ [(n.1, a.1, b.1)])
theorem wr_known {ns : List BN} {f k to : Nat} {at_ : List (Nat × Nat)} (out : List BN) (h : look at_ k = some to) : wr ns (f + 1) k at_ out = (to, at_, out) := by
  rw [wr, h]
theorem wr_new {ns : List BN} {f i v l h : Nat} {at_ : List (Nat × Nat)} (out : List BN) (hk : look at_ (i + 2) = none) (hn : ns[i]? = some (v, l, h)) {a b : Nat × List (Nat × Nat) × List BN} (ha : wr ns f l at_ out = a) (hb : wr ns f h a.2.1 a.2.2 = b) :
    wr ns (f + 1) (i + 2) at_ out = (b.2.2.length + 2, (i + 2, b.2.2.length + 2) :: b.2.1, b.2.2 ++ [(v, a.1, b.1)]) := by
  rw [wr, hk]
  simp only [Nat.add_sub_cancel, hn, ha, hb]
def start : List (Nat × Nat) := [(0, 0), (1, 1)]
/-- a diagram in its canonical form -/
def canon (ns : List BN) (k : Nat) : List BN × Nat := ((wr ns (k + 1) k start []).2.2, (wr ns (k + 1) k start []).1)

/-- two walks that have met the same functions -/
structure Pairs (ns ns' : List BN) (a a' : List (Nat × Nat)) : Prop where
  same : ∀ k k', k < ns.length + 2 → k' < ns'.length + 2 → (∀ s, sem ns k s = sem ns' k' s) → look a k = look a' k'
  zero : look a 0 = some 0
  one : look a 1 = some 1
theorem Pairs.start {L : Nat} {ns ns' : List BN} (ok : OkD L ns) (ok' : OkD L ns') : Pairs ns ns' start start := by
  refine ⟨fun k k' hk hk' e => ?_, rfl, rfl⟩
  rcases cross ok ok' hk hk' e with ⟨_, rfl⟩ | ⟨i, i', _, _, _, _, _, rfl, rfl, _⟩
  · rfl
  · simp [Go.Proofs.Ytgenpcokpodhkaa.start, look]

theorem wr_sim {L : Nat} {ns ns' : List BN} (ok : OkD L ns) (ok' : OkD L ns') : ∀ (n k k' f f' : Nat) (a a' : List (Nat × Nat)) (out : List BN), k ≤ n → k < f → k' < f' → k < ns.length + 2 → k' < ns'.length + 2 → (∀ s, sem ns k s = sem ns' k' s) → Pairs ns ns' a a' →
    ∃ m a1 a1' out1, wr ns f k a out = (m, a1, out1) ∧ wr ns' f' k' a' out = (m, a1', out1) ∧ Pairs ns ns' a1 a1' := by
  intro n
  induction n with
  | zero =>
    intro k k' f f' a a' out hk hf hf' hlt hlt' e hp
    obtain rfl : k = 0 := by omega
    obtain ⟨f, rfl⟩ : ∃ g, f = g + 1 := ⟨f - 1, by omega⟩
    obtain ⟨f', rfl⟩ : ∃ g, f' = g + 1 := ⟨f' - 1, by omega⟩
    have h0 := hp.same 0 k' hlt hlt' e
    rw [hp.zero] at h0
    exact ⟨0, a, a', out, wr_known out hp.zero, wr_known out h0.symm, hp⟩
  | succ n ih =>
    intro k k' f f' a a' out hk hf hf' hlt hlt' e hp
    obtain ⟨f, rfl⟩ : ∃ g, f = g + 1 := ⟨f - 1, by omega⟩
    obtain ⟨f', rfl⟩ : ∃ g, f' = g + 1 := ⟨f' - 1, by omega⟩
    have h0 := hp.same k k' hlt hlt' e
    cases hl : look a k with
    | some to =>
      rw [hl] at h0
      exact ⟨to, a, a', out, wr_known out hl, wr_known out h0.symm, hp⟩
    | none =>
      rw [hl] at h0
      rcases cross ok ok' hlt hlt' e with ⟨h2, _⟩ | ⟨i, i', v, l, h, l', h', rfl, rfl, hn, hn', el, eh⟩
      · rcases (show k = 0 ∨ k = 1 by omega) with rfl | rfl
        · rw [hp.zero] at hl; cases hl
        · rw [hp.one] at hl; cases hl
      · obtain ⟨_, b1, b2, _⟩ := ok.node i v l h hn
        obtain ⟨_, c1, c2, _⟩ := ok'.node i' v l' h' hn'
        obtain ⟨m1, a1, a1', o1, w1, w1', p1⟩ := ih l l' f f' a a' out (by omega) (by omega) (by omega) (by omega) (by omega) el hp
        obtain ⟨m2, a2, a2', o2, w2, w2', p2⟩ := ih h h' f f' a1 a1' o1 (by omega) (by omega) (by omega) (by omega) (by omega) eh p1
        refine ⟨o2.length + 2, _, _, _, wr_new out hl hn w1 w2, wr_new out h0.symm hn' w1' w2', ⟨fun j j' hj hj' ej => ?_, ?_, ?_⟩⟩
        · by_cases hji : i + 2 = j
          · subst hji
            have : i' + 2 = j' := sem_eq ok' hlt' hj' (fun s => by rw [← e, ej])
            subst this
            rw [look_same, look_same]
          · have : i' + 2 ≠ j' := fun h => hji (sem_eq ok hlt hj (fun s => by rw [e, ej, h]))
            rw [look_other _ _ hji, look_other _ _ this]
            exact p2.same j j' hj hj' ej
        · rw [look_other _ _ (by omega)]; exact p2.zero
        · rw [look_other _ _ (by omega)]; exact p2.one
/-- equal meaning, equal text -/
theorem canon_eq {L : Nat} {ns ns' : List BN} (ok : OkD L ns) (ok' : OkD L ns') {k k' : Nat} (hk : k < ns.length + 2) (hk' : k' < ns'.length + 2) (e : ∀ s, sem ns k s = sem ns' k' s) : canon ns k = canon ns' k' := by
  obtain ⟨m, a1, a1', o, w, w', _⟩ := wr_sim ok ok' k k k' (k + 1) (k' + 1) start start [] (Nat.le_refl _) (by omega) (by omega) hk hk' e (Pairs.start ok ok')
  unfold canon
  rw [w, w']

/-! ### tables of values -/
/-- set number i of the variables from lv to L - 1 -/
def bits (L lv i : Nat) : Nat → Bool := fun v => decide (lv ≤ v ∧ v < L) && ((i >>> (L - 1 - v)) % 2 == 1)
/-- vals is the table of node k over the variables from lv on -/
structure Tab (L lv : Nat) (ns : List BN) (k : Nat) (vals : List Bool) : Prop where
  le : lv ≤ L
  len : vals.length = 2 ^ (L - lv)
  low : lv ≤ lvl L ns k
  val : ∀ i, i < vals.length → vals[i]? = some (sem ns k (bits L lv i))

theorem bits_low {L lv i : Nat} (hlv : lv < L) (hi : i < 2 ^ (L - lv - 1)) : ∀ v, lv ≤ v → bits L lv i v = setV (bits L (lv + 1) i) lv false v := by
  intro v hv
  by_cases h : v = lv
  · subst h
    rw [setV_same]
    unfold bits
    rw [Nat.shiftRight_eq_div_pow, Nat.div_eq_of_lt (by rwa [show L - 1 - v = L - v - 1 from by omega])]
    simp
  · rw [setV_other _ _ h]
    unfold bits
    rw [show decide (lv ≤ v ∧ v < L) = decide (lv + 1 ≤ v ∧ v < L) from by congr 1; apply propext; omega]
theorem bits_high {L lv i : Nat} (hlv : lv < L) (hi : i < 2 ^ (L - lv - 1)) : ∀ v, lv ≤ v → bits L lv (2 ^ (L - lv - 1) + i) v = setV (bits L (lv + 1) i) lv true v := by
  intro v hv
  by_cases h : v = lv
  · subst h
    rw [setV_same]
    unfold bits
    rw [Nat.shiftRight_eq_div_pow, show L - 1 - v = L - v - 1 from by omega, Nat.add_div_left _ (Nat.two_pow_pos _), Nat.div_eq_of_lt hi]
    simp [hlv]
  · rw [setV_other _ _ h]
    unfold bits
    rw [show decide (lv ≤ v ∧ v < L) = decide (lv + 1 ≤ v ∧ v < L) from by congr 1; apply propext; omega]
    by_cases hvL : v < L
    · congr 2
      rw [Nat.shiftRight_eq_div_pow, Nat.shiftRight_eq_div_pow]
      have e : 2 ^ (L - lv - 1) = 2 ^ (L - 1 - v) * (2 * 2 ^ (v - lv - 1)) := by
        rw [← Nat.pow_succ', ← Nat.pow_add]
        congr 1
        omega
      rw [e, Nat.add_comm, Nat.add_mul_div_left _ _ (Nat.two_pow_pos _), Nat.add_mul_mod_self_left]
    · have : decide (lv + 1 ≤ v ∧ v < L) = false := decide_eq_false (by omega)
      rw [this]
      rfl
/-- every assignment is a number, as far as the variables from lv on go -/
theorem bits_all (L : Nat) (s : Nat → Bool) : ∀ d lv, lv + d = L → ∃ i, i < 2 ^ d ∧ ∀ v, lv ≤ v → v < L → bits L lv i v = s v := by
  intro d
  induction d with
  | zero => intro lv h; exact ⟨0, by simp, fun v h1 h2 => by omega⟩
  | succ d ih =>
    intro lv h
    obtain ⟨i, hi, hv⟩ := ih (lv + 1) (by omega)
    have hi' : i < 2 ^ (L - lv - 1) := by rwa [show L - lv - 1 = d from by omega]
    have hd : 2 ^ (L - lv - 1) = 2 ^ d := by rw [show L - lv - 1 = d from by omega]
    cases hs : s lv with
    | false =>
      refine ⟨i, by rw [Nat.pow_succ]; omega, fun v h1 h2 => ?_⟩
      rw [bits_low (by omega) hi' v h1]
      by_cases hvl : v = lv
      · rw [hvl, setV_same, hs]
      · rw [setV_other _ _ hvl]; exact hv v (by omega) h2
    | true =>
      refine ⟨2 ^ (L - lv - 1) + i, by rw [hd, Nat.pow_succ]; omega, fun v h1 h2 => ?_⟩
      rw [bits_high (by omega) hi' v h1]
      by_cases hvl : v = lv
      · rw [hvl, setV_same, hs]
      · rw [setV_other _ _ hvl]; exact hv v (by omega) h2

section
variable {L lv : Nat} {ns : List BN} {k : Nat} {vals : List Bool}
theorem sem_beyond (ok : OkD L ns) (hk : k < ns.length + 2) {s t : Nat → Bool} (h : ∀ v, lvl L ns k ≤ v → v < L → s v = t v) : sem ns k s = sem ns k t := by
  have key : ∀ (n j : Nat), j ≤ n → j < ns.length + 2 → lvl L ns k ≤ lvl L ns j → sem ns j s = sem ns j t := by
    intro n
    induction n with
    | zero =>
      intro j hj _ _
      obtain rfl : j = 0 := by omega
      rw [sem_zero, sem_zero]
    | succ n ih =>
      intro j hj hjl hl
      by_cases h2 : j < 2
      · rcases (show j = 0 ∨ j = 1 by omega) with rfl | rfl <;> simp [sem_zero, sem_one]
      · obtain ⟨i, v, l, h', rfl, hn⟩ := node_of (ns := ns) (by omega) hjl
        obtain ⟨h1, h3, h4, h5, h6, h7⟩ := ok.node i v l h' hn
        have hi : i < ns.length := (List.getElem?_eq_some_iff.1 hn).1
        rw [lvl_node hn] at hl
        rw [sem_node ok hn, sem_node ok hn, h v hl h1, ih h' (by omega) (by omega) (by omega), ih l (by omega) (by omega) (by omega)]
  exact key k k (Nat.le_refl _) hk (Nat.le_refl _)

theorem Tab.half (ok : OkD L ns) (hk : k < ns.length + 2) (ht : Tab L lv ns k vals) (hlv : lv < L) :
    vals.length / 2 = 2 ^ (L - lv - 1) ∧ vals.length = 2 ^ (L - lv - 1) + 2 ^ (L - lv - 1) ∧
    (∀ i, i < 2 ^ (L - lv - 1) → (vals.take (vals.length / 2))[i]? = some (sem ns k (setV (bits L (lv + 1) i) lv false))) ∧
    (∀ i, i < 2 ^ (L - lv - 1) → (vals.drop (vals.length / 2))[i]? = some (sem ns k (setV (bits L (lv + 1) i) lv true))) := by
  have e : vals.length = 2 ^ (L - lv - 1) + 2 ^ (L - lv - 1) := by
    rw [ht.len, show L - lv = (L - lv - 1) + 1 from by omega, Nat.pow_succ]
    simp
    omega
  have e2 : vals.length / 2 = 2 ^ (L - lv - 1) := by omega
  refine ⟨e2, e, fun i hi => ?_, fun i hi => ?_⟩
  · rw [e2, List.getElem?_take_of_lt hi, ht.val i (by omega)]
    congr 1
    exact sem_dep ok k k (Nat.le_refl _) hk _ _ (fun v hv => bits_low hlv hi v (by have := ht.low; omega))
  · rw [e2, List.getElem?_drop, ht.val _ (by omega)]
    congr 1
    exact sem_dep ok k k (Nat.le_refl _) hk _ _ (fun v hv => bits_high hlv hi v (by have := ht.low; omega))
theorem half_eq {n : Nat} {a b : List Bool} (ha : a.length = n) (hb : b.length = n) (h : ∀ i, i < n → a[i]? = b[i]?) : a = b := by
  apply List.ext_getElem?
  intro i
  by_cases hi : i < n
  · exact h i hi
  · rw [List.getElem?_eq_none (by omega), List.getElem?_eq_none (by omega)]
/-- the halves are equal just if the node does not look at the variable -/
theorem Tab.flat (ok : OkD L ns) (hk : k < ns.length + 2) (ht : Tab L lv ns k vals) (hlv : lv < L) : (vals.take (vals.length / 2) = vals.drop (vals.length / 2)) ↔ lv < lvl L ns k := by
  obtain ⟨e1, e2, h1, h2⟩ := ht.half ok hk hlv
  have l1 : (vals.take (vals.length / 2)).length = 2 ^ (L - lv - 1) := by rw [List.length_take]; omega
  have l2 : (vals.drop (vals.length / 2)).length = 2 ^ (L - lv - 1) := by rw [List.length_drop]; omega
  constructor
  · intro he
    apply Classical.byContradiction
    intro hno
    have hl : lvl L ns k = lv := by have := ht.low; omega
    have hk2 : ¬ k < 2 := fun h => by rw [lvl_small ns h] at hl; omega
    obtain ⟨i, v, l, h, rfl, hn⟩ := node_of (ns := ns) (by omega) hk
    rw [lvl_node hn] at hl
    subst hl
    obtain ⟨s, hs⟩ := sem_looks ok hn
    obtain ⟨j, hj, hjs⟩ := bits_all L s (L - v - 1) (v + 1) (by omega)
    have g1 := h1 j hj
    have g2 := h2 j hj
    rw [he] at g1
    have := Option.some.inj (g1.symm.trans g2)
    refine hs ?_
    have conv : ∀ b, sem ns (i + 2) (setV s v b) = sem ns (i + 2) (setV (bits L (v + 1) j) v b) := fun b => by
      refine sem_beyond ok hk (fun u hu hu' => ?_)
      by_cases huv : u = v
      · rw [huv, setV_same, setV_same]
      · rw [lvl_node hn] at hu
        rw [setV_other _ _ huv, setV_other _ _ huv, hjs u (by omega) hu']
    rw [conv, conv, this]
  · intro hl
    refine half_eq l1 l2 (fun i hi => ?_)
    rw [h1 i hi, h2 i hi]
    congr 1
    exact sem_dep ok k k (Nat.le_refl _) hk _ _ (fun v hv => by rw [setV_other _ _ (by omega), setV_other _ _ (by omega)])
theorem Tab.skip (ok : OkD L ns) (hk : k < ns.length + 2) (ht : Tab L lv ns k vals) (hlv : lv < L) (hl : lv < lvl L ns k) : Tab L (lv + 1) ns k (vals.take (vals.length / 2)) := by
  obtain ⟨e1, e2, h1, _⟩ := ht.half ok hk hlv
  have l1 : (vals.take (vals.length / 2)).length = 2 ^ (L - lv - 1) := by rw [List.length_take]; omega
  refine ⟨by omega, by rw [l1]; congr 1, by omega, fun i hi => ?_⟩
  rw [h1 i (by omega)]
  congr 1
  exact sem_dep ok k k (Nat.le_refl _) hk _ _ (fun v hv => by rw [setV_other _ _ (by omega)])
theorem Tab.lo (ok : OkD L ns) {i l h : Nat} (hn : ns[i]? = some (lv, l, h)) (ht : Tab L lv ns (i + 2) vals) : Tab L (lv + 1) ns l (vals.take (vals.length / 2)) := by
  obtain ⟨a1, a2, a3, a4, a5, a6⟩ := ok.node i lv l h hn
  have hi : i < ns.length := (List.getElem?_eq_some_iff.1 hn).1
  obtain ⟨e1, e2, h1, _⟩ := ht.half ok (by omega) a1
  have l1 : (vals.take (vals.length / 2)).length = 2 ^ (L - lv - 1) := by rw [List.length_take]; omega
  refine ⟨by omega, by rw [l1]; congr 1, by omega, fun j hj => ?_⟩
  rw [h1 j (by omega), sem_low ok hn]
theorem Tab.hi (ok : OkD L ns) {i l h : Nat} (hn : ns[i]? = some (lv, l, h)) (ht : Tab L lv ns (i + 2) vals) : Tab L (lv + 1) ns h (vals.drop (vals.length / 2)) := by
  obtain ⟨a1, a2, a3, a4, a5, a6⟩ := ok.node i lv l h hn
  have hi : i < ns.length := (List.getElem?_eq_some_iff.1 hn).1
  obtain ⟨e1, e2, _, h2⟩ := ht.half ok (by omega) a1
  have l1 : (vals.drop (vals.length / 2)).length = 2 ^ (L - lv - 1) := by rw [List.length_drop]; omega
  refine ⟨by omega, by rw [l1]; congr 1, by omega, fun j hj => ?_⟩
  rw [h2 j (by omega), sem_high ok hn]
/-- equal tables, equal nodes -/
theorem Tab.inj (ok : OkD L ns) {k' : Nat} (hk : k < ns.length + 2) (hk' : k' < ns.length + 2) (ht : Tab L lv ns k vals) (ht' : Tab L lv ns k' vals) : k = k' := by
  refine sem_eq ok hk hk' (fun s => ?_)
  obtain ⟨j, hj, hjs⟩ := bits_all L s (L - lv) lv (by have := ht.le; omega)
  have h1 := ht.val j (by rw [ht.len]; exact hj)
  have h2 := ht'.val j (by rw [ht'.len]; exact hj)
  rw [sem_beyond ok hk (t := bits L lv j) (fun v hv hvL => (hjs v (by have := ht.low; omega) hvL).symm), sem_beyond ok hk' (t := bits L lv j) (fun v hv hvL => (hjs v (by have := ht'.low; omega) hvL).symm)]
  exact Option.some.inj (h1.symm.trans h2)
end

/-! ### the reference's folding -/
abbrev Part := Nat × List Bool × Nat
def findPart : List Part → Nat → List Bool → Option Nat
  | [], _, _ => none
  | p :: l, lv, vals => if p.1 = lv ∧ p.2.1 = vals then some p.2.2 else findPart l lv vals
theorem findPart_snoc (l : List Part) (p : Part) (lv : Nat) (vals : List Bool) : findPart (l ++ [p]) lv vals = match findPart l lv vals with
    | some m => some m
    | none => if p.1 = lv ∧ p.2.1 = vals then some p.2.2 else none := by
  induction l with
  | nil => simp [findPart]
  | cons q l ih =>
    simp only [List.cons_append, findPart]
    split
    · rfl
    · exact ih
def fold : Nat → List BN → Nat → List Bool → List Part → List BN × Nat × List Part
  | 0, out, _, _, known => (out, 0, known)
  | f + 1, out, lv, vals, known =>
    if vals.length = 1 then (out, if vals.headD false = true then 1 else 0, known)
    else if vals.take (vals.length / 2) = vals.drop (vals.length / 2) then fold f out (lv + 1) (vals.take (vals.length / 2)) known
    else match findPart known lv vals with
      | some k => (out, k, known)
      | none =>
        let a := fold f out (lv + 1) (vals.take (vals.length / 2)) known
        let b := fold f a.1 (lv + 1) (vals.drop (vals.length / 2)) a.2.2
        (b.1 ++ [(lv, a.2.1, b.2.1)], b.1.length + 2, b.2.2 ++ [(lv, vals, b.1.length + 2)])

/-- the parts and the walk's map know the same -/
structure Knows (L : Nat) (ns : List BN) (known : List Part) (a : List (Nat × Nat)) : Prop where
  same : ∀ lv k vals, k < ns.length + 2 → lv < L → lvl L ns k = lv → Tab L lv ns k vals → findPart known lv vals = look a k
  zero : look a 0 = some 0
  one : look a 1 = some 1

theorem fold_sim {L : Nat} {ns : List BN} (ok : OkD L ns) : ∀ (d lv : Nat) (k f f' : Nat) (vals : List Bool) (known : List Part) (a : List (Nat × Nat)) (out : List BN), lv + d = L → d < f → k < f' → k < ns.length + 2 → Tab L lv ns k vals → Knows L ns known a →
    ∃ m a1 known1 out1, fold f out lv vals known = (out1, m, known1) ∧ wr ns f' k a out = (m, a1, out1) ∧ Knows L ns known1 a1 ∧ (∀ j, lvl L ns j < lv → look a1 j = look a j) := by
  intro d
  induction d with
  | zero =>
    intro lv k f f' vals known a out hd hf hf' hk ht hkn
    obtain ⟨f, rfl⟩ : ∃ g, f = g + 1 := ⟨f - 1, by omega⟩
    obtain ⟨f', rfl⟩ : ∃ g, f' = g + 1 := ⟨f' - 1, by omega⟩
    have hlen : vals.length = 1 := by rw [ht.len, show L - lv = 0 from by omega]
    have hk2 : k < 2 := by
      rcases Nat.lt_or_ge k 2 with h | h
      · exact h
      · obtain ⟨i, v, l, h', rfl, hn⟩ := node_of (ns := ns) h hk
        have := (ok.node i v l h' hn).1
        have h2 := ht.low
        rw [lvl_node hn] at h2
        omega
    have hv := ht.val 0 (by omega)
    obtain ⟨x, rfl⟩ : ∃ x, vals = [x] := by
      match vals, hlen with
      | [x], _ => exact ⟨x, rfl⟩
    have hx : x = sem ns k (bits L lv 0) := by simpa using hv
    have hl : look a k = some (if x = true then 1 else 0) := by
      rcases (show k = 0 ∨ k = 1 by omega) with rfl | rfl
      · rw [hx, sem_zero, hkn.zero]; rfl
      · rw [hx, sem_one, hkn.one]; rfl
    refine ⟨_, a, known, out, ?_, wr_known out hl, hkn, fun _ _ => rfl⟩
    rw [fold, if_pos hlen]
    rfl
  | succ d ih =>
    intro lv k f f' vals known a out hd hf hf' hk ht hkn
    obtain ⟨f, rfl⟩ : ∃ g, f = g + 1 := ⟨f - 1, by omega⟩
    have hlv : lv < L := by omega
    obtain ⟨e1, e2, _, _⟩ := ht.half ok hk hlv
    have hpos : 0 < 2 ^ (L - lv - 1) := Nat.two_pow_pos _
    rw [fold, if_neg (by omega)]
    by_cases hflat : vals.take (vals.length / 2) = vals.drop (vals.length / 2)
    · rw [if_pos hflat]
      have hl := (ht.flat ok hk hlv).1 hflat
      obtain ⟨m, a1, known1, out1, h1, h2, h3, h4⟩ := ih (lv + 1) k f f' _ known a out (by omega) (by omega) hf' hk (ht.skip ok hk hlv hl) hkn
      exact ⟨m, a1, known1, out1, h1, h2, h3, fun j hj => h4 j (by omega)⟩
    · rw [if_neg hflat]
      have hl : lvl L ns k = lv := by
        have h1 := ht.low
        have h2 : ¬ lv < lvl L ns k := fun h => hflat ((ht.flat ok hk hlv).2 h)
        omega
      have hk2 : ¬ k < 2 := fun h => by rw [lvl_small ns h] at hl; omega
      obtain ⟨f', rfl⟩ : ∃ g, f' = g + 1 := ⟨f' - 1, by omega⟩
      have hfind := hkn.same lv k vals hk hlv hl ht
      cases hfp : findPart known lv vals with
      | some m =>
        rw [hfp] at hfind
        exact ⟨m, a, known, out, rfl, wr_known out hfind.symm, hkn, fun _ _ => rfl⟩
      | none =>
        rw [hfp] at hfind
        obtain ⟨i, v, l, h, rfl, hn⟩ := node_of (ns := ns) (by omega) hk
        rw [lvl_node hn] at hl
        subst hl
        obtain ⟨b1, b2, b3, b4, b5, b6⟩ := ok.node i v l h hn
        have hi : i < ns.length := (List.getElem?_eq_some_iff.1 hn).1
        obtain ⟨m1, a1, k1, o1, g1, w1, q1, r1⟩ := ih (v + 1) l f f' _ known a out (by omega) (by omega) (by omega) (by omega) (ht.lo ok hn) hkn
        obtain ⟨m2, a2, k2, o2, g2, w2, q2, r2⟩ := ih (v + 1) h f f' _ k1 a1 o1 (by omega) (by omega) (by omega) (by omega) (ht.hi ok hn) q1
        refine ⟨o2.length + 2, (i + 2, o2.length + 2) :: a2, k2 ++ [(v, vals, o2.length + 2)], o2 ++ [(v, m1, m2)], ?_, wr_new out hfind.symm hn w1 w2, ⟨fun lv' j vals' hj hlv' hlj htj => ?_, ?_, ?_⟩, fun j hj => ?_⟩
        · simp only [g1, g2]
        · rw [findPart_snoc]
          by_cases hji : i + 2 = j
          · subst hji
            rw [lvl_node hn] at hlj
            subst hlj
            have hnone : findPart k2 v vals' = none := by
              rw [q2.same v (i + 2) vals' hj hlv' (lvl_node hn) htj, r2 _ (by rw [lvl_node hn]; omega), r1 _ (by rw [lvl_node hn]; omega), ← hfind]
            have hvals : vals = vals' := by
              apply List.ext_getElem?
              intro j
              by_cases hjl : j < vals.length
              · rw [ht.val j hjl, htj.val j (by rw [htj.len, ← ht.len]; exact hjl)]
              · rw [List.getElem?_eq_none (by omega), List.getElem?_eq_none (by rw [htj.len, ← ht.len]; omega)]
            rw [hnone, look_same]
            simp [hvals]
          · have hne : ¬ (v = lv' ∧ vals = vals') := by
              rintro ⟨rfl, rfl⟩
              exact hji (Tab.inj ok hk hj ht htj)
            rw [q2.same lv' j vals' hj hlv' hlj htj, look_other _ _ hji]
            cases look a2 j with
            | some x => rfl
            | none => simp only [if_neg hne]
        · rw [look_other _ _ (by omega)]; exact q2.zero
        · rw [look_other _ _ (by omega)]; exact q2.one
        · have hji : i + 2 ≠ j := fun h => by rw [← h, lvl_node hn] at hj; omega
          rw [look_other _ _ hji, r2 j (by omega), r1 j (by omega)]
def canonical (L : Nat) (vals : List Bool) : List BN × Nat := ((fold (L + 1) [] 0 vals []).1, (fold (L + 1) [] 0 vals []).2.1)
theorem canonical_eq {L : Nat} {ns : List BN} (ok : OkD L ns) {k : Nat} (hk : k < ns.length + 2) {vals : List Bool} (ht : Tab L 0 ns k vals) : canonical L vals = canon ns k := by
  have hkn : Knows L ns [] start := by
    refine ⟨fun lv j vals' hj hlv hlj htj => ?_, rfl, rfl⟩
    have h2 : ¬ j < 2 := fun h => by rw [lvl_small ns h] at hlj; omega
    have h0 : ¬ 0 = j := by omega
    have h1 : ¬ 1 = j := by omega
    simp [findPart, start, look, h0, h1]
  obtain ⟨m, a1, known1, out1, h1, h2, _⟩ := fold_sim ok L 0 k (L + 1) (k + 1) vals [] start [] (by omega) (by omega) (by omega) hk ht hkn
  unfold canonical canon
  rw [h1, h2]
end Go.Proofs.Ytgenpcokpodhkaa
namespace Go.Proofs.Ytgenpcokpodhkaa

/-- equal meaning, equal level -/
theorem lvl_cross {L : Nat} {ns ns' : List BN} (ok : OkD L ns) (ok' : OkD L ns') {k k' : Nat} (hk : k < ns.length + 2) (hk' : k' < ns'.length + 2) (e : ∀ s, sem ns k s = sem ns' k' s) : lvl L ns k = lvl L ns' k' := by
  rcases cross ok ok' hk hk' e with ⟨h2, rfl⟩ | ⟨i, i', v, l, h, l', h', rfl, rfl, hn, hn', _⟩
  · rw [lvl_small _ h2, lvl_small _ h2]
  · rw [lvl_node hn, lvl_node hn']

/-- what a walk has written so far -/
structure WInv (L : Nat) (ns : List BN) (at_ : List (Nat × Nat)) (out : List BN) : Prop where
  ok : OkD L out
  val : ∀ j m, look at_ j = some m → j < ns.length + 2 ∧ m < out.length + 2 ∧ ∀ s, sem out m s = sem ns j s
  all : ∀ i, i < out.length → ∃ j, look at_ j = some (i + 2)
  zero : look at_ 0 = some 0
  one : look at_ 1 = some 1
theorem WInv.start (L : Nat) (ns : List BN) : WInv L ns start [] := by
  refine ⟨OkD.nil L, fun j m h => ?_, fun i hi => by simp at hi, rfl, rfl⟩
  unfold Go.Proofs.Ytgenpcokpodhkaa.start at h
  by_cases h0 : j = 0
  · subst h0
    simp [look] at h
    subst h
    exact ⟨by omega, by simp, fun s => by rw [sem_zero, sem_zero]⟩
  · rw [look_other _ _ (fun e => h0 e.symm)] at h
    by_cases h1 : j = 1
    · subst h1
      simp [look] at h
      subst h
      exact ⟨by omega, by simp, fun s => by rw [sem_one, sem_one]⟩
    · rw [look_other _ _ (fun e => h1 e.symm)] at h
      cases h
theorem wr_inv {L : Nat} {ns : List BN} (ok : OkD L ns) : ∀ (n k f : Nat) (at_ : List (Nat × Nat)) (out : List BN), k ≤ n → k < f → k < ns.length + 2 → WInv L ns at_ out →
    ∃ m a1 o1 ms, wr ns f k at_ out = (m, a1, o1) ∧ o1 = out ++ ms ∧ WInv L ns a1 o1 ∧ look a1 k = some m ∧ (∀ j, k < j → look a1 j = look at_ j) ∧ ∀ j x, look at_ j = some x → look a1 j = some x := by
  intro n
  induction n with
  | zero =>
    intro k f at_ out hk hf hlt hi
    obtain rfl : k = 0 := by omega
    obtain ⟨f, rfl⟩ : ∃ g, f = g + 1 := ⟨f - 1, by omega⟩
    exact ⟨0, at_, out, [], wr_known out hi.zero, by simp, hi, hi.zero, fun _ _ => rfl, fun _ _ h => h⟩
  | succ n ih =>
    intro k f at_ out hk hf hlt hi
    obtain ⟨f, rfl⟩ : ∃ g, f = g + 1 := ⟨f - 1, by omega⟩
    cases hl : look at_ k with
    | some to => exact ⟨to, at_, out, [], wr_known out hl, by simp, hi, hl, fun _ _ => rfl, fun _ _ h => h⟩
    | none =>
      have h2 : ¬ k < 2 := fun h => by
        rcases (show k = 0 ∨ k = 1 by omega) with rfl | rfl
        · rw [hi.zero] at hl; cases hl
        · rw [hi.one] at hl; cases hl
      obtain ⟨i, v, l, h, rfl, hn⟩ := node_of (ns := ns) (by omega) hlt
      obtain ⟨b0, b1, b2, b3, b4, b5⟩ := ok.node i v l h hn
      obtain ⟨ma, aa, oa, ms1, w1, e1, i1, l1, k1, s1⟩ := ih l f at_ out (by omega) (by omega) (by omega) hi
      obtain ⟨mb, ab, ob, ms2, w2, e2, i2, l2, k2, s2⟩ := ih h f aa oa (by omega) (by omega) (by omega) i1
      have hnone : look ab (i + 2) = none := by rw [k2 _ (by omega), k1 _ (by omega)]; exact hl
      obtain ⟨_, va, sa⟩ := i2.val l ma (s2 l ma l1)
      obtain ⟨_, vb, sb⟩ := i2.val h mb l2
      have hne : ma ≠ mb := fun e => b3 (sem_eq ok (by omega) (by omega) (fun s => by rw [← sa, ← sb, e]))
      have la : v < lvl L ob ma := by rw [lvl_cross i2.ok ok va (by omega) sa]; exact b4
      have lb : v < lvl L ob mb := by rw [lvl_cross i2.ok ok vb (by omega) sb]; exact b5
      have hnew : (v, ma, mb) ∉ ob := fun hm => by
        obtain ⟨t, ht, he⟩ := List.mem_iff_getElem.1 hm
        have hg : ob[t]? = some (v, ma, mb) := by rw [← he]; exact List.getElem?_eq_getElem ht
        obtain ⟨j, hj⟩ := i2.all t ht
        obtain ⟨j1, j2, j3⟩ := i2.val j _ hj
        have : j = i + 2 := sem_eq ok j1 hlt (fun s => by
          rw [← j3, sem_node i2.ok hg, sem_node ok hn, sa, sb])
        rw [this, hnone] at hj
        cases hj
      have ok1 := i2.ok.push b0 va vb hne la lb hnew
      have hlast : (ob ++ [(v, ma, mb)])[ob.length]? = some (v, ma, mb) := by simp
      refine ⟨ob.length + 2, (i + 2, ob.length + 2) :: ab, ob ++ [(v, ma, mb)], ms1 ++ ms2 ++ [(v, ma, mb)], ?_, ?_, ⟨ok1, fun j m hj => ?_, fun t ht => ?_, ?_, ?_⟩, look_same _ _ _, fun j hj => ?_, fun j x hj => ?_⟩
      · rw [wr_new (a := (ma, aa, oa)) (b := (mb, ab, ob)) out hl hn w1 w2]
      · rw [e2, e1]; simp
      · by_cases hji : i + 2 = j
        · subst hji
          rw [look_same] at hj
          injection hj with hj
          subst hj
          refine ⟨hlt, by simp, fun s => ?_⟩
          rw [sem_node ok1 hlast, sem_node ok hn, sem_add i2.ok _ va, sem_add i2.ok _ vb, sa, sb]
        · rw [look_other _ _ hji] at hj
          obtain ⟨x1, x2, x3⟩ := i2.val j m hj
          exact ⟨x1, by simp; omega, fun s => by rw [sem_add i2.ok _ x2, x3]⟩
      · simp at ht
        by_cases hto : t = ob.length
        · subst hto
          exact ⟨i + 2, look_same _ _ _⟩
        · obtain ⟨j, hj⟩ := i2.all t (by omega)
          refine ⟨j, ?_⟩
          rw [look_other _ _ (fun e => by rw [← e, hnone] at hj; cases hj)]
          exact hj
      · rw [look_other _ _ (by omega)]; exact i2.zero
      · rw [look_other _ _ (by omega)]; exact i2.one
      · rw [look_other _ _ (by omega), k2 j (by omega), k1 j (by omega)]
      · have := s2 j x (s1 j x hj)
        rw [look_other _ _ (fun e => by rw [← e, hnone] at this; cases this)]
        exact this
/-- the canonical text is a diagram of the same meaning -/
theorem canon_ok {L : Nat} {ns : List BN} (ok : OkD L ns) {k : Nat} (hk : k < ns.length + 2) :
    OkD L (canon ns k).1 ∧ (canon ns k).2 < (canon ns k).1.length + 2 ∧ ∀ s, sem (canon ns k).1 (canon ns k).2 s = sem ns k s := by
  obtain ⟨m, a1, o1, ms, w, _, i1, l1, _, _⟩ := wr_inv ok k k (k + 1) start [] (Nat.le_refl _) (by omega) hk (WInv.start L ns)
  obtain ⟨_, h2, h3⟩ := i1.val k m l1
  unfold canon
  rw [w]
  exact ⟨i1.ok, h2, h3⟩
theorem canon_canon {L : Nat} {ns : List BN} (ok : OkD L ns) {k : Nat} (hk : k < ns.length + 2) : canon (canon ns k).1 (canon ns k).2 = canon ns k :=
  let h := canon_ok ok hk
  canon_eq h.1 ok h.2.1 hk h.2.2
/-- a text whose nodes are those of its canonical text is its canonical text -/
theorem canon_self {L : Nat} {ns : List BN} (ok : OkD L ns) {k : Nat} (hk : k < ns.length + 2) (h : (canon ns k).1 = ns) : canon ns k = (ns, k) := by
  obtain ⟨_, h2, h3⟩ := canon_ok ok hk
  have : (canon ns k).2 = k := by
    rw [h] at h2 h3
    exact sem_eq ok h2 hk h3
  rw [← h] at this ⊢
  rw [h] at this ⊢
  exact Prod.ext h this

/-- the walk of the reference: the nodes in the order in which they are completed -/
def comp (ns : List BN) : Nat → Nat → List Nat → List Nat
  | 0, _, done => done
  | f + 1, k, done =>
    if k < 2 ∨ k ∈ done then done else
      match ns[k - 2]? with
      | none => done
      | some n => comp ns f n.2.2 (comp ns f n.2.1 done) ++ [k]
/-- the map of the walk, as the list of what is done -/
def OfDone (at_ : List (Nat × Nat)) (done : List Nat) : Prop := look at_ 0 = some 0 ∧ look at_ 1 = some 1 ∧ (∀ j, j ∈ done → 2 ≤ j) ∧ (∀ i j, done[i]? = some j → look at_ j = some (i + 2)) ∧ ∀ j, 2 ≤ j → j ∉ done → look at_ j = none
theorem wr_comp {L : Nat} {ns : List BN} (ok : OkD L ns) : ∀ (n k f : Nat) (at_ : List (Nat × Nat)) (out : List BN) (done : List Nat), k ≤ n → k < f → k < ns.length + 2 → OfDone at_ done → out.length = done.length →
    ∃ m a1 o1, wr ns f k at_ out = (m, a1, o1) ∧ OfDone a1 (comp ns f k done) ∧ o1.length = (comp ns f k done).length ∧ ∀ j, k < j → (j ∈ comp ns f k done ↔ j ∈ done) := by
  intro n
  induction n with
  | zero =>
    intro k f at_ out done hk hf hlt ho hl
    obtain rfl : k = 0 := by omega
    obtain ⟨f, rfl⟩ : ∃ g, f = g + 1 := ⟨f - 1, by omega⟩
    have hc : comp ns (f + 1) 0 done = done := by rw [comp, if_pos (.inl (by omega))]
    exact ⟨0, at_, out, wr_known out ho.1, by rw [hc]; exact ho, by rw [hc]; exact hl, by rw [hc]; exact fun _ _ => Iff.rfl⟩
  | succ n ih =>
    intro k f at_ out done hk hf hlt ho hl
    obtain ⟨f, rfl⟩ : ∃ g, f = g + 1 := ⟨f - 1, by omega⟩
    by_cases hd : k < 2 ∨ k ∈ done
    · have hc : comp ns (f + 1) k done = done := by rw [comp, if_pos hd]
      have : ∃ to, look at_ k = some to := by
        rcases hd with h | h
        · rcases (show k = 0 ∨ k = 1 by omega) with rfl | rfl
          · exact ⟨_, ho.1⟩
          · exact ⟨_, ho.2.1⟩
        · obtain ⟨i, hi, he⟩ := List.mem_iff_getElem.1 h
          exact ⟨_, ho.2.2.2.1 i k (by rw [← he]; exact List.getElem?_eq_getElem hi)⟩
      obtain ⟨to, hto⟩ := this
      exact ⟨to, at_, out, wr_known out hto, by rw [hc]; exact ho, by rw [hc]; exact hl, by rw [hc]; exact fun _ _ => Iff.rfl⟩
    · have h2 : ¬ k < 2 := fun h => hd (.inl h)
      have hnd : k ∉ done := fun h => hd (.inr h)
      have hlk := ho.2.2.2.2 k (by omega) hnd
      obtain ⟨i, v, l, h, rfl, hn⟩ := node_of (ns := ns) (by omega) hlt
      obtain ⟨b0, b1, b2, b3, b4, b5⟩ := ok.node i v l h hn
      obtain ⟨ma, aa, oa, w1, d1, n1, k1⟩ := ih l f at_ out done (by omega) (by omega) (by omega) ho hl
      obtain ⟨mb, ab, ob, w2, d2, n2, k2⟩ := ih h f aa oa _ (by omega) (by omega) (by omega) d1 n1
      have hc : comp ns (f + 1) (i + 2) done = comp ns f h (comp ns f l done) ++ [i + 2] := by
        rw [comp, if_neg hd]
        simp only [Nat.add_sub_cancel, hn]
      have hnot : i + 2 ∉ comp ns f h (comp ns f l done) := fun hm => hnd ((k1 _ (by omega)).1 ((k2 _ (by omega)).1 hm))
      rw [hc]
      refine ⟨ob.length + 2, _, _, wr_new (a := (ma, aa, oa)) (b := (mb, ab, ob)) out hlk hn w1 w2, ⟨?_, ?_, fun j hj => ?_, fun t j hj => ?_, fun j h2j hj => ?_⟩, by simp [n2], fun j hj => ?_⟩
      · rw [look_other _ _ (by omega)]; exact d2.1
      · rw [look_other _ _ (by omega)]; exact d2.2.1
      · rw [List.mem_append] at hj
        rcases hj with hj | hj
        · exact d2.2.2.1 j hj
        · simp at hj; omega
      · by_cases ht : t < (comp ns f h (comp ns f l done)).length
        · rw [List.getElem?_append_left ht] at hj
          have hm := List.mem_of_getElem? hj
          rw [look_other _ _ (fun e => hnot (by rw [e]; exact hm))]
          exact d2.2.2.2.1 t j hj
        · rw [List.getElem?_append_right (by omega)] at hj
          have h0 : t - (comp ns f h (comp ns f l done)).length = 0 := by
            have := (List.getElem?_eq_some_iff.1 hj).1
            simpa using this
          rw [h0] at hj
          simp at hj
          subst hj
          rw [look_same, n2]
          congr 1
          omega
      · rw [List.mem_append, not_or] at hj
        rw [look_other _ _ (fun e => hj.2 (by simp [e]))]
        exact d2.2.2.2.2 j h2j hj.1
      · rw [List.mem_append]
        have : j ∉ [i + 2] := by simp; omega
        constructor
        · intro h'
          rcases h' with h' | h'
          · exact (k1 _ (by omega)).1 ((k2 _ (by omega)).1 h')
          · exact (this h').elim
        · intro h'
          exact .inl ((k2 _ (by omega)).2 ((k1 _ (by omega)).2 h'))
theorem OfDone.start : OfDone start [] := by
  refine ⟨rfl, rfl, ?_, ?_, ?_⟩
  · intro j h; simp at h
  · intro i j h; simp at h
  · intro j h _
    unfold Go.Proofs.Ytgenpcokpodhkaa.start
    rw [look_other _ _ (by omega), look_other _ _ (by omega)]
    rfl
def incr (n : Nat) : List Nat := (List.range n).map (· + 2)
theorem incr_get {n i : Nat} (h : i < n) : (incr n)[i]? = some (i + 2) := by
  unfold incr
  rw [List.getElem?_map, List.getElem?_range h]
  rfl
theorem incr_len (n : Nat) : (incr n).length = n := by simp [incr]
/-- a text is its own canonical text exactly if the walk completes its nodes in their order -/
theorem canon_comp {L : Nat} {ns : List BN} (ok : OkD L ns) {k : Nat} (hk : k < ns.length + 2) : (canon ns k).1 = ns ↔ comp ns (k + 1) k [] = incr ns.length := by
  obtain ⟨m, a1, o1, ms, w, _, i1, l1, _, _⟩ := wr_inv ok k k (k + 1) start [] (Nat.le_refl _) (by omega) hk (WInv.start L ns)
  obtain ⟨m', a1', o1', w', hd, hl, _⟩ := wr_comp ok k k (k + 1) start [] [] (Nat.le_refl _) (by omega) hk OfDone.start rfl
  rw [w] at w'
  simp only [Prod.mk.injEq] at w'
  obtain ⟨_, rfl, rfl⟩ := w'
  have hc : (canon ns k).1 = o1 := by unfold canon; rw [w]
  rw [hc]
  generalize comp ns (k + 1) k [] = done at hd hl ⊢
  constructor
  · rintro rfl
    refine List.ext_getElem? (fun i => ?_)
    by_cases hi : i < o1.length
    · rw [incr_get hi]
      have hg : done[i]? = some (done[i]'(by omega)) := List.getElem?_eq_getElem _
      obtain ⟨j1, j2, j3⟩ := i1.val _ _ (hd.2.2.2.1 i _ hg)
      rw [hg, sem_eq ok j2 j1 j3]
    · rw [List.getElem?_eq_none (by omega), List.getElem?_eq_none (by rw [incr_len]; omega)]
  · rintro rfl
    rw [incr_len] at hl
    have hs : ∀ i, i < ns.length + 2 → ∀ s, sem o1 i s = sem ns i s := by
      intro i hi s
      rcases Nat.lt_or_ge i 2 with h2 | h2
      · rcases (show i = 0 ∨ i = 1 by omega) with rfl | rfl
        · rw [sem_zero, sem_zero]
        · rw [sem_one, sem_one]
      · obtain ⟨j1, j2, j3⟩ := i1.val _ _ (hd.2.2.2.1 (i - 2) i (by rw [incr_get (by omega)]; congr 1; omega))
        rw [show i - 2 + 2 = i from by omega] at j3
        exact j3 s
    refine List.ext_getElem? (fun i => ?_)
    by_cases hi : i < ns.length
    · have hn : ns[i]? = some (ns[i]) := List.getElem?_eq_getElem _
      rcases cross i1.ok ok (k := i + 2) (k' := i + 2) (by omega) (by omega) (hs _ (by omega)) with ⟨h2, _⟩ | ⟨t, t', v, l, h, l', h', e1, e2, g1, g2, el, eh⟩
      · omega
      · obtain rfl : i = t := by omega
        obtain rfl : i = t' := by omega
        obtain ⟨_, c1, c2, _⟩ := i1.ok.node _ _ _ _ g1
        obtain ⟨_, d1, d2, _⟩ := ok.node _ _ _ _ g2
        rw [g1, g2, sem_eq ok (k := l) (k' := l') (by omega) (by omega) (fun s => by rw [← hs l (by omega), el]), sem_eq ok (k := h) (k' := h') (by omega) (by omega) (fun s => by rw [← hs h (by omega), eh])]
    · rw [List.getElem?_eq_none (by omega), List.getElem?_eq_none (by omega)]
end Go.Proofs.Ytgenpcokpodhkaa
