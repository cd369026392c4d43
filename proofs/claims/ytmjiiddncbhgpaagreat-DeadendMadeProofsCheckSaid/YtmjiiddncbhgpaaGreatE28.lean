/- What the law asks for, part 28: DgPure. -/
import Init
namespace Go.Proofs.YtmjiiddncbhgpaaGreat
/-- a node: level, low, high -/
abbrev BN := Nat × Nat × Nat

/-- what node number k of a list of nodes means for an assignment -/
def sem (ns : List BN) (k : Nat) (s : Nat → Bool) : Bool :=
  if k < 2 then k == 1 else
    match ns[k - 2]? with
    | none => false
    | some n => if _h : n.2.1 < k ∧ n.2.2 < k then (if s n.1 = true then sem ns n.2.2 s else sem ns n.2.1 s) else false
termination_by k
decreasing_by
  · exact _h.2
  · exact _h.1

def lvl (L : Nat) (ns : List BN) (k : Nat) : Nat := if k < 2 then L else (ns[k - 2]?.map (·.1)).getD L

/-- the nodes are ordered and reduced -/
structure OkD (L : Nat) (ns : List BN) : Prop where
  node : ∀ (i : Nat) (v l h : Nat), ns[i]? = some (v, l, h) → v < L ∧ l < i + 2 ∧ h < i + 2 ∧ l ≠ h ∧ v < lvl L ns l ∧ v < lvl L ns h
  one : ∀ (i j : Nat) (n : BN), ns[i]? = some n → ns[j]? = some n → i = j

theorem sem_zero (ns : List BN) (s : Nat → Bool) : sem ns 0 s = false := by rw [sem]; rfl
theorem sem_one (ns : List BN) (s : Nat → Bool) : sem ns 1 s = true := by rw [sem]; rfl
theorem lvl_small {L k : Nat} (ns : List BN) (h : k < 2) : lvl L ns k = L := by rw [lvl, if_pos h]
theorem lvl_node {L i v l h : Nat} {ns : List BN} (hn : ns[i]? = some (v, l, h)) : lvl L ns (i + 2) = v := by
  rw [lvl, if_neg (by omega), Nat.add_sub_cancel, hn]
  rfl

section
variable {L : Nat} {ns : List BN}
theorem sem_node (ok : OkD L ns) {i v l h : Nat} (hn : ns[i]? = some (v, l, h)) (s : Nat → Bool) : sem ns (i + 2) s = if s v = true then sem ns h s else sem ns l s := by
  obtain ⟨_, h1, h2, _⟩ := ok.node i v l h hn
  rw [sem, if_neg (by omega)]
  simp only [Nat.add_sub_cancel, hn]
  rw [dif_pos ⟨h1, h2⟩]
theorem lvl_le (ok : OkD L ns) (k : Nat) : lvl L ns k ≤ L := by
  unfold lvl
  split
  · exact Nat.le_refl _
  · cases hn : ns[k - 2]? with
    | none => simp
    | some n =>
      obtain ⟨v, l, h⟩ := n
      have := (ok.node _ v l h hn).1
      simp
      omega
theorem node_of {k : Nat} (hk : 2 ≤ k) (hlt : k < ns.length + 2) : ∃ i v l h, k = i + 2 ∧ ns[i]? = some (v, l, h) := by
  have h1 : k - 2 < ns.length := by omega
  exact ⟨k - 2, ns[k - 2].1, ns[k - 2].2.1, ns[k - 2].2.2, by omega, List.getElem?_eq_getElem h1⟩
/-- a node looks at the variables from its level on alone -/
theorem sem_dep (ok : OkD L ns) : ∀ (n k : Nat), k ≤ n → k < ns.length + 2 → ∀ (s t : Nat → Bool), (∀ v, lvl L ns k ≤ v → s v = t v) → sem ns k s = sem ns k t := by
  intro n
  induction n with
  | zero =>
    intro k hk _ s t _
    obtain rfl : k = 0 := by omega
    rw [sem_zero, sem_zero]
  | succ n ih =>
    intro k hk hlt s t hst
    by_cases h2 : k < 2
    · rcases (show k = 0 ∨ k = 1 by omega) with rfl | rfl
      · rw [sem_zero, sem_zero]
      · rw [sem_one, sem_one]
    · obtain ⟨i, v, l, h, rfl, hn⟩ := node_of (ns := ns) (by omega) hlt
      obtain ⟨h1, h3, h4, h5, h6, h7⟩ := ok.node i v l h hn
      have hi : i < ns.length := (List.getElem?_eq_some_iff.1 hn).1
      rw [lvl_node hn] at hst
      rw [sem_node ok hn, sem_node ok hn, hst v (Nat.le_refl _), ih h (by omega) (by omega) s t (fun u hu => hst u (by omega)), ih l (by omega) (by omega) s t (fun u hu => hst u (by omega))]

/-- the assignment with variable v set -/
def setV (s : Nat → Bool) (v : Nat) (b : Bool) : Nat → Bool := fun u => if u = v then b else s u
theorem setV_same (s : Nat → Bool) (v : Nat) (b : Bool) : setV s v b v = b := by simp [setV]
theorem setV_other (s : Nat → Bool) {u v : Nat} (b : Bool) (h : u ≠ v) : setV s v b u = s u := by simp [setV, h]
theorem sem_low (ok : OkD L ns) {i v l h : Nat} (hn : ns[i]? = some (v, l, h)) (s : Nat → Bool) : sem ns (i + 2) (setV s v false) = sem ns l s := by
  obtain ⟨_, h3, _, _, h6, _⟩ := ok.node i v l h hn
  have hi : i < ns.length := (List.getElem?_eq_some_iff.1 hn).1
  rw [sem_node ok hn, setV_same, if_neg (by simp)]
  exact sem_dep ok l l (Nat.le_refl _) (by omega) _ _ (fun u hu => setV_other _ _ (by omega))
theorem sem_high (ok : OkD L ns) {i v l h : Nat} (hn : ns[i]? = some (v, l, h)) (s : Nat → Bool) : sem ns (i + 2) (setV s v true) = sem ns h s := by
  obtain ⟨_, _, h3, _, _, h6⟩ := ok.node i v l h hn
  have hi : i < ns.length := (List.getElem?_eq_some_iff.1 hn).1
  rw [sem_node ok hn, setV_same, if_pos rfl]
  exact sem_dep ok h h (Nat.le_refl _) (by omega) _ _ (fun u hu => setV_other _ _ (by omega))

/-- equal meaning, equal node -/
theorem sem_inj (ok : OkD L ns) : ∀ (n k k' : Nat), k ≤ n → k' ≤ n → k < ns.length + 2 → k' < ns.length + 2 → (∀ s, sem ns k s = sem ns k' s) → k = k' := by
  intro n
  induction n with
  | zero => intro k k' h h' _ _ _; omega
  | succ n ih =>
    intro k k' hk hk' hlt hlt' e
    -- a node whose variable the other does not look at
    have indep : ∀ (a b : Nat), a ≤ n + 1 → a < ns.length + 2 → b < ns.length + 2 → 2 ≤ a → lvl L ns a < lvl L ns b → (∀ s, sem ns a s = sem ns b s) → False := by
      intro a b ha halt hblt ha2 hlv hab
      obtain ⟨i, v, l, h, rfl, hn⟩ := node_of (ns := ns) ha2 halt
      obtain ⟨h1, h3, h4, h5, h6, h7⟩ := ok.node i v l h hn
      have hi : i < ns.length := (List.getElem?_eq_some_iff.1 hn).1
      rw [lvl_node hn] at hlv
      refine h5 (ih l h (by omega) (by omega) (by omega) (by omega) (fun s => ?_))
      rw [← sem_low ok hn s, ← sem_high ok hn s, hab, hab]
      exact sem_dep ok b b (Nat.le_refl _) hblt _ _ (fun u hu => by rw [setV_other _ _ (by omega), setV_other _ _ (by omega)])
    have e' : ∀ s, sem ns k' s = sem ns k s := fun s => (e s).symm
    rcases Nat.lt_trichotomy (lvl L ns k) (lvl L ns k') with hl | hl | hl
    · have : 2 ≤ k := by
        rcases Nat.lt_or_ge k 2 with h2 | h2
        · rw [lvl_small ns h2] at hl
          have := lvl_le ok k'
          omega
        · exact h2
      exact (indep k k' hk hlt hlt' this hl e).elim
    · by_cases h2 : k < 2
      · by_cases h2' : k' < 2
        · rcases (show k = 0 ∨ k = 1 by omega) with rfl | rfl <;> rcases (show k' = 0 ∨ k' = 1 by omega) with rfl | rfl
          · rfl
          · have := e (fun _ => false)
            rw [sem_zero, sem_one] at this
            cases this
          · have := e (fun _ => false)
            rw [sem_zero, sem_one] at this
            cases this
          · rfl
        · obtain ⟨i', v', l', h', rfl, hn'⟩ := node_of (ns := ns) (by omega) hlt'
          have := (ok.node i' v' l' h' hn').1
          rw [lvl_small ns h2, lvl_node hn'] at hl
          omega
      · by_cases h2' : k' < 2
        · obtain ⟨i, v, l, h, rfl, hn⟩ := node_of (ns := ns) (by omega) hlt
          have := (ok.node i v l h hn).1
          rw [lvl_small ns h2', lvl_node hn] at hl
          omega
        · obtain ⟨i, v, l, h, rfl, hn⟩ := node_of (ns := ns) (by omega) hlt
          obtain ⟨i', v', l', h', rfl, hn'⟩ := node_of (ns := ns) (by omega) hlt'
          obtain ⟨h1, h3, h4, h5, h6, h7⟩ := ok.node i v l h hn
          obtain ⟨h1', h3', h4', h5', h6', h7'⟩ := ok.node i' v' l' h' hn'
          have hi : i < ns.length := (List.getElem?_eq_some_iff.1 hn).1
          have hi' : i' < ns.length := (List.getElem?_eq_some_iff.1 hn').1
          rw [lvl_node hn, lvl_node hn'] at hl
          subst hl
          obtain rfl : l = l' := ih l l' (by omega) (by omega) (by omega) (by omega) (fun s => by rw [← sem_low ok hn s, ← sem_low ok hn' s, e])
          obtain rfl : h = h' := ih h h' (by omega) (by omega) (by omega) (by omega) (fun s => by rw [← sem_high ok hn s, ← sem_high ok hn' s, e])
          have := ok.one i i' _ hn hn'
          omega
    · have : 2 ≤ k' := by
        rcases Nat.lt_or_ge k' 2 with h2 | h2
        · rw [lvl_small ns h2] at hl
          have := lvl_le ok k
          omega
        · exact h2
      exact (indep k' k hk' hlt' hlt this hl e').elim
theorem sem_eq (ok : OkD L ns) {k k' : Nat} (h : k < ns.length + 2) (h' : k' < ns.length + 2) (e : ∀ s, sem ns k s = sem ns k' s) : k = k' :=
  sem_inj ok (max k k') k k' (Nat.le_max_left _ _) (Nat.le_max_right _ _) h h' e

/-- a node looks at its own variable -/
theorem sem_looks (ok : OkD L ns) {i v l h : Nat} (hn : ns[i]? = some (v, l, h)) : ∃ s, sem ns (i + 2) (setV s v false) ≠ sem ns (i + 2) (setV s v true) := by
  obtain ⟨_, h3, h4, h5, _, _⟩ := ok.node i v l h hn
  have hi : i < ns.length := (List.getElem?_eq_some_iff.1 hn).1
  apply Classical.byContradiction
  intro hno
  refine h5 (sem_eq ok (by omega) (by omega) (fun s => ?_))
  rw [← sem_low ok hn s, ← sem_high ok hn s]
  apply Classical.byContradiction
  exact fun hne => hno ⟨s, hne⟩
end
/-- nodes of equal meaning in two lists -/
theorem cross {L : Nat} {ns ns' : List BN} (ok : OkD L ns) (ok' : OkD L ns') {k k' : Nat} (hk : k < ns.length + 2) (hk' : k' < ns'.length + 2) (e : ∀ s, sem ns k s = sem ns' k' s) :
    (k < 2 ∧ k' = k) ∨ ∃ i i' v l h l' h', k = i + 2 ∧ k' = i' + 2 ∧ ns[i]? = some (v, l, h) ∧ ns'[i']? = some (v, l', h') ∧ (∀ s, sem ns l s = sem ns' l' s) ∧ ∀ s, sem ns h s = sem ns' h' s := by
  by_cases h2 : k < 2 <;> by_cases h2' : k' < 2
  · left
    refine ⟨h2, ?_⟩
    have := e (fun _ => false)
    rcases (show k = 0 ∨ k = 1 by omega) with rfl | rfl <;> rcases (show k' = 0 ∨ k' = 1 by omega) with rfl | rfl <;> simp [sem_zero, sem_one] at this ⊢
  · exfalso
    obtain ⟨i', v', l', h', rfl, hn'⟩ := node_of (ns := ns') (by omega) hk'
    obtain ⟨s, hs⟩ := sem_looks ok' hn'
    refine hs ?_
    rw [← e, ← e]
    rcases (show k = 0 ∨ k = 1 by omega) with rfl | rfl <;> simp [sem_zero, sem_one]
  · exfalso
    obtain ⟨i, v, l, h, rfl, hn⟩ := node_of (ns := ns) (by omega) hk
    obtain ⟨s, hs⟩ := sem_looks ok hn
    refine hs ?_
    rw [e, e]
    rcases (show k' = 0 ∨ k' = 1 by omega) with rfl | rfl <;> simp [sem_zero, sem_one]
  · right
    obtain ⟨i, v, l, h, rfl, hn⟩ := node_of (ns := ns) (by omega) hk
    obtain ⟨i', v', l', h', rfl, hn'⟩ := node_of (ns := ns') (by omega) hk'
    have hv : v = v' := by
      rcases Nat.lt_trichotomy v v' with hl | hl | hl
      · exfalso
        obtain ⟨s, hs⟩ := sem_looks ok hn
        refine hs ?_
        rw [e, e]
        exact sem_dep ok' _ _ (Nat.le_refl _) hk' _ _ (fun u hu => by rw [lvl_node hn'] at hu; rw [setV_other _ _ (by omega), setV_other _ _ (by omega)])
      · exact hl
      · exfalso
        obtain ⟨s, hs⟩ := sem_looks ok' hn'
        refine hs ?_
        rw [← e, ← e]
        exact sem_dep ok _ _ (Nat.le_refl _) hk _ _ (fun u hu => by rw [lvl_node hn] at hu; rw [setV_other _ _ (by omega), setV_other _ _ (by omega)])
    subst hv
    exact ⟨i, i', v, l, h, l', h', rfl, rfl, hn, hn', fun s => by rw [← sem_low ok hn s, ← sem_low ok' hn' s, e], fun s => by rw [← sem_high ok hn s, ← sem_high ok' hn' s, e]⟩

/-! ### more nodes behind the old ones -/
theorem sem_more {L : Nat} {ns : List BN} (ok : OkD L ns) (ms : List BN) : ∀ (n k : Nat), k ≤ n → k < ns.length + 2 → ∀ s, sem (ns ++ ms) k s = sem ns k s := by
  intro n
  induction n with
  | zero =>
    intro k hk _ s
    obtain rfl : k = 0 := by omega
    rw [sem_zero, sem_zero]
  | succ n ih =>
    intro k hk hlt s
    by_cases h2 : k < 2
    · rcases (show k = 0 ∨ k = 1 by omega) with rfl | rfl
      · rw [sem_zero, sem_zero]
      · rw [sem_one, sem_one]
    · obtain ⟨i, v, l, h, rfl, hn⟩ := node_of (ns := ns) (by omega) hlt
      obtain ⟨_, h3, h4, _⟩ := ok.node i v l h hn
      have hi : i < ns.length := (List.getElem?_eq_some_iff.1 hn).1
      rw [sem_node ok hn, sem, if_neg (by omega)]
      simp only [Nat.add_sub_cancel]
      rw [List.getElem?_append_left hi, hn]
      simp only
      rw [dif_pos ⟨h3, h4⟩, ih h (by omega) (by omega), ih l (by omega) (by omega)]
theorem sem_add {L : Nat} {ns : List BN} (ok : OkD L ns) (ms : List BN) {k : Nat} (hk : k < ns.length + 2) (s : Nat → Bool) : sem (ns ++ ms) k s = sem ns k s := sem_more ok ms k k (Nat.le_refl _) hk s
theorem lvl_add {L : Nat} {ns : List BN} (ms : List BN) {k : Nat} (hk : k < ns.length + 2) : lvl L (ns ++ ms) k = lvl L ns k := by
  unfold lvl
  split
  · rfl
  · rw [List.getElem?_append_left (by omega)]
/-- a new node behind the old ones -/
theorem OkD.push {L : Nat} {ns : List BN} (ok : OkD L ns) {v l h : Nat} (hv : v < L) (hl : l < ns.length + 2) (hh : h < ns.length + 2) (hne : l ≠ h) (h1 : v < lvl L ns l) (h2 : v < lvl L ns h) (hnew : (v, l, h) ∉ ns) : OkD L (ns ++ [(v, l, h)]) := by
  have hold : ∀ i n, (ns ++ [(v, l, h)])[i]? = some n → (i < ns.length ∧ ns[i]? = some n) ∨ (i = ns.length ∧ n = (v, l, h)) := by
    intro i n hi
    by_cases hlt : i < ns.length
    · rw [List.getElem?_append_left hlt] at hi
      exact .inl ⟨hlt, hi⟩
    · rw [List.getElem?_append_right (by omega)] at hi
      have h0 : i - ns.length = 0 := by
        have := (List.getElem?_eq_some_iff.1 hi).1
        simpa using this
      rw [h0] at hi
      exact .inr ⟨by omega, by simpa using hi.symm⟩
  constructor
  · intro i v' l' h' hi
    rcases hold i _ hi with ⟨hlt, hn⟩ | ⟨rfl, e⟩
    · obtain ⟨a1, a2, a3, a4, a5, a6⟩ := ok.node i v' l' h' hn
      exact ⟨a1, a2, a3, a4, by rw [lvl_add _ (by omega)]; exact a5, by rw [lvl_add _ (by omega)]; exact a6⟩
    · simp only [Prod.mk.injEq] at e
      obtain ⟨rfl, rfl, rfl⟩ := e
      exact ⟨hv, hl, hh, hne, by rw [lvl_add _ hl]; exact h1, by rw [lvl_add _ hh]; exact h2⟩
  · intro i j n hi hj
    rcases hold i n hi with ⟨hlt, hn⟩ | ⟨rfl, rfl⟩ <;> rcases hold j _ hj with ⟨hlt', hn'⟩ | ⟨rfl, e⟩
    · exact ok.one i j n hn hn'
    · subst e
      exact absurd (List.mem_of_getElem? hn) hnew
    · exact absurd (List.mem_of_getElem? hn') hnew
    · rfl
theorem OkD.nil (L : Nat) : OkD L [] := ⟨fun i v l h hi => by simp at hi, fun i j n hi => by simp at hi⟩
end Go.Proofs.YtmjiiddncbhgpaaGreat
namespace Go.Proofs.YtmjiiddncbhgpaaGreat
def look : List (Nat × Nat) → Nat → Option Nat
  | [], _ => none
  | p :: l, k => if p.1 = k then some p.2 else look l k
theorem look_same (l : List (Nat × Nat)) (k m : Nat) : look ((k, m) :: l) k = some m := by simp [look]
theorem look_other (l : List (Nat × Nat)) {k j : Nat} (m : Nat) (h : k ≠ j) : look ((k, m) :: l) j = look l j := by simp [look, h]

/-- the walk that completes the nodes below k -/
def wr (ns : List BN) : Nat → Nat → List (Nat × Nat) → List BN → Nat × List (Nat × Nat) × List BN
  | 0, _, at_, out => (0, at_, out)
  | f + 1, k, at_, out =>
    match look at_ k with
    | some to => (to, at_, out)
    | none =>
      match ns[k - 2]? with
      | none => (0, at_, out)
      | some n =>
        let a := wr ns f n.2.1 at_ out
        let b := wr ns f n.2.2 a.2.1 a.2.2
        (b.2.2.length + 2, (k, b.2.2.length + 2) :: b.2.1, b.2.2 ++ [(n.1, a.1, b.1)])
theorem wr_known {ns : List BN} {f k to : Nat} {at_ : List (Nat × Nat)} (out : List BN) (h : look at_ k = some to) : wr ns (f + 1) k at_ out = (to, at_, out) := by
  rw [wr, h]
theorem wr_new {ns : List BN} {f i v l h : Nat} {at_ : List (Nat × Nat)} (out : List BN) (hk : look at_ (i + 2) = none) (hn : ns[i]? = some (v, l, h)) {a b : Nat × List (Nat × Nat) × List BN} (ha : wr ns f l at_ out = a) (hb : wr ns f h a.2.1 a.2.2 = b) :
    wr ns (f + 1) (i + 2) at_ out = (b.2.2.length + 2, (i + 2, b.2.2.length + 2) :: b.2.1, b.2.2 ++ [(v, a.1, b.1)]) := by
  rw [wr, hk]
  simp only [Nat.add_sub_cancel, hn, ha, hb]
def start : List (Nat × Nat) := [(0, 0), (1, 1)]
/-- a diagram in its canonical form -/
def canon (ns : List BN) (k : Nat) : List BN × Nat := ((wr ns (k + 1) k start []).2.2, (wr ns (k + 1) k start []).1)

/-- set number i of the variables from lv to L - 1 -/
def bits (L lv i : Nat) : Nat → Bool := fun v => decide (lv ≤ v ∧ v < L) && ((i >>> (L - 1 - v)) % 2 == 1)
section
variable {L lv : Nat} {ns : List BN} {k : Nat} {vals : List Bool}
end
/-! ### the reference's folding -/
abbrev Part := Nat × List Bool × Nat
def findPart : List Part → Nat → List Bool → Option Nat
  | [], _, _ => none
  | p :: l, lv, vals => if p.1 = lv ∧ p.2.1 = vals then some p.2.2 else findPart l lv vals
def fold : Nat → List BN → Nat → List Bool → List Part → List BN × Nat × List Part
  | 0, out, _, _, known => (out, 0, known)
  | f + 1, out, lv, vals, known =>
    if vals.length = 1 then (out, if vals.headD false = true then 1 else 0, known)
    else if vals.take (vals.length / 2) = vals.drop (vals.length / 2) then fold f out (lv + 1) (vals.take (vals.length / 2)) known
    else match findPart known lv vals with
      | some k => (out, k, known)
      | none =>
        let a := fold f out (lv + 1) (vals.take (vals.length / 2)) known
        let b := fold f a.1 (lv + 1) (vals.drop (vals.length / 2)) a.2.2
        (b.1 ++ [(lv, a.2.1, b.2.1)], b.1.length + 2, b.2.2 ++ [(lv, vals, b.1.length + 2)])

def canonical (L : Nat) (vals : List Bool) : List BN × Nat := ((fold (L + 1) [] 0 vals []).1, (fold (L + 1) [] 0 vals []).2.1)
end Go.Proofs.YtmjiiddncbhgpaaGreat
namespace Go.Proofs.YtmjiiddncbhgpaaGreat
/-- equal meaning, equal level -/
theorem lvl_cross {L : Nat} {ns ns' : List BN} (ok : OkD L ns) (ok' : OkD L ns') {k k' : Nat} (hk : k < ns.length + 2) (hk' : k' < ns'.length + 2) (e : ∀ s, sem ns k s = sem ns' k' s) : lvl L ns k = lvl L ns' k' := by
  rcases cross ok ok' hk hk' e with ⟨h2, rfl⟩ | ⟨i, i', v, l, h, l', h', rfl, rfl, hn, hn', _⟩
  · rw [lvl_small _ h2, lvl_small _ h2]
  · rw [lvl_node hn, lvl_node hn']

/-- what a walk has written so far -/
structure WInv (L : Nat) (ns : List BN) (at_ : List (Nat × Nat)) (out : List BN) : Prop where
  ok : OkD L out
  val : ∀ j m, look at_ j = some m → j < ns.length + 2 ∧ m < out.length + 2 ∧ ∀ s, sem out m s = sem ns j s
  all : ∀ i, i < out.length → ∃ j, look at_ j = some (i + 2)
  zero : look at_ 0 = some 0
  one : look at_ 1 = some 1
theorem WInv.start (L : Nat) (ns : List BN) : WInv L ns start [] := by
  refine ⟨OkD.nil L, fun j m h => ?_, fun i hi => by simp at hi, rfl, rfl⟩
  unfold Go.Proofs.YtmjiiddncbhgpaaGreat.start at h
  by_cases h0 : j = 0
  · subst h0
    simp [look] at h
    subst h
    exact ⟨by omega, by simp, fun s => by rw [sem_zero, sem_zero]⟩
  · rw [look_other _ _ (fun e => h0 e.symm)] at h
    by_cases h1 : j = 1
    · subst h1
      simp [look] at h
      subst h
      exact ⟨by omega, by simp, fun s => by rw [sem_one, sem_one]⟩
    · rw [look_other _ _ (fun e => h1 e.symm)] at h
      cases h
theorem wr_inv {L : Nat} {ns : List BN} (ok : OkD L ns) : ∀ (n k f : Nat) (at_ : List (Nat × Nat)) (out : List BN), k ≤ n → k < f → k < ns.length + 2 → WInv L ns at_ out →
    ∃ m a1 o1 ms, wr ns f k at_ out = (m, a1, o1) ∧ o1 = out ++ ms ∧ WInv L ns a1 o1 ∧ look a1 k = some m ∧ (∀ j, k < j → look a1 j = look at_ j) ∧ ∀ j x, look at_ j = some x → look a1 j = some x := by
  intro n
  induction n with
  | zero =>
    intro k f at_ out hk hf hlt hi
    obtain rfl : k = 0 := by omega
    obtain ⟨f, rfl⟩ : ∃ g, f = g + 1 := ⟨f - 1, by omega⟩
    exact ⟨0, at_, out, [], wr_known out hi.zero, by simp, hi, hi.zero, fun _ _ => rfl, fun _ _ h => h⟩
  | succ n ih =>
    intro k f at_ out hk hf hlt hi
    obtain ⟨f, rfl⟩ : ∃ g, f = g + 1 := ⟨f - 1, by omega⟩
    cases hl : look at_ k with
    | some to => exact ⟨to, at_, out, [], wr_known out hl, by simp, hi, hl, fun _ _ => rfl, fun _ _ h => h⟩
    | none =>
      have h2 : ¬ k < 2 := fun h => by
        rcases (show k = 0 ∨ k = 1 by omega) with rfl | rfl
        · rw [hi.zero] at hl; cases hl
        · rw [hi.one] at hl; cases hl
      obtain ⟨i, v, l, h, rfl, hn⟩ := node_of (ns := ns) (by omega) hlt
      obtain ⟨b0, b1, b2, b3, b4, b5⟩ := ok.node i v l h hn
      obtain ⟨ma, aa, oa, ms1, w1, e1, i1, l1, k1, s1⟩ := ih l f at_ out (by omega) (by omega) (by omega) hi
      obtain ⟨mb, ab, ob, ms2, w2, e2, i2, l2, k2, s2⟩ := ih h f aa oa (by omega) (by omega) (by omega) i1
      have hnone : look ab (i + 2) = none := by rw [k2 _ (by omega), k1 _ (by omega)]; exact hl
      obtain ⟨_, va, sa⟩ := i2.val l ma (s2 l ma l1)
      obtain ⟨_, vb, sb⟩ := i2.val h mb l2
      have hne : ma ≠ mb := fun e => b3 (sem_eq ok (by omega) (by omega) (fun s => by rw [← sa, ← sb, e]))
      have la : v < lvl L ob ma := by rw [lvl_cross i2.ok ok va (by omega) sa]; exact b4
      have lb : v < lvl L ob mb := by rw [lvl_cross i2.ok ok vb (by omega) sb]; exact b5
      have hnew : (v, ma, mb) ∉ ob := fun hm => by
        obtain ⟨t, ht, he⟩ := List.mem_iff_getElem.1 hm
        have hg : ob[t]? = some (v, ma, mb) := by rw [← he]; exact List.getElem?_eq_getElem ht
        obtain ⟨j, hj⟩ := i2.all t ht
        obtain ⟨j1, j2, j3⟩ := i2.val j _ hj
        have : j = i + 2 := sem_eq ok j1 hlt (fun s => by
          rw [← j3, sem_node i2.ok hg, sem_node ok hn, sa, sb])
        rw [this, hnone] at hj
        cases hj
      have ok1 := i2.ok.push b0 va vb hne la lb hnew
      have hlast : (ob ++ [(v, ma, mb)])[ob.length]? = some (v, ma, mb) := by simp
      refine ⟨ob.length + 2, (i + 2, ob.length + 2) :: ab, ob ++ [(v, ma, mb)], ms1 ++ ms2 ++ [(v, ma, mb)], ?_, ?_, ⟨ok1, fun j m hj => ?_, fun t ht => ?_, ?_, ?_⟩, look_same _ _ _, fun j hj => ?_, fun j x hj => ?_⟩
      · rw [wr_new (a := (ma, aa, oa)) (b := (mb, ab, ob)) out hl hn w1 w2]
      · rw [e2, e1]; simp
      · by_cases hji : i + 2 = j
        · subst hji
          rw [look_same] at hj
          injection hj with hj
          subst hj
          refine ⟨hlt, by simp, fun s => ?_⟩
          rw [sem_node ok1 hlast, sem_node ok hn, sem_add i2.ok _ va, sem_add i2.ok _ vb, sa, sb]
        · rw [look_other _ _ hji] at hj
          obtain ⟨x1, x2, x3⟩ := i2.val j m hj
          exact ⟨x1, by simp; omega, fun s => by rw [sem_add i2.ok _ x2, x3]⟩
      · simp at ht
        by_cases hto : t = ob.length
        · subst hto
          exact ⟨i + 2, look_same _ _ _⟩
        · obtain ⟨j, hj⟩ := i2.all t (by omega)
          refine ⟨j, ?_⟩
          rw [look_other _ _ (fun e => by rw [← e, hnone] at hj; cases hj)]
          exact hj
      · rw [look_other _ _ (by omega)]; exact i2.zero
      · rw [look_other _ _ (by omega)]; exact i2.one
      · rw [look_other _ _ (by omega), k2 j (by omega), k1 j (by omega)]
      · have := s2 j x (s1 j x hj)
        rw [look_other _ _ (fun e => by rw [← e, hnone] at this; cases this)]
        exact this
/-- the canonical text is a diagram of the same meaning -/
theorem canon_ok {L : Nat} {ns : List BN} (ok : OkD L ns) {k : Nat} (hk : k < ns.length + 2) :
    OkD L (canon ns k).1 ∧ (canon ns k).2 < (canon ns k).1.length + 2 ∧ ∀ s, sem (canon ns k).1 (canon ns k).2 s = sem ns k s := by
  obtain ⟨m, a1, o1, ms, w, _, i1, l1, _, _⟩ := wr_inv ok k k (k + 1) start [] (Nat.le_refl _) (by omega) hk (WInv.start L ns)
  obtain ⟨_, h2, h3⟩ := i1.val k m l1
  unfold canon
  rw [w]
  exact ⟨i1.ok, h2, h3⟩
end Go.Proofs.YtmjiiddncbhgpaaGreat
