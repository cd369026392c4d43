/- The laws on diagrams that speak of no table, in plain Lean. The law on Pick, in plain Lean. The law on counts, in plain Lean. Bounds of what the functions on diagrams return. -/
import Derived.Test.YtgenpcokpodhkaaDia12
namespace Go.Proofs.Ytgenpcokpodhkaa

/-- the diagram of a node's meaning -/
theorem diaF_ok {L : Nat} {ns : List BN} (ok : OkD L ns) {k : Nat} (hk : k < ns.length + 2) {φ : Fun} (h : ∀ s, sem ns k s = φ s) :
    OkD L (diaF L φ).1 ∧ (diaF L φ).2 < (diaF L φ).1.length + 2 ∧ (∀ s, sem (diaF L φ).1 (diaF L φ).2 s = φ s) ∧ canon (diaF L φ).1 (diaF L φ).2 = diaF L φ := by
  have e := diaF_eq ok hk h
  obtain ⟨h1, h2, h3⟩ := canon_ok ok hk
  have h4 := canon_canon ok hk
  rw [e] at h1 h2 h3 h4
  exact ⟨h1, h2, fun s => by rw [h3, h], h4⟩
/-- nothing is wrong with a valid diagram -/
theorem chk_ok {L : Nat} {ns : List BN} (ok : OkD L ns) : ∀ (l : List DI) (k : Nat), l = ((ns.map castN).drop k) → scanN (L : Int) (ns.map castN) k l = none := by
  intro l
  induction l with
  | nil => intro k _; rfl
  | cons n l ih =>
    intro k h
    have hk : (ns.map castN)[k]? = some n := by
      have := congrArg (fun l => l[0]?) h
      simpa [List.getElem?_drop] using this.symm
    have hl : l = (ns.map castN).drop (k + 1) := by
      have := congrArg List.tail h
      simpa [List.tail_drop] using this
    rw [List.getElem?_map] at hk
    obtain ⟨⟨v, lo, hi⟩, hn, he⟩ := Option.map_eq_some_iff.1 hk
    subst he
    obtain ⟨b1, b2, b3, b4, b5, b6⟩ := ok.node k v lo hi hn
    have hkl : k < ns.length := (List.getElem?_eq_some_iff.1 hn).1
    have hlv : ∀ q : Nat, lvlI (L : Int) (ns.map castN) (q : Int) = (lvl L ns q : Nat) := fun q => by
      unfold lvlI lvl
      by_cases h2 : q < 2
      · rw [if_pos (by omega), if_pos h2]
      · rw [if_neg (by omega), if_neg h2, List.getElem?_map, show ((q : Int) - 2).toNat = q - 2 from by omega]
        cases ns[q - 2]? <;> rfl
    have hch : chkN (L : Int) (ns.map castN) k (castN (v, lo, hi)) = 0 := by
      unfold chkN
      rw [if_neg, if_neg]
      · simp only [badN, castN, hlv, not_or]
        refine ⟨by omega, by omega, by omega, fun hm => ?_⟩
        obtain ⟨j, hj, hje⟩ := List.mem_iff_getElem.1 hm
        rw [List.length_take, List.length_map] at hj
        have hg : ((ns.map castN).take k)[j]? = some (castN (v, lo, hi)) := by rw [List.getElem?_eq_getElem (by rw [List.length_take, List.length_map]; exact hj), hje]; rfl
        rw [List.getElem?_take, if_pos (by omega), List.getElem?_map] at hg
        obtain ⟨m, hm1, hm2⟩ := Option.map_eq_some_iff.1 hg
        have hmm : m = (v, lo, hi) := by
          have := congrArg natN hm2
          have key : ∀ x : BN, natN (castN x) = x := fun x => by simp [natN, castN]
          rwa [key, key] at this
        subst hmm
        have := ok.one j k _ hm1 hn
        omega
      · simp only [rangeN, castN, not_or]
        omega
    unfold scanN
    rw [if_pos hch]
    exact ih (k + 1) hl
theorem valid_fault {L : Nat} {ns : List BN} {r : Nat} (h : Valid L ns r) : faultD (L : Int) (ns.map castN) (r : Int) = (0, 0) := by
  have hlow := h.low
  have hfew := h.few
  have hroot := h.root
  have hs := chk_ok h.ok (ns.map castN) 0 rfl
  have hc := faultD_canon (L := (L : Int)) (ns := ns.map castN) (r := (r : Int)) (by omega) (by omega) (by rw [List.length_map]; omega) hs (by rw [List.length_map]; omega)
  rw [hc, natN_cast, if_pos]
  have := h.canon
  simp only [Int.toNat_natCast]
  rw [this]
theorem valid_dia {L : Nat} {ns : List BN} (hL : L ≤ 24) (ok : OkD L ns) {k : Nat} (hk : k < ns.length + 2) {φ : Fun} (h : ∀ s, sem ns k s = φ s) (hf : (diaF L φ).1.length ≤ 300) : Valid L (diaF L φ).1 (diaF L φ).2 := by
  obtain ⟨h1, h2, _, h4⟩ := diaF_ok ok hk h
  exact ⟨hL, hf, h1, h2, h4⟩
/-- the diagram of a valid diagram's own meaning -/
theorem Valid.dia {L : Nat} {ns : List BN} {r : Nat} (h : Valid L ns r) {φ : Fun} (hφ : ∀ s, sem ns r s = φ s) : diaF L φ = (ns, r) := by
  rw [← diaF_eq h.ok h.root hφ, h.canon]

/-! ### negation on nodes -/
def flipN (k : Nat) : Nat := if k = 0 then 1 else if k = 1 then 0 else k
theorem flipN_big {k : Nat} (h : 2 ≤ k) : flipN k = k := by unfold flipN; rw [if_neg (by omega), if_neg (by omega)]
theorem flipN_lt {k m : Nat} (h : k < m + 2) : flipN k < m + 2 := by
  unfold flipN
  split
  · omega
  · split <;> omega
theorem flipN_inj {a b : Nat} (h : flipN a = flipN b) : a = b := by
  unfold flipN at h
  split at h <;> split at h <;> (try split at h) <;> (try split at h) <;> omega
def negN (ns : List BN) : List BN := ns.map fun n => (n.1, flipN n.2.1, flipN n.2.2)
theorem negN_len (ns : List BN) : (negN ns).length = ns.length := by simp [negN]
theorem negN_get {ns : List BN} {i : Nat} : (negN ns)[i]? = ns[i]?.map fun n => (n.1, flipN n.2.1, flipN n.2.2) := by simp [negN]
theorem negN_lvl {L : Nat} {ns : List BN} {k : Nat} : lvl L (negN ns) (flipN k) = lvl L ns k := by
  by_cases h2 : k < 2
  · have : flipN k < 2 := by unfold flipN; split; omega; split <;> omega
    rw [lvl_small _ h2, lvl_small _ this]
  · rw [flipN_big (by omega)]
    unfold lvl
    rw [if_neg h2, if_neg h2, negN_get]
    cases ns[k - 2]? <;> rfl
theorem negN_ok {L : Nat} {ns : List BN} (ok : OkD L ns) : OkD L (negN ns) := by
  refine ⟨fun i v l h hn => ?_, fun i j n hi hj => ?_⟩
  · rw [negN_get] at hn
    obtain ⟨⟨v', l', h'⟩, hg, he⟩ := Option.map_eq_some_iff.1 hn
    simp only [Prod.mk.injEq] at he
    obtain ⟨rfl, rfl, rfl⟩ := he
    obtain ⟨b1, b2, b3, b4, b5, b6⟩ := ok.node i v' l' h' hg
    exact ⟨b1, flipN_lt (m := i) b2, flipN_lt (m := i) b3, fun e => b4 (flipN_inj e), by rw [negN_lvl]; exact b5, by rw [negN_lvl]; exact b6⟩
  · rw [negN_get] at hi hj
    obtain ⟨⟨v, l, h⟩, hg, he⟩ := Option.map_eq_some_iff.1 hi
    obtain ⟨⟨v', l', h'⟩, hg', he'⟩ := Option.map_eq_some_iff.1 hj
    have := he.trans he'.symm
    simp only [Prod.mk.injEq] at this
    obtain ⟨e1, e2, e3⟩ := this
    have e2 := flipN_inj e2
    have e3 := flipN_inj e3
    subst e1 e2 e3
    exact ok.one i j _ hg hg'
theorem negN_sem {L : Nat} {ns : List BN} (ok : OkD L ns) : ∀ (n k : Nat), k ≤ n → k < ns.length + 2 → ∀ s, sem (negN ns) (flipN k) s = !sem ns k s := by
  intro n
  induction n with
  | zero =>
    intro k hk hlt s
    obtain rfl : k = 0 := by omega
    show sem (negN ns) 1 s = _
    rw [sem_zero, sem_one]
    rfl
  | succ n ih =>
    intro k hk hlt s
    by_cases h2 : k < 2
    · rcases (show k = 0 ∨ k = 1 by omega) with rfl | rfl
      · show sem (negN ns) 1 s = _
        rw [sem_zero, sem_one]
        rfl
      · show sem (negN ns) 0 s = _
        rw [sem_zero, sem_one]
        rfl
    · obtain ⟨i, v, l, h, rfl, hn⟩ := node_of (ns := ns) (by omega) hlt
      obtain ⟨b1, b2, b3, b4, b5, b6⟩ := ok.node i v l h hn
      have hi : i < ns.length := (List.getElem?_eq_some_iff.1 hn).1
      rw [flipN_big (by omega), sem_node ok hn, sem_node (negN_ok ok) (i := i) (v := v) (l := flipN l) (h := flipN h) (by rw [negN_get, hn]; rfl), ih l (by omega) (by omega), ih h (by omega) (by omega)]
      split <;> rfl
theorem flipN_small {k : Nat} : flipN k < 2 ↔ k < 2 := by
  unfold flipN
  split
  · omega
  · split <;> omega
/-- the walk goes alike -/
theorem negN_comp (ns : List BN) : ∀ (f k : Nat) (done : List Nat), comp (negN ns) f (flipN k) done = comp ns f k done := by
  intro f
  induction f with
  | zero => intro k done; rfl
  | succ f ih =>
    intro k done
    by_cases h2 : k < 2
    · rw [comp, comp, if_pos (.inl (flipN_small.2 h2)), if_pos (.inl h2)]
    · rw [flipN_big (by omega), comp, comp]
      by_cases hd : k < 2 ∨ k ∈ done
      · rw [if_pos hd, if_pos hd]
      · rw [if_neg hd, if_neg hd, negN_get]
        cases ns[k - 2]? with
        | none => rfl
        | some n =>
          simp only [Option.map_some]
          rw [ih, ih]
theorem canon_len {L : Nat} {ns : List BN} (ok : OkD L ns) {k : Nat} (hk : k < ns.length + 2) : (canon ns k).1.length = (comp ns (k + 1) k []).length := by
  obtain ⟨m, a1, o1, w, _, hl, _⟩ := wr_comp ok k k (k + 1) start [] [] (Nat.le_refl _) (by omega) hk OfDone.start rfl
  unfold canon
  rw [w]
  exact hl
/-- a negation has as many nodes -/
theorem dia_not_len {L : Nat} {ns : List BN} (ok : OkD L ns) {k : Nat} (hk : k < ns.length + 2) {φ ψ : Fun} (h : ∀ s, sem ns k s = φ s) (h' : ∀ s, ψ s = !φ s) : (diaF L ψ).1.length = (diaF L φ).1.length := by
  have hk' : flipN k < (negN ns).length + 2 := by rw [negN_len]; exact flipN_lt hk
  have e1 := diaF_eq ok hk h
  have e2 := diaF_eq (φ := ψ) (negN_ok ok) hk' (fun s => by rw [negN_sem ok k k (Nat.le_refl _) hk, h, h'])
  rw [← e1, ← e2, canon_len ok hk, canon_len (negN_ok ok) hk', negN_comp]
  by_cases h2 : k < 2
  · rw [comp, comp, if_pos (.inl h2), if_pos (.inl h2)]
  · rw [flipN_big (by omega)]

/-! ### codes of faults -/
theorem scan_code {L : Int} {ns : List DI} : ∀ (l : List DI) (k : Nat) (f : Int × Int), scanN L ns k l = some f → f.1 ≠ 0 := by
  intro l
  induction l with
  | nil => intro k f h; cases h
  | cons m l ih =>
    intro k f h
    unfold scanN at h
    split at h
    · exact ih _ _ h
    · injection h with h
      rw [← h]
      assumption
theorem fault_code {L : Int} {ns : List DI} {r : Int} (h : (faultD L ns r).1 = 0) : faultD L ns r = (0, 0) := by
  unfold faultD at h ⊢
  split
  · rw [if_pos (by assumption)] at h; cases h
  · rw [if_neg (by assumption)] at h
    split
    · rw [if_pos (by assumption)] at h; cases h
    · rw [if_neg (by assumption)] at h
      cases hs : scanN L ns 0 ns with
      | some f =>
        rw [hs] at h
        exact absurd h (scan_code ns 0 f hs)
      | none =>
        rw [hs] at h
        simp only at h ⊢
        split
        · rw [if_pos (by assumption)] at h; cases h
        · rw [if_neg (by assumption)] at h
          split
          · rfl
          · rw [if_neg (by assumption)] at h; cases h
theorem limF_code {L : Nat} {d : List BN × Nat} (h : (limF L d).2.1 = 0) : d.1.length ≤ 300 ∧ limF L d = (((L : Int), d.1.map castN, (d.2 : Int)), (0, 0)) := by
  unfold limF at h ⊢
  split
  · rw [if_pos (by assumption)] at h; cases h
  · exact ⟨by omega, rfl⟩
theorem limF_few {L : Nat} {d : List BN × Nat} (h : d.1.length ≤ 300) : limF L d = (((L : Int), d.1.map castN, (d.2 : Int)), (0, 0)) := by
  unfold limF
  rw [if_neg (by omega)]
theorem limF_many {L : Nat} {d : List BN × Nat} (h : ¬ d.1.length ≤ 300) : limF L d = ((0, [], 0), (10, -3)) := by
  unfold limF
  rw [if_pos (by omega)]
/-- what Not returns, a valid diagram given -/
theorem notR_valid {L : Nat} {ns : List BN} {r : Nat} (h : Valid L ns r) : ∃ ns' r', Valid L ns' r' ∧ (∀ s, sem ns' r' s = !sem ns r s) ∧ notR L (ns.map castN) r = (((L : Int), ns'.map castN, (r' : Int)), (0, 0)) := by
  have hk' : flipN r < (negN ns).length + 2 := by rw [negN_len]; exact flipN_lt h.root
  have hs : ∀ s, sem (negN ns) (flipN r) s = !sem ns r s := fun s => negN_sem h.ok r r (Nat.le_refl _) h.root s
  have hlen := dia_not_len h.ok h.root (φ := sem ns r) (ψ := fun s => !sem ns r s) (fun s => rfl) (fun s => rfl)
  rw [h.dia (φ := sem ns r) (fun s => rfl)] at hlen
  have hf := h.few
  have hv := valid_dia h.low (negN_ok h.ok) hk' hs (by rw [hlen]; exact hf)
  have h3 := (diaF_ok (negN_ok h.ok) hk' hs).2.2.1
  refine ⟨_, _, hv, h3, ?_⟩
  unfold notR
  rw [if_pos (valid_fault h)]
  simp only [Int.toNat_natCast, natN_cast]
  exact limF_few (by rw [hlen]; exact hf)
/-- every meaning on L variables has a diagram -/
theorem ex_dia {L : Nat} : ∀ (d lv : Nat), lv + d = L → ∀ (ns : List BN), OkD L ns → ∀ φ : Fun, (∀ s t : Nat → Bool, (∀ v, lv ≤ v → v < L → s v = t v) → φ s = φ t) →
    ∃ ms k, OkD L (ns ++ ms) ∧ k < (ns ++ ms).length + 2 ∧ lv ≤ lvl L (ns ++ ms) k ∧ ∀ s, sem (ns ++ ms) k s = φ s := by
  intro d
  induction d with
  | zero =>
    intro lv h ns ok φ hφ
    refine ⟨[], if φ (fun _ => false) = true then 1 else 0, by simpa using ok, by split <;> simp, ?_, fun s => ?_⟩
    · rw [lvl_small _ (by split <;> omega)]
      omega
    · rw [hφ s (fun _ => false) (fun v h1 h2 => by omega)]
      cases φ (fun _ => false)
      · exact sem_zero _ _
      · exact sem_one _ _
  | succ d ih =>
    intro lv h ns ok φ hφ
    have dep : ∀ b, ∀ s t : Nat → Bool, (∀ v, lv + 1 ≤ v → v < L → s v = t v) → φ (setV s lv b) = φ (setV t lv b) := fun b s t hst => hφ _ _ (fun v h1 h2 => by
      by_cases he : v = lv
      · rw [he, setV_same, setV_same]
      · rw [setV_other _ _ he, setV_other _ _ he]
        exact hst v (by omega) h2)
    obtain ⟨m0, k0, o0, l0, v0, s0⟩ := ih (lv + 1) (by omega) ns ok (fun s => φ (setV s lv false)) (dep false)
    obtain ⟨m1, k1, o1, l1, v1, s1⟩ := ih (lv + 1) (by omega) (ns ++ m0) o0 (fun s => φ (setV s lv true)) (dep true)
    have l0' : k0 < (ns ++ m0 ++ m1).length + 2 := by have := len_more (ns ++ m0) m1; omega
    obtain ⟨m2, k2, _, e2, _, e4, e5⟩ := nodeF_ok o1 (v := lv) (l := k0) (h := k1) (by omega) l0' l1 (by rw [lvl_add m1 l0]; omega) (by omega)
    have hsem : ∀ s, sem (ns ++ m0 ++ m1 ++ m2) k2 s = φ s := fun s => by
      rw [e5, s1, sem_add o0 _ l0, s0]
      cases hb : s lv
      · rw [if_neg (by simp)]
        exact hφ _ _ (fun v _ _ => by by_cases he : v = lv; rw [he, setV_same, hb]; rw [setV_other _ _ he])
      · rw [if_pos rfl]
        exact hφ _ _ (fun v _ _ => by by_cases he : v = lv; rw [he, setV_same, hb]; rw [setV_other _ _ he])
    refine ⟨m0 ++ (m1 ++ m2), k2, by rw [← List.append_assoc, ← List.append_assoc]; exact e2, by rw [← List.append_assoc, ← List.append_assoc]; exact e4, ?_, fun s => by rw [← List.append_assoc, ← List.append_assoc]; exact hsem s⟩
    rw [← List.append_assoc, ← List.append_assoc]
    exact lvl_of_dep e2 e4 (by omega) (fun s t hst => by rw [hsem, hsem]; exact hφ s t (fun v h1 _ => hst v h1))
theorem ex_dia0 {L : Nat} {φ : Fun} (hφ : ∀ s t : Nat → Bool, (∀ v, v < L → s v = t v) → φ s = φ t) : ∃ ns k, OkD L ns ∧ k < ns.length + 2 ∧ ∀ s, sem ns k s = φ s := by
  obtain ⟨ms, k, h1, h2, _, h4⟩ := ex_dia L 0 (by omega) [] (OkD.nil L) φ (fun s t h => hφ s t (fun v hv => h v (by omega) hv))
  exact ⟨_, k, h1, h2, h4⟩
theorem Valid.dep {L : Nat} {ns : List BN} {r : Nat} (h : Valid L ns r) (s t : Nat → Bool) (hst : ∀ v, v < L → s v = t v) : sem ns r s = sem ns r t := sem_beyond h.ok h.root (fun v _ h2 => hst v h2)

/-- what And and Or return, valid diagrams given -/
theorem combineR_valid {op L : Nat} {ns ns2 : List BN} {r r2 : Nat} (h : Valid L ns r) (h2 : Valid L ns2 r2) : combineR op L (ns.map castN) r L (ns2.map castN) r2 = limF L (diaF L (fun s => opF op (sem ns r s) (sem ns2 r2 s))) := by
  unfold combineR
  rw [if_pos (valid_fault h), if_pos (valid_fault h2), if_pos rfl]
  simp only [Int.toNat_natCast, natN_cast]
theorem notR_code {L : Int} {ns : List DI} {r : Int} (h : (notR L ns r).2.1 = 0) : ∃ (L' : Nat) (ds : List BN) (r' : Nat), L = L' ∧ ns = ds.map castN ∧ r = r' ∧ Valid L' ds r' := by
  have hf : faultD L ns r = (0, 0) := by
    unfold notR at h
    split at h
    · assumption
    · exact fault_code h
  obtain ⟨hv, hc, h1, h2⟩ := faultD_valid hf
  exact ⟨L.toNat, ns.map natN, r.toNat, h1.symm, hc.symm, h2.symm, hv⟩
/-- negation is an involution, and exchanges And and Or -/
def algebra (L : Int) (ns : List DI) (r L2 : Int) (ns2 : List DI) (r2 : Int) : Bool :=
  let x := notR L ns r
  let y := notR L2 ns2 r2
  if x.2.1 ≠ 0 ∨ y.2.1 ≠ 0 ∨ L ≠ L2 then true else
    let back := notR x.1.1 x.1.2.1 x.1.2.2
    let a := combineR 0 L ns r L2 ns2 r2
    let n := notR a.1.1 a.1.2.1 a.1.2.2
    let o := combineR 1 x.1.1 x.1.2.1 x.1.2.2 y.1.1 y.1.2.1 y.1.2.2
    let sw := combineR 0 L2 ns2 r2 L ns r
    if back.2.1 ≠ 0 ∨ ¬ (back.1 = (L, ns, r)) ∨ a.2 ≠ sw.2 ∨ ¬ (a.1 = sw.1) then false else
      if a.2.1 ≠ 0 ∨ o.2.1 ≠ 0 then decide (a.2 = o.2) else decide (n.2.1 = 0 ∧ n.1 = o.1)
theorem algebra_true (L : Int) (ns : List DI) (r L2 : Int) (ns2 : List DI) (r2 : Int) : algebra L ns r L2 ns2 r2 = true := by
  unfold algebra
  simp only
  by_cases h0 : (notR L ns r).2.1 ≠ 0 ∨ (notR L2 ns2 r2).2.1 ≠ 0 ∨ L ≠ L2
  · rw [if_pos h0]
  · rw [if_neg h0]
    simp only [not_or, ne_eq, Decidable.not_not] at h0
    obtain ⟨hx, hy, hLL⟩ := h0
    obtain ⟨L', ds, r', rfl, rfl, rfl, hv⟩ := notR_code hx
    obtain ⟨L2', ds2, r2', hL2, rfl, rfl, hv2⟩ := notR_code hy
    obtain rfl : L2' = L' := by omega
    subst hL2
    obtain ⟨xs, xr, hvx, hsx, hxe⟩ := notR_valid hv
    obtain ⟨ys, yr, hvy, hsy, hye⟩ := notR_valid hv2
    obtain ⟨bs, br, hvb, hsb, hbe⟩ := notR_valid hvx
    rw [hxe, hye]
    simp only
    rw [hbe, combineR_valid hv hv2, combineR_valid hvx hvy, combineR_valid hv2 hv]
    simp only
    have hback : (bs, br) = (ds, r') := by
      rw [← hvb.dia (φ := sem ds r') (fun s => by rw [hsb, hsx, Bool.not_not]), hv.dia (φ := sem ds r') (fun s => rfl)]
    simp only [Prod.mk.injEq] at hback
    obtain ⟨rfl, rfl⟩ := hback
    have hsw : (fun s => opF 0 (sem ds2 r2' s) (sem bs br s)) = fun s => opF 0 (sem bs br s) (sem ds2 r2' s) := funext fun s => opF_comm _ _ _
    rw [hsw, if_neg (by simp)]
    obtain ⟨ns0, k0, ok0, lt0, sem0⟩ := ex_dia0 (L := L2') (φ := fun s => opF 0 (sem bs br s) (sem ds2 r2' s)) (fun s t h => by rw [hv.dep s t h, hv2.dep s t h])
    have hneg : ∀ s, opF 1 (sem xs xr s) (sem ys yr s) = !opF 0 (sem bs br s) (sem ds2 r2' s) := fun s => by
      rw [hsx, hsy]
      unfold opF
      cases sem bs br s <;> cases sem ds2 r2' s <;> rfl
    have hlen := dia_not_len ok0 lt0 sem0 hneg
    by_cases h3 : (diaF L2' (fun s => opF 0 (sem bs br s) (sem ds2 r2' s))).1.length ≤ 300
    · have hva := valid_dia hv.low ok0 lt0 sem0 h3
      have hsa := (diaF_ok ok0 lt0 sem0).2.2.1
      obtain ⟨zs, zr, hvz, hsz, hze⟩ := notR_valid hva
      rw [limF_few h3, limF_few (by rw [hlen]; exact h3)]
      simp only
      rw [if_neg (by simp), hze]
      have := hvz.dia (φ := fun s => opF 1 (sem xs xr s) (sem ys yr s)) (fun s => by rw [hsz, hsa, hneg])
      rw [this]
      simp
    · rw [limF_many h3, limF_many (by rw [hlen]; exact h3)]
      simp
end Go.Proofs.Ytgenpcokpodhkaa
namespace Go.Proofs.Ytgenpcokpodhkaa

theorem pick_ok {L : Nat} {ns : List BN} (ok : OkD L ns) : ∀ (n k : Nat), k ≤ n → k < ns.length + 2 → k ≠ 0 →
    (pick ns k).2 = 1 ∧ (∀ v ∈ (pick ns k).1, lvl L ns k ≤ v ∧ v < L) ∧ List.Pairwise (· < ·) (pick ns k).1 ∧ sem ns k (fun v => decide (v ∈ (pick ns k).1)) = true := by
  intro n
  induction n with
  | zero => intro k hk _ h0; omega
  | succ n ih =>
    intro k hk hlt h0
    by_cases h2 : k < 2
    · obtain rfl : k = 1 := by omega
      rw [pick_small ns h2]
      exact ⟨rfl, fun v h => by simp at h, List.Pairwise.nil, sem_one _ _⟩
    · obtain ⟨i, v, l, h, rfl, hn⟩ := node_of (ns := ns) (by omega) hlt
      obtain ⟨b1, b2, b3, b4, b5, b6⟩ := ok.node i v l h hn
      have hi : i < ns.length := (List.getElem?_eq_some_iff.1 hn).1
      rw [pick_node ok hn, lvl_node hn]
      by_cases hl : l = 0
      · rw [if_pos hl]
        obtain ⟨c1, c2, c3, c4⟩ := ih h (by omega) (by omega) (by omega)
        refine ⟨c1, fun u hu => ?_, ?_, ?_⟩
        · rcases List.mem_cons.1 hu with rfl | hu
          · exact ⟨Nat.le_refl _, b1⟩
          · have := c2 u hu
            omega
        · exact List.Pairwise.cons (fun u hu => by have := c2 u hu; omega) c3
        · rw [sem_node ok hn, if_pos (by simp), ← c4]
          refine sem_dep ok h h (Nat.le_refl _) (by omega) _ _ (fun u hu => ?_)
          have : u ≠ v := by omega
          simp [this]
      · rw [if_neg hl]
        obtain ⟨c1, c2, c3, c4⟩ := ih l (by omega) (by omega) hl
        refine ⟨c1, fun u hu => by have := c2 u hu; omega, c3, ?_⟩
        rw [sem_node ok hn, if_neg (by simp; intro hv; have := c2 v hv; omega)]
        exact c4
theorem setOk_some (L : Nat) : ∀ (l : List Nat) (q : Nat), List.Pairwise (· < ·) (q :: l) → (∀ v ∈ l, v < L) → setOk L (some (q : Int)) (l.map Int.ofNat) = true := by
  intro l
  induction l with
  | nil => intro q _ _; rfl
  | cons x l ih =>
    intro q hp hb
    rw [List.map_cons, setOk_next, if_neg]
    · exact ih x (List.Pairwise.tail hp) (fun v hv => hb v (List.mem_cons_of_mem _ hv))
    · have h1 := List.rel_of_pairwise_cons hp (List.mem_cons_self ..)
      have h2 := hb x (List.mem_cons_self ..)
      simp only [Int.ofNat_eq_natCast, not_or]
      omega
theorem setOk_pick (L : Nat) (l : List Nat) (hp : List.Pairwise (· < ·) l) (hb : ∀ v ∈ l, v < L) : setOk L none (l.map Int.ofNat) = true := by
  cases l with
  | nil => rfl
  | cons x l =>
    rw [List.map_cons, setOk_first, if_neg]
    · exact setOk_some L l x hp (fun v hv => hb v (List.mem_cons_of_mem _ hv))
    · have h2 := hb x (List.mem_cons_self ..)
      simp only [Int.ofNat_eq_natCast, not_or]
      omega
theorem count_pos {L : Nat} {ns : List BN} (ok : OkD L ns) {k : Nat} (hk : k < ns.length + 2) (h0 : k ≠ 0) : 0 < count L ns k := by
  obtain ⟨_, c2, _, c4⟩ := pick_ok ok k k (Nat.le_refl _) hk h0
  rw [count_tot ok hk (fun _ => false), tot_pos]
  refine ⟨_, fun v hv => ?_, c4⟩
  have : v ∉ (pick ns k).1 := fun hm => by have := c2 v hm; omega
  simp [this]
theorem count_zero (L : Nat) (ns : List BN) : count L ns 0 = 0 := by unfold count; rw [cnt_zero, Nat.zero_mul]

/-- a diagram is true for the set that Pick returns, and there is one unless the count is 0 -/
def pickTrue (L : Int) (ns : List DI) (r : Int) : Bool :=
  let p := pickR L ns r
  let n := countR L ns r
  if p.2.2.1 ≠ 0 ∨ n.2.1 ≠ 0 then decide (p.2.2 = n.2) && !p.2.1 else
    if p.2.1 = false then decide (n.1 = 0) else
      decide ((evalR L ns r p.1).2.1 = 0) && (evalR L ns r p.1).1 && decide (0 < n.1)
theorem pickTrue_true (L : Int) (ns : List DI) (r : Int) : pickTrue L ns r = true := by
  unfold pickTrue
  simp only
  by_cases hf : faultD L ns r = (0, 0)
  · obtain ⟨hv, hc, h1, h2⟩ := faultD_valid hf
    have hcnt : countR L ns r = (((count L.toNat (ns.map natN) r.toNat : Nat) : Int), (0, 0)) := by unfold countR; rw [if_pos hf]
    by_cases h0 : r.toNat = 0
    · have hp : pickR L ns r = ([], false, (0, 0)) := by
        unfold pickR
        rw [if_pos hf, h0, pick_small _ (by omega), if_neg (by simp)]
      rw [hp, hcnt, h0, count_zero]
      simp
    · obtain ⟨c1, c2, c3, c4⟩ := pick_ok hv.ok r.toNat r.toNat (Nat.le_refl _) hv.root h0
      have hp : pickR L ns r = ((pick (ns.map natN) r.toNat).1.map Int.ofNat, true, (0, 0)) := by
        unfold pickR
        rw [if_pos hf, if_pos c1]
      have hpos := count_pos hv.ok hv.root h0
      have hset := setOk_pick L.toNat _ c3 (fun v hm => (c2 v hm).2)
      rw [h1] at hset
      have hev : evalR L ns r ((pick (ns.map natN) r.toNat).1.map Int.ofNat) = (true, (0, 0)) := by
        unfold evalR
        rw [if_pos hf, if_pos hset]
        rw [← c4]
        congr 2
        funext v
        have : ((v : Int) ∈ (pick (ns.map natN) r.toNat).1.map Int.ofNat) ↔ v ∈ (pick (ns.map natN) r.toNat).1 := by
          simp only [List.mem_map, Int.ofNat_eq_natCast, Int.natCast_inj, exists_eq_right]
        exact decide_eq_decide.2 this
      rw [hp, hcnt]
      simp only [hev]
      simp [hpos]
  · have hp : pickR L ns r = ([], false, faultD L ns r) := by unfold pickR; rw [if_neg hf]
    have hcnt : countR L ns r = (0, faultD L ns r) := by unfold countR; rw [if_neg hf]
    have hcode : (faultD L ns r).1 ≠ 0 := fun h => hf (fault_code h)
    rw [hp, hcnt, if_pos (.inl hcode)]
    simp
end Go.Proofs.Ytgenpcokpodhkaa
namespace Go.Proofs.Ytgenpcokpodhkaa

theorem countR_valid {L : Nat} {ns : List BN} {r : Nat} (h : Valid L ns r) : countR L (ns.map castN) r = (((count L ns r : Nat) : Int), (0, 0)) := by
  unfold countR
  rw [if_pos (valid_fault h)]
  simp only [Int.toNat_natCast, natN_cast]
theorem countR_code {L : Int} {ns : List DI} {r : Int} (h : (countR L ns r).2.1 = 0) : ∃ (L' : Nat) (ds : List BN) (r' : Nat), L = L' ∧ ns = ds.map castN ∧ r = r' ∧ Valid L' ds r' := by
  have hf : faultD L ns r = (0, 0) := by
    unfold countR at h
    split at h
    · assumption
    · exact fault_code h
  obtain ⟨hv, hc, h1, h2⟩ := faultD_valid hf
  exact ⟨L.toNat, ns.map natN, r.toNat, h1.symm, hc.symm, h2.symm, hv⟩
theorem countR_bad {L : Int} {ns : List DI} {r : Int} (h : (countR L ns r).2.1 ≠ 0) : (countR L ns r).1 = 0 := by
  unfold countR at h ⊢
  split
  · rw [if_pos (by assumption)] at h
    exact absurd rfl h
  · rfl
/-- a function and its negation are true for all sets together, those of a and b are counted once in And and Or -/
def countsTrue (L : Int) (ns : List DI) (r L2 : Int) (ns2 : List DI) (r2 : Int) : Bool :=
  let n := countR L ns r
  let x := notR L ns r
  let k := countR x.1.1 x.1.2.1 x.1.2.2
  if n.2.1 ≠ 0 then decide (n.1 = 0) else
    if x.2.1 ≠ 0 ∨ k.2.1 ≠ 0 ∨ n.1 + k.1 ≠ ((2 ^ L.toNat : Nat) : Int) then false else
      let m := countR L2 ns2 r2
      let a := combineR 0 L ns r L2 ns2 r2
      let o := combineR 1 L ns r L2 ns2 r2
      if m.2.1 ≠ 0 ∨ a.2.1 ≠ 0 ∨ o.2.1 ≠ 0 then true else
        let x2 := countR a.1.1 a.1.2.1 a.1.2.2
        let y2 := countR o.1.1 o.1.2.1 o.1.2.2
        decide (x2.2.1 = 0 ∧ y2.2.1 = 0 ∧ x2.1 + y2.1 = n.1 + m.1)
theorem countsTrue_true (L : Int) (ns : List DI) (r L2 : Int) (ns2 : List DI) (r2 : Int) : countsTrue L ns r L2 ns2 r2 = true := by
  unfold countsTrue
  simp only
  by_cases h0 : (countR L ns r).2.1 ≠ 0
  · rw [if_pos h0, countR_bad h0]
    rfl
  · rw [if_neg h0]
    simp only [ne_eq, Decidable.not_not] at h0
    obtain ⟨L', ds, r', rfl, rfl, rfl, hv⟩ := countR_code h0
    obtain ⟨xs, xr, hvx, hsx, hxe⟩ := notR_valid hv
    rw [hxe, countR_valid hv]
    simp only
    rw [countR_valid hvx]
    simp only [Int.toNat_natCast]
    have hsum : count L' ds r' + count L' xs xr = 2 ^ L' := by
      rw [count_tot hv.ok hv.root (fun _ => false), count_tot hvx.ok hvx.root (fun _ => false), show sem xs xr = fun s => !sem ds r' s from funext hsx]
      exact tot_not _ _ _ _
    rw [if_neg (by
      simp only [ne_eq, not_true_eq_false, false_or, Decidable.not_not]
      rw [← hsum]
      simp)]
    by_cases h1 : (countR L2 ns2 r2).2.1 ≠ 0 ∨ (combineR 0 L' (ds.map castN) r' L2 ns2 r2).2.1 ≠ 0 ∨ (combineR 1 L' (ds.map castN) r' L2 ns2 r2).2.1 ≠ 0
    · rw [if_pos h1]
    · rw [if_neg h1]
      simp only [not_or, ne_eq, Decidable.not_not] at h1
      obtain ⟨hm, ha, ho⟩ := h1
      obtain ⟨L2', ds2, r2', rfl, rfl, rfl, hv2⟩ := countR_code hm
      have hLL : L' = L2' := by
        apply Classical.byContradiction
        intro hne
        unfold combineR at ha
        rw [if_pos (valid_fault hv), if_pos (valid_fault hv2), if_neg (by omega)] at ha
        cases ha
      subst hLL
      rw [combineR_valid hv hv2] at ha ho ⊢
      rw [combineR_valid hv hv2]
      obtain ⟨fa, ea⟩ := limF_code ha
      obtain ⟨fo, eo⟩ := limF_code ho
      obtain ⟨na, ka, oka, lta, sema⟩ := ex_dia0 (L := L') (φ := fun s => opF 0 (sem ds r' s) (sem ds2 r2' s)) (fun s t h => by rw [hv.dep s t h, hv2.dep s t h])
      obtain ⟨no, ko, oko, lto, semo⟩ := ex_dia0 (L := L') (φ := fun s => opF 1 (sem ds r' s) (sem ds2 r2' s)) (fun s t h => by rw [hv.dep s t h, hv2.dep s t h])
      have hva := valid_dia hv.low oka lta sema fa
      have hvo := valid_dia hv.low oko lto semo fo
      have hsa := (diaF_ok oka lta sema).2.2.1
      have hso := (diaF_ok oko lto semo).2.2.1
      rw [ea, eo]
      simp only
      rw [countR_valid hva, countR_valid hvo, countR_valid hv2]
      simp only [decide_eq_true_eq, true_and]
      have := tot_and_or L' 0 (sem ds r') (sem ds2 r2') (fun _ => false)
      rw [count_tot hva.ok hva.root (fun _ => false), count_tot hvo.ok hvo.root (fun _ => false), count_tot hv.ok hv.root (fun _ => false), count_tot hv2.ok hv2.root (fun _ => false), show sem _ _ = _ from funext hsa, show sem (diaF L' (fun s => opF 1 (sem ds r' s) (sem ds2 r2' s))).1 _ = _ from funext hso]
      have e0 : (fun s => opF 0 (sem ds r' s) (sem ds2 r2' s)) = fun s => sem ds r' s && sem ds2 r2' s := rfl
      have e1 : (fun s => opF 1 (sem ds r' s) (sem ds2 r2' s)) = fun s => sem ds r' s || sem ds2 r2' s := rfl
      rw [e0, e1]
      omega
end Go.Proofs.Ytgenpcokpodhkaa
namespace Go.Proofs.Ytgenpcokpodhkaa
open Go.RowKit Go.Maps
def Small (x : DR) : Prop := (-9223372036854775808 ≤ x.1.1 ∧ x.1.1 ≤ 9223372036854775807) ∧ (-9223372036854775808 ≤ x.1.2.2 ∧ x.1.2.2 ≤ 9223372036854775807)
theorem valid_small {L : Nat} {ns : List BN} {r : Nat} (h : Valid L ns r) (f : Int × Int) : Small (((L : Int), ns.map castN, (r : Int)), f) := by
  have h1 := h.low
  have h2 := h.few
  have h3 := h.root
  exact ⟨⟨by simp only; omega, by simp only; omega⟩, ⟨by simp only; omega, by simp only; omega⟩⟩
theorem zero_small (f : Int × Int) : Small ((0, [], 0), f) := ⟨⟨by simp, by simp⟩, ⟨by simp, by simp⟩⟩
theorem notR_small (L : Int) (ns : List DI) (r : Int) : Small (notR L ns r) := by
  by_cases hf : faultD L ns r = (0, 0)
  · obtain ⟨hv, e1, e2, e3⟩ := faultD_valid hf
    obtain ⟨ns', r', hv', _, he⟩ := notR_valid hv
    rw [e1, e2, e3] at he
    rw [he, ← e2]
    exact valid_small hv' _
  · unfold notR
    rw [if_neg hf]
    exact zero_small _
theorem limF_small {L : Nat} {d : List BN × Nat} (hL : L ≤ 24) (h : d.2 < d.1.length + 2) : Small (limF L d) := by
  by_cases h3 : d.1.length ≤ 300
  · rw [limF_few h3]
    exact ⟨⟨by simp only; omega, by simp only; omega⟩, ⟨by simp only; omega, by simp only; omega⟩⟩
  · rw [limF_many h3]
    exact zero_small _
theorem combineR_small (op : Nat) (L : Int) (ns : List DI) (r L2 : Int) (ns2 : List DI) (r2 : Int) : Small (combineR op L ns r L2 ns2 r2) := by
  by_cases hf : faultD L ns r = (0, 0)
  · by_cases hf2 : faultD L2 ns2 r2 = (0, 0)
    · by_cases hl : L = L2
      · obtain ⟨hv, e1, e2, e3⟩ := faultD_valid hf
        obtain ⟨hv2, e1', e2', e3'⟩ := faultD_valid hf2
        subst hl
        obtain ⟨na, ka, oka, lta, sema⟩ := ex_dia0 (L := L.toNat) (φ := fun s => opF op (sem (ns.map natN) r.toNat s) (sem (ns2.map natN) r2.toNat s)) (fun s t h => by rw [hv.dep s t h, hv2.dep s t h])
        have h4 := (diaF_ok oka lta sema).2.1
        unfold combineR
        rw [if_pos hf, if_pos hf2, if_pos rfl]
        exact limF_small hv.low h4
      · unfold combineR
        rw [if_pos hf, if_pos hf2, if_neg hl]
        exact zero_small _
    · unfold combineR
      rw [if_pos hf, if_neg hf2]
      exact zero_small _
  · unfold combineR
    rw [if_neg hf]
    exact zero_small _
theorem count_bound {L : Nat} {ds : List BN} {r : Nat} (h : Valid L ds r) : count L ds r ≤ 2 ^ L := by
  obtain ⟨xs, xr, hvx, hsx, hxe⟩ := notR_valid h
  have hsum : count L ds r + count L xs xr = 2 ^ L := by
    rw [count_tot h.ok h.root (fun _ => false), count_tot hvx.ok hvx.root (fun _ => false), show sem xs xr = fun s => !sem ds r s from funext hsx]
    exact tot_not _ _ _ _
  omega
theorem countR_bound (L : Int) (ns : List DI) (r : Int) : 0 ≤ (countR L ns r).1 ∧ (countR L ns r).1 ≤ 16777216 := by
  by_cases hf : faultD L ns r = (0, 0)
  · obtain ⟨hv, e1, e2, e3⟩ := faultD_valid hf
    have hb := count_bound hv
    have h2 : 2 ^ L.toNat ≤ 2 ^ 24 := Nat.pow_le_pow_right (by omega) hv.low
    unfold countR
    rw [if_pos hf]
    simp only
    omega
  · unfold countR
    rw [if_neg hf]
    simp
end Go.Proofs.Ytgenpcokpodhkaa
