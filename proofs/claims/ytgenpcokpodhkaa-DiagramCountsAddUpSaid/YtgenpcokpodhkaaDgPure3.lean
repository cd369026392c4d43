/- The canonical text of a diagram is a diagram of the same meaning; what a walk completes, and when a text is its own canonical text. -/
import Derived.Test.YtgenpcokpodhkaaDgPure2
namespace Go.Proofs.Ytgenpcokpodhkaa

/-- equal meaning, equal level -/
theorem lvl_cross {L : Nat} {ns ns' : List BN} (ok : OkD L ns) (ok' : OkD L ns') {k k' : Nat} (hk : k < ns.length + 2) (hk' : k' < ns'.length + 2) (e : ∀ s, sem ns k s = sem ns' k' s) : lvl L ns k = lvl L ns' k' := by
  rcases cross ok ok' hk hk' e with ⟨h2, rfl⟩ | ⟨i, i', v, l, h, l', h', rfl, rfl, hn, hn', _⟩
  · rw [lvl_small _ h2, lvl_small _ h2]
  · rw [lvl_node hn, lvl_node hn']

/-- what a walk has written so far -/
structure WInv (L : Nat) (ns : List BN) (at_ : List (Nat × Nat)) (out : List BN) : Prop where
  ok : OkD L out
  val : ∀ j m, look at_ j = some m → j < ns.length + 2 ∧ m < out.length + 2 ∧ ∀ s, sem out m s = sem ns j s
  all : ∀ i, i < out.length → ∃ j, look at_ j = some (i + 2)
  zero : look at_ 0 = some 0
  one : look at_ 1 = some 1
theorem WInv.start (L : Nat) (ns : List BN) : WInv L ns start [] := by
  refine ⟨OkD.nil L, fun j m h => ?_, fun i hi => by simp at hi, rfl, rfl⟩
  unfold Go.Proofs.Ytgenpcokpodhkaa.start at h
  by_cases h0 : j = 0
  · subst h0
    simp [look] at h
    subst h
    exact ⟨by omega, by simp, fun s => by rw [sem_zero, sem_zero]⟩
  · rw [look_other _ _ (fun e => h0 e.symm)] at h
    by_cases h1 : j = 1
    · subst h1
      simp [look] at h
      subst h
      exact ⟨by omega, by simp, fun s => by rw [sem_one, sem_one]⟩
    · rw [look_other _ _ (fun e => h1 e.symm)] at h
      cases h
theorem wr_inv {L : Nat} {ns : List BN} (ok : OkD L ns) : ∀ (n k f : Nat) (at_ : List (Nat × Nat)) (out : List BN), k ≤ n → k < f → k < ns.length + 2 → WInv L ns at_ out →
    ∃ m a1 o1 ms, wr ns f k at_ out = (m, a1, o1) ∧ o1 = out ++ ms ∧ WInv L ns a1 o1 ∧ look a1 k = some m ∧ (∀ j, k < j → look a1 j = look at_ j) ∧ ∀ j x, look at_ j = some x → look a1 j = some x := by
  intro n
  induction n with
  | zero =>
    intro k f at_ out hk hf hlt hi
    obtain rfl : k = 0 := by omega
    obtain ⟨f, rfl⟩ : ∃ g, f = g + 1 := ⟨f - 1, by omega⟩
    exact ⟨0, at_, out, [], wr_known out hi.zero, by simp, hi, hi.zero, fun _ _ => rfl, fun _ _ h => h⟩
  | succ n ih =>
    intro k f at_ out hk hf hlt hi
    obtain ⟨f, rfl⟩ : ∃ g, f = g + 1 := ⟨f - 1, by omega⟩
    cases hl : look at_ k with
    | some to => exact ⟨to, at_, out, [], wr_known out hl, by simp, hi, hl, fun _ _ => rfl, fun _ _ h => h⟩
    | none =>
      have h2 : ¬ k < 2 := fun h => by
        rcases (show k = 0 ∨ k = 1 by omega) with rfl | rfl
        · rw [hi.zero] at hl; cases hl
        · rw [hi.one] at hl; cases hl
      obtain ⟨i, v, l, h, rfl, hn⟩ := node_of (ns := ns) (by omega) hlt
      obtain ⟨b0, b1, b2, b3, b4, b5⟩ := ok.node i v l h hn
      obtain ⟨ma, aa, oa, ms1, w1, e1, i1, l1, k1, s1⟩ := ih l f at_ out (by omega) (by omega) (by omega) hi
      obtain ⟨mb, ab, ob, ms2, w2, e2, i2, l2, k2, s2⟩ := ih h f aa oa (by omega) (by omega) (by omega) i1
      have hnone : look ab (i + 2) = none := by rw [k2 _ (by omega), k1 _ (by omega)]; exact hl
      obtain ⟨_, va, sa⟩ := i2.val l ma (s2 l ma l1)
      obtain ⟨_, vb, sb⟩ := i2.val h mb l2
      have hne : ma ≠ mb := fun e => b3 (sem_eq ok (by omega) (by omega) (fun s => by rw [← sa, ← sb, e]))
      have la : v < lvl L ob ma := by rw [lvl_cross i2.ok ok va (by omega) sa]; exact b4
      have lb : v < lvl L ob mb := by rw [lvl_cross i2.ok ok vb (by omega) sb]; exact b5
      have hnew : (v, ma, mb) ∉ ob := fun hm => by
        obtain ⟨t, ht, he⟩ := List.mem_iff_getElem.1 hm
        have hg : ob[t]? = some (v, ma, mb) := by rw [← he]; exact List.getElem?_eq_getElem ht
        obtain ⟨j, hj⟩ := i2.all t ht
        obtain ⟨j1, j2, j3⟩ := i2.val j _ hj
        have : j = i + 2 := sem_eq ok j1 hlt (fun s => by
          rw [← j3, sem_node i2.ok hg, sem_node ok hn, sa, sb])
        rw [this, hnone] at hj
        cases hj
      have ok1 := i2.ok.push b0 va vb hne la lb hnew
      have hlast : (ob ++ [(v, ma, mb)])[ob.length]? = some (v, ma, mb) := by simp
      refine ⟨ob.length + 2, (i + 2, ob.length + 2) :: ab, ob ++ [(v, ma, mb)], ms1 ++ ms2 ++ [(v, ma, mb)], ?_, ?_, ⟨ok1, fun j m hj => ?_, fun t ht => ?_, ?_, ?_⟩, look_same _ _ _, fun j hj => ?_, fun j x hj => ?_⟩
      · rw [wr_new (a := (ma, aa, oa)) (b := (mb, ab, ob)) out hl hn w1 w2]
      · rw [e2, e1]; simp
      · by_cases hji : i + 2 = j
        · subst hji
          rw [look_same] at hj
          injection hj with hj
          subst hj
          refine ⟨hlt, by simp, fun s => ?_⟩
          rw [sem_node ok1 hlast, sem_node ok hn, sem_add i2.ok _ va, sem_add i2.ok _ vb, sa, sb]
        · rw [look_other _ _ hji] at hj
          obtain ⟨x1, x2, x3⟩ := i2.val j m hj
          exact ⟨x1, by simp; omega, fun s => by rw [sem_add i2.ok _ x2, x3]⟩
      · simp at ht
        by_cases hto : t = ob.length
        · subst hto
          exact ⟨i + 2, look_same _ _ _⟩
        · obtain ⟨j, hj⟩ := i2.all t (by omega)
          refine ⟨j, ?_⟩
          rw [look_other _ _ (fun e => by rw [← e, hnone] at hj; cases hj)]
          exact hj
      · rw [look_other _ _ (by omega)]; exact i2.zero
      · rw [look_other _ _ (by omega)]; exact i2.one
      · rw [look_other _ _ (by omega), k2 j (by omega), k1 j (by omega)]
      · have := s2 j x (s1 j x hj)
        rw [look_other _ _ (fun e => by rw [← e, hnone] at this; cases this)]
        exact this
/-- the canonical text is a diagram of the same meaning -/
theorem canon_ok {L : Nat} {ns : List BN} (ok : OkD L ns) {k : Nat} (hk : k < ns.length + 2) :
    OkD L (canon ns k).1 ∧ (canon ns k).2 < (canon ns k).1.length + 2 ∧ ∀ s, sem (canon ns k).1 (canon ns k).2 s = sem ns k s := by
  obtain ⟨m, a1, o1, ms, w, _, i1, l1, _, _⟩ := wr_inv ok k k (k + 1) start [] (Nat.le_refl _) (by omega) hk (WInv.start L ns)
  obtain ⟨_, h2, h3⟩ := i1.val k m l1
  unfold canon
  rw [w]
  exact ⟨i1.ok, h2, h3⟩
theorem canon_canon {L : Nat} {ns : List BN} (ok : OkD L ns) {k : Nat} (hk : k < ns.length + 2) : canon (canon ns k).1 (canon ns k).2 = canon ns k :=
  let h := canon_ok ok hk
  canon_eq h.1 ok h.2.1 hk h.2.2
/-- a text whose nodes are those of its canonical text is its canonical text -/
theorem canon_self {L : Nat} {ns : List BN} (ok : OkD L ns) {k : Nat} (hk : k < ns.length + 2) (h : (canon ns k).1 = ns) : canon ns k = (ns, k) := by
  obtain ⟨_, h2, h3⟩ := canon_ok ok hk
  have : (canon ns k).2 = k := by
    rw [h] at h2 h3
    exact sem_eq ok h2 hk h3
  rw [← h] at this ⊢
  rw [h] at this ⊢
  exact Prod.ext h this

/-- the walk of the reference: the nodes in the order in which they are completed -/
def comp (ns : List BN) : Nat → Nat → List Nat → List Nat
  | 0, _, done => done
  | f + 1, k, done =>
    if k < 2 ∨ k ∈ done then done else
      match ns[k - 2]? with
      | none => done
      | some n => comp ns f n.2.2 (comp ns f n.2.1 done) ++ [k]
/-- the map of the walk, as the list of what is done -/
def OfDone (at_ : List (Nat × Nat)) (done : List Nat) : Prop := look at_ 0 = some 0 ∧ look at_ 1 = some 1 ∧ (∀ j, j ∈ done → 2 ≤ j) ∧ (∀ i j, done[i]? = some j → look at_ j = some (i + 2)) ∧ ∀ j, 2 ≤ j → j ∉ done → look at_ j = none
theorem wr_comp {L : Nat} {ns : List BN} (ok : OkD L ns) : ∀ (n k f : Nat) (at_ : List (Nat × Nat)) (out : List BN) (done : List Nat), k ≤ n → k < f → k < ns.length + 2 → OfDone at_ done → out.length = done.length →
    ∃ m a1 o1, wr ns f k at_ out = (m, a1, o1) ∧ OfDone a1 (comp ns f k done) ∧ o1.length = (comp ns f k done).length ∧ ∀ j, k < j → (j ∈ comp ns f k done ↔ j ∈ done) := by
  intro n
  induction n with
  | zero =>
    intro k f at_ out done hk hf hlt ho hl
    obtain rfl : k = 0 := by omega
    obtain ⟨f, rfl⟩ : ∃ g, f = g + 1 := ⟨f - 1, by omega⟩
    have hc : comp ns (f + 1) 0 done = done := by rw [comp, if_pos (.inl (by omega))]
    exact ⟨0, at_, out, wr_known out ho.1, by rw [hc]; exact ho, by rw [hc]; exact hl, by rw [hc]; exact fun _ _ => Iff.rfl⟩
  | succ n ih =>
    intro k f at_ out done hk hf hlt ho hl
    obtain ⟨f, rfl⟩ : ∃ g, f = g + 1 := ⟨f - 1, by omega⟩
    by_cases hd : k < 2 ∨ k ∈ done
    · have hc : comp ns (f + 1) k done = done := by rw [comp, if_pos hd]
      have : ∃ to, look at_ k = some to := by
        rcases hd with h | h
        · rcases (show k = 0 ∨ k = 1 by omega) with rfl | rfl
          · exact ⟨_, ho.1⟩
          · exact ⟨_, ho.2.1⟩
        · obtain ⟨i, hi, he⟩ := List.mem_iff_getElem.1 h
          exact ⟨_, ho.2.2.2.1 i k (by rw [← he]; exact List.getElem?_eq_getElem hi)⟩
      obtain ⟨to, hto⟩ := this
      exact ⟨to, at_, out, wr_known out hto, by rw [hc]; exact ho, by rw [hc]; exact hl, by rw [hc]; exact fun _ _ => Iff.rfl⟩
    · have h2 : ¬ k < 2 := fun h => hd (.inl h)
      have hnd : k ∉ done := fun h => hd (.inr h)
      have hlk := ho.2.2.2.2 k (by omega) hnd
      obtain ⟨i, v, l, h, rfl, hn⟩ := node_of (ns := ns) (by omega) hlt
      obtain ⟨b0, b1, b2, b3, b4, b5⟩ := ok.node i v l h hn
      obtain ⟨ma, aa, oa, w1, d1, n1, k1⟩ := ih l f at_ out done (by omega) (by omega) (by omega) ho hl
      obtain ⟨mb, ab, ob, w2, d2, n2, k2⟩ := ih h f aa oa _ (by omega) (by omega) (by omega) d1 n1
      have hc : comp ns (f + 1) (i + 2) done = comp ns f h (comp ns f l done) ++ [i + 2] := by
        rw [comp, if_neg hd]
        simp only [Nat.add_sub_cancel, hn]
      have hnot : i + 2 ∉ comp ns f h (comp ns f l done) := fun hm => hnd ((k1 _ (by omega)).1 ((k2 _ (by omega)).1 hm))
      rw [hc]
      refine ⟨ob.length + 2, _, _, wr_new (a := (ma, aa, oa)) (b := (mb, ab, ob)) out hlk hn w1 w2, ⟨?_, ?_, fun j hj => ?_, fun t j hj => ?_, fun j h2j hj => ?_⟩, by simp [n2], fun j hj => ?_⟩
      · rw [look_other _ _ (by omega)]; exact d2.1
      · rw [look_other _ _ (by omega)]; exact d2.2.1
      · rw [List.mem_append] at hj
        rcases hj with hj | hj
        · exact d2.2.2.1 j hj
        · simp at hj; omega
      · by_cases ht : t < (comp ns f h (comp ns f l done)).length
        · rw [List.getElem?_append_left ht] at hj
          have hm := List.mem_of_getElem? hj
          rw [look_other _ _ (fun e => hnot (by rw [e]; exact hm))]
          exact d2.2.2.2.1 t j hj
        · rw [List.getElem?_append_right (by omega)] at hj
          have h0 : t - (comp ns f h (comp ns f l done)).length = 0 := by
            have := (List.getElem?_eq_some_iff.1 hj).1
            simpa using this
          rw [h0] at hj
          simp at hj
          subst hj
          rw [look_same, n2]
          congr 1
          omega
      · rw [List.mem_append, not_or] at hj
        rw [look_other _ _ (fun e => hj.2 (by simp [e]))]
        exact d2.2.2.2.2 j h2j hj.1
      · rw [List.mem_append]
        have : j ∉ [i + 2] := by simp; omega
        constructor
        · intro h'
          rcases h' with h' | h'
          · exact (k1 _ (by omega)).1 ((k2 _ (by omega)).1 h')
          · exact (this h').elim
        · intro h'
          exact .inl ((k2 _ (by omega)).2 ((k1 _ (by omega)).2 h'))
theorem OfDone.start : OfDone start [] := by
  refine ⟨rfl, rfl, ?_, ?_, ?_⟩
  · intro j h; simp at h
  · intro i j h; simp at h
  · intro j h _
    unfold Go.Proofs.Ytgenpcokpodhkaa.start
    rw [look_other _ _ (by omega), look_other _ _ (by omega)]
    rfl
def incr (n : Nat) : List Nat := (List.range n).map (· + 2)
theorem incr_get {n i : Nat} (h : i < n) : (incr n)[i]? = some (i + 2) := by
  unfold incr
  rw [List.getElem?_map, List.getElem?_range h]
  rfl
theorem incr_len (n : Nat) : (incr n).length = n := by simp [incr]
/-- a text is its own canonical text exactly if the walk completes its nodes in their order -/
theorem canon_comp {L : Nat} {ns : List BN} (ok : OkD L ns) {k : Nat} (hk : k < ns.length + 2) : (canon ns k).1 = ns ↔ comp ns (k + 1) k [] = incr ns.length := by
  obtain ⟨m, a1, o1, ms, w, _, i1, l1, _, _⟩ := wr_inv ok k k (k + 1) start [] (Nat.le_refl _) (by omega) hk (WInv.start L ns)
  obtain ⟨m', a1', o1', w', hd, hl, _⟩ := wr_comp ok k k (k + 1) start [] [] (Nat.le_refl _) (by omega) hk OfDone.start rfl
  rw [w] at w'
  simp only [Prod.mk.injEq] at w'
  obtain ⟨_, rfl, rfl⟩ := w'
  have hc : (canon ns k).1 = o1 := by unfold canon; rw [w]
  rw [hc]
  generalize comp ns (k + 1) k [] = done at hd hl ⊢
  constructor
  · rintro rfl
    refine List.ext_getElem? (fun i => ?_)
    by_cases hi : i < o1.length
    · rw [incr_get hi]
      have hg : done[i]? = some (done[i]'(by omega)) := List.getElem?_eq_getElem _
      obtain ⟨j1, j2, j3⟩ := i1.val _ _ (hd.2.2.2.1 i _ hg)
      rw [hg, sem_eq ok j2 j1 j3]
    · rw [List.getElem?_eq_none (by omega), List.getElem?_eq_none (by rw [incr_len]; omega)]
  · rintro rfl
    rw [incr_len] at hl
    have hs : ∀ i, i < ns.length + 2 → ∀ s, sem o1 i s = sem ns i s := by
      intro i hi s
      rcases Nat.lt_or_ge i 2 with h2 | h2
      · rcases (show i = 0 ∨ i = 1 by omega) with rfl | rfl
        · rw [sem_zero, sem_zero]
        · rw [sem_one, sem_one]
      · obtain ⟨j1, j2, j3⟩ := i1.val _ _ (hd.2.2.2.1 (i - 2) i (by rw [incr_get (by omega)]; congr 1; omega))
        rw [show i - 2 + 2 = i from by omega] at j3
        exact j3 s
    refine List.ext_getElem? (fun i => ?_)
    by_cases hi : i < ns.length
    · have hn : ns[i]? = some (ns[i]) := List.getElem?_eq_getElem _
      rcases cross i1.ok ok (k := i + 2) (k' := i + 2) (by omega) (by omega) (hs _ (by omega)) with ⟨h2, _⟩ | ⟨t, t', v, l, h, l', h', e1, e2, g1, g2, el, eh⟩
      · omega
      · obtain rfl : i = t := by omega
        obtain rfl : i = t' := by omega
        obtain ⟨_, c1, c2, _⟩ := i1.ok.node _ _ _ _ g1
        obtain ⟨_, d1, d2, _⟩ := ok.node _ _ _ _ g2
        rw [g1, g2, sem_eq ok (k := l) (k' := l') (by omega) (by omega) (fun s => by rw [← hs l (by omega), el]), sem_eq ok (k := h) (k' := h') (by omega) (by omega) (fun s => by rw [← hs h (by omega), eh])]
    · rw [List.getElem?_eq_none (by omega), List.getElem?_eq_none (by omega)]
end Go.Proofs.Ytgenpcokpodhkaa
