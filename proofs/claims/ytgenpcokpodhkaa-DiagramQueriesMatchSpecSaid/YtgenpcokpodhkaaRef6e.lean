/- The reference's folding of a table of values: what it computes in plain Lean, and what it holds in memory. -/
import Derived.Test.YtgenpcokpodhkaaRef6c
import Derived.Test.YtgenpcokpodhkaaStore7
namespace Go.Proofs.Ytgenpcokpodhkaa
set_option linter.unusedVariables false
set_option linter.unusedSimpArgs false
open Go.RowKit Go.Maps

/-- indices within the list of nodes -/
def FOk (out : List BN) (known : List Part) : Prop := (∀ n ∈ out, n.1 ≤ 100 ∧ n.2.1 ≤ out.length + 1 ∧ n.2.2 ≤ out.length + 1) ∧ ∀ p ∈ known, p.1 ≤ 100 ∧ p.2.2 ≤ out.length + 1
theorem FOk.more {out out' : List BN} {known : List Part} (h : FOk out known) (hl : out.length ≤ out'.length) : ∀ p ∈ known, p.1 ≤ 100 ∧ p.2.2 ≤ out'.length + 1 := fun p hp => by
  have := h.2 p hp
  omega
theorem findPart_mem : ∀ (l : List Part) (lv : Nat) (vals : List Bool) (k : Nat), findPart l lv vals = some k → ∃ p ∈ l, p.2.2 = k := by
  intro l
  induction l with
  | nil => intro lv vals k h; simp [findPart] at h
  | cons p l ih =>
    intro lv vals k h
    unfold findPart at h
    split at h
    · injection h with h
      exact ⟨p, by simp, h⟩
    · obtain ⟨q, hq, e⟩ := ih lv vals k h
      exact ⟨q, by simp [hq], e⟩
structure FRes (d : Nat) (out : List BN) (known : List Part) (r : List BN × Nat × List Part) : Prop where
  ok : FOk r.1 r.2.2
  idx : r.2.1 ≤ r.1.length + 1
  grow : out.length ≤ r.1.length ∧ r.1.length + 1 ≤ out.length + 2 ^ d
  kgrow : known.length ≤ r.2.2.length ∧ r.2.2.length + 1 ≤ known.length + 2 ^ d
theorem half_len {d : Nat} {vals : List Bool} (h : vals.length = 2 ^ (d + 1)) : vals.length / 2 = 2 ^ d ∧ (vals.take (vals.length / 2)).length = 2 ^ d ∧ (vals.drop (vals.length / 2)).length = 2 ^ d := by
  rw [Nat.pow_succ] at h
  refine ⟨by omega, by rw [List.length_take]; omega, by rw [List.length_drop]; omega⟩
theorem fold_res : ∀ (d lv : Nat) (out : List BN) (vals : List Bool) (known : List Part), vals.length = 2 ^ d → lv + d ≤ 60 → FOk out known → FRes d out known (fold (d + 1) out lv vals known) := by
  intro d
  induction d with
  | zero =>
    intro lv out vals known hv hl hok
    unfold fold
    rw [if_pos (by simpa using hv)]
    exact ⟨hok, by simp only; split <;> omega, by simp, by simp⟩
  | succ d ih =>
    intro lv out vals known hv hl hok
    obtain ⟨h1, h2, h3⟩ := half_len hv
    have hp : 1 ≤ 2 ^ d := Nat.one_le_two_pow
    have hne : ¬ vals.length = 1 := by rw [hv, Nat.pow_succ]; omega
    unfold fold
    rw [if_neg hne]
    split
    · have := ih (lv + 1) out (vals.take (vals.length / 2)) known h2 (by omega) hok
      obtain ⟨i1, i2, i3, i4⟩ := this
      exact ⟨i1, i2, by rw [Nat.pow_succ]; omega, by rw [Nat.pow_succ]; omega⟩
    · split
      · rename_i k hk
        obtain ⟨p, hp1, rfl⟩ := findPart_mem _ _ _ _ hk
        exact ⟨hok, (hok.2 p hp1).2, by rw [Nat.pow_succ]; simp; omega, by rw [Nat.pow_succ]; simp; omega⟩
      · have ha := ih (lv + 1) out (vals.take (vals.length / 2)) known h2 (by omega) hok
        generalize fold (d + 1) out (lv + 1) (vals.take (vals.length / 2)) known = a at ha ⊢
        obtain ⟨a1, a2, a3⟩ := a
        obtain ⟨i1, i2, i3, i4⟩ := ha
        simp only at i1 i2 i3 i4
        have hb := ih (lv + 1) a1 (vals.drop (vals.length / 2)) a3 h3 (by omega) i1
        simp only
        generalize fold (d + 1) a1 (lv + 1) (vals.drop (vals.length / 2)) a3 = b at hb ⊢
        obtain ⟨b1, b2, b3⟩ := b
        obtain ⟨j1, j2, j3, j4⟩ := hb
        simp only at j1 j2 j3 j4 ⊢
        refine ⟨⟨fun n hn => ?_, fun p hp => ?_⟩, by simp, by simp only [List.length_append, List.length_cons, List.length_nil]; rw [Nat.pow_succ]; omega, by simp only [List.length_append, List.length_cons, List.length_nil]; rw [Nat.pow_succ]; omega⟩
        · simp only [List.mem_append, List.mem_singleton, List.length_append, List.length_cons, List.length_nil] at hn ⊢
          rcases hn with hn | rfl
          · have := j1.1 n hn
            omega
          · simp only
            omega
        · simp only [List.mem_append, List.mem_singleton, List.length_append, List.length_cons, List.length_nil] at hp ⊢
          rcases hp with hp | rfl
          · have := j1.2 p hp
            omega
          · simp only
            omega

abbrev Sl := Option Addr × Nat × Nat
def partsC : List (Part × Sl) → List Value
  | [] => []
  | (p, s) :: l => .int .i64 (p.1 : Nat) :: .slice s.1 s.2.1 s.2.2 :: .int .i64 (p.2.2 : Nat) :: partsC l
theorem partsC_snoc (l : List (Part × Sl)) (p : Part) (s : Sl) : partsC (l ++ [(p, s)]) = partsC l ++ [.int .i64 (p.1 : Nat), .slice s.1 s.2.1 s.2.2, .int .i64 (p.2.2 : Nat)] := by
  induction l with
  | nil => rfl
  | cons x l ih =>
    obtain ⟨q, t⟩ := x
    simp [partsC, ih]
theorem partsC_get : ∀ (l : List (Part × Sl)) {j : Nat} {p : Part} {s : Sl}, l[j]? = some (p, s) → (partsC l)[j * 3]? = some (.int .i64 (p.1 : Nat)) ∧ (partsC l)[j * 3 + 1]? = some (.slice s.1 s.2.1 s.2.2) ∧ (partsC l)[j * 3 + 2]? = some (.int .i64 (p.2.2 : Nat)) := by
  intro l
  induction l with
  | nil => intro j p s h; simp at h
  | cons x l ih =>
    intro j p s h
    obtain ⟨q, t⟩ := x
    cases j with
    | zero =>
      simp at h
      obtain ⟨rfl, rfl⟩ := h
      exact ⟨rfl, rfl, rfl⟩
    | succ j =>
      obtain ⟨h1, h2, h3⟩ := ih (j := j) (by simpa using h)
      refine ⟨?_, ?_, ?_⟩
      · rw [show (j + 1) * 3 = j * 3 + 1 + 1 + 1 from by omega, partsC]
        simpa using h1
      · rw [show (j + 1) * 3 + 1 = (j * 3 + 1) + 1 + 1 + 1 from by omega, partsC]
        simpa using h2
      · rw [show (j + 1) * 3 + 2 = (j * 3 + 2) + 1 + 1 + 1 from by omega, partsC]
        simpa using h3

/-- the two rows of a folding -/
structure FoldS (w0 w : World) (out : List BN) (A : Option Addr) (c : Nat) (known : List Part) (K : Option Addr) (ck : Nat) : Prop where
  own : w.ownsRow w0.heap.size 69 3 (.slice A out.length c) out.length (nodesC out)
  kn : ∃ l : List (Part × Sl), l.map (·.1) = known ∧ w.ownsRow w0.heap.size 98 3 (.slice K known.length ck) known.length (partsC l) ∧ ∀ x ∈ l, Rd Enc.bool w0 x.2.1 x.2.2.1 x.2.2.2 x.1.2.1
  below : Below w0.heap.size w0 w
/-- all blocks but rows of nodes and of parts are as they were -/
structure FrT (w w' : World) : Prop where
  size : w.heap.size ≤ w'.heap.size
  blk : ∀ (i : Nat) (cs : Array Value) (t : TypeId) (m : Nat × Nat), w.heap[i]? = some (Obj.cells cs t m) → t ≠ 69 → t ≠ 98 → w'.heap[i]? = w.heap[i]?
theorem FrT.refl (w : World) : FrT w w := ⟨Nat.le_refl _, fun _ _ _ _ _ _ _ => rfl⟩
theorem FrT.trans {a b c : World} (h : FrT a b) (k : FrT b c) : FrT a c :=
  ⟨Nat.le_trans h.size k.size, fun i cs t m hi h1 h2 => by
    have e := h.blk i cs t m hi h1 h2
    exact (k.blk i cs t m (e.trans hi) h1 h2).trans e⟩
theorem FrT.of_below {a b : World} (h : Below a.heap.size a b) : FrT a b :=
  ⟨h.size, fun i cs t m hi _ _ => h.block i (by
    rcases Nat.lt_or_ge i a.heap.size with hl | hl
    · exact hl
    · rw [Array.getElem?_eq_none hl] at hi
      cases hi)⟩
theorem FrT.of_grown {a b : World} {B : Nat} {t : TypeId} {size n : Nat} {v : Value} {xs : List Value} (h : a.grownBy b v.ownBlock) (ho : a.ownsRow B t size v n xs) (ht : t = 69 ∨ t = 98) : FrT a b :=
  ⟨h.size, fun i cs t' m hi h1 h2 => h.block i (by
    rcases Nat.lt_or_ge i a.heap.size with hl | hl
    · exact hl
    · rw [Array.getElem?_eq_none hl] at hi
      cases hi) (fun e => by
    obtain ⟨_, cs', m', hc⟩ := own_block ho e.symm
    rw [hi] at hc
    injection hc with hc
    injection hc with _ hc _
    subst hc
    rcases ht with ht | ht
    · exact h1 ht
    · exact h2 ht)⟩
theorem Blk.frt {t : TypeId} {w w' : World} {g : Nat} {cs : List Value} (h : Blk t w g cs) (k : FrT w w') (h1 : t ≠ 69) (h2 : t ≠ 98) : Blk t w' g cs := (k.blk g _ _ _ h h1 h2).trans h
theorem FoldS.keep {w0 w w' : World} {out : List BN} {A K : Option Addr} {c ck : Nat} {known : List Part} (h : FoldS w0 w out A c known K ck) (hb : Below w.heap.size w w') : FoldS w0 w' out A c known K ck := by
  obtain ⟨l, h1, h2, h3⟩ := h.kn
  exact ⟨own_keep h.own hb, ⟨l, h1, own_keep h2 hb, h3⟩, h.below.trans (hb.mono h.below.size)⟩
/-- a store into a box of another type -/
theorem FoldS.set {w0 w : World} {out : List BN} {A K : Option Addr} {c ck : Nat} {known : List Part} (h : FoldS w0 w out A c known K ck) {t : TypeId} {g : Nat} {cs : List Value} (hg : Blk t w g cs) (h1 : t ≠ 69) (h2 : t ≠ 98) (hge : w0.heap.size ≤ g) (i : Nat) (u : Value) : FoldS w0 (w.setCell ⟨g, i, none⟩ u) out A c known K ck := by
  obtain ⟨l, e1, e2, e3⟩ := h.kn
  have hne : ∀ {t' : TypeId} {size n : Nat} {v : Value} {xs : List Value}, w.ownsRow w0.heap.size t' size v n xs → t ≠ t' → ∀ r, v.ownBlock = some r → some r ≠ some g := fun ho ht r hr e => by
    injection e with e
    subst e
    obtain ⟨_, cs', m', hc⟩ := own_block ho hr
    unfold Blk at hg
    rw [hg] at hc
    injection hc with hc
    injection hc with _ hc _
    exact ht hc
  exact ⟨own_other h.own (only_set w g i u) (hne h.own h1), ⟨l, e1, own_other e2 (only_set w g i u) (hne e2 h2), e3⟩, h.below.setCell hge _⟩
/-- one element more on a row of the call's own; all other blocks stand -/
theorem wpList_pushG {P : Program} {w : World} {ops : Array Oper} {rest : List Oper} {o : Oper} {a : Act} {Q : Exit → Act → World → Prop} (hgd : o.guard = none) (s x : Operand) (t : TypeId)
    (ho : o.op = .call { callee := .builtin .append, args := #[s, x], argTypes := #[t, t] })
    (base : Nat) (e : TypeId) (i : TypeInfo) (z : Value) (size bytes : Nat) (ht : P.underlying t = some (.slice e)) (hi : P.info? e = some i) (hz : i.zero = some z)
    (hsize : i.size = size) (hby : i.bytes = bytes) (hzs : z.cells.size = size) (hsz : 0 < size)
    (v : Value) (n : Nat) (xs : List Value) (hs : a.eval s = v) (hown : w.ownsRow base e size v n xs)
    (us : List Value) (hus : us.length = size) (h1 : ∀ u ∈ us, u.oneCell' = true) (hx : a.eval x = .slice (some ⟨w.heap.size, 0, none⟩) 1 1)
    (h63 : n + 1 ≤ 1000000000000) (hbytes : (n + 1) * bytes ≤ 140737488355328) (hbase : base ≤ w.heap.size)
    (h : ∀ O oc w', w'.ownsRow base e size (.slice O (n + 1) oc) (n + 1) (xs ++ us) → (w.alloc (.cells us.toArray e)).grownBy w' v.ownBlock → wpList P ops Q rest (a.put o.dst (.slice O (n + 1) oc)) w') :
    wpList P ops Q (o :: rest) a (w.alloc (.cells us.toArray e)) := by
  refine wpList_append_own _ hgd s x t ho base e i z size bytes ht hi hz hsize hby hzs hsz v n xs hs (hown.alloc _) ⟨w.heap.size, 0, none⟩ 1 1 us hx (by omega) ?_ h1 (by unfold maxLen; omega) hbytes (by simp; omega) ?_
  · intro j u hj
    rw [add_plain, Nat.zero_add]
    have := (Blk.new w e us).cell j
    rw [hj] at this
    exact this
  · intro v' w' hown' hg _
    have hsh : ∃ O oc, v' = .slice O (n + 1) oc := by
      rcases hown'.2 with ⟨_, h0⟩ | ⟨g, cap, cur, e', _⟩
      · omega
      · exact ⟨_, _, e'⟩
    obtain ⟨O, oc, rfl⟩ := hsh
    exact h O oc w' hown' hg
/-- two rows of elements of two types lie apart -/
theorem rows_apart {w : World} {B B' : Nat} {t t' : TypeId} {size size' n n' : Nat} {v v' : Value} {xs xs' : List Value} (h : w.ownsRow B t size v n xs) (h' : w.ownsRow B' t' size' v' n' xs') (ht : t ≠ t') : ∀ r, v.ownBlock = some r → some r ≠ v'.ownBlock := fun r hr e => by
  obtain ⟨_, cs, m, hc⟩ := own_block h hr
  obtain ⟨_, cs', m', hc'⟩ := own_block h' e.symm
  rw [hc] at hc'
  injection hc' with hc'
  injection hc' with _ hc' _
  exact ht hc'
section
variable {w0 w w2 : World} {out : List BN} {A K O : Option Addr} {c ck oc : Nat} {known : List Part}
theorem FoldS.pushN (h : FoldS w0 w out A c known K ck) {n : BN} {o : Obj} (hg : (w.alloc o).grownBy w2 (Value.slice A out.length c).ownBlock)
    (ho : w2.ownsRow w0.heap.size 69 3 (.slice O (out.length + 1) oc) (out.length + 1) (nodesC out ++ [.int .i64 (n.1 : Nat), .int .i64 (n.2.1 : Nat), .int .i64 (n.2.2 : Nat)])) :
    FoldS w0 w2 (out ++ [n]) O oc known K ck ∧ FrT w w2 := by
  obtain ⟨l, e1, e2, e3⟩ := h.kn
  have hb : Below w.heap.size w (w.alloc o) := (Below.refl _ _).alloc (Nat.le_refl _) _
  have ha := h.keep hb
  refine ⟨⟨?_, ⟨l, e1, own_other (own_keep e2 hb) hg (rows_apart e2 h.own (by decide)), e3⟩, ?_⟩, (FrT.of_below hb).trans (FrT.of_grown hg (h.own.alloc _) (.inl rfl))⟩
  · rw [nodesC_append, show (out ++ [n]).length = out.length + 1 from by simp]
    exact ho
  · exact (h.below.trans (hb.mono h.below.size)).grown hg (by have := h.below.size; have := hb.size; omega) (fun k hk => own_base h.own hk)
theorem FoldS.pushK (h : FoldS w0 w out A c known K ck) {l : List (Part × Sl)} (h1 : l.map (·.1) = known) (h2 : w.ownsRow w0.heap.size 98 3 (.slice K known.length ck) known.length (partsC l))
    (h3 : ∀ x ∈ l, Rd Enc.bool w0 x.2.1 x.2.2.1 x.2.2.2 x.1.2.1) {p : Part} {s : Sl} (hr : Rd Enc.bool w0 s.1 s.2.1 s.2.2 p.2.1) {o : Obj} (hg : (w.alloc o).grownBy w2 (Value.slice K known.length ck).ownBlock)
    (ho : w2.ownsRow w0.heap.size 98 3 (.slice O (known.length + 1) oc) (known.length + 1) (partsC l ++ [.int .i64 (p.1 : Nat), .slice s.1 s.2.1 s.2.2, .int .i64 (p.2.2 : Nat)])) :
    FoldS w0 w2 out A c (known ++ [p]) O oc ∧ FrT w w2 := by
  have hb : Below w.heap.size w (w.alloc o) := (Below.refl _ _).alloc (Nat.le_refl _) _
  refine ⟨⟨own_other (own_keep h.own hb) hg (rows_apart h.own h2 (by decide)), ⟨l ++ [(p, s)], by simp [h1], ?_, fun x hx => ?_⟩, ?_⟩, (FrT.of_below hb).trans (FrT.of_grown hg (h2.alloc _) (.inr rfl))⟩
  · rw [partsC_snoc, show (known ++ [p]).length = known.length + 1 from by simp]
    exact ho
  · rcases List.mem_append.1 hx with hx | hx
    · exact h3 x hx
    · simp at hx
      subst hx
      exact hr
  · exact (h.below.trans (hb.mono h.below.size)).grown hg (by have := h.below.size; have := hb.size; omega) (fun k hk => own_base h2 hk)
end
end Go.Proofs.Ytgenpcokpodhkaa
