/- diagram.Store: its place in memory, and the contracts of its methods. -/
import Derived.Test.YtgenpcokpodhkaaMaps
import Derived.Test.YtgenpcokpodhkaaDgPure2
import Derived.ProofKit
import Derived.DeepKeys4
namespace Go.Proofs.Ytgenpcokpodhkaa
open Go.RowKit Go.Maps

theorem laid_out : laidOutB Try.prog = true := by kernel_rfl
theorem wideN : (match Try.prog.underlying 69 with | some (.array _ _) | some (.struct _) => true | _ => false) = true := by rw [Try.underlying69]
theorem lawN : Keyed Try.prog 69 := Keyed.of_law (deep_law_laid laid_out (m := 3) (by omega) (of_decide_eq_true (by kernel_rfl)) (by kernel_rfl) wideN)
theorem wideT : (match Try.prog.underlying 93 with | some (.array _ _) | some (.struct _) => true | _ => false) = true := by rw [Try.underlying93]
theorem lawT : Keyed Try.prog 93 := Keyed.of_law (deep_law_laid laid_out (m := 3) (by omega) (of_decide_eq_true (by kernel_rfl)) (by kernel_rfl) wideT)
theorem lawI : Keyed Try.prog 3 := int_keyed Try.underlying3
theorem zeroI (w : World) : (zeroValue 3).run Try.prog w = .ok (.int .i64 0) w := by kernel_rfl

def I64 (x : Int) : Prop := -9223372036854775808 ≤ x ∧ x ≤ 9223372036854775807
theorem I64.wf {x : Int} (h : I64 x) : (Lit.int .i64 x).wf = true := by unfold I64 at h; simp [Lit.wf, IntKind.min, IntKind.max, IntKind.bits, IntKind.signed]; omega
theorem key_struct3 {P : Program} {k e : TypeId} {f0 f1 f2 : Field} (hk : P.underlying k = some (.struct #[f0, f1, f2])) (h0 : f0.type = e ∧ f0.offset = 0 ∧ (f0.name != "_") = true) (h1 : f1.type = e ∧ f1.offset = 1 ∧ (f1.name != "_") = true) (h2 : f2.type = e ∧ f2.offset = 2 ∧ (f2.name != "_") = true)
    (hkt : P.keyType k = true) (hcs : P.cellsOf k = 3) (hce : P.cellsOf e = 1) (he : P.underlying e = some (.int .i64)) (hpos : 0 < P.types.size) {a b c : Int} (ha : I64 a) (hb : I64 b) (hc : I64 c) :
    ∃ kl, keyOf P k (.agg #[.int .i64 a, .int .i64 b, .int .i64 c]) = some kl := by
  obtain ⟨s, hs⟩ : ∃ s, P.types.size = s + 1 := ⟨P.types.size - 1, by omega⟩
  have hi : ∀ x : Int, I64 x → P.keyLits (s + 1) e [.int .i64 x] = some [.int .i64 x] := fun x hx => by
    simp [Program.keyLits, he, hx.wf]
  obtain ⟨q0, q0', q0''⟩ := h0
  obtain ⟨q1, q1', q1''⟩ := h1
  obtain ⟨q2, q2', q2''⟩ := h2
  have r0 := hi a ha
  have r1 := hi b hb
  have r2 := hi c hc
  rw [keyOf, hk, hs]
  simp only [hkt, Value.formed, Bool.true_and]
  rw [Program.keyLits.eq_def]
  simp only [hk]
  simp [Value.cells, hcs, hce, q0, q1, q2, q0', q1', q2', r0, r1, r2]
  simp_all
theorem key_array3 {P : Program} {k e : TypeId} (hk : P.underlying k = some (.array 3 e)) (hkt : P.keyType k = true) (hcs : P.cellsOf k = 3) (hce : P.cellsOf e = 1) (he : P.underlying e = some (.int .i64)) (hpos : 0 < P.types.size) {a b c : Int} (ha : I64 a) (hb : I64 b) (hc : I64 c) :
    ∃ kl, keyOf P k (.agg #[.int .i64 a, .int .i64 b, .int .i64 c]) = some kl := by
  obtain ⟨s, hs⟩ : ∃ s, P.types.size = s + 1 := ⟨P.types.size - 1, by omega⟩
  have hi : ∀ x : Int, I64 x → P.keyLits (s + 1) e [.int .i64 x] = some [.int .i64 x] := fun x hx => by
    simp [Program.keyLits, he, hx.wf]
  have r0 := hi a ha
  have r1 := hi b hb
  have r2 := hi c hc
  rw [keyOf, hk, hs]
  simp only [hkt, Value.formed, Bool.true_and]
  rw [Program.keyLits.eq_def]
  simp only [hk]
  simp [Value.cells, hcs, hce, r0, r1, r2, List.range_succ]

def encN (n : BN) : Value := .agg #[.int .i64 (n.1 : Int), .int .i64 (n.2.1 : Int), .int .i64 (n.2.2 : Int)]
theorem encN_inj (a b : BN) (h : encN a = encN b) : a = b := by
  obtain ⟨a1, a2, a3⟩ := a
  obtain ⟨b1, b2, b3⟩ := b
  simp only [encN, Value.agg.injEq, Array.mk.injEq, List.cons.injEq, Value.int.injEq, true_and, and_true, Int.natCast_inj] at h
  simp [h]
theorem keyN {n : BN} (h : n.1 ≤ 9223372036854775807 ∧ n.2.1 ≤ 9223372036854775807 ∧ n.2.2 ≤ 9223372036854775807) : ∃ kl, keyOf Try.prog 69 (encN n) = some kl :=
  key_struct3 Try.underlying69 ⟨rfl, rfl, by decide⟩ ⟨rfl, rfl, by decide⟩ ⟨rfl, rfl, by decide⟩ (by kernel_rfl) (by kernel_rfl) (by kernel_rfl) Try.underlying3 (of_decide_eq_true (by kernel_rfl)) (by unfold I64; omega) (by unfold I64; omega) (by unfold I64; omega)
theorem keyT {n : BN} (h : n.1 ≤ 9223372036854775807 ∧ n.2.1 ≤ 9223372036854775807 ∧ n.2.2 ≤ 9223372036854775807) : ∃ kl, keyOf Try.prog 93 (encN n) = some kl :=
  key_array3 Try.underlying93 (by kernel_rfl) (by kernel_rfl) (by kernel_rfl) Try.underlying3 (of_decide_eq_true (by kernel_rfl)) (by unfold I64; omega) (by unfold I64; omega) (by unfold I64; omega)

/-- the cells of the nodes, one after the other -/
def nodesC : List BN → List Value
  | [] => []
  | n :: l => .int .i64 (n.1 : Int) :: .int .i64 (n.2.1 : Int) :: .int .i64 (n.2.2 : Int) :: nodesC l
theorem nodesC_append (l m : List BN) : nodesC (l ++ m) = nodesC l ++ nodesC m := by
  induction l with
  | nil => rfl
  | cons n l ih => simp [nodesC, ih]
theorem nodesC_get (l : List BN) : ∀ {i : Nat} {n : BN}, l[i]? = some n → (nodesC l)[i * 3]? = some (.int .i64 (n.1 : Int)) ∧ (nodesC l)[i * 3 + 1]? = some (.int .i64 (n.2.1 : Int)) ∧ (nodesC l)[i * 3 + 2]? = some (.int .i64 (n.2.2 : Int)) := by
  induction l with
  | nil => intro i n h; simp at h
  | cons m l ih =>
    intro i n h
    cases i with
    | zero =>
      simp at h
      subst h
      simp [nodesC]
    | succ i =>
      rw [show (i + 1) * 3 = i * 3 + 3 from by omega]
      exact ih (by simpa using h)
/-- where a node stands, counted from i -/
def posN : List BN → BN → Nat → Option Nat
  | [], _, _ => none
  | m :: l, n, i => if m = n then some i else posN l n (i + 1)
theorem posN_some {l : List BN} {n : BN} : ∀ {i j : Nat}, posN l n i = some j → ∃ t, j = i + t ∧ l[t]? = some n := by
  induction l with
  | nil => intro i j h; simp [posN] at h
  | cons m l ih =>
    intro i j h
    unfold posN at h
    split at h
    · injection h with h
      exact ⟨0, by omega, by simp_all⟩
    · obtain ⟨t, h1, h2⟩ := ih h
      exact ⟨t + 1, by omega, by simpa using h2⟩
theorem posN_none {l : List BN} {n : BN} : ∀ {i : Nat}, posN l n i = none ↔ n ∉ l := by
  induction l with
  | nil => intro i; simp [posN]
  | cons m l ih =>
    intro i
    unfold posN
    split
    · simp_all
    · rename_i h
      rw [ih]
      simp only [List.mem_cons, not_or]
      exact ⟨fun h' => ⟨fun e => h e.symm, h'⟩, fun h' => h'.2⟩
theorem posN_snoc (l : List BN) (m n : BN) : ∀ i, posN (l ++ [m]) n i = match posN l n i with
    | some j => some j
    | none => if m = n then some (i + l.length) else none := by
  induction l with
  | nil => intro i; simp [posN]
  | cons q l ih =>
    intro i
    simp only [List.cons_append, posN]
    split
    · rfl
    · rw [ih]
      simp only [List.length_cons, Nat.add_comm l.length 1, Nat.add_assoc]
def foundF (ns : List BN) : BN → Option Int := fun n => (posN ns n 2).map Int.ofNat
theorem foundF_put {ns : List BN} {n : BN} (h : n ∉ ns) : putM (foundF ns) n ((ns.length + 2 : Nat) : Int) = foundF (ns ++ [n]) := by
  funext m
  unfold putM foundF
  rw [posN_snoc]
  by_cases hm : m = n
  · subst hm
    rw [posN_none.2 h]
    simp
    omega
  · rw [if_neg hm, if_neg (fun e => hm e.symm)]
    cases posN ns m 2 <;> rfl
def nodeF (ns : List BN) (v l h : Nat) : List BN × Nat :=
  if l = h then (ns, l) else match posN ns (v, l, h) 2 with
    | some k => (ns, k)
    | none => (ns ++ [(v, l, h)], ns.length + 2)

/-- a store, and all that belongs to it: its levels, its nodes, its two maps -/
structure StoreAt (L B g bf bp : Nat) (w : World) (ns : List BN) (np : Nat) (M : BN → Option Int) : Prop where
  low : L ≤ 24
  few : ns.length ≤ 1000000000000 ∧ np ≤ 1000000000000
  blk : ∃ A c, Blk 85 w g [.int .i64 L, .slice A ns.length c, .map (some bf), .map (some bp)] ∧ w.ownsRow B 69 3 (.slice A ns.length c) ns.length (nodesC ns)
  found : MapAt Try.prog 69 3 encN w bf ns.length (foundF ns)
  pairs : MapAt Try.prog 93 3 encN w bp np M
  base : B ≤ g ∧ B ≤ bf ∧ B ≤ bp ∧ bf ≠ bp ∧ B ≤ w.heap.size

/-- the block of the row whose slice stands in cell 1 of block g -/
def rowOf (w : World) (g : Nat) : Option Nat := (w.cell? ⟨g, 1, none⟩).bind Value.ownBlock
/-- what a call of a method of a store leaves as it was: all but the store's own blocks -/
structure Kept (B g bf bp : Nat) (w w' : World) : Prop where
  os : w'.os = w.os
  tape : w'.tape = w.tape
  output : w'.output = w.output
  size : w.heap.size ≤ w'.heap.size
  row : ∀ r, rowOf w' g = some r → rowOf w g = some r ∨ w.heap.size ≤ r
  block : ∀ i, i < w.heap.size → (i < B ∨ (i ≠ g ∧ i ≠ bf ∧ i ≠ bp ∧ rowOf w g ≠ some i)) → w'.heap[i]? = w.heap[i]?
/-- block b is none of the store's own -/
def Free (w : World) (g bf bp b : Nat) : Prop := b < w.heap.size ∧ b ≠ g ∧ b ≠ bf ∧ b ≠ bp ∧ rowOf w g ≠ some b
theorem rowOf_same {w w' : World} {g : Nat} (h : w'.heap[g]? = w.heap[g]?) : rowOf w' g = rowOf w g := by
  unfold rowOf
  rw [World.cell?_of_block (w := w) (a := ⟨g, 1, none⟩) h]
section
variable {L B g bf bp : Nat} {w w' w'' : World} {ns : List BN} {np : Nat} {M : BN → Option Int}
theorem Kept.refl (B g bf bp : Nat) (w : World) : Kept B g bf bp w w := ⟨rfl, rfl, rfl, Nat.le_refl _, fun _ h => .inl h, fun _ _ _ => rfl⟩
theorem Kept.free (h : Kept B g bf bp w w') {b : Nat} (hf : Free w g bf bp b) : Free w' g bf bp b :=
  ⟨Nat.lt_of_lt_of_le hf.1 h.size, hf.2.1, hf.2.2.1, hf.2.2.2.1, fun e => by
    rcases h.row b e with h1 | h1
    · exact hf.2.2.2.2 h1
    · have := hf.1
      omega⟩
theorem Kept.trans (h : Kept B g bf bp w w') (k : Kept B g bf bp w' w'') : Kept B g bf bp w w'' :=
  ⟨k.os.trans h.os, k.tape.trans h.tape, k.output.trans h.output, Nat.le_trans h.size k.size, fun r hr => by
    rcases k.row r hr with h1 | h1
    · exact h.row r h1
    · exact .inr (Nat.le_trans h.size h1), fun i hi hn => by
    have e := h.block i hi hn
    refine (k.block i (Nat.lt_of_lt_of_le hi h.size) ?_).trans e
    rcases hn with hn | hn
    · exact .inl hn
    · exact .inr (h.free ⟨hi, hn⟩).2⟩
theorem Kept.of_below (h : Below w.heap.size w w') (hg : g < w.heap.size) : Kept B g bf bp w w' := ⟨h.os, h.tape, h.output, h.size, fun r hr => .inl (by rw [← rowOf_same (h.block g hg)]; exact hr), fun i hi _ => h.block i hi⟩
theorem Kept.drewN (h : Kept B g bf bp w w') (n : Nat) : Kept B g bf bp w (w'.drewN n) := ⟨h.os, h.tape, h.output, h.size, h.row, h.block⟩
theorem Kept.below (h : Kept B g bf bp w w') (hB : B ≤ w.heap.size) : Below B w w' := ⟨h.os, h.tape, h.output, h.size, fun i hi => h.block i (by omega) (.inl hi)⟩
theorem Kept.blk {t : TypeId} {b : Nat} {cs : List Value} (h : Kept B g bf bp w w') (hb : Blk t w b cs) (hf : Free w g bf bp b) : Blk t w' b cs :=
  (h.block b hf.1 (.inr hf.2)).trans hb
theorem Kept.map {κ : Type} {P : Program} {K E : TypeId} {enc : κ → Value} {b n : Nat} {M' : κ → Option Int} (h : Kept B g bf bp w w') (hb : MapAt P K E enc w b n M') (hf : Free w g bf bp b) : MapAt P K E enc w' b n M' :=
  hb.of_block (h.block b hf.1 (.inr hf.2))
theorem Kept.of_grown {row : Nat} (h : w.grownBy w' (some row)) (hB : B ≤ row) (hr : row = bf ∨ row = bp) (hg : g < w.heap.size) (hne : g ≠ row) : Kept B g bf bp w w' :=
  ⟨h.os, h.tape, h.output, h.size, fun r hr => .inl (by rw [← rowOf_same (h.block g hg (by simpa using hne))]; exact hr), fun i hi hn => h.block i hi (fun e => by
    injection e with e
    subst e
    rcases hn with hn | ⟨h1, h2, h3, h4⟩
    · omega
    · rcases hr with hr | hr
      · exact h2 hr
      · exact h3 hr)⟩
theorem own_keep {e : TypeId} {size : Nat} {v : Value} {n : Nat} {xs : List Value} (h2 : w.ownsRow B e size v n xs) (hb : Below w.heap.size w w') : w'.ownsRow B e size v n xs := by
  refine ⟨h2.1, ?_⟩
  rcases h2.2 with h3 | ⟨r, cap, cur, e, hr, hc, rest⟩
  · exact .inl h3
  · refine .inr ⟨r, cap, cur, e, hr, (hb.block r ?_).trans hc, rest⟩
    rcases Nat.lt_or_ge r w.heap.size with hl | hl
    · exact hl
    · rw [Array.getElem?_eq_none hl] at hc
      cases hc
/-- the row behind writes to other blocks -/
theorem own_other {e : TypeId} {size : Nat} {v : Value} {n : Nat} {xs : List Value} {row : Option Nat} (h2 : w.ownsRow B e size v n xs) (hb : w.grownBy w' row) (hne : ∀ r, v.ownBlock = some r → some r ≠ row) : w'.ownsRow B e size v n xs := by
  refine ⟨h2.1, ?_⟩
  rcases h2.2 with h3 | ⟨r, cap, cur, e, hr, hc, rest⟩
  · exact .inl h3
  · refine .inr ⟨r, cap, cur, e, hr, (hb.block r ?_ (hne r (by rw [e]; rfl))).trans hc, rest⟩
    rcases Nat.lt_or_ge r w.heap.size with hl | hl
    · exact hl
    · rw [Array.getElem?_eq_none hl] at hc
      cases hc
theorem own_block {e : TypeId} {size : Nat} {v : Value} {n : Nat} {xs : List Value} (h2 : w.ownsRow B e size v n xs) {r : Nat} (hr : v.ownBlock = some r) : r < w.heap.size ∧ ∃ cs m, w.heap[r]? = some (.cells cs e m) := by
  rcases h2.2 with ⟨h3, _⟩ | ⟨r', cap, cur, e1, _, hc, _⟩
  · rw [h3] at hr
    cases hr
  · rw [e1] at hr
    have hr : r' = r := by simpa [Value.ownBlock] using hr
    subst hr
    refine ⟨?_, _, _, hc⟩
    rcases Nat.lt_or_ge r' w.heap.size with hl | hl
    · exact hl
    · rw [Array.getElem?_eq_none hl] at hc
      cases hc
theorem own_base {e : TypeId} {size : Nat} {v : Value} {n : Nat} {xs : List Value} (h2 : w.ownsRow B e size v n xs) {r : Nat} (hr : v.ownBlock = some r) : B ≤ r := by
  rcases h2.2 with ⟨h3, _⟩ | ⟨r', cap, cur, e1, hb, hc, _⟩
  · rw [h3] at hr
    cases hr
  · rw [e1] at hr
    have hr : r' = r := by simpa [Value.ownBlock] using hr
    omega
/-- one element more on the row of g -/
theorem Kept.of_push {t : TypeId} {w1 w2 : World} {v u : Value} {n gr : Nat} {xs : List Value} (hb : Below w.heap.size w w1) (ho : w.ownsRow B t 3 v n xs) (hv : w.cell? ⟨g, 1, none⟩ = some v) (hgr : w1.grownBy w2 v.ownBlock) (hat : v.ownBlock = some gr ∨ w.heap.size ≤ gr)
    (hg : B ≤ g) (hrow : rowOf (w2.setCell ⟨g, 1, none⟩ u) g = some gr) : Kept B g bf bp w (w2.setCell ⟨g, 1, none⟩ u) := by
  have hset := only_set w2 g 1 u
  have hr0 : rowOf w g = v.ownBlock := by rw [rowOf, hv]; rfl
  refine ⟨hset.os.trans (hgr.os.trans hb.os), hset.tape.trans (hgr.tape.trans hb.tape), hset.output.trans (hgr.output.trans hb.output), Nat.le_trans hb.size (Nat.le_trans hgr.size hset.size), fun r hr => ?_, fun i hi hn => ?_⟩
  · rw [hrow] at hr
    injection hr with hr
    subst hr
    rw [hr0]
    exact hat
  · have hig : i ≠ g := by
      rcases hn with hn | hn
      · omega
      · exact hn.1
    have hir : some i ≠ v.ownBlock := fun e => by
      rcases hn with hn | hn
      · have := own_base ho e.symm
        omega
      · rw [hr0] at hn
        exact hn.2.2.2 e.symm
    have h1 := hb.block i hi
    have hi1 : i < w1.heap.size := Nat.lt_of_lt_of_le hi hb.size
    exact (hset.block i (Nat.lt_of_lt_of_le hi1 hgr.size) (by simpa using hig)).trans ((hgr.block i hi1 hir).trans h1)
theorem StoreAt.ne (h : StoreAt L B g bf bp w ns np M) : g ≠ bf ∧ g ≠ bp ∧ bf ≠ bp := by
  obtain ⟨A, c, hb, _⟩ := h.blk
  obtain ⟨es, cl, hf⟩ := h.found.isMap
  obtain ⟨es', cl', hp⟩ := h.pairs.isMap
  unfold Blk at hb
  refine ⟨fun e => ?_, fun e => ?_, h.base.2.2.2.1⟩
  · subst e
    rw [hb] at hf
    cases hf
  · subst e
    rw [hb] at hp
    cases hp
theorem StoreAt.keep (h : StoreAt L B g bf bp w ns np M) (hb : Below w.heap.size w w') : StoreAt L B g bf bp w' ns np M := by
  obtain ⟨A, c, h1, h2⟩ := h.blk
  refine ⟨h.low, h.few, ⟨A, c, h1.keep hb, ?_⟩, h.found.of_block (hb.block _ h.found.lt), h.pairs.of_block (hb.block _ h.pairs.lt), h.base.1, h.base.2.1, h.base.2.2.1, h.base.2.2.2.1, Nat.le_trans h.base.2.2.2.2 hb.size⟩
  refine ⟨h2.1, ?_⟩
  rcases h2.2 with h3 | ⟨r, cap, cur, e, hr, hc, rest⟩
  · exact .inl h3
  · refine .inr ⟨r, cap, cur, e, hr, (hb.block r ?_).trans hc, rest⟩
    rcases Nat.lt_or_ge r w.heap.size with hl | hl
    · exact hl
    · rw [Array.getElem?_eq_none hl] at hc
      cases hc
theorem StoreAt.lt (h : StoreAt L B g bf bp w ns np M) : g < w.heap.size := by
  obtain ⟨A, c, hb, _⟩ := h.blk
  exact hb.lt
/-- a block of another kind is not the store's -/
theorem StoreAt.free (h : StoreAt L B g bf bp w ns np M) {t : TypeId} {b : Nat} {cs : List Value} (hb : Blk t w b cs) (hg : b ≠ g) (ht : t ≠ 69) : Free w g bf bp b := by
  obtain ⟨A, c, hbl, ho⟩ := h.blk
  obtain ⟨es, cl, hm⟩ := h.found.isMap
  obtain ⟨es', cl', hm'⟩ := h.pairs.isMap
  have hb' := hb
  unfold Blk at hb'
  refine ⟨hb.lt, hg, fun e => ?_, fun e => ?_, fun e => ?_⟩
  · rw [e, hm] at hb'
    cases hb'
  · rw [e, hm'] at hb'
    cases hb'
  · have hc := hbl.cell 1
    rw [rowOf, hc] at e
    obtain ⟨_, cs', m, hr⟩ := own_block ho (r := b) e
    rw [hb'] at hr
    injection hr with hr
    injection hr with _ hr _
    exact ht hr
/-- a new block is not the store's -/
theorem StoreAt.free_new (h : StoreAt L B g bf bp w ns np M) (o : Obj) : Free (w.alloc o) g bf bp w.heap.size := by
  obtain ⟨A, c, hbl, ho⟩ := h.blk
  have h1 := h.found.lt
  have h2 := h.pairs.lt
  have h3 := hbl.lt
  refine ⟨by simp, by omega, by omega, by omega, fun e => ?_⟩
  have hc := (hbl.alloc o).cell 1
  rw [rowOf, hc] at e
  have := (own_block ho (r := w.heap.size) e).1
  omega
theorem StoreAt.free_map (h : StoreAt L B g bf bp w ns np M) {b : Nat} {es : Array MapEntry} {cl : Nat} (hb : w.heap[b]? = some (.map es cl)) (hf : b ≠ bf) (hp : b ≠ bp) : Free w g bf bp b := by
  obtain ⟨A, c, hbl, ho⟩ := h.blk
  have hlt : b < w.heap.size := by
    rcases Nat.lt_or_ge b w.heap.size with h1 | h1
    · exact h1
    · rw [Array.getElem?_eq_none h1] at hb
      cases hb
  refine ⟨hlt, fun e => ?_, hf, hp, fun e => ?_⟩
  · unfold Blk at hbl
    rw [← e, hb] at hbl
    cases hbl
  · have hc := hbl.cell 1
    rw [rowOf, hc] at e
    obtain ⟨_, cs', m, hr⟩ := own_block ho (r := b) e
    rw [hb] at hr
    cases hr
theorem StoreAt.qt (h : StoreAt L B g bf bp w ns np M) (hq : Qt w w') : StoreAt L B g bf bp w' ns np M := h.keep (hq.below _)
end
end Go.Proofs.Ytgenpcokpodhkaa
