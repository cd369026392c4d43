/- What the law asks for, part 29: Store Dc Store6. -/
import Derived.Test.YtmjiiddncbhgpaaGreatE1
import Derived.Test.YtmjiiddncbhgpaaGreatE3
import Derived.Test.YtmjiiddncbhgpaaGreatE27
import Derived.Test.YtmjiiddncbhgpaaGreatE28
import Derived.BigQuiet
import Derived.Deep.AppendLies
import Derived.Deep.Draws
import Derived.Deep.Fields
import Derived.Deep.LoopGhost
import Derived.Deep.QuietTactic
import Derived.Deep.RegionLaw
import Derived.Deep.Slices
import Derived.DeepKeys4
import Derived.Laws.AppendOwnNone
import Derived.Laws.OwnMore
import Derived.Lib.Hide
import Derived.Maps.AppendAt
import Derived.Maps.OwnOps
import Derived.Maps.OwnSet
import Derived.ProofKit
import Derived.Test.YtmjiiddncbhgpaaGreatProg
import Derived.WalkKit
import Init
namespace Go.Proofs.YtmjiiddncbhgpaaGreat
open Go.RowKit Go.Maps
theorem laid_out : laidOutB Tryz.prog = true := by kernel_rfl
theorem wideN : (match Tryz.prog.underlying 162 with | some (.array _ _) | some (.struct _) => true | _ => false) = true := by rw [Tryz.underlying162]
set_option maxRecDepth 1000000 in
theorem lawN : Keyed Tryz.prog 162 := Keyed.of_law (deep_law_laid laid_out (m := 3) (by omega) (of_decide_eq_true (by kernel_rfl)) (by kernel_rfl) wideN)
theorem wideT : (match Tryz.prog.underlying 213 with | some (.array _ _) | some (.struct _) => true | _ => false) = true := by rw [Tryz.underlying213]
set_option maxRecDepth 1000000 in
theorem lawT : Keyed Tryz.prog 213 := Keyed.of_law (deep_law_laid laid_out (m := 3) (by omega) (of_decide_eq_true (by kernel_rfl)) (by kernel_rfl) wideT)
theorem lawI : Keyed Tryz.prog 3 := int_keyed Tryz.underlying3
theorem zeroI (w : World) : (zeroValue 3).run Tryz.prog w = .ok (.int .i64 0) w := by kernel_rfl

def I64 (x : Int) : Prop := -9223372036854775808 ≤ x ∧ x ≤ 9223372036854775807
theorem I64.wf {x : Int} (h : I64 x) : (Lit.int .i64 x).wf = true := by unfold I64 at h; simp [Lit.wf, IntKind.min, IntKind.max, IntKind.bits, IntKind.signed]; omega
theorem key_struct3 {P : Program} {k e : TypeId} {f0 f1 f2 : Field} (hk : P.underlying k = some (.struct #[f0, f1, f2])) (h0 : f0.type = e ∧ f0.offset = 0 ∧ (f0.name != "_") = true) (h1 : f1.type = e ∧ f1.offset = 1 ∧ (f1.name != "_") = true) (h2 : f2.type = e ∧ f2.offset = 2 ∧ (f2.name != "_") = true)
    (hkt : P.keyType k = true) (hcs : P.cellsOf k = 3) (hce : P.cellsOf e = 1) (he : P.underlying e = some (.int .i64)) (hpos : 0 < P.types.size) {a b c : Int} (ha : I64 a) (hb : I64 b) (hc : I64 c) :
    ∃ kl, keyOf P k (.agg #[.int .i64 a, .int .i64 b, .int .i64 c]) = some kl := by
  obtain ⟨s, hs⟩ : ∃ s, P.types.size = s + 1 := ⟨P.types.size - 1, by omega⟩
  have hi : ∀ x : Int, I64 x → P.keyLits (s + 1) e [.int .i64 x] = some [.int .i64 x] := fun x hx => by
    simp [Program.keyLits, he, hx.wf]
  obtain ⟨q0, q0', q0''⟩ := h0
  obtain ⟨q1, q1', q1''⟩ := h1
  obtain ⟨q2, q2', q2''⟩ := h2
  have r0 := hi a ha
  have r1 := hi b hb
  have r2 := hi c hc
  rw [keyOf, hk, hs]
  simp only [hkt, Value.formed, Bool.true_and]
  rw [Program.keyLits.eq_def]
  simp only [hk]
  simp [Value.cells, hcs, hce, q0, q1, q2, q0', q1', q2', r0, r1, r2]
  simp_all
theorem key_array3 {P : Program} {k e : TypeId} (hk : P.underlying k = some (.array 3 e)) (hkt : P.keyType k = true) (hcs : P.cellsOf k = 3) (hce : P.cellsOf e = 1) (he : P.underlying e = some (.int .i64)) (hpos : 0 < P.types.size) {a b c : Int} (ha : I64 a) (hb : I64 b) (hc : I64 c) :
    ∃ kl, keyOf P k (.agg #[.int .i64 a, .int .i64 b, .int .i64 c]) = some kl := by
  obtain ⟨s, hs⟩ : ∃ s, P.types.size = s + 1 := ⟨P.types.size - 1, by omega⟩
  have hi : ∀ x : Int, I64 x → P.keyLits (s + 1) e [.int .i64 x] = some [.int .i64 x] := fun x hx => by
    simp [Program.keyLits, he, hx.wf]
  have r0 := hi a ha
  have r1 := hi b hb
  have r2 := hi c hc
  rw [keyOf, hk, hs]
  simp only [hkt, Value.formed, Bool.true_and]
  rw [Program.keyLits.eq_def]
  simp only [hk]
  simp [Value.cells, hcs, hce, r0, r1, r2, List.range_succ]

def encN (n : BN) : Value := .agg #[.int .i64 (n.1 : Int), .int .i64 (n.2.1 : Int), .int .i64 (n.2.2 : Int)]
theorem encN_inj (a b : BN) (h : encN a = encN b) : a = b := by
  obtain ⟨a1, a2, a3⟩ := a
  obtain ⟨b1, b2, b3⟩ := b
  simp only [encN, Value.agg.injEq, Array.mk.injEq, List.cons.injEq, Value.int.injEq, true_and, and_true, Int.natCast_inj] at h
  simp [h]
theorem keyN {n : BN} (h : n.1 ≤ 9223372036854775807 ∧ n.2.1 ≤ 9223372036854775807 ∧ n.2.2 ≤ 9223372036854775807) : ∃ kl, keyOf Tryz.prog 162 (encN n) = some kl :=
  key_struct3 Tryz.underlying162 ⟨rfl, rfl, by decide⟩ ⟨rfl, rfl, by decide⟩ ⟨rfl, rfl, by decide⟩ (by kernel_rfl) (by kernel_rfl) (by kernel_rfl) Tryz.underlying3 (of_decide_eq_true (by kernel_rfl)) (by unfold I64; omega) (by unfold I64; omega) (by unfold I64; omega)
theorem keyT {n : BN} (h : n.1 ≤ 9223372036854775807 ∧ n.2.1 ≤ 9223372036854775807 ∧ n.2.2 ≤ 9223372036854775807) : ∃ kl, keyOf Tryz.prog 213 (encN n) = some kl :=
  key_array3 Tryz.underlying213 (by kernel_rfl) (by kernel_rfl) (by kernel_rfl) Tryz.underlying3 (of_decide_eq_true (by kernel_rfl)) (by unfold I64; omega) (by unfold I64; omega) (by unfold I64; omega)

/-- the cells of the nodes, one after the other -/
def nodesC : List BN → List Value
  | [] => []
  | n :: l => .int .i64 (n.1 : Int) :: .int .i64 (n.2.1 : Int) :: .int .i64 (n.2.2 : Int) :: nodesC l
theorem nodesC_append (l m : List BN) : nodesC (l ++ m) = nodesC l ++ nodesC m := by
  induction l with
  | nil => rfl
  | cons n l ih => simp [nodesC, ih]
theorem nodesC_get (l : List BN) : ∀ {i : Nat} {n : BN}, l[i]? = some n → (nodesC l)[i * 3]? = some (.int .i64 (n.1 : Int)) ∧ (nodesC l)[i * 3 + 1]? = some (.int .i64 (n.2.1 : Int)) ∧ (nodesC l)[i * 3 + 2]? = some (.int .i64 (n.2.2 : Int)) := by
  induction l with
  | nil => intro i n h; simp at h
  | cons m l ih =>
    intro i n h
    cases i with
    | zero =>
      simp at h
      subst h
      simp [nodesC]
    | succ i =>
      rw [show (i + 1) * 3 = i * 3 + 3 from by omega]
      exact ih (by simpa using h)
/-- where a node stands, counted from i -/
def posN : List BN → BN → Nat → Option Nat
  | [], _, _ => none
  | m :: l, n, i => if m = n then some i else posN l n (i + 1)
theorem posN_some {l : List BN} {n : BN} : ∀ {i j : Nat}, posN l n i = some j → ∃ t, j = i + t ∧ l[t]? = some n := by
  induction l with
  | nil => intro i j h; simp [posN] at h
  | cons m l ih =>
    intro i j h
    unfold posN at h
    split at h
    · injection h with h
      exact ⟨0, by omega, by simp_all⟩
    · obtain ⟨t, h1, h2⟩ := ih h
      exact ⟨t + 1, by omega, by simpa using h2⟩
theorem posN_none {l : List BN} {n : BN} : ∀ {i : Nat}, posN l n i = none ↔ n ∉ l := by
  induction l with
  | nil => intro i; simp [posN]
  | cons m l ih =>
    intro i
    unfold posN
    split
    · simp_all
    · rename_i h
      rw [ih]
      simp only [List.mem_cons, not_or]
      exact ⟨fun h' => ⟨fun e => h e.symm, h'⟩, fun h' => h'.2⟩
theorem posN_snoc (l : List BN) (m n : BN) : ∀ i, posN (l ++ [m]) n i = match posN l n i with
    | some j => some j
    | none => if m = n then some (i + l.length) else none := by
  induction l with
  | nil => intro i; simp [posN]
  | cons q l ih =>
    intro i
    simp only [List.cons_append, posN]
    split
    · rfl
    · rw [ih]
      simp only [List.length_cons, Nat.add_comm l.length 1, Nat.add_assoc]
def foundF (ns : List BN) : BN → Option Int := fun n => (posN ns n 2).map Int.ofNat
theorem foundF_put {ns : List BN} {n : BN} (h : n ∉ ns) : putM (foundF ns) n ((ns.length + 2 : Nat) : Int) = foundF (ns ++ [n]) := by
  funext m
  unfold putM foundF
  rw [posN_snoc]
  by_cases hm : m = n
  · subst hm
    rw [posN_none.2 h]
    simp
    omega
  · rw [if_neg hm, if_neg (fun e => hm e.symm)]
    cases posN ns m 2 <;> rfl
def nodeF (ns : List BN) (v l h : Nat) : List BN × Nat :=
  if l = h then (ns, l) else match posN ns (v, l, h) 2 with
    | some k => (ns, k)
    | none => (ns ++ [(v, l, h)], ns.length + 2)

/-- a store, and all that belongs to it: its levels, its nodes, its two maps -/
structure StoreAt (L B g bf bp : Nat) (w : World) (ns : List BN) (np : Nat) (M : BN → Option Int) : Prop where
  low : L ≤ 24
  few : ns.length ≤ 5800000000000 ∧ np ≤ 5800000000000
  blk : ∃ A c, Blk 140 w g [.int .i64 L, .slice A ns.length c, .map (some bf), .map (some bp)] ∧ w.ownsRow B 162 3 (.slice A ns.length c) ns.length (nodesC ns)
  found : MapAt Tryz.prog 162 3 encN w bf ns.length (foundF ns)
  pairs : MapAt Tryz.prog 213 3 encN w bp np M
  base : B ≤ g ∧ B ≤ bf ∧ B ≤ bp ∧ bf ≠ bp ∧ B ≤ w.heap.size

/-- the block of the row whose slice stands in cell 1 of block g -/
def rowOf (w : World) (g : Nat) : Option Nat := (w.cell? ⟨g, 1, none⟩).bind Value.ownBlock
/-- what a call of a method of a store leaves as it was: all but the store's own blocks -/
structure Kept (B g bf bp : Nat) (w w' : World) : Prop where
  os : w'.os = w.os
  tape : w'.tape = w.tape
  output : w'.output = w.output
  size : w.heap.size ≤ w'.heap.size
  row : ∀ r, rowOf w' g = some r → rowOf w g = some r ∨ w.heap.size ≤ r
  block : ∀ i, i < w.heap.size → (i < B ∨ (i ≠ g ∧ i ≠ bf ∧ i ≠ bp ∧ rowOf w g ≠ some i)) → w'.heap[i]? = w.heap[i]?
/-- block b is none of the store's own -/
def Free (w : World) (g bf bp b : Nat) : Prop := b < w.heap.size ∧ b ≠ g ∧ b ≠ bf ∧ b ≠ bp ∧ rowOf w g ≠ some b
theorem rowOf_same {w w' : World} {g : Nat} (h : w'.heap[g]? = w.heap[g]?) : rowOf w' g = rowOf w g := by
  unfold rowOf
  rw [World.cell?_of_block (w := w) (a := ⟨g, 1, none⟩) h]
section
variable {L B g bf bp : Nat} {w w' w'' : World} {ns : List BN} {np : Nat} {M : BN → Option Int}
theorem Kept.refl (B g bf bp : Nat) (w : World) : Kept B g bf bp w w := ⟨rfl, rfl, rfl, Nat.le_refl _, fun _ h => .inl h, fun _ _ _ => rfl⟩
theorem Kept.free (h : Kept B g bf bp w w') {b : Nat} (hf : Free w g bf bp b) : Free w' g bf bp b :=
  ⟨Nat.lt_of_lt_of_le hf.1 h.size, hf.2.1, hf.2.2.1, hf.2.2.2.1, fun e => by
    rcases h.row b e with h1 | h1
    · exact hf.2.2.2.2 h1
    · have := hf.1
      omega⟩
theorem Kept.trans (h : Kept B g bf bp w w') (k : Kept B g bf bp w' w'') : Kept B g bf bp w w'' :=
  ⟨k.os.trans h.os, k.tape.trans h.tape, k.output.trans h.output, Nat.le_trans h.size k.size, fun r hr => by
    rcases k.row r hr with h1 | h1
    · exact h.row r h1
    · exact .inr (Nat.le_trans h.size h1), fun i hi hn => by
    have e := h.block i hi hn
    refine (k.block i (Nat.lt_of_lt_of_le hi h.size) ?_).trans e
    rcases hn with hn | hn
    · exact .inl hn
    · exact .inr (h.free ⟨hi, hn⟩).2⟩
theorem Kept.of_below (h : Below w.heap.size w w') (hg : g < w.heap.size) : Kept B g bf bp w w' := ⟨h.os, h.tape, h.output, h.size, fun r hr => .inl (by rw [← rowOf_same (h.block g hg)]; exact hr), fun i hi _ => h.block i hi⟩
theorem Kept.drewN (h : Kept B g bf bp w w') (n : Nat) : Kept B g bf bp w (w'.drewN n) := ⟨h.os, h.tape, h.output, h.size, h.row, h.block⟩
theorem Kept.below (h : Kept B g bf bp w w') (hB : B ≤ w.heap.size) : Below B w w' := ⟨h.os, h.tape, h.output, h.size, fun i hi => h.block i (by omega) (.inl hi)⟩
theorem Kept.blk {t : TypeId} {b : Nat} {cs : List Value} (h : Kept B g bf bp w w') (hb : Blk t w b cs) (hf : Free w g bf bp b) : Blk t w' b cs :=
  (h.block b hf.1 (.inr hf.2)).trans hb
theorem Kept.map {κ : Type} {P : Program} {K E : TypeId} {enc : κ → Value} {b n : Nat} {M' : κ → Option Int} (h : Kept B g bf bp w w') (hb : MapAt P K E enc w b n M') (hf : Free w g bf bp b) : MapAt P K E enc w' b n M' :=
  hb.of_block (h.block b hf.1 (.inr hf.2))
theorem Kept.of_grown {row : Nat} (h : w.grownBy w' (some row)) (hB : B ≤ row) (hr : row = bf ∨ row = bp) (hg : g < w.heap.size) (hne : g ≠ row) : Kept B g bf bp w w' :=
  ⟨h.os, h.tape, h.output, h.size, fun r hr => .inl (by rw [← rowOf_same (h.block g hg (by simpa using hne))]; exact hr), fun i hi hn => h.block i hi (fun e => by
    injection e with e
    subst e
    rcases hn with hn | ⟨h1, h2, h3, h4⟩
    · omega
    · rcases hr with hr | hr
      · exact h2 hr
      · exact h3 hr)⟩
/-- one element more on the row of g -/
theorem Kept.of_push {t : TypeId} {w1 w2 : World} {v u : Value} {n gr : Nat} {xs : List Value} (hb : Below w.heap.size w w1) (ho : w.ownsRow B t 3 v n xs) (hv : w.cell? ⟨g, 1, none⟩ = some v) (hgr : w1.grownBy w2 v.ownBlock) (hat : v.ownBlock = some gr ∨ w.heap.size ≤ gr)
    (hg : B ≤ g) (hrow : rowOf (w2.setCell ⟨g, 1, none⟩ u) g = some gr) : Kept B g bf bp w (w2.setCell ⟨g, 1, none⟩ u) := by
  have hset := only_set w2 g 1 u
  have hr0 : rowOf w g = v.ownBlock := by rw [rowOf, hv]; rfl
  refine ⟨hset.os.trans (hgr.os.trans hb.os), hset.tape.trans (hgr.tape.trans hb.tape), hset.output.trans (hgr.output.trans hb.output), Nat.le_trans hb.size (Nat.le_trans hgr.size hset.size), fun r hr => ?_, fun i hi hn => ?_⟩
  · rw [hrow] at hr
    injection hr with hr
    subst hr
    rw [hr0]
    exact hat
  · have hig : i ≠ g := by
      rcases hn with hn | hn
      · omega
      · exact hn.1
    have hir : some i ≠ v.ownBlock := fun e => by
      rcases hn with hn | hn
      · have := own_base ho e.symm
        omega
      · rw [hr0] at hn
        exact hn.2.2.2 e.symm
    have h1 := hb.block i hi
    have hi1 : i < w1.heap.size := Nat.lt_of_lt_of_le hi hb.size
    exact (hset.block i (Nat.lt_of_lt_of_le hi1 hgr.size) (by simpa using hig)).trans ((hgr.block i hi1 hir).trans h1)
theorem StoreAt.ne (h : StoreAt L B g bf bp w ns np M) : g ≠ bf ∧ g ≠ bp ∧ bf ≠ bp := by
  obtain ⟨A, c, hb, _⟩ := h.blk
  obtain ⟨es, cl, hf⟩ := h.found.isMap
  obtain ⟨es', cl', hp⟩ := h.pairs.isMap
  unfold Blk at hb
  refine ⟨fun e => ?_, fun e => ?_, h.base.2.2.2.1⟩
  · subst e
    rw [hb] at hf
    cases hf
  · subst e
    rw [hb] at hp
    cases hp
theorem StoreAt.keep (h : StoreAt L B g bf bp w ns np M) (hb : Below w.heap.size w w') : StoreAt L B g bf bp w' ns np M := by
  obtain ⟨A, c, h1, h2⟩ := h.blk
  refine ⟨h.low, h.few, ⟨A, c, h1.keep hb, ?_⟩, h.found.of_block (hb.block _ h.found.lt), h.pairs.of_block (hb.block _ h.pairs.lt), h.base.1, h.base.2.1, h.base.2.2.1, h.base.2.2.2.1, Nat.le_trans h.base.2.2.2.2 hb.size⟩
  refine ⟨h2.1, ?_⟩
  rcases h2.2 with h3 | ⟨r, cap, cur, e, hr, hc, rest⟩
  · exact .inl h3
  · refine .inr ⟨r, cap, cur, e, hr, (hb.block r ?_).trans hc, rest⟩
    rcases Nat.lt_or_ge r w.heap.size with hl | hl
    · exact hl
    · rw [Array.getElem?_eq_none hl] at hc
      cases hc
theorem StoreAt.lt (h : StoreAt L B g bf bp w ns np M) : g < w.heap.size := by
  obtain ⟨A, c, hb, _⟩ := h.blk
  exact hb.lt
/-- a block of another kind is not the store's -/
theorem StoreAt.free (h : StoreAt L B g bf bp w ns np M) {t : TypeId} {b : Nat} {cs : List Value} (hb : Blk t w b cs) (hg : b ≠ g) (ht : t ≠ 162) : Free w g bf bp b := by
  obtain ⟨A, c, hbl, ho⟩ := h.blk
  obtain ⟨es, cl, hm⟩ := h.found.isMap
  obtain ⟨es', cl', hm'⟩ := h.pairs.isMap
  have hb' := hb
  unfold Blk at hb'
  refine ⟨hb.lt, hg, fun e => ?_, fun e => ?_, fun e => ?_⟩
  · rw [e, hm] at hb'
    cases hb'
  · rw [e, hm'] at hb'
    cases hb'
  · have hc := hbl.cell 1
    rw [rowOf, hc] at e
    obtain ⟨_, cs', m, hr⟩ := own_block ho (r := b) e
    rw [hb'] at hr
    injection hr with hr
    injection hr with _ hr _
    exact ht hr
/-- a new block is not the store's -/
theorem StoreAt.free_new (h : StoreAt L B g bf bp w ns np M) (o : Obj) : Free (w.alloc o) g bf bp w.heap.size := by
  obtain ⟨A, c, hbl, ho⟩ := h.blk
  have h1 := h.found.lt
  have h2 := h.pairs.lt
  have h3 := hbl.lt
  refine ⟨by simp, by omega, by omega, by omega, fun e => ?_⟩
  have hc := (hbl.alloc o).cell 1
  rw [rowOf, hc] at e
  have := (own_block ho (r := w.heap.size) e).1
  omega
theorem StoreAt.free_map (h : StoreAt L B g bf bp w ns np M) {b : Nat} {es : Array MapEntry} {cl : Nat} (hb : w.heap[b]? = some (.map es cl)) (hf : b ≠ bf) (hp : b ≠ bp) : Free w g bf bp b := by
  obtain ⟨A, c, hbl, ho⟩ := h.blk
  have hlt : b < w.heap.size := by
    rcases Nat.lt_or_ge b w.heap.size with h1 | h1
    · exact h1
    · rw [Array.getElem?_eq_none h1] at hb
      cases hb
  refine ⟨hlt, fun e => ?_, hf, hp, fun e => ?_⟩
  · unfold Blk at hbl
    rw [← e, hb] at hbl
    cases hbl
  · have hc := hbl.cell 1
    rw [rowOf, hc] at e
    obtain ⟨_, cs', m, hr⟩ := own_block ho (r := b) e
    rw [hb] at hr
    cases hr
theorem StoreAt.qt (h : StoreAt L B g bf bp w ns np M) (hq : Qt w w') : StoreAt L B g bf bp w' ns np M := h.keep (hq.below _)
end
end Go.Proofs.YtmjiiddncbhgpaaGreat
namespace Go.Proofs.YtmjiiddncbhgpaaGreat
open Go.RowKit Go.Maps
section
variable {L B g bf bp : Nat} {w w' w'' : World} {ns : List BN} {np : Nat} {M : BN → Option Int}
theorem StoreAt.node (h : StoreAt L B g bf bp w ns np M) {i : Nat} {n : BN} (hn : ns[i]? = some n) : ∃ r c, Blk 140 w g [.int .i64 L, .slice (some ⟨r, 0, none⟩) ns.length c, .map (some bf), .map (some bp)] ∧
    w.cell? ⟨r, i * 3, none⟩ = some (.int .i64 (n.1 : Int)) ∧ w.cell? ⟨r, i * 3 + 1, none⟩ = some (.int .i64 (n.2.1 : Int)) ∧ w.cell? ⟨r, i * 3 + 2, none⟩ = some (.int .i64 (n.2.2 : Int)) ∧ i < ns.length := by
  obtain ⟨A, c, hb, ho⟩ := h.blk
  have hi := (List.getElem?_eq_some_iff.1 hn).1
  obtain ⟨r, cap, e, hr, hlt⟩ := ho.form (by omega)
  injection e with e1 _ e2
  subst e1 e2
  obtain ⟨h1, h2, h3⟩ := nodesC_get ns hn
  have c1 := ho.cells (g := r) rfl _ _ h1
  have c2 := ho.cells (g := r) rfl _ _ h2
  have c3 := ho.cells (g := r) rfl _ _ h3
  rw [add_plain, Nat.zero_add] at c1 c2 c3
  exact ⟨r, c, hb, c1, c2, c3, hi⟩
theorem StoreAt.cells (h : StoreAt L B g bf bp w ns np M) : ∃ A c, w.cell? ⟨g, 0, none⟩ = some (.int .i64 L) ∧ w.cell? ⟨g, 1, none⟩ = some (.slice A ns.length c) ∧ w.cell? ⟨g, 2, none⟩ = some (.map (some bf)) ∧ w.cell? ⟨g, 3, none⟩ = some (.map (some bp)) ∧ (∀ i, w.frozen? ⟨g, i, none⟩ = false) ∧
    w.ownsRow B 162 3 (.slice A ns.length c) ns.length (nodesC ns) := by
  obtain ⟨A, c, hb, ho⟩ := h.blk
  exact ⟨A, c, hb.cell 0, hb.cell 1, hb.cell 2, hb.cell 3, hb.frozen, ho⟩
end
theorem level_ct {L B g bf bp : Nat} {w : World} {ns : List BN} {np : Nat} {M : BN → Option Int} (h : StoreAt L B g bf bp w ns np M) {k : Nat} (hk : k < ns.length + 2) :
    Calls Tryz.prog 127 #[.pointer (some ⟨g, 0, none⟩), .int .i64 k] w (Same w (.int .i64 (lvl L ns k : Nat))) := by
  have hL := h.low
  have hfew := h.few.1
  by_cases h2 : k < 2
  · rw [lvl_small ns h2]
    obtain ⟨A, c, hc0, hc1, hc2, hc3, _⟩ := h.cells
    go_enter Tryz.func127, Tryz.ntmps127
    go_wp2
    go_ret
    exact ⟨rfl, rfl⟩
  · obtain ⟨i, v, l, h', rfl, hn⟩ := node_of (ns := ns) (by omega) hk
    rw [lvl_node hn]
    obtain ⟨r, c, hb, hn0, _, _, hi⟩ := h.node hn
    have hc1 := hb.cell 1
    simp at hc1
    go_enter Tryz.func127, Tryz.ntmps127
    go_wp2
    go_ret
    exact ⟨rfl, rfl⟩

/-- what hangs below node k at a level -/
def sidesF (L : Nat) (ns : List BN) (k lv : Nat) : Nat × Nat := if lv < lvl L ns k then (k, k) else (ns[k - 2]?.map (·.2)).getD (0, 0)
set_option maxHeartbeats 800000 in
theorem sides_ct {L B g bf bp : Nat} {w : World} {ns : List BN} {np : Nat} {M : BN → Option Int} (h : StoreAt L B g bf bp w ns np M) {k lv : Nat} (hk : k < ns.length + 2) (hlv : lv < L) :
    Calls Tryz.prog 128 #[.pointer (some ⟨g, 0, none⟩), .int .i64 k, .int .i64 lv] w (Gives w (.tuple #[.int .i64 ((sidesF L ns k lv).1 : Nat), .int .i64 ((sidesF L ns k lv).2 : Nat)])) := by
  have hL := h.low
  have hfew := h.few.1
  by_cases h2 : lv < lvl L ns k
  · have hs : sidesF L ns k lv = (k, k) := by rw [sidesF, if_pos h2]
    rw [hs]
    have hlev := level_ct h hk
    generalize lvl L ns k = lk at *
    have Hs := hide hs
    clear hs
    go_enter Tryz.func128, Tryz.ntmps128
    go_wp2_with fail
    refine hlev.mono ?_
    rintro e w1 ⟨rfl, rfl⟩
    go_wp2
    exact bodyPost_ret (v := .tuple #[.int .i64 k, .int .i64 k]) (by simp [results, Tryz.results128, go_sem]) rfl ⟨rfl, Below.refl _ _⟩
  · have hk2 : ¬ k < 2 := fun hk2 => by rw [lvl_small ns hk2] at h2; omega
    obtain ⟨i, v, l, h', rfl, hn⟩ := node_of (ns := ns) (by omega) hk
    have hs : sidesF L ns (i + 2) lv = (l, h') := by rw [sidesF, if_neg h2, Nat.add_sub_cancel, hn]; rfl
    rw [hs]
    have hlev := level_ct h hk
    rw [lvl_node hn] at hlev h2
    obtain ⟨r, c, hb, hn0, hn1, hn2, hi⟩ := h.node hn
    have hc1 := hb.cell 1
    simp at hc1
    have Hs := hide hs
    have Hn := hide hn
    clear hs hn
    go_enter Tryz.func128, Tryz.ntmps128
    go_wp2_with fail
    refine hlev.mono ?_
    rintro e w1 ⟨rfl, rfl⟩
    go_wp2
    go_quiet (fail)
    go_wp2
    refine bodyPost_ret (v := .tuple #[.int .i64 l, .int .i64 h']) (by simp [results, Tryz.results128, go_sem]) rfl ⟨rfl, ?_⟩
    exact below_drewN ((Below.refl _ _).alloc (Nat.le_refl _) _) nq

/-- returned k, the store now st, and no other memory turned -/
def NodeP (L B g bf bp : Nat) (w : World) (ns : List BN) (k np : Nat) (M : BN → Option Int) (e : Ending) (w' : World) : Prop :=
  e = .returned (.int .i64 k) ∧ StoreAt L B g bf bp w' ns np M ∧ Kept B g bf bp w w'
set_option maxHeartbeats 1600000 in
theorem Node_ct {L B g bf bp : Nat} {w : World} {ns : List BN} {np : Nat} {M : BN → Option Int} (h : StoreAt L B g bf bp w ns np M) {v l h' : Nat} (hv : v ≤ 24) (hl : l < ns.length + 2) (hh : h' < ns.length + 2) (hroom : ns.length < 5800000000000) :
    Calls Tryz.prog 86 #[.pointer (some ⟨g, 0, none⟩), .int .i64 v, .int .i64 l, .int .i64 h'] w (NodeP L B g bf bp w (nodeF ns v l h').1 (nodeF ns v l h').2 np M) := by
  have hL := h.low
  by_cases hlh : l = h'
  · subst hlh
    have hs : nodeF ns v l l = (ns, l) := by rw [nodeF, if_pos rfl]
    rw [hs]
    clear hs
    have Hst := hide h
    clear h
    go_enter Tryz.func86, Tryz.ntmps86
    go_wp2
    go_ret
    exact ⟨rfl, Hst.out, Kept.refl _ _ _ _ _⟩
  · obtain ⟨kl, hkl⟩ := keyN (n := (v, l, h')) ⟨by simp; omega, by simp; omega, by simp; omega⟩
    have hc0 := h.cells.choose_spec.choose_spec.1
    have hsz : g < w.heap.size := World.block_lt_of_cell? w _ hc0
    obtain ⟨fc, hlook, hfc, hfM⟩ := h.found.looks lawN Tryz.underlying137 Tryz.underlying3 zeroI hkl
    have hfb := h.found.lt
    obtain ⟨V, hV⟩ : ∃ V, V = w.alloc (.cells #[.int .i64 v, .int .i64 l, .int .i64 h'] 162) := ⟨_, rfl⟩
    have hbV : Below w.heap.size w V := by rw [hV]; exact (Below.refl _ _).alloc (Nat.le_refl _) _
    have hst := h.keep hbV
    have hlookd : ∀ d, (Instr.lookup 137 (.map (some bf)) (.agg #[.int .i64 v, .int .i64 l, .int .i64 h']) true).run Tryz.prog (V.drewN d) = .ok (.tuple #[.int .i64 fc, .bool (foundF ns (v, l, h')).isSome]) (V.drewN d) :=
      fun d => hlook _ (hbV.block _ hfb)
    have hcell := Blk.new w 162 [.int .i64 v, .int .i64 l, .int .i64 h']
    have hVs : w.heap.size < V.heap.size := by rw [hV]; simp
    have Hst := hide hst
    generalize hs : nodeF ns v l h' = st
    have Hs := hide hs
    obtain ⟨A, c, hblk, hown'⟩ := h.blk
    have hne : some g ≠ (Value.slice A ns.length c).ownBlock := fun e => by
      obtain ⟨_, cs, m, hr⟩ := own_block hown' e.symm
      unfold Blk at hblk
      rw [hblk] at hr
      injection hr with hr
      injection hr with _ hr _
      exact absurd hr (by decide)
    have hne2 : some w.heap.size ≠ (Value.slice A ns.length c).ownBlock := fun e => by
      have := (own_block hown' e.symm).1
      omega
    have Hblk0 := hide hblk
    have Hown0 := hide hown'
    have Hne := hide hne
    have Hne2 := hide hne2
    clear hblk hown' hne hne2
    have HV := hide hV
    have HbV := hide hbV
    have Hcell := hide hcell
    have Hlookd := hide hlookd
    have HfM := hide hfM
    clear h hc0 hlook hst hkl hs hV hbV hcell hlookd hfM
    go_enter Tryz.func86, Tryz.ntmps86
    go_wp2_with fail
    rw [← HV.out]
    have hcell := Hcell.out
    rw [← HV.out] at hcell
    have hlookd := Hlookd.out
    have hfM := HfM.out
    have hsV := HbV.out.size
    have hc2 := (Hblk0.out.keep HbV.out).cell 2
    simp at hc2
    have hn0 := hcell.cell 0
    have hn1 := hcell.cell 1
    have hn2 := hcell.cell 2
    simp at hn0 hn1 hn2
    cases hp : posN ns (v, l, h') 2 with
    | some k =>
      have hs : nodeF ns v l h' = (ns, k) := by rw [nodeF, if_neg hlh, hp]
      obtain rfl := Hs.out.symm.trans hs
      have hM : foundF ns (v, l, h') = some (k : Int) := by rw [foundF, hp]; rfl
      rw [hM] at hlookd
      obtain rfl := hfM _ hM
      clear hs hM hp hfM
      simp only [Option.isSome_some] at hlookd
      go_quiet (fail)
      go_wp2
      go_ret
      exact ⟨rfl, Hst.out.qt ⟨_, rfl⟩, (Kept.of_below HbV.out hsz).drewN _⟩
    | none =>
      have hs : nodeF ns v l h' = (ns ++ [(v, l, h')], ns.length + 2) := by rw [nodeF, if_neg hlh, hp]
      obtain rfl := Hs.out.symm.trans hs
      have hM : foundF ns (v, l, h') = none := by rw [foundF, hp]; rfl
      rw [hM] at hlookd
      have Hnew := hide (posN_none.1 hp)
      clear hs hM hp hfM
      simp only [Option.isSome_none] at hlookd
      go_quiet (fail)
      go_wp2_with fail
      have hbW := below_drewN HbV.out nq
      have hst1 := Hst.out.qt (w' := V.drewN nq) ⟨nq, rfl⟩
      have Hcell1 := Hcell
      rw [← HV.out] at Hcell1
      have hcell1 := (Hcell1.out).qt (w' := V.drewN nq) ⟨nq, rfl⟩
      have hVs' : w.heap.size < (V.drewN nq).heap.size := hVs
      clear hlookd hc2 hn0 hn1 hn2 hcell Hcell Hcell1 Hlookd HfM hVs hsV hfb Hst HbV HV
      generalize V.drewN nq = W at *
      clear V
      have hblk := Hblk0.out.keep hbW
      have hown := own_keep Hown0.out hbW
      have hc1 := hblk.cell 1
      have hn0 := hcell1.cell 0
      have hn1 := hcell1.cell 1
      have hn2 := hcell1.cell 2
      simp at hn0 hn1 hn2 hc1
      have hgV : g < W.heap.size := by omega
      have HbW := hide hbW
      have Hblk := hide hblk
      have Hst1 := hide hst1
      have Hcell1 := hide hcell1
      have Hown := hide hown
      have hbl := hst1.base.2.2.2.2
      clear hst1 hcell1 hown hblk hbW
      obtain ⟨i0, hi0, hz0, hz1, hz2⟩ := info_parts (show (Tryz.prog.info? 162).map (fun i => (i.zero, i.size, i.bytes)) = some (some (.agg #[.int .i64 0, .int .i64 0, .int .i64 0]), 3, 24) by kernel_rfl)
      have hml : ns.length + 1 ≤ maxLen := by unfold maxLen; omega
      have hby : (ns.length + 1) * 24 ≤ 140737488355328 := by omega
      have hone : ∀ u ∈ [Value.int .i64 (v : Int), .int .i64 l, .int .i64 h'], u.oneCell' = true := by
        intro u hu
        simp at hu
        rcases hu with rfl | rfl | rfl <;> rfl
      have hnews : ∀ j u, [Value.int .i64 (v : Int), .int .i64 l, .int .i64 h'][j]? = some u → (W.alloc (.cells #[.int .i64 v, .int .i64 l, .int .i64 h'] 162)).drew.cell? ((⟨W.heap.size, 0, none⟩ : Addr).add j) = some u := by
        intro j u hj
        rw [add_plain, Nat.zero_add]
        exact (((Blk.new W 162 [.int .i64 v, .int .i64 l, .int .i64 h']).qt (Qt.refl _).drew).cell j).trans hj
      have Hnews := hide hnews
      clear hnews
      go_region_law (refine step_append_lies _ rfl _ _ 136 rfl B 162 i0 (.agg #[.int .i64 0, .int .i64 0, .int .i64 0]) 3 24 Tryz.underlying136 hi0 hz0 hz1 hz2 rfl (by decide) (.slice A ns.length c) ns.length (nodesC ns) (by simp [Act.eval]) (Hown.out.alloc _).drew ⟨W.heap.size, 0, none⟩ 1 1 [.int .i64 v, .int .i64 l, .int .i64 h'] (by simp [Act.eval]) rfl Hnews.out hone (by omega) hml hby (by simp; omega) _ rfl ?_; intro gr cap w2 hown2 hgr2 hat2 hlt2; have hb2 := ((Hblk.out.alloc _).qt (Qt.refl _).drew).grown hgr2 Hne.out; have hz2 := hb2.frozen 1; have hcg2 := hb2.cell 1; have Hb2 := hide hb2; have Hown2 := hide hown2; have Hgr2 := hide hgr2; have Hat2 := hide hat2; clear hb2 hown2 hgr2 hat2)
      all_goals
        have HW2 := hide (((Below.refl W.heap.size W).alloc (Nat.le_refl _) (.cells #[.int .i64 v, .int .i64 l, .int .i64 h'] 162)).drew)
        have hbox2 := (Hcell1.out.below HW2.out Hcell1.out.lt).grown Hgr2.out Hne2.out
        have hz3 := (only_set w2 g 1 (.slice (some ⟨gr, 0, none⟩) (ns.length + 1) cap))
        have hblk3 := Hb2.out.set 1 (.slice (some ⟨gr, 0, none⟩) (ns.length + 1) cap)
        have hgrg : gr ≠ g := fun e => by
          obtain ⟨_, cs, m, hr⟩ := own_block Hown2.out (r := gr) rfl
          have hb := Hb2.out
          unfold Blk at hb
          rw [e, hb] at hr
          injection hr with hr
          injection hr with _ hr _
          exact absurd hr (by decide)
        have hown3 := own_other Hown2.out hz3 (fun r hr => by
          have hr : gr = r := by simpa [Value.ownBlock] using hr
          rw [← hr]
          simpa using hgrg)
        have hmapne : ∀ b es cl, w2.heap[b]? = some (.map es cl) → b ≠ g := fun b es cl hb e => by
          have hb' := Hb2.out
          unfold Blk at hb'
          rw [e, hb'] at hb
          cases hb
        have hmapk : ∀ b es cl, W.heap[b]? = some (.map es cl) → b < W.heap.size → w2.heap[b]? = W.heap[b]? := fun b es cl hb hlt => by
          refine (Hgr2.out.block b (Nat.lt_of_lt_of_le hlt HW2.out.size) (fun e => ?_)).trans (HW2.out.block b hlt)
          obtain ⟨_, cs, m, hr⟩ := own_block Hown.out e.symm
          rw [hr] at hb
          cases hb
        obtain ⟨es, cl, hbf⟩ := Hst1.out.found.isMap
        obtain ⟨es', cl', hbp⟩ := Hst1.out.pairs.isMap
        have hbf2 := hmapk _ _ _ hbf Hst1.out.found.lt
        have hbp2 := hmapk _ _ _ hbp Hst1.out.pairs.lt
        have hbf3 := Below.heap_setCell w2 ⟨g, 1, none⟩ (.slice (some ⟨gr, 0, none⟩) (ns.length + 1) cap) bf (hmapne _ _ _ (hbf2.trans hbf))
        have hbp3 := Below.heap_setCell w2 ⟨g, 1, none⟩ (.slice (some ⟨gr, 0, none⟩) (ns.length + 1) cap) bp (hmapne _ _ _ (hbp2.trans hbp))
        have hfound3 := Hst1.out.found.of_block (hbf3.trans hbf2)
        have hpairs3 := Hst1.out.pairs.of_block (hbp3.trans hbp2)
        have hbox3 : Blk 162 (w2.setCell ⟨g, 1, none⟩ (.slice (some ⟨gr, 0, none⟩) (ns.length + 1) cap)) w.heap.size [.int .i64 v, .int .i64 l, .int .i64 h'] := hbox2.far (show w.heap.size ≠ g by omega) _
        have hk3 : Kept B g bf bp W (w2.setCell ⟨g, 1, none⟩ (.slice (some ⟨gr, 0, none⟩) (ns.length + 1) cap)) := by
          refine Kept.of_push (gr := gr) HW2.out Hown.out (Hblk.out.cell 1) Hgr2.out ?_ Hst1.out.base.1 ?_
          · rcases Hat2.out with h1 | h1
            · exact .inl h1
            · refine .inr ?_
              rw [h1]
              exact HW2.out.size
          · have := hblk3.cell 1
            rw [rowOf, this]
            rfl
        have hsz3 : W.heap.size ≤ (w2.setCell ⟨g, 1, none⟩ (.slice (some ⟨gr, 0, none⟩) (ns.length + 1) cap)).heap.size := hk3.size
        clear hz3 hgrg hmapne hmapk hbf hbp hbf2 hbp2 hbf3 hbp3 hbox2 Hb2 Hown2 Hgr2 Hat2 HW2 hlt2
        generalize w2.setCell ⟨g, 1, none⟩ (.slice (some ⟨gr, 0, none⟩) (ns.length + 1) cap) = W3 at *
        clear Hcell1 Hown Hblk0 Hown0 Hne Hne2 Hblk Hnews
        obtain ⟨kl2, hkl2⟩ := keyN (n := (v, l, h')) ⟨by simp; omega, by simp; omega, by simp; omega⟩
        obtain ⟨w4, hrun4, hf4, hg4, hs4⟩ := (hfound3.of_block (w' := W3.drew) rfl).put encN_inj lawN Tryz.underlying137 Tryz.underlying3 hroom hkl2 ((ns.length + 2 : Nat) : Int) (by omega)
        have hrun4' : (Instr.mapUpdate 137 (.map (some bf)) (.agg #[.int .i64 v, .int .i64 l, .int .i64 h']) (.int .i64 ((ns.length : Int) + 1 + 1))).run Tryz.prog W3.drew = .ok () w4 := by
          rw [show (ns.length : Int) + 1 + 1 = ((ns.length + 2 : Nat) : Int) by omega]
          exact hrun4
        have hnbf : ∀ b es cl, W3.heap[b]? = some (.map es cl) → ∀ r, (Value.slice (some ⟨gr, 0, none⟩) (ns.length + 1) cap).ownBlock = some r → some r ≠ some b := fun b es cl hb r hr e => by
          injection e with e
          obtain ⟨_, cs, m, hc⟩ := own_block hown3 hr
          rw [e, hb] at hc
          cases hc
        obtain ⟨esf, clf, hmf⟩ := hfound3.isMap
        have Hnbf := hide (hnbf _ _ _ hmf)
        clear hnbf hmf
        clear hrun4 hkl2 kl2
        rw [foundF_put Hnew.out] at hf4
        have hd0 := hblk3.cell 0
        have hd1 := hblk3.cell 1
        have hd2 := hblk3.cell 2
        have he0 := hbox3.cell 0
        have he1 := hbox3.cell 1
        have he2 := hbox3.cell 2
        simp at hd0 hd1 hd2 he0 he1 he2
        have Hf4 := hide hf4
        have Hg4 := hide hg4
        have Hown3 := hide hown3
        have Hblk3 := hide hblk3
        have Hk3 := hide hk3
        have Hpairs3 := hide hpairs3
        clear hf4 hg4 hown3 hblk3 hk3 hpairs3 hfound3 hbox3
        go_wp2_with fail
        go_region
        go_wp2
        go_ret
        have hne3 := Hst1.out.ne
        have hpr := Hpairs3.out
        refine ⟨ret_int (by simp; omega), ⟨hL, ⟨by simp; omega, Hst1.out.few.2⟩, ⟨some ⟨gr, 0, none⟩, cap, ?_, ?_⟩, ?_, ?_, Hst1.out.base.1, Hst1.out.base.2.1, Hst1.out.base.2.2.1, Hst1.out.base.2.2.2.1, ?_⟩, ?_⟩
        · have := (Hblk3.out.qt (Qt.refl _).drew).grown Hg4.out (by simpa using hne3.1)
          simpa using this
        · have := own_other (Hown3.out.drew) Hg4.out Hnbf.out
          rw [nodesC_append]
          simpa [nodesC] using this
        · rw [List.length_append]
          exact Hf4.out
        · exact hpr.of_block (Hg4.out.block bp hpr.lt (by simpa using fun e => hne3.2.2 e.symm))
        · exact Nat.le_trans hbl (Nat.le_trans hsz3 Hg4.out.size)
        · exact (Kept.of_below HbW.out hsz).trans (Hk3.out.trans ((Kept.of_below (Below.refl _ W3).drew Hblk3.out.lt).trans (Kept.of_grown Hg4.out Hst1.out.base.2.1 (.inl rfl) Hblk3.out.lt hne3.1)))
end Go.Proofs.YtmjiiddncbhgpaaGreat
namespace Go.Proofs.YtmjiiddncbhgpaaGreat
open Go.RowKit Go.Maps
/-- what an operation does to two values -/
def opF (op : Nat) (x y : Bool) : Bool := if op = 0 then x && y else x || y
/-- the pairs that a store remembers mean what they say -/
def PairsOk (ns : List BN) (M : BN → Option Int) : Prop :=
  ∀ op a b c, M (op, a, b) = some c → ∃ k : Nat, c = k ∧ k < ns.length + 2 ∧ a < ns.length + 2 ∧ b < ns.length + 2 ∧ ∀ s, sem ns k s = opF op (sem ns a s) (sem ns b s)
/-- a store of these nodes, all in order; at most C nodes and remembered pairs -/
def St (L B g bf bp : Nat) (w : World) (ns : List BN) (C : Nat) : Prop :=
  ns.length ≤ C ∧ OkD L ns ∧ ∃ np M, np ≤ C ∧ StoreAt L B g bf bp w ns np M ∧ PairsOk ns M
/-- returned a node, of a store with more nodes -/
def StP (L B g bf bp : Nat) (w : World) (ns : List BN) (C : Nat) (Q : List BN → Nat → Prop) (e : Ending) (w' : World) : Prop :=
  ∃ ms k, e = .returned (.int .i64 (k : Nat)) ∧ St L B g bf bp w' (ns ++ ms) C ∧ Kept B g bf bp w w' ∧ k < (ns ++ ms).length + 2 ∧ Q (ns ++ ms) k

theorem PairsOk.more {L : Nat} {ns : List BN} {M : BN → Option Int} (ok : OkD L ns) (h : PairsOk ns M) (ms : List BN) : PairsOk (ns ++ ms) M := fun op a b c hc => by
  obtain ⟨k, h1, h2, h3, h4, h5⟩ := h op a b c hc
  refine ⟨k, h1, by simp; omega, by simp; omega, by simp; omega, fun s => ?_⟩
  rw [sem_add ok ms h2, sem_add ok ms h3, sem_add ok ms h4, h5]
section
variable {L B g bf bp : Nat} {w w' : World} {ns : List BN} {C : Nat}
theorem St.keep (h : St L B g bf bp w ns C) (hb : Below w.heap.size w w') : St L B g bf bp w' ns C := by
  obtain ⟨h1, h2, np, M, h3, h4, h5⟩ := h
  exact ⟨h1, h2, np, M, h3, h4.keep hb, h5⟩
theorem St.mono (h : St L B g bf bp w ns C) {C' : Nat} (hC : C ≤ C') : St L B g bf bp w ns C' := by
  obtain ⟨h1, h2, np, M, h3, h4, h5⟩ := h
  exact ⟨by omega, h2, np, M, by omega, h4, h5⟩
theorem St.ok (h : St L B g bf bp w ns C) : OkD L ns := h.2.1
theorem St.base (h : St L B g bf bp w ns C) : B ≤ w.heap.size := by
  obtain ⟨_, _, np, M, _, h4, _⟩ := h
  exact h4.base.2.2.2.2
theorem St.lt (h : St L B g bf bp w ns C) : g < w.heap.size := by
  obtain ⟨_, _, np, M, _, h4, _⟩ := h
  exact h4.lt
theorem St.free (h : St L B g bf bp w ns C) {t : TypeId} {b : Nat} {cs : List Value} (hb : Blk t w b cs) (hg : b ≠ g) (ht : t ≠ 162) : Free w g bf bp b := by
  obtain ⟨_, _, np, M, _, h4, _⟩ := h
  exact h4.free hb hg ht
theorem St.low (h : St L B g bf bp w ns C) : L ≤ 24 := by
  obtain ⟨_, _, np, M, _, h4, _⟩ := h
  exact h4.low
end
/-- a node of whose value only the variables from m on matter stands at m or below -/
theorem lvl_of_dep {L : Nat} {ns : List BN} (ok : OkD L ns) {k m : Nat} (hk : k < ns.length + 2) (hm : m ≤ L) (h : ∀ s t : Nat → Bool, (∀ v, m ≤ v → s v = t v) → sem ns k s = sem ns k t) : m ≤ lvl L ns k := by
  by_cases h2 : k < 2
  · rw [lvl_small ns h2]
    exact hm
  · obtain ⟨i, v, l, h', rfl, hn⟩ := node_of (ns := ns) (by omega) hk
    rw [lvl_node hn]
    apply Classical.byContradiction
    intro hlt
    obtain ⟨s, hs⟩ := sem_looks ok hn
    exact hs (h _ _ (fun u hu => by rw [setV_other _ _ (by omega), setV_other _ _ (by omega)]))

/-- the pure side of Node -/
theorem nodeF_ok {L : Nat} {ns : List BN} (ok : OkD L ns) {v l h : Nat} (hv : v < L) (hl : l < ns.length + 2) (hh : h < ns.length + 2) (h1 : v < lvl L ns l) (h2 : v < lvl L ns h) :
    ∃ ms k, nodeF ns v l h = (ns ++ ms, k) ∧ OkD L (ns ++ ms) ∧ ms.length ≤ 1 ∧ k < (ns ++ ms).length + 2 ∧ ∀ s, sem (ns ++ ms) k s = if s v = true then sem ns h s else sem ns l s := by
  unfold nodeF
  by_cases hlh : l = h
  · subst hlh
    rw [if_pos rfl]
    exact ⟨[], l, by simp, by simpa using ok, by simp, by simpa using hl, fun s => by simp⟩
  · rw [if_neg hlh]
    cases hp : posN ns (v, l, h) 2 with
    | some k =>
      obtain ⟨t, rfl, ht⟩ := posN_some hp
      have := (List.getElem?_eq_some_iff.1 ht).1
      refine ⟨[], 2 + t, by simp, by simpa using ok, by simp, by simp; omega, fun s => ?_⟩
      rw [List.append_nil, Nat.add_comm, sem_node ok ht]
    | none =>
      have ok' := ok.push hv hl hh hlh h1 h2 (posN_none.1 hp)
      refine ⟨[(v, l, h)], ns.length + 2, rfl, ok', by simp, by simp, fun s => ?_⟩
      have hlast : (ns ++ [(v, l, h)])[ns.length]? = some (v, l, h) := by simp
      rw [sem_node ok' hlast, sem_add ok _ hl, sem_add ok _ hh]

theorem Node_st {L B g bf bp : Nat} {w : World} {ns : List BN} {C : Nat} (h : St L B g bf bp w ns C) {v l h' : Nat} (hv : v < L) (hl : l < ns.length + 2) (hh : h' < ns.length + 2) (h1 : v < lvl L ns l) (h2 : v < lvl L ns h') (hroom : C < 5800000000000) :
    Calls Tryz.prog 86 #[.pointer (some ⟨g, 0, none⟩), .int .i64 v, .int .i64 l, .int .i64 h'] w
      (StP L B g bf bp w ns (C + 1) fun ns' k => (∀ s, sem ns' k s = if s v = true then sem ns h' s else sem ns l s) ∧ (ns', k) = nodeF ns v l h') := by
  have hL := h.low
  obtain ⟨g1, ok, np, M, g3, g4, g5⟩ := h
  obtain ⟨ms, k, e1, e2, e3, e4, e5⟩ := nodeF_ok ok hv hl hh h1 h2
  have hn := Node_ct g4 (v := v) (l := l) (h' := h') (by omega) hl hh (by omega)
  rw [e1] at hn
  refine hn.mono ?_
  rintro e w' ⟨rfl, h3, h4⟩
  exact ⟨ms, k, rfl, ⟨by simp; omega, e2, np, M, by omega, h3, g5.more ok ms⟩, h4, e4, e5, e1.symm⟩

/-- returned a store without nodes -/
def NewP (L : Nat) (w : World) (e : Ending) (w' : World) : Prop :=
  Below w.heap.size w w' ∧ ∃ g bf bp, e = .returned (.pointer (some ⟨g, 0, none⟩)) ∧ St L w.heap.size g bf bp w' [] 0
theorem NewStore_ct (L : Nat) (hL : L ≤ 24) (w : World) : Calls Tryz.prog 53 #[.int .i64 L] w (NewP L w) := by
  have hm1 := fun w => run_makeMap (P := Tryz.prog) 137 w
  have hm2 := fun w => run_makeMap (P := Tryz.prog) 138 w
  go_enter Tryz.func53, Tryz.ntmps53
  go_wp2
  go_ret
  have h1 := MapAt.made w Tryz.prog 162 3 encN
  have h2 := MapAt.made (w.alloc (.map #[] 0)) Tryz.prog 213 3 encN
  simp only [World.size_alloc] at h2
  have hb := Blk.new ((w.alloc (.map #[] 0)).alloc (.map #[] 0)) 140 [.int .i64 L, .slice none 0 0, .map (some w.heap.size), .map (some (w.heap.size + 1))]
  simp only [World.size_alloc] at hb
  refine ⟨(((Below.refl _ _).alloc (Nat.le_refl _) _).alloc (by simp) _).alloc (by simp; omega) _, w.heap.size + 1 + 1, w.heap.size, w.heap.size + 1, rfl, by simp, OkD.nil L, 0, fun _ => none, Nat.le_refl _, ⟨hL, by simp, ⟨none, 0, hb, World.ownsRow_nil _ _ _ _⟩, (h1.alloc _).alloc _, h2.alloc _, by omega, by omega, by omega, by omega, by simp; omega⟩, fun op a b c hc => by cases hc⟩

theorem StP.stay {L B g bf bp : Nat} {w : World} {ns : List BN} {C C' k : Nat} {Q : List BN → Nat → Prop} (h : St L B g bf bp w ns C) (hC : C ≤ C') (hk : k < ns.length + 2) (hQ : Q ns k) : StP L B g bf bp w ns C' Q (.returned (.int .i64 (k : Nat))) w :=
  ⟨[], k, rfl, by simpa using h.mono hC, Kept.refl _ _ _ _ _, by simpa using hk, by simpa using hQ⟩

set_option maxHeartbeats 1600000 in
set_option maxRecDepth 100000 in
theorem both_end {L B g bf bp : Nat} {op : Nat} (hop : op = 0 ∨ op = 1) {w : World} {ns : List BN} {C : Nat} (h : St L B g bf bp w ns C) {a b : Nat} (ha : a < ns.length + 2) (hb : b < ns.length + 2) (hend : a = b ∨ a < 2 ∨ b < 2) :
    Calls Tryz.prog 85 #[.pointer (some ⟨g, 0, none⟩), .int .i64 op, .int .i64 a, .int .i64 b] w (StP L B g bf bp w ns C fun ns' k => ∀ s, sem ns' k s = opF op (sem ns a s) (sem ns b s)) := by
  have hlen : ns.length ≤ 5800000000000 := by
    obtain ⟨_, _, np, M, _, h4, _⟩ := h
    exact h4.few.1
  have Hst := hide h
  have Hend := hide hend
  clear h hend
  by_cases hab : a = b
  · subst hab
    have hQ : ∀ s, sem ns a s = opF op (sem ns a s) (sem ns a s) := fun s => by
      unfold opF
      split <;> cases sem ns a s <;> rfl
    have HQ := hide hQ
    clear hQ
    go_enter Tryz.func85, Tryz.ntmps85
    go_wp2
    go_ret
    exact StP.stay Hst.out (Nat.le_refl _) ha HQ.out
  · have ends : ∀ k, k < ns.length + 2 → (∀ s, sem ns k s = opF op (sem ns a s) (sem ns b s)) → StP L B g bf bp w ns C (fun ns' k => ∀ s, sem ns' k s = opF op (sem ns a s) (sem ns b s)) (.returned (.int .i64 (k : Nat))) w :=
      fun k hk hQ => StP.stay Hst.out (Nat.le_refl _) hk hQ
    by_cases ha2 : a < 2
    · rcases (show a = 0 ∨ a = 1 by omega) with rfl | rfl <;> rcases hop with rfl | rfl
      · have He := hide (ends 0 (by omega) (fun s => by simp [opF, sem_zero]))
        clear ends
        by_cases hb2 : b < 2
        · obtain rfl : b = 1 := by omega
          go_enter Tryz.func85, Tryz.ntmps85
          go_wp2
          go_ret
          exact He.out
        · go_enter Tryz.func85, Tryz.ntmps85
          go_wp2
          go_ret
          exact He.out
      · have He := hide (ends b (by omega) (fun s => by simp [opF, sem_zero]))
        clear ends
        go_enter Tryz.func85, Tryz.ntmps85
        go_wp2
        go_ret
        exact He.out
      · have He := hide (ends b (by omega) (fun s => by simp [opF, sem_one]))
        clear ends
        go_enter Tryz.func85, Tryz.ntmps85
        go_wp2
        go_ret
        exact He.out
      · have He := hide (ends 1 (by omega) (fun s => by simp [opF, sem_one]))
        clear ends
        by_cases hb2 : b < 2
        · obtain rfl : b = 0 := by omega
          go_enter Tryz.func85, Tryz.ntmps85
          go_wp2
          go_ret
          exact He.out
        · go_enter Tryz.func85, Tryz.ntmps85
          go_wp2
          go_ret
          exact He.out
    · have hb2 : b < 2 := by
        rcases Hend.out with h | h | h
        · exact absurd h hab
        · exact absurd h ha2
        · exact h
      rcases (show b = 0 ∨ b = 1 by omega) with rfl | rfl <;> rcases hop with rfl | rfl
      · have He := hide (ends 0 (by omega) (fun s => by simp [opF, sem_zero]))
        clear ends
        go_enter Tryz.func85, Tryz.ntmps85
        go_wp2
        go_ret
        exact He.out
      · have He := hide (ends a (by omega) (fun s => by simp [opF, sem_zero]))
        clear ends
        go_enter Tryz.func85, Tryz.ntmps85
        go_wp2
        go_ret
        exact He.out
      · have He := hide (ends a (by omega) (fun s => by simp [opF, sem_one]))
        clear ends
        go_enter Tryz.func85, Tryz.ntmps85
        go_wp2
        go_ret
        exact He.out
      · have He := hide (ends 1 (by omega) (fun s => by simp [opF, sem_one]))
        clear ends
        go_enter Tryz.func85, Tryz.ntmps85
        go_wp2
        go_ret
        exact He.out
end Go.Proofs.YtmjiiddncbhgpaaGreat
namespace Go.Proofs.YtmjiiddncbhgpaaGreat
open Go.RowKit Go.Maps
theorem len_more (l m : List BN) : l.length ≤ (l ++ m).length := by simp
/-- the sides of a node at a level that is not below it -/
theorem sidesF_ok {L : Nat} {ns : List BN} (ok : OkD L ns) {k lv : Nat} (hk : k < ns.length + 2) (hlv : lv ≤ lvl L ns k) (hL : lv < L) :
    (sidesF L ns k lv).1 < ns.length + 2 ∧ (sidesF L ns k lv).2 < ns.length + 2 ∧ lv < lvl L ns (sidesF L ns k lv).1 ∧ lv < lvl L ns (sidesF L ns k lv).2 ∧
    ∀ s : Nat → Bool, sem ns k s = if s lv = true then sem ns (sidesF L ns k lv).2 s else sem ns (sidesF L ns k lv).1 s := by
  unfold sidesF
  by_cases h : lv < lvl L ns k
  · rw [if_pos h]
    exact ⟨hk, hk, h, h, fun s => by simp⟩
  · rw [if_neg h]
    have hk2 : ¬ k < 2 := fun h2 => by rw [lvl_small ns h2] at h; omega
    obtain ⟨i, v, l, h', rfl, hn⟩ := node_of (ns := ns) (by omega) hk
    rw [lvl_node hn] at h hlv
    obtain rfl : v = lv := by omega
    obtain ⟨_, h1, h2, _, h3, h4⟩ := ok.node i v l h' hn
    have := (List.getElem?_eq_some_iff.1 hn).1
    simp only [Nat.add_sub_cancel, hn, Option.map_some, Option.getD_some]
    exact ⟨by omega, by omega, h3, h4, fun s => sem_node ok hn s⟩
theorem opF_ite (op : Nat) (c : Bool) (x y x' y' : Bool) : opF op (if c = true then x else y) (if c = true then x' else y') = if c = true then opF op x x' else opF op y y' := by
  cases c <;> rfl
theorem opF_comm (op : Nat) (x y : Bool) : opF op x y = opF op y x := by
  unfold opF
  split <;> cases x <;> cases y <;> rfl
/-- op's level -/
theorem lvl_op {L : Nat} {ns : List BN} (ok : OkD L ns) {op a b k : Nat} (ha : a < ns.length + 2) (hb : b < ns.length + 2) (hk : k < ns.length + 2) (h : ∀ s, sem ns k s = opF op (sem ns a s) (sem ns b s)) : min (lvl L ns a) (lvl L ns b) ≤ lvl L ns k := by
  refine lvl_of_dep ok hk (Nat.le_trans (Nat.min_le_left _ _) (lvl_le ok a)) (fun s t hst => ?_)
  rw [h, h, sem_dep ok a a (Nat.le_refl _) ha s t (fun v hv => hst v (by omega)), sem_dep ok b b (Nat.le_refl _) hb s t (fun v hv => hst v (by omega))]

/-- what a memory keeps: one more pair -/
theorem PairsOk.put {ns : List BN} {M : BN → Option Int} (h : PairsOk ns M) {op a b k : Nat} (ha : a < ns.length + 2) (hb : b < ns.length + 2) (hk : k < ns.length + 2) (hq : ∀ s, sem ns k s = opF op (sem ns a s) (sem ns b s)) : PairsOk ns (putM M (op, a, b) (k : Int)) := fun op' a' b' c hc => by
  by_cases he : (op', a', b') = (op, a, b)
  · rw [he, putM_same] at hc
    injection hc with hc
    simp only [Prod.mk.injEq] at he
    obtain ⟨rfl, rfl, rfl⟩ := he
    exact ⟨k, hc.symm, hk, ha, hb, hq⟩
  · rw [putM_other _ _ he] at hc
    exact h op' a' b' c hc

/-- how many nodes and remembered pairs an operation adds at most, to this depth -/
def cst (L : Nat) (ns : List BN) : Nat → Nat → Nat → Nat
  | 0, _, _ => 0
  | d + 1, a, b => if a = b ∨ a < 2 ∨ b < 2 then 0 else
      cst L ns d (sidesF L ns a (min (lvl L ns a) (lvl L ns b))).1 (sidesF L ns b (min (lvl L ns a) (lvl L ns b))).1
        + cst L ns d (sidesF L ns a (min (lvl L ns a) (lvl L ns b))).2 (sidesF L ns b (min (lvl L ns a) (lvl L ns b))).2 + 2
theorem cst_comm (L : Nat) (ns : List BN) : ∀ d a b, cst L ns d a b = cst L ns d b a := by
  intro d
  induction d with
  | zero => intro a b; rfl
  | succ d ih =>
    intro a b
    simp only [cst]
    rw [Nat.min_comm (lvl L ns b) (lvl L ns a), ih (sidesF L ns a _).1, ih (sidesF L ns a _).2]
    by_cases h : a = b ∨ a < 2 ∨ b < 2
    · rw [if_pos h, if_pos (by omega)]
    · rw [if_neg h, if_neg (by omega)]
theorem cst_le (L : Nat) (ns : List BN) : ∀ d a b, cst L ns d a b ≤ 2 ^ (d + 1) - 2 := by
  intro d
  induction d with
  | zero => intro a b; exact Nat.zero_le _
  | succ d ih =>
    intro a b
    have hpow : 2 ^ (d + 1 + 1) = 2 ^ (d + 1) + 2 ^ (d + 1) := by rw [Nat.pow_succ]; omega
    have hpos : 2 ≤ 2 ^ (d + 1) := by rw [Nat.pow_succ]; have := Nat.two_pow_pos d; omega
    simp only [cst]
    split
    · exact Nat.zero_le _
    · have h1 := ih (sidesF L ns a (min (lvl L ns a) (lvl L ns b))).1 (sidesF L ns b (min (lvl L ns a) (lvl L ns b))).1
      have h2 := ih (sidesF L ns a (min (lvl L ns a) (lvl L ns b))).2 (sidesF L ns b (min (lvl L ns a) (lvl L ns b))).2
      omega
theorem sidesF_add {L : Nat} {ns : List BN} (ms : List BN) {k lv : Nat} (hk : k < ns.length + 2) (h2 : 2 ≤ k) : sidesF L (ns ++ ms) k lv = sidesF L ns k lv := by
  unfold sidesF
  rw [lvl_add ms hk, List.getElem?_append_left (by omega)]
theorem cst_add {L : Nat} {ns : List BN} (ok : OkD L ns) (ms : List BN) : ∀ d a b, a < ns.length + 2 → b < ns.length + 2 → cst L (ns ++ ms) d a b = cst L ns d a b := by
  intro d
  induction d with
  | zero => intro a b _ _; rfl
  | succ d ih =>
    intro a b ha hb
    simp only [cst]
    by_cases h : a = b ∨ a < 2 ∨ b < 2
    · rw [if_pos h, if_pos h]
    · rw [if_neg h, if_neg h]
      have ha2 : 2 ≤ a := by omega
      have hb2 : 2 ≤ b := by omega
      obtain ⟨i, v, l, h', e1, hn⟩ := node_of (ns := ns) ha2 ha
      obtain ⟨i', v', l', h'', e2, hn'⟩ := node_of (ns := ns) hb2 hb
      have q1 := (ok.node i v l h' hn).1
      have q2 := (ok.node i' v' l' h'' hn').1
      have hl : min (lvl L ns a) (lvl L ns b) < L := by
        rw [e1, lvl_node hn]
        omega
      obtain ⟨s1, s2, _⟩ := sidesF_ok ok (k := a) (lv := min (lvl L ns a) (lvl L ns b)) ha (Nat.min_le_left _ _) hl
      obtain ⟨s3, s4, _⟩ := sidesF_ok ok (k := b) (lv := min (lvl L ns a) (lvl L ns b)) hb (Nat.min_le_right _ _) hl
      rw [lvl_add ms ha, lvl_add ms hb, sidesF_add ms ha ha2, sidesF_add ms hb hb2, ih _ _ s1 s3, ih _ _ s2 s4]

set_option maxHeartbeats 3200000 in
set_option maxRecDepth 100000 in
theorem both_ct {L B g bf bp : Nat} {op : Nat} (hop : op = 0 ∨ op = 1) : ∀ (d : Nat) (w : World) (ns : List BN) (C a b : Nat), St L B g bf bp w ns C → a < ns.length + 2 → b < ns.length + 2 → L - min (lvl L ns a) (lvl L ns b) ≤ d → C + cst L ns d a b ≤ 5800000000000 →
    Calls Tryz.prog 85 #[.pointer (some ⟨g, 0, none⟩), .int .i64 op, .int .i64 a, .int .i64 b] w (StP L B g bf bp w ns (C + cst L ns d a b) fun ns' k => ∀ s, sem ns' k s = opF op (sem ns a s) (sem ns b s)) := by
  intro d
  induction d with
  | zero =>
    intro w ns C a b h ha hb hd hC
    refine (both_end hop h ha hb ?_).mono (fun e w' hp => by simpa [cst] using hp)
    have h1 := lvl_le h.ok a
    have h2 := lvl_le h.ok b
    by_cases ha2 : a < 2
    · exact .inr (.inl ha2)
    · right; right
      obtain ⟨i, v, l, h', rfl, hn⟩ := node_of (ns := ns) (by omega) ha
      have := (h.ok.node i v l h' hn).1
      rw [lvl_node hn] at hd
      omega
  | succ d ih =>
    intro w ns C a b h ha hb hd hC
    by_cases hend : a = b ∨ a < 2 ∨ b < 2
    · refine (both_end hop h ha hb hend).mono ?_
      rintro e w' ⟨ms, k, h1, h2, h3, h4, h5⟩
      exact ⟨ms, k, h1, h2.mono (by omega), h3, h4, h5⟩
    · generalize hT' : cst L ns (d + 1) a b = T at hC ⊢
      have hL := h.low
      have hop2 : op ≤ 1 := by omega
      -- the smaller of the two, and the other
      obtain ⟨p, q, hpq, hsw⟩ : ∃ p q, p < q ∧ ((p = a ∧ q = b) ∨ (q = a ∧ p = b)) := by
        rcases Nat.lt_trichotomy a b with h | h | h
        · exact ⟨a, b, h, .inl ⟨rfl, rfl⟩⟩
        · exact absurd (.inl h) hend
        · exact ⟨b, a, h, .inr ⟨rfl, rfl⟩⟩
      have hp2 : 2 ≤ p := by omega
      have hp : p < ns.length + 2 := by omega
      have hq : q < ns.length + 2 := by omega
      have hdpq : L - min (lvl L ns p) (lvl L ns q) ≤ d + 1 := by
        rcases hsw with ⟨rfl, rfl⟩ | ⟨rfl, rfl⟩
        · exact hd
        · rw [Nat.min_comm]; exact hd
      have hcst : ∀ lv, lv = min (lvl L ns p) (lvl L ns q) → cst L ns d (sidesF L ns p lv).1 (sidesF L ns q lv).1 + cst L ns d (sidesF L ns p lv).2 (sidesF L ns q lv).2 + 2 = T := by
        rintro lv rfl
        rw [← hT']
        rcases hsw with ⟨rfl, rfl⟩ | ⟨rfl, rfl⟩
        · simp only [cst]
          rw [if_neg hend]
        · rw [cst_comm L ns (d + 1)]
          simp only [cst]
          rw [if_neg (by omega)]
      have hQ : ∀ (ns' : List BN) k, (∀ s, sem ns' k s = opF op (sem ns p s) (sem ns q s)) → ∀ s, sem ns' k s = opF op (sem ns a s) (sem ns b s) := by
        intro ns' k hk s
        rcases hsw with ⟨rfl, rfl⟩ | ⟨rfl, rfl⟩
        · exact hk s
        · rw [hk, opF_comm]
      have hlen : ns.length ≤ 5800000000000 := by have := h.1; omega
      obtain ⟨g1, ok, np, M, g3, g4, g5⟩ := h
      obtain ⟨kl, hkl⟩ := keyT (n := (op, p, q)) ⟨by simp; omega, by simp; omega, by simp; omega⟩
      obtain ⟨fc, hlook, hfc, hfM⟩ := g4.pairs.looks lawT Tryz.underlying138 Tryz.underlying3 zeroI hkl
      have hpb := g4.pairs.lt
      have hw0 : g < w.heap.size := g4.blk.choose_spec.choose_spec.1.lt
      obtain ⟨V, hV⟩ : ∃ V, V = w.alloc (.cells #[.int .i64 op, .int .i64 p, .int .i64 q] 213) := ⟨_, rfl⟩
      have hbV : Below w.heap.size w V := by rw [hV]; exact (Below.refl _ _).alloc (Nat.le_refl _) _
      have hlookd : ∀ d, (Instr.lookup 138 (.map (some bp)) (.agg #[.int .i64 op, .int .i64 p, .int .i64 q]) true).run Tryz.prog (V.drewN d) = .ok (.tuple #[.int .i64 fc, .bool (M (op, p, q)).isSome]) (V.drewN d) :=
        fun d => hlook _ (hbV.block _ hpb)
      have hcell := Blk.new w 213 [.int .i64 op, .int .i64 p, .int .i64 q]
      rw [← hV] at hcell
      have Hst := hide (g4.keep hbV)
      have Hst0 := hide g4
      have Hok := hide ok
      have Hpairs := hide g5
      have HV := hide hV
      have HbV := hide hbV
      have Hcell := hide hcell
      have Hlookd := hide hlookd
      have HfM := hide hfM
      have HQ := hide hQ
      have Hdpq := hide hdpq
      have Hih := hide ih
      have hgV : g < V.heap.size := Nat.lt_of_lt_of_le hw0 hbV.size
      have hwV : w.heap.size < V.heap.size := by rw [hV]; simp
      have Hcst := hide hcst
      clear g4 ok g5 hV hbV hcell hlookd hfM hQ hdpq ih hlook hkl kl hd hcst hT'
      rcases hsw with ⟨rfl, rfl⟩ | ⟨rfl, rfl⟩
      all_goals
        go_enter Tryz.func85, Tryz.ntmps85
        go_wp2_with fail
        rw [← HV.out]
        have hcell := Hcell.out
        have hlookd := Hlookd.out
        obtain ⟨A, c, hc0, hc1, hc2, hc3, hfz, hown⟩ := Hst.out.cells
        have hn0 := hcell.cell 0
        have hn1 := hcell.cell 1
        have hn2 := hcell.cell 2
        simp at hn0 hn1 hn2
        clear hc0 hc1 hc2 hown hfz
        cases hM : M (op, p, q) with
        | some cc =>
          obtain ⟨k, rfl, hk1, hk2, hk3, hk4⟩ := Hpairs.out op p q cc hM
          rw [hM] at hlookd
          obtain rfl := HfM.out _ hM
          have HM := hide hM
          have Hk4 := hide hk4
          clear hM hk4
          simp only [Option.isSome_some] at hlookd
          go_quiet (fail)
          go_wp2
          go_ret
          exact ⟨[], k, rfl, by simpa using ⟨by omega, Hok.out, np, M, by omega, Hst.out.qt ⟨_, rfl⟩, Hpairs.out⟩, (Kept.of_below HbV.out hw0).drewN _, by simpa using hk1, by simpa using HQ.out ns k Hk4.out⟩
        | none =>
          rw [hM] at hlookd
          have HM := hide hM
          clear hM
          simp only [Option.isSome_none] at hlookd
          go_quiet (fail)
          go_wp2_with fail
          have hst1 := Hst.out.qt (w' := V.drewN nq) ⟨nq, rfl⟩
          have hbW := below_drewN HbV.out nq
          have hc1 := hcell.qt (w' := V.drewN nq) ⟨nq, rfl⟩
          have hwW : w.heap.size < (V.drewN nq).heap.size := hwV
          clear hlookd hcell hn0 hn1 hn2 hc3 HV HbV Hcell Hlookd HfM Hst hwV hgV
          generalize V.drewN nq = W at *
          have hlev1 := level_ct hst1 hp
          have hlev2 := level_ct hst1 hq
          obtain ⟨hlpL, hlqL⟩ : lvl L ns p < L ∧ lvl L ns q < L := by
            obtain ⟨i, v, l, h', e1, hn⟩ := node_of (ns := ns) hp2 hp
            obtain ⟨i', v', l', h'', e2, hn'⟩ := node_of (ns := ns) (by omega) hq
            rw [e1, e2, lvl_node hn, lvl_node hn']
            exact ⟨(Hok.out.node i v l h' hn).1, (Hok.out.node i' v' l' h'' hn').1⟩
          have hsd1 := @sidesF_ok L ns Hok.out p
          have hsd2 := @sidesF_ok L ns Hok.out q
          obtain ⟨lv, hlv⟩ : ∃ lv, lv = min (lvl L ns p) (lvl L ns q) := ⟨_, rfl⟩
          have hlvL : lv < L := by omega
          have hs1 := @sidesF_ok L ns Hok.out p lv hp (by omega) hlvL
          have hs2 := @sidesF_ok L ns Hok.out q lv hq (by omega) hlvL
          have hsc1 := fun W hW => @sides_ct L B g bf bp W ns np M hW p lv hp hlvL
          have hsc2 := fun W hW => @sides_ct L B g bf bp W ns np M hW q lv hq hlvL
          have hcs := Hcst.out lv hlv
          clear Hcst
          generalize hA : sidesF L ns p lv = sa at *
          generalize hB : sidesF L ns q lv = sb at *
          obtain ⟨al, ah⟩ := sa
          obtain ⟨bl, bh⟩ := sb
          simp only at hs1 hs2 hsc1 hsc2 hcs
          obtain ⟨ha1, ha2, ha3, ha4, ha5⟩ := hs1
          obtain ⟨hb1, hb2, hb3, hb4, hb5⟩ := hs2
          have hdlv := Hdpq.out
          rw [← hlv] at hdlv
          generalize lvl L ns p = lp at *
          generalize lvl L ns q = lq at *
          have Hst1 := hide hst1
          have HbW := hide hbW
          have Hc1 := hide hc1
          have Ha5 := hide ha5
          have Hb5 := hide hb5
          have Hsc1 := hide hsc1
          have Hsc2 := hide hsc2
          have Hlv := hide hlv
          have Hcs := hide hcs
          clear hst1 hbW hc1 ha5 hb5 hsc1 hsc2 hA hB hsd1 hsd2 hlv Hdpq hlpL hlqL hcs
          rcases (show (lp ≤ lq ∧ lp = lv) ∨ (lq < lp ∧ lq = lv) by have := Hlv.out; omega) with ⟨hle, rfl⟩ | ⟨hle, rfl⟩
          all_goals
            clear Hlv
            refine hlev1.mono ?_
            rintro e w1 ⟨rfl, rfl⟩
            go_wp2_with fail
            refine hlev2.mono ?_
            rintro e w1 ⟨rfl, rfl⟩
            clear hlev1 hlev2
            go_wp2_with fail
            refine (Hsc1.out _ Hst1.out).mono ?_
            rintro e w1 ⟨rfl, hb1⟩
            have hst2 := Hst1.out.keep hb1
            have hbW1 := HbW.out.trans (hb1.mono HbW.out.size)
            have hc1 := Hc1.out.keep hb1
            have Hst2 := hide hst2
            have HbW1 := hide hbW1
            have Hc2 := hide hc1
            clear hst2 hbW1 hc1 hb1 Hst1 HbW Hc1
            go_wp2_with fail
            refine (Hsc2.out _ Hst2.out).mono ?_
            rintro e w2 ⟨rfl, hb2⟩
            have hst3 := Hst2.out.keep hb2
            have hbW2 := HbW1.out.trans (hb2.mono HbW1.out.size)
            have hc2 := Hc2.out.keep hb2
            have hSt : St L B g bf bp w2 ns C := ⟨g1, Hok.out, np, M, g3, hst3, Hpairs.out⟩
            have HSt := hide hSt
            have Hb2 := hide hbW2
            have Hc3 := hide hc2
            clear hst3 hbW2 hc2 hb2 Hst2 HbW1 Hc2 hSt Hsc1 Hsc2
            go_wp2_with fail
            have hcs := Hcs.out
            refine (Hih.out _ _ C al bl HSt.out ha1 hb1 (by omega) (by omega)).mono ?_
            rintro e w3 ⟨ms1, k1, rfl, hst4, hk4, hkl4, hq4⟩
            have hBw := HSt.out.base
            have hne := Hst0.out.ne
            have hbfl := Hst0.out.found.lt
            have hc4 := hk4.blk Hc3.out (HSt.out.free Hc3.out (show w.heap.size ≠ g by omega) (by decide))
            have Hst4 := hide hst4
            have Hkept := hide ((Kept.of_below (B := B) (g := g) (bf := bf) (bp := bp) Hb2.out hw0).trans hk4)
            have Hc4 := hide hc4
            have hl1 : ns.length ≤ (ns ++ ms1).length := by simp
            have hla : lvl L (ns ++ ms1) ah = lvl L ns ah := lvl_add ms1 ha2
            have hlb : lvl L (ns ++ ms1) bh = lvl L ns bh := lvl_add ms1 hb2
            have hd2 : L - min (lvl L (ns ++ ms1) ah) (lvl L (ns ++ ms1) bh) ≤ d := by rw [hla, hlb]; omega
            have hlk1 := lvl_op hst4.ok (k := k1) (op := op) (a := al) (b := bl) (by omega) (by omega) hkl4 (fun s => by rw [hq4, sem_add Hok.out _ ha1, sem_add Hok.out _ hb1])
            rw [lvl_add ms1 ha1, lvl_add ms1 hb1] at hlk1
            have hcs2 : cst L (ns ++ ms1) d ah bh = cst L ns d ah bh := cst_add Hok.out ms1 d ah bh ha2 hb2
            have Hq4 := hide hq4
            clear hst4 hk4 hc4 hq4 HSt Hb2 Hc3 hla hlb
            go_wp2_with fail
            refine (Hih.out _ _ _ ah bh Hst4.out (by omega) (by omega) hd2 (by omega)).mono ?_
            rintro e w4 ⟨ms2, k2, rfl, hst5, hk5, hkl5, hq5⟩
            have hc5 := hk5.blk Hc4.out (Hst4.out.free Hc4.out (show w.heap.size ≠ g by omega) (by decide))
            have Hst5 := hide hst5
            have Hkept5 := hide (Hkept.out.trans hk5)
            have Hc5 := hide hc5
            have hok4 := Hst4.out.ok
            have hl2 : (ns ++ ms1).length ≤ (ns ++ ms1 ++ ms2).length := len_more _ _
            have hlk2 := lvl_op hst5.ok (k := k2) (op := op) (a := ah) (b := bh) (by omega) (by omega) hkl5 (fun s => by rw [hq5, sem_add hok4 _ (by omega), sem_add hok4 _ (by omega)])
            rw [lvl_add ms2 (show ah < (ns ++ ms1).length + 2 by omega), lvl_add ms2 (show bh < (ns ++ ms1).length + 2 by omega), lvl_add ms1 ha2, lvl_add ms1 hb2] at hlk2
            rw [← lvl_add (L := L) ms2 hkl4] at hlk1
            have Hq5 := hide hq5
            have Hok4 := hide hok4
            clear hst5 hk5 hc5 hq5 Hkept Hc4 hok4 hd2
            go_wp2_with fail
            refine (Node_st Hst5.out hlvL (by omega) hkl5 (by omega) (by omega) (by omega)).mono ?_
            rintro e w5 ⟨ms3, k, rfl, hst6, hk6, hkl6, hq6, _⟩
            have hc6 := hk6.blk Hc5.out (Hst5.out.free Hc5.out (show w.heap.size ≠ g by omega) (by decide))
            have hl3 : (ns ++ ms1 ++ ms2).length ≤ (ns ++ ms1 ++ ms2 ++ ms3).length := len_more _ _
            -- what the new node means
            have hmean : ∀ s, sem (ns ++ ms1 ++ ms2 ++ ms3) k s = opF op (sem ns p s) (sem ns q s) := by
              intro s
              rw [hq6, Hq5.out, sem_add Hok4.out _ hkl4, Hq4.out, Ha5.out, Hb5.out, opF_ite, sem_add Hok.out _ ha2, sem_add Hok.out _ hb2]
            obtain ⟨r1, r2, np', M', r3, r4, r5⟩ := hst6
            have hbp5 := r4.pairs.lt
            obtain ⟨A, c, hd0, hd1, hd2, hd3, hfz, hown⟩ := r4.cells
            have he0 := hc6.cell 0
            have he1 := hc6.cell 1
            have he2 := hc6.cell 2
            simp at he0 he1 he2
            obtain ⟨kl2, hkl2⟩ := keyT (n := (op, p, q)) ⟨by simp; omega, by simp; omega, by simp; omega⟩
            have hbase := r4.base
            obtain ⟨w6, hrun, hp6, hg6, hs6⟩ := (r4.pairs.of_block (w' := w5.drew) rfl).put encN_inj lawT Tryz.underlying138 Tryz.underlying3 (by omega) hkl2 (k : Int) (by omega)
            have hrun' : (Instr.mapUpdate 138 (.map (some bp)) (.agg #[.int .i64 op, .int .i64 p, .int .i64 q]) (.int .i64 (k : Int))).run Tryz.prog w5.drew = .ok () w6 := hrun
            have hne5 := r4.ne
            have hfin : StP L B g bf bp w ns (C + T) (fun ns' k => ∀ s, sem ns' k s = opF op (sem ns p s) (sem ns q s)) (.returned (.int .i64 (k : Nat))) w6 := by
              obtain ⟨A', c', hblk', hown'⟩ := r4.blk
              refine ⟨ms1 ++ (ms2 ++ ms3), k, rfl, ?_, (Hkept5.out.trans hk6).trans ((Kept.of_below (Below.refl _ w5).drew r4.lt).trans (Kept.of_grown hg6 hbase.2.2.1 (.inr rfl) r4.lt hne5.2.1)), by simpa [List.append_assoc] using hkl6, by simpa [List.append_assoc] using hmean⟩
              rw [← List.append_assoc, ← List.append_assoc]
              refine ⟨by omega, r2, np' + 1, putM M' (op, p, q) (k : Int), by omega, ⟨r4.low, ⟨r4.few.1, by omega⟩, ⟨A', c', (hblk'.qt (Qt.refl _).drew).grown hg6 (by simpa using hne5.2.1), own_other hown'.drew hg6 (fun r hr e => ?_)⟩, r4.found.of_block (hg6.block bf r4.found.lt (by simpa using hne5.2.2)), hp6, hbase.1, hbase.2.1, hbase.2.2.1, hbase.2.2.2.1, Nat.le_trans hbase.2.2.2.2 hg6.size⟩, r5.put (by omega) (by omega) hkl6 (fun s => ?_)⟩
              · injection e with e
                obtain ⟨_, cs, m, hcc⟩ := own_block hown' hr
                obtain ⟨es, cl, hm⟩ := r4.pairs.isMap
                rw [e, hm] at hcc
                cases hcc
              · rw [hmean, List.append_assoc, List.append_assoc, sem_add Hok.out _ hp, sem_add Hok.out _ hq]
            have Hfin := hide hfin
            clear hfin hp6 hg6 hs6 hrun hown hfz hd0 hd1 hd2 r1 r2 r4 r5 hbase hmean hq6 hk6 Hkept5 Hc5 hc6 hkl2
            go_wp2_with fail
            go_region
            go_wp2
            go_ret
            obtain ⟨ms, k', h1, h2, h3, h4, h5⟩ := Hfin.out
            exact ⟨ms, k', h1, h2, h3, h4, HQ.out _ _ h5⟩
end Go.Proofs.YtmjiiddncbhgpaaGreat
namespace Go.Proofs.YtmjiiddncbhgpaaGreat
open Go.RowKit Go.Maps
theorem StP.mono {L B g bf bp : Nat} {w : World} {ns : List BN} {C C' : Nat} {Q Q' : List BN → Nat → Prop} {e : Ending} {w' : World} (h : StP L B g bf bp w ns C Q e w') (hC : C ≤ C') (hQ : ∀ ns' k, Q ns' k → Q' ns' k) : StP L B g bf bp w ns C' Q' e w' := by
  obtain ⟨ms, k, h1, h2, h3, h4, h5⟩ := h
  exact ⟨ms, k, h1, h2.mono hC, h3, h4, hQ _ _ h5⟩
theorem pow_le {d : Nat} (h : d ≤ 24) : 2 ^ (d + 1) ≤ 33554432 := by
  have : 2 ^ (d + 1) ≤ 2 ^ 25 := Nat.pow_le_pow_right (by omega) (by omega)
  simpa using this
theorem both_all {L B g bf bp : Nat} {op : Nat} (hop : op = 0 ∨ op = 1) {w : World} {ns : List BN} {C a b : Nat} (h : St L B g bf bp w ns C) (ha : a < ns.length + 2) (hb : b < ns.length + 2) (hC : C + 33554432 ≤ 5800000000000) :
    Calls Tryz.prog 85 #[.pointer (some ⟨g, 0, none⟩), .int .i64 op, .int .i64 a, .int .i64 b] w (StP L B g bf bp w ns (C + 33554432) fun ns' k => ∀ s, sem ns' k s = opF op (sem ns a s) (sem ns b s)) := by
  have hp := pow_le h.low
  have hc := cst_le L ns L a b
  exact (both_ct hop L w ns C a b h ha hb (Nat.sub_le _ _) (by omega)).mono (fun e w' h' => h'.mono (by omega) (fun _ _ h => h))
theorem Or_ct {L B g bf bp : Nat} {w : World} {ns : List BN} {C a b : Nat} (h : St L B g bf bp w ns C) (ha : a < ns.length + 2) (hb : b < ns.length + 2) (hC : C + 33554432 ≤ 5800000000000) :
    Calls Tryz.prog 55 #[.pointer (some ⟨g, 0, none⟩), .int .i64 a, .int .i64 b] w (StP L B g bf bp w ns (C + 33554432) fun ns' k => ∀ s, sem ns' k s = (sem ns a s || sem ns b s)) := by
  have hc := both_all (op := 1) (.inr rfl) h ha hb hC
  have Hc := hide hc
  clear hc
  go_enter Tryz.func55, Tryz.ntmps55
  go_wp2_with fail
  refine Hc.out.mono ?_
  rintro e w' ⟨ms, k, rfl, h2, h3, h4, h5⟩
  have H := hide (And.intro h2 (And.intro h3 (And.intro h4 h5)))
  clear h2 h3 h4 h5 h
  go_wp2
  go_ret
  exact ⟨ms, k, rfl, H.out.1, H.out.2.1, H.out.2.2.1, fun s => by rw [H.out.2.2.2 s]; rfl⟩
theorem And_ct {L B g bf bp : Nat} {w : World} {ns : List BN} {C a b : Nat} (h : St L B g bf bp w ns C) (ha : a < ns.length + 2) (hb : b < ns.length + 2) (hC : C + 33554432 ≤ 5800000000000) :
    Calls Tryz.prog 37 #[.pointer (some ⟨g, 0, none⟩), .int .i64 a, .int .i64 b] w (StP L B g bf bp w ns (C + 33554432) fun ns' k => ∀ s, sem ns' k s = (sem ns a s && sem ns b s)) := by
  have hc := both_all (op := 0) (.inl rfl) h ha hb hC
  have Hc := hide hc
  clear hc
  go_enter Tryz.func37, Tryz.ntmps37
  go_wp2_with fail
  refine Hc.out.mono ?_
  rintro e w' ⟨ms, k, rfl, h2, h3, h4, h5⟩
  have H := hide (And.intro h2 (And.intro h3 (And.intro h4 h5)))
  clear h2 h3 h4 h5 h
  go_wp2
  go_ret
  exact ⟨ms, k, rfl, H.out.1, H.out.2.1, H.out.2.2.1, fun s => by rw [H.out.2.2.2 s]; rfl⟩
theorem Literal_ct {L B g bf bp : Nat} {w : World} {ns : List BN} {C v : Nat} (h : St L B g bf bp w ns C) (hv : v < L) (pos : Bool) (hC : C < 5800000000000) :
    Calls Tryz.prog 126 #[.pointer (some ⟨g, 0, none⟩), .int .i64 v, .bool pos] w (StP L B g bf bp w ns (C + 1) fun ns' k => ∀ s, sem ns' k s = (s v == pos)) := by
  have l0 : lvl L ns 0 = L := lvl_small ns (by omega)
  have l1 : lvl L ns 1 = L := lvl_small ns (by omega)
  have hc := Node_st h (v := v) (l := 0) (h' := 1) hv (by omega) (by omega) (by omega) (by omega) hC
  have hc' := Node_st h (v := v) (l := 1) (h' := 0) hv (by omega) (by omega) (by omega) (by omega) hC
  have Hc := hide hc
  have Hc' := hide hc'
  clear hc hc' l0 l1 h
  cases pos
  · go_enter Tryz.func126, Tryz.ntmps126
    go_wp2_with fail
    refine Hc'.out.mono ?_
    rintro e w' ⟨ms, k, rfl, h2, h3, h4, h5, _⟩
    have H := hide (And.intro h2 (And.intro h3 (And.intro h4 h5)))
    clear h2 h3 h4 h5
    go_wp2
    go_ret
    exact ⟨ms, k, rfl, H.out.1, H.out.2.1, H.out.2.2.1, fun s => by rw [H.out.2.2.2 s, sem_zero, sem_one]; cases s v <;> rfl⟩
  · go_enter Tryz.func126, Tryz.ntmps126
    go_wp2_with fail
    refine Hc.out.mono ?_
    rintro e w' ⟨ms, k, rfl, h2, h3, h4, h5, _⟩
    have H := hide (And.intro h2 (And.intro h3 (And.intro h4 h5)))
    clear h2 h3 h4 h5
    go_wp2
    go_ret
    exact ⟨ms, k, rfl, H.out.1, H.out.2.1, H.out.2.2.1, fun s => by rw [H.out.2.2.2 s, sem_zero, sem_one]; cases s v <;> rfl⟩
end Go.Proofs.YtmjiiddncbhgpaaGreat
namespace Go.Proofs.YtmjiiddncbhgpaaGreat
set_option linter.unusedVariables false
set_option linter.unusedSimpArgs false
open Go.RowKit Go.Maps
/-- a conjunction of literals -/
def CubeS (f : (Nat → Bool) → Bool) : Prop := ∃ P N : Nat → Prop, ∀ s, f s = true ↔ (∀ v, P v → s v = true) ∧ ∀ v, N v → s v = false
theorem CubeS.one : CubeS (fun _ => true) := ⟨fun _ => False, fun _ => False, fun s => by simp⟩
theorem CubeS.lit (v : Nat) (pos : Bool) : CubeS (fun s => s v == pos) := by
  cases pos
  · exact ⟨fun _ => False, fun u => u = v, fun s => by simp⟩
  · exact ⟨fun u => u = v, fun _ => False, fun s => by simp⟩
theorem CubeS.and {f g : (Nat → Bool) → Bool} (hf : CubeS f) (hg : CubeS g) : CubeS (fun s => f s && g s) := by
  obtain ⟨P, N, h⟩ := hf
  obtain ⟨P', N', h'⟩ := hg
  refine ⟨fun v => P v ∨ P' v, fun v => N v ∨ N' v, fun s => ?_⟩
  rw [Bool.and_eq_true, h, h']
  constructor
  · rintro ⟨⟨a, b⟩, c, d⟩
    exact ⟨fun v hv => hv.elim (a v) (c v), fun v hv => hv.elim (b v) (d v)⟩
  · rintro ⟨a, b⟩
    exact ⟨⟨fun v hv => a v (.inl hv), fun v hv => b v (.inl hv)⟩, fun v hv => a v (.inr hv), fun v hv => b v (.inr hv)⟩
theorem CubeS.congr {f g : (Nat → Bool) → Bool} (hf : CubeS f) (h : ∀ s, g s = f s) : CubeS g := by
  obtain ⟨P, N, k⟩ := hf
  exact ⟨P, N, fun s => by rw [h]; exact k s⟩
theorem CubeS.set {f : (Nat → Bool) → Bool} (hf : CubeS f) (v : Nat) (b : Bool) : CubeS (fun s => f (setV s v b)) := by
  obtain ⟨P, N, h⟩ := hf
  by_cases hc : (b = false ∧ P v) ∨ (b = true ∧ N v)
  · refine ⟨fun u => u = v, fun u => u = v, fun s => ?_⟩
    rw [h]
    constructor
    · rintro ⟨h1, h2⟩
      exfalso
      rcases hc with ⟨rfl, hc⟩ | ⟨rfl, hc⟩
      · have := h1 v hc
        rw [setV_same] at this
        cases this
      · have := h2 v hc
        rw [setV_same] at this
        cases this
    · rintro ⟨h1, h2⟩
      have := (h1 v rfl).symm.trans (h2 v rfl)
      cases this
  · refine ⟨fun u => u ≠ v ∧ P u, fun u => u ≠ v ∧ N u, fun s => ?_⟩
    rw [h]
    constructor
    · rintro ⟨h1, h2⟩
      refine ⟨fun u hu => ?_, fun u hu => ?_⟩
      · rw [← h1 u hu.2, setV_other _ _ hu.1]
      · rw [← h2 u hu.2, setV_other _ _ hu.1]
    · rintro ⟨h1, h2⟩
      refine ⟨fun u hu => ?_, fun u hu => ?_⟩
      · by_cases e : u = v
        · subst e
          rw [setV_same]
          cases b
          · exact absurd (.inl ⟨rfl, hu⟩) hc
          · rfl
        · rw [setV_other _ _ e]
          exact h1 u ⟨e, hu⟩
      · by_cases e : u = v
        · subst e
          rw [setV_same]
          cases b
          · rfl
          · exact absurd (.inr ⟨rfl, hu⟩) hc
        · rw [setV_other _ _ e]
          exact h2 u ⟨e, hu⟩
/-- with a variable set in both ways: the same function, or one of the two is never true -/
theorem CubeS.split {f : (Nat → Bool) → Bool} (hf : CubeS f) (v : Nat) : (∀ s, f (setV s v false) = f (setV s v true)) ∨ (∀ s, f (setV s v false) = false) ∨ ∀ s, f (setV s v true) = false := by
  obtain ⟨P, N, h⟩ := hf
  by_cases hP : P v
  · right; left
    intro s
    rw [Bool.eq_false_iff]
    intro e
    have := (h _).1 e |>.1 v hP
    rw [setV_same] at this
    cases this
  · by_cases hN : N v
    · right; right
      intro s
      rw [Bool.eq_false_iff]
      intro e
      have := (h _).1 e |>.2 v hN
      rw [setV_same] at this
      cases this
    · left
      intro s
      rw [Bool.eq_iff_iff, h, h]
      have key : ∀ b b' : Bool, ((∀ u, P u → setV s v b u = true) ∧ ∀ u, N u → setV s v b u = false) → (∀ u, P u → setV s v b' u = true) ∧ ∀ u, N u → setV s v b' u = false := by
        rintro b b' ⟨h1, h2⟩
        refine ⟨fun u hu => ?_, fun u hu => ?_⟩
        · have e : u ≠ v := fun e => hP (e ▸ hu)
          rw [setV_other _ _ e, ← h1 u hu, setV_other _ _ e]
        · have e : u ≠ v := fun e => hN (e ▸ hu)
          rw [setV_other _ _ e, ← h2 u hu, setV_other _ _ e]
      exact ⟨key _ _, key _ _⟩
section
variable {L : Nat} {ns : List BN}
theorem cube_sides (ok : OkD L ns) {i v l h : Nat} (hn : ns[i]? = some (v, l, h)) (hc : CubeS (sem ns (i + 2))) : (l = 0 ∨ h = 0) ∧ CubeS (sem ns l) ∧ CubeS (sem ns h) := by
  obtain ⟨_, h1, h2, h3, _⟩ := ok.node i v l h hn
  have hi := (List.getElem?_eq_some_iff.1 hn).1
  refine ⟨?_, (hc.set v false).congr (fun s => (sem_low ok hn s).symm), (hc.set v true).congr (fun s => (sem_high ok hn s).symm)⟩
  rcases hc.split v with e | e | e
  · exact absurd (sem_inj ok (i + 2) l h (by omega) (by omega) (by omega) (by omega) (fun s => by rw [← sem_low ok hn s, ← sem_high ok hn s, e])) h3
  · exact .inl (sem_inj ok (i + 2) l 0 (by omega) (by omega) (by omega) (by omega) (fun s => by rw [← sem_low ok hn s, e, sem_zero]))
  · exact .inr (sem_inj ok (i + 2) h 0 (by omega) (by omega) (by omega) (by omega) (fun s => by rw [← sem_high ok hn s, e, sem_zero]))
theorem cst_end {d a b : Nat} (h : a < 2 ∨ b < 2) : cst L ns d a b = 0 := by
  cases d with
  | zero => rfl
  | succ d => rw [cst, if_pos (.inr h)]
theorem sides_cube (ok : OkD L ns) {a lv : Nat} (ha : a < ns.length + 2) (h2 : 2 ≤ a) (hc : CubeS (sem ns a)) (hlv : lv ≤ lvl L ns a) :
    (sidesF L ns a lv).1 < ns.length + 2 ∧ (sidesF L ns a lv).2 < ns.length + 2 ∧ CubeS (sem ns (sidesF L ns a lv).1) ∧ CubeS (sem ns (sidesF L ns a lv).2) ∧ (lv = lvl L ns a → (sidesF L ns a lv).1 = 0 ∨ (sidesF L ns a lv).2 = 0) := by
  obtain ⟨i, v, l, h, rfl, hn⟩ := node_of (ns := ns) h2 ha
  obtain ⟨_, h1, h3, _⟩ := ok.node i v l h hn
  unfold sidesF
  by_cases hlt : lv < lvl L ns (i + 2)
  · rw [if_pos hlt]
    exact ⟨ha, ha, hc, hc, fun e => by omega⟩
  · rw [if_neg hlt, Nat.add_sub_cancel, hn]
    obtain ⟨q1, q2, q3⟩ := cube_sides ok hn hc
    exact ⟨show l < _ by omega, show h < _ by omega, q2, q3, fun _ => q1⟩
/-- an operation on two cubes -/
theorem cst_cubes (ok : OkD L ns) : ∀ d a b, a < ns.length + 2 → b < ns.length + 2 → CubeS (sem ns a) → CubeS (sem ns b) → cst L ns d a b ≤ 2 * d := by
  intro d
  induction d with
  | zero => intro a b _ _ _ _; exact Nat.zero_le _
  | succ d ih =>
    intro a b ha hb ca cb
    rw [cst]
    split
    · exact Nat.zero_le _
    · rename_i h
      obtain ⟨a1, a2, a3, a4, a5⟩ := sides_cube (lv := min (lvl L ns a) (lvl L ns b)) ok ha (by omega) ca (Nat.min_le_left _ _)
      obtain ⟨b1, b2, b3, b4, b5⟩ := sides_cube (lv := min (lvl L ns a) (lvl L ns b)) ok hb (by omega) cb (Nat.min_le_right _ _)
      have g1 := ih _ _ a1 b1 a3 b3
      have g2 := ih _ _ a2 b2 a4 b4
      have hz : ((sidesF L ns a (min (lvl L ns a) (lvl L ns b))).1 < 2 ∨ (sidesF L ns b (min (lvl L ns a) (lvl L ns b))).1 < 2) ∨ ((sidesF L ns a (min (lvl L ns a) (lvl L ns b))).2 < 2 ∨ (sidesF L ns b (min (lvl L ns a) (lvl L ns b))).2 < 2) := by
        rcases Nat.le_total (lvl L ns a) (lvl L ns b) with e | e
        · rcases a5 (Nat.min_eq_left e) with z | z
          · exact .inl (.inl (by omega))
          · exact .inr (.inl (by omega))
        · rcases b5 (Nat.min_eq_right e) with z | z
          · exact .inl (.inr (by omega))
          · exact .inr (.inr (by omega))
      rcases hz with z | z
      · have := cst_end (L := L) (ns := ns) (d := d) z
        omega
      · have := cst_end (L := L) (ns := ns) (d := d) z
        omega
end
end Go.Proofs.YtmjiiddncbhgpaaGreat
namespace Go.Proofs.YtmjiiddncbhgpaaGreat
open Go.RowKit Go.Maps
/-- an int key -/
def encI (k : Nat) : Value := .int .i64 (k : Int)
theorem encI_inj (a b : Nat) (h : encI a = encI b) : a = b := by
  simp only [encI, Value.int.injEq, true_and, Int.natCast_inj] at h
  exact h
theorem keyI {k : Nat} (h : k ≤ 9223372036854775807) : keyOf Tryz.prog 3 (encI k) = some (.int .i64 (k : Int)) :=
  keyOf_int_mk Tryz.underlying3 (I64.wf (by unfold I64; omega))
/-- a map of ints that a call keeps -/
abbrev Known (w : World) (b n : Nat) (K : Nat → Option Int) : Prop := MapAt Tryz.prog 3 3 encI w b n K

def lookF (l : List (Nat × Nat)) : Nat → Option Int := fun k => (look l k).map Int.ofNat
theorem lookF_put (l : List (Nat × Nat)) (k m : Nat) : putM (lookF l) k (m : Int) = lookF ((k, m) :: l) := by
  funext j
  unfold putM lookF
  by_cases h : j = k
  · subst h
    rw [if_pos rfl, look_same]
    rfl
  · rw [if_neg h, look_other _ _ (fun e => h e.symm)]

theorem wr_ends (ns : List BN) : ∀ (f k : Nat) (at_ : List (Nat × Nat)) (out : List BN), look at_ 0 = some 0 → look at_ 1 = some 1 → look (wr ns f k at_ out).2.1 0 = some 0 ∧ look (wr ns f k at_ out).2.1 1 = some 1 := by
  intro f
  induction f with
  | zero => intro k at_ out h0 h1; exact ⟨h0, h1⟩
  | succ f ih =>
    intro k at_ out h0 h1
    rw [wr]
    cases hl : look at_ k with
    | some to => exact ⟨h0, h1⟩
    | none =>
      cases hn : ns[k - 2]? with
      | none => exact ⟨h0, h1⟩
      | some n =>
        have ha := ih n.2.1 at_ out h0 h1
        have hb := ih n.2.2 (wr ns f n.2.1 at_ out).2.1 (wr ns f n.2.1 at_ out).2.2 ha.1 ha.2
        have k0 : k ≠ 0 := fun e => by rw [e, h0] at hl; cases hl
        have k1 : k ≠ 1 := fun e => by rw [e, h1] at hl; cases hl
        simp only
        rw [look_other _ _ k0, look_other _ _ k1]
        exact hb
/-- what the closure of Write works on: its boxes, the map, the diagram that grows -/
structure WAt (W0 : World) (L g ck cs cw co mk : Nat) (w : World) (at_ : List (Nat × Nat)) (out : List BN) (C : Nat) : Prop where
  below : Below W0.heap.size W0 w
  bk : Blk 218 w ck [.map (some mk)]
  bs : Blk 74 w cs [.pointer (some ⟨g, 0, none⟩)]
  bw : Blk 146 w cw [.func (Fn.func 138) #[] #[.pointer (some ⟨ck, 0, none⟩), .pointer (some ⟨cs, 0, none⟩), .pointer (some ⟨cw, 0, none⟩), .pointer (some ⟨co, 0, none⟩)]]
  bo : ∃ A c, Blk 158 w co [.int .i64 L, .slice A out.length c, .int .i64 0] ∧ w.ownsRow W0.heap.size 162 3 (.slice A out.length c) out.length (nodesC out)
  map : ∃ n, n ≤ C ∧ Known w mk n (lookF at_)
  new : W0.heap.size ≤ ck ∧ W0.heap.size ≤ cs ∧ W0.heap.size ≤ cw ∧ W0.heap.size ≤ co ∧ W0.heap.size ≤ mk
  few : out.length ≤ C
  vals : ∀ k m, look at_ k = some m → m ≤ 6800000000000
section
variable {W0 w w' : World} {L g ck cs cw co mk : Nat} {at_ : List (Nat × Nat)} {out : List BN} {C : Nat}
theorem WAt.keep (h : WAt W0 L g ck cs cw co mk w at_ out C) (hb : Below w.heap.size w w') : WAt W0 L g ck cs cw co mk w' at_ out C := by
  obtain ⟨A, c, h1, h2⟩ := h.bo
  obtain ⟨n, hn, hm⟩ := h.map
  exact ⟨h.below.trans (hb.mono h.below.size), h.bk.keep hb, h.bs.keep hb, h.bw.keep hb, ⟨A, c, h1.keep hb, own_keep h2 hb⟩, ⟨n, hn, hm.of_block (hb.block _ hm.lt)⟩, h.new, h.few, h.vals⟩
theorem WAt.free_new (h : WAt W0 L g ck cs cw co mk w at_ out C) (o : Obj) : Free (w.alloc o) co mk mk w.heap.size := by
  obtain ⟨A, c, hbl, ho⟩ := h.bo
  obtain ⟨n, _, hm⟩ := h.map
  have h1 := hm.lt
  have h3 := hbl.lt
  refine ⟨by simp, by omega, by omega, by omega, fun e => ?_⟩
  have hc := (hbl.alloc o).cell 1
  rw [rowOf, hc] at e
  have := (own_block ho (r := w.heap.size) e).1
  omega
end
/-- returned the number, and the diagram and the map have grown as the walk says -/
def WP (W0 : World) (L g ck cs cw co mk : Nat) (w : World) (C : Nat) (r : Nat × List (Nat × Nat) × List BN) (e : Ending) (w' : World) : Prop :=
  e = .returned (.int .i64 (r.1 : Nat)) ∧ WAt W0 L g ck cs cw co mk w' r.2.1 r.2.2 C ∧ Kept W0.heap.size co mk mk w w'

theorem WAt.mono {W0 : World} {L g ck cs cw co mk : Nat} {w : World} {at_ : List (Nat × Nat)} {out : List BN} {C C' : Nat} (h : WAt W0 L g ck cs cw co mk w at_ out C) (hC : C ≤ C') : WAt W0 L g ck cs cw co mk w at_ out C' := by
  obtain ⟨n, hn, hm⟩ := h.map
  exact ⟨h.below, h.bk, h.bs, h.bw, h.bo, ⟨n, Nat.le_trans hn hC, hm⟩, h.new, Nat.le_trans h.few hC, h.vals⟩

set_option maxHeartbeats 1600000 in
theorem WriteKnown_ct {W0 : World} {L g ck cs cw co mk k to : Nat} {w : World} {at_ : List (Nat × Nat)} {out : List BN} {C C' : Nat} (hC : C ≤ C') (hk : k ≤ 9223372036854775807) (hl : look at_ k = some to) (hw : WAt W0 L g ck cs cw co mk w at_ out C) :
    Calls Tryz.prog 138 #[.int .i64 k, .pointer (some ⟨ck, 0, none⟩), .pointer (some ⟨cs, 0, none⟩), .pointer (some ⟨cw, 0, none⟩), .pointer (some ⟨co, 0, none⟩)] w (WP W0 L g ck cs cw co mk w C' (to, at_, out)) := by
  obtain ⟨n, hn, hmap⟩ := hw.map
  obtain ⟨fc, hlook, hfc, hfM⟩ := hmap.looks lawI Tryz.underlying218 Tryz.underlying3 zeroI (keyI (k := k) hk)
  have hlook' : (Instr.lookup 218 (.map (some mk)) (.int .i64 (k : Int)) true).run Tryz.prog w = .ok (.tuple #[.int .i64 fc, .bool (lookF at_ k).isSome]) w := hlook w rfl
  have hck := hw.bk.cell 0
  simp at hck
  have Hw := hide (hw.mono hC)
  have hM : lookF at_ k = some (to : Int) := by rw [lookF, hl]; rfl
  obtain rfl := hfM _ hM
  rw [hM] at hlook'
  clear hw hfM hlook hmap hl hM
  go_enter Tryz.func138, Tryz.ntmps138
  go_wp2
  go_ret
  exact ⟨rfl, Hw.out, Kept.refl _ _ _ _ _⟩

/-- the last steps of the closure: the new node stands in the diagram, its number in the map -/
theorem WriteLast {W0 w2 w3 : World} {L g ck cs cw co mk : Nat} {at_ : List (Nat × Nat)} {out : List BN} {C : Nat} {A : Option Addr} {oc gr cap : Nat} {v ma mb i : Nat}
    (hw : WAt W0 L g ck cs cw co mk w2 at_ out C) (hown : w2.ownsRow W0.heap.size 162 3 (.slice A out.length oc) out.length (nodesC out)) (hne : some co ≠ (Value.slice A out.length oc).ownBlock)
    (hg : (w2.alloc (.cells #[.int .i64 v, .int .i64 ma, .int .i64 mb] 162)).grownBy w3 (Value.slice A out.length oc).ownBlock)
    (hat : (Value.slice A out.length oc).ownBlock = some gr ∨ gr = (w2.alloc (.cells #[.int .i64 v, .int .i64 ma, .int .i64 mb] 162)).heap.size)
    (hown3 : w3.ownsRow W0.heap.size 162 3 (.slice (some ⟨gr, 0, none⟩) (out.length + 1) cap) (out.length + 1) (nodesC out ++ [.int .i64 v, .int .i64 ma, .int .i64 mb]))
    (hbo3 : Blk 158 w3 co [.int .i64 L, .slice A out.length oc, .int .i64 0]) (hC : C < 5800000000000) (hi : i ≤ 5800000000000) :
    ∃ w4, (Instr.mapUpdate 218 (.map (some mk)) (.int .i64 ((i : Int) + 2)) (.int .i64 ((out.length : Int) + 1 + 1))).run Tryz.prog (w3.setCell ⟨co, 1, none⟩ (.slice (some ⟨gr, 0, none⟩) (out.length + 1) cap)) = .ok () w4 ∧
      (Instr.lookup 218 (.map (some mk)) (.int .i64 ((i : Int) + 2)) false).run Tryz.prog w4 = .ok (.int .i64 ((out.length : Int) + 1 + 1)) w4 ∧
      w3.cell? ⟨ck, 0, none⟩ = some (.map (some mk)) ∧ (ck ≠ co ∧ w4.cell? ⟨ck, 0, none⟩ = some (.map (some mk))) ∧
      WAt W0 L g ck cs cw co mk w4 ((i + 2, out.length + 2) :: at_) (out ++ [(v, ma, mb)]) (C + 1) ∧ Kept W0.heap.size co mk mk w2 w4 := by
  obtain ⟨n, hn, hmap⟩ := hw.map
  obtain ⟨es, cl, hmb⟩ := hmap.isMap
  have hmlt := hmap.lt
  have hfew := hw.few
  obtain ⟨A', c', hbo2, _⟩ := hw.bo
  have hcolt := hbo2.lt
  obtain ⟨z2, hz⟩ : ∃ z2, z2 = w2.alloc (.cells #[.int .i64 v, .int .i64 ma, .int .i64 mb] 162) := ⟨_, rfl⟩
  rw [← hz] at hg hat
  have hzb : Below w2.heap.size w2 z2 := by rw [hz]; exact (Below.refl _ _).alloc (Nat.le_refl _) _
  have hzs : z2.heap.size = w2.heap.size + 1 := by rw [hz]; simp
  have hcells : ∀ {t : TypeId} {b : Nat} {cs : List Value}, Blk t w2 b cs → b ≠ mk := fun hb e => by
    unfold Blk at hb
    rw [e, hmb] at hb
    cases hb
  have hrow0 : ∀ {t : TypeId} {b : Nat} {cs : List Value}, Blk t w2 b cs → t ≠ 162 → (Value.slice A out.length oc).ownBlock ≠ some b := fun hb ht e => by
    obtain ⟨_, cs', m, hr⟩ := own_block hown e
    unfold Blk at hb
    rw [hb] at hr
    injection hr with hr
    injection hr with _ hr _
    exact ht hr
  have hother : ∀ {t : TypeId} {b : Nat} {cs : List Value}, Blk t w2 b cs → t ≠ 158 → b ≠ co := fun hb ht e => by
    unfold Blk at hb hbo2
    rw [e, hbo2] at hb
    injection hb with hb
    injection hb with _ hb _
    exact ht hb.symm
  have hmr : (Value.slice A out.length oc).ownBlock ≠ some mk := fun e => by
    obtain ⟨_, cs', m, hr⟩ := own_block hown e
    rw [hmb] at hr
    cases hr
  have hmco : mk ≠ co := fun e => (hcells hbo2) e.symm
  have hgr3 : gr < w3.heap.size ∧ ∃ cs m, w3.heap[gr]? = some (.cells cs 162 m) := own_block hown3 rfl
  have hgb : W0.heap.size ≤ gr := own_base hown3 rfl
  have hgco : gr ≠ co := fun e => by
    rcases hat with h | h
    · exact hne (by rw [h, e])
    · omega
  have hm3 : w3.heap[mk]? = w2.heap[mk]? := (hg.block mk (by omega) (fun e => hmr e.symm)).trans (hzb.block mk hmlt)
  have hgm : gr ≠ mk := fun e => by
    obtain ⟨_, _, _, h⟩ := hgr3
    rw [e, hm3, hmb] at h
    cases h
  obtain ⟨w5, h5⟩ : ∃ w5, w5 = w3.setCell ⟨co, 1, none⟩ (.slice (some ⟨gr, 0, none⟩) (out.length + 1) cap) := ⟨_, rfl⟩
  have hset : w3.grownBy w5 (some co) := by rw [h5]; exact only_set _ _ _ _
  have hm5 : w5.heap[mk]? = w2.heap[mk]? := (hset.block mk (by have := hg.size; omega) (fun e => hmco (Option.some.inj e))).trans hm3
  have hmap5 := hmap.of_block hm5
  obtain ⟨w4, hrun, hmap4, hgr4, hs4⟩ := hmap5.put encI_inj lawI Tryz.underlying218 Tryz.underlying3 (by omega) (keyI (k := i + 2) (by omega)) ((out.length + 2 : Nat) : Int) (by omega)
  have hlook := hmap4.look1 lawI Tryz.underlying218 Tryz.underlying3 zeroI (keyI (k := i + 2) (by omega)) (putM_same _ _ _)
  have hbo5 : Blk 158 w5 co [.int .i64 L, .slice (some ⟨gr, 0, none⟩) (out.length + 1) cap, .int .i64 0] := by
    rw [h5]
    exact hbo3.set 1 _
  have hk25 : Kept W0.heap.size co mk mk w2 w5 := by
    have hrow : rowOf w5 co = some gr := by
      rw [rowOf, hbo5.cell 1]
      rfl
    rw [h5] at hrow ⊢
    have hc2 : w2.cell? ⟨co, 1, none⟩ = some (.slice A out.length oc) := by
      have h1 := hbo3.cell 1
      have h2 : w3.heap[co]? = w2.heap[co]? := (hg.block co (by omega) hne).trans (hzb.block co hcolt)
      rw [← World.cell?_of_block (w := w2) (w' := w3) (a := ⟨co, 1, none⟩) h2]
      exact h1
    exact Kept.of_push hzb hown hc2 hg (hat.imp id (fun h => by omega)) hw.new.2.2.2.1 hrow
  have hs5 : w3.heap.size ≤ w5.heap.size := hset.size
  have hk54 : Kept W0.heap.size co mk mk w5 w4 := Kept.of_grown hgr4 hw.new.2.2.2.2 (.inl rfl) hbo5.lt (fun e => hmco e.symm)
  have hk := hk25.trans hk54
  have hfree : ∀ {t : TypeId} {b : Nat} {cs : List Value}, Blk t w2 b cs → t ≠ 158 → t ≠ 162 → Free w2 co mk mk b := fun hb h1 h2 => by
    refine ⟨hb.lt, hother hb h1, hcells hb, hcells hb, fun e => ?_⟩
    have hc2 : w2.cell? ⟨co, 1, none⟩ = some (.slice A out.length oc) := by
      have h1 := hbo3.cell 1
      have h2 : w3.heap[co]? = w2.heap[co]? := (hg.block co (by omega) hne).trans (hzb.block co hcolt)
      rw [← World.cell?_of_block (w := w2) (w' := w3) (a := ⟨co, 1, none⟩) h2]
      exact h1
    rw [rowOf, hc2] at e
    exact hrow0 hb h2 e
  have hbk4 := hk.blk hw.bk (hfree hw.bk (by decide) (by decide))
  have hbk3 : w3.heap[ck]? = w2.heap[ck]? := (hg.block ck (by have := hw.bk.lt; omega) (fun e => hrow0 hw.bk (by decide) e.symm)).trans (hzb.block ck hw.bk.lt)
  refine ⟨w4, ?_, ?_, ?_, ⟨hother hw.bk (by decide), hbk4.cell 0⟩, ⟨?_, hbk4, hk.blk hw.bs (hfree hw.bs (by decide) (by decide)), hk.blk hw.bw (hfree hw.bw (by decide) (by decide)), ⟨some ⟨gr, 0, none⟩, cap, ?_, ?_⟩, ⟨n + 1, by omega, ?_⟩, hw.new, by simp; omega, ?_⟩, hk⟩
  · rw [← h5]
    have := hrun
    simpa [encI, Int.add_assoc] using this
  · have := hlook
    simpa [encI, Int.add_assoc] using this
  · rw [World.cell?_of_block (w := w2) (a := ⟨ck, 0, none⟩) hbk3]
    exact hw.bk.cell 0
  · exact hw.below.trans ((hk.below hw.below.size))
  · rw [List.length_append]
    exact hbo5.grown hgr4 (fun e => hmco (Option.some.inj e).symm)
  · have h1 : w5.ownsRow W0.heap.size 162 3 (.slice (some ⟨gr, 0, none⟩) (out.length + 1) cap) (out.length + 1) (nodesC out ++ [.int .i64 v, .int .i64 ma, .int .i64 mb]) :=
      own_other hown3 hset (fun r hr e => by
        have : gr = r := by simpa [Value.ownBlock] using hr
        exact hgco (this.trans (Option.some.inj e)))
    have h2 := own_other h1 hgr4 (fun r hr e => by
        have : gr = r := by simpa [Value.ownBlock] using hr
        exact hgm (this.trans (Option.some.inj e)))
    rw [nodesC_append, List.length_append]
    exact h2
  · rw [lookF_put] at hmap4
    exact hmap4
  · intro k m hm
    by_cases hki : i + 2 = k
    · subst hki
      rw [look_same] at hm
      injection hm with hm
      omega
    · rw [look_other _ _ hki] at hm
      exact hw.vals k m hm

set_option maxHeartbeats 3200000 in
set_option maxRecDepth 100000 in
theorem WriteWalk_ct {W0 : World} {L B g bf bp ck cs cw co mk : Nat} {ns : List BN} {np : Nat} {M : BN → Option Int} (hst : StoreAt L B g bf bp W0 ns np M) (ok : OkD L ns) :
    ∀ (d f k : Nat) (w : World) (at_ : List (Nat × Nat)) (out : List BN) (C : Nat), L - lvl L ns k ≤ d → k < f → k < ns.length + 2 → look at_ 0 = some 0 → look at_ 1 = some 1 → C + 2 ^ d ≤ 5800000000000 → WAt W0 L g ck cs cw co mk w at_ out C →
    Calls Tryz.prog 138 #[.int .i64 k, .pointer (some ⟨ck, 0, none⟩), .pointer (some ⟨cs, 0, none⟩), .pointer (some ⟨cw, 0, none⟩), .pointer (some ⟨co, 0, none⟩)] w (WP W0 L g ck cs cw co mk w (C + (2 ^ d - 1)) (wr ns f k at_ out)) := by
  have hfew := hst.few.1
  intro d
  induction d with
  | zero =>
    intro f k w at_ out C hd hkf hk h0 h1 hC hw
    obtain ⟨f, rfl⟩ : ∃ j, f = j + 1 := ⟨f - 1, by omega⟩
    have hk2 : k < 2 := by
      rcases Nat.lt_or_ge k 2 with h | h
      · exact h
      · obtain ⟨i, v, l, h', rfl, hn⟩ := node_of (ns := ns) h hk
        have := (ok.node i v l h' hn).1
        rw [lvl_node hn] at hd
        omega
    rcases (show k = 0 ∨ k = 1 by omega) with rfl | rfl
    · rw [wr_known out h0]
      exact WriteKnown_ct (by omega) (by omega) h0 hw
    · rw [wr_known out h1]
      exact WriteKnown_ct (by omega) (by omega) h1 hw
  | succ d ih =>
    intro f k w at_ out C hd hkf hk h0 h1 hC hw
    have hpow : 2 ^ (d + 1) = 2 ^ d + 2 ^ d := by rw [Nat.pow_succ]; omega
    have hpos : 0 < 2 ^ d := Nat.two_pow_pos d
    obtain ⟨f, rfl⟩ : ∃ j, f = j + 1 := ⟨f - 1, by omega⟩
    cases hl : look at_ k with
    | some to =>
      rw [wr_known out hl]
      exact WriteKnown_ct (by omega) (by omega) hl hw
    | none =>
      have hk2 : ¬ k < 2 := fun h => by
        rcases (show k = 0 ∨ k = 1 by omega) with rfl | rfl
        · rw [h0] at hl; cases hl
        · rw [h1] at hl; cases hl
      obtain ⟨i, v, l, h', rfl, hn⟩ := node_of (ns := ns) (by omega) hk
      obtain ⟨b1, b2, b3, b4, b5, b6⟩ := ok.node i v l h' hn
      rw [lvl_node hn] at hd
      have hst' := hst.keep hw.below
      obtain ⟨n, hcn, hmap⟩ := hw.map
      obtain ⟨fc, hlook, hfc, hfM⟩ := hmap.looks lawI Tryz.underlying218 Tryz.underlying3 zeroI (keyI (k := i + 2) (by omega))
      have hM : lookF at_ (i + 2) = none := by rw [lookF, hl]; rfl
      rw [hM] at hlook
      have hlook' : (Instr.lookup 218 (.map (some mk)) (.int .i64 ((i : Int) + 2)) true).run Tryz.prog w = .ok (.tuple #[.int .i64 fc, .bool false]) w := by
        have := hlook w rfl
        simpa [encI] using this
      obtain ⟨r, c, hb, hn0, hn1, hn2, hi⟩ := hst'.node hn
      have hg1 := hb.cell 1
      have hck := hw.bk.cell 0
      have hcs := hw.bs.cell 0
      have hcw := hw.bw.cell 0
      simp at hck hcs hcw hg1
      have hlk := hw.bk.lt
      have hls := hw.bs.lt
      have hlw := hw.bw.lt
      have Hw := hide hw
      have Hih := hide ih
      have Hpow := hide hpow
      have Hn := hide hn
      have Hok := hide ok
      have Hl := hide hl
      have Hst := hide hst
      clear hw hst' hfM ih hlook hmap hl hM hb hn hpow ok hst
      go_enter Tryz.func138, Tryz.ntmps138
      go_wp2_with fail
      have hwb := Hw.out.keep ((Below.refl w.heap.size w).alloc (Nat.le_refl _) (.cells #[.int .i64 v, .int .i64 l, .int .i64 h'] 162))
      have hfree := Hw.out.free_new (.cells #[.int .i64 v, .int .i64 l, .int .i64 h'] 162)
      have hbox := Blk.new w 162 [.int .i64 v, .int .i64 l, .int .i64 h']
      refine (Hih.out f l _ at_ out C (by omega) (by omega) (by omega) h0 h1 (by have := Hpow.out; omega) hwb).mono ?_
      generalize hra : wr ns f l at_ out = ra
      obtain ⟨ma, aa, oa⟩ := ra
      rintro e w1 ⟨rfl, hw1, hk1⟩
      have hends := wr_ends ns f l at_ out h0 h1
      rw [hra] at hends
      have hbox1 := hk1.blk hbox hfree
      have hfree1 := hk1.free hfree
      have hcw1 := hw1.bw.cell 0
      have hd1 := hbox1.cell 0
      have hd2 := hbox1.cell 1
      have hd3 := hbox1.cell 2
      simp at hcw1 hd1 hd2 hd3
      have Hra := hide hra
      have Hw1 := hide hw1
      have Hk1 := hide hk1
      have Hbox1 := hide hbox1
      have Hfree1 := hide hfree1
      have Hends := hide hends
      clear hra hw1 hk1 hbox hfree hbox1 hfree1 hends hwb hcw hck hcs
      simp only at *
      go_wp2_with fail
      refine (Hih.out f h' _ aa oa _ (by omega) (by omega) (by omega) Hends.out.1 Hends.out.2 (by have := Hpow.out; omega) Hw1.out).mono ?_
      generalize hrb : wr ns f h' aa oa = rb
      obtain ⟨mb, ab, ob⟩ := rb
      rintro e w2 ⟨rfl, hw2, hk2⟩
      have hbox2 := hk2.blk Hbox1.out Hfree1.out
      have hfree2 := hk2.free Hfree1.out
      have hd1 := hbox2.cell 0
      have hd2 := hbox2.cell 1
      have hd3 := hbox2.cell 2
      simp at hd1 hd2 hd3
      obtain ⟨A, oc, hbo, hown⟩ := hw2.bo
      have ho1 := hbo.cell 1
      have hof := hbo.frozen 1
      have hol := hbo.lt
      have hfew2 := hw2.few
      simp at ho1
      have hsz2 : w.heap.size < w2.heap.size := hfree2.1
      have Hrb := hide hrb
      have Hw2 := hide hw2
      have Hk2 := hide (Hk1.out.trans hk2)
      have Hbo := hide hbo
      have Hown := hide hown
      clear hrb hw2 hk2 hbox2 hfree2 hbo hown hcw1 Hk1 Hbox1 Hfree1
      simp only at *
      obtain ⟨i0, hi0, hz0, hz1, hz2⟩ := info_parts (show (Tryz.prog.info? 162).map (fun i => (i.zero, i.size, i.bytes)) = some (some (.agg #[.int .i64 0, .int .i64 0, .int .i64 0]), 3, 24) by kernel_rfl)
      have hml : ob.length + 1 ≤ maxLen := by unfold maxLen; have := Hpow.out; omega
      have hby : (ob.length + 1) * 24 ≤ 140737488355328 := by have := Hpow.out; omega
      have hone : ∀ u ∈ [Value.int .i64 (v : Int), .int .i64 ma, .int .i64 mb], u.oneCell' = true := by
        intro u hu
        simp at hu
        rcases hu with rfl | rfl | rfl <;> rfl
      have hnews : ∀ j u, [Value.int .i64 (v : Int), .int .i64 ma, .int .i64 mb][j]? = some u → (w2.alloc (.cells #[.int .i64 v, .int .i64 ma, .int .i64 mb] 162)).cell? ((⟨w2.heap.size, 0, none⟩ : Addr).add j) = some u := by
        intro j u hj
        rw [add_plain, Nat.zero_add]
        exact ((Blk.new w2 162 [.int .i64 v, .int .i64 ma, .int .i64 mb]).cell j).trans hj
      have hneo : some co ≠ (Value.slice A ob.length oc).ownBlock := fun e => by
        obtain ⟨_, cs', m, hr⟩ := own_block Hown.out e.symm
        have hb := Hbo.out
        unfold Blk at hb
        rw [hb] at hr
        injection hr with hr
        injection hr with _ hr _
        exact absurd hr (by decide)
      have Hneo := hide hneo
      clear hneo
      have Hnews := hide hnews
      have hW0 : W0.heap.size ≤ w2.heap.size := Hw2.out.below.size
      clear hnews
      go_wp2_with
        (at_builtin
         go_loud (refine wpList_append_lies _ rfl _ _ 136 rfl W0.heap.size 162 i0 (.agg #[.int .i64 0, .int .i64 0, .int .i64 0]) 3 24 Tryz.underlying136 hi0 hz0 hz1 hz2 rfl (by decide) (.slice A ob.length oc) ob.length (nodesC ob) rfl (Hown.out.alloc _) ⟨w2.heap.size, 0, none⟩ 1 1 [.int .i64 v, .int .i64 ma, .int .i64 mb] rfl rfl Hnews.out hone (by omega) hml hby (by simp; omega) _ rfl ?_)
         intro gr cap w3 hown3 hgr3 hat3 hlt3
         have hbo3 := (Hbo.out.alloc _).grown hgr3 Hneo.out
         have ho3 := hbo3.cell 1
         have hof3 := hbo3.frozen 1
         simp at ho3
         have Hbo3 := hide hbo3
         have Hown3 := hide hown3
         have Hgr3 := hide hgr3
         have Hat3 := hide hat3
         clear hbo3 hown3 hgr3 hat3
         obtain ⟨w4, hW⟩ := WriteLast Hw2.out Hown.out Hneo.out Hgr3.out Hat3.out Hown3.out Hbo3.out (i := i) (by omega) (by omega)
         have hr4 := hW.1
         have hr5 := hW.2.1
         have hcn4 := hW.2.2.1
         have hckco := hW.2.2.2.1
         have HW := hide hW.2.2.2.2
         clear hW)
      go_ret
      have hw4 := HW.out.1
      have hk4 := Hk2.out
      rw [wr_new (a := (ma, aa, oa)) (b := (mb, ab, ob)) out Hl.out Hn.out Hra.out Hrb.out]
      refine ⟨?_, hw4.mono (by have := Hpow.out; omega), ?_⟩
      · simp [Int.add_assoc]
      · obtain ⟨_, _, hco, _⟩ := Hw.out.bo
        exact (Kept.of_below ((Below.refl w.heap.size w).alloc (Nat.le_refl _) _) hco.lt).trans (Hk2.out.trans HW.out.2)

end Go.Proofs.YtmjiiddncbhgpaaGreat
