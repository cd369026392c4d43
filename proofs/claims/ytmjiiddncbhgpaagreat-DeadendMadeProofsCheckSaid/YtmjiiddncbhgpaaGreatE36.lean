/- What the law asks for, part 36: Store8. -/
import Derived.Test.YtmjiiddncbhgpaaGreatE1
import Derived.Test.YtmjiiddncbhgpaaGreatE3
import Derived.Test.YtmjiiddncbhgpaaGreatE27
import Derived.Test.YtmjiiddncbhgpaaGreatE28
import Derived.Test.YtmjiiddncbhgpaaGreatE29
import Derived.Test.YtmjiiddncbhgpaaGreatE35
import Derived.BigQuiet
import Derived.Deep.AppendLies
import Derived.Deep.Draws
import Derived.Deep.Fields
import Derived.Deep.LoopGhost
import Derived.Deep.QuietTactic
import Derived.Deep.RegionHeld3
import Derived.Deep.RegionLaw
import Derived.Deep.Slices
import Derived.DeepKeys4
import Derived.Laws.AppendOwnNone
import Derived.Laws.EntriesVeiled
import Derived.Laws.OwnMore
import Derived.Lib.Hide
import Derived.Maps.AppendAt
import Derived.Maps.OwnOps
import Derived.Maps.OwnSet
import Derived.ProofKit
import Derived.Test.YtmjiiddncbhgpaaGreatProg
import Derived.WalkKit
import Init
namespace Go.Proofs.YtmjiiddncbhgpaaGreat
open Go.RowKit Go.Maps
/-- what a call leaves as it was that changes a store and the map mk -/
structure Kept2 (B g bf bp mk : Nat) (w w' : World) : Prop where
  os : w'.os = w.os
  tape : w'.tape = w.tape
  output : w'.output = w.output
  size : w.heap.size ≤ w'.heap.size
  row : ∀ r, rowOf w' g = some r → rowOf w g = some r ∨ w.heap.size ≤ r
  block : ∀ i, i < w.heap.size → (i < B ∨ (i ≠ g ∧ i ≠ bf ∧ i ≠ bp ∧ i ≠ mk ∧ rowOf w g ≠ some i)) → w'.heap[i]? = w.heap[i]?
section
variable {B g bf bp mk : Nat} {w w' w'' : World}
theorem Kept2.refl (B g bf bp mk : Nat) (w : World) : Kept2 B g bf bp mk w w := ⟨rfl, rfl, rfl, Nat.le_refl _, fun _ h => .inl h, fun _ _ _ => rfl⟩
theorem Kept.two (h : Kept B g bf bp w w') (mk : Nat) : Kept2 B g bf bp mk w w' :=
  ⟨h.os, h.tape, h.output, h.size, h.row, fun i hi hn => h.block i hi (hn.imp id fun h => ⟨h.1, h.2.1, h.2.2.1, h.2.2.2.2⟩)⟩
theorem Kept2.free (h : Kept2 B g bf bp mk w w') {b : Nat} (hf : Free w g bf bp b) : Free w' g bf bp b :=
  ⟨Nat.lt_of_lt_of_le hf.1 h.size, hf.2.1, hf.2.2.1, hf.2.2.2.1, fun e => by
    rcases h.row b e with h1 | h1
    · exact hf.2.2.2.2 h1
    · have := hf.1
      omega⟩
theorem Kept2.trans (h : Kept2 B g bf bp mk w w') (k : Kept2 B g bf bp mk w' w'') : Kept2 B g bf bp mk w w'' :=
  ⟨k.os.trans h.os, k.tape.trans h.tape, k.output.trans h.output, Nat.le_trans h.size k.size, fun r hr => by
    rcases k.row r hr with h1 | h1
    · exact h.row r h1
    · exact .inr (Nat.le_trans h.size h1), fun i hi hn => by
    have e := h.block i hi hn
    refine (k.block i (Nat.lt_of_lt_of_le hi h.size) ?_).trans e
    rcases hn with hn | ⟨h1, h2, h3, h4, h5⟩
    · exact .inl hn
    · have hf := h.free ⟨hi, h1, h2, h3, h5⟩
      exact .inr ⟨h1, h2, h3, h4, hf.2.2.2.2⟩⟩
theorem Kept2.blk {t : TypeId} {b : Nat} {cs : List Value} (h : Kept2 B g bf bp mk w w') (hb : Blk t w b cs) (hf : Free w g bf bp b) (hm : b ≠ mk) : Blk t w' b cs :=
  (h.block b hf.1 (.inr ⟨hf.2.1, hf.2.2.1, hf.2.2.2.1, hm, hf.2.2.2.2⟩)).trans hb
theorem Kept2.of_grown (h : w.grownBy w' (some mk)) (hB : B ≤ mk) (hg : g < w.heap.size) (hne : g ≠ mk) : Kept2 B g bf bp mk w w' :=
  ⟨h.os, h.tape, h.output, h.size, fun r hr => .inl (by rw [← rowOf_same (h.block g hg (by simpa using hne))]; exact hr), fun i hi hn => h.block i hi (fun e => by
    injection e with e
    subst e
    rcases hn with hn | ⟨h1, h2, h3, h4, h5⟩
    · omega
    · exact h4 rfl)⟩
/-- a map that is new since then does not count -/
theorem Kept.trans2 {w0 : World} (h : Kept B g bf bp w0 w) (k : Kept2 B g bf bp mk w w') (hm : w0.heap.size ≤ mk) : Kept B g bf bp w0 w' :=
  ⟨k.os.trans h.os, k.tape.trans h.tape, k.output.trans h.output, Nat.le_trans h.size k.size, fun r hr => by
    rcases k.row r hr with h1 | h1
    · exact h.row r h1
    · exact .inr (Nat.le_trans h.size h1), fun i hi hn => by
    have e := h.block i hi hn
    refine (k.block i (Nat.lt_of_lt_of_le hi h.size) ?_).trans e
    rcases hn with hn | hn
    · exact .inl hn
    · have hf := h.free ⟨hi, hn⟩
      exact .inr ⟨hf.2.1, hf.2.2.1, hf.2.2.2.1, by omega, hf.2.2.2.2⟩⟩
end
/-- an operator on meanings -/
abbrev Fun := (Nat → Bool) → Bool
/-- what the map remembers is right -/
def KnownOk (φ : Fun → Fun) (ns : List BN) (K : Nat → Option Int) : Prop :=
  ∀ k c, K k = some c → ∃ m : Nat, c = m ∧ k < ns.length + 2 ∧ m < ns.length + 2 ∧ ∀ s, sem ns m s = φ (sem ns k) s
theorem sem_add' {L : Nat} {ns : List BN} (ok : OkD L ns) (ms : List BN) {k : Nat} (hk : k < ns.length + 2) : sem (ns ++ ms) k = sem ns k := funext fun s => sem_add ok ms hk s
theorem KnownOk.more {φ : Fun → Fun} {L : Nat} {ns : List BN} {K : Nat → Option Int} (h : KnownOk φ ns K) (ok : OkD L ns) (ms : List BN) : KnownOk φ (ns ++ ms) K := fun k c hc => by
  obtain ⟨m, h1, h2, h3, h4⟩ := h k c hc
  refine ⟨m, h1, by simp; omega, by simp; omega, fun s => ?_⟩
  rw [sem_add ok ms h3, sem_add' ok ms h2, h4]
theorem KnownOk.put {φ : Fun → Fun} {ns : List BN} {K : Nat → Option Int} (h : KnownOk φ ns K) {k m : Nat} (hk : k < ns.length + 2) (hm : m < ns.length + 2) (hq : ∀ s, sem ns m s = φ (sem ns k) s) : KnownOk φ ns (putM K k (m : Int)) := fun k' c hc => by
  by_cases he : k' = k
  · subst he
    rw [putM_same] at hc
    injection hc with hc
    exact ⟨m, hc.symm, hk, hm, hq⟩
  · rw [putM_other _ _ he] at hc
    exact h k' c hc

/-- a closure's world: the store, the boxes X (no store, no nodes), the map -/
structure NAt (φ : Fun → Fun) (L B g bf bp mk : Nat) (X : List (TypeId × Nat × List Value)) (w : World) (ns : List BN) (C : Nat) (K : Nat → Option Int) : Prop where
  st : St L B g bf bp w ns C
  box : ∀ x ∈ X, Blk x.1 w x.2.1 x.2.2
  kind : ∀ x ∈ X, x.1 ≠ 162 ∧ x.1 ≠ 140
  map : ∃ n, n ≤ C ∧ Known w mk n K
  mine : Free w g bf bp mk ∧ B ≤ mk
  known : KnownOk φ ns K
section
variable {φ : Fun → Fun} {L B g bf bp mk : Nat} {X : List (TypeId × Nat × List Value)} {w w' : World} {ns : List BN} {C C' : Nat} {K : Nat → Option Int}
theorem NAt.rowed {w w' : World} (h : Free w g bf bp mk) (hb : Below w.heap.size w w') (hg : g < w.heap.size) : Free w' g bf bp mk := (Kept.of_below (B := 0) hb hg).free h
theorem NAt.keep (h : NAt φ L B g bf bp mk X w ns C K) (hb : Below w.heap.size w w') : NAt φ L B g bf bp mk X w' ns C K := by
  obtain ⟨n, hn, hm⟩ := h.map
  exact ⟨h.st.keep hb, fun x hx => (h.box x hx).keep hb, h.kind, ⟨n, hn, hm.of_block (hb.block _ hm.lt)⟩, ⟨NAt.rowed h.mine.1 hb h.st.lt, h.mine.2⟩, h.known⟩
theorem NAt.ne (h : NAt φ L B g bf bp mk X w ns C K) {t : TypeId} {b : Nat} {cs : List Value} (hb : Blk t w b cs) : b ≠ mk := fun e => by
  obtain ⟨n, _, hm⟩ := h.map
  obtain ⟨es, cl, hm⟩ := hm.isMap
  unfold Blk at hb
  rw [e, hm] at hb
  cases hb
theorem St.free' (h : St L B g bf bp w ns C) {t : TypeId} {b : Nat} {cs : List Value} (hb : Blk t w b cs) (ht : t ≠ 162) (ht' : t ≠ 140) : Free w g bf bp b := by
  refine h.free hb (fun e => ?_) ht
  obtain ⟨_, _, np, M, _, h4, _⟩ := h
  obtain ⟨A, c, hbl, _⟩ := h4.blk
  unfold Blk at hb hbl
  rw [e, hbl] at hb
  injection hb with hb
  injection hb with _ hb _
  exact ht' hb.symm
theorem NAt.free (h : NAt φ L B g bf bp mk X w ns C K) {x : TypeId × Nat × List Value} (hx : x ∈ X) : Free w g bf bp x.2.1 := h.st.free' (h.box x hx) (h.kind x hx).1 (h.kind x hx).2
theorem NAt.store (h : NAt φ L B g bf bp mk X w ns C K) {ms : List BN} (h' : St L B g bf bp w' (ns ++ ms) C') (k : Kept B g bf bp w w') (hC : C ≤ C') : NAt φ L B g bf bp mk X w' (ns ++ ms) C' K := by
  obtain ⟨n, hn, hm⟩ := h.map
  exact ⟨h', fun x hx => k.blk (h.box x hx) (h.free hx), h.kind, ⟨n, by omega, k.map hm h.mine.1⟩, ⟨k.free h.mine.1, h.mine.2⟩, h.known.more h.st.ok ms⟩
theorem NAt.mono (h : NAt φ L B g bf bp mk X w ns C K) (hC : C ≤ C') : NAt φ L B g bf bp mk X w ns C' K := by
  obtain ⟨n, hn, hm⟩ := h.map
  exact ⟨h.st.mono hC, h.box, h.kind, ⟨n, by omega, hm⟩, h.mine, h.known⟩
/-- a new box is none of the store's, nor the map -/
theorem NAt.free_new (h : NAt φ L B g bf bp mk X w ns C K) (o : Obj) : Free (w.alloc o) g bf bp w.heap.size ∧ w.heap.size ≠ mk := by
  obtain ⟨_, _, np, M, _, h4, _⟩ := h.st
  exact ⟨h4.free_new o, by have := h.mine.1.1; omega⟩
/-- 'known[k] = m' -/
theorem NAt.put (h : NAt φ L B g bf bp mk X w ns C K) {k m : Nat} (hk : k < ns.length + 2) (hm : m < ns.length + 2) (hq : ∀ s, sem ns m s = φ (sem ns k) s) (hC : C < 5800000000000) :
    ∃ w', (Instr.mapUpdate 218 (.map (some mk)) (.int .i64 (k : Int)) (.int .i64 (m : Int))).run Tryz.prog w = .ok () w' ∧ NAt φ L B g bf bp mk X w' ns (C + 1) (putM K k (m : Int)) ∧ Kept2 B g bf bp mk w w' := by
  obtain ⟨n, hn, hmap⟩ := h.map
  have hlen := h.st.1
  obtain ⟨w', hrun, hmap', hgr, hs⟩ := hmap.put encI_inj lawI Tryz.underlying218 Tryz.underlying3 (by omega) (keyI (k := k) (by omega)) (m : Int) (by omega)
  have hf := h.mine.1
  have hgk : Kept2 B g bf bp mk w w' := Kept2.of_grown hgr h.mine.2 h.st.lt (fun e => hf.2.1 e.symm)
  obtain ⟨c1, ok, np, M, c2, c3, c4⟩ := h.st
  obtain ⟨A, c, hbl, ho⟩ := c3.blk
  refine ⟨w', hrun, ⟨⟨by omega, ok, np, M, by omega, ⟨c3.low, c3.few, ⟨A, c, hbl.grown hgr (fun e => hf.2.1 (Option.some.inj e).symm), own_other ho hgr (fun r hr e => ?_)⟩, c3.found.of_block (hgr.block _ c3.found.lt (fun e => hf.2.2.1 (Option.some.inj e).symm)), c3.pairs.of_block (hgr.block _ c3.pairs.lt (fun e => hf.2.2.2.1 (Option.some.inj e).symm)), c3.base.1, c3.base.2.1, c3.base.2.2.1, c3.base.2.2.2.1, Nat.le_trans c3.base.2.2.2.2 hgr.size⟩, c4⟩, fun x hx => (h.box x hx).grown hgr (fun e => h.ne (h.box x hx) (Option.some.inj e)), h.kind, ⟨n + 1, by omega, hmap'⟩, ⟨hgk.free hf, h.mine.2⟩, h.known.put hk hm hq⟩, hgk⟩
  have : rowOf w g = some r := by rw [rowOf, hbl.cell 1]; exact hr
  exact hf.2.2.2.2 (by rw [this]; exact e)
end
theorem putM_some {K : Nat → Option Int} {j k : Nat} (c : Int) (h : (K j).isSome = true) : (putM K k c j).isSome = true := by
  by_cases e : j = k
  · rw [e, putM_same]; rfl
  · rw [putM_other _ _ e]; exact h
/-- returned a node of the meaning φ of node k -/
def NP (φ : Fun → Fun) (L B g bf bp mk : Nat) (X : List (TypeId × Nat × List Value)) (w : World) (ns : List BN) (K : Nat → Option Int) (C k : Nat) (e : Ending) (w' : World) : Prop :=
  ∃ ms k' K', e = .returned (.int .i64 (k' : Nat)) ∧ (∀ j, (K j).isSome = true → (K' j).isSome = true) ∧ NAt φ L B g bf bp mk X w' (ns ++ ms) C K' ∧ Kept2 B g bf bp mk w w' ∧ k' < (ns ++ ms).length + 2 ∧ ∀ s, sem (ns ++ ms) k' s = φ (sem ns k) s
theorem NP.stay {φ : Fun → Fun} {L B g bf bp mk : Nat} {X : List (TypeId × Nat × List Value)} {w : World} {ns : List BN} {C C' k m : Nat} {K : Nat → Option Int} (h : NAt φ L B g bf bp mk X w ns C K) (hC : C ≤ C') (hm : m < ns.length + 2) (hq : ∀ s, sem ns m s = φ (sem ns k) s) :
    NP φ L B g bf bp mk X w ns K C' k (.returned (.int .i64 (m : Nat))) w :=
  ⟨[], m, K, rfl, fun _ h => h, by simpa using h.mono hC, Kept2.refl _ _ _ _ _ _, by simpa using hm, by simpa using hq⟩

/-- an operator that looks at no variable above those that its operand looks at -/
def Dep (φ : Fun → Fun) : Prop := ∀ (f : Fun) (m : Nat), (∀ s t : Nat → Bool, (∀ v, m ≤ v → s v = t v) → f s = f t) → ∀ s t : Nat → Bool, (∀ v, m ≤ v → s v = t v) → φ f s = φ f t
theorem Dep.lvl {φ : Fun → Fun} (hφ : Dep φ) {L : Nat} {ns ns' : List BN} (ok : OkD L ns) (ok' : OkD L ns') {k k' : Nat} (hk : k < ns.length + 2) (hk' : k' < ns'.length + 2) (hq : ∀ s, sem ns' k' s = φ (sem ns k) s) : lvl L ns k ≤ lvl L ns' k' :=
  lvl_of_dep ok' hk' (lvl_le ok k) fun s t hst => by
    rw [hq, hq]
    exact hφ _ _ (fun s t h => sem_dep ok k k (Nat.le_refl _) hk s t h) s t hst
/-- the operator acts on both sides of a node alike -/
def Sides (φ : Fun → Fun) (v : Nat) : Prop := ∀ f f0 f1 : Fun, (∀ s, f s = if s v = true then f1 s else f0 s) → (∀ s b, f0 (setV s v b) = f0 s) → (∀ s b, f1 (setV s v b) = f1 s) → ∀ s, φ f s = if s v = true then φ f1 s else φ f0 s
def notF : Fun → Fun := fun f s => !f s
theorem notF_dep : Dep notF := fun f m h s t hst => by unfold notF; rw [h s t hst]
theorem notF_sides (v : Nat) : Sides notF v := fun f f0 f1 h _ _ s => by
  unfold notF
  rw [h]
  split <;> rfl
theorem sem_set {L : Nat} {ns : List BN} (ok : OkD L ns) {k v : Nat} (hk : k < ns.length + 2) (hv : v < lvl L ns k) (s : Nat → Bool) (b : Bool) : sem ns k (setV s v b) = sem ns k s :=
  sem_dep ok k k (Nat.le_refl _) hk _ _ fun u hu => setV_other _ _ (by omega)
end Go.Proofs.YtmjiiddncbhgpaaGreat
