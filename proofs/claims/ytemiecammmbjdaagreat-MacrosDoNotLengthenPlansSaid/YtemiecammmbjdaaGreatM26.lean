/- What the law asks for, part 26: Am. -/
import Derived.Test.YtemiecammmbjdaaGreatM1
import Derived.Test.YtemiecammmbjdaaGreatM2
import Derived.Test.YtemiecammmbjdaaGreatM3
import Derived.Test.YtemiecammmbjdaaGreatM4
import Derived.Test.YtemiecammmbjdaaGreatM5
import Derived.Test.YtemiecammmbjdaaGreatM10
import Derived.Test.YtemiecammmbjdaaGreatM11
import Derived.Test.YtemiecammmbjdaaGreatM12
import Derived.Test.YtemiecammmbjdaaGreatM13
import Derived.Test.YtemiecammmbjdaaGreatM14
import Derived.Test.YtemiecammmbjdaaGreatM15
import Derived.Test.YtemiecammmbjdaaGreatM20
import Derived.Test.YtemiecammmbjdaaGreatM21
import Derived.Test.YtemiecammmbjdaaGreatM22
import Derived.Test.YtemiecammmbjdaaGreatM23
import Derived.Test.YtemiecammmbjdaaGreatM24
import Derived.Test.YtemiecammmbjdaaGreatM25
import Derived.BigQuiet
import Derived.BigRegion
import Derived.Deep.AppendLies
import Derived.Deep.DeepCutAuto
import Derived.Deep.Draws
import Derived.Deep.Fields
import Derived.Deep.LoopGhost
import Derived.Deep.QuietTactic
import Derived.Deep.RegionHeld3
import Derived.Deep.Slices
import Derived.DeepKeys4
import Derived.Ground.Names2Prog
import Derived.Ground.SlgnProg
import Derived.Ground.SlsfProg
import Derived.IntWalk
import Derived.Laws.AppendOwnNone
import Derived.Laws.BitsAllLaws
import Derived.Laws.EntriesVeiled
import Derived.Laws.OwnMore
import Derived.Lib.Hide
import Derived.Lib.SlicesCompact
import Derived.LoopIn
import Derived.LoopNIn
import Derived.Maps.AppendAt
import Derived.Maps.OwnIn
import Derived.Maps.OwnOps
import Derived.Maps.OwnSet
import Derived.OwnWalkIn
import Derived.RangeFuncBound
import Derived.RangeFuncCalls
import Derived.RangeFuncLeaves
import Derived.RangeFuncNested
import Derived.Shelf.Abstract
import Derived.Shelf.RegionOpen
import Derived.Shelf.Slices.Cells
import Derived.Shelf.Slices.Clone
import Derived.Shelf.Slices.CompactI
import Derived.Shelf.Slices.Empties
import Derived.Shelf.Slices.In.SortNone
import Derived.Shelf.Slices.Reverse
import Derived.Shelf.Slices.SearchI
import Derived.Shelf.Sort.Plain
import Derived.Sort.OwnSortedInts
import Derived.StillTailTactics
import Derived.TacticsInMore
import Derived.Test.YtemiecammmbjdaaGreatProg
import Derived.WalkKit
namespace Go.Proofs.YtemiecammmbjdaaGreat
set_option linter.unusedVariables false
set_option linter.unusedSimpArgs false
open Go.RowKit Go.Maps Go.Shelf
section
variable {B n c Q mb : Nat} {w w' : World} {A : Option Addr} {es : List En} {tm : Int}
theorem QueueS.ltA (h : QueueS B w Q mb A n c es tm) {b : Nat} (hb : QueueM Q mb A es b) : b < w.heap.size := by
  rcases hb with rfl | rfl | e | ⟨x, hx, rfl⟩
  · exact h.blk.lt
  · exact h.map.lt
  · exact (World.ownsRow.lt h.heap.own b (by rw [own_blkA]; exact e)).2
  · obtain ⟨i, hi⟩ := List.getElem?_of_mem hx
    exact (h.heap.ent i x hi).lt
/-- of the queue's blocks only its map is no cells -/
theorem QueueS.cellsA (h : QueueS B w Q mb A n c es tm) {b : Nat} (hb : QueueM Q mb A es b) (hm : b ≠ mb) : ∃ ds e m, w.heap[b]? = some (.cells ds e m) := by
  rcases hb with rfl | rfl | e | ⟨x, hx, rfl⟩
  · exact h.blk.cells
  · exact absurd rfl hm
  · rcases h.heap.own.2 with ⟨e4, _⟩ | ⟨r, cap, cur, e4, _, hc4, rest⟩
    · injection e4 with e1; subst e1; cases e
    · injection e4 with e1
      subst e1
      obtain rfl : r = b := by simpa [blkA] using e
      exact ⟨_, _, _, hc4⟩
  · obtain ⟨i, hi⟩ := List.getElem?_of_mem hx
    exact (h.heap.ent i x hi).cells
theorem QueueS.isMapA (h : QueueS B w Q mb A n c es tm) : ∃ es' clock, w.heap[mb]? = some (.map es' clock) := h.map.isMap
theorem QueueS.markA (h : QueueS B w Q mb A n c es tm) {k : Nat} {d : Option (List Deferred)} (hk : w.heap[k]? = some (.deferred d)) : ¬ QueueM Q mb A es k := fun hb => by
  by_cases e : k = mb
  · subst e
    obtain ⟨es', cl, h1⟩ := h.isMapA
    rw [hk] at h1
    cases h1
  · obtain ⟨ds, t, m, h1⟩ := h.cellsA hb e
    rw [hk] at h1
    cases h1
theorem QueueS.fromA (h : QueueS B w Q mb A n c es tm) (hc : Chg (QueueM Q mb A es) w w') {BL : Nat} (hm : mb < BL) : KeepsFrom BL w w' :=
  ⟨hc.size, fun k o hk ho hcc => (hc.block k (Array.getElem?_eq_some_iff.1 ho).1 (fun e => by
    obtain ⟨ds, t, m, h1⟩ := h.cellsA e (by omega)
    rw [ho] at h1
    cases h1
    cases hcc)).trans ho⟩
theorem QueueS.lenA (h : QueueS B w Q mb A n c es tm) {l : List Nat} (hl : ∀ x v, keyE es x = some v → x ∈ l) : n ≤ l.length := by
  rw [← h.heap.len, ← List.length_map (f := En.item)]
  refine List.Nodup.length_le_of_subset h.nodup fun x hx => ?_
  obtain ⟨e, he, rfl⟩ := List.mem_map.1 hx
  exact hl _ e.key (by unfold keyE; rw [find_item h.nodup he]; rfl)
theorem QueueS.items (h : QueueS B w Q mb A n c es tm) : (es.map En.item).length = n := by rw [List.length_map]; exact h.heap.len
theorem keyE_item {x : Nat} {v : Int} (hv : keyE es x = some v) : x ∈ es.map En.item := by
  unfold keyE at hv
  obtain ⟨e, he, _⟩ := Option.map_eq_some_iff.1 hv
  have h1 := List.mem_of_find?_eq_some he
  have h2 := List.find?_some he
  simp only [decide_eq_true_eq] at h2
  rw [← h2]
  exact List.mem_map_of_mem h1
theorem QueueS.noneA (h : QueueS B w Q mb A 0 c es tm) (x : Nat) : keyE es x = none := by
  have : es = [] := List.eq_nil_of_length_eq_zero h.heap.len
  subst this
  rfl
end
theorem MapV.markA {κ : Type} {P : Program} {K : TypeId} {enc : κ → Value} {w : World} {b cnt : Nat} {M : κ → Option Value} (h : MapV P K enc w b cnt M) {k : Nat} {d : Option (List Deferred)} (hk : w.heap[k]? = some (.deferred d)) : k ≠ b := by
  rintro rfl
  obtain ⟨es, clock, he⟩ := h.isMap
  rw [hk] at he
  cases he
theorem blkT_ne {W : World} {t t' : TypeId} {g g' : Nat} {cs cs' : List Value} (h : Blk t W g cs) (k : Blk t' W g' cs') (ht : t ≠ t') : g ≠ g' := fun e => by
  subst e
  unfold Blk at h k
  rw [h] at k
  injection k with k
  injection k with _ k _
  exact ht k
/-- a heuristic as the search sees it: its function's value, what it keeps in memory, its map's block -/
structure HeuC (xb tb kb hb Bh b0 : Nat) (hv : Nat → Int) (L : List Nat) (HC : World → Prop) : Prop where
  call : ∀ W s, s ∈ L → HC W → Calls Tryz.prog 68 #[.int .u32 s, .pointer (some ⟨xb, 0, none⟩), .pointer (some ⟨tb, 0, none⟩), .pointer (some ⟨kb, 0, none⟩)] W (fun e W' => e = .returned (.int .i64 (hv s)) ∧ HC W' ∧ Chg (fun b => b = hb) W W')
  chg : ∀ W W', HC W → Chg (fun b => Bh ≤ b) W W' → HC W'
  low : b0 ≤ hb
  high : hb < Bh
/-- the search's memory -/
structure AmS (w0 W : World) (Fn : Value) (HC : World → Prop) (hb Bh Fb Pb Ab Qb pm am em Q mb : Nat) (QA : Option Addr) (qn qc : Nat) (qes : List En) (tm : Int) (pr : Nat → Option Int) (pa : Nat → Option (Nat × Nat)) (D E : List Nat) : Prop where
  low : Below w0.heap.size w0 W
  size : Bh ≤ W.heap.size
  hc : HC W
  fbx : Blk 80 W Fb [Fn]
  pbx : Blk 123 W Pb [.map (some pm)]
  abx : Blk 108 W Ab [.map (some am)]
  qbx : Blk 124 W Qb [.pointer (some ⟨Q, 0, none⟩)]
  pmap : MapV Tryz.prog 69 encW W pm D.length (fun s => (pr s).map (Value.int .i64))
  amap : MapV Tryz.prog 69 encW W am D.length (fun s => (pa s).map backV)
  emap : MapV Tryz.prog 69 encW W em E.length (fun s => if s ∈ E then some (.agg #[]) else none)
  q : QueueS Bh W Q mb QA qn qc qes tm
  base : Bh ≤ Fb ∧ Bh ≤ Pb ∧ Bh ≤ Ab ∧ Bh ≤ Qb ∧ Bh ≤ pm ∧ Bh ≤ am ∧ Bh ≤ em
  ne : pm ≠ am ∧ pm ≠ em ∧ am ≠ em
  sq : ∀ b, QueueM Q mb QA qes b → Bh ≤ b ∧ b ≠ Fb ∧ b ≠ Pb ∧ b ≠ Ab ∧ b ≠ Qb ∧ b ≠ pm ∧ b ≠ am ∧ b ≠ em
  hbs : w0.heap.size ≤ hb ∧ hb < Bh
section
variable {w0 W W' : World} {Fn : Value} {HC : World → Prop} {hb Bh Fb Pb Ab Qb pm am em Q mb : Nat} {QA : Option Addr} {qn qc : Nat} {qes : List En} {tm : Int} {pr : Nat → Option Int} {pa : Nat → Option (Nat × Nat)} {D E : List Nat} {xb tb kb : Nat} {hv : Nat → Int} {L : List Nat}
theorem AmS.keep (h : AmS w0 W Fn HC hb Bh Fb Pb Ab Qb pm am em Q mb QA qn qc qes tm pr pa D E) (H : HeuC xb tb kb hb Bh w0.heap.size hv L HC) (hk : Below W.heap.size W W') : AmS w0 W' Fn HC hb Bh Fb Pb Ab Qb pm am em Q mb QA qn qc qes tm pr pa D E :=
  ⟨h.low.trans (hk.mono h.low.size), Nat.le_trans h.size hk.size, H.chg W W' h.hc (Chg.of_below hk _), h.fbx.keep hk, h.pbx.keep hk, h.abx.keep hk, h.qbx.keep hk, h.pmap.keep hk, h.amap.keep hk, h.emap.keep hk, h.q.keep hk, h.base, h.ne, h.sq, h.hbs⟩
/-- a record of a loop has turned -/
theorem AmS.turn {row : Option Nat} {BL : Nat} (h : AmS w0 W Fn HC hb Bh Fb Pb Ab Qb pm am em Q mb QA qn qc qes tm pr pa D E) (H : HeuC xb tb kb hb Bh w0.heap.size hv L HC) (hg : W.grownBy W' row) (hr : ∀ r, row = some r → BL ≤ r ∧ ∃ o : Obj, W.heap[r]? = some o ∧ o.isCells = false) (hB : Bh ≤ BL) (h1 : mb < BL) (h2 : pm < BL) (h3 : am < BL) (h4 : em < BL) : AmS w0 W' Fn HC hb Bh Fb Pb Ab Qb pm am em Q mb QA qn qc qes tm pr pa D E := by
  have hc := Chg.of_grown hg
  have hx := h.hbs
  have mk : ∀ b, b < BL → row ≠ some b := fun b hb e => by have := (hr b e).1; omega
  refine ⟨h.low.grown hg h.low.size (fun k e => by have := (hr k e).1; omega), Nat.le_trans h.size hg.size, H.chg W W' h.hc (hc.mono fun b e => by have := (hr b e).1; omega), h.fbx.grown hg (turn_ne hr h.fbx.cells), h.pbx.grown hg (turn_ne hr h.pbx.cells), h.abx.grown hg (turn_ne hr h.abx.cells), h.qbx.grown hg (turn_ne hr h.qbx.cells),
    h.pmap.of_block (hg.block pm h.pmap.lt (fun e => mk pm h2 e.symm)), h.amap.of_block (hg.block am h.amap.lt (fun e => mk am h3 e.symm)), h.emap.of_block (hg.block em h.emap.lt (fun e => mk em h4 e.symm)), h.q.chg hc (fun b hb e => ?_), h.base, h.ne, h.sq, h.hbs⟩
  by_cases e2 : b = mb
  · subst e2; exact mk b h1 e
  · exact turn_ne hr (h.q.cellsA hb e2) e.symm
/-- the heuristic has been asked -/
theorem AmS.heur (h : AmS w0 W Fn HC hb Bh Fb Pb Ab Qb pm am em Q mb QA qn qc qes tm pr pa D E) (hh : HC W') (hc : Chg (fun b => b = hb) W W') : AmS w0 W' Fn HC hb Bh Fb Pb Ab Qb pm am em Q mb QA qn qc qes tm pr pa D E := by
  have hx := h.hbs
  have hy := h.base
  have hz := h.low.size
  refine ⟨h.low.trans (hc.below (fun i e => by omega) hz), Nat.le_trans h.size hc.size, hh, hc.blk h.fbx (by omega), hc.blk h.pbx (by omega), hc.blk h.abx (by omega), hc.blk h.qbx (by omega), h.pmap.chg hc (by omega), h.amap.chg hc (by omega), h.emap.chg hc (by omega), h.q.chg hc (fun b hb e => by have := (h.sq b hb).1; omega), h.base, h.ne, h.sq, h.hbs⟩
/-- the queue after a call of its own -/
theorem AmS.setQ {QA' : Option Addr} {qn' qc' : Nat} {qes' : List En} {tm' : Int} (h : AmS w0 W Fn HC hb Bh Fb Pb Ab Qb pm am em Q mb QA qn qc qes tm pr pa D E) (H : HeuC xb tb kb hb Bh w0.heap.size hv L HC) (hq : QueueS Bh W' Q mb QA' qn' qc' qes' tm') (hc : Chg (QueueM Q mb QA qes) W W') (hM : ∀ b, QueueM Q mb QA' qes' b → QueueM Q mb QA qes b ∨ W.heap.size ≤ b) : AmS w0 W' Fn HC hb Bh Fb Pb Ab Qb pm am em Q mb QA' qn' qc' qes' tm' pr pa D E := by
  have hx := h.hbs
  have hz := h.low.size
  have l1 := h.fbx.lt
  have l2 := h.pbx.lt
  have l3 := h.abx.lt
  have l4 := h.qbx.lt
  have l5 := h.pmap.lt
  have l6 := h.amap.lt
  have l7 := h.emap.lt
  refine ⟨h.low.trans (hc.below (fun i e => by have := (h.sq i e).1; omega) hz), Nat.le_trans h.size hc.size, H.chg W W' h.hc (hc.mono fun b e => (h.sq b e).1), hc.blk h.fbx (fun e => (h.sq _ e).2.1 rfl), hc.blk h.pbx (fun e => (h.sq _ e).2.2.1 rfl), hc.blk h.abx (fun e => (h.sq _ e).2.2.2.1 rfl), hc.blk h.qbx (fun e => (h.sq _ e).2.2.2.2.1 rfl), h.pmap.chg hc (fun e => (h.sq _ e).2.2.2.2.2.1 rfl), h.amap.chg hc (fun e => (h.sq _ e).2.2.2.2.2.2.1 rfl), h.emap.chg hc (fun e => (h.sq _ e).2.2.2.2.2.2.2 rfl), hq, h.base, h.ne, fun b hb => ?_, h.hbs⟩
  rcases hM b hb with e | e
  · exact h.sq b e
  · have := h.size
    refine ⟨by omega, by omega, by omega, by omega, by omega, by omega, by omega, by omega⟩
/-- a map of the call's own has changed: all but the map -/
theorem AmS.own1 {m : Nat} (h : AmS w0 W Fn HC hb Bh Fb Pb Ab Qb pm am em Q mb QA qn qc qes tm pr pa D E) (H : HeuC xb tb kb hb Bh w0.heap.size hv L HC) (hm : Bh ≤ m) (hmm : ∃ es cl, W.heap[m]? = some (.map es cl)) (hq : ¬ QueueM Q mb QA qes m) (hg : W.grownBy W' (some m))
    (h1 : MapV Tryz.prog 69 encW W' pm D.length (fun s => (pr s).map (Value.int .i64)) ∨ m = pm) (h2 : m ≠ am) (h3 : m ≠ em) : Below w0.heap.size w0 W' ∧ Bh ≤ W'.heap.size ∧ HC W' ∧ Blk 80 W' Fb [Fn] ∧ Blk 123 W' Pb [.map (some pm)] ∧ Blk 108 W' Ab [.map (some am)] ∧ Blk 124 W' Qb [.pointer (some ⟨Q, 0, none⟩)] ∧ MapV Tryz.prog 69 encW W' am D.length (fun s => (pa s).map backV) ∧ MapV Tryz.prog 69 encW W' em E.length (fun s => if s ∈ E then some (.agg #[]) else none) ∧ QueueS Bh W' Q mb QA qn qc qes tm := by
  have hc : Chg (fun b => b = m) W W' := (Chg.of_grown hg).mono fun b e => by injection e with e; exact e.symm
  have hx := h.hbs
  have hz := h.low.size
  obtain ⟨es, cl, hmap⟩ := hmm
  have nb : ∀ {t : TypeId} {g : Nat} {cs : List Value}, Blk t W g cs → ¬ g = m := fun hb e => by
    subst e
    unfold Blk at hb
    rw [hmap] at hb
    cases hb
  exact ⟨h.low.trans (hc.below (fun i e => by omega) hz), Nat.le_trans h.size hc.size, H.chg W W' h.hc (hc.mono fun b e => by omega), hc.blk h.fbx (nb h.fbx), hc.blk h.pbx (nb h.pbx), hc.blk h.abx (nb h.abx), hc.blk h.qbx (nb h.qbx), h.amap.chg hc (fun e => h2 e.symm), h.emap.chg hc (fun e => h3 e.symm), h.q.chg hc (fun b hb e => hq (e ▸ hb))⟩
theorem chg_map {m : Nat} (hg : W.grownBy W' (some m)) : Chg (fun b => b = m) W W' := (Chg.of_grown hg).mono fun b e => by injection e with e; exact e.symm
theorem put_len {M : Nat → Option Value} {D : List Nat} (hD : ∀ s, s ∈ D ↔ (M s).isSome = true) (t : Nat) : (if (M t).isSome = true then D.length else D.length + 1) = (if t ∈ D then D else D ++ [t]).length := by
  by_cases h : t ∈ D
  · rw [if_pos ((hD t).1 h), if_pos h]
  · rw [if_neg (fun e => h ((hD t).2 e)), if_neg h]; simp
/-- a price and a parent set, one behind the other -/
theorem AmS.put2 (h : AmS w0 W Fn HC hb Bh Fb Pb Ab Qb pm am em Q mb QA qn qc qes tm pr pa D E) (H : HeuC xb tb kb hb Bh w0.heap.size hv L HC) {t : Nat} (ht : t < 4294967296) (hDl : D.length < 1000000000000) (v : Int) (bk : Nat × Nat) (hd1 : ∀ s, s ∈ D ↔ (pr s).isSome = true) (hd2 : ∀ s, (pa s).isSome = (pr s).isSome) :
    ∃ W1 W2, (Instr.mapUpdate 123 (.map (some pm)) (.int .u32 t) (.int .i64 v)).run Tryz.prog W = .ok () W1 ∧ (Instr.mapUpdate 108 (.map (some am)) (.int .u32 t) (backV bk)).run Tryz.prog W1 = .ok () W2 ∧ W.grownBy W1 (some pm) ∧ W1.grownBy W2 (some am) ∧ W1.heap.size = W.heap.size ∧ W2.heap.size = W.heap.size ∧
      AmS w0 W2 Fn HC hb Bh Fb Pb Ab Qb pm am em Q mb QA qn qc qes tm (fun s => if s = t then some v else pr s) (fun s => if s = t then some bk else pa s) (if t ∈ D then D else D ++ [t]) E := by
  obtain ⟨W1, hp1, hm1, hg1, hz1⟩ := h.pmap.put encW_inj (int_keyed Tryz.underlying69) (T := 123) (E := 3) Tryz.underlying123 hDl (key := t) (keyW Tryz.underlying69 ht) (.int .i64 v)
  have hn := h.ne
  have hy := h.base
  have nq1 : ¬ QueueM Q mb QA qes pm := fun e => (h.sq _ e).2.2.2.2.2.1 rfl
  have nq2 : ¬ QueueM Q mb QA qes am := fun e => (h.sq _ e).2.2.2.2.2.2.1 rfl
  obtain ⟨a1, a2, a3, a4, a5, a6, a7, a8, a9, a10⟩ := h.own1 H hy.2.2.2.2.1 h.pmap.isMap nq1 hg1 (.inr rfl) hn.1 hn.2.1
  obtain ⟨W2, hp2, hm2, hg2, hz2⟩ := a8.put encW_inj (int_keyed Tryz.underlying69) (T := 108) (E := 107) Tryz.underlying108 hDl (key := t) (keyW Tryz.underlying69 ht) (backV bk)
  have c2 := chg_map hg2
  have hx := h.hbs
  have nb : ∀ {ty : TypeId} {g : Nat} {cs : List Value}, Blk ty W1 g cs → ¬ g = am := fun hb e => a8.ne hb e.symm
  have l1 : (if ((pr t).map (Value.int .i64)).isSome = true then D.length else D.length + 1) = (if t ∈ D then D else D ++ [t]).length := put_len (M := fun s => (pr s).map (Value.int .i64)) (fun s => by rw [hd1]; simp) t
  have l2 : (if ((pa t).map backV).isSome = true then D.length else D.length + 1) = (if t ∈ D then D else D ++ [t]).length := put_len (M := fun s => (pa s).map backV) (fun s => by rw [hd1, ← hd2]; simp) t
  rw [l1] at hm1
  rw [l2] at hm2
  have hz := h.low.size
  refine ⟨W1, W2, hp1, hp2, hg1, hg2, hz1, hz2.trans hz1, a1.trans (c2.below (fun i e => by omega) (by omega)), by omega, H.chg W1 W2 a3 (c2.mono fun b e => by omega), c2.blk a4 (nb a4), c2.blk a5 (nb a5), c2.blk a6 (nb a6), c2.blk a7 (nb a7), (hm1.chg c2 (fun e => hn.1 e)).ext fun s => ?_, hm2.ext fun s => ?_, a9.chg c2 (fun e => hn.2.2 e.symm), a10.chg c2 (fun b hb e => nq2 (e ▸ hb)), h.base, h.ne, h.sq, h.hbs⟩
  · unfold putV
    split <;> simp_all
  · unfold putV
    split <;> simp_all
/-- a state is marked as expanded -/
theorem AmS.putE (h : AmS w0 W Fn HC hb Bh Fb Pb Ab Qb pm am em Q mb QA qn qc qes tm pr pa D E) (H : HeuC xb tb kb hb Bh w0.heap.size hv L HC) {t : Nat} (ht : t < 4294967296) (hEl : E.length < 1000000000000) :
    ∃ W1, (Instr.mapUpdate 127 (.map (some em)) (.int .u32 t) (.agg #[])).run Tryz.prog W = .ok () W1 ∧ W.grownBy W1 (some em) ∧ W1.heap.size = W.heap.size ∧
      AmS w0 W1 Fn HC hb Bh Fb Pb Ab Qb pm am em Q mb QA qn qc qes tm pr pa D (if t ∈ E then E else E ++ [t]) := by
  obtain ⟨W1, hp1, hm1, hg1, hz1⟩ := h.emap.put encW_inj (int_keyed Tryz.underlying69) (T := 127) (E := 130) Tryz.underlying127 hEl (key := t) (keyW Tryz.underlying69 ht) (.agg #[])
  have hn := h.ne
  have hy := h.base
  have hx := h.hbs
  have hz := h.low.size
  have c2 := chg_map hg1
  have nq : ¬ QueueM Q mb QA qes em := fun e => (h.sq _ e).2.2.2.2.2.2.2 rfl
  have nb : ∀ {ty : TypeId} {g : Nat} {cs : List Value}, Blk ty W g cs → ¬ g = em := fun hb e => h.emap.ne hb e.symm
  have l1 : (if (if t ∈ E then some (Value.agg #[]) else none).isSome = true then E.length else E.length + 1) = (if t ∈ E then E else E ++ [t]).length := put_len (M := fun s => if s ∈ E then some (Value.agg #[]) else none) (fun s => by by_cases e : s ∈ E <;> simp [e]) t
  rw [l1] at hm1
  refine ⟨W1, hp1, hg1, hz1, h.low.trans (c2.below (fun i e => by omega) hz), by rw [hz1]; exact h.size, H.chg W W1 h.hc (c2.mono fun b e => by omega), c2.blk h.fbx (nb h.fbx), c2.blk h.pbx (nb h.pbx), c2.blk h.abx (nb h.abx), c2.blk h.qbx (nb h.qbx), h.pmap.chg c2 (fun e => hn.2.1 e), h.amap.chg c2 (fun e => hn.2.2 e), hm1.ext fun s => ?_, h.q.chg c2 (fun b hb e => nq (e ▸ hb)), h.base, h.ne, h.sq, h.hbs⟩
  unfold putV
  by_cases e : s = t
  · subst e
    by_cases e2 : s ∈ E <;> simp [e2]
  · rw [if_neg e]
    by_cases e2 : t ∈ E <;> by_cases e3 : s ∈ E <;> simp [e, e2, e3]
end
end Go.Proofs.YtemiecammmbjdaaGreat
