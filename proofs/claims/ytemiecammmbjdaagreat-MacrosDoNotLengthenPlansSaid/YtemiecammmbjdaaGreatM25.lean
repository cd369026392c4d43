/- What the law asks for, part 25: Ol7 Ol8 Ol9. -/
import Derived.Test.YtemiecammmbjdaaGreatM1
import Derived.Test.YtemiecammmbjdaaGreatM2
import Derived.Test.YtemiecammmbjdaaGreatM3
import Derived.Test.YtemiecammmbjdaaGreatM10
import Derived.Test.YtemiecammmbjdaaGreatM11
import Derived.Test.YtemiecammmbjdaaGreatM12
import Derived.Test.YtemiecammmbjdaaGreatM13
import Derived.Test.YtemiecammmbjdaaGreatM14
import Derived.Test.YtemiecammmbjdaaGreatM22
import Derived.Test.YtemiecammmbjdaaGreatM23
import Derived.Test.YtemiecammmbjdaaGreatM24
import Derived.BigQuiet
import Derived.BigRegion
import Derived.Deep.AppendLies
import Derived.Deep.DeepCutAuto
import Derived.Deep.Draws
import Derived.Deep.Fields
import Derived.Deep.LoopGhost
import Derived.Deep.QuietTactic
import Derived.Deep.Slices
import Derived.DeepKeys4
import Derived.Laws.AppendOwnNone
import Derived.Laws.BitsAllLaws
import Derived.Laws.EntriesVeiled
import Derived.Laws.OwnMore
import Derived.Lib.Hide
import Derived.Lib.SlicesCompact
import Derived.LoopIn
import Derived.LoopNIn
import Derived.Maps.AppendAt
import Derived.Maps.OwnIn
import Derived.Maps.OwnOps
import Derived.Maps.OwnSet
import Derived.OwnWalkIn
import Derived.RangeFuncBound
import Derived.RangeFuncCalls
import Derived.RangeFuncLeaves
import Derived.RangeFuncNested
import Derived.Shelf.Abstract
import Derived.Shelf.RegionOpen
import Derived.StillTailTactics
import Derived.TacticsInMore
import Derived.Test.YtemiecammmbjdaaGreatProg
import Derived.WalkKit
namespace Go.Proofs.YtemiecammmbjdaaGreat
set_option linter.unusedVariables false
set_option linter.unusedSimpArgs false
open Go.RowKit Go.Maps
/-- the entry of an item, as the map holds it -/
def findE (es : List En) (x : Nat) : Option Value := (es.find? (fun e => decide (e.item = x))).map En.ptr
/-- the key of an item -/
def keyE (es : List En) (x : Nat) : Option Int := (es.find? (fun e => decide (e.item = x))).map En.key
theorem find_item {es : List En} (hn : (es.map En.item).Nodup) {e : En} (he : e ∈ es) : es.find? (fun y => decide (y.item = e.item)) = some e := by
  induction es with
  | nil => cases he
  | cons y ys ih =>
    rw [List.map_cons, List.nodup_cons] at hn
    rw [List.find?_cons]
    rcases List.mem_cons.1 he with rfl | he
    · simp
    · have : y.item ≠ e.item := fun e2 => hn.1 (by rw [e2]; exact List.mem_map_of_mem he)
      simp only [this, decide_false]
      exact ih hn.2 he
theorem find_none {es : List En} {x : Nat} (h : ∀ e ∈ es, e.item ≠ x) : es.find? (fun y => decide (y.item = x)) = none := by
  rw [List.find?_eq_none]
  intro e he
  simpa using h e he
theorem find_perm {es es' : List En} (hp : es'.Perm es) (hn : (es.map En.item).Nodup) (x : Nat) : es'.find? (fun y => decide (y.item = x)) = es.find? (fun y => decide (y.item = x)) := by
  have hn' : (es'.map En.item).Nodup := (hp.map _).nodup_iff.2 hn
  by_cases h : ∃ e ∈ es, e.item = x
  · obtain ⟨e, he, rfl⟩ := h
    rw [find_item hn he, find_item hn' (hp.mem_iff.2 he)]
  · have h2 : ∀ e ∈ es, e.item ≠ x := fun e he e2 => h ⟨e, he, e2⟩
    rw [find_none h2, find_none (fun e he => h2 e (hp.mem_iff.1 he))]
theorem find_app {es : List En} {e : En} (hn : ∀ y ∈ es, y.item ≠ e.item) (x : Nat) : (es ++ [e]).find? (fun y => decide (y.item = x)) = if x = e.item then some e else es.find? (fun y => decide (y.item = x)) := by
  rw [List.find?_append]
  split
  · rename_i h
    subst h
    rw [find_none hn]
    simp
  · rename_i h
    have : ¬ e.item = x := fun e2 => h e2.symm
    simp [this]
theorem find_set {es : List En} (hn : (es.map En.item).Nodup) {i : Nat} {a b : En} (ha : es[i]? = some a) (hb : b.item = a.item) (x : Nat) : (es.set i b).find? (fun y => decide (y.item = x)) = if x = a.item then some b else es.find? (fun y => decide (y.item = x)) := by
  obtain ⟨hi, hia⟩ := List.getElem?_eq_some_iff.1 ha
  have hm : (es.set i b).map En.item = es.map En.item := by
    rw [List.map_set, hb]
    apply List.ext_getElem?
    intro j
    rw [List.getElem?_set]
    split
    · rename_i e; subst e
      rw [if_pos (by simpa using hi), List.getElem?_map, ha]; rfl
    · rfl
  have hn' : ((es.set i b).map En.item).Nodup := by rw [hm]; exact hn
  split
  · rename_i h
    subst h
    have := find_item hn' (e := b) (List.mem_of_getElem? (by rw [List.getElem?_set_self hi] : (es.set i b)[i]? = some b))
    rwa [hb] at this
  · rename_i h
    by_cases hx : ∃ e ∈ es, e.item = x
    · obtain ⟨e, he, rfl⟩ := hx
      obtain ⟨j, hj⟩ := List.getElem?_of_mem he
      have hij : i ≠ j := fun e2 => by subst e2; exact h (by rw [Option.some.inj (ha.symm.trans hj)])
      have : e ∈ es.set i b := List.mem_of_getElem? (by rw [List.getElem?_set_ne hij]; exact hj)
      rw [find_item hn he, find_item hn' this]
    · have h2 : ∀ e ∈ es, e.item ≠ x := fun e he e2 => hx ⟨e, he, e2⟩
      rw [find_none h2]
      refine find_none fun e he e2 => ?_
      have : e.item ∈ es.map En.item := by rw [← hm]; exact List.mem_map_of_mem he
      obtain ⟨y, hy, hye⟩ := List.mem_map.1 this
      exact h2 y hy (hye.trans e2)
/-- the queue behind Q: its heap, the map of its entries, its time -/
structure QueueS (B : Nat) (w : World) (Q mb : Nat) (A : Option Addr) (n c : Nat) (es : List En) (tm : Int) : Prop where
  heap : HeapS B w Q A n c es
  blk : Blk 162 w Q [.slice A n c, .map (some mb), .int .i64 tm]
  map : MapV Tryz.prog 69 encW w mb n (findE es)
  nodup : (es.map En.item).Nodup
  m2 : blkA A ≠ some mb
  time : -9223372036854775808 ≤ tm ∧ tm ≤ 9223372036854775807
  ord : HO n es
/-- the blocks of a queue -/
def QueueM (Q mb : Nat) (A : Option Addr) (es : List En) (b : Nat) : Prop := b = Q ∨ b = mb ∨ HeapM A es b
section
variable {B n c Q mb : Nat} {w w' : World} {A : Option Addr} {es : List En} {tm : Int}
theorem QueueS.m1 (h : QueueS B w Q mb A n c es tm) : mb ≠ Q := h.map.ne h.blk
theorem QueueS.m3 (h : QueueS B w Q mb A n c es tm) {e : En} (he : e ∈ es) : mb ≠ e.blk := by
  obtain ⟨i, hi⟩ := List.getElem?_of_mem he
  exact h.map.ne (h.heap.ent i e hi)
theorem QueueS.chg {M : Nat → Prop} (h : QueueS B w Q mb A n c es tm) (hc : Chg M w w') (hM : ∀ b, QueueM Q mb A es b → ¬ M b) : QueueS B w' Q mb A n c es tm :=
  ⟨h.heap.chg hc (hM _ (.inl rfl)) (fun b hb => hM b (.inr (.inr hb))), hc.blk h.blk (hM _ (.inl rfl)), h.map.chg hc (hM _ (.inr (.inl rfl))), h.nodup, h.m2, h.time, h.ord⟩
theorem QueueS.keep (h : QueueS B w Q mb A n c es tm) (hb : Below w.heap.size w w') : QueueS B w' Q mb A n c es tm := h.chg (Chg.of_below hb (fun _ => False)) (fun _ _ e => e)
end
set_option maxHeartbeats 1600000 in
theorem QLen_ct (B Q mb : Nat) (A : Option Addr) (n c : Nat) (es : List En) (tm : Int) (w : World) (h : QueueS B w Q mb A n c es tm) : Calls Tryz.prog 65 #[.pointer (some ⟨Q, 0, none⟩)] w (Same w (.int .i64 n)) := by
  have c0 := h.blk.cell 0
  have hq := h.blk.lt
  simp only [List.getElem?_cons_zero] at c0
  clear h
  go_enter Tryz.func65, Tryz.ntmps65
  go_wp2
  go_ret
  exact ⟨rfl, rfl⟩
theorem zeroEP (w : World) : (zeroValue 163).run Tryz.prog w = .ok (.pointer none) w := by kernel_rfl
theorem wrap64_range (t : Int) : -9223372036854775808 ≤ wrap64 t ∧ wrap64 t ≤ 9223372036854775807 := by unfold wrap64; omega
section
variable {B n c Q mb : Nat} {w w' : World} {A : Option Addr} {es : List En} {tm : Int}
/-- the time goes on -/
theorem QueueS.tick (h : QueueS B w Q mb A n c es tm) (t : Int) (ht : -9223372036854775808 ≤ t ∧ t ≤ 9223372036854775807) : QueueS B (w.setCell ⟨Q, 2, none⟩ (.int .i64 t)) Q mb A n c es t := by
  have hb := h.blk.set 2 (.int .i64 t)
  have hc := Chg.set w Q 2 (.int .i64 t)
  have hb0 := hb.cell 0
  have hf0 := hb.frozen 0
  simp only [List.set_cons_zero, List.set_cons_succ, List.getElem?_cons_zero] at hb0 hf0
  exact ⟨⟨hb0, hf0, hc.own h.heap.own (fun r hr e => h.heap.q1 (by rw [← e]; rw [own_blkA] at hr; exact hr)), h.heap.len, fun i e he => hc.blk (h.heap.ent i e he) (h.heap.q2 e (List.mem_of_getElem? he)), h.heap.once, h.heap.apart, h.heap.q1, h.heap.q2, h.heap.small, h.heap.few⟩, hb, h.map.chg hc h.m1, h.nodup, h.m2, ht, h.ord⟩
/-- the entry of an item that the map knows -/
theorem QueueS.known (h : QueueS B w Q mb A n c es tm) {x : Nat} {v : Value} (hv : findE es x = some v) : ∃ (i : Nat) (e : En), es[i]? = some e ∧ e.item = x ∧ v = e.ptr := by
  unfold findE at hv
  cases hf : es.find? (fun e => decide (e.item = x)) with
  | none => rw [hf] at hv; cases hv
  | some e =>
    rw [hf] at hv
    obtain ⟨i, hi⟩ := List.getElem?_of_mem (List.mem_of_find?_eq_some hf)
    exact ⟨i, e, hi, by simpa using List.find?_some hf, (Option.some.inj hv).symm⟩
theorem unknown {x : Nat} (hv : findE es x = none) : ∀ e ∈ es, e.item ≠ x := by
  unfold findE at hv
  rw [Option.map_eq_none_iff, List.find?_eq_none] at hv
  intro e he
  simpa using hv e he
/-- the entry with another key and time -/
def En.now (e : En) (k t : Int) : En := ⟨e.blk, e.item, k, t⟩
/-- the stores of another key and time -/
def nowW (w : World) (e : En) (k t : Int) : World := (w.setCell ⟨e.blk, 1, none⟩ (.int .i64 k)).setCell ⟨e.blk, 2, none⟩ (.int .i64 t)
theorem now_chg (w : World) (e : En) (k t : Int) (he : e ∈ es) : Chg (HeapM A es) w (nowW w e k t) :=
  ((Chg.set w e.blk 1 _).mono fun b e2 => (.inr ⟨e, he, e2.symm⟩ : HeapM A es b)).trans ((Chg.set _ e.blk 2 _).mono fun b e2 => .inr ⟨e, he, e2.symm⟩)
theorem HeapS.now (h : HeapS B w Q A n c es) {i : Nat} {e : En} (he : es[i]? = some e) {k t : Int} (hk : -9223372036854775808 ≤ k ∧ k ≤ 9223372036854775807) (ht : -9223372036854775808 ≤ t ∧ t ≤ 9223372036854775807) : HeapS B (nowW w e k t) Q A n c (es.set i (e.now k t)) := by
  obtain ⟨hi, hie⟩ := List.getElem?_eq_some_iff.1 he
  have hm := List.mem_of_getElem? he
  have hblk : (es.set i (e.now k t)).map En.blk = es.map En.blk := by
    rw [List.map_set]
    apply List.ext_getElem?
    intro j
    rw [List.getElem?_set]
    split
    · rename_i e2; subst e2
      rw [if_pos (by simpa using hi), List.getElem?_map, he]; rfl
    · rfl
  have hptr : (es.set i (e.now k t)).map En.ptr = es.map En.ptr := by
    rw [List.map_set]
    apply List.ext_getElem?
    intro j
    rw [List.getElem?_set]
    split
    · rename_i e2; subst e2
      rw [if_pos (by simpa using hi), List.getElem?_map, he]; rfl
    · rfl
  have mem : ∀ y ∈ es.set i (e.now k t), ∃ z ∈ es, z.blk = y.blk := fun y hy => by
    have : y.blk ∈ es.map En.blk := by rw [← hblk]; exact List.mem_map_of_mem hy
    obtain ⟨z, hz, e2⟩ := List.mem_map.1 this
    exact ⟨z, hz, e2⟩
  have hc1 := Chg.set w e.blk 1 (.int .i64 k)
  have hc2 := Chg.set (w.setCell ⟨e.blk, 1, none⟩ (.int .i64 k)) e.blk 2 (.int .i64 t)
  have hce : Chg (fun b => b = e.blk) w (nowW w e k t) := hc1.trans hc2
  have hQ : (nowW w e k t).heap[Q]? = w.heap[Q]? := hce.block Q (World.block_lt_of_cell? w _ h.hd) (fun e2 => h.q2 e hm e2.symm)
  refine ⟨by rw [← h.hd]; unfold World.cell?; rw [hQ], by rw [← h.fz]; unfold World.frozen?; rw [hQ], ?_, by rw [List.length_set]; exact h.len, fun j y hj => ?_, by rw [hblk]; exact h.once, fun y hy => ?_, h.q1, fun y hy => ?_, fun y hy => ?_, h.few⟩
  · rw [hptr]
    exact hce.own h.own (fun r hr e2 => h.apart e hm (by rw [own_blkA] at hr; rw [hr, e2]))
  · by_cases hij : i = j
    · subst hij
      rw [List.getElem?_set_self hi] at hj
      obtain rfl := Option.some.inj hj
      exact ((h.ent i e he).set 1 (.int .i64 k)).set 2 (.int .i64 t)
    · rw [List.getElem?_set_ne hij] at hj
      have hne : y.blk ≠ e.blk := fun e2 => blk_ne h.once he hj hij e2.symm
      exact hce.blk (h.ent j y hj) hne
  · obtain ⟨z, hz, e2⟩ := mem y hy
    rw [← e2]
    exact h.apart z hz
  · obtain ⟨z, hz, e2⟩ := mem y hy
    rw [← e2]
    exact h.q2 z hz
  · rcases List.mem_or_eq_of_mem_set hy with hy | rfl
    · exact h.small y hy
    · exact ⟨(h.small e hm).1, hk.1, hk.2, ht.1, ht.2⟩
end
def QSetP (B Q mb : Nat) (A : Option Addr) (es : List En) (x : Nat) (k : Int) (w : World) (e : Ending) (w' : World) : Prop := e = .returned (.tuple #[]) ∧ ∃ A' n' c' es' tm', QueueS B w' Q mb A' n' c' es' tm' ∧ Chg (QueueM Q mb A es) w w' ∧ (∀ b, QueueM Q mb A' es' b → QueueM Q mb A es b ∨ w.heap.size ≤ b) ∧ (∀ y, keyE es' y = if y = x then some k else keyE es y)
/-- an item's key set anew: what the walk has to show -/
theorem QueueS.reset {B n c Q mb i : Nat} {w w3 : World} {A : Option Addr} {es es3 : List En} {tm k : Int} {e : En} (h : QueueS B w Q mb A n c es tm) (he : es[i]? = some e) (hk : -9223372036854775808 ≤ k ∧ k ≤ 9223372036854775807) (hp : es3.Perm (es.set i (e.now k tm))) (hs : HeapS B w3 Q A n c es3) (hc : Chg (HeapM A (es.set i (e.now k tm))) (nowW w e k tm) w3) (ho : DownW n (es.set i (e.now k tm)) i → HO n es3) {w0 : World} (h0 : Chg (fun b => b = Q) w0 w) : QSetP B Q mb A es e.item k w0 (.returned (.tuple #[])) w3 := by
  have hm := List.mem_of_getElem? he
  obtain ⟨hi, _⟩ := List.getElem?_eq_some_iff.1 he
  have hset : ∀ b, HeapM A (es.set i (e.now k tm)) b → HeapM A es b := by
    rintro b (e2 | ⟨y, hy, e2⟩)
    · exact .inl e2
    · rcases List.mem_or_eq_of_mem_set hy with hy | rfl
      · exact .inr ⟨y, hy, e2⟩
      · exact .inr ⟨e, hm, e2⟩
  have hch : Chg (HeapM A es) w w3 := (now_chg w e k tm hm).trans (hc.mono hset)
  have hmb : ¬ HeapM A es mb := by
    rintro (e2 | ⟨y, hy, e2⟩)
    · exact h.m2 e2
    · exact h.m3 hy e2.symm
  have hQ : ¬ HeapM A es Q := by
    rintro (e2 | ⟨y, hy, e2⟩)
    · exact h.heap.q1 e2
    · exact h.heap.q2 y hy e2
  have hitem : (es.set i (e.now k tm)).map En.item = es.map En.item := by
    rw [List.map_set]
    apply List.ext_getElem?
    intro j
    rw [List.getElem?_set]
    split
    · rename_i e2; subst e2
      rw [if_pos (by simpa using hi), List.getElem?_map, he]; rfl
    · rfl
  have hnd : ((es.set i (e.now k tm)).map En.item).Nodup := by rw [hitem]; exact h.nodup
  have hfind : ∀ y, es3.find? (fun z => decide (z.item = y)) = if y = e.item then some (e.now k tm) else es.find? (fun z => decide (z.item = y)) := fun y => by
    rw [find_perm hp hnd]
    exact find_set (b := e.now k tm) h.nodup he rfl y
  refine ⟨rfl, A, n, c, es3, tm, ⟨hs, hch.blk h.blk hQ, (h.map.chg hch hmb).ext fun y => ?_, (hp.map _).nodup_iff.2 hnd, h.m2, h.time, ho (h.ord.reset (by rw [h.heap.len]; exact Nat.le_refl _) i (by have := h.heap.len; omega) _)⟩, (h0.mono fun b e2 => (.inl e2 : QueueM Q mb A es b)).trans (hch.mono fun b e2 => .inr (.inr e2)), fun b hb => .inl ?_, fun y => ?_⟩
  · unfold findE
    rw [hfind]
    split
    · rename_i e2; subst e2
      rw [find_item h.nodup hm]
      rfl
    · rfl
  · rcases hb with e2 | e2 | e2
    · exact .inl e2
    · exact .inr (.inl e2)
    · exact .inr (.inr (hset b ((heapM_perm hp b).1 e2)))
  · unfold keyE
    rw [hfind]
    split
    · rfl
    · rfl
/-- an item more: what the walk has to show -/
theorem QueueS.more {B n c c3 Q mb : Nat} {w w2 w3 : World} {A A3 : Option Addr} {es es3 : List En} {tm k : Int} {x : Nat} (h : QueueS B w Q mb A n c es tm) (hx : findE es x = none) (hk : -9223372036854775808 ≤ k ∧ k ≤ 9223372036854775807) (hx32 : x < 4294967296)
    (hmap : MapV Tryz.prog 69 encW w2 mb (n + 1) (putV (findE es) x (.pointer (some ⟨w.heap.size, 0, none⟩)))) (hc2 : Chg (fun b => b = mb) w w2) (hz2 : w2.heap.size = w.heap.size + 1)
    (hp : es3.Perm (es ++ [⟨w.heap.size, x, k, tm⟩])) (hs : HeapS B w3 Q A3 (n + 1) c3 es3) (hc : Chg (fun b => b = Q ∨ blkA A = some b ∨ (∃ e ∈ es, e.blk = b) ∨ b = w.heap.size) w2 w3) (ha : blkA A3 = blkA A ∨ ∃ r, blkA A3 = some r ∧ w2.heap.size ≤ r) (hb : ∀ t cs, Blk t w2 Q cs → Blk t w3 Q (cs.set 0 (.slice A3 (n + 1) c3))) (ho : HO n es → HO (n + 1) es3)
    {w0 : World} (h0 : Chg (fun b => b = Q) w0 w) (hz0 : w0.heap.size = w.heap.size) : QSetP B Q mb A es x k w0 (.returned (.tuple #[])) w3 := by
  have hun := unknown hx
  have hmbl := h.map.lt
  have hnd : ((es ++ [(⟨w.heap.size, x, k, tm⟩ : En)]).map En.item).Nodup := by
    rw [List.map_append, List.nodup_append]
    refine ⟨h.nodup, by simp, fun a ha' b hb' e => ?_⟩
    obtain ⟨y, hy, rfl⟩ := List.mem_map.1 ha'
    simp at hb'
    subst hb'
    exact hun y hy e
  have hfind : ∀ y, es3.find? (fun z => decide (z.item = y)) = if y = x then some ⟨w.heap.size, x, k, tm⟩ else es.find? (fun z => decide (z.item = y)) := fun y => by
    rw [find_perm hp hnd]
    exact find_app (e := ⟨w.heap.size, x, k, tm⟩) hun y
  have hmbn : ¬ (mb = Q ∨ blkA A = some mb ∨ (∃ e ∈ es, e.blk = mb) ∨ mb = w.heap.size) := by
    rintro (e | e | ⟨y, hy, e⟩ | e)
    · exact h.m1 e
    · exact h.m2 e
    · exact h.m3 hy e.symm
    · omega
  have hbq := hb _ _ (hc2.blk h.blk (fun e => h.m1 e.symm))
  refine ⟨rfl, A3, n + 1, c3, es3, tm, ⟨hs, hbq, (hmap.chg hc hmbn).ext fun y => ?_, (hp.map _).nodup_iff.2 hnd, ?_, h.time, ho h.ord⟩, ?_, ?_, fun y => ?_⟩
  · unfold findE putV
    rw [hfind]
    split
    · rfl
    · rfl
  · rcases ha with e | ⟨r, e, hle⟩
    · rw [e]; exact h.m2
    · rw [e]; intro e2; injection e2 with e2; omega
  · refine Chg.trans2 (((h0.mono fun b e => (.inl e : QueueM Q mb A es b))).trans (hc2.mono fun b e => .inr (.inl e))) hc ?_
    rintro b hbl (e | e | e | e)
    · exact .inl e
    · exact .inr (.inr (.inl e))
    · exact .inr (.inr (.inr e))
    · omega
  · rintro b (e | e | e)
    · exact .inl (.inl e)
    · exact .inl (.inr (.inl e))
    · rcases (heapM_perm hp b).1 e with e | ⟨y, hy, e⟩
      · rcases ha with e2 | ⟨r, e2, hle⟩
        · exact .inl (.inr (.inr (.inl (by rw [← e2, e]))))
        · rw [e2] at e; injection e with e; exact .inr (by omega)
      · rcases List.mem_append.1 hy with hy | hy
        · exact .inl (.inr (.inr (.inr ⟨y, hy, e⟩)))
        · obtain rfl := List.mem_singleton.1 hy
          exact .inr (by rw [← e]; simp only; omega)
  · unfold keyE
    rw [hfind]
    split
    · rfl
    · rfl
end Go.Proofs.YtemiecammmbjdaaGreat
namespace Go.Proofs.YtemiecammmbjdaaGreat
set_option linter.unusedVariables false
set_option linter.unusedSimpArgs false
open Go.RowKit Go.Maps
set_option maxRecDepth 100000 in
set_option maxHeartbeats 6400000 in
theorem QSet_ct (B Q mb : Nat) (A : Option Addr) (n c : Nat) (es : List En) (tm : Int) (x : Nat) (k : Int) (w : World) (h : QueueS B w Q mb A n c es tm) (hx : x < 4294967296) (hk : -9223372036854775808 ≤ k ∧ k ≤ 9223372036854775807) (hn : n ≤ 999999) (hB : B ≤ w.heap.size) :
    Calls Tryz.prog 64 #[.pointer (some ⟨Q, 0, none⟩), .int .u32 x, .int .i64 k] w (QSetP B Q mb A es x k w) := by
  have c1 := h.blk.cell 1
  have c2 := h.blk.cell 2
  have f2 := h.blk.frozen 2
  have hq := h.blk.lt
  simp only [List.getElem?_cons_zero, List.getElem?_cons_succ] at c1 c2
  have t1 := h.time.1
  have t2 := h.time.2
  have htick := h.tick (wrap64 (tm + 1)) (wrap64_range _)
  have h0 := Chg.set w Q 2 (.int .i64 (wrap64 (tm + 1)))
  have hz0 : (w.setCell ⟨Q, 2, none⟩ (.int .i64 (wrap64 (tm + 1)))).heap.size = w.heap.size := by simp [World.setCell]
  have Htick := hide htick
  have H0 := hide h0
  clear h htick h0
  go_enter Tryz.func64, Tryz.ntmps64
  go_upto_region 1 with (fail)
  obtain ⟨W1, hW1⟩ : ∃ W, W = w.setCell ⟨Q, 2, none⟩ (.int .i64 (wrap64 (tm + 1))) := ⟨_, rfl⟩
  rw [← hW1] at Htick H0 hz0 ⊢
  clear hW1 c1 c2 f2 hq t1 t2
  have Hz0 := hide hz0
  generalize wrap64 (tm + 1) = t at *
  have h := Htick.out
  have hB1 : B ≤ W1.heap.size := by rw [hz0]; exact hB
  clear hz0 hB
  have c0 := h.blk.cell 0
  have c1 := h.blk.cell 1
  have c2 := h.blk.cell 2
  have hq := h.blk.lt
  simp only [List.getElem?_cons_zero, List.getElem?_cons_succ] at c0 c1 c2
  have hlook := h.map.look (int_keyed Tryz.underlying69) (T := 158) (E := 163) Tryz.underlying158 zeroEP (keyW Tryz.underlying69 hx) W1 rfl
  cases hf : findE es x with
  | some v =>
    obtain ⟨i, e, hi, hex, rfl⟩ := h.known hf
    subst hex
    rw [hf] at hlook
    simp only [Option.getD_some, Option.isSome_some, encW] at hlook
    have hil : i < n := by have := (List.getElem?_eq_some_iff.1 hi).1; have := h.heap.len; omega
    have hblk := h.heap.ent i e hi
    have hem := List.mem_of_getElem? hi
    have hQe : ¬ Q = e.blk := fun e2 => h.heap.q2 e hem e2.symm
    have heQ : ¬ e.blk = Q := fun e2 => h.heap.q2 e hem e2
    have hnow := h.heap.now hi hk h.time
    have hreset := fun es3 w3 a b c d => h.reset (es3 := es3) (w3 := w3) hi hk a b c d H0.out
    have hfix := fun d => HFix_ct B Q A n c (es.set i (e.now k t)) i ((nowW W1 e k t).drewN d) hnow.draws hil
    have Hreset := hide hreset
    have Hfix := hide hfix
    obtain ⟨eb, ex, ek, et⟩ := e
    simp only [En.ptr, En.cells] at hlook hblk hQe heQ hem Hfix Hreset ⊢
    have b1 := hblk.cell 1
    have bf1 := hblk.frozen 1
    have bf2 := hblk.frozen 2
    have b2 := hblk.cell 2
    have bl := hblk.lt
    have b3 := ((hblk.set 1 (.int .i64 k)).set 2 (.int .i64 t)).cell 3
    have q2 := (h.blk.far (p := ⟨eb, 1, none⟩) hQe (.int .i64 k)).cell 2
    simp only [List.getElem?_cons_zero, List.getElem?_cons_succ, List.set_cons_zero, List.set_cons_succ] at b1 b2 b3 q2
    clear h hf hi hnow hreset hfix hem hblk
    go_upto_region 4 with (fail)
    unfold nowW at Hfix Hreset
    simp only at Hfix Hreset
    obtain ⟨W3, hW3⟩ : ∃ W, W = (W1.setCell ⟨eb, 1, none⟩ (.int .i64 k)).setCell ⟨eb, 2, none⟩ (.int .i64 t) := ⟨_, rfl⟩
    rw [← hW3] at Hfix Hreset b3 ⊢
    have hz3 : W3.heap.size = W1.heap.size := by rw [hW3]; simp [World.setCell]
    have hb3 : eb < W3.heap.size := by rw [hz3]; exact bl
    have hq3 : Q < W3.heap.size := by rw [hz3]; exact hq
    clear hW3
    go_still_tail 8, (by kernel_rfl)
    change wpList _ _ _ _ _ W3.drew
    have Hf4 := hide (Hfix.out 1)
    obtain ⟨W4, hW4⟩ : ∃ W, W = W3.drewN 1 := ⟨_, rfl⟩
    have e4 : W3.drew = W4 := hW4.symm
    rw [e4]
    rw [← hW4] at Hf4
    have Hc3 := hide (chg_qt (M := HeapM A (es.set i (En.now ⟨eb, ex, ek, et⟩ k t))) hW4)
    clear hW4 e4
    go_wp2_with (go_at_call 98; (with_reducible refine Hf4.out.mono ?_); rintro e w4 ⟨rfl, es4, hp4, hs4, hc4, ho4⟩; have Hp4 := hide hp4; have Hs4 := hide hs4; have Hc4 := hide hc4; have Ho4 := hide ho4; clear hp4 hs4 hc4 ho4)
    go_end0
    exact Hreset.out _ _ Hp4.out Hs4.out (Hc3.out.trans Hc4.out) Ho4.out
  | none =>
    rw [hf] at hlook
    simp only [Option.getD_none, Option.isSome_none, encW] at hlook
    obtain ⟨W2, hW2⟩ : ∃ W, W = W1.alloc (.cells [Value.int .u32 x, .int .i64 k, .int .i64 t, .int .i64 0].toArray 166) := ⟨_, rfl⟩
    have hbl2 : Below W1.heap.size W1 W2 := by rw [hW2]; exact (Below.refl _ _).alloc (Nat.le_refl _) _
    have hz2 : W2.heap.size = W1.heap.size + 1 := by rw [hW2, World.size_alloc]
    have hx2 : Blk 166 W2 W1.heap.size [Value.int .u32 x, .int .i64 k, .int .i64 t, .int .i64 0] := by rw [hW2]; exact Blk.new _ _ _
    have hmbl := h.map.lt
    obtain ⟨W3, hput, hmap3, hg3, hz3⟩ := (h.map.keep hbl2).put encW_inj (int_keyed Tryz.underlying69) (T := 158) (E := 163) Tryz.underlying158 (by omega) (key := x) (keyW Tryz.underlying69 hx) (.pointer (some ⟨W1.heap.size, 0, none⟩))
    rw [hf] at hmap3
    simp only [Option.isSome_none, Bool.false_eq_true, if_false] at hmap3
    have hch3 : Chg (fun b => b = mb) W2 W3 := (Chg.of_grown hg3).mono fun b e => (by injection e with e; exact e.symm)
    have hch : Chg (fun b => b = mb) W1 W3 := (Chg.of_below hbl2 _).trans hch3
    have hs3 : HeapS B W3 Q A n c es := h.heap.chg hch (fun e => h.m1 e.symm) (fun b hb e => by
      subst e
      rcases hb with e2 | ⟨y, hy, e2⟩
      · exact h.m2 e2
      · exact h.m3 hy e2.symm)
    have hxb := hch3.blk hx2 (by omega)
    have hqb := hch.blk h.blk (fun e => h.m1 e.symm)
    have hA1 : blkA A ≠ some W1.heap.size := fun e => by
      have := (World.ownsRow.lt h.heap.own W1.heap.size (by rw [own_blkA]; exact e)).2
      omega
    have hpush := HPush_ct B Q A n c es ⟨W1.heap.size, x, k, t⟩ (.int .i64 0) W3 hs3 hxb (fun y hy e => by
      obtain ⟨j, hj⟩ := List.getElem?_of_mem hy
      have := (h.heap.ent j y hj).lt
      simp only at e
      omega) hA1 (by simp only; omega) ⟨hx, hk.1, hk.2, h.time.1, h.time.2⟩ hn (by omega)
    have hmore := fun (w3 : World) (A3 : Option Addr) (c3 : Nat) (es3 : List En) a b c d f g => h.more (w2 := W3) (w3 := w3) (A3 := A3) (c3 := c3) (es3 := es3) (k := k) hf hk hx hmap3 hch (by omega) a b c d f g H0.out Hz0.out.symm
    have Hpush := hide hpush
    have Hmore := hide hmore
    have q0 := hqb.cell 0
    have q1 := hqb.cell 1
    have p1 := (h.blk.keep hbl2).cell 1
    have hql2 : Q < W2.heap.size := by omega
    have hql3 : Q < W3.heap.size := by omega
    simp only [List.getElem?_cons_zero, List.getElem?_cons_succ] at q0 q1 p1
    simp only [En.ptr] at Hpush
    simp only [encW] at hput
    clear h hpush hmore hmap3 hch3 hch hs3 hxb hqb hg3 hx2 hbl2
    go_upto_region 6 with (fail)
    change Code.wp _ _ _ _ (W1.alloc (.cells [Value.int .u32 x, .int .i64 k, .int .i64 t, .int .i64 0].toArray 166))
    rw [← hW2]
    clear hW2
    go_wp2_with (go_at_call 99; (with_reducible refine Hpush.out.mono ?_); rintro e w4 ⟨rfl, A4, c4, es4, hp4, hs4, hc4, ha4, hb4, ho4⟩; have Hp4 := hide hp4; have Hs4 := hide hs4; have Hc4 := hide hc4; have Ha4 := hide ha4; have Hb4 := hide hb4; have Ho4 := hide ho4; clear hp4 hs4 hc4 ha4 hb4 ho4)
    go_end0
    exact Hmore.out _ _ _ _ Hp4.out Hs4.out Hc4.out Ha4.out Hb4.out Ho4.out
end Go.Proofs.YtemiecammmbjdaaGreat
namespace Go.Proofs.YtemiecammmbjdaaGreat
set_option linter.unusedVariables false
set_option linter.unusedSimpArgs false
open Go.RowKit Go.Maps
def QNewP (B : Nat) (w : World) (e : Ending) (w' : World) : Prop := e = .returned (.pointer (some ⟨w.heap.size + 1, 0, none⟩)) ∧ QueueS B w' (w.heap.size + 1) w.heap.size none 0 0 [] 0 ∧ Below w.heap.size w w' ∧ w'.heap.size = w.heap.size + 2
set_option maxRecDepth 100000 in
set_option maxHeartbeats 3200000 in
theorem QNew_ct (B : Nat) (w : World) : Calls Tryz.prog 63 #[] w (QNewP B w) := by
  have hmm := @run_makeMap Tryz.prog
  go_enter Tryz.func63, Tryz.ntmps63
  go_wp2
  go_ret
  have hm := MapV.made w Tryz.prog 69 encW
  have hb := Blk.new (w.alloc (.map #[] 0)) 162 [.slice none 0 0, .map (some w.heap.size), .int .i64 0]
  rw [World.size_alloc] at hb
  have hm2 := hm.alloc (.cells [.slice none 0 0, .map (some w.heap.size), .int .i64 0].toArray 162)
  refine ⟨rfl, ⟨⟨hb.cell 0, hb.frozen 0, ⟨rfl, .inl ⟨rfl, rfl⟩⟩, rfl, (fun i e he => by simp at he), by simp, (fun e he => by cases he), (by intro h; cases h), (fun e he => by cases he), (fun e he => by cases he), by omega⟩, hb, hm2.ext fun y => rfl, by simp, (by intro h; cases h), by omega, fun k h0 hk => by omega⟩, ((Below.refl _ _).alloc (Nat.le_refl _) _).alloc (by rw [World.size_alloc]; omega) _, by simp only [World.size_alloc]⟩
def QTakeP (B Q mb : Nat) (A : Option Addr) (n c : Nat) (es : List En) (w : World) (e : Ending) (w' : World) : Prop := ∃ (x : Nat) (k : Int) (es' : List En) (tm' : Int), e = .returned (.tuple #[.int .u32 x, .int .i64 k, .bool true]) ∧ x < 4294967296 ∧ -9223372036854775808 ≤ k ∧ k ≤ 9223372036854775807 ∧ keyE es x = some k ∧ QueueS B w' Q mb A n c es' tm' ∧ Chg (QueueM Q mb A es) w w' ∧ (∀ b, QueueM Q mb A es' b → QueueM Q mb A es b) ∧ (∀ y, keyE es' y = if y = x then none else keyE es y) ∧ ∀ y k', keyE es' y = some k' → k ≤ k'
theorem QTakeP.draws {B Q mb n c d : Nat} {A : Option Addr} {es : List En} {w w' : World} {e : Ending} (h : QTakeP B Q mb A n c es w e w') : QTakeP B Q mb A n c es w e (w'.drewN d) := by
  obtain ⟨x, k, es', tm', h1, h2, h3, h4, h5, h6, h7, h8, h9, h10⟩ := h
  exact ⟨x, k, es', tm', h1, h2, h3, h4, h5, h6.keep (below_drewN (Below.refl _ _) _), h7.trans (chg_qt rfl), h8, h9, h10⟩
/-- the first entry taken: what the walk has to show -/
theorem QueueS.took {B n c Q mb : Nat} {w w2 w3 : World} {A : Option Addr} {es es2 : List En} {tm : Int} {x : En} (h : QueueS B w Q mb A (n + 1) c es tm) (hp : (es2 ++ [x]).Perm es) (hs : HeapS B w2 Q A n c es2) (hc : Chg (fun b => b = Q ∨ HeapM A es b) w w2) (hb : ∀ t cs, Blk t w Q cs → Blk t w2 Q (cs.set 0 (.slice A n c)))
    (hmap : MapV Tryz.prog 69 encW w3 mb n (delV (findE es) x.item)) (hc3 : Chg (fun b => b = mb) w2 w3) (ho : HO (n + 1) es → HO n es2 ∧ ∀ y ∈ es2, leE x y) : QTakeP B Q mb A n c es w (.returned (.tuple #[.int .u32 x.item, .int .i64 x.key, .bool true])) w3 := by
  have hn2 : ((es2 ++ [x]).map En.item).Nodup := (hp.map _).nodup_iff.2 h.nodup
  have hn3 := hn2
  rw [List.map_append, List.nodup_append] at hn3
  have hne : ∀ y ∈ es2, y.item ≠ x.item := fun y hy e => hn3.2.2 y.item (List.mem_map_of_mem hy) x.item (by simp) e
  have hxm : x ∈ es := hp.mem_iff.1 (by simp)
  have hmm : ∀ y ∈ es2, y ∈ es := fun y hy => hp.mem_iff.1 (List.mem_append_left _ hy)
  have hfind : ∀ y, es.find? (fun z => decide (z.item = y)) = if y = x.item then some x else es2.find? (fun z => decide (z.item = y)) := fun y => by
    rw [← find_perm hp h.nodup]
    exact find_app hne y
  have hq : ¬ (Q = mb) := fun e => h.m1 e.symm
  have hmbA : ∀ b, HeapM A es2 b → HeapM A es b := by
    rintro b (e | ⟨y, hy, e⟩)
    · exact .inl e
    · exact .inr ⟨y, hmm y hy, e⟩
  have hsm := h.heap.small x hxm
  refine ⟨x.item, x.key, es2, tm, rfl, hsm.1, hsm.2.1, hsm.2.2.1, ?_, ⟨hs.chg hc3 hq ?_, hc3.blk (hb _ _ h.blk) hq, hmap.ext fun y => ?_, hn3.1, h.m2, h.time, (ho h.ord).1⟩, (hc.mono ?_).trans (hc3.mono fun b e => .inr (.inl e)), ?_, fun y => ?_, fun y k' hk' => ?_⟩
  · unfold keyE
    rw [find_item h.nodup hxm]
    rfl
  · rintro b hb2 rfl
    rcases hmbA _ hb2 with e | ⟨y, hy, e⟩
    · exact h.m2 e
    · exact h.m3 hy e.symm
  · show findE es2 y = if y = x.item then none else findE es y
    unfold findE
    rw [hfind]
    split
    · rename_i e
      subst e
      rw [find_none hne]
      rfl
    · rfl
  · rintro b (e | e)
    · exact .inl e
    · exact .inr (.inr e)
  · rintro b (e | e | e)
    · exact .inl e
    · exact .inr (.inl e)
    · exact .inr (.inr (hmbA b e))
  · unfold keyE
    rw [hfind]
    split
    · rename_i e
      subst e
      rw [find_none hne]
      rfl
    · rfl
  · unfold keyE at hk'
    obtain ⟨z, hz, rfl⟩ := Option.map_eq_some_iff.1 hk'
    exact ((ho h.ord).2 z (List.mem_of_find?_eq_some hz)).key
set_option maxRecDepth 100000 in
set_option maxHeartbeats 6400000 in
theorem QTake_ct (B Q mb : Nat) (A : Option Addr) (n c : Nat) (es : List En) (tm : Int) (w : World) (h : QueueS B w Q mb A (n + 1) c es tm) :
    Calls Tryz.prog 66 #[.pointer (some ⟨Q, 0, none⟩)] w (QTakeP B Q mb A n c es w) := by
  have c0 := h.blk.cell 0
  have hq := h.blk.lt
  have hf := h.heap.few
  simp only [List.getElem?_cons_zero] at c0
  have hpop := HPop_ct B Q A n c es w h.heap
  have e0 : ((n + 1 : Nat) : Int) ≠ 0 := by omega
  have Hpop := hide hpop
  have H := hide h
  clear h hpop
  go_enter Tryz.func66, Tryz.ntmps66
  have hass := fun a w => run_entry a w
  go_upto_region 4 with (go_at_call 100; (with_reducible refine Hpop.out.mono ?_); rintro e w2 ⟨x, es2, rfl, hp2, hs2, hc2, hx2, hb2, ho2⟩; have Hp2 := hide hp2; have Hs2 := hide hs2; have Hc2 := hide hc2; have Hx2 := hide hx2; have Hb2 := hide hb2; have Ho2 := hide ho2; clear hp2 hs2 hc2 hx2 hb2 ho2; simp only [En.ptr])
  have hmb : ¬ (mb = Q ∨ HeapM A es mb) := by
    rintro (e | e | ⟨y, hy, e⟩)
    · exact H.out.m1 e
    · exact H.out.m2 e
    · exact H.out.m3 hy e.symm
  have hmap2 := H.out.map.chg Hc2.out hmb
  have hqb := Hb2.out _ _ H.out.blk
  have d1 := hqb.cell 1
  have x0 := Hx2.out.cell 0
  have x1 := Hx2.out.cell 1
  have hql := hqb.lt
  have hxl := Hx2.out.lt
  have hxm : x ∈ es := Hp2.out.mem_iff.1 (by simp)
  have hx32 := (H.out.heap.small x hxm).1
  have hfx : findE es x.item = some x.ptr := by unfold findE; rw [find_item H.out.nodup hxm]; rfl
  have hxmb := hmap2.ne Hx2.out
  simp only [En.cells, List.set_cons_zero, List.set_cons_succ, List.getElem?_cons_zero, List.getElem?_cons_succ] at d1 x0 x1
  go_still_tail 8, (by kernel_rfl)
  change wpList _ _ _ _ _ w2.drew
  obtain ⟨W3, hW3⟩ : ∃ W, W = w2.drewN 1 := ⟨_, rfl⟩
  have e3 : w2.drew = W3 := hW3.symm
  rw [e3]
  have hmap3 := hmap2.drewN 1
  rw [← hW3] at hmap3
  obtain ⟨W4, hdel, hmap4, hg4, hz4⟩ := hmap3.del encW_inj (int_keyed Tryz.underlying69) (T := 158) (E := 163) Tryz.underlying158 (key := x.item) (keyW Tryz.underlying69 hx32) 0
  rw [hfx] at hmap4
  simp only [Option.isSome_some, if_true, Nat.add_sub_cancel] at hmap4
  have hch4 : Chg (fun b => b = mb) w2 W4 := (chg_qt hW3).trans ((Chg.of_grown hg4).mono fun b e => (by injection e with e; exact e.symm))
  have hx4 := hch4.blk Hx2.out (fun e => hxmb e.symm)
  have y0 := hx4.cell 0
  have y1 := hx4.cell 1
  have hxl4 := hx4.lt
  simp only [En.cells, List.getElem?_cons_zero, List.getElem?_cons_succ] at y0 y1
  have Hfin := hide (H.out.took Hp2.out Hs2.out Hc2.out Hb2.out hmap4 hch4 Ho2.out)
  simp only [encW] at hdel
  clear hW3 e3 hmap2 hmap3 hmap4 hg4 hch4 hx4 hqb hfx
  go_wp2_with fail
  go_quiet (fail)
  go_wp2
  go_ret3
  exact Hfin.out.draws
end Go.Proofs.YtemiecammmbjdaaGreat
