/- What the law asks for, part 24: Ol3 Ol4 Ol5 Ol6. -/
import Derived.Test.YtemiecammmbjdaaGreatM1
import Derived.Test.YtemiecammmbjdaaGreatM2
import Derived.Test.YtemiecammmbjdaaGreatM3
import Derived.Test.YtemiecammmbjdaaGreatM10
import Derived.Test.YtemiecammmbjdaaGreatM11
import Derived.Test.YtemiecammmbjdaaGreatM12
import Derived.Test.YtemiecammmbjdaaGreatM13
import Derived.Test.YtemiecammmbjdaaGreatM14
import Derived.Test.YtemiecammmbjdaaGreatM22
import Derived.Test.YtemiecammmbjdaaGreatM23
import Derived.BigQuiet
import Derived.BigRegion
import Derived.Deep.AppendLies
import Derived.Deep.DeepCutAuto
import Derived.Deep.Draws
import Derived.Deep.Fields
import Derived.Deep.LoopGhost
import Derived.Deep.QuietTactic
import Derived.Deep.Slices
import Derived.DeepKeys4
import Derived.Laws.AppendOwnNone
import Derived.Laws.BitsAllLaws
import Derived.Laws.EntriesVeiled
import Derived.Laws.OwnMore
import Derived.Lib.Hide
import Derived.Lib.SlicesCompact
import Derived.LoopIn
import Derived.LoopNIn
import Derived.Maps.AppendAt
import Derived.Maps.OwnIn
import Derived.Maps.OwnOps
import Derived.Maps.OwnSet
import Derived.OwnWalkIn
import Derived.RangeFuncBound
import Derived.RangeFuncCalls
import Derived.RangeFuncLeaves
import Derived.RangeFuncNested
import Derived.Shelf.Abstract
import Derived.Shelf.RegionOpen
import Derived.TacticsInMore
import Derived.Test.YtemiecammmbjdaaGreatProg
import Derived.WalkKit
namespace Go.Proofs.YtemiecammmbjdaaGreat
set_option linter.unusedVariables false
set_option linter.unusedSimpArgs false
open Go.RowKit
theorem own_cut1 {w : World} {B : Nat} {t : TypeId} {A : Option Addr} {n c : Nat} {vs : List Value} {u : Value} (h : w.ownsRow B t 1 (.slice A (n + 1) c) (n + 1) (vs ++ [u])) : w.ownsRow B t 1 (.slice A n c) n vs := by
  have h2 := own_cut h (m := n) (by omega)
  have hl : vs.length = n := by have := h.1; simp at this; omega
  rwa [List.take_left' hl] at h2
/-- the last entry leaves the heap: the store of the shorter row -/
theorem HeapS.pop {B Q n c : Nat} {A : Option Addr} {es : List En} {x : En} {w : World} (h : HeapS B w Q A (n + 1) c (es ++ [x])) : HeapS B (w.setCell ⟨Q, 0, none⟩ (.slice A n c)) Q A n c es := by
  have hs := Chg.set w Q 0 (.slice A n c)
  have hown := own_cut1 (u := x.ptr) (by have := h.own; rwa [List.map_append] at this)
  have hq : Q < w.heap.size := World.block_lt_of_cell? w _ h.hd
  refine ⟨?_, ?_, hs.own hown (fun r hr e => h.q1 (by rw [← e]; rw [own_blkA] at hr; exact hr)), by have := h.len; simp at this; exact this, fun i e he => ?_, ?_, fun e he => h.apart e (List.mem_append_left _ he), h.q1, fun e he => h.q2 e (List.mem_append_left _ he), fun e he => h.small e (List.mem_append_left _ he), by have := h.few; omega⟩
  · exact World.cell?_setCell_same' _ _ _ (by rw [h.hd]; rfl)
  · rw [World.frozen?_setCell]; exact h.fz
  · have hi := (List.getElem?_eq_some_iff.1 he).1
    exact hs.blk (h.ent i e (by rw [List.getElem?_append_left hi]; exact he)) (fun e2 => h.q2 e (List.mem_append_left _ (List.mem_of_getElem? he)) e2)
  · have := h.once
    rw [List.map_append] at this
    exact (List.nodup_append.1 this).1
def PopP (B Q : Nat) (A : Option Addr) (n c : Nat) (es : List En) (x : En) (w : World) (e : Ending) (w' : World) : Prop := e = .returned (.iface 163 x.ptr) ∧ HeapS B w' Q A n c es ∧ w' = w.setCell ⟨Q, 0, none⟩ (.slice A n c)
set_option maxRecDepth 100000 in
set_option maxHeartbeats 3200000 in
theorem OPop_ct (B Q : Nat) (A : Option Addr) (n c : Nat) (es : List En) (x : En) (w : World) (h : HeapS B w Q A (n + 1) c (es ++ [x])) :
    Calls Tryz.prog 205 #[.pointer (some ⟨Q, 0, none⟩)] w (PopP B Q A n c es x w) := by
  have hl : es.length = n := by have := h.len; simp at this; exact this
  obtain ⟨g, x', rfl, hx, cx, _⟩ := h.get (show n < n + 1 by omega)
  rw [List.getElem?_append_right (by omega), hl] at hx
  simp at hx
  subst hx
  obtain ⟨hc1, hc2⟩ := own_nil_or h.own
  have hd := h.hd
  have fz := h.fz
  have hp := h.pop
  have hq : Q < w.heap.size := World.block_lt_of_cell? w _ h.hd
  have hf := h.few
  have Hp := hide hp
  obtain ⟨xb, xi, xk, xt⟩ := x
  simp only [En.ptr] at cx
  clear h hp hl
  go_enter Tryz.func205, Tryz.ntmps205
  go_wp2
  go_ret
  exact ⟨rfl, Hp.out, rfl⟩
theorem run_entry (a : Option Addr) (w : World) : (Instr.typeAssert (.iface 163 (.pointer a)) 20 163 false).run Tryz.prog w = .ok (.pointer a) w := by kernel_rfl
theorem ptrInfo : (Tryz.prog.info? 163).map (fun i => (i.zero, i.size, i.bytes)) = some (some (.pointer none), 1, 8) := by kernel_rfl
/-- one entry more: its place, the row, the store -/
theorem HeapS.push {B Q n c c' : Nat} {A A' : Option Addr} {es : List En} {x : En} {w w2 : World} {z : Value} (h : HeapS B w Q A n c es) (hx : Blk 166 w x.blk [.int .u32 x.item, .int .i64 x.key, .int .i64 x.time, z]) (h1 : ∀ e ∈ es, e.blk ≠ x.blk) (h2 : blkA A ≠ some x.blk) (h3 : x.blk ≠ Q)
    (hs : x.item < 4294967296 ∧ -9223372036854775808 ≤ x.key ∧ x.key ≤ 9223372036854775807 ∧ -9223372036854775808 ≤ x.time ∧ x.time ≤ 9223372036854775807) (hn : n ≤ 999999)
    (hown : w2.ownsRow B 163 1 (.slice A' (n + 1) c') (n + 1) (es.map En.ptr ++ [x.ptr])) (hch : Chg (fun b => blkA A = some b) (w.setCell ⟨x.blk, 3, none⟩ (.int .i64 n)) w2) (hat : blkA A' = blkA A ∨ ∃ r, blkA A' = some r ∧ w.heap.size ≤ r) :
    HeapS B (w2.setCell ⟨Q, 0, none⟩ (.slice A' (n + 1) c')) Q A' (n + 1) c' (es ++ [x]) ∧ Chg (fun b => b = Q ∨ blkA A = some b ∨ b = x.blk) w (w2.setCell ⟨Q, 0, none⟩ (.slice A' (n + 1) c')) ∧ (∀ t cs, Blk t w Q cs → Blk t (w2.setCell ⟨Q, 0, none⟩ (.slice A' (n + 1) c')) Q (cs.set 0 (.slice A' (n + 1) c'))) := by
  have c1 := Chg.set w x.blk 3 (.int .i64 n)
  have c3 := Chg.set w2 Q 0 (.slice A' (n + 1) c')
  have hq : Q < w.heap.size := World.block_lt_of_cell? w _ h.hd
  have hd1 : (w.setCell ⟨x.blk, 3, none⟩ (.int .i64 n)).heap[Q]? = w.heap[Q]? := c1.block Q hq (fun e => h3 e.symm)
  have hz1 := c1.size
  have hd2 : w2.heap[Q]? = w.heap[Q]? := (hch.block Q (Nat.lt_of_lt_of_le hq hz1) (fun e => h.q1 e)).trans hd1
  have hcell : w2.cell? ⟨Q, 0, none⟩ = some (.slice A n c) := by
    rw [← h.hd]
    unfold World.cell?
    rw [hd2]
  have hfz : w2.frozen? ⟨Q, 0, none⟩ = false := by
    rw [← h.fz]
    unfold World.frozen?
    rw [hd2]
  have hA' : ∀ r, blkA A' = some r → r ≠ Q ∧ r ≠ x.blk ∧ ∀ e ∈ es, r ≠ e.blk := fun r hr => by
    rcases hat with e | ⟨r2, e, hle⟩
    · rw [e] at hr
      exact ⟨fun e2 => h.q1 (by rw [hr, e2]), fun e2 => h2 (by rw [hr, e2]), fun y hy e2 => h.apart y hy (by rw [hr, e2])⟩
    · rw [e] at hr
      injection hr with hr
      subst hr
      refine ⟨by omega, by have := hx.lt; omega, fun y hy e2 => ?_⟩
      obtain ⟨j, hj⟩ := List.getElem?_of_mem hy
      have := (h.ent j y hj).lt
      omega
  have hx1 := hx.set 3 (.int .i64 n)
  have hx2 : Blk 166 w2 x.blk (x.cells n) := hch.blk hx1 h2
  refine ⟨⟨World.cell?_setCell_same' _ _ _ (by rw [hcell]; rfl), by rw [World.frozen?_setCell]; exact hfz, ?_, by rw [List.length_append, h.len]; rfl, fun i e he => ?_, ?_, fun e he => ?_, fun e => (hA' Q e).1 rfl, fun e he => ?_, fun e he => ?_, by omega⟩, ?_, fun t cs hb => (show Blk t w2 Q cs from hd2.trans hb).set 0 _⟩
  · rw [List.map_append]
    exact c3.own hown (fun r hr e => (hA' r (by rw [own_blkA] at hr; exact hr)).1 e)
  · rcases Nat.lt_or_ge i es.length with hi | hi
    · rw [List.getElem?_append_left hi] at he
      have hm := List.mem_of_getElem? he
      exact c3.blk (hch.blk (c1.blk (h.ent i e he) (h1 e hm)) (h.apart e hm)) (h.q2 e hm)
    · rw [List.getElem?_append_right hi] at he
      have hi2 : i = n := by
        have := (List.getElem?_eq_some_iff.1 he).1
        have := h.len
        simp at *
        omega
      subst hi2
      have hl := h.len
      rw [hl] at he
      simp at he
      subst he
      exact c3.blk hx2 h3
  · rw [List.map_append, List.nodup_append]
    refine ⟨h.once, by simp, fun a ha b hb e => ?_⟩
    obtain ⟨y, hy, rfl⟩ := List.mem_map.1 ha
    simp at hb
    subst hb
    exact h1 y hy e
  · rcases List.mem_append.1 he with he | he
    · exact fun e2 => (hA' _ e2).2.2 e he rfl
    · obtain rfl := List.mem_singleton.1 he
      exact fun e2 => (hA' _ e2).2.1 rfl
  · rcases List.mem_append.1 he with he | he
    · exact h.q2 e he
    · obtain rfl := List.mem_singleton.1 he
      exact h3
  · rcases List.mem_append.1 he with he | he
    · exact h.small e he
    · obtain rfl := List.mem_singleton.1 he
      exact hs
  · exact ((c1.mono fun b e => .inr (.inr e)).trans (hch.mono fun b e => .inr (.inl e))).trans (c3.mono fun b e => .inl e)
def PushP (B Q : Nat) (A : Option Addr) (n : Nat) (es : List En) (x : En) (w : World) (e : Ending) (w' : World) : Prop := e = .returned (.tuple #[]) ∧ ∃ A' c', HeapS B w' Q A' (n + 1) c' (es ++ [x]) ∧ Chg (fun b => b = Q ∨ blkA A = some b ∨ b = x.blk) w w' ∧ (blkA A' = blkA A ∨ ∃ r, blkA A' = some r ∧ w.heap.size ≤ r) ∧ (∀ t cs, Blk t w Q cs → Blk t w' Q (cs.set 0 (.slice A' (n + 1) c')))
set_option maxRecDepth 100000 in
set_option maxHeartbeats 3200000 in
theorem OPush_ct (B Q : Nat) (A : Option Addr) (n c : Nat) (es : List En) (x : En) (z : Value) (w : World) (h : HeapS B w Q A n c es) (hx : Blk 166 w x.blk [.int .u32 x.item, .int .i64 x.key, .int .i64 x.time, z]) (h1 : ∀ e ∈ es, e.blk ≠ x.blk) (h2 : blkA A ≠ some x.blk) (h3 : x.blk ≠ Q)
    (hs : x.item < 4294967296 ∧ -9223372036854775808 ≤ x.key ∧ x.key ≤ 9223372036854775807 ∧ -9223372036854775808 ≤ x.time ∧ x.time ≤ 9223372036854775807) (hn : n ≤ 999999) (hB : B ≤ w.heap.size) :
    Calls Tryz.prog 206 #[.pointer (some ⟨Q, 0, none⟩), .iface 163 x.ptr] w (PushP B Q A n es x w) := by
  obtain ⟨i1, hi1, hy0, hy1, hy2⟩ := info_parts ptrInfo
  have hass := run_entry (some ⟨x.blk, 0, none⟩) w
  have hd := h.hd
  have hpush := fun w2 A' c' a b c => HeapS.push (w2 := w2) (A' := A') (c' := c') h hx h1 h2 h3 hs hn a b c
  have hown := (Chg.set w x.blk 3 (.int .i64 n)).own h.own (fun r hr e => h2 (by rw [← e]; rw [own_blkA] at hr; exact hr))
  have x3 := hx.cell 3
  have xf := hx.frozen 3
  have xl := hx.lt
  have hq : Q < w.heap.size := World.block_lt_of_cell? w _ h.hd
  have hd1 : (w.setCell ⟨x.blk, 3, none⟩ (.int .i64 n)).cell? ⟨Q, 0, none⟩ = some (.slice A n c) := by
    rw [← h.hd]
    unfold World.cell?
    rw [(Chg.set w x.blk 3 (.int .i64 n)).block Q hq (fun e => h3 e.symm)]
  have hfz1 : (w.setCell ⟨x.blk, 3, none⟩ (.int .i64 n)).frozen? ⟨Q, 0, none⟩ = false := by rw [World.frozen?_setCell]; exact h.fz
  have hz1 : (w.setCell ⟨x.blk, 3, none⟩ (.int .i64 n)).heap.size = w.heap.size := by simp [World.setCell]
  have hq1 := h.q1
  have Hq1 := hide hq1
  have Hpush := hide hpush
  have Hown := hide hown
  obtain ⟨xb, xi, xk, xt⟩ := x
  simp only [En.ptr, List.getElem?_cons_zero, List.getElem?_cons_succ] at Hpush Hown x3 xf xl hd1 hfz1 hz1 h2 h3 hass ⊢
  clear h hx h1 hs hpush hown hq1
  go_enter Tryz.func206, Tryz.ntmps206
  go_upto_region 2 with (fail)
  obtain ⟨W1, hW1⟩ : ∃ W, W = w.setCell ⟨xb, 3, none⟩ (.int .i64 n) := ⟨_, rfl⟩
  rw [← hW1] at Hpush Hown hd1 hfz1 hz1 ⊢
  have hql : Q < W1.heap.size := by rw [hz1]; exact hq
  clear hW1
  have Hz1 := hide hz1
  have hB1 : B ≤ W1.heap.size := by rw [hz1]; exact hB
  clear hz1
  go_wp2_with
    (at_builtin
     go_loud (
     refine wpList_pushA rfl _ _ 160 rfl B 163 i1 (.pointer none) 1 8 Tryz.underlying160 hi1 hy0 hy1 hy2 rfl (by decide) _ n _ rfl Hown.out [.pointer (some ⟨xb, 0, none⟩)] rfl (by intro u hu; simp at hu; subst hu; rfl) rfl (by omega) (by omega) hB1 ?_
     intro O oc w2 hown2 hg2 hat2
     change World.grownBy _ _ (Value.slice A n c).ownBlock at hg2
     change (Value.slice O (n + 1) oc).ownBlock = (Value.slice A n c).ownBlock ∨ _ at hat2
     rw [own_blkA] at hg2
     rw [own_blkA, own_blkA] at hat2
     have hch2 : Chg (fun b => blkA A = some b) W1 w2 := (Chg.of_below ((Below.refl W1.heap.size W1).alloc (Nat.le_refl _) (.cells [Value.pointer (some ⟨xb, 0, none⟩)].toArray 163)) _).trans (Chg.of_grown hg2)
     have hat3 : blkA O = blkA A ∨ ∃ r, blkA O = some r ∧ w.heap.size ≤ r := hat2.imp id fun e => ⟨_, e, by rw [Hz1.out]; omega⟩
     have hfin := Hpush.out w2 O oc hown2 hch2 hat3
     have hb2 := hch2.block Q hql (fun e => Hq1.out e)
     have hc2 : w2.cell? ⟨Q, 0, none⟩ = some (.slice A n c) := by
       rw [← hd1]
       unfold World.cell?
       rw [hb2]
     have hf2 : w2.frozen? ⟨Q, 0, none⟩ = false := by
       rw [← hfz1]
       unfold World.frozen?
       rw [hb2]
     have hl2 : Q < w2.heap.size := Nat.lt_of_lt_of_le hql hch2.size
     have Hfin := hide hfin
     have Hat3 := hide hat3
     clear hown2 hg2 hat2 hch2 hat3 hfin hb2))
  go_end0
  exact ⟨rfl, _, _, Hfin.out.1, Hfin.out.2.1, Hat3.out, Hfin.out.2.2⟩
end Go.Proofs.YtemiecammmbjdaaGreat
namespace Go.Proofs.YtemiecammmbjdaaGreat
set_option linter.unusedVariables false
set_option linter.unusedSimpArgs false
open Go.RowKit
/-- some entries moved; where X held before, a heap -/
def MixP (X : Prop) (B Q : Nat) (A : Option Addr) (n c : Nat) (es : List En) (w : World) (e : Ending) (w' : World) : Prop := e = .returned (.tuple #[]) ∧ ∃ es', es'.Perm es ∧ HeapS B w' Q A n c es' ∧ Chg (HeapM A es) w w' ∧ (X → HO n es')
theorem heapM_perm {A : Option Addr} {es es' : List En} (h : es'.Perm es) (b : Nat) : HeapM A es' b ↔ HeapM A es b := by
  unfold HeapM
  constructor
  · rintro (e | ⟨x, hx, e⟩)
    · exact .inl e
    · exact .inr ⟨x, h.mem_iff.1 hx, e⟩
  · rintro (e | ⟨x, hx, e⟩)
    · exact .inl e
    · exact .inr ⟨x, h.mem_iff.2 hx, e⟩
theorem half_nat (j : Nat) (h : 0 < j) : Int.tdiv ((j : Int) - 1) 2 = (((j - 1) / 2 : Nat) : Int) := by
  have : ((j : Int) - 1) = ((j - 1 : Nat) : Int) := by omega
  rw [this]
  rfl
theorem HeapS.draws {B Q n c k : Nat} {A : Option Addr} {es : List En} {w : World} (h : HeapS B w Q A n c es) : HeapS B (w.drewN k) Q A n c es := h.keep (below_drewN (Below.refl _ _) _)
set_option maxRecDepth 100000 in
set_option maxHeartbeats 3200000 in
theorem HUp_ct (B Q : Nat) (A : Option Addr) (n c : Nat) (es : List En) (j : Nat) (w : World) (h : HeapS B w Q A n c es) (hj : j < n) :
    Calls Tryz.prog 127 #[.iface 168 (.pointer (some ⟨Q, 0, none⟩)), .int .i64 j] w (MixP (UpOk n es j) B Q A n c es w) := by
  have hf := h.few
  obtain ⟨X, hX⟩ : ∃ X : Prop, X = UpOk n es j := ⟨_, rfl⟩
  have HX := hide (show X → UpOk n es j from fun x => by rw [hX] at x; exact x)
  rw [← hX]
  have H := hide h
  clear h hX
  go_enter Tryz.func127, Tryz.ntmps127
  go_wp2_with fail
  go_loopw [1] (fun s wr => ∃ (j : Nat) (es' : List En), j < n ∧ s = .int .i64 j ∧ es'.Perm es ∧ HeapS B wr Q A n c es' ∧ Chg (HeapM A es) w wr ∧ (X → UpOk n es' j)) (fun s _ => (intOf s).toNat)
  case atStart => exact ⟨j, es, hj, rfl, .refl _, H.out, Chg.refl _ _, HX.out⟩
  case round =>
    clear hj HX
    obtain ⟨j, es', hj, rfl, hp, hs, hc, hup⟩ := hrel
    have Hup := hide hup
    clear hup
    have Hp := hide hp
    have Hs := hide hs
    have Hc := hide hc
    clear hp hc
    rcases Nat.eq_zero_or_pos j with h0 | h0
    · subst h0
      clear hs
      go_wp2_with fail
      go_end0
      exact ⟨rfl, es', Hp.out, Hs.out, Hc.out, fun x => (Hup.out x).stop (.inl rfl)⟩
    · have hhalf := half_nat j h0
      obtain ⟨i, hi⟩ : ∃ i, i = (j - 1) / 2 := ⟨_, rfl⟩
      rw [← hi] at hhalf
      have hij : i < j := by omega
      have Hi := hide hi
      clear hi
      have hil : i < n := by omega
      have hijf : ((i : Int) == (j : Int)) = false := by rw [beq_eq_false_iff_ne]; omega
      obtain ⟨a, ha⟩ : ∃ a, es'[j]? = some a := ⟨_, List.getElem?_eq_getElem (by rw [hs.len]; exact hj)⟩
      obtain ⟨b, hb⟩ : ∃ b, es'[i]? = some b := ⟨_, List.getElem?_eq_getElem (by rw [hs.len]; exact hil)⟩
      have hless0 := order_less Q wr hs.hd
      have hlc := OLess_ct B Q A n c es' j i a b wr hs ha hb
      have hswap0 := fun k => order_swap Q (wr.drewN k) (hs.draws (k := k)).hd
      have hsc := fun k => OSwap_ct B Q A n c es' i j (wr.drewN k) hs.draws hil hj
      have Hlc := hide hlc
      have Hsc := hide hsc
      have Ha := hide ha
      have Hb := hide hb
      clear hlc hsc hs ha hb
      obtain ⟨q, hq⟩ : ∃ q, q = lessE a b := ⟨_, rfl⟩
      rw [← hq] at Hlc
      have Hq := hide hq
      clear hq
      cases q
      · go_wp2_with (go_at_call 203; refine Hlc.out.mono ?_; rintro e w2 ⟨rfl, k, rfl⟩)
        go_end0
        exact ⟨rfl, es', Hp.out, Hs.out.draws, Hc.out.trans (Chg.of_below (below_drewN (Below.refl _ _) _) _), fun x => (Hup.out x).stop (.inr ⟨b, a, by rw [← Hi.out]; exact Hb.out, Ha.out, Hq.out.symm⟩)⟩
      · go_wp2_with (first
          | (go_at_call 203; refine Hlc.out.mono ?_; rintro e w2 ⟨rfl, k, rfl⟩)
          | (go_at_call 204; refine (Hsc.out _).mono ?_; rintro e w2 ⟨rfl, hs2, hc2⟩; have Hs2 := hide hs2; have Hc2 := hide hc2; clear hs2 hc2))
        go_roundw
        case rel => exact ⟨i, swapL es' i j, hil, rfl, (swapL_perm _ _ _).trans Hp.out, Hs2.out, (Hc.out.trans (Chg.of_below (below_drewN (Below.refl _ _) _) _)).trans (Hc2.out.mono fun x hx => (heapM_perm Hp.out x).1 hx), fun x => by
          have h9 := (Hup.out x).step h0 hj (by rw [← Hi.out]; exact Hb.out) Ha.out Hq.out.symm
          rw [← Hi.out] at h9
          exact h9⟩
        case measure => simp [intOf]; omega
end Go.Proofs.YtemiecammmbjdaaGreat
namespace Go.Proofs.YtemiecammmbjdaaGreat
set_option linter.unusedVariables false
set_option linter.unusedSimpArgs false
open Go.RowKit
def DownP (i0 : Nat) (B Q : Nat) (A : Option Addr) (n c m : Nat) (es : List En) (w : World) (e : Ending) (w' : World) : Prop := ∃ b es', e = .returned (.bool b) ∧ es'.Perm es ∧ es'.drop m = es.drop m ∧ HeapS B w' Q A n c es' ∧ Chg (HeapM A es) w w' ∧ (DownW m es i0 → (b = true → HO m es') ∧ (b = false → UpOk m es' i0))
/-- how far an entry has moved down -/
def DownAt (X : Prop) (m i0 : Nat) (es es' : List En) (i : Nat) : Prop := (i = i0 ∧ es' = es) ∨ (i0 < i ∧ (X → DownOk m es' i))
theorem DownAt.stop {X : Prop} {m i0 : Nat} {es es' : List En} {i : Nat} (h : DownAt X m i0 es es' i) (hX : X → DownW m es i0) (hc : ∀ k, 0 < k → k < m → (k - 1) / 2 = i → ordE es' i k) (x : X) : (decide (i0 < i) = true → HO m es') ∧ (decide (i0 < i) = false → UpOk m es' i0) := by
  rcases h with ⟨rfl, rfl⟩ | ⟨h1, h2⟩
  · exact ⟨fun e => by simp at e, fun _ => (hX x).up hc⟩
  · exact ⟨fun _ => (h2 x).stop hc, fun e => by simp at e; omega⟩
theorem DownAt.step {X : Prop} {m i0 : Nat} {es es' : List En} {i j : Nat} (h : DownAt X m i0 es es' i) (hX : X → DownW m es i0) (hjm : j < m) (hp : j = 2 * i + 1 ∨ j = 2 * i + 2) {a b : En} (ha : es'[i]? = some a) (hb : es'[j]? = some b) (hl : lessE b a = true)
    (ho : ∀ k, k < m → (k = 2 * i + 1 ∨ k = 2 * i + 2) → ordE es' j k) : DownAt X m i0 es (swapL es' i j) j := by
  refine .inr ⟨?_, fun x => ?_⟩
  · rcases h with ⟨rfl, _⟩ | ⟨h1, _⟩ <;> omega
  · have hw : DownW m es' i := by
      rcases h with ⟨rfl, rfl⟩ | ⟨_, h2⟩
      · exact hX x
      · exact (h2 x).1
    exact hw.step (by omega) hjm (by omega) ha hb hl (fun k h0 hk hpk => ho k hk (by omega))
theorem ord_of {es : List En} {i k : Nat} {a b : En} (ha : es[i]? = some a) (hb : es[k]? = some b) (h : leE a b) : ordE es i k := fun a' b' h1 h2 => by
  rw [ha] at h1; rw [hb] at h2
  obtain rfl := Option.some.inj h1
  obtain rfl := Option.some.inj h2
  exact h
theorem swapL_drop {α : Type} (l : List α) {i k m : Nat} (hi : i < m) (hk : k < m) : (swapL l i k).drop m = l.drop m := by
  unfold swapL
  split
  · rw [List.drop_set_of_lt hk, List.drop_set_of_lt hi]
  · rfl
theorem HeapS.qt {B Q n c : Nat} {A : Option Addr} {es : List En} {w w2 : World} (h : HeapS B w Q A n c es) {k : Nat} (hk : w2 = w.drewN k) : HeapS B w2 Q A n c es := by subst hk; exact h.draws
theorem chg_qt {M : Nat → Prop} {w w2 : World} {k : Nat} (hk : w2 = w.drewN k) : Chg M w w2 := by subst hk; exact Chg.of_below (below_drewN (Below.refl _ _) _) _
set_option maxRecDepth 100000 in
set_option maxHeartbeats 6400000 in
theorem HDown_ct (B Q : Nat) (A : Option Addr) (n c m : Nat) (es : List En) (i0 : Nat) (w : World) (h : HeapS B w Q A n c es) (hm : m ≤ n) (hi0 : i0 ≤ n) :
    Calls Tryz.prog 126 #[.iface 168 (.pointer (some ⟨Q, 0, none⟩)), .int .i64 i0, .int .i64 m] w (DownP i0 B Q A n c m es w) := by
  have hf := h.few
  obtain ⟨X, hX⟩ : ∃ X : Prop, X = DownW m es i0 := ⟨_, rfl⟩
  have HX := hide (show X → DownW m es i0 from fun x => by rw [hX] at x; exact x)
  unfold DownP
  rw [← hX]
  have H := hide h
  clear h hX
  go_enter Tryz.func126, Tryz.ntmps126
  go_wp2_with fail
  go_loopw [7] (fun s wr => ∃ (i : Nat) (es' : List En), i ≤ n ∧ s = .int .i64 i ∧ es'.Perm es ∧ es'.drop m = es.drop m ∧ HeapS B wr Q A n c es' ∧ Chg (HeapM A es) w wr ∧ DownAt X m i0 es es' i) (fun s _ => n - (intOf s).toNat)
  case atStart => exact ⟨i0, es, hi0, rfl, .refl _, rfl, H.out, Chg.refl _ _, .inl ⟨rfl, rfl⟩⟩
  case round =>
    obtain ⟨i, es', hi, rfl, hp, hdr, hs, hc, hat⟩ := hrel
    have Hat := hide hat
    clear hat
    have Hp := hide hp
    have Hdr := hide hdr
    have Hs := hide hs
    have Hc := hide hc
    clear hp hc hdr
    obtain ⟨j1, hj1⟩ : ∃ j1 : Nat, 2 * (i : Int) + 1 = (j1 : Int) := ⟨2 * i + 1, by omega⟩
    have Hj1 := hide (show j1 = 2 * i + 1 by omega)
    by_cases h1 : j1 < m
    · have hil : i < n := by omega
      obtain ⟨x0, hx0⟩ : ∃ a, es'[i]? = some a := ⟨_, List.getElem?_eq_getElem (by rw [hs.len]; exact hil)⟩
      obtain ⟨x1, hx1⟩ : ∃ b, es'[j1]? = some b := ⟨_, List.getElem?_eq_getElem (by rw [hs.len]; omega)⟩
      have Hx0 := hide hx0
      have Hx1 := hide hx1
      have hm0 := order_less Q wr hs.hd
      obtain ⟨j2, hj2⟩ : ∃ j2 : Nat, (j1 : Int) + 1 = (j2 : Int) := ⟨j1 + 1, by omega⟩
      have Hj2 := hide (show j2 = j1 + 1 by omega)
      have hj1n : ¬ (j1 : Int) < 0 := by omega
      have hij : i < j1 := by omega
      by_cases h2 : j2 < m
      · obtain ⟨x2, hx2⟩ : ∃ b, es'[j2]? = some b := ⟨_, List.getElem?_eq_getElem (by rw [hs.len]; omega)⟩
        have Hx2 := hide hx2
        have hl1 := fun W hW => OLess_ct B Q A n c es' j2 j1 x2 x1 W hW hx2 hx1
        have Hl1 := hide hl1
        have hla := fun W hW => OLess_ct B Q A n c es' j2 i x2 x0 W hW hx2 hx0
        have hlb := fun W hW => OLess_ct B Q A n c es' j1 i x1 x0 W hW hx1 hx0
        clear hl1 hs
        obtain ⟨q, hq⟩ : ∃ z, z = lessE x2 x1 := ⟨_, rfl⟩
        rw [← hq] at Hl1
        have Hq := hide hq
        clear hq
        cases q
        · clear hla
          have Hl2 := hide hlb
          clear hlb hx0 hx1 hx2
          obtain ⟨r, hr⟩ : ∃ z, z = lessE x1 x0 := ⟨_, rfl⟩
          rw [← hr] at Hl2
          have Hr := hide hr
          clear hr
          cases r
          · go_wp2_with (first
              | (go_at_call 203; (with_reducible refine (Hl1.out _ Hs.out).mono ?_); rintro e w2 ⟨rfl, k2, hk2⟩; have Hs2 := hide (Hs.out.qt hk2); have hm2 := order_less Q w2 Hs2.out.hd; have Hc2 := hide (Hc.out.trans (chg_qt hk2)); clear hk2 hm0)
              | (go_at_call 203; (with_reducible refine (Hl2.out _ Hs2.out).mono ?_); rintro e w3 ⟨rfl, k3, hk3⟩; have Hs3 := hide (Hs2.out.qt hk3); have hm3 := order_swap Q w3 Hs3.out.hd; have Hc3 := hide (Hc2.out.trans (chg_qt hk3)); clear hk3))
            go_ret
            exact ⟨_, es', rfl, Hp.out, Hdr.out, Hs3.out, Hc3.out, Hat.out.stop HX.out (fun k h0 hk hpk => by
              have e1 := Hj1.out
              have e2 := Hj2.out
              rcases (show k = j1 ∨ k = j2 by omega) with rfl | rfl
              · exact ord_of Hx0.out Hx1.out Hr.out.symm
              · exact ord_of Hx0.out Hx2.out (leE.trans (show leE x0 x1 from Hr.out.symm) (show leE x1 x2 from Hq.out.symm)))⟩
          · go_wp2_with (first
              | (go_at_call 203; (with_reducible refine (Hl1.out _ Hs.out).mono ?_); rintro e w2 ⟨rfl, k2, hk2⟩; have Hs2 := hide (Hs.out.qt hk2); have hm2 := order_less Q w2 Hs2.out.hd; have Hc2 := hide (Hc.out.trans (chg_qt hk2)); clear hk2 hm0)
              | (go_at_call 203; (with_reducible refine (Hl2.out _ Hs2.out).mono ?_); rintro e w3 ⟨rfl, k3, hk3⟩; have Hs3 := hide (Hs2.out.qt hk3); have hm3 := order_swap Q w3 Hs3.out.hd; have Hc3 := hide (Hc2.out.trans (chg_qt hk3)); clear hk3)
              | (go_at_call 204; (with_reducible refine (OSwap_ct B Q A n c es' i j1 _ Hs3.out (by omega) (by omega)).mono ?_); rintro e w4 ⟨rfl, hs4, hc4⟩; have Hs4 := hide hs4; have Hc4 := hide hc4; clear hs4 hc4))
            go_roundw
            case rel => exact ⟨j1, swapL es' i j1, by omega, rfl, (swapL_perm _ _ _).trans Hp.out, (swapL_drop _ (by omega) (by omega)).trans Hdr.out, Hs4.out, Hc3.out.trans (Hc4.out.mono fun x hx => (heapM_perm Hp.out x).1 hx), Hat.out.step HX.out (by omega) (by have e1 := Hj1.out; have e2 := Hj2.out; omega) Hx0.out Hx1.out Hr.out.symm (fun k hk hpk => by
              have e1 := Hj1.out
              have e2 := Hj2.out
              rcases (show k = j1 ∨ k = j2 by omega) with rfl | rfl
              · exact ord_of Hx1.out Hx1.out (leE.refl _)
              · exact ord_of Hx1.out Hx2.out Hq.out.symm)⟩
            case measure => simp [intOf]; omega
        · clear hlb
          have Hl2 := hide hla
          clear hla hx0 hx1 hx2
          obtain ⟨r, hr⟩ : ∃ z, z = lessE x2 x0 := ⟨_, rfl⟩
          rw [← hr] at Hl2
          have Hr := hide hr
          clear hr
          cases r
          · go_wp2_with (first
              | (go_at_call 203; (with_reducible refine (Hl1.out _ Hs.out).mono ?_); rintro e w2 ⟨rfl, k2, hk2⟩; have Hs2 := hide (Hs.out.qt hk2); have hm2 := order_less Q w2 Hs2.out.hd; have Hc2 := hide (Hc.out.trans (chg_qt hk2)); clear hk2 hm0)
              | (go_at_call 203; (with_reducible refine (Hl2.out _ Hs2.out).mono ?_); rintro e w3 ⟨rfl, k3, hk3⟩; have Hs3 := hide (Hs2.out.qt hk3); have hm3 := order_swap Q w3 Hs3.out.hd; have Hc3 := hide (Hc2.out.trans (chg_qt hk3)); clear hk3))
            go_ret
            exact ⟨_, es', rfl, Hp.out, Hdr.out, Hs3.out, Hc3.out, Hat.out.stop HX.out (fun k h0 hk hpk => by
              have e1 := Hj1.out
              have e2 := Hj2.out
              rcases (show k = j1 ∨ k = j2 by omega) with rfl | rfl
              · exact ord_of Hx0.out Hx1.out (leE.trans (show leE x0 x2 from Hr.out.symm) (leE.of_less Hq.out.symm))
              · exact ord_of Hx0.out Hx2.out Hr.out.symm)⟩
          · go_wp2_with (first
              | (go_at_call 203; (with_reducible refine (Hl1.out _ Hs.out).mono ?_); rintro e w2 ⟨rfl, k2, hk2⟩; have Hs2 := hide (Hs.out.qt hk2); have hm2 := order_less Q w2 Hs2.out.hd; have Hc2 := hide (Hc.out.trans (chg_qt hk2)); clear hk2 hm0)
              | (go_at_call 203; (with_reducible refine (Hl2.out _ Hs2.out).mono ?_); rintro e w3 ⟨rfl, k3, hk3⟩; have Hs3 := hide (Hs2.out.qt hk3); have hm3 := order_swap Q w3 Hs3.out.hd; have Hc3 := hide (Hc2.out.trans (chg_qt hk3)); clear hk3)
              | (go_at_call 204; (with_reducible refine (OSwap_ct B Q A n c es' i j2 _ Hs3.out (by omega) (by omega)).mono ?_); rintro e w4 ⟨rfl, hs4, hc4⟩; have Hs4 := hide hs4; have Hc4 := hide hc4; clear hs4 hc4))
            go_roundw
            case rel => exact ⟨j2, swapL es' i j2, by omega, rfl, (swapL_perm _ _ _).trans Hp.out, (swapL_drop _ (by omega) (by omega)).trans Hdr.out, Hs4.out, Hc3.out.trans (Hc4.out.mono fun x hx => (heapM_perm Hp.out x).1 hx), Hat.out.step HX.out (by omega) (by have e1 := Hj1.out; have e2 := Hj2.out; omega) Hx0.out Hx2.out Hr.out.symm (fun k hk hpk => by
              have e1 := Hj1.out
              have e2 := Hj2.out
              rcases (show k = j1 ∨ k = j2 by omega) with rfl | rfl
              · exact ord_of Hx2.out Hx1.out (leE.of_less Hq.out.symm)
              · exact ord_of Hx2.out Hx2.out (leE.refl _))⟩
            case measure => simp [intOf]; omega
      · have hlb := fun W hW => OLess_ct B Q A n c es' j1 i x1 x0 W hW hx1 hx0
        have Hl2 := hide hlb
        clear hlb hx0 hx1 hs
        obtain ⟨r, hr⟩ : ∃ z, z = lessE x1 x0 := ⟨_, rfl⟩
        rw [← hr] at Hl2
        have Hr := hide hr
        clear hr
        cases r
        · go_wp2_with (first
            | (go_at_call 203; (with_reducible refine (Hl2.out _ Hs.out).mono ?_); rintro e w3 ⟨rfl, k3, hk3⟩; have Hs3 := hide (Hs.out.qt hk3); have hm3 := order_swap Q w3 Hs3.out.hd; have Hc3 := hide (Hc.out.trans (chg_qt hk3)); clear hk3))
          go_ret
          exact ⟨_, es', rfl, Hp.out, Hdr.out, Hs3.out, Hc3.out, Hat.out.stop HX.out (fun k h0 hk hpk => by
            have e1 := Hj1.out
            have e2 := Hj2.out
            obtain rfl : k = j1 := by omega
            exact ord_of Hx0.out Hx1.out Hr.out.symm)⟩
        · go_wp2_with (first
            | (go_at_call 203; (with_reducible refine (Hl2.out _ Hs.out).mono ?_); rintro e w3 ⟨rfl, k3, hk3⟩; have Hs3 := hide (Hs.out.qt hk3); have hm3 := order_swap Q w3 Hs3.out.hd; have Hc3 := hide (Hc.out.trans (chg_qt hk3)); clear hk3)
            | (go_at_call 204; (with_reducible refine (OSwap_ct B Q A n c es' i j1 _ Hs3.out (by omega) (by omega)).mono ?_); rintro e w4 ⟨rfl, hs4, hc4⟩; have Hs4 := hide hs4; have Hc4 := hide hc4; clear hs4 hc4))
          go_roundw
          case rel => exact ⟨j1, swapL es' i j1, by omega, rfl, (swapL_perm _ _ _).trans Hp.out, (swapL_drop _ (by omega) (by omega)).trans Hdr.out, Hs4.out, Hc3.out.trans (Hc4.out.mono fun x hx => (heapM_perm Hp.out x).1 hx), Hat.out.step HX.out (by omega) (by have e1 := Hj1.out; have e2 := Hj2.out; omega) Hx0.out Hx1.out Hr.out.symm (fun k hk hpk => by
              have e1 := Hj1.out
              have e2 := Hj2.out
              obtain rfl : k = j1 := by omega
              exact ord_of Hx1.out Hx1.out (leE.refl _))⟩
          case measure => simp [intOf]; omega
    · clear hs
      go_wp2_with fail
      go_ret
      exact ⟨_, es', rfl, Hp.out, Hdr.out, Hs.out, Hc.out, Hat.out.stop HX.out (fun k h0 hk hpk => by have e1 := Hj1.out; omega)⟩
end Go.Proofs.YtemiecammmbjdaaGreat
namespace Go.Proofs.YtemiecammmbjdaaGreat
set_option linter.unusedVariables false
set_option linter.unusedSimpArgs false
open Go.RowKit
set_option maxRecDepth 100000 in
set_option maxHeartbeats 3200000 in
theorem HFix_ct (B Q : Nat) (A : Option Addr) (n c : Nat) (es : List En) (i : Nat) (w : World) (h : HeapS B w Q A n c es) (hi : i < n) :
    Calls Tryz.prog 98 #[.iface 168 (.pointer (some ⟨Q, 0, none⟩)), .int .i64 i] w (MixP (DownW n es i) B Q A n c es w) := by
  have hm0 := order_len Q w h.hd
  have hdc := HDown_ct B Q A n c n es i w h (Nat.le_refl _) (Nat.le_of_lt hi)
  have Hdc := hide hdc
  clear hdc h
  go_enter Tryz.func98, Tryz.ntmps98
  go_wp2_with (first
    | (go_at_call 202; refine (OLen_ct A n c _).mono ?_; rintro e w' ⟨rfl, rfl⟩)
    | (go_at_call 126; (with_reducible refine Hdc.out.mono ?_); rintro e w2 ⟨b, es2, rfl, hp2, hd2, hs2, hc2, ho2⟩; have Hp2 := hide hp2; have Hs2 := hide hs2; have Hc2 := hide hc2; have Ho2 := hide ho2; clear hp2 hd2 hs2 hc2 ho2)
    | (go_at_call 127; (with_reducible refine (HUp_ct B Q A n c es2 i w2 Hs2.out hi).mono ?_); rintro e w3 ⟨rfl, es3, hp3, hs3, hc3, ho3⟩; have Hp3 := hide hp3; have Hs3 := hide hs3; have Hc3 := hide hc3; have Ho3 := hide ho3; clear hp3 hs3 hc3 ho3))
  · go_end0
    exact ⟨rfl, es3, Hp3.out.trans Hp2.out, Hs3.out, Hc2.out.trans (Hc3.out.mono fun x hx => (heapM_perm Hp2.out x).1 hx), fun x => Ho3.out ((Ho2.out x).2 (by first | rfl | assumption | simp_all))⟩
  · go_end0
    exact ⟨rfl, es2, Hp2.out, Hs2.out, Hc2.out, fun x => (Ho2.out x).1 (by first | rfl | assumption | simp_all)⟩
def HPushP (B Q : Nat) (A : Option Addr) (n : Nat) (es : List En) (x : En) (w : World) (e : Ending) (w' : World) : Prop := e = .returned (.tuple #[]) ∧ ∃ A' c' es', es'.Perm (es ++ [x]) ∧ HeapS B w' Q A' (n + 1) c' es' ∧ Chg (fun b => b = Q ∨ blkA A = some b ∨ (∃ e ∈ es, e.blk = b) ∨ b = x.blk) w w' ∧ (blkA A' = blkA A ∨ ∃ r, blkA A' = some r ∧ w.heap.size ≤ r) ∧ (∀ t cs, Blk t w Q cs → Blk t w' Q (cs.set 0 (.slice A' (n + 1) c'))) ∧ (HO n es → HO (n + 1) es')
set_option maxRecDepth 100000 in
set_option maxHeartbeats 3200000 in
theorem HPush_ct (B Q : Nat) (A : Option Addr) (n c : Nat) (es : List En) (x : En) (z : Value) (w : World) (h : HeapS B w Q A n c es) (hx : Blk 166 w x.blk [.int .u32 x.item, .int .i64 x.key, .int .i64 x.time, z]) (h1 : ∀ e ∈ es, e.blk ≠ x.blk) (h2 : blkA A ≠ some x.blk) (h3 : x.blk ≠ Q)
    (hs : x.item < 4294967296 ∧ -9223372036854775808 ≤ x.key ∧ x.key ≤ 9223372036854775807 ∧ -9223372036854775808 ≤ x.time ∧ x.time ≤ 9223372036854775807) (hn : n ≤ 999999) (hB : B ≤ w.heap.size) :
    Calls Tryz.prog 99 #[.iface 168 (.pointer (some ⟨Q, 0, none⟩)), .iface 163 x.ptr] w (HPushP B Q A n es x w) := by
  have hm0 := order_push Q w
  have hpc := OPush_ct B Q A n c es x z w h hx h1 h2 h3 hs hn hB
  have Hpc := hide hpc
  have Hlen := hide h.len
  have e1 : ((n + 1 : Nat) : Int) - 1 = (n : Int) := by omega
  clear hpc h hx h1 h2 h3 hs
  go_enter Tryz.func99, Tryz.ntmps99
  go_wp2_with (first
    | (go_at_call 206; (with_reducible refine Hpc.out.mono ?_); rintro e w2 ⟨rfl, A2, c2, hs2, hc2, ha2, hb2⟩; have Hb2 := hide hb2; clear hb2; have Hs2 := hide hs2; have Hc2 := hide hc2; have Ha2 := hide ha2; have hm2 := order_len Q w2 hs2.hd; clear hs2 hc2 ha2 hm0)
    | (go_at_call 202; refine (OLen_ct A2 (n + 1) c2 _).mono ?_; rintro e w' ⟨rfl, rfl⟩)
    | (go_at_call 127; (with_reducible refine (HUp_ct B Q A2 (n + 1) c2 (es ++ [x]) n w2 Hs2.out (by omega)).mono ?_); rintro e w3 ⟨rfl, es3, hp3, hs3, hc3, ho3⟩; have Hp3 := hide hp3; have Hs3 := hide hs3; have Hc3 := hide hc3; have Ho3 := hide ho3; clear hp3 hs3 hc3 ho3))
  go_end0
  refine ⟨rfl, A2, c2, es3, Hp3.out, Hs3.out, Chg.trans2 (Hc2.out.mono ?_) Hc3.out ?_, Ha2.out, fun t cs hb => Hc3.out.blk (Hb2.out t cs hb) ?_, fun x' => Ho3.out (x'.more Hlen.out x)⟩
  · rintro b (e | e | e)
    · exact .inl e
    · exact .inr (.inl e)
    · exact .inr (.inr (.inr e))
  · rintro b hb (e | ⟨y, hy, e⟩)
    · rcases Ha2.out with e2 | ⟨r, e2, hle⟩
      · exact .inr (.inl (by rw [← e2, e]))
      · rw [e2] at e
        injection e with e
        omega
    · rcases List.mem_append.1 hy with hy | hy
      · exact .inr (.inr (.inl ⟨y, hy, e⟩))
      · obtain rfl := List.mem_singleton.1 hy
        exact .inr (.inr (.inr e.symm))
  · rintro (e | ⟨y, hy, e⟩)
    · exact Hs2.out.q1 e
    · exact Hs2.out.q2 y hy e
def HPopP (B Q : Nat) (A : Option Addr) (n c : Nat) (es : List En) (w : World) (e : Ending) (w' : World) : Prop := ∃ x es', e = .returned (.iface 163 x.ptr) ∧ (es' ++ [x]).Perm es ∧ HeapS B w' Q A n c es' ∧ Chg (fun b => b = Q ∨ HeapM A es b) w w' ∧ Blk 166 w' x.blk (x.cells n) ∧ (∀ t cs, Blk t w Q cs → Blk t w' Q (cs.set 0 (.slice A n c))) ∧ (HO (n + 1) es → HO n es' ∧ ∀ y ∈ es', leE x y)
set_option maxRecDepth 100000 in
set_option maxHeartbeats 3200000 in
theorem HPop_ct (B Q : Nat) (A : Option Addr) (n c : Nat) (es : List En) (w : World) (h : HeapS B w Q A (n + 1) c es) :
    Calls Tryz.prog 100 #[.iface 168 (.pointer (some ⟨Q, 0, none⟩))] w (HPopP B Q A n c es w) := by
  have hf := h.few
  have HQ := hide (And.intro h.q1 h.q2)
  have Hlen := hide h.len
  have hm0 := order_len Q w h.hd
  have hm1 := order_swap Q w h.hd
  have hsc : Calls Tryz.prog 204 #[.slice A (n + 1) c, .int .i64 0, .int .i64 n] w (SwapP B Q A (n + 1) c es 0 n w) := OSwap_ct B Q A (n + 1) c es 0 n w h (by omega) (by omega)
  have Hsc := hide hsc
  have e1 : ((n + 1 : Nat) : Int) - 1 = (n : Int) := by omega
  clear hsc h
  go_enter Tryz.func100, Tryz.ntmps100
  go_wp2_with (first
    | (go_at_call 202; refine (OLen_ct A (n + 1) c _).mono ?_; rintro e w' ⟨rfl, rfl⟩)
    | (go_at_call 204; (with_reducible refine Hsc.out.mono ?_); rintro e w2 ⟨rfl, hs2, hc2⟩; have Hs2 := hide hs2; have Hc2 := hide hc2; clear hs2 hc2 hm0 hm1)
    | (go_at_call 126; have hdc : Calls Tryz.prog 126 #[.iface 168 (.pointer (some ⟨Q, 0, none⟩)), .int .i64 0, .int .i64 n] w2 (DownP 0 B Q A (n + 1) c n (swapL es 0 n) w2) := HDown_ct B Q A (n + 1) c n (swapL es 0 n) 0 w2 Hs2.out (by omega) (by omega); (with_reducible refine hdc.mono ?_); clear hdc; rintro e w3 ⟨b, es3, rfl, hp3, hd3, hs3, hc3, ho3⟩; have Hp3 := hide hp3; have Hs3 := hide hs3; have Hc3 := hide hc3; have Hd3 := hide hd3; have Ho3 := hide ho3; clear hp3 hd3 hc3 ho3; 
       obtain ⟨es4, x, rfl⟩ : ∃ es4 x, es3 = es4 ++ [x] := ⟨es3.dropLast, es3.getLast (by intro e; have := hs3.len; rw [e] at this; simp at this), (List.dropLast_concat_getLast _).symm⟩; have hm3 := order_pop Q w3; have Hpc := hide (OPop_ct B Q A n c es4 x w3 hs3); clear hs3)
    | (go_at_call 205; (with_reducible refine Hpc.out.mono ?_); rintro e w4 ⟨rfl, hs4, hw4⟩; have Hs4 := hide hs4; have Hw4 := hide hw4; clear hs4 hw4))
  go_ret
  have hx := Hs3.out.ent n x (by rw [List.getElem?_append_right (by have := Hs4.out.len; omega), Hs4.out.len]; simp)
  have hq3 : x.blk ≠ Q := Hs3.out.q2 x (by simp)
  have hp := Hp3.out.trans (swapL_perm _ _ _)
  rw [Hw4.out]
  refine ⟨x, es4, rfl, hp, by rw [← Hw4.out]; exact Hs4.out, ((Hc2.out.mono fun b e => .inr e).trans (Hc3.out.mono fun b e => .inr ((heapM_perm (swapL_perm _ _ _) b).1 e))).trans ((Chg.set _ _ _ _).mono fun b e => .inl e), (Chg.set _ _ _ _).blk hx hq3, fun t cs hb => (Hc3.out.blk (Hc2.out.blk hb ?_) ?_).set 0 _, fun x' => ?_⟩
  · rintro (e | ⟨y, hy, e⟩)
    · exact HQ.out.1 e
    · exact HQ.out.2 y hy e
  · intro e
    rcases (heapM_perm (swapL_perm _ _ _) Q).1 e with e | ⟨y, hy, e⟩
    · exact HQ.out.1 e
    · exact HQ.out.2 y hy e
  · have hl4 := Hs4.out.len
    have hel := Hlen.out
    obtain ⟨r, hr⟩ : ∃ r, es[0]? = some r := ⟨_, List.getElem?_eq_getElem (by omega)⟩
    obtain ⟨z, hz⟩ : ∃ z, es[n]? = some z := ⟨_, List.getElem?_eq_getElem (by omega)⟩
    have hd := Ho3.out (x'.last hr hz)
    have ho : HO n (es4 ++ [x]) := by
      cases b with
      | true => exact hd.1 rfl
      | false => exact (hd.2 rfl).stop (.inl rfl)
    have hxr : x = r := by
      have h1 : ((es4 ++ [x]).drop n)[0]? = ((swapL es 0 n).drop n)[0]? := by rw [Hd3.out]
      rw [List.getElem?_drop, List.getElem?_drop, Nat.add_zero, swap_get hr hz, if_pos rfl, List.getElem?_append_right (by omega), hl4] at h1
      simpa using h1
    refine ⟨ho.congr (fun k hk => by rw [List.getElem?_append_left (by omega)]), fun y hy => ?_⟩
    have hym : y ∈ es := hp.mem_iff.1 (List.mem_append_left _ hy)
    obtain ⟨j, hj⟩ := List.getElem?_of_mem hym
    rw [hxr]
    exact x'.root (by omega) hr j (by have := (List.getElem?_eq_some_iff.1 hj).1; omega) y hj
end Go.Proofs.YtemiecammmbjdaaGreat
