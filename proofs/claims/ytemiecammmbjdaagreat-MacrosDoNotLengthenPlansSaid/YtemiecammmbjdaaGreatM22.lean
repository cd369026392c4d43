/- What the law asks for, part 22: Ol1. -/
import Derived.Test.YtemiecammmbjdaaGreatM1
import Derived.Test.YtemiecammmbjdaaGreatM2
import Derived.Test.YtemiecammmbjdaaGreatM3
import Derived.Test.YtemiecammmbjdaaGreatM10
import Derived.Test.YtemiecammmbjdaaGreatM11
import Derived.Test.YtemiecammmbjdaaGreatM12
import Derived.Test.YtemiecammmbjdaaGreatM13
import Derived.Test.YtemiecammmbjdaaGreatM14
import Derived.BigQuiet
import Derived.Deep.AppendLies
import Derived.Deep.Draws
import Derived.Deep.Fields
import Derived.Deep.LoopGhost
import Derived.Deep.QuietTactic
import Derived.Deep.Slices
import Derived.DeepKeys4
import Derived.Laws.AppendOwnNone
import Derived.Laws.BitsAllLaws
import Derived.Laws.EntriesVeiled
import Derived.Laws.OwnMore
import Derived.Lib.Hide
import Derived.Lib.SlicesCompact
import Derived.LoopIn
import Derived.LoopNIn
import Derived.Maps.AppendAt
import Derived.Maps.OwnIn
import Derived.Maps.OwnOps
import Derived.Maps.OwnSet
import Derived.OwnWalkIn
import Derived.RangeFuncBound
import Derived.RangeFuncCalls
import Derived.RangeFuncLeaves
import Derived.RangeFuncNested
import Derived.Shelf.Abstract
import Derived.Shelf.RegionOpen
import Derived.TacticsInMore
import Derived.Test.YtemiecammmbjdaaGreatProg
import Derived.WalkKit
namespace Go.Proofs.YtemiecammmbjdaaGreat
set_option linter.unusedVariables false
set_option linter.unusedSimpArgs false
open Go.RowKit
/-- an entry: its block, its item, its key, its time -/
structure En where
  blk : Nat
  item : Nat
  key : Int
  time : Int
def En.ptr (e : En) : Value := .pointer (some ⟨e.blk, 0, none⟩)
def En.cells (e : En) (i : Nat) : List Value := [.int .u32 e.item, .int .i64 e.key, .int .i64 e.time, .int .i64 i]
def lessE (a b : En) : Bool := decide (a.key < b.key) || (decide (a.key = b.key) && decide (a.time < b.time))
/-- the heap behind the field at Q: a row of pointers, and the entries -/
structure HeapS (B : Nat) (w : World) (Q : Nat) (A : Option Addr) (n c : Nat) (es : List En) : Prop where
  hd : w.cell? ⟨Q, 0, none⟩ = some (.slice A n c)
  fz : w.frozen? ⟨Q, 0, none⟩ = false
  own : w.ownsRow B 163 1 (.slice A n c) n (es.map En.ptr)
  len : es.length = n
  ent : ∀ (i : Nat) (e : En), es[i]? = some e → Blk 166 w e.blk (e.cells i)
  once : (es.map En.blk).Nodup
  apart : ∀ e ∈ es, blkA A ≠ some e.blk
  q1 : blkA A ≠ some Q
  q2 : ∀ e ∈ es, e.blk ≠ Q
  small : ∀ e ∈ es, e.item < 4294967296 ∧ -9223372036854775808 ≤ e.key ∧ e.key ≤ 9223372036854775807 ∧ -9223372036854775808 ≤ e.time ∧ e.time ≤ 9223372036854775807
  few : n ≤ 1000000
/-- the blocks of a heap -/
def HeapM (A : Option Addr) (es : List En) (b : Nat) : Prop := blkA A = some b ∨ ∃ e ∈ es, e.blk = b
theorem own_set {w : World} {B : Nat} {t : TypeId} {g n c : Nat} {vs : List Value} (h : w.ownsRow B t 1 (.slice (some ⟨g, 0, none⟩) n c) n vs) {i : Nat} (hi : i < n) (u : Value) : (w.setCell ⟨g, i, none⟩ u).ownsRow B t 1 (.slice (some ⟨g, 0, none⟩) n c) n (vs.set i u) := by
  refine ⟨by rw [List.length_set]; exact h.1, ?_⟩
  rcases h.2 with ⟨h3, _⟩ | ⟨r, cap, cur, e1, hr, hc, h5, h6, h7, h8⟩
  · cases h3
  injection e1 with e1 e2 e3
  injection e1 with e1
  injection e1 with e1
  subst e1 e3
  refine .inr ⟨g, c, cur.setIfInBounds i u, rfl, hr, ?_, h5, h6, by simpa using h7, ?_⟩
  · simp [World.setCell, Array.getElem?_modify, hc]
  · rw [← h8]
    simp only [Nat.mul_one, Array.toList_setIfInBounds]
    exact (List.take_set ..)
section
variable {B n c Q : Nat} {w w' : World} {A : Option Addr} {es : List En}
theorem HeapS.get (h : HeapS B w Q A n c es) {i : Nat} (hi : i < n) : ∃ (g : Nat) (e : En), A = some ⟨g, 0, none⟩ ∧ es[i]? = some e ∧ w.cell? ⟨g, i, none⟩ = some e.ptr ∧ Blk 166 w e.blk (e.cells i) := by
  obtain ⟨g, rfl⟩ := own_addr h.own (by omega)
  have hx : es[i]? = some (es[i]'(by rw [h.len]; exact hi)) := List.getElem?_eq_getElem _
  refine ⟨g, _, rfl, hx, ?_, h.ent i _ hx⟩
  have := h.own.cells (g := g) rfl i (es[i]'(by rw [h.len]; exact hi)).ptr (by rw [List.getElem?_map, hx]; rfl)
  rw [add_plain] at this
  simpa using this
theorem HeapS.chg {M : Nat → Prop} (h : HeapS B w Q A n c es) (hc : Chg M w w') (h0 : ¬ M Q) (hM : ∀ b, HeapM A es b → ¬ M b) : HeapS B w' Q A n c es := by
  refine ⟨?_, ?_, hc.own h.own (fun r hr => hM r (.inl (by rw [own_blkA] at hr; exact hr))), h.len, fun i e he => hc.blk (h.ent i e he) (hM _ (.inr ⟨e, List.mem_of_getElem? he, rfl⟩)), h.once, h.apart, h.q1, h.q2, h.small, h.few⟩
  · have hq := World.block_lt_of_cell? w _ h.hd
    rw [← h.hd]
    unfold World.cell?
    rw [hc.block Q hq h0]
  · have hq := World.block_lt_of_cell? w _ h.hd
    rw [← h.fz]
    unfold World.frozen?
    rw [hc.block Q hq h0]
theorem HeapS.keep (h : HeapS B w Q A n c es) (hb : Below w.heap.size w w') : HeapS B w' Q A n c es := h.chg (Chg.of_below hb (fun _ => False)) (fun e => e) (fun _ _ e => e)
end
/-- two places exchanged -/
def swapL {α : Type} (l : List α) (i k : Nat) : List α := match l[i]?, l[k]? with
  | some x, some y => (l.set i y).set k x
  | _, _ => l
theorem swapL_eq {α : Type} {l : List α} {i k : Nat} {x y : α} (hi : l[i]? = some x) (hk : l[k]? = some y) : swapL l i k = (l.set i y).set k x := by
  unfold swapL
  rw [hi, hk]
theorem swapL_perm {α : Type} (l : List α) (i k : Nat) : (swapL l i k).Perm l := by
  unfold swapL
  split
  · rename_i x y hi hk
    obtain ⟨h1, rfl⟩ := List.getElem?_eq_some_iff.1 hi
    obtain ⟨h2, rfl⟩ := List.getElem?_eq_some_iff.1 hk
    exact List.set_set_perm h1 h2
  · exact List.Perm.refl _
theorem order_len (Q : Nat) (w : World) {A : Option Addr} {n c : Nat} (h : w.cell? ⟨Q, 0, none⟩ = some (.slice A n c)) : (method 357 168 (.pointer (some ⟨Q, 0, none⟩)) "Len").run Tryz.prog w = .ok (202, .slice A n c) w := by
  have e : (method 357 168 (.pointer (some ⟨Q, 0, none⟩)) "Len").run Tryz.prog w = (match w.cell? ⟨Q, 0, none⟩ with
    | some v => .ok (202, v) w
    | none => match w.farLoad Tryz.prog ⟨Q, 0, none⟩ false with
      | .ok (v, _) => .ok (202, v) w
      | .error h => .halt h w) := by kernel_rfl
  rw [e, h]
theorem order_less (Q : Nat) (w : World) {A : Option Addr} {n c : Nat} (h : w.cell? ⟨Q, 0, none⟩ = some (.slice A n c)) : (method 357 168 (.pointer (some ⟨Q, 0, none⟩)) "Less").run Tryz.prog w = .ok (203, .slice A n c) w := by
  have e : (method 357 168 (.pointer (some ⟨Q, 0, none⟩)) "Less").run Tryz.prog w = (match w.cell? ⟨Q, 0, none⟩ with
    | some v => .ok (203, v) w
    | none => match w.farLoad Tryz.prog ⟨Q, 0, none⟩ false with
      | .ok (v, _) => .ok (203, v) w
      | .error h => .halt h w) := by kernel_rfl
  rw [e, h]
theorem order_swap (Q : Nat) (w : World) {A : Option Addr} {n c : Nat} (h : w.cell? ⟨Q, 0, none⟩ = some (.slice A n c)) : (method 357 168 (.pointer (some ⟨Q, 0, none⟩)) "Swap").run Tryz.prog w = .ok (204, .slice A n c) w := by
  have e : (method 357 168 (.pointer (some ⟨Q, 0, none⟩)) "Swap").run Tryz.prog w = (match w.cell? ⟨Q, 0, none⟩ with
    | some v => .ok (204, v) w
    | none => match w.farLoad Tryz.prog ⟨Q, 0, none⟩ false with
      | .ok (v, _) => .ok (204, v) w
      | .error h => .halt h w) := by kernel_rfl
  rw [e, h]
theorem order_push (Q : Nat) (w : World) : (method 357 168 (.pointer (some ⟨Q, 0, none⟩)) "Push").run Tryz.prog w = .ok (206, .pointer (some ⟨Q, 0, none⟩)) w := by kernel_rfl
theorem order_pop (Q : Nat) (w : World) : (method 357 168 (.pointer (some ⟨Q, 0, none⟩)) "Pop").run Tryz.prog w = .ok (205, .pointer (some ⟨Q, 0, none⟩)) w := by kernel_rfl
end Go.Proofs.YtemiecammmbjdaaGreat
