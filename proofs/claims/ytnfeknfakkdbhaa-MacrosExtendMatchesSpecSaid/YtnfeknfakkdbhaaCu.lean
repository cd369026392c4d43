/- Combined (skeleton). -/
import Derived.Test.YtnfeknfakkdbhaaCs
import Derived.Test.YtnfeknfakkdbhaaCr
import Derived.Test.YtnfeknfakkdbhaaMh
namespace Go.Proofs.Ytnfeknfakkdbhaa
set_option linter.unusedVariables false
set_option linter.unusedSimpArgs false
open Go.RowKit

def zeroOpV : List Value := [.slice none 0 0, .slice none 0 0, .slice none 0 0, .int .i64 0]
/-- what stands while the facts are gone through -/
structure CmS (w W : World) (tc : List Value) (gT H : Nat) (r s t : Ro) : Prop where
  par : Blk 25 W gT tc
  res : Blk 27 W (gT + 1) zeroOpV
  out : Blk 27 W (gT + 1 + 1) [.slice r.A r.n r.c, .slice s.A s.n s.c, .slice t.A t.n t.c, .int .i64 0]
  low : Below w.heap.size w W
  rows : R3 H W r s t
  g1 : gT = w.heap.size
  g2 : gT + 1 + 1 < H
section
variable {w W W' : World} {tc : List Value} {gT H : Nat} {r s t : Ro}
theorem CmS.keep (h : CmS w W tc gT H r s t) (hb : Below W.heap.size W W') : CmS w W' tc gT H r s t :=
  ⟨h.par.keep hb, h.res.keep hb, h.out.keep hb, h.low.trans (hb.mono h.low.size), h.rows.keep hb, h.g1, h.g2⟩
theorem CmS.qt (h : CmS w W tc gT H r s t) (hb : Qt W W') : CmS w W' tc gT H r s t := h.keep (hb.below _)
theorem CmS.grown (h : CmS w W tc gT H r s t) {A : Option Addr} (hA : ∀ q, blkA A = some q → H ≤ q) (hch : Chg (fun b => blkA A = some b) W W') : Blk 25 W' gT tc ∧ Blk 27 W' (gT + 1) zeroOpV ∧ Blk 27 W' (gT + 1 + 1) [.slice r.A r.n r.c, .slice s.A s.n s.c, .slice t.A t.n t.c, .int .i64 0] ∧ Below w.heap.size w W' := by
  have g1 := h.g1
  have g2 := h.g2
  have hn : ∀ g, g < H → ¬ blkA A = some g := fun g hg e => by have := hA g e; omega
  exact ⟨hch.blk h.par (hn _ (by omega)), hch.blk h.res (hn _ (by omega)), hch.blk h.out (hn _ g2), row_below h.low h.low.size hch (fun q hq => by have := hA q hq; omega)⟩
/-- the first row has grown, and its field is stored -/
theorem CmS.push1 (h : CmS w W tc gT H r s t) {O : Option Addr} {oc : Nat} {vs : List Value} {l : List Int} (hown : OwnE Enc.int 3 H (fun b => (H ≤ b) ∨ W.heap.size ≤ b) W' O (r.n + 1) oc vs l) (hch : Chg (fun b => blkA r.A = some b) W W') (hat : blkA O = blkA r.A ∨ blkA O = some (W.heap.size + 1)) :
    CmS w (W'.setCell ⟨gT + 1 + 1, 0, none⟩ (.slice O (r.n + 1) oc)) tc gT H ⟨O, r.n + 1, oc, vs, l⟩ s t := by
  have g1 := h.g1
  obtain ⟨b1, b2, b3, b4⟩ := h.grown (fun q hq => (h.rows.r1.base hq).1) hch
  have hout := b3.set 0 (.slice O (r.n + 1) oc)
  simp only [List.set_cons_zero, List.set_cons_succ] at hout
  exact ⟨b1.far (p := ⟨gT + 1 + 1, 0, none⟩) (by show gT ≠ gT + 1 + 1; omega) _, b2.far (p := ⟨gT + 1 + 1, 0, none⟩) (by show gT + 1 ≠ gT + 1 + 1; omega) _, hout, below_set b4 (by omega) 0 _, (h.rows.push hown hch hat).set h.g2 0 _, h.g1, h.g2⟩
theorem CmS.push2 (h : CmS w W tc gT H r s t) {O : Option Addr} {oc : Nat} {vs : List Value} {l : List Int} (hown : OwnE Enc.int 3 H (fun b => (H ≤ b) ∨ W.heap.size ≤ b) W' O (s.n + 1) oc vs l) (hch : Chg (fun b => blkA s.A = some b) W W') (hat : blkA O = blkA s.A ∨ blkA O = some (W.heap.size + 1)) :
    CmS w (W'.setCell ⟨gT + 1 + 1, 1, none⟩ (.slice O (s.n + 1) oc)) tc gT H r ⟨O, s.n + 1, oc, vs, l⟩ t := by
  have g1 := h.g1
  obtain ⟨b1, b2, b3, b4⟩ := h.grown (fun q hq => (h.rows.r2.base hq).1) hch
  have hout := b3.set 1 (.slice O (s.n + 1) oc)
  simp only [List.set_cons_zero, List.set_cons_succ] at hout
  exact ⟨b1.far (p := ⟨gT + 1 + 1, 1, none⟩) (by show gT ≠ gT + 1 + 1; omega) _, b2.far (p := ⟨gT + 1 + 1, 1, none⟩) (by show gT + 1 ≠ gT + 1 + 1; omega) _, hout, below_set b4 (by omega) 1 _, ((h.rows.rot.push hown hch hat).rot.rot).set h.g2 1 _, h.g1, h.g2⟩
theorem CmS.push3 (h : CmS w W tc gT H r s t) {O : Option Addr} {oc : Nat} {vs : List Value} {l : List Int} (hown : OwnE Enc.int 3 H (fun b => (H ≤ b) ∨ W.heap.size ≤ b) W' O (t.n + 1) oc vs l) (hch : Chg (fun b => blkA t.A = some b) W W') (hat : blkA O = blkA t.A ∨ blkA O = some (W.heap.size + 1)) :
    CmS w (W'.setCell ⟨gT + 1 + 1, 2, none⟩ (.slice O (t.n + 1) oc)) tc gT H r s ⟨O, t.n + 1, oc, vs, l⟩ := by
  have g1 := h.g1
  obtain ⟨b1, b2, b3, b4⟩ := h.grown (fun q hq => (h.rows.r3.base hq).1) hch
  have hout := b3.set 2 (.slice O (t.n + 1) oc)
  simp only [List.set_cons_zero, List.set_cons_succ] at hout
  exact ⟨b1.far (p := ⟨gT + 1 + 1, 2, none⟩) (by show gT ≠ gT + 1 + 1; omega) _, b2.far (p := ⟨gT + 1 + 1, 2, none⟩) (by show gT + 1 ≠ gT + 1 + 1; omega) _, hout, below_set b4 (by omega) 2 _, ((h.rows.rot.rot.push hown hch hat).rot).set h.g2 2 _, h.g1, h.g2⟩
end
end Go.Proofs.Ytnfeknfakkdbhaa
