/- The closure that marks the literals of a clause: its boxes. -/
import Derived.Test.YtnfeknfakkdbhaaRs4
namespace Go.Proofs.Ytnfeknfakkdbhaa
set_option linter.unusedVariables false
set_option linter.unusedSimpArgs false
open Go.RowKit

theorem Blk.ne {t t' : TypeId} {w : World} {g g' : Nat} {cs cs' : List Value} (h : Blk t w g cs) (h' : Blk t' w g' cs') (ht : t ≠ t') : g ≠ g' := fun e => by
  subst e
  unfold Blk at h h'
  rw [h] at h'
  injection h' with h'
  injection h' with _ h' _
  exact ht h'
theorem own_ne {w : World} {B : Nat} {e t : TypeId} {size n : Nat} {v : Value} {xs : List Value} {g : Nat} {cs : List Value} (ho : w.ownsRow B e size v n xs) (hb : Blk t w g cs) (ht : e ≠ t) : v.ownBlock ≠ some g := fun h => by
  obtain ⟨_, cs', m, hc⟩ := own_block ho h
  unfold Blk at hb
  rw [hb] at hc
  injection hc with hc
  injection hc with _ hc _
  exact ht hc.symm
def Sb (l : List Bool) : Nat → Bool := fun v => l.getD v false
theorem Sb_set {l : List Bool} {q : Nat} (h : q < l.length) : Sb (l.set q true) = setBl (Sb l) q := by
  funext v
  show (l.set q true).getD v false = if v = q then true else l.getD v false
  rw [List.getD_eq_getElem?_getD, List.getD_eq_getElem?_getD, List.getElem?_set]
  by_cases e : q = v
  · rw [if_pos e, if_pos e.symm, if_pos (by omega)]
    rfl
  · rw [if_neg e, if_neg (fun h => e h.symm)]
theorem Sb_get {l : List Bool} {q : Nat} (h : q < l.length) : l[q]? = some (Sb l q) := by
  unfold Sb
  rw [List.getD_eq_getElem?_getD, List.getElem?_eq_getElem h]
  rfl

/-- the boxes that the closure holds -/
structure MkS (w2 w : World) (g V bS bR bP bO bL : Nat) (seen : List Bool) (out : List Int) (left : Nat) (O : Option Addr) (oc : Nat) : Prop where
  below : Below w2.heap.size w2 w
  ge : w2.heap.size ≤ bS ∧ w2.heap.size ≤ bR ∧ w2.heap.size ≤ bP ∧ w2.heap.size ≤ bO ∧ w2.heap.size ≤ bL
  sb : Blk 52 w bS [.slice (some ⟨bR, 0, none⟩) (V + 1) (V + 1)]
  sr : Blk 4 w bR (seen.map Value.bool)
  sl : seen.length = V + 1
  pb : Blk 90 w bP [.pointer (some ⟨g, 0, none⟩)]
  ob : Blk 22 w bO [.slice O out.length oc]
  orow : w.ownsRow w2.heap.size 3 1 (.slice O out.length oc) out.length (out.map (Value.int .i64))
  lb : Blk 3 w bL [.int .i64 (left : Int)]
  ap : blkO O ≠ some bL
section
variable {w2 w w' : World} {g V bS bR bP bO bL : Nat} {seen : List Bool} {out : List Int} {left : Nat} {O : Option Addr} {oc : Nat}
theorem MkS.keep (h : MkS w2 w g V bS bR bP bO bL seen out left O oc) (hb : Below w.heap.size w w') : MkS w2 w' g V bS bR bP bO bL seen out left O oc :=
  ⟨h.below.trans (hb.mono h.below.size), h.ge, h.sb.keep hb, h.sr.keep hb, h.sl, h.pb.keep hb, h.ob.keep hb, own_keep h.orow hb, h.lb.keep hb, h.ap⟩
theorem MkS.facts (h : MkS w2 w g V bS bR bP bO bL seen out left O oc) : w.cell? ⟨bS, 0, none⟩ = some (.slice (some ⟨bR, 0, none⟩) (V + 1) (V + 1)) ∧ w.cell? ⟨bP, 0, none⟩ = some (.pointer (some ⟨g, 0, none⟩)) ∧
    w.cell? ⟨bO, 0, none⟩ = some (.slice O out.length oc) ∧ w.cell? ⟨bL, 0, none⟩ = some (.int .i64 (left : Int)) ∧ bS < w.heap.size ∧ bR < w.heap.size ∧ bP < w.heap.size ∧ bO < w.heap.size ∧ bL < w.heap.size ∧
    w.frozen? ⟨bO, 0, none⟩ = false ∧ w.frozen? ⟨bL, 0, none⟩ = false :=
  ⟨h.sb.cell 0, h.pb.cell 0, h.ob.cell 0, h.lb.cell 0, h.sb.lt, h.sr.lt, h.pb.lt, h.ob.lt, h.lb.lt, h.ob.frozen 0, h.lb.frozen 0⟩
theorem MkS.setSeen (h : MkS w2 w g V bS bR bP bO bL seen out left O oc) (q : Nat) : MkS w2 (w.setCell ⟨bR, q, none⟩ (.bool true)) g V bS bR bP bO bL (seen.set q true) out left O oc := by
  have hb := only_set w bR q (.bool true)
  have hs := h.sr.set q (.bool true)
  rw [← List.map_set] at hs
  exact ⟨h.below.setCell h.ge.2.1 _, h.ge, h.sb.grown hb (fun e => h.sb.ne h.sr (by decide) (by injection e)), hs, by rw [List.length_set, h.sl], h.pb.grown hb (fun e => h.pb.ne h.sr (by decide) (by injection e)),
    h.ob.grown hb (fun e => h.ob.ne h.sr (by decide) (by injection e)), own_other h.orow hb (fun r hr e => own_ne h.orow h.sr (by decide) (by rw [hr, e])), h.lb.grown hb (fun e => h.lb.ne h.sr (by decide) (by injection e)), h.ap⟩
theorem MkS.setLeft (h : MkS w2 w g V bS bR bP bO bL seen out left O oc) (l : Nat) : MkS w2 (w.setCell ⟨bL, 0, none⟩ (.int .i64 (l : Int))) g V bS bR bP bO bL seen out l O oc := by
  have hb := only_set w bL 0 (.int .i64 (l : Int))
  have hs := h.lb.set 0 (.int .i64 (l : Int))
  exact ⟨h.below.setCell h.ge.2.2.2.2 _, h.ge, h.sb.grown hb (fun e => h.sb.ne h.lb (by decide) (by injection e)), h.sr.grown hb (fun e => h.sr.ne h.lb (by decide) (by injection e)), h.sl, h.pb.grown hb (fun e => h.pb.ne h.lb (by decide) (by injection e)),
    h.ob.grown hb (fun e => h.ob.ne h.lb (by decide) (by injection e)), own_other h.orow hb (fun r hr e => h.ap (by rw [← own_blkO O out.length oc, hr, e])), hs, h.ap⟩
theorem MkS.push (h : MkS w2 w g V bS bR bP bO bL seen out left O oc) {x : Int} {O' : Option Addr} {oc' : Nat} {o : Obj}
    (ho : w'.ownsRow w2.heap.size 3 1 (.slice O' (out.length + 1) oc') (out.length + 1) (out.map (Value.int .i64) ++ [.int .i64 x])) (hg : (w.alloc o).grownBy w' (Value.slice O out.length oc).ownBlock)
    (hat : (Value.slice O' (out.length + 1) oc').ownBlock = (Value.slice O out.length oc).ownBlock ∨ (Value.slice O' (out.length + 1) oc').ownBlock = some (w.heap.size + 1)) :
    Blk 22 w' bO [.slice O out.length oc] ∧ MkS w2 (w'.setCell ⟨bO, 0, none⟩ (.slice O' (out.length + 1) oc')) g V bS bR bP bO bL seen (out ++ [x]) left O' oc' := by
  have hb0 : Below w.heap.size w (w.alloc o) := (Below.refl _ _).alloc (Nat.le_refl _) _
  have h1 := h.keep hb0
  have hs := only_set w' bO 0 (.slice O' (out.length + 1) oc')
  have n1 : ∀ {t : TypeId} {b : Nat} {cs : List Value}, Blk t (w.alloc o) b cs → 3 ≠ t → some b ≠ (Value.slice O out.length oc).ownBlock := fun hbk ht e => own_ne h1.orow hbk ht e.symm
  have nL : some bL ≠ (Value.slice O out.length oc).ownBlock := fun e => h.ap (by rw [← own_blkO O out.length oc, ← e])
  have b1 : Below w2.heap.size w2 w' := h1.below.grown hg (by have := h1.below.size; exact this) (fun k hk => own_base h1.orow hk)
  have ob' := h1.ob.grown hg (n1 h1.ob (by decide))
  have sb' := h1.sb.grown hg (n1 h1.sb (by decide))
  have sr' := h1.sr.grown hg (n1 h1.sr (by decide))
  have pb' := h1.pb.grown hg (n1 h1.pb (by decide))
  have lb' := h1.lb.grown hg nL
  refine ⟨ob', b1.setCell h.ge.2.2.2.1 _, h.ge, sb'.grown hs (fun e => sb'.ne ob' (by decide) (by injection e)), sr'.grown hs (fun e => sr'.ne ob' (by decide) (by injection e)), h.sl, pb'.grown hs (fun e => pb'.ne ob' (by decide) (by injection e)), ?_, ?_, lb'.grown hs (fun e => lb'.ne ob' (by decide) (by injection e)), ?_⟩
  · have := ob'.set 0 (.slice O' (out.length + 1) oc')
    simpa using this
  · have := own_other ho hs (fun r hr e => own_ne ho ob' (by decide) (by rw [hr, e]))
    simpa using this
  · rw [own_blkO, own_blkO] at hat
    rcases hat with hat | hat
    · rw [hat]
      exact h.ap
    · rw [hat]
      intro e
      injection e with e
      have := h.lb.lt
      omega
end
end Go.Proofs.Ytnfeknfakkdbhaa
