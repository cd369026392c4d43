/- What the law asks for, part 11: Rs1. -/
import Derived.Test.YtemiecammmbjdaaGreatL1
import Derived.Test.YtemiecammmbjdaaGreatL2
import Derived.Test.YtemiecammmbjdaaGreatL4
import Derived.Test.YtemiecammmbjdaaGreatL5
import Derived.BigQuiet
import Derived.Deep.AppendLies
import Derived.Deep.Draws
import Derived.Deep.Fields
import Derived.Deep.LoopGhost
import Derived.Deep.QuietTactic
import Derived.Deep.Slices
import Derived.Laws.AppendOwnNone
import Derived.Laws.OwnMore
import Derived.Lib.Hide
import Derived.Maps.AppendAt
import Derived.Test.YtemiecammmbjdaaGreatProg
import Derived.WalkKit
import Init
namespace Go.Proofs.YtemiecammmbjdaaGreat
set_option linter.unusedVariables false
open Go.RowKit
/-- where the solver's rows lie -/
structure SA where
  gv : Nat
  gl : Nat
  gr : Nat
  L : Option Addr
  lc : Nat
  D : Option Addr
  dc : Nat
  T : Option Addr
  tc : Nat
  S : Option Addr
  sc : Nat
def blkO (A : Option Addr) : Option Nat := A.map (·.block)
theorem own_blkO (A : Option Addr) (n c : Nat) : (Value.slice A n c).ownBlock = blkO A := by cases A <;> rfl
/-- the blocks that the solver writes to -/
def ro (g : Nat) (a : SA) : Nat → Option Nat
  | 0 => some g
  | 1 => some a.gv
  | 2 => some a.gl
  | 3 => some a.gr
  | 4 => blkO a.T
  | 5 => blkO a.S
  | 6 => blkO a.L
  | 7 => blkO a.D
  | _ => none
def Mine (g : Nat) (a : SA) (b : Nat) : Prop := ∃ i, ro g a i = some b
/-- rows of ints, read out of a row of the solver's own; none of them in a block of M -/
def Rows (B : Nat) (w : World) (M : Nat → Prop) (A : Option Addr) (n c : Nat) (cs : List (List Int)) : Prop :=
  ∃ xs : List Value, w.ownsRow B 22 1 (.slice A n c) n xs ∧ cs.length = n ∧ ∀ (i : Nat) (x : List Int), cs[i]? = some x → ∃ A' n' c', xs[i]? = some (Value.slice A' n' c') ∧ Rd Enc.int w A' n' c' x ∧ ∀ b off, A' = some ⟨b, off, none⟩ → 0 < n' → ¬ M b
structure Sv (B : Nat) (w : World) (g : Nat) (a : SA) (V : Nat) (cs ln : List (List Int)) (vals lev rea t : List Int) (starts : List Nat) : Prop where
  ge : ∀ i r, ro g a i = some r → B ≤ r
  ap : ∀ i j r, ro g a i = some r → ro g a j = some r → i = j
  blk : Blk 140 w g [.int .i64 V, .slice a.L cs.length a.lc, .slice a.D ln.length a.dc, .slice (some ⟨a.gv, 0, none⟩) (V + 1) (V + 1), .slice (some ⟨a.gl, 0, none⟩) (V + 1) (V + 1), .slice (some ⟨a.gr, 0, none⟩) (V + 1) (V + 1), .slice a.T t.length a.tc, .slice a.S starts.length a.sc]
  val : BlkI 3 w a.gv vals
  vlen : vals.length = V + 1
  lvl : BlkI 3 w a.gl lev
  llen : lev.length = V + 1
  rsn : BlkI 3 w a.gr rea
  rlen : rea.length = V + 1
  trl : w.ownsRow B 3 1 (.slice a.T t.length a.tc) t.length (t.map (Value.int .i64))
  sts : w.ownsRow B 3 1 (.slice a.S starts.length a.sc) starts.length (starts.map fun s : Nat => Value.int .i64 (s : Int))
  lst : Rows B w (Mine g a) a.L cs.length a.lc cs
  lrn : Rows B w (Mine g a) a.D ln.length a.dc ln
section
variable {B : Nat} {w w' : World} {g : Nat} {a : SA} {V : Nat} {cs ln : List (List Int)} {vals lev rea t : List Int} {starts : List Nat}
theorem rd_heap {α : Type} {E : Enc α} {A : Option Addr} {n c : Nat} {xs : List α} (h : Rd E w A n c xs) (hn : 0 < n) (hE : 0 < E.size) : ∃ b off, A = some ⟨b, off, none⟩ ∧ b < w.heap.size := by
  obtain ⟨b, off, e, hc⟩ := h.at_ hn
  have hx : xs[0]? = some (xs[0]'(by rw [h.len]; exact hn)) := List.getElem?_eq_getElem _
  obtain ⟨vs, ho, hv⟩ := hc 0 _ hx
  have hl := E.len ho
  have := hv 0 (vs[0]'(by omega)) (List.getElem?_eq_getElem _)
  exact ⟨b, off, e, World.block_lt_of_cell? w _ this⟩
theorem Rows.keep {M : Nat → Prop} {A : Option Addr} {n c : Nat} {xs : List (List Int)} (h : Rows B w M A n c xs) (hb : Below w.heap.size w w') : Rows B w' M A n c xs := by
  obtain ⟨vs, h1, h2, h3⟩ := h
  refine ⟨vs, own_keep h1 hb, h2, fun i x hx => ?_⟩
  obtain ⟨A', n', c', e1, e2, e3⟩ := h3 i x hx
  exact ⟨A', n', c', e1, e2.keep hb, e3⟩
/-- behind writes to one block of M, that is not the row's own -/
theorem Rows.other {M : Nat → Prop} {A : Option Addr} {n c : Nat} {xs : List (List Int)} (h : Rows B w M A n c xs) {row : Option Nat} (hr : ∀ r, row = some r → M r) (hb : w.grownBy w' row) (hne : ∀ r, blkO A = some r → row ≠ some r) : Rows B w' M A n c xs := by
  obtain ⟨vs, h1, h2, h3⟩ := h
  refine ⟨vs, own_other h1 hb (fun q hq e => hne q (by rw [own_blkO] at hq; exact hq) e.symm), h2, fun j x hx => ?_⟩
  obtain ⟨A', n', c', e1, e2, e3⟩ := h3 j x hx
  refine ⟨A', n', c', e1, e2.block (fun _ _ h => h) (fun b off e hn => ?_), e3⟩
  obtain ⟨b', off', e', hlt⟩ := rd_heap e2 hn (by decide)
  rw [e] at e'
  injection e' with e'
  injection e' with e' _
  subst e'
  exact hb.block b hlt (fun e4 => e3 b off e hn (hr b e4.symm))
theorem Rows.mono {M M' : Nat → Prop} {A : Option Addr} {n c : Nat} {xs : List (List Int)} (h : Rows B w M A n c xs) (hM : ∀ b, M' b → M b) : Rows B w M' A n c xs := by
  obtain ⟨vs, h1, h2, h3⟩ := h
  refine ⟨vs, h1, h2, fun j x hx => ?_⟩
  obtain ⟨A', n', c', e1, e2, e3⟩ := h3 j x hx
  exact ⟨A', n', c', e1, e2, fun b off e hn hm => e3 b off e hn (hM b hm)⟩
/-- more blocks, none of them there yet -/
theorem Rows.more {M M' : Nat → Prop} {A : Option Addr} {n c : Nat} {xs : List (List Int)} (h : Rows B w M A n c xs) (hM : ∀ b, M' b → M b ∨ w.heap.size ≤ b) : Rows B w M' A n c xs := by
  obtain ⟨vs, h1, h2, h3⟩ := h
  refine ⟨vs, h1, h2, fun j x hx => ?_⟩
  obtain ⟨A', n', c', e1, e2, e3⟩ := h3 j x hx
  refine ⟨A', n', c', e1, e2, fun b off e hn hm => ?_⟩
  obtain ⟨b', off', e', hlt⟩ := rd_heap e2 hn (by decide)
  rw [e] at e'
  injection e' with e'
  injection e' with e' _
  subst e'
  rcases hM b hm with h | h
  · exact e3 b off e hn h
  · omega
theorem Sv.keep (h : Sv B w g a V cs ln vals lev rea t starts) (hb : Below w.heap.size w w') : Sv B w' g a V cs ln vals lev rea t starts :=
  ⟨h.ge, h.ap, h.blk.keep hb, h.val.keep hb, h.vlen, h.lvl.keep hb, h.llen, h.rsn.keep hb, h.rlen, own_keep h.trl hb, own_keep h.sts hb, h.lst.keep hb, h.lrn.keep hb⟩
theorem Sv.lt (h : Sv B w g a V cs ln vals lev rea t starts) {i r : Nat} (hr : ro g a i = some r) : r < w.heap.size := by
  match i, hr with
  | 0, hr => injection hr with hr; subst hr; exact h.blk.lt
  | 1, hr => injection hr with hr; subst hr; exact h.val.lt
  | 2, hr => injection hr with hr; subst hr; exact h.lvl.lt
  | 3, hr => injection hr with hr; subst hr; exact h.rsn.lt
  | 4, hr => exact (own_block h.trl (by rw [own_blkO]; exact hr)).1
  | 5, hr => exact (own_block h.sts (by rw [own_blkO]; exact hr)).1
  | 6, hr => obtain ⟨vs, h1, _⟩ := h.lst; exact (own_block h1 (by rw [own_blkO]; exact hr)).1
  | 7, hr => obtain ⟨vs, h1, _⟩ := h.lrn; exact (own_block h1 (by rw [own_blkO]; exact hr)).1
/-- two roles lie apart -/
theorem Sv.ne (h : Sv B w g a V cs ln vals lev rea t starts) {i j r : Nat} (hij : i ≠ j) (hi : ro g a i = some r) : ro g a j ≠ some r := fun hj => hij (h.ap i j r hi hj)
theorem mine {i r : Nat} (hr : ro g a i = some r) : ∀ q, some r = some q → Mine g a q := fun q e => by injection e with e; subst e; exact ⟨i, hr⟩
/-- behind writes to a block of the solver's: what does not lie there stands -/
theorem Sv.setVal (h : Sv B w g a V cs ln vals lev rea t starts) (v : Nat) (x : Int) : Sv B (w.setCell ⟨a.gv, v, none⟩ (.int .i64 x)) g a V cs ln (vals.set v x) lev rea t starts := by
  have hb := only_set w a.gv v (.int .i64 x)
  have hr : ro g a 1 = some a.gv := rfl
  have ne : ∀ j, j ≠ 1 → ro g a j ≠ some a.gv := fun j hj => h.ne (Ne.symm hj) hr
  exact ⟨h.ge, h.ap, h.blk.grown hb (ne 0 (by decide)), h.val.set v x, by rw [List.length_set, h.vlen], h.lvl.grown hb (ne 2 (by decide)), h.llen, h.rsn.grown hb (ne 3 (by decide)), h.rlen,
    own_other h.trl hb (fun q hq e => ne 4 (by decide) (by rw [own_blkO] at hq; rw [← e]; exact hq)), own_other h.sts hb (fun q hq e => ne 5 (by decide) (by rw [own_blkO] at hq; rw [← e]; exact hq)),
    h.lst.other (mine hr) hb (fun q hq e => ne 6 (by decide) (by injection e with e; rw [e]; exact hq)), h.lrn.other (mine hr) hb (fun q hq e => ne 7 (by decide) (by injection e with e; rw [e]; exact hq))⟩
theorem Sv.setLev (h : Sv B w g a V cs ln vals lev rea t starts) (v : Nat) (x : Int) : Sv B (w.setCell ⟨a.gl, v, none⟩ (.int .i64 x)) g a V cs ln vals (lev.set v x) rea t starts := by
  have hb := only_set w a.gl v (.int .i64 x)
  have hr : ro g a 2 = some a.gl := rfl
  have ne : ∀ j, j ≠ 2 → ro g a j ≠ some a.gl := fun j hj => h.ne (Ne.symm hj) hr
  exact ⟨h.ge, h.ap, h.blk.grown hb (ne 0 (by decide)), h.val.grown hb (ne 1 (by decide)), h.vlen, h.lvl.set v x, by rw [List.length_set, h.llen], h.rsn.grown hb (ne 3 (by decide)), h.rlen,
    own_other h.trl hb (fun q hq e => ne 4 (by decide) (by rw [own_blkO] at hq; rw [← e]; exact hq)), own_other h.sts hb (fun q hq e => ne 5 (by decide) (by rw [own_blkO] at hq; rw [← e]; exact hq)),
    h.lst.other (mine hr) hb (fun q hq e => ne 6 (by decide) (by injection e with e; rw [e]; exact hq)), h.lrn.other (mine hr) hb (fun q hq e => ne 7 (by decide) (by injection e with e; rw [e]; exact hq))⟩
theorem Sv.setRea (h : Sv B w g a V cs ln vals lev rea t starts) (v : Nat) (x : Int) : Sv B (w.setCell ⟨a.gr, v, none⟩ (.int .i64 x)) g a V cs ln vals lev (rea.set v x) t starts := by
  have hb := only_set w a.gr v (.int .i64 x)
  have hr : ro g a 3 = some a.gr := rfl
  have ne : ∀ j, j ≠ 3 → ro g a j ≠ some a.gr := fun j hj => h.ne (Ne.symm hj) hr
  exact ⟨h.ge, h.ap, h.blk.grown hb (ne 0 (by decide)), h.val.grown hb (ne 1 (by decide)), h.vlen, h.lvl.grown hb (ne 2 (by decide)), h.llen, h.rsn.set v x, by rw [List.length_set, h.rlen],
    own_other h.trl hb (fun q hq e => ne 4 (by decide) (by rw [own_blkO] at hq; rw [← e]; exact hq)), own_other h.sts hb (fun q hq e => ne 5 (by decide) (by rw [own_blkO] at hq; rw [← e]; exact hq)),
    h.lst.other (mine hr) hb (fun q hq e => ne 6 (by decide) (by injection e with e; rw [e]; exact hq)), h.lrn.other (mine hr) hb (fun q hq e => ne 7 (by decide) (by injection e with e; rw [e]; exact hq))⟩
/-- a row of the solver's has grown, and perhaps moved -/
theorem ro_T {O : Option Addr} {oc : Nat} (i : Nat) : ro g { a with T := O, tc := oc } i = if i = 4 then blkO O else ro g a i := by
  match i with
  | 0 | 1 | 2 | 3 | 4 | 5 | 6 | 7 => rfl
  | (n + 8) => rfl
theorem ro_S {O : Option Addr} {oc : Nat} (i : Nat) : ro g { a with S := O, sc := oc } i = if i = 5 then blkO O else ro g a i := by
  match i with
  | 0 | 1 | 2 | 3 | 4 | 5 | 6 | 7 => rfl
  | (n + 8) => rfl
theorem ro_L {O : Option Addr} {oc : Nat} (i : Nat) : ro g { a with L := O, lc := oc } i = if i = 6 then blkO O else ro g a i := by
  match i with
  | 0 | 1 | 2 | 3 | 4 | 5 | 6 | 7 => rfl
  | (n + 8) => rfl
theorem ro_D {O : Option Addr} {oc : Nat} (i : Nat) : ro g { a with D := O, dc := oc } i = if i = 7 then blkO O else ro g a i := by
  match i with
  | 0 | 1 | 2 | 3 | 4 | 5 | 6 | 7 => rfl
  | (n + 8) => rfl
theorem roles_grown {a' : SA} {k : Nat} {O : Option Addr} (hro : ∀ i, ro g a' i = if i = k then blkO O else ro g a i) (ap : ∀ i j r, ro g a i = some r → ro g a j = some r → i = j) (lt : ∀ i r, ro g a i = some r → r < w.heap.size)
    (hat : blkO O = ro g a k ∨ blkO O = some (w.heap.size + 1)) : (∀ i j r, ro g a' i = some r → ro g a' j = some r → i = j) ∧ ∀ i r, ro g a' i = some r → (∃ j, ro g a j = some r) ∨ w.heap.size ≤ r := by
  have key : ∀ i r, ro g a' i = some r → (ro g a i = some r) ∨ (i = k ∧ r = w.heap.size + 1) := fun i r hi => by
    rw [hro] at hi
    split at hi
    · rename_i e
      subst e
      rcases hat with hat | hat
      · exact .inl (hat ▸ hi)
      · rw [hat] at hi
        injection hi with hi
        exact .inr ⟨rfl, hi.symm⟩
    · exact .inl hi
  refine ⟨fun i j r hi hj => ?_, fun i r hi => ?_⟩
  · rcases key i r hi with h1 | ⟨h1, h1'⟩ <;> rcases key j r hj with h2 | ⟨h2, h2'⟩
    · exact ap i j r h1 h2
    · have := lt i r h1
      omega
    · have := lt j r h2
      omega
    · omega
  · rcases key i r hi with h1 | ⟨h1, h1'⟩
    · exact .inl ⟨i, h1⟩
    · exact .inr (by omega)
end
end Go.Proofs.YtemiecammmbjdaaGreat
