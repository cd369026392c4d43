/- What the law asks for, part 8: Mc1 Cn. -/
import Derived.Test.YtemiecammmbjdaaGreatL2
import Derived.Test.YtemiecammmbjdaaGreatL3
import Derived.Test.YtemiecammmbjdaaGreatL4
import Derived.Test.YtemiecammmbjdaaGreatL6
import Derived.Test.YtemiecammmbjdaaGreatL7
import Derived.BigQuiet
import Derived.Deep.AppendLies
import Derived.Deep.Draws
import Derived.Deep.Fields
import Derived.Deep.LoopGhost
import Derived.Deep.QuietTactic
import Derived.Deep.RegionHeld3
import Derived.Deep.Slices
import Derived.Ground.Names2Prog
import Derived.Ground.SlgnProg
import Derived.Ground.SlsfProg
import Derived.IntWalk
import Derived.Laws.AppendOwnNone
import Derived.Laws.OwnMore
import Derived.Lib.Hide
import Derived.Lib.SlicesCompact
import Derived.Maps.AppendAt
import Derived.Shelf.Slices.Cells
import Derived.Shelf.Slices.Clone
import Derived.Shelf.Slices.CompactI
import Derived.Shelf.Slices.Empties
import Derived.Shelf.Slices.In.SortNone
import Derived.Shelf.Slices.SearchI
import Derived.Shelf.Sort.Plain
import Derived.Sort.OwnSortedInts
import Derived.Test.YtemiecammmbjdaaGreatProg
import Derived.WalkKit
namespace Go.Proofs.YtemiecammmbjdaaGreat
set_option linter.unusedVariables false
set_option linter.unusedSimpArgs false
open Go.RowKit
theorem takeM {P : Program} {md : Region.Mode} {ops : Array Oper} {Q : Exit → Act → World → Prop} {S : World → Prop} {i : Nat} {oi : Oper} {v : Value} {fuel : Nat} {listed : Array Bool} {a : Act} {w : World} (d : Option Tmp) (hi : ops[i]? = some oi) (hd : oi.dst = d)
    (hs : Region.noSelect ops = true) (hf : Region.free md ops listed i = true) (hr : (Region.ready md ops listed).contains i = true)
    (hQ : ∀ c a w, Q (.panic c) (a.put d v) w → Q (.panic c) a w) (hy : YieldsIf P ops S oi v a) (hS : S w)
    (h : wpAnyH P md ops Q S fuel (listed.setIfInBounds i true) (a.put d v) w) : wpAnyH P md ops Q S (fuel + 1) listed a w := by
  subst hd
  exact wpAnyH_take hi hs hf hr hQ hy hS h
def opAt (os : List Opr) (i : Int) : Opr := os.getD i.toNat ⟨[], [], [], 0⟩
theorem opAt_eq {os : List Opr} {k : Nat} {o : Opr} (h : os[k]? = some o) : opAt os (k : Int) = o := by
  unfold opAt
  rw [Int.toNat_natCast, List.getD_eq_getElem?_getD, h]
  rfl
/-- the sets of an operator lie below n -/
structure SetOp (n : Nat) (o : Opr) : Prop where
  pre : setB n o.pre = true
  add : setB n o.add = true
  del : setB n o.del = true
theorem OkOp.sets {n : Nat} {o : Opr} (h : OkOp n o) : SetOp n o := ⟨h.pre, h.add, h.del⟩
section
variable {X : Nat} {w w' : World} {A : Option Addr} {n c : Nat} {l : List Int}
end
section
variable {X : Nat} {w w' : World} {A : Option Addr} {n c : Nat} {l : List Int}
end
theorem below_set {B : Nat} {w w' : World} (h : Below B w w') {g : Nat} (hg : B ≤ g) (i : Nat) (u : Value) : Below B w (w'.setCell ⟨g, i, none⟩ u) := h.setCell hg u
end Go.Proofs.YtemiecammmbjdaaGreat
namespace Go.Proofs.YtemiecammmbjdaaGreat
set_option linter.unusedVariables false
set_option linter.unusedSimpArgs false
open Go.RowKit
/-- a slice that reads as l, whatever happens to blocks of M -/
def RdM (M : Nat → Prop) (w : World) (A : Option Addr) (n c : Nat) (l : List Int) : Prop := ∀ w', Chg M w w' → Rd Enc.int w' A n c l
section
variable {M M' : Nat → Prop} {w w' : World} {A : Option Addr} {n c : Nat} {l : List Int}
theorem RdM.rd (h : RdM M w A n c l) : Rd Enc.int w A n c l := h w (Chg.refl _ _)
theorem RdM.chg (h : RdM M w A n c l) (hc : Chg M w w') : RdM M w' A n c l := fun w'' hk => h w'' (hc.trans hk)
theorem RdM.keep (h : RdM M w A n c l) (hb : Below w.heap.size w w') : RdM M w' A n c l := h.chg (Chg.of_below hb _)
theorem RdM.qt (h : RdM M w A n c l) (hb : Qt w w') : RdM M w' A n c l := h.keep (hb.below _)
theorem RdM.mono (h : RdM M w A n c l) (hM : ∀ i, i < w.heap.size → M' i → M i) : RdM M' w A n c l := fun w' hc => h w' ⟨hc.os, hc.tape, hc.output, hc.size, fun i hi hn => hc.block i hi (fun e => hn (hM i hi e))⟩
theorem RdM.set (h : RdM M w A n c l) {Y : Nat} (hY : M Y) (i : Nat) (u : Value) : RdM M (w.setCell ⟨Y, i, none⟩ u) A n c l := h.chg ((Chg.set w Y i u).mono fun b e => e ▸ hY)
theorem RdM.own {B : Nat} {t : TypeId} (h : w.ownsRow B t 1 (.slice A n c) n (l.map (Value.int .i64))) (hB : ∀ r, blkA A = some r → ¬ M r) (hl : l.length = n) (hr : ∀ x ∈ l, -9223372036854775808 ≤ x ∧ x ≤ 9223372036854775807) : RdM M w A n c l := fun w' hc =>
  own_rd (hc.own h (fun r hr => hB r (by rw [own_blkA] at hr; exact hr))) hl hr
end
end Go.Proofs.YtemiecammmbjdaaGreat
