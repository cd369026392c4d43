/- The law HierarchyPlanMatchesSpec of the package hierarchy holds, without a condition., part 15: Mc1 Cn. -/
import Derived.Test.YtmjiiddncbhgpaaGreatF1
import Derived.Test.YtmjiiddncbhgpaaGreatF2
import Derived.Test.YtmjiiddncbhgpaaGreatF3
import Derived.Test.YtmjiiddncbhgpaaGreatF13
import Derived.Test.YtmjiiddncbhgpaaGreatF14
import Derived.BigQuiet
import Derived.Deep.AppendLies
import Derived.Deep.Draws
import Derived.Deep.Fields
import Derived.Deep.LoopGhost
import Derived.Deep.QuietTactic
import Derived.Deep.RegionHeld3
import Derived.Deep.Slices
import Derived.Ground.Names2Prog
import Derived.Ground.SlgnProg
import Derived.Ground.SlsfProg
import Derived.IntWalk
import Derived.Laws.AppendOwnNone
import Derived.Laws.OwnMore
import Derived.Lib.Hide
import Derived.Lib.SlicesCompact
import Derived.Maps.AppendAt
import Derived.Shelf.Slices.Cells
import Derived.Shelf.Slices.Clone
import Derived.Shelf.Slices.CompactI
import Derived.Shelf.Slices.Empties
import Derived.Shelf.Slices.In.SortNone
import Derived.Shelf.Slices.SearchI
import Derived.Shelf.Sort.Plain
import Derived.Sort.OwnSortedInts
import Derived.Test.YtmjiiddncbhgpaaGreatProg
import Derived.WalkKit
namespace Go.Proofs.YtmjiiddncbhgpaaGreat
set_option linter.unusedVariables false
set_option linter.unusedSimpArgs false
open Go.RowKit
def opAt (os : List Opr) (i : Int) : Opr := os.getD i.toNat ⟨[], [], [], 0⟩
theorem opAt_eq {os : List Opr} {k : Nat} {o : Opr} (h : os[k]? = some o) : opAt os (k : Int) = o := by
  unfold opAt
  rw [Int.toNat_natCast, List.getD_eq_getElem?_getD, h]
  rfl
/-- the sets of an operator lie below n -/
structure SetOp (n : Nat) (o : Opr) : Prop where
  pre : setB n o.pre = true
  add : setB n o.add = true
  del : setB n o.del = true
theorem OkOp.sets {n : Nat} {o : Opr} (h : OkOp n o) : SetOp n o := ⟨h.pre, h.add, h.del⟩
section
variable {X : Nat} {w w' : World} {A : Option Addr} {n c : Nat} {l : List Int}
end
section
variable {X : Nat} {w w' : World} {A : Option Addr} {n c : Nat} {l : List Int}
end
theorem below_set {B : Nat} {w w' : World} (h : Below B w w') {g : Nat} (hg : B ≤ g) (i : Nat) (u : Value) : Below B w (w'.setCell ⟨g, i, none⟩ u) := h.setCell hg u
end Go.Proofs.YtmjiiddncbhgpaaGreat
namespace Go.Proofs.YtmjiiddncbhgpaaGreat
set_option linter.unusedVariables false
set_option linter.unusedSimpArgs false
open Go.RowKit
/-- a slice that reads as l, whatever happens to blocks of M -/
def RdM (M : Nat → Prop) (w : World) (A : Option Addr) (n c : Nat) (l : List Int) : Prop := ∀ w', Chg M w w' → Rd Enc.int w' A n c l
section
variable {M M' : Nat → Prop} {w w' : World} {A : Option Addr} {n c : Nat} {l : List Int}
theorem RdM.rd (h : RdM M w A n c l) : Rd Enc.int w A n c l := h w (Chg.refl _ _)
theorem RdM.chg (h : RdM M w A n c l) (hc : Chg M w w') : RdM M w' A n c l := fun w'' hk => h w'' (hc.trans hk)
theorem RdM.keep (h : RdM M w A n c l) (hb : Below w.heap.size w w') : RdM M w' A n c l := h.chg (Chg.of_below hb _)
theorem RdM.qt (h : RdM M w A n c l) (hb : Qt w w') : RdM M w' A n c l := h.keep (hb.below _)
theorem RdM.mono (h : RdM M w A n c l) (hM : ∀ i, i < w.heap.size → M' i → M i) : RdM M' w A n c l := fun w' hc => h w' ⟨hc.os, hc.tape, hc.output, hc.size, fun i hi hn => hc.block i hi (fun e => hn (hM i hi e))⟩
theorem RdM.set (h : RdM M w A n c l) {Y : Nat} (hY : M Y) (i : Nat) (u : Value) : RdM M (w.setCell ⟨Y, i, none⟩ u) A n c l := h.chg ((Chg.set w Y i u).mono fun b e => e ▸ hY)
theorem RdM.own {B : Nat} {t : TypeId} (h : w.ownsRow B t 1 (.slice A n c) n (l.map (Value.int .i64))) (hB : ∀ r, blkA A = some r → ¬ M r) (hl : l.length = n) (hr : ∀ x ∈ l, -9223372036854775808 ≤ x ∧ x ≤ 9223372036854775807) : RdM M w A n c l := fun w' hc =>
  own_rd (hc.own h (fun r hr => hB r (by rw [own_blkA] at hr; exact hr))) hl hr
end
theorem rd_ints {w : World} {A : Option Addr} {n c : Nat} {l : List Int} (h : Rd Enc.int w A n c l) : ∀ x ∈ l, -9223372036854775808 ≤ x ∧ x ≤ 9223372036854775807 := fun x hx => by
  obtain ⟨j, hj⟩ := List.getElem?_of_mem hx
  have hl := h.len
  obtain ⟨_, _, y, _, hy, h1, h2, _⟩ := h.int (show j < n by have := (List.getElem?_eq_some_iff.1 hj).1; omega)
  rw [hj] at hy
  obtain rfl := Option.some.inj hy
  exact ⟨h1, h2⟩
/-- a copy -/
def CopyI (w : World) (n : Nat) (l : List Int) (e : Ending) (w' : World) : Prop :=
  Below w.heap.size w w' ∧ ∃ A c, e = .returned (.slice A n c) ∧ w'.ownsRow w.heap.size 3 1 (.slice A n c) n (l.map (Value.int .i64))
theorem CloneI_ct (A : Option Addr) (n c : Nat) (l : List Int) (w : World) (h : Rd Enc.int w A n c l) (hn : n ≤ 1000000) :
    Calls Tryz.prog 102 #[.slice A n c] w (CopyI w n l) := by
  have shape : ∀ {w' : World} {v' : Value} {l : List Value}, w'.ownsRow w.heap.size 3 1 v' n l → ∃ O oc, v' = .slice O n oc := by
    intro w' v' l h'
    rcases h'.2 with ⟨h0, h1⟩ | ⟨g, cap, cur, e', _⟩
    · refine ⟨none, 0, ?_⟩
      rw [h0, h1]
    · exact ⟨_, _, e'⟩
  have hl := h.len
  cases A with
  | none =>
    have h1 := h.nil rfl
    have h2 := h.cap
    obtain rfl : c = 0 := h1
    obtain rfl : n = 0 := by omega
    obtain rfl : l = [] := List.eq_nil_of_length_eq_zero hl
    refine (Tryz.slices_Clone_int_nil 0 0 w).mono ?_
    rintro e w1 ⟨rfl, rfl⟩
    exact ⟨Below.refl _ _, none, 0, rfl, World.ownsRow_nil _ _ _ _⟩
  | some ad =>
    rcases Nat.eq_zero_or_pos n with h0 | h0
    · subst h0
      obtain rfl : l = [] := List.eq_nil_of_length_eq_zero hl
      refine (Tryz.slices_Clone_int_zero ad c w).mono ?_
      rintro e w1 ⟨v, rfl, hown, _, hb⟩
      obtain ⟨O, oc, rfl⟩ := shape hown
      exact ⟨hb, O, oc, rfl, hown⟩
    · obtain ⟨b, off, e, hx⟩ := h.at_ h0
      injection e with e
      subst e
      refine (Tryz.slices_Clone_int b off n c l w (by omega) (by omega) (fun j hj => ?_)).mono ?_
      · obtain ⟨b', off', y, e, hy, h1, h2, h3⟩ := h.int (show j < n by omega)
        injection e with e
        injection e with e1 e2
        subst e1 e2
        rw [h3, List.getD_eq_getElem?_getD, hy]
        rfl
      · rintro e w1 ⟨v, rfl, hown, _, hb⟩
        obtain ⟨O, oc, rfl⟩ := shape hown
        rw [List.take_of_length_le (by omega)] at hown
        exact ⟨hb, O, oc, rfl, hown⟩
end Go.Proofs.YtmjiiddncbhgpaaGreat
