/- What the law asks for, part 31: Rw. -/
import Derived.Test.YtmjiiddncbhgpaaGreatE1
import Derived.Test.YtmjiiddncbhgpaaGreatE2
import Derived.Test.YtmjiiddncbhgpaaGreatE3
import Derived.Test.YtmjiiddncbhgpaaGreatE4
import Derived.Test.YtmjiiddncbhgpaaGreatE5
import Derived.Test.YtmjiiddncbhgpaaGreatE6
import Derived.Test.YtmjiiddncbhgpaaGreatE7
import Derived.Test.YtmjiiddncbhgpaaGreatE8
import Derived.Test.YtmjiiddncbhgpaaGreatE26
import Derived.Test.YtmjiiddncbhgpaaGreatE27
import Derived.Test.YtmjiiddncbhgpaaGreatE28
import Derived.Test.YtmjiiddncbhgpaaGreatE29
import Derived.BigQuiet
import Derived.Deep.AppendLies
import Derived.Deep.Draws
import Derived.Deep.Fields
import Derived.Deep.LoopGhost
import Derived.Deep.QuietTactic
import Derived.Deep.RegionHeld3
import Derived.Deep.RegionLaw
import Derived.Deep.Slices
import Derived.DeepKeys4
import Derived.Laws.AppendOwnNone
import Derived.Laws.BitsAllLaws
import Derived.Laws.OwnMore
import Derived.Lib.Hide
import Derived.Lib.SlicesCompact
import Derived.LoopIn
import Derived.LoopNIn
import Derived.Maps.AppendAt
import Derived.Maps.OwnIn
import Derived.Maps.OwnOps
import Derived.Maps.OwnSet
import Derived.OrdersHeld
import Derived.OrdersIn
import Derived.OwnWalkIn
import Derived.ProofKit
import Derived.RangeFuncBound
import Derived.RangeFuncCalls
import Derived.RangeFuncLeaves
import Derived.RangeFuncNested
import Derived.Shelf.Abstract
import Derived.Shelf.RegionOpen
import Derived.StillTail
import Derived.StillTailTactics
import Derived.TacticsInMore
import Derived.Test.YtmjiiddncbhgpaaGreatProg
import Derived.WalkKit
import Init
namespace Go.Proofs.YtmjiiddncbhgpaaGreat
set_option linter.unusedVariables false
set_option linter.unusedSimpArgs false
open Go.RowKit Go.Shelf Go.Maps
section
variable {l n : Nat} {P : Program} {ops : Array Oper} {Q : Exit → Act → World → Prop} {md : Region.Mode}
/-- an operation in a round: as anywhere -/
theorem round_wpIn {o : Oper} (hd : ∀ c, o.op ≠ .defer c) {a : Act} {w : World} {K : Act → World → Prop} (hw : o.wp P a w K Q) : o.wpIn (Fence.wide.inRound l) n P a w K Q := by
  unfold Oper.wp at hw
  unfold Oper.wpIn
  refine ⟨fun _ _ => trivial, ?_⟩
  rw [Oper.semAt_plain _ _ _ hd]
  generalize (execOp a.eval o).run P w = r at hw
  cases r with
  | halt x w' => cases x <;> exact hw
  | ok x w' =>
    cases x with
    | value v => exact hw
    | skip => exact hw
    | defer d => exact hw
    | enter f args =>
      refine ⟨fun h => (by cases h), ((callsIn_wide (n := n - 1)).2 (Calls.mono (show Calls _ _ _ _ _ from hw) ?_)).inRound l⟩
      intro e w'' h
      cases e <;> exact h
    | row row args =>
      refine ⟨fun h => (by cases h), fun c cs _ => ?_⟩
      obtain ⟨v, w'', r, s⟩ := (show Rows P row args w' _ from hw) c cs
      exact ⟨v, w'', r, stepsIn_wide.2 s⟩
    | _ => exact hw.elim
theorem wpOpIn_round {i : Nat} {a : Act} {w : World} {K : Act → World → Prop} (hQ : ¬ LetsOut Q) (hd : ∀ o, ops[i]? = some o → ∀ c, o.op ≠ .defer c) (h : wpOp P ops Q i K a w) : wpOpIn (Fence.wide.inRound l) n P ops Q i K a w := by
  unfold wpOp at h
  unfold wpOpIn
  split
  · rename_i e
    simpa [e] using h
  · rename_i o e
    simp only [e] at h
    split
    · rename_i hw
      rw [if_pos hw] at h
      rcases h with h | h
      · exact round_wpIn (hd o e) h
      · exact absurd h.2 hQ
    · rename_i hw
      rw [if_neg hw] at h
      exact ⟨fun _ _ => trivial, h⟩
theorem wpAnyIn_round (hQ : ¬ LetsOut Q) (hd : ∀ (i : Nat) (o : Oper), ops[i]? = some o → ∀ c, o.op ≠ .defer c) : ∀ (fuel : Nat) (listed : Array Bool) (a : Act) (w : World), wpAny P md ops Q fuel listed a w → wpAnyIn (Fence.wide.inRound l) n P md ops Q fuel listed a w := by
  intro fuel
  induction fuel with
  | zero => intro listed a w h; exact h
  | succ fuel ih =>
    intro listed a w h
    refine ⟨h.1, fun i hi => ?_⟩
    exact wpOpIn_mono (fun a' w' h' => ih _ _ _ h') (wpOpIn_round hQ (hd i) (h.2 i hi))
def noDefer (o : Oper) : Bool := match o.op with
  | .defer _ => false
  | _ => true
theorem wpIn_region_round {S : World → Prop} {id : Nat} {a : Act} {w : World} {ol : List Oper} (hm : P.follows .mixedOrders = true) (hQ : ¬ LetsOut Q) (hd : ol.all noDefer = true) (hS : S w.drew)
    (h : S w.drew → wpAnyH P .any ol.toArray Q S ol.toArray.size (Array.replicate ol.toArray.size false) a w.drew) : (Code.region id ol.toArray true).wpIn (Fence.wide.inRound l) n P Q a w :=
  wpIn_region_any hm (wpAnyIn_round hQ (fun i o ho c e => by
    have h1 := List.all_eq_true.1 hd o (by simpa using Array.mem_of_getElem? ho)
    simp [noDefer, e] at h1) _ _ _ _ (wpAny_of_held _ _ _ _ (h hS)))
theorem takeR {S : World → Prop} {i : Nat} {oi : Oper} {v : Value} {fuel : Nat} {listed : Array Bool} {a : Act} {w : World} (d : Option Tmp) (hi : ops[i]? = some oi) (hd : oi.dst = d)
    (hs : Region.noSelect ops = true) (hf : Region.free md ops listed i = true) (hr : (Region.ready md ops listed).contains i = true)
    (hQ : ∀ c a w, Q (.panic c) (a.put d v) w → Q (.panic c) a w) (hy : YieldsIf P ops S oi v a) (hS : S w)
    (h : wpAnyH P md ops Q S fuel (listed.setIfInBounds i true) (a.put d v) w) : wpAnyH P md ops Q S (fuel + 1) listed a w := by
  subst hd
  exact wpAnyH_take hi hs hf hr hQ hy hS h
end
section
variable {L B g bf bp BL : Nat} {X Y W W' : World} {ns : List BN} {C : Nat} {row : Option Nat}
/-- a store, while the records of a loop turn -/
theorem St.turn (h : St L B g bf bp X ns C) (hg : X.grownBy Y row) (hr : ∀ r, row = some r → BL ≤ r ∧ ∃ o : Obj, X.heap[r]? = some o ∧ o.isCells = false) (h1 : bf < BL) (h2 : bp < BL) : St L B g bf bp Y ns C := by
  obtain ⟨q1, q2, np, M, q3, q4, q5⟩ := h
  refine ⟨q1, q2, np, M, q3, ?_, q5⟩
  obtain ⟨A, c, hb, ho⟩ := q4.blk
  exact ⟨q4.low, q4.few, ⟨A, c, hb.grown hg (turn_ne hr hb.cells), own_other ho hg (fun r e he => by
      obtain ⟨_, cs, m, hc⟩ := own_block ho e
      obtain ⟨_, o, ho', hcc⟩ := hr r he.symm
      rw [hc] at ho'
      cases ho'
      cases hcc)⟩,
    q4.found.of_block (hg.block bf q4.found.lt (fun e => by have := (hr bf e.symm).1; omega)),
    q4.pairs.of_block (hg.block bp q4.pairs.lt (fun e => by have := (hr bp e.symm).1; omega)),
    q4.base.1, q4.base.2.1, q4.base.2.2.1, q4.base.2.2.2.1, Nat.le_trans q4.base.2.2.2.2 hg.size⟩
/-- what a method of a store leaves: the records of a loop that began behind the store -/
theorem St.notG (hst : St L B g bf bp W ns C) {k : Nat} {o : Obj} (ho : W.heap[k]? = some o) (hc : o.isCells = false) : k ≠ g ∧ rowOf W g ≠ some k := by
  obtain ⟨_, _, np, M, _, q4, _⟩ := hst
  obtain ⟨A, c, hb, hown⟩ := q4.blk
  refine ⟨fun e => ?_, fun e => ?_⟩
  · subst e
    rw [show W.heap[k]? = _ from hb] at ho
    cases ho
    cases hc
  · have hc1 := hb.cell 1
    simp only [List.getElem?_cons_zero, List.getElem?_cons_succ] at hc1
    have e2 : (Value.slice A ns.length c).ownBlock = some k := by
      rw [← e, rowOf, hc1]
      rfl
    obtain ⟨_, cs, m, hcc⟩ := own_block hown e2
    rw [hcc] at ho
    cases ho
    cases hc
theorem Kept.from_ (h : Kept B g bf bp W W') (hst : St L B g bf bp W ns C) (h1 : bf < BL) (h2 : bp < BL) : KeepsFrom BL W W' :=
  ⟨h.size, fun k o hk ho hc => (h.block k (Array.getElem?_eq_some_iff.1 ho).1 (.inr ⟨(hst.notG ho hc).1, by omega, by omega, (hst.notG ho hc).2⟩)).trans ho⟩
/-- the block of a slice is none of the store's -/
def FreeA (W : World) (B g bf bp : Nat) (A : Option Addr) (m : Nat) : Prop := 0 < m → ∀ r, blkA A = some r → r < W.heap.size ∧ (r < B ∨ Free W g bf bp r)
theorem FreeA.block {A : Option Addr} {m : Nat} (h : FreeA W B g bf bp A m) (hk : Kept B g bf bp W W') (hm : 0 < m) {r : Nat} (hr : blkA A = some r) : W'.heap[r]? = W.heap[r]? := by
  obtain ⟨h1, h2⟩ := h hm r hr
  exact hk.block r h1 (h2.imp id (fun h => h.2))
theorem FreeA.kept {A : Option Addr} {m : Nat} (h : FreeA W B g bf bp A m) (hk : Kept B g bf bp W W') : FreeA W' B g bf bp A m := fun hm r hr => by
  obtain ⟨h1, h2⟩ := h hm r hr
  exact ⟨Nat.lt_of_lt_of_le h1 hk.size, h2.imp id hk.free⟩
theorem FreeA.rd {A : Option Addr} {m c : Nat} {xs : List Int} (h : FreeA W B g bf bp A m) (hk : Kept B g bf bp W W') (hx : Rd Enc.int W A m c xs) : Rd Enc.int W' A m c xs :=
  hx.block (fun _ _ h => h) (fun b off e hn => h.block hk hn (by rw [e]; rfl))
/-- a slice that was there before the store -/
theorem FreeA.old {w : World} {A : Option Addr} {m c : Nat} {xs : List Int} (h : Rd Enc.int w A m c xs) (hb : Below w.heap.size w W) (hB : w.heap.size ≤ B) : FreeA W B g bf bp A m := fun hm r hr => by
  obtain ⟨b, off, x, e, hx, hx1, hx2, hcx⟩ := h.int hm
  have : b = r := by
    rw [e] at hr
    exact Option.some.inj hr
  subst this
  have hl := World.block_lt_of_cell? w _ hcx
  exact ⟨Nat.lt_of_lt_of_le hl hb.size, .inl (Nat.lt_of_lt_of_le hl hB)⟩
end
end Go.Proofs.YtmjiiddncbhgpaaGreat
