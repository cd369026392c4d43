/- The law HierarchyPlanMatchesSpec of the package hierarchy holds, without a condition., part 19: Hl. -/
import Derived.Test.YtmjiiddncbhgpaaGreatF1
import Derived.Test.YtmjiiddncbhgpaaGreatF2
import Derived.Test.YtmjiiddncbhgpaaGreatF3
import Derived.Test.YtmjiiddncbhgpaaGreatF4
import Derived.Test.YtmjiiddncbhgpaaGreatF5
import Derived.Test.YtmjiiddncbhgpaaGreatF6
import Derived.Test.YtmjiiddncbhgpaaGreatF7
import Derived.Test.YtmjiiddncbhgpaaGreatF8
import Derived.Test.YtmjiiddncbhgpaaGreatF9
import Derived.Test.YtmjiiddncbhgpaaGreatF10
import Derived.Test.YtmjiiddncbhgpaaGreatF11
import Derived.Test.YtmjiiddncbhgpaaGreatF12
import Derived.Test.YtmjiiddncbhgpaaGreatF13
import Derived.Test.YtmjiiddncbhgpaaGreatF14
import Derived.Test.YtmjiiddncbhgpaaGreatF15
import Derived.Test.YtmjiiddncbhgpaaGreatF16
import Derived.BigQuiet
import Derived.Deep.AppendLies
import Derived.Deep.DeepCutAuto
import Derived.Deep.Draws
import Derived.Deep.Fields
import Derived.Deep.LoopGhost
import Derived.Deep.QuietTactic
import Derived.Deep.RegionHeld3
import Derived.Deep.Slices
import Derived.DeepKeys4
import Derived.Ground.Names2Prog
import Derived.Ground.SlgnProg
import Derived.Ground.SlsfProg
import Derived.IntWalk
import Derived.Laws.AppendOwnNone
import Derived.Laws.BitsAllLaws
import Derived.Laws.OwnMore
import Derived.Lib.Hide
import Derived.Lib.SlicesCompact
import Derived.LoopIn
import Derived.LoopNIn
import Derived.Maps.AppendAt
import Derived.Maps.OwnIn
import Derived.Maps.OwnOps
import Derived.Maps.OwnSet
import Derived.OrdersHeld
import Derived.OrdersIn
import Derived.OwnWalkIn
import Derived.RangeFuncBound
import Derived.RangeFuncCalls
import Derived.RangeFuncLeaves
import Derived.RangeFuncNested
import Derived.Shelf.Abstract
import Derived.Shelf.RegionOpen
import Derived.Shelf.Slices.Cells
import Derived.Shelf.Slices.Clone
import Derived.Shelf.Slices.CompactI
import Derived.Shelf.Slices.Empties
import Derived.Shelf.Slices.In.SortNone
import Derived.Shelf.Slices.SearchI
import Derived.Shelf.Sort.Plain
import Derived.Sort.CutIn
import Derived.Sort.OwnSortedInts
import Derived.StillTail
import Derived.StillTailTactics
import Derived.TacticsInMore
import Derived.Test.YtmjiiddncbhgpaaGreatProg
import Derived.WalkKit
namespace Go.Proofs.YtmjiiddncbhgpaaGreat
set_option linter.unusedVariables false
set_option linter.unusedSimpArgs false
/-- the facts of state i -/
def stF (st : List Nat) (i : Nat) : List Int := factsF ((st[i]?).getD 0)
section
variable {T : Tsk} {N : Nat} {st : List Nat}
/-- all states are sets of the task's facts -/
def SetsW (N : Nat) (st : List Nat) : Prop := ∀ s ∈ st, setB N (factsF s) = true ∧ wordF (factsF s) = s
theorem stF_at {i s : Nat} (h : st[i]? = some s) : stF st i = factsF s := by unfold stF; rw [h]; rfl
theorem canS_iff (hs : SetsW N st) {m : Hm} (hm : setB N m.pre = true) (i : Nat) : canS st m i ↔ canT (stF st) st.length m i := by
  unfold canS canT
  constructor
  · rintro ⟨s, h1, h2⟩
    obtain ⟨h3, h4⟩ := hs s (List.mem_of_getElem? h1)
    refine ⟨(List.getElem?_eq_some_iff.1 h1).1, ?_⟩
    rw [stF_at h1, ← goal_word h3 hm, h4]
    unfold goalW
    exact decide_eq_true h2
  · rintro ⟨h1, h2⟩
    have h0 := List.getElem?_eq_getElem h1
    obtain ⟨h3, h4⟩ := hs _ (List.getElem_mem h1)
    rw [stF_at h0, ← goal_word h3 hm, h4] at h2
    unfold goalW at h2
    exact ⟨_, h0, of_decide_eq_true h2⟩
theorem aft_iff (hok : OkT T N) (hN : N ≤ 32) (hs : SetsW N st) {x i k : Nat} : aftW (T.ops.map mkOp) st x i k ↔ aftT T (stF st) st.length x i k := by
  unfold aftW aftT
  have hop : ∀ o, T.ops[x]? = some o → opAt T.ops (x : Int) = o := fun o ho => by
    unfold opAt
    rw [Int.toNat_natCast, List.getD_eq_getElem?_getD, ho]
    rfl
  constructor
  · rintro ⟨s, m, h1, h2, h3, h4⟩
    rw [List.getElem?_map] at h2
    obtain ⟨o, ho, rfl⟩ := Option.map_eq_some_iff.1 h2
    have hoo := hok.ops o (List.mem_of_getElem? ho)
    obtain ⟨h5, h6⟩ := hs s (List.mem_of_getElem? h1)
    obtain ⟨h7, h8⟩ := hs _ (List.mem_of_getElem? h4)
    rw [← h6, can_word h5 hoo] at h3
    refine ⟨(List.getElem?_eq_some_iff.1 ho).1, (List.getElem?_eq_some_iff.1 h1).1, (List.getElem?_eq_some_iff.1 h4).1, ?_, ?_⟩
    · rw [hop o ho, stF_at h1]; exact h3
    · rw [hop o ho, stF_at h1, stF_at h4, ← h6, go_word h5 hoo, h6]
      exact facts_word (n := (N : Int)) (by omega) (upd_setB h5 hoo)
  · rintro ⟨h1, h2, h3, h4, h5⟩
    have g1 := List.getElem?_eq_getElem h1
    have g2 := List.getElem?_eq_getElem h2
    have g3 := List.getElem?_eq_getElem h3
    have hoo := hok.ops _ (List.getElem_mem h1)
    obtain ⟨h6, h7⟩ := hs _ (List.getElem_mem h2)
    obtain ⟨h8, h9⟩ := hs _ (List.getElem_mem h3)
    rw [hop _ g1, stF_at g2] at h4 h5
    rw [stF_at g3] at h5
    refine ⟨_, mkOp T.ops[x], g2, by rw [List.getElem?_map, g1]; rfl, ?_, ?_⟩
    · rw [← h7, can_word h6 hoo]; exact h4
    · rw [g3, ← h9, h5, ← go_word h6 hoo, h7]
end
end Go.Proofs.YtmjiiddncbhgpaaGreat
