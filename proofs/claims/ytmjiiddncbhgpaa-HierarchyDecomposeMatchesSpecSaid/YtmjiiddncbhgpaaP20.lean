/- The law HierarchyDecomposeMatchesSpec of the package hierarchy holds, without a condition., part 20: Hu. -/
import Derived.Test.YtmjiiddncbhgpaaP1
import Derived.Test.YtmjiiddncbhgpaaP2
import Derived.Test.YtmjiiddncbhgpaaP3
import Derived.Test.YtmjiiddncbhgpaaP4
import Derived.Test.YtmjiiddncbhgpaaP5
import Derived.Test.YtmjiiddncbhgpaaP6
import Derived.Test.YtmjiiddncbhgpaaP7
import Derived.Test.YtmjiiddncbhgpaaP8
import Derived.Test.YtmjiiddncbhgpaaP9
import Derived.Test.YtmjiiddncbhgpaaP10
import Derived.Test.YtmjiiddncbhgpaaP11
import Derived.Test.YtmjiiddncbhgpaaP12
import Derived.Test.YtmjiiddncbhgpaaP13
import Derived.Test.YtmjiiddncbhgpaaP14
import Derived.Test.YtmjiiddncbhgpaaP15
import Derived.Test.YtmjiiddncbhgpaaP16
import Derived.Test.YtmjiiddncbhgpaaP17
import Derived.Test.YtmjiiddncbhgpaaP18
import Derived.Test.YtmjiiddncbhgpaaP19
import Derived.BigQuiet
import Derived.Deep.AppendLies
import Derived.Deep.DeepCutAuto
import Derived.Deep.Draws
import Derived.Deep.Fields
import Derived.Deep.LoopGhost
import Derived.Deep.QuietTactic
import Derived.Deep.RegionHeld3
import Derived.Deep.Slices
import Derived.DeepKeys4
import Derived.Ground.Names2Prog
import Derived.Ground.SlgnProg
import Derived.Ground.SlsfProg
import Derived.IntWalk
import Derived.Laws.AppendOwnNone
import Derived.Laws.BitsAllLaws
import Derived.Laws.OwnMore
import Derived.Lib.Hide
import Derived.Lib.SlicesCompact
import Derived.LoopIn
import Derived.LoopNIn
import Derived.Maps.AppendAt
import Derived.Maps.OwnIn
import Derived.Maps.OwnOps
import Derived.Maps.OwnSet
import Derived.OrdersHeld
import Derived.OrdersIn
import Derived.OwnWalkIn
import Derived.RangeFuncBound
import Derived.RangeFuncCalls
import Derived.RangeFuncLeaves
import Derived.RangeFuncNested
import Derived.Shelf.Abstract
import Derived.Shelf.RegionOpen
import Derived.Shelf.Slices.Cells
import Derived.Shelf.Slices.Clone
import Derived.Shelf.Slices.CompactI
import Derived.Shelf.Slices.Empties
import Derived.Shelf.Slices.In.SortNone
import Derived.Shelf.Slices.SearchI
import Derived.Shelf.Sort.Plain
import Derived.Sort.CutIn
import Derived.Sort.OwnSortedInts
import Derived.StillTail
import Derived.StillTailTactics
import Derived.TacticsInMore
import Derived.Test.YtmjiiddncbhgpaaProg
import Derived.WalkKit
namespace Go.Proofs.Ytmjiiddncbhgpaa
set_option linter.unusedVariables false
set_option linter.unusedSimpArgs false
/-- a plan that is a refinement and solves the task -/
def GoodP (h : Hy) (p : List Int) : Prop := (∀ x ∈ p, 0 ≤ x ∧ x < h.T.ops.length) ∧ RefP h p ∧ worksF h.T h.T.init p = true
section
variable {T : Tsk} {N : Nat} {st : List Nat}
theorem ListOf.sets (hok : OkT T N) (hL : ListOf T st) : SetsW N st := fun s hs => by
  obtain ⟨l, h1, rfl⟩ := reach_set hok ((hL.all.mem s).1 hs)
  have hN := hok.low
  rw [facts_word (by omega) h1]
  exact ⟨h1, rfl⟩
/-- the states are closed under the operators -/
theorem ListOf.closed (hok : OkT T N) (hL : ListOf T st) (x i : Nat) (hx : x < T.ops.length) (hi : i < st.length) (hp : subsetB (opAt T.ops (x : Int)).pre (stF st i) = true) : ∃ k, k < st.length ∧ stF st k = updF (stF st i) (opAt T.ops (x : Int)).add (opAt T.ops (x : Int)).del := by
  have hs := hL.sets hok
  have hN := hok.low
  have g1 : T.ops[x]? = some T.ops[x] := List.getElem?_eq_getElem hx
  have g2 : st[i]? = some st[i] := List.getElem?_eq_getElem hi
  have hoo := hok.ops _ (List.getElem_mem hx)
  obtain ⟨h6, h7⟩ := hs _ (List.getElem_mem hi)
  have hop : opAt T.ops (x : Int) = T.ops[x] := by
    unfold opAt
    rw [Int.toNat_natCast, List.getD_eq_getElem?_getD, g1]
    rfl
  rw [hop] at hp ⊢
  rw [stF_at g2] at hp ⊢
  have hcan : canW st[i] (mkOp T.ops[x]) = true := by rw [← h7, can_word h6 hoo]; exact hp
  have hmem : goW st[i] (mkOp T.ops[x]) ∈ st := (hL.all.mem _).2 (.step ((hL.all.mem _).1 (List.getElem_mem hi)) ⟨mkOp T.ops[x], List.mem_map.2 ⟨_, List.getElem_mem hx, rfl⟩, hcan, rfl⟩)
  obtain ⟨k, hk, e⟩ := List.getElem_of_mem hmem
  refine ⟨k, hk, ?_⟩
  have g3 : st[k]? = some st[k] := List.getElem?_eq_getElem hk
  rw [stF_at g3, e, ← h7, go_word h6 hoo, h7]
  exact facts_word (n := (N : Int)) (by omega) (upd_setB h6 hoo)
end
theorem good_iff {h : Hy} {N K : Nat} (hok : OkH h N K) {st : List Nat} (hL : ListOf h.T st) {i0 : Nat} (hi0 : st[i0]? = some (wordF h.T.init)) (p : List Int) :
    GoodP h p ↔ ∃ j, j < st.length ∧ SegI (aftT h.T (stF st) st.length) (canT (stF st) st.length) h.ms h.list i0 p j ∧ subsetB h.T.goal (stF st j) = true := by
  have hs := hL.sets hok.task
  have hN := hok.task.low
  have hi0l := (List.getElem?_eq_some_iff.1 hi0).1
  have hinit : stF st i0 = h.T.init := by
    rw [stF_at hi0]
    exact facts_word (n := (N : Int)) (by omega) hok.task.init
  have hlen : (p.map (opAt h.T.ops)).length = p.length := List.length_map _
  have hat : ∀ (t : Nat) (x : Int), p[t]? = some x → (p.map (opAt h.T.ops))[t]? = some (opAt h.T.ops x) := fun t x hx => by rw [List.getElem?_map, hx]; rfl
  have hstep : (runT h.T.init (p.map (opAt h.T.ops))).length = p.length → ∀ (t : Nat) (x : Int), p[t]? = some x → subsetB (opAt h.T.ops x).pre (stH h.T p t) = true ∧ stH h.T p (t + 1) = updF (stH h.T p t) (opAt h.T.ops x).add (opAt h.T.ops x).del := fun hl t x hx => by
    obtain ⟨a, h1, h2, h3⟩ := run_at (p.map (opAt h.T.ops)) h.T.init (by rw [hlen]; exact hl) t _ (hat t x hx)
    unfold stH runF
    rw [h1, h3]
    exact ⟨h2, rfl⟩
  constructor
  · rintro ⟨hr, ⟨hl, hseq⟩, hw⟩
    have hl2 : (runT h.T.init (p.map (opAt h.T.ops))).length = p.length := by
      unfold runF at hl
      simpa using hl
    obtain ⟨j, q, g1, g2, g3, g4, g5⟩ := seq_seg (S := stF st) (nS := st.length) (fun t x hx => ⟨hr x (List.mem_of_getElem? hx), hstep hl2 t x hx⟩) (hL.closed hok.task) hseq i0 hi0l (by rw [hinit]; rfl)
    have hq : q = p := by
      refine List.ext_getElem? fun t => ?_
      rcases Nat.lt_or_ge t q.length with h1 | h1
      · rw [g4 t h1, Nat.zero_add]
      · rw [List.getElem?_eq_none h1, List.getElem?_eq_none (by omega)]
    subst hq
    refine ⟨j, g1, g5, ?_⟩
    have he := g5.exec.1
    rw [hinit] at he
    unfold worksF at hw
    rw [he] at hw
    exact hw
  · rintro ⟨j, hj, hseg, hg⟩
    obtain ⟨he, hr⟩ := hseg.exec
    rw [hinit] at he
    obtain ⟨h1, h2⟩ := exec_some _ _ _ he
    rw [hlen] at h1
    refine ⟨hr, ⟨by unfold runF; rw [List.length_cons, h1], ?_⟩, ?_⟩
    · have := (hseg.seq (plan := p) (st := stH h.T p) (fun t x hx => (hstep h1 t x hx).2) 0 (fun t x hx => by rw [Nat.zero_add]; exact hx) (by rw [hinit]; rfl)).1
      rw [Nat.zero_add] at this
      exact this
    · unfold worksF
      rw [he]
      exact hg
theorem SegI.mono2 {aft aft' : Nat → Nat → Nat → Prop} {can can' : Hm → Nat → Prop} {hm : List Hm} (h1 : ∀ x i k, aft x i k → aft' x i k) (h2 : ∀ m ∈ hm, ∀ i, can m i → can' m i) {l p : List Int} {i j : Nat} (h : SegI aft can hm l i p j) : SegI aft' can' hm l i p j := by
  induction h with
  | nil => exact .nil
  | op h0 ha _ ih => exact .op h0 (h1 _ _ _ ha) ih
  | task h0 hm1 e hc _ _ ih1 ih2 => exact .task h0 hm1 e (h2 _ hm1 _ hc) ih1 ih2
theorem seg_iff {h : Hy} {N K : Nat} (hok : OkH h N K) {st : List Nat} (hL : ListOf h.T st) {l p : List Int} {i j : Nat} :
    SegI (aftW (h.T.ops.map mkOp) st) (canS st) h.ms l i p j ↔ SegI (aftT h.T (stF st) st.length) (canT (stF st) st.length) h.ms l i p j := by
  have hs := hL.sets hok.task
  exact ⟨SegI.mono2 (fun x i k ha => (aft_iff hok.task (by have := hok.task.low; omega) hs).1 ha) (fun m hm i hc => (canS_iff hs (hok.mp m hm) i).1 hc), SegI.mono2 (fun x i k ha => (aft_iff hok.task (by have := hok.task.low; omega) hs).2 ha) (fun m hm i hc => (canS_iff hs (hok.mp m hm) i).2 hc)⟩
theorem goal_iff {h : Hy} {N K : Nat} (hok : OkH h N K) {st : List Nat} (hL : ListOf h.T st) {j s : Nat} (hj : st[j]? = some s) : goalW (wordF h.T.goal) s = subsetB h.T.goal (stF st j) := by
  obtain ⟨h1, h2⟩ := hL.sets hok.task s (List.mem_of_getElem? hj)
  have := goal_word h1 hok.task.goal
  rw [h2] at this
  rw [stF_at hj]
  exact this
theorem ListOf.step {T : Tsk} {st : List Nat} (hL : ListOf T st) (s : Nat) (hs : s ∈ st) (x : Nat × Int × Nat) (hx : x ∈ stepsW 0 (T.ops.map mkOp) s) : x.2.2 ∈ st :=
  (hL.all.mem _).2 (.step ((hL.all.mem s).1 hs) ((stepsW_step _ 0 s _).2 ⟨x, hx, rfl⟩))
/-- the best of the spots: a least plan, or none -/
theorem best_law {h : Hy} {N K : Nat} (hok : OkH h N K) {st : List Nat} (hL : ListOf h.T st) {i0 : Nat} (hi0 : st[i0]? = some (wordF h.T.init)) {lim : Nat} {R : Chn → Option Nat} {r last : Nat} (hI : InR (aftW (h.T.ops.map mkOp) st) (canS st) h.ms lim st.length R r h.ms.length 0) (hno : ∀ c, R c ≠ some r) (hlast : ∀ c q, R c = some q → q < last) {l : List Spot} (hins : Ins (Spo (aftW (h.T.ops.map mkOp) st) (Ere R last) lim h.list i0) l) {p : List Int} (hp : GoodP h p) (hpl : p.length ≤ lim) :
    ∃ j s, (j, (lim : Int) - p.length) ∈ l ∧ st[j]? = some s ∧ goalW (wordF h.T.goal) s = true := by
  obtain ⟨j, hj, hseg, hg⟩ := (good_iff hok hL hi0 p).1 hp
  have hk := seg_known (fun c hc => hI.all hno c hc) ((seg_iff hok hL).2 hseg) hpl
  have hj2 : st[j]? = some st[j] := List.getElem?_eq_getElem hj
  refine ⟨j, st[j], (hins.2 _).2 ⟨by simp only; omega, p.length, rfl, hk.mono (fun c hc => ?_)⟩, hj2, by rw [goal_iff hok hL hj2]; exact hg⟩
  obtain ⟨q, hq⟩ := Option.isSome_iff_exists.1 hc
  exact ⟨q, hq, hlast c q hq⟩
end Go.Proofs.Ytmjiiddncbhgpaa
