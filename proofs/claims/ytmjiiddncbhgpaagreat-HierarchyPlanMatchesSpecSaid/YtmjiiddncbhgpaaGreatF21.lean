/- The law HierarchyPlanMatchesSpec of the package hierarchy holds, without a condition., part 21: Hu Rq Fw. -/
import Derived.Test.YtmjiiddncbhgpaaGreatF1
import Derived.Test.YtmjiiddncbhgpaaGreatF2
import Derived.Test.YtmjiiddncbhgpaaGreatF3
import Derived.Test.YtmjiiddncbhgpaaGreatF4
import Derived.Test.YtmjiiddncbhgpaaGreatF5
import Derived.Test.YtmjiiddncbhgpaaGreatF6
import Derived.Test.YtmjiiddncbhgpaaGreatF7
import Derived.Test.YtmjiiddncbhgpaaGreatF8
import Derived.Test.YtmjiiddncbhgpaaGreatF9
import Derived.Test.YtmjiiddncbhgpaaGreatF10
import Derived.Test.YtmjiiddncbhgpaaGreatF11
import Derived.Test.YtmjiiddncbhgpaaGreatF12
import Derived.Test.YtmjiiddncbhgpaaGreatF13
import Derived.Test.YtmjiiddncbhgpaaGreatF14
import Derived.Test.YtmjiiddncbhgpaaGreatF15
import Derived.Test.YtmjiiddncbhgpaaGreatF16
import Derived.Test.YtmjiiddncbhgpaaGreatF17
import Derived.Test.YtmjiiddncbhgpaaGreatF19
import Derived.Test.YtmjiiddncbhgpaaGreatF20
import Derived.BigQuiet
import Derived.Deep.AppendLies
import Derived.Deep.DeepCutAuto
import Derived.Deep.Draws
import Derived.Deep.Fields
import Derived.Deep.LoopGhost
import Derived.Deep.QuietTactic
import Derived.Deep.RegionHeld3
import Derived.Deep.Slices
import Derived.DeepKeys4
import Derived.Ground.Names2Prog
import Derived.Ground.SlgnProg
import Derived.Ground.SlsfProg
import Derived.IntWalk
import Derived.Laws.AppendOwnNone
import Derived.Laws.BitsAllLaws
import Derived.Laws.OwnMore
import Derived.Lib.Hide
import Derived.Lib.SlicesCompact
import Derived.LoopIn
import Derived.LoopNIn
import Derived.Maps.AppendAt
import Derived.Maps.OwnIn
import Derived.Maps.OwnOps
import Derived.Maps.OwnSet
import Derived.OrdersHeld
import Derived.OrdersIn
import Derived.OwnWalkIn
import Derived.RangeFuncBound
import Derived.RangeFuncCalls
import Derived.RangeFuncLeaves
import Derived.RangeFuncNested
import Derived.Shelf.Abstract
import Derived.Shelf.RegionOpen
import Derived.Shelf.Slices.Cells
import Derived.Shelf.Slices.Clone
import Derived.Shelf.Slices.CompactI
import Derived.Shelf.Slices.Empties
import Derived.Shelf.Slices.In.SortNone
import Derived.Shelf.Slices.SearchI
import Derived.Shelf.Sort.Plain
import Derived.Sort.CutIn
import Derived.Sort.OwnSortedInts
import Derived.StillTail
import Derived.StillTailTactics
import Derived.TacticsInMore
import Derived.Test.YtmjiiddncbhgpaaGreatProg
import Derived.WalkKit
namespace Go.Proofs.YtmjiiddncbhgpaaGreat
set_option linter.unusedVariables false
set_option linter.unusedSimpArgs false
/-- a plan that is a refinement and solves the task -/
def GoodP (h : Hy) (p : List Int) : Prop := (∀ x ∈ p, 0 ≤ x ∧ x < h.T.ops.length) ∧ RefP h p ∧ worksF h.T h.T.init p = true
section
variable {T : Tsk} {N : Nat} {st : List Nat}
theorem ListOf.sets (hok : OkT T N) (hL : ListOf T st) : SetsW N st := fun s hs => by
  obtain ⟨l, h1, rfl⟩ := reach_set hok ((hL.all.mem s).1 hs)
  have hN := hok.low
  rw [facts_word (by omega) h1]
  exact ⟨h1, rfl⟩
/-- the states are closed under the operators -/
theorem ListOf.closed (hok : OkT T N) (hL : ListOf T st) (x i : Nat) (hx : x < T.ops.length) (hi : i < st.length) (hp : subsetB (opAt T.ops (x : Int)).pre (stF st i) = true) : ∃ k, k < st.length ∧ stF st k = updF (stF st i) (opAt T.ops (x : Int)).add (opAt T.ops (x : Int)).del := by
  have hs := hL.sets hok
  have hN := hok.low
  have g1 : T.ops[x]? = some T.ops[x] := List.getElem?_eq_getElem hx
  have g2 : st[i]? = some st[i] := List.getElem?_eq_getElem hi
  have hoo := hok.ops _ (List.getElem_mem hx)
  obtain ⟨h6, h7⟩ := hs _ (List.getElem_mem hi)
  have hop : opAt T.ops (x : Int) = T.ops[x] := by
    unfold opAt
    rw [Int.toNat_natCast, List.getD_eq_getElem?_getD, g1]
    rfl
  rw [hop] at hp ⊢
  rw [stF_at g2] at hp ⊢
  have hcan : canW st[i] (mkOp T.ops[x]) = true := by rw [← h7, can_word h6 hoo]; exact hp
  have hmem : goW st[i] (mkOp T.ops[x]) ∈ st := (hL.all.mem _).2 (.step ((hL.all.mem _).1 (List.getElem_mem hi)) ⟨mkOp T.ops[x], List.mem_map.2 ⟨_, List.getElem_mem hx, rfl⟩, hcan, rfl⟩)
  obtain ⟨k, hk, e⟩ := List.getElem_of_mem hmem
  refine ⟨k, hk, ?_⟩
  have g3 : st[k]? = some st[k] := List.getElem?_eq_getElem hk
  rw [stF_at g3, e, ← h7, go_word h6 hoo, h7]
  exact facts_word (n := (N : Int)) (by omega) (upd_setB h6 hoo)
end
theorem good_iff {h : Hy} {N K : Nat} (hok : OkH h N K) {st : List Nat} (hL : ListOf h.T st) {i0 : Nat} (hi0 : st[i0]? = some (wordF h.T.init)) (p : List Int) :
    GoodP h p ↔ ∃ j, j < st.length ∧ SegI (aftT h.T (stF st) st.length) (canT (stF st) st.length) h.ms h.list i0 p j ∧ subsetB h.T.goal (stF st j) = true := by
  have hs := hL.sets hok.task
  have hN := hok.task.low
  have hi0l := (List.getElem?_eq_some_iff.1 hi0).1
  have hinit : stF st i0 = h.T.init := by
    rw [stF_at hi0]
    exact facts_word (n := (N : Int)) (by omega) hok.task.init
  have hlen : (p.map (opAt h.T.ops)).length = p.length := List.length_map _
  have hat : ∀ (t : Nat) (x : Int), p[t]? = some x → (p.map (opAt h.T.ops))[t]? = some (opAt h.T.ops x) := fun t x hx => by rw [List.getElem?_map, hx]; rfl
  have hstep : (runT h.T.init (p.map (opAt h.T.ops))).length = p.length → ∀ (t : Nat) (x : Int), p[t]? = some x → subsetB (opAt h.T.ops x).pre (stH h.T p t) = true ∧ stH h.T p (t + 1) = updF (stH h.T p t) (opAt h.T.ops x).add (opAt h.T.ops x).del := fun hl t x hx => by
    obtain ⟨a, h1, h2, h3⟩ := run_at (p.map (opAt h.T.ops)) h.T.init (by rw [hlen]; exact hl) t _ (hat t x hx)
    unfold stH runF
    rw [h1, h3]
    exact ⟨h2, rfl⟩
  constructor
  · rintro ⟨hr, ⟨hl, hseq⟩, hw⟩
    have hl2 : (runT h.T.init (p.map (opAt h.T.ops))).length = p.length := by
      unfold runF at hl
      simpa using hl
    obtain ⟨j, q, g1, g2, g3, g4, g5⟩ := seq_seg (S := stF st) (nS := st.length) (fun t x hx => ⟨hr x (List.mem_of_getElem? hx), hstep hl2 t x hx⟩) (hL.closed hok.task) hseq i0 hi0l (by rw [hinit]; rfl)
    have hq : q = p := by
      refine List.ext_getElem? fun t => ?_
      rcases Nat.lt_or_ge t q.length with h1 | h1
      · rw [g4 t h1, Nat.zero_add]
      · rw [List.getElem?_eq_none h1, List.getElem?_eq_none (by omega)]
    subst hq
    refine ⟨j, g1, g5, ?_⟩
    have he := g5.exec.1
    rw [hinit] at he
    unfold worksF at hw
    rw [he] at hw
    exact hw
  · rintro ⟨j, hj, hseg, hg⟩
    obtain ⟨he, hr⟩ := hseg.exec
    rw [hinit] at he
    obtain ⟨h1, h2⟩ := exec_some _ _ _ he
    rw [hlen] at h1
    refine ⟨hr, ⟨by unfold runF; rw [List.length_cons, h1], ?_⟩, ?_⟩
    · have := (hseg.seq (plan := p) (st := stH h.T p) (fun t x hx => (hstep h1 t x hx).2) 0 (fun t x hx => by rw [Nat.zero_add]; exact hx) (by rw [hinit]; rfl)).1
      rw [Nat.zero_add] at this
      exact this
    · unfold worksF
      rw [he]
      exact hg
theorem SegI.mono2 {aft aft' : Nat → Nat → Nat → Prop} {can can' : Hm → Nat → Prop} {hm : List Hm} (h1 : ∀ x i k, aft x i k → aft' x i k) (h2 : ∀ m ∈ hm, ∀ i, can m i → can' m i) {l p : List Int} {i j : Nat} (h : SegI aft can hm l i p j) : SegI aft' can' hm l i p j := by
  induction h with
  | nil => exact .nil
  | op h0 ha _ ih => exact .op h0 (h1 _ _ _ ha) ih
  | task h0 hm1 e hc _ _ ih1 ih2 => exact .task h0 hm1 e (h2 _ hm1 _ hc) ih1 ih2
theorem seg_iff {h : Hy} {N K : Nat} (hok : OkH h N K) {st : List Nat} (hL : ListOf h.T st) {l p : List Int} {i j : Nat} :
    SegI (aftW (h.T.ops.map mkOp) st) (canS st) h.ms l i p j ↔ SegI (aftT h.T (stF st) st.length) (canT (stF st) st.length) h.ms l i p j := by
  have hs := hL.sets hok.task
  exact ⟨SegI.mono2 (fun x i k ha => (aft_iff hok.task (by have := hok.task.low; omega) hs).1 ha) (fun m hm i hc => (canS_iff hs (hok.mp m hm) i).1 hc), SegI.mono2 (fun x i k ha => (aft_iff hok.task (by have := hok.task.low; omega) hs).2 ha) (fun m hm i hc => (canS_iff hs (hok.mp m hm) i).2 hc)⟩
theorem goal_iff {h : Hy} {N K : Nat} (hok : OkH h N K) {st : List Nat} (hL : ListOf h.T st) {j s : Nat} (hj : st[j]? = some s) : goalW (wordF h.T.goal) s = subsetB h.T.goal (stF st j) := by
  obtain ⟨h1, h2⟩ := hL.sets hok.task s (List.mem_of_getElem? hj)
  have := goal_word h1 hok.task.goal
  rw [h2] at this
  rw [stF_at hj]
  exact this
theorem ListOf.step {T : Tsk} {st : List Nat} (hL : ListOf T st) (s : Nat) (hs : s ∈ st) (x : Nat × Int × Nat) (hx : x ∈ stepsW 0 (T.ops.map mkOp) s) : x.2.2 ∈ st :=
  (hL.all.mem _).2 (.step ((hL.all.mem s).1 hs) ((stepsW_step _ 0 s _).2 ⟨x, hx, rfl⟩))
/-- the best of the spots: a least plan, or none -/
theorem best_law {h : Hy} {N K : Nat} (hok : OkH h N K) {st : List Nat} (hL : ListOf h.T st) {i0 : Nat} (hi0 : st[i0]? = some (wordF h.T.init)) {lim : Nat} {R : Chn → Option Nat} {r last : Nat} (hI : InR (aftW (h.T.ops.map mkOp) st) (canS st) h.ms lim st.length R r h.ms.length 0) (hno : ∀ c, R c ≠ some r) (hlast : ∀ c q, R c = some q → q < last) {l : List Spot} (hins : Ins (Spo (aftW (h.T.ops.map mkOp) st) (Ere R last) lim h.list i0) l) {p : List Int} (hp : GoodP h p) (hpl : p.length ≤ lim) :
    ∃ j s, (j, (lim : Int) - p.length) ∈ l ∧ st[j]? = some s ∧ goalW (wordF h.T.goal) s = true := by
  obtain ⟨j, hj, hseg, hg⟩ := (good_iff hok hL hi0 p).1 hp
  have hk := seg_known (fun c hc => hI.all hno c hc) ((seg_iff hok hL).2 hseg) hpl
  have hj2 : st[j]? = some st[j] := List.getElem?_eq_getElem hj
  refine ⟨j, st[j], (hins.2 _).2 ⟨by simp only; omega, p.length, rfl, hk.mono (fun c hc => ?_)⟩, hj2, by rw [goal_iff hok hL hj2]; exact hg⟩
  obtain ⟨q, hq⟩ := Option.isSome_iff_exists.1 hc
  exact ⟨q, hq, hlast c q hq⟩
end Go.Proofs.YtmjiiddncbhgpaaGreat
namespace Go.Proofs.YtmjiiddncbhgpaaGreat
set_option linter.unusedVariables false
set_option linter.unusedSimpArgs false
/-- the lists one operator longer, by one of the first k operators -/
def nextU (T : Tsk) (p s : List Int) (k : Nat) : List (List Int × List Int) := ((List.range k).filter fun q : Nat => subsetB (opAt T.ops (q : Int)).pre s).map fun q : Nat => (p ++ [(q : Int)], updF s (opAt T.ops (q : Int)).add (opAt T.ops (q : Int)).del)
theorem nextU_zero (T : Tsk) (p s : List Int) : nextU T p s 0 = [] := rfl
theorem nextU_no {T : Tsk} {p s : List Int} {k : Nat} (h : subsetB (opAt T.ops (k : Int)).pre s = false) : nextU T p s (k + 1) = nextU T p s k := by
  unfold nextU
  rw [List.range_succ, List.filter_append, List.map_append, List.filter_cons, List.filter_nil, if_neg (by rw [h]; simp)]
  simp
theorem nextU_yes {T : Tsk} {p s : List Int} {k : Nat} (h : subsetB (opAt T.ops (k : Int)).pre s = true) : nextU T p s (k + 1) = nextU T p s k ++ [(p ++ [(k : Int)], updF s (opAt T.ops (k : Int)).add (opAt T.ops (k : Int)).del)] := by
  unfold nextU
  rw [List.range_succ, List.filter_append, List.map_append, List.filter_cons, List.filter_nil, if_pos h]
  rfl
theorem nextU_mem {T : Tsk} {p s : List Int} {k : Nat} {x : List Int × List Int} : x ∈ nextU T p s k ↔ ∃ q : Nat, q < k ∧ subsetB (opAt T.ops (q : Int)).pre s = true ∧ x = (p ++ [(q : Int)], updF s (opAt T.ops (q : Int)).add (opAt T.ops (q : Int)).del) := by
  unfold nextU
  rw [List.mem_map]
  constructor
  · rintro ⟨q, h1, rfl⟩
    obtain ⟨h1, h2⟩ := List.mem_filter.1 h1
    exact ⟨q, List.mem_range.1 h1, h2, rfl⟩
  · rintro ⟨q, h1, h2, rfl⟩
    exact ⟨q, List.mem_filter.2 ⟨List.mem_range.2 h1, h2⟩, rfl⟩
theorem nextU_len (T : Tsk) (p s : List Int) (k : Nat) : (nextU T p s k).length ≤ k := by
  unfold nextU
  rw [List.length_map]
  exact Nat.le_trans (List.length_filter_le _ _) (Nat.le_of_eq List.length_range)
/-- the next level, of the first lists of a level -/
def nextM (T : Tsk) : List (List Int × List Int) → List (List Int × List Int)
  | [] => []
  | x :: l => nextU T x.1 x.2 T.ops.length ++ nextM T l
theorem nextM_append (T : Tsk) (a b : List (List Int × List Int)) : nextM T (a ++ b) = nextM T a ++ nextM T b := by
  induction a with
  | nil => rfl
  | cons x a ih => simp only [List.cons_append, nextM, ih, List.append_assoc]
theorem nextM_take {T : Tsk} {l : List (List Int × List Int)} {i : Nat} {p s : List Int} (h : l[i]? = some (p, s)) : nextM T (l.take (i + 1)) = nextM T (l.take i) ++ nextU T p s T.ops.length := by
  have : l.take (i + 1) = l.take i ++ [(p, s)] := by
    rw [List.take_add_one, h]
    rfl
  rw [this, nextM_append]
  simp [nextM]
theorem nextM_mem {T : Tsk} {l : List (List Int × List Int)} {x : List Int × List Int} : x ∈ nextM T l ↔ ∃ y ∈ l, x ∈ nextU T y.1 y.2 T.ops.length := by
  induction l with
  | nil => simp [nextM]
  | cons y l ih =>
    simp only [nextM, List.mem_append, ih, List.mem_cons, exists_eq_or_imp]
theorem nextM_len (T : Tsk) (l : List (List Int × List Int)) : (nextM T l).length ≤ l.length * T.ops.length := by
  induction l with
  | nil => simp [nextM]
  | cons y l ih =>
    simp only [nextM, List.length_append, List.length_cons, Nat.succ_mul]
    have := nextU_len T y.1 y.2 T.ops.length
    omega
/-- the lists of n operators that can be executed, with the states they end in -/
def levL (T : Tsk) : Nat → List (List Int × List Int)
  | 0 => [([], T.init)]
  | n + 1 => nextM T (levL T n)
theorem execO_add (os : List Opr) : ∀ (l : List Opr) (s : List Int) (o : Opr), execO s (l ++ [o]) = (execO s l).bind fun r => if subsetB o.pre r = true then some (updF r o.add o.del) else none := by
  intro l
  induction l with
  | nil => intro s o; simp only [List.nil_append, execO, Option.bind_some]
  | cons a l ih =>
    intro s o
    simp only [List.cons_append, execO]
    split
    · exact ih _ _
    · rfl
theorem levL_mem {T : Tsk} : ∀ (n : Nat) (p s : List Int), (p, s) ∈ levL T n ↔ p.length = n ∧ (∀ x ∈ p, 0 ≤ x ∧ x < T.ops.length) ∧ execO T.init (p.map (opAt T.ops)) = some s := by
  intro n
  induction n with
  | zero =>
    intro p s
    simp only [levL, List.mem_singleton, Prod.mk.injEq]
    constructor
    · rintro ⟨rfl, rfl⟩
      exact ⟨rfl, fun x hx => by simp at hx, rfl⟩
    · rintro ⟨h1, _, h3⟩
      have := List.eq_nil_of_length_eq_zero h1
      subst this
      simp only [List.map_nil, execO, Option.some.injEq] at h3
      exact ⟨rfl, h3.symm⟩
  | succ n ih =>
    intro p s
    simp only [levL, nextM_mem]
    constructor
    · rintro ⟨⟨p0, s0⟩, h1, h2⟩
      obtain ⟨g1, g2, g3⟩ := (ih p0 s0).1 h1
      obtain ⟨q, h3, h4, h5⟩ := nextU_mem.1 h2
      simp only [Prod.mk.injEq] at h5
      obtain ⟨rfl, rfl⟩ := h5
      refine ⟨by rw [List.length_append, g1]; rfl, fun x hx => ?_, ?_⟩
      · rcases List.mem_append.1 hx with hx | hx
        · exact g2 x hx
        · rw [List.mem_singleton] at hx
          omega
      · rw [List.map_append, List.map_cons, List.map_nil, execO_add T.ops, g3, Option.bind_some, if_pos h4]
    · rintro ⟨h1, h2, h3⟩
      obtain ⟨p0, x, rfl⟩ : ∃ p0 x, p = p0 ++ [x] := by
        rcases List.eq_nil_or_concat p with e | ⟨p0, x, e⟩
        · rw [e] at h1
          cases h1
        · exact ⟨p0, x, by rw [e, List.concat_eq_append]⟩
      rw [List.map_append, List.map_cons, List.map_nil, execO_add T.ops] at h3
      have hx := h2 x (List.mem_append_right _ (List.mem_singleton.2 rfl))
      cases he : execO T.init (p0.map (opAt T.ops)) with
      | none => rw [he] at h3; cases h3
      | some r =>
        rw [he, Option.bind_some] at h3
        split at h3
        · rename_i hp
          refine ⟨(p0, r), (ih p0 r).2 ⟨by rw [List.length_append] at h1; simpa using h1, fun y hy => h2 y (List.mem_append_left _ hy), he⟩, nextU_mem.2 ⟨x.toNat, by omega, ?_, ?_⟩⟩
          · rw [show ((x.toNat : Nat) : Int) = x by omega]
            exact hp
          · rw [show ((x.toNat : Nat) : Int) = x by omega, ← Option.some.inj h3]
        · cases h3
theorem levL_good {h : Hy} {p : List Int} : GoodP h p ↔ ∃ s, (p, s) ∈ levL h.T p.length ∧ subsetB h.T.goal s = true ∧ RefP h p := by
  constructor
  · rintro ⟨h1, h2, h3⟩
    unfold worksF at h3
    cases he : execO h.T.init (p.map (opAt h.T.ops)) with
    | none => rw [he] at h3; cases h3
    | some r =>
      rw [he] at h3
      exact ⟨r, (levL_mem _ _ _).2 ⟨rfl, h1, he⟩, h3, h2⟩
  · rintro ⟨s, h1, h2, h3⟩
    obtain ⟨_, g2, g3⟩ := (levL_mem _ _ _).1 h1
    refine ⟨g2, h3, ?_⟩
    unfold worksF
    rw [g3]
    exact h2
theorem levL_set {T : Tsk} {N : Nat} (hok : OkT T N) {n : Nat} {p s : List Int} (h : (p, s) ∈ levL T n) : setB N s = true ∧ p.length = n ∧ ∀ x ∈ p, 0 ≤ x ∧ x < T.ops.length := by
  obtain ⟨h1, h2, h3⟩ := (levL_mem _ _ _).1 h
  refine ⟨exec_set _ _ _ hok.init (fun o ho => ?_) h3, h1, h2⟩
  obtain ⟨x, hx, rfl⟩ := List.mem_map.1 ho
  have := h2 x hx
  obtain ⟨q, rfl⟩ : ∃ q : Nat, x = (q : Int) := ⟨x.toNat, by omega⟩
  have hq : q < T.ops.length := by omega
  rw [opAt_eq (List.getElem?_eq_getElem hq)]
  exact (hok.ops _ (List.getElem_mem hq)).add
/-- few lists: so many at each level -/
def FewL (m lim : Nat) : Prop := ∀ k, k ≤ lim → (max 1 m) ^ k ≤ 700
theorem levL_len {T : Tsk} : ∀ n, (levL T n).length ≤ (max 1 T.ops.length) ^ n := by
  intro n
  induction n with
  | zero => simp [levL]
  | succ n ih =>
    have := nextM_len T (levL T n)
    rw [Nat.pow_succ]
    refine Nat.le_trans this (Nat.mul_le_mul ih (by omega))
theorem FewL.lev {T : Tsk} {lim n : Nat} (h : FewL T.ops.length lim) (hn : n ≤ lim) : (levL T n).length ≤ 700 := Nat.le_trans (levL_len n) (h n hn)
theorem FewL.next {T : Tsk} {N lim n i : Nat} (hok : OkT T N) (h : FewL T.ops.length lim) (hn : n ≤ lim) : (nextM T ((levL T n).take i)).length ≤ 28000 := by
  have h1 := nextM_len T ((levL T n).take i)
  have h2 := h.lev hn
  have h3 : ((levL T n).take i).length ≤ 700 := by rw [List.length_take]; omega
  have h4 := hok.few
  exact Nat.le_trans h1 (Nat.le_trans (Nat.mul_le_mul h3 h4) (by decide))
/-- what the reference answers: the length of a least plan that is a refinement, or -1 -/
def RefR (h : Hy) (lim : Nat) (R : Int) : Prop := (R = -1 ∧ ∀ p, GoodP h p → lim < p.length) ∨ (0 ≤ R ∧ R ≤ lim ∧ (∃ p, GoodP h p ∧ (p.length : Int) = R) ∧ ∀ p, GoodP h p → R ≤ p.length)
/-- no list of a level's first i is a good plan, nor of a level ahead -/
structure NoG (h : Hy) (n i : Nat) : Prop where
  low : ∀ p, GoodP h p → n ≤ p.length
  lev : ∀ x ∈ (levL h.T n).take i, ¬ (subsetB h.T.goal x.2 = true ∧ RefP h x.1)
theorem NoG.zero (h : Hy) : NoG h 0 0 := ⟨fun p _ => by omega, fun x hx => by simp at hx⟩
theorem NoG.one {h : Hy} {n i : Nat} {p s : List Int} (H : NoG h n i) (hx : (levL h.T n)[i]? = some (p, s)) (hno : ¬ (subsetB h.T.goal s = true ∧ RefP h p)) : NoG h n (i + 1) := by
  refine ⟨H.low, fun y hy => ?_⟩
  rw [List.take_add_one, hx] at hy
  rcases List.mem_append.1 hy with hy | hy
  · exact H.lev y hy
  · have e : y = (p, s) := by simpa using hy
    subst e
    exact hno
theorem NoG.next {h : Hy} {n i : Nat} (H : NoG h n i) (hi : (levL h.T n).length ≤ i) : NoG h (n + 1) 0 := by
  refine ⟨fun p hp => ?_, fun x hx => by simp at hx⟩
  have h1 := H.low p hp
  rcases Nat.lt_or_ge n p.length with g | g
  · exact g
  · have e : p.length = n := by omega
    obtain ⟨s, g1, g2, g3⟩ := levL_good.1 hp
    rw [e] at g1
    exact absurd ⟨g2, g3⟩ (H.lev (p, s) (by rw [List.take_of_length_le hi]; exact g1))
theorem NoG.found {h : Hy} {n i lim : Nat} {p s : List Int} (H : NoG h n i) (hn : n ≤ lim) (hx : (levL h.T n)[i]? = some (p, s)) (hg : subsetB h.T.goal s = true ∧ RefP h p) : RefR h lim (n : Int) := by
  have hm := List.mem_of_getElem? hx
  have hl := ((levL_mem _ _ _).1 hm).1
  refine .inr ⟨by omega, by omega, ⟨p, levL_good.2 ⟨s, by rw [hl]; exact hm, hg⟩, by omega⟩, fun q hq => ?_⟩
  have := H.low q hq
  omega
theorem NoG.none {h : Hy} {n lim : Nat} (H : NoG h n 0) (hn : lim < n) : RefR h lim (-1) := .inl ⟨rfl, fun p hp => by have := H.low p hp; omega⟩
end Go.Proofs.YtmjiiddncbhgpaaGreat
namespace Go.Proofs.YtmjiiddncbhgpaaGreat
set_option linter.unusedVariables false
set_option linter.unusedSimpArgs false
open Go.RowKit
structure FwI (M k n : Nat) : Prop where
  eq : n = M ^ k
  all : ∀ j, j ≤ k → M ^ j ≤ 700
def FewP (w : World) (m lim : Nat) (e : Ending) (w' : World) : Prop := w' = w ∧ ∃ b, e = .returned (.bool b) ∧ (b = true → FewL m lim)
theorem few_ct (m lim : Nat) (w : World) (hm : m ≤ 1000) (hl : lim ≤ 1000) :
    Calls Tryz.prog 28 #[.int .i64 m, .int .i64 lim] w (FewP w m lim) := by
  obtain ⟨M, hM⟩ : ∃ M, M = max 1 m := ⟨_, rfl⟩
  have hM1 : 1 ≤ M := by omega
  have hM2 : M ≤ 1000 := by omega
  have hmm : (1 < m ∧ M = m) ∨ (¬ 1 < m ∧ M = 1) := by omega
  have HM := hide hM
  clear hM
  go_enter Tryz.func28, Tryz.ntmps28
  go_wp2_with fail
  go_loopw [5, 6] (fun nv iv wr => ∃ k n : Nat, nv = .int .i64 n ∧ iv = .int .i64 k ∧ k ≤ lim ∧ n ≤ 700 ∧ wr = w ∧ FwI M k n) (fun _ iv _ => lim - (intOf iv).toNat)
  case atStart =>
    refine ⟨0, 1, rfl, rfl, by omega, by omega, rfl, rfl, fun j hj => ?_⟩
    obtain rfl : j = 0 := by omega
    simp
  case round =>
    obtain ⟨k, n, rfl, rfl, hk, hn, rfl, hI⟩ := hrel
    have HI := hide hI
    clear hI
    by_cases hlt : k < lim
    · have hki : (k : Int) < (lim : Int) := by omega
      have hP : n * M ≤ 700 * 1000 := Nat.mul_le_mul hn hM2
      obtain ⟨p, hp⟩ : ∃ p, p = n * M := ⟨_, rfl⟩
      rw [← hp] at hP
      have hpk : p = M ^ (k + 1) := by rw [hp, HI.out.eq, Nat.pow_succ]
      have hpi : (n : Int) * (M : Int) = (p : Int) := by rw [hp]; simp
      have hw1 : wrap64 (p : Int) = (p : Int) := by unfold wrap64; omega
      have Hpk := hide hpk
      clear hp hpk
      have hall : p ≤ 700 → FwI M (k + 1) p := fun h7 => ⟨Hpk.out, fun j hj => by
        rcases Nat.lt_or_ge j (k + 1) with h | h
        · exact HI.out.all j (by omega)
        · obtain rfl : j = k + 1 := by omega
          rw [← Hpk.out]
          exact h7⟩
      have Hall := hide hall
      clear hall
      rcases hmm with ⟨h1, h2⟩ | ⟨h1, h2⟩
      · have h1i : (1 : Int) < (m : Int) := by omega
        have hmul : (n : Int) * (m : Int) = (p : Int) := by rw [← hpi, h2]
        have hw : wrap64 ((n : Int) * (m : Int)) = (p : Int) := by rw [hmul, hw1]
        have hwm : wrap64 ((n : Int) * max (1 : Int) (m : Int)) = (p : Int) := by rw [show max (1 : Int) (m : Int) = (m : Int) by omega, hw]
        by_cases hp7 : p ≤ 700
        · have hp7i : ¬ (700 : Int) < (p : Int) := by omega
          go_wp2_with fail
          exact ⟨⟨k + 1, p, by first | rfl | rw [hwm], by go_num, by omega, hp7, trivial, Hall.out hp7⟩, by simp [intOf]; omega⟩
        · have hp7i : (700 : Int) < (p : Int) := by omega
          go_wp2_with fail
          go_ret
          exact ⟨rfl, false, rfl, fun e => by cases e⟩
      · have h1i : ¬ (1 : Int) < (m : Int) := by omega
        subst h2
        have hpn : p = n := by omega
        have Hpn := hide hpn
        have hw : wrap64 (n : Int) = (n : Int) := by unfold wrap64; omega
        have hwm : wrap64 ((n : Int) * max (1 : Int) (m : Int)) = (n : Int) := by rw [show max (1 : Int) (m : Int) = 1 by omega, Int.mul_one, hw]
        have hp7i : ¬ (700 : Int) < (n : Int) := by omega
        clear hpn hw1 hpi
        have hp7 : p ≤ 700 := by rw [Hpn.out]; exact hn
        have hI2 := Hall.out hp7
        rw [Hpn.out] at hI2
        have HI2 := hide hI2
        clear hI2 hp7
        go_wp2_with fail
        exact ⟨⟨k + 1, n, by first | rfl | rw [hwm], by go_num, by omega, hn, trivial, HI2.out⟩, by simp [intOf]; omega⟩
    · have hki : ¬ (k : Int) < (lim : Int) := by omega
      go_wp2_with fail
      go_ret
      exact ⟨rfl, true, rfl, fun _ j hj => by rw [← HM.out]; exact HI.out.all j (by omega)⟩
end Go.Proofs.YtmjiiddncbhgpaaGreat
