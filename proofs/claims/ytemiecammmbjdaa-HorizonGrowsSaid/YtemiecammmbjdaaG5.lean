/- What the laws ask for, part 5: TkPure. -/
import Derived.Test.YtemiecammmbjdaaG2
import Derived.BigQuiet
import Derived.Deep.AppendLies
import Derived.Deep.Draws
import Derived.Deep.Fields
import Derived.Deep.LoopGhost
import Derived.Deep.QuietTactic
import Derived.Deep.Slices
import Derived.Laws.AppendOwnNone
import Derived.Laws.OwnMore
import Derived.Lib.Hide
import Derived.Lib.SlicesCompact
import Derived.Test.YtemiecammmbjdaaProg
import Derived.WalkKit
namespace Go.Proofs.Ytemiecammmbjdaa
set_option linter.unusedVariables false
set_option linter.unusedSimpArgs false
/-- a strictly rising list of numbers from 0 to n - 1 -/
def setB (n : Int) (l : List Int) : Bool := decide (l.Pairwise (· < ·) ∧ ∀ x ∈ l, 0 ≤ x ∧ x < n)
theorem setB_iff {n : Int} {l : List Int} : setB n l = true ↔ l.Pairwise (· < ·) ∧ ∀ x ∈ l, 0 ≤ x ∧ x < n := by simp [setB]
theorem up_last {l : List Int} {k : Nat} {x : Int} (hk : k ≤ l.length) (hl : (l.take k).Pairwise (· < ·)) (h1 : ∀ y, 0 < k → l[k - 1]? = some y → y < x) : ∀ z ∈ l.take k, z < x := by
  intro z hz
  obtain ⟨j, hj⟩ := List.getElem?_of_mem hz
  have hjk : j < k := by
    have := (List.getElem?_eq_some_iff.1 hj).1
    rw [List.length_take] at this
    omega
  have hjl : l[j]? = some z := by rwa [List.getElem?_take_of_lt hjk] at hj
  have hlen := (List.getElem?_eq_some_iff.1 hjl).1
  rcases Nat.lt_or_ge j (k - 1) with hlt | hge
  · rcases Nat.lt_or_ge (k - 1) l.length with hk1 | hk1
    · have hy := List.getElem?_eq_getElem hk1
      have h2 := h1 _ (by omega) hy
      have h3 := List.pairwise_iff_getElem.1 hl j (k - 1) (by rw [List.length_take]; omega) (by rw [List.length_take]; omega) hlt
      rw [List.getElem_take, List.getElem_take] at h3
      have e := (List.getElem?_eq_some_iff.1 hjl).2
      omega
    · omega
  · obtain rfl : j = k - 1 := by omega
    exact h1 z (by omega) hjl
theorem setB_succ {n : Int} {l : List Int} {k : Nat} {x : Int} (hk : k ≤ l.length) (h : setB n (l.take k) = true) (hx : l[k]? = some x) (h0 : 0 ≤ x) (h2 : x < n) (h1 : ∀ y, 0 < k → l[k - 1]? = some y → y < x) : setB n (l.take (k + 1)) = true := by
  obtain ⟨p1, p2⟩ := setB_iff.1 h
  have hz := up_last hk p1 h1
  rw [List.take_add_one, hx]
  refine setB_iff.2 ⟨List.pairwise_append.2 ⟨p1, by simp, fun a ha b hb => ?_⟩, fun y hy => ?_⟩
  · simp at hb
    rw [hb]
    exact hz a ha
  · rcases List.mem_append.1 hy with hy | hy
    · exact p2 y hy
    · simp at hy
      rw [hy]
      exact ⟨h0, h2⟩
theorem setB_at {n : Int} {l : List Int} (h : setB n l = true) {k : Nat} {x : Int} (hx : l[k]? = some x) : 0 ≤ x ∧ x < n ∧ ∀ y, 0 < k → l[k - 1]? = some y → y < x := by
  obtain ⟨p1, p2⟩ := setB_iff.1 h
  have h3 := p2 x (List.mem_of_getElem? hx)
  refine ⟨h3.1, h3.2, fun y hk hy => ?_⟩
  obtain ⟨a1, a2⟩ := List.getElem?_eq_some_iff.1 hx
  obtain ⟨b1, b2⟩ := List.getElem?_eq_some_iff.1 hy
  have := List.pairwise_iff_getElem.1 p1 (k - 1) k b1 a1 (by omega)
  omega
theorem setB_len {n : Nat} {l : List Int} (h : setB (n : Int) l = true) : l.length ≤ n := by
  obtain ⟨p1, p2⟩ := setB_iff.1 h
  have hnd : (l.map Int.toNat).Nodup := by
    unfold List.Nodup
    rw [List.pairwise_map]
    exact p1.imp_of_mem (fun {a b} ha hb hab => by have := (p2 a ha).1; omega)
  have := List.Nodup.length_le_of_subset (l₂ := List.range n) hnd (fun x hx => by
    obtain ⟨y, hy, rfl⟩ := List.mem_map.1 hx
    have := p2 y hy
    rw [List.mem_range]
    omega)
  simpa using this
/-- two rising lists with the same elements are equal -/
theorem up_ext {a b : List Int} (ha : a.Pairwise (· < ·)) (hb : b.Pairwise (· < ·)) (h : ∀ x, x ∈ a ↔ x ∈ b) : a = b := by
  induction a generalizing b with
  | nil =>
    cases b with
    | nil => rfl
    | cons y b => exact absurd ((h y).2 (List.mem_cons_self ..)) (by simp)
  | cons x a ih =>
    cases b with
    | nil => exact absurd ((h x).1 (List.mem_cons_self ..)) (by simp)
    | cons y b =>
      obtain ⟨a1, a2⟩ := List.pairwise_cons.1 ha
      obtain ⟨b1, b2⟩ := List.pairwise_cons.1 hb
      have hxy : x = y := by
        rcases List.mem_cons.1 ((h x).1 (List.mem_cons_self ..)) with e | e
        · exact e
        · rcases List.mem_cons.1 ((h y).2 (List.mem_cons_self ..)) with e2 | e2
          · exact e2.symm
          · have := b1 x e
            have := a1 y e2
            omega
      subst hxy
      congr 1
      refine ih a2 b2 (fun z => ?_)
      have := h z
      rw [List.mem_cons, List.mem_cons] at this
      constructor
      · intro hz
        rcases this.1 (.inr hz) with e | e
        · have := a1 z hz
          omega
        · exact e
      · intro hz
        rcases this.2 (.inr hz) with e | e
        · have := b1 z hz
          omega
        · exact e
def meetB (a b : List Int) : Bool := a.any (hasB b)
theorem meetB_iff {a b : List Int} : meetB a b = true ↔ ∃ x ∈ a, x ∈ b := by
  unfold meetB
  rw [List.any_eq_true]
  simp only [hasB_iff]
theorem subsetB_iff {a b : List Int} : subsetB a b = true ↔ ∀ x ∈ a, x ∈ b := by
  unfold subsetB
  rw [List.all_eq_true]
  simp only [hasB_iff]

/-- slices.Compact of a sorted list: the same elements, strictly rising -/
theorem compact_mem {l : List Int} (hl : l.Pairwise (· ≤ ·)) (x : Int) : x ∈ Go.Lib.compact l ↔ x ∈ l := by
  unfold Go.Lib.compact Go.Lib.compactUpTo
  rw [List.mem_map]
  constructor
  · rintro ⟨j, hj, rfl⟩
    obtain ⟨h1, _⟩ := List.mem_filter.1 hj
    have hjl := List.mem_range.1 h1
    rw [getElem!_pos _ j (by simpa using hjl)]
    exact List.getElem_mem _
  · intro hx
    obtain ⟨j, hj⟩ := List.getElem?_of_mem hx
    have key : ∀ j : Nat, l[j]? = some x → ∃ i : Nat, l[i]? = some x ∧ Go.Lib.keeps l.toArray i = true := by
      intro j
      induction j with
      | zero => exact fun h => ⟨0, h, by simp [Go.Lib.keeps]⟩
      | succ j ih =>
        intro h
        have hjl := (List.getElem?_eq_some_iff.1 h).1
        by_cases e : l[j]? = some x
        · exact ih e
        · refine ⟨j + 1, h, ?_⟩
          unfold Go.Lib.keeps
          rw [decide_eq_true_iff]
          right
          rw [getElem!_pos _ (j + 1) (by simpa using hjl), getElem!_pos _ (j + 1 - 1) (by simp; omega)]
          intro e2
          apply e
          have := (List.getElem?_eq_some_iff.1 h).2
          rw [List.getElem?_eq_getElem (by omega)]
          simp at e2
          rw [← e2, this]
    obtain ⟨i, hi, hk⟩ := key j hj
    have hil := (List.getElem?_eq_some_iff.1 hi).1
    refine ⟨i, List.mem_filter.2 ⟨List.mem_range.2 hil, hk⟩, ?_⟩
    rw [getElem!_pos _ i (by simpa using hil)]
    have := (List.getElem?_eq_some_iff.1 hi).2
    simpa using this
theorem compact_up {l : List Int} (hl : l.Pairwise (· ≤ ·)) : (Go.Lib.compact l).Pairwise (· < ·) := by
  unfold Go.Lib.compact Go.Lib.compactUpTo
  rw [List.pairwise_map]
  have hr : (((List.range l.length).filter (Go.Lib.keeps l.toArray))).Pairwise (· < ·) := (List.pairwise_lt_range).sublist List.filter_sublist
  refine hr.imp_of_mem (fun {i j} hi hj hij => ?_)
  obtain ⟨hi1, _⟩ := List.mem_filter.1 hi
  obtain ⟨hj1, hj2⟩ := List.mem_filter.1 hj
  have hil := List.mem_range.1 hi1
  have hjl := List.mem_range.1 hj1
  have hle : ∀ a b (ha : a < l.length) (hb : b < l.length), a ≤ b → l[a] ≤ l[b] := fun a b ha hb hab => by
    rcases Nat.lt_or_ge a b with h | h
    · exact List.pairwise_iff_getElem.1 hl a b ha hb h
    · obtain rfl : a = b := by omega
      omega
  unfold Go.Lib.keeps at hj2
  rw [decide_eq_true_iff] at hj2
  have h3 := hj2.resolve_left (by omega)
  rw [getElem!_pos _ j (by simpa using hjl), getElem!_pos _ (j - 1) (by simp; omega)] at h3
  rw [getElem!_pos _ j (by simpa using hjl), getElem!_pos _ i (by simpa using hil)]
  simp only [List.getElem_toArray] at h3 ⊢
  have h4 := hle i (j - 1) hil (by omega) (by omega)
  have h5 := hle (j - 1) j (by omega) hjl (by omega)
  omega
/-- strips.Update: s without del, with add -/
def updF (s add del : List Int) : List Int := Go.Lib.compact ((s.filter (fun x => !hasB del x) ++ add).mergeSort fun x y => decide (x ≤ y))
theorem sorted_le (l : List Int) : (l.mergeSort fun x y => decide (x ≤ y)).Pairwise (· ≤ ·) := by
  have := List.pairwise_mergeSort (le := fun x y : Int => decide (x ≤ y)) (fun a b c h1 h2 => by simp at *; omega) (fun a b => by simp; omega) l
  simpa using this
theorem updF_mem {s add del : List Int} {x : Int} : x ∈ updF s add del ↔ (x ∈ s ∧ x ∉ del) ∨ x ∈ add := by
  unfold updF
  rw [compact_mem (sorted_le _), List.mem_mergeSort, List.mem_append, List.mem_filter]
  simp only [Bool.not_eq_true', ← Bool.not_eq_true, hasB_iff]
theorem updF_up (s add del : List Int) : (updF s add del).Pairwise (· < ·) := compact_up (sorted_le _)
theorem updF_set {n : Int} {s add del : List Int} (h1 : ∀ x ∈ s, 0 ≤ x ∧ x < n) (h2 : ∀ x ∈ add, 0 ≤ x ∧ x < n) : setB n (updF s add del) = true :=
  setB_iff.2 ⟨updF_up _ _ _, fun x hx => by
    rcases updF_mem.1 hx with ⟨h, _⟩ | h
    · exact h1 x h
    · exact h2 x h⟩
structure Opr where
  pre : List Int
  add : List Int
  del : List Int
  cost : Int
structure Tsk where
  facts : Int
  init : List Int
  goal : List Int
  ops : List Opr
def opCode (n : Int) (o : Opr) : Int := if setB n o.pre = true ∧ setB n o.add = true ∧ setB n o.del = true ∧ meetB o.add o.del = false then (if inB o.cost 0 100 = true then 0 else 3) else 5
def opsFault (n : Int) (i : Nat) : List Opr → Int × Int
  | [] => (0, 0)
  | o :: os => if opCode n o = 0 then opsFault n (i + 1) os else (opCode n o, i)
def taskFault (T : Tsk) : Int × Int :=
  if inB T.facts 0 24 = false then (3, -1) else if setB T.facts T.init = false then (5, -2) else if setB T.facts T.goal = false then (5, -3) else if 40 < T.ops.length then (2, -1) else opsFault T.facts 0 T.ops
theorem opCode_range (n : Int) (o : Opr) : opCode n o = 0 ∨ opCode n o = 3 ∨ opCode n o = 5 := by
  unfold opCode
  split
  · split <;> simp
  · simp
structure OkOp (n : Nat) (o : Opr) : Prop where
  pre : setB n o.pre = true
  add : setB n o.add = true
  del : setB n o.del = true
  apart : meetB o.add o.del = false
  low : 0 ≤ o.cost
  high : o.cost ≤ 100
theorem opCode_ok {n : Nat} {o : Opr} (h : opCode n o = 0) : OkOp n o := by
  unfold opCode at h
  split at h
  · rename_i h1
    split at h
    · rename_i h2
      have := inB_iff.1 h2
      exact ⟨h1.1, h1.2.1, h1.2.2.1, h1.2.2.2, this.1, this.2⟩
    · omega
  · omega
theorem opsFault_ok {n : Int} {i : Nat} {os : List Opr} : (opsFault n i os).1 = 0 ↔ ∀ o ∈ os, opCode n o = 0 := by
  induction os generalizing i with
  | nil => simp [opsFault]
  | cons o os ih =>
    unfold opsFault
    split
    · rename_i h
      rw [ih]
      simp [h]
    · rename_i h
      simp [h]
theorem opsFault_zero {n : Int} {i : Nat} {os : List Opr} (h : (opsFault n i os).1 = 0) : opsFault n i os = (0, 0) := by
  induction os generalizing i with
  | nil => rfl
  | cons o os ih =>
    unfold opsFault at h ⊢
    split
    · rename_i e
      rw [if_pos e] at h
      exact ih h
    · rename_i e
      rw [if_neg e] at h
      exact absurd h e
/-- a valid task -/
structure OkT (T : Tsk) (n : Nat) : Prop where
  facts : T.facts = n
  low : n ≤ 24
  init : setB n T.init = true
  goal : setB n T.goal = true
  few : T.ops.length ≤ 40
  ops : ∀ o ∈ T.ops, OkOp n o
theorem taskFault_zero {T : Tsk} (h : (taskFault T).1 = 0) : taskFault T = (0, 0) := by
  unfold taskFault at h ⊢
  split
  · rename_i e; rw [if_pos e] at h; cases h
  · rename_i e; rw [if_neg e] at h
    split
    · rename_i e; rw [if_pos e] at h; cases h
    · rename_i e; rw [if_neg e] at h
      split
      · rename_i e; rw [if_pos e] at h; cases h
      · rename_i e; rw [if_neg e] at h
        split
        · rename_i e; rw [if_pos e] at h; cases h
        · rename_i e; rw [if_neg e] at h
          exact opsFault_zero h
theorem taskFault_ok {T : Tsk} (h : (taskFault T).1 = 0) : ∃ n, OkT T n := by
  unfold taskFault at h
  split at h
  · cases h
  · rename_i h1
    split at h
    · cases h
    · rename_i h2
      split at h
      · cases h
      · rename_i h3
        split at h
        · cases h
        · rename_i h4
          have h1 := inB_iff.1 (by simpa using h1)
          refine ⟨T.facts.toNat, by omega, by omega, by rw [Int.toNat_of_nonneg h1.1]; simpa using h2, by rw [Int.toNat_of_nonneg h1.1]; simpa using h3, by omega, fun o ho => ?_⟩
          have := opsFault_ok.1 h o ho
          exact opCode_ok (by rw [Int.toNat_of_nonneg h1.1]; exact this)
end Go.Proofs.Ytemiecammmbjdaa
