/- The law HierarchyPlanMatchesSpec of the package hierarchy holds, without a condition., part 2: TkPure SpPure SpReach SpArc As Hi Hq Hv Hj Hs SpLex SwS SpRef. -/
import Derived.Test.YtmjiiddncbhgpaaGreatF1
import Derived.BigQuiet
import Derived.Deep.AppendLies
import Derived.Deep.Draws
import Derived.Deep.Fields
import Derived.Deep.LoopGhost
import Derived.Deep.QuietTactic
import Derived.Deep.Slices
import Derived.Laws.AppendOwnNone
import Derived.Laws.OwnMore
import Derived.Lib.Hide
import Derived.Lib.SlicesCompact
import Derived.Test.YtmjiiddncbhgpaaGreatProg
import Derived.WalkKit
namespace Go.Proofs.YtmjiiddncbhgpaaGreat
set_option linter.unusedVariables false
set_option linter.unusedSimpArgs false
/-- a strictly rising list of numbers from 0 to n - 1 -/
def setB (n : Int) (l : List Int) : Bool := decide (l.Pairwise (· < ·) ∧ ∀ x ∈ l, 0 ≤ x ∧ x < n)
theorem setB_iff {n : Int} {l : List Int} : setB n l = true ↔ l.Pairwise (· < ·) ∧ ∀ x ∈ l, 0 ≤ x ∧ x < n := by simp [setB]
theorem up_last {l : List Int} {k : Nat} {x : Int} (hk : k ≤ l.length) (hl : (l.take k).Pairwise (· < ·)) (h1 : ∀ y, 0 < k → l[k - 1]? = some y → y < x) : ∀ z ∈ l.take k, z < x := by
  intro z hz
  obtain ⟨j, hj⟩ := List.getElem?_of_mem hz
  have hjk : j < k := by
    have := (List.getElem?_eq_some_iff.1 hj).1
    rw [List.length_take] at this
    omega
  have hjl : l[j]? = some z := by rwa [List.getElem?_take_of_lt hjk] at hj
  have hlen := (List.getElem?_eq_some_iff.1 hjl).1
  rcases Nat.lt_or_ge j (k - 1) with hlt | hge
  · rcases Nat.lt_or_ge (k - 1) l.length with hk1 | hk1
    · have hy := List.getElem?_eq_getElem hk1
      have h2 := h1 _ (by omega) hy
      have h3 := List.pairwise_iff_getElem.1 hl j (k - 1) (by rw [List.length_take]; omega) (by rw [List.length_take]; omega) hlt
      rw [List.getElem_take, List.getElem_take] at h3
      have e := (List.getElem?_eq_some_iff.1 hjl).2
      omega
    · omega
  · obtain rfl : j = k - 1 := by omega
    exact h1 z (by omega) hjl
theorem setB_succ {n : Int} {l : List Int} {k : Nat} {x : Int} (hk : k ≤ l.length) (h : setB n (l.take k) = true) (hx : l[k]? = some x) (h0 : 0 ≤ x) (h2 : x < n) (h1 : ∀ y, 0 < k → l[k - 1]? = some y → y < x) : setB n (l.take (k + 1)) = true := by
  obtain ⟨p1, p2⟩ := setB_iff.1 h
  have hz := up_last hk p1 h1
  rw [List.take_add_one, hx]
  refine setB_iff.2 ⟨List.pairwise_append.2 ⟨p1, by simp, fun a ha b hb => ?_⟩, fun y hy => ?_⟩
  · simp at hb
    rw [hb]
    exact hz a ha
  · rcases List.mem_append.1 hy with hy | hy
    · exact p2 y hy
    · simp at hy
      rw [hy]
      exact ⟨h0, h2⟩
theorem setB_at {n : Int} {l : List Int} (h : setB n l = true) {k : Nat} {x : Int} (hx : l[k]? = some x) : 0 ≤ x ∧ x < n ∧ ∀ y, 0 < k → l[k - 1]? = some y → y < x := by
  obtain ⟨p1, p2⟩ := setB_iff.1 h
  have h3 := p2 x (List.mem_of_getElem? hx)
  refine ⟨h3.1, h3.2, fun y hk hy => ?_⟩
  obtain ⟨a1, a2⟩ := List.getElem?_eq_some_iff.1 hx
  obtain ⟨b1, b2⟩ := List.getElem?_eq_some_iff.1 hy
  have := List.pairwise_iff_getElem.1 p1 (k - 1) k b1 a1 (by omega)
  omega
theorem setB_len {n : Nat} {l : List Int} (h : setB (n : Int) l = true) : l.length ≤ n := by
  obtain ⟨p1, p2⟩ := setB_iff.1 h
  have hnd : (l.map Int.toNat).Nodup := by
    unfold List.Nodup
    rw [List.pairwise_map]
    exact p1.imp_of_mem (fun {a b} ha hb hab => by have := (p2 a ha).1; omega)
  have := List.Nodup.length_le_of_subset (l₂ := List.range n) hnd (fun x hx => by
    obtain ⟨y, hy, rfl⟩ := List.mem_map.1 hx
    have := p2 y hy
    rw [List.mem_range]
    omega)
  simpa using this
/-- two rising lists with the same elements are equal -/
theorem up_ext {a b : List Int} (ha : a.Pairwise (· < ·)) (hb : b.Pairwise (· < ·)) (h : ∀ x, x ∈ a ↔ x ∈ b) : a = b := by
  induction a generalizing b with
  | nil =>
    cases b with
    | nil => rfl
    | cons y b => exact absurd ((h y).2 (List.mem_cons_self ..)) (by simp)
  | cons x a ih =>
    cases b with
    | nil => exact absurd ((h x).1 (List.mem_cons_self ..)) (by simp)
    | cons y b =>
      obtain ⟨a1, a2⟩ := List.pairwise_cons.1 ha
      obtain ⟨b1, b2⟩ := List.pairwise_cons.1 hb
      have hxy : x = y := by
        rcases List.mem_cons.1 ((h x).1 (List.mem_cons_self ..)) with e | e
        · exact e
        · rcases List.mem_cons.1 ((h y).2 (List.mem_cons_self ..)) with e2 | e2
          · exact e2.symm
          · have := b1 x e
            have := a1 y e2
            omega
      subst hxy
      congr 1
      refine ih a2 b2 (fun z => ?_)
      have := h z
      rw [List.mem_cons, List.mem_cons] at this
      constructor
      · intro hz
        rcases this.1 (.inr hz) with e | e
        · have := a1 z hz
          omega
        · exact e
      · intro hz
        rcases this.2 (.inr hz) with e | e
        · have := b1 z hz
          omega
        · exact e
def meetB (a b : List Int) : Bool := a.any (hasB b)
theorem subsetB_iff {a b : List Int} : subsetB a b = true ↔ ∀ x ∈ a, x ∈ b := by
  unfold subsetB
  rw [List.all_eq_true]
  simp only [hasB_iff]

/-- slices.Compact of a sorted list: the same elements, strictly rising -/
theorem compact_mem {l : List Int} (hl : l.Pairwise (· ≤ ·)) (x : Int) : x ∈ Go.Lib.compact l ↔ x ∈ l := by
  unfold Go.Lib.compact Go.Lib.compactUpTo
  rw [List.mem_map]
  constructor
  · rintro ⟨j, hj, rfl⟩
    obtain ⟨h1, _⟩ := List.mem_filter.1 hj
    have hjl := List.mem_range.1 h1
    rw [getElem!_pos _ j (by simpa using hjl)]
    exact List.getElem_mem _
  · intro hx
    obtain ⟨j, hj⟩ := List.getElem?_of_mem hx
    have key : ∀ j : Nat, l[j]? = some x → ∃ i : Nat, l[i]? = some x ∧ Go.Lib.keeps l.toArray i = true := by
      intro j
      induction j with
      | zero => exact fun h => ⟨0, h, by simp [Go.Lib.keeps]⟩
      | succ j ih =>
        intro h
        have hjl := (List.getElem?_eq_some_iff.1 h).1
        by_cases e : l[j]? = some x
        · exact ih e
        · refine ⟨j + 1, h, ?_⟩
          unfold Go.Lib.keeps
          rw [decide_eq_true_iff]
          right
          rw [getElem!_pos _ (j + 1) (by simpa using hjl), getElem!_pos _ (j + 1 - 1) (by simp; omega)]
          intro e2
          apply e
          have := (List.getElem?_eq_some_iff.1 h).2
          rw [List.getElem?_eq_getElem (by omega)]
          simp at e2
          rw [← e2, this]
    obtain ⟨i, hi, hk⟩ := key j hj
    have hil := (List.getElem?_eq_some_iff.1 hi).1
    refine ⟨i, List.mem_filter.2 ⟨List.mem_range.2 hil, hk⟩, ?_⟩
    rw [getElem!_pos _ i (by simpa using hil)]
    have := (List.getElem?_eq_some_iff.1 hi).2
    simpa using this
theorem compact_up {l : List Int} (hl : l.Pairwise (· ≤ ·)) : (Go.Lib.compact l).Pairwise (· < ·) := by
  unfold Go.Lib.compact Go.Lib.compactUpTo
  rw [List.pairwise_map]
  have hr : (((List.range l.length).filter (Go.Lib.keeps l.toArray))).Pairwise (· < ·) := (List.pairwise_lt_range).sublist List.filter_sublist
  refine hr.imp_of_mem (fun {i j} hi hj hij => ?_)
  obtain ⟨hi1, _⟩ := List.mem_filter.1 hi
  obtain ⟨hj1, hj2⟩ := List.mem_filter.1 hj
  have hil := List.mem_range.1 hi1
  have hjl := List.mem_range.1 hj1
  have hle : ∀ a b (ha : a < l.length) (hb : b < l.length), a ≤ b → l[a] ≤ l[b] := fun a b ha hb hab => by
    rcases Nat.lt_or_ge a b with h | h
    · exact List.pairwise_iff_getElem.1 hl a b ha hb h
    · obtain rfl : a = b := by omega
      omega
  unfold Go.Lib.keeps at hj2
  rw [decide_eq_true_iff] at hj2
  have h3 := hj2.resolve_left (by omega)
  rw [getElem!_pos _ j (by simpa using hjl), getElem!_pos _ (j - 1) (by simp; omega)] at h3
  rw [getElem!_pos _ j (by simpa using hjl), getElem!_pos _ i (by simpa using hil)]
  simp only [List.getElem_toArray] at h3 ⊢
  have h4 := hle i (j - 1) hil (by omega) (by omega)
  have h5 := hle (j - 1) j (by omega) hjl (by omega)
  omega
/-- strips.Update: s without del, with add -/
def updF (s add del : List Int) : List Int := Go.Lib.compact ((s.filter (fun x => !hasB del x) ++ add).mergeSort fun x y => decide (x ≤ y))
theorem sorted_le (l : List Int) : (l.mergeSort fun x y => decide (x ≤ y)).Pairwise (· ≤ ·) := by
  have := List.pairwise_mergeSort (le := fun x y : Int => decide (x ≤ y)) (fun a b c h1 h2 => by simp at *; omega) (fun a b => by simp; omega) l
  simpa using this
theorem updF_mem {s add del : List Int} {x : Int} : x ∈ updF s add del ↔ (x ∈ s ∧ x ∉ del) ∨ x ∈ add := by
  unfold updF
  rw [compact_mem (sorted_le _), List.mem_mergeSort, List.mem_append, List.mem_filter]
  simp only [Bool.not_eq_true', ← Bool.not_eq_true, hasB_iff]
theorem updF_up (s add del : List Int) : (updF s add del).Pairwise (· < ·) := compact_up (sorted_le _)
theorem updF_set {n : Int} {s add del : List Int} (h1 : ∀ x ∈ s, 0 ≤ x ∧ x < n) (h2 : ∀ x ∈ add, 0 ≤ x ∧ x < n) : setB n (updF s add del) = true :=
  setB_iff.2 ⟨updF_up _ _ _, fun x hx => by
    rcases updF_mem.1 hx with ⟨h, _⟩ | h
    · exact h1 x h
    · exact h2 x h⟩
structure Opr where
  pre : List Int
  add : List Int
  del : List Int
  cost : Int
structure Tsk where
  facts : Int
  init : List Int
  goal : List Int
  ops : List Opr
def opCode (n : Int) (o : Opr) : Int := if setB n o.pre = true ∧ setB n o.add = true ∧ setB n o.del = true ∧ meetB o.add o.del = false then (if inB o.cost 0 100 = true then 0 else 3) else 5
def opsFault (n : Int) (i : Nat) : List Opr → Int × Int
  | [] => (0, 0)
  | o :: os => if opCode n o = 0 then opsFault n (i + 1) os else (opCode n o, i)
def taskFault (T : Tsk) : Int × Int :=
  if inB T.facts 0 24 = false then (3, -1) else if setB T.facts T.init = false then (5, -2) else if setB T.facts T.goal = false then (5, -3) else if 40 < T.ops.length then (2, -1) else opsFault T.facts 0 T.ops
theorem opCode_range (n : Int) (o : Opr) : opCode n o = 0 ∨ opCode n o = 3 ∨ opCode n o = 5 := by
  unfold opCode
  split
  · split <;> simp
  · simp
structure OkOp (n : Nat) (o : Opr) : Prop where
  pre : setB n o.pre = true
  add : setB n o.add = true
  del : setB n o.del = true
  apart : meetB o.add o.del = false
  low : 0 ≤ o.cost
  high : o.cost ≤ 100
theorem opCode_ok {n : Nat} {o : Opr} (h : opCode n o = 0) : OkOp n o := by
  unfold opCode at h
  split at h
  · rename_i h1
    split at h
    · rename_i h2
      have := inB_iff.1 h2
      exact ⟨h1.1, h1.2.1, h1.2.2.1, h1.2.2.2, this.1, this.2⟩
    · omega
  · omega
theorem opsFault_ok {n : Int} {i : Nat} {os : List Opr} : (opsFault n i os).1 = 0 ↔ ∀ o ∈ os, opCode n o = 0 := by
  induction os generalizing i with
  | nil => simp [opsFault]
  | cons o os ih =>
    unfold opsFault
    split
    · rename_i h
      rw [ih]
      simp [h]
    · rename_i h
      simp [h]
theorem opsFault_zero {n : Int} {i : Nat} {os : List Opr} (h : (opsFault n i os).1 = 0) : opsFault n i os = (0, 0) := by
  induction os generalizing i with
  | nil => rfl
  | cons o os ih =>
    unfold opsFault at h ⊢
    split
    · rename_i e
      rw [if_pos e] at h
      exact ih h
    · rename_i e
      rw [if_neg e] at h
      exact absurd h e
/-- a valid task -/
structure OkT (T : Tsk) (n : Nat) : Prop where
  facts : T.facts = n
  low : n ≤ 24
  init : setB n T.init = true
  goal : setB n T.goal = true
  few : T.ops.length ≤ 40
  ops : ∀ o ∈ T.ops, OkOp n o
theorem taskFault_zero {T : Tsk} (h : (taskFault T).1 = 0) : taskFault T = (0, 0) := by
  unfold taskFault at h ⊢
  split
  · rename_i e; rw [if_pos e] at h; cases h
  · rename_i e; rw [if_neg e] at h
    split
    · rename_i e; rw [if_pos e] at h; cases h
    · rename_i e; rw [if_neg e] at h
      split
      · rename_i e; rw [if_pos e] at h; cases h
      · rename_i e; rw [if_neg e] at h
        split
        · rename_i e; rw [if_pos e] at h; cases h
        · rename_i e; rw [if_neg e] at h
          exact opsFault_zero h
theorem taskFault_ok {T : Tsk} (h : (taskFault T).1 = 0) : ∃ n, OkT T n := by
  unfold taskFault at h
  split at h
  · cases h
  · rename_i h1
    split at h
    · cases h
    · rename_i h2
      split at h
      · cases h
      · rename_i h3
        split at h
        · cases h
        · rename_i h4
          have h1 := inB_iff.1 (by simpa using h1)
          refine ⟨T.facts.toNat, by omega, by omega, by rw [Int.toNat_of_nonneg h1.1]; simpa using h2, by rw [Int.toNat_of_nonneg h1.1]; simpa using h3, by omega, fun o ho => ?_⟩
          have := opsFault_ok.1 h o ho
          exact opCode_ok (by rw [Int.toNat_of_nonneg h1.1]; exact this)
def I64s (x : Int) : Prop := -9223372036854775808 ≤ x ∧ x ≤ 9223372036854775807
end Go.Proofs.YtmjiiddncbhgpaaGreat
namespace Go.Proofs.YtmjiiddncbhgpaaGreat
/-- the word of a list of facts -/
def wordF (l : List Int) : Nat := l.foldl (fun w p => w ||| 1 <<< p.toNat) 0
/-- what lies in w and not in d -/
def lessW (w d : Nat) : Nat := w ^^^ (w &&& d)
/-- the facts of a word -/
def factsF (w : Nat) : List Int := ((List.range 32).filter fun p => w.testBit p).map Int.ofNat
theorem word_from (l : List Int) (hl : ∀ x ∈ l, 0 ≤ x) (q : Nat) : ∀ w : Nat, (l.foldl (fun w p => w ||| 1 <<< p.toNat) w).testBit q = (w.testBit q || decide ((q : Int) ∈ l)) := by
  induction l with
  | nil => intro w; simp
  | cons x l ih =>
    intro w
    rw [List.foldl_cons, ih (fun y hy => hl y (List.mem_cons_of_mem _ hy))]
    have h0 := hl x List.mem_cons_self
    rw [Nat.testBit_or, Nat.one_shiftLeft, Nat.testBit_two_pow]
    by_cases hq : x.toNat = q
    · have e : (q : Int) = x := by omega
      simp [hq, e]
    · have e : ¬ (q : Int) = x := by omega
      simp [hq, e]
theorem word_bit {l : List Int} (hl : ∀ x ∈ l, 0 ≤ x) (q : Nat) : (wordF l).testBit q = decide ((q : Int) ∈ l) := by
  have h := word_from l hl q 0
  simpa [wordF] using h
theorem word_lt {l : List Int} (hl : ∀ x ∈ l, 0 ≤ x ∧ x < 32) : wordF l < 4294967296 := by
  have h : wordF l < 2 ^ 32 := by
    refine Nat.lt_pow_two_of_testBit _ fun i hi => ?_
    rw [word_bit fun x hx => (hl x hx).1]
    simp only [decide_eq_false_iff_not]
    intro hm
    have := (hl _ hm).2
    omega
  simpa using h
theorem less_bit (w d q : Nat) : (lessW w d).testBit q = (w.testBit q && !d.testBit q) := by
  simp only [lessW, Nat.testBit_xor, Nat.testBit_and]
  cases w.testBit q <;> cases d.testBit q <;> rfl
theorem facts_mem {w : Nat} {x : Int} : x ∈ factsF w ↔ 0 ≤ x ∧ x < 32 ∧ w.testBit x.toNat = true := by
  simp only [factsF, List.mem_map, List.mem_filter, List.mem_range]
  constructor
  · rintro ⟨p, ⟨h1, h2⟩, rfl⟩
    refine ⟨by simp, by simp; omega, by simpa using h2⟩
  · rintro ⟨h0, h1, h2⟩
    exact ⟨x.toNat, ⟨by omega, h2⟩, by simp; omega⟩
theorem facts_up (w : Nat) : (factsF w).Pairwise (· < ·) := by
  refine List.Pairwise.map _ (R := fun a b : Nat => a < b) (fun a b h => by simp only [Int.ofNat_eq_natCast]; omega) ?_
  exact List.Pairwise.filter _ List.pairwise_lt_range
theorem facts_word {n : Int} {l : List Int} (hn : n ≤ 32) (h : setB n l = true) : factsF (wordF l) = l := by
  obtain ⟨hp, hm⟩ := setB_iff.1 h
  refine up_ext (facts_up _) hp fun x => ?_
  rw [facts_mem, word_bit fun y hy => (hm y hy).1]
  simp only [decide_eq_true_eq]
  constructor
  · rintro ⟨h0, _, h2⟩
    rwa [Int.toNat_of_nonneg h0] at h2
  · intro hx
    have := hm x hx
    exact ⟨this.1, by omega, by rwa [Int.toNat_of_nonneg this.1]⟩
theorem word_facts {w : Nat} (h : w < 4294967296) : wordF (factsF w) = w := by
  refine Nat.eq_of_testBit_eq fun q => ?_
  rw [word_bit fun x hx => (facts_mem.1 hx).1]
  by_cases hq : q < 32
  · by_cases hw : w.testBit q = true
    · rw [hw]; simp only [decide_eq_true_eq]; exact facts_mem.2 ⟨by omega, by omega, by simpa using hw⟩
    · rw [Bool.not_eq_true] at hw
      rw [hw]; simp only [decide_eq_false_iff_not]
      intro hm
      have := (facts_mem.1 hm).2.2
      simp [hw] at this
  · have hw : w.testBit q = false := Nat.testBit_lt_two_pow (Nat.lt_of_lt_of_le h (by have := Nat.pow_le_pow_right (n := 2) (by omega) (Nat.not_lt.1 hq); simpa using this))
    rw [hw]; simp only [decide_eq_false_iff_not]
    intro hm
    have := (facts_mem.1 hm).2.1
    omega
/-- a set's word lies in a state's word: the set is a part of the state -/
theorem word_sub {a s : List Int} (ha : ∀ x ∈ a, 0 ≤ x) (hs : ∀ x ∈ s, 0 ≤ x) : wordF s &&& wordF a = wordF a ↔ subsetB a s = true := by
  rw [subsetB_iff]
  constructor
  · intro h x hx
    have h2 : (wordF s &&& wordF a).testBit x.toNat = (wordF a).testBit x.toNat := by rw [h]
    rw [Nat.testBit_and, word_bit ha, word_bit hs, Int.toNat_of_nonneg (ha x hx)] at h2
    simpa [hx] using h2
  · intro h
    refine Nat.eq_of_testBit_eq fun q => ?_
    rw [Nat.testBit_and, word_bit ha, word_bit hs]
    by_cases hq : (q : Int) ∈ a
    · simp [hq, h _ hq]
    · simp [hq]
/-- the word behind a step -/
theorem word_upd {s add del : List Int} (hs : ∀ x ∈ s, 0 ≤ x) (ha : ∀ x ∈ add, 0 ≤ x) (hd : ∀ x ∈ del, 0 ≤ x) : wordF (updF s add del) = lessW (wordF s) (wordF del) ||| wordF add := by
  refine Nat.eq_of_testBit_eq fun q => ?_
  have hu : ∀ x ∈ updF s add del, 0 ≤ x := fun x hx => by
    rcases updF_mem.1 hx with ⟨h, _⟩ | h
    · exact hs x h
    · exact ha x h
  rw [word_bit hu, Nat.testBit_or, less_bit, word_bit hs, word_bit hd, word_bit ha]
  have := updF_mem (s := s) (add := add) (del := del) (x := (q : Int))
  by_cases h1 : (q : Int) ∈ s <;> by_cases h2 : (q : Int) ∈ del <;> by_cases h3 : (q : Int) ∈ add <;> simp [h1, h2, h3] at this ⊢ <;> exact this
/-- the same in the model's form (u32_andNot_nat) -/
theorem less_and {w d : Nat} (hw : w < 4294967296) (hd : d < 4294967296) : w &&& (4294967295 - d) = lessW w d := by
  refine Nat.eq_of_testBit_eq fun q => ?_
  have e : 4294967295 - d = 2 ^ 32 - (d + 1) := by omega
  rw [less_bit, Nat.testBit_and, e, Nat.testBit_two_pow_sub_succ (by simpa using hd)]
  by_cases hq : q < 32
  · simp [hq]
  · have hf : w.testBit q = false := Nat.testBit_lt_two_pow (Nat.lt_of_lt_of_le hw (by have := Nat.pow_le_pow_right (n := 2) (by omega) (Nat.not_lt.1 hq); simpa using this))
    simp [hf]
theorem less_lt {w d : Nat} (hw : w < 4294967296) (hd : d < 4294967296) : lessW w d < 4294967296 := by
  rw [← less_and hw hd]
  exact Nat.lt_of_le_of_lt Nat.and_le_left hw
end Go.Proofs.YtmjiiddncbhgpaaGreat
namespace Go.Proofs.YtmjiiddncbhgpaaGreat
inductive Reach (S : Nat → Nat → Prop) (s0 : Nat) : Nat → Prop
  | start : Reach S s0 s0
  | step {s t : Nat} : Reach S s0 s → S s t → Reach S s0 t
theorem closed_all {S : Nat → Nat → Prop} {s0 : Nat} {l : List Nat} (h0 : s0 ∈ l) (hc : ∀ s ∈ l, ∀ t, S s t → t ∈ l) {t : Nat} (h : Reach S s0 t) : t ∈ l := by
  induction h with
  | start => exact h0
  | step _ hs ih => exact hc _ ih _ hs
theorem nodup_len {m : List Nat} (hm : m.Nodup) : ∀ {l : List Nat}, (∀ x ∈ m, x ∈ l) → m.length ≤ l.length := by
  induction m with
  | nil => intro l _; simp
  | cons x m ih =>
    intro l h
    obtain ⟨hx, hm⟩ := List.nodup_cons.1 hm
    have hxl := h x List.mem_cons_self
    have h2 := ih hm (l := l.erase x) fun y hy => by
      have hne : y ≠ x := fun e => hx (e ▸ hy)
      exact (List.mem_erase_of_ne hne).2 (h y (List.mem_cons_of_mem _ hy))
    rw [List.length_erase_of_mem hxl] at h2
    have := List.length_pos_of_mem hxl
    simp only [List.length_cons]
    omega
/-- the reachable states are those of l, each once -/
structure AllOf (S : Nat → Nat → Prop) (s0 : Nat) (l : List Nat) : Prop where
  once : l.Nodup
  mem : ∀ x, x ∈ l ↔ Reach S s0 x
theorem AllOf.of {S : Nat → Nat → Prop} {s0 : Nat} {l : List Nat} (h1 : l.Nodup) (h2 : ∀ x ∈ l, Reach S s0 x) (h0 : s0 ∈ l) (hc : ∀ s ∈ l, ∀ t, S s t → t ∈ l) : AllOf S s0 l :=
  ⟨h1, fun x => ⟨h2 x, closed_all h0 hc⟩⟩
/-- of two lists that find all, one is as long as the other -/
theorem AllOf.len {S : Nat → Nat → Prop} {s0 : Nat} {l m : List Nat} (h : AllOf S s0 l) (k : AllOf S s0 m) : l.length = m.length :=
  Nat.le_antisymm (nodup_len h.once fun x hx => (k.mem x).2 ((h.mem x).1 hx)) (nodup_len k.once fun x hx => (h.mem x).2 ((k.mem x).1 hx))
/-- too many that are reachable: no list of that many at most finds all -/
theorem AllOf.few {S : Nat → Nat → Prop} {s0 : Nat} {l m : List Nat} (h : AllOf S s0 l) (hm : m.Nodup) (hr : ∀ x ∈ m, Reach S s0 x) : m.length ≤ l.length :=
  nodup_len hm fun x hx => (h.mem x).2 (hr x hx)
/-- the search: what lies in 'out' has been gone through, what lies in 'stack' waits -/
structure Seen (S : Nat → Nat → Prop) (s0 : Nat) (out stack : List Nat) : Prop where
  once : (out ++ stack).Nodup
  reach : ∀ x ∈ out ++ stack, Reach S s0 x
  start : s0 ∈ out ++ stack
  gone : ∀ s ∈ out, ∀ t, S s t → t ∈ out ++ stack
theorem Seen.begin (S : Nat → Nat → Prop) (s0 : Nat) : Seen S s0 [] [s0] :=
  ⟨by simp, fun x hx => by simp only [List.nil_append, List.mem_singleton] at hx; exact hx ▸ .start, by simp, fun s hs => by cases hs⟩
theorem Seen.all {S : Nat → Nat → Prop} {s0 : Nat} {out : List Nat} (h : Seen S s0 out []) : AllOf S s0 out := by
  obtain ⟨h1, h2, h3, h4⟩ := h
  simp only [List.append_nil] at h1 h2 h3 h4
  exact .of h1 h2 h3 h4
/-- while the steps of one taken state s are gone through: 'left' are still to come -/
structure SeenAt (S : Nat → Nat → Prop) (s0 : Nat) (out stack : List Nat) (s : Nat) (left : Nat → Prop) : Prop where
  once : (out ++ stack).Nodup
  reach : ∀ x ∈ out ++ stack, Reach S s0 x
  start : s0 ∈ out ++ stack
  here : s ∈ out
  gone : ∀ u ∈ out, ∀ t, S u t → ¬ (u = s ∧ left t) → t ∈ out ++ stack
theorem Seen.take {S : Nat → Nat → Prop} {s0 : Nat} {out stack : List Nat} {s : Nat} (h : Seen S s0 out (stack ++ [s])) {left : Nat → Prop} (hl : ∀ t, S s t → left t) : SeenAt S s0 (out ++ [s]) stack s left := by
  have hp : (out ++ [s] ++ stack).Perm (out ++ (stack ++ [s])) := by
    rw [List.append_assoc]
    exact List.Perm.append_left _ List.perm_append_comm
  have hm : ∀ x, x ∈ out ++ [s] ++ stack ↔ x ∈ out ++ (stack ++ [s]) := fun x => hp.mem_iff
  refine ⟨hp.nodup_iff.2 h.once, fun x hx => h.reach x ((hm x).1 hx), (hm _).2 h.start, by simp, ?_⟩
  intro u hu t ht hn
  rcases List.mem_append.1 hu with hu | hu
  · exact (hm t).2 (h.gone u hu t ht)
  · obtain rfl := List.mem_singleton.1 hu
    exact absurd ⟨rfl, hl t ht⟩ hn
theorem SeenAt.done {S : Nat → Nat → Prop} {s0 : Nat} {out stack : List Nat} {s : Nat} {left : Nat → Prop} (h : SeenAt S s0 out stack s left) (hl : ∀ t, ¬ left t) : Seen S s0 out stack :=
  ⟨h.once, h.reach, h.start, fun u hu t ht => h.gone u hu t ht fun k => hl t k.2⟩
theorem SeenAt.known {S : Nat → Nat → Prop} {s0 : Nat} {out stack : List Nat} {s t : Nat} {left left' : Nat → Prop} (h : SeenAt S s0 out stack s left) (ht : t ∈ out ++ stack) (hl : ∀ u, left u → left' u ∨ u = t) : SeenAt S s0 out stack s left' := by
  refine ⟨h.once, h.reach, h.start, h.here, fun u hu v hv hn => ?_⟩
  by_cases he : u = s ∧ left v
  · rcases hl v he.2 with h1 | rfl
    · exact absurd ⟨he.1, h1⟩ hn
    · exact ht
  · exact h.gone u hu v hv he
theorem SeenAt.new {S : Nat → Nat → Prop} {s0 : Nat} {out stack : List Nat} {s t : Nat} {left left' : Nat → Prop} (h : SeenAt S s0 out stack s left) (hs : S s t) (ht : t ∉ out ++ stack) (hl : ∀ u, left u → left' u ∨ u = t) : SeenAt S s0 out (stack ++ [t]) s left' := by
  have hm : ∀ x, x ∈ out ++ (stack ++ [t]) ↔ x ∈ out ++ stack ∨ x = t := fun x => by simp [or_assoc]
  refine ⟨?_, ?_, (hm _).2 (.inl h.start), h.here, ?_⟩
  · rw [← List.append_assoc, List.nodup_append]
    refine ⟨h.once, by simp, fun a ha b hb e => ?_⟩
    obtain rfl := List.mem_singleton.1 hb
    exact ht (e ▸ ha)
  · intro x hx
    rcases (hm x).1 hx with hx | rfl
    · exact h.reach x hx
    · exact .step (h.reach s (List.mem_append_left _ h.here)) hs
  · intro u hu v hv hn
    rw [hm]
    by_cases he : u = s ∧ left v
    · rcases hl v he.2 with h1 | rfl
      · exact absurd ⟨he.1, h1⟩ hn
      · exact .inr rfl
    · exact .inl (h.gone u hu v hv he)
end Go.Proofs.YtmjiiddncbhgpaaGreat
namespace Go.Proofs.YtmjiiddncbhgpaaGreat
/-- an operator as words -/
structure Mk where
  pre : Nat
  add : Nat
  del : Nat
  cost : Int
def mkOp (o : Opr) : Mk := ⟨wordF o.pre, wordF o.add, wordF o.del, o.cost⟩
def goW (s : Nat) (m : Mk) : Nat := lessW s m.del ||| m.add
def canW (s : Nat) (m : Mk) : Bool := decide (s &&& m.pre = m.pre)
def arcW (ms : List Mk) (s t : Nat) (c : Int) : Prop := ∃ m ∈ ms, canW s m = true ∧ t = goW s m ∧ c = m.cost
def stepW (ms : List Mk) (s t : Nat) : Prop := ∃ m ∈ ms, canW s m = true ∧ t = goW s m
def goalW (g s : Nat) : Bool := decide (s &&& g = g)
/-- the steps of a state, in the operators' order: number, cost, state behind it -/
def stepsW : Nat → List Mk → Nat → List (Nat × Int × Nat)
  | _, [], _ => []
  | i, m :: ms, s => if canW s m = true then (i, m.cost, goW s m) :: stepsW (i + 1) ms s else stepsW (i + 1) ms s
theorem setB_pos {n : Int} {l : List Int} (h : setB n l = true) : ∀ x ∈ l, 0 ≤ x := fun x hx => ((setB_iff.1 h).2 x hx).1
theorem can_word {N : Nat} {s : List Int} {o : Opr} (hs : setB N s = true) (ho : OkOp N o) : canW (wordF s) (mkOp o) = subsetB o.pre s := by
  have h := word_sub (setB_pos ho.pre) (setB_pos hs)
  rw [Bool.eq_iff_iff, ← h]
  exact decide_eq_true_iff
theorem go_word {N : Nat} {s : List Int} {o : Opr} (hs : setB N s = true) (ho : OkOp N o) : goW (wordF s) (mkOp o) = wordF (updF s o.add o.del) :=
  (word_upd (setB_pos hs) (setB_pos ho.add) (setB_pos ho.del)).symm
theorem upd_setB {N : Nat} {s : List Int} {o : Opr} (hs : setB N s = true) (ho : OkOp N o) : setB N (updF s o.add o.del) = true :=
  updF_set (setB_iff.1 hs).2 (setB_iff.1 ho.add).2
theorem goal_word {N : Nat} {s g : List Int} (hs : setB N s = true) (hg : setB N g = true) : goalW (wordF g) (wordF s) = subsetB g s := by
  have h := word_sub (setB_pos hg) (setB_pos hs)
  rw [Bool.eq_iff_iff, ← h]
  exact decide_eq_true_iff
/-- an arc between words is an operator's step between sets -/
theorem arc_iff {T : Tsk} {N : Nat} (hok : OkT T N) {s : List Int} (hs : setB N s = true) {t : Nat} {c : Int} : arcW (T.ops.map mkOp) (wordF s) t c ↔ ∃ o ∈ T.ops, subsetB o.pre s = true ∧ t = wordF (updF s o.add o.del) ∧ c = o.cost := by
  constructor
  · rintro ⟨m, hm, h1, h2, h3⟩
    obtain ⟨o, ho, rfl⟩ := List.mem_map.1 hm
    exact ⟨o, ho, by rw [← can_word hs (hok.ops o ho)]; exact h1, by rw [h2, go_word hs (hok.ops o ho)], h3⟩
  · rintro ⟨o, ho, h1, h2, h3⟩
    exact ⟨mkOp o, List.mem_map.2 ⟨o, ho, rfl⟩, by rw [can_word hs (hok.ops o ho)]; exact h1, by rw [go_word hs (hok.ops o ho)]; exact h2, h3⟩
theorem step_arc {ms : List Mk} {s t : Nat} : stepW ms s t ↔ ∃ c, arcW ms s t c :=
  ⟨fun ⟨m, h1, h2, h3⟩ => ⟨m.cost, m, h1, h2, h3, rfl⟩, fun ⟨_, m, h1, h2, h3, _⟩ => ⟨m, h1, h2, h3⟩⟩
/-- each reachable word is the word of a state -/
theorem reach_set {T : Tsk} {N : Nat} (hok : OkT T N) {w : Nat} (h : Reach (stepW (T.ops.map mkOp)) (wordF T.init) w) : ∃ s, setB N s = true ∧ w = wordF s := by
  induction h with
  | start => exact ⟨_, hok.init, rfl⟩
  | step _ hs ih =>
    obtain ⟨s, h1, rfl⟩ := ih
    obtain ⟨c, ha⟩ := step_arc.1 hs
    obtain ⟨o, ho, _, rfl, _⟩ := (arc_iff hok h1).1 ha
    exact ⟨_, upd_setB h1 (hok.ops o ho), rfl⟩
end Go.Proofs.YtmjiiddncbhgpaaGreat
namespace Go.Proofs.YtmjiiddncbhgpaaGreat
set_option linter.unusedVariables false
set_option linter.unusedSimpArgs false
theorem stepsW_mem : ∀ (ms : List Mk) (i s : Nat) (x : Nat × Int × Nat), x ∈ stepsW i ms s ↔ ∃ k m, ms[k]? = some m ∧ canW s m = true ∧ x = (i + k, m.cost, goW s m) := by
  intro ms
  induction ms with
  | nil => intro i s x; simp [stepsW]
  | cons m ms ih =>
    intro i s x
    unfold stepsW
    have hk : (∃ k m', (m :: ms)[k]? = some m' ∧ canW s m' = true ∧ x = (i + k, m'.cost, goW s m')) ↔ (canW s m = true ∧ x = (i, m.cost, goW s m)) ∨ ∃ k m', ms[k]? = some m' ∧ canW s m' = true ∧ x = (i + 1 + k, m'.cost, goW s m') := by
      constructor
      · rintro ⟨k, m', h1, h2, h3⟩
        cases k with
        | zero => simp at h1; subst h1; exact .inl ⟨h2, by simpa using h3⟩
        | succ k => exact .inr ⟨k, m', by simpa using h1, h2, by rw [h3, show i + (k + 1) = i + 1 + k by omega]⟩
      · rintro (⟨h2, h3⟩ | ⟨k, m', h1, h2, h3⟩)
        · exact ⟨0, m, by simp, h2, by simpa using h3⟩
        · exact ⟨k + 1, m', by simpa using h1, h2, by rw [h3, show i + 1 + k = i + (k + 1) by omega]⟩
    rw [hk]
    split
    · rename_i hc
      rw [List.mem_cons, ih]
      simp [hc]
    · rename_i hc
      rw [ih]
      simp [hc]
section
variable {ms : List Mk} {s0 : Nat} {G : Nat → Bool} {hv : Nat → Int} {L D : List Nat} {pr : Nat → Option Int} {pa : Nat → Option (Nat × Nat)} {Qk Qk' : Nat → Option Int} {cs : Nat} {O O' : Nat × Int × Nat → Prop}
end
end Go.Proofs.YtmjiiddncbhgpaaGreat
namespace Go.Proofs.YtmjiiddncbhgpaaGreat
set_option linter.unusedVariables false
set_option linter.unusedSimpArgs false
open Go.RowKit
/-- a method of a compound task -/
structure Hm where
  task : Int
  pre : List Int
  steps : List Int
structure Hy where
  T : Tsk
  tasks : Int
  ms : List Hm
  list : List Int
/-- no operator and no compound task -/
def outH (k : Int) (n : Nat) (x : Int) : Bool := decide (x < -k) || decide ((n : Int) ≤ x)
def listCode (k : Int) (n : Nat) (l : List Int) : Int := if 4 < l.length then 2 else if l.any (outH k n) = true then 3 else 0
def meCode (N : Int) (k : Int) (n : Nat) (m : Hm) : Int := if m.task < 0 ∨ k ≤ m.task then 3 else if setB N m.pre = false then 5 else listCode k n m.steps
def mesFault (N : Int) (k : Int) (n : Nat) : Nat → List Hm → Int × Int
  | _, [] => (0, 0)
  | i, m :: ms => if meCode N k n m = 0 then mesFault N k n (i + 1) ms else (meCode N k n m, -20 - i)
def hierFault (h : Hy) : Int × Int :=
  if (taskFault h.T).1 ≠ 0 then taskFault h.T else if h.tasks < 0 ∨ 16 < h.tasks then (3, -10) else if 16 < h.ms.length then (2, -10) else
  if (mesFault h.T.facts h.tasks h.T.ops.length 0 h.ms).1 ≠ 0 then mesFault h.T.facts h.tasks h.T.ops.length 0 h.ms else
  if listCode h.tasks h.T.ops.length h.list ≠ 0 then (listCode h.tasks h.T.ops.length h.list, -11) else (0, 0)
theorem mesFault_at {N k : Int} {n : Nat} {l : List Hm} {i : Nat} {m : Hm} (h : l[i]? = some m) : mesFault N k n i (l.drop i) = if meCode N k n m = 0 then mesFault N k n (i + 1) (l.drop (i + 1)) else (meCode N k n m, -20 - (i : Int)) := by
  obtain ⟨hlt, rfl⟩ := List.getElem?_eq_some_iff.1 h
  rw [List.drop_eq_getElem_cons hlt]
  rfl
theorem mesFault_end {N k : Int} {n : Nat} {l : List Hm} {i : Nat} (h : l.length ≤ i) : mesFault N k n i (l.drop i) = (0, 0) := by
  rw [List.drop_eq_nil_of_le h]; rfl
theorem mesFault_zero {N k : Int} {n : Nat} : ∀ {l : List Hm} {i : Nat}, (mesFault N k n i l).1 = 0 → (∀ m ∈ l, meCode N k n m = 0) ∧ mesFault N k n i l = (0, 0) := by
  intro l
  induction l with
  | nil => intro i _; exact ⟨fun m hm => (by cases hm), rfl⟩
  | cons m ms ih =>
    intro i h
    unfold mesFault at h ⊢
    split
    · rename_i e
      rw [if_pos e] at h
      obtain ⟨h1, h2⟩ := ih h
      refine ⟨fun m' hm' => ?_, h2⟩
      rcases List.mem_cons.1 hm' with rfl | hm'
      · exact e
      · exact h1 m' hm'
    · rename_i e
      rw [if_neg e] at h
      exact absurd h e
/-- steps of a list: operators and compound tasks that there are -/
structure OkL (k n : Nat) (l : List Int) : Prop where
  few : l.length ≤ 4
  rng : ∀ x ∈ l, -(k : Int) ≤ x ∧ x < n
theorem listCode_ok {k n : Nat} {l : List Int} (h : listCode k n l = 0) : OkL k n l := by
  unfold listCode at h
  split at h
  · cases h
  · rename_i h1
    split at h
    · cases h
    · rename_i h2
      refine ⟨by omega, fun x hx => ?_⟩
      have : ¬ outH k n x = true := fun e => h2 (List.any_eq_true.2 ⟨x, hx, e⟩)
      unfold outH at this
      simp only [Bool.or_eq_true, decide_eq_true_eq] at this
      omega
/-- a hierarchy without faults -/
structure OkH (h : Hy) (N K : Nat) : Prop where
  task : OkT h.T N
  tasks : h.tasks = K
  low : K ≤ 16
  few : h.ms.length ≤ 16
  mt : ∀ m ∈ h.ms, 0 ≤ m.task ∧ m.task < K
  mp : ∀ m ∈ h.ms, setB N m.pre = true
  ml : ∀ m ∈ h.ms, OkL K h.T.ops.length m.steps
  list : OkL K h.T.ops.length h.list
theorem hierFault_ok {h : Hy} (e : (hierFault h).1 = 0) : ∃ N K, OkH h N K ∧ hierFault h = (0, 0) := by
  unfold hierFault at e ⊢
  by_cases h1 : (taskFault h.T).1 = 0
  · rw [if_neg (by simpa using h1)] at e ⊢
    by_cases h2 : h.tasks < 0 ∨ 16 < h.tasks
    · rw [if_pos h2] at e; cases e
    · rw [if_neg h2] at e ⊢
      by_cases h3 : 16 < h.ms.length
      · rw [if_pos h3] at e; cases e
      · rw [if_neg h3] at e ⊢
        by_cases h4 : (mesFault h.T.facts h.tasks h.T.ops.length 0 h.ms).1 = 0
        · rw [if_neg (by simpa using h4)] at e ⊢
          by_cases h5 : listCode h.tasks h.T.ops.length h.list = 0
          · rw [if_neg (by simpa using h5)] at e ⊢
            obtain ⟨N, hN⟩ := taskFault_ok h1
            obtain ⟨h6, _⟩ := mesFault_zero h4
            have hk : h.tasks = (h.tasks.toNat : Int) := by omega
            rw [hk] at h5 h6
            rw [hN.facts] at h6
            have h7 : ∀ m ∈ h.ms, (0 ≤ m.task ∧ m.task < (h.tasks.toNat : Int)) ∧ setB N m.pre = true ∧ OkL h.tasks.toNat h.T.ops.length m.steps := fun m hm => by
              have := h6 m hm
              unfold meCode at this
              split at this
              · cases this
              · rename_i g1
                split at this
                · cases this
                · rename_i g2
                  exact ⟨by omega, by simpa using g2, listCode_ok this⟩
            exact ⟨N, h.tasks.toNat, ⟨hN, hk, by omega, by omega, fun m hm => (h7 m hm).1, fun m hm => (h7 m hm).2.1, fun m hm => (h7 m hm).2.2, listCode_ok h5⟩, rfl⟩
          · rw [if_pos h5] at e; exact absurd e h5
        · rw [if_pos h4] at e; exact absurd e h4
  · rw [if_pos h1] at e; exact absurd e h1
def Enc.me : Enc Hm where
  size := 3
  ok := fun w vs m => ∃ A n c B k d, vs = [.int .i64 m.task, .slice A n c, .slice B k d] ∧ I64s m.task ∧ Rd Enc.int w A n c m.pre ∧ Rd Enc.int w B k d m.steps
  len := fun ⟨_, _, _, _, _, _, h, _⟩ => by rw [h]; rfl
  keep := fun ⟨A, n, c, B, k, d, h, h0, h1, h2⟩ hb => ⟨A, n, c, B, k, d, h, h0, h1.keep hb, h2.keep hb⟩
theorem Rd.me {w : World} {A : Option Addr} {n c k : Nat} {xs : List Hm} (h : Rd Enc.me w A n c xs) (hk : k < n) :
    ∃ b off m A1 n1 c1 A2 n2 c2, A = some ⟨b, off, none⟩ ∧ xs[k]? = some m ∧ w.cell? ⟨b, off + k * 3, none⟩ = some (.int .i64 m.task) ∧ w.cell? ⟨b, off + k * 3 + 1, none⟩ = some (.slice A1 n1 c1) ∧ w.cell? ⟨b, off + k * 3 + 2, none⟩ = some (.slice A2 n2 c2) ∧ I64s m.task ∧ Rd Enc.int w A1 n1 c1 m.pre ∧ Rd Enc.int w A2 n2 c2 m.steps := by
  obtain ⟨b, off, m, vs, ha, hx, ⟨A1, n1, c1, A2, n2, c2, hvs, h0, h1, h2⟩, hv⟩ := h.get hk
  subst hvs
  exact ⟨b, off, m, A1, n1, c1, A2, n2, c2, ha, hx, hv 0 _ rfl, hv 1 _ rfl, hv 2 _ rfl, h0, h1, h2⟩
end Go.Proofs.YtmjiiddncbhgpaaGreat
namespace Go.Proofs.YtmjiiddncbhgpaaGreat
set_option linter.unusedVariables false
set_option linter.unusedSimpArgs false
/-- the steps can be refined into the part of the plan from place i up to place j; st: the states in between -/
inductive SeqP (ms : List Hm) (plan : List Int) (st : Nat → List Int) : List Int → Nat → Nat → Prop
  | nil {i : Nat} : SeqP ms plan st [] i i
  | op {x : Int} {xs : List Int} {i j : Nat} : 0 ≤ x → plan[i]? = some x → SeqP ms plan st xs (i + 1) j → SeqP ms plan st (x :: xs) i j
  | task {x : Int} {xs : List Int} {m : Hm} {i k j : Nat} : x < 0 → m ∈ ms → m.task = -1 - x → subsetB m.pre (st i) = true → SeqP ms plan st m.steps i k → SeqP ms plan st xs k j → SeqP ms plan st (x :: xs) i j
theorem SeqP.le {ms : List Hm} {plan : List Int} {st : Nat → List Int} {l : List Int} {i j : Nat} (h : SeqP ms plan st l i j) : i ≤ j := by
  induction h with
  | nil => exact Nat.le_refl _
  | op _ _ _ ih => omega
  | task _ _ _ _ _ _ ih1 ih2 => omega
theorem SeqP.len {ms : List Hm} {plan : List Int} {st : Nat → List Int} {l : List Int} {i j : Nat} (h : SeqP ms plan st l i j) : i ≤ plan.length → j ≤ plan.length := by
  induction h with
  | nil => exact id
  | op _ hp _ ih =>
    intro _
    have := (List.getElem?_eq_some_iff.1 hp).1
    exact ih (by omega)
  | task _ _ _ _ _ _ ih1 ih2 => exact fun h => ih2 (ih1 h)
theorem SeqP.mono {ms ms' : List Hm} {plan : List Int} {st : Nat → List Int} (hm : ∀ m ∈ ms, m ∈ ms') {l : List Int} {i j : Nat} (h : SeqP ms plan st l i j) : SeqP ms' plan st l i j := by
  induction h with
  | nil => exact .nil
  | op h0 hp _ ih => exact .op h0 hp ih
  | task h0 h1 h2 h3 _ _ ih1 ih2 => exact .task h0 (hm _ h1) h2 h3 ih1 ih2
/-- from place i to place j along parts that a chart g knows -/
def Chain (plan : List Int) (g : Nat → Nat → Nat → Prop) : List Int → Nat → Nat → Prop
  | [], i, j => i = j
  | x :: xs, i, j => if 0 ≤ x then plan[i]? = some x ∧ Chain plan g xs (i + 1) j else ∃ k, k ≤ plan.length ∧ g (-1 - x).toNat i k ∧ Chain plan g xs k j
/-- what a chart knows is so -/
def Sound (ms : List Hm) (plan : List Int) (st : Nat → List Int) (g : Nat → Nat → Nat → Prop) : Prop :=
  ∀ t i j, g t i j → ∃ m ∈ ms, m.task = (t : Int) ∧ subsetB m.pre (st i) = true ∧ SeqP ms plan st m.steps i j
/-- nothing is left to be found -/
def Closing (ms : List Hm) (plan : List Int) (st : Nat → List Int) (g : Nat → Nat → Nat → Prop) : Prop :=
  ∀ m ∈ ms, ∀ i j, i ≤ plan.length → subsetB m.pre (st i) = true → Chain plan g m.steps i j → g m.task.toNat i j
theorem chain_seq {ms : List Hm} {plan : List Int} {st : Nat → List Int} {g : Nat → Nat → Nat → Prop} (hg : Sound ms plan st g) : ∀ (l : List Int) (i j : Nat), Chain plan g l i j → SeqP ms plan st l i j := by
  intro l
  induction l with
  | nil => intro i j h; cases h; exact .nil
  | cons x xs ih =>
    intro i j h
    unfold Chain at h
    split at h
    · rename_i h0
      exact .op h0 h.1 (ih _ _ h.2)
    · rename_i h0
      obtain ⟨k, _, h1, h2⟩ := h
      obtain ⟨m, hm, e, hp, hs⟩ := hg _ _ _ h1
      exact .task (by omega) hm (by rw [e]; omega) hp hs (ih _ _ h2)
theorem seq_chain {ms : List Hm} {plan : List Int} {st : Nat → List Int} {g : Nat → Nat → Nat → Prop} (hg : Closing ms plan st g) {l : List Int} {i j : Nat} (h : SeqP ms plan st l i j) : i ≤ plan.length → Chain plan g l i j := by
  induction h with
  | nil => intro _; rfl
  | op h0 hp h ih =>
    intro _
    have := (List.getElem?_eq_some_iff.1 hp).1
    unfold Chain
    rw [if_pos h0]
    exact ⟨hp, ih (by omega)⟩
  | @task x xs m i k j h0 hm e hp h1 h2 ih1 ih2 =>
    intro hi
    have hk := h1.len hi
    unfold Chain
    rw [if_neg (by omega)]
    refine ⟨k, hk, ?_, ih2 hk⟩
    have := hg m hm i k hi hp (ih1 hi)
    rw [e] at this
    exact this
theorem chain_iff {ms : List Hm} {plan : List Int} {st : Nat → List Int} {g : Nat → Nat → Nat → Prop} (h1 : Sound ms plan st g) (h2 : Closing ms plan st g) {l : List Int} {i j : Nat} (hi : i ≤ plan.length) : Chain plan g l i j ↔ SeqP ms plan st l i j :=
  ⟨chain_seq h1 l i j, fun h => seq_chain h2 h hi⟩
/-- a part more -/
theorem Sound.put {ms : List Hm} {plan : List Int} {st : Nat → List Int} {g : Nat → Nat → Nat → Prop} (h : Sound ms plan st g) {m : Hm} (hm : m ∈ ms) (h0 : 0 ≤ m.task) {i j : Nat} (hp : subsetB m.pre (st i) = true) (hc : Chain plan g m.steps i j) :
    Sound ms plan st (fun t a b => g t a b ∨ (t = m.task.toNat ∧ a = i ∧ b = j)) := fun t a b hg => by
  rcases hg with hg | ⟨rfl, rfl, rfl⟩
  · exact h t a b hg
  · exact ⟨m, hm, by omega, hp, chain_seq h _ _ _ hc⟩
/-- the chain of one step more, at the end -/
theorem chain_snoc {plan : List Int} {g : Nat → Nat → Nat → Prop} : ∀ (l : List Int) (x : Int) (i j : Nat), i ≤ plan.length → (Chain plan g (l ++ [x]) i j ↔ ∃ k, k ≤ plan.length ∧ Chain plan g l i k ∧ Chain plan g [x] k j) := by
  intro l
  induction l with
  | nil =>
    intro x i j hi
    simp only [List.nil_append]
    constructor
    · exact fun h => ⟨i, hi, rfl, h⟩
    · rintro ⟨k, _, rfl, h⟩; exact h
  | cons y ys ih =>
    intro x i j hi
    rw [List.cons_append]
    unfold Chain
    split
    · constructor
      · rintro ⟨h1, h2⟩
        have := (List.getElem?_eq_some_iff.1 h1).1
        obtain ⟨k, a, b, c⟩ := (ih x (i + 1) j (by omega)).1 h2
        unfold Chain at c
        exact ⟨k, a, ⟨h1, b⟩, c⟩
      · rintro ⟨k, a, ⟨h1, b⟩, c⟩
        have := (List.getElem?_eq_some_iff.1 h1).1
        exact ⟨h1, (ih x (i + 1) j (by omega)).2 ⟨k, a, b, by unfold Chain; exact c⟩⟩
    · constructor
      · rintro ⟨q, h2, h3, h4⟩
        obtain ⟨k, a, b, c⟩ := (ih x q j h2).1 h4
        unfold Chain at c
        exact ⟨k, a, ⟨q, h2, h3, b⟩, c⟩
      · rintro ⟨k, a, ⟨q, h2, h3, b⟩, c⟩
        exact ⟨q, h2, h3, (ih x q j h2).2 ⟨k, a, b, by unfold Chain; exact c⟩⟩
/-- one step of chart.ends, and all of them -/
def stepE (n : Nat) (plan : List Int) (f : Nat → Nat → Nat → Bool) (x : Int) (a : Nat → Bool) : Nat → Bool := fun j =>
  if 0 ≤ x then (match j with
    | 0 => false
    | i + 1 => a i && decide (plan[i]? = some x)) else (List.range (n + 1)).any fun i => a i && f (-1 - x).toNat i j
def endsF (n : Nat) (plan : List Int) (f : Nat → Nat → Nat → Bool) : List Int → (Nat → Bool) → Nat → Bool
  | [], a => a
  | x :: xs, a => endsF n plan f xs (stepE n plan f x a)
theorem ends_any {n : Nat} {plan : List Int} (hn : plan.length = n) {f : Nat → Nat → Nat → Bool} : ∀ (l : List Int) (a : Nat → Bool) (j : Nat), j ≤ n → (endsF n plan f l a j = true ↔ ∃ i, i ≤ n ∧ a i = true ∧ Chain plan (fun t i j => f t i j = true) l i j) := by
  intro l
  induction l with
  | nil =>
    intro a j hj
    unfold endsF Chain
    exact ⟨fun h => ⟨j, hj, h, rfl⟩, fun ⟨i, _, h, e⟩ => e ▸ h⟩
  | cons x xs ih =>
    intro a j hj
    unfold endsF
    rw [ih _ j hj]
    unfold stepE
    by_cases h0 : 0 ≤ x
    · simp only [if_pos h0]
      constructor
      · rintro ⟨i, hi, h1, h2⟩
        cases i with
        | zero => cases h1
        | succ i =>
          simp only [Bool.and_eq_true, decide_eq_true_eq] at h1
          exact ⟨i, by omega, h1.1, by unfold Chain; rw [if_pos h0]; exact ⟨h1.2, h2⟩⟩
      · rintro ⟨i, hi, h1, h2⟩
        unfold Chain at h2
        rw [if_pos h0] at h2
        have := (List.getElem?_eq_some_iff.1 h2.1).1
        exact ⟨i + 1, by omega, by simp only [Bool.and_eq_true, decide_eq_true_eq]; exact ⟨h1, h2.1⟩, h2.2⟩
    · simp only [if_neg h0]
      constructor
      · rintro ⟨k, hk, h1, h2⟩
        obtain ⟨i, hi, h3⟩ := List.any_eq_true.1 h1
        rw [Bool.and_eq_true] at h3
        rw [List.mem_range] at hi
        exact ⟨i, by omega, h3.1, by unfold Chain; rw [if_neg h0]; exact ⟨k, by omega, h3.2, h2⟩⟩
      · rintro ⟨i, hi, h1, h2⟩
        unfold Chain at h2
        rw [if_neg h0] at h2
        obtain ⟨k, hk, h3, h4⟩ := h2
        exact ⟨k, by omega, List.any_eq_true.2 ⟨i, List.mem_range.2 (by omega), by rw [h1, h3]; rfl⟩, h4⟩
theorem ends_chain {n : Nat} {plan : List Int} (hn : plan.length = n) {f : Nat → Nat → Nat → Bool} (l : List Int) {i j : Nat} (hi : i ≤ n) (hj : j ≤ n) : endsF n plan f l (fun q => decide (q = i)) j = true ↔ Chain plan (fun t i j => f t i j = true) l i j := by
  rw [ends_any hn l _ j hj]
  constructor
  · rintro ⟨k, _, h1, h2⟩
    rw [decide_eq_true_eq] at h1
    rwa [h1] at h2
  · exact fun h => ⟨i, hi, by simp, h⟩
end Go.Proofs.YtmjiiddncbhgpaaGreat
namespace Go.Proofs.YtmjiiddncbhgpaaGreat
set_option linter.unusedVariables false
set_option linter.unusedSimpArgs false
/-- a change: a compound task leads from a state to another one with a number of operators -/
structure Chn where
  t : Nat
  i : Nat
  j : Nat
  n : Nat
  deriving DecidableEq
section
variable (aft : Nat → Nat → Nat → Prop) (can : Hm → Nat → Prop) (hm : List Hm)
/-- the steps become a list of operators that leads from state i to state j -/
inductive SegI : List Int → Nat → List Int → Nat → Prop
  | nil {i : Nat} : SegI [] i [] i
  | op {x : Int} {xs l : List Int} {i k j : Nat} : 0 ≤ x → aft x.toNat i k → SegI xs k l j → SegI (x :: xs) i (x :: l) j
  | task {x : Int} {xs l1 l2 : List Int} {m : Hm} {i k j : Nat} : x < 0 → m ∈ hm → m.task = -1 - x → can m i → SegI m.steps i l1 k → SegI xs k l2 j → SegI (x :: xs) i (l1 ++ l2) j
/-- where steps lead with n operators, if the compound tasks among them bring about changes of G only -/
def SpR (G : Chn → Prop) : List Int → Nat → Nat → Nat → Prop
  | [], i, n, j => n = 0 ∧ i = j
  | x :: xs, i, n, j => if 0 ≤ x then ∃ k m, n = m + 1 ∧ aft x.toNat i k ∧ SpR G xs k m j else ∃ k a b, n = a + b ∧ G ⟨(-1 - x).toNat, i, k, a⟩ ∧ SpR G xs k b j
end
section
variable {aft : Nat → Nat → Nat → Prop} {can : Hm → Nat → Prop} {hm : List Hm}
theorem SpR.mono {G G' : Chn → Prop} (h : ∀ c, G c → G' c) : ∀ (l : List Int) (i n j : Nat), SpR aft G l i n j → SpR aft G' l i n j := by
  intro l
  induction l with
  | nil => intro i n j h; exact h
  | cons x xs ih =>
    intro i n j hs
    unfold SpR at hs ⊢
    split at hs
    · rename_i h0
      rw [if_pos h0]
      obtain ⟨k, m, h1, h2, h3⟩ := hs
      exact ⟨k, m, h1, h2, ih _ _ _ h3⟩
    · rename_i h0
      rw [if_neg h0]
      obtain ⟨k, a, b, h1, h2, h3⟩ := hs
      exact ⟨k, a, b, h1, h _ h2, ih _ _ _ h3⟩
/-- one step more, at the end -/
theorem SpR.snoc {G : Chn → Prop} : ∀ (l : List Int) (x : Int) (i n j : Nat), SpR aft G (l ++ [x]) i n j ↔ ∃ k a b, n = a + b ∧ SpR aft G l i a k ∧ SpR aft G [x] k b j := by
  intro l
  induction l with
  | nil =>
    intro x i n j
    rw [List.nil_append]
    constructor
    · exact fun h => ⟨i, 0, n, by omega, ⟨rfl, rfl⟩, h⟩
    · rintro ⟨k, a, b, rfl, ⟨rfl, rfl⟩, h⟩
      rw [Nat.zero_add]
      exact h
  | cons y ys ih =>
    intro x i n j
    rw [List.cons_append]
    constructor
    · intro h
      unfold SpR at h
      split at h
      · rename_i h0
        obtain ⟨k, m, rfl, h2, h3⟩ := h
        obtain ⟨k', a, b, rfl, h4, h5⟩ := (ih _ _ _ _).1 h3
        refine ⟨k', a + 1, b, by omega, ?_, h5⟩
        unfold SpR
        rw [if_pos h0]
        exact ⟨k, a, rfl, h2, h4⟩
      · rename_i h0
        obtain ⟨k, c, d, rfl, h2, h3⟩ := h
        obtain ⟨k', a, b, rfl, h4, h5⟩ := (ih _ _ _ _).1 h3
        refine ⟨k', c + a, b, by omega, ?_, h5⟩
        unfold SpR
        rw [if_neg h0]
        exact ⟨k, c, a, rfl, h2, h4⟩
    · rintro ⟨k', a, b, rfl, h4, h5⟩
      unfold SpR at h4
      unfold SpR
      split at h4
      · rename_i h0
        rw [if_pos h0]
        obtain ⟨k, m, rfl, h2, h3⟩ := h4
        exact ⟨k, m + b, by omega, h2, (ih _ _ _ _).2 ⟨k', m, b, rfl, h3, h5⟩⟩
      · rename_i h0
        rw [if_neg h0]
        obtain ⟨k, c, d, rfl, h2, h3⟩ := h4
        exact ⟨k, c, d + b, by omega, h2, (ih _ _ _ _).2 ⟨k', d, b, rfl, h3, h5⟩⟩
theorem SpR.op {G : Chn → Prop} {x : Int} (hx : 0 ≤ x) {i n j : Nat} : SpR aft G [x] i n j ↔ n = 1 ∧ aft x.toNat i j := by
  unfold SpR
  rw [if_pos hx]
  constructor
  · rintro ⟨k, m, rfl, h2, rfl, rfl⟩; exact ⟨rfl, h2⟩
  · rintro ⟨rfl, h⟩; exact ⟨j, 0, rfl, h, rfl, rfl⟩
theorem SpR.task {G : Chn → Prop} {x : Int} (hx : x < 0) {i n j : Nat} : SpR aft G [x] i n j ↔ G ⟨(-1 - x).toNat, i, j, n⟩ := by
  unfold SpR
  rw [if_neg (by omega)]
  constructor
  · rintro ⟨k, a, b, rfl, h2, rfl, rfl⟩; rw [Nat.add_zero]; exact h2
  · intro h; exact ⟨j, n, 0, rfl, h, rfl, rfl⟩
/-- what is found in a round -/
structure Found (aft : Nat → Nat → Nat → Prop) (can : Hm → Nat → Prop) (hm : List Hm) (lim : Nat) (G : Chn → Prop) (c : Chn) : Prop where
  fit : c.n ≤ lim
  by_ : ∃ m ∈ hm, m.task = (c.t : Int) ∧ can m c.i ∧ SpR aft G m.steps c.i c.n c.j
/-- the changes of rounds ahead of round r -/
def Ere (R : Chn → Option Nat) (r : Nat) (c : Chn) : Prop := ∃ q, R c = some q ∧ q < r
/-- nothing new in a round: all is found -/
theorem seg_known {lim : Nat} {R : Chn → Option Nat} (h : ∀ c, Found aft can hm lim (fun c => (R c).isSome = true) c → (R c).isSome = true) {l p : List Int} {i j : Nat} (hs : SegI aft can hm l i p j) : p.length ≤ lim → SpR aft (fun c => (R c).isSome = true) l i p.length j := by
  induction hs with
  | nil => intro _; exact ⟨rfl, rfl⟩
  | @op x xs l i k j h0 h1 _ ih =>
    intro hl
    rw [List.length_cons] at hl ⊢
    unfold SpR
    rw [if_pos h0]
    exact ⟨k, l.length, rfl, h1, ih (by omega)⟩
  | @task x xs l1 l2 m i k j h0 h1 h2 h3 _ _ ih1 ih2 =>
    intro hl
    rw [List.length_append] at hl ⊢
    unfold SpR
    rw [if_neg (by omega)]
    refine ⟨k, l1.length, l2.length, rfl, h _ ⟨by simp only; omega, m, h1, by rw [h2]; simp only; omega, h3, ih1 (by omega)⟩, ih2 (by omega)⟩
end
/-! ### A round -/
/-- within round r: methods ahead of number a are done, of method a the states ahead of b -/
structure InR (aft : Nat → Nat → Nat → Prop) (can : Hm → Nat → Prop) (hm : List Hm) (lim nS : Nat) (R : Chn → Option Nat) (r a b : Nat) : Prop where
  low : 1 ≤ r
  sound : ∀ c q, R c = some q → 1 ≤ q ∧ q ≤ r ∧ Found aft can hm lim (Ere R q) c
  full : ∀ q, 1 ≤ q → q < r → ∀ c, Found aft can hm lim (Ere R q) c → ∃ p, R c = some p ∧ p ≤ q
  done : ∀ k m, hm[k]? = some m → ∀ i, k < a ∨ (k = a ∧ i < b) → can m i → ∀ n j, n ≤ lim → SpR aft (Ere R r) m.steps i n j → (R ⟨m.task.toNat, i, j, n⟩).isSome = true
def putR (R : Chn → Option Nat) (r : Nat) (c : Chn) : Chn → Option Nat := fun x => if x = c then some r else R x
theorem ere_put {R : Chn → Option Nat} {r q : Nat} {c : Chn} (hc : R c = none) (hq : q ≤ r) (x : Chn) : Ere (putR R r c) q x ↔ Ere R q x := by
  unfold Ere putR
  by_cases e : x = c
  · subst e
    rw [if_pos rfl, hc]
    constructor
    · rintro ⟨p, h1, h2⟩; injection h1 with h1; omega
    · rintro ⟨p, h1, _⟩; cases h1
  · rw [if_neg e]
section
variable {aft : Nat → Nat → Nat → Prop} {can : Hm → Nat → Prop} {hm : List Hm} {lim nS : Nat} {R : Chn → Option Nat} {r a b : Nat}
theorem Found.congr {G G' : Chn → Prop} {c : Chn} (h : Found aft can hm lim G c) (hG : ∀ x, G x → G' x) : Found aft can hm lim G' c := by
  obtain ⟨m, h1, h2, h3, h4⟩ := h.by_
  exact ⟨h.fit, m, h1, h2, h3, h4.mono hG⟩
theorem InR.begin : InR aft can hm lim nS (fun _ => none) 1 0 0 :=
  ⟨Nat.le_refl _, (fun c q h => by cases h), (fun q h1 h2 => by omega), fun k m _ i hi => by omega⟩
/-- a change more -/
theorem InR.put (h : InR aft can hm lim nS R r a b) {m : Hm} (hma : hm[a]? = some m) (ht : 0 ≤ m.task) (hb : can m b) {n j : Nat} (hn : n ≤ lim) (hs : SpR aft (Ere R r) m.steps b n j) (hc : R ⟨m.task.toNat, b, j, n⟩ = none) : InR aft can hm lim nS (putR R r ⟨m.task.toNat, b, j, n⟩) r a b := by
  have he : ∀ q, q ≤ r → ∀ x, Ere (putR R r ⟨m.task.toNat, b, j, n⟩) q x ↔ Ere R q x := fun q hq x => ere_put hc hq x
  refine ⟨h.low, fun c q hq => ?_, fun q h1 h2 c hf => ?_, fun k m' hk i hi hcan n' j' hn' hs' => ?_⟩
  · unfold putR at hq
    split at hq
    · rename_i e
      injection hq with hq
      subst e hq
      exact ⟨h.low, Nat.le_refl _, ⟨hn, m, List.mem_of_getElem? hma, by simp only; omega, hb, hs.mono (fun x hx => (he r (Nat.le_refl _) x).2 hx)⟩⟩
    · obtain ⟨h1, h2, h3⟩ := h.sound c q hq
      exact ⟨h1, h2, h3.congr (fun x hx => (he q h2 x).2 hx)⟩
  · obtain ⟨p, h3, h4⟩ := h.full q h1 h2 c (hf.congr (fun x hx => (he q (by omega) x).1 hx))
    refine ⟨p, ?_, h4⟩
    unfold putR
    rw [if_neg (fun e => by subst e; rw [hc] at h3; cases h3)]
    exact h3
  · have := h.done k m' hk i hi hcan n' j' hn' (hs'.mono (fun x hx => (he r (Nat.le_refl _) x).1 hx))
    unfold putR
    split
    · rfl
    · exact this
/-- a state is done -/
theorem InR.step (h : InR aft can hm lim nS R r a b) {m : Hm} (hma : hm[a]? = some m) (hd : can m b → ∀ n j, n ≤ lim → SpR aft (Ere R r) m.steps b n j → (R ⟨m.task.toNat, b, j, n⟩).isSome = true) : InR aft can hm lim nS R r a (b + 1) :=
  ⟨h.low, h.sound, h.full, fun k m' hk i hi hcan n j hn hs => by
    by_cases e : k = a ∧ i = b
    · obtain ⟨rfl, rfl⟩ := e
      rw [hma] at hk
      obtain rfl := Option.some.inj hk
      exact hd hcan n j hn hs
    · exact h.done k m' hk i (by omega) hcan n j hn hs⟩
/-- a method is done -/
theorem InR.next (h : InR aft can hm lim nS R r a nS) (hcan : ∀ m i, can m i → i < nS) : InR aft can hm lim nS R r (a + 1) 0 :=
  ⟨h.low, h.sound, h.full, fun k m' hk i hi hc n j hn hs => by
    have := hcan m' i hc
    exact h.done k m' hk i (by omega) hc n j hn hs⟩
/-- the round is over: the next one -/
theorem InR.over (h : InR aft can hm lim nS R r hm.length 0) : InR aft can hm lim nS R (r + 1) 0 0 := by
  refine ⟨by omega, fun c q hq => ?_, fun q h1 h2 c hf => ?_, fun k m _ i hi => by omega⟩
  · obtain ⟨h1, h2, h3⟩ := h.sound c q hq
    exact ⟨h1, by omega, h3⟩
  · rcases Nat.lt_or_ge q r with h3 | h3
    · exact h.full q h1 h3 c hf
    · obtain rfl : q = r := by omega
      obtain ⟨m, hm1, h4, h5, h6⟩ := hf.by_
      obtain ⟨k, hk⟩ := List.getElem?_of_mem hm1
      have hkl := (List.getElem?_eq_some_iff.1 hk).1
      have := h.done k m hk c.i (.inl hkl) h5 c.n c.j hf.fit h6
      have e : (⟨m.task.toNat, c.i, c.j, c.n⟩ : Chn) = c := by
        rw [h4]
        cases c
        simp
      rw [e] at this
      obtain ⟨p, hp⟩ := Option.isSome_iff_exists.1 this
      exact ⟨p, hp, (h.sound c p hp).2.1⟩
/-- a round that found nothing: all is found -/
theorem InR.all (h : InR aft can hm lim nS R r hm.length 0) (hno : ∀ c, R c ≠ some r) : ∀ c, Found aft can hm lim (fun c => (R c).isSome = true) c → (R c).isSome = true := fun c hf => by
  have hf2 : Found aft can hm lim (Ere R r) c := hf.congr (fun x hx => by
    obtain ⟨p, hp⟩ := Option.isSome_iff_exists.1 hx
    have h1 := (h.sound x p hp).2.1
    exact ⟨p, hp, by have := hno x; rw [hp] at this; have : p ≠ r := fun e => this (by rw [e]); omega⟩)
  obtain ⟨m, hm1, h4, h5, h6⟩ := hf2.by_
  obtain ⟨k, hk⟩ := List.getElem?_of_mem hm1
  have hkl := (List.getElem?_eq_some_iff.1 hk).1
  have := h.done k m hk c.i (.inl hkl) h5 c.n c.j hf.fit h6
  have e : (⟨m.task.toNat, c.i, c.j, c.n⟩ : Chn) = c := by
    rw [h4]
    cases c
    simp
  rwa [e] at this
end
end Go.Proofs.YtmjiiddncbhgpaaGreat
namespace Go.Proofs.YtmjiiddncbhgpaaGreat
set_option linter.unusedVariables false
set_option linter.unusedSimpArgs false
/-- a method's facts ahead hold in a state -/
def canS (st : List Nat) (m : Hm) (i : Nat) : Prop := ∃ s, st[i]? = some s ∧ s &&& wordF m.pre = wordF m.pre
/-- a change within bounds -/
def ChIn (nS lim : Nat) (c : Chn) : Prop := c.t < 16 ∧ c.i < nS ∧ c.j < nS ∧ c.n ≤ lim
def codeC (c : Chn) : Nat := ((c.t * 64 + c.i) * 64 + c.j) * 9 + c.n
theorem codeC_inj {nS lim : Nat} (hn : nS ≤ 64) (hl : lim ≤ 8) {c d : Chn} (hc : ChIn nS lim c) (hd : ChIn nS lim d) (h : codeC c = codeC d) : c = d := by
  obtain ⟨c1, c2, c3, c4⟩ := c
  obtain ⟨d1, d2, d3, d4⟩ := d
  unfold codeC at h
  unfold ChIn at hc hd
  simp only at h hc hd
  obtain ⟨rfl, rfl, rfl, rfl⟩ : c1 = d1 ∧ c2 = d2 ∧ c3 = d3 ∧ c4 = d4 := by omega
  rfl
theorem few_chn {nS lim : Nat} (hn : nS ≤ 64) (hl : lim ≤ 8) {l : List Chn} (h : l.Nodup) (hb : ∀ c ∈ l, ChIn nS lim c) : l.length ≤ 589824 := by
  have h1 : (l.map codeC).Nodup := by
    refine List.pairwise_map.2 (List.Pairwise.imp_of_mem (fun {a b} ha hb2 hab e => hab (codeC_inj hn hl (hb a ha) (hb b hb2) e)) h)
  have h2 : ∀ x ∈ l.map codeC, x ∈ List.range 589824 := fun x hx => by
    obtain ⟨c, hc, rfl⟩ := List.mem_map.1 hx
    have := hb c hc
    unfold ChIn at this
    unfold codeC
    rw [List.mem_range]
    omega
  have h3 := List.Nodup.length_le_of_subset h1 h2
  rw [List.length_map, List.length_range] at h3
  exact h3
/-- what is known: kn all, fr those of this round -/
structure Kn (nS lim : Nat) (R : Chn → Option Nat) (r : Nat) (kn fr : List Chn) : Prop where
  once : kn.Nodup
  all : ∀ c, c ∈ kn ↔ (R c).isSome = true
  bound : ∀ c ∈ kn, ChIn nS lim c
  fresh : ∀ c, c ∈ fr ↔ R c = some r
  fonce : fr.Nodup
theorem Kn.begin (nS lim r : Nat) : Kn nS lim (fun _ => none) r [] [] := ⟨List.nodup_nil, (fun c => by simp), (fun c h => (by cases h)), (fun c => by simp), List.nodup_nil⟩
theorem Kn.put {nS lim r : Nat} {R : Chn → Option Nat} {kn fr : List Chn} {c : Chn} (h : Kn nS lim R r kn fr) (hc : R c = none) (hb : ChIn nS lim c) : Kn nS lim (putR R r c) r (kn ++ [c]) (fr ++ [c]) := by
  have hk : c ∉ kn := fun hm => by have := (h.all c).1 hm; rw [hc] at this; cases this
  have hf : c ∉ fr := fun hm => by have := (h.fresh c).1 hm; rw [hc] at this; cases this
  have nd : ∀ {l : List Chn}, l.Nodup → c ∉ l → (l ++ [c]).Nodup := fun hl hn => List.nodup_append.2 ⟨hl, by simp, fun a ha b hb2 e => by
    rw [List.mem_singleton] at hb2
    subst hb2
    subst e
    exact hn ha⟩
  refine ⟨nd h.once hk, fun x => ?_, fun x hx => ?_, fun x => ?_, nd h.fonce hf⟩
  · rw [List.mem_append, List.mem_singleton, h.all]
    unfold putR
    by_cases e : x = c
    · simp [e]
    · simp [e]
  · rcases List.mem_append.1 hx with hx | hx
    · exact h.bound x hx
    · rw [List.mem_singleton] at hx; subst hx; exact hb
  · rw [List.mem_append, List.mem_singleton, h.fresh]
    unfold putR
    by_cases e : x = c
    · simp [e]
    · simp [e]
/-- the next round begins with nothing fresh -/
theorem Kn.next {nS lim r : Nat} {R : Chn → Option Nat} {kn fr : List Chn} (h : Kn nS lim R r kn fr) (hlow : ∀ c q, R c = some q → q ≤ r) : Kn nS lim R (r + 1) kn [] :=
  ⟨h.once, h.all, h.bound, fun c => ⟨fun h => (by cases h), fun e => (by have := hlow c _ e; omega)⟩, List.nodup_nil⟩
end Go.Proofs.YtmjiiddncbhgpaaGreat
namespace Go.Proofs.YtmjiiddncbhgpaaGreat
set_option linter.unusedVariables false
set_option linter.unusedSimpArgs false
/-- a part of a plan that a compound task can become -/
structure Spn where
  t : Nat
  i : Nat
  j : Nat
  deriving DecidableEq
def knG (kn : List Spn) (t i j : Nat) : Prop := (⟨t, i, j⟩ : Spn) ∈ kn
/-- the reference's divides, on the steps in reverse -/
def divB (kn : List Spn) (plan : List Int) : List Int → Nat → Nat → Bool
  | [], i, j => decide (i = j)
  | x :: xs, i, j => if 0 ≤ x then decide (i < j) && (decide (plan[j - 1]? = some x) && divB kn plan xs i (j - 1))
    else (List.range (j + 1)).any fun k => decide (i ≤ k) && (kn.contains ⟨(-1 - x).toNat, k, j⟩ && divB kn plan xs i k)
structure OkKn (n : Nat) (kn : List Spn) : Prop where
  le : ∀ s ∈ kn, s.i ≤ s.j ∧ s.j ≤ n
theorem chain_le {n : Nat} {plan : List Int} (hn : plan.length = n) {g : Nat → Nat → Nat → Prop} (hg : ∀ t i j, g t i j → i ≤ j ∧ j ≤ n) : ∀ (l : List Int) (i j : Nat), i ≤ n → Chain plan g l i j → i ≤ j ∧ j ≤ n := by
  intro l
  induction l with
  | nil => intro i j hi h; cases h; exact ⟨Nat.le_refl _, hi⟩
  | cons x xs ih =>
    intro i j hi h
    unfold Chain at h
    split at h
    · have := (List.getElem?_eq_some_iff.1 h.1).1
      have := ih (i + 1) j (by omega) h.2
      omega
    · obtain ⟨k, h1, h2, h3⟩ := h
      have := hg _ _ _ h2
      have := ih k j (by omega) h3
      omega
theorem divB_chain {n : Nat} {plan : List Int} (hn : plan.length = n) {kn : List Spn} (hk : OkKn n kn) : ∀ (l : List Int) (i j : Nat), i ≤ n → j ≤ n → (divB kn plan l i j = true ↔ Chain plan (knG kn) l.reverse i j) := by
  have hg : ∀ t i j, knG kn t i j → i ≤ j ∧ j ≤ n := fun t i j h => hk.le _ h
  intro l
  induction l with
  | nil => intro i j hi hj; simp [divB, Chain]
  | cons x xs ih =>
    intro i j hi hj
    rw [List.reverse_cons, chain_snoc xs.reverse x i j (by omega)]
    unfold divB
    by_cases h0 : 0 ≤ x
    · rw [if_pos h0]
      simp only [Bool.and_eq_true, decide_eq_true_eq]
      constructor
      · rintro ⟨h1, h2, h3⟩
        refine ⟨j - 1, by omega, (ih i (j - 1) hi (by omega)).1 h3, ?_⟩
        unfold Chain Chain
        rw [if_pos h0]
        exact ⟨h2, by omega⟩
      · rintro ⟨k, h1, h2, h3⟩
        unfold Chain Chain at h3
        rw [if_pos h0] at h3
        have h4 := chain_le hn hg _ _ _ hi h2
        obtain ⟨h5, rfl⟩ := h3
        exact ⟨by omega, by rw [Nat.add_sub_cancel]; exact h5, by rw [Nat.add_sub_cancel]; exact (ih i k hi (by omega)).2 h2⟩
    · rw [if_neg h0]
      rw [List.any_eq_true]
      constructor
      · rintro ⟨k, h1, h2⟩
        rw [List.mem_range] at h1
        simp only [Bool.and_eq_true, decide_eq_true_eq, List.contains_iff_mem] at h2
        refine ⟨k, by omega, (ih i k hi (by omega)).1 h2.2.2, ?_⟩
        unfold Chain Chain
        rw [if_neg h0]
        exact ⟨j, by omega, h2.2.1, rfl⟩
      · rintro ⟨k, h1, h2, h3⟩
        unfold Chain Chain at h3
        rw [if_neg h0] at h3
        obtain ⟨q, h5, h6, rfl⟩ := h3
        have h7 := hg _ _ _ h6
        have h4 := chain_le hn hg _ _ _ hi h2
        refine ⟨k, List.mem_range.2 (by omega), ?_⟩
        simp only [Bool.and_eq_true, decide_eq_true_eq, List.contains_iff_mem]
        exact ⟨h4.1, h6, (ih i k hi (by omega)).2 h2⟩
/-- the steps themselves -/
def divF (kn : List Spn) (plan : List Int) (steps : List Int) (i j : Nat) : Bool := divB kn plan steps.reverse i j
theorem divF_chain {n : Nat} {plan : List Int} (hn : plan.length = n) {kn : List Spn} (hk : OkKn n kn) {l : List Int} {i j : Nat} (hi : i ≤ n) (hj : j ≤ n) : divF kn plan l i j = true ↔ Chain plan (knG kn) l i j := by
  unfold divF
  rw [divB_chain hn hk _ _ _ hi hj, List.reverse_reverse]
/-- known spans: each is so, and none stands there twice -/
structure KnSp (ms : List Hm) (plan : List Int) (st : Nat → List Int) (K n : Nat) (kn : List Spn) : Prop where
  sound : Sound ms plan st (knG kn)
  ok : OkKn n kn
  low : ∀ s ∈ kn, s.t < K
  one : kn.Nodup
theorem KnSp.nil {ms : List Hm} {plan : List Int} {st : Nat → List Int} {K n : Nat} : KnSp ms plan st K n [] := ⟨fun t i j h => (by cases h), ⟨fun s h => (by cases h)⟩, fun s h => (by cases h), List.nodup_nil⟩
theorem KnSp.push {ms : List Hm} {plan : List Int} {st : Nat → List Int} {K n : Nat} {kn : List Spn} (h : KnSp ms plan st K n kn) (hn : plan.length = n) {m : Hm} (hm : m ∈ ms) (h0 : 0 ≤ m.task) (hK : m.task < K) {i j : Nat} (hi : i ≤ j) (hj : j ≤ n)
    (hno : (⟨m.task.toNat, i, j⟩ : Spn) ∉ kn) (hp : subsetB m.pre (st i) = true) (hd : divF kn plan m.steps i j = true) : KnSp ms plan st K n (kn ++ [⟨m.task.toNat, i, j⟩]) := by
  have hc := (divF_chain hn h.ok (by omega) hj).1 hd
  refine ⟨fun t a b hg => ?_, ⟨fun s hs => ?_⟩, fun s hs => ?_, ?_⟩
  · rcases List.mem_append.1 hg with hg | hg
    · exact h.sound t a b hg
    · rw [List.mem_singleton, Spn.mk.injEq] at hg
      obtain ⟨rfl, rfl, rfl⟩ := hg
      exact ⟨m, hm, by omega, hp, chain_seq h.sound _ _ _ hc⟩
  · rcases List.mem_append.1 hs with hs | hs
    · exact h.ok.le s hs
    · rw [List.mem_singleton] at hs; subst hs; exact ⟨hi, hj⟩
  · rcases List.mem_append.1 hs with hs | hs
    · exact h.low s hs
    · rw [List.mem_singleton] at hs; subst hs; simp only; omega
  · rw [List.nodup_append]
    exact ⟨h.one, by simp, fun a ha b hb => by rw [List.mem_singleton] at hb; subst hb; exact fun e => hno (e ▸ ha)⟩
theorem sum_const {α : Type} (c : Nat) (l : List α) : (l.map fun _ => c).sum = l.length * c := by
  induction l with
  | nil => simp
  | cons a l ih => rw [List.map_cons, List.sum_cons, ih, List.length_cons, Nat.add_mul]; omega
/-- there are only so many spans -/
theorem KnSp.few {ms : List Hm} {plan : List Int} {st : Nat → List Int} {K n : Nat} {kn : List Spn} (h : KnSp ms plan st K n kn) : kn.length ≤ K * ((n + 1) * (n + 1)) := by
  let all : List Spn := (List.range K).flatMap fun t => (List.range (n + 1)).flatMap fun i => (List.range (n + 1)).map fun j => ⟨t, i, j⟩
  have hl : all.length = K * ((n + 1) * (n + 1)) := by simp only [all, List.length_flatMap, List.length_map, List.length_range, sum_const]
  rw [← hl]
  refine List.Nodup.length_le_of_subset h.one fun s hs => ?_
  have h1 := h.ok.le s hs
  have h2 := h.low s hs
  simp only [all, List.mem_flatMap, List.mem_map, List.mem_range]
  exact ⟨s.t, h2, s.i, by omega, s.j, by omega, rfl⟩
/-- what a round has looked at: with this known, nothing new among the methods, places .. before a, b, c -/
def Quieted (ms : List Hm) (plan : List Int) (st : Nat → List Int) (n : Nat) (g : Nat → Nat → Nat → Prop) (a b : Nat) : Prop :=
  ∀ (q : Nat) (m : Hm), ms[q]? = some m → ∀ i j, i ≤ n → (q < a ∨ (q = a ∧ i < b)) → subsetB m.pre (st i) = true → Chain plan g m.steps i j → g m.task.toNat i j
theorem Quieted.start {ms : List Hm} {plan : List Int} {st : Nat → List Int} {n : Nat} {g : Nat → Nat → Nat → Prop} : Quieted ms plan st n g 0 0 := fun q m hm i j hi h => by omega
theorem Quieted.next {ms : List Hm} {plan : List Int} {st : Nat → List Int} {n a : Nat} {g : Nat → Nat → Nat → Prop} (h : Quieted ms plan st n g a (n + 1)) : Quieted ms plan st n g (a + 1) 0 := fun q m hm i j hi hq => h q m hm i j hi (by omega)
theorem Quieted.step {ms : List Hm} {plan : List Int} {st : Nat → List Int} {n a b : Nat} {g : Nat → Nat → Nat → Prop} (h : Quieted ms plan st n g a b) (hk : ∀ m, ms[a]? = some m → subsetB m.pre (st b) = true → ∀ j, Chain plan g m.steps b j → g m.task.toNat b j) : Quieted ms plan st n g a (b + 1) := fun q m hm i j hi hq hp hc => by
  rcases Nat.lt_or_ge q a with h1 | h1
  · exact h q m hm i j hi (.inl h1) hp hc
  · rcases Nat.lt_or_ge i b with h2 | h2
    · exact h q m hm i j hi (.inr ⟨by omega, h2⟩) hp hc
    · obtain rfl : q = a := by omega
      obtain rfl : i = b := by omega
      exact hk m hm hp j hc
theorem Quieted.done {ms : List Hm} {plan : List Int} {st : Nat → List Int} {n : Nat} {g : Nat → Nat → Nat → Prop} (hn : plan.length = n) (h : Quieted ms plan st n g ms.length 0) : Closing ms plan st g := fun m hm i j hi hp hc => by
  obtain ⟨q, hq⟩ := List.getElem?_of_mem hm
  exact h q m hq i j (by omega) (.inl (List.getElem?_eq_some_iff.1 hq).1) hp hc
end Go.Proofs.YtmjiiddncbhgpaaGreat
namespace Go.Proofs.YtmjiiddncbhgpaaGreat
def cmpI (a b : Int) : Int := if a < b then -1 else if b < a then 1 else 0
def cmpL : List Int → List Int → Int
  | [], [] => 0
  | [], _ :: _ => -1
  | _ :: _, [] => 1
  | a :: l, b :: m => if cmpI a b = 0 then cmpL l m else cmpI a b
def lessL : List Int → List Int → Bool
  | _, [] => false
  | [], _ :: _ => true
  | a :: l, b :: m => decide (a < b) || (decide (a = b) && lessL l m)
theorem cmpI_zero {a b : Int} : cmpI a b = 0 ↔ a = b := by
  unfold cmpI
  split
  · simp; omega
  · split <;> simp <;> omega
theorem cmpI_neg {a b : Int} : cmpI a b < 0 ↔ a < b := by
  unfold cmpI
  split
  · simp; omega
  · split <;> simp <;> omega
theorem cmpL_less : ∀ (a b : List Int), decide (cmpL a b < 0) = lessL a b := by
  intro a
  induction a with
  | nil => intro b; cases b <;> simp [cmpL, lessL]
  | cons x a ih =>
    intro b
    cases b with
    | nil => simp [cmpL, lessL]
    | cons y b =>
      unfold cmpL lessL
      by_cases h : x = y
      · have h0 := cmpI_zero.2 h
        rw [if_pos h0, ih]
        simp [h]
      · have h0 : ¬ cmpI x y = 0 := fun e => h (cmpI_zero.1 e)
        rw [if_neg h0]
        have := cmpI_neg (a := x) (b := y)
        simp [h, this]
theorem lessL_irrefl : ∀ a : List Int, lessL a a = false := by
  intro a
  induction a with
  | nil => rfl
  | cons x a ih => simp [lessL, ih]
theorem lessL_trans : ∀ a b c : List Int, lessL a b = true → lessL b c = true → lessL a c = true := by
  intro a
  induction a with
  | nil =>
    intro b c h1 h2
    cases c with
    | nil => cases b <;> simp [lessL] at h2
    | cons z c => rfl
  | cons x a ih =>
    intro b c h1 h2
    cases b with
    | nil => simp [lessL] at h1
    | cons y b =>
      cases c with
      | nil => simp [lessL] at h2
      | cons z c =>
        simp only [lessL, Bool.or_eq_true, Bool.and_eq_true, decide_eq_true_eq] at h1 h2 ⊢
        rcases h1 with h1 | ⟨h1, h1'⟩
        · rcases h2 with h2 | ⟨h2, h2'⟩
          · exact .inl (by omega)
          · exact .inl (by omega)
        · rcases h2 with h2 | ⟨h2, h2'⟩
          · exact .inl (by omega)
          · exact .inr ⟨by omega, ih b c h1' h2'⟩
/-- of two different lists one is less -/
theorem lessL_total : ∀ a b : List Int, a ≠ b → lessL a b = true ∨ lessL b a = true := by
  intro a
  induction a with
  | nil =>
    intro b h
    cases b with
    | nil => exact absurd rfl h
    | cons y b => exact .inl rfl
  | cons x a ih =>
    intro b h
    cases b with
    | nil => exact .inr rfl
    | cons y b =>
      simp only [lessL, Bool.or_eq_true, Bool.and_eq_true, decide_eq_true_eq]
      by_cases h1 : x = y
      · rcases ih b (fun e => h (by rw [h1, e])) with h2 | h2
        · exact .inl (.inr ⟨h1, h2⟩)
        · exact .inr (.inr ⟨h1.symm, h2⟩)
      · by_cases h2 : x < y
        · exact .inl (.inl h2)
        · exact .inr (.inl (by omega))
end Go.Proofs.YtmjiiddncbhgpaaGreat
namespace Go.Proofs.YtmjiiddncbhgpaaGreat
/-- in the order of their facts, each once -/
def SortedW (l : List Nat) : Prop := l.Pairwise fun x y => lessL (factsF x) (factsF y) = true
end Go.Proofs.YtmjiiddncbhgpaaGreat
namespace Go.Proofs.YtmjiiddncbhgpaaGreat
theorem Seen.front {S : Nat → Nat → Prop} {s0 : Nat} {out stack : List Nat} {s : Nat} (h : Seen S s0 out (s :: stack)) {left : Nat → Prop} (hl : ∀ t, S s t → left t) : SeenAt S s0 (out ++ [s]) stack s left := by
  have e : out ++ [s] ++ stack = out ++ s :: stack := by simp
  refine ⟨e ▸ h.once, fun x hx => h.reach x (e ▸ hx), e ▸ h.start, by simp, ?_⟩
  intro u hu t ht hn
  rcases List.mem_append.1 hu with hu | hu
  · rw [e]; exact h.gone u hu t ht
  · obtain rfl := List.mem_singleton.1 hu
    exact absurd ⟨rfl, hl t ht⟩ hn
/-- the operators of one state gone through; none: too many states -/
def refOps (s : List Int) : List Opr → List (List Int) → Option (List (List Int))
  | [], out => some out
  | o :: os, out =>
    if subsetB o.pre s = true then
      if (out.map wordF).contains (wordF (updF s o.add o.del)) = true then refOps s os out
      else if out.length = 2000 then none else refOps s os (out ++ [updF s o.add o.del])
    else refOps s os out
/-- the search from place i on -/
def refAll (T : Tsk) : Nat → Nat → List (List Int) → Option (List (List Int))
  | 0, _, _ => none
  | k + 1, i, out => match out[i]? with
    | none => some out
    | some s => match refOps s T.ops out with
      | none => none
      | some out' => refAll T k (i + 1) out'
def refReach (T : Tsk) : Option (List (List Int)) := refAll T 2001 0 [T.init]
/-- what holds between two operators of a state: 'done' are the states gone through, 'rest' wait -/
structure RefAt (T : Tsk) (N : Nat) (s : List Int) (dn rest : List (List Int)) (os : List Opr) : Prop where
  sets : ∀ x ∈ dn ++ rest, setB N x = true
  few : (dn ++ rest).length ≤ 2000
  seen : SeenAt (stepW (T.ops.map mkOp)) (wordF T.init) (dn.map wordF) (rest.map wordF) (wordF s) fun t => ∃ o ∈ os, subsetB o.pre s = true ∧ t = wordF (updF s o.add o.del)
/-- too many: 2001 different words can be reached -/
def TooMany (T : Tsk) : Prop := ∃ m : List Nat, m.Nodup ∧ (∀ x ∈ m, Reach (stepW (T.ops.map mkOp)) (wordF T.init) x) ∧ m.length = 2001
theorem refOps_at {T : Tsk} {N : Nat} (hok : OkT T N) {s : List Int} (hs : setB N s = true) (dn : List (List Int)) : ∀ (os : List Opr) (rest : List (List Int)), (∀ o ∈ os, o ∈ T.ops) → RefAt T N s dn rest os →
    match refOps s os (dn ++ rest) with
    | none => TooMany T
    | some out => ∃ rest', out = dn ++ rest' ∧ RefAt T N s dn rest' [] := by
  intro os
  induction os with
  | nil => intro rest _ h; exact ⟨rest, rfl, h⟩
  | cons o os ih =>
    intro rest ho h
    have hm := ho o List.mem_cons_self
    have hos := fun p hp => ho p (List.mem_cons_of_mem o hp)
    unfold refOps
    by_cases hp : subsetB o.pre s = true
    · rw [if_pos hp]
      have hst : stepW (T.ops.map mkOp) (wordF s) (wordF (updF s o.add o.del)) := step_arc.2 ⟨o.cost, (arc_iff hok hs).2 ⟨o, hm, hp, rfl, rfl⟩⟩
      have hleft : ∀ u, (∃ p ∈ o :: os, subsetB p.pre s = true ∧ u = wordF (updF s p.add p.del)) → (∃ p ∈ os, subsetB p.pre s = true ∧ u = wordF (updF s p.add p.del)) ∨ u = wordF (updF s o.add o.del) := by
        rintro u ⟨p, hpm, h1, h2⟩
        rcases List.mem_cons.1 hpm with rfl | hpm
        · exact .inr h2
        · exact .inl ⟨p, hpm, h1, h2⟩
      by_cases hc : ((dn ++ rest).map wordF).contains (wordF (updF s o.add o.del)) = true
      · rw [if_pos hc]
        have hin : wordF (updF s o.add o.del) ∈ dn.map wordF ++ rest.map wordF := by rw [← List.map_append]; simpa using hc
        exact ih rest hos ⟨h.sets, h.few, h.seen.known hin hleft⟩
      · rw [if_neg hc]
        have hin : wordF (updF s o.add o.del) ∉ dn.map wordF ++ rest.map wordF := by rw [← List.map_append]; simpa using hc
        have hn := h.seen.new hst hin hleft
        by_cases hl : (dn ++ rest).length = 2000
        · rw [if_pos hl]
          refine ⟨_, hn.once, hn.reach, ?_⟩
          simp only [List.length_append, List.length_map, List.length_cons, List.length_nil] at hl ⊢
          omega
        · rw [if_neg hl]
          have e : dn ++ rest ++ [updF s o.add o.del] = dn ++ (rest ++ [updF s o.add o.del]) := by simp
          rw [e]
          refine ih _ hos ⟨?_, ?_, by rw [List.map_append]; exact hn⟩
          · intro x hx
            rw [← e] at hx
            rcases List.mem_append.1 hx with hx | hx
            · exact h.sets x hx
            · obtain rfl := List.mem_singleton.1 hx
              exact upd_setB hs (hok.ops o hm)
          · have := h.few
            rw [← e]
            simp only [List.length_append, List.length_cons, List.length_nil] at hl this ⊢
            omega
    · rw [if_neg hp]
      refine ih rest hos ⟨h.sets, h.few, ?_⟩
      obtain ⟨h1, h2, h3, h4, h5⟩ := h.seen
      refine ⟨h1, h2, h3, h4, fun u hu t ht hn => h5 u hu t ht fun hk => hn ⟨hk.1, ?_⟩⟩
      obtain ⟨p, hpm, h6, h7⟩ := hk.2
      rcases List.mem_cons.1 hpm with rfl | hpm
      · exact absurd h6 hp
      · exact ⟨p, hpm, h6, h7⟩
theorem refAll_law {T : Tsk} {N : Nat} (hok : OkT T N) : ∀ (k i : Nat) (out : List (List Int)), (∀ x ∈ out, setB N x = true) → out.length ≤ 2000 → i ≤ out.length → 2001 ≤ k + i →
    Seen (stepW (T.ops.map mkOp)) (wordF T.init) ((out.take i).map wordF) ((out.drop i).map wordF) →
    match refAll T k i out with
    | none => TooMany T
    | some l => AllOf (stepW (T.ops.map mkOp)) (wordF T.init) (l.map wordF) ∧ l.length ≤ 2000 ∧ ∀ x ∈ l, setB N x = true := by
  intro k
  induction k with
  | zero => intro i out _ h1 h2 h3 _; omega
  | succ k ih =>
    intro i out hset hlen hi hk hseen
    unfold refAll
    cases hx : out[i]? with
    | none =>
      have hge : out.length ≤ i := by simpa using hx
      rw [List.take_of_length_le hge, List.drop_eq_nil_of_le hge] at hseen
      exact ⟨hseen.all, hlen, hset⟩
    | some s =>
      obtain ⟨hlt, hs⟩ := List.getElem?_eq_some_iff.1 hx
      have hd : out.drop i = s :: out.drop (i + 1) := by rw [← hs]; exact List.drop_eq_getElem_cons hlt
      have ht : out.take (i + 1) = out.take i ++ [s] := by rw [List.take_add_one, hx]; rfl
      have hsm : s ∈ out := hs ▸ List.getElem_mem hlt
      rw [hd, List.map_cons] at hseen
      have hat := hseen.front (left := fun t => ∃ o ∈ T.ops, subsetB o.pre s = true ∧ t = wordF (updF s o.add o.del)) fun t hst => by
        obtain ⟨c, ha⟩ := step_arc.1 hst
        obtain ⟨o, ho, h1, h2, _⟩ := (arc_iff hok (hset s hsm)).1 ha
        exact ⟨o, ho, h1, h2⟩
      have e : out.take (i + 1) ++ out.drop (i + 1) = out := List.take_append_drop _ _
      have h := refOps_at hok (hset s hsm) (out.take (i + 1)) T.ops (out.drop (i + 1)) (fun o ho => ho) ⟨by rw [e]; exact hset, by rw [e]; exact hlen, by rw [ht, List.map_append]; exact hat⟩
      rw [e] at h
      dsimp only
      cases hr : refOps s T.ops out with
      | none => rw [hr] at h; exact h
      | some out' =>
        rw [hr] at h
        obtain ⟨rest', rfl, hat'⟩ := h
        have hl1 : (out.take (i + 1)).length = i + 1 := by rw [List.length_take]; omega
        refine ih (i + 1) _ hat'.sets hat'.few (by rw [List.length_append]; omega) (by omega) ?_
        rw [List.take_left' hl1, List.drop_left' hl1]
        exact hat'.seen.done fun t h => by
          obtain ⟨o, ho, _⟩ := h
          cases ho
theorem refReach_law {T : Tsk} {N : Nat} (hok : OkT T N) : match refReach T with
    | none => TooMany T
    | some l => AllOf (stepW (T.ops.map mkOp)) (wordF T.init) (l.map wordF) ∧ l.length ≤ 2000 ∧ ∀ x ∈ l, setB N x = true := by
  refine refAll_law hok 2001 0 [T.init] (fun x hx => ?_) (by simp) (by simp) (by omega) ?_
  · obtain rfl := List.mem_singleton.1 hx
    exact hok.init
  · exact .begin _ _
end Go.Proofs.YtmjiiddncbhgpaaGreat
