/- What the law asks for, part 3: TkPure SpPure SpReach SpArc As Bq SpLex SpRef. -/
import Derived.Test.YtemiecammmbjdaaGreatL2
import Derived.BigQuiet
import Derived.Deep.AppendLies
import Derived.Deep.Draws
import Derived.Deep.Fields
import Derived.Deep.LoopGhost
import Derived.Deep.QuietTactic
import Derived.Deep.Slices
import Derived.Laws.AppendOwnNone
import Derived.Laws.OwnMore
import Derived.Lib.Hide
import Derived.Lib.SlicesCompact
import Derived.Test.YtemiecammmbjdaaGreatProg
import Derived.WalkKit
namespace Go.Proofs.YtemiecammmbjdaaGreat
set_option linter.unusedVariables false
set_option linter.unusedSimpArgs false
/-- a strictly rising list of numbers from 0 to n - 1 -/
def setB (n : Int) (l : List Int) : Bool := decide (l.Pairwise (· < ·) ∧ ∀ x ∈ l, 0 ≤ x ∧ x < n)
theorem setB_iff {n : Int} {l : List Int} : setB n l = true ↔ l.Pairwise (· < ·) ∧ ∀ x ∈ l, 0 ≤ x ∧ x < n := by simp [setB]
theorem up_last {l : List Int} {k : Nat} {x : Int} (hk : k ≤ l.length) (hl : (l.take k).Pairwise (· < ·)) (h1 : ∀ y, 0 < k → l[k - 1]? = some y → y < x) : ∀ z ∈ l.take k, z < x := by
  intro z hz
  obtain ⟨j, hj⟩ := List.getElem?_of_mem hz
  have hjk : j < k := by
    have := (List.getElem?_eq_some_iff.1 hj).1
    rw [List.length_take] at this
    omega
  have hjl : l[j]? = some z := by rwa [List.getElem?_take_of_lt hjk] at hj
  have hlen := (List.getElem?_eq_some_iff.1 hjl).1
  rcases Nat.lt_or_ge j (k - 1) with hlt | hge
  · rcases Nat.lt_or_ge (k - 1) l.length with hk1 | hk1
    · have hy := List.getElem?_eq_getElem hk1
      have h2 := h1 _ (by omega) hy
      have h3 := List.pairwise_iff_getElem.1 hl j (k - 1) (by rw [List.length_take]; omega) (by rw [List.length_take]; omega) hlt
      rw [List.getElem_take, List.getElem_take] at h3
      have e := (List.getElem?_eq_some_iff.1 hjl).2
      omega
    · omega
  · obtain rfl : j = k - 1 := by omega
    exact h1 z (by omega) hjl
theorem setB_succ {n : Int} {l : List Int} {k : Nat} {x : Int} (hk : k ≤ l.length) (h : setB n (l.take k) = true) (hx : l[k]? = some x) (h0 : 0 ≤ x) (h2 : x < n) (h1 : ∀ y, 0 < k → l[k - 1]? = some y → y < x) : setB n (l.take (k + 1)) = true := by
  obtain ⟨p1, p2⟩ := setB_iff.1 h
  have hz := up_last hk p1 h1
  rw [List.take_add_one, hx]
  refine setB_iff.2 ⟨List.pairwise_append.2 ⟨p1, by simp, fun a ha b hb => ?_⟩, fun y hy => ?_⟩
  · simp at hb
    rw [hb]
    exact hz a ha
  · rcases List.mem_append.1 hy with hy | hy
    · exact p2 y hy
    · simp at hy
      rw [hy]
      exact ⟨h0, h2⟩
theorem setB_at {n : Int} {l : List Int} (h : setB n l = true) {k : Nat} {x : Int} (hx : l[k]? = some x) : 0 ≤ x ∧ x < n ∧ ∀ y, 0 < k → l[k - 1]? = some y → y < x := by
  obtain ⟨p1, p2⟩ := setB_iff.1 h
  have h3 := p2 x (List.mem_of_getElem? hx)
  refine ⟨h3.1, h3.2, fun y hk hy => ?_⟩
  obtain ⟨a1, a2⟩ := List.getElem?_eq_some_iff.1 hx
  obtain ⟨b1, b2⟩ := List.getElem?_eq_some_iff.1 hy
  have := List.pairwise_iff_getElem.1 p1 (k - 1) k b1 a1 (by omega)
  omega
theorem setB_len {n : Nat} {l : List Int} (h : setB (n : Int) l = true) : l.length ≤ n := by
  obtain ⟨p1, p2⟩ := setB_iff.1 h
  have hnd : (l.map Int.toNat).Nodup := by
    unfold List.Nodup
    rw [List.pairwise_map]
    exact p1.imp_of_mem (fun {a b} ha hb hab => by have := (p2 a ha).1; omega)
  have := List.Nodup.length_le_of_subset (l₂ := List.range n) hnd (fun x hx => by
    obtain ⟨y, hy, rfl⟩ := List.mem_map.1 hx
    have := p2 y hy
    rw [List.mem_range]
    omega)
  simpa using this
/-- two rising lists with the same elements are equal -/
theorem up_ext {a b : List Int} (ha : a.Pairwise (· < ·)) (hb : b.Pairwise (· < ·)) (h : ∀ x, x ∈ a ↔ x ∈ b) : a = b := by
  induction a generalizing b with
  | nil =>
    cases b with
    | nil => rfl
    | cons y b => exact absurd ((h y).2 (List.mem_cons_self ..)) (by simp)
  | cons x a ih =>
    cases b with
    | nil => exact absurd ((h x).1 (List.mem_cons_self ..)) (by simp)
    | cons y b =>
      obtain ⟨a1, a2⟩ := List.pairwise_cons.1 ha
      obtain ⟨b1, b2⟩ := List.pairwise_cons.1 hb
      have hxy : x = y := by
        rcases List.mem_cons.1 ((h x).1 (List.mem_cons_self ..)) with e | e
        · exact e
        · rcases List.mem_cons.1 ((h y).2 (List.mem_cons_self ..)) with e2 | e2
          · exact e2.symm
          · have := b1 x e
            have := a1 y e2
            omega
      subst hxy
      congr 1
      refine ih a2 b2 (fun z => ?_)
      have := h z
      rw [List.mem_cons, List.mem_cons] at this
      constructor
      · intro hz
        rcases this.1 (.inr hz) with e | e
        · have := a1 z hz
          omega
        · exact e
      · intro hz
        rcases this.2 (.inr hz) with e | e
        · have := b1 z hz
          omega
        · exact e
def meetB (a b : List Int) : Bool := a.any (hasB b)
theorem meetB_iff {a b : List Int} : meetB a b = true ↔ ∃ x ∈ a, x ∈ b := by
  unfold meetB
  rw [List.any_eq_true]
  simp only [hasB_iff]
theorem subsetB_iff {a b : List Int} : subsetB a b = true ↔ ∀ x ∈ a, x ∈ b := by
  unfold subsetB
  rw [List.all_eq_true]
  simp only [hasB_iff]

/-- slices.Compact of a sorted list: the same elements, strictly rising -/
theorem compact_mem {l : List Int} (hl : l.Pairwise (· ≤ ·)) (x : Int) : x ∈ Go.Lib.compact l ↔ x ∈ l := by
  unfold Go.Lib.compact Go.Lib.compactUpTo
  rw [List.mem_map]
  constructor
  · rintro ⟨j, hj, rfl⟩
    obtain ⟨h1, _⟩ := List.mem_filter.1 hj
    have hjl := List.mem_range.1 h1
    rw [getElem!_pos _ j (by simpa using hjl)]
    exact List.getElem_mem _
  · intro hx
    obtain ⟨j, hj⟩ := List.getElem?_of_mem hx
    have key : ∀ j : Nat, l[j]? = some x → ∃ i : Nat, l[i]? = some x ∧ Go.Lib.keeps l.toArray i = true := by
      intro j
      induction j with
      | zero => exact fun h => ⟨0, h, by simp [Go.Lib.keeps]⟩
      | succ j ih =>
        intro h
        have hjl := (List.getElem?_eq_some_iff.1 h).1
        by_cases e : l[j]? = some x
        · exact ih e
        · refine ⟨j + 1, h, ?_⟩
          unfold Go.Lib.keeps
          rw [decide_eq_true_iff]
          right
          rw [getElem!_pos _ (j + 1) (by simpa using hjl), getElem!_pos _ (j + 1 - 1) (by simp; omega)]
          intro e2
          apply e
          have := (List.getElem?_eq_some_iff.1 h).2
          rw [List.getElem?_eq_getElem (by omega)]
          simp at e2
          rw [← e2, this]
    obtain ⟨i, hi, hk⟩ := key j hj
    have hil := (List.getElem?_eq_some_iff.1 hi).1
    refine ⟨i, List.mem_filter.2 ⟨List.mem_range.2 hil, hk⟩, ?_⟩
    rw [getElem!_pos _ i (by simpa using hil)]
    have := (List.getElem?_eq_some_iff.1 hi).2
    simpa using this
theorem compact_up {l : List Int} (hl : l.Pairwise (· ≤ ·)) : (Go.Lib.compact l).Pairwise (· < ·) := by
  unfold Go.Lib.compact Go.Lib.compactUpTo
  rw [List.pairwise_map]
  have hr : (((List.range l.length).filter (Go.Lib.keeps l.toArray))).Pairwise (· < ·) := (List.pairwise_lt_range).sublist List.filter_sublist
  refine hr.imp_of_mem (fun {i j} hi hj hij => ?_)
  obtain ⟨hi1, _⟩ := List.mem_filter.1 hi
  obtain ⟨hj1, hj2⟩ := List.mem_filter.1 hj
  have hil := List.mem_range.1 hi1
  have hjl := List.mem_range.1 hj1
  have hle : ∀ a b (ha : a < l.length) (hb : b < l.length), a ≤ b → l[a] ≤ l[b] := fun a b ha hb hab => by
    rcases Nat.lt_or_ge a b with h | h
    · exact List.pairwise_iff_getElem.1 hl a b ha hb h
    · obtain rfl : a = b := by omega
      omega
  unfold Go.Lib.keeps at hj2
  rw [decide_eq_true_iff] at hj2
  have h3 := hj2.resolve_left (by omega)
  rw [getElem!_pos _ j (by simpa using hjl), getElem!_pos _ (j - 1) (by simp; omega)] at h3
  rw [getElem!_pos _ j (by simpa using hjl), getElem!_pos _ i (by simpa using hil)]
  simp only [List.getElem_toArray] at h3 ⊢
  have h4 := hle i (j - 1) hil (by omega) (by omega)
  have h5 := hle (j - 1) j (by omega) hjl (by omega)
  omega
/-- strips.Update: s without del, with add -/
def updF (s add del : List Int) : List Int := Go.Lib.compact ((s.filter (fun x => !hasB del x) ++ add).mergeSort fun x y => decide (x ≤ y))
theorem sorted_le (l : List Int) : (l.mergeSort fun x y => decide (x ≤ y)).Pairwise (· ≤ ·) := by
  have := List.pairwise_mergeSort (le := fun x y : Int => decide (x ≤ y)) (fun a b c h1 h2 => by simp at *; omega) (fun a b => by simp; omega) l
  simpa using this
theorem updF_mem {s add del : List Int} {x : Int} : x ∈ updF s add del ↔ (x ∈ s ∧ x ∉ del) ∨ x ∈ add := by
  unfold updF
  rw [compact_mem (sorted_le _), List.mem_mergeSort, List.mem_append, List.mem_filter]
  simp only [Bool.not_eq_true', ← Bool.not_eq_true, hasB_iff]
theorem updF_up (s add del : List Int) : (updF s add del).Pairwise (· < ·) := compact_up (sorted_le _)
theorem updF_set {n : Int} {s add del : List Int} (h1 : ∀ x ∈ s, 0 ≤ x ∧ x < n) (h2 : ∀ x ∈ add, 0 ≤ x ∧ x < n) : setB n (updF s add del) = true :=
  setB_iff.2 ⟨updF_up _ _ _, fun x hx => by
    rcases updF_mem.1 hx with ⟨h, _⟩ | h
    · exact h1 x h
    · exact h2 x h⟩
structure Opr where
  pre : List Int
  add : List Int
  del : List Int
  cost : Int
structure Tsk where
  facts : Int
  init : List Int
  goal : List Int
  ops : List Opr
def opCode (n : Int) (o : Opr) : Int := if setB n o.pre = true ∧ setB n o.add = true ∧ setB n o.del = true ∧ meetB o.add o.del = false then (if inB o.cost 0 100 = true then 0 else 3) else 5
def opsFault (n : Int) (i : Nat) : List Opr → Int × Int
  | [] => (0, 0)
  | o :: os => if opCode n o = 0 then opsFault n (i + 1) os else (opCode n o, i)
def taskFault (T : Tsk) : Int × Int :=
  if inB T.facts 0 24 = false then (3, -1) else if setB T.facts T.init = false then (5, -2) else if setB T.facts T.goal = false then (5, -3) else if 40 < T.ops.length then (2, -1) else opsFault T.facts 0 T.ops
theorem opCode_range (n : Int) (o : Opr) : opCode n o = 0 ∨ opCode n o = 3 ∨ opCode n o = 5 := by
  unfold opCode
  split
  · split <;> simp
  · simp
structure OkOp (n : Nat) (o : Opr) : Prop where
  pre : setB n o.pre = true
  add : setB n o.add = true
  del : setB n o.del = true
  apart : meetB o.add o.del = false
  low : 0 ≤ o.cost
  high : o.cost ≤ 100
theorem opCode_ok {n : Nat} {o : Opr} (h : opCode n o = 0) : OkOp n o := by
  unfold opCode at h
  split at h
  · rename_i h1
    split at h
    · rename_i h2
      have := inB_iff.1 h2
      exact ⟨h1.1, h1.2.1, h1.2.2.1, h1.2.2.2, this.1, this.2⟩
    · omega
  · omega
theorem opsFault_ok {n : Int} {i : Nat} {os : List Opr} : (opsFault n i os).1 = 0 ↔ ∀ o ∈ os, opCode n o = 0 := by
  induction os generalizing i with
  | nil => simp [opsFault]
  | cons o os ih =>
    unfold opsFault
    split
    · rename_i h
      rw [ih]
      simp [h]
    · rename_i h
      simp [h]
theorem opsFault_zero {n : Int} {i : Nat} {os : List Opr} (h : (opsFault n i os).1 = 0) : opsFault n i os = (0, 0) := by
  induction os generalizing i with
  | nil => rfl
  | cons o os ih =>
    unfold opsFault at h ⊢
    split
    · rename_i e
      rw [if_pos e] at h
      exact ih h
    · rename_i e
      rw [if_neg e] at h
      exact absurd h e
/-- a valid task -/
structure OkT (T : Tsk) (n : Nat) : Prop where
  facts : T.facts = n
  low : n ≤ 24
  init : setB n T.init = true
  goal : setB n T.goal = true
  few : T.ops.length ≤ 40
  ops : ∀ o ∈ T.ops, OkOp n o
theorem taskFault_zero {T : Tsk} (h : (taskFault T).1 = 0) : taskFault T = (0, 0) := by
  unfold taskFault at h ⊢
  split
  · rename_i e; rw [if_pos e] at h; cases h
  · rename_i e; rw [if_neg e] at h
    split
    · rename_i e; rw [if_pos e] at h; cases h
    · rename_i e; rw [if_neg e] at h
      split
      · rename_i e; rw [if_pos e] at h; cases h
      · rename_i e; rw [if_neg e] at h
        split
        · rename_i e; rw [if_pos e] at h; cases h
        · rename_i e; rw [if_neg e] at h
          exact opsFault_zero h
theorem taskFault_ok {T : Tsk} (h : (taskFault T).1 = 0) : ∃ n, OkT T n := by
  unfold taskFault at h
  split at h
  · cases h
  · rename_i h1
    split at h
    · cases h
    · rename_i h2
      split at h
      · cases h
      · rename_i h3
        split at h
        · cases h
        · rename_i h4
          have h1 := inB_iff.1 (by simpa using h1)
          refine ⟨T.facts.toNat, by omega, by omega, by rw [Int.toNat_of_nonneg h1.1]; simpa using h2, by rw [Int.toNat_of_nonneg h1.1]; simpa using h3, by omega, fun o ho => ?_⟩
          have := opsFault_ok.1 h o ho
          exact opCode_ok (by rw [Int.toNat_of_nonneg h1.1]; exact this)
end Go.Proofs.YtemiecammmbjdaaGreat
namespace Go.Proofs.YtemiecammmbjdaaGreat
/-- the word of a list of facts -/
def wordF (l : List Int) : Nat := l.foldl (fun w p => w ||| 1 <<< p.toNat) 0
/-- what lies in w and not in d -/
def lessW (w d : Nat) : Nat := w ^^^ (w &&& d)
/-- the facts of a word -/
def factsF (w : Nat) : List Int := ((List.range 32).filter fun p => w.testBit p).map Int.ofNat
theorem word_from (l : List Int) (hl : ∀ x ∈ l, 0 ≤ x) (q : Nat) : ∀ w : Nat, (l.foldl (fun w p => w ||| 1 <<< p.toNat) w).testBit q = (w.testBit q || decide ((q : Int) ∈ l)) := by
  induction l with
  | nil => intro w; simp
  | cons x l ih =>
    intro w
    rw [List.foldl_cons, ih (fun y hy => hl y (List.mem_cons_of_mem _ hy))]
    have h0 := hl x List.mem_cons_self
    rw [Nat.testBit_or, Nat.one_shiftLeft, Nat.testBit_two_pow]
    by_cases hq : x.toNat = q
    · have e : (q : Int) = x := by omega
      simp [hq, e]
    · have e : ¬ (q : Int) = x := by omega
      simp [hq, e]
theorem word_bit {l : List Int} (hl : ∀ x ∈ l, 0 ≤ x) (q : Nat) : (wordF l).testBit q = decide ((q : Int) ∈ l) := by
  have h := word_from l hl q 0
  simpa [wordF] using h
theorem word_lt {l : List Int} (hl : ∀ x ∈ l, 0 ≤ x ∧ x < 32) : wordF l < 4294967296 := by
  have h : wordF l < 2 ^ 32 := by
    refine Nat.lt_pow_two_of_testBit _ fun i hi => ?_
    rw [word_bit fun x hx => (hl x hx).1]
    simp only [decide_eq_false_iff_not]
    intro hm
    have := (hl _ hm).2
    omega
  simpa using h
theorem less_bit (w d q : Nat) : (lessW w d).testBit q = (w.testBit q && !d.testBit q) := by
  simp only [lessW, Nat.testBit_xor, Nat.testBit_and]
  cases w.testBit q <;> cases d.testBit q <;> rfl
theorem facts_mem {w : Nat} {x : Int} : x ∈ factsF w ↔ 0 ≤ x ∧ x < 32 ∧ w.testBit x.toNat = true := by
  simp only [factsF, List.mem_map, List.mem_filter, List.mem_range]
  constructor
  · rintro ⟨p, ⟨h1, h2⟩, rfl⟩
    refine ⟨by simp, by simp; omega, by simpa using h2⟩
  · rintro ⟨h0, h1, h2⟩
    exact ⟨x.toNat, ⟨by omega, h2⟩, by simp; omega⟩
theorem word_facts {w : Nat} (h : w < 4294967296) : wordF (factsF w) = w := by
  refine Nat.eq_of_testBit_eq fun q => ?_
  rw [word_bit fun x hx => (facts_mem.1 hx).1]
  by_cases hq : q < 32
  · by_cases hw : w.testBit q = true
    · rw [hw]; simp only [decide_eq_true_eq]; exact facts_mem.2 ⟨by omega, by omega, by simpa using hw⟩
    · rw [Bool.not_eq_true] at hw
      rw [hw]; simp only [decide_eq_false_iff_not]
      intro hm
      have := (facts_mem.1 hm).2.2
      simp [hw] at this
  · have hw : w.testBit q = false := Nat.testBit_lt_two_pow (Nat.lt_of_lt_of_le h (by have := Nat.pow_le_pow_right (n := 2) (by omega) (Nat.not_lt.1 hq); simpa using this))
    rw [hw]; simp only [decide_eq_false_iff_not]
    intro hm
    have := (facts_mem.1 hm).2.1
    omega
/-- a set's word lies in a state's word: the set is a part of the state -/
theorem word_sub {a s : List Int} (ha : ∀ x ∈ a, 0 ≤ x) (hs : ∀ x ∈ s, 0 ≤ x) : wordF s &&& wordF a = wordF a ↔ subsetB a s = true := by
  rw [subsetB_iff]
  constructor
  · intro h x hx
    have h2 : (wordF s &&& wordF a).testBit x.toNat = (wordF a).testBit x.toNat := by rw [h]
    rw [Nat.testBit_and, word_bit ha, word_bit hs, Int.toNat_of_nonneg (ha x hx)] at h2
    simpa [hx] using h2
  · intro h
    refine Nat.eq_of_testBit_eq fun q => ?_
    rw [Nat.testBit_and, word_bit ha, word_bit hs]
    by_cases hq : (q : Int) ∈ a
    · simp [hq, h _ hq]
    · simp [hq]
/-- the word behind a step -/
theorem word_upd {s add del : List Int} (hs : ∀ x ∈ s, 0 ≤ x) (ha : ∀ x ∈ add, 0 ≤ x) (hd : ∀ x ∈ del, 0 ≤ x) : wordF (updF s add del) = lessW (wordF s) (wordF del) ||| wordF add := by
  refine Nat.eq_of_testBit_eq fun q => ?_
  have hu : ∀ x ∈ updF s add del, 0 ≤ x := fun x hx => by
    rcases updF_mem.1 hx with ⟨h, _⟩ | h
    · exact hs x h
    · exact ha x h
  rw [word_bit hu, Nat.testBit_or, less_bit, word_bit hs, word_bit hd, word_bit ha]
  have := updF_mem (s := s) (add := add) (del := del) (x := (q : Int))
  by_cases h1 : (q : Int) ∈ s <;> by_cases h2 : (q : Int) ∈ del <;> by_cases h3 : (q : Int) ∈ add <;> simp [h1, h2, h3] at this ⊢ <;> exact this
/-- the same in the model's form (u32_andNot_nat) -/
theorem less_and {w d : Nat} (hw : w < 4294967296) (hd : d < 4294967296) : w &&& (4294967295 - d) = lessW w d := by
  refine Nat.eq_of_testBit_eq fun q => ?_
  have e : 4294967295 - d = 2 ^ 32 - (d + 1) := by omega
  rw [less_bit, Nat.testBit_and, e, Nat.testBit_two_pow_sub_succ (by simpa using hd)]
  by_cases hq : q < 32
  · simp [hq]
  · have hf : w.testBit q = false := Nat.testBit_lt_two_pow (Nat.lt_of_lt_of_le hw (by have := Nat.pow_le_pow_right (n := 2) (by omega) (Nat.not_lt.1 hq); simpa using this))
    simp [hf]
theorem less_lt {w d : Nat} (hw : w < 4294967296) (hd : d < 4294967296) : lessW w d < 4294967296 := by
  rw [← less_and hw hd]
  exact Nat.lt_of_le_of_lt Nat.and_le_left hw
end Go.Proofs.YtemiecammmbjdaaGreat
namespace Go.Proofs.YtemiecammmbjdaaGreat
inductive Reach (S : Nat → Nat → Prop) (s0 : Nat) : Nat → Prop
  | start : Reach S s0 s0
  | step {s t : Nat} : Reach S s0 s → S s t → Reach S s0 t
theorem closed_all {S : Nat → Nat → Prop} {s0 : Nat} {l : List Nat} (h0 : s0 ∈ l) (hc : ∀ s ∈ l, ∀ t, S s t → t ∈ l) {t : Nat} (h : Reach S s0 t) : t ∈ l := by
  induction h with
  | start => exact h0
  | step _ hs ih => exact hc _ ih _ hs
theorem nodup_len {m : List Nat} (hm : m.Nodup) : ∀ {l : List Nat}, (∀ x ∈ m, x ∈ l) → m.length ≤ l.length := by
  induction m with
  | nil => intro l _; simp
  | cons x m ih =>
    intro l h
    obtain ⟨hx, hm⟩ := List.nodup_cons.1 hm
    have hxl := h x List.mem_cons_self
    have h2 := ih hm (l := l.erase x) fun y hy => by
      have hne : y ≠ x := fun e => hx (e ▸ hy)
      exact (List.mem_erase_of_ne hne).2 (h y (List.mem_cons_of_mem _ hy))
    rw [List.length_erase_of_mem hxl] at h2
    have := List.length_pos_of_mem hxl
    simp only [List.length_cons]
    omega
/-- the reachable states are those of l, each once -/
structure AllOf (S : Nat → Nat → Prop) (s0 : Nat) (l : List Nat) : Prop where
  once : l.Nodup
  mem : ∀ x, x ∈ l ↔ Reach S s0 x
theorem AllOf.of {S : Nat → Nat → Prop} {s0 : Nat} {l : List Nat} (h1 : l.Nodup) (h2 : ∀ x ∈ l, Reach S s0 x) (h0 : s0 ∈ l) (hc : ∀ s ∈ l, ∀ t, S s t → t ∈ l) : AllOf S s0 l :=
  ⟨h1, fun x => ⟨h2 x, closed_all h0 hc⟩⟩
/-- of two lists that find all, one is as long as the other -/
theorem AllOf.len {S : Nat → Nat → Prop} {s0 : Nat} {l m : List Nat} (h : AllOf S s0 l) (k : AllOf S s0 m) : l.length = m.length :=
  Nat.le_antisymm (nodup_len h.once fun x hx => (k.mem x).2 ((h.mem x).1 hx)) (nodup_len k.once fun x hx => (h.mem x).2 ((k.mem x).1 hx))
/-- too many that are reachable: no list of that many at most finds all -/
theorem AllOf.few {S : Nat → Nat → Prop} {s0 : Nat} {l m : List Nat} (h : AllOf S s0 l) (hm : m.Nodup) (hr : ∀ x ∈ m, Reach S s0 x) : m.length ≤ l.length :=
  nodup_len hm fun x hx => (h.mem x).2 (hr x hx)
/-- the search: what lies in 'out' has been gone through, what lies in 'stack' waits -/
structure Seen (S : Nat → Nat → Prop) (s0 : Nat) (out stack : List Nat) : Prop where
  once : (out ++ stack).Nodup
  reach : ∀ x ∈ out ++ stack, Reach S s0 x
  start : s0 ∈ out ++ stack
  gone : ∀ s ∈ out, ∀ t, S s t → t ∈ out ++ stack
theorem Seen.begin (S : Nat → Nat → Prop) (s0 : Nat) : Seen S s0 [] [s0] :=
  ⟨by simp, fun x hx => by simp only [List.nil_append, List.mem_singleton] at hx; exact hx ▸ .start, by simp, fun s hs => by cases hs⟩
theorem Seen.all {S : Nat → Nat → Prop} {s0 : Nat} {out : List Nat} (h : Seen S s0 out []) : AllOf S s0 out := by
  obtain ⟨h1, h2, h3, h4⟩ := h
  simp only [List.append_nil] at h1 h2 h3 h4
  exact .of h1 h2 h3 h4
/-- while the steps of one taken state s are gone through: 'left' are still to come -/
structure SeenAt (S : Nat → Nat → Prop) (s0 : Nat) (out stack : List Nat) (s : Nat) (left : Nat → Prop) : Prop where
  once : (out ++ stack).Nodup
  reach : ∀ x ∈ out ++ stack, Reach S s0 x
  start : s0 ∈ out ++ stack
  here : s ∈ out
  gone : ∀ u ∈ out, ∀ t, S u t → ¬ (u = s ∧ left t) → t ∈ out ++ stack
theorem Seen.take {S : Nat → Nat → Prop} {s0 : Nat} {out stack : List Nat} {s : Nat} (h : Seen S s0 out (stack ++ [s])) {left : Nat → Prop} (hl : ∀ t, S s t → left t) : SeenAt S s0 (out ++ [s]) stack s left := by
  have hp : (out ++ [s] ++ stack).Perm (out ++ (stack ++ [s])) := by
    rw [List.append_assoc]
    exact List.Perm.append_left _ List.perm_append_comm
  have hm : ∀ x, x ∈ out ++ [s] ++ stack ↔ x ∈ out ++ (stack ++ [s]) := fun x => hp.mem_iff
  refine ⟨hp.nodup_iff.2 h.once, fun x hx => h.reach x ((hm x).1 hx), (hm _).2 h.start, by simp, ?_⟩
  intro u hu t ht hn
  rcases List.mem_append.1 hu with hu | hu
  · exact (hm t).2 (h.gone u hu t ht)
  · obtain rfl := List.mem_singleton.1 hu
    exact absurd ⟨rfl, hl t ht⟩ hn
theorem SeenAt.done {S : Nat → Nat → Prop} {s0 : Nat} {out stack : List Nat} {s : Nat} {left : Nat → Prop} (h : SeenAt S s0 out stack s left) (hl : ∀ t, ¬ left t) : Seen S s0 out stack :=
  ⟨h.once, h.reach, h.start, fun u hu t ht => h.gone u hu t ht fun k => hl t k.2⟩
theorem SeenAt.known {S : Nat → Nat → Prop} {s0 : Nat} {out stack : List Nat} {s t : Nat} {left left' : Nat → Prop} (h : SeenAt S s0 out stack s left) (ht : t ∈ out ++ stack) (hl : ∀ u, left u → left' u ∨ u = t) : SeenAt S s0 out stack s left' := by
  refine ⟨h.once, h.reach, h.start, h.here, fun u hu v hv hn => ?_⟩
  by_cases he : u = s ∧ left v
  · rcases hl v he.2 with h1 | rfl
    · exact absurd ⟨he.1, h1⟩ hn
    · exact ht
  · exact h.gone u hu v hv he
theorem SeenAt.new {S : Nat → Nat → Prop} {s0 : Nat} {out stack : List Nat} {s t : Nat} {left left' : Nat → Prop} (h : SeenAt S s0 out stack s left) (hs : S s t) (ht : t ∉ out ++ stack) (hl : ∀ u, left u → left' u ∨ u = t) : SeenAt S s0 out (stack ++ [t]) s left' := by
  have hm : ∀ x, x ∈ out ++ (stack ++ [t]) ↔ x ∈ out ++ stack ∨ x = t := fun x => by simp [or_assoc]
  refine ⟨?_, ?_, (hm _).2 (.inl h.start), h.here, ?_⟩
  · rw [← List.append_assoc, List.nodup_append]
    refine ⟨h.once, by simp, fun a ha b hb e => ?_⟩
    obtain rfl := List.mem_singleton.1 hb
    exact ht (e ▸ ha)
  · intro x hx
    rcases (hm x).1 hx with hx | rfl
    · exact h.reach x hx
    · exact .step (h.reach s (List.mem_append_left _ h.here)) hs
  · intro u hu v hv hn
    rw [hm]
    by_cases he : u = s ∧ left v
    · rcases hl v he.2 with h1 | rfl
      · exact absurd ⟨he.1, h1⟩ hn
      · exact .inr rfl
    · exact .inl (h.gone u hu v hv he)
end Go.Proofs.YtemiecammmbjdaaGreat
namespace Go.Proofs.YtemiecammmbjdaaGreat
/-- an operator as words -/
structure Mk where
  pre : Nat
  add : Nat
  del : Nat
  cost : Int
def mkOp (o : Opr) : Mk := ⟨wordF o.pre, wordF o.add, wordF o.del, o.cost⟩
def goW (s : Nat) (m : Mk) : Nat := lessW s m.del ||| m.add
def canW (s : Nat) (m : Mk) : Bool := decide (s &&& m.pre = m.pre)
def arcW (ms : List Mk) (s t : Nat) (c : Int) : Prop := ∃ m ∈ ms, canW s m = true ∧ t = goW s m ∧ c = m.cost
def stepW (ms : List Mk) (s t : Nat) : Prop := ∃ m ∈ ms, canW s m = true ∧ t = goW s m
def goalW (g s : Nat) : Bool := decide (s &&& g = g)
/-- the steps of a state, in the operators' order: number, cost, state behind it -/
def stepsW : Nat → List Mk → Nat → List (Nat × Int × Nat)
  | _, [], _ => []
  | i, m :: ms, s => if canW s m = true then (i, m.cost, goW s m) :: stepsW (i + 1) ms s else stepsW (i + 1) ms s
theorem setB_pos {n : Int} {l : List Int} (h : setB n l = true) : ∀ x ∈ l, 0 ≤ x := fun x hx => ((setB_iff.1 h).2 x hx).1
theorem can_word {N : Nat} {s : List Int} {o : Opr} (hs : setB N s = true) (ho : OkOp N o) : canW (wordF s) (mkOp o) = subsetB o.pre s := by
  have h := word_sub (setB_pos ho.pre) (setB_pos hs)
  rw [Bool.eq_iff_iff, ← h]
  exact decide_eq_true_iff
theorem go_word {N : Nat} {s : List Int} {o : Opr} (hs : setB N s = true) (ho : OkOp N o) : goW (wordF s) (mkOp o) = wordF (updF s o.add o.del) :=
  (word_upd (setB_pos hs) (setB_pos ho.add) (setB_pos ho.del)).symm
theorem upd_setB {N : Nat} {s : List Int} {o : Opr} (hs : setB N s = true) (ho : OkOp N o) : setB N (updF s o.add o.del) = true :=
  updF_set (setB_iff.1 hs).2 (setB_iff.1 ho.add).2
theorem goal_word {N : Nat} {s g : List Int} (hs : setB N s = true) (hg : setB N g = true) : goalW (wordF g) (wordF s) = subsetB g s := by
  have h := word_sub (setB_pos hg) (setB_pos hs)
  rw [Bool.eq_iff_iff, ← h]
  exact decide_eq_true_iff
/-- an arc between words is an operator's step between sets -/
theorem arc_iff {T : Tsk} {N : Nat} (hok : OkT T N) {s : List Int} (hs : setB N s = true) {t : Nat} {c : Int} : arcW (T.ops.map mkOp) (wordF s) t c ↔ ∃ o ∈ T.ops, subsetB o.pre s = true ∧ t = wordF (updF s o.add o.del) ∧ c = o.cost := by
  constructor
  · rintro ⟨m, hm, h1, h2, h3⟩
    obtain ⟨o, ho, rfl⟩ := List.mem_map.1 hm
    exact ⟨o, ho, by rw [← can_word hs (hok.ops o ho)]; exact h1, by rw [h2, go_word hs (hok.ops o ho)], h3⟩
  · rintro ⟨o, ho, h1, h2, h3⟩
    exact ⟨mkOp o, List.mem_map.2 ⟨o, ho, rfl⟩, by rw [can_word hs (hok.ops o ho)]; exact h1, by rw [go_word hs (hok.ops o ho)]; exact h2, h3⟩
end Go.Proofs.YtemiecammmbjdaaGreat
namespace Go.Proofs.YtemiecammmbjdaaGreat
set_option linter.unusedVariables false
set_option linter.unusedSimpArgs false
/-- a path along steps: operators, the state behind it, its cost -/
inductive PathW (ms : List Mk) : Nat → List Nat → Nat → Int → Prop
  | nil {s : Nat} : PathW ms s [] s 0
  | cons {s t u op : Nat} {l : List Nat} {c n : Int} : (op, c, t) ∈ stepsW 0 ms s → PathW ms t l u n → PathW ms s (op :: l) u (c + n)
theorem PathW.snoc {ms : List Mk} {s t u op : Nat} {l : List Nat} {c n : Int} (h : PathW ms s l t n) (hx : (op, c, u) ∈ stepsW 0 ms t) : PathW ms s (l ++ [op]) u (n + c) := by
  induction h with
  | nil => have := PathW.cons hx PathW.nil; simpa using this
  | cons h1 _ ih => have := PathW.cons h1 (ih hx); rw [List.cons_append]; rwa [Int.add_assoc]
theorem stepsW_mem : ∀ (ms : List Mk) (i s : Nat) (x : Nat × Int × Nat), x ∈ stepsW i ms s ↔ ∃ k m, ms[k]? = some m ∧ canW s m = true ∧ x = (i + k, m.cost, goW s m) := by
  intro ms
  induction ms with
  | nil => intro i s x; simp [stepsW]
  | cons m ms ih =>
    intro i s x
    unfold stepsW
    have hk : (∃ k m', (m :: ms)[k]? = some m' ∧ canW s m' = true ∧ x = (i + k, m'.cost, goW s m')) ↔ (canW s m = true ∧ x = (i, m.cost, goW s m)) ∨ ∃ k m', ms[k]? = some m' ∧ canW s m' = true ∧ x = (i + 1 + k, m'.cost, goW s m') := by
      constructor
      · rintro ⟨k, m', h1, h2, h3⟩
        cases k with
        | zero => simp at h1; subst h1; exact .inl ⟨h2, by simpa using h3⟩
        | succ k => exact .inr ⟨k, m', by simpa using h1, h2, by rw [h3, show i + (k + 1) = i + 1 + k by omega]⟩
      · rintro (⟨h2, h3⟩ | ⟨k, m', h1, h2, h3⟩)
        · exact ⟨0, m, by simp, h2, by simpa using h3⟩
        · exact ⟨k + 1, m', by simpa using h1, h2, by rw [h3, show i + 1 + k = i + (k + 1) by omega]⟩
    rw [hk]
    split
    · rename_i hc
      rw [List.mem_cons, ih]
      simp [hc]
    · rename_i hc
      rw [ih]
      simp [hc]
def infA : Int := 1000000000
/-- the price of a step -/
def prc (c : Int) : Int := 4096 * c + 1
/-- what stands while the search runs; cs: the state whose steps are gone through, O: those still to come -/
structure AsI (ms : List Mk) (s0 : Nat) (G : Nat → Bool) (hv : Nat → Int) (L D : List Nat) (pr : Nat → Option Int) (pa : Nat → Option (Nat × Nat)) (Qk : Nat → Option Int) (cs : Nat) (O : Nat × Int × Nat → Prop) : Prop where
  start : pr s0 = some 0
  low : ∀ s p, pr s = some p → 0 ≤ p ∧ (s ≠ s0 → 1 ≤ p)
  par : ∀ s p, pr s = some p → s ≠ s0 → ∃ f op c pf, pa s = some (f, op) ∧ (op, c, s) ∈ stepsW 0 ms f ∧ pr f = some pf ∧ pf + prc c ≤ p
  par0 : ∀ s, (pa s).isSome = (pr s).isSome
  key : ∀ s k, Qk s = some k → ∃ p, pr s = some p ∧ k = p + 4096 * hv s ∧ hv s < infA
  done : ∀ s p, pr s = some p → Qk s = none → G s = false ∧ ∀ x ∈ stepsW 0 ms s, ¬ (s = cs ∧ O x) → hv x.2.2 < infA → ∃ pt, pr x.2.2 = some pt ∧ pt ≤ p + prc x.2.1
  once : D.Nodup
  dom : ∀ s, s ∈ D ↔ (pr s).isSome = true
  sub : ∀ s ∈ D, s ∈ L
  high : ∀ s p, pr s = some p → p ≤ 409601 * ((D.length : Int) - 1)
/-- a state's price as a number: great where it has none -/
def bigP (pr : Nat → Option Int) (s : Nat) : Nat := ((pr s).getD 1000000000).toNat
section
variable {ms : List Mk} {s0 : Nat} {G : Nat → Bool} {hv : Nat → Int} {L D : List Nat} {pr : Nat → Option Int} {pa : Nat → Option (Nat × Nat)} {Qk Qk' : Nat → Option Int} {cs : Nat} {O O' : Nat × Int × Nat → Prop}
theorem AsI.few (h : AsI ms s0 G hv L D pr pa Qk cs O) : D.length ≤ L.length := List.Nodup.length_le_of_subset h.once fun s hs => h.sub s hs
theorem AsI.begin (hs : s0 ∈ L) (hh : hv s0 < infA) : AsI ms s0 G hv L [s0] (fun s => if s = s0 then some 0 else none) (fun s => if s = s0 then some (s0, 0) else none) (fun s => if s = s0 then some (4096 * hv s0) else none) 0 (fun _ => False) where
  start := if_pos rfl
  low s p hp := by split at hp <;> simp at hp; subst hp; rename_i e; exact ⟨Int.le_refl _, fun h => absurd e h⟩
  par s p hp hn := by rw [if_neg hn] at hp; cases hp
  par0 s := by split <;> rfl
  key s k hk := by split at hk <;> simp at hk; rename_i e; subst e; exact ⟨0, if_pos rfl, by omega, hh⟩
  done s p hp hq := by split at hp <;> simp_all
  once := by simp
  dom s := by simp
  sub s hs := by simp at hs; subst hs; assumption
  high s p hp := by split at hp <;> simp at hp; subst hp; simp
/-- a state is taken, no goal -/
theorem AsI.take {s : Nat} (h : AsI ms s0 G hv L D pr pa Qk cs (fun _ => False)) (hq : ∀ y, Qk' y = if y = s then none else Qk y) (hg : G s = false) : AsI ms s0 G hv L D pr pa Qk' s (fun _ => True) where
  start := h.start
  low := h.low
  par := h.par
  par0 := h.par0
  key s' k hk := by
    rw [hq] at hk
    split at hk
    · cases hk
    · exact h.key s' k hk
  done s' p hp hn := by
    rw [hq] at hn
    by_cases e : s' = s
    · subst e; exact ⟨hg, fun x _ hno => absurd ⟨rfl, trivial⟩ hno⟩
    · rw [if_neg e] at hn
      obtain ⟨h1, h2⟩ := h.done s' p hp hn
      exact ⟨h1, fun x hx _ => h2 x hx (fun hf => hf.2)⟩
  once := h.once
  dom := h.dom
  sub := h.sub
  high := h.high
/-- all steps are gone through -/
theorem AsI.close (h : AsI ms s0 G hv L D pr pa Qk cs O) (hO : ∀ x ∈ stepsW 0 ms cs, ¬ O x) : AsI ms s0 G hv L D pr pa Qk 0 (fun _ => False) where
  start := h.start
  low := h.low
  par := h.par
  par0 := h.par0
  key := h.key
  done s p hp hn := by
    obtain ⟨h1, h2⟩ := h.done s p hp hn
    exact ⟨h1, fun x hx _ => h2 x hx (fun hf => hO x (hf.1 ▸ hx) hf.2)⟩
  once := h.once
  dom := h.dom
  sub := h.sub
  high := h.high
/-- a step that brings nothing -/
theorem AsI.skip {x : Nat × Int × Nat} {p : Int} (h : AsI ms s0 G hv L D pr pa Qk cs O) (hp : pr cs = some p) (hx : hv x.2.2 < infA → ∃ old, pr x.2.2 = some old ∧ old ≤ p + prc x.2.1) (hO : ∀ y, O y → O' y ∨ y = x) : AsI ms s0 G hv L D pr pa Qk cs O' where
  start := h.start
  low := h.low
  par := h.par
  par0 := h.par0
  key := h.key
  done s q hq hn := by
    obtain ⟨h1, h2⟩ := h.done s q hq hn
    refine ⟨h1, fun y hy hno hi => ?_⟩
    by_cases e : s = cs ∧ O y
    · rcases hO y e.2 with h3 | rfl
      · exact absurd ⟨e.1, h3⟩ hno
      · rw [e.1, hp] at hq
        obtain rfl := Option.some.inj hq
        exact hx hi
    · exact h2 y hy e hi
  once := h.once
  dom := h.dom
  sub := h.sub
  high := h.high
/-- a step that brings a lower price, or the first -/
theorem AsI.set {x : Nat × Int × Nat} {p : Int} (hL : L.length ≤ 2000) {pr' : Nat → Option Int} {pa' : Nat → Option (Nat × Nat)} (h : AsI ms s0 G hv L D pr pa Qk cs O) (hcs : Qk cs = none) (hp : pr cs = some p) (hx : x ∈ stepsW 0 ms cs) (hc : 0 ≤ x.2.1 ∧ x.2.1 ≤ 100) (hxL : x.2.2 ∈ L) (hi : hv x.2.2 < infA)
    (hold : ∀ old, pr x.2.2 = some old → p + prc x.2.1 < old) (hpr : ∀ s, pr' s = if s = x.2.2 then some (p + prc x.2.1) else pr s) (hpa : ∀ s, pa' s = if s = x.2.2 then some (cs, x.1) else pa s) (hq : ∀ s, Qk' s = if s = x.2.2 then some (p + prc x.2.1 + 4096 * hv x.2.2) else Qk s) (hO : ∀ y, O y → O' y ∨ y = x) :
    AsI ms s0 G hv L (if x.2.2 ∈ D then D else D ++ [x.2.2]) pr' pa' Qk' cs O' ∧ pr' cs = some p ∧ Qk' cs = none ∧ bigP pr' x.2.2 + 1 ≤ bigP pr x.2.2 := by
  obtain ⟨op, c, t⟩ := x
  simp only at hx hc hxL hi hold hpr hpa hq ⊢
  obtain ⟨hp0, hp1⟩ := h.low cs p hp
  have hpc : 1 ≤ prc c := by unfold prc; omega
  have hpc2 : prc c ≤ 409601 := by unfold prc; omega
  have hcst : cs ≠ t := fun e => by
    subst e
    have := hold p hp
    omega
  have hts : t ≠ s0 := fun e => by
    subst e
    have := hold 0 h.start
    omega
  have hD : ∀ s, s ∈ (if t ∈ D then D else D ++ [t]) ↔ s = t ∨ s ∈ D := fun s => by
    split
    · rename_i e
      exact ⟨.inr, fun h => h.elim (fun h => h ▸ e) id⟩
    · simp only [List.mem_append, List.mem_singleton]; exact Or.comm
  have hDl : (if t ∈ D then D else D ++ [t]).length ≤ L.length ∧ D.length ≤ (if t ∈ D then D else D ++ [t]).length ∧ (pr t = none → (if t ∈ D then D else D ++ [t]).length = D.length + 1) := by
    refine ⟨?_, by split <;> simp, fun hn => ?_⟩
    · split
      · exact h.few
      · rename_i e
        refine List.Nodup.length_le_of_subset ?_ (fun s hs => ?_)
        · rw [List.nodup_append]
          exact ⟨h.once, by simp, fun a ha b hb => by rw [List.mem_singleton] at hb; subst hb; exact fun e2 => e (e2 ▸ ha)⟩
        · rcases List.mem_append.1 hs with hs | hs
          · exact h.sub s hs
          · rw [List.mem_singleton] at hs; subst hs; exact hxL
    · rw [if_neg (fun e => by have := (h.dom t).1 e; rw [hn] at this; cases this)]
      simp
  have hhi := h.high cs p hp
  refine ⟨⟨?_, ?_, ?_, ?_, ?_, ?_, ?_, ?_, ?_, ?_⟩, ?_, ?_, ?_⟩
  · rw [hpr, if_neg (Ne.symm hts)]; exact h.start
  · intro s q hs
    rw [hpr] at hs
    split at hs
    · obtain rfl := Option.some.inj hs
      exact ⟨by omega, fun _ => by omega⟩
    · exact h.low s q hs
  · intro s q hs hn
    rw [hpr] at hs
    rw [hpa]
    split at hs
    · rename_i e
      subst e
      obtain rfl := Option.some.inj hs
      rw [if_pos rfl]
      exact ⟨cs, op, c, p, rfl, hx, by rw [hpr, if_neg hcst]; exact hp, Int.le_refl _⟩
    · rename_i e
      rw [if_neg e]
      obtain ⟨f, op', c', pf, h1, h2, h3, h4⟩ := h.par s q hs hn
      by_cases ef : f = t
      · subst ef
        have := hold pf h3
        exact ⟨f, op', c', p + prc c, h1, h2, by rw [hpr, if_pos rfl], by omega⟩
      · exact ⟨f, op', c', pf, h1, h2, by rw [hpr, if_neg ef]; exact h3, h4⟩
  · intro s
    rw [hpr, hpa]
    split
    · rfl
    · exact h.par0 s
  · intro s k hk
    rw [hq] at hk
    rw [hpr]
    split at hk
    · rename_i e
      subst e
      obtain rfl := Option.some.inj hk
      exact ⟨p + prc c, if_pos rfl, rfl, hi⟩
    · rename_i e
      rw [if_neg e]
      exact h.key s k hk
  · intro s q hs hn
    rw [hq] at hn
    split at hn
    · cases hn
    · rename_i e
      rw [hpr, if_neg e] at hs
      obtain ⟨h1, h2⟩ := h.done s q hs hn
      refine ⟨h1, fun y hy hno hiy => ?_⟩
      rw [hpr]
      by_cases e2 : s = cs ∧ O y
      · rcases hO y e2.2 with h3 | rfl
        · exact absurd ⟨e2.1, h3⟩ hno
        · rw [e2.1, hp] at hs
          obtain rfl := Option.some.inj hs
          exact ⟨_, if_pos rfl, Int.le_refl _⟩
      · obtain ⟨pt, h3, h4⟩ := h2 y hy e2 hiy
        by_cases e3 : y.2.2 = t
        · rw [e3] at h3
          have := hold pt h3
          exact ⟨_, if_pos e3, by omega⟩
        · exact ⟨pt, by rw [if_neg e3]; exact h3, h4⟩
  · split
    · exact h.once
    · rename_i e
      rw [List.nodup_append]
      exact ⟨h.once, by simp, fun a ha b hb => by rw [List.mem_singleton] at hb; subst hb; exact fun e2 => e (e2 ▸ ha)⟩
  · intro s
    rw [hD, hpr]
    split
    · rename_i e; simp [e]
    · rename_i e; simp [e, h.dom]
  · intro s hs
    rcases (hD s).1 hs with rfl | hs
    · exact hxL
    · exact h.sub s hs
  · intro s q hs
    rw [hpr] at hs
    split at hs
    · obtain rfl := Option.some.inj hs
      cases ht : pr t with
      | none => have := hDl.2.2 ht; omega
      | some old =>
        have h5 := hold old ht
        have h6 := h.high t old ht
        have := hDl.2.1
        omega
    · have := h.high s q hs
      have := hDl.2.1
      omega
  · rw [hpr, if_neg hcst]; exact hp
  · rw [hq, if_neg hcst]; exact hcs
  · unfold bigP
    rw [hpr, if_pos rfl]
    simp only [Option.getD_some]
    cases ht : pr t with
    | none =>
      simp only [Option.getD_none]
      have h7 := h.few
      have h8 := hDl.2.2 ht
      have h9 := hDl.1
      omega
    | some old =>
      simp only [Option.getD_some]
      have := hold old ht
      omega
/-- a path to a goal: something waits whose key is no greater than the path's price -/
theorem AsI.wait (h : AsI ms s0 G hv L D pr pa Qk cs (fun _ => False)) (hadm : ∀ s l u n, PathW ms s l u n → G u = true → hv s ≤ n ∧ hv s < infA) {a u : Nat} {l : List Nat} {n : Int} (hw : PathW ms a l u n) : G u = true → ∀ p, pr a = some p → ∃ q k, Qk q = some k ∧ k ≤ p + 4096 * n + l.length := by
  induction hw with
  | @nil s =>
    intro hg p hp
    cases hq : Qk s with
    | none => rw [(h.done s p hp hq).1] at hg; cases hg
    | some k =>
      obtain ⟨p', h1, h2, _⟩ := h.key s k hq
      rw [hp] at h1
      obtain rfl := Option.some.inj h1
      have := (hadm s [] s 0 .nil hg).1
      exact ⟨s, k, hq, by simp only [List.length_nil]; omega⟩
  | @cons s t u op l c n hx hw ih =>
    intro hg p hp
    cases hq : Qk s with
    | none =>
      have hi := (hadm t l u n hw hg).2
      obtain ⟨pt, h1, h2⟩ := (h.done s p hp hq).2 _ hx (fun e => e.2) hi
      obtain ⟨q, k, h3, h4⟩ := ih hg pt h1
      unfold prc at h2
      simp only at h2
      exact ⟨q, k, h3, by simp only [List.length_cons]; omega⟩
    | some k =>
      obtain ⟨p', h1, h2, _⟩ := h.key s k hq
      rw [hp] at h1
      obtain rfl := Option.some.inj h1
      have := (hadm s _ u _ (.cons hx hw) hg).1
      exact ⟨s, k, hq, by simp only [List.length_cons]; omega⟩
/-- what the search answers -/
def BestOf (ms : List Mk) (s0 : Nat) (G : Nat → Bool) (l : List Nat) : Prop := ∃ u n, PathW ms s0 l u n ∧ G u = true ∧ ∀ l' u' n', PathW ms s0 l' u' n' → G u' = true → 4096 * n + l.length ≤ 4096 * n' + l'.length
def NoWay (ms : List Mk) (s0 : Nat) (G : Nat → Bool) : Prop := ∀ l u n, PathW ms s0 l u n → G u = true → False
theorem AsI.empty (h : AsI ms s0 G hv L D pr pa Qk cs (fun _ => False)) (hadm : ∀ s l u n, PathW ms s l u n → G u = true → hv s ≤ n ∧ hv s < infA) (hq : ∀ s, Qk s = none) : NoWay ms s0 G := fun l u n hw hg => by
  obtain ⟨q, k, h1, _⟩ := h.wait hadm hw hg 0 h.start
  rw [hq] at h1
  cases h1
theorem AsI.goal (h : AsI ms s0 G hv L D pr pa Qk cs (fun _ => False)) (hadm : ∀ s l u n, PathW ms s l u n → G u = true → hv s ≤ n ∧ hv s < infA) (hpos : ∀ s, 0 ≤ hv s) {g : Nat} {k p : Int} (hk : Qk g = some k) (hmin : ∀ y k', y ≠ g → Qk y = some k' → k ≤ k') (hg : G g = true) (hp : pr g = some p) {l : List Nat} {n : Int} (hw : PathW ms s0 l g n) (hpl : 4096 * n + l.length ≤ p) : BestOf ms s0 G l :=
  ⟨g, n, hw, hg, fun l' u' n' hw' hg' => by
    obtain ⟨q, k', h1, h2⟩ := h.wait hadm hw' hg' 0 h.start
    have h3 : k ≤ k' := by
      by_cases e : q = g
      · subst e; rw [hk] at h1; obtain rfl := Option.some.inj h1; exact Int.le_refl _
      · exact hmin q k' e h1
    obtain ⟨p', h4, h5, _⟩ := h.key g k hk
    rw [hp] at h4
    obtain rfl := Option.some.inj h4
    have := hpos g
    omega⟩
end
end Go.Proofs.YtemiecammmbjdaaGreat
namespace Go.Proofs.YtemiecammmbjdaaGreat
set_option linter.unusedVariables false
set_option linter.unusedSimpArgs false
/-- the operators, all free -/
def zc (ms : List Mk) : List Mk := ms.map fun m => { m with cost := 0 }
theorem zc_steps : ∀ (ms : List Mk) (i s : Nat), stepsW i (zc ms) s = (stepsW i ms s).map fun x => (x.1, 0, x.2.2)
  | [], i, s => rfl
  | m :: ms, i, s => by
    show stepsW i ({ m with cost := 0 } :: zc ms) s = _
    unfold stepsW
    have h1 : canW s { m with cost := 0 } = canW s m := rfl
    have h2 : goW s { m with cost := 0 } = goW s m := rfl
    rw [h1, h2, zc_steps ms (i + 1) s]
    cases canW s m <;> rfl
theorem zc_mem {ms : List Mk} {s : Nat} {x : Nat × Int × Nat} (h : x ∈ stepsW 0 ms s) : (x.1, (0 : Int), x.2.2) ∈ stepsW 0 (zc ms) s := by
  rw [zc_steps]
  exact List.mem_map.2 ⟨x, h, rfl⟩
theorem mem_zc {ms : List Mk} {s : Nat} {y : Nat × Int × Nat} (h : y ∈ stepsW 0 (zc ms) s) : ∃ x ∈ stepsW 0 ms s, y = (x.1, (0 : Int), x.2.2) := by
  rw [zc_steps] at h
  obtain ⟨x, h1, h2⟩ := List.mem_map.1 h
  exact ⟨x, h1, h2.symm⟩
theorem path_zc {ms : List Mk} {s u : Nat} {l : List Nat} {n : Int} (h : PathW ms s l u n) : PathW (zc ms) s l u 0 := by
  induction h with
  | nil => exact .nil
  | cons hx _ ih => exact .cons (c := 0) (zc_mem hx) ih
theorem zc_path {ms : List Mk} {s u : Nat} {l : List Nat} {n : Int} (h : PathW (zc ms) s l u n) : n = 0 ∧ ∃ n', PathW ms s l u n' := by
  induction h with
  | nil => exact ⟨rfl, 0, .nil⟩
  | cons hx _ ih =>
    obtain ⟨e, n', h1⟩ := ih
    obtain ⟨⟨op, c, t⟩, hy, e2⟩ := mem_zc hx
    injection e2 with e3 e4
    injection e4 with e4 e5
    subst e3 e4 e5 e
    exact ⟨rfl, _, .cons hy h1⟩
/-- the key of a state in the line -/
def keyL (pr : Nat → Option Int) (ln : List Nat) (s : Nat) : Option Int := if s ∈ ln then pr s else none
/-- the line: each once, the nearer ahead of the farther, none farther than a step from the last taken -/
structure LnI (pr : Nat → Option Int) (ln : List Nat) (p : Int) : Prop where
  nod : ln.Nodup
  known : ∀ s ∈ ln, ∃ x, pr s = some x ∧ p ≤ x
  rise : ln.Pairwise (fun a b => ∀ x y, pr a = some x → pr b = some y → x ≤ y)
  top : ∀ s x, pr s = some x → x ≤ p + 1
theorem LnI.begin (s0 : Nat) : LnI (fun s => if s = s0 then some 0 else none) [s0] 0 :=
  ⟨by simp, fun s hs => ⟨0, by rw [List.mem_singleton] at hs; simp [hs], Int.le_refl _⟩, by simp, fun s x h => by split at h <;> simp at h; omega⟩
theorem LnI.take {pr : Nat → Option Int} {s : Nat} {ln : List Nat} {p : Int} (h : LnI pr (s :: ln) p) : ∃ q, pr s = some q ∧ LnI pr ln q ∧ s ∉ ln ∧ ∀ y k, keyL pr (s :: ln) y = some k → q ≤ k := by
  obtain ⟨q, hq, hpq⟩ := h.known s List.mem_cons_self
  obtain ⟨n1, n2⟩ := List.nodup_cons.1 h.nod
  obtain ⟨r1, r2⟩ := List.pairwise_cons.1 h.rise
  refine ⟨q, hq, ⟨n2, fun y hy => ?_, r2, fun y x hx => by have := h.top y x hx; omega⟩, n1, fun y k hk => ?_⟩
  · obtain ⟨x, hx, _⟩ := h.known y (List.mem_cons_of_mem _ hy)
    exact ⟨x, hx, r1 y hy q x hq hx⟩
  · unfold keyL at hk
    split at hk
    · rename_i hm
      rcases List.mem_cons.1 hm with rfl | hm
      · rw [hq] at hk; injection hk with hk; omega
      · exact r1 y hm q k hq hk
    · cases hk
theorem keyL_take {pr : Nat → Option Int} {s : Nat} {ln : List Nat} (h : s ∉ ln) (y : Nat) : keyL pr ln y = if y = s then none else keyL pr (s :: ln) y := by
  unfold keyL
  by_cases e : y = s
  · subst e; rw [if_neg h, if_pos rfl]
  · rw [if_neg e]
    by_cases hm : y ∈ ln
    · rw [if_pos hm, if_pos (List.mem_cons_of_mem _ hm)]
    · rw [if_neg hm, if_neg (fun hm2 => by rcases List.mem_cons.1 hm2 with h | h; exact e h; exact hm h)]
theorem LnI.push {pr pr' : Nat → Option Int} {ln : List Nat} {p : Int} {t : Nat} (h : LnI pr ln p) (ht : pr t = none) (hpr : ∀ s, pr' s = if s = t then some (p + 1) else pr s) : LnI pr' (ln ++ [t]) p := by
  have hno : t ∉ ln := fun hm => by
    obtain ⟨x, hx, _⟩ := h.known t hm
    rw [ht] at hx
    cases hx
  have hold : ∀ s ∈ ln, pr' s = pr s := fun s hs => by rw [hpr, if_neg (fun e : s = t => hno (e ▸ hs))]
  refine ⟨?_, fun s hs => ?_, ?_, fun s x hx => ?_⟩
  · rw [List.nodup_append]
    exact ⟨h.nod, by simp, fun a ha b hb e => by rw [List.mem_singleton] at hb; subst hb; subst e; exact hno ha⟩
  · rcases List.mem_append.1 hs with hs | hs
    · obtain ⟨x, hx, hp⟩ := h.known s hs
      exact ⟨x, by rw [hold s hs]; exact hx, hp⟩
    · rw [List.mem_singleton] at hs
      subst hs
      exact ⟨p + 1, by rw [hpr, if_pos rfl], by omega⟩
  · rw [List.pairwise_append]
    refine ⟨h.rise.imp_of_mem (fun {a b} ha hb hab x y hx hy => ?_), by simp, fun a ha b hb x y hx hy => ?_⟩
    · rw [hold a ha] at hx
      rw [hold b hb] at hy
      exact hab x y hx hy
    · rw [List.mem_singleton] at hb
      subst hb
      rw [hold a ha] at hx
      rw [hpr, if_pos rfl] at hy
      injection hy with hy
      have := h.top a x hx
      omega
  · rw [hpr] at hx
    split at hx
    · injection hx with hx; omega
    · exact h.top s x hx
theorem keyL_push {pr pr' : Nat → Option Int} {ln : List Nat} {p : Int} {t : Nat} (ht : pr t = none) (hpr : ∀ s, pr' s = if s = t then some (p + 1) else pr s) (s : Nat) : keyL pr' (ln ++ [t]) s = if s = t then some (p + 1) else keyL pr ln s := by
  unfold keyL
  by_cases e : s = t
  · subst e
    rw [if_pos (List.mem_append_right _ (List.mem_singleton.2 rfl)), hpr, if_pos rfl, if_pos rfl]
  · rw [if_neg e, hpr, if_neg e]
    by_cases hm : s ∈ ln
    · rw [if_pos hm, if_pos (List.mem_append_left _ hm)]
    · rw [if_neg hm, if_neg (fun h2 => by rcases List.mem_append.1 h2 with h | h; exact hm h; exact e (List.mem_singleton.1 h))]
/-- what the search answers: a plan with the fewest steps -/
def FewestOf (ms : List Mk) (s0 : Nat) (G : Nat → Bool) (l : List Nat) : Prop := ∃ u n, PathW ms s0 l u n ∧ G u = true ∧ ∀ l' u' n', PathW ms s0 l' u' n' → G u' = true → l.length ≤ l'.length
theorem fewest_of {ms : List Mk} {s0 : Nat} {G : Nat → Bool} {l : List Nat} (h : BestOf (zc ms) s0 G l) : FewestOf ms s0 G l := by
  obtain ⟨u, n, h1, h2, h3⟩ := h
  obtain ⟨rfl, n', h4⟩ := zc_path h1
  refine ⟨u, n', h4, h2, fun l' u' m hp hg => ?_⟩
  have := h3 l' u' 0 (path_zc hp) hg
  omega
theorem noway_zc {ms : List Mk} {s0 : Nat} {G : Nat → Bool} (h : NoWay (zc ms) s0 G) : NoWay ms s0 G := fun l u n hw hg => h l u 0 (path_zc hw) hg
theorem adm_zc {ms : List Mk} {G : Nat → Bool} : ∀ s l u n, PathW (zc ms) s l u n → G u = true → (0 : Int) ≤ n ∧ (0 : Int) < infA := fun s l u n hw _ => by
  obtain ⟨rfl, _⟩ := zc_path hw
  exact ⟨Int.le_refl _, by unfold infA; omega⟩
end Go.Proofs.YtemiecammmbjdaaGreat
namespace Go.Proofs.YtemiecammmbjdaaGreat
def cmpI (a b : Int) : Int := if a < b then -1 else if b < a then 1 else 0
def cmpL : List Int → List Int → Int
  | [], [] => 0
  | [], _ :: _ => -1
  | _ :: _, [] => 1
  | a :: l, b :: m => if cmpI a b = 0 then cmpL l m else cmpI a b
def lessL : List Int → List Int → Bool
  | _, [] => false
  | [], _ :: _ => true
  | a :: l, b :: m => decide (a < b) || (decide (a = b) && lessL l m)
theorem cmpI_zero {a b : Int} : cmpI a b = 0 ↔ a = b := by
  unfold cmpI
  split
  · simp; omega
  · split <;> simp <;> omega
theorem cmpI_neg {a b : Int} : cmpI a b < 0 ↔ a < b := by
  unfold cmpI
  split
  · simp; omega
  · split <;> simp <;> omega
theorem cmpL_less : ∀ (a b : List Int), decide (cmpL a b < 0) = lessL a b := by
  intro a
  induction a with
  | nil => intro b; cases b <;> simp [cmpL, lessL]
  | cons x a ih =>
    intro b
    cases b with
    | nil => simp [cmpL, lessL]
    | cons y b =>
      unfold cmpL lessL
      by_cases h : x = y
      · have h0 := cmpI_zero.2 h
        rw [if_pos h0, ih]
        simp [h]
      · have h0 : ¬ cmpI x y = 0 := fun e => h (cmpI_zero.1 e)
        rw [if_neg h0]
        have := cmpI_neg (a := x) (b := y)
        simp [h, this]
theorem lessL_irrefl : ∀ a : List Int, lessL a a = false := by
  intro a
  induction a with
  | nil => rfl
  | cons x a ih => simp [lessL, ih]
theorem lessL_trans : ∀ a b c : List Int, lessL a b = true → lessL b c = true → lessL a c = true := by
  intro a
  induction a with
  | nil =>
    intro b c h1 h2
    cases c with
    | nil => cases b <;> simp [lessL] at h2
    | cons z c => rfl
  | cons x a ih =>
    intro b c h1 h2
    cases b with
    | nil => simp [lessL] at h1
    | cons y b =>
      cases c with
      | nil => simp [lessL] at h2
      | cons z c =>
        simp only [lessL, Bool.or_eq_true, Bool.and_eq_true, decide_eq_true_eq] at h1 h2 ⊢
        rcases h1 with h1 | ⟨h1, h1'⟩
        · rcases h2 with h2 | ⟨h2, h2'⟩
          · exact .inl (by omega)
          · exact .inl (by omega)
        · rcases h2 with h2 | ⟨h2, h2'⟩
          · exact .inl (by omega)
          · exact .inr ⟨by omega, ih b c h1' h2'⟩
/-- of two different lists one is less -/
theorem lessL_total : ∀ a b : List Int, a ≠ b → lessL a b = true ∨ lessL b a = true := by
  intro a
  induction a with
  | nil =>
    intro b h
    cases b with
    | nil => exact absurd rfl h
    | cons y b => exact .inl rfl
  | cons x a ih =>
    intro b h
    cases b with
    | nil => exact .inr rfl
    | cons y b =>
      simp only [lessL, Bool.or_eq_true, Bool.and_eq_true, decide_eq_true_eq]
      by_cases h1 : x = y
      · rcases ih b (fun e => h (by rw [h1, e])) with h2 | h2
        · exact .inl (.inr ⟨h1, h2⟩)
        · exact .inr (.inr ⟨h1.symm, h2⟩)
      · by_cases h2 : x < y
        · exact .inl (.inl h2)
        · exact .inr (.inl (by omega))
end Go.Proofs.YtemiecammmbjdaaGreat
namespace Go.Proofs.YtemiecammmbjdaaGreat
/-- too many: 2001 different words can be reached -/
def TooMany (T : Tsk) : Prop := ∃ m : List Nat, m.Nodup ∧ (∀ x ∈ m, Reach (stepW (T.ops.map mkOp)) (wordF T.init) x) ∧ m.length = 2001
end Go.Proofs.YtemiecammmbjdaaGreat
