/- What the law asks for, part 10: Hp1 Hp2 Hp3 Hz6 HpFin Hr1. -/
import Derived.Test.YtemiecammmbjdaaGreatL1
import Derived.Test.YtemiecammmbjdaaGreatL2
import Derived.Test.YtemiecammmbjdaaGreatL3
import Derived.Test.YtemiecammmbjdaaGreatL4
import Derived.Test.YtemiecammmbjdaaGreatL5
import Derived.Test.YtemiecammmbjdaaGreatL6
import Derived.Test.YtemiecammmbjdaaGreatL7
import Derived.Test.YtemiecammmbjdaaGreatL8
import Derived.Test.YtemiecammmbjdaaGreatL9
import Derived.BigQuiet
import Derived.Deep.AppendLies
import Derived.Deep.DeepCutAuto
import Derived.Deep.Draws
import Derived.Deep.Fields
import Derived.Deep.LoopGhost
import Derived.Deep.QuietTactic
import Derived.Deep.RegionHeld3
import Derived.Deep.Slices
import Derived.Ground.Names2Prog
import Derived.Ground.SlgnProg
import Derived.Ground.SlsfProg
import Derived.IntWalk
import Derived.Laws.AppendOwnNone
import Derived.Laws.OwnMore
import Derived.Lib.Hide
import Derived.Lib.SlicesCompact
import Derived.Maps.AppendAt
import Derived.Shelf.Slices.Cells
import Derived.Shelf.Slices.Clone
import Derived.Shelf.Slices.CompactI
import Derived.Shelf.Slices.Empties
import Derived.Shelf.Slices.In.SortNone
import Derived.Shelf.Slices.SearchI
import Derived.Shelf.Sort.Plain
import Derived.Sort.OwnSortedInts
import Derived.Test.YtemiecammmbjdaaGreatProg
import Derived.WalkKit
import Init
namespace Go.Proofs.YtemiecammmbjdaaGreat
set_option linter.unusedVariables false
set_option linter.unusedSimpArgs false
/-- the literal of the variable with index i -/
def litI (b : Bool) (i : Nat) : Int := if b = true then (i : Int) + 1 else -((i : Int) + 1)
theorem litI_var (b : Bool) (i : Nat) : litVar (litI b i) = (i : Int) + 1 := by
  unfold litI litVar
  cases b <;> simp <;> omega
theorem litI_fits {V : Int} {b : Bool} {i : Nat} (h : (i : Int) < V) : Fits V (litI b i) := by
  unfold litI Fits
  cases b <;> simp <;> omega
theorem litI_true {m : List Bool} {b : Bool} {i : Nat} : trueLit m (litI b i) = (m.getD i false == b) := by
  unfold trueLit
  rw [litI_var]
  have e1 : ((i : Int) + 1).toNat - 1 = i := by omega
  have e2 : decide (0 < litI b i) = b := by unfold litI; cases b <;> simp <;> omega
  rw [e1, e2]
def fidx (N t p : Nat) : Nat := t * N + p
def sidx (N S n t q : Nat) : Nat := (S + 1) * N + t * n + q
theorem factV_lit (N t p : Nat) : factV N t p = litI true (fidx N t p) := by
  unfold factV litI fidx
  rw [if_pos rfl, Int.natCast_add, Int.natCast_mul]
  omega
theorem factV_neg (N t p : Nat) : -(factV N t p) = litI false (fidx N t p) := by
  rw [factV_lit]
  unfold litI
  simp
theorem stepV_lit (N S n t q : Nat) : stepV N S n t q = litI true (sidx N S n t q) := by
  unfold stepV litI sidx
  rw [if_pos rfl, Int.natCast_add, Int.natCast_add, Int.natCast_mul, Int.natCast_mul, Int.natCast_add, show ((1 : Nat) : Int) = 1 from rfl]
  omega
theorem stepV_neg (N S n t q : Nat) : -(stepV N S n t q) = litI false (sidx N S n t q) := by
  rw [stepV_lit]
  unfold litI
  simp
/-- the number of variables -/
def sizeN (N S n : Nat) : Nat := (S + 1) * N + S * n
theorem sizeV_nat (N S n : Nat) : sizeV N S n = (sizeN N S n : Int) := by
  unfold sizeV sizeN
  rw [Int.natCast_add, Int.natCast_mul, Int.natCast_mul, Int.natCast_add]
  rfl
theorem fidx_low {N S t p : Nat} (ht : t ≤ S) (hp : p < N) : fidx N t p < (S + 1) * N := by
  unfold fidx
  have := Nat.mul_le_mul_right N ht
  rw [Nat.add_mul]
  omega
theorem fidx_next {N t p q : Nat} (hp : p < N) : fidx N t p < fidx N (t + 1) q := by
  unfold fidx
  rw [Nat.add_mul]
  omega
theorem sidx_low {N S n t q : Nat} (ht : t < S) (hq : q < n) : sidx N S n t q < sizeN N S n := by
  unfold sidx sizeN
  have := Nat.mul_le_mul_right n (show t + 1 ≤ S by omega)
  rw [Nat.add_mul] at this
  omega
theorem fidx_sidx {N S n t p t2 q : Nat} (ht : t ≤ S) (hp : p < N) : fidx N t p < sidx N S n t2 q := by
  have := fidx_low ht hp
  unfold sidx
  omega
theorem code_of {v : Int} : ∀ (c : List Int) (p : Option Int), (∀ x ∈ c, Fits v x) → c.Pairwise (fun x y => litVar x < litVar y) → (∀ y, p = some y → ∀ x ∈ c, litVar y < litVar x) → clauseCode v p c = 0 := by
  intro c
  induction c with
  | nil => intro p _ _ _; exact clauseCode_nil v p
  | cons x c ih =>
    intro p hf hp hy
    obtain ⟨h1, h2⟩ := List.pairwise_cons.1 hp
    have hx := hf x (List.mem_cons_self ..)
    have hb : ¬ (x = 0 ∨ x < -v ∨ v < x) := by unfold Fits at hx; omega
    have hn := ih (some x) (fun z hz => hf z (List.mem_cons_of_mem _ hz)) h2 (fun y e z hz => by injection e with e; subst e; exact h1 z hz)
    cases p with
    | none => rw [clauseCode_first _ hb]; exact hn
    | some y => rw [clauseCode_next _ hb (by have := hy y rfl x (List.mem_cons_self ..); omega)]; exact hn
/-- a list of literals in the order of their variables -/
theorem code_lits {V : Nat} {l : List (Bool × Nat)} (h1 : ∀ x ∈ l, x.2 < V) (h2 : l.Pairwise (fun x y => x.2 < y.2)) : clauseCode V none (l.map fun x => litI x.1 x.2) = 0 := by
  refine code_of _ _ (fun x hx => ?_) ?_ (fun y e => by cases e)
  · obtain ⟨z, hz, rfl⟩ := List.mem_map.1 hx
    exact litI_fits (by have := h1 z hz; omega)
  · rw [List.pairwise_map]
    exact h2.imp fun {a b} hab => by rw [litI_var, litI_var]; omega
theorem code1 {V i : Nat} {b : Bool} (h : i < V) : clauseCode V none [litI b i] = 0 :=
  code_lits (l := [(b, i)]) (fun x hx => by rw [List.mem_singleton] at hx; subst hx; exact h) (List.pairwise_singleton _ _)
theorem code2 {V i j : Nat} {b c : Bool} (h : j < V) (hij : i < j) : clauseCode V none [litI b i, litI c j] = 0 :=
  code_lits (l := [(b, i), (c, j)]) (fun x hx => by
    rcases List.mem_cons.1 hx with rfl | hx
    · show i < V; omega
    · rw [List.mem_singleton] at hx; subst hx; exact h) (List.pairwise_cons.2 ⟨fun x hx => by rw [List.mem_singleton] at hx; subst hx; exact hij, List.pairwise_singleton _ _⟩)
section
variable {T : Tsk} {N S : Nat}
theorem set_nat {l : List Int} (h : setB N l = true) {x : Int} (hx : x ∈ l) : ∃ p : Nat, x = (p : Int) ∧ p < N := by
  have := (setB_iff.1 h).2 x hx
  exact ⟨x.toNat, by omega, by omega⟩
def addI (N S t : Nat) (f : Nat → Bool) (n : Nat) : List (Bool × Nat) := ((List.range n).filter f).map fun j => (true, sidx N S n t j)
theorem addI_map {t : Nat} (f : Nat → Bool) (n : Nat) : (addI N S t f n).map (fun x => litI x.1 x.2) = ((List.range n).filter f).map fun j => stepV N S n t j := by
  unfold addI
  rw [List.map_map]
  apply List.map_congr_left
  intro j _
  exact (stepV_lit N S n t j).symm
theorem addI_ok {t : Nat} (ht : t < S) (f : Nat → Bool) (n : Nat) : (∀ x ∈ addI N S t f n, x.2 < sizeN N S n) ∧ (addI N S t f n).Pairwise (fun x y => x.2 < y.2) ∧ ∀ x ∈ addI N S t f n, ∃ j, j < n ∧ f j = true ∧ x = (true, sidx N S n t j) := by
  have hm : ∀ x ∈ addI N S t f n, ∃ j, j < n ∧ f j = true ∧ x = (true, sidx N S n t j) := fun x hx => by
    obtain ⟨j, hj, rfl⟩ := List.mem_map.1 hx
    obtain ⟨h1, h2⟩ := List.mem_filter.1 hj
    exact ⟨j, List.mem_range.1 h1, h2, rfl⟩
  refine ⟨fun x hx => ?_, ?_, hm⟩
  · obtain ⟨j, hj, _, rfl⟩ := hm x hx
    exact sidx_low ht hj
  · unfold addI
    rw [List.pairwise_map]
    exact (List.pairwise_lt_range.sublist List.filter_sublist).imp fun {a b} hab => by show sidx N S n t a < sidx N S n t b; unfold sidx; omega
/-- every clause is one of these -/
inductive EncK (T : Tsk) (N S : Nat) : List Int → Prop
  | init (p : Nat) (hp : p < N) : EncK T N S [litI (subsetB [(p : Int)] T.init) (fidx N 0 p)]
  | goal (p : Nat) (hp : p < N) (hg : (p : Int) ∈ T.goal) : EncK T N S [litI true (fidx N S p)]
  | two (t j q : Nat) (ht : t < S) (hj : j < q) (hq : q < T.ops.length) : EncK T N S [litI false (sidx N S T.ops.length t j), litI false (sidx N S T.ops.length t q)]
  | pre (t p q : Nat) (ht : t < S) (hp : p < N) (hq : q < T.ops.length) (h : (p : Int) ∈ (opAt T.ops q).pre) : EncK T N S [litI true (fidx N t p), litI false (sidx N S T.ops.length t q)]
  | add (t p q : Nat) (ht : t < S) (hp : p < N) (hq : q < T.ops.length) (h : (p : Int) ∈ (opAt T.ops q).add) : EncK T N S [litI true (fidx N (t + 1) p), litI false (sidx N S T.ops.length t q)]
  | del (t p q : Nat) (ht : t < S) (hp : p < N) (hq : q < T.ops.length) (h : (p : Int) ∈ (opAt T.ops q).del) : EncK T N S [litI false (fidx N (t + 1) p), litI false (sidx N S T.ops.length t q)]
  | keepA (t p : Nat) (ht : t < S) (hp : p < N) : EncK T N S (litI true (fidx N t p) :: litI false (fidx N (t + 1) p) :: (addI N S t (fun j => hasB (opAt T.ops (j : Int)).add (p : Int)) T.ops.length).map fun x => litI x.1 x.2)
  | keepD (t p : Nat) (ht : t < S) (hp : p < N) : EncK T N S (litI false (fidx N t p) :: litI true (fidx N (t + 1) p) :: (addI N S t (fun j => hasB (opAt T.ops (j : Int)).del (p : Int)) T.ops.length).map fun x => litI x.1 x.2)
theorem enc_iff (hok : OkT T N) {c : List Int} : c ∈ encC T N S ↔ EncK T N S c := by
  have hopn : ∀ q : Nat, q < T.ops.length → OkOp N (opAt T.ops (q : Int)) := fun q hq => hok.ops _ (opAt_mem (by omega) (by omega))
  unfold encC
  rw [List.mem_append, List.mem_append]
  constructor
  · rintro ((h | h) | h)
    · unfold initC at h
      obtain ⟨p, hp, rfl⟩ := List.mem_map.1 h
      have hp := List.mem_range.1 hp
      have := EncK.init (T := T) (N := N) (S := S) p hp
      cases hb : subsetB [(p : Int)] T.init
      · rw [hb] at this
        rw [if_neg (by simp), factV_neg]
        exact this
      · rw [hb] at this
        rw [if_pos rfl, factV_lit]
        exact this
    · unfold goalC at h
      obtain ⟨x, hx, rfl⟩ := List.mem_map.1 h
      obtain ⟨p, rfl, hp⟩ := set_nat hok.goal hx
      rw [Int.toNat_natCast, factV_lit]
      exact .goal p hp hx
    · unfold timeC at h
      obtain ⟨t, ht, h⟩ := List.mem_flatMap.1 h
      have ht := List.mem_range.1 ht
      unfold atC at h
      rcases List.mem_append.1 h with h | h
      · unfold atOps at h
        obtain ⟨q, hq, h⟩ := List.mem_flatMap.1 h
        have hq := List.mem_range.1 hq
        have hop := hopn q hq
        unfold opC at h
        rw [List.mem_append, List.mem_append, List.mem_append] at h
        rcases h with ((h | h) | h) | h
        · unfold opC1 at h
          obtain ⟨j, hj, rfl⟩ := List.mem_map.1 h
          rw [stepV_neg, stepV_neg]
          exact .two t j q ht (List.mem_range.1 hj) hq
        · unfold opC2 at h
          obtain ⟨x, hx, rfl⟩ := List.mem_map.1 h
          obtain ⟨p, rfl, hp⟩ := set_nat hop.pre hx
          rw [Int.toNat_natCast, factV_lit, stepV_neg]
          exact .pre t p q ht hp hq hx
        · unfold opCA at h
          obtain ⟨x, hx, rfl⟩ := List.mem_map.1 h
          obtain ⟨p, rfl, hp⟩ := set_nat hop.add hx
          rw [Int.toNat_natCast, factV_lit, stepV_neg]
          exact .add t p q ht hp hq hx
        · unfold opCD at h
          obtain ⟨x, hx, rfl⟩ := List.mem_map.1 h
          obtain ⟨p, rfl, hp⟩ := set_nat hop.del hx
          rw [Int.toNat_natCast, factV_neg, stepV_neg]
          exact .del t p q ht hp hq hx
      · unfold atFr at h
        obtain ⟨p, hp, h⟩ := List.mem_flatMap.1 h
        have hp := List.mem_range.1 hp
        simp only [List.mem_cons, List.not_mem_nil, or_false] at h
        rcases h with rfl | rfl
        · have := EncK.keepA (T := T) (S := S) t p ht hp
          rw [addI_map] at this
          rw [factV_lit, factV_neg]
          exact this
        · have := EncK.keepD (T := T) (S := S) t p ht hp
          rw [addI_map] at this
          rw [factV_neg, factV_lit]
          exact this
  · intro h
    have inT : ∀ t, t < S → c ∈ atC N S t T.ops → ((c ∈ initC N T.init N ∨ c ∈ goalC N S T.goal) ∨ c ∈ timeC N S T.ops S) := fun t ht hc => .inr (by unfold timeC; exact List.mem_flatMap.2 ⟨t, List.mem_range.2 ht, hc⟩)
    have inO : ∀ t q, q < T.ops.length → c ∈ opC N S T.ops.length t q (opAt T.ops (q : Int)) → c ∈ atC N S t T.ops := fun t q hq hc => by
      unfold atC atOps
      exact List.mem_append_left _ (List.mem_flatMap.2 ⟨q, List.mem_range.2 hq, hc⟩)
    cases h with
    | init p hp =>
      refine .inl (.inl ?_)
      unfold initC
      refine List.mem_map.2 ⟨p, List.mem_range.2 hp, ?_⟩
      cases hb : subsetB [(p : Int)] T.init
      · rw [if_neg (by simp), factV_neg]
      · rw [if_pos rfl, factV_lit]
    | goal p hp hg =>
      refine .inl (.inr ?_)
      unfold goalC
      exact List.mem_map.2 ⟨p, hg, by rw [Int.toNat_natCast, factV_lit]⟩
    | two t j q ht hj hq =>
      refine inT t ht (inO t q hq ?_)
      unfold opC opC1
      rw [List.mem_append, List.mem_append, List.mem_append]
      exact .inl (.inl (.inl (List.mem_map.2 ⟨j, List.mem_range.2 hj, by rw [stepV_neg, stepV_neg]⟩)))
    | pre t p q ht hp hq hx =>
      refine inT t ht (inO t q hq ?_)
      unfold opC opC2
      rw [List.mem_append, List.mem_append, List.mem_append]
      exact .inl (.inl (.inr (List.mem_map.2 ⟨p, hx, by rw [Int.toNat_natCast, factV_lit, stepV_neg]⟩)))
    | add t p q ht hp hq hx =>
      refine inT t ht (inO t q hq ?_)
      unfold opC opCA
      rw [List.mem_append, List.mem_append, List.mem_append]
      exact .inl (.inr (List.mem_map.2 ⟨p, hx, by rw [Int.toNat_natCast, factV_lit, stepV_neg]⟩))
    | del t p q ht hp hq hx =>
      refine inT t ht (inO t q hq ?_)
      unfold opC opCD
      rw [List.mem_append, List.mem_append, List.mem_append]
      exact .inr (List.mem_map.2 ⟨p, hx, by rw [Int.toNat_natCast, factV_neg, stepV_neg]⟩)
    | keepA t p ht hp =>
      refine inT t ht ?_
      unfold atC atFr
      refine List.mem_append_right _ (List.mem_flatMap.2 ⟨p, List.mem_range.2 hp, ?_⟩)
      rw [addI_map, ← factV_lit, ← factV_neg]
      exact List.mem_cons_self ..
    | keepD t p ht hp =>
      refine inT t ht ?_
      unfold atC atFr
      refine List.mem_append_right _ (List.mem_flatMap.2 ⟨p, List.mem_range.2 hp, ?_⟩)
      rw [addI_map, ← factV_lit, ← factV_neg]
      exact List.mem_cons_of_mem _ (List.mem_cons_self ..)
theorem enc_code (hok : OkT T N) {c : List Int} (h : c ∈ encC T N S) : clauseCode (sizeN N S T.ops.length : Nat) none c = 0 := by
  have f0 : ∀ t p, t ≤ S → p < N → fidx N t p < sizeN N S T.ops.length := fun t p h1 h2 => Nat.lt_of_lt_of_le (fidx_low h1 h2) (by unfold sizeN; omega)
  cases (enc_iff hok).1 h with
  | init p hp => exact code1 (f0 0 p (Nat.zero_le _) hp)
  | goal p hp hg => exact code1 (f0 S p (Nat.le_refl _) hp)
  | two t j q ht hj hq => exact code2 (sidx_low ht hq) (by unfold sidx; omega)
  | pre t p q ht hp hq hx => exact code2 (sidx_low ht hq) (fidx_sidx (by omega) hp)
  | add t p q ht hp hq hx => exact code2 (sidx_low ht hq) (fidx_sidx (by omega) hp)
  | del t p q ht hp hq hx => exact code2 (sidx_low ht hq) (fidx_sidx (by omega) hp)
  | keepA t p ht hp =>
    obtain ⟨h1, h2, h3⟩ := addI_ok (N := N) ht (fun j => hasB (opAt T.ops (j : Int)).add (p : Int)) T.ops.length
    refine code_lits (l := (true, fidx N t p) :: (false, fidx N (t + 1) p) :: addI N S t (fun j => hasB (opAt T.ops (j : Int)).add (p : Int)) T.ops.length) ?_ ?_
    · intro x hx
      rcases List.mem_cons.1 hx with rfl | hx
      · exact f0 t p (by omega) hp
      · rcases List.mem_cons.1 hx with rfl | hx
        · exact f0 (t + 1) p (by omega) hp
        · exact h1 x hx
    · refine List.pairwise_cons.2 ⟨fun x hx => ?_, List.pairwise_cons.2 ⟨fun x hx => ?_, h2⟩⟩
      · rcases List.mem_cons.1 hx with rfl | hx
        · exact fidx_next hp
        · obtain ⟨j, _, _, rfl⟩ := h3 x hx
          exact fidx_sidx (by omega) hp
      · obtain ⟨j, _, _, rfl⟩ := h3 x hx
        exact fidx_sidx (by omega) hp
  | keepD t p ht hp =>
    obtain ⟨h1, h2, h3⟩ := addI_ok (N := N) ht (fun j => hasB (opAt T.ops (j : Int)).del (p : Int)) T.ops.length
    refine code_lits (l := (false, fidx N t p) :: (true, fidx N (t + 1) p) :: addI N S t (fun j => hasB (opAt T.ops (j : Int)).del (p : Int)) T.ops.length) ?_ ?_
    · intro x hx
      rcases List.mem_cons.1 hx with rfl | hx
      · exact f0 t p (by omega) hp
      · rcases List.mem_cons.1 hx with rfl | hx
        · exact f0 (t + 1) p (by omega) hp
        · exact h1 x hx
    · refine List.pairwise_cons.2 ⟨fun x hx => ?_, List.pairwise_cons.2 ⟨fun x hx => ?_, h2⟩⟩
      · rcases List.mem_cons.1 hx with rfl | hx
        · exact fidx_next hp
        · obtain ⟨j, _, _, rfl⟩ := h3 x hx
          exact fidx_sidx (by omega) hp
      · obtain ⟨j, _, _, rfl⟩ := h3 x hx
        exact fidx_sidx (by omega) hp
end
end Go.Proofs.YtemiecammmbjdaaGreat
namespace Go.Proofs.YtemiecammmbjdaaGreat
set_option linter.unusedVariables false
set_option linter.unusedSimpArgs false
theorem len_fact : ∀ S < 5, ∀ N < 25, ∀ n < 21, (S + 1) * N + S * n ≤ 80 → 4 * N + S * (n * (n - 1) + 4 * (n * N) + 4 * N) ≤ 3000 := by decide +kernel
theorem enc_len {T : Tsk} {N S : Nat} (hok : OkT T N) (hS : S ≤ 4) (hn : T.ops.length ≤ 20) (hV : sizeN N S T.ops.length ≤ 80) : (encC T N S).length ≤ 1500 := by
  have h1 := timeC_len (S := S) hok S
  have h2 := len_fact S (by omega) N (by have := hok.low; omega) T.ops.length (by omega) hV
  have h3 := setB_len hok.goal
  unfold encC
  rw [List.length_append, List.length_append]
  have e1 : (initC N T.init N).length = N := by unfold initC; simp
  have e2 : (goalC N S T.goal).length = T.goal.length := by unfold goalC; simp
  omega
/-- the values of a fact and of a step -/
def fv (N : Nat) (m : List Bool) (t p : Nat) : Bool := m.getD (fidx N t p) false
def sv (N S n : Nat) (m : List Bool) (t q : Nat) : Bool := m.getD (sidx N S n t q) false
structure SatT (T : Tsk) (N S : Nat) (m : List Bool) (t : Nat) : Prop where
  two : ∀ j q, j < q → q < T.ops.length → ¬ (sv N S T.ops.length m t j = true ∧ sv N S T.ops.length m t q = true)
  pre : ∀ p q, p < N → q < T.ops.length → (p : Int) ∈ (opAt T.ops (q : Int)).pre → sv N S T.ops.length m t q = true → fv N m t p = true
  add : ∀ p q, p < N → q < T.ops.length → (p : Int) ∈ (opAt T.ops (q : Int)).add → sv N S T.ops.length m t q = true → fv N m (t + 1) p = true
  del : ∀ p q, p < N → q < T.ops.length → (p : Int) ∈ (opAt T.ops (q : Int)).del → sv N S T.ops.length m t q = true → fv N m (t + 1) p = false
  keepA : ∀ p, p < N → fv N m t p = true ∨ fv N m (t + 1) p = false ∨ ∃ q, q < T.ops.length ∧ (p : Int) ∈ (opAt T.ops (q : Int)).add ∧ sv N S T.ops.length m t q = true
  keepD : ∀ p, p < N → fv N m t p = false ∨ fv N m (t + 1) p = true ∨ ∃ q, q < T.ops.length ∧ (p : Int) ∈ (opAt T.ops (q : Int)).del ∧ sv N S T.ops.length m t q = true
structure Sat (T : Tsk) (N S : Nat) (m : List Bool) : Prop where
  init : ∀ p, p < N → fv N m 0 p = subsetB [(p : Int)] T.init
  goal : ∀ p, p < N → (p : Int) ∈ T.goal → fv N m S p = true
  time : ∀ t, t < S → SatT T N S m t
theorem any_addI {N S t n : Nat} {f : Nat → Bool} {m : List Bool} : ((addI N S t f n).map fun x => litI x.1 x.2).any (trueLit m) = true ↔ ∃ q, q < n ∧ f q = true ∧ sv N S n m t q = true := by
  rw [List.any_eq_true]
  unfold addI
  constructor
  · rintro ⟨x, hx, ht⟩
    rw [List.map_map] at hx
    obtain ⟨j, hj, rfl⟩ := List.mem_map.1 hx
    obtain ⟨h1, h2⟩ := List.mem_filter.1 hj
    refine ⟨j, List.mem_range.1 h1, h2, ?_⟩
    have ht : trueLit m (litI true (sidx N S n t j)) = true := ht
    rw [litI_true] at ht
    simpa [sv] using ht
  · rintro ⟨q, h1, h2, h3⟩
    refine ⟨litI true (sidx N S n t q), ?_, ?_⟩
    · rw [List.map_map]
      exact List.mem_map.2 ⟨q, List.mem_filter.2 ⟨List.mem_range.2 h1, h2⟩, rfl⟩
    · rw [litI_true]
      simpa [sv] using h3
theorem true_iff {T : Tsk} {N S : Nat} {m : List Bool} (hok : OkT T N) : trueAll (encC T N S) m = true ↔ Sat T N S m := by
  have hall : trueAll (encC T N S) m = true ↔ ∀ c, EncK T N S c → c.any (trueLit m) = true := by
    unfold trueAll
    rw [List.all_eq_true]
    exact ⟨fun h c hc => h c ((enc_iff hok).2 hc), fun h c hc => h c ((enc_iff hok).1 hc)⟩
  rw [hall]
  have one : ∀ b i, [litI b i].any (trueLit m) = true ↔ m.getD i false = b := fun b i => by
    rw [List.any_cons, List.any_nil, Bool.or_false, litI_true]
    simp
  have two : ∀ b i c j, [litI b i, litI c j].any (trueLit m) = true ↔ m.getD i false = b ∨ m.getD j false = c := fun b i c j => by
    rw [List.any_cons, List.any_cons, List.any_nil, Bool.or_false, litI_true, litI_true]
    simp
  constructor
  · intro h
    refine ⟨fun p hp => (one _ _).1 (h _ (.init p hp)), fun p hp hg => (one _ _).1 (h _ (.goal p hp hg)), fun t ht => ⟨fun j q hj hq => ?_, fun p q hp hq hx => ?_, fun p q hp hq hx => ?_, fun p q hp hq hx => ?_, fun p hp => ?_, fun p hp => ?_⟩⟩
    · rintro ⟨e1, e2⟩
      unfold sv at e1 e2
      rcases (two _ _ _ _).1 (h _ (.two t j q ht hj hq)) with e | e
      · rw [e] at e1; cases e1
      · rw [e] at e2; cases e2
    · intro e
      unfold sv at e
      rcases (two _ _ _ _).1 (h _ (.pre t p q ht hp hq hx)) with e2 | e2
      · exact e2
      · rw [e2] at e; cases e
    · intro e
      unfold sv at e
      rcases (two _ _ _ _).1 (h _ (.add t p q ht hp hq hx)) with e2 | e2
      · exact e2
      · rw [e2] at e; cases e
    · intro e
      unfold sv at e
      rcases (two _ _ _ _).1 (h _ (.del t p q ht hp hq hx)) with e2 | e2
      · exact e2
      · rw [e2] at e; cases e
    · have := h _ (.keepA t p ht hp)
      rw [List.any_cons, List.any_cons, litI_true, litI_true, Bool.or_eq_true, Bool.or_eq_true, any_addI] at this
      rcases this with e | e | ⟨q, h1, h2, h3⟩
      · exact .inl (by simpa [fv] using e)
      · exact .inr (.inl (by simpa [fv] using e))
      · exact .inr (.inr ⟨q, h1, hasB_iff.1 h2, h3⟩)
    · have := h _ (.keepD t p ht hp)
      rw [List.any_cons, List.any_cons, litI_true, litI_true, Bool.or_eq_true, Bool.or_eq_true, any_addI] at this
      rcases this with e | e | ⟨q, h1, h2, h3⟩
      · exact .inl (by simpa [fv] using e)
      · exact .inr (.inl (by simpa [fv] using e))
      · exact .inr (.inr ⟨q, h1, hasB_iff.1 h2, h3⟩)
  · intro h c hc
    cases hc with
    | init p hp => exact (one _ _).2 (h.init p hp)
    | goal p hp hg => exact (one _ _).2 (h.goal p hp hg)
    | two t j q ht hj hq =>
      refine (two _ _ _ _).2 ?_
      have := (h.time t ht).two j q hj hq
      unfold sv at this
      cases e1 : m.getD (sidx N S T.ops.length t j) false
      · exact .inl rfl
      · cases e2 : m.getD (sidx N S T.ops.length t q) false
        · exact .inr rfl
        · exact absurd ⟨e1, e2⟩ this
    | pre t p q ht hp hq hx =>
      refine (two _ _ _ _).2 ?_
      have := (h.time t ht).pre p q hp hq hx
      unfold sv fv at this
      cases e1 : m.getD (sidx N S T.ops.length t q) false
      · exact .inr rfl
      · exact .inl (this e1)
    | add t p q ht hp hq hx =>
      refine (two _ _ _ _).2 ?_
      have := (h.time t ht).add p q hp hq hx
      unfold sv fv at this
      cases e1 : m.getD (sidx N S T.ops.length t q) false
      · exact .inr rfl
      · exact .inl (this e1)
    | del t p q ht hp hq hx =>
      refine (two _ _ _ _).2 ?_
      have := (h.time t ht).del p q hp hq hx
      unfold sv fv at this
      cases e1 : m.getD (sidx N S T.ops.length t q) false
      · exact .inr rfl
      · exact .inl (this e1)
    | keepA t p ht hp =>
      rw [List.any_cons, List.any_cons, litI_true, litI_true, Bool.or_eq_true, Bool.or_eq_true, any_addI]
      rcases (h.time t ht).keepA p hp with e | e | ⟨q, h1, h2, h3⟩
      · exact .inl (by simpa [fv] using e)
      · exact .inr (.inl (by simpa [fv] using e))
      · exact .inr (.inr ⟨q, h1, hasB_iff.2 h2, h3⟩)
    | keepD t p ht hp =>
      rw [List.any_cons, List.any_cons, litI_true, litI_true, Bool.or_eq_true, Bool.or_eq_true, any_addI]
      rcases (h.time t ht).keepD p hp with e | e | ⟨q, h1, h2, h3⟩
      · exact .inl (by simpa [fv] using e)
      · exact .inr (.inl (by simpa [fv] using e))
      · exact .inr (.inr ⟨q, h1, hasB_iff.2 h2, h3⟩)
/-- the numbers below n for which f holds -/
def pick (n : Nat) (f : Nat → Bool) : List Int := ((List.range n).filter f).map fun j : Nat => (j : Int)
theorem pick_mem {n : Nat} {f : Nat → Bool} {x : Int} : x ∈ pick n f ↔ ∃ p : Nat, p < n ∧ f p = true ∧ x = (p : Int) := by
  unfold pick
  rw [List.mem_map]
  constructor
  · rintro ⟨p, hp, rfl⟩
    obtain ⟨h1, h2⟩ := List.mem_filter.1 hp
    exact ⟨p, List.mem_range.1 h1, h2, rfl⟩
  · rintro ⟨p, h1, h2, rfl⟩
    exact ⟨p, List.mem_filter.2 ⟨List.mem_range.2 h1, h2⟩, rfl⟩
theorem pick_nat {n : Nat} {f : Nat → Bool} {p : Nat} : (p : Int) ∈ pick n f ↔ p < n ∧ f p = true := by
  rw [pick_mem]
  constructor
  · rintro ⟨q, h1, h2, h3⟩
    obtain rfl : p = q := by omega
    exact ⟨h1, h2⟩
  · rintro ⟨h1, h2⟩
    exact ⟨p, h1, h2, rfl⟩
theorem pick_up (n : Nat) (f : Nat → Bool) : (pick n f).Pairwise (· < ·) := by
  unfold pick
  rw [List.pairwise_map]
  exact (List.pairwise_lt_range.sublist List.filter_sublist).imp fun {a b} h => by omega
theorem pick_set (n : Nat) (f : Nat → Bool) : setB n (pick n f) = true := setB_iff.2 ⟨pick_up n f, fun x hx => by
  obtain ⟨p, h1, _, rfl⟩ := pick_mem.1 hx
  omega⟩
theorem pick_succ (n : Nat) (f : Nat → Bool) : pick (n + 1) f = pick n f ++ (if f n = true then [(n : Int)] else []) := by
  unfold pick
  rw [List.range_succ, List.filter_append, List.map_append, List.filter_cons, List.filter_nil]
  split <;> rfl
/-- a state of an assignment; the operators of a time; a state behind an operator, fact by fact -/
def stF (N : Nat) (m : List Bool) (t : Nat) : List Int := pick N (fv N m t)
def exeF (N S n : Nat) (m : List Bool) (t : Nat) : List Int := pick n (sv N S n m t)
def afterF (N : Nat) (o : Opr) (s : List Int) : List Int := pick N fun p => hasB o.add (p : Int) || (hasB s (p : Int) && !hasB o.del (p : Int))
theorem after_upd {N : Nat} {o : Opr} (ho : OkOp N o) {s : List Int} (hs : setB N s = true) : afterF N o s = updF s o.add o.del := by
  refine up_ext (pick_up _ _) (updF_up _ _ _) fun x => ?_
  rw [updF_mem]
  unfold afterF
  rw [pick_mem]
  constructor
  · rintro ⟨p, h1, h2, rfl⟩
    rw [Bool.or_eq_true, Bool.and_eq_true, hasB_iff, hasB_iff, Bool.not_eq_true', ← Bool.not_eq_true, hasB_iff] at h2
    rcases h2 with h | h
    · exact .inr h
    · exact .inl h
  · intro h
    have hx : 0 ≤ x ∧ x < N := by
      rcases h with h | h
      · exact (setB_iff.1 hs).2 x h.1
      · exact (setB_iff.1 ho.add).2 x h
    refine ⟨x.toNat, by omega, ?_, by omega⟩
    rw [show ((x.toNat : Nat) : Int) = x by omega, Bool.or_eq_true, Bool.and_eq_true, hasB_iff, hasB_iff, Bool.not_eq_true', ← Bool.not_eq_true, hasB_iff]
    rcases h with h | h
    · exact .inr h
    · exact .inl h
def stepR (T : Tsk) (N S : Nat) (m : List Bool) (t : Nat) : Bool := match exeF N S T.ops.length m t with
  | [] => intsB (stF N m (t + 1)) (stF N m t)
  | [q] => subsetB (opAt T.ops q).pre (stF N m t) && intsB (stF N m (t + 1)) (afterF N (opAt T.ops q) (stF N m t))
  | _ :: _ :: _ => false
/-- what Describes answers -/
def descR (T : Tsk) (N S : Nat) (m : List Bool) : Bool := intsB (stF N m 0) T.init && subsetB T.goal (stF N m S) && (List.range S).all (stepR T N S m)
theorem intsB_iff {a b : List Int} : intsB a b = true ↔ a = b := by simp [intsB]
theorem pick_ext {n : Nat} {f : Nat → Bool} {l : List Int} (hl : setB n l = true) : pick n f = l ↔ ∀ p, p < n → (f p = true ↔ (p : Int) ∈ l) := by
  constructor
  · rintro rfl p hp
    rw [pick_nat]
    exact ⟨fun h => ⟨hp, h⟩, fun h => h.2⟩
  · intro h
    refine up_ext (pick_up _ _) (setB_iff.1 hl).1 fun x => ?_
    constructor
    · intro hx
      obtain ⟨p, h1, h2, rfl⟩ := pick_mem.1 hx
      exact (h p h1).1 h2
    · intro hx
      have := (setB_iff.1 hl).2 x hx
      obtain ⟨p, rfl⟩ : ∃ p : Nat, x = (p : Int) := ⟨x.toNat, by omega⟩
      exact pick_nat.2 ⟨by omega, (h p (by omega)).2 hx⟩
theorem step_law {T : Tsk} {N S : Nat} {m : List Bool} (hok : OkT T N) (t : Nat) : SatT T N S m t ↔ stepR T N S m t = true := by
  have hop : ∀ q : Nat, q < T.ops.length → OkOp N (opAt T.ops (q : Int)) := fun q hq => hok.ops _ (opAt_mem (by omega) (by omega))
  have hex : ∀ q : Nat, (q : Int) ∈ exeF N S T.ops.length m t ↔ q < T.ops.length ∧ sv N S T.ops.length m t q = true := fun q => pick_nat
  have hst : ∀ (t p : Nat), (p : Int) ∈ stF N m t ↔ p < N ∧ fv N m t p = true := fun t p => pick_nat
  have hup := pick_up T.ops.length (sv N S T.ops.length m t)
  unfold stepR
  cases he : exeF N S T.ops.length m t with
  | nil =>
    have hno : ∀ q, q < T.ops.length → sv N S T.ops.length m t q = false := fun q hq => by
      cases hs : sv N S T.ops.length m t q
      · rfl
      · have := (hex q).2 ⟨hq, hs⟩
        rw [he] at this
        cases this
    show _ ↔ intsB (stF N m (t + 1)) (stF N m t) = true
    rw [intsB_iff]
    unfold stF
    rw [pick_ext (pick_set _ _)]
    constructor
    · intro h p hp
      rw [pick_nat]
      constructor
      · intro e
        refine ⟨hp, ?_⟩
        rcases h.keepA p hp with e2 | e2 | ⟨q, hq, _, e2⟩
        · exact e2
        · rw [e] at e2; cases e2
        · rw [hno q hq] at e2; cases e2
      · rintro ⟨_, e⟩
        rcases h.keepD p hp with e2 | e2 | ⟨q, hq, _, e2⟩
        · rw [e] at e2; cases e2
        · exact e2
        · rw [hno q hq] at e2; cases e2
    · intro h
      have h' : ∀ p, p < N → fv N m (t + 1) p = fv N m t p := fun p hp => by
        have := h p hp
        rw [pick_nat] at this
        rw [Bool.eq_iff_iff]
        exact ⟨fun e => (this.1 e).2, fun e => this.2 ⟨hp, e⟩⟩
      refine ⟨fun j q hj hq e => ?_, fun p q hp hq _ e => ?_, fun p q hp hq _ e => ?_, fun p q hp hq _ e => ?_, fun p hp => ?_, fun p hp => ?_⟩
      · rw [hno q hq] at e; cases e.2
      · rw [hno q hq] at e; cases e
      · rw [hno q hq] at e; cases e
      · rw [hno q hq] at e; cases e
      · rw [h' p hp]
        cases fv N m t p <;> simp
      · rw [h' p hp]
        cases fv N m t p <;> simp
  | cons x r =>
    cases r with
    | nil =>
      have hxm : x ∈ exeF N S T.ops.length m t := by rw [he]; exact List.mem_cons_self ..
      obtain ⟨q, hq, hsq, rfl⟩ := pick_mem.1 hxm
      have hone : ∀ j, j < T.ops.length → (sv N S T.ops.length m t j = true ↔ j = q) := fun j hj => by
        constructor
        · intro e
          have := (hex j).2 ⟨hj, e⟩
          rw [he] at this
          simp at this
          omega
        · rintro rfl
          exact hsq
      have ho := hop q hq
      show _ ↔ (subsetB (opAt T.ops (q : Int)).pre (stF N m t) && intsB (stF N m (t + 1)) (afterF N (opAt T.ops (q : Int)) (stF N m t))) = true
      rw [Bool.and_eq_true, intsB_iff, subsetB_iff]
      have haf : stF N m (t + 1) = afterF N (opAt T.ops (q : Int)) (stF N m t) ↔ ∀ p : Nat, p < N → (fv N m (t + 1) p = true ↔ ((p : Int) ∈ (opAt T.ops (q : Int)).add ∨ (fv N m t p = true ∧ ¬ (p : Int) ∈ (opAt T.ops (q : Int)).del))) := by
        unfold stF afterF
        rw [pick_ext (pick_set _ _)]
        constructor
        · intro h p hp
          rw [h p hp, pick_nat, Bool.or_eq_true, Bool.and_eq_true, hasB_iff, hasB_iff, Bool.not_eq_true', ← Bool.not_eq_true, hasB_iff, pick_nat]
          exact ⟨fun e => e.2.imp id (fun e => ⟨e.1.2, e.2⟩), fun e => ⟨hp, e.imp id (fun e => ⟨⟨hp, e.1⟩, e.2⟩)⟩⟩
        · intro h p hp
          rw [h p hp, pick_nat, Bool.or_eq_true, Bool.and_eq_true, hasB_iff, hasB_iff, Bool.not_eq_true', ← Bool.not_eq_true, hasB_iff, pick_nat]
          exact ⟨fun e => ⟨hp, e.imp id (fun e => ⟨⟨hp, e.1⟩, e.2⟩)⟩, fun e => e.2.imp id (fun e => ⟨e.1.2, e.2⟩)⟩
      rw [haf]
      constructor
      · intro h
        refine ⟨fun x hx => ?_, fun p hp => ⟨fun e => ?_, fun e => ?_⟩⟩
        · obtain ⟨p, rfl, hp⟩ := set_nat ho.pre hx
          exact (hst t p).2 ⟨hp, h.pre p q hp hq hx hsq⟩
        · by_cases ha : (p : Int) ∈ (opAt T.ops (q : Int)).add
          · exact .inl ha
          · refine .inr ⟨?_, fun hd => ?_⟩
            · rcases h.keepA p hp with e2 | e2 | ⟨j, hj, h2, h3⟩
              · exact e2
              · rw [e] at e2; cases e2
              · obtain rfl := (hone j hj).1 h3
                exact absurd h2 ha
            · have := h.del p q hp hq hd hsq
              rw [e] at this
              cases this
        · rcases e with e | ⟨e, hd⟩
          · exact h.add p q hp hq e hsq
          · rcases h.keepD p hp with e2 | e2 | ⟨j, hj, h2, h3⟩
            · rw [e] at e2; cases e2
            · exact e2
            · obtain rfl := (hone j hj).1 h3
              exact absurd h2 hd
      · rintro ⟨h1, h2⟩
        refine ⟨fun j k hj hk e => ?_, fun p j hp hj hx e => ?_, fun p j hp hj hx e => ?_, fun p j hp hj hx e => ?_, fun p hp => ?_, fun p hp => ?_⟩
        · have e1 := (hone j (by omega)).1 e.1
          have e2 := (hone k hk).1 e.2
          omega
        · obtain rfl := (hone j hj).1 e
          exact ((hst t p).1 (h1 _ hx)).2
        · obtain rfl := (hone j hj).1 e
          exact (h2 p hp).2 (.inl hx)
        · obtain rfl := (hone j hj).1 e
          cases hf : fv N m (t + 1) p
          · rfl
          · rcases (h2 p hp).1 hf with e2 | e2
            · exact absurd ⟨e2, hx⟩ (apart_mem ho.apart _)
            · exact absurd hx e2.2
        · cases hf : fv N m (t + 1) p
          · exact .inr (.inl rfl)
          · rcases (h2 p hp).1 hf with e2 | e2
            · exact .inr (.inr ⟨q, hq, e2, hsq⟩)
            · exact .inl e2.1
        · by_cases hd : (p : Int) ∈ (opAt T.ops (q : Int)).del
          · exact .inr (.inr ⟨q, hq, hd, hsq⟩)
          · cases hf : fv N m t p
            · exact .inl rfl
            · exact .inr (.inl ((h2 p hp).2 (.inr ⟨hf, hd⟩)))
    | cons y r =>
      show _ ↔ false = true
      refine ⟨fun h => ?_, fun h => by cases h⟩
      have hxm : x ∈ exeF N S T.ops.length m t := by rw [he]; exact List.mem_cons_self ..
      have hym : y ∈ exeF N S T.ops.length m t := by rw [he]; exact List.mem_cons_of_mem _ (List.mem_cons_self ..)
      obtain ⟨j, hj, hsj, rfl⟩ := pick_mem.1 hxm
      obtain ⟨q, hq, hsq, rfl⟩ := pick_mem.1 hym
      have hup' : (exeF N S T.ops.length m t).Pairwise (· < ·) := hup
      rw [he] at hup'
      have := (List.pairwise_cons.1 hup').1 _ (List.mem_cons_self ..)
      exact absurd ⟨hsj, hsq⟩ (h.two j q (by omega) hq)
/-- THE LAW OF ENCODINGS -/
theorem desc_law {T : Tsk} {N S : Nat} {m : List Bool} (hok : OkT T N) : trueAll (encC T N S) m = descR T N S m := by
  rw [Bool.eq_iff_iff, true_iff hok]
  unfold descR
  rw [Bool.and_eq_true, Bool.and_eq_true, intsB_iff, subsetB_iff, List.all_eq_true]
  have hi : stF N m 0 = T.init ↔ ∀ p, p < N → fv N m 0 p = subsetB [(p : Int)] T.init := by
    unfold stF
    rw [pick_ext hok.init]
    constructor
    · intro h p hp
      rw [Bool.eq_iff_iff, h p hp, subsetB_iff]
      simp
    · intro h p hp
      rw [h p hp, subsetB_iff]
      simp
  rw [hi]
  constructor
  · intro h
    refine ⟨⟨h.init, fun x hx => ?_⟩, fun t ht => (step_law hok t).1 (h.time t (List.mem_range.1 ht))⟩
    obtain ⟨p, rfl, hp⟩ := set_nat hok.goal hx
    exact pick_nat.2 ⟨hp, h.goal p hp hx⟩
  · rintro ⟨⟨h1, h2⟩, h3⟩
    exact ⟨h1, fun p hp hg => (pick_nat.1 (h2 _ hg)).2, fun t ht => (step_law hok t).2 (h3 t (List.mem_range.2 ht))⟩
end Go.Proofs.YtemiecammmbjdaaGreat
namespace Go.Proofs.YtemiecammmbjdaaGreat
set_option linter.unusedVariables false
set_option linter.unusedSimpArgs false
/-- the operators of all times -/
def wantF (N S n : Nat) (m : List Bool) (k : Nat) : List Int := (List.range k).flatMap fun t => exeF N S n m t
theorem wantF_succ (N S n : Nat) (m : List Bool) (k : Nat) : wantF N S n m (k + 1) = wantF N S n m k ++ exeF N S n m k := by
  unfold wantF
  rw [List.range_succ, List.flatMap_append]
  simp
theorem wantF_range {N S n : Nat} {m : List Bool} {k : Nat} : ∀ x ∈ wantF N S n m k, 0 ≤ x ∧ x < n := fun x hx => by
  unfold wantF at hx
  obtain ⟨t, _, h⟩ := List.mem_flatMap.1 hx
  obtain ⟨p, hp, _, rfl⟩ := pick_mem.1 h
  omega
theorem desc_exec {T : Tsk} {N S : Nat} {m : List Bool} (hok : OkT T N) (h : descR T N S m = true) : ∀ k, k ≤ S → execO T.init ((wantF N S T.ops.length m k).map (opAt T.ops)) = some (stF N m k) ∧ (wantF N S T.ops.length m k).length ≤ k := by
  unfold descR at h
  rw [Bool.and_eq_true, Bool.and_eq_true, intsB_iff, List.all_eq_true] at h
  obtain ⟨⟨h1, h2⟩, h3⟩ := h
  intro k
  induction k with
  | zero => intro _; simp [wantF, execO, h1]
  | succ k ih =>
    intro hk
    obtain ⟨e1, e2⟩ := ih (by omega)
    have hs := h3 k (List.mem_range.2 (by omega))
    unfold stepR at hs
    rw [wantF_succ, List.map_append, execO_append, e1]
    cases he : exeF N S T.ops.length m k with
    | nil =>
      rw [he] at hs
      have hs : intsB (stF N m (k + 1)) (stF N m k) = true := hs
      rw [intsB_iff] at hs
      refine ⟨by rw [hs]; rfl, by rw [List.append_nil]; omega⟩
    | cons x r =>
      cases r with
      | nil =>
        rw [he] at hs
        have hs : (subsetB (opAt T.ops x).pre (stF N m k) && intsB (stF N m (k + 1)) (afterF N (opAt T.ops x) (stF N m k))) = true := hs
        rw [Bool.and_eq_true, intsB_iff] at hs
        have hx : x ∈ exeF N S T.ops.length m k := by rw [he]; exact List.mem_cons_self ..
        obtain ⟨q, hq, _, rfl⟩ := pick_mem.1 hx
        have hop := hok.ops _ (opAt_mem (x := (q : Int)) (by omega) (by omega))
        refine ⟨?_, by rw [List.length_append]; simp only [List.length_cons, List.length_nil]; omega⟩
        show execO (stF N m k) [opAt T.ops (q : Int)] = _
        unfold execO
        rw [if_pos hs.1, hs.2, after_upd hop (show setB N (stF N m k) = true from pick_set _ _)]
        rfl
      | cons y r =>
        rw [he] at hs
        cases hs
theorem desc_solves {T : Tsk} {N S : Nat} {m : List Bool} (hok : OkT T N) (h : descR T N S m = true) : worksF T T.init (wantF N S T.ops.length m S) = true ∧ (wantF N S T.ops.length m S).length ≤ S := by
  obtain ⟨h1, h2⟩ := desc_exec hok h S (Nat.le_refl _)
  unfold descR at h
  rw [Bool.and_eq_true, Bool.and_eq_true] at h
  refine ⟨?_, h2⟩
  unfold worksF
  rw [h1]
  exact h.1.2
/-- the state at a time of a plan's execution -/
def stAt (T : Tsk) (N S : Nat) (l : List Int) : Nat → List Int
  | 0 => T.init
  | k + 1 => if k < l.length ∧ k < S then afterF N (opAt T.ops (l.getD k 0)) (stAt T N S l k) else stAt T N S l k
/-- the places that are marked -/
def marksF (T : Tsk) (N S : Nat) (l : List Int) : Nat → List Nat
  | 0 => []
  | k + 1 => marksF T N S l k ++ (stAt T N S l k).map (fun x => fidx N k x.toNat) ++ (if k < l.length ∧ k < S then [sidx N S T.ops.length k (l.getD k 0).toNat] else [])
/-- V places, those of ms true -/
def markB (V : Nat) (ms : List Nat) : List Bool := (List.range V).map fun i => decide (i ∈ ms)
theorem markB_len (V : Nat) (ms : List Nat) : (markB V ms).length = V := by unfold markB; simp
theorem markB_at {V : Nat} {ms : List Nat} {i : Nat} (h : i < V) : (markB V ms)[i]? = some (decide (i ∈ ms)) := by
  unfold markB
  rw [List.getElem?_map, List.getElem?_range h]
  rfl
theorem markB_get {V : Nat} {ms : List Nat} {i : Nat} (h : i < V) : (markB V ms).getD i false = decide (i ∈ ms) := by
  rw [List.getD_eq_getElem?_getD, markB_at h]
  rfl
def writtenF (T : Tsk) (N S : Nat) (l : List Int) : List Bool := markB (sizeN N S T.ops.length) (marksF T N S l (S + 1))
section
variable {T : Tsk} {N S : Nat} {l : List Int}
theorem getD_mem {k : Nat} (h : k < l.length) : l.getD k 0 ∈ l := by
  rw [List.getD_eq_getElem?_getD, List.getElem?_eq_getElem h]
  exact List.getElem_mem _
theorem stAt_set (hok : OkT T N) (k : Nat) : setB N (stAt T N S l k) = true := by
  induction k with
  | zero => exact hok.init
  | succ k ih =>
    unfold stAt
    split
    · exact pick_set _ _
    · exact ih
theorem marks_mem (hok : OkT T N) {j : Nat} : ∀ k, j ∈ marksF T N S l k ↔ ∃ t, t < k ∧ ((∃ p : Nat, (p : Int) ∈ stAt T N S l t ∧ j = fidx N t p) ∨ (t < l.length ∧ t < S ∧ j = sidx N S T.ops.length t (l.getD t 0).toNat)) := by
  intro k
  induction k with
  | zero => simp [marksF]
  | succ k ih =>
    unfold marksF
    rw [List.mem_append, List.mem_append, ih, List.mem_map]
    constructor
    · rintro ((⟨t, ht, h⟩ | ⟨x, hx, rfl⟩) | h)
      · exact ⟨t, by omega, h⟩
      · obtain ⟨p, rfl, _⟩ := set_nat (stAt_set hok k) hx
        exact ⟨k, by omega, .inl ⟨p, hx, by rw [Int.toNat_natCast]⟩⟩
      · split at h
        · rename_i hc
          rw [List.mem_singleton] at h
          exact ⟨k, by omega, .inr ⟨hc.1, hc.2, h⟩⟩
        · cases h
    · rintro ⟨t, ht, h⟩
      rcases Nat.lt_or_ge t k with h1 | h1
      · exact .inl (.inl ⟨t, h1, h⟩)
      · obtain rfl : t = k := by omega
        rcases h with ⟨p, hp, rfl⟩ | ⟨h2, h3, rfl⟩
        · exact .inl (.inr ⟨(p : Int), hp, by rw [Int.toNat_natCast]⟩)
        · refine .inr ?_
          rw [if_pos ⟨h2, h3⟩]
          exact List.mem_cons_self ..
theorem written_fv (hok : OkT T N) {t p : Nat} (ht : t ≤ S) (hp : p < N) : fv N (writtenF T N S l) t p = true ↔ (p : Int) ∈ stAt T N S l t := by
  unfold fv writtenF
  rw [markB_get (Nat.lt_of_lt_of_le (fidx_low ht hp) (by unfold sizeN; omega)), decide_eq_true_iff, marks_mem hok]
  constructor
  · rintro ⟨t2, ht2, ⟨p2, hp2, e⟩ | ⟨h1, h2, e⟩⟩
    · obtain ⟨_, e2, hpN⟩ := set_nat (stAt_set hok t2) hp2
      have hpN : p2 < N := by omega
      have : t = t2 ∧ p = p2 := by
        unfold fidx at e
        rcases Nat.lt_trichotomy t t2 with h | h | h
        · have := Nat.mul_le_mul_right N (show t + 1 ≤ t2 by omega)
          rw [Nat.add_mul] at this
          omega
        · subst h; omega
        · have := Nat.mul_le_mul_right N (show t2 + 1 ≤ t by omega)
          rw [Nat.add_mul] at this
          omega
      obtain ⟨rfl, rfl⟩ := this
      exact hp2
    · have := fidx_sidx (n := T.ops.length) (t2 := t2) (q := (l.getD t2 0).toNat) ht hp
      omega
  · intro h
    exact ⟨t, by omega, .inl ⟨p, h, rfl⟩⟩
theorem written_sv (hok : OkT T N) (hr : ∀ x ∈ l, 0 ≤ x ∧ x < T.ops.length) {t q : Nat} (ht : t < S) (hq : q < T.ops.length) : sv N S T.ops.length (writtenF T N S l) t q = true ↔ (t < l.length ∧ l.getD t 0 = (q : Int)) := by
  unfold sv writtenF
  rw [markB_get (sidx_low ht hq), decide_eq_true_iff, marks_mem hok]
  constructor
  · rintro ⟨t2, ht2, ⟨p2, hp2, e⟩ | ⟨h1, h2, e⟩⟩
    · obtain ⟨p3, e2, hpN⟩ := set_nat (stAt_set hok t2) hp2
      have := fidx_sidx (N := N) (S := S) (n := T.ops.length) (t2 := t) (q := q) (show t2 ≤ S by omega) (show p2 < N by omega)
      omega
    · have h3 := hr _ (getD_mem h1)
      unfold sidx at e
      have h4 : (l.getD t2 0).toNat < T.ops.length := by omega
      obtain ⟨z, hz⟩ : ∃ z, z = (l.getD t2 0).toNat := ⟨_, rfl⟩
      rw [← hz] at e h4
      have : t = t2 ∧ q = z := by
        rcases Nat.lt_trichotomy t t2 with h | h | h
        · have := Nat.mul_le_mul_right T.ops.length (show t + 1 ≤ t2 by omega)
          rw [Nat.add_mul] at this
          omega
        · subst h; omega
        · have := Nat.mul_le_mul_right T.ops.length (show t2 + 1 ≤ t by omega)
          rw [Nat.add_mul] at this
          omega
      obtain ⟨rfl, rfl⟩ := this
      exact ⟨h1, by omega⟩
  · rintro ⟨h1, h2⟩
    exact ⟨t, by omega, .inr ⟨h1, ht, by rw [h2, Int.toNat_natCast]⟩⟩
theorem stAt_exec (hok : OkT T N) (hr : ∀ x ∈ l, 0 ≤ x ∧ x < T.ops.length) (hS : l.length ≤ S) {r : List Int} (h : execO T.init (l.map (opAt T.ops)) = some r) : ∀ k, k ≤ l.length → execO T.init ((l.take k).map (opAt T.ops)) = some (stAt T N S l k) ∧ (k < l.length → subsetB (opAt T.ops (l.getD k 0)).pre (stAt T N S l k) = true) := by
  have hpre : ∀ k, k < l.length → ∀ s, execO T.init ((l.take k).map (opAt T.ops)) = some s → subsetB (opAt T.ops (l.getD k 0)).pre s = true := fun k hk s hs => by
    have e : l = l.take k ++ l.getD k 0 :: l.drop (k + 1) := by
      have h2 := drop_cons (List.getElem?_eq_getElem hk)
      rw [List.getD_eq_getElem?_getD, List.getElem?_eq_getElem hk, Option.getD_some, ← h2, List.take_append_drop]
    rw [e, List.map_append, execO_append, hs, List.map_cons] at h
    have h : execO s (opAt T.ops (l.getD k 0) :: (l.drop (k + 1)).map (opAt T.ops)) = some r := h
    unfold execO at h
    split at h
    · rename_i hp; exact hp
    · cases h
  intro k
  induction k with
  | zero =>
    intro _
    refine ⟨rfl, fun hk => hpre 0 hk _ rfl⟩
  | succ k ih =>
    intro hk
    obtain ⟨e1, e2⟩ := ih (by omega)
    have hp := e2 (by omega)
    have e3 : execO T.init ((l.take (k + 1)).map (opAt T.ops)) = some (stAt T N S l (k + 1)) := by
      have hx : l[k]? = some (l.getD k 0) := by rw [List.getD_eq_getElem?_getD, List.getElem?_eq_getElem (show k < l.length by omega)]; rfl
      have hxr := hr _ (List.mem_of_getElem? hx)
      rw [List.take_add_one, hx, List.map_append, execO_append, e1]
      show execO (stAt T N S l k) [opAt T.ops (l.getD k 0)] = _
      unfold execO
      rw [if_pos hp]
      conv => rhs; unfold stAt
      rw [if_pos (by omega), after_upd (hok.ops _ (opAt_mem hxr.1 hxr.2)) (stAt_set hok k)]
      rfl
    exact ⟨e3, fun hk2 => hpre _ hk2 _ e3⟩
theorem stAt_end (hS : l.length ≤ S) : ∀ k, l.length ≤ k → stAt T N S l k = stAt T N S l l.length := by
  intro k
  induction k with
  | zero => intro h; rw [show l.length = 0 by omega]
  | succ k ih =>
    intro h
    by_cases e : l.length = k + 1
    · rw [e]
    · rw [← ih (by omega)]
      conv => lhs; unfold stAt
      rw [if_neg (by omega)]
/-- the assignment of a plan that solves the task makes the encoding true -/
theorem written_true (hok : OkT T N) (hr : ∀ x ∈ l, 0 ≤ x ∧ x < T.ops.length) (hS : l.length ≤ S) (h : worksF T T.init l = true) : trueAll (encC T N S) (writtenF T N S l) = true := by
  unfold worksF at h
  cases he : execO T.init (l.map (opAt T.ops)) with
  | none => rw [he] at h; cases h
  | some r =>
    rw [he] at h
    have hg : subsetB T.goal r = true := h
    have hst := stAt_exec hok hr hS he
    have hend : stAt T N S l S = r := by
      rw [stAt_end hS S hS]
      have := (hst l.length (Nat.le_refl _)).1
      rw [List.take_length, he] at this
      exact (Option.some.inj this).symm
    have hfv : ∀ t p, t ≤ S → p < N → (fv N (writtenF T N S l) t p = true ↔ (p : Int) ∈ stAt T N S l t) := fun t p ht hp => written_fv hok ht hp
    have hsv : ∀ t q, t < S → q < T.ops.length → (sv N S T.ops.length (writtenF T N S l) t q = true ↔ (t < l.length ∧ l.getD t 0 = (q : Int))) := fun t q ht hq => written_sv hok hr ht hq
    have hnf : ∀ t p, t ≤ S → p < N → (fv N (writtenF T N S l) t p = false ↔ ¬ (p : Int) ∈ stAt T N S l t) := fun t p ht hp => by
      rw [← hfv t p ht hp, Bool.not_eq_true]
    have hnext : ∀ t, t < S → stAt T N S l (t + 1) = if t < l.length then afterF N (opAt T.ops (l.getD t 0)) (stAt T N S l t) else stAt T N S l t := fun t ht => by
      conv => lhs; unfold stAt
      by_cases e : t < l.length
      · rw [if_pos ⟨e, ht⟩, if_pos e]
      · rw [if_neg (fun h => e h.1), if_neg e]
    have haf : ∀ t p, t < S → p < N → t < l.length → ((p : Int) ∈ stAt T N S l (t + 1) ↔ ((p : Int) ∈ (opAt T.ops (l.getD t 0)).add ∨ ((p : Int) ∈ stAt T N S l t ∧ ¬ (p : Int) ∈ (opAt T.ops (l.getD t 0)).del))) := fun t p ht hp hl => by
      rw [hnext t ht, if_pos hl]
      unfold afterF
      rw [pick_nat, Bool.or_eq_true, Bool.and_eq_true, hasB_iff, hasB_iff, Bool.not_eq_true', ← Bool.not_eq_true, hasB_iff]
      exact ⟨fun e => e.2, fun e => ⟨hp, e⟩⟩
    refine (true_iff hok).2 ⟨fun p hp => ?_, fun p hp hgp => ?_, fun t ht => ⟨fun j q hj hq e => ?_, fun p q hp hq hx e => ?_, fun p q hp hq hx e => ?_, fun p q hp hq hx e => ?_, fun p hp => ?_, fun p hp => ?_⟩⟩
    · rw [Bool.eq_iff_iff, hfv 0 p (by omega) hp, subsetB_iff]
      simp [stAt]
    · rw [hfv S p (Nat.le_refl _) hp, hend]
      exact subsetB_iff.1 hg _ hgp
    · have e1 := (hsv t j ht (by omega)).1 e.1
      have e2 := (hsv t q ht hq).1 e.2
      omega
    · obtain ⟨e1, e2⟩ := (hsv t q ht hq).1 e
      have := (hst t (by omega)).2 e1
      rw [e2] at this
      exact (hfv t p (by omega) hp).2 (subsetB_iff.1 this _ hx)
    · obtain ⟨e1, e2⟩ := (hsv t q ht hq).1 e
      rw [hfv (t + 1) p (by omega) hp, haf t p ht hp e1, e2]
      exact .inl hx
    · obtain ⟨e1, e2⟩ := (hsv t q ht hq).1 e
      rw [hnf (t + 1) p (by omega) hp, haf t p ht hp e1, e2]
      have ho := hok.ops _ (opAt_mem (os := T.ops) (x := (q : Int)) (by omega) (by omega))
      rintro (h1 | h1)
      · exact apart_mem ho.apart _ ⟨h1, hx⟩
      · exact h1.2 hx
    · by_cases hl : t < l.length
      · by_cases hp1 : (p : Int) ∈ stAt T N S l (t + 1)
        · rcases (haf t p ht hp hl).1 hp1 with h1 | h1
          · have hxr := hr _ (getD_mem hl)
            obtain ⟨q, hq⟩ : ∃ q : Nat, l.getD t 0 = (q : Int) := ⟨(l.getD t 0).toNat, by omega⟩
            exact .inr (.inr ⟨q, by omega, by rw [← hq]; exact h1, (hsv t q ht (by omega)).2 ⟨hl, hq⟩⟩)
          · exact .inl ((hfv t p (by omega) hp).2 h1.1)
        · exact .inr (.inl ((hnf (t + 1) p (by omega) hp).2 hp1))
      · by_cases hp1 : (p : Int) ∈ stAt T N S l t
        · exact .inl ((hfv t p (by omega) hp).2 hp1)
        · exact .inr (.inl ((hnf (t + 1) p (by omega) hp).2 (by rw [hnext t ht, if_neg hl]; exact hp1)))
    · by_cases hl : t < l.length
      · by_cases hp1 : (p : Int) ∈ stAt T N S l t
        · by_cases hd : (p : Int) ∈ (opAt T.ops (l.getD t 0)).del
          · have hxr := hr _ (getD_mem hl)
            obtain ⟨q, hq⟩ : ∃ q : Nat, l.getD t 0 = (q : Int) := ⟨(l.getD t 0).toNat, by omega⟩
            exact .inr (.inr ⟨q, by omega, by rw [← hq]; exact hd, (hsv t q ht (by omega)).2 ⟨hl, hq⟩⟩)
          · exact .inr (.inl ((hfv (t + 1) p (by omega) hp).2 ((haf t p ht hp hl).2 (.inr ⟨hp1, hd⟩))))
        · exact .inl ((hnf t p (by omega) hp).2 hp1)
      · by_cases hp1 : (p : Int) ∈ stAt T N S l t
        · exact .inr (.inl ((hfv (t + 1) p (by omega) hp).2 (by rw [hnext t ht, if_neg hl]; exact hp1)))
        · exact .inl ((hnf t p (by omega) hp).2 hp1)
end
end Go.Proofs.YtemiecammmbjdaaGreat
namespace Go.Proofs.YtemiecammmbjdaaGreat
set_option linter.unusedVariables false
set_option linter.unusedSimpArgs false
open Go.RowKit
theorem wantF_len (N S n : Nat) (m : List Bool) (k : Nat) : (wantF N S n m k).length ≤ k * n := by
  induction k with
  | zero => simp [wantF]
  | succ k ih =>
    have h1 : (exeF N S n m k).length ≤ n := by
      unfold exeF pick
      rw [List.length_map]
      exact Nat.le_trans (List.length_filter_le _ _) (by simp)
    rw [wantF_succ, List.length_append, Nat.add_mul]
    omega
set_option maxRecDepth 100000 in
set_option maxHeartbeats 6400000 in
theorem decode_ct (a : TA) (T : Tsk) (N S : Nat) (M : Option Addr) (mn mc : Nat) (m : List Bool) (w : World) (hf : T.facts = N) (hm : Rd Enc.bool w M mn mc m) (hN : N ≤ 24) (hS : S ≤ 4) (hn : a.nO ≤ 40) (hl : mn = sizeN N S a.nO) :
    Calls Tryz.prog 20 #[.agg #[.int .i64 T.facts, .slice a.I a.nI a.cI, .slice a.G a.nG a.cG, .slice a.O a.nO a.cO], .int .i64 S, .slice M mn mc] w (MadeI w (wantF N S a.nO m S)) := by
  obtain ⟨i1, hi1, hy0, hy1, hy2⟩ := info_parts intInfoT
  have hst := fun t q w h1 h2 h3 h4 h5 => step_ct a N S t q w h1 h2 h3 h4 h5
  obtain ⟨I, nI, cI, G, nG, cG, O, nO, cO⟩ := a
  simp only at hn hl hst ⊢
  rw [hf]
  have Hm := hide hm
  have hml := hm.low
  have Hst := hide hst
  have Hl := hide hl
  clear hm hst hl
  have Hbl := hide (Below.refl w.heap.size w)
  go_enter Tryz.func20, Tryz.ntmps20
  go_upto_region 1 with (fail)
  obtain ⟨B0, hB0⟩ : ∃ B0, B0 = w.heap.size := ⟨_, rfl⟩
  have HB0 := hide hB0
  clear hB0
  have s_0 : B0 ≤ w.heap.size := Nat.le_trans (Nat.le_of_eq HB0.out) Hbl.out.size
  have hyt := Blk.new (w) 25 [.int .i64 N, .slice I nI cI, .slice G nG cG, .slice O nO cO]
  have hbW : Below (w).heap.size (w) ((w).alloc (.cells #[.int .i64 N, .slice I nI cI, .slice G nG cG, .slice O nO cO] 25)) := (Below.refl _ _).alloc (Nat.le_refl _) _
  obtain ⟨w0, hW⟩ : ∃ W, W = (w).alloc (.cells #[.int .i64 N, .slice I nI cI, .slice G nG cG, .slice O nO cO] 25) := ⟨_, rfl⟩
  rw [← hW] at hyt hbW ⊢
  replace Hbl := hide (Hbl.out.trans (hbW.mono Hbl.out.size))
  have Ht := hide hyt
  clear hW hbW hyt
  generalize w.heap.size = gT at Ht s_0 ⊢
  have t0 := Ht.out.cell 0
  have t1 := Ht.out.cell 1
  have t2 := Ht.out.cell 2
  have t3 := Ht.out.cell 3
  have tl := Ht.out.lt
  simp only [List.getElem?_cons_zero, List.getElem?_cons_succ] at t0 t1 t2 t3
  have a_t : B0 ≤ gT := by omega
  clear s_0
  go_upto_region 2 with (fail)
  have n_t_e : ¬ gT = w0.heap.size := by omega
  have n_e_t : ¬ w0.heap.size = gT := by omega
  have s_t : gT < w0.heap.size := tl
  have s_0 : B0 ≤ w0.heap.size := Nat.le_trans (Nat.le_of_eq HB0.out) Hbl.out.size
  have hye := Blk.new (w0) 85 [.int .i64 N, .slice I nI cI, .slice G nG cG, .slice O nO cO, .int .i64 S]
  have hbW : Below (w0).heap.size (w0) ((w0).alloc (.cells #[.int .i64 N, .slice I nI cI, .slice G nG cG, .slice O nO cO, .int .i64 S] 85)) := (Below.refl _ _).alloc (Nat.le_refl _) _
  obtain ⟨w1, hW⟩ : ∃ W, W = (w0).alloc (.cells #[.int .i64 N, .slice I nI cI, .slice G nG cG, .slice O nO cO, .int .i64 S] 85) := ⟨_, rfl⟩
  rw [← hW] at hye hbW ⊢
  replace Ht := hide (Ht.out.keep hbW)
  replace Hbl := hide (Hbl.out.trans (hbW.mono Hbl.out.size))
  have He := hide hye
  clear hW hbW hye
  generalize w0.heap.size = gE at He n_t_e n_e_t s_t s_0 ⊢
  have t0 := Ht.out.cell 0
  have t1 := Ht.out.cell 1
  have t2 := Ht.out.cell 2
  have t3 := Ht.out.cell 3
  have tl := Ht.out.lt
  have e0 := He.out.cell 0
  have e1 := He.out.cell 1
  have e2 := He.out.cell 2
  have e3 := He.out.cell 3
  have e4 := He.out.cell 4
  have el := He.out.lt
  simp only [List.getElem?_cons_zero, List.getElem?_cons_succ] at t0 t1 t2 t3 e0 e1 e2 e3 e4
  clear s_t
  have a_e : B0 ≤ gE := by omega
  clear s_0
  have hsz1 : w.heap.size ≤ w1.heap.size := Hbl.out.size
  go_wp2_with fail
  clear t0 t1 t2 t3 e0 e1 e2 e3 e4 tl el
  go_loopw [8, 15] (fun ov i wr => ∃ (k : Nat) (D : Option Addr) (q dc : Nat) (us : List Value), k ≤ S ∧ i = .int .i64 k ∧ ov = .slice D q dc ∧ OwnE Enc.int 3 w1.heap.size (fun b => w1.heap.size ≤ b) wr D q dc us (wantF N S nO m k) ∧ Below w1.heap.size w1 wr) (fun _ i _ => S - (intOf i).toNat)
  case atStart => exact ⟨0, none, 0, 0, [], by omega, rfl, rfl, OwnE.nil _ _ _ _ _, Below.refl _ _⟩
  case round =>
    obtain ⟨w2, rfl⟩ : ∃ V, V = wr := ⟨_, rfl⟩
    obtain ⟨k, D, q, dc, us, hk, rfl, rfl, hrow, hb⟩ := hrel
    have Hrow := hide hrow
    have Hb := hide hb
    clear hrow hb
    have hT2 := Ht.out.keep Hb.out
    have hE2 := He.out.keep Hb.out
    have t0 := hT2.cell 0
    have t1 := hT2.cell 1
    have t2 := hT2.cell 2
    have t3 := hT2.cell 3
    have tl := hT2.lt
    obtain ⟨e0, e1, e2, e3, e4⟩ := cell5 hE2
    have el := hE2.lt
    simp only [List.getElem?_cons_zero, List.getElem?_cons_succ] at t0 t1 t2 t3
    clear hT2 hE2
    by_cases hkS : k < S
    · have hkI : (k : Int) < (S : Int) := by omega
      have hwl := wantF_len N S nO m k
      have hwl2 := Nat.mul_le_mul (show k ≤ 4 by omega) hn
      go_wp2_with fail
      clear t0 t1 t2 t3 tl e0 e1 e2 e3 e4 el
      go_loopw [8, 21] (fun ov i wr => ∃ (j : Nat) (D : Option Addr) (q dc : Nat) (us : List Value), j ≤ nO ∧ i = .int .i64 j ∧ ov = .slice D q dc ∧ OwnE Enc.int 3 w1.heap.size (fun b => w1.heap.size ≤ b) wr D q dc us (wantF N S nO m k ++ pick j (sv N S nO m k)) ∧ Below w1.heap.size w1 wr) (fun _ i _ => nO - (intOf i).toNat)
      case atStart => exact ⟨0, _, _, _, _, by omega, rfl, rfl, by simpa [pick] using Hrow.out, Hb.out⟩
      case round =>
        clear Hrow Hb
        obtain ⟨w3, rfl⟩ : ∃ V, V = wr := ⟨_, rfl⟩
        obtain ⟨j, D, q, dc, us, hj, rfl, rfl, hrow, hb⟩ := hrel
        have hqk : q ≤ k * nO + j := by
          rw [← hrow.len, List.length_append]
          unfold pick
          rw [List.length_map]
          have := List.length_filter_le (sv N S nO m k) (List.range j)
          rw [List.length_range] at this
          omega
        have Hrow := hide hrow
        have Hb := hide hb
        clear hrow hb
        have hT2 := Ht.out.keep Hb.out
        have hE2 := He.out.keep Hb.out
        have t0 := hT2.cell 0
        have t1 := hT2.cell 1
        have t2 := hT2.cell 2
        have t3 := hT2.cell 3
        have tl := hT2.lt
        obtain ⟨e0, e1, e2, e3, e4⟩ := cell5 hE2
        have el := hE2.lt
        simp only [List.getElem?_cons_zero, List.getElem?_cons_succ] at t0 t1 t2 t3
        clear hT2 hE2
        by_cases hjn : j < nO
        · have hjI : (j : Int) < (nO : Int) := by omega
          have hct := Hst.out k j w3 hN (by omega) (by omega) (by omega) (by omega)
          have hidx := sidx_low (N := N) hkS hjn
          rw [← Hl.out] at hidx
          have hsV : stepV N S nO k j = ((sidx N S nO k j : Nat) : Int) + 1 := by rw [stepV_lit]; unfold litI; rw [if_pos rfl]
          rw [hsV] at hct
          have hps := pick_succ j (sv N S nO m k)
          have hsvz : sv N S nO m k j = m.getD (sidx N S nO k j) false := rfl
          obtain ⟨z, hz⟩ : ∃ z, z = sidx N S nO k j := ⟨_, rfl⟩
          rw [← hz] at hct hidx hsvz
          have hzm : z ≤ 100000 := by
            have h1 := Nat.mul_le_mul (show S + 1 ≤ 5 by omega) hN
            have h2 := Nat.mul_le_mul hS hn
            have := Hl.out
            unfold sizeN at this
            omega
          have Hsvz := hide hsvz
          clear hsV hz hsvz
          go_wp2_with fail
          with_reducible refine hct.mono ?_
          rintro e w4 ⟨rfl, hb⟩
          have hsz3 := Hb.out.size
          have hb1 := Hb.out.trans (hb.mono hsz3)
          replace Hrow := hide ((Hrow.out.keep hb).less (M' := fun b => w1.heap.size ≤ b) (fun i _ e => e))
          clear Hb hct t0 t1 t2 t3 tl e0 e1 e2 e3 e4 el hb
          have Hb := hide hb1
          clear hb1 hsz3
          obtain ⟨b, off, y, rfl, hy, hcy⟩ := (Hm.out.keep (Hbl.out.trans (Hb.out.mono hsz1))).bool hidx
          have hyv : sv N S nO m k j = y := by rw [Hsvz.out, List.getD_eq_getElem?_getD, hy]; rfl
          rw [hyv] at hps
          have Hps := hide hps
          have hzI : (z : Int) < (mn : Int) := by omega
          have hwz : IntKind.i64.wrap ((z : Int) + 1 - 1) = (z : Int) := by rw [show (z : Int) + 1 - 1 = (z : Int) by omega]; exact wrap_small (by omega) (by omega)
          have hwz2 : (z : Int) + 1 - 1 = (z : Int) := by omega
          clear hy hyv hps
          cases y with
          | false =>
            go_wp2_with fail
            go_roundw
            case rel => exact ⟨j + 1, D, q, dc, us, by omega, by go_num, rfl, by rw [Hps.out]; simpa using Hrow.out, Hb.out⟩
            case measure => simp [intOf]; omega
          | true =>
            have hsz3 := Hb.out.size
            go_wp2_with
              (at_builtin
               refine wpList_pushE rfl _ _ 22 rfl w1.heap.size 3 i1 (.int .i64 0) 8 Tryz.underlying22 hi1 hy0 hy1 hy2 rfl (by decide) rfl Hrow.out (fun r hr => (Hrow.out.base hr).1) [.int .i64 j] j (by intro u hu; simp at hu; subst hu; rfl) rfl (firm_int (by omega) (by omega)) (by omega) (by omega) hsz3 ?_
               intro O6 oc6 w6 hown6 hch6 hat6
               have hown6 := hown6.less (M' := fun b => w1.heap.size ≤ b) (fun i _ e => .inl e)
               have hb6 := row_below Hb.out hsz3 hch6 (fun r hr => (Hrow.out.base hr).1)
               have Hown6 := hide hown6
               have Hb6 := hide hb6
               clear hown6 hch6 hat6 hb6)
            go_roundw
            case rel => exact ⟨j + 1, O6, q + 1, oc6, _, by omega, by go_num, rfl, by rw [Hps.out]; simpa using Hown6.out, Hb6.out⟩
            case measure => simp [intOf]; omega
        · obtain rfl : nO = j := by omega
          have hnext : wantF N S nO m (k + 1) = wantF N S nO m k ++ pick nO (sv N S nO m k) := wantF_succ N S nO m k
          have Hnext := hide hnext
          clear hnext
          go_wp2_with fail
          go_roundw
          case rel => exact ⟨k + 1, D, q, dc, us, by omega, by go_num, rfl, by rw [Hnext.out]; exact Hrow.out, Hb.out⟩
          case measure => simp [intOf]; omega
    · obtain rfl : S = k := by omega
      have hints := own_low Hrow.out.ints hsz1
      have hql := Hrow.out.len
      have Hints := hide hints
      have Hq := hide hql
      clear hints hql
      go_wp2_with fail
      go_ret
      refine ⟨Hbl.out.trans (Hb.out.mono hsz1), D, dc, ?_, ?_⟩
      · rw [Hq.out]
        rfl
      · rw [Hq.out]
        exact Hints.out
/-- what Decode answers -/
def decodeR (T : Tsk) (s : Int) (m : List Bool) : List Int × Int × Int :=
  if (cnfR T s).2.2.1 ≠ 0 then ([], (cnfR T s).2.2) else if ((m.length : Nat) : Int) ≠ (cnfR T s).1 then ([], 9, -10) else
  if trueAll (cnfR T s).2.1 m = false then ([], 11, -11) else (wantF T.facts.toNat s.toNat T.ops.length m s.toNat, 0, 0)
theorem cnfR_ok {T : Tsk} {s : Int} (h : (cnfR T s).2.2.1 = 0) : ∃ N S : Nat, OkT T N ∧ s = (S : Int) ∧ S ≤ 4 ∧ T.ops.length ≤ 20 ∧ sizeN N S T.ops.length ≤ 80 ∧ cnfR T s = (((sizeN N S T.ops.length : Nat) : Int), encC T N S, 0, 0) := by
  unfold cnfR at h ⊢
  by_cases h1 : (taskFault T).1 ≠ 0
  · rw [if_pos h1] at h
    exact absurd h h1
  rw [if_neg h1] at h ⊢
  by_cases h2 : s < 0 ∨ 4 < s
  · rw [if_pos h2] at h
    cases h
  rw [if_neg h2] at h ⊢
  obtain ⟨N, hok⟩ := taskFault_ok (T := T) (by simpa using h1)
  have hfT : T.facts.toNat = N := by have := hok.facts; omega
  obtain ⟨S, rfl⟩ : ∃ S : Nat, s = (S : Int) := ⟨s.toNat, by omega⟩
  rw [hfT, Int.toNat_natCast, sizeV_nat] at h ⊢
  by_cases h3 : (80 : Int) < ((sizeN N S T.ops.length : Nat) : Int) ∨ 20 < T.ops.length
  · rw [if_pos h3] at h
    cases h
  rw [if_neg h3]
  exact ⟨N, S, hok, rfl, by omega, by omega, by omega, rfl⟩
set_option maxRecDepth 100000 in
set_option maxHeartbeats 6400000 in
theorem Decode_ct (a : TA) (T : Tsk) (s : Int) (M : Option Addr) (mn mc : Nat) (m : List Bool) (w : World) (h : TkR w a T) (hs : I64s s) (hm : Rd Enc.bool w M mn mc m) :
    Calls Tryz.prog 16 #[.agg #[.int .i64 T.facts, .slice a.I a.nI a.cI, .slice a.G a.nG a.cG, .slice a.O a.nO a.cO], .int .i64 s, .slice M mn mc] w (ExpandP w (decodeR T s m)) := by
  have hcn := cnf_ct a T s
  have hdec := fun N S M mn mc m w h1 h2 h3 h4 h5 h6 => decode_ct a T N S M mn mc m w h1 h2 h3 h4 h5 h6
  obtain ⟨I, nI, cI, G, nG, cG, O, nO, cO⟩ := a
  simp only at hcn hdec ⊢
  have hok0 := cnfR_ok (T := T) (s := s)
  rcases hq : cnfR T s with ⟨Vi, cs, ec, ei⟩
  rw [hq] at hcn hok0
  have hlO := h.ops.len
  simp only at hlO hcn hok0
  have HlO := hide hlO
  have H := hide h
  have Hm := hide hm
  have Hml := hide hm.len
  have hmlow := hm.low
  have Hq := hide hq
  have Hcn := hide hcn
  have Hdec := hide hdec
  have Hok0 := hide hok0
  clear h hm hq hcn hdec hlO hok0
  have Hbl := hide (Below.refl w.heap.size w)
  go_enter Tryz.func16, Tryz.ntmps16
  go_upto_region 1 with (fail)
  obtain ⟨B0, hB0⟩ : ∃ B0, B0 = w.heap.size := ⟨_, rfl⟩
  have HB0 := hide hB0
  clear hB0
  have s_0 : B0 ≤ w.heap.size := Nat.le_trans (Nat.le_of_eq HB0.out) Hbl.out.size
  have hyt := Blk.new (w) 25 [.int .i64 T.facts, .slice I nI cI, .slice G nG cG, .slice O nO cO]
  have hyr := Blk.new ((w).alloc (.cells #[.int .i64 T.facts, .slice I nI cI, .slice G nG cG, .slice O nO cO] 25)) 28 [.int .i64 0, .int .i64 0]
  replace hyt := hyt.alloc (.cells #[.int .i64 0, .int .i64 0] 28)
  have hbW := below_two w (.cells #[.int .i64 T.facts, .slice I nI cI, .slice G nG cG, .slice O nO cO] 25) (.cells #[.int .i64 0, .int .i64 0] 28)
  simp only [World.size_alloc] at hyr
  obtain ⟨w0, hW⟩ : ∃ W, W = ((w).alloc (.cells #[.int .i64 T.facts, .slice I nI cI, .slice G nG cG, .slice O nO cO] 25)).alloc (.cells #[.int .i64 0, .int .i64 0] 28) := ⟨_, rfl⟩
  rw [← hW] at hyt hyr hbW ⊢
  replace Hbl := hide (Hbl.out.trans (hbW.mono Hbl.out.size))
  have Ht := hide hyt
  have Hr := hide hyr
  clear hW hbW hyt hyr
  generalize w.heap.size = gT at Ht Hr s_0 ⊢
  have t0 := Ht.out.cell 0
  have t1 := Ht.out.cell 1
  have t2 := Ht.out.cell 2
  have t3 := Ht.out.cell 3
  have tl := Ht.out.lt
  have r0 := Hr.out.cell 0
  have r1 := Hr.out.cell 1
  have rl := Hr.out.lt
  simp only [List.getElem?_cons_zero, List.getElem?_cons_succ] at t0 t1 t2 t3 r0 r1
  have a_t : B0 ≤ gT := by omega
  have a_r : B0 ≤ gT + 1 := by omega
  clear s_0
  have n_t_r : ¬ gT = gT + 1 := by omega
  have n_r_t : ¬ gT + 1 = gT := by omega
  go_wp2_with fail
  with_reducible refine (Hcn.out w0 (H.out.keep Hbl.out) hs).mono ?_
  rintro e w1 ⟨hb, A, n, c, rfl, hplain, hrows⟩
  have hrd := hrows w1 (Chg.refl _ _)
  have Hrd := hide hrd
  clear hrows hplain hrd
  unfold fault
  clear t0 t1 t2 t3 r0 r1 tl rl
  replace Ht := hide (Ht.out.keep hb)
  replace Hr := hide (Hr.out.keep hb)
  replace Hbl := hide (Hbl.out.trans (hb.mono Hbl.out.size))
  clear hb
  have t0 := Ht.out.cell 0
  have t1 := Ht.out.cell 1
  have t2 := Ht.out.cell 2
  have t3 := Ht.out.cell 3
  have tl := Ht.out.lt
  have r0 := Hr.out.cell 0
  have r1 := Hr.out.cell 1
  have rl := Hr.out.lt
  simp only [List.getElem?_cons_zero, List.getElem?_cons_succ] at t0 t1 t2 t3 r0 r1
  go_upto_region 2 with (fail)
  have n_t_c : ¬ gT = w1.heap.size := by omega
  have n_c_t : ¬ w1.heap.size = gT := by omega
  have n_t_k : ¬ gT = w1.heap.size + 1 := by omega
  have n_k_t : ¬ w1.heap.size + 1 = gT := by omega
  have n_r_c : ¬ gT + 1 = w1.heap.size := by omega
  have n_c_r : ¬ w1.heap.size = gT + 1 := by omega
  have n_r_k : ¬ gT + 1 = w1.heap.size + 1 := by omega
  have n_k_r : ¬ w1.heap.size + 1 = gT + 1 := by omega
  have s_t : gT < w1.heap.size := tl
  have s_r : gT + 1 < w1.heap.size := rl
  have s_0 : B0 ≤ w1.heap.size := Nat.le_trans (Nat.le_of_eq HB0.out) Hbl.out.size
  have hyc := Blk.new (w1) 45 [.int .i64 Vi, .slice A n c]
  have hyk := Blk.new ((w1).alloc (.cells #[.int .i64 Vi, .slice A n c] 45)) 28 [.int .i64 ec, .int .i64 ei]
  replace hyc := hyc.alloc (.cells #[.int .i64 ec, .int .i64 ei] 28)
  have hbW := below_two w1 (.cells #[.int .i64 Vi, .slice A n c] 45) (.cells #[.int .i64 ec, .int .i64 ei] 28)
  simp only [World.size_alloc] at hyk
  obtain ⟨w2, hW⟩ : ∃ W, W = ((w1).alloc (.cells #[.int .i64 Vi, .slice A n c] 45)).alloc (.cells #[.int .i64 ec, .int .i64 ei] 28) := ⟨_, rfl⟩
  rw [← hW] at hyc hyk hbW ⊢
  replace Ht := hide (Ht.out.keep hbW)
  replace Hr := hide (Hr.out.keep hbW)
  replace Hrd := hide (Hrd.out.keep hbW)
  replace Hbl := hide (Hbl.out.trans (hbW.mono Hbl.out.size))
  have Hc := hide hyc
  have Hk := hide hyk
  clear hW hbW hyc hyk
  generalize w1.heap.size = gc at Hc Hk n_t_c n_c_t n_t_k n_k_t n_r_c n_c_r n_r_k n_k_r s_t s_r s_0 ⊢
  have t0 := Ht.out.cell 0
  have t1 := Ht.out.cell 1
  have t2 := Ht.out.cell 2
  have t3 := Ht.out.cell 3
  have tl := Ht.out.lt
  have r0 := Hr.out.cell 0
  have r1 := Hr.out.cell 1
  have rl := Hr.out.lt
  have c0 := Hc.out.cell 0
  have c1 := Hc.out.cell 1
  have cl := Hc.out.lt
  have k0 := Hk.out.cell 0
  have k1 := Hk.out.cell 1
  have kl := Hk.out.lt
  simp only [List.getElem?_cons_zero, List.getElem?_cons_succ] at t0 t1 t2 t3 r0 r1 c0 c1 k0 k1
  clear s_t
  clear s_r
  have a_c : B0 ≤ gc := by omega
  have a_k : B0 ≤ gc + 1 := by omega
  clear s_0
  have n_c_k : ¬ gc = gc + 1 := by omega
  have n_k_c : ¬ gc + 1 = gc := by omega
  by_cases hec : ec = 0
  · subst hec
    obtain ⟨N, S, hok, hsS, hS, hn, hV, hcs⟩ := Hok0.out rfl
    obtain ⟨e1, e2⟩ := Prod.mk.inj hcs
    obtain ⟨e2, e3⟩ := Prod.mk.inj e2
    obtain ⟨_, e4⟩ := Prod.mk.inj e3
    have hfits : ∀ l ∈ cs, ∀ x ∈ l, Fits (sizeN N S T.ops.length : Nat) x := fun l hl => by rw [e2] at hl; exact code_fits (enc_code hok hl)
    have hN := hok.low
    have hfN := hok.facts
    rw [HlO.out] at hn hV e1 hfits
    subst e4
    obtain ⟨V, hVe⟩ : ∃ V, V = sizeN N S nO := ⟨_, rfl⟩
    rw [← hVe] at e1 hV hfits
    have HVe := hide hVe
    have Hfits := hide hfits
    have HfN := hide hfN
    have HsS := hide hsS
    have E1 := hide e1
    clear e1 e2 e3 hcs hVe hfits hfN hsS
    rw [E1.out] at c0
    by_cases hlen : mn = V
    · skip
      have hlI : (mn : Int) = (V : Int) := by omega
      have hct := True_ct A M n c mn mc cs m w2 Hrd.out (Hm.out.keep Hbl.out) (by omega) (by rw [hlen]; exact Hfits.out)
      obtain ⟨bo, hbo⟩ : ∃ z, z = trueAll cs m := ⟨_, rfl⟩
      rw [← hbo] at hct
      have Hbo := hide hbo
      have Hlen := hide hlen
      clear hbo hlen
      go_wp2_with fail
      with_reducible refine (hct).mono ?_
      rintro e w3 ⟨rfl, hb⟩
      clear t0 t1 t2 t3 r0 r1 c0 c1 k0 k1 tl rl cl kl
      replace Ht := hide (Ht.out.keep hb)
      replace Hr := hide (Hr.out.keep hb)
      replace Hc := hide (Hc.out.keep hb)
      replace Hk := hide (Hk.out.keep hb)
      replace Hrd := hide (Hrd.out.keep hb)
      replace Hbl := hide (Hbl.out.trans (hb.mono Hbl.out.size))
      clear hb
      clear hct
      have t0 := Ht.out.cell 0
      have t1 := Ht.out.cell 1
      have t2 := Ht.out.cell 2
      have t3 := Ht.out.cell 3
      have tl := Ht.out.lt
      have r0 := Hr.out.cell 0
      have r1 := Hr.out.cell 1
      have rl := Hr.out.lt
      have c0 := Hc.out.cell 0
      have c1 := Hc.out.cell 1
      have cl := Hc.out.lt
      have k0 := Hk.out.cell 0
      have k1 := Hk.out.cell 1
      have kl := Hk.out.lt
      simp only [List.getElem?_cons_zero, List.getElem?_cons_succ] at t0 t1 t2 t3 r0 r1 c0 c1 k0 k1
      cases bo with
      | false =>
        have rf0 := Hr.out.frozen 0
        have rf1 := Hr.out.frozen 1
        go_wp2_with fail
        refine bodyPost_ret (v := .tuple #[.slice none 0 0, fault 11 (-11)]) (by simp [results, Tryz.results16, go_sem, fault, r0, r1, rl]) rfl ?_
        have hres : decodeR T s m = ([], 11, -11) := by
          unfold decodeR
          rw [Hq.out, if_neg (by simp), if_neg (by simp only; rw [Hml.out, E1.out]; exact fun h => h hlI)]
          simp only
          rw [if_pos Hbo.out.symm]
        rw [hres]
        have hbx := HB0.out
        refine expandP_nil ?_ _ _
        repeat' (first | (with_reducible exact Hbl.out) | (with_reducible refine Below.drew ?_) | (with_reducible refine below_set ?_ ?_ _ _) | (have := HB0.out; omega))
      | true =>
        have hdc := Hdec.out N S M mn mc m w3 HfN.out (Hm.out.keep Hbl.out) hN hS (by omega) (by rw [Hlen.out]; exact HVe.out)
        have s3r : gT + 1 < w3.heap.size := rl
        have s30 := Hbl.out.size
        have hsS := HsS.out
        rw [hsS]
        go_wp2_with fail
        with_reducible refine hdc.mono ?_
        rintro e w4 ⟨hb, X, xc, rfl, hown⟩
        have hr2 := RdM.own (M := fun b => b < w3.heap.size) hown (fun r hr e => by
          have h1 := own_base hown (by rw [own_blkA]; exact hr)
          omega) rfl (fun x hx => by have := wantF_range x hx; omega)
        have Hr2 := hide hr2
        clear hdc hown hr2
        clear t0 t1 t2 t3 r0 r1 c0 c1 k0 k1 tl rl cl kl
        replace Ht := hide (Ht.out.keep hb)
        replace Hr := hide (Hr.out.keep hb)
        replace Hc := hide (Hc.out.keep hb)
        replace Hk := hide (Hk.out.keep hb)
        replace Hbl := hide (Hbl.out.trans (hb.mono Hbl.out.size))
        clear hb
        have t0 := Ht.out.cell 0
        have t1 := Ht.out.cell 1
        have t2 := Ht.out.cell 2
        have t3 := Ht.out.cell 3
        have tl := Ht.out.lt
        have r0 := Hr.out.cell 0
        have r1 := Hr.out.cell 1
        have rl := Hr.out.lt
        have c0 := Hc.out.cell 0
        have c1 := Hc.out.cell 1
        have cl := Hc.out.lt
        have k0 := Hk.out.cell 0
        have k1 := Hk.out.cell 1
        have kl := Hk.out.lt
        simp only [List.getElem?_cons_zero, List.getElem?_cons_succ] at t0 t1 t2 t3 r0 r1 c0 c1 k0 k1
        obtain ⟨nx, hnx⟩ : ∃ nx, nx = wantF N S nO m S := ⟨_, rfl⟩
        rw [← hnx] at Hr2 ⊢
        have Hnx := hide hnx
        clear hnx
        generalize nx.length = ln at Hr2 ⊢
        have rf0 := Hr.out.frozen 0
        have rf1 := Hr.out.frozen 1
        clear hsS
        go_wp2_with fail
        refine bodyPost_ret (v := .tuple #[.slice X ln xc, fault 0 0]) (by simp [results, Tryz.results16, go_sem, fault, r0, r1, rl]) rfl ?_
        have hres : decodeR T s m = (nx, 0, 0) := by
          unfold decodeR
          rw [Hq.out, if_neg (by simp), if_neg (by simp only; rw [Hml.out, E1.out]; exact fun h => h hlI)]
          simp only
          rw [if_neg (by rw [← Hbo.out]; simp), Hnx.out, HfN.out, HsS.out, Int.toNat_natCast, Int.toNat_natCast, HlO.out]
        rw [hres]
        have hbx := HB0.out
        refine ⟨?_, X, ln, xc, rfl, fun w'' hc => ?_⟩
        · repeat' (first | (with_reducible exact Hbl.out) | (with_reducible refine Below.drew ?_) | (with_reducible refine below_set ?_ ?_ _ _) | (have := HB0.out; omega))
        · exact (Hr2.out.chg ((((Chg.set _ (gT + 1) 0 _).trans (Chg.set _ (gT + 1) 1 _)).mono (fun b e => by omega)).trans (hc.mono (fun b e => by omega)))).rd
    · have hlI : ¬ (mn : Int) = (V : Int) := by omega
      have rf0 := Hr.out.frozen 0
      have rf1 := Hr.out.frozen 1
      go_wp2_with fail
      refine bodyPost_ret (v := .tuple #[.slice none 0 0, fault 9 (-10)]) (by simp [results, Tryz.results16, go_sem, fault, r0, r1, rl]) rfl ?_
      have hres : decodeR T s m = ([], 9, -10) := by
        unfold decodeR
        rw [Hq.out, if_neg (by simp), if_pos (by simp only; rw [Hml.out, E1.out]; exact hlI)]
      rw [hres]
      have hbx := HB0.out
      refine expandP_nil ?_ _ _
      repeat' (first | (with_reducible exact Hbl.out) | (with_reducible refine Below.drew ?_) | (with_reducible refine below_set ?_ ?_ _ _) | (have := HB0.out; omega))
  · have hne : (ec != 0) = true := by simpa using hec
    have hne2 : (ec == 0) = false := by simpa using hec
    have rf0 := Hr.out.frozen 0
    have rf1 := Hr.out.frozen 1
    go_wp2_with fail
    go_region
    all_goals go_wp2_with fail
    all_goals refine bodyPost_ret (v := .tuple #[.slice none 0 0, fault ec ei]) (by simp [results, Tryz.results16, go_sem, fault, r0, r1, rl]) rfl ?_
    have hres : decodeR T s m = ([], ec, ei) := by
      unfold decodeR
      rw [Hq.out, if_pos hec]
    rw [hres]
    have hbx := HB0.out
    refine expandP_nil ?_ _ _
    repeat' (first | (with_reducible exact Hbl.out) | (with_reducible refine Below.drew ?_) | (with_reducible refine below_set ?_ ?_ _ _) | (have := HB0.out; omega))
end Go.Proofs.YtemiecammmbjdaaGreat
namespace Go.Proofs.YtemiecammmbjdaaGreat
set_option linter.unusedVariables false
/-! ### Numbers out of digits -/
def sumF : Nat → (Nat → Nat) → Nat
  | 0, _ => 0
  | m + 1, f => sumF m f + f m
def prodF : Nat → (Nat → Nat) → Nat
  | 0, _ => 1
  | m + 1, f => prodF m f * f m
def bitsF : Nat → (Nat → Bool) → Nat
  | 0, _ => 0
  | m + 1, f => bitsF m f + if f m = true then 2 ^ m else 0
def mixF : Nat → (Nat → Nat) → (Nat → Nat) → Nat
  | 0, _, _ => 0
  | m + 1, r, d => mixF m r d * r m + d m
theorem bitsF_lt : ∀ (m : Nat) (f : Nat → Bool), bitsF m f < 2 ^ m
  | 0, f => by simp [bitsF]
  | m + 1, f => by
    have := bitsF_lt m f
    rw [bitsF, Nat.pow_succ]
    split <;> omega
theorem bitsF_inj : ∀ (m : Nat) (f g : Nat → Bool), bitsF m f = bitsF m g → ∀ i, i < m → f i = g i
  | 0, f, g, _, i, hi => by omega
  | m + 1, f, g, h, i, hi => by
    have h1 := bitsF_lt m f
    have h2 := bitsF_lt m g
    rw [bitsF, bitsF] at h
    have hm : f m = g m ∧ bitsF m f = bitsF m g := by
      cases hf : f m <;> cases hg : g m <;> rw [hf, hg] at h <;> simp at h <;> first | exact ⟨rfl, h⟩ | omega
    rcases Nat.lt_or_ge i m with h3 | h3
    · exact bitsF_inj m f g hm.2 i h3
    · obtain rfl : i = m := by omega
      exact hm.1
theorem mixF_lt : ∀ (m : Nat) (r d : Nat → Nat), (∀ i, i < m → d i < r i) → mixF m r d < prodF m r
  | 0, r, d, _ => by simp [mixF, prodF]
  | m + 1, r, d, h => by
    have h1 := mixF_lt m r d (fun i hi => h i (by omega))
    have h2 := h m (by omega)
    rw [mixF, prodF]
    have := Nat.mul_le_mul_right (r m) (show mixF m r d + 1 ≤ prodF m r by omega)
    rw [Nat.add_mul] at this
    omega
theorem mixF_inj : ∀ (m : Nat) (r d e : Nat → Nat), (∀ i, i < m → d i < r i) → (∀ i, i < m → e i < r i) → mixF m r d = mixF m r e → ∀ i, i < m → d i = e i
  | 0, r, d, e, _, _, _, i, hi => by omega
  | m + 1, r, d, e, hd, he, h, i, hi => by
    have h1 := hd m (by omega)
    have h2 := he m (by omega)
    rw [mixF, mixF] at h
    have e1 : d m = e m := by
      have a := congrArg (· % r m) h
      simp only [Nat.mul_add_mod_self_right, Nat.mod_eq_of_lt h1, Nat.mod_eq_of_lt h2] at a
      exact a
    have e2 : mixF m r d = mixF m r e := by
      have : mixF m r d * r m = mixF m r e * r m := by omega
      exact Nat.eq_of_mul_eq_mul_right (by omega) this
    rcases Nat.lt_or_ge i m with h3 | h3
    · exact mixF_inj m r d e (fun j hj => hd j (by omega)) (fun j hj => he j (by omega)) e2 i h3
    · obtain rfl : i = m := by omega
      exact e1
/-! ### Counting -/
theorem sumF_mono : ∀ (m : Nat) (f g : Nat → Nat), (∀ i, i < m → f i ≤ g i) → sumF m f ≤ sumF m g
  | 0, f, g, _ => Nat.le_refl _
  | m + 1, f, g, h => by
    have h1 := sumF_mono m f g (fun i hi => h i (by omega))
    have h2 := h m (by omega)
    rw [sumF, sumF]
    omega
theorem sumF_const : ∀ (m c : Nat), sumF m (fun _ => c) = m * c
  | 0, c => by simp [sumF]
  | m + 1, c => by rw [sumF, sumF_const m c, Nat.add_mul, Nat.one_mul]
theorem sumF_one : ∀ (m : Nat) (f : Nat → Nat) (j : Nat), j < m → sumF m (fun i => f i + if j = i then 1 else 0) = sumF m f + 1
  | 0, f, j, h => by omega
  | m + 1, f, j, h => by
    rw [sumF, sumF]
    rcases Nat.lt_or_ge j m with h1 | h1
    · rw [sumF_one m f j h1, if_neg (by omega)]; omega
    · obtain rfl : j = m := by omega
      rw [if_pos rfl]
      have : sumF j (fun i => f i + if j = i then 1 else 0) = sumF j f := by
        have key : ∀ (q : Nat), q ≤ j → sumF q (fun i => f i + if j = i then 1 else 0) = sumF q f := by
          intro q
          induction q with
          | zero => intro _; rfl
          | succ q ih => intro hq; rw [sumF, sumF, ih (by omega), if_neg (by omega)]; rfl
        exact key j (Nat.le_refl _)
      omega
theorem split_len {α : Type} (f : α → Nat) (m : Nat) : ∀ (H : List α), (∀ x ∈ H, f x < m) → H.length = sumF m (fun i => (H.filter (fun x => f x == i)).length) := by
  intro H
  induction H with
  | nil =>
    intro _
    simp only [List.filter_nil, List.length_nil]
    rw [sumF_const]
    simp
  | cons x H ih =>
    intro h
    have e : (fun i => ((x :: H).filter (fun x => f x == i)).length) = fun i => (H.filter (fun x => f x == i)).length + if f x = i then 1 else 0 := by
      funext i
      rw [List.filter_cons]
      by_cases hx : f x = i
      · rw [if_pos (by simpa using hx), if_pos hx]; rfl
      · rw [if_neg (by simpa using hx), if_neg hx, Nat.add_zero]
    rw [e, sumF_one m _ _ (h x List.mem_cons_self), ← ih (fun y hy => h y (List.mem_cons_of_mem _ hy))]
    rfl
/-- as many as there are codes -/
theorem codes_len {α : Type} {L : List α} {m : Nat} {R : α → Nat → Prop} (hn : L.Nodup) (h : ∀ x ∈ L, ∃ c, c < m ∧ R x c) (hi : ∀ x y c, R x c → R y c → x = y) : L.length ≤ m := by
  have hf : ∀ x : α, ∃ c, x ∈ L → c < m ∧ R x c := fun x => by
    by_cases hx : x ∈ L
    · obtain ⟨c, hc⟩ := h x hx
      exact ⟨c, fun _ => hc⟩
    · exact ⟨0, fun h => absurd h hx⟩
  obtain ⟨f, hf⟩ := Classical.axiomOfChoice hf
  have hnd : (L.map f).Nodup := by
    rw [List.Nodup, List.pairwise_map]
    exact hn.imp_of_mem (fun {a b} ha hb hab e => hab (hi a b (f a) (hf a ha).2 (e ▸ (hf b hb).2)))
  have := List.Nodup.length_le_of_subset (l₂ := List.range m) hnd (fun c hc => by
    obtain ⟨x, hx, rfl⟩ := List.mem_map.1 hc
    exact List.mem_range.2 (hf x hx).1)
  simpa using this
/-- few beginnings of each length: few in all -/
theorem few_of {V : Nat} {cs : List (List Int)} {cnt : Nat → Nat} (h : ∀ k, k < V → ∀ L : List (List Bool), L.Nodup → (∀ π ∈ L, π.length = k ∧ ∃ t, Trail V t ∧ (∀ c ∈ cs, Calm c t) ∧ ExtT π t) → L.length ≤ cnt k) : Few V cs (sumF V (fun k => (V - k) * cnt k)) := by
  intro H hn hb
  rw [split_len (fun r => r.1.length) V H (fun r hr => by have := hb r hr; exact Nat.lt_of_le_of_lt this.1 this.2.1)]
  refine sumF_mono _ _ _ (fun k hk => ?_)
  rw [split_len (fun r => r.2 - k) (V - k) _ (fun r hr => by
    obtain ⟨h1, h2⟩ := List.mem_filter.1 hr
    have h3 := hb r h1
    have h4 : r.1.length = k := by simpa using h2
    have := h3.1
    have := h3.2.1
    omega)]
  refine Nat.le_trans (sumF_mono _ _ (fun _ => cnt k) (fun s hs => ?_)) (Nat.le_of_eq (sumF_const _ _))
  generalize hF : ((H.filter fun r => r.1.length == k).filter fun r => r.2 - k == s) = F
  have hmem : ∀ r ∈ F, r ∈ H ∧ r.1.length = k ∧ r.2 = k + s := fun r hr => by
    rw [← hF] at hr
    obtain ⟨h1, h2⟩ := List.mem_filter.1 hr
    obtain ⟨h3, h4⟩ := List.mem_filter.1 h1
    have h5 : r.1.length = k := by simpa using h4
    have h6 : r.2 - k = s := by simpa using h2
    have := (hb r h3).1
    exact ⟨h3, h5, by omega⟩
  have hFn : F.Nodup := by rw [← hF]; exact (hn.filter _).filter _
  have hnd : (F.map Prod.fst).Nodup := by
    rw [List.Nodup, List.pairwise_map]
    refine hFn.imp_of_mem (fun {a b} ha hb2 hab e => hab ?_)
    obtain ⟨_, _, e1⟩ := hmem a ha
    obtain ⟨_, _, e2⟩ := hmem b hb2
    exact Prod.ext e (by rw [e1, e2])
  have := h k hk _ hnd (fun π hπ => by
    obtain ⟨r, hr, rfl⟩ := List.mem_map.1 hπ
    obtain ⟨h1, h2, _⟩ := hmem r hr
    obtain ⟨_, _, t, h3, _, h4, h5⟩ := hb r h1
    exact ⟨h2, t, h3, h4, h5⟩)
  rwa [List.length_map] at this
/-! ### The encoding -/
def isT (t : List Int) (i : Nat) : Bool := decide (litI true i ∈ t)
def offB (N S n : Nat) (t : List Int) (τ j : Nat) : Bool := decide (litI false (sidx N S n τ j) ∈ t)
structure Bear (T : Tsk) (N S k : Nat) (t : List Int) : Prop where
  tr : Trail (sizeN N S T.ops.length) t
  calm : ∀ c, EncK T N S c → Calm c t
  asg : ∀ i, i < k → litI true i ∈ t ∨ litI false i ∈ t
theorem litI_neg (b : Bool) (i : Nat) : -(litI b i) = litI (!b) i := by unfold litI; cases b <;> simp
section
variable {T : Tsk} {N S k : Nat} {t t' : List Int}
theorem Bear.no (h : Bear T N S k t) {i : Nat} (h1 : litI true i ∈ t) (h2 : litI false i ∈ t) : False := h.tr.clash h1 (by rw [litI_neg]; exact h2)
theorem Bear.f_off (h : Bear T N S k t) {i : Nat} (hi : i < k) (h1 : isT t i = false) : litI false i ∈ t := (h.asg i hi).resolve_left (by simpa [isT] using h1)
theorem Bear.addL (h : Bear T N S k t) {τ p j : Nat} (ht : τ < S) (hp : p < N) (hj : j < T.ops.length) (ha : (p : Int) ∈ (opAt T.ops j).add) (hf : litI false (fidx N (τ + 1) p) ∈ t) : offB N S T.ops.length t τ j = true :=
  decide_eq_true (calm_gives h.tr (h.calm _ (.add τ p j ht hp hj ha)) (fun y hy hne => by
    simp only [List.mem_cons, List.not_mem_nil, or_false] at hy
    rcases hy with rfl | rfl
    · rw [litI_neg]; exact hf
    · exact absurd rfl hne))
theorem Bear.delL (h : Bear T N S k t) {τ p j : Nat} (ht : τ < S) (hp : p < N) (hj : j < T.ops.length) (ha : (p : Int) ∈ (opAt T.ops j).del) (hf : litI true (fidx N (τ + 1) p) ∈ t) : offB N S T.ops.length t τ j = true :=
  decide_eq_true (calm_gives h.tr (h.calm _ (.del τ p j ht hp hj ha)) (fun y hy hne => by
    simp only [List.mem_cons, List.not_mem_nil, or_false] at hy
    rcases hy with rfl | rfl
    · rw [litI_neg]; exact hf
    · exact absurd rfl hne))
theorem addI_in {τ n : Nat} {f : Nat → Bool} {y : Int} (hy : y ∈ (addI N S τ f n).map fun x => litI x.1 x.2) : ∃ j, j < n ∧ f j = true ∧ y = litI true (sidx N S n τ j) := by
  obtain ⟨x, hx, rfl⟩ := List.mem_map.1 hy
  unfold addI at hx
  obtain ⟨j, hj, rfl⟩ := List.mem_map.1 hx
  obtain ⟨h1, h2⟩ := List.mem_filter.1 hj
  exact ⟨j, List.mem_range.1 h1, h2, rfl⟩
theorem Bear.keepA (h : Bear T N S k t) {τ p : Nat} (ht : τ < S) (hp : p < N) (h0 : litI false (fidx N τ p) ∈ t) (h1 : litI true (fidx N (τ + 1) p) ∈ t) : ∃ j, j < T.ops.length ∧ (p : Int) ∈ (opAt T.ops j).add ∧ offB N S T.ops.length t τ j = false := by
  apply Classical.byContradiction
  intro hno
  have hall : ∀ j, j < T.ops.length → (p : Int) ∈ (opAt T.ops j).add → offB N S T.ops.length t τ j = true := fun j hj ha => by
    cases ho : offB N S T.ops.length t τ j
    · exact (hno ⟨j, hj, ha, ho⟩).elim
    · rfl
  refine h.no h1 (calm_gives h.tr (h.calm _ (.keepA τ p ht hp)) (fun y hy hne => ?_))
  rcases List.mem_cons.1 hy with rfl | hy
  · rw [litI_neg]; exact h0
  · rcases List.mem_cons.1 hy with rfl | hy
    · exact absurd rfl hne
    · obtain ⟨j, hj, hf, rfl⟩ := addI_in hy
      rw [litI_neg]
      exact of_decide_eq_true (hall j hj (by simpa [hasB] using hf))
theorem Bear.keepD (h : Bear T N S k t) {τ p : Nat} (ht : τ < S) (hp : p < N) (h0 : litI true (fidx N τ p) ∈ t) (h1 : litI false (fidx N (τ + 1) p) ∈ t) : ∃ j, j < T.ops.length ∧ (p : Int) ∈ (opAt T.ops j).del ∧ offB N S T.ops.length t τ j = false := by
  apply Classical.byContradiction
  intro hno
  have hall : ∀ j, j < T.ops.length → (p : Int) ∈ (opAt T.ops j).del → offB N S T.ops.length t τ j = true := fun j hj ha => by
    cases ho : offB N S T.ops.length t τ j
    · exact (hno ⟨j, hj, ha, ho⟩).elim
    · rfl
  refine h.no (calm_gives h.tr (h.calm _ (.keepD τ p ht hp)) (fun y hy hne => ?_)) h1
  rcases List.mem_cons.1 hy with rfl | hy
  · rw [litI_neg]; exact h0
  · rcases List.mem_cons.1 hy with rfl | hy
    · exact absurd rfl hne
    · obtain ⟨j, hj, hf, rfl⟩ := addI_in hy
      rw [litI_neg]
      exact of_decide_eq_true (hall j hj (by simpa [hasB] using hf))
theorem Bear.only (h : Bear T N S k t) {τ j : Nat} (ht : τ < S) (hj : j < T.ops.length) (h1 : isT t (sidx N S T.ops.length τ j) = true) : ∀ q, q < T.ops.length → offB N S T.ops.length t τ q = decide (q ≠ j) := by
  intro q hq
  have h1 := of_decide_eq_true h1
  by_cases e : q = j
  · subst e
    rw [decide_eq_false (by simp)]
    exact decide_eq_false (fun hm => h.no h1 hm)
  · rw [decide_eq_true e]
    rcases Nat.lt_or_ge j q with hl | hl
    · exact decide_eq_true (calm_gives h.tr (h.calm _ (.two τ j q ht hl hq)) (fun y hy hne => by
        simp only [List.mem_cons, List.not_mem_nil, or_false] at hy
        rcases hy with rfl | rfl
        · rw [litI_neg]; exact h1
        · exact absurd rfl hne))
    · exact decide_eq_true (calm_gives h.tr (h.calm _ (.two τ q j ht (by omega) hj)) (fun y hy hne => by
        simp only [List.mem_cons, List.not_mem_nil, or_false] at hy
        rcases hy with rfl | rfl
        · exact absurd rfl hne
        · rw [litI_neg]; exact h1))
theorem next_le (h : Bear T N S k t) (h' : Bear T N S k t') {τ p : Nat} (ht : τ < S) (hp : p < N) (hk : fidx N (τ + 1) p < k) (hoff : ∀ j, j < T.ops.length → offB N S T.ops.length t τ j = offB N S T.ops.length t' τ j)
    (hst : isT t (fidx N τ p) = isT t' (fidx N τ p)) (h1 : isT t (fidx N (τ + 1) p) = true) : isT t' (fidx N (τ + 1) p) = true := by
  have hk0 : fidx N τ p < k := by have := fidx_next (N := N) (t := τ) (q := p) hp; omega
  cases h2 : isT t' (fidx N (τ + 1) p)
  · exfalso
    have h2 := h'.f_off hk h2
    have h1 := of_decide_eq_true h1
    cases h3 : isT t (fidx N τ p)
    · obtain ⟨j, hj, ha, ho⟩ := h.keepA ht hp (h.f_off hk0 h3) h1
      have := h'.addL ht hp hj ha h2
      rw [← hoff j hj, ho] at this
      cases this
    · rw [h3] at hst
      obtain ⟨j, hj, ha, ho⟩ := h'.keepD ht hp (of_decide_eq_true hst.symm) h2
      have := h.delL ht hp hj ha h1
      rw [hoff j hj, ho] at this
      cases this
  · rfl
theorem next_same (h : Bear T N S k t) (h' : Bear T N S k t') {τ p : Nat} (ht : τ < S) (hp : p < N) (hk : fidx N (τ + 1) p < k) (hoff : ∀ j, j < T.ops.length → offB N S T.ops.length t τ j = offB N S T.ops.length t' τ j)
    (hst : isT t (fidx N τ p) = isT t' (fidx N τ p)) : isT t (fidx N (τ + 1) p) = isT t' (fidx N (τ + 1) p) := by
  have a := next_le h h' ht hp hk hoff hst
  have b := next_le h' h ht hp hk (fun j hj => (hoff j hj).symm) hst.symm
  cases h1 : isT t (fidx N (τ + 1) p)
  · cases h2 : isT t' (fidx N (τ + 1) p)
    · rfl
    · rw [b h2] at h1; cases h1
  · exact (a h1).symm
/-- the digit of a state of which kk facts are known -/
def stD (T : Tsk) (N S : Nat) (t : List Int) (τ kk : Nat) : Nat :=
  if kk ≤ T.ops.length then bitsF kk (fun p => isT t (fidx N (τ + 1) p)) else bitsF T.ops.length (fun j => offB N S T.ops.length t τ j)
theorem stD_lt (τ kk : Nat) : stD T N S t τ kk < 2 ^ min kk T.ops.length := by
  unfold stD
  split
  · rw [Nat.min_eq_left (by assumption)]; exact bitsF_lt _ _
  · rw [Nat.min_eq_right (by omega)]; exact bitsF_lt _ _
theorem stD_same (h : Bear T N S k t) (h' : Bear T N S k t') {τ kk : Nat} (ht : τ < S) (hkk : kk ≤ N) (he : stD T N S t τ kk = stD T N S t' τ kk) (hk : ∀ p, p < kk → fidx N (τ + 1) p < k)
    (hst : ∀ p, p < N → isT t (fidx N τ p) = isT t' (fidx N τ p)) : ∀ p, p < kk → isT t (fidx N (τ + 1) p) = isT t' (fidx N (τ + 1) p) := by
  unfold stD at he
  intro p hp
  split at he
  · exact bitsF_inj _ _ _ he p hp
  · exact next_same h h' ht (by omega) (hk p hp) (bitsF_inj _ _ _ he) (hst p (by omega))
/-- how many facts at the next time, and how many steps, a beginning tells -/
def kkF (N k τ : Nat) : Nat := min N (k - (τ + 1) * N)
def iiF (N S n k τ : Nat) : Nat := min n (k - ((S + 1) * N + τ * n))
def radF (N S n k τ : Nat) : Nat := if iiF N S n k τ = 0 then 2 ^ min (kkF N k τ) n else if iiF N S n k τ < n then 2 ^ min N n + iiF N S n k τ else n + 1
def Dig (T : Tsk) (N S k : Nat) (t : List Int) (τ d : Nat) : Prop :=
  if iiF N S T.ops.length k τ = 0 then d = stD T N S t τ (kkF N k τ)
  else if iiF N S T.ops.length k τ < T.ops.length then (∃ j, j < iiF N S T.ops.length k τ ∧ isT t (sidx N S T.ops.length τ j) = true ∧ d = 2 ^ min N T.ops.length + j) ∨ ((∀ j, j < iiF N S T.ops.length k τ → isT t (sidx N S T.ops.length τ j) = false) ∧ d = stD T N S t τ N)
  else (∃ j, j < T.ops.length ∧ isT t (sidx N S T.ops.length τ j) = true ∧ d = j + 1) ∨ ((∀ j, j < T.ops.length → isT t (sidx N S T.ops.length τ j) = false) ∧ d = 0)
theorem dig_get (T : Tsk) (N S k : Nat) (t : List Int) (τ : Nat) : ∃ d, d < radF N S T.ops.length k τ ∧ Dig T N S k t τ d := by
  unfold Dig radF
  by_cases h0 : iiF N S T.ops.length k τ = 0
  · rw [if_pos h0]
    exact ⟨_, stD_lt _ _, by rw [if_pos h0]⟩
  · rw [if_neg h0]
    by_cases h1 : iiF N S T.ops.length k τ < T.ops.length
    · rw [if_pos h1]
      by_cases hx : ∃ j, j < iiF N S T.ops.length k τ ∧ isT t (sidx N S T.ops.length τ j) = true
      · obtain ⟨j, h2, h3⟩ := hx
        exact ⟨2 ^ min N T.ops.length + j, by omega, by rw [if_neg h0, if_pos h1]; exact .inl ⟨j, h2, h3, rfl⟩⟩
      · refine ⟨stD T N S t τ N, Nat.lt_of_lt_of_le (stD_lt _ _) (Nat.le_add_right _ _), ?_⟩
        rw [if_neg h0, if_pos h1]
        exact .inr ⟨fun j hj => by
          cases hb : isT t (sidx N S T.ops.length τ j)
          · rfl
          · exact (hx ⟨j, hj, hb⟩).elim, rfl⟩
    · rw [if_neg h1]
      by_cases hx : ∃ j, j < T.ops.length ∧ isT t (sidx N S T.ops.length τ j) = true
      · obtain ⟨j, h2, h3⟩ := hx
        exact ⟨j + 1, by omega, by rw [if_neg h0, if_neg h1]; exact .inl ⟨j, h2, h3, rfl⟩⟩
      · refine ⟨0, by omega, ?_⟩
        rw [if_neg h0, if_neg h1]
        exact .inr ⟨fun j hj => by
          cases hb : isT t (sidx N S T.ops.length τ j)
          · rfl
          · exact (hx ⟨j, hj, hb⟩).elim, rfl⟩
theorem ops_known {τ n : Nat} (h : iiF N S n k τ ≠ 0) (ht : τ < S) : (S + 1) * N + τ * n < k ∧ ∀ p, p < N → fidx N (τ + 1) p < k := by
  unfold iiF at h
  have h1 : (S + 1) * N + τ * n < k := by omega
  refine ⟨h1, fun p hp => ?_⟩
  have := fidx_low (N := N) (S := S) (t := τ + 1) (by omega) hp
  omega
theorem dig_same (h : Bear T N S k t) (h' : Bear T N S k t') {τ d : Nat} (ht : τ < S) (hd : Dig T N S k t τ d) (hd' : Dig T N S k t' τ d) (hst : ∀ p, p < N → fidx N τ p < k → isT t (fidx N τ p) = isT t' (fidx N τ p)) :
    (∀ p, p < N → fidx N (τ + 1) p < k → isT t (fidx N (τ + 1) p) = isT t' (fidx N (τ + 1) p)) ∧ ∀ j, j < T.ops.length → sidx N S T.ops.length τ j < k → isT t (sidx N S T.ops.length τ j) = isT t' (sidx N S T.ops.length τ j) := by
  unfold Dig at hd hd'
  by_cases h0 : iiF N S T.ops.length k τ = 0
  · rw [if_pos h0] at hd hd'
    refine ⟨fun p hp hk => ?_, fun j hj hk => ?_⟩
    · have hpk : p < kkF N k τ := by unfold kkF; unfold fidx at hk; omega
      have hkk : kkF N k τ ≤ N := by unfold kkF; omega
      refine stD_same h h' ht hkk (hd.symm.trans hd') (fun q hq => ?_) (fun q hq => hst q hq ?_) p hpk
      · unfold kkF at hq; unfold fidx; omega
      · have := fidx_next (N := N) (t := τ) (q := p) hq
        omega
    · exfalso
      unfold iiF at h0
      unfold sidx at hk
      omega
  · rw [if_neg h0] at hd hd'
    obtain ⟨hk1, hkf⟩ := ops_known h0 ht
    have hst' : ∀ p, p < N → isT t (fidx N τ p) = isT t' (fidx N τ p) := fun p hp => hst p hp (by have := fidx_next (N := N) (t := τ) (q := p) hp; have := hkf p hp; omega)
    -- one and the same step
    have hone : ∀ j, j < T.ops.length → isT t (sidx N S T.ops.length τ j) = true → isT t' (sidx N S T.ops.length τ j) = true → (∀ p, p < N → fidx N (τ + 1) p < k → isT t (fidx N (τ + 1) p) = isT t' (fidx N (τ + 1) p)) ∧ ∀ j, j < T.ops.length → sidx N S T.ops.length τ j < k → isT t (sidx N S T.ops.length τ j) = isT t' (sidx N S T.ops.length τ j) := fun j hj e1 e2 => by
      have o1 := h.only ht hj e1
      have o2 := h'.only ht hj e2
      refine ⟨fun p hp hk => next_same h h' ht hp hk (fun q hq => by rw [o1 q hq, o2 q hq]) (hst' p hp), fun q hq hk => ?_⟩
      by_cases e : q = j
      · subst e; rw [e1, e2]
      · have n1 := of_decide_eq_true ((o1 q hq).trans (decide_eq_true e))
        have n2 := of_decide_eq_true ((o2 q hq).trans (decide_eq_true e))
        rw [show isT t (sidx N S T.ops.length τ q) = false from decide_eq_false (fun hm => h.no hm n1), show isT t' (sidx N S T.ops.length τ q) = false from decide_eq_false (fun hm => h'.no hm n2)]
    by_cases h1 : iiF N S T.ops.length k τ < T.ops.length
    · rw [if_pos h1] at hd hd'
      have hlt := stD_lt (T := T) (N := N) (S := S) (t := t) τ N
      have hlt' := stD_lt (T := T) (N := N) (S := S) (t := t') τ N
      rcases hd with ⟨j, hj, e1, rfl⟩ | ⟨hno, rfl⟩
      · rcases hd' with ⟨j', hj', e2, e⟩ | ⟨_, e⟩
        · obtain rfl : j = j' := by omega
          exact hone j (by omega) e1 e2
        · omega
      · rcases hd' with ⟨j', hj', e2, e⟩ | ⟨hno', e⟩
        · omega
        · refine ⟨fun p hp hk => stD_same h h' ht (Nat.le_refl _) e hkf hst' p hp, fun j hj hk => ?_⟩
          have hji : j < iiF N S T.ops.length k τ := by unfold iiF; unfold sidx at hk; omega
          rw [hno j hji, hno' j hji]
    · rw [if_neg h1] at hd hd'
      rcases hd with ⟨j, hj, e1, rfl⟩ | ⟨hno, rfl⟩
      · rcases hd' with ⟨j', hj', e2, e⟩ | ⟨_, e⟩
        · obtain rfl : j = j' := by omega
          exact hone j hj e1 e2
        · omega
      · rcases hd' with ⟨j', hj', e2, e⟩ | ⟨hno', _⟩
        · omega
        · have hall : ∀ j, j < T.ops.length → sidx N S T.ops.length τ j < k := fun j hj => by unfold iiF at h1; unfold sidx; omega
          refine ⟨fun p hp hk => next_same h h' ht hp hk (fun q hq => ?_) (hst' p hp), fun j hj _ => by rw [hno j hj, hno' j hj]⟩
          unfold offB
          rw [decide_eq_true (h.f_off (hall q hq) (hno q hq)), decide_eq_true (h'.f_off (hall q hq) (hno' q hq))]
theorem first_same (h : Bear T N S k t) (h' : Bear T N S k t') : ∀ p, p < N → fidx N 0 p < k → isT t (fidx N 0 p) = isT t' (fidx N 0 p) := fun p hp hk => by
  have key : ∀ t, Bear T N S k t → isT t (fidx N 0 p) = subsetB [(p : Int)] T.init := fun t h => by
    have hm : litI (subsetB [(p : Int)] T.init) (fidx N 0 p) ∈ t := calm_gives h.tr (h.calm _ (.init p hp)) (fun y hy hne => absurd (List.mem_singleton.1 hy) hne)
    cases hb : subsetB [(p : Int)] T.init
    · rw [hb] at hm
      exact decide_eq_false (fun h2 => h.no h2 hm)
    · rw [hb] at hm
      exact decide_eq_true hm
  rw [key t h, key t' h']
theorem all_same (h : Bear T N S k t) (h' : Bear T N S k t') {d : Nat → Nat} (hd : ∀ τ, τ < S → Dig T N S k t τ (d τ)) (hd' : ∀ τ, τ < S → Dig T N S k t' τ (d τ)) (hk : k ≤ sizeN N S T.ops.length) : ∀ i, i < k → isT t i = isT t' i := by
  have hf : ∀ τ, τ ≤ S → ∀ p, p < N → fidx N τ p < k → isT t (fidx N τ p) = isT t' (fidx N τ p) := by
    intro τ
    induction τ with
    | zero => intro _; exact first_same h h'
    | succ τ ih => intro hτ; exact (dig_same h h' (by omega) (hd τ (by omega)) (hd' τ (by omega)) (ih (by omega))).1
  intro i hi
  rcases Nat.lt_or_ge i ((S + 1) * N) with h1 | h1
  · have hN : 0 < N := by
      rcases Nat.eq_zero_or_pos N with e | e
      · subst e; simp at h1
      · exact e
    have e : fidx N (i / N) (i % N) = i := by unfold fidx; rw [Nat.mul_comm]; exact Nat.div_add_mod i N
    have h2 : i / N < S + 1 := by rw [Nat.div_lt_iff_lt_mul hN]; exact h1
    have := hf (i / N) (by omega) (i % N) (Nat.mod_lt _ hN) (by rw [e]; exact hi)
    rwa [e] at this
  · have hn : 0 < T.ops.length := by
      rcases Nat.eq_zero_or_pos T.ops.length with e | e
      · unfold sizeN at hk; rw [e] at hk; omega
      · exact e
    have hq : i - (S + 1) * N < S * T.ops.length := by unfold sizeN at hk; omega
    generalize hm : i - (S + 1) * N = m at hq
    have e : sidx N S T.ops.length (m / T.ops.length) (m % T.ops.length) = i := by
      unfold sidx
      have := Nat.div_add_mod m T.ops.length
      rw [Nat.mul_comm] at this
      omega
    have h2 : m / T.ops.length < S := by rw [Nat.div_lt_iff_lt_mul hn]; exact hq
    have := (dig_same h h' h2 (hd _ h2) (hd' _ h2) (hf _ (by omega))).2 (m % T.ops.length) (Nat.mod_lt _ hn) (by rw [e]; exact hi)
    rwa [e] at this
theorem bear_of {π : List Bool} (hok : OkT T N) (hl : π.length = k) (h1 : Trail (sizeN N S T.ops.length) t) (h2 : ∀ c ∈ encC T N S, Calm c t) (h3 : ExtT π t) : Bear T N S k t ∧ π = (List.range k).map (isT t) := by
  have hlit : ∀ (i : Nat) (b : Bool), π[i]? = some b → litI b i ∈ t := fun i b hb => h3 i b hb
  have hb : Bear T N S k t := ⟨h1, fun c hc => h2 c ((enc_iff hok).2 hc), fun i hi => by
    have hg : π[i]? = some (π[i]'(by omega)) := List.getElem?_eq_getElem _
    have := hlit i _ hg
    cases hbb : π[i]'(by omega)
    · rw [hbb] at this; exact .inr this
    · rw [hbb] at this; exact .inl this⟩
  refine ⟨hb, ?_⟩
  apply List.ext_getElem
  · simp [hl]
  · intro i g1 g2
    rw [List.getElem_map, List.getElem_range]
    have := hlit i _ (List.getElem?_eq_getElem g1)
    cases hbb : π[i]
    · rw [hbb] at this
      exact (decide_eq_false (fun hm => hb.no hm this)).symm
    · rw [hbb] at this
      exact (decide_eq_true this).symm
end
def cntF (N S n k : Nat) : Nat := prodF S (radF N S n k)
def fewF (N S n : Nat) : Nat := sumF (sizeN N S n) (fun k => (sizeN N S n - k) * cntF N S n k)
theorem few_enc {T : Tsk} {N S : Nat} (hok : OkT T N) : Few (sizeN N S T.ops.length) (encC T N S) (fewF N S T.ops.length) := by
  refine few_of (fun k hk L hn hL => ?_)
  refine codes_len (R := fun π c => ∃ t, Bear T N S k t ∧ π = (List.range k).map (isT t) ∧ ∃ d : Nat → Nat, (∀ τ, τ < S → d τ < radF N S T.ops.length k τ ∧ Dig T N S k t τ (d τ)) ∧ c = mixF S (radF N S T.ops.length k) d) hn (fun π hπ => ?_) ?_
  · obtain ⟨hl, t, h1, h2, h3⟩ := hL π hπ
    obtain ⟨hb, he⟩ := bear_of hok hl h1 h2 h3
    obtain ⟨d, hd⟩ := Classical.axiomOfChoice (fun τ => dig_get T N S k t τ)
    exact ⟨_, mixF_lt S _ d (fun τ _ => (hd τ).1), t, hb, he, d, fun τ _ => hd τ, rfl⟩
  · rintro π π' c ⟨t, hb, rfl, d, hd, rfl⟩ ⟨t', hb', rfl, d', hd', e⟩
    have hdd := mixF_inj S _ d d' (fun τ hτ => (hd τ hτ).1) (fun τ hτ => (hd' τ hτ).1) e
    refine List.map_congr_left (fun i hi => ?_)
    exact all_same hb hb' (fun τ hτ => (hd τ hτ).2) (fun τ hτ => by rw [hdd τ hτ]; exact (hd' τ hτ).2) (by omega) i (List.mem_range.1 hi)
theorem few_num : ∀ S, S < 5 → ∀ N, N < 25 → ∀ n, n < 21 → sizeN N S n ≤ 80 → fewF N S n ≤ 4000000000000 := by decide +kernel
theorem few_enc80 {T : Tsk} {N S : Nat} (hok : OkT T N) (hS : S ≤ 4) (hn : T.ops.length ≤ 20) (hV : sizeN N S T.ops.length ≤ 80) : Few (sizeN N S T.ops.length) (encC T N S) 4000000000000 :=
  fun H h1 h2 => Nat.le_trans (few_enc hok H h1 h2) (few_num S (by omega) N (by have := hok.low; omega) _ (by omega) hV)
end Go.Proofs.YtemiecammmbjdaaGreat
namespace Go.Proofs.YtemiecammmbjdaaGreat
set_option linter.unusedVariables false
set_option linter.unusedSimpArgs false
open Go.RowKit
set_option maxRecDepth 100000 in
set_option maxHeartbeats 3200000 in
theorem Size_ct (a : TA) (T : Tsk) (N S : Nat) (w : World) (hf : T.facts = N) (hN : N ≤ 24) (hS : S ≤ 10) (hn : a.nO ≤ 100) :
    Calls Tryz.prog 24 #[.agg #[.int .i64 T.facts, .slice a.I a.nI a.cI, .slice a.G a.nG a.cG, .slice a.O a.nO a.cO], .int .i64 S] w (Gives w (.int .i64 (sizeN N S a.nO : Nat))) := by
  obtain ⟨I, nI, cI, G, nG, cG, O, nO, cO⟩ := a
  simp only at hn ⊢
  rw [hf]
  have h1 := mul_small hS (show N + nO ≤ 200 by omega) (by omega)
  obtain ⟨x, hx⟩ : ∃ x, x = S * (N + nO) := ⟨_, rfl⟩
  rw [← hx] at h1
  have hw1 : IntKind.i64.wrap ((S : Int) * ((N : Int) + (nO : Int))) = (x : Int) := by
    rw [show (S : Int) * ((N : Int) + (nO : Int)) = ((S * (N + nO) : Nat) : Int) by rw [Int.natCast_mul, Int.natCast_add], ← hx]
    exact wrap_small (by omega) (by omega)
  have hv : ((sizeN N S nO : Nat) : Int) = (x : Int) + (N : Int) := by
    have e1 := Nat.mul_add S N nO
    have e2 : (S + 1) * N = S * N + N := by rw [Nat.add_mul]; omega
    unfold sizeN
    omega
  have Hv := hide hv
  clear hv hx
  go_enter Tryz.func24, Tryz.ntmps24
  go_wp2_with fail
  go_ret
  exact ⟨ret_int (by rw [Hv.out]), (Below.refl _ _).alloc (Nat.le_refl _) _⟩
set_option maxRecDepth 100000 in
set_option maxHeartbeats 3200000 in
theorem EncFault_ct (a : TA) (T : Tsk) (s : Int) (w : World) (h : TkR w a T) (hs : I64s s) :
    Calls Tryz.prog 7 #[.agg #[.int .i64 T.facts, .slice a.I a.nI a.cI, .slice a.G a.nG a.cG, .slice a.O a.nO a.cO], .int .i64 s] w (Gives w (fault (cnfR T s).2.2.1 (cnfR T s).2.2.2)) := by
  have hval := RTaskFault_ct a T
  have hsz := fun N S w h1 h2 h3 h4 => Size_ct a T N S w h1 h2 h3 h4
  obtain ⟨I, nI, cI, G, nG, cG, O, nO, cO⟩ := a
  simp only at hval hsz ⊢
  rcases hq : taskFault T with ⟨ec, ei⟩
  rw [hq] at hval
  have H := hide h
  have hlO := h.ops.len
  have hlow := h.ops.low
  simp only at hlO hlow
  have HlO := hide hlO
  have Hq := hide hq
  have Hval := hide hval
  have Hsz := hide hsz
  obtain ⟨s1, s2⟩ := hs
  clear h hlO hq hval hsz
  have Hbl := hide (Below.refl w.heap.size w)
  go_enter Tryz.func7, Tryz.ntmps7
  go_upto_region 1 with (fail)
  obtain ⟨B0, hB0⟩ : ∃ B0, B0 = w.heap.size := ⟨_, rfl⟩
  have HB0 := hide hB0
  clear hB0
  have s_0 : B0 ≤ w.heap.size := Nat.le_trans (Nat.le_of_eq HB0.out) Hbl.out.size
  have hyt := Blk.new (w) 25 [.int .i64 T.facts, .slice I nI cI, .slice G nG cG, .slice O nO cO]
  have hyr := Blk.new ((w).alloc (.cells #[.int .i64 T.facts, .slice I nI cI, .slice G nG cG, .slice O nO cO] 25)) 28 [.int .i64 0, .int .i64 0]
  replace hyt := hyt.alloc (.cells #[.int .i64 0, .int .i64 0] 28)
  have hbW := below_two w (.cells #[.int .i64 T.facts, .slice I nI cI, .slice G nG cG, .slice O nO cO] 25) (.cells #[.int .i64 0, .int .i64 0] 28)
  simp only [World.size_alloc] at hyr
  obtain ⟨w0, hW⟩ : ∃ W, W = ((w).alloc (.cells #[.int .i64 T.facts, .slice I nI cI, .slice G nG cG, .slice O nO cO] 25)).alloc (.cells #[.int .i64 0, .int .i64 0] 28) := ⟨_, rfl⟩
  rw [← hW] at hyt hyr hbW ⊢
  replace Hbl := hide (Hbl.out.trans (hbW.mono Hbl.out.size))
  have Ht := hide hyt
  have Hr := hide hyr
  clear hW hbW hyt hyr
  generalize w.heap.size = gT at Ht Hr s_0 ⊢
  have t0 := Ht.out.cell 0
  have t1 := Ht.out.cell 1
  have t2 := Ht.out.cell 2
  have t3 := Ht.out.cell 3
  have tl := Ht.out.lt
  have r0 := Hr.out.cell 0
  have r1 := Hr.out.cell 1
  have rl := Hr.out.lt
  simp only [List.getElem?_cons_zero, List.getElem?_cons_succ] at t0 t1 t2 t3 r0 r1
  have a_t : B0 ≤ gT := by omega
  have a_r : B0 ≤ gT + 1 := by omega
  clear s_0
  have n_t_r : ¬ gT = gT + 1 := by omega
  have n_r_t : ¬ gT + 1 = gT := by omega
  go_wp2_with fail
  with_reducible refine (Hval.out w0 (H.out.keep Hbl.out)).mono ?_
  rintro e w1 ⟨rfl, hb⟩
  clear t0 t1 t2 t3 r0 r1 tl rl
  replace Ht := hide (Ht.out.keep hb)
  replace Hr := hide (Hr.out.keep hb)
  replace Hbl := hide (Hbl.out.trans (hb.mono Hbl.out.size))
  clear hb
  unfold fault
  have t0 := Ht.out.cell 0
  have t1 := Ht.out.cell 1
  have t2 := Ht.out.cell 2
  have t3 := Ht.out.cell 3
  have tl := Ht.out.lt
  have r0 := Hr.out.cell 0
  have r1 := Hr.out.cell 1
  have rl := Hr.out.lt
  simp only [List.getElem?_cons_zero, List.getElem?_cons_succ] at t0 t1 t2 t3 r0 r1
  go_upto_region 2 with (fail)
  have n_t_k : ¬ gT = w1.heap.size := by omega
  have n_k_t : ¬ w1.heap.size = gT := by omega
  have n_r_k : ¬ gT + 1 = w1.heap.size := by omega
  have n_k_r : ¬ w1.heap.size = gT + 1 := by omega
  have s_t : gT < w1.heap.size := tl
  have s_r : gT + 1 < w1.heap.size := rl
  have s_0 : B0 ≤ w1.heap.size := Nat.le_trans (Nat.le_of_eq HB0.out) Hbl.out.size
  have hyk := Blk.new (w1) 28 [.int .i64 ec, .int .i64 ei]
  have hbW : Below (w1).heap.size (w1) ((w1).alloc (.cells #[.int .i64 ec, .int .i64 ei] 28)) := (Below.refl _ _).alloc (Nat.le_refl _) _
  obtain ⟨w2, hW⟩ : ∃ W, W = (w1).alloc (.cells #[.int .i64 ec, .int .i64 ei] 28) := ⟨_, rfl⟩
  rw [← hW] at hyk hbW ⊢
  replace Ht := hide (Ht.out.keep hbW)
  replace Hr := hide (Hr.out.keep hbW)
  replace Hbl := hide (Hbl.out.trans (hbW.mono Hbl.out.size))
  have Hk := hide hyk
  clear hW hbW hyk
  generalize w1.heap.size = gk at Hk n_t_k n_k_t n_r_k n_k_r s_t s_r s_0 ⊢
  have t0 := Ht.out.cell 0
  have t1 := Ht.out.cell 1
  have t2 := Ht.out.cell 2
  have t3 := Ht.out.cell 3
  have tl := Ht.out.lt
  have r0 := Hr.out.cell 0
  have r1 := Hr.out.cell 1
  have rl := Hr.out.lt
  have k0 := Hk.out.cell 0
  have k1 := Hk.out.cell 1
  have kl := Hk.out.lt
  simp only [List.getElem?_cons_zero, List.getElem?_cons_succ] at t0 t1 t2 t3 r0 r1 k0 k1
  clear s_t
  clear s_r
  have a_k : B0 ≤ gk := by omega
  clear s_0
  by_cases hec : ec = 0
  · subst hec
    have hz := taskFault_zero (T := T) (by rw [Hq.out])
    rw [Hq.out] at hz
    obtain ⟨_, e2⟩ := Prod.mk.inj hz
    subst e2
    obtain ⟨N, hok⟩ := taskFault_ok (T := T) (by rw [Hq.out])
    have hN := hok.low
    have hfN := hok.facts
    have hfT : T.facts.toNat = N := by omega
    have hfew := hok.few
    rw [HlO.out] at hfew
    have HfT := hide hfT
    have HfN := hide hfN
    clear hz hok hfT hfN
    have hct := In_ct s 0 4 w2
    obtain ⟨bo, hbo⟩ : ∃ z, z = inB s 0 4 := ⟨_, rfl⟩
    rw [← hbo] at hct
    have Hbo := hide hbo
    clear hbo
    go_wp2_with fail
    with_reducible refine hct.mono ?_
    rintro e w3 ⟨rfl, rfl⟩
    clear hct
    cases bo with
    | false =>
      have hbad := inB_no.1 Hbo.out.symm
      go_wp2_with fail
      with_reducible refine (At_ct _ _ _).mono ?_
      rintro e w4 ⟨rfl, hb⟩
      clear t0 t1 t2 t3 r0 r1 k0 k1 tl rl kl
      replace Ht := hide (Ht.out.keep hb)
      replace Hr := hide (Hr.out.keep hb)
      replace Hk := hide (Hk.out.keep hb)
      replace Hbl := hide (Hbl.out.trans (hb.mono Hbl.out.size))
      clear hb
      unfold fault
      have t0 := Ht.out.cell 0
      have t1 := Ht.out.cell 1
      have t2 := Ht.out.cell 2
      have t3 := Ht.out.cell 3
      have tl := Ht.out.lt
      have r0 := Hr.out.cell 0
      have r1 := Hr.out.cell 1
      have rl := Hr.out.lt
      have k0 := Hk.out.cell 0
      have k1 := Hk.out.cell 1
      have kl := Hk.out.lt
      simp only [List.getElem?_cons_zero, List.getElem?_cons_succ] at t0 t1 t2 t3 r0 r1 k0 k1
      have rf0 := Hr.out.frozen 0
      have rf1 := Hr.out.frozen 1
      go_wp2_with fail
      refine bodyPost_ret (v := fault 3 (-8)) (by simp [results, Tryz.results7, go_sem, fault, r0, r1, rl, n_r_k, n_k_r]) rfl ?_
      have hres : (cnfR T s).2.2 = (3, (-8)) := by
        unfold cnfR
        rw [Hq.out, if_neg (by simp)]
        rw [if_pos (by omega)]
      rw [hres]
      have hbx := HB0.out
      refine ⟨rfl, ?_⟩
      repeat' (first | (with_reducible exact Hbl.out) | (with_reducible refine Below.drew ?_) | (with_reducible refine below_set ?_ ?_ _ _) | (have := HB0.out; omega))
    | true =>
      have hgood := inB_iff.1 Hbo.out.symm
      obtain ⟨S, rfl⟩ : ∃ S : Nat, s = (S : Int) := ⟨s.toNat, by omega⟩
      have hS : S ≤ 4 := by omega
      have hxc : ¬ ((S : Int) < 0 ∨ 4 < (S : Int)) := by omega
      have hct := Hsz.out N S w2 HfN.out hN (by omega) (by omega)
      obtain ⟨sz, hsz⟩ : ∃ z, z = sizeN N S nO := ⟨_, rfl⟩
      rw [← hsz] at hct
      have Hsz2 := hide hsz
      clear hsz
      go_wp2_with fail
      with_reducible refine (hct).mono ?_
      rintro e w4 ⟨rfl, hb⟩
      clear t0 t1 t2 t3 r0 r1 k0 k1 tl rl kl
      replace Ht := hide (Ht.out.keep hb)
      replace Hr := hide (Hr.out.keep hb)
      replace Hk := hide (Hk.out.keep hb)
      replace Hbl := hide (Hbl.out.trans (hb.mono Hbl.out.size))
      clear hb
      clear hct
      have t0 := Ht.out.cell 0
      have t1 := Ht.out.cell 1
      have t2 := Ht.out.cell 2
      have t3 := Ht.out.cell 3
      have tl := Ht.out.lt
      have r0 := Hr.out.cell 0
      have r1 := Hr.out.cell 1
      have rl := Hr.out.lt
      have k0 := Hk.out.cell 0
      have k1 := Hk.out.cell 1
      have kl := Hk.out.lt
      simp only [List.getElem?_cons_zero, List.getElem?_cons_succ] at t0 t1 t2 t3 r0 r1 k0 k1
      by_cases h80 : (80 : Int) < (sz : Int)
      · skip
        go_wp2_with fail
        with_reducible refine (At_ct _ _ _).mono ?_
        rintro e w5 ⟨rfl, hb⟩
        clear t0 t1 t2 t3 r0 r1 k0 k1 tl rl kl
        replace Ht := hide (Ht.out.keep hb)
        replace Hr := hide (Hr.out.keep hb)
        replace Hk := hide (Hk.out.keep hb)
        replace Hbl := hide (Hbl.out.trans (hb.mono Hbl.out.size))
        clear hb
        unfold fault
        have t0 := Ht.out.cell 0
        have t1 := Ht.out.cell 1
        have t2 := Ht.out.cell 2
        have t3 := Ht.out.cell 3
        have tl := Ht.out.lt
        have r0 := Hr.out.cell 0
        have r1 := Hr.out.cell 1
        have rl := Hr.out.lt
        have k0 := Hk.out.cell 0
        have k1 := Hk.out.cell 1
        have kl := Hk.out.lt
        simp only [List.getElem?_cons_zero, List.getElem?_cons_succ] at t0 t1 t2 t3 r0 r1 k0 k1
        have rf0 := Hr.out.frozen 0
        have rf1 := Hr.out.frozen 1
        go_wp2_with fail
        refine bodyPost_ret (v := fault 10 (-3)) (by simp [results, Tryz.results7, go_sem, fault, r0, r1, rl, n_r_k, n_k_r]) rfl ?_
        have hres : (cnfR T (S : Int)).2.2 = (10, (-3)) := by
          unfold cnfR
          rw [Hq.out, if_neg (by simp)]
          rw [if_neg hxc, HfT.out, Int.toNat_natCast, HlO.out, sizeV_nat, ← Hsz2.out]
          rw [if_pos (.inl h80)]
        rw [hres]
        have hbx := HB0.out
        refine ⟨rfl, ?_⟩
        repeat' (first | (with_reducible exact Hbl.out) | (with_reducible refine Below.drew ?_) | (with_reducible refine below_set ?_ ?_ _ _) | (have := HB0.out; omega))
      by_cases h20 : 20 < nO
      · skip
        go_wp2_with fail
        with_reducible refine (At_ct _ _ _).mono ?_
        rintro e w5 ⟨rfl, hb⟩
        clear t0 t1 t2 t3 r0 r1 k0 k1 tl rl kl
        replace Ht := hide (Ht.out.keep hb)
        replace Hr := hide (Hr.out.keep hb)
        replace Hk := hide (Hk.out.keep hb)
        replace Hbl := hide (Hbl.out.trans (hb.mono Hbl.out.size))
        clear hb
        unfold fault
        have t0 := Ht.out.cell 0
        have t1 := Ht.out.cell 1
        have t2 := Ht.out.cell 2
        have t3 := Ht.out.cell 3
        have tl := Ht.out.lt
        have r0 := Hr.out.cell 0
        have r1 := Hr.out.cell 1
        have rl := Hr.out.lt
        have k0 := Hk.out.cell 0
        have k1 := Hk.out.cell 1
        have kl := Hk.out.lt
        simp only [List.getElem?_cons_zero, List.getElem?_cons_succ] at t0 t1 t2 t3 r0 r1 k0 k1
        have rf0 := Hr.out.frozen 0
        have rf1 := Hr.out.frozen 1
        go_wp2_with fail
        refine bodyPost_ret (v := fault 10 (-3)) (by simp [results, Tryz.results7, go_sem, fault, r0, r1, rl, n_r_k, n_k_r]) rfl ?_
        have hres : (cnfR T (S : Int)).2.2 = (10, (-3)) := by
          unfold cnfR
          rw [Hq.out, if_neg (by simp)]
          rw [if_neg hxc, HfT.out, Int.toNat_natCast, HlO.out, sizeV_nat, ← Hsz2.out]
          rw [if_pos (.inr h20)]
        rw [hres]
        have hbx := HB0.out
        refine ⟨rfl, ?_⟩
        repeat' (first | (with_reducible exact Hbl.out) | (with_reducible refine Below.drew ?_) | (with_reducible refine below_set ?_ ?_ _ _) | (have := HB0.out; omega))
      · skip
        have rf0 := Hr.out.frozen 0
        have rf1 := Hr.out.frozen 1
        go_wp2_with fail
        refine bodyPost_ret (v := fault 0 0) (by simp [results, Tryz.results7, go_sem, fault, r0, r1, rl, n_r_k, n_k_r]) rfl ?_
        have hres : (cnfR T (S : Int)).2.2 = (0, 0) := by
          unfold cnfR
          rw [Hq.out, if_neg (by simp)]
          rw [if_neg hxc, HfT.out, Int.toNat_natCast, HlO.out, sizeV_nat, ← Hsz2.out]
          rw [if_neg (by omega)]
        rw [hres]
        have hbx := HB0.out
        refine ⟨rfl, ?_⟩
        repeat' (first | (with_reducible exact Hbl.out) | (with_reducible refine Below.drew ?_) | (with_reducible refine below_set ?_ ?_ _ _) | (have := HB0.out; omega))
  · have hne : (ec != 0) = true := by simpa using hec
    have rf0 := Hr.out.frozen 0
    have rf1 := Hr.out.frozen 1
    go_wp2_with fail
    refine bodyPost_ret (v := fault ec ei) (by simp [results, Tryz.results7, go_sem, fault, r0, r1, rl, n_r_k, n_k_r]) rfl ?_
    have hres : (cnfR T s).2.2 = (ec, ei) := by
      unfold cnfR
      rw [Hq.out, if_pos hec]
    rw [hres]
    have hbx := HB0.out
    refine ⟨rfl, ?_⟩
    repeat' (first | (with_reducible exact Hbl.out) | (with_reducible refine Below.drew ?_) | (with_reducible refine below_set ?_ ?_ _ _) | (have := HB0.out; omega))
set_option maxRecDepth 100000 in
set_option maxHeartbeats 3200000 in
theorem Applies_ct (a : TA) (T : Tsk) (B : Option Addr) (m d : Nat) (l : List Int) (q : Nat) (w : World) (h : TkR w a T) (hl : Rd Enc.int w B m d l) (hq : q < a.nO) :
    Calls Tryz.prog 86 #[.agg #[.int .i64 T.facts, .slice a.I a.nI a.cI, .slice a.G a.nG a.cG, .slice a.O a.nO a.cO], .slice B m d, .int .i64 q] w (Gives w (.bool (subsetB (opAt T.ops q).pre l))) := by
  obtain ⟨I, nI, cI, G, nG, cG, O, nO, cO⟩ := a
  simp only at hq ⊢
  have H := hide h
  have Hl := hide hl
  obtain ⟨b1, off1, o, A1, n1, d1, A2, n2, d2, A3, n3, d3, rfl, hoq, g0, g1, g2, g3, r1, r2, r3, r4⟩ := h.ops.op hq
  have hb1 : b1 < w.heap.size := World.block_lt_of_cell? w _ g0
  have hgo := opAt_eq hoq
  have hlow := h.ops.low
  simp only at hlow
  have Hgo := hide hgo
  have R1 := hide r1
  have R2 := hide r2
  have R3_ := hide r3
  have K0 := hide g0
  have K1 := hide g1
  have K2 := hide g2
  have K3 := hide g3
  clear h hl hoq r1 r2 r3 r4 g0 g1 g2 g3 hgo
  have Hbl := hide (Below.refl w.heap.size w)
  go_enter Tryz.func86, Tryz.ntmps86
  go_upto_region 1 with (fail)
  obtain ⟨B0, hB0⟩ : ∃ B0, B0 = w.heap.size := ⟨_, rfl⟩
  have HB0 := hide hB0
  clear hB0
  have s_0 : B0 ≤ w.heap.size := Nat.le_trans (Nat.le_of_eq HB0.out) Hbl.out.size
  have hyt := Blk.new (w) 25 [.int .i64 T.facts, .slice I nI cI, .slice G nG cG, .slice (some ⟨b1, off1, none⟩) nO cO]
  have hbW : Below (w).heap.size (w) ((w).alloc (.cells #[.int .i64 T.facts, .slice I nI cI, .slice G nG cG, .slice (some ⟨b1, off1, none⟩) nO cO] 25)) := (Below.refl _ _).alloc (Nat.le_refl _) _
  obtain ⟨w0, hW⟩ : ∃ W, W = (w).alloc (.cells #[.int .i64 T.facts, .slice I nI cI, .slice G nG cG, .slice (some ⟨b1, off1, none⟩) nO cO] 25) := ⟨_, rfl⟩
  rw [← hW] at hyt hbW ⊢
  replace Hbl := hide (Hbl.out.trans (hbW.mono Hbl.out.size))
  have Ht := hide hyt
  clear hW hbW hyt
  generalize w.heap.size = gT at Ht s_0 ⊢
  have t0 := Ht.out.cell 0
  have t1 := Ht.out.cell 1
  have t2 := Ht.out.cell 2
  have t3 := Ht.out.cell 3
  have tl := Ht.out.lt
  simp only [List.getElem?_cons_zero, List.getElem?_cons_succ] at t0 t1 t2 t3
  have a_t : B0 ≤ gT := by omega
  clear s_0
  have k0 := ((olds Hbl.out).1 _ _ hb1).trans K0.out
  have k1 := ((olds Hbl.out).1 _ _ hb1).trans K1.out
  have k2 := ((olds Hbl.out).1 _ _ hb1).trans K2.out
  have k3 := ((olds Hbl.out).1 _ _ hb1).trans K3.out
  have hmk : ((q : Nat) : Int) < (nO : Int) := by omega
  go_wp2_with fail
  have hct := Subset_ct A1 B n1 d1 m d o.pre l w0 (R1.out.keep Hbl.out) (Hl.out.keep Hbl.out)
  with_reducible refine hct.mono ?_
  rintro e w1 ⟨rfl, hqt⟩
  have Hqt := hide hqt
  clear hct hqt
  go_wp2_with fail
  go_ret
  exact ⟨ret_bool (by rw [Hgo.out]), Hbl.out.trans (Hqt.out.below _)⟩
set_option maxRecDepth 100000 in
set_option maxHeartbeats 3200000 in
theorem After_ct (a : TA) (T : Tsk) (N : Nat) (B : Option Addr) (m d : Nat) (l : List Int) (q : Nat) (w : World) (h : TkR w a T) (hf : T.facts = N) (hN : N ≤ 1000) (hl : Rd Enc.int w B m d l) (hq : q < a.nO) :
    Calls Tryz.prog 87 #[.agg #[.int .i64 T.facts, .slice a.I a.nI a.cI, .slice a.G a.nG a.cG, .slice a.O a.nO a.cO], .slice B m d, .int .i64 q] w (MadeI w (afterF N (opAt T.ops q) l)) := by
  obtain ⟨i1, hi1, hy0, hy1, hy2⟩ := info_parts intInfoT
  obtain ⟨I, nI, cI, G, nG, cG, O, nO, cO⟩ := a
  simp only at hq ⊢
  rw [hf]
  have H := hide h
  have Hl := hide hl
  obtain ⟨b1, off1, o, A1, n1, d1, A2, n2, d2, A3, n3, d3, rfl, hoq, g0, g1, g2, g3, r1, r2, r3, r4⟩ := h.ops.op hq
  have hb1 : b1 < w.heap.size := World.block_lt_of_cell? w _ g0
  have hgo := opAt_eq hoq
  have hlow := h.ops.low
  simp only at hlow
  have Hgo := hide hgo
  have R1 := hide r1
  have R2 := hide r2
  have R3_ := hide r3
  have K0 := hide g0
  have K1 := hide g1
  have K2 := hide g2
  have K3 := hide g3
  clear h hl hoq r1 r2 r3 r4 g0 g1 g2 g3 hgo
  have Hbl := hide (Below.refl w.heap.size w)
  go_enter Tryz.func87, Tryz.ntmps87
  go_upto_region 1 with (fail)
  obtain ⟨B0, hB0⟩ : ∃ B0, B0 = w.heap.size := ⟨_, rfl⟩
  have HB0 := hide hB0
  clear hB0
  have s_0 : B0 ≤ w.heap.size := Nat.le_trans (Nat.le_of_eq HB0.out) Hbl.out.size
  have hyt := Blk.new (w) 25 [.int .i64 N, .slice I nI cI, .slice G nG cG, .slice (some ⟨b1, off1, none⟩) nO cO]
  have hbW : Below (w).heap.size (w) ((w).alloc (.cells #[.int .i64 N, .slice I nI cI, .slice G nG cG, .slice (some ⟨b1, off1, none⟩) nO cO] 25)) := (Below.refl _ _).alloc (Nat.le_refl _) _
  obtain ⟨w0, hW⟩ : ∃ W, W = (w).alloc (.cells #[.int .i64 N, .slice I nI cI, .slice G nG cG, .slice (some ⟨b1, off1, none⟩) nO cO] 25) := ⟨_, rfl⟩
  rw [← hW] at hyt hbW ⊢
  replace Hbl := hide (Hbl.out.trans (hbW.mono Hbl.out.size))
  have Ht := hide hyt
  clear hW hbW hyt
  generalize w.heap.size = gT at Ht s_0 ⊢
  have t0 := Ht.out.cell 0
  have t1 := Ht.out.cell 1
  have t2 := Ht.out.cell 2
  have t3 := Ht.out.cell 3
  have tl := Ht.out.lt
  simp only [List.getElem?_cons_zero, List.getElem?_cons_succ] at t0 t1 t2 t3
  have a_t : B0 ≤ gT := by omega
  clear s_0
  go_wp2_with fail
  have hw0 := Hbl.out.size
  clear t0 t1 t2 t3 tl
  have hmk : ((q : Nat) : Int) < (nO : Int) := by omega
  go_loopw [7, 8] (fun ov i wr => ∃ (k : Nat) (O' : Option Addr) (r oc : Nat) (vs : List Value), k ≤ N ∧ i = .int .i64 k ∧ ov = .slice O' r oc ∧ OwnE Enc.int 3 w0.heap.size (fun b => w0.heap.size ≤ b) wr O' r oc vs (pick k fun p => hasB o.add (p : Int) || (hasB l (p : Int) && !hasB o.del (p : Int))) ∧ Below w0.heap.size w0 wr) (fun _ i _ => N - (intOf i).toNat)
  case atStart => exact ⟨0, none, 0, 0, [], by omega, rfl, rfl, OwnE.nil _ _ _ _ _, Below.refl _ _⟩
  case round =>
    obtain ⟨k, O', r, oc, vs, hk, rfl, rfl, hown, hb⟩ := hrel
    have hqk : r ≤ k := by
      rw [← hown.len]
      unfold pick
      rw [List.length_map]
      exact Nat.le_trans (List.length_filter_le _ _) (by simp)
    replace Ht := hide (Ht.out.keep hb)
    replace Hbl := hide (Hbl.out.trans (hb.mono Hbl.out.size))
    have Hown := hide hown
    have Hb := hide hb
    clear hown hb
    have t0 := Ht.out.cell 0
    have t1 := Ht.out.cell 1
    have t2 := Ht.out.cell 2
    have t3 := Ht.out.cell 3
    have tl := Ht.out.lt
    simp only [List.getElem?_cons_zero, List.getElem?_cons_succ] at t0 t1 t2 t3
    have k0 := ((olds Hbl.out).1 _ _ hb1).trans K0.out
    have k1 := ((olds Hbl.out).1 _ _ hb1).trans K1.out
    have k2 := ((olds Hbl.out).1 _ _ hb1).trans K2.out
    have k3 := ((olds Hbl.out).1 _ _ hb1).trans K3.out
    by_cases hlt : k < N
    · have hki : (k : Int) < (N : Int) := by omega
      have hps := pick_succ k fun p => hasB o.add (p : Int) || (hasB l (p : Int) && !hasB o.del (p : Int))
      have c1 := Has_ct A2 n2 d2 o.add (k : Int) wr (R2.out.keep Hbl.out)
      have c2 := Has_ct B m d l (k : Int) wr (Hl.out.keep Hbl.out)
      have c3 := Has_ct A3 n3 d3 o.del (k : Int) wr (R3_.out.keep Hbl.out)
      obtain ⟨v1, hv1⟩ : ∃ z, z = hasB o.add (k : Int) := ⟨_, rfl⟩
      obtain ⟨v2, hv2⟩ : ∃ z, z = hasB l (k : Int) := ⟨_, rfl⟩
      obtain ⟨v3, hv3⟩ : ∃ z, z = hasB o.del (k : Int) := ⟨_, rfl⟩
      rw [← hv1] at c1
      rw [← hv2] at c2
      rw [← hv3] at c3
      simp only [← hv1, ← hv2, ← hv3] at hps
      have Hps := hide hps
      have C1 := hide c1
      have C2 := hide c2
      have C3 := hide c3
      have hsz1 := Hb.out.size
      clear hps c1 c2 c3 hv1 hv2 hv3
      cases v1 <;> cases v2 <;> cases v3
      · go_wp2_with (first
          | (go_at_call 85; (first | (with_reducible refine C1.out.mono ?_) | (with_reducible refine C2.out.mono ?_) | (with_reducible refine C3.out.mono ?_)); rintro e w5 ⟨rfl, rfl⟩))
        go_roundw
        case rel => exact ⟨k + 1, O', r, oc, vs, by omega, by go_num, rfl, by rw [Hps.out]; simpa using Hown.out, Hb.out⟩
        case measure => simp [intOf]; omega
      · go_wp2_with (first
          | (go_at_call 85; (first | (with_reducible refine C1.out.mono ?_) | (with_reducible refine C2.out.mono ?_) | (with_reducible refine C3.out.mono ?_)); rintro e w5 ⟨rfl, rfl⟩))
        go_roundw
        case rel => exact ⟨k + 1, O', r, oc, vs, by omega, by go_num, rfl, by rw [Hps.out]; simpa using Hown.out, Hb.out⟩
        case measure => simp [intOf]; omega
      · go_wp2_with (first
          | (go_at_call 85; (first | (with_reducible refine C1.out.mono ?_) | (with_reducible refine C2.out.mono ?_) | (with_reducible refine C3.out.mono ?_)); rintro e w5 ⟨rfl, rfl⟩)
          | (at_builtin
             refine wpList_pushE rfl _ _ 22 rfl w0.heap.size 3 i1 (.int .i64 0) 8 Tryz.underlying22 hi1 hy0 hy1 hy2 rfl (by decide) rfl Hown.out (fun r hr => (Hown.out.base hr).1) [.int .i64 k] k (by intro u hu; simp at hu; subst hu; rfl) rfl (firm_int (by omega) (by omega)) (by omega) (by omega) hsz1 ?_
             intro O6 oc6 w6 hown6 hch6 hat6
             have hown6 := hown6.less (M' := fun b => w0.heap.size ≤ b) (fun i _ e => .inl e)
             have hb6 := row_below Hb.out hsz1 hch6 (fun r hr => (Hown.out.base hr).1)
             have Hown6 := hide hown6
             have Hb6 := hide hb6
             clear hown6 hch6 hat6 hb6))
        go_roundw
        case rel => exact ⟨k + 1, O6, r + 1, oc6, _, by omega, by go_num, rfl, by rw [Hps.out]; simpa using Hown6.out, Hb6.out⟩
        case measure => simp [intOf]; omega
      · go_wp2_with (first
          | (go_at_call 85; (first | (with_reducible refine C1.out.mono ?_) | (with_reducible refine C2.out.mono ?_) | (with_reducible refine C3.out.mono ?_)); rintro e w5 ⟨rfl, rfl⟩))
        go_roundw
        case rel => exact ⟨k + 1, O', r, oc, vs, by omega, by go_num, rfl, by rw [Hps.out]; simpa using Hown.out, Hb.out⟩
        case measure => simp [intOf]; omega
      · go_wp2_with (first
          | (go_at_call 85; (first | (with_reducible refine C1.out.mono ?_) | (with_reducible refine C2.out.mono ?_) | (with_reducible refine C3.out.mono ?_)); rintro e w5 ⟨rfl, rfl⟩)
          | (at_builtin
             refine wpList_pushE rfl _ _ 22 rfl w0.heap.size 3 i1 (.int .i64 0) 8 Tryz.underlying22 hi1 hy0 hy1 hy2 rfl (by decide) rfl Hown.out (fun r hr => (Hown.out.base hr).1) [.int .i64 k] k (by intro u hu; simp at hu; subst hu; rfl) rfl (firm_int (by omega) (by omega)) (by omega) (by omega) hsz1 ?_
             intro O6 oc6 w6 hown6 hch6 hat6
             have hown6 := hown6.less (M' := fun b => w0.heap.size ≤ b) (fun i _ e => .inl e)
             have hb6 := row_below Hb.out hsz1 hch6 (fun r hr => (Hown.out.base hr).1)
             have Hown6 := hide hown6
             have Hb6 := hide hb6
             clear hown6 hch6 hat6 hb6))
        go_roundw
        case rel => exact ⟨k + 1, O6, r + 1, oc6, _, by omega, by go_num, rfl, by rw [Hps.out]; simpa using Hown6.out, Hb6.out⟩
        case measure => simp [intOf]; omega
      · go_wp2_with (first
          | (go_at_call 85; (first | (with_reducible refine C1.out.mono ?_) | (with_reducible refine C2.out.mono ?_) | (with_reducible refine C3.out.mono ?_)); rintro e w5 ⟨rfl, rfl⟩)
          | (at_builtin
             refine wpList_pushE rfl _ _ 22 rfl w0.heap.size 3 i1 (.int .i64 0) 8 Tryz.underlying22 hi1 hy0 hy1 hy2 rfl (by decide) rfl Hown.out (fun r hr => (Hown.out.base hr).1) [.int .i64 k] k (by intro u hu; simp at hu; subst hu; rfl) rfl (firm_int (by omega) (by omega)) (by omega) (by omega) hsz1 ?_
             intro O6 oc6 w6 hown6 hch6 hat6
             have hown6 := hown6.less (M' := fun b => w0.heap.size ≤ b) (fun i _ e => .inl e)
             have hb6 := row_below Hb.out hsz1 hch6 (fun r hr => (Hown.out.base hr).1)
             have Hown6 := hide hown6
             have Hb6 := hide hb6
             clear hown6 hch6 hat6 hb6))
        go_roundw
        case rel => exact ⟨k + 1, O6, r + 1, oc6, _, by omega, by go_num, rfl, by rw [Hps.out]; simpa using Hown6.out, Hb6.out⟩
        case measure => simp [intOf]; omega
      · go_wp2_with (first
          | (go_at_call 85; (first | (with_reducible refine C1.out.mono ?_) | (with_reducible refine C2.out.mono ?_) | (with_reducible refine C3.out.mono ?_)); rintro e w5 ⟨rfl, rfl⟩)
          | (at_builtin
             refine wpList_pushE rfl _ _ 22 rfl w0.heap.size 3 i1 (.int .i64 0) 8 Tryz.underlying22 hi1 hy0 hy1 hy2 rfl (by decide) rfl Hown.out (fun r hr => (Hown.out.base hr).1) [.int .i64 k] k (by intro u hu; simp at hu; subst hu; rfl) rfl (firm_int (by omega) (by omega)) (by omega) (by omega) hsz1 ?_
             intro O6 oc6 w6 hown6 hch6 hat6
             have hown6 := hown6.less (M' := fun b => w0.heap.size ≤ b) (fun i _ e => .inl e)
             have hb6 := row_below Hb.out hsz1 hch6 (fun r hr => (Hown.out.base hr).1)
             have Hown6 := hide hown6
             have Hb6 := hide hb6
             clear hown6 hch6 hat6 hb6))
        go_roundw
        case rel => exact ⟨k + 1, O6, r + 1, oc6, _, by omega, by go_num, rfl, by rw [Hps.out]; simpa using Hown6.out, Hb6.out⟩
        case measure => simp [intOf]; omega
      · go_wp2_with (first
          | (go_at_call 85; (first | (with_reducible refine C1.out.mono ?_) | (with_reducible refine C2.out.mono ?_) | (with_reducible refine C3.out.mono ?_)); rintro e w5 ⟨rfl, rfl⟩)
          | (at_builtin
             refine wpList_pushE rfl _ _ 22 rfl w0.heap.size 3 i1 (.int .i64 0) 8 Tryz.underlying22 hi1 hy0 hy1 hy2 rfl (by decide) rfl Hown.out (fun r hr => (Hown.out.base hr).1) [.int .i64 k] k (by intro u hu; simp at hu; subst hu; rfl) rfl (firm_int (by omega) (by omega)) (by omega) (by omega) hsz1 ?_
             intro O6 oc6 w6 hown6 hch6 hat6
             have hown6 := hown6.less (M' := fun b => w0.heap.size ≤ b) (fun i _ e => .inl e)
             have hb6 := row_below Hb.out hsz1 hch6 (fun r hr => (Hown.out.base hr).1)
             have Hown6 := hide hown6
             have Hb6 := hide hb6
             clear hown6 hch6 hat6 hb6))
        go_roundw
        case rel => exact ⟨k + 1, O6, r + 1, oc6, _, by omega, by go_num, rfl, by rw [Hps.out]; simpa using Hown6.out, Hb6.out⟩
        case measure => simp [intOf]; omega
    · obtain rfl : N = k := by omega
      have hsz9 : w.heap.size ≤ w0.heap.size := hw0
      have hints := own_low Hown.out.ints hsz9
      have hql := Hown.out.len
      have Hints := hide hints
      have Hq := hide hql
      clear hints hql
      go_wp2_with fail
      go_ret
      rw [Hgo.out]
      refine ⟨Hbl.out, O', oc, ?_, ?_⟩
      · unfold afterF
        rw [Hq.out]
        rfl
      · unfold afterF
        rw [Hq.out]
        exact Hints.out
end Go.Proofs.YtemiecammmbjdaaGreat
