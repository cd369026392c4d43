/- A sequence of operators as one, fact by fact, in plain Lean. -/
import Derived.Test.YtnfeknfakkdbhaaMc3
namespace Go.Proofs.Ytnfeknfakkdbhaa
set_option linter.unusedVariables false
set_option linter.unusedSimpArgs false
open Go.RowKit

/-- what is known of a fact: its state, whether it changed, whether it is asked for -/
structure FS where
  now : Int
  ch : Bool
  pr : Bool
def factStep (p : Int) (o : Opr) (s : FS) : Option FS :=
  if hasB o.pre p = true ∧ s.now < 0 then none else
  some ⟨if hasB o.del p = true then -1 else if hasB o.add p = true then 1 else if hasB o.pre p = true ∧ s.now = 0 then 1 else s.now, s.ch || hasB o.add p || hasB o.del p, s.pr || (hasB o.pre p && decide (s.now = 0))⟩
def factRun (p : Int) : FS → List Opr → Option FS
  | s, [] => some s
  | s, o :: os => match factStep p o s with
    | none => none
    | some s' => factRun p s' os
/-- a fact's state and the operator so far -/
structure FOk (p : Int) (out : Opr) (s : FS) : Prop where
  pre : p ∈ out.pre ↔ s.pr = true
  add : p ∈ out.add ↔ s.ch = true ∧ 0 < s.now
  del : p ∈ out.del ↔ s.ch = true ∧ s.now < 0
  zero : s.now = 0 ↔ s.pr = false ∧ s.ch = false
  one : s.now = -1 ∨ s.now = 0 ∨ s.now = 1
  ask : s.now = -1 → s.ch = true
theorem FOk.start (p : Int) : FOk p zeroOp ⟨0, false, false⟩ := ⟨by simp [zeroOp], by simp [zeroOp], by simp [zeroOp], by simp, by simp, by simp⟩
theorem mem_has {l : List Int} {p : Int} : hasB l p = true ↔ p ∈ l := by simp [hasB]
theorem FOk.step {p : Int} {out o : Opr} {s : FS} (h : FOk p out s) (hap : ¬ (p ∈ o.add ∧ p ∈ o.del)) (hm : ¬ (p ∈ o.pre ∧ p ∈ out.del)) : ∃ s', factStep p o s = some s' ∧ FOk p (combStep out o) s' := by
  obtain ⟨now, ch, pr⟩ := s
  have h1 := h.pre
  have h2 := h.add
  have h3 := h.del
  have h4 := h.zero
  have h5 := h.one
  have h6 := h.ask
  simp only at h1 h2 h3 h4 h5 h6
  unfold factStep
  have hno : ¬ (hasB o.pre p = true ∧ now < 0) := fun ⟨e1, e2⟩ => hm ⟨mem_has.1 e1, h3.2 ⟨h6 (by omega), e2⟩⟩
  rw [if_neg (by exact hno)]
  refine ⟨_, rfl, ?_⟩
  have hp : p ∈ (combStep out o).pre ↔ p ∈ out.pre ∨ (p ∈ o.pre ∧ p ∉ out.add) := by
    show p ∈ updF out.pre (updF o.pre [] out.add) [] ↔ _
    rw [updF_mem, updF_mem]
    simp
  have ha : p ∈ (combStep out o).add ↔ (p ∈ out.add ∧ p ∉ o.del) ∨ p ∈ o.add := by
    show p ∈ updF out.add o.add o.del ↔ _
    rw [updF_mem]
  have hd : p ∈ (combStep out o).del ↔ (p ∈ out.del ∧ p ∉ o.add) ∨ p ∈ o.del := by
    show p ∈ updF out.del o.del o.add ↔ _
    rw [updF_mem]
  have q1 : hasB o.pre p = decide (p ∈ o.pre) := by simp [hasB]
  have q2 : hasB o.add p = decide (p ∈ o.add) := by simp [hasB]
  have q3 : hasB o.del p = decide (p ∈ o.del) := by simp [hasB]
  rw [q1, q2, q3]
  clear q1 q2 q3 hno h
  rcases h5 with rfl | rfl | rfl <;> cases ch <;> cases pr <;> by_cases a1 : p ∈ o.pre <;> by_cases a2 : p ∈ o.add <;> by_cases a3 : p ∈ o.del <;>
    first
    | (exfalso; simp_all; done)
    | (refine ⟨?_, ?_, ?_, ?_, ?_, ?_⟩ <;> simp_all)
theorem apart_mem {o : Opr} (h : meetB o.add o.del = false) (p : Int) : ¬ (p ∈ o.add ∧ p ∈ o.del) := fun ⟨h1, h2⟩ => by
  have := meetB_iff.2 ⟨p, h1, h2⟩
  rw [h] at this
  cases this
/-- where a state permits the sequence, each fact goes through -/
theorem comb_some {p : Int} : ∀ (os : List Opr) (out r : Opr) (s : FS), (∀ o ∈ os, meetB o.add o.del = false) → FOk p out s → combF out os = some r → ∃ s', factRun p s os = some s' ∧ FOk p r s' := by
  intro os
  induction os with
  | nil =>
    intro out r s _ hs h
    unfold combF at h
    obtain rfl := Option.some.inj h
    exact ⟨s, rfl, hs⟩
  | cons o os ih =>
    intro out r s hap hs h
    unfold combF at h
    split at h
    · cases h
    · rename_i hm
      have hmm : ¬ (p ∈ o.pre ∧ p ∈ out.del) := fun ⟨h1, h2⟩ => hm (meetB_iff.2 ⟨p, h1, h2⟩)
      obtain ⟨s', e1, e2⟩ := hs.step (apart_mem (hap o (List.mem_cons_self ..)) p) hmm
      obtain ⟨s2, e3, e4⟩ := ih _ r s' (fun q hq => hap q (List.mem_cons_of_mem _ hq)) e2 h
      refine ⟨s2, ?_, e4⟩
      unfold factRun
      rw [e1]
      exact e3
/-- where none does, some fact stops -/
theorem comb_none {N : Int} : ∀ (os : List Opr) (out : Opr) (s : Int → FS), (∀ o ∈ os, meetB o.add o.del = false ∧ setB N o.pre = true) → (∀ p, FOk p out (s p)) → combF out os = none → ∃ p, 0 ≤ p ∧ p < N ∧ factRun p (s p) os = none := by
  intro os
  induction os with
  | nil => intro out s _ _ h; unfold combF at h; cases h
  | cons o os ih =>
    intro out s hap hs h
    unfold combF at h
    obtain ⟨ha, hset⟩ := hap o (List.mem_cons_self ..)
    split at h
    · rename_i hm
      obtain ⟨p, h1, h2⟩ := meetB_iff.1 hm
      have hr := (setB_iff.1 hset).2 p h1
      refine ⟨p, hr.1, hr.2, ?_⟩
      have hst : factStep p o (s p) = none := by
        unfold factStep
        rw [if_pos ⟨mem_has.2 h1, ((hs p).del.1 h2).2⟩]
      unfold factRun
      rw [hst]
    · rename_i hm
      have hstep : ∀ p, ∃ s', factStep p o (s p) = some s' ∧ FOk p (combStep out o) s' := fun p =>
        (hs p).step (apart_mem ha p) (fun ⟨h1, h2⟩ => hm (meetB_iff.2 ⟨p, h1, h2⟩))
      obtain ⟨s2, hs2⟩ : ∃ s2 : Int → FS, ∀ p, factStep p o (s p) = some (s2 p) ∧ FOk p (combStep out o) (s2 p) := ⟨fun p => Classical.choose (hstep p), fun p => Classical.choose_spec (hstep p)⟩
      obtain ⟨p, h1, h2, h3⟩ := ih _ s2 (fun q hq => hap q (List.mem_cons_of_mem _ hq)) (fun p => (hs2 p).2) h
      refine ⟨p, h1, h2, ?_⟩
      unfold factRun
      rw [(hs2 p).1]
      exact h3
def fr (os : List Opr) (p : Int) : Option FS := factRun p ⟨0, false, false⟩ os
def upto (n : Nat) : List Int := (List.range n).map Int.ofNat
theorem upto_mem {n : Nat} {p : Int} : p ∈ upto n ↔ 0 ≤ p ∧ p < n := by
  unfold upto
  rw [List.mem_map]
  constructor
  · rintro ⟨k, hk, rfl⟩
    have := List.mem_range.1 hk
    exact ⟨Int.natCast_nonneg k, by show (k : Int) < n; omega⟩
  · rintro ⟨h1, h2⟩
    exact ⟨p.toNat, List.mem_range.2 (by omega), by simp; omega⟩
theorem upto_up (n : Nat) : (upto n).Pairwise (· < ·) := by
  unfold upto
  rw [List.pairwise_map]
  exact List.pairwise_lt_range.imp fun h => by simpa using h
theorem upto_succ (n : Nat) : upto (n + 1) = upto n ++ [(n : Int)] := by
  unfold upto
  rw [List.range_succ, List.map_append]
  rfl
def isPre (os : List Opr) (p : Int) : Bool := match fr os p with | some s => s.pr | none => false
def isAdd (os : List Opr) (p : Int) : Bool := match fr os p with | some s => s.ch && decide (0 < s.now) | none => false
def isDel (os : List Opr) (p : Int) : Bool := match fr os p with | some s => s.ch && decide (s.now < 0) | none => false
/-- Combined, up to fact n -/
def combTo (os : List Opr) (n : Nat) : Opr := ⟨(upto n).filter (isPre os), (upto n).filter (isAdd os), (upto n).filter (isDel os), (os.map (·.cost)).sum⟩
theorem combF_sets {n : Nat} : ∀ (os : List Opr) (out r : Opr), SetOp n out → (∀ o ∈ os, SetOp n o) → combF out os = some r → SetOp n r ∧ r.cost = out.cost + (os.map (·.cost)).sum := by
  intro os
  induction os with
  | nil =>
    intro out r h _ he
    unfold combF at he
    obtain rfl := Option.some.inj he
    exact ⟨h, by simp⟩
  | cons o os ih =>
    intro out r h hs he
    unfold combF at he
    split at he
    · cases he
    · obtain ⟨h1, h2⟩ := ih _ r (combStep_sets h (hs o (List.mem_cons_self ..))) (fun q hq => hs q (List.mem_cons_of_mem _ hq)) he
      refine ⟨h1, ?_⟩
      rw [h2, List.map_cons, List.sum_cons]
      show out.cost + o.cost + _ = _
      omega
theorem zero_sets (n : Nat) : SetOp n zeroOp := ⟨by simp [setB, zeroOp], by simp [setB, zeroOp], by simp [setB, zeroOp]⟩
/-- the law of Combine: fact by fact -/
theorem comb_law {N : Nat} {os : List Opr} (hs : ∀ o ∈ os, SetOp N o ∧ meetB o.add o.del = false) :
    (combF zeroOp os = none ∧ ∃ p, 0 ≤ p ∧ p < (N : Int) ∧ fr os p = none) ∨ (combF zeroOp os = some (combTo os N) ∧ ∀ p, ∃ s, fr os p = some s) := by
  cases h : combF zeroOp os with
  | none => exact .inl ⟨rfl, comb_none os zeroOp (fun _ => ⟨0, false, false⟩) (fun o ho => ⟨(hs o ho).2, (hs o ho).1.pre⟩) (fun p => FOk.start p) h⟩
  | some r =>
    have hall := fun p => comb_some os zeroOp r ⟨0, false, false⟩ (fun o ho => (hs o ho).2) (FOk.start p) h
    obtain ⟨hset, hcost⟩ := combF_sets os zeroOp r (zero_sets N) (fun o ho => (hs o ho).1) h
    refine .inr ⟨?_, fun p => by obtain ⟨s, h1, _⟩ := hall p; exact ⟨s, h1⟩⟩
    have key : ∀ {l : List Int} (f : Int → Bool), setB N l = true → (∀ p, p ∈ l ↔ f p = true) → l = (upto N).filter f := fun {l} f hl hf =>
      up_ext (setB_iff.1 hl).1 ((upto_up N).filter _) (fun p => by
        rw [List.mem_filter, upto_mem, ← hf]
        exact ⟨fun e => ⟨(setB_iff.1 hl).2 p e, e⟩, fun e => e.2⟩)
    have e1 : r.pre = (upto N).filter (isPre os) := key _ hset.pre (fun p => by
      obtain ⟨s, h1, h2⟩ := hall p
      unfold isPre fr
      rw [h1, h2.pre])
    have e2 : r.add = (upto N).filter (isAdd os) := key _ hset.add (fun p => by
      obtain ⟨s, h1, h2⟩ := hall p
      unfold isAdd fr
      rw [h1, h2.add]
      simp)
    have e3 : r.del = (upto N).filter (isDel os) := key _ hset.del (fun p => by
      obtain ⟨s, h1, h2⟩ := hall p
      unfold isDel fr
      rw [h1, h2.del]
      simp)
    have e4 : r.cost = (os.map (·.cost)).sum := by
      have : zeroOp.cost = 0 := rfl
      omega
    obtain ⟨q1, q2, q3, q4⟩ := r
    simp only at e1 e2 e3 e4
    rw [e1, e2, e3, e4]
    rfl
end Go.Proofs.Ytnfeknfakkdbhaa
