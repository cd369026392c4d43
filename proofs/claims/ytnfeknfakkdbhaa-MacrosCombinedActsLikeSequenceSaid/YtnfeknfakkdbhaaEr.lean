/- Plans executed, in plain Lean; a sequence of operators and its one operator. -/
import Derived.Test.YtnfeknfakkdbhaaCq
import Derived.Test.YtnfeknfakkdbhaaMh
import Derived.Test.YtnfeknfakkdbhaaMj
namespace Go.Proofs.Ytnfeknfakkdbhaa
set_option linter.unusedVariables false
set_option linter.unusedSimpArgs false

/-- the states behind s that the steps reach, as far as they are applicable -/
def runT : List Int → List Opr → List (List Int)
  | _, [] => []
  | s, o :: os => if subsetB o.pre s = true then updF s o.add o.del :: runT (updF s o.add o.del) os else []
/-- the state behind all the steps -/
def execO : List Int → List Opr → Option (List Int)
  | s, [] => some s
  | s, o :: os => if subsetB o.pre s = true then execO (updF s o.add o.del) os else none
def runF (os : List Opr) (s : List Int) (l : List Int) : List (List Int) := s :: runT s (l.map (opAt os))
theorem runT_len (s : List Int) (os : List Opr) : (runT s os).length ≤ os.length := by
  induction os generalizing s with
  | nil => simp [runT]
  | cons o os ih =>
    unfold runT
    split
    · simp only [List.length_cons]
      have := ih (updF s o.add o.del)
      omega
    · simp
theorem runF_len (os : List Opr) (s : List Int) (l : List Int) : (runF os s l).length ≤ l.length + 1 := by
  have := runT_len s (l.map (opAt os))
  rw [List.length_map] at this
  unfold runF
  simp only [List.length_cons]
  omega
theorem exec_some : ∀ (os : List Opr) (s r : List Int), execO s os = some r → (runT s os).length = os.length ∧ (s :: runT s os)[os.length]? = some r := by
  intro os
  induction os with
  | nil => intro s r h; unfold execO at h; obtain rfl := Option.some.inj h; simp [runT]
  | cons o os ih =>
    intro s r h
    unfold execO at h
    split at h
    · rename_i hp
      obtain ⟨h1, h2⟩ := ih _ _ h
      unfold runT
      rw [if_pos hp]
      refine ⟨by simp [h1], ?_⟩
      rw [List.length_cons, List.getElem?_cons_succ]
      exact h2
    · cases h
theorem exec_none : ∀ (os : List Opr) (s : List Int), execO s os = none → (runT s os).length < os.length := by
  intro os
  induction os with
  | nil => intro s h; unfold execO at h; cases h
  | cons o os ih =>
    intro s h
    unfold execO at h
    unfold runT
    split at h
    · rename_i hp
      have := ih _ h
      rw [if_pos hp]
      simp only [List.length_cons]
      omega
    · rename_i hp
      rw [if_neg hp]
      simp
theorem exec_up : ∀ (os : List Opr) (s r : List Int), s.Pairwise (· < ·) → execO s os = some r → r.Pairwise (· < ·) := by
  intro os
  induction os with
  | nil => intro s r hs h; unfold execO at h; obtain rfl := Option.some.inj h; exact hs
  | cons o os ih =>
    intro s r hs h
    unfold execO at h
    split at h
    · exact ih _ _ (updF_up _ _ _) h
    · cases h
theorem execO_append (a b : List Opr) (s : List Int) : execO s (a ++ b) = (execO s a).bind fun r => execO r b := by
  induction a generalizing s with
  | nil => rfl
  | cons o a ih =>
    rw [List.cons_append]
    show (if subsetB o.pre s = true then execO (updF s o.add o.del) (a ++ b) else none) = (if subsetB o.pre s = true then execO (updF s o.add o.del) a else none).bind fun r => execO r b
    split
    · exact ih _
    · rfl
/-- all states are sets -/
theorem runT_sets {N : Nat} : ∀ (os : List Opr) (s : List Int), setB N s = true → (∀ o ∈ os, setB N o.add = true) → ∀ r ∈ runT s os, setB N r = true := by
  intro os
  induction os with
  | nil => intro s _ _ r hr; simp [runT] at hr
  | cons o os ih =>
    intro s hs ho r hr
    have hn : setB N (updF s o.add o.del) = true := updF_set (setB_iff.1 hs).2 (setB_iff.1 (ho o (List.mem_cons_self ..))).2
    unfold runT at hr
    split at hr
    · rcases List.mem_cons.1 hr with rfl | hr
      · exact hn
      · exact ih _ hn (fun q hq => ho q (List.mem_cons_of_mem _ hq)) r hr
    · cases hr
theorem exec_set {N : Nat} : ∀ (os : List Opr) (s r : List Int), setB N s = true → (∀ o ∈ os, setB N o.add = true) → execO s os = some r → setB N r = true := by
  intro os
  induction os with
  | nil => intro s r hs _ h; unfold execO at h; obtain rfl := Option.some.inj h; exact hs
  | cons o os ih =>
    intro s r hs ho h
    unfold execO at h
    split at h
    · exact ih _ _ (updF_set (setB_iff.1 hs).2 (setB_iff.1 (ho o (List.mem_cons_self ..))).2) (fun q hq => ho q (List.mem_cons_of_mem _ hq)) h
    · cases h
/-- combined operators keep what is added and what is deleted apart -/
theorem combStep_apart {out o : Opr} (h : ∀ x, ¬ (x ∈ out.add ∧ x ∈ out.del)) (k : ∀ x, ¬ (x ∈ o.add ∧ x ∈ o.del)) : ∀ x, ¬ (x ∈ (combStep out o).add ∧ x ∈ (combStep out o).del) := by
  intro x
  show ¬ (x ∈ updF out.add o.add o.del ∧ x ∈ updF out.del o.del o.add)
  rw [updF_mem, updF_mem]
  have h1 := h x
  have h2 := k x
  by_cases a1 : x ∈ out.add <;> by_cases a2 : x ∈ out.del <;> by_cases a3 : x ∈ o.add <;> by_cases a4 : x ∈ o.del <;> simp_all
theorem combStep_next {out o : Opr} (k : ∀ x, ¬ (x ∈ o.add ∧ x ∈ o.del)) (s : List Int) : updF (updF s out.add out.del) o.add o.del = updF s (combStep out o).add (combStep out o).del := by
  refine up_ext (updF_up _ _ _) (updF_up _ _ _) fun x => ?_
  show _ ↔ x ∈ updF s (updF out.add o.add o.del) (updF out.del o.del o.add)
  rw [updF_mem, updF_mem, updF_mem, updF_mem, updF_mem]
  have h2 := k x
  by_cases a0 : x ∈ s <;> by_cases a1 : x ∈ out.add <;> by_cases a2 : x ∈ out.del <;> by_cases a3 : x ∈ o.add <;> by_cases a4 : x ∈ o.del <;> simp_all
theorem combStep_can {out o : Opr} {s : List Int} (hm : ¬ meetB o.pre out.del = true) (hp : subsetB out.pre s = true) : subsetB o.pre (updF s out.add out.del) = true ↔ subsetB (combStep out o).pre s = true := by
  have hm' : ∀ x ∈ o.pre, x ∉ out.del := fun x h1 h2 => hm (meetB_iff.2 ⟨x, h1, h2⟩)
  rw [subsetB_iff, subsetB_iff] at *
  show _ ↔ ∀ x ∈ updF out.pre (updF o.pre [] out.add) [], x ∈ s
  constructor
  · intro h x hx
    rw [updF_mem, updF_mem] at hx
    rcases hx with ⟨hx, _⟩ | ⟨hx, hn⟩ | hx
    · exact hp x hx
    · have := h x hx
      rw [updF_mem] at this
      rcases this with ⟨e, _⟩ | e
      · exact e
      · exact absurd e hn
    · cases hx
  · intro h x hx
    rw [updF_mem]
    by_cases e : x ∈ out.add
    · exact .inr e
    · refine .inl ⟨h x ?_, hm' x hx⟩
      rw [updF_mem, updF_mem]
      exact .inr (.inl ⟨hx, e⟩)
theorem comb_pre_mono : ∀ (os : List Opr) (out r : Opr), combF out os = some r → ∀ x ∈ out.pre, x ∈ r.pre := by
  intro os
  induction os with
  | nil => intro out r h x hx; unfold combF at h; obtain rfl := Option.some.inj h; exact hx
  | cons o os ih =>
    intro out r h x hx
    unfold combF at h
    split at h
    · cases h
    · refine ih _ _ h x ?_
      show x ∈ updF out.pre (updF o.pre [] out.add) []
      rw [updF_mem]
      exact .inl ⟨hx, by simp⟩
theorem comb_exec : ∀ (os : List Opr) (out : Opr) (s : List Int), (∀ x, ¬ (x ∈ out.add ∧ x ∈ out.del)) → (∀ o ∈ os, ∀ x, ¬ (x ∈ o.add ∧ x ∈ o.del)) → subsetB out.pre s = true →
    (combF out os = none → execO (updF s out.add out.del) os = none) ∧
    ∀ r, combF out os = some r → (∀ x, ¬ (x ∈ r.add ∧ x ∈ r.del)) ∧ execO (updF s out.add out.del) os = if subsetB r.pre s = true then some (updF s r.add r.del) else none := by
  intro os
  induction os with
  | nil =>
    intro out s ha _ hp
    refine ⟨fun h => (by unfold combF at h; cases h), fun r h => ?_⟩
    unfold combF at h
    obtain rfl := Option.some.inj h
    refine ⟨ha, ?_⟩
    rw [if_pos hp]
    rfl
  | cons o os ih =>
    intro out s ha hos hp
    have ho := hos o (List.mem_cons_self ..)
    have ha' := combStep_apart ha ho
    by_cases hm : meetB o.pre out.del = true
    · refine ⟨fun _ => ?_, fun r h => ?_⟩
      · obtain ⟨x, h1, h2⟩ := meetB_iff.1 hm
        unfold execO
        rw [if_neg]
        intro e
        have := subsetB_iff.1 e x h1
        rw [updF_mem] at this
        rcases this with ⟨_, e⟩ | e
        · exact e h2
        · exact ha x ⟨e, h2⟩
      · unfold combF at h
        rw [if_pos hm] at h
        cases h
    · have hcan := combStep_can hm hp
      have hstep : combF out (o :: os) = combF (combStep out o) os := by
        conv => lhs; unfold combF
        rw [if_neg hm]
      rw [hstep]
      by_cases hc : subsetB (combStep out o).pre s = true
      · have hex : execO (updF s out.add out.del) (o :: os) = execO (updF s (combStep out o).add (combStep out o).del) os := by
          conv => lhs; unfold execO
          rw [if_pos (hcan.2 hc), combStep_next ho]
        rw [hex]
        exact ih (combStep out o) s ha' (fun q hq => hos q (List.mem_cons_of_mem _ hq)) hc
      · have hex : execO (updF s out.add out.del) (o :: os) = none := by
          unfold execO
          rw [if_neg (fun e => hc (hcan.1 e))]
        rw [hex]
        refine ⟨fun _ => rfl, fun r h => ⟨?_, ?_⟩⟩
        · -- apartness does not depend on the state
          have key : ∀ (os : List Opr) (out r : Opr), (∀ x, ¬ (x ∈ out.add ∧ x ∈ out.del)) → (∀ o ∈ os, ∀ x, ¬ (x ∈ o.add ∧ x ∈ o.del)) → combF out os = some r → ∀ x, ¬ (x ∈ r.add ∧ x ∈ r.del) := by
            intro os
            induction os with
            | nil => intro out r h _ e; unfold combF at e; obtain rfl := Option.some.inj e; exact h
            | cons o os ih =>
              intro out r h k e
              unfold combF at e
              split at e
              · cases e
              · exact ih _ _ (combStep_apart h (k o (List.mem_cons_self ..))) (fun q hq => k q (List.mem_cons_of_mem _ hq)) e
          exact key os _ r ha' (fun q hq => hos q (List.mem_cons_of_mem _ hq)) h
        · rw [if_neg]
          intro e
          refine hc (subsetB_iff.2 fun x hx => subsetB_iff.1 e x (comb_pre_mono os _ _ h x hx))
theorem updF_id {s : List Int} (h : s.Pairwise (· < ·)) : updF s [] [] = s := up_ext (updF_up _ _ _) h fun x => by rw [updF_mem]; simp
/-- THE LAW OF COMBINE, by states -/
theorem comb_state {N : Nat} {os : List Opr} (hos : ∀ o ∈ os, OkOp N o) {s : List Int} (hs : s.Pairwise (· < ·)) :
    (combF zeroOp os = none → execO s os = none) ∧ ∀ r, combF zeroOp os = some r → meetB r.add r.del = false ∧ SetOp N r ∧ r.cost = (os.map (·.cost)).sum ∧ execO s os = if subsetB r.pre s = true then some (updF s r.add r.del) else none := by
  have h := comb_exec os zeroOp s (fun x e => by cases e.1) (fun o ho x => apart_mem (hos o ho).apart x) (by simp [zeroOp, subsetB])
  have e : updF s zeroOp.add zeroOp.del = s := updF_id hs
  rw [e] at h
  refine ⟨h.1, fun r hr => ?_⟩
  obtain ⟨h1, h2⟩ := h.2 r hr
  obtain ⟨h3, h4⟩ := combF_sets os zeroOp r (zero_sets N) (fun o ho => (hos o ho).sets) hr
  refine ⟨?_, h3, ?_, h2⟩
  · cases hb : meetB r.add r.del
    · rfl
    · obtain ⟨x, hx1, hx2⟩ := meetB_iff.1 hb
      exact absurd ⟨hx1, hx2⟩ (h1 x)
  · have hz : zeroOp.cost = 0 := rfl
    omega
end Go.Proofs.Ytnfeknfakkdbhaa
