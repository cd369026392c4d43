/- A plan with macros and the plan written out: the plain law. -/
import Derived.Test.YtnfeknfakkdbhaaEr
namespace Go.Proofs.Ytnfeknfakkdbhaa
set_option linter.unusedVariables false
set_option linter.unusedSimpArgs false

def solveF (T : Tsk) (l : List Int) : Bool := match execO T.init (l.map (opAt T.ops)) with
  | some r => subsetB T.goal r
  | none => false
/-- what an extended task holds -/
theorem extLoop_ops {T : Tsk} : ∀ (ms : List (List Int)) (os : List Opr) (i : Nat), (extLoop T os i ms).2.1 = 0 → ∃ os', os'.length = ms.length ∧ (extLoop T os i ms).1 = ⟨T.facts, T.init, T.goal, os ++ os'⟩ ∧
    ∀ (j : Nat) (l : List Int), ms[j]? = some l → ∃ o, os'[j]? = some o ∧ combF zeroOp (l.map (opAt T.ops)) = some o ∧ o.cost ≤ 100 ∧ 1 ≤ l.length ∧ l.length ≤ 6 ∧ ∀ x ∈ l, 0 ≤ x ∧ x < T.ops.length := by
  intro ms
  induction ms with
  | nil => intro os i h; exact ⟨[], rfl, by simp [extLoop], fun j l hj => by simp at hj⟩
  | cons l ms ih =>
    intro os i h
    unfold extLoop at h ⊢
    by_cases h1 : (seqFault T.ops.length l (-20 - (i : Int))).1 ≠ 0
    · rw [if_pos h1] at h
      exact absurd h h1
    · rw [if_neg h1] at h ⊢
      obtain ⟨_, g1, g2, g3⟩ := seqFault_ok (k := T.ops.length) (l := l) (i := -20 - (i : Int)) (by simpa using h1)
      cases hc : combF zeroOp (l.map (opAt T.ops)) with
      | none => rw [hc] at h; simp at h
      | some o =>
        rw [hc] at h
        simp only at h ⊢
        by_cases h3 : 100 < o.cost
        · rw [if_pos h3] at h; simp at h
        · rw [if_neg h3] at h ⊢
          obtain ⟨os', e1, e2, e3⟩ := ih _ _ h
          refine ⟨o :: os', by simp [e1], by rw [e2]; simp, fun j q hj => ?_⟩
          cases j with
          | zero =>
            simp at hj
            subst hj
            exact ⟨o, rfl, hc, by omega, g1, g2, g3⟩
          | succ j =>
            rw [List.getElem?_cons_succ] at hj ⊢
            exact e3 j q hj
theorem extend_ops {T : Tsk} {ms : List (List Int)} (h : (extendR T ms).2.1 = 0) : (∃ N, OkT T N) ∧ ms.length ≤ 8 ∧ T.ops.length + ms.length ≤ 40 ∧ ∃ os', os'.length = ms.length ∧ (extendR T ms).1 = ⟨T.facts, T.init, T.goal, T.ops ++ os'⟩ ∧
    ∀ (j : Nat) (l : List Int), ms[j]? = some l → ∃ o, os'[j]? = some o ∧ combF zeroOp (l.map (opAt T.ops)) = some o ∧ o.cost ≤ 100 ∧ 1 ≤ l.length ∧ l.length ≤ 6 ∧ ∀ x ∈ l, 0 ≤ x ∧ x < T.ops.length := by
  unfold extendR at h ⊢
  by_cases h1 : (taskFault T).1 ≠ 0
  · rw [if_pos h1] at h
    exact absurd h h1
  · rw [if_neg h1] at h ⊢
    by_cases h2 : 8 < ms.length ∨ 40 < T.ops.length + ms.length
    · rw [if_pos h2] at h; simp at h
    · rw [if_neg h2] at h ⊢
      exact ⟨taskFault_ok (by simpa using h1), by omega, by omega, extLoop_ops ms T.ops 0 h⟩
theorem extend_zero {T : Tsk} {ms : List (List Int)} (h : (extendR T ms).2.1 ≠ 0) : (extendR T ms).1 = zeroT := by
  have key : ∀ (ms : List (List Int)) (os : List Opr) (i : Nat), (extLoop T os i ms).2.1 ≠ 0 → (extLoop T os i ms).1 = zeroT := by
    intro ms
    induction ms with
    | nil => intro os i h; exact absurd rfl h
    | cons l ms ih =>
      intro os i h
      unfold extLoop at h ⊢
      by_cases h1 : (seqFault T.ops.length l (-20 - (i : Int))).1 ≠ 0
      · rw [if_pos h1]
      · rw [if_neg h1] at h ⊢
        cases hc : combF zeroOp (l.map (opAt T.ops)) with
        | none => rfl
        | some o =>
          rw [hc] at h
          simp only at h ⊢
          by_cases h3 : 100 < o.cost
          · rw [if_pos h3]
          · rw [if_neg h3] at h ⊢
            exact ih _ _ h
  unfold extendR at h ⊢
  by_cases h1 : (taskFault T).1 ≠ 0
  · rw [if_pos h1]
  · rw [if_neg h1] at h ⊢
    by_cases h2 : 8 < ms.length ∨ 40 < T.ops.length + ms.length
    · rw [if_pos h2]
    · rw [if_neg h2] at h ⊢
      exact key _ _ _ h
theorem opsFault_all {n : Int} : ∀ (os : List Opr) (i : Nat), (∀ o ∈ os, opCode n o = 0) → opsFault n i os = (0, 0) := fun os i h => opsFault_zero (opsFault_ok.2 h)
theorem okop_code {N : Nat} {o : Opr} (h : OkOp N o) : opCode N o = 0 := by
  rw [opCode_set h.pre h.add h.del h.apart, inB_iff.2 ⟨h.low, h.high⟩]
  rfl
theorem okt_fault {T : Tsk} {N : Nat} (h : OkT T N) : taskFault T = (0, 0) := by
  have hf := h.facts
  rw [tf5 (by have := h.low; omega) (by rw [hf]; exact h.init) (by rw [hf]; exact h.goal) (by have := h.few; omega)]
  exact opsFault_all _ _ (fun o ho => by rw [hf]; exact okop_code (h.ops o ho))
/-- the operator of a macro of a valid task is valid -/
theorem comb_ok {T : Tsk} {N : Nat} (hok : OkT T N) {l : List Int} (hl : l.length ≤ 6) (hr : ∀ x ∈ l, 0 ≤ x ∧ x < T.ops.length) {o : Opr} (h : combF zeroOp (l.map (opAt T.ops)) = some o) (hc : o.cost ≤ 100) : OkOp N o := by
  have hos : ∀ q ∈ l.map (opAt T.ops), OkOp N q := fun q hq => by
    obtain ⟨x, hx, rfl⟩ := List.mem_map.1 hq
    exact hok.ops _ (opAt_mem (hr x hx).1 (hr x hx).2)
  obtain ⟨h1, h2, _, _⟩ := (comb_state hos (s := []) List.Pairwise.nil).2 o h
  exact ⟨h2.pre, h2.add, h2.del, h1, (comb_small hok hr hl h).1, hc⟩
theorem extend_okt {T : Tsk} {N : Nat} (hok : OkT T N) {ms : List (List Int)} (h : (extendR T ms).2.1 = 0) : OkT (extendR T ms).1 N := by
  obtain ⟨_, h8, h40, os', e1, e2, e3⟩ := extend_ops h
  rw [e2]
  refine ⟨hok.facts, hok.low, hok.init, hok.goal, by simp only [List.length_append]; omega, fun o ho => ?_⟩
  rcases List.mem_append.1 ho with ho | ho
  · exact hok.ops o ho
  · obtain ⟨j, hj⟩ := List.getElem?_of_mem ho
    have hjl := (List.getElem?_eq_some_iff.1 hj).1
    have hm : ms[j]? = some (ms[j]'(by omega)) := List.getElem?_eq_getElem _
    obtain ⟨o', f1, f2, f3, f4, f5, f6⟩ := e3 j _ hm
    rw [hj] at f1
    obtain rfl := Option.some.inj f1
    exact comb_ok hok f5 f6 f2 f3
/-- a step of the plan with macros and its piece -/
theorem piece_law {T : Tsk} {N : Nat} (hok : OkT T N) {ms : List (List Int)} (h : (extendR T ms).2.1 = 0) {x : Int} (h0 : 0 ≤ x) (h1 : x < (extendR T ms).1.ops.length) :
    (∀ y ∈ pieceF T.ops.length ms x, 0 ≤ y ∧ y < T.ops.length) ∧ costF T.ops (pieceF T.ops.length ms x) = (opAt (extendR T ms).1.ops x).cost ∧
    ∀ s : List Int, s.Pairwise (· < ·) → execO s ((pieceF T.ops.length ms x).map (opAt T.ops)) = execO s [opAt (extendR T ms).1.ops x] := by
  obtain ⟨_, h8, h40, os', e1, e2, e3⟩ := extend_ops h
  rw [e2] at h1 ⊢
  simp only [List.length_append] at h1 ⊢
  by_cases hx : x < T.ops.length
  · have he : opAt (T.ops ++ os') x = opAt T.ops x := by
      unfold opAt
      rw [List.getD_eq_getElem?_getD, List.getD_eq_getElem?_getD, List.getElem?_append_left (by omega)]
    rw [piece_low hx, he]
    exact ⟨by intro y hy; simp at hy; omega, by simp [costF], fun s _ => by simp⟩
  · obtain ⟨j, rfl⟩ : ∃ j : Nat, x = ((T.ops.length + j : Nat) : Int) := ⟨(x - T.ops.length).toNat, by omega⟩
    have hj : j < ms.length := by omega
    have hm : ms[j]? = some (ms[j]'hj) := List.getElem?_eq_getElem _
    obtain ⟨o, f1, f2, f3, f4, f5, f6⟩ := e3 j _ hm
    have he : opAt (T.ops ++ os') ((T.ops.length + j : Nat) : Int) = o := opAt_eq (by rw [List.getElem?_append_right (by omega)]; simpa using f1)
    rw [piece_high hm, he]
    have hos : ∀ q ∈ (ms[j]'hj).map (opAt T.ops), OkOp N q := fun q hq => by
      obtain ⟨x, hx, rfl⟩ := List.mem_map.1 hq
      exact hok.ops _ (opAt_mem (f6 x hx).1 (f6 x hx).2)
    refine ⟨f6, ?_, fun s hs => ?_⟩
    · have := ((comb_state hos (s := []) List.Pairwise.nil).2 o f2).2.2.1
      rw [this, List.map_map]
      rfl
    · have := ((comb_state hos hs).2 o f2).2.2.2
      rw [this]
      unfold execO
      split <;> rfl
/-- THE LAW OF EXPANDED PLANS -/
theorem expand_law {T : Tsk} {N : Nat} (hok : OkT T N) {ms : List (List Int)} (h : (extendR T ms).2.1 = 0) : ∀ (l : List Int) (s : List Int), s.Pairwise (· < ·) → (∀ x ∈ l, 0 ≤ x ∧ x < (extendR T ms).1.ops.length) →
    (∀ y ∈ expandF T.ops.length ms l, 0 ≤ y ∧ y < T.ops.length) ∧ costF T.ops (expandF T.ops.length ms l) = costF (extendR T ms).1.ops l ∧
    execO s ((expandF T.ops.length ms l).map (opAt T.ops)) = execO s (l.map (opAt (extendR T ms).1.ops)) := by
  intro l
  induction l with
  | nil => intro s hs _; exact ⟨fun y hy => by simp [expandF] at hy, rfl, rfl⟩
  | cons x l ih =>
    intro s hs hr
    obtain ⟨p1, p2, p3⟩ := piece_law hok h (hr x (List.mem_cons_self ..)).1 (hr x (List.mem_cons_self ..)).2
    have hc : expandF T.ops.length ms (x :: l) = pieceF T.ops.length ms x ++ expandF T.ops.length ms l := by simp [expandF]
    have hl : ∀ y ∈ l, 0 ≤ y ∧ y < (extendR T ms).1.ops.length := fun y hy => hr y (List.mem_cons_of_mem _ hy)
    rw [hc]
    refine ⟨fun y hy => ?_, ?_, ?_⟩
    · rcases List.mem_append.1 hy with hy | hy
      · exact p1 y hy
      · exact (ih s hs hl).1 y hy
    · have := (ih s hs hl).2.1
      unfold costF at *
      rw [List.map_append, List.sum_append, p2, this, List.map_cons, List.sum_cons]
    · rw [List.map_append, execO_append, p3 s hs, List.map_cons]
      have : execO s (opAt (extendR T ms).1.ops x :: l.map (opAt (extendR T ms).1.ops)) = (execO s [opAt (extendR T ms).1.ops x]).bind fun r => execO r (l.map (opAt (extendR T ms).1.ops)) := by
        rw [← execO_append]; rfl
      refine Eq.trans ?_ this.symm
      cases hx : execO s [opAt (extendR T ms).1.ops x] with
      | none => rfl
      | some r => exact (ih r (exec_up _ _ _ hs hx) hl).2.2
theorem expand_solve {T : Tsk} {N : Nat} (hok : OkT T N) {ms : List (List Int)} (h : (extendR T ms).2.1 = 0) {l : List Int} (hr : ∀ x ∈ l, 0 ≤ x ∧ x < (extendR T ms).1.ops.length) : solveF T (expandF T.ops.length ms l) = solveF (extendR T ms).1 l := by
  obtain ⟨_, h8, h40, os', e1, e2, e3⟩ := extend_ops h
  have := (expand_law hok h l T.init (setB_iff.1 hok.init).1 hr).2.2
  unfold solveF
  rw [this, e2]
end Go.Proofs.Ytnfeknfakkdbhaa
