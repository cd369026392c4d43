/- What the law asks for, part 9: Er Es Kq Ar Ct Mc4 Mc10 Mc11 Me. -/
import Derived.Test.YtemiecammmbjdaaGreatM1
import Derived.Test.YtemiecammmbjdaaGreatM2
import Derived.Test.YtemiecammmbjdaaGreatM3
import Derived.Test.YtemiecammmbjdaaGreatM4
import Derived.Test.YtemiecammmbjdaaGreatM5
import Derived.Test.YtemiecammmbjdaaGreatM6
import Derived.Test.YtemiecammmbjdaaGreatM7
import Derived.Test.YtemiecammmbjdaaGreatM8
import Derived.BigQuiet
import Derived.Deep.AppendLies
import Derived.Deep.DeepCutAuto
import Derived.Deep.Draws
import Derived.Deep.Fields
import Derived.Deep.LoopGhost
import Derived.Deep.QuietTactic
import Derived.Deep.RegionHeld3
import Derived.Deep.Slices
import Derived.Ground.Names2Prog
import Derived.Ground.SlgnProg
import Derived.Ground.SlsfProg
import Derived.IntWalk
import Derived.Laws.AppendOwnNone
import Derived.Laws.OwnMore
import Derived.Lib.Hide
import Derived.Lib.SlicesCompact
import Derived.Maps.AppendAt
import Derived.Shelf.Slices.Cells
import Derived.Shelf.Slices.Clone
import Derived.Shelf.Slices.CompactI
import Derived.Shelf.Slices.Empties
import Derived.Shelf.Slices.In.SortNone
import Derived.Shelf.Slices.SearchI
import Derived.Shelf.Sort.Plain
import Derived.Sort.OwnSortedInts
import Derived.Test.YtemiecammmbjdaaGreatProg
import Derived.WalkKit
namespace Go.Proofs.YtemiecammmbjdaaGreat
set_option linter.unusedVariables false
set_option linter.unusedSimpArgs false
/-- the state behind all the steps -/
def execO : List Int → List Opr → Option (List Int)
  | s, [] => some s
  | s, o :: os => if subsetB o.pre s = true then execO (updF s o.add o.del) os else none
/-- combined operators keep what is added and what is deleted apart -/
theorem combStep_apart {out o : Opr} (h : ∀ x, ¬ (x ∈ out.add ∧ x ∈ out.del)) (k : ∀ x, ¬ (x ∈ o.add ∧ x ∈ o.del)) : ∀ x, ¬ (x ∈ (combStep out o).add ∧ x ∈ (combStep out o).del) := by
  intro x
  show ¬ (x ∈ updF out.add o.add o.del ∧ x ∈ updF out.del o.del o.add)
  rw [updF_mem, updF_mem]
  have h1 := h x
  have h2 := k x
  by_cases a1 : x ∈ out.add <;> by_cases a2 : x ∈ out.del <;> by_cases a3 : x ∈ o.add <;> by_cases a4 : x ∈ o.del <;> simp_all
theorem combStep_next {out o : Opr} (k : ∀ x, ¬ (x ∈ o.add ∧ x ∈ o.del)) (s : List Int) : updF (updF s out.add out.del) o.add o.del = updF s (combStep out o).add (combStep out o).del := by
  refine up_ext (updF_up _ _ _) (updF_up _ _ _) fun x => ?_
  show _ ↔ x ∈ updF s (updF out.add o.add o.del) (updF out.del o.del o.add)
  rw [updF_mem, updF_mem, updF_mem, updF_mem, updF_mem]
  have h2 := k x
  by_cases a0 : x ∈ s <;> by_cases a1 : x ∈ out.add <;> by_cases a2 : x ∈ out.del <;> by_cases a3 : x ∈ o.add <;> by_cases a4 : x ∈ o.del <;> simp_all
theorem combStep_can {out o : Opr} {s : List Int} (hm : ¬ meetB o.pre out.del = true) (hp : subsetB out.pre s = true) : subsetB o.pre (updF s out.add out.del) = true ↔ subsetB (combStep out o).pre s = true := by
  have hm' : ∀ x ∈ o.pre, x ∉ out.del := fun x h1 h2 => hm (meetB_iff.2 ⟨x, h1, h2⟩)
  rw [subsetB_iff, subsetB_iff] at *
  show _ ↔ ∀ x ∈ updF out.pre (updF o.pre [] out.add) [], x ∈ s
  constructor
  · intro h x hx
    rw [updF_mem, updF_mem] at hx
    rcases hx with ⟨hx, _⟩ | ⟨hx, hn⟩ | hx
    · exact hp x hx
    · have := h x hx
      rw [updF_mem] at this
      rcases this with ⟨e, _⟩ | e
      · exact e
      · exact absurd e hn
    · cases hx
  · intro h x hx
    rw [updF_mem]
    by_cases e : x ∈ out.add
    · exact .inr e
    · refine .inl ⟨h x ?_, hm' x hx⟩
      rw [updF_mem, updF_mem]
      exact .inr (.inl ⟨hx, e⟩)
theorem comb_pre_mono : ∀ (os : List Opr) (out r : Opr), combF out os = some r → ∀ x ∈ out.pre, x ∈ r.pre := by
  intro os
  induction os with
  | nil => intro out r h x hx; unfold combF at h; obtain rfl := Option.some.inj h; exact hx
  | cons o os ih =>
    intro out r h x hx
    unfold combF at h
    split at h
    · cases h
    · refine ih _ _ h x ?_
      show x ∈ updF out.pre (updF o.pre [] out.add) []
      rw [updF_mem]
      exact .inl ⟨hx, by simp⟩
theorem comb_exec : ∀ (os : List Opr) (out : Opr) (s : List Int), (∀ x, ¬ (x ∈ out.add ∧ x ∈ out.del)) → (∀ o ∈ os, ∀ x, ¬ (x ∈ o.add ∧ x ∈ o.del)) → subsetB out.pre s = true →
    (combF out os = none → execO (updF s out.add out.del) os = none) ∧
    ∀ r, combF out os = some r → (∀ x, ¬ (x ∈ r.add ∧ x ∈ r.del)) ∧ execO (updF s out.add out.del) os = if subsetB r.pre s = true then some (updF s r.add r.del) else none := by
  intro os
  induction os with
  | nil =>
    intro out s ha _ hp
    refine ⟨fun h => (by unfold combF at h; cases h), fun r h => ?_⟩
    unfold combF at h
    obtain rfl := Option.some.inj h
    refine ⟨ha, ?_⟩
    rw [if_pos hp]
    rfl
  | cons o os ih =>
    intro out s ha hos hp
    have ho := hos o (List.mem_cons_self ..)
    have ha' := combStep_apart ha ho
    by_cases hm : meetB o.pre out.del = true
    · refine ⟨fun _ => ?_, fun r h => ?_⟩
      · obtain ⟨x, h1, h2⟩ := meetB_iff.1 hm
        unfold execO
        rw [if_neg]
        intro e
        have := subsetB_iff.1 e x h1
        rw [updF_mem] at this
        rcases this with ⟨_, e⟩ | e
        · exact e h2
        · exact ha x ⟨e, h2⟩
      · unfold combF at h
        rw [if_pos hm] at h
        cases h
    · have hcan := combStep_can hm hp
      have hstep : combF out (o :: os) = combF (combStep out o) os := by
        conv => lhs; unfold combF
        rw [if_neg hm]
      rw [hstep]
      by_cases hc : subsetB (combStep out o).pre s = true
      · have hex : execO (updF s out.add out.del) (o :: os) = execO (updF s (combStep out o).add (combStep out o).del) os := by
          conv => lhs; unfold execO
          rw [if_pos (hcan.2 hc), combStep_next ho]
        rw [hex]
        exact ih (combStep out o) s ha' (fun q hq => hos q (List.mem_cons_of_mem _ hq)) hc
      · have hex : execO (updF s out.add out.del) (o :: os) = none := by
          unfold execO
          rw [if_neg (fun e => hc (hcan.1 e))]
        rw [hex]
        refine ⟨fun _ => rfl, fun r h => ⟨?_, ?_⟩⟩
        · -- apartness does not depend on the state
          have key : ∀ (os : List Opr) (out r : Opr), (∀ x, ¬ (x ∈ out.add ∧ x ∈ out.del)) → (∀ o ∈ os, ∀ x, ¬ (x ∈ o.add ∧ x ∈ o.del)) → combF out os = some r → ∀ x, ¬ (x ∈ r.add ∧ x ∈ r.del) := by
            intro os
            induction os with
            | nil => intro out r h _ e; unfold combF at e; obtain rfl := Option.some.inj e; exact h
            | cons o os ih =>
              intro out r h k e
              unfold combF at e
              split at e
              · cases e
              · exact ih _ _ (combStep_apart h (k o (List.mem_cons_self ..))) (fun q hq => k q (List.mem_cons_of_mem _ hq)) e
          exact key os _ r ha' (fun q hq => hos q (List.mem_cons_of_mem _ hq)) h
        · rw [if_neg]
          intro e
          refine hc (subsetB_iff.2 fun x hx => subsetB_iff.1 e x (comb_pre_mono os _ _ h x hx))
theorem updF_id {s : List Int} (h : s.Pairwise (· < ·)) : updF s [] [] = s := up_ext (updF_up _ _ _) h fun x => by rw [updF_mem]; simp
/-- THE LAW OF COMBINE, by states -/
theorem comb_state {N : Nat} {os : List Opr} (hos : ∀ o ∈ os, OkOp N o) {s : List Int} (hs : s.Pairwise (· < ·)) :
    (combF zeroOp os = none → execO s os = none) ∧ ∀ r, combF zeroOp os = some r → meetB r.add r.del = false ∧ SetOp N r ∧ r.cost = (os.map (·.cost)).sum ∧ execO s os = if subsetB r.pre s = true then some (updF s r.add r.del) else none := by
  have h := comb_exec os zeroOp s (fun x e => by cases e.1) (fun o ho x => apart_mem (hos o ho).apart x) (by simp [zeroOp, subsetB])
  have e : updF s zeroOp.add zeroOp.del = s := updF_id hs
  rw [e] at h
  refine ⟨h.1, fun r hr => ?_⟩
  obtain ⟨h1, h2⟩ := h.2 r hr
  obtain ⟨h3, h4⟩ := combF_sets os zeroOp r (zero_sets N) (fun o ho => (hos o ho).sets) hr
  refine ⟨?_, h3, ?_, h2⟩
  · cases hb : meetB r.add r.del
    · rfl
    · obtain ⟨x, hx1, hx2⟩ := meetB_iff.1 hb
      exact absurd ⟨hx1, hx2⟩ (h1 x)
  · have hz : zeroOp.cost = 0 := rfl
    omega
end Go.Proofs.YtemiecammmbjdaaGreat
namespace Go.Proofs.YtemiecammmbjdaaGreat
set_option linter.unusedVariables false
set_option linter.unusedSimpArgs false
/-- what an extended task holds -/
theorem extLoop_ops {T : Tsk} : ∀ (ms : List (List Int)) (os : List Opr) (i : Nat), (extLoop T os i ms).2.1 = 0 → ∃ os', os'.length = ms.length ∧ (extLoop T os i ms).1 = ⟨T.facts, T.init, T.goal, os ++ os'⟩ ∧
    ∀ (j : Nat) (l : List Int), ms[j]? = some l → ∃ o, os'[j]? = some o ∧ combF zeroOp (l.map (opAt T.ops)) = some o ∧ o.cost ≤ 100 ∧ 1 ≤ l.length ∧ l.length ≤ 6 ∧ ∀ x ∈ l, 0 ≤ x ∧ x < T.ops.length := by
  intro ms
  induction ms with
  | nil => intro os i h; exact ⟨[], rfl, by simp [extLoop], fun j l hj => by simp at hj⟩
  | cons l ms ih =>
    intro os i h
    unfold extLoop at h ⊢
    by_cases h1 : (seqFault T.ops.length l (-20 - (i : Int))).1 ≠ 0
    · rw [if_pos h1] at h
      exact absurd h h1
    · rw [if_neg h1] at h ⊢
      obtain ⟨_, g1, g2, g3⟩ := seqFault_ok (k := T.ops.length) (l := l) (i := -20 - (i : Int)) (by simpa using h1)
      cases hc : combF zeroOp (l.map (opAt T.ops)) with
      | none => rw [hc] at h; simp at h
      | some o =>
        rw [hc] at h
        simp only at h ⊢
        by_cases h3 : 100 < o.cost
        · rw [if_pos h3] at h; simp at h
        · rw [if_neg h3] at h ⊢
          obtain ⟨os', e1, e2, e3⟩ := ih _ _ h
          refine ⟨o :: os', by simp [e1], by rw [e2]; simp, fun j q hj => ?_⟩
          cases j with
          | zero =>
            simp at hj
            subst hj
            exact ⟨o, rfl, hc, by omega, g1, g2, g3⟩
          | succ j =>
            rw [List.getElem?_cons_succ] at hj ⊢
            exact e3 j q hj
theorem extend_ops {T : Tsk} {ms : List (List Int)} (h : (extendR T ms).2.1 = 0) : (∃ N, OkT T N) ∧ ms.length ≤ 8 ∧ T.ops.length + ms.length ≤ 40 ∧ ∃ os', os'.length = ms.length ∧ (extendR T ms).1 = ⟨T.facts, T.init, T.goal, T.ops ++ os'⟩ ∧
    ∀ (j : Nat) (l : List Int), ms[j]? = some l → ∃ o, os'[j]? = some o ∧ combF zeroOp (l.map (opAt T.ops)) = some o ∧ o.cost ≤ 100 ∧ 1 ≤ l.length ∧ l.length ≤ 6 ∧ ∀ x ∈ l, 0 ≤ x ∧ x < T.ops.length := by
  unfold extendR at h ⊢
  by_cases h1 : (taskFault T).1 ≠ 0
  · rw [if_pos h1] at h
    exact absurd h h1
  · rw [if_neg h1] at h ⊢
    by_cases h2 : 8 < ms.length ∨ 40 < T.ops.length + ms.length
    · rw [if_pos h2] at h; simp at h
    · rw [if_neg h2] at h ⊢
      exact ⟨taskFault_ok (by simpa using h1), by omega, by omega, extLoop_ops ms T.ops 0 h⟩
/-- what Extend adds to a valid task is a valid operator -/
theorem comb_ok {T : Tsk} {N : Nat} (hok : OkT T N) {l : List Int} (hl : l.length ≤ 6) (hr : ∀ x ∈ l, 0 ≤ x ∧ x < T.ops.length) {o : Opr} (h : combF zeroOp (l.map (opAt T.ops)) = some o) (hc : o.cost ≤ 100) : OkOp N o := by
  have hos : ∀ q ∈ l.map (opAt T.ops), OkOp N q := fun q hq => by
    obtain ⟨x, hx, rfl⟩ := List.mem_map.1 hq
    exact hok.ops _ (opAt_mem (hr x hx).1 (hr x hx).2)
  obtain ⟨h1, h2, _, _⟩ := (comb_state hos (s := []) List.Pairwise.nil).2 o h
  exact ⟨h2.pre, h2.add, h2.del, h1, (comb_small hok hr hl h).1, hc⟩
theorem extend_okt {T : Tsk} {N : Nat} (hok : OkT T N) {ms : List (List Int)} (h : (extendR T ms).2.1 = 0) : OkT (extendR T ms).1 N := by
  obtain ⟨_, h8, h40, os', e1, e2, e3⟩ := extend_ops h
  rw [e2]
  refine ⟨hok.facts, hok.low, hok.init, hok.goal, by simp only [List.length_append]; omega, fun o ho => ?_⟩
  rcases List.mem_append.1 ho with ho | ho
  · exact hok.ops o ho
  · obtain ⟨j, hj⟩ := List.getElem?_of_mem ho
    have hjl := (List.getElem?_eq_some_iff.1 hj).1
    have hm : ms[j]? = some (ms[j]'(by omega)) := List.getElem?_eq_getElem _
    obtain ⟨o', f1, f2, f3, f4, f5, f6⟩ := e3 j _ hm
    rw [hj] at f1
    obtain rfl := Option.some.inj f1
    exact comb_ok hok f5 f6 f2 f3
end Go.Proofs.YtemiecammmbjdaaGreat
namespace Go.Proofs.YtemiecammmbjdaaGreat
set_option linter.unusedVariables false
open Go.RowKit
/-- T' does what T does, by operators of T or by sequences of at most six of them -/
structure MacroQ (T T' : Tsk) (N : Nat) : Prop where
  ok : OkT T N
  ok' : OkT T' N
  init : T'.init = T.init
  goal : T'.goal = T.goal
  sub : ∀ o ∈ T.ops, o ∈ T'.ops
  seq : ∀ o ∈ T'.ops, ∃ os : List Opr, (∀ p ∈ os, p ∈ T.ops) ∧ os.length ≤ 6 ∧ (os.map Opr.cost).sum = o.cost ∧ ∀ s, setB N s = true → subsetB o.pre s = true → execO s os = some (updF s o.add o.del)
theorem arc_step {ms : List Mk} {s t : Nat} {c : Int} : arcW ms s t c ↔ ∃ op, (op, c, t) ∈ stepsW 0 ms s := by
  constructor
  · rintro ⟨m, hm, h1, rfl, rfl⟩
    obtain ⟨k, hk⟩ := List.getElem?_of_mem hm
    exact ⟨0 + k, (stepsW_mem _ _ _ _).2 ⟨k, m, hk, h1, rfl⟩⟩
  · rintro ⟨op, hx⟩
    obtain ⟨k, m, hk, h1, h2⟩ := (stepsW_mem _ _ _ _).1 hx
    simp only [Prod.mk.injEq] at h2
    exact ⟨m, List.mem_of_getElem? hk, h1, h2.2.2, h2.2.1⟩
theorem exec_path {T : Tsk} {N : Nat} (hok : OkT T N) : ∀ (os : List Opr) (s r : List Int) (u : Nat) (l : List Nat) (n : Int), (∀ o ∈ os, o ∈ T.ops) → setB N s = true → execO s os = some r → PathW (T.ops.map mkOp) (wordF r) l u n → ∃ l', l'.length = os.length + l.length ∧ PathW (T.ops.map mkOp) (wordF s) l' u ((os.map Opr.cost).sum + n) := by
  intro os
  induction os with
  | nil => intro s r u l n _ _ he h; obtain rfl : s = r := by simpa [execO] using he
           exact ⟨l, by simp, by simpa using h⟩
  | cons o os ih =>
    intro s r u l n ho hs he h
    have hm := ho o List.mem_cons_self
    unfold execO at he
    split at he
    · rename_i hp
      obtain ⟨l', h1, h2⟩ := ih _ r u l n (fun p hp => ho p (List.mem_cons_of_mem _ hp)) (upd_setB hs (hok.ops o hm)) he h
      obtain ⟨op, hx⟩ := arc_step.1 ((arc_iff hok hs).2 ⟨o, hm, hp, rfl, rfl⟩)
      refine ⟨op :: l', by rw [List.length_cons, List.length_cons, h1]; omega, ?_⟩
      have := PathW.cons hx h2
      rw [List.map_cons, List.sum_cons, Int.add_assoc]
      exact this
    · cases he
section
variable {T T' : Tsk} {N : Nat}
theorem MacroQ.pathTo (h : MacroQ T T' N) {w u : Nat} {l : List Nat} {n : Int} (hp : PathW (T.ops.map mkOp) w l u n) : ∀ s, setB N s = true → w = wordF s → ∃ l', l'.length = l.length ∧ PathW (T'.ops.map mkOp) w l' u n := by
  induction hp with
  | nil => intro s _ _; exact ⟨[], rfl, .nil⟩
  | cons hx _ ih =>
    rintro s hs rfl
    obtain ⟨o, ho, hp, rfl, rfl⟩ := (arc_iff h.ok hs).1 (arc_step.2 ⟨_, hx⟩)
    obtain ⟨l', h1, h2⟩ := ih _ (upd_setB hs (h.ok.ops o ho)) rfl
    obtain ⟨op, hy⟩ := arc_step.1 ((arc_iff h.ok' hs).2 ⟨o, h.sub o ho, hp, rfl, rfl⟩)
    exact ⟨op :: l', by rw [List.length_cons, List.length_cons, h1], .cons hy h2⟩
theorem MacroQ.pathBack (h : MacroQ T T' N) {w u : Nat} {l : List Nat} {n : Int} (hp : PathW (T'.ops.map mkOp) w l u n) : ∀ s, setB N s = true → w = wordF s → ∃ l', l'.length ≤ 6 * l.length ∧ PathW (T.ops.map mkOp) w l' u n := by
  induction hp with
  | nil => intro s _ _; exact ⟨[], Nat.le_refl _, .nil⟩
  | cons hx _ ih =>
    rintro s hs rfl
    obtain ⟨o, ho, hp, rfl, rfl⟩ := (arc_iff h.ok' hs).1 (arc_step.2 ⟨_, hx⟩)
    obtain ⟨l', h1, h2⟩ := ih _ (upd_setB hs (h.ok'.ops o ho)) rfl
    obtain ⟨os, g1, g2, g3, g4⟩ := h.seq o ho
    obtain ⟨l2, k1, k2⟩ := exec_path h.ok os s _ _ l' _ g1 hs (g4 s hs hp) h2
    rw [g3] at k2
    exact ⟨l2, by rw [List.length_cons, k1]; omega, k2⟩
end
theorem extend_macro6 {T : Tsk} {ms : List (List Int)} (h : (extendR T ms).2.1 = 0) : ∃ N, MacroQ T (extendR T ms).1 N := by
  obtain ⟨⟨N, hok⟩, h1, h2, os', e1, e2, e3⟩ := extend_ops h
  have hok' := extend_okt hok h
  have key : ∀ o ∈ (extendR T ms).1.ops, ∃ os : List Opr, (∀ p ∈ os, p ∈ T.ops) ∧ os.length ≤ 6 ∧ (os.map Opr.cost).sum = o.cost ∧ ∀ s, setB N s = true → subsetB o.pre s = true → execO s os = some (updF s o.add o.del) := fun o ho => by
    rw [e2] at ho
    rcases List.mem_append.1 ho with ho | ho
    · refine ⟨[o], fun p hp => by obtain rfl := List.mem_singleton.1 hp; exact ho, by simp, by simp, fun s hs hp => ?_⟩
      show (if subsetB o.pre s = true then execO (updF s o.add o.del) [] else none) = _
      rw [if_pos hp]
      rfl
    · obtain ⟨j, hj⟩ := List.getElem?_of_mem ho
      have hjl : j < ms.length := by rw [← e1]; exact (List.getElem?_eq_some_iff.1 hj).1
      obtain ⟨o2, g1, g2, g3, _, g5, g4⟩ := e3 j ms[j] (List.getElem?_eq_getElem hjl)
      obtain rfl := Option.some.inj (hj.symm.trans g1)
      have hmem : ∀ p ∈ (ms[j]).map (opAt T.ops), p ∈ T.ops := fun p hp => by
        obtain ⟨x, hx, rfl⟩ := List.mem_map.1 hp
        exact opAt_mem (g4 x hx).1 (g4 x hx).2
      have hokp : ∀ p ∈ (ms[j]).map (opAt T.ops), OkOp N p := fun p hp => hok.ops p (hmem p hp)
      have hc : (((ms[j]).map (opAt T.ops)).map Opr.cost).sum = o.cost := ((comb_state (s := []) hokp List.Pairwise.nil).2 o g2).2.2.1.symm
      refine ⟨_, hmem, by rw [List.length_map]; exact g5, hc, fun s hs hp => ?_⟩
      obtain ⟨_, _, _, h5⟩ := (comb_state hokp (setB_iff.1 hs).1).2 o g2
      rw [h5, if_pos hp]
  exact ⟨N, hok, hok', by rw [e2], by rw [e2], fun o ho => by rw [e2]; exact List.mem_append_left _ ho, key⟩
/-- a best plan with macros is no longer than one without -/
theorem plans_len {T : Tsk} {ms : List (List Int)} (h : (extendR T ms).2.1 = 0) :
    (NoWay (T.ops.map mkOp) (wordF T.init) (goalW (wordF T.goal)) ↔ NoWay ((extendR T ms).1.ops.map mkOp) (wordF (extendR T ms).1.init) (goalW (wordF (extendR T ms).1.goal))) ∧
    ∀ la lb, BestOf (T.ops.map mkOp) (wordF T.init) (goalW (wordF T.goal)) la → la.length ≤ 60 → BestOf ((extendR T ms).1.ops.map mkOp) (wordF (extendR T ms).1.init) (goalW (wordF (extendR T ms).1.goal)) lb → lb.length ≤ 60 → lb.length ≤ la.length := by
  obtain ⟨N, hm⟩ := extend_macro6 h
  have hs := hm.ok.init
  rw [hm.init, hm.goal]
  refine ⟨⟨fun hno l u n hp hg => ?_, fun hno l u n hp hg => ?_⟩, ?_⟩
  · obtain ⟨l', _, h2⟩ := hm.pathBack hp _ hs rfl
    exact hno _ _ _ h2 hg
  · obtain ⟨l', _, h2⟩ := hm.pathTo hp _ hs rfl
    exact hno _ _ _ h2 hg
  · rintro la lb ⟨ua, na, pa, ga, ma⟩ ha ⟨ub, nb, pb, gb, mb⟩ hb
    obtain ⟨l1, e1, q1⟩ := hm.pathTo pa _ hs rfl
    obtain ⟨l2, e2, q2⟩ := hm.pathBack pb _ hs rfl
    have h1 := mb _ _ _ q1 ga
    have h2 := ma _ _ _ q2 gb
    omega
end Go.Proofs.YtemiecammmbjdaaGreat
namespace Go.Proofs.YtemiecammmbjdaaGreat
set_option linter.unusedVariables false
set_option linter.unusedSimpArgs false
open Go.RowKit
theorem below_setA {B : Nat} {w w' : World} (h : Below B w w') {g : Nat} (hg : B ≤ g) (i : Nat) (u : Value) : Below B w (w'.setCell ⟨g, i, none⟩ u) := h.setCell hg u
def resV (f : Bool) (A : Option Addr) (n c : Nat) (cost k : Int) : Value := .agg #[.bool f, .slice A n c, .int .i64 cost, .int .i64 k]
/-- the result of a search: of a plan that is too long a fault -/
def ResP (w : World) (T : Tsk) (A : Option Addr) (n c : Nat) (l : List Int) (f : Bool) (k : Int) (e : Ending) (w' : World) : Prop :=
  Below w.heap.size w w' ∧ ((60 < n ∧ e = .returned (.tuple #[resV false none 0 0 0 0, fault 10 (-9)])) ∨ (n ≤ 60 ∧ e = .returned (.tuple #[resV f A n c (costF T.ops l) k, fault 0 0])))
theorem cost_take {T : Tsk} {l : List Int} (hc : ∀ x ∈ l, 0 ≤ (opAt T.ops x).cost ∧ (opAt T.ops x).cost ≤ 100) : ∀ j, 0 ≤ costF T.ops (l.take j) ∧ costF T.ops (l.take j) ≤ 100 * j := by
  intro j
  induction j with
  | zero => simp [costF]
  | succ j ih =>
    cases h : l[j]? with
    | none =>
      rw [List.take_of_length_le (by have := List.getElem?_eq_none_iff.1 h; omega)] at ih ⊢
      omega
    | some x =>
      rw [costF_succ h]
      have := hc x (List.mem_of_getElem? h)
      omega
set_option maxRecDepth 100000 in
set_option maxHeartbeats 6400000 in
theorem Result_ct (a : TA) (T : Tsk) (A : Option Addr) (n c : Nat) (l : List Int) (fd : Bool) (kx : Int) (w : World) (h : TkR w a T) (hl : Rd Enc.int w A n c l) (hr : ∀ x ∈ l, 0 ≤ x ∧ x < T.ops.length) (hc : ∀ x ∈ l, 0 ≤ (opAt T.ops x).cost ∧ (opAt T.ops x).cost ≤ 100) :
    Calls Tryz.prog 39 #[.agg #[.int .i64 T.facts, .slice a.I a.nI a.cI, .slice a.G a.nG a.cG, .slice a.O a.nO a.cO], .slice A n c, .bool fd, .int .i64 kx] w (ResP w T A n c l fd kx) := by
  have hlO := h.ops.len
  have hlow := h.ops.low
  have hll := hl.len
  obtain ⟨I, nI, cI, G, nG, cG, O, nO, cO⟩ := a
  simp only at hlO hlow ⊢
  have hlm := hl.low
  have H := hide h
  have Hl := hide hl
  have Hll := hide hll
  have HlO := hide hlO
  have Hr := hide hr
  have Hc := hide hc
  clear h hl hlO hr hc hll
  have Hbl := hide (Below.refl w.heap.size w)
  go_enter Tryz.func39, Tryz.ntmps39
  go_upto_region 1 with (fail)
  obtain ⟨B0, hB0⟩ : ∃ B0, B0 = w.heap.size := ⟨_, rfl⟩
  have HB0 := hide hB0
  clear hB0
  have s_0 : B0 ≤ w.heap.size := Nat.le_trans (Nat.le_of_eq HB0.out) Hbl.out.size
  have hyt := Blk.new (w) 25 [.int .i64 T.facts, .slice I nI cI, .slice G nG cG, .slice O nO cO]
  have hyr_ := Blk.new ((w).alloc (.cells #[.int .i64 T.facts, .slice I nI cI, .slice G nG cG, .slice O nO cO] 25)) 40 [.bool false, .slice none 0 0, .int .i64 0, .int .i64 0]
  replace hyt := hyt.alloc (.cells #[.bool false, .slice none 0 0, .int .i64 0, .int .i64 0] 40)
  have hyf := Blk.new (((w).alloc (.cells #[.int .i64 T.facts, .slice I nI cI, .slice G nG cG, .slice O nO cO] 25)).alloc (.cells #[.bool false, .slice none 0 0, .int .i64 0, .int .i64 0] 40)) 28 [.int .i64 0, .int .i64 0]
  replace hyt := hyt.alloc (.cells #[.int .i64 0, .int .i64 0] 28)
  replace hyr_ := hyr_.alloc (.cells #[.int .i64 0, .int .i64 0] 28)
  have hbW := below_three w (.cells #[.int .i64 T.facts, .slice I nI cI, .slice G nG cG, .slice O nO cO] 25) (.cells #[.bool false, .slice none 0 0, .int .i64 0, .int .i64 0] 40) (.cells #[.int .i64 0, .int .i64 0] 28)
  simp only [World.size_alloc] at hyr_ hyf
  obtain ⟨w0, hW⟩ : ∃ W, W = (((w).alloc (.cells #[.int .i64 T.facts, .slice I nI cI, .slice G nG cG, .slice O nO cO] 25)).alloc (.cells #[.bool false, .slice none 0 0, .int .i64 0, .int .i64 0] 40)).alloc (.cells #[.int .i64 0, .int .i64 0] 28) := ⟨_, rfl⟩
  rw [← hW] at hyt hyr_ hyf hbW ⊢
  replace Hbl := hide (Hbl.out.trans (hbW.mono Hbl.out.size))
  have Ht := hide hyt
  have Hr_ := hide hyr_
  have Hf := hide hyf
  clear hW hbW hyt hyr_ hyf
  generalize w.heap.size = gT at Ht Hr_ Hf s_0 ⊢
  have t0 := Ht.out.cell 0
  have t1 := Ht.out.cell 1
  have t2 := Ht.out.cell 2
  have t3 := Ht.out.cell 3
  have tl := Ht.out.lt
  have r_0 := Hr_.out.cell 0
  have r_1 := Hr_.out.cell 1
  have r_2 := Hr_.out.cell 2
  have r_3 := Hr_.out.cell 3
  have r_l := Hr_.out.lt
  have f0 := Hf.out.cell 0
  have f1 := Hf.out.cell 1
  have fl := Hf.out.lt
  simp only [List.getElem?_cons_zero, List.getElem?_cons_succ] at t0 t1 t2 t3 r_0 r_1 r_2 r_3 f0 f1
  have a_t : B0 ≤ gT := by omega
  have a_r_ : B0 ≤ gT + 1 := by omega
  have a_f : B0 ≤ gT + 1 + 1 := by omega
  clear s_0
  have n_t_r_ : ¬ gT = gT + 1 := by omega
  have n_t_f : ¬ gT = gT + 1 + 1 := by omega
  have n_r__t : ¬ gT + 1 = gT := by omega
  have n_r__f : ¬ gT + 1 = gT + 1 + 1 := by omega
  have n_f_t : ¬ gT + 1 + 1 = gT := by omega
  have n_f_r_ : ¬ gT + 1 + 1 = gT + 1 := by omega
  by_cases h60 : 60 < n
  · have h60i : (60 : Int) < (n : Int) := by omega
    have ff0 := Hf.out.frozen 0
    have ff1 := Hf.out.frozen 1
    have rf0 := Hr_.out.frozen 0
    have rf1 := Hr_.out.frozen 1
    have rf2 := Hr_.out.frozen 2
    have rf3 := Hr_.out.frozen 3
    go_wp2_with fail
    refine bodyPost_ret (v := .tuple #[resV false none 0 0 0 0, fault 10 (-9)]) (by simp [results, Tryz.results39, go_sem, fault, resV, f0, f1, fl, r_0, r_1, r_2, r_3, r_l]) rfl ?_
    have hbx := HB0.out
    refine ⟨?_, .inl ⟨h60, rfl⟩⟩
    repeat' (first | (with_reducible exact Hbl.out) | (with_reducible refine Below.drew ?_) | (with_reducible refine below_setA ?_ ?_ _ _) | (with_reducible refine below_drewN ?_ _) | omega)
  have h60i : ¬ (60 : Int) < (n : Int) := by omega
  go_upto_region 4 with (fail)
  have n_t_o_ : ¬ gT = w0.heap.size := by omega
  have n_o__t : ¬ w0.heap.size = gT := by omega
  have n_r__o_ : ¬ gT + 1 = w0.heap.size := by omega
  have n_o__r_ : ¬ w0.heap.size = gT + 1 := by omega
  have n_f_o_ : ¬ gT + 1 + 1 = w0.heap.size := by omega
  have n_o__f : ¬ w0.heap.size = gT + 1 + 1 := by omega
  have s_t : gT < w0.heap.size := tl
  have s_r_ : gT + 1 < w0.heap.size := r_l
  have s_f : gT + 1 + 1 < w0.heap.size := fl
  have s_0 : B0 ≤ w0.heap.size := Nat.le_trans (Nat.le_of_eq HB0.out) Hbl.out.size
  have hyo_ := Blk.new (w0) 40 [.bool fd, .slice A n c, .int .i64 0, .int .i64 kx]
  have hbW : Below (w0).heap.size (w0) ((w0).alloc (.cells #[.bool fd, .slice A n c, .int .i64 0, .int .i64 kx] 40)) := (Below.refl _ _).alloc (Nat.le_refl _) _
  obtain ⟨w1, hW⟩ : ∃ W, W = (w0).alloc (.cells #[.bool fd, .slice A n c, .int .i64 0, .int .i64 kx] 40) := ⟨_, rfl⟩
  rw [← hW] at hyo_ hbW ⊢
  replace Ht := hide (Ht.out.keep hbW)
  replace Hr_ := hide (Hr_.out.keep hbW)
  replace Hf := hide (Hf.out.keep hbW)
  replace Hbl := hide (Hbl.out.trans (hbW.mono Hbl.out.size))
  have Ho_ := hide hyo_
  clear hW hbW hyo_
  generalize w0.heap.size = go at Ho_ n_t_o_ n_o__t n_r__o_ n_o__r_ n_f_o_ n_o__f s_t s_r_ s_f s_0 ⊢
  have t0 := Ht.out.cell 0
  have t1 := Ht.out.cell 1
  have t2 := Ht.out.cell 2
  have t3 := Ht.out.cell 3
  have tl := Ht.out.lt
  have r_0 := Hr_.out.cell 0
  have r_1 := Hr_.out.cell 1
  have r_2 := Hr_.out.cell 2
  have r_3 := Hr_.out.cell 3
  have r_l := Hr_.out.lt
  have f0 := Hf.out.cell 0
  have f1 := Hf.out.cell 1
  have fl := Hf.out.lt
  have o_0 := Ho_.out.cell 0
  have o_1 := Ho_.out.cell 1
  have o_2 := Ho_.out.cell 2
  have o_3 := Ho_.out.cell 3
  have o_l := Ho_.out.lt
  simp only [List.getElem?_cons_zero, List.getElem?_cons_succ] at t0 t1 t2 t3 r_0 r_1 r_2 r_3 f0 f1 o_0 o_1 o_2 o_3
  clear s_t
  clear s_r_
  clear s_f
  have a_o_ : B0 ≤ go := by omega
  clear s_0
  go_wp2_with fail
  have Kt := Ht
  have Kr_ := Hr_
  have Kf := Hf
  have Kbl := Hbl
  clear t0 t1 t2 t3 r_0 r_1 r_2 r_3 f0 f1 o_0 o_1 o_2 o_3 tl r_l fl o_l
  go_loopw [24] (fun i wr => ∃ k : Nat, k ≤ n ∧ i = .int .i64 k ∧ Below w.heap.size w wr ∧ Blk 25 wr gT [.int .i64 T.facts, .slice I nI cI, .slice G nG cG, .slice O nO cO] ∧ Blk 40 wr (gT + 1) [.bool false, .slice none 0 0, .int .i64 0, .int .i64 0] ∧ Blk 28 wr (gT + 1 + 1) [.int .i64 0, .int .i64 0] ∧ Blk 40 wr go [.bool fd, .slice A n c, .int .i64 (costF T.ops (l.take k)), .int .i64 kx]) (fun i _ => n - (intOf i).toNat)
  case atStart => exact ⟨0, by omega, rfl, Kbl.out, Kt.out, Kr_.out, Kf.out, by simpa [costF] using Ho_.out⟩
  case round =>
    obtain ⟨k, hk, rfl, hb, hyt, hyr, hyf, hyo⟩ := hrel
    replace Hbl := hide hb
    replace Ht := hide hyt
    replace Hr_ := hide hyr
    replace Hf := hide hyf
    replace Ho_ := hide hyo
    clear hb hyt hyr hyf hyo
    have hct := cost_take Hc.out k
    by_cases hlt : k < n
    rotate_left
    · obtain rfl : k = n := by omega
      have hki : ¬ (k : Int) < (k : Int) := by omega
      have t0 := Ht.out.cell 0
      have t1 := Ht.out.cell 1
      have t2 := Ht.out.cell 2
      have t3 := Ht.out.cell 3
      have tl := Ht.out.lt
      have r_0 := Hr_.out.cell 0
      have r_1 := Hr_.out.cell 1
      have r_2 := Hr_.out.cell 2
      have r_3 := Hr_.out.cell 3
      have r_l := Hr_.out.lt
      have f0 := Hf.out.cell 0
      have f1 := Hf.out.cell 1
      have fl := Hf.out.lt
      have o_0 := Ho_.out.cell 0
      have o_1 := Ho_.out.cell 1
      have o_2 := Ho_.out.cell 2
      have o_3 := Ho_.out.cell 3
      have o_l := Ho_.out.lt
      simp only [List.getElem?_cons_zero, List.getElem?_cons_succ] at t0 t1 t2 t3 r_0 r_1 r_2 r_3 f0 f1 o_0 o_1 o_2 o_3
      have ff0 := Hf.out.frozen 0
      have ff1 := Hf.out.frozen 1
      have rf0 := Hr_.out.frozen 0
      have rf1 := Hr_.out.frozen 1
      have rf2 := Hr_.out.frozen 2
      have rf3 := Hr_.out.frozen 3
      go_wp2_with fail
      refine bodyPost_ret (v := .tuple #[resV fd A k c (costF T.ops (l.take k)) kx, fault 0 0]) (by simp [results, Tryz.results39, go_sem, fault, resV, f0, f1, fl, r_0, r_1, r_2, r_3, r_l, o_0, o_1, o_2, o_3, o_l]) rfl ?_
      have hbx := HB0.out
      refine ⟨?_, .inr ⟨by omega, by rw [List.take_of_length_le (by rw [Hll.out]; exact Nat.le_refl _)]⟩⟩
      repeat' (first | (with_reducible exact Hbl.out) | (with_reducible refine Below.drew ?_) | (with_reducible refine below_setA ?_ ?_ _ _) | (with_reducible refine below_drewN ?_ _) | omega)
    · have hki : (k : Int) < (n : Int) := by omega
      obtain ⟨b, off, x, rfl, hxx, hxl, hxh, hcx⟩ := (Hl.out.keep Hbl.out).int hlt
      obtain ⟨hx0, hxn⟩ := Hr.out x (List.mem_of_getElem? hxx)
      have hsucc := costF_succ (os := T.ops) hxx
      have hcx2 := Hc.out x (List.mem_of_getElem? hxx)
      obtain ⟨q, rfl⟩ : ∃ q : Nat, x = (q : Int) := ⟨x.toNat, by omega⟩
      have hqn : q < nO := by rw [← HlO.out]; omega
      obtain ⟨ob, oo, o, A1, n1, c1, A2, n2, c2, A3, n3, c3, hO, hoo, q0, q1, q2, q3, rr1, rr2, rr3, rr4⟩ := (H.out.keep Hbl.out).ops.op hqn
      simp only at hO
      subst hO
      have hop : opAt T.ops (q : Int) = o := by
        unfold opAt
        simp [hoo]
      rw [hop] at hsucc hcx2
      have hct2 := cost_take Hc.out (k + 1)
      rw [hsucc] at hct2
      have Hsucc := hide hsucc
      obtain ⟨cs, hcs⟩ : ∃ z, z = costF T.ops (l.take k) := ⟨_, rfl⟩
      rw [← hcs] at hct hct2 Ho_ Hsucc
      have hqi : (q : Int) < (nO : Int) := by omega
      have nob : ¬ ob = go := fun e => by
        have h1 := World.block_lt_of_cell? _ _ q3
        have h2 : ob < B0 := by
          have h3 := (H.out.ops.op hqn)
          obtain ⟨ob', oo', o', _, _, _, _, _, _, _, _, _, e', _, p0, _⟩ := h3
          simp only at e'
          injection e' with e'
          injection e' with e1 e2
          subst e1
          rw [HB0.out]
          exact World.block_lt_of_cell? _ _ p0
        omega
      have nob2 : ¬ go = ob := fun e => nob e.symm
      have of2 := Ho_.out.frozen 2
      clear hsucc hxx hoo hcs
      have t0 := Ht.out.cell 0
      have t1 := Ht.out.cell 1
      have t2 := Ht.out.cell 2
      have t3 := Ht.out.cell 3
      have tl := Ht.out.lt
      have o_0 := Ho_.out.cell 0
      have o_1 := Ho_.out.cell 1
      have o_2 := Ho_.out.cell 2
      have o_3 := Ho_.out.cell 3
      have o_l := Ho_.out.lt
      simp only [List.getElem?_cons_zero, List.getElem?_cons_succ] at t0 t1 t2 t3 o_0 o_1 o_2 o_3
      go_upto_region 7 with (fail)
      go_region
      all_goals (try skip)
      go_wp2_with fail
      go_roundw
      case rel =>
        have hbD : Below wr.heap.size wr wr.drew := (Below.refl _ _).drew
        have hch := (Chg.set (wr.drew) go 2 (.int .i64 (cs + o.cost)))
        have ho2 := (Ho_.out.keep hbD).set 2 (.int .i64 (cs + o.cost))
        simp only [List.set_cons_zero, List.set_cons_succ] at ho2
        have hsz := HB0.out
        exact ⟨k + 1, by omega, by go_num, below_setA (Hbl.out.drew) (by omega) _ _, hch.blk (Ht.out.keep hbD) (fun e => by have h1 : gT = go := e; omega), hch.blk (Hr_.out.keep hbD) (fun e => by have h1 : gT + 1 = go := e; omega), hch.blk (Hf.out.keep hbD) (fun e => by have h1 : gT + 1 + 1 = go := e; omega), by rw [Hsucc.out]; exact ho2⟩
      case measure => simp [intOf]; omega
end Go.Proofs.YtemiecammmbjdaaGreat
namespace Go.Proofs.YtemiecammmbjdaaGreat
set_option linter.unusedVariables false
set_option linter.unusedSimpArgs false
open Go.RowKit
theorem fault_mT : taskFault mT = (0, 0) := by decide +kernel
theorem seq_mT (i : Int) : seqFault mT.ops.length [0, 1] i = (0, 0) := by
  unfold seqFault
  rw [if_neg (by decide), if_neg (by decide)]
theorem upd1 : updF [] [] [] = [] := by decide +kernel
theorem upd2 : updF [] [0] [] = [0] := by decide +kernel
theorem upd3 : updF [0] [] [0] = [] := by decide +kernel
theorem upd4 : updF [0] [1] [0] = [1] := by decide +kernel
theorem upd5 : updF [] [0] [1] = [0] := by decide +kernel
theorem comb_mT : combF zeroOp ([0, 1].map (opAt mT.ops)) = some ⟨[], [1], [0], 3⟩ := by
  have e1 : opAt mT.ops 0 = ⟨[], [0], [], 1⟩ := rfl
  have e2 : opAt mT.ops 1 = ⟨[0], [1], [0], 2⟩ := rfl
  simp only [List.map_cons, List.map_nil, e1, e2]
  rw [combF, if_neg (by decide), combF, if_neg (by
    show ¬ meetB [0] (updF [] [] [0]) = true
    have : updF [] [] [0] = [] := by decide +kernel
    rw [this]
    decide), combF]
  show some (⟨updF (updF [] (updF [] [] []) []) (updF [0] [] (updF [] [0] [])) [], updF (updF [] [0] []) [1] [0], updF (updF [] [] [0]) [0] [1], 0 + 1 + 2⟩ : Opr) = _
  have u6 : updF [] [] [0] = [] := by decide +kernel
  rw [upd1, upd2, upd3, upd4, u6, upd5, upd1]
  try rw [upd1]
  rfl
theorem combine_mT : combineR mT [0, 1] = (⟨[], [1], [0], 3⟩, true, 0, 0) := by
  unfold combineR
  rw [fault_mT, if_neg (by simp), seq_mT, if_neg (by simp), comb_mT]
  rfl
theorem extend_mT : extendR mT [[0, 1]] = (⟨2, [], [1], [⟨[], [0], [], 1⟩, ⟨[0], [1], [0], 2⟩, ⟨[], [1], [0], 3⟩]⟩, 0, 0) := by
  unfold extendR
  rw [fault_mT, if_neg (by simp), if_neg (by decide)]
  unfold extLoop
  rw [seq_mT, if_neg (by simp), comb_mT]
  rfl
theorem expand_mT : expandR mT [[0, 1]] [2] = ([0, 1], 0, 0) := by
  unfold expandR
  rw [extend_mT]
  rfl
end Go.Proofs.YtemiecammmbjdaaGreat
namespace Go.Proofs.YtemiecammmbjdaaGreat
set_option linter.unusedVariables false
set_option linter.unusedSimpArgs false
open Go.RowKit
set_option maxRecDepth 100000 in
set_option maxHeartbeats 6400000 in
theorem Combine_ct (a : TA) (T : Tsk) (B : Option Addr) (m d : Nat) (l : List Int) (w : World) (h : TkR w a T) (hl : Rd Enc.int w B m d l) :
    Calls Tryz.prog 31 #[.agg #[.int .i64 T.facts, .slice a.I a.nI a.cI, .slice a.G a.nG a.cG, .slice a.O a.nO a.cO], .slice B m d] w (CombineP w (combineR T l)) := by
  obtain ⟨I, nI, cI, G, nG, cG, Oo, nO, cO⟩ := a
  have hval := SValidate_ct ⟨I, nI, cI, G, nG, cG, Oo, nO, cO⟩ T
  have hfa := mfault_ct ⟨I, nI, cI, G, nG, cG, Oo, nO, cO⟩ T B m d l (-8)
  have hco := fun N w h hok hl => combine_ct ⟨I, nI, cI, G, nG, cG, Oo, nO, cO⟩ T N B m d l w h hok hl
  simp only at hval hfa hco ⊢
  rcases hq : taskFault T with ⟨ec, ei⟩
  rw [hq] at hval
  rcases hq2 : seqFault T.ops.length l (-8) with ⟨sc, si⟩
  rw [hq2] at hfa
  have Hq := hide hq
  have Hq2 := hide hq2
  have H := hide h
  have Hl := hide hl
  have Hll := hide hl.len
  have Hval := hide hval
  have Hfa := hide hfa
  have Hco := hide hco
  clear hval hfa hco h hl hq hq2
  have Hbl := hide (Below.refl w.heap.size w)
  go_enter Tryz.func31, Tryz.ntmps31
  go_upto_region 1 with (fail)
  obtain ⟨B0, hB0⟩ : ∃ B0, B0 = w.heap.size := ⟨_, rfl⟩
  have hgR0 : B0 ≤ w.heap.size + 1 := by omega
  have hgF0 : B0 ≤ w.heap.size + 1 + 1 := by omega
  have HB0 := hide hB0
  clear hB0
  have hyt := Blk.new (w) 25 [.int .i64 T.facts, .slice I nI cI, .slice G nG cG, .slice Oo nO cO]
  have hyr := Blk.new ((w).alloc (.cells #[.int .i64 T.facts, .slice I nI cI, .slice G nG cG, .slice Oo nO cO] 25)) 72 [.slice none 0 0, .slice none 0 0, .slice none 0 0, .int .i64 0]
  replace hyt := hyt.alloc (.cells #[.slice none 0 0, .slice none 0 0, .slice none 0 0, .int .i64 0] 72)
  have hyf := Blk.new (((w).alloc (.cells #[.int .i64 T.facts, .slice I nI cI, .slice G nG cG, .slice Oo nO cO] 25)).alloc (.cells #[.slice none 0 0, .slice none 0 0, .slice none 0 0, .int .i64 0] 72)) 28 [.int .i64 0, .int .i64 0]
  replace hyt := hyt.alloc (.cells #[.int .i64 0, .int .i64 0] 28)
  replace hyr := hyr.alloc (.cells #[.int .i64 0, .int .i64 0] 28)
  have hbW := below_three w (.cells #[.int .i64 T.facts, .slice I nI cI, .slice G nG cG, .slice Oo nO cO] 25) (.cells #[.slice none 0 0, .slice none 0 0, .slice none 0 0, .int .i64 0] 72) (.cells #[.int .i64 0, .int .i64 0] 28)
  simp only [World.size_alloc] at hyr hyf
  obtain ⟨w0, hW⟩ : ∃ W, W = (((w).alloc (.cells #[.int .i64 T.facts, .slice I nI cI, .slice G nG cG, .slice Oo nO cO] 25)).alloc (.cells #[.slice none 0 0, .slice none 0 0, .slice none 0 0, .int .i64 0] 72)).alloc (.cells #[.int .i64 0, .int .i64 0] 28) := ⟨_, rfl⟩
  rw [← hW] at hyt hyr hyf hbW ⊢
  replace Hbl := hide (Hbl.out.trans (hbW.mono Hbl.out.size))
  have Ht := hide hyt
  have Hr := hide hyr
  have Hf := hide hyf
  clear hW hbW hyt hyr hyf
  generalize w.heap.size = gT at Ht Hr Hf hgR0 hgF0 ⊢
  have t0 := Ht.out.cell 0
  have t1 := Ht.out.cell 1
  have t2 := Ht.out.cell 2
  have t3 := Ht.out.cell 3
  have tl := Ht.out.lt
  have r0 := Hr.out.cell 0
  have r1 := Hr.out.cell 1
  have r2 := Hr.out.cell 2
  have r3 := Hr.out.cell 3
  have rl := Hr.out.lt
  have f0 := Hf.out.cell 0
  have f1 := Hf.out.cell 1
  have fl := Hf.out.lt
  simp only [List.getElem?_cons_zero, List.getElem?_cons_succ] at t0 t1 t2 t3 r0 r1 r2 r3 f0 f1
  have rf0 := Hr.out.frozen 0
  have rf1 := Hr.out.frozen 1
  have rf2 := Hr.out.frozen 2
  have rf3 := Hr.out.frozen 3
  have ff0 := Hf.out.frozen 0
  have ff1 := Hf.out.frozen 1
  have hgne1 : ¬ gT + 1 = gT + 1 + 1 := by omega
  have hgne2 : ¬ gT + 1 + 1 = gT + 1 := by omega
  go_wp2_with fail
  with_reducible refine (Hval.out w0 (H.out.keep Hbl.out)).mono ?_
  rintro e w1 ⟨rfl, hb⟩
  clear t0 t1 t2 t3 r0 r1 r2 r3 f0 f1 tl rl fl
  replace Ht := hide (Ht.out.keep hb)
  replace Hr := hide (Hr.out.keep hb)
  replace Hf := hide (Hf.out.keep hb)
  replace Hbl := hide (Hbl.out.trans (hb.mono Hbl.out.size))
  clear hb
  unfold fault
  have t0 := Ht.out.cell 0
  have t1 := Ht.out.cell 1
  have t2 := Ht.out.cell 2
  have t3 := Ht.out.cell 3
  have tl := Ht.out.lt
  have r0 := Hr.out.cell 0
  have r1 := Hr.out.cell 1
  have r2 := Hr.out.cell 2
  have r3 := Hr.out.cell 3
  have rl := Hr.out.lt
  have f0 := Hf.out.cell 0
  have f1 := Hf.out.cell 1
  have fl := Hf.out.lt
  simp only [List.getElem?_cons_zero, List.getElem?_cons_succ] at t0 t1 t2 t3 r0 r1 r2 r3 f0 f1
  clear rf0 rf1 rf2 rf3 ff0 ff1
  have rf0 := Hr.out.frozen 0
  have rf1 := Hr.out.frozen 1
  have rf2 := Hr.out.frozen 2
  have rf3 := Hr.out.frozen 3
  have ff0 := Hf.out.frozen 0
  have ff1 := Hf.out.frozen 1
  go_upto_region 2 with (fail)
  have hp1 : gT + 1 < w1.heap.size := rl
  have hp2 : gT + 1 + 1 < w1.heap.size := fl
  have hyp := Blk.new (w1) 28 [.int .i64 ec, .int .i64 ei]
  have hbW : Below (w1).heap.size (w1) ((w1).alloc (.cells #[.int .i64 ec, .int .i64 ei] 28)) := (Below.refl _ _).alloc (Nat.le_refl _) _
  obtain ⟨w2, hW⟩ : ∃ W, W = (w1).alloc (.cells #[.int .i64 ec, .int .i64 ei] 28) := ⟨_, rfl⟩
  rw [← hW] at hyp hbW ⊢
  replace Ht := hide (Ht.out.keep hbW)
  replace Hr := hide (Hr.out.keep hbW)
  replace Hf := hide (Hf.out.keep hbW)
  replace Hbl := hide (Hbl.out.trans (hbW.mono Hbl.out.size))
  have Hp := hide hyp
  clear hW hbW hyp
  generalize w1.heap.size = gp at Hp hp1 hp2 ⊢
  have t0 := Ht.out.cell 0
  have t1 := Ht.out.cell 1
  have t2 := Ht.out.cell 2
  have t3 := Ht.out.cell 3
  have tl := Ht.out.lt
  have r0 := Hr.out.cell 0
  have r1 := Hr.out.cell 1
  have r2 := Hr.out.cell 2
  have r3 := Hr.out.cell 3
  have rl := Hr.out.lt
  have f0 := Hf.out.cell 0
  have f1 := Hf.out.cell 1
  have fl := Hf.out.lt
  have p0 := Hp.out.cell 0
  have p1 := Hp.out.cell 1
  have pl := Hp.out.lt
  simp only [List.getElem?_cons_zero, List.getElem?_cons_succ] at t0 t1 t2 t3 r0 r1 r2 r3 f0 f1 p0 p1
  have hpn1 : ¬ gp = gT + 1 := by omega
  have hpn2 : ¬ gT + 1 = gp := by omega
  have hpn3 : ¬ gp = gT + 1 + 1 := by omega
  have hpn4 : ¬ gT + 1 + 1 = gp := by omega
  clear rf0 rf1 rf2 rf3 ff0 ff1
  have rf0 := Hr.out.frozen 0
  have rf1 := Hr.out.frozen 1
  have rf2 := Hr.out.frozen 2
  have rf3 := Hr.out.frozen 3
  have ff0 := Hf.out.frozen 0
  have ff1 := Hf.out.frozen 1
  by_cases hec : ec = 0
  · subst hec
    have hz := taskFault_zero (T := T) (by rw [Hq.out])
    rw [Hq.out] at hz
    obtain ⟨_, e2⟩ := Prod.mk.inj hz
    subst e2
    obtain ⟨N, hok⟩ := taskFault_ok (T := T) (by rw [Hq.out])
    have Hok := hide hok
    clear hz hok
    go_wp2_with fail
    with_reducible refine (Hfa.out w2 (H.out.keep Hbl.out) (Hl.out.keep Hbl.out)).mono ?_
    rintro e w3 ⟨rfl, hb⟩
    clear t0 t1 t2 t3 r0 r1 r2 r3 f0 f1 p0 p1 tl rl fl pl
    replace Ht := hide (Ht.out.keep hb)
    replace Hr := hide (Hr.out.keep hb)
    replace Hf := hide (Hf.out.keep hb)
    replace Hp := hide (Hp.out.keep hb)
    replace Hbl := hide (Hbl.out.trans (hb.mono Hbl.out.size))
    clear hb
    unfold fault
    have t0 := Ht.out.cell 0
    have t1 := Ht.out.cell 1
    have t2 := Ht.out.cell 2
    have t3 := Ht.out.cell 3
    have tl := Ht.out.lt
    have r0 := Hr.out.cell 0
    have r1 := Hr.out.cell 1
    have r2 := Hr.out.cell 2
    have r3 := Hr.out.cell 3
    have rl := Hr.out.lt
    have f0 := Hf.out.cell 0
    have f1 := Hf.out.cell 1
    have fl := Hf.out.lt
    have p0 := Hp.out.cell 0
    have p1 := Hp.out.cell 1
    have pl := Hp.out.lt
    simp only [List.getElem?_cons_zero, List.getElem?_cons_succ] at t0 t1 t2 t3 r0 r1 r2 r3 f0 f1 p0 p1
    clear rf0 rf1 rf2 rf3 ff0 ff1
    have rf0 := Hr.out.frozen 0
    have rf1 := Hr.out.frozen 1
    have rf2 := Hr.out.frozen 2
    have rf3 := Hr.out.frozen 3
    have ff0 := Hf.out.frozen 0
    have ff1 := Hf.out.frozen 1
    go_upto_region 5 with (fail)
    have hs1 : gT + 1 < w3.heap.size := rl
    have hs2 : gT + 1 + 1 < w3.heap.size := fl
    have hys := Blk.new (w3) 28 [.int .i64 sc, .int .i64 si]
    have hbW : Below (w3).heap.size (w3) ((w3).alloc (.cells #[.int .i64 sc, .int .i64 si] 28)) := (Below.refl _ _).alloc (Nat.le_refl _) _
    obtain ⟨w4, hW⟩ : ∃ W, W = (w3).alloc (.cells #[.int .i64 sc, .int .i64 si] 28) := ⟨_, rfl⟩
    rw [← hW] at hys hbW ⊢
    replace Ht := hide (Ht.out.keep hbW)
    replace Hr := hide (Hr.out.keep hbW)
    replace Hf := hide (Hf.out.keep hbW)
    replace Hp := hide (Hp.out.keep hbW)
    replace Hbl := hide (Hbl.out.trans (hbW.mono Hbl.out.size))
    have Hs := hide hys
    clear hW hbW hys
    generalize w3.heap.size = gs at Hs hs1 hs2 ⊢
    have t0 := Ht.out.cell 0
    have t1 := Ht.out.cell 1
    have t2 := Ht.out.cell 2
    have t3 := Ht.out.cell 3
    have tl := Ht.out.lt
    have r0 := Hr.out.cell 0
    have r1 := Hr.out.cell 1
    have r2 := Hr.out.cell 2
    have r3 := Hr.out.cell 3
    have rl := Hr.out.lt
    have f0 := Hf.out.cell 0
    have f1 := Hf.out.cell 1
    have fl := Hf.out.lt
    have p0 := Hp.out.cell 0
    have p1 := Hp.out.cell 1
    have pl := Hp.out.lt
    have s0 := Hs.out.cell 0
    have s1 := Hs.out.cell 1
    have sl := Hs.out.lt
    simp only [List.getElem?_cons_zero, List.getElem?_cons_succ] at t0 t1 t2 t3 r0 r1 r2 r3 f0 f1 p0 p1 s0 s1
    have hsn1 : ¬ gs = gT + 1 := by omega
    have hsn2 : ¬ gT + 1 = gs := by omega
    have hsn3 : ¬ gs = gT + 1 + 1 := by omega
    have hsn4 : ¬ gT + 1 + 1 = gs := by omega
    clear rf0 rf1 rf2 rf3 ff0 ff1
    have rf0 := Hr.out.frozen 0
    have rf1 := Hr.out.frozen 1
    have rf2 := Hr.out.frozen 2
    have rf3 := Hr.out.frozen 3
    have ff0 := Hf.out.frozen 0
    have ff1 := Hf.out.frozen 1
    by_cases hsc : sc = 0
    · subst hsc
      obtain ⟨hz, hl1, hl6, hrng⟩ := seqFault_ok (k := T.ops.length) (l := l) (i := -8) (by rw [Hq2.out])
      rw [Hq2.out] at hz
      obtain ⟨_, e2⟩ := Prod.mk.inj hz
      subst e2
      rw [Hll.out] at hl1 hl6
      have Hrng := hide hrng
      clear hz hrng
      go_wp2_with fail
      with_reducible refine (Hco.out N w4 (H.out.keep Hbl.out) Hok.out (Hl.out.keep Hbl.out) (by omega) Hrng.out).mono ?_
      rintro e w5 ⟨hb, hcs⟩
      have hX4 : gT + 1 + 1 < w4.heap.size := fl
      clear t0 t1 t2 t3 r0 r1 r2 r3 f0 f1 p0 p1 s0 s1 tl rl fl pl sl
      clear rf0 rf1 rf2 rf3 ff0 ff1
      replace Ht := hide (Ht.out.keep hb)
      replace Hr := hide (Hr.out.keep hb)
      replace Hf := hide (Hf.out.keep hb)
      replace Hp := hide (Hp.out.keep hb)
      replace Hs := hide (Hs.out.keep hb)
      replace Hbl := hide (Hbl.out.trans (hb.mono Hbl.out.size))
      clear hb
      have t0 := Ht.out.cell 0
      have t1 := Ht.out.cell 1
      have t2 := Ht.out.cell 2
      have t3 := Ht.out.cell 3
      have tl := Ht.out.lt
      have r0 := Hr.out.cell 0
      have r1 := Hr.out.cell 1
      have r2 := Hr.out.cell 2
      have r3 := Hr.out.cell 3
      have rl := Hr.out.lt
      have f0 := Hf.out.cell 0
      have f1 := Hf.out.cell 1
      have fl := Hf.out.lt
      have p0 := Hp.out.cell 0
      have p1 := Hp.out.cell 1
      have pl := Hp.out.lt
      have s0 := Hs.out.cell 0
      have s1 := Hs.out.cell 1
      have sl := Hs.out.lt
      simp only [List.getElem?_cons_zero, List.getElem?_cons_succ] at t0 t1 t2 t3 r0 r1 r2 r3 f0 f1 p0 p1 s0 s1
      have rf0 := Hr.out.frozen 0
      have rf1 := Hr.out.frozen 1
      have rf2 := Hr.out.frozen 2
      have rf3 := Hr.out.frozen 3
      have ff0 := Hf.out.frozen 0
      have ff1 := Hf.out.frozen 1
      rcases hcs with ⟨hnone, rfl⟩ | ⟨o, A1, n1, c1, A2, n2, c2, A3, n3, c3, hsome, rfl, x1, x2, x3, hso⟩
      · have Hnone := hide hnone
        clear hnone
        go_upto_region 8 with (fail)
        have hv1 : gT + 1 < w5.heap.size := rl
        have hv2 : gT + 1 + 1 < w5.heap.size := fl
        have hyv := Blk.new (w5) 72 [.slice none 0 0, .slice none 0 0, .slice none 0 0, .int .i64 0]
        have hbW : Below (w5).heap.size (w5) ((w5).alloc (.cells #[.slice none 0 0, .slice none 0 0, .slice none 0 0, .int .i64 0] 72)) := (Below.refl _ _).alloc (Nat.le_refl _) _
        obtain ⟨w6, hW⟩ : ∃ W, W = (w5).alloc (.cells #[.slice none 0 0, .slice none 0 0, .slice none 0 0, .int .i64 0] 72) := ⟨_, rfl⟩
        rw [← hW] at hyv hbW ⊢
        replace Ht := hide (Ht.out.keep hbW)
        replace Hr := hide (Hr.out.keep hbW)
        replace Hf := hide (Hf.out.keep hbW)
        replace Hp := hide (Hp.out.keep hbW)
        replace Hs := hide (Hs.out.keep hbW)
        replace Hbl := hide (Hbl.out.trans (hbW.mono Hbl.out.size))
        have Hv := hide hyv
        clear hW hbW hyv
        generalize w5.heap.size = gv at Hv hv1 hv2 ⊢
        have t0 := Ht.out.cell 0
        have t1 := Ht.out.cell 1
        have t2 := Ht.out.cell 2
        have t3 := Ht.out.cell 3
        have tl := Ht.out.lt
        have r0 := Hr.out.cell 0
        have r1 := Hr.out.cell 1
        have r2 := Hr.out.cell 2
        have r3 := Hr.out.cell 3
        have rl := Hr.out.lt
        have f0 := Hf.out.cell 0
        have f1 := Hf.out.cell 1
        have fl := Hf.out.lt
        have p0 := Hp.out.cell 0
        have p1 := Hp.out.cell 1
        have pl := Hp.out.lt
        have s0 := Hs.out.cell 0
        have s1 := Hs.out.cell 1
        have sl := Hs.out.lt
        have v0 := Hv.out.cell 0
        have v1 := Hv.out.cell 1
        have v2 := Hv.out.cell 2
        have v3 := Hv.out.cell 3
        have vl := Hv.out.lt
        simp only [List.getElem?_cons_zero, List.getElem?_cons_succ] at t0 t1 t2 t3 r0 r1 r2 r3 f0 f1 p0 p1 s0 s1 v0 v1 v2 v3
        clear rf0 rf1 rf2 rf3 ff0 ff1
        have rf0 := Hr.out.frozen 0
        have rf1 := Hr.out.frozen 1
        have rf2 := Hr.out.frozen 2
        have rf3 := Hr.out.frozen 3
        have ff0 := Hf.out.frozen 0
        have ff1 := Hf.out.frozen 1
        have hvn1 : ¬ gv = gT + 1 := by omega
        have hvn2 : ¬ gT + 1 = gv := by omega
        have hvn3 : ¬ gv = gT + 1 + 1 := by omega
        have hvn4 : ¬ gT + 1 + 1 = gv := by omega
        go_wp2_with fail
        refine bodyPost_ret (v := .tuple #[.agg #[.slice none 0 0, .slice none 0 0, .slice none 0 0, .int .i64 0], .bool false, fault 0 0]) (by simp [results, Tryz.results31, go_sem, fault, r0, r1, r2, r3, f0, f1, rl, fl, hgne1, hgne2]) rfl ?_
        have hres : combineR T l = (zeroOp, false, 0, 0) := by
          unfold combineR
          rw [Hq.out, if_neg (by simp), Hq2.out, if_neg (by simp)]
          rw [show combF zeroOp (l.map (opAt T.ops)) = none from Hnone.out]
        rw [hres]
        have hB := HB0.out
        refine ⟨?_, _, rfl, ?_⟩
        · repeat' (first | (with_reducible exact Hbl.out) | (with_reducible refine Below.drew ?_) | (with_reducible refine below_set ?_ ?_ _ _) | omega)
        · exact OpN.zero _ _
      · have Hsome := hide hsome
        have X1 := hide x1
        have X2 := hide x2
        have X3 := hide x3
        clear hsome x1 x2 x3 hso
        go_upto_region 8 with (fail)
        have hv1 : gT + 1 < w5.heap.size := rl
        have hv2 : gT + 1 + 1 < w5.heap.size := fl
        have hyv := Blk.new (w5) 72 [.slice A1 n1 c1, .slice A2 n2 c2, .slice A3 n3 c3, .int .i64 o.cost]
        have hbW : Below (w5).heap.size (w5) ((w5).alloc (.cells #[.slice A1 n1 c1, .slice A2 n2 c2, .slice A3 n3 c3, .int .i64 o.cost] 72)) := (Below.refl _ _).alloc (Nat.le_refl _) _
        obtain ⟨w6, hW⟩ : ∃ W, W = (w5).alloc (.cells #[.slice A1 n1 c1, .slice A2 n2 c2, .slice A3 n3 c3, .int .i64 o.cost] 72) := ⟨_, rfl⟩
        rw [← hW] at hyv hbW ⊢
        replace Ht := hide (Ht.out.keep hbW)
        replace Hr := hide (Hr.out.keep hbW)
        replace Hf := hide (Hf.out.keep hbW)
        replace Hp := hide (Hp.out.keep hbW)
        replace Hs := hide (Hs.out.keep hbW)
        replace X1 := hide (X1.out.keep hbW)
        replace X2 := hide (X2.out.keep hbW)
        replace X3 := hide (X3.out.keep hbW)
        replace Hbl := hide (Hbl.out.trans (hbW.mono Hbl.out.size))
        have Hv := hide hyv
        clear hW hbW hyv
        generalize w5.heap.size = gv at Hv hv1 hv2 ⊢
        have t0 := Ht.out.cell 0
        have t1 := Ht.out.cell 1
        have t2 := Ht.out.cell 2
        have t3 := Ht.out.cell 3
        have tl := Ht.out.lt
        have r0 := Hr.out.cell 0
        have r1 := Hr.out.cell 1
        have r2 := Hr.out.cell 2
        have r3 := Hr.out.cell 3
        have rl := Hr.out.lt
        have f0 := Hf.out.cell 0
        have f1 := Hf.out.cell 1
        have fl := Hf.out.lt
        have p0 := Hp.out.cell 0
        have p1 := Hp.out.cell 1
        have pl := Hp.out.lt
        have s0 := Hs.out.cell 0
        have s1 := Hs.out.cell 1
        have sl := Hs.out.lt
        have v0 := Hv.out.cell 0
        have v1 := Hv.out.cell 1
        have v2 := Hv.out.cell 2
        have v3 := Hv.out.cell 3
        have vl := Hv.out.lt
        simp only [List.getElem?_cons_zero, List.getElem?_cons_succ] at t0 t1 t2 t3 r0 r1 r2 r3 f0 f1 p0 p1 s0 s1 v0 v1 v2 v3
        clear rf0 rf1 rf2 rf3 ff0 ff1
        have rf0 := Hr.out.frozen 0
        have rf1 := Hr.out.frozen 1
        have rf2 := Hr.out.frozen 2
        have rf3 := Hr.out.frozen 3
        have ff0 := Hf.out.frozen 0
        have ff1 := Hf.out.frozen 1
        have hvn1 : ¬ gv = gT + 1 := by omega
        have hvn2 : ¬ gT + 1 = gv := by omega
        have hvn3 : ¬ gv = gT + 1 + 1 := by omega
        have hvn4 : ¬ gT + 1 + 1 = gv := by omega
        by_cases hbig : 100 < o.cost
        · skip
          go_wp2_with fail
          refine bodyPost_ret (v := .tuple #[.agg #[.slice none 0 0, .slice none 0 0, .slice none 0 0, .int .i64 0], .bool false, fault 10 (-9)]) (by simp [results, Tryz.results31, go_sem, fault, r0, r1, r2, r3, f0, f1, rl, fl, hgne1, hgne2]) rfl ?_
          have hres : combineR T l = (zeroOp, false, 10, (-9)) := by
            unfold combineR
            rw [Hq.out, if_neg (by simp), Hq2.out, if_neg (by simp)]
            rw [show combF zeroOp (l.map (opAt T.ops)) = some o from Hsome.out]
            simp only
            rw [if_pos hbig]
          rw [hres]
          have hB := HB0.out
          refine ⟨?_, _, rfl, ?_⟩
          · repeat' (first | (with_reducible exact Hbl.out) | (with_reducible refine Below.drew ?_) | (with_reducible refine below_set ?_ ?_ _ _) | omega)
          · exact OpN.zero _ _
        · skip
          go_wp2_with fail
          refine bodyPost_ret (v := .tuple #[.agg #[.slice A1 n1 c1, .slice A2 n2 c2, .slice A3 n3 c3, .int .i64 o.cost], .bool true, fault 0 0]) (by simp [results, Tryz.results31, go_sem, fault, r0, r1, r2, r3, f0, f1, rl, fl, hgne1, hgne2]) rfl ?_
          have hres : combineR T l = (o, true, 0, 0) := by
            unfold combineR
            rw [Hq.out, if_neg (by simp), Hq2.out, if_neg (by simp)]
            rw [show combF zeroOp (l.map (opAt T.ops)) = some o from Hsome.out]
            simp only
            rw [if_neg (by omega)]
          rw [hres]
          have hB := HB0.out
          refine ⟨?_, _, rfl, ?_⟩
          · repeat' (first | (with_reducible exact Hbl.out) | (with_reducible refine Below.drew ?_) | (with_reducible refine below_set ?_ ?_ _ _) | omega)
          · have hle : w.heap.size ≤ w4.heap.size := by omega
            refine ⟨A1, n1, c1, A2, n2, c2, A3, n3, c3, rfl, ?_, ?_, ?_⟩
            · refine RdN.less (X := w4.heap.size) ?_ hle
              repeat' (first | (with_reducible exact X1.out) | (with_reducible refine RdN.set ?_ ?_ _ _) | omega)
            · refine RdN.less (X := w4.heap.size) ?_ hle
              repeat' (first | (with_reducible exact X2.out) | (with_reducible refine RdN.set ?_ ?_ _ _) | omega)
            · refine RdN.less (X := w4.heap.size) ?_ hle
              repeat' (first | (with_reducible exact X3.out) | (with_reducible refine RdN.set ?_ ?_ _ _) | omega)
    · have hne : (sc != 0) = true := by simpa using hsc
      go_wp2_with fail
      go_region
      all_goals go_wp2_with fail
      all_goals refine bodyPost_ret (v := .tuple #[.agg #[.slice none 0 0, .slice none 0 0, .slice none 0 0, .int .i64 0], .bool false, fault sc si]) (by simp [results, Tryz.results31, go_sem, fault, r0, r1, r2, r3, f0, f1, rl, fl, hgne1, hgne2]) rfl ?_
      have hres : combineR T l = (zeroOp, false, sc, si) := by
        unfold combineR
        rw [Hq.out, if_neg (by simp), Hq2.out, if_pos hsc]
      rw [hres]
      have hB := HB0.out
      refine ⟨?_, _, rfl, ?_⟩
      · repeat' (first | (with_reducible exact Hbl.out) | (with_reducible refine Below.drew ?_) | (with_reducible refine below_set ?_ ?_ _ _) | omega)
      · exact OpN.zero _ _
  · have hne : (ec != 0) = true := by simpa using hec
    go_wp2_with fail
    go_region
    all_goals go_wp2_with fail
    all_goals refine bodyPost_ret (v := .tuple #[.agg #[.slice none 0 0, .slice none 0 0, .slice none 0 0, .int .i64 0], .bool false, fault ec ei]) (by simp [results, Tryz.results31, go_sem, fault, r0, r1, r2, r3, f0, f1, rl, fl, hgne1, hgne2]) rfl ?_
    have hres : combineR T l = (zeroOp, false, ec, ei) := by
      unfold combineR
      rw [Hq.out, if_pos hec]
    rw [hres]
    have hB := HB0.out
    refine ⟨?_, _, rfl, ?_⟩
    · repeat' (first | (with_reducible exact Hbl.out) | (with_reducible refine Below.drew ?_) | (with_reducible refine below_set ?_ ?_ _ _) | omega)
    · exact OpN.zero _ _
end Go.Proofs.YtemiecammmbjdaaGreat
namespace Go.Proofs.YtemiecammmbjdaaGreat
set_option linter.unusedVariables false
set_option linter.unusedSimpArgs false
open Go.RowKit
set_option maxRecDepth 100000 in
set_option maxHeartbeats 6400000 in
theorem Extend_ct (a : TA) (T : Tsk) (B : Option Addr) (m d : Nat) (ms : List (List Int)) (w : World) (h : TkR w a T) (hl : Rd (Enc.sl Enc.int) w B m d ms) :
    Calls Tryz.prog 12 #[.agg #[.int .i64 T.facts, .slice a.I a.nI a.cI, .slice a.G a.nG a.cG, .slice a.O a.nO a.cO], .slice B m d] w (ExtP w (extendR T ms)) := by
  obtain ⟨I, nI, cI, G, nG, cG, Oo, nO, cO⟩ := a
  have hex := extend_ct ⟨I, nI, cI, G, nG, cG, Oo, nO, cO⟩ T B m d ms
  simp only at hex ⊢
  obtain ⟨r, hr⟩ : ∃ r, r = extendR T ms := ⟨_, rfl⟩
  rw [← hr] at hex ⊢
  clear hr
  obtain ⟨⟨T0, T1, T2, T3⟩, rc, ri⟩ := r
  have H := hide h
  have Hl := hide hl
  have Hex := hide hex
  clear hex h hl
  have Hbl := hide (Below.refl w.heap.size w)
  go_enter Tryz.func12, Tryz.ntmps12
  go_upto_region 1 with (fail)
  obtain ⟨B0, hB0⟩ : ∃ B0, B0 = w.heap.size := ⟨_, rfl⟩
  have hgR0 : B0 ≤ w.heap.size + 1 := by omega
  have hgF0 : B0 ≤ w.heap.size + 1 + 1 := by omega
  have hgT0 : w.heap.size = B0 := by omega
  have HgT := hide hgT0
  have HB0 := hide hB0
  clear hB0 hgT0
  have hyt := Blk.new (w) 25 [.int .i64 T.facts, .slice I nI cI, .slice G nG cG, .slice Oo nO cO]
  have hyr := Blk.new ((w).alloc (.cells #[.int .i64 T.facts, .slice I nI cI, .slice G nG cG, .slice Oo nO cO] 25)) 25 [.int .i64 0, .slice none 0 0, .slice none 0 0, .slice none 0 0]
  replace hyt := hyt.alloc (.cells #[.int .i64 0, .slice none 0 0, .slice none 0 0, .slice none 0 0] 25)
  have hyf := Blk.new (((w).alloc (.cells #[.int .i64 T.facts, .slice I nI cI, .slice G nG cG, .slice Oo nO cO] 25)).alloc (.cells #[.int .i64 0, .slice none 0 0, .slice none 0 0, .slice none 0 0] 25)) 28 [.int .i64 0, .int .i64 0]
  replace hyt := hyt.alloc (.cells #[.int .i64 0, .int .i64 0] 28)
  replace hyr := hyr.alloc (.cells #[.int .i64 0, .int .i64 0] 28)
  have hbW := below_three w (.cells #[.int .i64 T.facts, .slice I nI cI, .slice G nG cG, .slice Oo nO cO] 25) (.cells #[.int .i64 0, .slice none 0 0, .slice none 0 0, .slice none 0 0] 25) (.cells #[.int .i64 0, .int .i64 0] 28)
  simp only [World.size_alloc] at hyr hyf
  obtain ⟨w0, hW⟩ : ∃ W, W = (((w).alloc (.cells #[.int .i64 T.facts, .slice I nI cI, .slice G nG cG, .slice Oo nO cO] 25)).alloc (.cells #[.int .i64 0, .slice none 0 0, .slice none 0 0, .slice none 0 0] 25)).alloc (.cells #[.int .i64 0, .int .i64 0] 28) := ⟨_, rfl⟩
  rw [← hW] at hyt hyr hyf hbW ⊢
  replace Hbl := hide (Hbl.out.trans (hbW.mono Hbl.out.size))
  have Ht := hide hyt
  have Hr := hide hyr
  have Hf := hide hyf
  clear hW hbW hyt hyr hyf
  generalize w.heap.size = gT at Ht Hr Hf hgR0 hgF0 HgT ⊢
  have t0 := Ht.out.cell 0
  have t1 := Ht.out.cell 1
  have t2 := Ht.out.cell 2
  have t3 := Ht.out.cell 3
  have tl := Ht.out.lt
  have r0 := Hr.out.cell 0
  have r1 := Hr.out.cell 1
  have r2 := Hr.out.cell 2
  have r3 := Hr.out.cell 3
  have rl := Hr.out.lt
  have f0 := Hf.out.cell 0
  have f1 := Hf.out.cell 1
  have fl := Hf.out.lt
  simp only [List.getElem?_cons_zero, List.getElem?_cons_succ] at t0 t1 t2 t3 r0 r1 r2 r3 f0 f1
  have hgne1 : ¬ gT + 1 = gT + 1 + 1 := by omega
  have hgne2 : ¬ gT + 1 + 1 = gT + 1 := by omega
  have hW1 : gT + 1 + 1 < w0.heap.size := fl
  have hW0 : w.heap.size < w0.heap.size := by have h1 := HgT.out; have h2 := HB0.out; omega
  go_wp2_with fail
  with_reducible refine (Hex.out w0 (H.out.keep Hbl.out) (Hl.out.keep Hbl.out)).mono ?_
  rintro e w1 ⟨hb, ⟨J1, j1, k1, J2, j2, k2, J3, j3, k3⟩, rfl, htk⟩
  clear t0 t1 t2 t3 r0 r1 r2 r3 f0 f1 tl rl fl
  replace Ht := hide (Ht.out.keep hb)
  replace Hr := hide (Hr.out.keep hb)
  replace Hf := hide (Hf.out.keep hb)
  replace Hbl := hide (Hbl.out.trans (hb.mono Hbl.out.size))
  clear hb
  have Htk := hide htk
  clear htk
  unfold taskV fault
  simp only
  have t0 := Ht.out.cell 0
  have t1 := Ht.out.cell 1
  have t2 := Ht.out.cell 2
  have t3 := Ht.out.cell 3
  have tl := Ht.out.lt
  have r0 := Hr.out.cell 0
  have r1 := Hr.out.cell 1
  have r2 := Hr.out.cell 2
  have r3 := Hr.out.cell 3
  have rl := Hr.out.lt
  have f0 := Hf.out.cell 0
  have f1 := Hf.out.cell 1
  have fl := Hf.out.lt
  simp only [List.getElem?_cons_zero, List.getElem?_cons_succ] at t0 t1 t2 t3 r0 r1 r2 r3 f0 f1
  have rf0 := Hr.out.frozen 0
  have rf1 := Hr.out.frozen 1
  have rf2 := Hr.out.frozen 2
  have rf3 := Hr.out.frozen 3
  have ff0 := Hf.out.frozen 0
  have ff1 := Hf.out.frozen 1
  go_wp2_with fail
  refine bodyPost_ret (v := .tuple #[.agg #[.int .i64 T0, .slice J1 j1 k1, .slice J2 j2 k2, .slice J3 j3 k3], fault rc ri]) (by simp [results, Tryz.results12, go_sem, fault, r0, r1, r2, r3, f0, f1, rl, fl, hgne1, hgne2]) rfl ?_
  have hB := HB0.out
  refine ⟨?_, ⟨J1, j1, k1, J2, j2, k2, J3, j3, k3⟩, rfl, ?_⟩
  · repeat' (first | (with_reducible exact Hbl.out) | (with_reducible refine Below.drew ?_) | (with_reducible refine below_set ?_ ?_ _ _) | omega)
  · intro w2 hk
    have hlt : w.heap.size < w0.heap.size := hW0
    have hgt : gT + 1 + 1 < w0.heap.size := hW1
    have hB1 := HgT.out
    refine Htk.out w2 (Chg.trans ?_ (hk.mono fun b e => by omega))
    exact ((((((Chg.set _ (gT + 1) 0 _).trans (Chg.set _ (gT + 1) 1 _)).trans (Chg.set _ (gT + 1) 2 _)).trans (Chg.set _ (gT + 1) 3 _)).mono (M' := fun b => b < w0.heap.size) (fun b e => by omega)).trans (((Chg.set _ (gT + 1 + 1) 0 _).trans (Chg.set _ (gT + 1 + 1) 1 _)).mono (fun b e => by omega)))
end Go.Proofs.YtemiecammmbjdaaGreat
namespace Go.Proofs.YtemiecammmbjdaaGreat
set_option linter.unusedVariables false
set_option linter.unusedSimpArgs false
open Go.RowKit
set_option maxRecDepth 100000 in
set_option maxHeartbeats 6400000 in
theorem Expand_ct (a : TA) (T : Tsk) (Bm : Option Addr) (mm dm : Nat) (ms : List (List Int)) (B : Option Addr) (m d : Nat) (l : List Int) (w : World) (h : TkR w a T) (hms : Rd (Enc.sl Enc.int) w Bm mm dm ms) (hl : Rd Enc.int w B m d l) :
    Calls Tryz.prog 33 #[.agg #[.int .i64 T.facts, .slice a.I a.nI a.cI, .slice a.G a.nG a.cG, .slice a.O a.nO a.cO], .slice Bm mm dm, .slice B m d] w (ExpandP w (expandR T ms l)) := by
  obtain ⟨i1, hi1, hy0, hy1, hy2⟩ := info_parts intInfoT
  obtain ⟨I, nI, cI, G, nG, cG, Oo, nO, cO⟩ := a
  have hex := extend_ct ⟨I, nI, cI, G, nG, cG, Oo, nO, cO⟩ T Bm mm dm ms
  simp only at hex ⊢
  rcases hq : extendR T ms with ⟨⟨T0, T1, T2, T3⟩, rc, ri⟩
  rw [hq] at hex
  have hok := extend_ok (T := T) (ms := ms)
  rw [hq] at hok
  simp only at hok
  have hlO := h.ops.len
  have hlow := h.ops.low
  have hlm := hms.low
  have hll := hl.low
  simp only at hlO hlow
  have Hq := hide hq
  have Hok := hide hok
  have HlO := hide hlO
  have H := hide h
  have Hms := hide hms
  have Hlm := hide hms.len
  have Hl := hide hl
  have Hll := hide hl.len
  have Hex := hide hex
  clear hq hok hlO hex h hl hms
  have Hbl := hide (Below.refl w.heap.size w)
  go_enter Tryz.func33, Tryz.ntmps33
  go_upto_region 1 with (fail)
  obtain ⟨B0, hB0⟩ : ∃ B0, B0 = w.heap.size := ⟨_, rfl⟩
  have hgF0 : B0 ≤ w.heap.size + 1 := by omega
  have HB0 := hide hB0
  clear hB0
  have hyt := Blk.new (w) 25 [.int .i64 T.facts, .slice I nI cI, .slice G nG cG, .slice Oo nO cO]
  have hyf := Blk.new ((w).alloc (.cells #[.int .i64 T.facts, .slice I nI cI, .slice G nG cG, .slice Oo nO cO] 25)) 28 [.int .i64 0, .int .i64 0]
  replace hyt := hyt.alloc (.cells #[.int .i64 0, .int .i64 0] 28)
  have hbW := below_two w (.cells #[.int .i64 T.facts, .slice I nI cI, .slice G nG cG, .slice Oo nO cO] 25) (.cells #[.int .i64 0, .int .i64 0] 28)
  simp only [World.size_alloc] at hyf
  obtain ⟨w0, hW⟩ : ∃ W, W = ((w).alloc (.cells #[.int .i64 T.facts, .slice I nI cI, .slice G nG cG, .slice Oo nO cO] 25)).alloc (.cells #[.int .i64 0, .int .i64 0] 28) := ⟨_, rfl⟩
  rw [← hW] at hyt hyf hbW ⊢
  replace Hbl := hide (Hbl.out.trans (hbW.mono Hbl.out.size))
  have Ht := hide hyt
  have Hf := hide hyf
  clear hW hbW hyt hyf
  generalize w.heap.size = gT at Ht Hf hgF0 ⊢
  have t0 := Ht.out.cell 0
  have t1 := Ht.out.cell 1
  have t2 := Ht.out.cell 2
  have t3 := Ht.out.cell 3
  have tl := Ht.out.lt
  have f0 := Hf.out.cell 0
  have f1 := Hf.out.cell 1
  have fl := Hf.out.lt
  simp only [List.getElem?_cons_zero, List.getElem?_cons_succ] at t0 t1 t2 t3 f0 f1
  have ff0 := Hf.out.frozen 0
  have ff1 := Hf.out.frozen 1
  go_wp2_with fail
  with_reducible refine (Hex.out w0 (H.out.keep Hbl.out) (Hms.out.keep Hbl.out)).mono ?_
  rintro e w1 ⟨hb, ⟨J1, j1, k1, J2, j2, k2, J3, j3, k3⟩, rfl, htk⟩
  clear t0 t1 t2 t3 f0 f1 tl fl
  replace Ht := hide (Ht.out.keep hb)
  replace Hf := hide (Hf.out.keep hb)
  replace Hbl := hide (Hbl.out.trans (hb.mono Hbl.out.size))
  clear hb
  have hjl := (htk w1 (Chg.refl _ _)).ops.len
  have hjw := (htk w1 (Chg.refl _ _)).ops.low
  simp only at hjl hjw
  clear htk
  unfold taskV fault
  simp only
  have t0 := Ht.out.cell 0
  have t1 := Ht.out.cell 1
  have t2 := Ht.out.cell 2
  have t3 := Ht.out.cell 3
  have tl := Ht.out.lt
  have f0 := Hf.out.cell 0
  have f1 := Hf.out.cell 1
  have fl := Hf.out.lt
  simp only [List.getElem?_cons_zero, List.getElem?_cons_succ] at t0 t1 t2 t3 f0 f1
  clear ff0 ff1
  have ff0 := Hf.out.frozen 0
  have ff1 := Hf.out.frozen 1
  go_upto_region 2 with (fail)
  have hx1 : gT + 1 < w1.heap.size := fl
  have hx2 : B0 ≤ w1.heap.size + 1 := by have := Hbl.out.size; have := HB0.out; omega
  have Hjl := hide hjl
  clear hjl
  have hyx := Blk.new (w1) 25 [.int .i64 T0, .slice J1 j1 k1, .slice J2 j2 k2, .slice J3 j3 k3]
  have hye := Blk.new ((w1).alloc (.cells #[.int .i64 T0, .slice J1 j1 k1, .slice J2 j2 k2, .slice J3 j3 k3] 25)) 28 [.int .i64 rc, .int .i64 ri]
  replace hyx := hyx.alloc (.cells #[.int .i64 rc, .int .i64 ri] 28)
  have hbW := below_two w1 (.cells #[.int .i64 T0, .slice J1 j1 k1, .slice J2 j2 k2, .slice J3 j3 k3] 25) (.cells #[.int .i64 rc, .int .i64 ri] 28)
  simp only [World.size_alloc] at hye
  obtain ⟨w2, hW⟩ : ∃ W, W = ((w1).alloc (.cells #[.int .i64 T0, .slice J1 j1 k1, .slice J2 j2 k2, .slice J3 j3 k3] 25)).alloc (.cells #[.int .i64 rc, .int .i64 ri] 28) := ⟨_, rfl⟩
  rw [← hW] at hyx hye hbW ⊢
  replace Ht := hide (Ht.out.keep hbW)
  replace Hf := hide (Hf.out.keep hbW)
  replace Hbl := hide (Hbl.out.trans (hbW.mono Hbl.out.size))
  have Hx := hide hyx
  have He := hide hye
  clear hW hbW hyx hye
  generalize w1.heap.size = gX at Hx He hx1 hx2 ⊢
  have t0 := Ht.out.cell 0
  have t1 := Ht.out.cell 1
  have t2 := Ht.out.cell 2
  have t3 := Ht.out.cell 3
  have tl := Ht.out.lt
  have f0 := Hf.out.cell 0
  have f1 := Hf.out.cell 1
  have fl := Hf.out.lt
  have x0 := Hx.out.cell 0
  have x1 := Hx.out.cell 1
  have x2 := Hx.out.cell 2
  have x3 := Hx.out.cell 3
  have xl := Hx.out.lt
  have e0 := He.out.cell 0
  have e1 := He.out.cell 1
  have el := He.out.lt
  simp only [List.getElem?_cons_zero, List.getElem?_cons_succ] at t0 t1 t2 t3 f0 f1 x0 x1 x2 x3 e0 e1
  have hxn1 : ¬ gX + 1 = gT + 1 := by omega
  have hxn2 : ¬ gT + 1 = gX + 1 := by omega
  clear ff0 ff1
  have ff0 := Hf.out.frozen 0
  have ff1 := Hf.out.frozen 1
  have ef0 := He.out.frozen 0
  have ef1 := He.out.frozen 1
  by_cases hec : rc = 0
  · subst hec
    obtain ⟨e2, e3, e4, e5, e6⟩ := Hok.out rfl
    obtain ⟨_, e2⟩ := Prod.mk.inj e2
    subst e2
    rw [Hjl.out] at e3
    have E5 := hide e5
    rw [HlO.out] at e3 e6
    rw [Hlm.out] at e3 e4
    have E3 := hide e3
    clear e5 e3
    rcases hq2 : stepsFault j3 l with ⟨sc, si⟩
    have hst := Steps_ct j3 B m d l
    rw [hq2] at hst
    have Hq2 := hide hq2
    have Hst := hide hst
    clear hq2 hst
    go_wp2_with fail
    with_reducible refine (Hst.out w2 (Hl.out.keep Hbl.out) hjw).mono ?_
    rintro e w3 ⟨rfl, hb⟩
    clear t0 t1 t2 t3 f0 f1 x0 x1 x2 x3 e0 e1 tl fl xl el
    replace Ht := hide (Ht.out.keep hb)
    replace Hf := hide (Hf.out.keep hb)
    replace Hx := hide (Hx.out.keep hb)
    replace He := hide (He.out.keep hb)
    replace Hbl := hide (Hbl.out.trans (hb.mono Hbl.out.size))
    clear hb
    unfold fault
    have t0 := Ht.out.cell 0
    have t1 := Ht.out.cell 1
    have t2 := Ht.out.cell 2
    have t3 := Ht.out.cell 3
    have tl := Ht.out.lt
    have f0 := Hf.out.cell 0
    have f1 := Hf.out.cell 1
    have fl := Hf.out.lt
    have x0 := Hx.out.cell 0
    have x1 := Hx.out.cell 1
    have x2 := Hx.out.cell 2
    have x3 := Hx.out.cell 3
    have xl := Hx.out.lt
    have e0 := He.out.cell 0
    have e1 := He.out.cell 1
    have el := He.out.lt
    simp only [List.getElem?_cons_zero, List.getElem?_cons_succ] at t0 t1 t2 t3 f0 f1 x0 x1 x2 x3 e0 e1
    clear ff0 ff1 ef0 ef1
    have ff0 := Hf.out.frozen 0
    have ff1 := Hf.out.frozen 1
    have ef0 := He.out.frozen 0
    have ef1 := He.out.frozen 1
    go_upto_region 4 with (fail)
    have he9 := (He.out.set 0 (.int .i64 sc)).set 1 (.int .i64 si)
    simp only [List.set_cons_zero, List.set_cons_succ] at he9
    have hf9 := (Hf.out.far (p := ⟨gX + 1, 0, none⟩) (by show gT + 1 ≠ gX + 1; omega) (.int .i64 sc)).far (p := ⟨gX + 1, 1, none⟩) (by show gT + 1 ≠ gX + 1; omega) (.int .i64 si)
    have ht9 := (Ht.out.far (p := ⟨gX + 1, 0, none⟩) (by show gT ≠ gX + 1; omega) (.int .i64 sc)).far (p := ⟨gX + 1, 1, none⟩) (by show gT ≠ gX + 1; omega) (.int .i64 si)
    have hb9 := below_set (below_set Hbl.out (g := gX + 1) (by have := HB0.out; omega) 0 (.int .i64 sc)) (g := gX + 1) (by have := HB0.out; omega) 1 (.int .i64 si)
    obtain ⟨w5, hW⟩ : ∃ W, W = (w3.setCell ⟨gX + 1, 0, none⟩ (.int .i64 sc)).setCell ⟨gX + 1, 1, none⟩ (.int .i64 si) := ⟨_, rfl⟩
    rw [← hW] at he9 hf9 ht9 hb9 ⊢
    clear hW
    clear t0 t1 t2 t3 f0 f1 x0 x1 x2 x3 e0 e1 tl fl xl el
    clear ff0 ff1 ef0 ef1
    clear Hx
    replace He := hide he9
    replace Hf := hide hf9
    replace Ht := hide ht9
    replace Hbl := hide hb9
    clear he9 hf9 ht9 hb9
    have t0 := Ht.out.cell 0
    have t1 := Ht.out.cell 1
    have t2 := Ht.out.cell 2
    have t3 := Ht.out.cell 3
    have tl := Ht.out.lt
    have f0 := Hf.out.cell 0
    have f1 := Hf.out.cell 1
    have fl := Hf.out.lt
    have e0 := He.out.cell 0
    have e1 := He.out.cell 1
    have el := He.out.lt
    simp only [List.getElem?_cons_zero, List.getElem?_cons_succ] at t0 t1 t2 t3 f0 f1 e0 e1
    have ff0 := Hf.out.frozen 0
    have ff1 := Hf.out.frozen 1
    have ef0 := He.out.frozen 0
    have ef1 := He.out.frozen 1
    by_cases hsc : sc = 0
    · subst hsc
      obtain ⟨hz, hl60, hrng⟩ := steps_ok (n := j3) (l := l) (by rw [Hq2.out])
      rw [Hq2.out] at hz
      obtain ⟨_, e2⟩ := Prod.mk.inj hz
      subst e2
      rw [Hll.out] at hl60
      have Hrng := hide hrng
      clear hz hrng
      have hlt5 : gT + 1 < w5.heap.size := fl
      go_wp2_with fail
      go_loopw [10, 33] (fun o i wr => ∃ (k : Nat) (O : Option Addr) (q oc : Nat) (vs : List Value), k ≤ m ∧ i = .int .i64 k ∧ o = .slice O q oc ∧ OwnE Enc.int 3 w5.heap.size (fun b => w5.heap.size ≤ b) wr O q oc vs (expandF nO ms (l.take k)) ∧ Below w5.heap.size w5 wr) (fun _ i _ => m - (intOf i).toNat)
      case atStart => exact ⟨0, none, 0, 0, [], by omega, rfl, rfl, OwnE.nil _ _ _ _ _, Below.refl _ _⟩
      case round =>
        obtain ⟨k, O, q, oc, vs, hk, rfl, rfl, hown, hb⟩ := hrel
        have hqk : q ≤ 6 * k := by
          rw [← hown.len]
          have := expand_len (n := nO) E5.out (l.take k)
          rw [List.length_take] at this
          omega
        replace Ht := hide (Ht.out.keep hb)
        replace Hf := hide (Hf.out.keep hb)
        clear He
        clear t0 t1 t2 t3 f0 f1 e0 e1 tl fl el
        clear ff0 ff1 ef0 ef1
        have t0 := Ht.out.cell 0
        have t1 := Ht.out.cell 1
        have t2 := Ht.out.cell 2
        have t3 := Ht.out.cell 3
        have tl := Ht.out.lt
        have f0 := Hf.out.cell 0
        have f1 := Hf.out.cell 1
        have fl := Hf.out.lt
        simp only [List.getElem?_cons_zero, List.getElem?_cons_succ] at t0 t1 t2 t3 f0 f1
        have ff0 := Hf.out.frozen 0
        have ff1 := Hf.out.frozen 1
        have Hown := hide hown
        have Hb := hide hb
        have hsz1 : w5.heap.size ≤ wr.heap.size := hb.size
        clear hown hb
        by_cases hlt : k < m
        · obtain ⟨b, off, x, rfl, hx, hx1, hx2, hcx⟩ := (Hl.out.keep (Hbl.out.trans (Hb.out.mono Hbl.out.size))).int hlt
          have hxr := Hrng.out x (List.mem_of_getElem? hx)
          obtain ⟨p, rfl⟩ : ∃ p : Nat, x = (p : Int) := ⟨x.toNat, by omega⟩
          have hst := expand_succ (n := nO) (ms := ms) hx
          by_cases hp : p < nO
          · rw [piece_low (by omega)] at hst
            have Hst1 := hide hst
            have hpi : (p : Int) < (nO : Int) := by omega
            clear hst hx hxr
            go_wp2_with
              (at_builtin
               refine wpList_pushE rfl _ _ 22 rfl w5.heap.size 3 i1 (.int .i64 0) 8 Tryz.underlying22 hi1 hy0 hy1 hy2 rfl (by decide) rfl Hown.out (fun r hr => (Hown.out.base hr).1) [.int .i64 p] p (by intro u hu; simp at hu; subst hu; rfl) rfl (firm_int (by omega) (by omega)) (by omega) (by omega) hsz1 ?_
               intro O6 oc6 w6  hown6 hch6 hat6
               have hown6 := hown6.less (M' := fun b => w5.heap.size ≤ b) (fun i _ e => .inl e)
               have hb6 := row_below Hb.out hsz1 hch6 (fun r hr => (Hown.out.base hr).1)
               have Hown6 := hide hown6
               have Hb6 := hide hb6
               clear hown6 hch6 hat6 hb6)
            go_roundw
            case rel => exact ⟨k + 1, O6, q + 1, oc6, _, by omega, by go_num, rfl, by rw [Hst1.out]; exact Hown6.out, Hb6.out⟩
            case measure => simp [intOf]; omega
          · obtain ⟨j, rfl⟩ : ∃ j, p = nO + j := ⟨p - nO, by omega⟩
            have hj : j < mm := by have := E3.out; omega
            obtain ⟨b2, off2, q2, A2, n2, c2, rfl, hq2, hcq, hrq⟩ := (Hms.out.keep (Hbl.out.trans (Hb.out.mono Hbl.out.size))).sl hj
            rw [piece_high hq2] at hst
            have hn2 : n2 ≤ 6 := by rw [← hrq.len]; exact E5.out _ (List.mem_of_getElem? hq2)
            have Hst1 := hide hst
            have Hrq := hide hrq
            have hwr : IntKind.i64.wrap (((nO + j : Nat) : Int) - (nO : Int)) = (j : Int) := by rw [IntWalk.i64_in _ (by omega)]; omega
            have hpi : ¬ ((nO + j : Nat) : Int) < (nO : Int) := by omega
            clear hst hx hxr hq2 hrq
            go_wp2_with
              (at_builtin
               refine wpList_appendE rfl _ _ 22 rfl w5.heap.size 3 i1 (.int .i64 0) 8 Tryz.underlying22 hi1 hy0 hy1 hy2 rfl (by decide) (fun _ _ _ h => one_int h) rfl Hown.out (fun r hr => (Hown.out.base hr).1) Hrq.out (Below.refl _ _) (fun us y hok _ => ?_) rfl (by omega) (by omega) hsz1 ?_
               · obtain ⟨e1, e2, e3⟩ := hok
                 subst e1
                 exact firm_int e2 e3
               intro O6 oc6 w6 vs6 hown6 hch6 hat6
               have hown6 := hown6.less (M' := fun b => w5.heap.size ≤ b) (fun i _ e => .inl e)
               have hb6 := row_below Hb.out hsz1 hch6 (fun r hr => (Hown.out.base hr).1)
               have Hown6 := hide hown6
               have Hb6 := hide hb6
               clear hown6 hch6 hat6 hb6)
            go_roundw
            case rel => exact ⟨k + 1, O6, q + n2, oc6, _, by omega, by go_num, rfl, by rw [Hst1.out]; exact Hown6.out, Hb6.out⟩
            case measure => simp [intOf]; omega
        · obtain rfl : k = m := by omega
          have hown := Hown.out
          rw [List.take_of_length_le (by rw [Hll.out]; omega)] at hown
          have hq := hown.len
          have Hown9 := hide hown
          have Hlq := hide hq
          replace Hbl := hide (Hbl.out.trans (Hb.out.mono Hbl.out.size))
          clear hown hq Hown
          by_cases h60 : 60 < q
          · skip
            go_wp2_with fail
            refine bodyPost_ret (v := .tuple #[.slice none 0 0, fault 10 (-9)]) (by simp [results, Tryz.results33, go_sem, fault, f0, f1, fl]) rfl ?_
            have hres : expandR T ms l = ([], 10, (-9)) := by
              unfold expandR
              rw [Hq.out]
              simp only
              rw [if_neg (by simp), Hjl.out, Hq2.out, if_neg (by simp), HlO.out, Hlq.out, if_pos h60]
            rw [hres]
            have hB := HB0.out
            refine expandP_nil ?_ _ _
            repeat' (first | (with_reducible exact Hbl.out) | (with_reducible refine Below.drew ?_) | (with_reducible refine below_set ?_ ?_ _ _) | omega)
          · skip
            go_wp2_with fail
            refine bodyPost_ret (v := .tuple #[.slice O q oc, fault 0 0]) (by simp [results, Tryz.results33, go_sem, fault, f0, f1, fl]) rfl ?_
            have hres : expandR T ms l = (expandF nO ms l, 0, 0) := by
              unfold expandR
              rw [Hq.out]
              simp only
              rw [if_neg (by simp), Hjl.out, Hq2.out, if_neg (by simp), HlO.out, Hlq.out, if_neg h60]
            rw [hres]
            have hB := HB0.out
            refine ⟨?_, O, q, oc, rfl, ?_⟩
            · repeat' (first | (with_reducible exact Hbl.out) | (with_reducible refine Below.drew ?_) | (with_reducible refine below_set ?_ ?_ _ _) | omega)
            · intro w9 hk9
              have hrm : RdM (fun b => b < w5.heap.size) wr O q oc (expandF nO ms l) := RdM.own Hown9.out.ints (fun r hr e => by have := (Hown9.out.base hr).1; omega) Hlq.out (rd_ints Hown9.out.rd)
              refine hrm w9 (Chg.trans ?_ (hk9.mono fun b e => by omega))
              exact ((Chg.set _ (gT + 1) 0 _).trans (Chg.set _ (gT + 1) 1 _)).mono (fun b e => by omega)
    · have hne : (sc != 0) = true := by simpa using hsc
      go_wp2_with fail
      go_region
      all_goals go_wp2_with fail
      all_goals refine bodyPost_ret (v := .tuple #[.slice none 0 0, fault sc si]) (by simp [results, Tryz.results33, go_sem, fault, f0, f1, fl]) rfl ?_
      have hres : expandR T ms l = ([], sc, si) := by
        unfold expandR
        rw [Hq.out]
        simp only
        rw [if_neg (by simp), Hjl.out, Hq2.out, if_pos hsc]
      rw [hres]
      have hB := HB0.out
      refine expandP_nil ?_ _ _
      repeat' (first | (with_reducible exact Hbl.out) | (with_reducible refine Below.drew ?_) | (with_reducible refine below_set ?_ ?_ _ _) | omega)
  · have hne : (rc != 0) = true := by simpa using hec
    have hne2 : (rc == 0) = false := by simpa using hec
    go_wp2_with fail
    go_region
    all_goals go_wp2_with fail
    all_goals refine bodyPost_ret (v := .tuple #[.slice none 0 0, fault rc ri]) (by simp [results, Tryz.results33, go_sem, fault, f0, f1, fl]) rfl ?_
    have hres : expandR T ms l = ([], rc, ri) := by
      unfold expandR
      rw [Hq.out]
      simp only
      rw [if_pos hec]
    rw [hres]
    have hB := HB0.out
    refine expandP_nil ?_ _ _
    repeat' (first | (with_reducible exact Hbl.out) | (with_reducible refine Below.drew ?_) | (with_reducible refine below_set ?_ ?_ _ _) | omega)
end Go.Proofs.YtemiecammmbjdaaGreat
namespace Go.Proofs.YtemiecammmbjdaaGreat
set_option linter.unusedVariables false
set_option linter.unusedSimpArgs false
open Go.RowKit
theorem two_low {w : World} {g : Nat} {x y : Int} (hb : Blk 3 w g [.int .i64 x, .int .i64 y]) (hx : -1000 ≤ x ∧ x ≤ 1000) (hy : -1000 ≤ y ∧ y ≤ 1000) : Rd Enc.int w (some ⟨g, 0, none⟩) 2 2 [x, y] :=
  Rd.lit_ints [x, y] hb (by simp) (fun z hz => by simp at hz; rcases hz with rfl | rfl <;> assumption)
set_option maxRecDepth 100000 in
set_option maxHeartbeats 6400000 in
theorem macrosExample_ct (w : World) : Calls Tryz.prog 11 #[] w (Gives w (.bool true)) := by
  have Hbl := hide (Below.refl w.heap.size w)
  go_enter Tryz.func11, Tryz.ntmps11
  go_wp2_with fail
  with_reducible refine (macroTask_ct _).mono ?_
  rintro e w1 ⟨hb, a, rfl, ht⟩
  have Ht := hide ht
  clear ht
  replace Hbl := hide (Hbl.out.trans (hb.mono Hbl.out.size))
  clear hb
  unfold taskV
  go_wp2_with fail
  have hyi := Blk.new (w1) 3 [.int .i64 0, .int .i64 1]
  have hbW : Below (w1).heap.size (w1) ((w1).alloc (.cells #[.int .i64 0, .int .i64 1] 3)) := (Below.refl _ _).alloc (Nat.le_refl _) _
  obtain ⟨w2, hW⟩ : ∃ W, W = (w1).alloc (.cells #[.int .i64 0, .int .i64 1] 3) := ⟨_, rfl⟩
  rw [← hW] at hyi hbW ⊢
  replace Ht := hide (Ht.out.keep hbW)
  replace Hbl := hide (Hbl.out.trans (hbW.mono Hbl.out.size))
  have Hi := hide hyi
  clear hW hbW hyi
  generalize w1.heap.size = gi at Hi ⊢
  have i0 := Hi.out.cell 0
  have i1 := Hi.out.cell 1
  have il := Hi.out.lt
  simp only [List.getElem?_cons_zero, List.getElem?_cons_succ] at i0 i1
  have hct := Combine_ct a mT (some ⟨gi, 0, none⟩) 2 2 [0, 1] w2 Ht.out (two_low Hi.out (by omega) (by omega))
  rw [combine_mT] at hct
  with_reducible refine hct.mono ?_
  rintro e w3 ⟨hb, v, rfl, A1, n1, c1, A2, n2, c2, A3, n3, c3, rfl, q1, q2, q3⟩
  have Q1 := hide q1
  have Q2 := hide q2
  have Q3 := hide q3
  have hn1 := q1.rd.len
  simp only [List.length_nil] at hn1
  subst hn1
  clear q1 q2 q3
  clear i0 i1 il
  replace Hi := hide (Hi.out.keep hb)
  replace Hbl := hide (Hbl.out.trans (hb.mono Hbl.out.size))
  clear hb hct Ht
  have i0 := Hi.out.cell 0
  have i1 := Hi.out.cell 1
  have il := Hi.out.lt
  simp only [List.getElem?_cons_zero, List.getElem?_cons_succ] at i0 i1
  clear i0 i1 il
  clear Hi
  unfold fault
  simp only
  go_wp2_with fail
  have hyo := Blk.new (w3) 72 [.slice A1 0 c1, .slice A2 n2 c2, .slice A3 n3 c3, .int .i64 3]
  have hye := Blk.new ((w3).alloc (.cells #[.slice A1 0 c1, .slice A2 n2 c2, .slice A3 n3 c3, .int .i64 3] 72)) 28 [.int .i64 0, .int .i64 0]
  replace hyo := hyo.alloc (.cells #[.int .i64 0, .int .i64 0] 28)
  have hbW := below_two w3 (.cells #[.slice A1 0 c1, .slice A2 n2 c2, .slice A3 n3 c3, .int .i64 3] 72) (.cells #[.int .i64 0, .int .i64 0] 28)
  simp only [World.size_alloc] at hye
  obtain ⟨w4, hW⟩ : ∃ W, W = ((w3).alloc (.cells #[.slice A1 0 c1, .slice A2 n2 c2, .slice A3 n3 c3, .int .i64 3] 72)).alloc (.cells #[.int .i64 0, .int .i64 0] 28) := ⟨_, rfl⟩
  rw [← hW] at hyo hye hbW ⊢
  replace Q1 := hide (Q1.out.keep hbW)
  replace Q2 := hide (Q2.out.keep hbW)
  replace Q3 := hide (Q3.out.keep hbW)
  replace Hbl := hide (Hbl.out.trans (hbW.mono Hbl.out.size))
  have Ho := hide hyo
  have He := hide hye
  clear hW hbW hyo hye
  generalize w3.heap.size = g1 at Ho He ⊢
  have o0 := Ho.out.cell 0
  have o1 := Ho.out.cell 1
  have o2 := Ho.out.cell 2
  have o3 := Ho.out.cell 3
  have ol := Ho.out.lt
  have e0 := He.out.cell 0
  have e1 := He.out.cell 1
  have el := He.out.lt
  simp only [List.getElem?_cons_zero, List.getElem?_cons_succ] at o0 o1 o2 o3 e0 e1
  with_reducible refine (macroTask_ct _).mono ?_
  rintro e w5 ⟨hb, b, rfl, ht⟩
  have Ht := hide ht
  clear ht
  clear o0 o1 o2 o3 e0 e1 ol el
  replace Ho := hide (Ho.out.keep hb)
  replace He := hide (He.out.keep hb)
  replace Q1 := hide (Q1.out.keep hb)
  replace Q2 := hide (Q2.out.keep hb)
  replace Q3 := hide (Q3.out.keep hb)
  replace Hbl := hide (Hbl.out.trans (hb.mono Hbl.out.size))
  clear hb
  unfold taskV
  have o0 := Ho.out.cell 0
  have o1 := Ho.out.cell 1
  have o2 := Ho.out.cell 2
  have o3 := Ho.out.cell 3
  have ol := Ho.out.lt
  have e0 := He.out.cell 0
  have e1 := He.out.cell 1
  have el := He.out.lt
  simp only [List.getElem?_cons_zero, List.getElem?_cons_succ] at o0 o1 o2 o3 e0 e1
  go_wp2_with fail
  have hyi := Blk.new (w5) 3 [.int .i64 0, .int .i64 1]
  have hym := Blk.new ((w5).alloc (.cells #[.int .i64 0, .int .i64 1] 3)) 22 [.slice (some ⟨w5.heap.size, 0, none⟩) 2 2]
  replace hyi := hyi.alloc (.cells #[.slice (some ⟨w5.heap.size, 0, none⟩) 2 2] 22)
  have hbW := below_two w5 (.cells #[.int .i64 0, .int .i64 1] 3) (.cells #[.slice (some ⟨w5.heap.size, 0, none⟩) 2 2] 22)
  simp only [World.size_alloc] at hym
  obtain ⟨w6, hW⟩ : ∃ W, W = ((w5).alloc (.cells #[.int .i64 0, .int .i64 1] 3)).alloc (.cells #[.slice (some ⟨w5.heap.size, 0, none⟩) 2 2] 22) := ⟨_, rfl⟩
  rw [← hW] at hyi hym hbW ⊢
  replace Ho := hide (Ho.out.keep hbW)
  replace He := hide (He.out.keep hbW)
  replace Q1 := hide (Q1.out.keep hbW)
  replace Q2 := hide (Q2.out.keep hbW)
  replace Q3 := hide (Q3.out.keep hbW)
  replace Ht := hide (Ht.out.keep hbW)
  replace Hbl := hide (Hbl.out.trans (hbW.mono Hbl.out.size))
  have Hi := hide hyi
  have Hm := hide hym
  clear hW hbW hyi hym
  generalize w5.heap.size = gi at Hi Hm ⊢
  have o0 := Ho.out.cell 0
  have o1 := Ho.out.cell 1
  have o2 := Ho.out.cell 2
  have o3 := Ho.out.cell 3
  have ol := Ho.out.lt
  have e0 := He.out.cell 0
  have e1 := He.out.cell 1
  have el := He.out.lt
  have i0 := Hi.out.cell 0
  have i1 := Hi.out.cell 1
  have il := Hi.out.lt
  have m0 := Hm.out.cell 0
  have ml := Hm.out.lt
  simp only [List.getElem?_cons_zero, List.getElem?_cons_succ] at o0 o1 o2 o3 e0 e1 i0 i1 m0
  have hrd : Rd (Enc.sl Enc.int) w6 (some ⟨gi + 1, 0, none⟩) 1 1 [[0, 1]] := Rd.lit_sl _ [[0, 1]] Hm.out (by simp) (fun j x hx => by
    cases j with
    | zero => obtain rfl := Option.some.inj hx; exact ⟨_, 2, 2, rfl, two_low Hi.out (by omega) (by omega)⟩
    | succ j => simp at hx)
  have hct := Extend_ct b mT (some ⟨gi + 1, 0, none⟩) 1 1 [[0, 1]] w6 Ht.out hrd
  rw [extend_mT] at hct
  with_reducible refine hct.mono ?_
  rintro e w7 ⟨hb, x, rfl, hx⟩
  have hx0 := hx w7 (Chg.refl _ _)
  have hx3 := hx0.ops.len
  simp only [List.length_cons, List.length_nil] at hx3
  have Hx3 := hide hx3
  clear hrd hx hx0 hx3
  clear o0 o1 o2 o3 e0 e1 i0 i1 m0 ol el il ml
  replace Ho := hide (Ho.out.keep hb)
  replace He := hide (He.out.keep hb)
  replace Hi := hide (Hi.out.keep hb)
  replace Hm := hide (Hm.out.keep hb)
  replace Q1 := hide (Q1.out.keep hb)
  replace Q2 := hide (Q2.out.keep hb)
  replace Q3 := hide (Q3.out.keep hb)
  replace Hbl := hide (Hbl.out.trans (hb.mono Hbl.out.size))
  clear hb hct Ht
  have o0 := Ho.out.cell 0
  have o1 := Ho.out.cell 1
  have o2 := Ho.out.cell 2
  have o3 := Ho.out.cell 3
  have ol := Ho.out.lt
  have e0 := He.out.cell 0
  have e1 := He.out.cell 1
  have el := He.out.lt
  have i0 := Hi.out.cell 0
  have i1 := Hi.out.cell 1
  have il := Hi.out.lt
  have m0 := Hm.out.cell 0
  have ml := Hm.out.lt
  simp only [List.getElem?_cons_zero, List.getElem?_cons_succ] at o0 o1 o2 o3 e0 e1 i0 i1 m0
  clear o0 o1 o2 o3 e0 e1 i0 i1 m0 ol el il ml
  have o0 := Ho.out.cell 0
  have o1 := Ho.out.cell 1
  have o2 := Ho.out.cell 2
  have o3 := Ho.out.cell 3
  have ol := Ho.out.lt
  have e0 := He.out.cell 0
  have e1 := He.out.cell 1
  have el := He.out.lt
  simp only [List.getElem?_cons_zero, List.getElem?_cons_succ] at o0 o1 o2 o3 e0 e1
  clear Hi Hm
  unfold fault taskV
  simp only
  go_wp2_with fail
  have hyx := Blk.new (w7) 25 [.int .i64 2, .slice x.I x.nI x.cI, .slice x.G x.nG x.cG, .slice x.O x.nO x.cO]
  have hyf := Blk.new ((w7).alloc (.cells #[.int .i64 2, .slice x.I x.nI x.cI, .slice x.G x.nG x.cG, .slice x.O x.nO x.cO] 25)) 28 [.int .i64 0, .int .i64 0]
  replace hyx := hyx.alloc (.cells #[.int .i64 0, .int .i64 0] 28)
  have hbW := below_two w7 (.cells #[.int .i64 2, .slice x.I x.nI x.cI, .slice x.G x.nG x.cG, .slice x.O x.nO x.cO] 25) (.cells #[.int .i64 0, .int .i64 0] 28)
  simp only [World.size_alloc] at hyf
  obtain ⟨w8, hW⟩ : ∃ W, W = ((w7).alloc (.cells #[.int .i64 2, .slice x.I x.nI x.cI, .slice x.G x.nG x.cG, .slice x.O x.nO x.cO] 25)).alloc (.cells #[.int .i64 0, .int .i64 0] 28) := ⟨_, rfl⟩
  rw [← hW] at hyx hyf hbW ⊢
  replace Ho := hide (Ho.out.keep hbW)
  replace He := hide (He.out.keep hbW)
  replace Q1 := hide (Q1.out.keep hbW)
  replace Q2 := hide (Q2.out.keep hbW)
  replace Q3 := hide (Q3.out.keep hbW)
  replace Hbl := hide (Hbl.out.trans (hbW.mono Hbl.out.size))
  have Hx := hide hyx
  have Hf := hide hyf
  clear hW hbW hyx hyf
  generalize w7.heap.size = g2 at Hx Hf ⊢
  have o0 := Ho.out.cell 0
  have o1 := Ho.out.cell 1
  have o2 := Ho.out.cell 2
  have o3 := Ho.out.cell 3
  have ol := Ho.out.lt
  have e0 := He.out.cell 0
  have e1 := He.out.cell 1
  have el := He.out.lt
  have x0 := Hx.out.cell 0
  have x1 := Hx.out.cell 1
  have x2 := Hx.out.cell 2
  have x3 := Hx.out.cell 3
  have xl := Hx.out.lt
  have f0 := Hf.out.cell 0
  have f1 := Hf.out.cell 1
  have fl := Hf.out.lt
  simp only [List.getElem?_cons_zero, List.getElem?_cons_succ] at o0 o1 o2 o3 e0 e1 x0 x1 x2 x3 f0 f1
  with_reducible refine (macroTask_ct _).mono ?_
  rintro e w9 ⟨hb, c, rfl, ht⟩
  have Ht := hide ht
  clear ht
  clear o0 o1 o2 o3 e0 e1 x0 x1 x2 x3 f0 f1 ol el xl fl
  replace Ho := hide (Ho.out.keep hb)
  replace He := hide (He.out.keep hb)
  replace Hx := hide (Hx.out.keep hb)
  replace Hf := hide (Hf.out.keep hb)
  replace Q1 := hide (Q1.out.keep hb)
  replace Q2 := hide (Q2.out.keep hb)
  replace Q3 := hide (Q3.out.keep hb)
  replace Hbl := hide (Hbl.out.trans (hb.mono Hbl.out.size))
  clear hb
  unfold taskV
  have o0 := Ho.out.cell 0
  have o1 := Ho.out.cell 1
  have o2 := Ho.out.cell 2
  have o3 := Ho.out.cell 3
  have ol := Ho.out.lt
  have e0 := He.out.cell 0
  have e1 := He.out.cell 1
  have el := He.out.lt
  have x0 := Hx.out.cell 0
  have x1 := Hx.out.cell 1
  have x2 := Hx.out.cell 2
  have x3 := Hx.out.cell 3
  have xl := Hx.out.lt
  have f0 := Hf.out.cell 0
  have f1 := Hf.out.cell 1
  have fl := Hf.out.lt
  simp only [List.getElem?_cons_zero, List.getElem?_cons_succ] at o0 o1 o2 o3 e0 e1 x0 x1 x2 x3 f0 f1
  go_wp2_with fail
  have hyi := Blk.new (w9) 3 [.int .i64 0, .int .i64 1]
  have hym := Blk.new ((w9).alloc (.cells #[.int .i64 0, .int .i64 1] 3)) 22 [.slice (some ⟨w9.heap.size, 0, none⟩) 2 2]
  replace hyi := hyi.alloc (.cells #[.slice (some ⟨w9.heap.size, 0, none⟩) 2 2] 22)
  have hyp := Blk.new (((w9).alloc (.cells #[.int .i64 0, .int .i64 1] 3)).alloc (.cells #[.slice (some ⟨w9.heap.size, 0, none⟩) 2 2] 22)) 3 [.int .i64 2]
  replace hyi := hyi.alloc (.cells #[.int .i64 2] 3)
  replace hym := hym.alloc (.cells #[.int .i64 2] 3)
  have hbW := below_three w9 (.cells #[.int .i64 0, .int .i64 1] 3) (.cells #[.slice (some ⟨w9.heap.size, 0, none⟩) 2 2] 22) (.cells #[.int .i64 2] 3)
  simp only [World.size_alloc] at hym hyp
  obtain ⟨w10, hW⟩ : ∃ W, W = (((w9).alloc (.cells #[.int .i64 0, .int .i64 1] 3)).alloc (.cells #[.slice (some ⟨w9.heap.size, 0, none⟩) 2 2] 22)).alloc (.cells #[.int .i64 2] 3) := ⟨_, rfl⟩
  rw [← hW] at hyi hym hyp hbW ⊢
  replace Ho := hide (Ho.out.keep hbW)
  replace He := hide (He.out.keep hbW)
  replace Hx := hide (Hx.out.keep hbW)
  replace Hf := hide (Hf.out.keep hbW)
  replace Q1 := hide (Q1.out.keep hbW)
  replace Q2 := hide (Q2.out.keep hbW)
  replace Q3 := hide (Q3.out.keep hbW)
  replace Ht := hide (Ht.out.keep hbW)
  replace Hbl := hide (Hbl.out.trans (hbW.mono Hbl.out.size))
  have Hi := hide hyi
  have Hm := hide hym
  have Hp := hide hyp
  clear hW hbW hyi hym hyp
  generalize w9.heap.size = gi at Hi Hm Hp ⊢
  have o0 := Ho.out.cell 0
  have o1 := Ho.out.cell 1
  have o2 := Ho.out.cell 2
  have o3 := Ho.out.cell 3
  have ol := Ho.out.lt
  have e0 := He.out.cell 0
  have e1 := He.out.cell 1
  have el := He.out.lt
  have x0 := Hx.out.cell 0
  have x1 := Hx.out.cell 1
  have x2 := Hx.out.cell 2
  have x3 := Hx.out.cell 3
  have xl := Hx.out.lt
  have f0 := Hf.out.cell 0
  have f1 := Hf.out.cell 1
  have fl := Hf.out.lt
  have i0 := Hi.out.cell 0
  have i1 := Hi.out.cell 1
  have il := Hi.out.lt
  have m0 := Hm.out.cell 0
  have ml := Hm.out.lt
  have p0 := Hp.out.cell 0
  have pl := Hp.out.lt
  simp only [List.getElem?_cons_zero, List.getElem?_cons_succ] at o0 o1 o2 o3 e0 e1 x0 x1 x2 x3 f0 f1 i0 i1 m0 p0
  have hrd : Rd (Enc.sl Enc.int) w10 (some ⟨gi + 1, 0, none⟩) 1 1 [[0, 1]] := Rd.lit_sl _ [[0, 1]] Hm.out (by simp) (fun j x hx => by
    cases j with
    | zero => obtain rfl := Option.some.inj hx; exact ⟨_, 2, 2, rfl, two_low Hi.out (by omega) (by omega)⟩
    | succ j => simp at hx)
  have hct := Expand_ct c mT (some ⟨gi + 1, 0, none⟩) 1 1 [[0, 1]] (some ⟨gi + 1 + 1, 0, none⟩) 1 1 [2] w10 Ht.out hrd (one_low Hp.out (by omega))
  rw [expand_mT] at hct
  with_reducible refine hct.mono ?_
  rintro e w11 ⟨hb, P, np, cp, rfl, hx⟩
  have HP := hide (hx w11 (Chg.refl _ _))
  clear hrd hx
  clear o0 o1 o2 o3 e0 e1 x0 x1 x2 x3 f0 f1 i0 i1 m0 p0 ol el xl fl il ml pl
  replace Ho := hide (Ho.out.keep hb)
  replace He := hide (He.out.keep hb)
  replace Hx := hide (Hx.out.keep hb)
  replace Hf := hide (Hf.out.keep hb)
  replace Hi := hide (Hi.out.keep hb)
  replace Hm := hide (Hm.out.keep hb)
  replace Hp := hide (Hp.out.keep hb)
  replace Q1 := hide (Q1.out.keep hb)
  replace Q2 := hide (Q2.out.keep hb)
  replace Q3 := hide (Q3.out.keep hb)
  replace Hbl := hide (Hbl.out.trans (hb.mono Hbl.out.size))
  clear hb hct Ht
  have o0 := Ho.out.cell 0
  have o1 := Ho.out.cell 1
  have o2 := Ho.out.cell 2
  have o3 := Ho.out.cell 3
  have ol := Ho.out.lt
  have e0 := He.out.cell 0
  have e1 := He.out.cell 1
  have el := He.out.lt
  have x0 := Hx.out.cell 0
  have x1 := Hx.out.cell 1
  have x2 := Hx.out.cell 2
  have x3 := Hx.out.cell 3
  have xl := Hx.out.lt
  have f0 := Hf.out.cell 0
  have f1 := Hf.out.cell 1
  have fl := Hf.out.lt
  have i0 := Hi.out.cell 0
  have i1 := Hi.out.cell 1
  have il := Hi.out.lt
  have m0 := Hm.out.cell 0
  have ml := Hm.out.lt
  have p0 := Hp.out.cell 0
  have pl := Hp.out.lt
  simp only [List.getElem?_cons_zero, List.getElem?_cons_succ] at o0 o1 o2 o3 e0 e1 x0 x1 x2 x3 f0 f1 i0 i1 m0 p0
  clear o0 o1 o2 o3 e0 e1 x0 x1 x2 x3 f0 f1 i0 i1 m0 p0 ol el xl fl il ml pl
  have o0 := Ho.out.cell 0
  have o1 := Ho.out.cell 1
  have o2 := Ho.out.cell 2
  have o3 := Ho.out.cell 3
  have ol := Ho.out.lt
  have e0 := He.out.cell 0
  have e1 := He.out.cell 1
  have el := He.out.lt
  have x0 := Hx.out.cell 0
  have x1 := Hx.out.cell 1
  have x2 := Hx.out.cell 2
  have x3 := Hx.out.cell 3
  have xl := Hx.out.lt
  have f0 := Hf.out.cell 0
  have f1 := Hf.out.cell 1
  have fl := Hf.out.lt
  simp only [List.getElem?_cons_zero, List.getElem?_cons_succ] at o0 o1 o2 o3 e0 e1 x0 x1 x2 x3 f0 f1
  clear Hi Hm Hp
  unfold fault
  simp only
  go_upto_region 4 with (fail)
  have hyh := Blk.new (w11) 28 [.int .i64 0, .int .i64 0]
  have hbW : Below (w11).heap.size (w11) ((w11).alloc (.cells #[.int .i64 0, .int .i64 0] 28)) := (Below.refl _ _).alloc (Nat.le_refl _) _
  obtain ⟨w12, hW⟩ : ∃ W, W = (w11).alloc (.cells #[.int .i64 0, .int .i64 0] 28) := ⟨_, rfl⟩
  rw [← hW] at hyh hbW ⊢
  replace Ho := hide (Ho.out.keep hbW)
  replace He := hide (He.out.keep hbW)
  replace Hx := hide (Hx.out.keep hbW)
  replace Hf := hide (Hf.out.keep hbW)
  replace Q1 := hide (Q1.out.keep hbW)
  replace Q2 := hide (Q2.out.keep hbW)
  replace Q3 := hide (Q3.out.keep hbW)
  replace HP := hide (HP.out.keep hbW)
  replace Hbl := hide (Hbl.out.trans (hbW.mono Hbl.out.size))
  have Hh := hide hyh
  clear hW hbW hyh
  generalize w11.heap.size = g3 at Hh ⊢
  have o0 := Ho.out.cell 0
  have o1 := Ho.out.cell 1
  have o2 := Ho.out.cell 2
  have o3 := Ho.out.cell 3
  have ol := Ho.out.lt
  have e0 := He.out.cell 0
  have e1 := He.out.cell 1
  have el := He.out.lt
  have x0 := Hx.out.cell 0
  have x1 := Hx.out.cell 1
  have x2 := Hx.out.cell 2
  have x3 := Hx.out.cell 3
  have xl := Hx.out.lt
  have f0 := Hf.out.cell 0
  have f1 := Hf.out.cell 1
  have fl := Hf.out.lt
  have h0 := Hh.out.cell 0
  have h1 := Hh.out.cell 1
  have hl := Hh.out.lt
  simp only [List.getElem?_cons_zero, List.getElem?_cons_succ] at o0 o1 o2 o3 e0 e1 x0 x1 x2 x3 f0 f1 h0 h1
  obtain ⟨nO, hnO⟩ : ∃ k, k = x.nO := ⟨_, rfl⟩
  rw [← hnO] at Hx x3 Hx3
  obtain rfl : nO = 3 := Hx3.out.symm
  clear hnO Hx3
  go_wp2_with fail
  have hyk := Blk.new (w12) 3 [.int .i64 1]
  have hbW : Below (w12).heap.size (w12) ((w12).alloc (.cells #[.int .i64 1] 3)) := (Below.refl _ _).alloc (Nat.le_refl _) _
  obtain ⟨w13, hW⟩ : ∃ W, W = (w12).alloc (.cells #[.int .i64 1] 3) := ⟨_, rfl⟩
  rw [← hW] at hyk hbW ⊢
  replace Ho := hide (Ho.out.keep hbW)
  replace He := hide (He.out.keep hbW)
  replace Hx := hide (Hx.out.keep hbW)
  replace Hf := hide (Hf.out.keep hbW)
  replace Hh := hide (Hh.out.keep hbW)
  replace Q1 := hide (Q1.out.keep hbW)
  replace Q2 := hide (Q2.out.keep hbW)
  replace Q3 := hide (Q3.out.keep hbW)
  replace HP := hide (HP.out.keep hbW)
  replace Hbl := hide (Hbl.out.trans (hbW.mono Hbl.out.size))
  have Hk := hide hyk
  clear hW hbW hyk
  generalize w12.heap.size = gk at Hk ⊢
  have o0 := Ho.out.cell 0
  have o1 := Ho.out.cell 1
  have o2 := Ho.out.cell 2
  have o3 := Ho.out.cell 3
  have ol := Ho.out.lt
  have e0 := He.out.cell 0
  have e1 := He.out.cell 1
  have el := He.out.lt
  have x0 := Hx.out.cell 0
  have x1 := Hx.out.cell 1
  have x2 := Hx.out.cell 2
  have x3 := Hx.out.cell 3
  have xl := Hx.out.lt
  have f0 := Hf.out.cell 0
  have f1 := Hf.out.cell 1
  have fl := Hf.out.lt
  have h0 := Hh.out.cell 0
  have h1 := Hh.out.cell 1
  have hl := Hh.out.lt
  have k0 := Hk.out.cell 0
  have kl := Hk.out.lt
  simp only [List.getElem?_cons_zero, List.getElem?_cons_succ] at o0 o1 o2 o3 e0 e1 x0 x1 x2 x3 f0 f1 h0 h1 k0
  have hct := Ints_ct A2 (some ⟨gk, 0, none⟩) _ _ 1 1 [1] [1] w13 Q2.out.rd (one_low Hk.out (by omega))
  rw [show intsB [1] [1] = true by decide] at hct
  with_reducible refine hct.mono ?_
  rintro e w14 ⟨rfl, hq⟩
  have hb := hq.below w13.heap.size
  clear hct hq
  clear o0 o1 o2 o3 e0 e1 x0 x1 x2 x3 f0 f1 h0 h1 k0 ol el xl fl hl kl
  replace Ho := hide (Ho.out.keep hb)
  replace He := hide (He.out.keep hb)
  replace Hx := hide (Hx.out.keep hb)
  replace Hf := hide (Hf.out.keep hb)
  replace Hh := hide (Hh.out.keep hb)
  replace Hk := hide (Hk.out.keep hb)
  replace Q1 := hide (Q1.out.keep hb)
  replace Q2 := hide (Q2.out.keep hb)
  replace Q3 := hide (Q3.out.keep hb)
  replace HP := hide (HP.out.keep hb)
  replace Hbl := hide (Hbl.out.trans (hb.mono Hbl.out.size))
  clear hb
  have o0 := Ho.out.cell 0
  have o1 := Ho.out.cell 1
  have o2 := Ho.out.cell 2
  have o3 := Ho.out.cell 3
  have ol := Ho.out.lt
  have e0 := He.out.cell 0
  have e1 := He.out.cell 1
  have el := He.out.lt
  have x0 := Hx.out.cell 0
  have x1 := Hx.out.cell 1
  have x2 := Hx.out.cell 2
  have x3 := Hx.out.cell 3
  have xl := Hx.out.lt
  have f0 := Hf.out.cell 0
  have f1 := Hf.out.cell 1
  have fl := Hf.out.lt
  have h0 := Hh.out.cell 0
  have h1 := Hh.out.cell 1
  have hl := Hh.out.lt
  simp only [List.getElem?_cons_zero, List.getElem?_cons_succ] at o0 o1 o2 o3 e0 e1 x0 x1 x2 x3 f0 f1 h0 h1
  clear Hk
  go_wp2_with fail
  have hyk := Blk.new (w14) 3 [.int .i64 0]
  have hbW : Below (w14).heap.size (w14) ((w14).alloc (.cells #[.int .i64 0] 3)) := (Below.refl _ _).alloc (Nat.le_refl _) _
  obtain ⟨w15, hW⟩ : ∃ W, W = (w14).alloc (.cells #[.int .i64 0] 3) := ⟨_, rfl⟩
  rw [← hW] at hyk hbW ⊢
  replace Ho := hide (Ho.out.keep hbW)
  replace He := hide (He.out.keep hbW)
  replace Hx := hide (Hx.out.keep hbW)
  replace Hf := hide (Hf.out.keep hbW)
  replace Hh := hide (Hh.out.keep hbW)
  replace Q1 := hide (Q1.out.keep hbW)
  replace Q2 := hide (Q2.out.keep hbW)
  replace Q3 := hide (Q3.out.keep hbW)
  replace HP := hide (HP.out.keep hbW)
  replace Hbl := hide (Hbl.out.trans (hbW.mono Hbl.out.size))
  have Hk := hide hyk
  clear hW hbW hyk
  generalize w14.heap.size = gk at Hk ⊢
  have o0 := Ho.out.cell 0
  have o1 := Ho.out.cell 1
  have o2 := Ho.out.cell 2
  have o3 := Ho.out.cell 3
  have ol := Ho.out.lt
  have e0 := He.out.cell 0
  have e1 := He.out.cell 1
  have el := He.out.lt
  have x0 := Hx.out.cell 0
  have x1 := Hx.out.cell 1
  have x2 := Hx.out.cell 2
  have x3 := Hx.out.cell 3
  have xl := Hx.out.lt
  have f0 := Hf.out.cell 0
  have f1 := Hf.out.cell 1
  have fl := Hf.out.lt
  have h0 := Hh.out.cell 0
  have h1 := Hh.out.cell 1
  have hl := Hh.out.lt
  have k0 := Hk.out.cell 0
  have kl := Hk.out.lt
  simp only [List.getElem?_cons_zero, List.getElem?_cons_succ] at o0 o1 o2 o3 e0 e1 x0 x1 x2 x3 f0 f1 h0 h1 k0
  have hct := Ints_ct A3 (some ⟨gk, 0, none⟩) _ _ 1 1 [0] [0] w15 Q3.out.rd (one_low Hk.out (by omega))
  rw [show intsB [0] [0] = true by decide] at hct
  with_reducible refine hct.mono ?_
  rintro e w16 ⟨rfl, hq⟩
  have hb := hq.below w15.heap.size
  clear hct hq
  clear o0 o1 o2 o3 e0 e1 x0 x1 x2 x3 f0 f1 h0 h1 k0 ol el xl fl hl kl
  replace Ho := hide (Ho.out.keep hb)
  replace He := hide (He.out.keep hb)
  replace Hx := hide (Hx.out.keep hb)
  replace Hf := hide (Hf.out.keep hb)
  replace Hh := hide (Hh.out.keep hb)
  replace Hk := hide (Hk.out.keep hb)
  replace Q1 := hide (Q1.out.keep hb)
  replace Q2 := hide (Q2.out.keep hb)
  replace Q3 := hide (Q3.out.keep hb)
  replace HP := hide (HP.out.keep hb)
  replace Hbl := hide (Hbl.out.trans (hb.mono Hbl.out.size))
  clear hb
  have o0 := Ho.out.cell 0
  have o1 := Ho.out.cell 1
  have o2 := Ho.out.cell 2
  have o3 := Ho.out.cell 3
  have ol := Ho.out.lt
  have e0 := He.out.cell 0
  have e1 := He.out.cell 1
  have el := He.out.lt
  have x0 := Hx.out.cell 0
  have x1 := Hx.out.cell 1
  have x2 := Hx.out.cell 2
  have x3 := Hx.out.cell 3
  have xl := Hx.out.lt
  have f0 := Hf.out.cell 0
  have f1 := Hf.out.cell 1
  have fl := Hf.out.lt
  have h0 := Hh.out.cell 0
  have h1 := Hh.out.cell 1
  have hl := Hh.out.lt
  simp only [List.getElem?_cons_zero, List.getElem?_cons_succ] at o0 o1 o2 o3 e0 e1 x0 x1 x2 x3 f0 f1 h0 h1
  clear Hk
  go_wp2_with fail
  have hyk := Blk.new (w16) 3 [.int .i64 0, .int .i64 1]
  have hbW : Below (w16).heap.size (w16) ((w16).alloc (.cells #[.int .i64 0, .int .i64 1] 3)) := (Below.refl _ _).alloc (Nat.le_refl _) _
  obtain ⟨w17, hW⟩ : ∃ W, W = (w16).alloc (.cells #[.int .i64 0, .int .i64 1] 3) := ⟨_, rfl⟩
  rw [← hW] at hyk hbW ⊢
  replace Ho := hide (Ho.out.keep hbW)
  replace He := hide (He.out.keep hbW)
  replace Hx := hide (Hx.out.keep hbW)
  replace Hf := hide (Hf.out.keep hbW)
  replace Hh := hide (Hh.out.keep hbW)
  replace Q1 := hide (Q1.out.keep hbW)
  replace Q2 := hide (Q2.out.keep hbW)
  replace Q3 := hide (Q3.out.keep hbW)
  replace HP := hide (HP.out.keep hbW)
  replace Hbl := hide (Hbl.out.trans (hbW.mono Hbl.out.size))
  have Hk := hide hyk
  clear hW hbW hyk
  generalize w16.heap.size = gk at Hk ⊢
  have o0 := Ho.out.cell 0
  have o1 := Ho.out.cell 1
  have o2 := Ho.out.cell 2
  have o3 := Ho.out.cell 3
  have ol := Ho.out.lt
  have e0 := He.out.cell 0
  have e1 := He.out.cell 1
  have el := He.out.lt
  have x0 := Hx.out.cell 0
  have x1 := Hx.out.cell 1
  have x2 := Hx.out.cell 2
  have x3 := Hx.out.cell 3
  have xl := Hx.out.lt
  have f0 := Hf.out.cell 0
  have f1 := Hf.out.cell 1
  have fl := Hf.out.lt
  have h0 := Hh.out.cell 0
  have h1 := Hh.out.cell 1
  have hl := Hh.out.lt
  have k0 := Hk.out.cell 0
  have k1 := Hk.out.cell 1
  have kl := Hk.out.lt
  simp only [List.getElem?_cons_zero, List.getElem?_cons_succ] at o0 o1 o2 o3 e0 e1 x0 x1 x2 x3 f0 f1 h0 h1 k0 k1
  have hct := Ints_ct P (some ⟨gk, 0, none⟩) _ _ 2 2 [0, 1] [0, 1] w17 HP.out (two_low Hk.out (by omega) (by omega))
  rw [show intsB [0, 1] [0, 1] = true by decide] at hct
  with_reducible refine hct.mono ?_
  rintro e w18 ⟨rfl, hq⟩
  have hb := hq.below w17.heap.size
  clear hct hq
  clear o0 o1 o2 o3 e0 e1 x0 x1 x2 x3 f0 f1 h0 h1 k0 k1 ol el xl fl hl kl
  replace Ho := hide (Ho.out.keep hb)
  replace He := hide (He.out.keep hb)
  replace Hx := hide (Hx.out.keep hb)
  replace Hf := hide (Hf.out.keep hb)
  replace Hh := hide (Hh.out.keep hb)
  replace Hk := hide (Hk.out.keep hb)
  replace Q1 := hide (Q1.out.keep hb)
  replace Q2 := hide (Q2.out.keep hb)
  replace Q3 := hide (Q3.out.keep hb)
  replace HP := hide (HP.out.keep hb)
  replace Hbl := hide (Hbl.out.trans (hb.mono Hbl.out.size))
  clear hb
  have o0 := Ho.out.cell 0
  have o1 := Ho.out.cell 1
  have o2 := Ho.out.cell 2
  have o3 := Ho.out.cell 3
  have ol := Ho.out.lt
  have e0 := He.out.cell 0
  have e1 := He.out.cell 1
  have el := He.out.lt
  have x0 := Hx.out.cell 0
  have x1 := Hx.out.cell 1
  have x2 := Hx.out.cell 2
  have x3 := Hx.out.cell 3
  have xl := Hx.out.lt
  have f0 := Hf.out.cell 0
  have f1 := Hf.out.cell 1
  have fl := Hf.out.lt
  have h0 := Hh.out.cell 0
  have h1 := Hh.out.cell 1
  have hl := Hh.out.lt
  simp only [List.getElem?_cons_zero, List.getElem?_cons_succ] at o0 o1 o2 o3 e0 e1 x0 x1 x2 x3 f0 f1 h0 h1
  clear Hk
  go_wp2_with fail
  go_ret
  exact ⟨ret_bool (by simp), Hbl.out⟩
end Go.Proofs.YtemiecammmbjdaaGreat
