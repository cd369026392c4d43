/- What the law asks for, part 30: Dp Dq. -/
import Derived.Test.YtmjiiddncbhgpaaGreatE1
import Derived.Test.YtmjiiddncbhgpaaGreatE2
import Derived.Test.YtmjiiddncbhgpaaGreatE3
import Derived.Test.YtmjiiddncbhgpaaGreatE4
import Derived.Test.YtmjiiddncbhgpaaGreatE5
import Derived.Test.YtmjiiddncbhgpaaGreatE12
import Derived.Test.YtmjiiddncbhgpaaGreatE13
import Derived.Test.YtmjiiddncbhgpaaGreatE14
import Derived.Test.YtmjiiddncbhgpaaGreatE16
import Derived.Test.YtmjiiddncbhgpaaGreatE28
import Derived.BigQuiet
import Derived.Deep.AppendLies
import Derived.Deep.DeepCutAuto
import Derived.Deep.Draws
import Derived.Deep.Fields
import Derived.Deep.LoopGhost
import Derived.Deep.QuietTactic
import Derived.Deep.RegionHeld3
import Derived.Deep.Slices
import Derived.Ground.Names2Prog
import Derived.Ground.SlgnProg
import Derived.Ground.SlsfProg
import Derived.IntWalk
import Derived.Laws.AppendOwnNone
import Derived.Laws.BitsAllLaws
import Derived.Laws.OwnMore
import Derived.Lib.Hide
import Derived.Lib.SlicesCompact
import Derived.Maps.AppendAt
import Derived.Shelf.Slices.Cells
import Derived.Shelf.Slices.Clone
import Derived.Shelf.Slices.CompactI
import Derived.Shelf.Slices.Empties
import Derived.Shelf.Slices.In.SortNone
import Derived.Shelf.Slices.SearchI
import Derived.Shelf.Sort.Plain
import Derived.Sort.OwnSortedInts
import Derived.Test.YtmjiiddncbhgpaaGreatProg
import Derived.WalkKit
import Init
namespace Go.Proofs.YtmjiiddncbhgpaaGreat
set_option linter.unusedVariables false
set_option linter.unusedSimpArgs false
/-- the state belongs to one of the sets (as the reference looks at it) -/
def inSetsB (cs : List SS) (s : List Int) : Bool := cs.any fun c => subsetB c.need s && !meetB c.no s
/-- the sets hold the start, no goal, and what an operator makes of their states -/
structure Closed (N : Nat) (T : Tsk) (cs : List SS) : Prop where
  start : inSetsB cs T.init = true
  goal : ∀ s, setB N s = true → inSetsB cs s = true → subsetB T.goal s = false
  step : ∀ s, setB N s = true → inSetsB cs s = true → ∀ o ∈ T.ops, subsetB o.pre s = true → inSetsB cs (updF s o.add o.del) = true

theorem inS_set {N : Nat} {c : SS} (hc : OkSS N c) (s : List Int) : inS c (stF s) = (subsetB c.need s && !meetB c.no s) := by
  have h1 := (setB_iff.1 hc.need).2
  have h2 := (setB_iff.1 hc.no).2
  rw [Bool.eq_iff_iff]
  unfold inS stF
  rw [Bool.and_eq_true, Bool.and_eq_true, List.all_eq_true, List.all_eq_true, subsetB_iff, Bool.not_eq_true', ← Bool.not_eq_true, meetB_iff]
  refine and_congr ⟨fun h x hx => ?_, fun h x hx => ?_⟩ ⟨fun h => ?_, fun h x hx => ?_⟩
  · have := hasB_iff.1 (h x hx)
    rwa [Int.toNat_of_nonneg (h1 x hx).1] at this
  · exact hasB_iff.2 (by rw [Int.toNat_of_nonneg (h1 x hx).1]; exact h x hx)
  · rintro ⟨x, hx, hs⟩
    have := h x hx
    rw [Int.toNat_of_nonneg (h2 x hx).1, hasB_iff.2 hs] at this
    cases this
  · rw [Int.toNat_of_nonneg (h2 x hx).1, Bool.not_eq_true', ← Bool.not_eq_true, hasB_iff]
    exact fun hs => h ⟨x, hx, hs⟩
theorem sets_in {N : Nat} {cs : List SS} (hok : ∀ c ∈ cs, OkSS N c) (s : List Int) : inSetsB cs s = inR cs (stF s) := by
  unfold inSetsB inR
  rw [Bool.eq_iff_iff, List.any_eq_true, List.any_eq_true]
  exact ⟨fun ⟨c, hc, h⟩ => ⟨c, hc, by rw [inS_set (hok c hc)]; exact h⟩, fun ⟨c, hc, h⟩ => ⟨c, hc, by rw [← inS_set (hok c hc)]; exact h⟩⟩
theorem inS_near {N : Nat} {c : SS} (hc : OkSS N c) {s t : Nat → Bool} (h : ∀ v, v < N → s v = t v) : inS c s = inS c t := by
  have h1 := (setB_iff.1 hc.need).2
  have h2 := (setB_iff.1 hc.no).2
  unfold inS
  congr 1
  · rw [Bool.eq_iff_iff, List.all_eq_true, List.all_eq_true]
    constructor <;> intro k x hx <;> have e := h x.toNat (by have := h1 x hx; omega) <;> have := k x hx <;> simp_all
  · rw [Bool.eq_iff_iff, List.all_eq_true, List.all_eq_true]
    constructor <;> intro k x hx <;> have e := h x.toNat (by have := h2 x hx; omega) <;> have := k x hx <;> simp_all
theorem inR_near {N : Nat} {cs : List SS} (hok : ∀ c ∈ cs, OkSS N c) {s t : Nat → Bool} (h : ∀ v, v < N → s v = t v) : inR cs s = inR cs t := by
  rw [Bool.eq_iff_iff, inR_iff, inR_iff]
  exact ⟨fun ⟨c, hc, e⟩ => ⟨c, hc, by rw [← inS_near (hok c hc) h]; exact e⟩, fun ⟨c, hc, e⟩ => ⟨c, hc, by rw [inS_near (hok c hc) h]; exact e⟩⟩
theorem meet_false {a b : List Int} : meetB a b = false ↔ ∀ x ∈ a, x ∉ b := by
  rw [← Bool.not_eq_true, meetB_iff]
  exact ⟨fun h x hx hb => h ⟨x, hx, hb⟩, fun h ⟨x, hx, hb⟩ => h x hx hb⟩
theorem img_mem_need {c : SS} {o : Opr} {x : Int} : x ∈ (imgF c o).need ↔ ((x ∈ c.need ∨ x ∈ o.pre) ∧ x ∉ o.del) ∨ x ∈ o.add := by
  unfold imgF
  simp only [updF_mem]
  simp
theorem img_mem_no {c : SS} {o : Opr} {x : Int} : x ∈ (imgF c o).no ↔ (x ∈ c.no ∧ x ∉ o.add) ∨ x ∈ o.del := by
  unfold imgF
  simp only [updF_mem]
theorem img_set {N : Nat} {c : SS} {o : Opr} (hc : OkSS N c) (ho : OkOp N o) : setB N (imgF c o).need = true ∧ setB N (imgF c o).no = true := by
  have h1 := (setB_iff.1 hc.need).2
  have h2 := (setB_iff.1 hc.no).2
  have h3 := (setB_iff.1 ho.pre).2
  have h4 := (setB_iff.1 ho.add).2
  have h5 := (setB_iff.1 ho.del).2
  refine ⟨updF_set (fun x hx => ?_) h4, updF_set h2 h5⟩
  rcases updF_mem.1 hx with ⟨h, _⟩ | h
  · exact h1 x h
  · exact h3 x h
theorem proof_of_closed {N : Nat} {T : Tsk} {cs : List SS} (hT : OkT T N) (hok : ∀ c ∈ cs, OkSS N c) (h : Closed N T cs) : Proof T cs := by
  have hin : ∀ s, (∃ c ∈ cs, (∀ x ∈ c.need, x ∈ s) ∧ ∀ x ∈ c.no, x ∉ s) → inSetsB cs s = true := fun s ⟨c, hc, e⟩ => by
    refine List.any_eq_true.2 ⟨c, hc, ?_⟩
    rw [Bool.and_eq_true, subsetB_iff, Bool.not_eq_true', meet_false]
    exact e
  have hg := (setB_iff.1 hT.goal).2
  refine ⟨by rw [← sets_in hok]; exact h.start, fun c hc => ?_, fun c hc o ho hm s' hs' => ?_⟩
  · have oc := hok c hc
    have n1 := (setB_iff.1 oc.need).2
    have hap := meet_false.1 oc.apart
    cases hm : meetB T.goal c.no
    · have hm := meet_false.1 hm
      have hs : ∀ x, x ∈ pickR N (fun v => hasB c.need v || hasB T.goal v) ↔ x ∈ c.need ∨ x ∈ T.goal := fun x => by
        rw [pickR_mem]
        simp only [Bool.or_eq_true, hasB_iff]
        constructor
        · rintro ⟨p, _, k, rfl⟩; exact k
        · intro k
          have : 0 ≤ x ∧ x < N := k.elim (n1 x) (hg x)
          exact ⟨x.toNat, by omega, by rw [Int.toNat_of_nonneg this.1]; exact k, by omega⟩
      have h1 := h.goal _ (pickR_set N _) (hin _ ⟨c, hc, fun x hx => (hs x).2 (.inl hx), fun x hx hx2 => ((hs x).1 hx2).elim (fun k => hap x k hx) (fun k => hm x k hx)⟩)
      rw [← Bool.not_eq_true, subsetB_iff] at h1
      exact absurd (fun x hx => (hs x).2 (.inr hx)) h1
    · rfl
  · have oc := hok c hc
    have oo := hT.ops o ho
    have n1 := (setB_iff.1 oc.need).2
    have n2 := (setB_iff.1 oc.no).2
    have hp := (setB_iff.1 oo.pre).2
    have ha := (setB_iff.1 oo.add).2
    have hd := (setB_iff.1 oo.del).2
    have hap := meet_false.1 oc.apart
    have hao := meet_false.1 oo.apart
    have hm := meet_false.1 hm
    obtain ⟨i1, i2⟩ := img_set oc oo
    have i1 := (setB_iff.1 i1).2
    have i2 := (setB_iff.1 i2).2
    unfold inS at hs'
    rw [Bool.and_eq_true, List.all_eq_true, List.all_eq_true] at hs'
    obtain ⟨q1, q2⟩ := hs'
    let f : Nat → Bool := fun v => if hasB o.add v || hasB o.del v then hasB c.need v || hasB o.pre v else s' v
    have hs : ∀ v : Nat, v < N → ((v : Int) ∈ pickR N f ↔ f v = true) := fun v hv => by
      rw [pick_nat]
      exact ⟨fun k => k.2, fun k => ⟨hv, k⟩⟩
    have hneed : ∀ x ∈ c.need, x ∈ pickR N f := fun x hx => by
      have := n1 x hx
      obtain ⟨v, rfl⟩ : ∃ v : Nat, x = v := ⟨x.toNat, by omega⟩
      refine (hs v (by omega)).2 ?_
      show (if _ then _ else _) = true
      split
      · rw [hasB_iff.2 hx, Bool.true_or]
      · rename_i k
        simp only [Bool.or_eq_true, hasB_iff, not_or] at k
        have := q1 _ (img_mem_need.2 (.inl ⟨.inl hx, k.2⟩))
        simpa using this
    have hpre : ∀ x ∈ o.pre, x ∈ pickR N f := fun x hx => by
      have := hp x hx
      obtain ⟨v, rfl⟩ : ∃ v : Nat, x = v := ⟨x.toNat, by omega⟩
      refine (hs v (by omega)).2 ?_
      show (if _ then _ else _) = true
      split
      · rw [hasB_iff.2 hx, Bool.or_true]
      · rename_i k
        simp only [Bool.or_eq_true, hasB_iff, not_or] at k
        have := q1 _ (img_mem_need.2 (.inl ⟨.inr hx, k.2⟩))
        simpa using this
    have hno : ∀ x ∈ c.no, x ∉ pickR N f := fun x hx hx2 => by
      have := n2 x hx
      obtain ⟨v, rfl⟩ : ∃ v : Nat, x = v := ⟨x.toNat, by omega⟩
      have hf := (hs v (by omega)).1 hx2
      change (if _ then _ else _) = true at hf
      split at hf
      · rw [Bool.or_eq_true, hasB_iff, hasB_iff] at hf
        exact hf.elim (fun k => hap _ k hx) (fun k => hm _ k hx)
      · rename_i k
        simp only [Bool.or_eq_true, hasB_iff, not_or] at k
        have := q2 _ (img_mem_no.2 (.inl ⟨hx, k.1⟩))
        simp at this
        rw [this] at hf
        cases hf
    have h2 := h.step _ (pickR_set N f) (hin _ ⟨c, hc, hneed, hno⟩) o ho (subsetB_iff.2 hpre)
    rw [sets_in hok] at h2
    rw [← h2]
    refine inR_near hok (fun v hv => ?_)
    unfold stF
    rw [Bool.eq_iff_iff, hasB_iff, updF_mem, hs v hv]
    show s' v = true ↔ ((if _ then _ else _) = true ∧ _) ∨ _
    by_cases kd : (v : Int) ∈ o.del
    · have := q2 _ (img_mem_no.2 (.inr kd))
      simp at this
      rw [this]
      have : (v : Int) ∉ o.add := fun k => hao _ k kd
      simp [kd, this]
    · by_cases ka : (v : Int) ∈ o.add
      · have := q1 _ (img_mem_need.2 (.inr ka))
        simp at this
        rw [this]
        simp [ka]
      · rw [if_neg (by simp only [Bool.or_eq_true, hasB_iff, not_or]; exact ⟨ka, kd⟩)]
        simp [ka, kd]
/-- the faults of a list of sets -/
def ssF (N : Int) : Nat → List SS → Int × Int
  | _, [] => (0, 0)
  | i, c :: cs => if okSSB N c = true then ssF N (i + 1) cs else (5, (i : Int))
def setsF (T : Tsk) (l : List SS) : Int × Int :=
  if (taskFault T).1 ≠ 0 then taskFault T else if 2000 < l.length then (2, -8) else ssF T.facts 0 l
theorem ssF_at {N : Int} {l : List SS} {i : Nat} {c : SS} (h : l[i]? = some c) : ssF N i (l.drop i) = if okSSB N c = true then ssF N (i + 1) (l.drop (i + 1)) else (5, (i : Int)) := by
  obtain ⟨hlt, rfl⟩ := List.getElem?_eq_some_iff.1 h
  rw [List.drop_eq_getElem_cons hlt]
  rfl
theorem ssF_end {N : Int} {l : List SS} {i : Nat} (h : l.length ≤ i) : ssF N i (l.drop i) = (0, 0) := by
  rw [List.drop_eq_nil_of_le h]; rfl
theorem okSSB_1 {N : Int} {c : SS} (h : setB N c.need = false) : okSSB N c = false := by unfold okSSB; rw [h]; rfl
theorem okSSB_2 {N : Int} {c : SS} (h : setB N c.no = false) : okSSB N c = false := by unfold okSSB; rw [h]; simp
theorem okSSB_3 {N : Int} {c : SS} (h1 : setB N c.need = true) (h2 : setB N c.no = true) : okSSB N c = !meetB c.need c.no := by unfold okSSB; rw [h1, h2]; simp
theorem ssF_zero {N : Int} : ∀ {l : List SS} {i : Nat}, (ssF N i l).1 = 0 ↔ ∀ c ∈ l, okSSB N c = true := by
  intro l
  induction l with
  | nil => intro i; simp [ssF]
  | cons c cs ih =>
    intro i
    unfold ssF
    split
    · rename_i h; rw [ih]; simp [h]
    · rename_i h; simp [h]
theorem ssF_none {N : Int} : ∀ {l : List SS} {i : Nat}, (ssF N i l).1 = 0 → ssF N i l = (0, 0) := by
  intro l
  induction l with
  | nil => intro i _; rfl
  | cons c cs ih =>
    intro i h
    unfold ssF at h ⊢
    split
    · rename_i e; rw [if_pos e] at h; exact ih h
    · rename_i e; rw [if_neg e] at h; exact absurd h (by simp)
theorem setsF_ok {T : Tsk} {l : List SS} (h : (setsF T l).1 = 0) : ∃ N, OkT T N ∧ (∀ c ∈ l, OkSS N c) ∧ l.length ≤ 2000 ∧ setsF T l = (0, 0) := by
  unfold setsF at h ⊢
  by_cases h1 : (taskFault T).1 = 0
  · obtain ⟨N, hN⟩ := taskFault_ok h1
    rw [if_neg (by simpa using h1)] at h ⊢
    by_cases h2 : 2000 < l.length
    · rw [if_pos h2] at h; cases h
    · rw [if_neg h2] at h ⊢
      refine ⟨N, hN, fun c hc => ?_, by omega, ssF_none h⟩
      have := ssF_zero.1 h c hc
      rw [hN.facts] at this
      exact okSS_iff.1 this
  · rw [if_pos h1] at h; exact absurd h h1
end Go.Proofs.YtmjiiddncbhgpaaGreat
namespace Go.Proofs.YtmjiiddncbhgpaaGreat
set_option linter.unusedVariables false
set_option linter.unusedSimpArgs false
/-- the sets of states along the paths from node k to node 1 -/
def pathsF (ns : List BN) (k : Nat) (c : SS) : List SS :=
  if k = 0 then [] else if k = 1 then [c] else
    match ns[k - 2]? with
    | none => []
    | some n => if _h : n.2.1 < k ∧ n.2.2 < k then pathsF ns n.2.1 ⟨c.need, c.no ++ [(n.1 : Int)]⟩ ++ pathsF ns n.2.2 ⟨c.need ++ [(n.1 : Int)], c.no⟩ else []
termination_by k
decreasing_by
  · exact _h.1
  · exact _h.2
theorem paths_zero (ns : List BN) (c : SS) : pathsF ns 0 c = [] := by rw [pathsF]; rfl
theorem paths_one (ns : List BN) (c : SS) : pathsF ns 1 c = [c] := by rw [pathsF]; rfl
theorem paths_node {L : Nat} {ns : List BN} (ok : OkD L ns) {i v l h : Nat} (hn : ns[i]? = some (v, l, h)) (c : SS) : pathsF ns (i + 2) c = pathsF ns l ⟨c.need, c.no ++ [(v : Int)]⟩ ++ pathsF ns h ⟨c.need ++ [(v : Int)], c.no⟩ := by
  obtain ⟨_, h2, h3, _⟩ := ok.node i v l h hn
  rw [pathsF, if_neg (by omega), if_neg (by omega), Nat.add_sub_cancel, hn]
  simp only
  rw [dif_pos ⟨h2, h3⟩]
theorem node_cases {ns : List BN} {k : Nat} (hk : k < ns.length + 2) : k = 0 ∨ k = 1 ∨ ∃ i v l h, k = i + 2 ∧ ns[i]? = some (v, l, h) := by
  rcases Nat.lt_or_ge k 2 with h | h
  · omega
  · refine .inr (.inr ⟨k - 2, (ns[k - 2]'(by omega)).1, (ns[k - 2]'(by omega)).2.1, (ns[k - 2]'(by omega)).2.2, by omega, ?_⟩)
    rw [List.getElem?_eq_getElem]
/-- a set whose facts are all below b -/
structure UpS (b : Nat) (c : SS) : Prop where
  need : setB b c.need = true
  no : setB b c.no = true
  apart : meetB c.need c.no = false
theorem setB_more {b b' : Nat} (h : b ≤ b') {l : List Int} (hl : setB b l = true) : setB b' l = true := by
  obtain ⟨h1, h2⟩ := setB_iff.1 hl
  exact setB_iff.2 ⟨h1, fun x hx => by have := h2 x hx; omega⟩
theorem setB_snoc {v : Nat} {l : List Int} (hl : setB v l = true) : setB ((v + 1 : Nat) : Int) (l ++ [(v : Int)]) = true := by
  obtain ⟨h1, h2⟩ := setB_iff.1 hl
  refine setB_iff.2 ⟨List.pairwise_append.2 ⟨h1, by simp, fun a ha b hb => ?_⟩, fun x hx => ?_⟩
  · simp at hb
    have := h2 a ha
    omega
  · rcases List.mem_append.1 hx with hx | hx
    · have := h2 x hx
      omega
    · simp at hx
      omega
theorem UpS.mono {b b' : Nat} (h : b ≤ b') {c : SS} (hc : UpS b c) : UpS b' c := ⟨setB_more h hc.need, setB_more h hc.no, hc.apart⟩
theorem UpS.low {v : Nat} {c : SS} (hc : UpS v c) : UpS (v + 1) ⟨c.need, c.no ++ [(v : Int)]⟩ := by
  refine ⟨setB_more (Nat.le_succ v) hc.need, setB_snoc hc.no, meet_false.2 (fun x hx hn => ?_)⟩
  rcases List.mem_append.1 hn with hn | hn
  · exact meet_false.1 hc.apart x hx hn
  · simp at hn
    have := (setB_iff.1 hc.need).2 x hx
    omega
theorem UpS.high {v : Nat} {c : SS} (hc : UpS v c) : UpS (v + 1) ⟨c.need ++ [(v : Int)], c.no⟩ := by
  refine ⟨setB_snoc hc.need, setB_more (Nat.le_succ v) hc.no, meet_false.2 (fun x hx hn => ?_)⟩
  rcases List.mem_append.1 hx with hx | hx
  · exact meet_false.1 hc.apart x hx hn
  · simp at hx
    have := (setB_iff.1 hc.no).2 x hn
    omega
theorem UpS.ok {L : Nat} {c : SS} (h : UpS L c) : OkSS L c := ⟨h.need, h.no, h.apart⟩
theorem inS_low (c : SS) (v : Nat) (s : Nat → Bool) : inS ⟨c.need, c.no ++ [(v : Int)]⟩ s = (inS c s && !s v) := by
  unfold inS
  simp [List.all_append, Bool.and_assoc]
theorem inS_high (c : SS) (v : Nat) (s : Nat → Bool) : inS ⟨c.need ++ [(v : Int)], c.no⟩ s = (inS c s && s v) := by
  unfold inS
  simp only [List.all_append, List.all_cons, List.all_nil, Bool.and_true, Int.toNat_natCast]
  cases (List.all c.need fun p => s p.toNat) <;> cases (List.all c.no fun p => !s p.toNat) <;> cases s v <;> rfl
theorem paths_sem {L : Nat} {ns : List BN} (ok : OkD L ns) : ∀ (k : Nat), k < ns.length + 2 → ∀ (c : SS) (s : Nat → Bool), inR (pathsF ns k c) s = (sem ns k s && inS c s) := by
  intro k
  induction k using Nat.strongRecOn with
  | _ k ih =>
    intro hk c s
    rcases node_cases hk with rfl | rfl | ⟨i, v, l, h, rfl, hn⟩
    · rw [paths_zero, sem_zero]; rfl
    · rw [paths_one, sem_one]; simp [inR]
    · obtain ⟨_, h2, h3, _⟩ := ok.node i v l h hn
      have hi := (List.getElem?_eq_some_iff.1 hn).1
      have hs : sem ns (i + 2) s = if s v = true then sem ns h s else sem ns l s := by
        rw [sem, if_neg (by omega), Nat.add_sub_cancel, hn]
        simp only
        rw [dif_pos ⟨h2, h3⟩]
      have ha : ∀ a b : List SS, inR (a ++ b) s = (inR a s || inR b s) := fun a b => by unfold inR; rw [List.any_append]
      rw [paths_node ok hn, ha, ih l h2 (by omega), ih h h3 (by omega), inS_low, inS_high, hs]
      cases s v <;> simp [Bool.and_comm]
theorem paths_ok {L : Nat} {ns : List BN} (ok : OkD L ns) : ∀ (k : Nat), k < ns.length + 2 → ∀ (c : SS), UpS (lvl L ns k) c → ∀ x ∈ pathsF ns k c, OkSS L x := by
  intro k
  induction k using Nat.strongRecOn with
  | _ k ih =>
    intro hk c hc x hx
    rcases node_cases hk with rfl | rfl | ⟨i, v, l, h, rfl, hn⟩
    · rw [paths_zero] at hx; cases hx
    · rw [paths_one] at hx
      simp at hx
      subst hx
      exact (hc.mono (lvl_le ok _)).ok
    · obtain ⟨h1, h2, h3, _, h5, h6⟩ := ok.node i v l h hn
      have hi := (List.getElem?_eq_some_iff.1 hn).1
      rw [lvl_node hn] at hc
      rw [paths_node ok hn, List.mem_append] at hx
      rcases hx with hx | hx
      · exact ih l h2 (by omega) _ (hc.low.mono (by omega)) x hx
      · exact ih h h3 (by omega) _ (hc.high.mono (by omega)) x hx
theorem paths_len {L : Nat} {ns : List BN} (ok : OkD L ns) : ∀ (k : Nat), k < ns.length + 2 → ∀ (c : SS), (pathsF ns k c).length ≤ 2 ^ (L - lvl L ns k) := by
  intro k
  induction k using Nat.strongRecOn with
  | _ k ih =>
    intro hk c
    rcases node_cases hk with rfl | rfl | ⟨i, v, l, h, rfl, hn⟩
    · rw [paths_zero]; simp
    · rw [paths_one]; exact Nat.one_le_two_pow
    · obtain ⟨h1, h2, h3, _, h5, h6⟩ := ok.node i v l h hn
      have hi := (List.getElem?_eq_some_iff.1 hn).1
      have e1 := ih l h2 (by omega) ⟨c.need, c.no ++ [(v : Int)]⟩
      have e2 := ih h h3 (by omega) ⟨c.need ++ [(v : Int)], c.no⟩
      have e3 : 2 ^ (L - lvl L ns l) ≤ 2 ^ (L - v - 1) := Nat.pow_le_pow_right (by omega) (by omega)
      have e4 : 2 ^ (L - lvl L ns h) ≤ 2 ^ (L - v - 1) := Nat.pow_le_pow_right (by omega) (by omega)
      have e5 : 2 ^ (L - v) = 2 ^ (L - v - 1) + 2 ^ (L - v - 1) := by
        rw [show L - v = (L - v - 1) + 1 from by omega, Nat.pow_succ, Nat.add_sub_cancel]
        omega
      rw [paths_node ok hn, List.length_append, lvl_node hn]
      omega
theorem paths_need {L : Nat} {ns : List BN} (ok : OkD L ns) : ∀ (k : Nat), k < ns.length + 2 → ∀ (c x : SS), x ∈ pathsF ns k c → ∃ r : List Int, x.need = c.need ++ r ∧ ∀ y ∈ r, (lvl L ns k : Int) ≤ y := by
  intro k
  induction k using Nat.strongRecOn with
  | _ k ih =>
    intro hk c x hx
    rcases node_cases hk with rfl | rfl | ⟨i, v, l, h, rfl, hn⟩
    · rw [paths_zero] at hx; cases hx
    · rw [paths_one] at hx
      simp at hx
      subst hx
      exact ⟨[], by simp, by simp⟩
    · obtain ⟨h1, h2, h3, _, h5, h6⟩ := ok.node i v l h hn
      have hi := (List.getElem?_eq_some_iff.1 hn).1
      rw [paths_node ok hn, List.mem_append] at hx
      rw [lvl_node hn]
      rcases hx with hx | hx
      · obtain ⟨r, e1, e2⟩ := ih l h2 (by omega) _ x hx
        exact ⟨r, e1, fun y hy => by have := e2 y hy; omega⟩
      · obtain ⟨r, e1, e2⟩ := ih h h3 (by omega) _ x hx
        refine ⟨(v : Int) :: r, by rw [e1]; simp, fun y hy => ?_⟩
        rcases List.mem_cons.1 hy with rfl | hy
        · exact Int.le_refl _
        · have := e2 y hy
          omega
theorem paths_nodup {L : Nat} {ns : List BN} (ok : OkD L ns) : ∀ (k : Nat), k < ns.length + 2 → ∀ (c : SS), UpS (lvl L ns k) c → ((pathsF ns k c).map SS.need).Nodup := by
  intro k
  induction k using Nat.strongRecOn with
  | _ k ih =>
    intro hk c hc
    rcases node_cases hk with rfl | rfl | ⟨i, v, l, h, rfl, hn⟩
    · rw [paths_zero]; simp
    · rw [paths_one]; simp
    · obtain ⟨h1, h2, h3, _, h5, h6⟩ := ok.node i v l h hn
      have hi := (List.getElem?_eq_some_iff.1 hn).1
      rw [lvl_node hn] at hc
      rw [paths_node ok hn, List.map_append, List.nodup_append]
      refine ⟨ih l h2 (by omega) _ (hc.low.mono (by omega)), ih h h3 (by omega) _ (hc.high.mono (by omega)), fun a ha b hb e => ?_⟩
      obtain ⟨x, hx, rfl⟩ := List.mem_map.1 ha
      obtain ⟨y, hy, rfl⟩ := List.mem_map.1 hb
      obtain ⟨r, e1, e2⟩ := paths_need ok l (by omega) _ x hx
      obtain ⟨r', e3, _⟩ := paths_need ok h (by omega) _ y hy
      have hv : (v : Int) ∈ x.need := by rw [e, e3]; simp
      rw [e1, List.mem_append] at hv
      rcases hv with hv | hv
      · have := (setB_iff.1 hc.need).2 _ hv
        omega
      · have := e2 _ hv
        omega
/-- what a diagram of words means -/
def wordsD (L : Nat) (l : List Nat) (f : (Nat → Bool) → Bool) : Prop := ∀ s, f s = true ↔ ∃ x ∈ l, ∀ v, v < L → s v = x.testBit v
theorem word_stF {L : Nat} {s : List Int} (hs : setB L s = true) (v : Nat) : (wordF s).testBit v = stF s v := by
  rw [word_bit (setB_pos hs)]
  unfold stF
  rw [Bool.eq_iff_iff, decide_eq_true_iff, hasB_iff]
theorem words_in {L : Nat} (hL : L ≤ 24) {l : List Nat} {f : (Nat → Bool) → Bool} (hf : wordsD L l f) (hl : ∀ x ∈ l, ∃ s, setB L s = true ∧ x = wordF s) {s : List Int} (hs : setB L s = true) : f (stF s) = true ↔ wordF s ∈ l := by
  rw [hf]
  constructor
  · rintro ⟨x, hx, h⟩
    obtain ⟨t, ht, rfl⟩ := hl x hx
    have : s = t := by
      obtain ⟨a1, a2⟩ := setB_iff.1 hs
      obtain ⟨b1, b2⟩ := setB_iff.1 ht
      refine up_ext a1 b1 (fun y => ?_)
      constructor
      · intro hy
        have k := a2 y hy
        have := h y.toNat (by omega)
        rw [word_stF ht] at this
        unfold stF at this
        rw [Int.toNat_of_nonneg k.1, hasB_iff.2 hy] at this
        exact hasB_iff.1 this.symm
      · intro hy
        have k := b2 y hy
        have := h y.toNat (by omega)
        rw [word_stF ht] at this
        unfold stF at this
        rw [Int.toNat_of_nonneg k.1, hasB_iff.2 hy] at this
        exact hasB_iff.1 this
    rw [this]
    exact hx
  · intro h
    exact ⟨_, h, fun v hv => (word_stF hs v).symm⟩
/-- the paths of a diagram of all reachable states, none of them a goal, are a proof -/
structure MadeD (N : Nat) (T : Tsk) (l : List Nat) (cs : List SS) : Prop where
  ok : ∀ c ∈ cs, OkSS N c
  few : cs.length ≤ l.length
  mem : ∀ s, setB N s = true → (inSetsB cs s = true ↔ wordF s ∈ l)
theorem made_paths {N : Nat} {T : Tsk} (hN : N ≤ 24) {l : List Nat} (hl : ∀ x ∈ l, ∃ s, setB N s = true ∧ x = wordF s) {ns : List BN} (ok : OkD N ns) {k : Nat} (hk : k < ns.length + 2) (hd : wordsD N l (sem ns k)) : MadeD N T l (pathsF ns k ⟨[], []⟩) := by
  have hu : ∀ b : Nat, UpS b ⟨[], []⟩ := fun b => ⟨setB_iff.2 (by simp), setB_iff.2 (by simp), rfl⟩
  have hok := paths_ok ok k hk ⟨[], []⟩ (hu _)
  have hmem : ∀ s, setB N s = true → (inSetsB (pathsF ns k ⟨[], []⟩) s = true ↔ wordF s ∈ l) := fun s hs => by
    rw [sets_in hok, paths_sem ok k hk]
    have : inS ⟨[], []⟩ (stF s) = true := rfl
    rw [this, Bool.and_true]
    exact words_in hN hd hl hs
  refine ⟨hok, ?_, hmem⟩
  have hnd := paths_nodup ok k hk ⟨[], []⟩ (hu _)
  have h1 : ((pathsF ns k ⟨[], []⟩).map fun c => wordF c.need).Nodup := by
    have : ((pathsF ns k ⟨[], []⟩).map fun c => wordF c.need) = ((pathsF ns k ⟨[], []⟩).map SS.need).map wordF := by rw [List.map_map]; rfl
    rw [this]
    unfold List.Nodup at hnd ⊢
    rw [List.pairwise_map]
    refine hnd.imp_of_mem (fun {a b} ha hb hab e => hab ?_)
    obtain ⟨x, hx, rfl⟩ := List.mem_map.1 ha
    obtain ⟨y, hy, rfl⟩ := List.mem_map.1 hb
    exact word_inj (by omega) (hok x hx).need (hok y hy).need e
  have h2 := nodup_len h1 (l := l) (fun w hw => by
    obtain ⟨c, hc, rfl⟩ := List.mem_map.1 hw
    have ho := hok c hc
    refine (hmem c.need ho.need).1 ?_
    unfold inSetsB
    refine List.any_eq_true.2 ⟨c, hc, ?_⟩
    rw [Bool.and_eq_true, subsetB_iff, Bool.not_eq_true', meet_false]
    exact ⟨fun _ h => h, fun x hx hn => meet_false.1 ho.apart x hn hx⟩)
  simpa using h2
theorem made_proof {N : Nat} {T : Tsk} (hT : OkT T N) {l : List Nat} (hall : AllOf (stepW (T.ops.map mkOp)) (wordF T.init) l) (hg : ∀ x ∈ l, goalW (wordF T.goal) x = false) {cs : List SS} (h : MadeD N T l cs) : Proof T cs := by
  refine proof_of_closed hT h.ok ⟨(h.mem _ hT.init).2 ((hall.mem _).2 .start), fun s hs hin => ?_, fun s hs hin o ho hp => ?_⟩
  · have := hg _ ((h.mem s hs).1 hin)
    rwa [goal_word hs hT.goal] at this
  · have oo := hT.ops o ho
    have hx := (hall.mem _).1 ((h.mem s hs).1 hin)
    refine (h.mem _ (upd_setB hs oo)).2 ((hall.mem _).2 (.step hx ⟨mkOp o, List.mem_map_of_mem ho, by rw [can_word hs oo]; exact hp, (go_word hs oo).symm⟩))
end Go.Proofs.YtmjiiddncbhgpaaGreat
