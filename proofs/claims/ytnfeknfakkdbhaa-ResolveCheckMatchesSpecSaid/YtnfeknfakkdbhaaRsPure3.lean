/- What the solver's answers say: the model, the refutation; the program's check and the reference's agree. -/
import Derived.Test.YtnfeknfakkdbhaaRsPure2
import Derived.Test.YtnfeknfakkdbhaaClPure3
namespace Go.Proofs.Ytnfeknfakkdbhaa

/-- the assignment that the solver holds -/
def modelF (vals : List Int) (V : Nat) : List Bool := (List.range V).map fun v => decide (0 < Lf vals (v + 1))
theorem modelF_len (vals : List Int) (V : Nat) : (modelF vals V).length = V := by simp [modelF]
theorem modelF_get {vals : List Int} {V q : Nat} (h1 : 1 ≤ q) (h2 : q ≤ V) : (modelF vals V).getD (q - 1) false = decide (0 < Lf vals q) := by
  rw [List.getD_eq_getElem?_getD, modelF, List.getElem?_map, List.getElem?_range (by omega)]
  simp
  rw [show q - 1 + 1 = q by omega]
theorem model_lit {V : Nat} {vals : List Int} {x : Int} (hf : Fits V x) (hl : Lit vals x) : trueLit (modelF vals V) x = true := by
  have hv := hf.var
  unfold trueLit
  rw [modelF_get (by omega) (by omega)]
  have h2 := hl.2
  have e : Lf vals (litVar x).toNat = sgn x := h2
  rw [e]
  unfold sgn
  have := hf.1
  split
  · rw [decide_eq_false (by omega), decide_eq_false (by omega)]; rfl
  · rw [decide_eq_true (by omega), decide_eq_true (by omega)]; rfl
theorem model_true {V : Nat} {cs : List (List Int)} {starts : List Nat} {t vals lev rea : List Int} (h : St V cs starts t vals lev rea) (hall : ∀ v, 1 ≤ v → v ≤ V → Lf vals v ≠ 0) (hcalm : ∀ c ∈ cs, Calm c t) : trueAll cs (modelF vals V) = true := by
  unfold trueAll
  rw [List.all_eq_true]
  intro c hc
  rw [List.any_eq_true]
  have hcl := h.inv.clean c hc
  rcases hcalm c hc with ⟨y, hy, hyt⟩ | ⟨y, hy, _, _, _, n1, n2, _⟩
  · have hf := hcl.1 y hy
    exact ⟨y, hy, model_lit hf ((h.lit y hf.1).2 hyt)⟩
  · have hf := hcl.1 y hy
    have hv := hf.var
    have h0 : valOf vals y ≠ 0 := hall _ (by omega) (by omega)
    exact absurd ((h.free hf.1).2 ⟨n1, n2⟩) h0
theorem true_part {cs ds : List (List Int)} {m : List Bool} (h : trueAll cs m = true) (hs : ∀ c ∈ ds, c ∈ cs) : trueAll ds m = true := by
  unfold trueAll at h ⊢
  rw [List.all_eq_true] at h ⊢
  exact fun c hc => h c (hs c hc)
/-- with a refutation there is no assignment -/
theorem rups_no {V : Nat} {cs ln : List (List Int)} {m : List Bool} (hc : ∀ c ∈ cs, Clean V c) (hl : ∀ c ∈ ln, Clean V c) (hm : m.length = V) (hr : Rups cs ln) (he : ([] : List Int) ∈ ln) : trueAll cs m = false := by
  rcases ht : trueAll cs m with _ | _
  · rfl
  · have := hr.sound V hc hl hm ht
    have := List.all_eq_true.1 this [] (List.mem_append_right _ he)
    simp at this

/-- the literals of a clause, each negated -/
def negs (c : List Int) : List Int := c.map fun x => -x
theorem negs_mem {c : List Int} {x : Int} : x ∈ negs c ↔ -x ∈ c := by
  unfold negs
  rw [List.mem_map]
  constructor
  · rintro ⟨y, hy, rfl⟩
    simpa using hy
  · exact fun h => ⟨-x, h, by omega⟩
theorem negs_clean {V : Int} {c : List Int} (h : Clean V c) : Clean V (negs c) := by
  refine ⟨fun x hx => ?_, ?_⟩
  · have := h.1 _ (negs_mem.1 hx)
    unfold Fits at this ⊢
    omega
  · unfold negs
    rw [List.pairwise_map]
    exact h.2.imp (fun {a b} hab => by rw [litVar_neg, litVar_neg]; exact hab)
theorem sane_of_clean {v : Int} {a : List Int} (h : Clean v a) : Sane v a := by
  refine ⟨h.1, fun x hx hn => ?_⟩
  have h0 := (h.1 x hx).1
  have hp : ∀ {l : List Int}, l.Pairwise (fun x y => litVar x < litVar y) → x ∈ l → -x ∈ l → False := by
    intro l
    induction l with
    | nil => intro _ h _; cases h
    | cons y ys ih =>
      intro hl hx hn
      obtain ⟨p1, p2⟩ := List.pairwise_cons.1 hl
      rcases List.mem_cons.1 hx with e | hx' <;> rcases List.mem_cons.1 hn with e' | hn'
      · omega
      · have := p1 _ hn'
        rw [litVar_neg, e] at this
        omega
      · have := p1 _ hx'
        rw [← e', litVar_neg] at this
        omega
      · exact ih p2 hx' hn'
  exact hp h.2 hx hn
/-- the clauses ask for a contradiction -/
def Clash (cs : List (List Int)) (a : List Int) : Prop := ∀ T, Good cs T → ¬ ∀ x ∈ a, T x
theorem openVars_le (v : Nat) (k : List Int) : openVars v k < v + 2 := by
  have := List.countP_le_length (p := fun i : Nat => decide ((i : Int) ∉ k ∧ -(i : Int) ∉ k)) (l := List.range (v + 1))
  rw [List.length_range] at this
  unfold openVars
  omega
def isNone2 (r : Option (Option (List Int))) : Bool := match r with | some none => true | _ => false
/-- the reference, clause by clause -/
def refFrom (V : Nat) : List (List Int) → List (List Int) → Bool
  | _, [] => true
  | cs, C :: L => isNone2 (units cs (V + 2) (negs C)) && refFrom V (cs ++ [C]) L
def lastNil (L : List (List Int)) : Bool := match L.getLast? with | some [] => true | _ => false
def refutesR (V : Nat) (cs L : List (List Int)) : Bool := refFrom V cs L && lastNil L
/-- the program, clause by clause -/
def chkFrom (V : Nat) : List (List Int) → List (List Int) → Bool
  | _, [] => true
  | cs, C :: L => (match assume (List.replicate (V + 1) 0) (negs C) with | none => false | some vals => (close cs (V + 2) vals).isNone) && chkFrom V (cs ++ [C]) L
theorem units_clash {V : Nat} {cs : List (List Int)} {a : List Int} (hcl : ∀ c ∈ cs, Clean V c) (ha : Clean V a) :
    ∃ r, units cs (V + 2) a = some r ∧ (r = none ↔ Clash cs a) := by
  obtain ⟨r, r1, r2, r3⟩ := units_spec hcl (V + 2) (sane_of_clean ha) (openVars_le V a)
  refine ⟨r, r1, r2, fun h => ?_⟩
  cases r with
  | none => rfl
  | some k =>
    obtain ⟨_, t2, t3, _⟩ := r3 k rfl
    exact absurd t3 (h _ t2)
theorem assume_clean {v : Nat} {a : List Int} (h : Clean v a) : ∃ vals, assume (List.replicate (v + 1) 0) a = some vals ∧ ∀ x, Lit vals x ↔ x ∈ a := by
  have hz : ∀ y : Int, valOf (List.replicate (v + 1) (0 : Int)) y = 0 := fun y => by
    rw [valOf, List.getD_eq_getElem?_getD, List.getElem?_replicate]
    split <;> rfl
  obtain ⟨vals, h1, h2⟩ := assume_ok (v := v) (vals := List.replicate (v + 1) 0) (by simp) h.1 h.2 (fun x _ => hz x)
  refine ⟨vals, h1, fun x => ?_⟩
  unfold Lit
  constructor
  · rintro ⟨h0, h3⟩
    rw [h2 x h0, hz] at h3
    by_cases hx : x ∈ a
    · exact hx
    · rw [if_neg hx] at h3
      split at h3 <;> rcases sgn_cases x with s | s <;> omega
  · intro hx
    have h0 := (h.1 x hx).1
    exact ⟨h0, by rw [h2 x h0, if_pos hx]⟩
theorem assume_len : ∀ {l us us' : List Int}, assume us l = some us' → us'.length = us.length := by
  intro l
  induction l with
  | nil => intro us us' h; simp only [assume, Option.some.injEq] at h; rw [h]
  | cons x xs ih =>
    intro us us' h
    unfold assume at h
    split at h
    · cases h
    · rw [ih h, setLit_len]
theorem assume_tri : ∀ {l us us' : List Int}, Tri us → assume us l = some us' → Tri us' := by
  intro l
  induction l with
  | nil => intro us us' ht h; simp only [assume, Option.some.injEq] at h; rw [← h]; exact ht
  | cons x xs ih =>
    intro us us' ht h
    unfold assume at h
    split at h
    · cases h
    · exact ih (ht.set x) h
theorem close_clash {V : Nat} {cs : List (List Int)} {a vals : List Int} (hcl : ∀ c ∈ cs, Clean V c) (ha : Clean V a) (hv : assume (List.replicate (V + 1) 0) a = some vals) : close cs (V + 2) vals = none ↔ Clash cs a := by
  obtain ⟨vals', h1, hlit⟩ := assume_clean ha
  rw [hv] at h1
  obtain rfl := Option.some.inj h1
  have ht : Tri vals := assume_tri (fun y hy => by rw [(List.mem_replicate.1 hy).2]; omega) hv
  have hl : vals.length = V + 1 := by rw [assume_len hv, List.length_replicate]
  have hz : zeros vals < V + 2 := by
    have := List.countP_le_length (p := (· == 0)) (l := vals)
    unfold zeros
    omega
  obtain ⟨c1, c2⟩ := close_spec hcl (V + 2) ht (by omega) hz
  constructor
  · exact fun h T hT hall => c1 h T hT (fun x hx => hall x ((hlit x).1 hx))
  · intro h
    cases hc : close cs (V + 2) vals with
    | none => rfl
    | some us =>
      obtain ⟨_, _, d3, d4, _⟩ := c2 us hc
      exact absurd (fun x hx => d3 x ((hlit x).2 hx)) (h _ d4)
/-- each clause follows from those ahead of it -/
def Each (cs : List (List Int)) : List (List Int) → Prop
  | [] => True
  | C :: L => Clash cs (negs C) ∧ Each (cs ++ [C]) L
theorem each_rups : ∀ {L cs : List (List Int)}, Rups cs L ↔ Each cs L := by
  intro L
  induction L with
  | nil => intro cs; exact Iff.rfl
  | cons C L ih =>
    intro cs
    unfold Rups Each
    rw [ih]
    refine and_congr_left fun _ => ?_
    unfold Clash
    constructor
    · exact fun h T hT hall => h T hT (fun y hy => hall _ (negs_mem.2 (by simpa using hy)))
    · exact fun h T hT hall => h T hT (fun y hy => by have := hall _ (negs_mem.1 hy); simpa using this)
theorem clean_snoc {V : Nat} {cs : List (List Int)} {C : List Int} (hcl : ∀ c ∈ cs, Clean V c) (hC : Clean V C) : ∀ c ∈ cs ++ [C], Clean V c := fun c hc => by
  rcases List.mem_append.1 hc with hc | hc
  · exact hcl c hc
  · rw [List.mem_singleton.1 hc]
    exact hC
theorem refFrom_iff {V : Nat} : ∀ {L cs : List (List Int)}, (∀ c ∈ cs, Clean V c) → (∀ c ∈ L, Clean V c) → (refFrom V cs L = true ↔ Each cs L) := by
  intro L
  induction L with
  | nil => intro cs _ _; simp [refFrom, Each]
  | cons C L ih =>
    intro cs hcl hL
    have hC := hL C (List.mem_cons_self ..)
    obtain ⟨r, r1, r2⟩ := units_clash hcl (negs_clean hC)
    unfold refFrom Each
    rw [r1, Bool.and_eq_true, ih (clean_snoc hcl hC) (fun c hc => hL c (List.mem_cons_of_mem _ hc)), ← r2]
    refine and_congr_left fun _ => ?_
    cases r <;> simp [isNone2]
theorem chkFrom_iff {V : Nat} : ∀ {L cs : List (List Int)}, (∀ c ∈ cs, Clean V c) → (∀ c ∈ L, Clean V c) → (chkFrom V cs L = true ↔ Each cs L) := by
  intro L
  induction L with
  | nil => intro cs _ _; simp [chkFrom, Each]
  | cons C L ih =>
    intro cs hcl hL
    have hC := hL C (List.mem_cons_self ..)
    obtain ⟨vals, v1, _⟩ := assume_clean (negs_clean hC)
    have r2 := close_clash hcl (negs_clean hC) v1
    unfold chkFrom Each
    rw [v1, Bool.and_eq_true, ih (clean_snoc hcl hC) (fun c hc => hL c (List.mem_cons_of_mem _ hc)), ← r2]
    refine and_congr_left fun _ => ?_
    rw [Option.isNone_iff_eq_none]
theorem chk_ref {V : Nat} {L cs : List (List Int)} (hcl : ∀ c ∈ cs, Clean V c) (hL : ∀ c ∈ L, Clean V c) : chkFrom V cs L = refFrom V cs L := by
  rw [Bool.eq_iff_iff, chkFrom_iff hcl hL, refFrom_iff hcl hL]
theorem lastNil_snoc (L : List (List Int)) : lastNil (L ++ [[]]) = true := by simp [lastNil]
theorem lastNil_mem {L : List (List Int)} (h : lastNil L = true) : [] ∈ L := by
  unfold lastNil at h
  split at h
  · rename_i e
    exact List.mem_of_getLast? e
  · cases h
/-- a refutation, by the program's word -/
def checkB (V : Nat) (cs L : List (List Int)) : Bool := chkFrom V cs L && lastNil L
theorem check_no {V : Nat} {cs L : List (List Int)} {m : List Bool} (hcl : ∀ c ∈ cs, Clean V c) (hL : ∀ c ∈ L, Clean V c) (hm : m.length = V) (h : checkB V cs L = true) : trueAll cs m = false := by
  unfold checkB at h
  rw [Bool.and_eq_true] at h
  exact rups_no hcl hL hm (each_rups.2 ((chkFrom_iff hcl hL).1 h.1)) (lastNil_mem h.2)
theorem check_ref {V : Nat} {cs L : List (List Int)} (hcl : ∀ c ∈ cs, Clean V c) (hL : ∀ c ∈ L, Clean V c) : checkB V cs L = refutesR V cs L := by
  unfold checkB refutesR
  rw [chk_ref hcl hL]
theorem check_run {V : Nat} {cs ln : List (List Int)} (hcl : ∀ c ∈ cs, Clean V c) (hL : ∀ c ∈ ln ++ [[]], Clean V c) (hr : Rups cs (ln ++ [[]])) : checkB V cs (ln ++ [[]]) = true := by
  unfold checkB
  rw [(chkFrom_iff hcl hL).2 (each_rups.1 hr), lastNil_snoc]
  rfl

/-- assignment number i -/
def modelN (i : Nat) (V : Nat) : List Bool := (List.range V).map fun v => decide (i / 2 ^ v % 2 = 1)
theorem modelN_len (i V : Nat) : (modelN i V).length = V := by simp [modelN]
def satR (V : Nat) (cs : List (List Int)) : Bool := (List.range (2 ^ V)).any fun i => trueAll cs (modelN i V)
theorem modelN_all : ∀ (m : List Bool), ∃ i, i < 2 ^ m.length ∧ modelN i m.length = m := by
  intro m
  induction m with
  | nil => exact ⟨0, by simp, rfl⟩
  | cons b m ih =>
    obtain ⟨i, h1, h2⟩ := ih
    refine ⟨2 * i + (if b then 1 else 0), ?_, ?_⟩
    · rw [List.length_cons, Nat.pow_succ]
      split <;> omega
    · unfold modelN at h2 ⊢
      rw [List.length_cons, List.range_succ_eq_map, List.map_cons, List.map_map]
      congr 1
      · cases b <;> simp <;> omega
      · conv => rhs; rw [← h2]
        apply List.map_congr_left
        intro v _
        simp only [Function.comp_apply]
        congr 3
        rw [Nat.succ_eq_add_one, Nat.pow_succ', ← Nat.div_div_eq_div_mul]
        congr 1
        cases b <;> simp <;> omega
theorem satR_of {V : Nat} {cs : List (List Int)} {m : List Bool} (hm : m.length = V) (h : trueAll cs m = true) : satR V cs = true := by
  obtain ⟨i, h1, h2⟩ := modelN_all m
  unfold satR
  rw [List.any_eq_true]
  subst hm
  exact ⟨i, List.mem_range.2 h1, by rw [h2]; exact h⟩
theorem satR_no {V : Nat} {cs : List (List Int)} (h : ∀ m : List Bool, m.length = V → trueAll cs m = false) : satR V cs = false := by
  unfold satR
  rw [List.any_eq_false]
  intro i _
  rw [h _ (modelN_len i V)]
  simp
end Go.Proofs.Ytnfeknfakkdbhaa
