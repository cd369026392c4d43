/- What the law asks for, part 1: ClPure ClPure2 RsPure RsPure2 RsFin RsPure3. -/
import Init
namespace Go.Proofs.YtemiecammmbjdaaGreat
/-- the variable of a literal -/
def litVar (x : Int) : Int := max x (-x)
def Fits (v x : Int) : Prop := x ≠ 0 ∧ -v ≤ x ∧ x ≤ v
theorem Fits.var {v x : Int} (h : Fits v x) : 1 ≤ litVar x ∧ litVar x ≤ v := by unfold Fits at h; unfold litVar; omega

def clauseCode (v : Int) : Option Int → List Int → Int
  | _, [] => 0
  | p, x :: xs => if x = 0 ∨ x < -v ∨ v < x then 3 else match p with
    | none => clauseCode v (some x) xs
    | some y => if litVar x ≤ litVar y then 5 else clauseCode v (some x) xs
theorem clauseCode_nil (v : Int) (p : Option Int) : clauseCode v p [] = 0 := by unfold clauseCode; rfl
theorem clauseCode_first {v x : Int} (xs : List Int) (h : ¬ (x = 0 ∨ x < -v ∨ v < x)) : clauseCode v none (x :: xs) = clauseCode v (some x) xs := by
  simp [clauseCode, h]
theorem clauseCode_next {v x y : Int} (xs : List Int) (h : ¬ (x = 0 ∨ x < -v ∨ v < x)) (h2 : ¬ litVar x ≤ litVar y) : clauseCode v (some y) (x :: xs) = clauseCode v (some x) xs := by
  simp [clauseCode, h, h2]

theorem code_fits {v : Int} {p : Option Int} {c : List Int} (h : clauseCode v p c = 0) : ∀ x ∈ c, Fits v x := by
  induction c generalizing p with
  | nil => simp
  | cons x xs ih =>
    unfold clauseCode at h
    split at h
    · omega
    · rename_i hx
      have hf : Fits v x := by unfold Fits; omega
      have hr : ∀ y ∈ xs, Fits v y := by
        split at h
        · exact ih h
        · split at h
          · omega
          · exact ih h
      intro y hy
      rcases List.mem_cons.1 hy with rfl | hy
      · exact hf
      · exact hr y hy
/-- the variables of a clause that passes rise -/
theorem code_rise {v : Int} {p : Option Int} {c : List Int} (h : clauseCode v p c = 0) : c.Pairwise (fun x y => litVar x < litVar y) ∧ ∀ y, p = some y → ∀ x ∈ c, litVar y < litVar x := by
  induction c generalizing p with
  | nil => simp
  | cons x xs ih =>
    unfold clauseCode at h
    split at h
    · omega
    · split at h
      · obtain ⟨h1, h2⟩ := ih h
        refine ⟨List.pairwise_cons.2 ⟨h2 x rfl, h1⟩, fun y hy => by cases hy⟩
      · split at h
        · omega
        · rename_i y' _ hlt
          obtain ⟨h1, h2⟩ := ih h
          refine ⟨List.pairwise_cons.2 ⟨h2 x rfl, h1⟩, fun y hy z hz => ?_⟩
          injection hy with hy
          subst hy
          rcases List.mem_cons.1 hz with rfl | hz
          · omega
          · have := h2 x rfl z hz
            omega
/-- an assignment with literal x -/
def setLit (vals : List Int) (x : Int) : List Int := vals.set (litVar x).toNat (if x < 0 then -1 else 1)
def valOf (vals : List Int) (x : Int) : Int := vals.getD (litVar x).toNat 0
theorem setLit_len (vals : List Int) (x : Int) : (setLit vals x).length = vals.length := by simp [setLit]
theorem setLit_mem {vals : List Int} {x : Int} (h : ∀ y ∈ vals, y = -1 ∨ y = 0 ∨ y = 1) : ∀ y ∈ setLit vals x, y = -1 ∨ y = 0 ∨ y = 1 := by
  intro y hy
  rcases List.mem_or_eq_of_mem_set hy with hy | hy
  · exact h y hy
  · split at hy <;> omega

/-- Close: one clause: the free literal that comes last, how many are free, whether one holds -/
def scan (vals : List Int) : List Int → Int × Nat × Bool → Int × Nat × Bool
  | [], s => s
  | x :: xs, (f, n, b) => scan vals xs (if valOf vals x = 0 then (x, n + 1, b) else if decide (0 < valOf vals x) = decide (0 < x) then (f, n, true) else (f, n, b))
/-- one pass over the clauses -/
def pass : List (List Int) → List Int → Bool → Option (List Int × Bool)
  | [], vals, again => some (vals, again)
  | c :: cs, vals, again => match scan vals c (0, 0, false) with
    | (f, n, b) => if b = true ∨ 1 < n then pass cs vals again else if n = 0 then none else pass cs (setLit vals f) true
def close (cs : List (List Int)) : Nat → List Int → Option (List Int)
  | 0, _ => none
  | g + 1, vals => match pass cs vals false with
    | none => none
    | some (vals', again) => if again = true then close cs g vals' else some vals'

/-- how many variables are free -/
def zeros (vals : List Int) : Nat := vals.countP (· == 0)
/-- what a scan that ends with one free literal has found -/
theorem scan_one {vals : List Int} {c : List Int} {f f' : Int} {n n' : Nat} {b b' : Bool} (h : scan vals c (f, n, b) = (f', n', b')) :
    n ≤ n' ∧ ((f' = f ∧ n' = n) ∨ (n < n' ∧ f' ∈ c ∧ valOf vals f' = 0)) := by
  induction c generalizing f n b with
  | nil =>
    simp only [scan, Prod.mk.injEq] at h
    omega
  | cons x xs ih =>
    unfold scan at h
    split at h
    · rename_i hx
      obtain ⟨h1, h2⟩ := ih h
      refine ⟨by omega, .inr ?_⟩
      rcases h2 with ⟨rfl, h3⟩ | ⟨h3, h4, h5⟩
      · exact ⟨by omega, List.mem_cons_self, hx⟩
      · exact ⟨by omega, List.mem_cons_of_mem _ h4, h5⟩
    · split at h
      all_goals
        obtain ⟨h1, h2⟩ := ih h
        refine ⟨h1, ?_⟩
        rcases h2 with h3 | ⟨h3, h4, h5⟩
        · exact .inl h3
        · exact .inr ⟨h3, List.mem_cons_of_mem _ h4, h5⟩

theorem valOf_set {vals : List Int} {x y : Int} (hx : (litVar x).toNat < vals.length) :
    valOf (setLit vals x) y = if litVar y = litVar x then (if x < 0 then -1 else 1) else valOf vals y := by
  have h1 : 0 ≤ litVar x := by unfold litVar; omega
  have h2 : 0 ≤ litVar y := by unfold litVar; omega
  unfold valOf setLit
  rw [List.getD_eq_getElem?_getD, List.getElem?_set]
  by_cases h : litVar y = litVar x
  · rw [if_pos (by rw [h]), if_pos hx, if_pos h, Option.getD_some]
  · rw [if_neg (fun e => h (by omega)), if_neg h, List.getD_eq_getElem?_getD]
/-- the sign of a literal -/
def sgn (x : Int) : Int := if x < 0 then -1 else 1
def trueLit (m : List Bool) (x : Int) : Bool := m.getD ((litVar x).toNat - 1) false == decide (0 < x)
def trueAll (cs : List (List Int)) (m : List Bool) : Bool := cs.all fun c => c.any (trueLit m)

theorem trueAll_append (a b : List (List Int)) (m : List Bool) : trueAll (a ++ b) m = (trueAll a m && trueAll b m) := by simp [trueAll]
end Go.Proofs.YtemiecammmbjdaaGreat
namespace Go.Proofs.YtemiecammmbjdaaGreat
/-- literal x stands in the assignment -/
def Lit (vals : List Int) (x : Int) : Prop := x ≠ 0 ∧ valOf vals x = sgn x
theorem litVar_neg (x : Int) : litVar (-x) = litVar x := by unfold litVar; omega
theorem valOf_neg (vals : List Int) (x : Int) : valOf vals (-x) = valOf vals x := by unfold valOf; rw [litVar_neg]
theorem sgn_neg {x : Int} (h : x ≠ 0) : sgn (-x) = -sgn x := by unfold sgn; split <;> split <;> omega
theorem sgn_cases (x : Int) : sgn x = 1 ∨ sgn x = -1 := by unfold sgn; split <;> simp
theorem same_var {x y : Int} (h : litVar y = litVar x) : y = x ∨ y = -x := by unfold litVar at h; omega

/-- every value is -1, 0 or 1 -/
def Tri (vals : List Int) : Prop := ∀ y ∈ vals, y = -1 ∨ y = 0 ∨ y = 1
theorem Tri.val {vals : List Int} (h : Tri vals) (x : Int) : valOf vals x = -1 ∨ valOf vals x = 0 ∨ valOf vals x = 1 := by
  unfold valOf
  rw [List.getD_eq_getElem?_getD]
  cases hx : vals[(litVar x).toNat]? with
  | none => simp
  | some y => simpa using h y (List.mem_of_getElem? hx)
theorem Tri.lit {vals : List Int} (h : Tri vals) {x : Int} (hx : x ≠ 0) : valOf vals x = 0 ∨ Lit vals x ∨ Lit vals (-x) := by
  unfold Lit
  rw [valOf_neg, sgn_neg hx]
  rcases h.val x with e | e | e <;> rcases sgn_cases x with s | s <;> rw [e, s] <;> omega
theorem Tri.set {vals : List Int} (h : Tri vals) (x : Int) : Tri (setLit vals x) := setLit_mem h
theorem lit_of_sign {vals : List Int} (h : Tri vals) {x : Int} (hx : x ≠ 0) (h0 : valOf vals x ≠ 0) : (decide (0 < valOf vals x) = decide (0 < x)) ↔ Lit vals x := by
  unfold Lit sgn
  rcases h.val x with e | e | e
  · rw [e]
    by_cases hs : x < 0
    · simp [hx, hs]; omega
    · simp [hx, hs]; omega
  · exact absurd e h0
  · rw [e]
    by_cases hs : x < 0
    · simp [hx, hs]; omega
    · simp [hx, hs]; omega

/-- what a scan finds -/
theorem scan_spec {vals : List Int} (h : Tri vals) {c : List Int} (hc : ∀ x ∈ c, x ≠ 0) {f f' : Int} {n n' : Nat} {b b' : Bool} (hs : scan vals c (f, n, b) = (f', n', b')) :
    (b' = true ↔ b = true ∨ ∃ x ∈ c, Lit vals x) ∧ n' = n + c.countP (fun x => valOf vals x == 0) := by
  induction c generalizing f n b with
  | nil =>
    simp only [scan, Prod.mk.injEq] at hs
    obtain ⟨_, rfl, rfl⟩ := hs
    simp
  | cons x xs ih =>
    have hx := hc x List.mem_cons_self
    have hxs : ∀ y ∈ xs, y ≠ 0 := fun y hy => hc y (List.mem_cons_of_mem _ hy)
    unfold scan at hs
    by_cases h0 : valOf vals x = 0
    · rw [if_pos h0] at hs
      obtain ⟨h1, h2⟩ := ih hxs hs
      have hn : ¬ Lit vals x := fun hl => by
        have := hl.2
        rcases sgn_cases x with e | e <;> omega
      refine ⟨h1.trans (by simp [hn]), ?_⟩
      rw [h2, List.countP_cons, if_pos (by simp [h0])]
      omega
    · rw [if_neg h0] at hs
      have hcnt : (x :: xs).countP (fun x => valOf vals x == 0) = xs.countP (fun x => valOf vals x == 0) := by
        rw [List.countP_cons, if_neg (by simp [h0])]
        omega
      rw [hcnt]
      split at hs
      · rename_i hd
        obtain ⟨h1, h2⟩ := ih hxs hs
        have hl := (lit_of_sign h hx h0).1 hd
        exact ⟨h1.trans (by simp [hl]), h2⟩
      · rename_i hd
        obtain ⟨h1, h2⟩ := ih hxs hs
        have hl : ¬ Lit vals x := fun hl => hd ((lit_of_sign h hx h0).2 hl)
        exact ⟨h1.trans (by simp [hl]), h2⟩

/-- a clause of a formula that passed: literals that fit, variables that rise -/
def Clean (v : Int) (c : List Int) : Prop := (∀ x ∈ c, Fits v x) ∧ c.Pairwise (fun x y => litVar x < litVar y)
theorem clean_of_code {v : Int} {c : List Int} (h : clauseCode v none c = 0) : Clean v c := ⟨code_fits h, (code_rise h).1⟩

theorem count_two {c : List Int} {p : Int → Bool} (hr : c.Pairwise (fun x y => litVar x < litVar y)) (h : 1 < c.countP p) (x : Int) : ∃ y ∈ c, p y = true ∧ y ≠ x := by
  induction c with
  | nil => simp at h
  | cons a l ih =>
    obtain ⟨h1, h2⟩ := List.pairwise_cons.1 hr
    rw [List.countP_cons] at h
    by_cases ha : p a = true
    · rw [if_pos ha] at h
      by_cases hax : a = x
      · have h3 : 0 < l.countP p := by omega
        obtain ⟨y, hy, hp⟩ := List.countP_pos_iff.1 h3
        exact ⟨y, List.mem_cons_of_mem _ hy, hp, fun e => by have := h1 y hy; rw [e, hax] at this; omega⟩
      · exact ⟨a, List.mem_cons_self, ha, hax⟩
    · rw [if_neg ha] at h
      obtain ⟨y, hy, hp, hne⟩ := ih h2 (by omega)
      exact ⟨y, List.mem_cons_of_mem _ hy, hp, hne⟩
theorem count_one {c : List Int} {p : Int → Bool} (h : c.countP p ≤ 1) {f : Int} (hf : f ∈ c) (hpf : p f = true) {y : Int} (hy : y ∈ c) (hpy : p y = true) : y = f := by
  induction c with
  | nil => cases hf
  | cons a l ih =>
    rw [List.countP_cons] at h
    rcases List.mem_cons.1 hf with rfl | hf'
    · rw [if_pos hpf] at h
      rcases List.mem_cons.1 hy with rfl | hy'
      · rfl
      · have : 0 < l.countP p := List.countP_pos_iff.2 ⟨y, hy', hpy⟩
        omega
    · rcases List.mem_cons.1 hy with rfl | hy'
      · rw [if_pos hpy] at h
        have : 0 < l.countP p := List.countP_pos_iff.2 ⟨f, hf', hpf⟩
        omega
      · exact ih (by split at h <;> omega) hf' hy'

/-- a set of literals that is closed and in which no clause is false -/
structure Good (cs : List (List Int)) (T : Int → Prop) : Prop where
  closed : ∀ c ∈ cs, ∀ x ∈ c, (∀ y ∈ c, y ≠ x → T (-y)) → T x
  alive : ∀ c ∈ cs, ∃ y ∈ c, ¬ T (-y)

theorem lit_set {vals : List Int} {x y : Int} (hx : (litVar x).toNat < vals.length) (hx0 : x ≠ 0) : Lit (setLit vals x) y ↔ y = x ∨ (litVar y ≠ litVar x ∧ Lit vals y) := by
  unfold Lit
  rw [valOf_set hx]
  by_cases hv : litVar y = litVar x
  · rw [if_pos hv]
    rcases same_var hv with rfl | rfl
    · simp [sgn, hx0]
    · have := sgn_neg hx0
      rw [this]
      have e : (if x < 0 then (-1 : Int) else 1) = sgn x := rfl
      rw [e]
      constructor
      · rintro ⟨_, h⟩
        rcases sgn_cases x with s | s <;> omega
      · rintro (h | ⟨h, _⟩)
        · omega
        · exact absurd hv h
  · rw [if_neg hv]
    constructor
    · exact fun h => .inr ⟨hv, h⟩
    · rintro (rfl | ⟨_, h⟩)
      · exact absurd rfl hv
      · exact h

section
variable {v : Int} {CS : List (List Int)} {T : Int → Prop}
end
end Go.Proofs.YtemiecammmbjdaaGreat
namespace Go.Proofs.YtemiecammmbjdaaGreat
/-- how many decisions lie at place j or below -/
def nSt (starts : List Nat) (j : Nat) : Nat := starts.countP (fun s => decide (s ≤ j))
theorem nSt_mono {starts : List Nat} {j k : Nat} (h : j ≤ k) : nSt starts j ≤ nSt starts k := by
  unfold nSt
  induction starts with
  | nil => simp
  | cons s l ih =>
    rw [List.countP_cons, List.countP_cons]
    by_cases h1 : s ≤ j
    · rw [if_pos (by simpa using h1), if_pos (by simp; omega)]
      omega
    · rw [if_neg (by simpa using h1)]
      omega
theorem nSt_le (starts : List Nat) (j : Nat) : nSt starts j ≤ starts.length := List.countP_le_length
theorem nSt_all {starts : List Nat} {j : Nat} (h : ∀ s ∈ starts, s ≤ j) : nSt starts j = starts.length := by
  unfold nSt
  rw [List.countP_eq_length]
  intro s hs
  simpa using h s hs
theorem nSt_none {starts : List Nat} {j : Nat} (h : ∀ s ∈ starts, j < s) : nSt starts j = 0 := by
  unfold nSt
  rw [List.countP_eq_zero]
  intro s hs
  have := h s hs
  simp
  omega
theorem nSt_pos {starts : List Nat} {j : Nat} (h : j ∈ starts) : 0 < nSt starts j := by
  unfold nSt
  rw [List.countP_pos_iff]
  exact ⟨j, h, by simp⟩
theorem nSt_append (a b : List Nat) (j : Nat) : nSt (a ++ b) j = nSt a j + nSt b j := by simp [nSt, List.countP_append]

/-- a clause of which no literal is asked: one is true, or two are free -/
def Calm (c t : List Int) : Prop := (∃ y ∈ c, y ∈ t) ∨ ∃ y ∈ c, ∃ z ∈ c, y ≠ z ∧ y ∉ t ∧ -y ∉ t ∧ z ∉ t ∧ -z ∉ t
/-- a clause of which one literal is free and the others are false -/
def Unit1 (c t : List Int) : Prop := ∃ x ∈ c, x ∉ t ∧ -x ∉ t ∧ ∀ y ∈ c, y ≠ x → -y ∈ t
structure Trail (V : Nat) (t : List Int) : Prop where
  fits : ∀ x ∈ t, Fits V x
  apart : t.Pairwise (fun x y => litVar x ≠ litVar y)
theorem Trail.clash {V : Nat} {t : List Int} (h : Trail V t) {x : Int} (h1 : x ∈ t) (h2 : -x ∈ t) : False := by
  have hx := h.fits x h1
  have hne : x ≠ -x := by have := hx.1; omega
  have key : ∀ l : List Int, l.Pairwise (fun x y => litVar x ≠ litVar y) → x ∈ l → -x ∈ l → False := by
    intro l
    induction l with
    | nil => intro _ h; cases h
    | cons a l ih =>
      intro hp ha hb
      obtain ⟨hp1, hp2⟩ := List.pairwise_cons.1 hp
      rcases List.mem_cons.1 ha with rfl | ha
      · rcases List.mem_cons.1 hb with hb | hb
        · exact hne hb.symm
        · exact hp1 _ hb (litVar_neg _).symm
      · rcases List.mem_cons.1 hb with hb | hb
        · have := hp1 _ ha
          rw [← hb, litVar_neg] at this
          exact this rfl
        · exact ih hp2 ha hb
  exact key t h.apart h1 h2
theorem Trail.same {V : Nat} {t : List Int} (h : Trail V t) {x y : Int} (h1 : x ∈ t) (h2 : y ∈ t) (e : litVar x = litVar y) : x = y := by
  rcases same_var e with e | e
  · exact e
  · exact (h.clash h2 (e ▸ h1)).elim
theorem Trail.place {V : Nat} {t : List Int} (h : Trail V t) {i j : Nat} {x y : Int} (h1 : t[i]? = some x) (h2 : t[j]? = some y) (e : litVar x = litVar y) : i = j := by
  obtain ⟨hi, ei⟩ := List.getElem?_eq_some_iff.1 h1
  obtain ⟨hj, ej⟩ := List.getElem?_eq_some_iff.1 h2
  rcases Nat.lt_trichotomy i j with hl | hl | hl
  · have := List.pairwise_iff_getElem.1 h.apart i j hi hj hl
    rw [ei, ej] at this
    exact absurd e this
  · exact hl
  · have := List.pairwise_iff_getElem.1 h.apart j i hj hi hl
    rw [ei, ej] at this
    exact absurd e.symm this
theorem Trail.take {V : Nat} {t : List Int} (h : Trail V t) (n : Nat) : Trail V (t.take n) :=
  ⟨fun x hx => h.fits x (List.mem_of_mem_take hx), h.apart.sublist (List.take_sublist _ _)⟩
theorem Trail.snoc {V : Nat} {t : List Int} (h : Trail V t) {x : Int} (hx : Fits V x) (h1 : x ∉ t) (h2 : -x ∉ t) : Trail V (t ++ [x]) := by
  refine ⟨fun y hy => ?_, ?_⟩
  · rcases List.mem_append.1 hy with hy | hy
    · exact h.fits y hy
    · simp at hy
      subst hy
      exact hx
  · rw [List.pairwise_append]
    refine ⟨h.apart, by simp, fun a ha b hb e => ?_⟩
    simp at hb
    subst hb
    rcases same_var e with rfl | e
    · exact h1 ha
    · exact h2 (e ▸ ha)
theorem Trail.len {V : Nat} {t : List Int} (h : Trail V t) : t.length ≤ V := by
  have hnd : (t.map fun x => (litVar x).toNat).Nodup := by
    rw [List.Nodup, List.pairwise_map]
    refine h.apart.imp_of_mem (fun {a b} ha hb hab e => hab ?_)
    have h1 := (h.fits a ha).var
    have h2 := (h.fits b hb).var
    omega
  have := List.Nodup.length_le_of_subset (l₂ := (List.range V).map (· + 1)) hnd (fun v hv => by
    obtain ⟨x, hx, rfl⟩ := List.mem_map.1 hv
    have h1 := (h.fits x hx).var
    exact List.mem_map.2 ⟨(litVar x).toNat - 1, List.mem_range.2 (by omega), by omega⟩)
  simpa using this
theorem take_mem {t : List Int} {n : Nat} {x : Int} (h : x ∈ t.take n) : ∃ j, j < n ∧ t[j]? = some x := by
  obtain ⟨j, hj⟩ := List.getElem?_of_mem h
  rw [List.getElem?_take] at hj
  split at hj
  · exact ⟨j, by assumption, hj⟩
  · cases hj
theorem mem_take {t : List Int} {n j : Nat} {x : Int} (h : t[j]? = some x) (hj : j < n) : x ∈ t.take n := by
  apply List.mem_of_getElem? (i := j)
  rw [List.getElem?_take, if_pos hj]
  exact h
theorem calm_more {c t : List Int} (h : Calm c t) (hu : ¬ (∃ y ∈ c, y ∈ t)) : ∃ y ∈ c, ∃ z ∈ c, y ≠ z ∧ y ∉ t ∧ -y ∉ t ∧ z ∉ t ∧ -z ∉ t := h.resolve_left hu

/-- the solver's state -/
structure Inv (V : Nat) (cs : List (List Int)) (starts : List Nat) (t : List Int) (lev rea : Nat → Int) : Prop where
  tr : Trail V t
  clean : ∀ c ∈ cs, Clean V c
  rise : starts.Pairwise (· < ·)
  inside : ∀ s ∈ starts, s < t.length
  level : ∀ j x, t[j]? = some x → lev (litVar x).toNat = nSt starts j
  reason : ∀ j x, t[j]? = some x → j ∉ starts → ∃ (i : Nat) (c : List Int), rea (litVar x).toNat = i ∧ cs[i]? = some c ∧ x ∈ c ∧ ∀ y ∈ c, y ≠ x → -y ∈ t.take j
  quiet : ∀ s ∈ starts, ∀ c ∈ cs, Calm c (t.take s)
section
variable {V : Nat} {cs : List (List Int)} {starts : List Nat} {t : List Int} {lev rea : Nat → Int}
theorem Inv.start (hc : ∀ c ∈ cs, Clean V c) : Inv V cs [] [] lev rea :=
  ⟨⟨(fun x hx => by cases hx), List.Pairwise.nil⟩, hc, List.Pairwise.nil, (fun s hs => by cases hs), (fun j x h => by simp at h), (fun j x h => by simp at h), fun s hs => by cases hs⟩
theorem Inv.low (h : Inv V cs starts t lev rea) {T : Int → Prop} (hT : Good cs T) : ∀ (n j : Nat) (x : Int), j ≤ n → t[j]? = some x → nSt starts j = 0 → T x := by
  intro n
  induction n with
  | zero =>
    intro j x hj hx h0
    obtain ⟨i, c, _, hc, hxc, hall⟩ := h.reason j x hx (fun hm => by have := nSt_pos hm; omega)
    refine hT.closed c (List.mem_of_getElem? hc) x hxc (fun y hy hne => ?_)
    obtain ⟨q, hq, _⟩ := take_mem (hall y hy hne)
    omega
  | succ n ih =>
    intro j x hj hx h0
    obtain ⟨i, c, _, hc, hxc, hall⟩ := h.reason j x hx (fun hm => by have := nSt_pos hm; omega)
    refine hT.closed c (List.mem_of_getElem? hc) x hxc (fun y hy hne => ?_)
    obtain ⟨q, hq, hqy⟩ := take_mem (hall y hy hne)
    refine ih q (-y) (by omega) hqy ?_
    have := nSt_mono (starts := starts) (show q ≤ j by omega)
    omega
/-- the level of a literal that is false -/
theorem Inv.level_neg (h : Inv V cs starts t lev rea) {y : Int} (hy : -y ∈ t) : ∃ j, t[j]? = some (-y) ∧ lev (litVar y).toNat = nSt starts j := by
  obtain ⟨j, hj⟩ := List.getElem?_of_mem hy
  have := h.level j _ hj
  rw [litVar_neg] at this
  exact ⟨j, hj, this⟩
/-- a literal that follows from a clause -/
theorem Inv.assign (h : Inv V cs starts t lev rea) {i : Nat} {c : List Int} {x : Int} (hc : cs[i]? = some c) (hx : x ∈ c) (h1 : x ∉ t) (h2 : -x ∉ t) (hall : ∀ y ∈ c, y ≠ x → -y ∈ t) {lev' rea' : Nat → Int}
    (hl : ∀ v, lev' v = if v = (litVar x).toNat then (starts.length : Int) else lev v) (hr : ∀ v, rea' v = if v = (litVar x).toNat then (i : Int) else rea v) : Inv V cs starts (t ++ [x]) lev' rea' := by
  have hfx := (h.clean c (List.mem_of_getElem? hc)).1 x hx
  have htr := h.tr.snoc hfx h1 h2
  have hne : ∀ j y, t[j]? = some y → (litVar y).toNat ≠ (litVar x).toNat := fun j y hy e => by
    have hym := List.mem_of_getElem? hy
    have := (h.tr.fits y hym).var
    have := hfx.var
    rcases same_var (show litVar y = litVar x by omega) with rfl | e
    · exact h1 hym
    · exact h2 (e ▸ hym)
  have hget : ∀ j y, (t ++ [x])[j]? = some y → t[j]? = some y ∨ (j = t.length ∧ y = x) := fun j y hy => by
    by_cases hj : j < t.length
    · rw [List.getElem?_append_left hj] at hy
      exact .inl hy
    · rw [List.getElem?_append_right (by omega)] at hy
      have hj0 : j - t.length = 0 := by
        rcases Nat.eq_zero_or_pos (j - t.length) with h0 | h0
        · exact h0
        · rw [List.getElem?_eq_none (by simp; omega)] at hy
          cases hy
      rw [hj0] at hy
      simp at hy
      exact .inr ⟨by omega, hy.symm⟩
  have htake : ∀ j, j ≤ t.length → (t ++ [x]).take j = t.take j := fun j hj => by rw [List.take_append_of_le_length hj]
  refine ⟨htr, h.clean, h.rise, fun s hs => by have := h.inside s hs; simp; omega, fun j y hy => ?_, fun j y hy hjs => ?_, fun s hs d hd => ?_⟩
  · rw [hl]
    rcases hget j y hy with hy | ⟨rfl, rfl⟩
    · rw [if_neg (hne j y hy)]
      exact h.level j y hy
    · rw [if_pos rfl, nSt_all (fun s hs => Nat.le_of_lt (h.inside s hs))]
  · rw [hr]
    rcases hget j y hy with hy | ⟨rfl, rfl⟩
    · rw [if_neg (hne j y hy)]
      obtain ⟨i', c', e1, e2, e3, e4⟩ := h.reason j y hy hjs
      refine ⟨i', c', e1, e2, e3, fun z hz hzy => ?_⟩
      rw [htake j (Nat.le_of_lt (List.getElem?_eq_some_iff.1 hy).1)]
      exact e4 z hz hzy
    · rw [if_pos rfl]
      refine ⟨i, c, rfl, hc, hx, fun z hz hzy => ?_⟩
      rw [htake _ (Nat.le_refl _), List.take_length]
      exact hall z hz hzy
  · rw [htake s (Nat.le_of_lt (h.inside s hs))]
    exact h.quiet s hs d hd
/-- a decision -/
theorem Inv.decide (h : Inv V cs starts t lev rea) {x : Int} (hfx : Fits V x) (h1 : x ∉ t) (h2 : -x ∉ t) (hcalm : ∀ c ∈ cs, Calm c t) {lev' rea' : Nat → Int}
    (hl : ∀ v, lev' v = if v = (litVar x).toNat then ((starts.length + 1 : Nat) : Int) else lev v) (hr : ∀ v, v ≠ (litVar x).toNat → rea' v = rea v) : Inv V cs (starts ++ [t.length]) (t ++ [x]) lev' rea' := by
  have htr := h.tr.snoc hfx h1 h2
  have hne : ∀ j y, t[j]? = some y → (litVar y).toNat ≠ (litVar x).toNat := fun j y hy e => by
    have hym := List.mem_of_getElem? hy
    have := (h.tr.fits y hym).var
    have := hfx.var
    rcases same_var (show litVar y = litVar x by omega) with rfl | e
    · exact h1 hym
    · exact h2 (e ▸ hym)
  have hget : ∀ j y, (t ++ [x])[j]? = some y → t[j]? = some y ∨ (j = t.length ∧ y = x) := fun j y hy => by
    by_cases hj : j < t.length
    · rw [List.getElem?_append_left hj] at hy
      exact .inl hy
    · rw [List.getElem?_append_right (by omega)] at hy
      have hj0 : j - t.length = 0 := by
        rcases Nat.eq_zero_or_pos (j - t.length) with h0 | h0
        · exact h0
        · rw [List.getElem?_eq_none (by simp; omega)] at hy
          cases hy
      rw [hj0] at hy
      simp at hy
      exact .inr ⟨by omega, hy.symm⟩
  have htake : ∀ j, j ≤ t.length → (t ++ [x]).take j = t.take j := fun j hj => by rw [List.take_append_of_le_length hj]
  refine ⟨htr, h.clean, ?_, fun s hs => ?_, fun j y hy => ?_, fun j y hy hjs => ?_, fun s hs d hd => ?_⟩
  · rw [List.pairwise_append]
    refine ⟨h.rise, by simp, fun a ha b hb => ?_⟩
    simp at hb
    subst hb
    exact h.inside a ha
  · rcases List.mem_append.1 hs with hs | hs
    · have := h.inside s hs
      simp
      omega
    · simp at hs
      subst hs
      simp
  · rw [hl]
    rcases hget j y hy with hy | ⟨rfl, rfl⟩
    · rw [if_neg (hne j y hy), h.level j y hy, nSt_append, nSt_none (starts := [t.length]) (fun s hs => by
        simp at hs
        subst hs
        exact (List.getElem?_eq_some_iff.1 hy).1)]
      simp
    · rw [if_pos rfl, nSt_all (fun s hs => ?_)]
      · simp
      · rcases List.mem_append.1 hs with hs | hs
        · exact Nat.le_of_lt (h.inside s hs)
        · simp at hs
          omega
  · rcases hget j y hy with hy | ⟨rfl, rfl⟩
    · obtain ⟨i', c', e1, e2, e3, e4⟩ := h.reason j y hy (fun hm => hjs (List.mem_append_left _ hm))
      refine ⟨i', c', by rw [hr _ (hne j y hy), e1], e2, e3, fun z hz hzy => ?_⟩
      rw [htake j (Nat.le_of_lt (List.getElem?_eq_some_iff.1 hy).1)]
      exact e4 z hz hzy
    · exact absurd (List.mem_append_right starts (List.mem_singleton.2 rfl)) hjs
  · rcases List.mem_append.1 hs with hs | hs
    · rw [htake s (Nat.le_of_lt (h.inside s hs))]
      exact h.quiet s hs d hd
    · simp at hs
      subst hs
      rw [htake _ (Nat.le_refl _), List.take_length]
      exact hcalm d hd
end
/-- what mark does with a clause -/
def markF (lev : Nat → Int) (cur : Nat) : List Int → (Nat → Bool) × List Int × Nat → (Nat → Bool) × List Int × Nat
  | [], s => s
  | x :: xs, (seen, out, left) => if seen (litVar x).toNat = true ∨ lev (litVar x).toNat = 0 then markF lev cur xs (seen, out, left) else
      if lev (litVar x).toNat < cur then markF lev cur xs (fun v => if v = (litVar x).toNat then true else seen v, out ++ [x], left) else
        markF lev cur xs (fun v => if v = (litVar x).toNat then true else seen v, out, left + 1)

/-- how many of the places up to i hold a variable that is seen and of the last level -/
def nSeen (t : List Int) (lev : Nat → Int) (cur : Nat) (seen : Nat → Bool) (n : Nat) : Nat := ((t.take n).countP fun x => seen (litVar x).toNat && decide (lev (litVar x).toNat = cur))

/-- the search for what to learn: the places below n are to come -/
structure LInv (V : Nat) (cs : List (List Int)) (starts : List Nat) (t : List Int) (lev : Nat → Int) (n : Nat) (seen : Nat → Bool) (out : List Int) (left : Nat) : Prop where
  low : ∀ y ∈ out, -y ∈ t ∧ 0 < lev (litVar y).toNat ∧ lev (litVar y).toNat < starts.length
  apart : out.Pairwise (fun x y => litVar x ≠ litVar y)
  mark : ∀ y ∈ out, seen (litVar y).toNat = true
  back : ∀ y, -y ∈ t → seen (litVar y).toNat = true → lev (litVar y).toNat < starts.length → y ∈ out
  cnt : left = nSeen t lev starts.length seen n
  pos : 1 ≤ left
  deriv : ∀ T, Good cs T → (∀ y ∈ out, T (-y)) → (∀ x ∈ t.take n, seen (litVar x).toNat = true → lev (litVar x).toNat = starts.length → T x) → False

theorem countP_one {l : List Int} {p p' : Int → Bool} {z : Int} (hn : l.Pairwise (fun x y => litVar x ≠ litVar y)) (hz : z ∈ l) (h0 : p z = false) (h1 : p' z = true) (hs : ∀ x ∈ l, litVar x ≠ litVar z → p' x = p x) : l.countP p' = l.countP p + 1 := by
  induction l with
  | nil => cases hz
  | cons a l ih =>
    obtain ⟨hn1, hn2⟩ := List.pairwise_cons.1 hn
    rw [List.countP_cons, List.countP_cons]
    rcases List.mem_cons.1 hz with rfl | hz
    · have he : l.countP p' = l.countP p := List.countP_congr (fun x hx => by rw [hs x (List.mem_cons_of_mem _ hx) (fun e => hn1 x hx e.symm)])
      rw [he, h0, h1]
      simp
    · rw [ih hn2 hz (fun x hx hne => hs x (List.mem_cons_of_mem _ hx) hne), hs a (List.mem_cons_self ..) (hn1 z hz)]
      omega

section
variable {V : Nat} {cs : List (List Int)} {starts : List Nat} {t : List Int} {lev rea : Nat → Int} {n : Nat}
/-- what marking keeps -/
structure MInv (starts : List Nat) (t : List Int) (lev : Nat → Int) (n : Nat) (seen : Nat → Bool) (out : List Int) (left : Nat) : Prop where
  low : ∀ y ∈ out, -y ∈ t ∧ 0 < lev (litVar y).toNat ∧ lev (litVar y).toNat < starts.length
  apart : out.Pairwise (fun x y => litVar x ≠ litVar y)
  mark : ∀ y ∈ out, seen (litVar y).toNat = true
  back : ∀ y, -y ∈ t → seen (litVar y).toNat = true → lev (litVar y).toNat < starts.length → y ∈ out
  cnt : left = nSeen t lev starts.length seen n
def setBl (seen : Nat → Bool) (v : Nat) : Nat → Bool := fun u => if u = v then true else seen u
theorem mark_spec (h : Inv V cs starts t lev rea) : ∀ (c : List Int) (seen : Nat → Bool) (out : List Int) (left : Nat), (∀ x ∈ c, Fits V x) → (∀ y ∈ c, -y ∈ t ∨ seen (litVar y).toNat = true) →
    (∀ y ∈ c, -y ∈ t → lev (litVar y).toNat = starts.length → seen (litVar y).toNat = false → -y ∈ t.take n) → MInv starts t lev n seen out left →
    ∃ seen' out' left', markF lev starts.length c (seen, out, left) = (seen', out', left') ∧ MInv starts t lev n seen' out' left' ∧ left ≤ left' ∧ (∀ v, seen v = true → seen' v = true) ∧ (∀ y ∈ out, y ∈ out') ∧
      ∀ y ∈ c, -y ∈ t → lev (litVar y).toNat = 0 ∨ y ∈ out' ∨ (seen' (litVar y).toNat = true ∧ lev (litVar y).toNat = starts.length) := by
  intro c
  induction c with
  | nil => intro seen out left _ _ _ hm; exact ⟨seen, out, left, rfl, hm, Nat.le_refl _, fun v h => h, fun y h => h, fun y hy => by cases hy⟩
  | cons x xs ih =>
    intro seen out left hf hneg hpl hm
    have hlev : ∀ y, -y ∈ t → 0 ≤ lev (litVar y).toNat ∧ lev (litVar y).toNat ≤ starts.length := fun y hy => by
      obtain ⟨j, _, e⟩ := h.level_neg hy
      have := nSt_le starts j
      omega
    rw [markF]
    by_cases h0 : seen (litVar x).toNat = true ∨ lev (litVar x).toNat = 0
    · rw [if_pos h0]
      obtain ⟨s', o', l', e1, e2, e3, e4, e5, e6⟩ := ih seen out left (fun y hy => hf y (List.mem_cons_of_mem _ hy)) (fun y hy => hneg y (List.mem_cons_of_mem _ hy)) (fun y hy => hpl y (List.mem_cons_of_mem _ hy)) hm
      refine ⟨s', o', l', e1, e2, e3, e4, e5, fun y hy hyt => ?_⟩
      rcases List.mem_cons.1 hy with rfl | hy
      · rcases h0 with h0 | h0
        · have := hlev y hyt
          by_cases hc : lev (litVar y).toNat = starts.length
          · exact .inr (.inr ⟨e4 _ h0, hc⟩)
          · exact .inr (.inl (e5 y (hm.back y hyt h0 (by omega))))
        · exact .inl h0
      · exact e6 y hy hyt
    · rw [if_neg h0]
      simp only [not_or, Bool.not_eq_true] at h0
      obtain ⟨h1, h2⟩ := h0
      have hxt : -x ∈ t := by
        rcases hneg x (List.mem_cons_self ..) with h | h
        · exact h
        · rw [h1] at h
          cases h
      have hb := hlev x hxt
      have hvar : ∀ y, -y ∈ t → (litVar y).toNat = (litVar x).toNat → y = x := fun y hy e => by
        have f1 := (h.tr.fits _ hy).var
        have f2 := (h.tr.fits _ hxt).var
        rw [litVar_neg] at f1 f2
        have := h.tr.same hy hxt (by rw [litVar_neg, litVar_neg]; omega)
        omega
      by_cases hlt : lev (litVar x).toNat < starts.length
      · rw [if_pos hlt]
        have hm' : MInv starts t lev n (setBl seen (litVar x).toNat) (out ++ [x]) left := by
          refine ⟨fun y hy => ?_, ?_, fun y hy => ?_, fun y hy hs hl => ?_, ?_⟩
          · rcases List.mem_append.1 hy with hy | hy
            · exact hm.low y hy
            · simp at hy
              subst hy
              exact ⟨hxt, by omega, hlt⟩
          · rw [List.pairwise_append]
            refine ⟨hm.apart, by simp, fun a ha b hb e => ?_⟩
            simp at hb
            subst hb
            have := hm.mark a ha
            rw [e, h1] at this
            cases this
          · rcases List.mem_append.1 hy with hy | hy
            · unfold setBl
              split
              · rfl
              · exact hm.mark y hy
            · simp at hy
              subst hy
              simp [setBl]
          · by_cases e : (litVar y).toNat = (litVar x).toNat
            · rw [hvar y hy e]
              simp
            · unfold setBl at hs
              rw [if_neg e] at hs
              exact List.mem_append_left _ (hm.back y hy hs hl)
          · rw [hm.cnt]
            unfold nSeen
            refine List.countP_congr (fun z _ => ?_)
            unfold setBl
            by_cases e : (litVar z).toNat = (litVar x).toNat
            · rw [if_pos e, e, h1]
              simp
              omega
            · rw [if_neg e]
        obtain ⟨s', o', l', e1, e2, e3, e4, e5, e6⟩ := ih (setBl seen (litVar x).toNat) (out ++ [x]) left (fun y hy => hf y (List.mem_cons_of_mem _ hy))
          (fun y hy => (hneg y (List.mem_cons_of_mem _ hy)).imp id (fun hs => by unfold setBl; split; rfl; exact hs))
          (fun y hy h3 h4 h5 => hpl y (List.mem_cons_of_mem _ hy) h3 h4 (by unfold setBl at h5; split at h5; cases h5; exact h5)) hm'
        refine ⟨s', o', l', e1, e2, e3, fun v hv => e4 v (by unfold setBl; split; rfl; exact hv), fun y hy => e5 y (List.mem_append_left _ hy), fun y hy hyt => ?_⟩
        rcases List.mem_cons.1 hy with rfl | hy
        · exact .inr (.inl (e5 y (by simp)))
        · exact e6 y hy hyt
      · rw [if_neg hlt]
        have hcur : lev (litVar x).toNat = starts.length := by omega
        have hm' : MInv starts t lev n (setBl seen (litVar x).toNat) out (left + 1) := by
          refine ⟨hm.low, hm.apart, fun y hy => ?_, fun y hy hs hl => ?_, ?_⟩
          · unfold setBl
            split
            · rfl
            · exact hm.mark y hy
          · by_cases e : (litVar y).toNat = (litVar x).toNat
            · rw [e] at hl
              omega
            · unfold setBl at hs
              rw [if_neg e] at hs
              exact hm.back y hy hs hl
          · rw [hm.cnt]
            unfold nSeen
            symm
            refine countP_one (z := -x) (h.tr.take n).apart (hpl x (List.mem_cons_self ..) hxt hcur h1) ?_ ?_ (fun z hz hne => ?_)
            · rw [litVar_neg, h1]
              rfl
            · rw [litVar_neg]
              simp [setBl, hcur]
            · unfold setBl
              rw [litVar_neg] at hne
              have f1 := (h.tr.fits _ (List.mem_of_mem_take hz)).var
              have f2 := (h.tr.fits _ hxt).var
              rw [litVar_neg] at f2
              rw [if_neg (by omega)]
        obtain ⟨s', o', l', e1, e2, e3, e4, e5, e6⟩ := ih (setBl seen (litVar x).toNat) out (left + 1) (fun y hy => hf y (List.mem_cons_of_mem _ hy))
          (fun y hy => (hneg y (List.mem_cons_of_mem _ hy)).imp id (fun hs => by unfold setBl; split; rfl; exact hs))
          (fun y hy h3 h4 h5 => hpl y (List.mem_cons_of_mem _ hy) h3 h4 (by unfold setBl at h5; split at h5; cases h5; exact h5)) hm'
        refine ⟨s', o', l', e1, e2, by omega, fun v hv => e4 v (by unfold setBl; split; rfl; exact hv), e5, fun y hy hyt => ?_⟩
        rcases List.mem_cons.1 hy with rfl | hy
        · exact .inr (.inr ⟨e4 _ (by simp [setBl]), hcur⟩)
        · exact e6 y hy hyt

/-- a false clause is false at the last level, twice -/
theorem Inv.conflict_last (h : Inv V cs starts t lev rea) {c : List Int} (hc : c ∈ cs) (hneg : ∀ y ∈ c, -y ∈ t) (hs : starts ≠ []) : ∃ y ∈ c, lev (litVar y).toNat = starts.length := by
  obtain ⟨s, hlast⟩ : ∃ s, s = starts.getLast hs := ⟨_, rfl⟩
  have hsm : s ∈ starts := by rw [hlast]; exact List.getLast_mem hs
  have hge : ∀ q ∈ starts, q ≤ s := by
    intro q hq
    obtain ⟨i, hi, e⟩ := List.getElem_of_mem hq
    rw [hlast, List.getLast_eq_getElem]
    rcases Nat.lt_or_ge i (starts.length - 1) with hl | hl
    · have := List.pairwise_iff_getElem.1 h.rise i (starts.length - 1) hi (by omega) hl
      omega
    · have : i = starts.length - 1 := by omega
      subst this
      omega
  have hcalm := h.quiet s hsm c hc
  have hno : ¬ ∃ y ∈ c, y ∈ t.take s := by
    rintro ⟨y, hy, hyt⟩
    exact h.tr.clash (List.mem_of_mem_take hyt) (hneg y hy)
  obtain ⟨y, hy, z, hz, hyz, h1, h2, h3, h4⟩ := calm_more hcalm hno
  refine ⟨y, hy, ?_⟩
  obtain ⟨j, hj, e⟩ := h.level_neg (hneg y hy)
  rw [e, nSt_all (fun q hq => ?_)]
  have hsj : s ≤ j := by
    rcases Nat.lt_or_ge j s with hl | hl
    · exact absurd (mem_take hj hl) h2
    · exact hl
  have := hge q hq
  omega
theorem LInv.start (h : Inv V cs starts t lev rea) {c : List Int} (hc : c ∈ cs) (hneg : ∀ y ∈ c, -y ∈ t) (hs : starts ≠ []) :
    ∃ seen out left, markF lev starts.length c (fun _ => false, [], 0) = (seen, out, left) ∧ LInv V cs starts t lev t.length seen out left := by
  have hm0 : MInv starts t lev t.length (fun _ => false) [] 0 := ⟨(fun y hy => by cases hy), List.Pairwise.nil, (fun y hy => by cases hy), (fun y _ h => by cases h), by
    unfold nSeen
    symm
    rw [List.countP_eq_zero]
    simp⟩
  obtain ⟨seen, out, left, e1, e2, e3, e4, e5, e6⟩ := mark_spec (n := t.length) h c (fun _ => false) [] 0 ((h.clean c hc).1) (fun y hy => .inl (hneg y hy)) (fun y hy h1 _ _ => by rw [List.take_length]; exact h1) hm0
  refine ⟨seen, out, left, e1, e2.low, e2.apart, e2.mark, e2.back, e2.cnt, ?_, ?_⟩
  · obtain ⟨y, hy, hl⟩ := h.conflict_last hc hneg hs
    have hlen : 0 < starts.length := List.length_pos_iff.2 hs
    have hsy : seen (litVar y).toNat = true := by
      rcases e6 y hy (hneg y hy) with h0 | h0 | h0
      · omega
      · exact e2.mark y h0
      · exact h0.1
    rw [e2.cnt]
    unfold nSeen
    rw [List.take_length]
    refine List.countP_pos_iff.2 ⟨-y, hneg y hy, ?_⟩
    rw [litVar_neg, hsy, decide_eq_true hl]
    rfl
  · intro T hT h1 h2
    obtain ⟨y, hy, hny⟩ := hT.alive c hc
    refine hny ?_
    have hyt := hneg y hy
    rcases e6 y hy hyt with h0 | h0 | h0
    · obtain ⟨j, hj, e⟩ := h.level_neg hyt
      exact h.low hT j j _ (Nat.le_refl _) hj (by omega)
    · exact h1 y h0
    · refine h2 (-y) (by rw [List.take_length]; exact hyt) ?_ ?_
      · rw [litVar_neg]
        exact h0.1
      · rw [litVar_neg]
        exact h0.2
theorem nSeen_succ {seen : Nat → Bool} {x : Int} (hx : t[n]? = some x) : nSeen t lev starts.length seen (n + 1) = nSeen t lev starts.length seen n + if (seen (litVar x).toNat && decide (lev (litVar x).toNat = starts.length)) = true then 1 else 0 := by
  unfold nSeen
  rw [List.take_add_one, hx, List.countP_append]
  simp [List.countP_cons]
/-- there is a place to come -/
theorem LInv.more {seen : Nat → Bool} {out : List Int} {left : Nat} (hl : LInv V cs starts t lev n seen out left) : 0 < n := by
  rcases Nat.eq_zero_or_pos n with h0 | h0
  · subst h0
    have h1 := hl.cnt
    have h2 := hl.pos
    simp [nSeen] at h1
    omega
  · exact h0
/-- a place whose variable is not of the last level, or not seen: nothing to do there -/
theorem LInv.skip {seen : Nat → Bool} {out : List Int} {left : Nat} {x : Int} (hl : LInv V cs starts t lev (n + 1) seen out left) (hx : t[n]? = some x) (hs : seen (litVar x).toNat = false) : LInv V cs starts t lev n seen out left := by
  refine ⟨hl.low, hl.apart, hl.mark, hl.back, ?_, hl.pos, fun T hT h1 h2 => hl.deriv T hT h1 (fun z hz hzs hzl => ?_)⟩
  · have h1 := hl.cnt
    rw [nSeen_succ hx, hs] at h1
    simpa using h1
  · obtain ⟨j, hj, hzj⟩ := take_mem hz
    rcases Nat.lt_or_ge j n with hlt | hge
    · exact h2 z (mem_take hzj hlt) hzs hzl
    · obtain rfl : j = n := by omega
      rw [hx] at hzj
      obtain rfl := Option.some.inj hzj
      rw [hs] at hzs
      cases hzs
/-- the place at hand is of the last level -/
theorem LInv.cur (h : Inv V cs starts t lev rea) {seen : Nat → Bool} {out : List Int} {left : Nat} {x : Int} (hl : LInv V cs starts t lev (n + 1) seen out left) (hx : t[n]? = some x) : lev (litVar x).toNat = starts.length := by
  have h1 := hl.cnt
  have h2 := hl.pos
  have h3 : 0 < nSeen t lev starts.length seen (n + 1) := by omega
  unfold nSeen at h3
  obtain ⟨z, hz, hp⟩ := List.countP_pos_iff.1 h3
  simp only [Bool.and_eq_true, decide_eq_true_eq] at hp
  obtain ⟨j, hj, hzj⟩ := take_mem hz
  have h4 := h.level j z hzj
  have h5 := h.level n x hx
  have h6 := nSt_mono (starts := starts) (show j ≤ n by omega)
  have h7 := nSt_le starts n
  omega
/-- with two to come, the place is no decision, and its reason is to be looked at -/
theorem LInv.reason (h : Inv V cs starts t lev rea) {seen : Nat → Bool} {out : List Int} {left : Nat} {x : Int} (hl : LInv V cs starts t lev (n + 1) seen out left) (hx : t[n]? = some x) (hs : seen (litVar x).toNat = true) (h2 : left ≠ 1) :
    ∃ (i : Nat) (c : List Int), rea (litVar x).toNat = i ∧ cs[i]? = some c ∧ x ∈ c ∧ ∀ y ∈ c, y ≠ x → -y ∈ t.take n := by
  have hc := hl.cur h hx
  refine h.reason n x hx (fun hm => ?_)
  have h1 := hl.cnt
  rw [nSeen_succ hx, hs, decide_eq_true hc] at h1
  have hp := hl.pos
  have h3 : 0 < nSeen t lev starts.length seen n := by simp at h1; omega
  unfold nSeen at h3
  obtain ⟨z, hz, hpz⟩ := List.countP_pos_iff.1 h3
  simp only [Bool.and_eq_true, decide_eq_true_eq] at hpz
  obtain ⟨j, hj, hzj⟩ := take_mem hz
  have h4 := h.level j z hzj
  have h5 : nSt starts j < starts.length := by
    unfold nSt
    rcases Nat.lt_or_ge (starts.countP fun s => decide (s ≤ j)) starts.length with hlt | hge
    · exact hlt
    · have := List.countP_eq_length.1 (Nat.le_antisymm List.countP_le_length hge) n hm
      simp at this
      omega
  omega
theorem LInv.step (h : Inv V cs starts t lev rea) {seen : Nat → Bool} {out : List Int} {left : Nat} {x : Int} (hl : LInv V cs starts t lev (n + 1) seen out left) (hx : t[n]? = some x) (hs : seen (litVar x).toNat = true) (h2 : left ≠ 1)
    {i : Nat} {c : List Int} (hc : cs[i]? = some c) (hxc : x ∈ c) (hall : ∀ y ∈ c, y ≠ x → -y ∈ t.take n) :
    ∃ seen' out' left', markF lev starts.length c (seen, out, left - 1) = (seen', out', left') ∧ LInv V cs starts t lev n seen' out' left' := by
  have hcur := hl.cur h hx
  have hp := hl.pos
  have hle := hl.cnt
  rw [nSeen_succ hx, hs, decide_eq_true hcur] at hle
  simp only [Bool.and_self, if_true] at hle
  have hm0 : MInv starts t lev n seen out (left - 1) := ⟨hl.low, hl.apart, hl.mark, hl.back, by omega⟩
  obtain ⟨seen', out', left', e1, e2, e3, e4, e5, e6⟩ := mark_spec (n := n) h c seen out (left - 1) ((h.clean c (List.mem_of_getElem? hc)).1) (fun y hy => by
    by_cases he : y = x
    · rw [he]; exact .inr hs
    · exact .inl (List.mem_of_mem_take (hall y hy he))) (fun y hy h1 h3 h4 => by
    by_cases he : y = x
    · rw [he, hs] at h4; cases h4
    · exact hall y hy he) hm0
  refine ⟨seen', out', left', e1, e2.low, e2.apart, e2.mark, e2.back, e2.cnt, by omega, fun T hT h1 h3 => ?_⟩
  refine hl.deriv T hT (fun y hy => h1 y (e5 y hy)) (fun z hz hzs hzl => ?_)
  obtain ⟨j, hj, hzj⟩ := take_mem hz
  rcases Nat.lt_or_ge j n with hlt | hge
  · exact h3 z (mem_take hzj hlt) (e4 _ hzs) hzl
  · obtain rfl : j = n := by omega
    rw [hx] at hzj
    obtain rfl := Option.some.inj hzj
    refine hT.closed c (List.mem_of_getElem? hc) x hxc (fun y hy hne => ?_)
    have hyt := hall y hy hne
    rcases e6 y hy (List.mem_of_mem_take hyt) with h0 | h0 | h0
    · obtain ⟨q, hq, e⟩ := h.level_neg (List.mem_of_mem_take hyt)
      exact h.low hT q q _ (Nat.le_refl _) hq (by omega)
    · exact h1 y h0
    · refine h3 (-y) hyt ?_ ?_
      · rw [litVar_neg]; exact h0.1
      · rw [litVar_neg]; exact h0.2

/-- what is learned: the places of its literals, and that it follows -/
structure Learnt (V : Nat) (cs : List (List Int)) (starts : List Nat) (t : List Int) (lev : Nat → Int) (C : List Int) : Prop where
  neg : ∀ y ∈ C, -y ∈ t
  low : ∀ y ∈ C, 0 < lev (litVar y).toNat
  apart : C.Pairwise (fun x y => litVar x ≠ litVar y)
  last : ∃ y ∈ C, lev (litVar y).toNat = starts.length ∧ ∀ z ∈ C, lev (litVar z).toNat = starts.length → z = y
  rup : ∀ T, Good cs T → ¬ ∀ y ∈ C, T (-y)
theorem LInv.done (h : Inv V cs starts t lev rea) {seen : Nat → Bool} {out : List Int} {x : Int} (hl : LInv V cs starts t lev (n + 1) seen out 1) (hx : t[n]? = some x) (hs : seen (litVar x).toNat = true) (hne : starts ≠ []) : Learnt V cs starts t lev (out ++ [-x]) := by
  have hcur := hl.cur h hx
  have hlen : 0 < starts.length := List.length_pos_iff.2 hne
  have hxt := List.mem_of_getElem? hx
  have hle := hl.cnt
  rw [nSeen_succ hx, hs, decide_eq_true hcur] at hle
  simp only [Bool.and_self, if_true] at hle
  refine ⟨fun y hy => ?_, fun y hy => ?_, ?_, ⟨-x, by simp, by rw [litVar_neg]; exact hcur, fun z hz hzl => ?_⟩, fun T hT hall => ?_⟩
  · rcases List.mem_append.1 hy with hy | hy
    · exact (hl.low y hy).1
    · simp at hy
      subst hy
      rw [Int.neg_neg]
      exact hxt
  · rcases List.mem_append.1 hy with hy | hy
    · exact (hl.low y hy).2.1
    · simp at hy
      subst hy
      rw [litVar_neg]
      omega
  · rw [List.pairwise_append]
    refine ⟨hl.apart, by simp, fun a ha b hb e => ?_⟩
    simp at hb
    subst hb
    rw [litVar_neg] at e
    have := (hl.low a ha).2.2
    rw [e] at this
    omega
  · rcases List.mem_append.1 hz with hz | hz
    · have := (hl.low z hz).2.2
      omega
    · simpa using hz
  · refine hl.deriv T hT (fun y hy => hall y (List.mem_append_left _ hy)) (fun z hz hzs hzl => ?_)
    obtain ⟨j, hj, hzj⟩ := take_mem hz
    rcases Nat.lt_or_ge j n with hlt | hge
    · exfalso
      have h0 : nSeen t lev starts.length seen n = 0 := by omega
      unfold nSeen at h0
      rw [List.countP_eq_zero] at h0
      have := h0 z (mem_take hzj hlt)
      rw [hzs, decide_eq_true hzl] at this
      exact this rfl
    · obtain rfl : j = n := by omega
      rw [hx] at hzj
      obtain rfl := Option.some.inj hzj
      have := hall (-x) (by simp)
      rwa [Int.neg_neg] at this
theorem Learnt.perm {C C' : List Int} (hp : C'.Perm C) (h : Learnt V cs starts t lev C) : Learnt V cs starts t lev C' := by
  refine ⟨fun y hy => h.neg y (hp.mem_iff.1 hy), fun y hy => h.low y (hp.mem_iff.1 hy), (hp.pairwise_iff (fun {a b} hab e => hab e.symm)).2 h.apart, ?_, fun T hT hall => h.rup T hT (fun y hy => hall y (hp.mem_iff.2 hy))⟩
  obtain ⟨y, hy, h1, h2⟩ := h.last
  exact ⟨y, hp.mem_iff.2 hy, h1, fun z hz => h2 z (hp.mem_iff.1 hz)⟩

/-- the level to go back to -/
def backF (lev : Nat → Int) (cur : Nat) : List Int → Int → Int
  | [], b => b
  | x :: xs, b => backF lev cur xs (if lev (litVar x).toNat < cur then max b (lev (litVar x).toNat) else b)
theorem backF_spec (lev : Nat → Int) (cur : Nat) : ∀ (C : List Int) (b : Int), 0 ≤ b → b < cur → (∀ y ∈ C, 0 ≤ lev (litVar y).toNat) →
    b ≤ backF lev cur C b ∧ backF lev cur C b < cur ∧ (∀ y ∈ C, lev (litVar y).toNat < cur → lev (litVar y).toNat ≤ backF lev cur C b) ∧ (backF lev cur C b = b ∨ ∃ y ∈ C, lev (litVar y).toNat = backF lev cur C b) := by
  intro C
  induction C with
  | nil => intro b h0 h1 _; exact ⟨Int.le_refl _, h1, (fun y hy => by cases hy), .inl rfl⟩
  | cons x xs ih =>
    intro b h0 h1 hp
    have hx := hp x (List.mem_cons_self ..)
    rw [backF]
    by_cases hl : lev (litVar x).toNat < cur
    · rw [if_pos hl]
      obtain ⟨a1, a2, a3, a4⟩ := ih (max b (lev (litVar x).toNat)) (by omega) (by omega) (fun y hy => hp y (List.mem_cons_of_mem _ hy))
      refine ⟨by omega, a2, fun y hy hyl => ?_, ?_⟩
      · rcases List.mem_cons.1 hy with rfl | hy
        · omega
        · exact a3 y hy hyl
      · rcases a4 with a4 | ⟨y, hy, e⟩
        · rcases Int.le_total b (lev (litVar x).toNat) with h | h
          · exact .inr ⟨x, List.mem_cons_self .., by omega⟩
          · exact .inl (by omega)
        · exact .inr ⟨y, List.mem_cons_of_mem _ hy, e⟩
    · rw [if_neg hl]
      obtain ⟨a1, a2, a3, a4⟩ := ih b h0 h1 (fun y hy => hp y (List.mem_cons_of_mem _ hy))
      refine ⟨a1, a2, fun y hy hyl => ?_, ?_⟩
      · rcases List.mem_cons.1 hy with rfl | hy
        · omega
        · exact a3 y hy hyl
      · exact a4.imp id fun ⟨y, hy, e⟩ => ⟨y, List.mem_cons_of_mem _ hy, e⟩

/-- what is asked of the next propagation: no clause is false, one asks for a literal -/
def Fresh (cs : List (List Int)) (t : List Int) : Prop := (∀ c ∈ cs, Calm c t ∨ Unit1 c t) ∧ ∃ c ∈ cs, Unit1 c t

theorem nSt_lt {b : Nat} (h : starts.Pairwise (· < ·)) {s : Nat} (hb : starts[b]? = some s) {j : Nat} (hj : j < s) : nSt starts j = nSt (starts.take b) j := by
  have h1 : nSt starts j = nSt (starts.take b) j + nSt (starts.drop b) j := by rw [← nSt_append, List.take_append_drop]
  rw [h1, nSt_none (starts := starts.drop b) (fun q hq => ?_), Nat.add_zero]
  obtain ⟨i, hi⟩ := List.getElem?_of_mem hq
  rw [List.getElem?_drop] at hi
  obtain ⟨hbl, eb⟩ := List.getElem?_eq_some_iff.1 hb
  obtain ⟨hil, ei⟩ := List.getElem?_eq_some_iff.1 hi
  rcases Nat.eq_zero_or_pos i with h0 | h0
  · subst h0
    have : q = s := by rw [← ei, ← eb]; rfl
    omega
  · have := List.pairwise_iff_getElem.1 h b (b + i) hbl hil (by omega)
    omega
/-- going back keeps all, and the learned clause asks for a literal -/
theorem Inv.undo (h : Inv V cs starts t lev rea) {C : List Int} (hC : Learnt V cs starts t lev C) (hcl : Clean V C) {b : Nat} (hb : (b : Int) = backF lev starts.length C 0) {s : Nat} (hs : starts[b]? = some s) :
    Inv V (cs ++ [C]) (starts.take b) (t.take s) lev rea ∧ Fresh (cs ++ [C]) (t.take s) := by
  obtain ⟨hbl, eb⟩ := List.getElem?_eq_some_iff.1 hs
  have hsm : s ∈ starts := List.mem_of_getElem? hs
  have hst := h.inside s hsm
  have hlev : ∀ y ∈ C, 0 ≤ lev (litVar y).toNat := fun y hy => Int.le_of_lt (hC.low y hy)
  obtain ⟨b1, b2, b3, b4⟩ := backF_spec lev starts.length C 0 (Int.le_refl _) (by omega) hlev
  rw [← hb] at b1 b2 b3 b4
  have hlow : ∀ q ∈ starts.take b, q < s := fun q hq => by
    obtain ⟨i, hi, e⟩ := take_mem (t := starts.map Int.ofNat) (n := b) (x := Int.ofNat q) (by rw [← List.map_take]; exact List.mem_map.2 ⟨q, hq, rfl⟩)
    rw [List.getElem?_map] at e
    cases hq2 : starts[i]? with
    | none => rw [hq2] at e; cases e
    | some q' =>
      rw [hq2] at e
      simp at e
      obtain rfl : q' = q := by omega
      obtain ⟨hil, ei⟩ := List.getElem?_eq_some_iff.1 hq2
      have := List.pairwise_iff_getElem.1 h.rise i b hil hbl hi
      omega
  have htt : ∀ q, q ≤ s → (t.take s).take q = t.take q := fun q hq => by rw [List.take_take, Nat.min_eq_left hq]
  have hget : ∀ j y, (t.take s)[j]? = some y → j < s ∧ t[j]? = some y := fun j y hy => by
    rw [List.getElem?_take] at hy
    split at hy
    · exact ⟨by assumption, hy⟩
    · cases hy
  -- where the literals of C lie
  have hplace : ∀ y ∈ C, ∃ j, t[j]? = some (-y) ∧ (nSt starts j : Int) = lev (litVar y).toNat := fun y hy => by
    obtain ⟨j, hj, e⟩ := h.level_neg (hC.neg y hy)
    exact ⟨j, hj, e.symm⟩
  have hin : ∀ y ∈ C, lev (litVar y).toNat ≤ b → -y ∈ t.take s := fun y hy hl => by
    obtain ⟨j, hj, e⟩ := hplace y hy
    refine mem_take hj ?_
    rcases Nat.lt_or_ge j s with hlt | hge
    · exact hlt
    · have h1 := nSt_mono (starts := starts) hge
      have h2 : b < nSt starts s := by
        have h3 : nSt starts s = nSt (starts.take (b + 1)) s + nSt (starts.drop (b + 1)) s := by rw [← nSt_append, List.take_append_drop]
        rw [h3, nSt_all (starts := starts.take (b + 1)) (fun q hq => ?_)]
        · rw [List.length_take]
          omega
        · rw [List.take_add_one, hs] at hq
          rcases List.mem_append.1 hq with hq | hq
          · exact Nat.le_of_lt (hlow q hq)
          · simp at hq
            omega
      omega
  have hout : ∀ (q : Nat) (y : Int), y ∈ C → (∃ s' k : Nat, starts[k]? = some s' ∧ q ≤ s' ∧ (k : Int) < lev (litVar y).toNat) → y ∉ t.take q ∧ -y ∉ t.take q := fun q y hy ⟨s', k, hk, hqs, hkl⟩ => by
    have hyt := hC.neg y hy
    refine ⟨fun hm => h.tr.clash (List.mem_of_mem_take hm) hyt, fun hm => ?_⟩
    obtain ⟨j, hj, hjy⟩ := take_mem hm
    have h1 := h.level j _ hjy
    rw [litVar_neg] at h1
    have h2 := nSt_lt h.rise hk (show j < s' by omega)
    have h3 := nSt_le (starts.take k) j
    rw [List.length_take] at h3
    omega
  obtain ⟨x, hx, hxl, hxu⟩ := hC.last
  have hfree : x ∉ t.take s ∧ -x ∉ t.take s := hout s x hx ⟨s, b, hs, Nat.le_refl _, by omega⟩
  have hunit : Unit1 C (t.take s) := ⟨x, hx, hfree.1, hfree.2, fun y hy hne => hin y hy (b3 y hy (by
    obtain ⟨j, _, e⟩ := hplace y hy
    have := nSt_le starts j
    have hny : lev (litVar y).toNat ≠ starts.length := fun e => hne (hxu y hy e)
    omega))⟩
  refine ⟨⟨h.tr.take s, fun c hc => ?_, h.rise.sublist (List.take_sublist _ _), fun q hq => ?_, fun j y hy => ?_, fun j y hy hjs => ?_, fun q hq c hc => ?_⟩, fun c hc => ?_, C, by simp, hunit⟩
  · rcases List.mem_append.1 hc with hc | hc
    · exact h.clean c hc
    · simp at hc
      subst hc
      exact hcl
  · have := hlow q hq
    rw [List.length_take]
    omega
  · obtain ⟨hj, hy⟩ := hget j y hy
    rw [h.level j y hy, nSt_lt h.rise hs hj]
  · obtain ⟨hj, hy⟩ := hget j y hy
    have hjs' : j ∉ starts := fun hm => hjs (by
      obtain ⟨i, hi⟩ := List.getElem?_of_mem hm
      obtain ⟨hil, ei⟩ := List.getElem?_eq_some_iff.1 hi
      rcases Nat.lt_or_ge i b with hlt | hge
      · exact List.mem_of_getElem? (i := i) (by rw [List.getElem?_take, if_pos hlt]; exact hi)
      · rcases Nat.eq_or_lt_of_le hge with he | hgt
        · subst he
          omega
        · have := List.pairwise_iff_getElem.1 h.rise b i hbl hil hgt
          omega)
    obtain ⟨i, c, e1, e2, e3, e4⟩ := h.reason j y hy hjs'
    refine ⟨i, c, e1, by rw [List.getElem?_append_left (List.getElem?_eq_some_iff.1 e2).1]; exact e2, e3, fun z hz hzy => ?_⟩
    rw [htt j (Nat.le_of_lt hj)]
    exact e4 z hz hzy
  · have hqs := hlow q hq
    have hqm := List.mem_of_mem_take hq
    rw [htt q (Nat.le_of_lt hqs)]
    rcases List.mem_append.1 hc with hc | hc
    · exact h.quiet q hqm c hc
    · simp at hc
      subst hc
      have hb0 : 0 < b := by
        rcases Nat.eq_zero_or_pos b with h0 | h0
        · subst h0
          simp at hq
        · exact h0
      rcases b4 with b4 | ⟨z, hz, hzl⟩
      · omega
      · obtain ⟨k, hk⟩ := List.getElem?_of_mem hq
        rw [List.getElem?_take] at hk
        split at hk
        · rename_i hkb
          have h1 := hout q x hx ⟨q, k, hk, Nat.le_refl _, by omega⟩
          have h2 := hout q z hz ⟨q, k, hk, Nat.le_refl _, by omega⟩
          exact .inr ⟨x, hx, z, hz, fun e => by rw [← e] at hzl; omega, h1.1, h1.2, h2.1, h2.2⟩
        · cases hk
  · rcases List.mem_append.1 hc with hc | hc
    · exact .inl (h.quiet s hsm c hc)
    · simp at hc
      subst hc
      exact .inr hunit

/-! ### Why it ends -/
/-- the places that are no decisions, the first the greatest -/
def potW (V : Nat) (starts : List Nat) : Nat → Nat
  | 0 => 0
  | n + 1 => potW V starts n + if n ∈ starts then 0 else 2 ^ (V - 1 - n)
theorem potW_lt {V : Nat} {starts : List Nat} : ∀ (n : Nat), n ≤ V → potW V starts n + 2 ^ (V - n) ≤ 2 ^ V := by
  intro n
  induction n with
  | zero => intro _; simp [potW]
  | succ n ih =>
    intro h
    have h1 := ih (by omega)
    have h2 : 2 ^ (V - n) = 2 * 2 ^ (V - (n + 1)) := by rw [← Nat.pow_succ']; congr 1; omega
    have h3 : V - 1 - n = V - (n + 1) := by omega
    rw [potW, h3]
    split <;> omega
theorem potW_tail {V : Nat} {starts : List Nat} (p : Nat) : ∀ (n : Nat), p ≤ n → n ≤ V → potW V starts n + 2 ^ (V - n) ≤ potW V starts p + 2 ^ (V - p) := by
  intro n
  induction n with
  | zero => intro h _; obtain rfl : p = 0 := (by omega); exact Nat.le_refl _
  | succ n ih =>
    intro h hV
    rcases Nat.eq_or_lt_of_le h with he | hlt
    · subst he
      exact Nat.le_refl _
    · have h1 := ih (by omega) (by omega)
      have h2 : 2 ^ (V - n) = 2 * 2 ^ (V - (n + 1)) := by rw [← Nat.pow_succ']; congr 1; omega
      have h3 : V - 1 - n = V - (n + 1) := by omega
      rw [potW, h3]
      split <;> omega
theorem potW_mono {V : Nat} {starts : List Nat} {m n : Nat} (h : m ≤ n) : potW V starts m ≤ potW V starts n := by
  induction n with
  | zero => obtain rfl : m = 0 := (by omega); exact Nat.le_refl _
  | succ n ih =>
    rcases Nat.eq_or_lt_of_le h with he | hlt
    · subst he
      exact Nat.le_refl _
    · have := ih (by omega)
      rw [potW]
      omega
theorem potW_congr {V : Nat} {starts starts' : List Nat} : ∀ (n : Nat), (∀ j, j < n → (j ∈ starts ↔ j ∈ starts')) → potW V starts n = potW V starts' n := by
  intro n
  induction n with
  | zero => intro _; rfl
  | succ n ih =>
    intro h
    rw [potW, potW, ih (fun j hj => h j (by omega))]
    congr 1
    by_cases hn : n ∈ starts
    · rw [if_pos hn, if_pos ((h n (by omega)).1 hn)]
    · rw [if_neg hn, if_neg (fun hm => hn ((h n (by omega)).2 hm))]
/-- after a conflict the assignment is greater -/
theorem pot_conflict {V : Nat} {starts : List Nat} (hr : starts.Pairwise (· < ·)) {b s : Nat} (hs : starts[b]? = some s) {n m : Nat} (hsn : s < n) (hn : n ≤ V) (hm : s < m) : potW V starts n < potW V (starts.take b) m := by
  have h1 := potW_tail (V := V) (starts := starts) (s + 1) n (by omega) hn
  have hsm : s ∈ starts := List.mem_of_getElem? hs
  have h2 : potW V starts (s + 1) = potW V starts s := by rw [potW, if_pos hsm]; rfl
  have hno : s ∉ starts.take b := fun hm => by
    obtain ⟨i, hi⟩ := List.getElem?_of_mem hm
    rw [List.getElem?_take] at hi
    split at hi
    · obtain ⟨hil, ei⟩ := List.getElem?_eq_some_iff.1 hi
      obtain ⟨hbl, eb⟩ := List.getElem?_eq_some_iff.1 hs
      have := List.pairwise_iff_getElem.1 hr i b hil hbl (by assumption)
      omega
    · cases hi
  have h3 : potW V (starts.take b) (s + 1) = potW V (starts.take b) s + 2 ^ (V - 1 - s) := by rw [potW, if_neg hno]
  have h4 : potW V (starts.take b) s = potW V starts s := potW_congr s (fun j hj => ⟨fun h => List.mem_of_mem_take h, fun h => by
    obtain ⟨i, hi⟩ := List.getElem?_of_mem h
    rcases Nat.lt_or_ge i b with hlt | hge
    · exact List.mem_of_getElem? (i := i) (by rw [List.getElem?_take, if_pos hlt]; exact hi)
    · obtain ⟨hil, ei⟩ := List.getElem?_eq_some_iff.1 hi
      obtain ⟨hbl, eb⟩ := List.getElem?_eq_some_iff.1 hs
      rcases Nat.eq_or_lt_of_le hge with he | hgt
      · subst he
        omega
      · have := List.pairwise_iff_getElem.1 hr b i hbl hil hgt
        omega⟩)
  have h5 := potW_mono (V := V) (starts := starts.take b) (show s + 1 ≤ m by omega)
  have h6 : 2 ^ (V - 1 - s) = 2 ^ (V - (s + 1)) := by congr 1; omega
  have h7 := Nat.two_pow_pos (V - n)
  omega
theorem pot_decide {V : Nat} {starts : List Nat} {n m : Nat} (h : n ≤ m) : potW V starts n ≤ potW V (starts ++ [n]) m := by
  have h1 : potW V (starts ++ [n]) n = potW V starts n := potW_congr n (fun j hj => by simp; omega)
  have h2 := potW_mono (V := V) (starts := starts ++ [n]) h
  omega

/-- each follows from the clauses ahead of it -/
def Rups (cs : List (List Int)) : List (List Int) → Prop
  | [] => True
  | C :: L => (∀ T, Good cs T → ¬ ∀ y ∈ C, T (-y)) ∧ Rups (cs ++ [C]) L
theorem Rups.snoc : ∀ {L : List (List Int)} {cs : List (List Int)} {C : List Int}, Rups cs L → (∀ T, Good (cs ++ L) T → ¬ ∀ y ∈ C, T (-y)) → Rups cs (L ++ [C]) := by
  intro L
  induction L with
  | nil => intro cs C _ h; exact ⟨by simpa using h, trivial⟩
  | cons D L ih => intro cs C h h2; exact ⟨h.1, ih h.2 (by simpa using h2)⟩
/-- every assignment that makes the clauses true makes what follows true -/
theorem Rups.sound {m : List Bool} : ∀ {L : List (List Int)} {cs : List (List Int)} (V : Nat), (∀ c ∈ cs, Clean V c) → (∀ c ∈ L, Clean V c) → m.length = V → trueAll cs m = true → Rups cs L → trueAll (cs ++ L) m = true := by
  intro L
  induction L with
  | nil => intro cs V _ _ _ h _; simpa using h
  | cons D L ih =>
    intro cs V hc hL hm h hr
    have hD : D.any (trueLit m) = true := by
      rcases hd : D.any (trueLit m) with _ | _
      · exfalso
        have hflip : ∀ x : Int, x ≠ 0 → trueLit m (-x) = !trueLit m x := fun x hx => by
          unfold trueLit
          rw [litVar_neg]
          have : decide (0 < -x) = !decide (0 < x) := by
            by_cases h0 : 0 < x
            · rw [decide_eq_true h0, decide_eq_false (by omega)]; rfl
            · rw [decide_eq_false h0, decide_eq_true (by omega)]; rfl
          rw [this]
          cases m.getD ((litVar x).toNat - 1) false <;> cases decide (0 < x) <;> rfl
        have htrue : ∀ c ∈ cs, ∃ y ∈ c, trueLit m y = true := fun c hcc => by
          have := List.all_eq_true.1 h c hcc
          simpa using this
        refine hr.1 (fun x => x ≠ 0 ∧ trueLit m x = true) ⟨fun c hcc x hx hall => ?_, fun c hcc => ?_⟩ (fun y hy => ?_)
        · have hx0 := ((hc c hcc).1 x hx).1
          refine ⟨hx0, ?_⟩
          obtain ⟨y, hy, hty⟩ := htrue c hcc
          by_cases he : y = x
          · rw [← he]; exact hty
          · have := (hall y hy he).2
            rw [hflip y ((hc c hcc).1 y hy).1, hty] at this
            cases this
        · obtain ⟨y, hy, hty⟩ := htrue c hcc
          refine ⟨y, hy, fun hn => ?_⟩
          have := hn.2
          rw [hflip y ((hc c hcc).1 y hy).1, hty] at this
          cases this
        · have hy0 := ((hL D (List.mem_cons_self ..)).1 y hy).1
          refine ⟨by omega, ?_⟩
          rw [hflip y hy0]
          have := List.any_eq_false.1 hd y hy
          simpa using this
      · rfl
    have h1 : trueAll (cs ++ [D]) m = true := by rw [trueAll_append, h]; simp [trueAll, hD]
    have := ih V (fun c hcc => by
      rcases List.mem_append.1 hcc with hcc | hcc
      · exact hc c hcc
      · simp at hcc
        rw [hcc]
        exact hL D (List.mem_cons_self ..)) (fun c hcc => hL c (List.mem_cons_of_mem _ hcc)) hm h1 hr.2
    simpa using this
end
end Go.Proofs.YtemiecammmbjdaaGreat
namespace Go.Proofs.YtemiecammmbjdaaGreat
def Lf (l : List Int) : Nat → Int := fun v => l.getD v 0
theorem Lf_set {l : List Int} {q : Nat} (h : q < l.length) (y : Int) (v : Nat) : Lf (l.set q y) v = if v = q then y else Lf l v := by
  unfold Lf
  rw [List.getD_eq_getElem?_getD, List.getD_eq_getElem?_getD, List.getElem?_set]
  by_cases e : q = v
  · rw [if_pos e, if_pos e.symm, if_pos (by omega)]
    rfl
  · rw [if_neg e, if_neg (fun h => e h.symm)]
def ofV (vals : List Int) (x : Int) : Int := if x < 0 then -valOf vals x else valOf vals x
structure St (V : Nat) (cs : List (List Int)) (starts : List Nat) (t vals lev rea : List Int) : Prop where
  inv : Inv V cs starts t (Lf lev) (Lf rea)
  tri : Tri vals
  lit : ∀ x, x ≠ 0 → (Lit vals x ↔ x ∈ t)
  vlen : vals.length = V + 1
  llen : lev.length = V + 1
  rlen : rea.length = V + 1
theorem scan_of0 {vals : List Int} {x f : Int} {n : Nat} {b : Bool} {xs : List Int} (h : ofV vals x = 0) : scan vals (x :: xs) (f, n, b) = scan vals xs (x, n + 1, b) := by
  have : valOf vals x = 0 := by unfold ofV at h; split at h <;> omega
  rw [scan, if_pos this]
theorem scan_of1 {vals : List Int} {x f : Int} {n : Nat} {b : Bool} {xs : List Int} (hx : x ≠ 0) (h : ofV vals x = 1) : scan vals (x :: xs) (f, n, b) = scan vals xs (f, n, true) := by
  rw [scan]
  by_cases hn : x < 0
  · unfold ofV at h
    rw [if_pos hn] at h
    rw [if_neg (by omega), if_pos (by rw [decide_eq_false (by omega), decide_eq_false (by omega)])]
  · unfold ofV at h
    rw [if_neg hn] at h
    rw [if_neg (by omega), if_pos (by rw [decide_eq_true (by omega), decide_eq_true (by omega)])]
theorem scan_of2 {vals : List Int} {x f : Int} {n : Nat} {b : Bool} {xs : List Int} (hx : x ≠ 0) (h : ofV vals x = -1) : scan vals (x :: xs) (f, n, b) = scan vals xs (f, n, b) := by
  rw [scan]
  by_cases hn : x < 0
  · unfold ofV at h
    rw [if_pos hn] at h
    rw [if_neg (by omega), if_neg (by rw [decide_eq_true (by omega), decide_eq_false (by omega)]; simp)]
  · unfold ofV at h
    rw [if_neg hn] at h
    rw [if_neg (by omega), if_neg (by rw [decide_eq_false (by omega), decide_eq_true (by omega)]; simp)]
theorem ofV_tri {vals : List Int} (h : Tri vals) (x : Int) : ofV vals x = 0 ∨ ofV vals x = 1 ∨ ofV vals x = -1 := by
  have := h.val x
  unfold ofV
  split <;> omega
section
variable {V : Nat} {cs : List (List Int)} {starts : List Nat} {t vals lev rea : List Int}
theorem St.free (h : St V cs starts t vals lev rea) {x : Int} (hx : x ≠ 0) : valOf vals x = 0 ↔ x ∉ t ∧ -x ∉ t := by
  have h1 := h.lit x hx
  have h2 := h.lit (-x) (by omega)
  constructor
  · intro h0
    refine ⟨fun hm => ?_, fun hm => ?_⟩
    · have := (h1.2 hm).2
      rcases sgn_cases x with e | e <;> omega
    · have := (h2.2 hm).2
      rw [valOf_neg] at this
      rcases sgn_cases (-x) with e | e <;> omega
  · rintro ⟨n1, n2⟩
    rcases h.tri.lit hx with h0 | h0 | h0
    · exact h0
    · exact absurd (h1.1 h0) n1
    · exact absurd (h2.1 h0) n2
theorem St.scan (h : St V cs starts t vals lev rea) {c : List Int} (hc : c ∈ cs) {f : Int} {n : Nat} {b : Bool} (hs : scan vals c (0, 0, false) = (f, n, b)) :
    (b = true ∨ 1 < n → Calm c t) ∧ (¬ (b = true ∨ 1 < n) → n = 0 → ∀ y ∈ c, -y ∈ t) ∧ (¬ (b = true ∨ 1 < n) → n ≠ 0 → f ∈ c ∧ f ∉ t ∧ -f ∉ t ∧ ∀ y ∈ c, y ≠ f → -y ∈ t) := by
  have hcl := h.inv.clean c hc
  have hc0 : ∀ x ∈ c, x ≠ 0 := fun x hx => (hcl.1 x hx).1
  obtain ⟨s1, s2⟩ := scan_spec h.tri hc0 hs
  obtain ⟨_, s3⟩ := scan_one hs
  rw [Nat.zero_add] at s2
  have hfalse : b ≠ true → ∀ y ∈ c, valOf vals y ≠ 0 → -y ∈ t := fun hb y hy h0 => by
    rcases h.tri.lit (hc0 y hy) with h1 | h1 | h1
    · exact absurd h1 h0
    · exact absurd (s1.2 (.inr ⟨y, hy, h1⟩)) hb
    · exact (h.lit (-y) (by have := hc0 y hy; omega)).1 h1
  refine ⟨fun hb => ?_, fun hb hn y hy => ?_, fun hb hn => ?_⟩
  · rcases hb with hb | hb
    · rcases s1.1 hb with h0 | ⟨x, hx, hl⟩
      · cases h0
      · exact .inl ⟨x, hx, (h.lit x (hc0 x hx)).1 hl⟩
    · have h2 : 1 < c.countP (fun x => valOf vals x == 0) := by omega
      obtain ⟨y, hy, hpy, _⟩ := count_two hcl.2 h2 0
      obtain ⟨z, hz, hpz, hne⟩ := count_two hcl.2 h2 y
      have e1 := (h.free (hc0 y hy)).1 (by simpa using hpy)
      have e2 := (h.free (hc0 z hz)).1 (by simpa using hpz)
      exact .inr ⟨y, hy, z, hz, Ne.symm hne, e1.1, e1.2, e2.1, e2.2⟩
  · simp only [not_or] at hb
    refine hfalse hb.1 y hy (fun h0 => ?_)
    have : 0 < c.countP (fun x => valOf vals x == 0) := List.countP_pos_iff.2 ⟨y, hy, by simpa using h0⟩
    omega
  · simp only [not_or] at hb
    rcases s3 with ⟨_, e⟩ | ⟨_, hf, hf0⟩
    · exact absurd e hn
    · have e1 := (h.free (hc0 f hf)).1 hf0
      refine ⟨hf, e1.1, e1.2, fun y hy hne => hfalse hb.1 y hy (fun h0 => hne ?_)⟩
      exact count_one (p := fun x => valOf vals x == 0) (by omega) hf (by simpa using hf0) hy (by simpa using h0)
theorem lit_snoc {vals : List Int} {x : Int} {t : List Int} (hl : ∀ x, x ≠ 0 → (Lit vals x ↔ x ∈ t)) (hx0 : x ≠ 0) (hxl : (litVar x).toNat < vals.length) (h1 : x ∉ t) (h2 : -x ∉ t) : ∀ y, y ≠ 0 → (Lit (setLit vals x) y ↔ y ∈ t ++ [x]) := by
  intro y hy
  rw [lit_set hxl hx0, List.mem_append, List.mem_singleton]
  constructor
  · rintro (rfl | ⟨_, h⟩)
    · exact .inr rfl
    · exact .inl ((hl y hy).1 h)
  · rintro (h | rfl)
    · refine .inr ⟨fun e => ?_, (hl y hy).2 h⟩
      rcases same_var e with rfl | e
      · exact h1 h
      · exact h2 (e ▸ h)
    · exact .inl rfl
theorem St.assign (h : St V cs starts t vals lev rea) {i : Nat} {c : List Int} {x : Int} (hc : cs[i]? = some c) (hx : x ∈ c) (h1 : x ∉ t) (h2 : -x ∉ t) (hall : ∀ y ∈ c, y ≠ x → -y ∈ t) :
    St V cs starts (t ++ [x]) (setLit vals x) (lev.set (litVar x).toNat starts.length) (rea.set (litVar x).toNat i) := by
  have hfx := (h.inv.clean c (List.mem_of_getElem? hc)).1 x hx
  have hv := hfx.var
  have hq : (litVar x).toNat < V + 1 := by omega
  refine ⟨h.inv.assign hc hx h1 h2 hall (fun v => Lf_set (by rw [h.llen]; exact hq) _ v) (fun v => Lf_set (by rw [h.rlen]; exact hq) _ v), h.tri.set x, lit_snoc h.lit hfx.1 (by rw [h.vlen]; exact hq) h1 h2, by rw [setLit_len, h.vlen], by rw [List.length_set, h.llen], by rw [List.length_set, h.rlen]⟩
theorem St.decide (h : St V cs starts t vals lev rea) {x : Int} (hfx : Fits V x) (h1 : x ∉ t) (h2 : -x ∉ t) (hcalm : ∀ c ∈ cs, Calm c t) (r : Int) :
    St V cs (starts ++ [t.length]) (t ++ [x]) (setLit vals x) (lev.set (litVar x).toNat (starts.length + 1 : Nat)) (rea.set (litVar x).toNat r) := by
  have hv := hfx.var
  have hq : (litVar x).toNat < V + 1 := by omega
  refine ⟨h.inv.decide hfx h1 h2 hcalm (fun v => Lf_set (by rw [h.llen]; exact hq) _ v) (fun v hne => by rw [Lf_set (by rw [h.rlen]; exact hq), if_neg hne]), h.tri.set x, lit_snoc h.lit hfx.1 (by rw [h.vlen]; exact hq) h1 h2, by rw [setLit_len, h.vlen], by rw [List.length_set, h.llen], by rw [List.length_set, h.rlen]⟩
/-- no clause is false and none asks for more: not where one did -/
theorem fresh_calm {t : List Int} {V : Nat} (ht : Trail V t) (hf : Fresh cs t) (hc : ∀ c ∈ cs, Calm c t) : False := by
  obtain ⟨_, c, hcc, x, hx, h1, h2, h3⟩ := hf
  rcases hc c hcc with ⟨y, hy, hyt⟩ | ⟨y, hy, z, hz, hyz, n1, n2, n3, n4⟩
  · by_cases e : y = x
    · exact h1 (e ▸ hyt)
    · exact ht.clash hyt (h3 y hy e)
  · by_cases e : y = x
    · exact n4 (h3 z hz (fun e2 => hyz (e.trans e2.symm)))
    · exact n2 (h3 y hy e)
theorem fresh_false {t : List Int} {V : Nat} (ht : Trail V t) (hf : Fresh cs t) {c : List Int} (hc : c ∈ cs) (hneg : ∀ y ∈ c, -y ∈ t) : False := by
  rcases hf.1 c hc with (⟨y, hy, hyt⟩ | ⟨y, hy, z, hz, hyz, n1, n2, n3, n4⟩) | ⟨x, hx, h1, h2, h3⟩
  · exact ht.clash hyt (hneg y hy)
  · exact n2 (hneg y hy)
  · exact h2 (hneg x hx)
end
end Go.Proofs.YtemiecammmbjdaaGreat
namespace Go.Proofs.YtemiecammmbjdaaGreat
set_option linter.unusedVariables false
/-- the trail goes on from a beginning of an assignment -/
def ExtT (π : List Bool) (t : List Int) : Prop := ∀ (i : Nat) (b : Bool), π[i]? = some b → (if b = true then (i : Int) + 1 else -((i : Int) + 1)) ∈ t
/-- a beginning with the length of a trail that bears it: no clause is false there, none asks -/
def Bears (V : Nat) (cs : List (List Int)) (r : List Bool × Nat) : Prop :=
  r.1.length ≤ r.2 ∧ r.2 < V ∧ ∃ t, Trail V t ∧ t.length = r.2 ∧ (∀ c ∈ cs, Calm c t) ∧ ExtT r.1 t
/-- there are few beginnings -/
def Few (V : Nat) (cs : List (List Int)) (D : Nat) : Prop := ∀ H : List (List Bool × Nat), H.Nodup → (∀ r ∈ H, Bears V cs r) → H.length ≤ D
/-- what the search has been through -/
structure Hist (V : Nat) (cs0 cs : List (List Int)) (starts : List Nat) (t : List Int) (H : List (List Bool × Nat)) : Prop where
  nod : H.Nodup
  fit : ∀ r ∈ H, Bears V cs0 r
  more : ∀ r ∈ H, ∀ t', Trail V t' → (∀ c ∈ cs, Calm c t') → ExtT r.1 t' → r.2 < t'.length
  ord : ∀ s ∈ starts, ∃ v : Nat, t[s]? = some (-((v : Int) + 1)) ∧ ∀ u : Nat, u < v → ((u : Int) + 1) ∈ t.take s ∨ -((u : Int) + 1) ∈ t.take s
theorem Hist.start (V : Nat) (cs0 cs : List (List Int)) : Hist V cs0 cs [] [] [] :=
  ⟨List.nodup_nil, (fun r h => by cases h), (fun r h => by cases h), fun s h => by cases h⟩
section
variable {V : Nat} {cs0 cs : List (List Int)} {starts : List Nat} {t t1 : List Int} {lev rea : Nat → Int} {H : List (List Bool × Nat)}
theorem take_pre {s : Nat} (hp : t <+: t1) (hs : s ≤ t.length) : t1.take s = t.take s := by
  obtain ⟨r, rfl⟩ := hp
  rw [List.take_append_of_le_length hs]
theorem get_pre {s : Nat} (hp : t <+: t1) (hs : s < t.length) : t1[s]? = t[s]? := by
  obtain ⟨r, rfl⟩ := hp
  rw [List.getElem?_append_left hs]
theorem Hist.go (h : Hist V cs0 cs starts t H) (hin : ∀ s ∈ starts, s < t.length) (hp : t <+: t1) : Hist V cs0 cs starts t1 H :=
  ⟨h.nod, h.fit, h.more, fun s hs => by
    have hl := hin s hs
    rw [take_pre hp (by omega), get_pre hp hl]
    exact h.ord s hs⟩
theorem Hist.deci (h : Hist V cs0 cs starts t H) (hin : ∀ s ∈ starts, s < t.length) (v : Nat) (hv : ∀ u : Nat, u < v → ((u : Int) + 1) ∈ t ∨ -((u : Int) + 1) ∈ t) : Hist V cs0 cs (starts ++ [t.length]) (t ++ [-((v : Int) + 1)]) H := by
  have h2 := h.go hin (t1 := t ++ [-((v : Int) + 1)]) (List.prefix_append _ _)
  refine ⟨h.nod, h.fit, h.more, fun s hs => ?_⟩
  rcases List.mem_append.1 hs with hs | hs
  · exact h2.ord s hs
  · obtain rfl := List.mem_singleton.1 hs
    refine ⟨v, by simp, fun u hu => ?_⟩
    rw [List.take_left]
    exact hv u hu
theorem last_ge (hr : starts.Pairwise (· < ·)) {n s : Nat} (hn : starts[n]? = some s) (hl : n + 1 = starts.length) : ∀ q ∈ starts, q ≤ s := fun q hq => by
  obtain ⟨i, hi⟩ := List.getElem?_of_mem hq
  obtain ⟨hnl, en⟩ := List.getElem?_eq_some_iff.1 hn
  obtain ⟨hil, ei⟩ := List.getElem?_eq_some_iff.1 hi
  rcases Nat.lt_or_ge i n with h | h
  · have := List.pairwise_iff_getElem.1 hr i n hil hnl h
    omega
  · obtain rfl : i = n := by omega
    omega
theorem nSt_few {j s : Nat} (hs : s ∈ starts) (h : j < s) : nSt starts j < starts.length := by
  rcases Nat.lt_or_ge (nSt starts j) starts.length with h1 | h1
  · exact h1
  · have h2 : starts.countP (fun q => decide (q ≤ j)) = starts.length := Nat.le_antisymm (nSt_le starts j) h1
    have := List.countP_eq_length.1 h2 s hs
    have := of_decide_eq_true this
    omega
/-- a clause of which all but one literal are false gives that one -/
theorem calm_gives {c t' : List Int} {x : Int} (ht : Trail V t') (hc : Calm c t') (h : ∀ y ∈ c, y ≠ x → -y ∈ t') : x ∈ t' := by
  rcases hc with ⟨y, hy, hyt⟩ | ⟨y, hy, z, hz, hyz, n1, n2, n3, n4⟩
  · by_cases e : y = x
    · exact e ▸ hyt
    · exact (ht.clash hyt (h y hy e)).elim
  · by_cases e : y = x
    · exact absurd (h z hz (fun e2 => hyz (e.trans e2.symm))) n4
    · exact absurd (h y hy e) n2
/-- a conflict leaves a beginning behind that was not there before -/
theorem Hist.learn (hi : Inv V cs starts t lev rea) (h : Hist V cs0 cs starts t H) (hsub : ∀ c ∈ cs0, c ∈ cs) {C : List Int} (hC : Learnt V cs starts t lev C) (hfit : ∀ y ∈ C, Fits V y) {b s : Nat} (hb : starts[b]? = some s) :
    ∃ r, Hist V cs0 (cs ++ [C]) (starts.take b) (t.take s) (H ++ [r]) := by
  obtain ⟨hbl, _⟩ := List.getElem?_eq_some_iff.1 hb
  obtain ⟨n, hn⟩ : ∃ n, n + 1 = starts.length := ⟨starts.length - 1, by omega⟩
  have hnl : n < starts.length := by omega
  have hn1 : starts[n]? = some starts[n] := List.getElem?_eq_getElem hnl
  generalize starts[n] = s1 at hn1
  have hs1 : s1 ∈ starts := List.mem_of_getElem? hn1
  have htop := last_ge hi.rise hn1 hn
  have hin1 := hi.inside s1 hs1
  obtain ⟨v, hv, hbel⟩ := h.ord s1 hs1
  have htk := hi.tr.take s1
  have htl := hi.tr.len
  -- the literals of the beginning
  have hvar : ∀ (j u : Nat) (x : Int), t[j]? = some x → j < s1 → x = (u : Int) + 1 ∨ x = -((u : Int) + 1) → u ≠ v := fun j u x hj hjs hx e => by
    subst e
    have : j = s1 := hi.tr.place hj hv (by unfold litVar; omega)
    omega
  let π : List Bool := (List.range v).map fun u : Nat => decide (((u : Int) + 1) ∈ t.take s1)
  have hπ : ∀ (i : Nat) (bb : Bool), π[i]? = some bb → i < v ∧ bb = decide (((i : Int) + 1) ∈ t.take s1) := fun i bb hib => by
    simp only [π, List.getElem?_map] at hib
    cases hr : (List.range v)[i]? with
    | none => rw [hr] at hib; cases hib
    | some j =>
      rw [hr] at hib
      obtain ⟨hil, ej⟩ := List.getElem?_eq_some_iff.1 hr
      rw [List.getElem_range] at ej
      rw [List.length_range] at hil
      subst ej
      exact ⟨hil, (Option.some.inj hib).symm⟩
  have hext : ExtT π (t.take s1) := fun i bb hib => by
    obtain ⟨hiv, rfl⟩ := hπ i bb hib
    by_cases hm : ((i : Int) + 1) ∈ t.take s1
    · rw [if_pos (decide_eq_true hm)]; exact hm
    · rw [if_neg (by simpa using hm)]
      exact (hbel i hiv).resolve_left hm
  have hvs : v ≤ s1 := by
    have hnd : ((List.range v).map fun u : Nat => if decide (((u : Int) + 1) ∈ t.take s1) = true then (u : Int) + 1 else -((u : Int) + 1)).Nodup := by
      rw [List.Nodup, List.pairwise_map]
      refine List.pairwise_lt_range.imp (fun {a b} hab => ?_)
      split <;> split <;> omega
    have := List.Nodup.length_le_of_subset (l₂ := t.take s1) hnd (fun x hx => by
      obtain ⟨u, hu, rfl⟩ := List.mem_map.1 hx
      have hu := List.mem_range.1 hu
      by_cases hm : ((u : Int) + 1) ∈ t.take s1
      · rw [if_pos (decide_eq_true hm)]; exact hm
      · rw [if_neg (by simpa using hm)]
        exact (hbel u hu).resolve_left hm)
    rw [List.length_map, List.length_range, List.length_take] at this
    omega
  have hlen1 : (t.take s1).length = s1 := by rw [List.length_take]; omega
  have hbears : Bears V cs0 (π, s1) := ⟨by simp only [π, List.length_map, List.length_range]; exact hvs, by simp only; omega, t.take s1, htk, hlen1, (fun c hc => hi.quiet s1 hs1 c (hsub c hc)), hext⟩
  have hnew : (π, s1) ∉ H := fun hm => by
    have := h.more _ hm _ htk (hi.quiet s1 hs1) hext
    simp only [hlen1] at this
    omega
  -- what goes on from the beginning holds the whole trail
  have hall : ∀ t', Trail V t' → (∀ c ∈ cs, Calm c t') → ExtT π t' → ∀ (m j : Nat) (x : Int), j ≤ m → j < s1 → t[j]? = some x → x ∈ t' := by
    intro t' ht' hc' he' m
    induction m with
    | zero =>
      intro j x hj0 hjs hj
      obtain rfl : j = 0 := by omega
      by_cases hjst : 0 ∈ starts
      · obtain ⟨v', hv', hbel'⟩ := h.ord 0 hjst
        have e : x = -((v' : Int) + 1) := Option.some.inj (hj.symm.trans hv')
        subst e
        have hne := hvar 0 v' _ hj hjs (.inr rfl)
        have hlt : v' < v := by
          rcases Nat.lt_or_ge v' v with h1 | h1
          · exact h1
          · rcases hbel' v (by omega) with h2 | h2 <;> simp at h2
        have hg : π[v']? = some false := by
          simp only [π, List.getElem?_map, List.getElem?_range hlt, Option.map_some, Option.some.injEq, decide_eq_false_iff_not]
          exact fun hm => hi.tr.clash (List.mem_of_mem_take hm) (List.mem_of_getElem? hj)
        have := he' v' false hg
        simpa using this
      · obtain ⟨i, c, _, hc, hx, hy⟩ := hi.reason 0 x hj hjst
        exact calm_gives ht' (hc' c (List.mem_of_getElem? hc)) (fun y hyc hne => by have := hy y hyc hne; simp at this)
    | succ m ih =>
      intro j x hjm hjs hj
      have hlow : ∀ y, y ∈ t.take j → y ∈ t' := fun y hy => by
        obtain ⟨i, hi1, hi2⟩ := take_mem hy
        exact ih i y (by omega) (by omega) hi2
      by_cases hjst : j ∈ starts
      · obtain ⟨v', hv', hbel'⟩ := h.ord j hjst
        have e : x = -((v' : Int) + 1) := Option.some.inj (hj.symm.trans hv')
        subst e
        have hne := hvar j v' _ hj hjs (.inr rfl)
        have hlt : v' < v := by
          rcases Nat.lt_or_ge v' v with h1 | h1
          · exact h1
          · exfalso
            rcases hbel' v (by omega) with h2 | h2
            · obtain ⟨i, hi1, hi2⟩ := take_mem h2
              exact hvar i v _ hi2 (by omega) (.inl rfl) rfl
            · obtain ⟨i, hi1, hi2⟩ := take_mem h2
              exact hvar i v _ hi2 (by omega) (.inr rfl) rfl
        have hg : π[v']? = some false := by
          simp only [π, List.getElem?_map, List.getElem?_range hlt, Option.map_some, Option.some.injEq, decide_eq_false_iff_not]
          exact fun hm => hi.tr.clash (List.mem_of_mem_take hm) (List.mem_of_getElem? hj)
        have := he' v' false hg
        simpa using this
      · obtain ⟨i, c, _, hc, hx, hy⟩ := hi.reason j x hj hjst
        exact calm_gives ht' (hc' c (List.mem_of_getElem? hc)) (fun y hyc hne => hlow _ (hy y hyc hne))
  refine ⟨(π, s1), ?_, ?_, ?_, ?_⟩
  · rw [List.nodup_append]
    exact ⟨h.nod, by simp, fun a ha b hb e => by rw [List.mem_singleton] at hb; subst hb; subst e; exact hnew ha⟩
  · intro r hr
    rcases List.mem_append.1 hr with hr | hr
    · exact h.fit r hr
    · obtain rfl := List.mem_singleton.1 hr
      exact hbears
  · intro r hr t' ht' hc' he'
    have hcs : ∀ c ∈ cs, Calm c t' := fun c hc => hc' c (List.mem_append_left _ hc)
    rcases List.mem_append.1 hr with hr | hr
    · exact h.more r hr t' ht' hcs he'
    · obtain rfl := List.mem_singleton.1 hr
      have hin : ∀ x ∈ t.take s1, x ∈ t' := fun x hx => by
        obtain ⟨j, hj1, hj2⟩ := take_mem hx
        exact hall t' ht' hcs he' j j x (Nat.le_refl _) hj1 hj2
      obtain ⟨y0, hy0, hlast, honly⟩ := hC.last
      have hyt : y0 ∈ t' := calm_gives ht' (hc' C (List.mem_append_right _ (List.mem_singleton.2 rfl))) (fun z hz hne => by
        obtain ⟨j, hj, hlv⟩ := hi.level_neg (hC.neg z hz)
        refine hin _ (mem_take hj ?_)
        rcases Nat.lt_or_ge j s1 with h1 | h1
        · exact h1
        · exfalso
          refine hne (honly z hz ?_)
          rw [hlv, nSt_all (fun q hq => Nat.le_trans (htop q hq) h1)])
      obtain ⟨j0, hj0, hlv0⟩ := hi.level_neg (hC.neg y0 hy0)
      have hj0s : s1 ≤ j0 := by
        rcases Nat.lt_or_ge j0 s1 with h1 | h1
        · have := nSt_few hs1 h1
          omega
        · exact h1
      have hno : y0 ∉ t.take s1 := fun hm => by
        obtain ⟨i, hi1, hi2⟩ := take_mem hm
        have : i = j0 := hi.tr.place hi2 hj0 (by rw [litVar_neg])
        omega
      have hnd : (t.take s1 ++ [y0]).Nodup := by
        rw [List.nodup_append]
        refine ⟨htk.apart.imp (fun {a b} hab e => hab (by rw [e])), by simp, fun a ha b hb e => ?_⟩
        rw [List.mem_singleton] at hb
        subst hb; subst e
        exact hno ha
      have := List.Nodup.length_le_of_subset (l₂ := t') hnd (fun x hx => by
        rcases List.mem_append.1 hx with hx | hx
        · exact hin x hx
        · rw [List.mem_singleton] at hx
          subst hx
          exact hyt)
      rw [List.length_append, hlen1] at this
      have h9 : s1 + 1 ≤ t'.length := this
      show s1 < t'.length
      omega
  · intro s' hs'
    have hm : s' ∈ starts := List.mem_of_mem_take hs'
    have hlt : s' < s := by
      obtain ⟨i, hi1⟩ := List.getElem?_of_mem hs'
      rw [List.getElem?_take] at hi1
      split at hi1
      · obtain ⟨hil, ei⟩ := List.getElem?_eq_some_iff.1 hi1
        obtain ⟨hbl, eb⟩ := List.getElem?_eq_some_iff.1 hb
        have := List.pairwise_iff_getElem.1 hi.rise i b hil hbl (by assumption)
        omega
      · cases hi1
    obtain ⟨v', h1, h2⟩ := h.ord s' hm
    refine ⟨v', by rw [List.getElem?_take, if_pos hlt]; exact h1, ?_⟩
    rw [List.take_take, Nat.min_eq_left (by omega)]
    exact h2
end
end Go.Proofs.YtemiecammmbjdaaGreat
namespace Go.Proofs.YtemiecammmbjdaaGreat
/-- the assignment that the solver holds -/
def modelF (vals : List Int) (V : Nat) : List Bool := (List.range V).map fun v => decide (0 < Lf vals (v + 1))
theorem modelF_len (vals : List Int) (V : Nat) : (modelF vals V).length = V := by simp [modelF]
theorem modelF_get {vals : List Int} {V q : Nat} (h1 : 1 ≤ q) (h2 : q ≤ V) : (modelF vals V).getD (q - 1) false = decide (0 < Lf vals q) := by
  rw [List.getD_eq_getElem?_getD, modelF, List.getElem?_map, List.getElem?_range (by omega)]
  simp
  rw [show q - 1 + 1 = q by omega]
theorem model_lit {V : Nat} {vals : List Int} {x : Int} (hf : Fits V x) (hl : Lit vals x) : trueLit (modelF vals V) x = true := by
  have hv := hf.var
  unfold trueLit
  rw [modelF_get (by omega) (by omega)]
  have h2 := hl.2
  have e : Lf vals (litVar x).toNat = sgn x := h2
  rw [e]
  unfold sgn
  have := hf.1
  split
  · rw [decide_eq_false (by omega), decide_eq_false (by omega)]; rfl
  · rw [decide_eq_true (by omega), decide_eq_true (by omega)]; rfl
theorem model_true {V : Nat} {cs : List (List Int)} {starts : List Nat} {t vals lev rea : List Int} (h : St V cs starts t vals lev rea) (hall : ∀ v, 1 ≤ v → v ≤ V → Lf vals v ≠ 0) (hcalm : ∀ c ∈ cs, Calm c t) : trueAll cs (modelF vals V) = true := by
  unfold trueAll
  rw [List.all_eq_true]
  intro c hc
  rw [List.any_eq_true]
  have hcl := h.inv.clean c hc
  rcases hcalm c hc with ⟨y, hy, hyt⟩ | ⟨y, hy, _, _, _, n1, n2, _⟩
  · have hf := hcl.1 y hy
    exact ⟨y, hy, model_lit hf ((h.lit y hf.1).2 hyt)⟩
  · have hf := hcl.1 y hy
    have hv := hf.var
    have h0 : valOf vals y ≠ 0 := hall _ (by omega) (by omega)
    exact absurd ((h.free hf.1).2 ⟨n1, n2⟩) h0
theorem true_part {cs ds : List (List Int)} {m : List Bool} (h : trueAll cs m = true) (hs : ∀ c ∈ ds, c ∈ cs) : trueAll ds m = true := by
  unfold trueAll at h ⊢
  rw [List.all_eq_true] at h ⊢
  exact fun c hc => h c (hs c hc)
/-- with a refutation there is no assignment -/
theorem rups_no {V : Nat} {cs ln : List (List Int)} {m : List Bool} (hc : ∀ c ∈ cs, Clean V c) (hl : ∀ c ∈ ln, Clean V c) (hm : m.length = V) (hr : Rups cs ln) (he : ([] : List Int) ∈ ln) : trueAll cs m = false := by
  rcases ht : trueAll cs m with _ | _
  · rfl
  · have := hr.sound V hc hl hm ht
    have := List.all_eq_true.1 this [] (List.mem_append_right _ he)
    simp at this

end Go.Proofs.YtemiecammmbjdaaGreat
