/- Formulas in conjunctive normal form: what the functions compute, in plain Lean. -/
import Init
namespace Go.Proofs.Ytnfeknfakkdbhaa

/-- the variable of a literal -/
def litVar (x : Int) : Int := max x (-x)
def Fits (v x : Int) : Prop := x ≠ 0 ∧ -v ≤ x ∧ x ≤ v
theorem Fits.var {v x : Int} (h : Fits v x) : 1 ≤ litVar x ∧ litVar x ≤ v := by unfold Fits at h; unfold litVar; omega

def clauseCode (v : Int) : Option Int → List Int → Int
  | _, [] => 0
  | p, x :: xs => if x = 0 ∨ x < -v ∨ v < x then 3 else match p with
    | none => clauseCode v (some x) xs
    | some y => if litVar x ≤ litVar y then 5 else clauseCode v (some x) xs
theorem clauseCode_nil (v : Int) (p : Option Int) : clauseCode v p [] = 0 := by unfold clauseCode; rfl
theorem clauseCode_bad {v : Int} (p : Option Int) {x : Int} (xs : List Int) (h : x = 0 ∨ x < -v ∨ v < x) : clauseCode v p (x :: xs) = 3 := by
  cases p <;> simp [clauseCode, h]
theorem clauseCode_first {v x : Int} (xs : List Int) (h : ¬ (x = 0 ∨ x < -v ∨ v < x)) : clauseCode v none (x :: xs) = clauseCode v (some x) xs := by
  simp [clauseCode, h]
theorem clauseCode_low {v x y : Int} (xs : List Int) (h : ¬ (x = 0 ∨ x < -v ∨ v < x)) (h2 : litVar x ≤ litVar y) : clauseCode v (some y) (x :: xs) = 5 := by
  simp [clauseCode, h, h2]
theorem clauseCode_next {v x y : Int} (xs : List Int) (h : ¬ (x = 0 ∨ x < -v ∨ v < x)) (h2 : ¬ litVar x ≤ litVar y) : clauseCode v (some y) (x :: xs) = clauseCode v (some x) xs := by
  simp [clauseCode, h, h2]

def faultFrom (v : Int) (i : Nat) : List (List Int) → Int × Int
  | [] => (0, 0)
  | c :: cs => if clauseCode v none c = 0 then faultFrom v (i + 1) cs else (clauseCode v none c, i)
def cnfFault (v : Int) (cs : List (List Int)) : Int × Int :=
  if v < 0 ∨ 80 < v then (3, -1) else if 1500 < cs.length then (2, -1) else faultFrom v 0 cs

theorem code_range (v : Int) (p : Option Int) (c : List Int) : clauseCode v p c = 0 ∨ clauseCode v p c = 3 ∨ clauseCode v p c = 5 := by
  induction c generalizing p with
  | nil => simp [clauseCode]
  | cons x xs ih =>
    unfold clauseCode
    split
    · simp
    · split
      · exact ih _
      · split
        · simp
        · exact ih _
theorem code_fits {v : Int} {p : Option Int} {c : List Int} (h : clauseCode v p c = 0) : ∀ x ∈ c, Fits v x := by
  induction c generalizing p with
  | nil => simp
  | cons x xs ih =>
    unfold clauseCode at h
    split at h
    · omega
    · rename_i hx
      have hf : Fits v x := by unfold Fits; omega
      have hr : ∀ y ∈ xs, Fits v y := by
        split at h
        · exact ih h
        · split at h
          · omega
          · exact ih h
      intro y hy
      rcases List.mem_cons.1 hy with rfl | hy
      · exact hf
      · exact hr y hy
/-- the variables of a clause that passes rise -/
theorem code_rise {v : Int} {p : Option Int} {c : List Int} (h : clauseCode v p c = 0) : c.Pairwise (fun x y => litVar x < litVar y) ∧ ∀ y, p = some y → ∀ x ∈ c, litVar y < litVar x := by
  induction c generalizing p with
  | nil => simp
  | cons x xs ih =>
    unfold clauseCode at h
    split at h
    · omega
    · split at h
      · obtain ⟨h1, h2⟩ := ih h
        refine ⟨List.pairwise_cons.2 ⟨h2 x rfl, h1⟩, fun y hy => by cases hy⟩
      · split at h
        · omega
        · rename_i y' _ hlt
          obtain ⟨h1, h2⟩ := ih h
          refine ⟨List.pairwise_cons.2 ⟨h2 x rfl, h1⟩, fun y hy z hz => ?_⟩
          injection hy with hy
          subst hy
          rcases List.mem_cons.1 hz with rfl | hz
          · omega
          · have := h2 x rfl z hz
            omega
theorem faultFrom_ok {v : Int} {i : Nat} {cs : List (List Int)} : (faultFrom v i cs).1 = 0 ↔ ∀ c ∈ cs, clauseCode v none c = 0 := by
  induction cs generalizing i with
  | nil => simp [faultFrom]
  | cons c cs ih =>
    unfold faultFrom
    split
    · rename_i h
      rw [ih]
      simp [h]
    · rename_i h
      simp [h]
theorem faultFrom_zero {v : Int} {i : Nat} {cs : List (List Int)} (h : (faultFrom v i cs).1 = 0) : faultFrom v i cs = (0, 0) := by
  induction cs generalizing i with
  | nil => rfl
  | cons c cs ih =>
    unfold faultFrom at h ⊢
    split
    · rename_i e
      rw [if_pos e] at h
      exact ih h
    · rename_i e
      rw [if_neg e] at h
      exact absurd h e
theorem cnfFault_ok {v : Int} {cs : List (List Int)} : (cnfFault v cs).1 = 0 ↔ (0 ≤ v ∧ v ≤ 80) ∧ cs.length ≤ 1500 ∧ ∀ c ∈ cs, clauseCode v none c = 0 := by
  unfold cnfFault
  split
  · simp; omega
  · split
    · simp; omega
    · rw [faultFrom_ok]
      constructor
      · exact fun h => ⟨by omega, by omega, h⟩
      · exact fun h => h.2.2
theorem cnfFault_zero {v : Int} {cs : List (List Int)} (h : (cnfFault v cs).1 = 0) : cnfFault v cs = (0, 0) := by
  unfold cnfFault at h ⊢
  split
  · rename_i e
    rw [if_pos e] at h
    exact absurd h (by decide)
  · rename_i e
    rw [if_neg e] at h
    split
    · rename_i e2
      rw [if_pos e2] at h
      exact absurd h (by decide)
    · rename_i e2
      rw [if_neg e2] at h
      exact faultFrom_zero h

/-- an assignment with literal x -/
def setLit (vals : List Int) (x : Int) : List Int := vals.set (litVar x).toNat (if x < 0 then -1 else 1)
def valOf (vals : List Int) (x : Int) : Int := vals.getD (litVar x).toNat 0
theorem setLit_len (vals : List Int) (x : Int) : (setLit vals x).length = vals.length := by simp [setLit]
theorem setLit_mem {vals : List Int} {x : Int} (h : ∀ y ∈ vals, y = -1 ∨ y = 0 ∨ y = 1) : ∀ y ∈ setLit vals x, y = -1 ∨ y = 0 ∨ y = 1 := by
  intro y hy
  rcases List.mem_or_eq_of_mem_set hy with hy | hy
  · exact h y hy
  · split at hy <;> omega

/-- Assume: none where two literals contradict each other -/
def assume (vals : List Int) : List Int → Option (List Int)
  | [] => some vals
  | x :: xs => if valOf vals x ≠ 0 ∧ decide (0 < valOf vals x) ≠ decide (0 < x) then none else assume (setLit vals x) xs

/-- Close: one clause: the free literal that comes last, how many are free, whether one holds -/
def scan (vals : List Int) : List Int → Int × Nat × Bool → Int × Nat × Bool
  | [], s => s
  | x :: xs, (f, n, b) => scan vals xs (if valOf vals x = 0 then (x, n + 1, b) else if decide (0 < valOf vals x) = decide (0 < x) then (f, n, true) else (f, n, b))
/-- one pass over the clauses -/
def pass : List (List Int) → List Int → Bool → Option (List Int × Bool)
  | [], vals, again => some (vals, again)
  | c :: cs, vals, again => match scan vals c (0, 0, false) with
    | (f, n, b) => if b = true ∨ 1 < n then pass cs vals again else if n = 0 then none else pass cs (setLit vals f) true
def close (cs : List (List Int)) : Nat → List Int → Option (List Int)
  | 0, _ => none
  | g + 1, vals => match pass cs vals false with
    | none => none
    | some (vals', again) => if again = true then close cs g vals' else some vals'

/-- how many variables are free -/
def zeros (vals : List Int) : Nat := vals.countP (· == 0)
theorem zeros_set {vals : List Int} {i : Nat} {y : Int} (hy : y ≠ 0) : zeros (vals.set i y) ≤ zeros vals ∧ (vals[i]? = some 0 → zeros (vals.set i y) < zeros vals) := by
  induction vals generalizing i with
  | nil => simp [zeros]
  | cons a l ih =>
    cases i with
    | zero =>
      simp only [zeros, List.set_cons_zero, List.countP_cons, List.getElem?_cons_zero]
      have : (y == 0) = false := by simp [hy]
      rw [this]
      refine ⟨by simp, fun h => ?_⟩
      injection h with h
      simp [h]
    | succ i =>
      have := ih (i := i)
      simp only [zeros, List.set_cons_succ, List.countP_cons, List.getElem?_cons_succ] at this ⊢
      exact ⟨by omega, fun h => by have := this.2 h; omega⟩
theorem zeros_setLit {vals : List Int} (x : Int) : zeros (setLit vals x) ≤ zeros vals := (zeros_set (by split <;> decide)).1
theorem zeros_setLit_lt {vals : List Int} {x : Int} (h : vals[(litVar x).toNat]? = some 0) : zeros (setLit vals x) < zeros vals := (zeros_set (by split <;> decide)).2 h

/-- what a scan that ends with one free literal has found -/
theorem scan_one {vals : List Int} {c : List Int} {f f' : Int} {n n' : Nat} {b b' : Bool} (h : scan vals c (f, n, b) = (f', n', b')) :
    n ≤ n' ∧ ((f' = f ∧ n' = n) ∨ (n < n' ∧ f' ∈ c ∧ valOf vals f' = 0)) := by
  induction c generalizing f n b with
  | nil =>
    simp only [scan, Prod.mk.injEq] at h
    omega
  | cons x xs ih =>
    unfold scan at h
    split at h
    · rename_i hx
      obtain ⟨h1, h2⟩ := ih h
      refine ⟨by omega, .inr ?_⟩
      rcases h2 with ⟨rfl, h3⟩ | ⟨h3, h4, h5⟩
      · exact ⟨by omega, List.mem_cons_self, hx⟩
      · exact ⟨by omega, List.mem_cons_of_mem _ h4, h5⟩
    · split at h
      all_goals
        obtain ⟨h1, h2⟩ := ih h
        refine ⟨h1, ?_⟩
        rcases h2 with h3 | ⟨h3, h4, h5⟩
        · exact .inl h3
        · exact .inr ⟨h3, List.mem_cons_of_mem _ h4, h5⟩

theorem valOf_zero {vals : List Int} {x : Int} (hx : (litVar x).toNat < vals.length) (h : valOf vals x = 0) : vals[(litVar x).toNat]? = some 0 := by
  rw [List.getElem?_eq_getElem hx]
  rw [valOf, List.getD_eq_getElem?_getD, List.getElem?_eq_getElem hx, Option.getD_some] at h
  rw [h]
theorem pass_zeros {cs : List (List Int)} {vals vals' : List Int} {b b' : Bool} (hc : ∀ c ∈ cs, ∀ x ∈ c, (litVar x).toNat < vals.length) (h : pass cs vals b = some (vals', b')) :
    zeros vals' ≤ zeros vals ∧ (b' = true → b = true ∨ zeros vals' < zeros vals) := by
  induction cs generalizing vals b with
  | nil =>
    simp only [pass, Option.some.injEq, Prod.mk.injEq] at h
    obtain ⟨rfl, rfl⟩ := h
    exact ⟨Nat.le_refl _, .inl⟩
  | cons c cs ih =>
    unfold pass at h
    cases hs : scan vals c (0, 0, false) with
    | mk f r =>
      obtain ⟨n, bb⟩ := r
      rw [hs] at h
      simp only at h
      split at h
      · exact ih (fun c' h' => hc c' (List.mem_cons_of_mem _ h')) h
      · rename_i h1
        split at h
        · cases h
        · rename_i h2
          have hn : n = 1 := by
            rcases Nat.lt_or_ge 1 n with h3 | h3
            · exact absurd (.inr h3) h1
            · omega
          obtain ⟨_, h3⟩ := scan_one hs
          rcases h3 with ⟨_, h3⟩ | ⟨_, hf, hz⟩
          · omega
          · have hl := hc c List.mem_cons_self f hf
            have hlt := zeros_setLit_lt (valOf_zero hl hz)
            have := (ih (by simpa [setLit_len] using fun c' h' => hc c' (List.mem_cons_of_mem _ h')) h).1
            exact ⟨by omega, fun _ => .inr (by omega)⟩

def litsFrom : Nat → List Int → List Int
  | _, [] => []
  | u, y :: ys => if y = 0 then litsFrom (u + 1) ys else (u * y) :: litsFrom (u + 1) ys
/-- the literals of an assignment, by their variables -/
def litsOf (vals : List Int) : List Int := litsFrom 1 (vals.drop 1)
theorem litsFrom_len (u : Nat) (vals : List Int) : (litsFrom u vals).length ≤ vals.length := by
  induction vals generalizing u with
  | nil => simp [litsFrom]
  | cons y ys ih =>
    unfold litsFrom
    have := ih (u + 1)
    split <;> simp <;> omega

theorem litsFrom_step (us : List Int) : ∀ (k : Nat) (u : Int), us[k]? = some u → litsFrom k (us.drop k) = (if u = 0 then [] else [(k : Int) * u]) ++ litsFrom (k + 1) (us.drop (k + 1)) := by
  intro k u hu
  obtain ⟨hk, e⟩ := List.getElem?_eq_some_iff.1 hu
  rw [List.drop_eq_getElem_cons hk, e, litsFrom]
  split <;> simp
theorem litVar_pos {x : Int} (h : x ≠ 0) : 1 ≤ litVar x := by unfold litVar; omega
theorem valOf_set {vals : List Int} {x y : Int} (hx : (litVar x).toNat < vals.length) :
    valOf (setLit vals x) y = if litVar y = litVar x then (if x < 0 then -1 else 1) else valOf vals y := by
  have h1 : 0 ≤ litVar x := by unfold litVar; omega
  have h2 : 0 ≤ litVar y := by unfold litVar; omega
  unfold valOf setLit
  rw [List.getD_eq_getElem?_getD, List.getElem?_set]
  by_cases h : litVar y = litVar x
  · rw [if_pos (by rw [h]), if_pos hx, if_pos h, Option.getD_some]
  · rw [if_neg (fun e => h (by omega)), if_neg h, List.getD_eq_getElem?_getD]
/-- the sign of a literal -/
def sgn (x : Int) : Int := if x < 0 then -1 else 1
theorem assume_ok {v : Int} {xs : List Int} {vals : List Int} (hl : (vals.length : Int) = v + 1) (hf : ∀ x ∈ xs, Fits v x) (hr : xs.Pairwise (fun x y => litVar x < litVar y)) (h0 : ∀ x ∈ xs, valOf vals x = 0) :
    ∃ vals', assume vals xs = some vals' ∧ ∀ y, y ≠ 0 → valOf vals' y = if y ∈ xs then sgn y else if -y ∈ xs then sgn y * -1 else valOf vals y := by
  induction xs generalizing vals with
  | nil => exact ⟨vals, rfl, fun y _ => by simp⟩
  | cons x xs ih =>
    have hx := hf x List.mem_cons_self
    have hxv := hx.var
    have hlt : (litVar x).toNat < vals.length := by omega
    obtain ⟨hr1, hr2⟩ := List.pairwise_cons.1 hr
    obtain ⟨vals', h1, h2⟩ := ih (vals := setLit vals x) (by rw [setLit_len]; exact hl) (fun y hy => hf y (List.mem_cons_of_mem _ hy)) hr2 (fun y hy => by
      rw [valOf_set hlt, if_neg (by have := hr1 y hy; omega)]
      exact h0 y (List.mem_cons_of_mem _ hy))
    refine ⟨vals', by rw [assume, if_neg (by simp [h0 x List.mem_cons_self])]; exact h1, fun y hy => ?_⟩
    rw [h2 y hy, valOf_set hlt]
    have hnot : ∀ z ∈ xs, litVar z ≠ litVar x := fun z hz => by have := hr1 z hz; omega
    by_cases hyx : litVar y = litVar x
    · have hn1 : y ∉ xs := fun h => hnot y h hyx
      have hn2 : -y ∉ xs := fun h => hnot (-y) h (by rw [← hyx]; unfold litVar; omega)
      rw [if_neg hn1, if_neg hn2, if_pos hyx]
      rcases (show y = x ∨ y = -x by unfold litVar at hyx; omega) with rfl | rfl
      · simp [sgn]
      · have m1 : -x ∉ x :: xs := by
          simp only [List.mem_cons, not_or]
          exact ⟨by have := hx.1; omega, hn1⟩
        have m2 : - -x ∈ x :: xs := by simp
        rw [if_neg m1, if_pos m2]
        unfold sgn
        have := hx.1
        by_cases h : x < 0
        · rw [if_pos h, if_neg (by omega)]
          rfl
        · rw [if_neg h, if_pos (by omega)]
          rfl
    · have e1 : y ≠ x := fun e => hyx (by rw [e])
      have e2 : -y ≠ x := fun e => hyx (by rw [← e]; unfold litVar; omega)
      simp [e1, e2, hyx]

def trueLit (m : List Bool) (x : Int) : Bool := m.getD ((litVar x).toNat - 1) false == decide (0 < x)
def trueAll (cs : List (List Int)) (m : List Bool) : Bool := cs.all fun c => c.any (trueLit m)

/-- what Propagate answers: the literals, whether there is no contradiction, the fault -/
def propR (v : Nat) (cs : List (List Int)) (a : List Int) : Option (List Int) :=
  match assume (List.replicate (v + 1) 0) a with
  | none => none
  | some vals => (close cs (v + 2) vals).map litsOf
theorem assume_some {v : Nat} {a : List Int} (h : clauseCode v none a = 0) : ∃ vals, assume (List.replicate (v + 1) 0) a = some vals ∧ ∀ y, y ≠ 0 → valOf vals y = if y ∈ a then sgn y else if -y ∈ a then sgn y * -1 else 0 := by
  have hz : ∀ y : Int, valOf (List.replicate (v + 1) (0 : Int)) y = 0 := fun y => by
    rw [valOf, List.getD_eq_getElem?_getD, List.getElem?_replicate]
    split <;> rfl
  obtain ⟨vals, h1, h2⟩ := assume_ok (v := v) (vals := List.replicate (v + 1) 0) (by simp) (code_fits h) (code_rise h).1 (fun x _ => hz x)
  exact ⟨vals, h1, fun y hy => by rw [h2 y hy, hz]⟩

/-- ByVariable -/
def byFrom (l : List Int) : Nat → Nat → List Int
  | _, 0 => []
  | u, n + 1 => (if (u : Int) ∈ l then [(u : Int)] else []) ++ (if -(u : Int) ∈ l then [-(u : Int)] else []) ++ byFrom l (u + 1) n
def byVar (l : List Int) (v : Nat) : List Int := byFrom l 1 v

/-- Units: one clause: the open literal that comes last, how many are free, whether one holds -/
def uscan (known : List Int) : List Int → Int × Nat × Bool → Int × Nat × Bool
  | [], s => s
  | x :: xs, (f, n, b) => uscan known xs (if x ∈ known then (f, n, true) else if -x ∈ known then (f, n, b) else (x, n + 1, b))
inductive UStep where
  | no
  | unit (x : Int)
  | next
/-- what the clauses ask, from the last one to the first -/
def ustep (known : List Int) (c : List Int) : UStep := match uscan known c (0, 0, false) with
  | (f, n, b) => if b = false ∧ n = 0 then .no else if b = false ∧ n = 1 then .unit f else .next
def urun (known : List Int) : List (List Int) → UStep
  | [] => .next
  | c :: cs => match ustep known c with
    | .next => urun known cs
    | s => s
/-- Units, with so much fuel -/
def units (cs : List (List Int)) : Nat → List Int → Option (Option (List Int))
  | 0, _ => none
  | g + 1, known => match urun known cs.reverse with
    | .no => some none
    | .unit x => units cs g (known ++ [x])
    | .next => some (some known)

theorem trueAll_append (a b : List (List Int)) (m : List Bool) : trueAll (a ++ b) m = (trueAll a m && trueAll b m) := by simp [trueAll]
theorem fault_part {v : Int} {cs ds : List (List Int)} (h : (cnfFault v cs).1 = 0) (hs : ∀ c ∈ ds, c ∈ cs) (hl : ds.length ≤ cs.length) : cnfFault v ds = (0, 0) := by
  obtain ⟨h1, h2, h3⟩ := cnfFault_ok.1 h
  exact cnfFault_zero (cnfFault_ok.2 ⟨h1, by omega, fun c hc => h3 c (hs c hc)⟩)
end Go.Proofs.Ytnfeknfakkdbhaa
