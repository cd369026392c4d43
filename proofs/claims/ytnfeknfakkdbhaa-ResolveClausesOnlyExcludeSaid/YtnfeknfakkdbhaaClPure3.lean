/- The reference's Units ends where Close ends. -/
import Derived.Test.YtnfeknfakkdbhaaClPure2
namespace Go.Proofs.Ytnfeknfakkdbhaa

/-- no literal and its negation; every literal fits -/
def Sane (v : Int) (k : List Int) : Prop := (∀ x ∈ k, Fits v x) ∧ ∀ x ∈ k, -x ∉ k

theorem uscan_spec {k c : List Int} {f f' : Int} {n n' : Nat} {b b' : Bool} (hs : uscan k c (f, n, b) = (f', n', b')) :
    (b' = true ↔ b = true ∨ ∃ x ∈ c, x ∈ k) ∧ n' = n + c.countP (fun x => decide (x ∉ k ∧ -x ∉ k)) ∧ ((f' = f ∧ n' = n) ∨ (n < n' ∧ f' ∈ c ∧ f' ∉ k ∧ -f' ∉ k)) := by
  induction c generalizing f n b with
  | nil =>
    simp only [uscan, Prod.mk.injEq] at hs
    obtain ⟨rfl, rfl, rfl⟩ := hs
    simp
  | cons x xs ih =>
    unfold uscan at hs
    by_cases h1 : x ∈ k
    · rw [if_pos h1] at hs
      obtain ⟨a1, a2, a3⟩ := ih hs
      refine ⟨a1.trans (by simp [h1]), ?_, ?_⟩
      · rw [a2, List.countP_cons, if_neg (by simp [h1])]
        omega
      · rcases a3 with a3 | ⟨a3, a4, a5⟩
        · exact .inl a3
        · exact .inr ⟨a3, List.mem_cons_of_mem _ a4, a5⟩
    · rw [if_neg h1] at hs
      by_cases h2 : -x ∈ k
      · rw [if_pos h2] at hs
        obtain ⟨a1, a2, a3⟩ := ih hs
        refine ⟨a1.trans (by simp [h1]), ?_, ?_⟩
        · rw [a2, List.countP_cons, if_neg (by simp [h2])]
          omega
        · rcases a3 with a3 | ⟨a3, a4, a5⟩
          · exact .inl a3
          · exact .inr ⟨a3, List.mem_cons_of_mem _ a4, a5⟩
      · rw [if_neg h2] at hs
        obtain ⟨a1, a2, a3⟩ := ih hs
        refine ⟨a1.trans (by simp [h1]), ?_, ?_⟩
        · rw [a2, List.countP_cons, if_pos (by simp [h1, h2])]
          omega
        · rcases a3 with ⟨rfl, a4⟩ | ⟨a3, a4, a5⟩
          · exact .inr ⟨by omega, List.mem_cons_self, h1, h2⟩
          · exact .inr ⟨by omega, List.mem_cons_of_mem _ a4, a5⟩

/-- how many variables are not known yet -/
def openVars (v : Nat) (k : List Int) : Nat := (List.range (v + 1)).countP (fun i : Nat => decide ((i : Int) ∉ k ∧ -(i : Int) ∉ k))
theorem countP_lt {α : Type} {p q : α → Bool} {l : List α} (h : ∀ x ∈ l, p x = true → q x = true) {y : α} (hy : y ∈ l) (hq : q y = true) (hp : p y = false) : l.countP p < l.countP q := by
  induction l with
  | nil => cases hy
  | cons a l ih =>
    have hle : l.countP p ≤ l.countP q := List.countP_mono_left fun x hx => h x (List.mem_cons_of_mem _ hx)
    rw [List.countP_cons, List.countP_cons]
    rcases List.mem_cons.1 hy with rfl | hy
    · rw [hq, hp]
      simp
      omega
    · have := ih (fun x hx => h x (List.mem_cons_of_mem _ hx)) hy
      by_cases hpa : p a = true
      · rw [hpa, h a List.mem_cons_self hpa]
        omega
      · have hpa : p a = false := by simpa using hpa
        rw [hpa]
        simp
        split <;> omega
theorem openVars_lt {v : Nat} {k : List Int} {f : Int} (hf : Fits v f) (h1 : f ∉ k) (h2 : -f ∉ k) : openVars v (k ++ [f]) < openVars v k := by
  unfold openVars
  have hv := hf.var
  refine countP_lt (y := (litVar f).toNat) ?_ (by rw [List.mem_range]; omega) ?_ ?_
  · intro i _ hi
    simp only [decide_eq_true_eq, List.mem_append, not_or] at hi ⊢
    exact ⟨hi.1.1, hi.2.1⟩
  · rw [decide_eq_true_eq, Int.toNat_of_nonneg (by omega)]
    rcases (show litVar f = f ∨ litVar f = -f by unfold litVar; omega) with e | e <;> rw [e]
    · exact ⟨h1, h2⟩
    · exact ⟨h2, by rw [Int.neg_neg]; exact h1⟩
  · rw [decide_eq_false_iff_not, Int.toNat_of_nonneg (by omega)]
    rcases (show litVar f = f ∨ litVar f = -f by unfold litVar; omega) with e | e <;> rw [e] <;> simp

/-- what Units's first clause that asks for something says -/
theorem urun_spec {v : Int} {CS : List (List Int)} {k : List Int} {cs : List (List Int)} (hsub : ∀ c ∈ cs, c ∈ CS) (hcl : ∀ c ∈ cs, Clean v c) {T : Int → Prop} :
    (urun k cs = .no → Good CS T → ¬ ∀ x ∈ k, T x) ∧
    (∀ f, urun k cs = .unit f → Fits v f ∧ f ∉ k ∧ -f ∉ k ∧ (Good CS T → (∀ x ∈ k, T x) → T f)) ∧
    (urun k cs = .next → ∀ c ∈ cs, ∀ f n b, uscan k c (0, 0, false) = (f, n, b) → b = true ∨ 1 < n) := by
  induction cs with
  | nil => exact ⟨fun h => (by cases h), fun f h => (by cases h), fun _ c hc => (by cases hc)⟩
  | cons c cs ih =>
    obtain ⟨i1, i2, i3⟩ := ih (fun c' h => hsub c' (List.mem_cons_of_mem _ h)) (fun c' h => hcl c' (List.mem_cons_of_mem _ h))
    have hc := hcl c List.mem_cons_self
    unfold urun ustep
    rcases hs : uscan k c (0, 0, false) with ⟨f, n, b⟩
    obtain ⟨a1, a2, a3⟩ := uscan_spec hs
    simp only
    by_cases h1 : b = false ∧ n = 0
    · rw [if_pos h1]
      refine ⟨fun _ hT hall => ?_, fun f h => (by cases h), fun h => (by cases h)⟩
      obtain ⟨hb, hn⟩ := h1
      obtain ⟨y, hy, hny⟩ := hT.alive c (hsub c List.mem_cons_self)
      have h0 : c.countP (fun x => decide (x ∉ k ∧ -x ∉ k)) = 0 := by omega
      have hyy : ¬ (y ∉ k ∧ -y ∉ k) := by
        intro hyy
        have : 0 < c.countP (fun x => decide (x ∉ k ∧ -x ∉ k)) := List.countP_pos_iff.2 ⟨y, hy, by simp [hyy]⟩
        omega
      by_cases hyk : y ∈ k
      · have := a1.2 (.inr ⟨y, hy, hyk⟩)
        rw [hb] at this
        cases this
      · have : -y ∈ k := by
          apply Classical.byContradiction
          exact fun h => hyy ⟨hyk, h⟩
        exact hny (hall _ this)
    · rw [if_neg h1]
      by_cases h2 : b = false ∧ n = 1
      · rw [if_pos h2]
        obtain ⟨hb, hn⟩ := h2
        refine ⟨fun h => (by cases h), fun f' h => ?_, fun h => (by cases h)⟩
        injection h with h
        subst h
        rcases a3 with ⟨_, a3⟩ | ⟨_, hf, hf1, hf2⟩
        · omega
        · refine ⟨hc.1 f hf, hf1, hf2, fun hT hall => hT.closed c (hsub c List.mem_cons_self) f hf (fun y hy hne => ?_)⟩
          have hyk : y ∉ k := fun hyk => by
            have := a1.2 (.inr ⟨y, hy, hyk⟩)
            rw [hb] at this
            cases this
          by_cases hny : -y ∈ k
          · exact hall _ hny
          · exact absurd (count_one (p := fun x => decide (x ∉ k ∧ -x ∉ k)) (by omega) hf (by simp [hf1, hf2]) hy (by simp [hyk, hny])) hne
      · rw [if_neg h2]
        refine ⟨i1, i2, fun h c' hc' f' n' b' hs' => ?_⟩
        rcases List.mem_cons.1 hc' with rfl | hc'
        · rw [hs] at hs'
          simp only [Prod.mk.injEq] at hs'
          obtain ⟨_, rfl, rfl⟩ := hs'
          cases b with
          | true => exact .inl rfl
          | false =>
            right
            rcases Nat.lt_or_ge 1 n with h3 | h3
            · exact h3
            · exfalso
              rcases (show n = 0 ∨ n = 1 by omega) with e | e
              · exact h1 ⟨rfl, e⟩
              · exact h2 ⟨rfl, e⟩
        · exact i3 h c' hc' f' n' b' hs'

theorem good_of_ufix {v : Int} {cs : List (List Int)} (hcl : ∀ c ∈ cs, Clean v c) {k : List Int} (hk : Sane v k) (hfix : ∀ c ∈ cs, ∀ f n b, uscan k c (0, 0, false) = (f, n, b) → b = true ∨ 1 < n) : Good cs (fun x => x ∈ k) := by
  constructor
  · intro c hc x hx hall
    rcases hs : uscan k c (0, 0, false) with ⟨f, n, b⟩
    obtain ⟨h1, h2, _⟩ := uscan_spec hs
    rcases hfix c hc f n b hs with hb | hn
    · rcases h1.1 hb with h | ⟨z, hz, hlz⟩
      · cases h
      · by_cases hzx : z = x
        · rw [← hzx]; exact hlz
        · exact absurd (hall z hz hzx) (hk.2 z hlz)
    · obtain ⟨y, hy, hp, hne⟩ := count_two (hcl c hc).2 (p := fun x => decide (x ∉ k ∧ -x ∉ k)) (by omega) x
      have hp := of_decide_eq_true hp
      exact absurd (hall y hy hne) hp.2
  · intro c hc
    rcases hs : uscan k c (0, 0, false) with ⟨f, n, b⟩
    obtain ⟨h1, h2, _⟩ := uscan_spec hs
    rcases hfix c hc f n b hs with hb | hn
    · rcases h1.1 hb with h | ⟨z, hz, hlz⟩
      · cases h
      · exact ⟨z, hz, hk.2 z hlz⟩
    · obtain ⟨y, hy, hp, _⟩ := count_two (hcl c hc).2 (p := fun x => decide (x ∉ k ∧ -x ∉ k)) (by omega) 0
      have hp := of_decide_eq_true hp
      exact ⟨y, hy, hp.2⟩

theorem units_spec {v : Nat} {cs : List (List Int)} (hcl : ∀ c ∈ cs, Clean v c) (g : Nat) : ∀ {k : List Int}, Sane v k → openVars v k < g →
    ∃ r, units cs g k = some r ∧ (r = none → ∀ T, Good cs T → ¬ ∀ x ∈ k, T x) ∧ ∀ k', r = some k' → Sane v k' ∧ Good cs (fun x => x ∈ k') ∧ (∀ x ∈ k, x ∈ k') ∧ ∀ T, Good cs T → (∀ x ∈ k, T x) → ∀ x ∈ k', T x := by
  induction g with
  | zero => intro k _ h; omega
  | succ g ih =>
    intro k hk hg
    have hu := fun T => urun_spec (CS := cs) (k := k) (cs := cs.reverse) (T := T) (fun c hc => List.mem_reverse.1 hc) (fun c hc => hcl c (List.mem_reverse.1 hc))
    unfold units
    cases hr : urun k cs.reverse with
    | no => exact ⟨none, rfl, fun _ T hT => (hu T).1 hr hT, fun k' h => (by cases h)⟩
    | unit f =>
      obtain ⟨f1, f2, f3, _⟩ := (hu (fun _ => True)).2.1 f hr
      have hk' : Sane v (k ++ [f]) := by
        refine ⟨fun x hx => ?_, fun x hx hn => ?_⟩
        · rcases List.mem_append.1 hx with hx | hx
          · exact hk.1 x hx
          · rw [List.mem_singleton.1 hx]; exact f1
        · rcases List.mem_append.1 hx with hx | hx <;> rcases List.mem_append.1 hn with hn | hn
          · exact hk.2 x hx hn
          · have : x = -f := by have := List.mem_singleton.1 hn; omega
            exact f3 (this ▸ hx)
          · exact f3 ((List.mem_singleton.1 hx) ▸ hn)
          · have e1 := List.mem_singleton.1 hx
            have e2 := List.mem_singleton.1 hn
            have := f1.1
            omega
      obtain ⟨r, r1, r2, r3⟩ := ih hk' (by have := openVars_lt f1 f2 f3; omega)
      have hext : ∀ T, Good cs T → (∀ x ∈ k, T x) → ∀ x ∈ k ++ [f], T x := fun T hT hall x hx => by
        rcases List.mem_append.1 hx with hx | hx
        · exact hall x hx
        · rw [List.mem_singleton.1 hx]
          exact ((hu T).2.1 f hr).2.2.2 hT hall
      refine ⟨r, r1, fun h T hT hall => r2 h T hT (hext T hT hall), fun k' h => ?_⟩
      obtain ⟨s1, s2, s3, s4⟩ := r3 k' h
      exact ⟨s1, s2, fun x hx => s3 x (List.mem_append_left _ hx), fun T hT hall => s4 T hT (hext T hT hall)⟩
    | next =>
      refine ⟨some k, rfl, fun h => (by cases h), fun k' h => ?_⟩
      injection h with h
      subst h
      exact ⟨hk, good_of_ufix hcl hk (fun c hc => (hu (fun _ => True)).2.2 hr c (List.mem_reverse.2 hc)), fun _ h => h, fun T _ hall => hall⟩

theorem sane_of_code {v : Int} {a : List Int} (h : clauseCode v none a = 0) : Sane v a := by
  have hr := (code_rise h).1
  refine ⟨code_fits h, fun x hx hn => ?_⟩
  have h0 := (code_fits h x hx).1
  have hne : x ≠ -x := by omega
  have hp : ∀ {l : List Int}, l.Pairwise (fun x y => litVar x < litVar y) → x ∈ l → -x ∈ l → False := by
    intro l
    induction l with
    | nil => intro _ h _; cases h
    | cons y ys ih =>
      intro hl hx hn
      obtain ⟨p1, p2⟩ := List.pairwise_cons.1 hl
      rcases List.mem_cons.1 hx with e | hx' <;> rcases List.mem_cons.1 hn with e' | hn'
      · omega
      · have := p1 _ hn'
        rw [litVar_neg, e] at this
        omega
      · have := p1 _ hx'
        rw [← e', litVar_neg] at this
        omega
      · exact ih p2 hx' hn'
  exact hp hr hx hn

theorem byFrom_lits {vals k : List Int} (ht : Tri vals) (h : ∀ x, x ≠ 0 → (Lit vals x ↔ x ∈ k)) : ∀ (n u : Nat), 1 ≤ u → u + n = vals.length → byFrom k u n = litsFrom u (vals.drop u) := by
  intro n
  induction n with
  | zero =>
    intro u _ hl
    rw [List.drop_of_length_le (by omega)]
    rfl
  | succ n ih =>
    intro u hu hl
    have hlt : u < vals.length := by omega
    rw [List.drop_eq_getElem_cons hlt, litsFrom, byFrom, ih (u + 1) (by omega) (by omega)]
    have hval : valOf vals (u : Int) = vals[u] := by
      have e : (litVar (u : Int)).toNat = u := by unfold litVar; omega
      rw [valOf, e, List.getD_eq_getElem?_getD, List.getElem?_eq_getElem hlt]
      rfl
    have hu0 : (u : Int) ≠ 0 := by omega
    have hs : sgn (u : Int) = 1 := by unfold sgn; rw [if_neg (by omega)]
    have e1 : (u : Int) ∈ k ↔ vals[u] = 1 := by
      rw [← h _ hu0, Lit, hval, hs]
      exact ⟨fun h => h.2, fun h => ⟨hu0, h⟩⟩
    have e2 : -(u : Int) ∈ k ↔ vals[u] = -1 := by
      rw [← h _ (by omega), Lit, valOf_neg, hval, sgn_neg hu0, hs]
      exact ⟨fun h => h.2, fun h => ⟨by omega, h⟩⟩
    have htri := ht vals[u] (List.getElem_mem hlt)
    generalize vals[u] = y at *
    rcases htri with rfl | rfl | rfl
    · have n1 : ¬ (u : Int) ∈ k := fun h => by have := e1.1 h; omega
      rw [if_neg n1, if_pos (e2.2 rfl), if_neg (by decide)]
      simp
    · have n1 : ¬ (u : Int) ∈ k := fun h => by have := e1.1 h; omega
      have n2 : ¬ -(u : Int) ∈ k := fun h => by have := e2.1 h; omega
      rw [if_neg n1, if_neg n2, if_pos rfl]
      rfl
    · have n2 : ¬ -(u : Int) ∈ k := fun h => by have := e2.1 h; omega
      rw [if_pos (e1.2 rfl), if_neg n2, if_neg (by decide)]
      simp

theorem rise_len {v : Int} : ∀ {c : List Int} {lo : Int}, lo ≤ v → (∀ x ∈ c, lo < litVar x ∧ litVar x ≤ v) → c.Pairwise (fun x y => litVar x < litVar y) → (c.length : Int) ≤ v - lo
  | [], lo, hlo, _, _ => by simp; omega
  | x :: xs, lo, _, hx, hp => by
    obtain ⟨p1, p2⟩ := List.pairwise_cons.1 hp
    have h0 := hx x List.mem_cons_self
    have := rise_len (c := xs) (lo := litVar x) h0.2 (fun y hy => ⟨p1 y hy, (hx y (List.mem_cons_of_mem _ hy)).2⟩) p2
    simp only [List.length_cons, Int.natCast_add, Int.natCast_one]
    omega
theorem code_len {v : Nat} {c : List Int} (h : clauseCode (v : Int) none c = 0) : c.length ≤ v := by
  have := rise_len (v := v) (c := c) (lo := 0) (by omega) (fun x hx => by have := (code_fits h x hx).var; omega) (code_rise h).1
  omega
theorem prop_fits {v : Nat} {cs : List (List Int)} {a l : List Int} (hcs : (cnfFault v cs).1 = 0) (ha : clauseCode v none a = 0) (hp : propR v cs a = some l) : ∀ x ∈ l, Fits v x := by
  obtain ⟨vals, rfl, ht, hl, _⟩ := (prop_spec hcs ha).2 l hp
  exact fun x hx => lit_fits hl ((litsOf_mem ht x).1 hx)

/-- the reference and the program agree -/
theorem units_prop {v : Nat} {cs : List (List Int)} {a : List Int} (hcs : (cnfFault v cs).1 = 0) (ha : clauseCode v none a = 0) :
    (propR v cs a = none → units cs (v + 2) a = some none) ∧ ∀ l, propR v cs a = some l → ∃ k, units cs (v + 2) a = some (some k) ∧ byVar k v = l := by
  have hcl : ∀ c ∈ cs, Clean v c := fun c hc => clean_of_code ((cnfFault_ok.1 hcs).2.2 c hc)
  obtain ⟨s1, s2⟩ := prop_spec hcs ha
  have hov : openVars v a < v + 2 := by
    have := List.countP_le_length (p := fun i : Nat => decide ((i : Int) ∉ a ∧ -(i : Int) ∉ a)) (l := List.range (v + 1))
    rw [List.length_range] at this
    unfold openVars
    omega
  obtain ⟨r, r1, r2, r3⟩ := units_spec hcl (v + 2) (sane_of_code ha) hov
  constructor
  · intro hp
    cases r with
    | none => exact r1
    | some k =>
      obtain ⟨_, t2, t3, _⟩ := r3 k rfl
      exact absurd t3 (s1 hp _ t2)
  · intro l hp
    obtain ⟨vals, rfl, ht, hl, hleast⟩ := s2 l hp
    cases r with
    | none => exact absurd hleast.has (r2 rfl _ hleast.good)
    | some k =>
      obtain ⟨t1, t2, t3, t4⟩ := r3 k rfl
      refine ⟨k, r1, ?_⟩
      rw [byVar, litsOf]
      exact byFrom_lits ht (fun x _ => ⟨hleast.least _ t2 t3 x, t4 _ hleast.good hleast.has x⟩) v 1 (Nat.le_refl 1) (by omega)
end Go.Proofs.Ytnfeknfakkdbhaa
