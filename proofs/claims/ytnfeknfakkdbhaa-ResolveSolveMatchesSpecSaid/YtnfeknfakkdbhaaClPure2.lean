/- Unit propagation, in plain Lean: Close ends at the least set that is closed, or there is none. -/
import Derived.Test.YtnfeknfakkdbhaaClPure
namespace Go.Proofs.Ytnfeknfakkdbhaa

/-- literal x stands in the assignment -/
def Lit (vals : List Int) (x : Int) : Prop := x ≠ 0 ∧ valOf vals x = sgn x
theorem litVar_neg (x : Int) : litVar (-x) = litVar x := by unfold litVar; omega
theorem valOf_neg (vals : List Int) (x : Int) : valOf vals (-x) = valOf vals x := by unfold valOf; rw [litVar_neg]
theorem sgn_neg {x : Int} (h : x ≠ 0) : sgn (-x) = -sgn x := by unfold sgn; split <;> split <;> omega
theorem sgn_cases (x : Int) : sgn x = 1 ∨ sgn x = -1 := by unfold sgn; split <;> simp
theorem lit_clash {vals : List Int} {x : Int} (h : Lit vals x) (h' : Lit vals (-x)) : False := by
  have h1 := h.2
  have h2 := h'.2
  rw [valOf_neg, sgn_neg h.1] at h2
  rcases sgn_cases x with e | e <;> omega
theorem same_var {x y : Int} (h : litVar y = litVar x) : y = x ∨ y = -x := by unfold litVar at h; omega

/-- every value is -1, 0 or 1 -/
def Tri (vals : List Int) : Prop := ∀ y ∈ vals, y = -1 ∨ y = 0 ∨ y = 1
theorem Tri.val {vals : List Int} (h : Tri vals) (x : Int) : valOf vals x = -1 ∨ valOf vals x = 0 ∨ valOf vals x = 1 := by
  unfold valOf
  rw [List.getD_eq_getElem?_getD]
  cases hx : vals[(litVar x).toNat]? with
  | none => simp
  | some y => simpa using h y (List.mem_of_getElem? hx)
theorem Tri.lit {vals : List Int} (h : Tri vals) {x : Int} (hx : x ≠ 0) : valOf vals x = 0 ∨ Lit vals x ∨ Lit vals (-x) := by
  unfold Lit
  rw [valOf_neg, sgn_neg hx]
  rcases h.val x with e | e | e <;> rcases sgn_cases x with s | s <;> rw [e, s] <;> omega
theorem Tri.set {vals : List Int} (h : Tri vals) (x : Int) : Tri (setLit vals x) := setLit_mem h
theorem lit_of_sign {vals : List Int} (h : Tri vals) {x : Int} (hx : x ≠ 0) (h0 : valOf vals x ≠ 0) : (decide (0 < valOf vals x) = decide (0 < x)) ↔ Lit vals x := by
  unfold Lit sgn
  rcases h.val x with e | e | e
  · rw [e]
    by_cases hs : x < 0
    · simp [hx, hs]; omega
    · simp [hx, hs]; omega
  · exact absurd e h0
  · rw [e]
    by_cases hs : x < 0
    · simp [hx, hs]; omega
    · simp [hx, hs]; omega

/-- what a scan finds -/
theorem scan_spec {vals : List Int} (h : Tri vals) {c : List Int} (hc : ∀ x ∈ c, x ≠ 0) {f f' : Int} {n n' : Nat} {b b' : Bool} (hs : scan vals c (f, n, b) = (f', n', b')) :
    (b' = true ↔ b = true ∨ ∃ x ∈ c, Lit vals x) ∧ n' = n + c.countP (fun x => valOf vals x == 0) := by
  induction c generalizing f n b with
  | nil =>
    simp only [scan, Prod.mk.injEq] at hs
    obtain ⟨_, rfl, rfl⟩ := hs
    simp
  | cons x xs ih =>
    have hx := hc x List.mem_cons_self
    have hxs : ∀ y ∈ xs, y ≠ 0 := fun y hy => hc y (List.mem_cons_of_mem _ hy)
    unfold scan at hs
    by_cases h0 : valOf vals x = 0
    · rw [if_pos h0] at hs
      obtain ⟨h1, h2⟩ := ih hxs hs
      have hn : ¬ Lit vals x := fun hl => by
        have := hl.2
        rcases sgn_cases x with e | e <;> omega
      refine ⟨h1.trans (by simp [hn]), ?_⟩
      rw [h2, List.countP_cons, if_pos (by simp [h0])]
      omega
    · rw [if_neg h0] at hs
      have hcnt : (x :: xs).countP (fun x => valOf vals x == 0) = xs.countP (fun x => valOf vals x == 0) := by
        rw [List.countP_cons, if_neg (by simp [h0])]
        omega
      rw [hcnt]
      split at hs
      · rename_i hd
        obtain ⟨h1, h2⟩ := ih hxs hs
        have hl := (lit_of_sign h hx h0).1 hd
        exact ⟨h1.trans (by simp [hl]), h2⟩
      · rename_i hd
        obtain ⟨h1, h2⟩ := ih hxs hs
        have hl : ¬ Lit vals x := fun hl => hd ((lit_of_sign h hx h0).2 hl)
        exact ⟨h1.trans (by simp [hl]), h2⟩

/-- a clause of a formula that passed: literals that fit, variables that rise -/
def Clean (v : Int) (c : List Int) : Prop := (∀ x ∈ c, Fits v x) ∧ c.Pairwise (fun x y => litVar x < litVar y)
theorem clean_of_code {v : Int} {c : List Int} (h : clauseCode v none c = 0) : Clean v c := ⟨code_fits h, (code_rise h).1⟩

theorem count_two {c : List Int} {p : Int → Bool} (hr : c.Pairwise (fun x y => litVar x < litVar y)) (h : 1 < c.countP p) (x : Int) : ∃ y ∈ c, p y = true ∧ y ≠ x := by
  induction c with
  | nil => simp at h
  | cons a l ih =>
    obtain ⟨h1, h2⟩ := List.pairwise_cons.1 hr
    rw [List.countP_cons] at h
    by_cases ha : p a = true
    · rw [if_pos ha] at h
      by_cases hax : a = x
      · have h3 : 0 < l.countP p := by omega
        obtain ⟨y, hy, hp⟩ := List.countP_pos_iff.1 h3
        exact ⟨y, List.mem_cons_of_mem _ hy, hp, fun e => by have := h1 y hy; rw [e, hax] at this; omega⟩
      · exact ⟨a, List.mem_cons_self, ha, hax⟩
    · rw [if_neg ha] at h
      obtain ⟨y, hy, hp, hne⟩ := ih h2 (by omega)
      exact ⟨y, List.mem_cons_of_mem _ hy, hp, hne⟩
theorem count_one {c : List Int} {p : Int → Bool} (h : c.countP p ≤ 1) {f : Int} (hf : f ∈ c) (hpf : p f = true) {y : Int} (hy : y ∈ c) (hpy : p y = true) : y = f := by
  induction c with
  | nil => cases hf
  | cons a l ih =>
    rw [List.countP_cons] at h
    rcases List.mem_cons.1 hf with rfl | hf'
    · rw [if_pos hpf] at h
      rcases List.mem_cons.1 hy with rfl | hy'
      · rfl
      · have : 0 < l.countP p := List.countP_pos_iff.2 ⟨y, hy', hpy⟩
        omega
    · rcases List.mem_cons.1 hy with rfl | hy'
      · rw [if_pos hpy] at h
        have : 0 < l.countP p := List.countP_pos_iff.2 ⟨f, hf', hpf⟩
        omega
      · exact ih (by split at h <;> omega) hf' hy'

/-- a set of literals that is closed and in which no clause is false -/
structure Good (cs : List (List Int)) (T : Int → Prop) : Prop where
  closed : ∀ c ∈ cs, ∀ x ∈ c, (∀ y ∈ c, y ≠ x → T (-y)) → T x
  alive : ∀ c ∈ cs, ∃ y ∈ c, ¬ T (-y)

theorem lit_set {vals : List Int} {x y : Int} (hx : (litVar x).toNat < vals.length) (hx0 : x ≠ 0) : Lit (setLit vals x) y ↔ y = x ∨ (litVar y ≠ litVar x ∧ Lit vals y) := by
  unfold Lit
  rw [valOf_set hx]
  by_cases hv : litVar y = litVar x
  · rw [if_pos hv]
    rcases same_var hv with rfl | rfl
    · simp [sgn, hx0]
    · have := sgn_neg hx0
      rw [this]
      have e : (if x < 0 then (-1 : Int) else 1) = sgn x := rfl
      rw [e]
      constructor
      · rintro ⟨_, h⟩
        rcases sgn_cases x with s | s <;> omega
      · rintro (h | ⟨h, _⟩)
        · omega
        · exact absurd hv h
  · rw [if_neg hv]
    constructor
    · exact fun h => .inr ⟨hv, h⟩
    · rintro (rfl | ⟨_, h⟩)
      · exact absurd rfl hv
      · exact h

section
variable {v : Int} {CS : List (List Int)} {T : Int → Prop}
/-- one pass keeps below every good set; a clause that is false: there is none -/
theorem pass_low (hT : Good CS T) {cs : List (List Int)} (hsub : ∀ c ∈ cs, c ∈ CS) (hcl : ∀ c ∈ cs, Clean v c) {vals : List Int} (ht : Tri vals) (hl : (vals.length : Int) = v + 1) (hle : ∀ x, Lit vals x → T x) {ag : Bool} :
    ∃ vals' ag', pass cs vals ag = some (vals', ag') ∧ Tri vals' ∧ vals'.length = vals.length ∧ (∀ x, Lit vals' x → T x) ∧ (∀ x, Lit vals x → Lit vals' x) := by
  induction cs generalizing vals ag with
  | nil => exact ⟨vals, ag, rfl, ht, rfl, hle, fun _ h => h⟩
  | cons c cs ih =>
    have hc := hcl c List.mem_cons_self
    have hn0 : ∀ x ∈ c, x ≠ 0 := fun x hx => (hc.1 x hx).1
    have hsub' : ∀ c' ∈ cs, c' ∈ CS := fun c' h => hsub c' (List.mem_cons_of_mem _ h)
    have hcl' : ∀ c' ∈ cs, Clean v c' := fun c' h => hcl c' (List.mem_cons_of_mem _ h)
    unfold pass
    rcases hs : scan vals c (0, 0, false) with ⟨f, n, b⟩
    obtain ⟨h1, h2⟩ := scan_spec ht hn0 hs
    simp only
    by_cases hb : b = true ∨ 1 < n
    · rw [if_pos hb]
      exact ih hsub' hcl' ht hl hle
    · rw [if_neg hb]
      have hnl : ∀ x ∈ c, ¬ Lit vals x := fun x hx hlx => hb (.inl (h1.2 (.inr ⟨x, hx, hlx⟩)))
      by_cases hz : n = 0
      · exfalso
        obtain ⟨y, hy, hny⟩ := hT.alive c (hsub c List.mem_cons_self)
        rcases ht.lit (hn0 y hy) with e | e | e
        · have : 0 < c.countP (fun x => valOf vals x == 0) := List.countP_pos_iff.2 ⟨y, hy, by simp [e]⟩
          omega
        · exact hnl y hy e
        · exact hny (hle _ e)
      · rw [if_neg hz]
        obtain ⟨_, h3⟩ := scan_one hs
        rcases h3 with ⟨_, h3⟩ | ⟨_, hf, hv0⟩
        · omega
        · have hff := hc.1 f hf
          have hfv := hff.var
          have hlt : (litVar f).toNat < vals.length := by omega
          have hTf : T f := by
            refine hT.closed c (hsub c List.mem_cons_self) f hf (fun y hy hne => ?_)
            rcases ht.lit (hn0 y hy) with e | e | e
            · exact absurd (count_one (p := fun x => valOf vals x == 0) (by omega) hf (by simp [hv0]) hy (by simp [e])) hne
            · exact absurd e (hnl y hy)
            · exact hle _ e
          obtain ⟨vals', ag', g1, g2, g3, g4, g5⟩ := ih (vals := setLit vals f) (ag := true) hsub' hcl' (ht.set f) (by rw [setLit_len]; exact hl) (fun x hx => by
            rcases (lit_set hlt hff.1).1 hx with rfl | ⟨_, h⟩
            · exact hTf
            · exact hle x h)
          refine ⟨vals', ag', g1, g2, by rw [g3, setLit_len], g4, fun x hx => g5 x ((lit_set hlt hff.1).2 ?_)⟩
          by_cases hvx : litVar x = litVar f
          · rcases same_var hvx with rfl | rfl
            · exact .inl rfl
            · have := hx.2
              rw [valOf_neg, hv0] at this
              rcases sgn_cases (-f) with s | s <;> omega
          · exact .inr ⟨hvx, hx⟩

/-- what one pass does where it ends, and where it changes nothing -/
theorem pass_grow {cs : List (List Int)} (hcl : ∀ c ∈ cs, Clean v c) {vals vals' : List Int} (ht : Tri vals) (hl : (vals.length : Int) = v + 1) {ag ag' : Bool} (hp : pass cs vals ag = some (vals', ag')) :
    Tri vals' ∧ vals'.length = vals.length ∧ (∀ x, Lit vals x → Lit vals' x) ∧ (ag = true → ag' = true) ∧ (ag' = false → vals' = vals ∧ ∀ c ∈ cs, ∀ f n b, scan vals c (0, 0, false) = (f, n, b) → b = true ∨ 1 < n) := by
  induction cs generalizing vals ag with
  | nil =>
    simp only [pass, Option.some.injEq, Prod.mk.injEq] at hp
    obtain ⟨rfl, rfl⟩ := hp
    exact ⟨ht, rfl, fun _ h => h, fun h => h, fun _ => ⟨rfl, by simp⟩⟩
  | cons c cs ih =>
    have hc := hcl c List.mem_cons_self
    have hcl' : ∀ c' ∈ cs, Clean v c' := fun c' h => hcl c' (List.mem_cons_of_mem _ h)
    unfold pass at hp
    rcases hs : scan vals c (0, 0, false) with ⟨f, n, b⟩
    rw [hs] at hp
    simp only at hp
    by_cases hb : b = true ∨ 1 < n
    · rw [if_pos hb] at hp
      obtain ⟨g1, g2, g3, g4, g5⟩ := ih hcl' ht hl hp
      refine ⟨g1, g2, g3, g4, fun h => ⟨(g5 h).1, fun c' hc' f' n' b' hs' => ?_⟩⟩
      rcases List.mem_cons.1 hc' with rfl | hc'
      · rw [hs] at hs'
        injection hs' with e1 e2
        injection e2 with e2 e3
        subst e2 e3
        exact hb
      · exact (g5 h).2 c' hc' f' n' b' hs'
    · rw [if_neg hb] at hp
      by_cases hz : n = 0
      · rw [if_pos hz] at hp
        cases hp
      · rw [if_neg hz] at hp
        obtain ⟨_, h3⟩ := scan_one hs
        rcases h3 with ⟨_, h3⟩ | ⟨_, hf, hv0⟩
        · omega
        · have hff := hc.1 f hf
          have hfv := hff.var
          have hlt : (litVar f).toNat < vals.length := by omega
          obtain ⟨g1, g2, g3, g4, g5⟩ := ih hcl' (ht.set f) (by rw [setLit_len]; exact hl) hp
          have hag := g4 rfl
          refine ⟨g1, by rw [g2, setLit_len], fun x hx => g3 x ((lit_set hlt hff.1).2 ?_), fun _ => hag, fun h => by rw [hag] at h; cases h⟩
          by_cases hvx : litVar x = litVar f
          · rcases same_var hvx with rfl | rfl
            · exact .inl rfl
            · have := hx.2
              rw [valOf_neg, hv0] at this
              rcases sgn_cases (-f) with s | s <;> omega
          · exact .inr ⟨hvx, hx⟩
end

/-- where no clause asks for more, the assignment's literals are a good set -/
theorem good_of_fix {v : Int} {cs : List (List Int)} (hcl : ∀ c ∈ cs, Clean v c) {vals : List Int} (ht : Tri vals) (hfix : ∀ c ∈ cs, ∀ f n b, scan vals c (0, 0, false) = (f, n, b) → b = true ∨ 1 < n) : Good cs (Lit vals) := by
  constructor
  · intro c hc x hx hall
    rcases hs : scan vals c (0, 0, false) with ⟨f, n, b⟩
    obtain ⟨h1, h2⟩ := scan_spec ht (fun x hx => ((hcl c hc).1 x hx).1) hs
    rcases hfix c hc f n b hs with hb | hn
    · rcases h1.1 hb with h | ⟨z, hz, hlz⟩
      · cases h
      · by_cases hzx : z = x
        · rw [← hzx]; exact hlz
        · exact (lit_clash hlz (hall z hz hzx)).elim
    · obtain ⟨y, hy, hp, hne⟩ := count_two (hcl c hc).2 (p := fun x => valOf vals x == 0) (by omega) x
      have := (hall y hy hne).2
      rw [valOf_neg] at this
      have hp' : valOf vals y = 0 := by simpa using hp
      rcases sgn_cases (-y) with s | s <;> omega
  · intro c hc
    rcases hs : scan vals c (0, 0, false) with ⟨f, n, b⟩
    obtain ⟨h1, h2⟩ := scan_spec ht (fun x hx => ((hcl c hc).1 x hx).1) hs
    rcases hfix c hc f n b hs with hb | hn
    · rcases h1.1 hb with h | ⟨z, hz, hlz⟩
      · cases h
      · exact ⟨z, hz, fun h => lit_clash hlz h⟩
    · obtain ⟨y, hy, hp, _⟩ := count_two (hcl c hc).2 (p := fun x => valOf vals x == 0) (by omega) 0
      refine ⟨y, hy, fun h => ?_⟩
      have := h.2
      rw [valOf_neg] at this
      have hp' : valOf vals y = 0 := by simpa using hp
      rcases sgn_cases (-y) with s | s <;> omega

theorem close_spec {v : Int} {cs : List (List Int)} (hcl : ∀ c ∈ cs, Clean v c) (g : Nat) : ∀ {vals : List Int}, Tri vals → (vals.length : Int) = v + 1 → zeros vals < g →
    (close cs g vals = none → ∀ T, Good cs T → ¬ ∀ x, Lit vals x → T x) ∧
    (∀ vals', close cs g vals = some vals' → Tri vals' ∧ vals'.length = vals.length ∧ (∀ x, Lit vals x → Lit vals' x) ∧ Good cs (Lit vals') ∧ ∀ T, Good cs T → (∀ x, Lit vals x → T x) → ∀ x, Lit vals' x → T x) := by
  induction g with
  | zero => intro vals _ _ h; omega
  | succ g ih =>
    intro vals ht hl hz
    have hvar : ∀ c ∈ cs, ∀ x ∈ c, (litVar x).toNat < vals.length := fun c hc x hx => by
      have := ((hcl c hc).1 x hx).var
      omega
    unfold close
    cases hp : pass cs vals false with
    | none =>
      refine ⟨fun _ T hT hle => ?_, fun vals' h => by cases h⟩
      obtain ⟨vals', ag', h1, _⟩ := pass_low hT (fun _ h => h) hcl ht hl hle (ag := false)
      rw [hp] at h1
      cases h1
    | some r =>
      obtain ⟨us, ag⟩ := r
      simp only
      obtain ⟨g1, g2, g3, _, g5⟩ := pass_grow hcl ht hl hp
      have hlow : ∀ T, Good cs T → (∀ x, Lit vals x → T x) → ∀ x, Lit us x → T x := fun T hT hle => by
        obtain ⟨vals', ag', h1, _, _, h4, _⟩ := pass_low hT (fun _ h => h) hcl ht hl hle (ag := false)
        rw [hp] at h1
        injection h1 with h1
        injection h1 with h1 _
        rw [h1]
        exact h4
      cases ag with
      | true =>
        have hzz := (pass_zeros hvar hp).2 rfl
        obtain ⟨i1, i2⟩ := ih (vals := us) g1 (by rw [g2]; exact hl) (by simp at hzz; omega)
        simp only [if_true]
        refine ⟨fun h T hT hle => i1 h T hT (hlow T hT hle), fun vals' h => ?_⟩
        obtain ⟨j1, j2, j3, j4, j5⟩ := i2 vals' h
        exact ⟨j1, by rw [j2, g2], fun x hx => j3 x (g3 x hx), j4, fun T hT hle => j5 T hT (hlow T hT hle)⟩
      | false =>
        obtain ⟨rfl, hfix⟩ := g5 rfl
        simp only [Bool.false_eq_true, if_false]
        refine ⟨fun h => (by cases h), fun vals' h => ?_⟩
        injection h with h
        subst h
        exact ⟨ht, rfl, fun _ h => h, good_of_fix hcl ht hfix, fun T _ hle => hle⟩

/-- Propagate's answer: the least good set above the assumed literals -/
structure Least (cs : List (List Int)) (a : List Int) (S : Int → Prop) : Prop where
  good : Good cs S
  has : ∀ x ∈ a, S x
  least : ∀ T, Good cs T → (∀ x ∈ a, T x) → ∀ x, S x → T x

theorem prop_spec {v : Nat} {cs : List (List Int)} {a : List Int} (hcs : (cnfFault v cs).1 = 0) (ha : clauseCode v none a = 0) :
    (propR v cs a = none → ∀ T, Good cs T → ¬ ∀ x ∈ a, T x) ∧
    (∀ l, propR v cs a = some l → ∃ vals, l = litsOf vals ∧ Tri vals ∧ vals.length = v + 1 ∧ Least cs a (Lit vals)) := by
  obtain ⟨vals, hasm, hv⟩ := assume_some ha
  have hcl : ∀ c ∈ cs, Clean v c := fun c hc => clean_of_code ((cnfFault_ok.1 hcs).2.2 c hc)
  have hlen : ∀ {l us us' : List Int}, assume us l = some us' → us'.length = us.length := by
    intro l
    induction l with
    | nil => intro us us' h; simp only [assume, Option.some.injEq] at h; rw [h]
    | cons x xs ih =>
      intro us us' h
      unfold assume at h
      split at h
      · cases h
      · rw [ih h, setLit_len]
  have htri : ∀ {l us us' : List Int}, Tri us → assume us l = some us' → Tri us' := by
    intro l
    induction l with
    | nil => intro us us' ht h; simp only [assume, Option.some.injEq] at h; rw [← h]; exact ht
    | cons x xs ih =>
      intro us us' ht h
      unfold assume at h
      split at h
      · cases h
      · exact ih (ht.set x) h
  have ht : Tri vals := htri (fun y hy => by rw [(List.mem_replicate.1 hy).2]; omega) hasm
  have hl : vals.length = v + 1 := by rw [hlen hasm, List.length_replicate]
  have hlit : ∀ x, Lit vals x ↔ x ∈ a := by
    intro x
    unfold Lit
    constructor
    · rintro ⟨h0, h1⟩
      rw [hv x h0] at h1
      by_cases hx : x ∈ a
      · exact hx
      · rw [if_neg hx] at h1
        split at h1 <;> rcases sgn_cases x with s | s <;> omega
    · intro hx
      have h0 := (code_fits ha x hx).1
      exact ⟨h0, by rw [hv x h0, if_pos hx]⟩
  have hz : zeros vals < v + 2 := by
    have := List.countP_le_length (p := (· == 0)) (l := vals)
    unfold zeros
    omega
  obtain ⟨c1, c2⟩ := close_spec hcl (v + 2) ht (by omega) hz
  have hpr : propR v cs a = (close cs (v + 2) vals).map litsOf := by rw [propR, hasm]
  refine ⟨fun h T hT hall => ?_, fun l h => ?_⟩
  · rw [hpr, Option.map_eq_none_iff] at h
    exact c1 h T hT (fun x hx => hall x ((hlit x).1 hx))
  · rw [hpr, Option.map_eq_some_iff] at h
    obtain ⟨us, hu, rfl⟩ := h
    obtain ⟨d1, d2, d3, d4, d5⟩ := c2 us hu
    exact ⟨us, rfl, d1, by omega, d4, fun x hx => d3 x ((hlit x).2 hx), fun T hT hall x hx => d5 T hT (fun y hy => hall y ((hlit y).1 hy)) x hx⟩

/-- the literals that are handed back -/
theorem litsFrom_mem {u : Nat} {vals : List Int} (hu : 1 ≤ u) (ht : Tri vals) (x : Int) : x ∈ litsFrom u vals ↔ x ≠ 0 ∧ (u : Int) ≤ litVar x ∧ vals[(litVar x).toNat - u]? = some (sgn x) := by
  induction vals generalizing u with
  | nil => simp [litsFrom]
  | cons y ys ih =>
    have ht' : Tri ys := fun z hz => ht z (List.mem_cons_of_mem _ hz)
    have hy := ht y List.mem_cons_self
    have hstep : x ∈ litsFrom (u + 1) ys ↔ x ≠ 0 ∧ (u : Int) + 1 ≤ litVar x ∧ ys[(litVar x).toNat - (u + 1)]? = some (sgn x) := by
      have := ih (u := u + 1) (by omega) ht'
      simpa using this
    have hge : ∀ {P : Prop}, (x ≠ 0 ∧ (u : Int) ≤ litVar x ∧ (y :: ys)[(litVar x).toNat - u]? = some (sgn x)) ↔ ((x ≠ 0 ∧ litVar x = u ∧ y = sgn x) ∨ (x ≠ 0 ∧ (u : Int) + 1 ≤ litVar x ∧ ys[(litVar x).toNat - (u + 1)]? = some (sgn x))) := by
      intro _
      constructor
      · rintro ⟨h0, h1, h2⟩
        by_cases he : litVar x = u
        · rw [he, Int.toNat_natCast, Nat.sub_self] at h2
          exact .inl ⟨h0, he, by simpa using h2⟩
        · have : (litVar x).toNat - u = ((litVar x).toNat - (u + 1)) + 1 := by omega
          rw [this] at h2
          exact .inr ⟨h0, by omega, by simpa using h2⟩
      · rintro (⟨h0, h1, h2⟩ | ⟨h0, h1, h2⟩)
        · refine ⟨h0, by omega, ?_⟩
          rw [h1, Int.toNat_natCast, Nat.sub_self, ← h2]
          rfl
        · refine ⟨h0, by omega, ?_⟩
          have : (litVar x).toNat - u = ((litVar x).toNat - (u + 1)) + 1 := by omega
          rw [this]
          simpa using h2
    rw [hge (P := True)]
    unfold litsFrom
    by_cases h0 : y = 0
    · rw [if_pos h0, hstep]
      constructor
      · exact .inr
      · rintro (⟨_, _, h⟩ | h)
        · rcases sgn_cases x with s | s <;> omega
        · exact h
    · rw [if_neg h0, List.mem_cons, hstep]
      have hhead : x = (u : Int) * y ↔ (x ≠ 0 ∧ litVar x = u ∧ y = sgn x) := by
        unfold sgn litVar
        rcases hy with rfl | rfl | rfl
        · constructor
          · intro h
            refine ⟨by omega, by omega, ?_⟩
            rw [if_pos (by omega)]
          · rintro ⟨h1, h2, h3⟩
            split at h3 <;> omega
        · exact absurd rfl h0
        · constructor
          · intro h
            refine ⟨by omega, by omega, ?_⟩
            rw [if_neg (by omega)]
          · rintro ⟨h1, h2, h3⟩
            split at h3 <;> omega
      rw [hhead]
theorem litsOf_mem {vals : List Int} (ht : Tri vals) (x : Int) : x ∈ litsOf vals ↔ Lit vals x := by
  have ht' : Tri (vals.drop 1) := fun z hz => ht z (List.mem_of_mem_drop hz)
  rw [litsOf, litsFrom_mem (Nat.le_refl 1) ht', List.getElem?_drop]
  unfold Lit valOf
  rw [List.getD_eq_getElem?_getD]
  constructor
  · rintro ⟨h0, h1, h2⟩
    rw [show 1 + ((litVar x).toNat - 1) = (litVar x).toNat from by omega] at h2
    exact ⟨h0, by rw [h2]; rfl⟩
  · rintro ⟨h0, h1⟩
    have hp := litVar_pos h0
    refine ⟨h0, by omega, ?_⟩
    rw [show 1 + ((litVar x).toNat - 1) = (litVar x).toNat from by omega]
    cases hx : vals[(litVar x).toNat]? with
    | none =>
      rw [hx] at h1
      simp only [Option.getD_none] at h1
      rcases sgn_cases x with s | s <;> omega
    | some z =>
      rw [hx] at h1
      simp only [Option.getD_some] at h1
      rw [h1]
theorem lit_fits {v : Nat} {vals : List Int} (hl : vals.length = v + 1) {x : Int} (h : Lit vals x) : Fits v x := by
  have hp := litVar_pos h.1
  have : (litVar x).toNat < vals.length := by
    rcases Nat.lt_or_ge (litVar x).toNat vals.length with h1 | h1
    · exact h1
    · have := h.2
      rw [valOf, List.getD_eq_getElem?_getD, List.getElem?_eq_none h1] at this
      simp only [Option.getD_none] at this
      rcases sgn_cases x with s | s <;> omega
  refine ⟨h.1, ?_, ?_⟩ <;> unfold litVar at this <;> omega
end Go.Proofs.Ytnfeknfakkdbhaa
