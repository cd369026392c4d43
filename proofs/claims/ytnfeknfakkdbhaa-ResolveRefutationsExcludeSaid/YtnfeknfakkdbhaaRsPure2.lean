/- The solver's state with its arrays: what a scan of a clause tells, what an assignment does. -/
import Derived.Test.YtnfeknfakkdbhaaRsPure
namespace Go.Proofs.Ytnfeknfakkdbhaa

def Lf (l : List Int) : Nat → Int := fun v => l.getD v 0
theorem Lf_set {l : List Int} {q : Nat} (h : q < l.length) (y : Int) (v : Nat) : Lf (l.set q y) v = if v = q then y else Lf l v := by
  unfold Lf
  rw [List.getD_eq_getElem?_getD, List.getD_eq_getElem?_getD, List.getElem?_set]
  by_cases e : q = v
  · rw [if_pos e, if_pos e.symm, if_pos (by omega)]
    rfl
  · rw [if_neg e, if_neg (fun h => e h.symm)]
def ofV (vals : List Int) (x : Int) : Int := if x < 0 then -valOf vals x else valOf vals x
structure St (V : Nat) (cs : List (List Int)) (starts : List Nat) (t vals lev rea : List Int) : Prop where
  inv : Inv V cs starts t (Lf lev) (Lf rea)
  tri : Tri vals
  lit : ∀ x, x ≠ 0 → (Lit vals x ↔ x ∈ t)
  vlen : vals.length = V + 1
  llen : lev.length = V + 1
  rlen : rea.length = V + 1
theorem scan_of0 {vals : List Int} {x f : Int} {n : Nat} {b : Bool} {xs : List Int} (h : ofV vals x = 0) : scan vals (x :: xs) (f, n, b) = scan vals xs (x, n + 1, b) := by
  have : valOf vals x = 0 := by unfold ofV at h; split at h <;> omega
  rw [scan, if_pos this]
theorem scan_of1 {vals : List Int} {x f : Int} {n : Nat} {b : Bool} {xs : List Int} (hx : x ≠ 0) (h : ofV vals x = 1) : scan vals (x :: xs) (f, n, b) = scan vals xs (f, n, true) := by
  rw [scan]
  by_cases hn : x < 0
  · unfold ofV at h
    rw [if_pos hn] at h
    rw [if_neg (by omega), if_pos (by rw [decide_eq_false (by omega), decide_eq_false (by omega)])]
  · unfold ofV at h
    rw [if_neg hn] at h
    rw [if_neg (by omega), if_pos (by rw [decide_eq_true (by omega), decide_eq_true (by omega)])]
theorem scan_of2 {vals : List Int} {x f : Int} {n : Nat} {b : Bool} {xs : List Int} (hx : x ≠ 0) (h : ofV vals x = -1) : scan vals (x :: xs) (f, n, b) = scan vals xs (f, n, b) := by
  rw [scan]
  by_cases hn : x < 0
  · unfold ofV at h
    rw [if_pos hn] at h
    rw [if_neg (by omega), if_neg (by rw [decide_eq_true (by omega), decide_eq_false (by omega)]; simp)]
  · unfold ofV at h
    rw [if_neg hn] at h
    rw [if_neg (by omega), if_neg (by rw [decide_eq_false (by omega), decide_eq_true (by omega)]; simp)]
theorem ofV_tri {vals : List Int} (h : Tri vals) (x : Int) : ofV vals x = 0 ∨ ofV vals x = 1 ∨ ofV vals x = -1 := by
  have := h.val x
  unfold ofV
  split <;> omega
section
variable {V : Nat} {cs : List (List Int)} {starts : List Nat} {t vals lev rea : List Int}
theorem St.free (h : St V cs starts t vals lev rea) {x : Int} (hx : x ≠ 0) : valOf vals x = 0 ↔ x ∉ t ∧ -x ∉ t := by
  have h1 := h.lit x hx
  have h2 := h.lit (-x) (by omega)
  constructor
  · intro h0
    refine ⟨fun hm => ?_, fun hm => ?_⟩
    · have := (h1.2 hm).2
      rcases sgn_cases x with e | e <;> omega
    · have := (h2.2 hm).2
      rw [valOf_neg] at this
      rcases sgn_cases (-x) with e | e <;> omega
  · rintro ⟨n1, n2⟩
    rcases h.tri.lit hx with h0 | h0 | h0
    · exact h0
    · exact absurd (h1.1 h0) n1
    · exact absurd (h2.1 h0) n2
theorem St.scan (h : St V cs starts t vals lev rea) {c : List Int} (hc : c ∈ cs) {f : Int} {n : Nat} {b : Bool} (hs : scan vals c (0, 0, false) = (f, n, b)) :
    (b = true ∨ 1 < n → Calm c t) ∧ (¬ (b = true ∨ 1 < n) → n = 0 → ∀ y ∈ c, -y ∈ t) ∧ (¬ (b = true ∨ 1 < n) → n ≠ 0 → f ∈ c ∧ f ∉ t ∧ -f ∉ t ∧ ∀ y ∈ c, y ≠ f → -y ∈ t) := by
  have hcl := h.inv.clean c hc
  have hc0 : ∀ x ∈ c, x ≠ 0 := fun x hx => (hcl.1 x hx).1
  obtain ⟨s1, s2⟩ := scan_spec h.tri hc0 hs
  obtain ⟨_, s3⟩ := scan_one hs
  rw [Nat.zero_add] at s2
  have hfalse : b ≠ true → ∀ y ∈ c, valOf vals y ≠ 0 → -y ∈ t := fun hb y hy h0 => by
    rcases h.tri.lit (hc0 y hy) with h1 | h1 | h1
    · exact absurd h1 h0
    · exact absurd (s1.2 (.inr ⟨y, hy, h1⟩)) hb
    · exact (h.lit (-y) (by have := hc0 y hy; omega)).1 h1
  refine ⟨fun hb => ?_, fun hb hn y hy => ?_, fun hb hn => ?_⟩
  · rcases hb with hb | hb
    · rcases s1.1 hb with h0 | ⟨x, hx, hl⟩
      · cases h0
      · exact .inl ⟨x, hx, (h.lit x (hc0 x hx)).1 hl⟩
    · have h2 : 1 < c.countP (fun x => valOf vals x == 0) := by omega
      obtain ⟨y, hy, hpy, _⟩ := count_two hcl.2 h2 0
      obtain ⟨z, hz, hpz, hne⟩ := count_two hcl.2 h2 y
      have e1 := (h.free (hc0 y hy)).1 (by simpa using hpy)
      have e2 := (h.free (hc0 z hz)).1 (by simpa using hpz)
      exact .inr ⟨y, hy, z, hz, Ne.symm hne, e1.1, e1.2, e2.1, e2.2⟩
  · simp only [not_or] at hb
    refine hfalse hb.1 y hy (fun h0 => ?_)
    have : 0 < c.countP (fun x => valOf vals x == 0) := List.countP_pos_iff.2 ⟨y, hy, by simpa using h0⟩
    omega
  · simp only [not_or] at hb
    rcases s3 with ⟨_, e⟩ | ⟨_, hf, hf0⟩
    · exact absurd e hn
    · have e1 := (h.free (hc0 f hf)).1 hf0
      refine ⟨hf, e1.1, e1.2, fun y hy hne => hfalse hb.1 y hy (fun h0 => hne ?_)⟩
      exact count_one (p := fun x => valOf vals x == 0) (by omega) hf (by simpa using hf0) hy (by simpa using h0)
theorem lit_snoc {vals : List Int} {x : Int} {t : List Int} (hl : ∀ x, x ≠ 0 → (Lit vals x ↔ x ∈ t)) (hx0 : x ≠ 0) (hxl : (litVar x).toNat < vals.length) (h1 : x ∉ t) (h2 : -x ∉ t) : ∀ y, y ≠ 0 → (Lit (setLit vals x) y ↔ y ∈ t ++ [x]) := by
  intro y hy
  rw [lit_set hxl hx0, List.mem_append, List.mem_singleton]
  constructor
  · rintro (rfl | ⟨_, h⟩)
    · exact .inr rfl
    · exact .inl ((hl y hy).1 h)
  · rintro (h | rfl)
    · refine .inr ⟨fun e => ?_, (hl y hy).2 h⟩
      rcases same_var e with rfl | e
      · exact h1 h
      · exact h2 (e ▸ h)
    · exact .inl rfl
theorem St.assign (h : St V cs starts t vals lev rea) {i : Nat} {c : List Int} {x : Int} (hc : cs[i]? = some c) (hx : x ∈ c) (h1 : x ∉ t) (h2 : -x ∉ t) (hall : ∀ y ∈ c, y ≠ x → -y ∈ t) :
    St V cs starts (t ++ [x]) (setLit vals x) (lev.set (litVar x).toNat starts.length) (rea.set (litVar x).toNat i) := by
  have hfx := (h.inv.clean c (List.mem_of_getElem? hc)).1 x hx
  have hv := hfx.var
  have hq : (litVar x).toNat < V + 1 := by omega
  refine ⟨h.inv.assign hc hx h1 h2 hall (fun v => Lf_set (by rw [h.llen]; exact hq) _ v) (fun v => Lf_set (by rw [h.rlen]; exact hq) _ v), h.tri.set x, lit_snoc h.lit hfx.1 (by rw [h.vlen]; exact hq) h1 h2, by rw [setLit_len, h.vlen], by rw [List.length_set, h.llen], by rw [List.length_set, h.rlen]⟩
theorem St.decide (h : St V cs starts t vals lev rea) {x : Int} (hfx : Fits V x) (h1 : x ∉ t) (h2 : -x ∉ t) (hcalm : ∀ c ∈ cs, Calm c t) (r : Int) :
    St V cs (starts ++ [t.length]) (t ++ [x]) (setLit vals x) (lev.set (litVar x).toNat (starts.length + 1 : Nat)) (rea.set (litVar x).toNat r) := by
  have hv := hfx.var
  have hq : (litVar x).toNat < V + 1 := by omega
  refine ⟨h.inv.decide hfx h1 h2 hcalm (fun v => Lf_set (by rw [h.llen]; exact hq) _ v) (fun v hne => by rw [Lf_set (by rw [h.rlen]; exact hq), if_neg hne]), h.tri.set x, lit_snoc h.lit hfx.1 (by rw [h.vlen]; exact hq) h1 h2, by rw [setLit_len, h.vlen], by rw [List.length_set, h.llen], by rw [List.length_set, h.rlen]⟩
/-- no clause is false and none asks for more: not where one did -/
theorem fresh_calm {t : List Int} {V : Nat} (ht : Trail V t) (hf : Fresh cs t) (hc : ∀ c ∈ cs, Calm c t) : False := by
  obtain ⟨_, c, hcc, x, hx, h1, h2, h3⟩ := hf
  rcases hc c hcc with ⟨y, hy, hyt⟩ | ⟨y, hy, z, hz, hyz, n1, n2, n3, n4⟩
  · by_cases e : y = x
    · exact h1 (e ▸ hyt)
    · exact ht.clash hyt (h3 y hy e)
  · by_cases e : y = x
    · exact n4 (h3 z hz (fun e2 => hyz (e.trans e2.symm)))
    · exact n2 (h3 y hy e)
theorem fresh_false {t : List Int} {V : Nat} (ht : Trail V t) (hf : Fresh cs t) {c : List Int} (hc : c ∈ cs) (hneg : ∀ y ∈ c, -y ∈ t) : False := by
  rcases hf.1 c hc with (⟨y, hy, hyt⟩ | ⟨y, hy, z, hz, hyz, n1, n2, n3, n4⟩) | ⟨x, hx, h1, h2, h3⟩
  · exact ht.clash hyt (hneg y hy)
  · exact n2 (hneg y hy)
  · exact h2 (hneg x hx)
end
end Go.Proofs.Ytnfeknfakkdbhaa
