/- Behind an undo; the measure of the search; append in a drawn region. -/
import Derived.Test.YtnfeknfakkdbhaaRs9
import Derived.Deep.RegionLaw
namespace Go.Proofs.Ytnfeknfakkdbhaa
set_option linter.unusedVariables false
set_option linter.unusedSimpArgs false
open Go.RowKit

theorem lit_zero {vals : List Int} {q : Nat} {x : Int} : Lit (vals.set q 0) x ↔ Lit vals x ∧ (litVar x).toNat ≠ q := by
  unfold Lit valOf
  rw [List.getD_eq_getElem?_getD, List.getD_eq_getElem?_getD, List.getElem?_set]
  by_cases h : q = (litVar x).toNat
  · rw [if_pos h]
    constructor
    · rintro ⟨_, h2⟩
      exfalso
      split at h2
      · rcases sgn_cases x with e | e <;> simp at h2 <;> omega
      · rcases sgn_cases x with e | e <;> simp at h2 <;> omega
    · rintro ⟨_, h2⟩
      exact absurd h.symm h2
  · rw [if_neg h]
    constructor
    · exact fun h2 => ⟨h2, fun e => h e.symm⟩
    · exact fun h2 => h2.1
theorem lit_undoF : ∀ (D vals : List Int) (x : Int), Lit (undoF vals D) x ↔ Lit vals x ∧ ∀ y ∈ D, (litVar x).toNat ≠ (litVar y).toNat := by
  intro D
  induction D with
  | nil => intro vals x; simp [undoF]
  | cons y D ih =>
    intro vals x
    rw [undoF, ih, lit_zero]
    constructor
    · rintro ⟨⟨h1, h2⟩, h3⟩
      refine ⟨h1, fun z hz => ?_⟩
      rcases List.mem_cons.1 hz with rfl | hz
      · exact h2
      · exact h3 z hz
    · rintro ⟨h1, h2⟩
      exact ⟨⟨h1, h2 y (List.mem_cons_self ..)⟩, fun z hz => h2 z (List.mem_cons_of_mem _ hz)⟩
theorem undoF_len : ∀ (D vals : List Int), (undoF vals D).length = vals.length := by
  intro D
  induction D with
  | nil => intro vals; rfl
  | cons y D ih => intro vals; rw [undoF, ih, List.length_set]
theorem undoF_tri : ∀ (D vals : List Int), Tri vals → Tri (undoF vals D) := by
  intro D
  induction D with
  | nil => intro vals h; exact h
  | cons y D ih =>
    intro vals h
    rw [undoF]
    refine ih _ (fun z hz => ?_)
    rcases List.mem_or_eq_of_mem_set hz with hz | hz
    · exact h z hz
    · omega
theorem St.undo {V : Nat} {cs : List (List Int)} {starts : List Nat} {t vals lev rea : List Int} (h : St V cs starts t vals lev rea) {C : List Int} (hC : Learnt V cs starts t (Lf lev) C) (hcl : Clean V C) {b : Nat} (hb : (b : Int) = backF (Lf lev) starts.length C 0) {s : Nat} (hs : starts[b]? = some s) :
    St V (cs ++ [C]) (starts.take b) (t.take s) (undoF vals (t.drop s)) lev rea ∧ Fresh (cs ++ [C]) (t.take s) := by
  obtain ⟨h1, h2⟩ := h.inv.undo hC hcl hb hs
  refine ⟨⟨h1, undoF_tri _ _ h.tri, fun x hx => ?_, by rw [undoF_len, h.vlen], h.llen, h.rlen⟩, h2⟩
  rw [lit_undoF, h.lit x hx]
  have hap := h.inv.tr.apart
  rw [← List.take_append_drop s t, List.pairwise_append] at hap
  constructor
  · rintro ⟨h3, h4⟩
    rw [← List.take_append_drop s t] at h3
    rcases List.mem_append.1 h3 with h3 | h3
    · exact h3
    · exact absurd rfl (h4 x h3)
  · intro h3
    refine ⟨List.mem_of_mem_take h3, fun y hy e => hap.2.2 x h3 y hy ?_⟩
    unfold litVar at e ⊢
    omega
/-- the measure of the search -/
def meas (A V wlo tlo : Nat) : Nat := (A - wlo) * (V + 2) + (V + 1 - tlo)
theorem meas_conf {A V wlo tlo wlo' tlo' : Nat} (h : wlo < wlo') (h2 : wlo' ≤ A) : meas A V wlo' tlo' < meas A V wlo tlo := by
  unfold meas
  have := Nat.mul_le_mul_right (V + 2) (show A - wlo' + 1 ≤ A - wlo by omega)
  rw [Nat.add_mul, Nat.one_mul] at this
  omega
theorem meas_dec {A V wlo tlo wlo' tlo' : Nat} (h : wlo ≤ wlo') (h1 : tlo < tlo') (h2 : tlo ≤ V) : meas A V wlo' tlo' < meas A V wlo tlo := by
  unfold meas
  have := Nat.mul_le_mul_right (V + 2) (show A - wlo' ≤ A - wlo by omega)
  omega
/-- append in a region that draws -/
theorem step_pushA {P : Program} {w : World} {ops : Array Oper} {o : Oper} {a : Act} {K : Act → World → Prop} {Q : Exit → Act → World → Prop} {E : Prop} (hgd : o.guard = none) (s x : Operand) (t : TypeId)
    (ho : o.op = .call { callee := .builtin .append, args := #[s, x], argTypes := #[t, t] })
    (base : Nat) (e : TypeId) (i : TypeInfo) (z : Value) (size bytes : Nat) (ht : P.underlying t = some (.slice e)) (hi : P.info? e = some i) (hz : i.zero = some z)
    (hsize : i.size = size) (hby : i.bytes = bytes) (hzs : z.cells.size = size) (hsz : 0 < size)
    (v : Value) (n : Nat) (xs : List Value) (hs : a.eval s = v) (hown : w.ownsRow base e size v n xs)
    (us : List Value) (hus : us.length = size) (h1 : ∀ u ∈ us, u.oneCell' = true) (hx : a.eval x = .slice (some ⟨w.heap.size, 0, none⟩) 1 1)
    (h63 : n + 1 ≤ 1000000000000) (hbytes : (n + 1) * bytes ≤ 140737488355328) (hbase : base ≤ w.heap.size)
    (h : ∀ O oc w', w'.ownsRow base e size (.slice O (n + 1) oc) (n + 1) (xs ++ us) → (w.alloc (.cells us.toArray e)).grownBy w' v.ownBlock → ((Value.slice O (n + 1) oc).ownBlock = v.ownBlock ∨ (Value.slice O (n + 1) oc).ownBlock = some (w.heap.size + 1)) → K (a.put o.dst (.slice O (n + 1) oc)) w') :
    if Region.wanted o (yielded ops a.tmps) = true then Oper.wp P o a (w.alloc (.cells us.toArray e)) K Q else E := by
  have hw : Region.wanted o (yielded ops a.tmps) = true := by simp [Region.wanted, hgd]
  rw [if_pos hw]
  obtain ⟨g, cap', w', hr, h2, h3, h4, h5⟩ := run_append_lies (P := P) (w := w.alloc (.cells us.toArray e)) t o.type base e i z size bytes ht hi hz hsize hby hzs hsz _ n xs (hown.alloc _) ⟨w.heap.size, 0, none⟩ 1 1 us (by omega) (by
    intro j u hj
    rw [add_plain, Nat.zero_add]
    have := (Blk.new w e us).cell j
    rw [hj] at this
    exact this) h1 (by omega) (by unfold maxLen; omega) hbytes (by simp; omega) (w.heap.size + 1) (by simp)
  unfold Oper.wp execOp
  simp only [ho, resolve, invoke, builtin, Sem.run_bind, Sem.run_pure, Result.andThen_ok, List.map_toArray, List.map_cons, List.map_nil, hs, hx, hr]
  refine h _ cap' w' h2 h3 ?_
  rcases h4 with h4 | h4
  · exact .inl (by rw [h4]; rfl)
  · exact .inr (by rw [h4]; rfl)
/-- how the search ends -/
def RunP (B : Nat) (w : World) (g V : Nat) (cs0 : List (List Int)) (most : Int) (e : Ending) (w' : World) : Prop :=
  Below B w w' ∧ ∃ (a : SA) (cs ln : List (List Int)) (vals lev rea t : List Int) (starts : List Nat), Sv B w' g a V cs ln vals lev rea t starts ∧ Rups cs0 ln ∧ (∀ C ∈ ln, Clean V C) ∧ (most = 4000 → ln.length ≤ 4000) ∧
    ((e = .returned (.tuple #[.bool true, .bool true]) ∧ cs = cs0 ++ ln ∧ St V cs starts t vals lev rea ∧ (∀ c ∈ cs, Calm c t) ∧ ∀ v, 1 ≤ v → v ≤ V → Lf vals v ≠ 0) ∨
     (e = .returned (.tuple #[.bool false, .bool true]) ∧ ∃ ln', ln = ln' ++ [[]]) ∨
     (e = .returned (.tuple #[.bool false, .bool false]) ∧ (ln.length : Int) = most ∧ ln.length < 2 ^ V))
theorem conflict_base {V : Nat} {cs : List (List Int)} {t : List Int} {lev rea : Nat → Int} (h : Inv V cs [] t lev rea) {c : List Int} (hc : c ∈ cs) (hneg : ∀ y ∈ c, -y ∈ t) : ∀ T, Good cs T → ¬ ∀ y ∈ ([] : List Int), T (-y) := fun T hT _ => by
  obtain ⟨y, hy, hn⟩ := hT.alive c hc
  obtain ⟨j, hj⟩ := List.getElem?_of_mem (hneg y hy)
  exact hn (h.low hT j j _ (Nat.le_refl _) hj rfl)
/-- what is known at the head of the search -/
def Ahead (V : Nat) (cs : List (List Int)) (starts : List Nat) (t : List Int) (wlo tlo : Nat) : Prop := ∀ n, t.length ≤ n → (Fresh cs t → t.length < n) → n ≤ V → wlo ≤ potW V starts n ∧ tlo ≤ n
end Go.Proofs.Ytnfeknfakkdbhaa
