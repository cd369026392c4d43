/- The law HierarchyPlanMatchesSpec of the package hierarchy holds, without a condition., part 22: Hf. -/
import Derived.Test.YtmjiiddncbhgpaaGreatF1
import Derived.BigQuiet
import Derived.BigRegionIn
import Derived.Deep.AppendLies
import Derived.Deep.Draws
import Derived.Deep.Fields
import Derived.Deep.LoopGhost
import Derived.Deep.QuietTactic
import Derived.Deep.Slices
import Derived.Laws.AppendOwnNone
import Derived.Laws.OwnMore
import Derived.Lib.Hide
import Derived.OrdersHeld
import Derived.OrdersIn
import Derived.RangeFuncKeeps
import Derived.Test.YtmjiiddncbhgpaaGreatProg
import Derived.WalkKit
namespace Go.Proofs.YtmjiiddncbhgpaaGreat
set_option linter.unusedVariables false
set_option linter.unusedSimpArgs false
open Go.RowKit
section
variable {F : Fence} {n : Nat} {P : Program} {ops : Array Oper} {Q : Exit → Act → World → Prop} {md : Region.Mode} {S : World → Prop}
/-- it reads v wherever S holds, and calls nobody -/
structure ReadsIf (P : Program) (ops : Array Oper) (S : World → Prop) (o : Oper) (v : Value) (a : Act) : Prop where
  reads : YieldsIf P ops S o v a
  alone : ∀ w, o.about P w a.eval = none
/-- what an operation leaves behind: the frame with one slot more, or one deferred call more -/
def FrameOf (o : Oper) (a a' : Act) : Prop := (∃ u, a' = a.put o.dst u) ∨ ∃ d, a' = ({ a with defers := d :: a.defers } : Act).put o.dst undef
theorem ReadsIf.next {oi oj : Oper} {v : Value} {a a' : Act} (h : ReadsIf P ops S oi v a) (hs : ∀ cs b, oi.op ≠ .select cs b) (h3 : ∀ d, oj.dst = some d → d ∉ oi.looksAt ops) (hf : FrameOf oj a a') : ReadsIf P ops S oi v a' := by
  have put : ∀ b : Act, ReadsIf P ops S oi v b → ∀ u, ReadsIf P ops S oi v (b.put oj.dst u) := fun b hb u =>
    ⟨hb.reads.of_same (execOp_put oi hs b oj.dst u h3) (wanted_put oi b oj.dst u h3), fun w => (about_put oi w b oj.dst u h3).trans (hb.alone w)⟩
  rcases hf with ⟨u, rfl⟩ | ⟨d, rfl⟩
  · exact put a h u
  · exact put { a with defers := d :: a.defers } ⟨h.reads.of_same rfl rfl, fun w => h.alone w⟩ undef
theorem op_frame {j : Nat} {oj : Oper} (hro : F.round = none) (hj : ops[j]? = some oj) {K : Act → World → Prop} {a : Act} {w : World} (h : wpOpIn F n P ops Q j K a w) : wpOpIn F n P ops Q j (fun a' w' => FrameOf oj a a' ∧ K a' w') a w := by
  unfold wpOpIn at h ⊢
  rw [hj] at h ⊢
  simp only at h ⊢
  split
  · rename_i hw
    rw [if_pos hw] at h
    unfold Oper.wpIn at h ⊢
    refine ⟨h.1, ?_⟩
    have h2 := h.2
    generalize (oj.semAt F.round a.eval).run P w = r at h2 ⊢
    cases r with
    | halt x w' => cases x <;> exact h2
    | ok x w' =>
      cases x <;> simp only [Oper.uponIn] at h2 ⊢
      case value u => exact ⟨.inl ⟨u, rfl⟩, h2⟩
      case skip => exact ⟨.inl ⟨undef, rfl⟩, h2⟩
      case defer d => exact ⟨.inr ⟨d, rfl⟩, h2⟩
      case enter f args => exact ⟨h2.1, CallsIn.mono h2.2 fun e w'' he => by
        cases e with
        | returned u => exact ⟨.inl ⟨u, rfl⟩, he⟩
        | _ => exact he⟩
      case row row args => exact ⟨h2.1, RowsIn.mono h2.2 fun u w'' he => ⟨.inl ⟨u, rfl⟩, he⟩⟩
      case round l f tmps assign body => exact ⟨h2.1, RoundIn.mono h2.2 fun e w'' he => by
        cases e with
        | returned u => exact ⟨.inl ⟨u, rfl⟩, he⟩
        | _ => exact he⟩
  · rename_i hw
    rw [if_neg hw] at h
    exact ⟨h.1, .inl ⟨undef, rfl⟩, h.2⟩
/-- whatever comes next, S holds behind it, as long as operation c has not come -/
def HeldIn (F : Fence) (n : Nat) (P : Program) (md : Region.Mode) (ops : Array Oper) (Q : Exit → Act → World → Prop) (S : World → Prop) (c : Nat) : Nat → Array Bool → Act → World → Prop
  | 0, L, a, w => Region.ready md ops L = [] ∧ Q .normal a w
  | k + 1, L, a, w => (Region.ready md ops L = [] → Q .normal a w) ∧ ∀ i ∈ Region.ready md ops L, wpOpIn F n P ops Q i (fun a' w' => ((L.setIfInBounds i true).getD c true = false → S w') ∧ HeldIn F n P md ops Q S c k (L.setIfInBounds i true) a' w') a w
theorem HeldIn.any {c : Nat} : ∀ (k : Nat) (L : Array Bool) (a : Act) (w : World), HeldIn F n P md ops Q S c k L a w → wpAnyIn F n P md ops Q k L a w
  | 0, _, _, _, h => h
  | k + 1, _, _, _, h => ⟨h.1, fun i hi => wpOpIn_mono (fun a' w' h' => HeldIn.any k _ a' w' h'.2) (h.2 i hi)⟩
/-- a const in the place of what it reads: it may come ahead of another one -/
theorem HeldIn.swap {j : Nat} {oi oj : Oper} {v : Value} (hro : F.round = none) (hj : ops[j]? = some oj) (hap : oi.apart ops oj = true) (hsi : ∀ cs b, oi.op ≠ .select cs b) (hsj : ∀ cs b, oj.op ≠ .select cs b)
    (hQ : ∀ c a w, Q (.panic c) (a.put oi.dst v) w → Q (.panic c) a w) {K : Act → World → Prop} {a : Act} {w : World} (hy : ReadsIf P ops S oi v a) (h : wpOpIn F n P ops Q j K (a.put oi.dst v) w) :
    wpOpIn F n P ops Q j (fun a' w' => ReadsIf P ops S oi v a' ∧ K (a'.put oi.dst v) w') a w := by
  obtain ⟨h1, h2, h3⟩ := Oper.apart_spec hap
  have key : wpOpIn F n P ops Q j (fun a' w' => K (a'.put oi.dst v) w') a w := by
    unfold wpOpIn at h ⊢
    rw [hj] at h ⊢
    simp only at h ⊢
    rw [wanted_put oj a oi.dst v h1, about_put oj w a oi.dst v h1] at h
    split
    · rename_i hw
      rw [if_pos hw] at h
      unfold Oper.wpIn at h ⊢
      rw [about_put oj w a oi.dst v h1] at h
      refine ⟨h.1, ?_⟩
      have g := h.2
      rw [hro, Oper.semAt_none, execOp_put oj hsj a oi.dst v h1] at g
      rw [hro, Oper.semAt_none]
      generalize (execOp a.eval oj).run P w = r at g ⊢
      have com : ∀ (b : Act) (u : Value), (b.put oi.dst v).put oj.dst u = (b.put oj.dst u).put oi.dst v := fun b u => Act.put_comm b v u h2
      cases r with
      | halt x w' => cases x <;> simp only [Oper.uponIn] at g ⊢ <;> first | exact hQ _ _ _ g | exact g
      | ok x w' =>
        cases x <;> simp only [Oper.uponIn] at g ⊢
        case value u => rw [← com]; exact g
        case skip => rw [← com]; exact g
        case defer d => rw [← com, ← Act.put_defers]; exact g
        case enter f args => exact ⟨g.1, CallsIn.mono g.2 fun e w'' he => by
          cases e with
          | returned u => simp only at he ⊢; rw [← com]; exact he
          | panicked c => exact hQ _ _ _ he
          | _ => exact he⟩
        case row row args => exact ⟨g.1, RowsIn.mono g.2 fun u w'' he => by rw [← com]; exact he⟩
        case round l f tmps assign body => exact ⟨g.1, RoundIn.mono g.2 fun e w'' he => by
          cases e with
          | returned u => simp only at he ⊢; rw [← com]; exact he
          | panicked c => exact hQ _ _ _ he
          | _ => exact he⟩
    · rename_i hw
      rw [if_neg hw] at h
      refine ⟨h.1, ?_⟩
      have g := h.2
      rw [← Act.put_comm a v undef h2]
      exact g
  exact wpOpIn_mono (fun a' w' h' => ⟨hy.next hsi h3 h'.1, h'.2⟩) (op_frame hro hj key)
theorem ReadsIf.does {i : Nat} {o : Oper} {v : Value} {a : Act} (hro : F.round = none) (hi : ops[i]? = some o) (hy : ReadsIf P ops S o v a) {K : Act → World → Prop} {w : World} (hS : S w) (h : K (a.put o.dst v) w) : wpOpIn F n P ops Q i K a w := by
  have hab : ∀ f, o.about P w a.eval = some f → F.fn f := fun f hf => by rw [hy.alone w] at hf; cases hf
  unfold wpOpIn
  rw [hi]
  simp only
  rcases hy.reads with ⟨hw, hv⟩ | ⟨hw, rfl⟩
  · rw [if_pos hw]
    unfold Oper.wpIn
    rw [hro, Oper.semAt_none, hv w hS]
    exact ⟨hab, h⟩
  · rw [if_neg (by rw [hw]; decide)]
    exact ⟨hab, h⟩
/-- those of D wait for i, by others of D -/
def depB (md : Region.Mode) (ops : Array Oper) (i : Nat) (D : List Nat) : Bool := D.all fun x => x == i || (match ops[x]? with
  | some o => o.after.any fun e => Region.binds md e && D.contains e.on
  | none => false)
theorem dep_not {i j : Nat} {D : List Nat} (hD : depB md ops i D = true) {L : Array Bool} (hL : ∀ x ∈ D, L.getD x true = false) (hj : j ∈ Region.ready md ops L) (e : j ≠ i) : j ∉ D := fun hm => by
  obtain ⟨_, o, ho, hall⟩ := mem_ready.1 hj
  have h1 := List.all_eq_true.1 hD j hm
  simp only [Bool.or_eq_true, beq_iff_eq, e, false_or, ho, Array.any_eq_true] at h1
  obtain ⟨x, hx, h2⟩ := h1
  simp only [Bool.and_eq_true, List.contains_iff_mem] at h2
  have h3 := hall o.after[x] (Array.getElem_mem hx) h2.1
  have h4 := hL _ h2.2
  rw [Array.getD_eq_getD_getElem?] at h3 h4
  rcases hq : L[(o.after[x]).on]? with _ | b
  · rw [hq] at h4
    simp at h4
  · rw [hq] at h3 h4
    simp at h3 h4
    rw [h3] at h4
    cases h4
/-- what may come next and only reads may come first -/
theorem HeldIn.first {i c : Nat} {oi : Oper} {v : Value} (D : List Nat) (hD : depB md ops i D = true) (hiD : i ∈ D) (hcD : c ∈ D) (hci : c ≠ i) (hro : F.round = none) (hi : ops[i]? = some oi) (hsel : ∀ (j : Nat) (o : Oper) cs b, ops[j]? = some o → o.op ≠ .select cs b) (hQ : ∀ c a w, Q (.panic c) (a.put oi.dst v) w → Q (.panic c) a w) :
    ∀ (k : Nat) (L : Array Bool) (a : Act) (w : World), (∀ x ∈ D, L.getD x true = false) → (∀ j oj, ops[j]? = some oj → j ≠ i → L.getD j true = false → (∀ e ∈ oj.after, Region.binds md e = true → e.on ≠ i) → oi.apart ops oj = true) →
      i ∈ Region.ready md ops L → ReadsIf P ops S oi v a → S w → HeldIn F n P md ops Q S c k (L.setIfInBounds i true) (a.put oi.dst v) w → HeldIn F n P md ops Q S c (k + 1) L a w := by
  intro k
  induction k with
  | zero =>
    intro L a w hLD _ hr hy hS h
    refine ⟨fun h0 => (by rw [h0] at hr; cases hr), fun j hj => ?_⟩
    by_cases e : j = i
    · subst e; exact hy.does hro hi hS ⟨fun _ => hS, h⟩
    · have h1 := ready_mono hj e
      rw [h.1] at h1
      cases h1
  | succ k ih =>
    intro L a w hLD hfree hr hy hS h
    refine ⟨fun h0 => (by rw [h0] at hr; cases hr), fun j hj => ?_⟩
    by_cases e : j = i
    · subst e; exact hy.does hro hi hS ⟨fun _ => hS, h⟩
    · obtain ⟨hun, oj, hoj, hall⟩ := mem_ready.1 hj
      have hjD := dep_not hD hLD hj e
      have hno : ∀ x ∈ oj.after, Region.binds md x = true → x.on ≠ i := fun x hx hb e2 => by
        have h1 := hall x hx hb
        have hL := hLD i hiD
        rw [e2] at h1
        rcases Nat.lt_or_ge i L.size with h2 | h2
        · simp only [Array.getD_eq_getD_getElem?, Array.getElem?_eq_getElem h2, Option.getD_some] at h1 hL
          rw [hL] at h1
          cases h1
        · simp only [Array.getD_eq_getD_getElem?, Array.getElem?_eq_none h2, Option.getD_none] at h1 hL
          cases hL
      refine wpOpIn_mono (fun a' w' h3 => ?_) (HeldIn.swap hro hoj (hfree j oj hoj e hun hno) (fun cs b => hsel i oi cs b hi) (fun cs b => hsel j oj cs b hoj) hQ hy (h.2 j (ready_mono hj e)))
      have hnj : ∀ x ∈ D, j ≠ x := fun x hx e2 => hjD (by rw [e2]; exact hx)
      have hLj : ∀ x ∈ D, (L.setIfInBounds j true).getD x true = false := fun x hx => by
        rw [getD_set_ne true (hnj x hx)]
        exact hLD x hx
      have hS' : S w' := h3.2.1 (by rw [getD_set_ne true (hnj c hcD), getD_set_ne true (Ne.symm hci)]; exact hLD c hcD)
      refine ⟨fun _ => hS', ih _ a' w' hLj (fun x ox hx hxi hxun hxno => hfree x ox hx hxi ?_ hxno) (ready_mono hr (Ne.symm e)) h3.1 hS' ?_⟩
      · by_cases e2 : j = x
        · subst e2; exact hun
        · rwa [getD_set_ne true e2] at hxun
      · rw [Array.setIfInBounds_comm _ _ e]
        exact h3.2.2
theorem HeldIn.take {i c : Nat} {oi : Oper} {v : Value} {k : Nat} {L : Array Bool} {a : Act} {w : World} (D : List Nat) (d : Option Tmp) (hD : depB md ops i D = true) (hiD : i ∈ D) (hcD : c ∈ D) (hci : c ≠ i) (hL : D.all (fun x => !L.getD x true) = true) (hro : F.round = none) (hi : ops[i]? = some oi) (hd : oi.dst = d) (hs : Region.noSelect ops = true) (hf : Region.free md ops L i = true) (hr : (Region.ready md ops L).contains i = true)
    (hQ : ∀ c a w, Q (.panic c) (a.put d v) w → Q (.panic c) a w) (hy : YieldsIf P ops S oi v a) (hab : ∀ w, oi.about P w a.eval = none) (hS : S w) (h : HeldIn F n P md ops Q S c k (L.setIfInBounds i true) (a.put d v) w) : HeldIn F n P md ops Q S c (k + 1) L a w := by
  subst hd
  exact HeldIn.first D hD hiD hcD hci hro hi (Region.noSelect_spec hs) hQ k L a w (fun x hx => by simpa using List.all_eq_true.1 hL x hx) (Region.free_spec hi hf) (by simpa using hr) ⟨hy, hab⟩ hS h
theorem HeldIn.one {i c : Nat} {o : Oper} {k : Nat} {L : Array Bool} {a : Act} {w : World} (hr : Region.ready md ops L = [i]) (ho : ops[i]? = some o) (hc : (L.setIfInBounds i true).getD c true = true) (hw : Region.wanted o (yielded ops a.tmps) = true)
    (h : ∀ K : Act → World → Prop, (∀ a' w', HeldIn F n P md ops Q S c k (L.setIfInBounds i true) a' w' → K a' w') → Oper.wpIn F n P o a w K Q) : HeldIn F n P md ops Q S c (k + 1) L a w := by
  refine ⟨fun h0 => (by rw [hr] at h0; cases h0), fun j hj => ?_⟩
  rw [hr, List.mem_singleton] at hj
  subst hj
  unfold wpOpIn
  rw [ho]
  simp only
  rw [if_pos hw]
  exact h _ fun a' w' h2 => ⟨fun e => (by rw [hc] at e; cases e), h2⟩
theorem HeldIn.done {c : Nat} {L : Array Bool} {a : Act} {w : World} (hr : Region.ready md ops L = []) (h : Q .normal a w) : ∀ k, HeldIn F n P md ops Q S c k L a w
  | 0 => ⟨hr, h⟩
  | _ + 1 => ⟨fun _ => h, by rw [hr]; simp⟩
theorem wpIn_region_heldF (c : Nat) {id : Nat} {a : Act} {w : World} (hm : P.follows .mixedOrders = true) (h : HeldIn F n P .any ops Q S c ops.size (Array.replicate ops.size false) a w.drew) : (Code.region id ops true).wpIn F n P Q a w :=
  wpIn_region_any hm (h.any _ _ _ _)
end
end Go.Proofs.YtmjiiddncbhgpaaGreat
