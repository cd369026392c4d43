/- Dead ends: the law that a proof excludes plans and covers all reachable states. No condition., part 9: Si. -/
import Derived.Test.YtmjiiddncbhgpaaGreatC1
import Derived.Test.YtmjiiddncbhgpaaGreatC2
import Derived.Test.YtmjiiddncbhgpaaGreatC3
import Derived.Test.YtmjiiddncbhgpaaGreatC4
import Derived.Test.YtmjiiddncbhgpaaGreatC5
import Derived.Test.YtmjiiddncbhgpaaGreatC6
import Derived.Test.YtmjiiddncbhgpaaGreatC7
import Derived.Test.YtmjiiddncbhgpaaGreatC8
import Derived.BigQuiet
import Derived.Deep.AppendLies
import Derived.Deep.Draws
import Derived.Deep.Fields
import Derived.Deep.LoopGhost
import Derived.Deep.QuietTactic
import Derived.Deep.RegionHeld3
import Derived.Deep.Slices
import Derived.DeepKeys4
import Derived.Laws.AppendOwnNone
import Derived.Laws.BitsAllLaws
import Derived.Laws.OwnMore
import Derived.Lib.Hide
import Derived.Lib.SlicesCompact
import Derived.LoopIn
import Derived.LoopNIn
import Derived.Maps.AppendAt
import Derived.Maps.OwnIn
import Derived.Maps.OwnOps
import Derived.Maps.OwnSet
import Derived.OrdersHeld
import Derived.OrdersIn
import Derived.OwnWalkIn
import Derived.RangeFuncBound
import Derived.RangeFuncCalls
import Derived.RangeFuncLeaves
import Derived.RangeFuncNested
import Derived.Shelf.Abstract
import Derived.Shelf.RegionOpen
import Derived.StillTail
import Derived.StillTailTactics
import Derived.TacticsInMore
import Derived.Test.YtmjiiddncbhgpaaGreatProg
import Derived.WalkKit
namespace Go.Proofs.YtmjiiddncbhgpaaGreat
set_option linter.unusedVariables false
set_option linter.unusedSimpArgs false
open Go.RowKit
/-- an operation that makes no call -/
structure CalmO (F : Fence) (P : Program) (o : Oper) : Prop where
  ab : ∀ ρ w f, o.about P w ρ = some f → F.fn f
  sem : ∀ ρ, o.semAt F.round ρ = execOp ρ o
  ok : ∀ ρ w x w', (execOp ρ o).run P w = .ok x w' → (∃ v, x = .value v) ∨ x = .skip
section
variable {F : Fence} {n : Nat} {P : Program} {ops : Array Oper} {Q : Exit → Act → World → Prop} {md : Region.Mode}
theorem CalmO.wpIn {o : Oper} (h : CalmO F P o) {a : Act} {w : World} {K : Act → World → Prop} (hw : o.wp P a w K Q) : o.wpIn F n P a w K Q := by
  unfold Oper.wp at hw
  unfold Oper.wpIn
  refine ⟨fun f hf => h.ab _ _ f hf, ?_⟩
  rw [h.sem]
  have hok := h.ok a.eval w
  generalize (execOp a.eval o).run P w = r at hw hok
  cases r with
  | ok x w' =>
    rcases hok x w' rfl with ⟨v, rfl⟩ | rfl
    · exact hw
    · exact hw
  | halt x w' => cases x <;> exact hw
theorem wpOpIn_of {i : Nat} {a : Act} {w : World} {K : Act → World → Prop} (hQ : ¬ LetsOut Q) (hc : ∀ o, ops[i]? = some o → CalmO F P o) (h : wpOp P ops Q i K a w) : wpOpIn F n P ops Q i K a w := by
  unfold wpOp at h
  unfold wpOpIn
  split
  · rename_i e
    simpa [e] using h
  · rename_i o e
    simp only [e] at h
    split
    · rename_i hw
      rw [if_pos hw] at h
      rcases h with h | h
      · exact (hc o e).wpIn h
      · exact absurd h.2 hQ
    · rename_i hw
      rw [if_neg hw] at h
      exact ⟨fun f hf => (hc o e).ab _ _ f hf, h⟩
theorem wpAnyIn_of (hQ : ¬ LetsOut Q) (hc : ∀ (i : Nat) (o : Oper), ops[i]? = some o → CalmO F P o) : ∀ (fuel : Nat) (listed : Array Bool) (a : Act) (w : World), wpAny P md ops Q fuel listed a w → wpAnyIn F n P md ops Q fuel listed a w := by
  intro fuel
  induction fuel with
  | zero => intro listed a w h; exact h
  | succ fuel ih =>
    intro listed a w h
    refine ⟨h.1, fun i hi => ?_⟩
    exact wpOpIn_mono (fun a' w' h' => ih _ _ _ h') (wpOpIn_of hQ (hc i) (h.2 i hi))
theorem wpIn_region_held {S : World → Prop} {id : Nat} {a : Act} {w : World} {l : List Oper} (hm : P.follows .mixedOrders = true) (hQ : ¬ LetsOut Q) (hc : ∀ o ∈ l, CalmO F P o) (hS : S w.drew)
    (h : S w.drew → wpAnyH P .any l.toArray Q S l.toArray.size (Array.replicate l.toArray.size false) a w.drew) : (Code.region id l.toArray true).wpIn F n P Q a w :=
  wpIn_region_any hm (wpAnyIn_of hQ (fun i o ho => hc o (by simpa using Array.mem_of_getElem? ho)) _ _ _ _ (wpAny_of_held _ _ _ _ (h hS)))
/-- operations by their kind -/
theorem calm_value {o : Oper} (m : (Operand → Value) → Sem Value) (hx : ∀ ρ, execOp ρ o = (do let v ← m ρ; pure (.value v))) (hab : ∀ ρ w, o.about P w ρ = none) (hd : ∀ c, o.op ≠ .defer c) : CalmO F P o := by
  refine ⟨fun ρ w f hf => (by rw [hab] at hf; cases hf), fun ρ => Oper.semAt_plain F _ _ hd, fun ρ w x w' h => ?_⟩
  rw [hx] at h
  rw [Sem.run_bind] at h
  cases hr : (m ρ).run P w with
  | ok v w2 =>
    rw [hr] at h
    simp [Result.andThen, go_sem] at h
    exact .inl ⟨v, h.1.symm⟩
  | halt y w2 =>
    rw [hr] at h
    simp [Result.andThen] at h
theorem calm_skip {o : Oper} (m : (Operand → Value) → Sem Unit) (hx : ∀ ρ, execOp ρ o = (do m ρ; pure .skip)) (hab : ∀ ρ w, o.about P w ρ = none) (hd : ∀ c, o.op ≠ .defer c) : CalmO F P o := by
  refine ⟨fun ρ w f hf => (by rw [hab] at hf; cases hf), fun ρ => Oper.semAt_plain F _ _ hd, fun ρ w x w' h => ?_⟩
  rw [hx] at h
  rw [Sem.run_bind] at h
  cases hr : (m ρ).run P w with
  | ok v w2 =>
    rw [hr] at h
    simp [Result.andThen, go_sem] at h
    exact .inr h.1.symm
  | halt y w2 =>
    rw [hr] at h
    simp [Result.andThen] at h
theorem calm_append {o : Oper} {args : Array Operand} {tys : Array TypeId} (ho : o.op = .call { callee := .builtin .append, args := args, argTypes := tys }) : CalmO F P o := by
  refine ⟨fun ρ w f hf => ?_, fun ρ => Oper.semAt_plain F _ _ (by rw [ho]; intro c h; cases h), fun ρ w x w' h => ?_⟩
  · unfold Oper.about at hf
    rw [ho] at hf
    simp [resolve, go_sem] at hf
  · unfold execOp at h
    simp only [ho, resolve, invoke, builtin, Sem.run_bind, Sem.run_pure, Result.andThen_ok] at h
    cases hr : (Builtin.append_ tys o.type (Array.map ρ args)).run P w with
    | ok v w2 =>
      rw [hr] at h
      simp only [Result.andThen] at h
      injection h with h1 h2
      exact .inl ⟨v, h1.symm⟩
    | halt y w2 =>
      rw [hr] at h
      simp [Result.andThen] at h
def calmB (o : Oper) : Bool := match o.op with
  | .load _ _ => true
  | .fieldAddr _ _ _ => true
  | .indexAddr _ _ _ => true
  | .lookup _ _ _ _ => true
  | .build _ _ => true
  | .buildSlice _ _ _ => true
  | .mapUpdate _ _ _ _ => true
  | .call { callee := .builtin .append, args := _, argTypes := _ } => true
  | _ => false
theorem calm_of {o : Oper} (h : calmB o = true) : CalmO F P o := by
  unfold calmB at h
  split at h
  · rename_i t a ho
    exact calm_value (fun ρ => Instr.loadAt t (ρ a)) (fun ρ => by simp only [execOp, ho]) (fun ρ w => by simp only [Oper.about, ho]) (by rw [ho]; intro c h; cases h)
  · rename_i s x f ho
    exact calm_value (fun ρ => Instr.fieldAt s (ρ x) f) (fun ρ => by simp only [execOp, ho]) (fun ρ w => by simp only [Oper.about, ho]) (by rw [ho]; intro c h; cases h)
  · rename_i t x ix ho
    exact calm_value (fun ρ => Instr.indexAt t (ρ x) (ρ ix)) (fun ρ => by simp only [execOp, ho]) (fun ρ w => by simp only [Oper.about, ho]) (by rw [ho]; intro c h; cases h)
  · rename_i t x ix ok ho
    exact calm_value (fun ρ => Instr.lookup t (ρ x) (ρ ix) ok) (fun ρ => by simp only [execOp, ho]) (fun ρ w => by simp only [Oper.about, ho]) (by rw [ho]; intro c h; cases h)
  · rename_i t parts ho
    exact calm_value (fun ρ => Instr.build t (parts.map fun (i, x) => (i, ρ x))) (fun ρ => by simp only [execOp, ho]) (fun ρ w => by simp only [Oper.about, ho]) (by rw [ho]; intro c h; cases h)
  · rename_i t len parts ho
    exact calm_value (fun ρ => Instr.buildSlice t len (parts.map fun (i, x) => (i, ρ x))) (fun ρ => by simp only [execOp, ho]) (fun ρ w => by simp only [Oper.about, ho]) (by rw [ho]; intro c h; cases h)
  · rename_i t m k x ho
    exact calm_skip (fun ρ => Instr.mapUpdate t (ρ m) (ρ k) (ρ x)) (fun ρ => by simp only [execOp, ho]) (fun ρ w => by simp only [Oper.about, ho]) (by rw [ho]; intro c h; cases h)
  · rename_i args tys ho
    exact calm_append ho
  · cases h
theorem calm_all {l : List Oper} (h : l.all calmB = true) : ∀ o ∈ l, CalmO F P o := fun o ho => calm_of (List.all_eq_true.1 h o ho)
end
end Go.Proofs.YtmjiiddncbhgpaaGreat
