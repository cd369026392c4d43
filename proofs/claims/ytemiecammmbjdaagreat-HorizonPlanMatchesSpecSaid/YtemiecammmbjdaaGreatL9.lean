/- What the law asks for, part 9: Mc3 St Cq Mf Mc5 Mc8 Mj Er Ts1 Ts2 Hz1 Hz2 Hz3 Mk Hz4 Hz5 Es Ts3 Mg Kq Bp. -/
import Derived.Test.YtemiecammmbjdaaGreatL2
import Derived.Test.YtemiecammmbjdaaGreatL3
import Derived.Test.YtemiecammmbjdaaGreatL4
import Derived.Test.YtemiecammmbjdaaGreatL6
import Derived.Test.YtemiecammmbjdaaGreatL7
import Derived.Test.YtemiecammmbjdaaGreatL8
import Derived.BigQuiet
import Derived.Deep.AppendLies
import Derived.Deep.DeepCutAuto
import Derived.Deep.Draws
import Derived.Deep.Fields
import Derived.Deep.LoopGhost
import Derived.Deep.QuietTactic
import Derived.Deep.RegionHeld3
import Derived.Deep.Slices
import Derived.Ground.Names2Prog
import Derived.Ground.SlgnProg
import Derived.Ground.SlsfProg
import Derived.IntWalk
import Derived.Laws.AppendOwnNone
import Derived.Laws.OwnMore
import Derived.Lib.Hide
import Derived.Lib.SlicesCompact
import Derived.Maps.AppendAt
import Derived.Shelf.Slices.Cells
import Derived.Shelf.Slices.Clone
import Derived.Shelf.Slices.CompactI
import Derived.Shelf.Slices.Empties
import Derived.Shelf.Slices.In.SortNone
import Derived.Shelf.Slices.SearchI
import Derived.Shelf.Sort.Plain
import Derived.Sort.OwnSortedInts
import Derived.Test.YtemiecammmbjdaaGreatProg
import Derived.WalkKit
namespace Go.Proofs.YtemiecammmbjdaaGreat
set_option linter.unusedVariables false
set_option linter.unusedSimpArgs false
open Go.RowKit
def outB (k : Nat) (x : Int) : Bool := decide (x < 0 ∨ (k : Int) ≤ x)
end Go.Proofs.YtemiecammmbjdaaGreat
namespace Go.Proofs.YtemiecammmbjdaaGreat
set_option linter.unusedVariables false
set_option linter.unusedSimpArgs false
open Go.RowKit
/-- the fault of a plan over k operators -/
def stepsFault (k : Nat) (l : List Int) : Int × Int := if 60 < l.length then (2, -5) else if l.any (outB k) = true then (3, -6) else (0, 0)
end Go.Proofs.YtemiecammmbjdaaGreat
namespace Go.Proofs.YtemiecammmbjdaaGreat
set_option linter.unusedVariables false
set_option linter.unusedSimpArgs false
open Go.RowKit
/-- what is known of a fact: its state, whether it changed, whether it is asked for -/
structure FS where
  now : Int
  ch : Bool
  pr : Bool
def factStep (p : Int) (o : Opr) (s : FS) : Option FS :=
  if hasB o.pre p = true ∧ s.now < 0 then none else
  some ⟨if hasB o.del p = true then -1 else if hasB o.add p = true then 1 else if hasB o.pre p = true ∧ s.now = 0 then 1 else s.now, s.ch || hasB o.add p || hasB o.del p, s.pr || (hasB o.pre p && decide (s.now = 0))⟩
def factRun (p : Int) : FS → List Opr → Option FS
  | s, [] => some s
  | s, o :: os => match factStep p o s with
    | none => none
    | some s' => factRun p s' os
theorem apart_mem {o : Opr} (h : meetB o.add o.del = false) (p : Int) : ¬ (p ∈ o.add ∧ p ∈ o.del) := fun ⟨h1, h2⟩ => by
  have := meetB_iff.2 ⟨p, h1, h2⟩
  rw [h] at this
  cases this
def fr (os : List Opr) (p : Int) : Option FS := factRun p ⟨0, false, false⟩ os
end Go.Proofs.YtemiecammmbjdaaGreat
namespace Go.Proofs.YtemiecammmbjdaaGreat
set_option linter.unusedVariables false
set_option linter.unusedSimpArgs false
open Go.RowKit
theorem anyF_succ {p : Int → Bool} {l : List Int} {k : Nat} {x : Int} (h : (l.take k).any p = false) (hx : l[k]? = some x) (hp : p x = false) : (l.take (k + 1)).any p = false := by
  rw [List.take_add_one, List.any_append, h, hx]
  simp [hp]
theorem inB_outB {k : Nat} {x : Int} : inB x 0 ((k : Int) - 1) = !outB k x := by
  rw [Bool.eq_iff_iff, inB_iff]
  unfold outB
  simp
  omega
end Go.Proofs.YtemiecammmbjdaaGreat
namespace Go.Proofs.YtemiecammmbjdaaGreat
set_option linter.unusedVariables false
set_option linter.unusedSimpArgs false
open Go.RowKit
theorem own_low {w : World} {B B' : Nat} {e : TypeId} {size n : Nat} {v : Value} {xs : List Value} (h : w.ownsRow B e size v n xs) (hB : B' ≤ B) : w.ownsRow B' e size v n xs := by
  refine ⟨h.1, ?_⟩
  rcases h.2 with h3 | ⟨r, cap, cur, e1, hr, hc, rest⟩
  · exact .inl h3
  · exact .inr ⟨r, cap, cur, e1, by omega, hc, rest⟩
/-- the rows of a copy that is being made -/
structure CpA where
  gT : Nat
  gO : Nat
  B0 : Nat
  H1 : Nat
  AI : Option Addr
  nI : Nat
  cI : Nat
  AG : Option Addr
  nG : Nat
  cG : Nat
section
variable {w W W' : World} {T : Tsk} {tc : List Value} {a : CpA} {k oc : Nat} {O : Option Addr} {vs : List Value}
end
end Go.Proofs.YtemiecammmbjdaaGreat
namespace Go.Proofs.YtemiecammmbjdaaGreat
set_option linter.unusedVariables false
set_option linter.unusedSimpArgs false
open Go.RowKit
theorem opAt_mem {os : List Opr} {x : Int} (h0 : 0 ≤ x) (h1 : x < os.length) : opAt os x ∈ os := by
  obtain ⟨k, rfl⟩ : ∃ k : Nat, x = k := ⟨x.toNat, by omega⟩
  have hk : k < os.length := by omega
  rw [opAt_eq (List.getElem?_eq_getElem hk)]
  exact List.getElem_mem _
def taskV (T : Tsk) (a : TA) : Value := .agg #[.int .i64 T.facts, .slice a.I a.nI a.cI, .slice a.G a.nG a.cG, .slice a.O a.nO a.cO]
structure ExA where
  gT : Nat
  gX : Nat
  B : Nat
  Bl : Nat
  AI : Option Addr
  nI : Nat
  cI : Nat
  AG : Option Addr
  nG : Nat
  cG : Nat
section
variable {w W W' : World} {T : Tsk} {tc : List Value} {a : ExA} {n oc : Nat} {O : Option Addr} {vs : List Value} {os : List Opr}
end
end Go.Proofs.YtemiecammmbjdaaGreat
namespace Go.Proofs.YtemiecammmbjdaaGreat
set_option linter.unusedVariables false
set_option linter.unusedSimpArgs false
open Go.RowKit
def ExpandP (w : World) (r : List Int × Int × Int) (e : Ending) (w' : World) : Prop :=
  Below w.heap.size w w' ∧ ∃ (A : Option Addr) (n c : Nat), e = .returned (.tuple #[.slice A n c, fault r.2.1 r.2.2]) ∧ ∀ w'', Chg (fun b => b < w.heap.size) w' w'' → Rd Enc.int w'' A n c r.1
theorem expandP_nil {w w' : World} (h : Below w.heap.size w w') (c i : Int) : ExpandP w ([], c, i) (.returned (.tuple #[.slice none 0 0, fault c i])) w' := ⟨h, none, 0, 0, rfl, fun _ _ => Rd.nil_ _ _⟩
end Go.Proofs.YtemiecammmbjdaaGreat
namespace Go.Proofs.YtemiecammmbjdaaGreat
set_option linter.unusedVariables false
set_option linter.unusedSimpArgs false
/-- the state behind all the steps -/
def execO : List Int → List Opr → Option (List Int)
  | s, [] => some s
  | s, o :: os => if subsetB o.pre s = true then execO (updF s o.add o.del) os else none
theorem execO_append (a b : List Opr) (s : List Int) : execO s (a ++ b) = (execO s a).bind fun r => execO r b := by
  induction a generalizing s with
  | nil => rfl
  | cons o a ih =>
    rw [List.cons_append]
    show (if subsetB o.pre s = true then execO (updF s o.add o.del) (a ++ b) else none) = (if subsetB o.pre s = true then execO (updF s o.add o.del) a else none).bind fun r => execO r b
    split
    · exact ih _
    · rfl
end Go.Proofs.YtemiecammmbjdaaGreat
namespace Go.Proofs.YtemiecammmbjdaaGreat
set_option linter.unusedVariables false
set_option linter.unusedSimpArgs false
open Go.RowKit
def planFault (T : Tsk) (l : List Int) : Int × Int := if (taskFault T).1 ≠ 0 then taskFault T else stepsFault T.ops.length l
end Go.Proofs.YtemiecammmbjdaaGreat
namespace Go.Proofs.YtemiecammmbjdaaGreat
set_option linter.unusedVariables false
set_option linter.unusedSimpArgs false
open Go.RowKit
theorem rowInfoT : (Tryz.prog.info? 22).map (fun i => (i.zero, i.size, i.bytes)) = some (some (.slice none 0 0), 1, 24) := by kernel_rfl
theorem own_fresh {w : World} {B : Nat} {t : TypeId} {size n : Nat} {us : List Value} (hB : B ≤ w.heap.size) (hn : n ≤ 1000000) (hl : us.length = n * size) : (w.alloc (.cells us.toArray t)).ownsRow B t size (.slice (some ⟨w.heap.size, 0, none⟩) n n) n us :=
  ⟨hl, .inr ⟨w.heap.size, n, us.toArray, rfl, hB, Blk.new w t us, Nat.le_refl _, by unfold maxLen; omega, by simpa using hl, by simp; exact List.take_of_length_le (by omega)⟩⟩
/-- one element alone -/
theorem OwnE.one {α : Type} {E : Enc α} {t : TypeId} {B : Nat} {M : Nat → Prop} {w : World} {us : List Value} {x : α} (hB : B ≤ w.heap.size) (hf : Firm E M w us x) (hM : ∀ i, i < w.heap.size + 1 → M i → i < w.heap.size ∨ i = w.heap.size) : OwnE E t B (fun b => M b ∨ w.heap.size ≤ b) (w.alloc (.cells us.toArray t)) (some ⟨w.heap.size, 0, none⟩) 1 1 us [x] :=
  ⟨own_fresh hB (by omega) (by rw [E.len hf.ok]; omega), rfl, fun i y hi => by
    cases i with
    | zero =>
      simp at hi
      subst hi
      exact ⟨us, fun j v hj => by simpa using hj, hf.chg (Chg.of_below ((Below.refl _ _).alloc (Nat.le_refl _) _) M)⟩
    | succ i => simp at hi⟩
theorem firm_row {w : World} {B : Nat} {t : TypeId} {M : Nat → Prop} {A : Option Addr} {n c : Nat} {l : List Int} (h : w.ownsRow B t 1 (.slice A n c) n (l.map (Value.int .i64))) (hl : l.length = n) (hr : ∀ x ∈ l, -9223372036854775808 ≤ x ∧ x ≤ 9223372036854775807) (hM : ∀ i, i < w.heap.size → M i → i < B) : Firm (Enc.sl Enc.int) M w [.slice A n c] l :=
  fun w' hc => ⟨A, n, c, rfl, RdM.own h (fun r hr e => by
    have h1 := own_base h (by rw [own_blkA]; exact hr)
    have h2 := (own_block h (by rw [own_blkA]; exact hr)).1
    have := hM r h2 e
    omega) hl hr w' hc⟩
theorem set_ints {N : Nat} {l : List Int} (h : setB N l = true) (hN : N ≤ 1000) : ∀ x ∈ l, -9223372036854775808 ≤ x ∧ x ≤ 9223372036854775807 := fun x hx => by
  have := (setB_iff.1 h).2 x hx
  omega
end Go.Proofs.YtemiecammmbjdaaGreat
namespace Go.Proofs.YtemiecammmbjdaaGreat
set_option linter.unusedVariables false
set_option linter.unusedSimpArgs false
open Go.RowKit
def factV (N t p : Nat) : Int := 1 + t * N + p
def stepV (N S n t q : Nat) : Int := 1 + (S + 1) * N + t * n + q
theorem mul_small {a b A B : Nat} (ha : a ≤ A) (hb : b ≤ B) (h : A * B ≤ 100000) : a * b ≤ 100000 := Nat.le_trans (Nat.mul_le_mul ha hb) h
theorem wrap_small {x : Int} (h0 : 0 ≤ x) (h1 : x ≤ 1000000) : IntKind.i64.wrap x = x := IntWalk.i64_in _ (by omega)
set_option maxRecDepth 100000 in
set_option maxHeartbeats 1600000 in
theorem fact_ct (a : TA) (N S t p : Nat) (w : World) (hN : N ≤ 24) (ht : t ≤ 10) (hp : p ≤ 100) :
    Calls Tryz.prog 77 #[.agg #[.int .i64 N, .slice a.I a.nI a.cI, .slice a.G a.nG a.cG, .slice a.O a.nO a.cO, .int .i64 S], .int .i64 t, .int .i64 p] w (Gives w (.int .i64 (factV N t p))) := by
  obtain ⟨I, nI, cI, G, nG, cG, O, nO, cO⟩ := a
  have hq := mul_small ht hN (by omega)
  obtain ⟨q, hqe⟩ : ∃ q, q = t * N := ⟨_, rfl⟩
  rw [← hqe] at hq
  have hw : IntKind.i64.wrap ((t : Int) * (N : Int)) = (q : Int) := by rw [← Int.natCast_mul, ← hqe]; exact wrap_small (by omega) (by omega)
  have hv : factV N t p = 1 + (q : Int) + (p : Int) := by unfold factV; rw [hqe, Int.natCast_mul]
  have Hv := hide hv
  clear hv hqe
  go_enter Tryz.func77, Tryz.ntmps77
  go_wp2_with fail
  go_ret
  exact ⟨ret_int (by rw [Hv.out]), (Below.refl _ _).alloc (Nat.le_refl _) _⟩
set_option maxRecDepth 100000 in
set_option maxHeartbeats 1600000 in
theorem step_ct (a : TA) (N S t q : Nat) (w : World) (hN : N ≤ 24) (hS : S ≤ 10) (ht : t ≤ 10) (hn : a.nO ≤ 100) (hq : q ≤ 100) :
    Calls Tryz.prog 47 #[.agg #[.int .i64 N, .slice a.I a.nI a.cI, .slice a.G a.nG a.cG, .slice a.O a.nO a.cO, .int .i64 S], .int .i64 t, .int .i64 q] w (Gives w (.int .i64 (stepV N S a.nO t q))) := by
  obtain ⟨I, nI, cI, G, nG, cG, O, nO, cO⟩ := a
  simp only at hn ⊢
  have h1 := mul_small (show S + 1 ≤ 11 by omega) hN (by omega)
  have h2 := mul_small ht hn (by omega)
  obtain ⟨x, hx⟩ : ∃ x, x = (S + 1) * N := ⟨_, rfl⟩
  obtain ⟨y, hy⟩ : ∃ y, y = t * nO := ⟨_, rfl⟩
  rw [← hx] at h1
  rw [← hy] at h2
  have hw1 : IntKind.i64.wrap (((S : Int) + 1) * (N : Int)) = (x : Int) := by
    rw [show ((S : Int) + 1) * (N : Int) = ((S + 1) * N : Nat) by simp [Int.natCast_mul], ← hx]
    exact wrap_small (by omega) (by omega)
  have hw2 : IntKind.i64.wrap ((t : Int) * (nO : Int)) = (y : Int) := by
    rw [← Int.natCast_mul, ← hy]
    exact wrap_small (by omega) (by omega)
  have hv : stepV N S nO t q = 1 + (x : Int) + (y : Int) + (q : Int) := by unfold stepV; rw [hx, hy]; simp [Int.natCast_mul]
  have Hv := hide hv
  clear hv hx hy
  go_enter Tryz.func47, Tryz.ntmps47
  go_wp2_with fail
  go_ret
  exact ⟨ret_int (by rw [Hv.out]), (Below.refl _ _).alloc (Nat.le_refl _) _⟩
def sizeV (N S n : Nat) : Int := (S + 1) * N + S * n
set_option maxRecDepth 100000 in
set_option maxHeartbeats 1600000 in
theorem variables_ct (a : TA) (N S : Nat) (w : World) (hN : N ≤ 24) (hS : S ≤ 10) (hn : a.nO ≤ 100) :
    Calls Tryz.prog 42 #[.agg #[.int .i64 N, .slice a.I a.nI a.cI, .slice a.G a.nG a.cG, .slice a.O a.nO a.cO, .int .i64 S]] w (Gives w (.int .i64 (sizeV N S a.nO))) := by
  obtain ⟨I, nI, cI, G, nG, cG, O, nO, cO⟩ := a
  simp only at hn ⊢
  have h1 := mul_small (show S + 1 ≤ 11 by omega) hN (by omega)
  have h2 := mul_small hS hn (by omega)
  obtain ⟨x, hx⟩ : ∃ x, x = (S + 1) * N := ⟨_, rfl⟩
  obtain ⟨y, hy⟩ : ∃ y, y = S * nO := ⟨_, rfl⟩
  rw [← hx] at h1
  rw [← hy] at h2
  have hw1 : IntKind.i64.wrap (((S : Int) + 1) * (N : Int)) = (x : Int) := by
    rw [show ((S : Int) + 1) * (N : Int) = ((S + 1) * N : Nat) by simp [Int.natCast_mul], ← hx]
    exact wrap_small (by omega) (by omega)
  have hw2 : IntKind.i64.wrap ((S : Int) * (nO : Int)) = (y : Int) := by
    rw [← Int.natCast_mul, ← hy]
    exact wrap_small (by omega) (by omega)
  have hv : sizeV N S nO = (x : Int) + (y : Int) := by unfold sizeV; rw [hx, hy]; simp [Int.natCast_mul]
  have Hv := hide hv
  clear hv hx hy
  go_enter Tryz.func42, Tryz.ntmps42
  go_wp2_with fail
  go_ret
  exact ⟨ret_int (by rw [Hv.out]), (Below.refl _ _).alloc (Nat.le_refl _) _⟩
/-- what else may change beside the clauses: their row's block, blocks below B, blocks of X, new blocks -/
def ClM (B : Nat) (X : Nat → Prop) (w : World) (O : Option Addr) : Nat → Prop := fun b => blkA O = some b ∨ b < B ∨ X b ∨ w.heap.size ≤ b
/-- the clauses gathered so far, in the box g -/
structure ClS (B : Nat) (X : Nat → Prop) (g : Nat) (w : World) (cs : List (List Int)) (O : Option Addr) (oc : Nat) (vs : List Value) : Prop where
  box : Blk 36 w g [.slice O cs.length oc]
  own : OwnE (Enc.sl Enc.int) 22 B (ClM B X w O) w O cs.length oc vs cs
  gB : g < B
  size : B ≤ w.heap.size
  apart : ∀ r, blkA O = some r → ¬ X r
  low : ∀ b, X b → b < w.heap.size
section
variable {B g : Nat} {X X' : Nat → Prop} {w w' : World} {cs : List (List Int)} {O : Option Addr} {oc : Nat} {vs : List Value}
theorem ClS.keep (h : ClS B X g w cs O oc vs) (hb : Below w.heap.size w w') : ClS B X g w' cs O oc vs :=
  ⟨h.box.keep hb, (h.own.keep hb).less (fun i hi e => by
    have := hb.size
    rcases e with e | e | e | e
    · exact .inl e
    · exact .inr (.inl e)
    · exact .inr (.inr (.inl e))
    · omega), h.gB, Nat.le_trans h.size hb.size, h.apart, fun b e => Nat.lt_of_lt_of_le (h.low b e) hb.size⟩
/-- changes to blocks of X alone; what is new belongs to X too -/
theorem ClS.other (h : ClS B X g w cs O oc vs) (hc : Chg X w w') (hB : ∀ b, X b → B ≤ b) (hX : ∀ b, X' b → X b ∨ (w.heap.size ≤ b ∧ b < w'.heap.size)) : ClS B X' g w' cs O oc vs := by
  have hsz := hc.size
  have hO : ∀ r, blkA O = some r → r < w.heap.size := fun r hr => (h.own.base hr).2
  refine ⟨hc.blk h.box (fun e => by have := hB g e; have := h.gB; omega), ?_, h.gB, Nat.le_trans h.size hsz, fun r hr e => ?_, fun b e => ?_⟩
  · have h1 : OwnE (Enc.sl Enc.int) 22 B (fun i => ClM B X w O i ∨ w.heap.size ≤ i) w' O cs.length oc vs cs :=
      ⟨hc.own h.own.own (fun r hr => h.apart r (by rw [own_blkA] at hr; exact hr)), h.own.len, fun i x hx => by
        obtain ⟨us, h1, h2⟩ := h.own.elem i x hx
        exact ⟨us, h1, h2.chg (hc.mono (fun b e => .inr (.inr (.inl e))))⟩⟩
    exact h1.less (fun i hi e => by
      rcases e with e | e | e | e
      · exact .inl (.inl e)
      · exact .inl (.inr (.inl e))
      · rcases hX i e with e | e
        · exact .inl (.inr (.inr (.inl e)))
        · exact .inr e.1
      · omega)
  · rcases hX r e with e | e
    · exact h.apart r hr e
    · have := hO r hr
      omega
  · rcases hX b e with e | e
    · exact Nat.lt_of_lt_of_le (h.low b e) hsz
    · exact e.2
end
/-- the closure's answer: one clause more; only the box and the row's block may have changed -/
def AddP (B : Nat) (X : Nat → Prop) (g : Nat) (O : Option Addr) (cs : List (List Int)) (w : World) (e : Ending) (w' : World) : Prop :=
  e = .returned (.tuple #[]) ∧ Chg (fun b => b = g ∨ blkA O = some b) w w' ∧ ∃ (O' : Option Addr) (oc' : Nat) (vs' : List Value), ClS B X g w' cs O' oc' vs' ∧ (blkA O' = blkA O ∨ ∃ r, blkA O' = some r ∧ w.heap.size ≤ r)
set_option maxRecDepth 100000 in
set_option maxHeartbeats 3200000 in
theorem add_ct (B : Nat) (X : Nat → Prop) (g : Nat) (cs : List (List Int)) (O : Option Addr) (oc : Nat) (vs : List Value) (A : Option Addr) (k d : Nat) (c : List Int) (w : World) (h : ClS B X g w cs O oc vs) (hf : Firm (Enc.sl Enc.int) (ClM B X w O) w [.slice A k d] c) (hn : cs.length ≤ 1000000) :
    Calls Tryz.prog 75 #[.slice A k d, .pointer (some ⟨g, 0, none⟩)] w (AddP B X g O (cs ++ [c]) w) := by
  obtain ⟨i1, hi1, hy0, hy1, hy2⟩ := info_parts rowInfoT
  have b0 := h.box.cell 0
  have bl := h.box.lt
  have bf := h.box.frozen 0
  simp only [List.getElem?_cons_zero] at b0
  have hsz := h.size
  have H := hide h
  have Hf := hide hf
  clear h hf
  generalize hl : cs.length = n at b0 hn
  have Hl := hide hl
  have hown := H.out.own
  rw [hl] at hown
  have Hown := hide hown
  clear hl hown
  go_enter Tryz.func75, Tryz.ntmps75
  go_wp2_with
    (at_builtin
     refine wpList_pushE rfl _ _ 36 rfl B 22 i1 _ 24 Tryz.underlying36 hi1 hy0 hy1 hy2 rfl (by decide) rfl Hown.out (fun r hr => .inl hr) [.slice A k d] c (by intro u hu; simp at hu; subst hu; rfl) rfl Hf.out (by omega) (by omega) hsz ?_
     intro O6 oc6 w6 hown6 hch6 hat6
     have Hown6 := hide hown6
     have Hch6 := hide hch6
     have Hat6 := hide hat6
     have hne : ¬ blkA O = some g := fun e => by have := (Hown.out.base e).1; have := H.out.gB; omega
     have hx6 := hch6.blk H.out.box hne
     have Hx6 := hide hx6
     clear hown6 hch6 hat6 b0 bl bf
     have b0 := hx6.cell 0
     have bl := hx6.lt
     have bf := hx6.frozen 0
     clear hx6)
  go_end0
  have hc2 : Chg (fun b => b = g ∨ blkA O = some b) w (w6.setCell ⟨g, 0, none⟩ (.slice O6 (n + 1) oc6)) := (Hch6.out.mono (fun b e => .inr e)).trans ((Chg.set w6 g 0 (.slice O6 (n + 1) oc6)).mono (fun b e => .inl e))
  have hsz6 := Hch6.out.size
  have hO6 : ∀ r, blkA O = some r → B ≤ r ∧ r < w.heap.size := fun r hr => Hown.out.base hr
  have hX6 : ∀ r, blkA O6 = some r → B ≤ r ∧ ¬ X r := fun r hr => by
    refine ⟨(Hown6.out.base hr).1, fun e => ?_⟩
    rcases Hat6.out with h6 | h6
    · rw [h6] at hr
      exact H.out.apart r hr e
    · rw [h6] at hr
      injection hr with hr
      have := H.out.low r e
      omega
  refine ⟨rfl, hc2, O6, oc6, vs ++ [.slice A k d], ⟨?_, ?_, H.out.gB, ?_, fun r hr => (hX6 r hr).2, fun b e => ?_⟩, Hat6.out.imp id (fun e => ⟨_, e, by omega⟩)⟩
  · have := Hx6.out.set 0 (.slice O6 (n + 1) oc6)
    simpa [Hl.out] using this
  · have h1 : OwnE (Enc.sl Enc.int) 22 B (fun b => ClM B X w O b ∨ w.heap.size ≤ b) (w6.setCell ⟨g, 0, none⟩ (.slice O6 (n + 1) oc6)) O6 (n + 1) oc6 (vs ++ [.slice A k d]) (cs ++ [c]) :=
      Hown6.out.chg (Chg.set w6 g 0 _) (fun i e => .inl (.inr (.inl (by have := H.out.gB; omega)))) (fun r hr e => by have := (hX6 r hr).1; have := H.out.gB; omega)
    have h2 := h1.less (M' := ClM B X (w6.setCell ⟨g, 0, none⟩ (.slice O6 (n + 1) oc6)) O6) (fun i hi e => by
      rcases e with e | e | e | e
      · rcases Hat6.out with h6 | h6
        · exact .inl (.inl (by rw [← h6]; exact e))
        · rw [h6] at e
          injection e with e
          exact .inr (by omega)
      · exact .inl (.inr (.inl e))
      · exact .inl (.inr (.inr (.inl e)))
      · omega)
    simpa [Hl.out] using h2
  · have := hc2.size
    omega
  · have := H.out.low b e
    have := hc2.size
    omega
end Go.Proofs.YtemiecammmbjdaaGreat
namespace Go.Proofs.YtemiecammmbjdaaGreat
set_option linter.unusedVariables false
set_option linter.unusedSimpArgs false
open Go.RowKit
/-- rows of ints of a call's own, apart from each other -/
structure Fam (K B : Nat) (w : World) (A : Nat → Option Addr) (c : Nat → Nat) (L : Nat → List Int) : Prop where
  own : ∀ k, k < K → w.ownsRow B 3 1 (.slice (A k) (L k).length (c k)) (L k).length ((L k).map (Value.int .i64))
  apart : ∀ j k, j < K → k < K → j ≠ k → ∀ r, blkA (A j) = some r → ¬ blkA (A k) = some r
  low : ∀ k, k < K → ∀ x ∈ L k, 0 ≤ x ∧ x ≤ 100000
def famX (K gA gD : Nat) (A : Nat → Option Addr) : Nat → Prop := fun b => b = gA ∨ b = gD ∨ ∃ k, k < K ∧ blkA (A k) = some b
def famCells (A : Nat → Option Addr) (c : Nat → Nat) (L : Nat → List Int) (o N : Nat) : List Value := (List.range N).map fun p => .slice (A (o + p)) (L (o + p)).length (c (o + p))
theorem famCells_at {A : Nat → Option Addr} {c : Nat → Nat} {L : Nat → List Int} {o N p : Nat} (hp : p < N) : (famCells A c L o N)[p]? = some (.slice (A (o + p)) (L (o + p)).length (c (o + p))) := by
  unfold famCells
  rw [List.getElem?_map, List.getElem?_range hp]
  rfl
/-- one row has become another -/
def upd {α : Type} (f : Nat → α) (k : Nat) (x : α) : Nat → α := fun j => if j = k then x else f j
theorem upd_at {α : Type} (f : Nat → α) (k : Nat) (x : α) : upd f k x k = x := if_pos rfl
theorem upd_ne {α : Type} (f : Nat → α) {j k : Nat} (x : α) (h : j ≠ k) : upd f k x j = f j := if_neg h
theorem famCells_set {A : Nat → Option Addr} {c : Nat → Nat} {L : Nat → List Int} {o N p : Nat} (hp : p < N) (A' : Option Addr) (c' : Nat) (L' : List Int) :
    (famCells A c L o N).set p (.slice A' L'.length c') = famCells (upd A (o + p) A') (upd c (o + p) c') (upd L (o + p) L') o N := by
  apply List.ext_getElem?
  intro i
  rcases Nat.lt_or_ge i N with hi | hi
  · rw [famCells_at hi, List.getElem?_set]
    by_cases e : p = i
    · subst e
      rw [if_pos rfl, if_pos (by unfold famCells; simpa using hp), upd_at, upd_at, upd_at]
    · rw [if_neg e, famCells_at hi, upd_ne _ _ (by omega), upd_ne _ _ (by omega), upd_ne _ _ (by omega)]
  · rw [List.getElem?_eq_none (by unfold famCells; simpa using hi), List.getElem?_eq_none (by unfold famCells; simpa using hi)]
theorem famCells_other {A : Nat → Option Addr} {c : Nat → Nat} {L : Nat → List Int} {o N k : Nat} (hk : k < o ∨ o + N ≤ k) (A' : Option Addr) (c' : Nat) (L' : List Int) :
    famCells (upd A k A') (upd c k c') (upd L k L') o N = famCells A c L o N := by
  unfold famCells
  apply List.map_congr_left
  intro p hp
  have := List.mem_range.1 hp
  rw [upd_ne _ _ (by omega), upd_ne _ _ (by omega), upd_ne _ _ (by omega)]
/-- constants of a call of 'at' -/
structure AtC where
  B : Nat
  g : Nat
  gA : Nat
  gD : Nat
  B2 : Nat
  N : Nat
/-- what stands while the clauses of a time are gathered; Pr: boxes that stay as they are -/
structure AtS (a : AtC) (w : World) (O0 : Option Addr) (Pr : TypeId → Nat → List Value → Prop) (W : World) (cs : List (List Int)) (L : Nat → List Int) (O : Option Addr) (oc : Nat) (vs : List Value) (A : Nat → Option Addr) (c : Nat → Nat) : Prop where
  cl : ClS a.B (famX (2 * a.N) a.gA a.gD A) a.g W cs O oc vs
  fam : Fam (2 * a.N) a.B2 W A c L
  ba : Blk 22 W a.gA (famCells A c L 0 a.N)
  bd : Blk 22 W a.gD (famCells A c L a.N a.N)
  prot : ∀ t b xs, Pr t b xs → Blk t W b xs ∧ ¬ blkA O = some b ∧ ¬ famX (2 * a.N) a.gA a.gD A b ∧ b ≠ a.g
  chg : Chg (fun b => b = a.g ∨ blkA O0 = some b) w W
  at_ : blkA O = blkA O0 ∨ ∃ r, blkA O = some r ∧ w.heap.size ≤ r
  lowA : a.B ≤ a.gA ∧ w.heap.size ≤ a.gA
  lowD : a.B ≤ a.gD ∧ w.heap.size ≤ a.gD
  ne : a.gA ≠ a.gD
  baseA : a.gA < a.B2
  baseD : a.gD < a.B2
  b2 : a.B2 ≤ W.heap.size
section
variable {a : AtC} {w W W' : World} {O0 O : Option Addr} {Pr : TypeId → Nat → List Value → Prop} {cs : List (List Int)} {L : Nat → List Int} {oc : Nat} {vs : List Value} {A : Nat → Option Addr} {c : Nat → Nat}
theorem AtS.keep (h : AtS a w O0 Pr W cs L O oc vs A c) (hb : Below W.heap.size W W') : AtS a w O0 Pr W' cs L O oc vs A c :=
  ⟨h.cl.keep hb, ⟨fun k hk => own_keep (h.fam.own k hk) hb, h.fam.apart, h.fam.low⟩, h.ba.keep hb, h.bd.keep hb, fun t b xs hp => by
    obtain ⟨h1, h2⟩ := h.prot t b xs hp
    exact ⟨h1.keep hb, h2⟩, h.chg.trans (Chg.of_below hb _), h.at_, h.lowA, h.lowD, h.ne, h.baseA, h.baseD, Nat.le_trans h.b2 hb.size⟩
theorem AtS.famB (h : AtS a w O0 Pr W cs L O oc vs A c) : ∀ b, famX (2 * a.N) a.gA a.gD A b → a.B ≤ b ∧ w.heap.size ≤ b := fun b e => by
  rcases e with e | e | ⟨k, hk, e⟩
  · rw [e]; exact h.lowA
  · rw [e]; exact h.lowD
  · have h1 := own_base (h.fam.own k hk) (by rw [own_blkA]; exact e)
    have := h.baseA
    have := h.lowA
    omega
theorem AtS.rowNe (h : AtS a w O0 Pr W cs L O oc vs A c) {k r : Nat} (hk : k < 2 * a.N) (hr : blkA (A k) = some r) : r ≠ a.gA ∧ r ≠ a.gD ∧ r < W.heap.size := by
  have h1 := own_base (h.fam.own k hk) (by rw [own_blkA]; exact hr)
  have h2 := (own_block (h.fam.own k hk) (by rw [own_blkA]; exact hr)).1
  have := h.baseA
  have := h.baseD
  omega
/-- one clause more -/
theorem AtS.add (h : AtS a w O0 Pr W cs L O oc vs A c) {cl : List Int} {e : Ending} (k : AddP a.B (famX (2 * a.N) a.gA a.gD A) a.g O (cs ++ [cl]) W e W') : e = .returned (.tuple #[]) ∧ W.heap.size ≤ W'.heap.size ∧ ∃ (O' : Option Addr) (oc' : Nat) (vs' : List Value), AtS a w O0 Pr W' (cs ++ [cl]) L O' oc' vs' A c := by
  obtain ⟨he, hch, O', oc', vs', hcl, hat⟩ := k
  have hsz := hch.size
  have hgB := h.cl.gB
  have hnX : ∀ b, famX (2 * a.N) a.gA a.gD A b → ¬ (b = a.g ∨ blkA O = some b) := fun b e => by
    rintro (e1 | e1)
    · have := (h.famB b e).1
      omega
    · exact h.cl.apart b e1 e
  refine ⟨he, hsz, O', oc', vs', hcl, ⟨fun k hk => hch.own (h.fam.own k hk) (fun r hr => hnX r (.inr (.inr ⟨k, hk, by rw [← own_blkA]; exact hr⟩))), h.fam.apart, h.fam.low⟩, hch.blk h.ba (hnX _ (.inl rfl)), hch.blk h.bd (hnX _ (.inr (.inl rfl))), fun t b xs hp => ?_, ?_, ?_, h.lowA, h.lowD, h.ne, h.baseA, h.baseD, Nat.le_trans h.b2 hsz⟩
  · obtain ⟨h1, h2, h3, h4⟩ := h.prot t b xs hp
    refine ⟨hch.blk h1 (fun e => by rcases e with e | e; exact h4 e; exact h2 e), ?_, h3, h4⟩
    rcases hat with e | ⟨r, e, hr⟩
    · rw [e]; exact h2
    · intro e2
      rw [e] at e2
      injection e2 with e2
      have := h1.lt
      omega
  · refine h.chg.trans2 hch (fun i hi e => ?_)
    rcases e with e | e
    · exact .inl e
    · rcases h.at_ with e2 | ⟨r, e2, hr⟩
      · exact .inr (by rw [← e2]; exact e)
      · rw [e2] at e
        injection e with e
        omega
  · have := h.chg.size
    rcases hat with e | ⟨r, e, hr⟩
    · rw [e]; exact h.at_
    · exact .inr ⟨r, e, by omega⟩
theorem AtS.congr (h : AtS a w O0 Pr W cs L O oc vs A c) {L' : Nat → List Int} (hL : ∀ k, k < 2 * a.N → L k = L' k) : AtS a w O0 Pr W cs L' O oc vs A c := by
  have hc : ∀ o, o = 0 ∨ o = a.N → famCells A c L o a.N = famCells A c L' o a.N := fun o ho => by
    unfold famCells
    apply List.map_congr_left
    intro p hp
    have := List.mem_range.1 hp
    rw [hL (o + p) (by omega)]
  exact ⟨h.cl, ⟨fun k hk => by rw [← hL k hk]; exact h.fam.own k hk, h.fam.apart, fun k hk => by rw [← hL k hk]; exact h.fam.low k hk⟩, by rw [← hc 0 (.inl rfl)]; exact h.ba, by rw [← hc _ (.inr rfl)]; exact h.bd, h.prot, h.chg, h.at_, h.lowA, h.lowD, h.ne, h.baseA, h.baseD, h.b2⟩
theorem AtS.protect (h : AtS a w O0 Pr W cs L O oc vs A c) {Pr' : TypeId → Nat → List Value → Prop} (hp : ∀ t b xs, Pr' t b xs → Pr t b xs ∨ (Blk t W b xs ∧ ¬ blkA O = some b ∧ ¬ famX (2 * a.N) a.gA a.gD A b ∧ b ≠ a.g)) : AtS a w O0 Pr' W cs L O oc vs A c :=
  ⟨h.cl, h.fam, h.ba, h.bd, fun t b xs e => (hp t b xs e).elim (fun e => h.prot t b xs e) id, h.chg, h.at_, h.lowA, h.lowD, h.ne, h.baseA, h.baseD, h.b2⟩
/-- a new box is apart from all -/
theorem AtS.fresh (h : AtS a w O0 Pr W cs L O oc vs A c) {b : Nat} (hb : W.heap.size ≤ b) : ¬ blkA O = some b ∧ ¬ famX (2 * a.N) a.gA a.gD A b ∧ b ≠ a.g := by
  refine ⟨fun e => ?_, fun e => ?_, fun e => ?_⟩
  · have := (h.cl.own.base e).2
    omega
  · have := h.cl.low b e
    omega
  · have := h.cl.box.lt
    omega
/-- a row of ints has one element more, and its place holds it -/
theorem AtS.push (h : AtS a w O0 Pr W cs L O oc vs A c) {k p o gX : Nat} (hk : k = o + p) (hp : p < a.N) (ho : (o = 0 ∧ gX = a.gA) ∨ (o = a.N ∧ gX = a.gD)) {x : Int} (hx : 0 ≤ x ∧ x ≤ 100000) {O6 : Option Addr} {c6 : Nat}
    (hown : W'.ownsRow a.B2 3 1 (.slice O6 ((L k).length + 1) c6) ((L k).length + 1) ((L k).map (Value.int .i64) ++ [.int .i64 x])) (hch : Chg (fun b => blkA (A k) = some b) W W') (hat : blkA O6 = blkA (A k) ∨ ∃ r, blkA O6 = some r ∧ W.heap.size ≤ r) :
    AtS a w O0 Pr (W'.setCell ⟨gX, p, none⟩ (.slice O6 ((L k).length + 1) c6)) cs (upd L k (L k ++ [x])) O oc vs (upd A k O6) (upd c k c6) := by
  have hkN : k < 2 * a.N := by rcases ho with ⟨h1, _⟩ | ⟨h1, _⟩ <;> omega
  have hsz := hch.size
  have hgX : famX (2 * a.N) a.gA a.gD A gX := by rcases ho with ⟨_, h1⟩ | ⟨_, h1⟩; exact .inl h1; exact .inr (.inl h1)
  have hgXl : gX < W.heap.size := h.cl.low gX hgX
  have hgXB : gX < a.B2 := by rcases ho with ⟨_, h1⟩ | ⟨_, h1⟩; rw [h1]; exact h.baseA; rw [h1]; exact h.baseD
  have hc2 : Chg (fun b => b = gX ∨ blkA (A k) = some b) W (W'.setCell ⟨gX, p, none⟩ (.slice O6 ((L k).length + 1) c6)) := (hch.mono (fun b e => .inr e)).trans ((Chg.set W' gX p _).mono (fun b e => .inl e))
  have hcX : Chg (famX (2 * a.N) a.gA a.gD A) W (W'.setCell ⟨gX, p, none⟩ (.slice O6 ((L k).length + 1) c6)) := hc2.mono (fun b e => by
    rcases e with e | e
    · rw [e]; exact hgX
    · exact .inr (.inr ⟨k, hkN, e⟩))
  have hO6 : ∀ r, blkA O6 = some r → a.B2 ≤ r ∧ r < W'.heap.size := fun r hr => ⟨own_base hown (by rw [own_blkA]; exact hr), (own_block hown (by rw [own_blkA]; exact hr)).1⟩
  have hX' : ∀ b, famX (2 * a.N) a.gA a.gD (upd A k O6) b → famX (2 * a.N) a.gA a.gD A b ∨ (W.heap.size ≤ b ∧ b < W'.heap.size) := fun b e => by
    rcases e with e | e | ⟨j, hj, e⟩
    · exact .inl (.inl e)
    · exact .inl (.inr (.inl e))
    · by_cases hjk : j = k
      · subst hjk
        rw [upd_at] at e
        rcases hat with h6 | ⟨r, h6, hr⟩
        · exact .inl (.inr (.inr ⟨j, hj, by rw [← h6]; exact e⟩))
        · rw [h6] at e
          injection e with e
          subst e
          exact .inr ⟨hr, (hO6 r h6).2⟩
      · rw [upd_ne _ _ hjk] at e
        exact .inl (.inr (.inr ⟨j, hj, e⟩))
  have hszE : (W'.setCell ⟨gX, p, none⟩ (.slice O6 ((L k).length + 1) c6)).heap.size = W'.heap.size := by simp [World.setCell]
  refine ⟨h.cl.other hcX (fun b e => (h.famB b e).1) (fun b e => by rw [hszE]; exact hX' b e), ⟨fun j hj => ?_, fun i j hi hj hij r hr => ?_, fun j hj y hy => ?_⟩, ?_, ?_, fun t b xs hpr => ?_, h.chg.trans2 hcX (fun i hi e => by have := (h.famB i e).2; omega), h.at_, h.lowA, h.lowD, h.ne, h.baseA, h.baseD, by have := h.b2; rw [hszE]; omega⟩
  · by_cases hjk : j = k
    · subst hjk
      rw [upd_at, upd_at, upd_at, List.length_append, List.map_append]
      exact (Chg.set W' gX p _).own hown (fun r hr e => by rw [own_blkA] at hr; have := (hO6 r hr).1; omega)
    · rw [upd_ne _ _ hjk, upd_ne _ _ hjk, upd_ne _ _ hjk]
      refine hc2.own (h.fam.own j hj) (fun r hr e => ?_)
      rw [own_blkA] at hr
      rcases e with e | e
      · have := own_base (h.fam.own j hj) (by rw [own_blkA]; exact hr)
        omega
      · exact h.fam.apart j k hj hkN hjk r hr e
  · by_cases hik : i = k
    · subst hik
      rw [upd_at] at hr
      rw [upd_ne _ _ (Ne.symm hij)]
      intro e
      rcases hat with h6 | ⟨q, h6, hq⟩
      · exact h.fam.apart i j hi hj hij r (by rw [← h6]; exact hr) e
      · rw [h6] at hr
        injection hr with hr
        have := (h.rowNe hj e).2.2
        omega
    · rw [upd_ne _ _ hik] at hr
      by_cases hjk : j = k
      · subst hjk
        rw [upd_at]
        intro e
        rcases hat with h6 | ⟨q, h6, hq⟩
        · exact h.fam.apart i j hi hj hij r hr (by rw [← h6]; exact e)
        · rw [h6] at e
          injection e with e
          have := (h.rowNe hi hr).2.2
          omega
      · rw [upd_ne _ _ hjk]
        exact h.fam.apart i j hi hj hij r hr
  · by_cases hjk : j = k
    · subst hjk
      rw [upd_at] at hy
      rcases List.mem_append.1 hy with hy | hy
      · exact h.fam.low j hj y hy
      · simp at hy
        rw [hy]
        exact hx
    · rw [upd_ne _ _ hjk] at hy
      exact h.fam.low j hj y hy
  · have hnA : ∀ g, famX (2 * a.N) a.gA a.gD A g → (g = a.gA ∨ g = a.gD) → ¬ blkA (A k) = some g := fun g _ e1 e => by
      have := h.rowNe hkN e
      omega
    rcases ho with ⟨h1, h2⟩ | ⟨h1, h2⟩
    · subst h1 h2
      have := (hch.blk h.ba (hnA _ (.inl rfl) (.inl rfl))).set p (.slice O6 ((L k).length + 1) c6)
      have e := famCells_set (A := A) (c := c) (L := L) (o := 0) hp O6 c6 (L k ++ [x])
      rw [List.length_append] at e
      rw [show ([x] : List Int).length = 1 from rfl] at e
      rw [e] at this
      rw [hk] at this ⊢
      exact this
    · subst h1 h2
      rw [hk, famCells_other (.inr (by omega))]
      have := (hch.blk h.ba (hnA _ (.inl rfl) (.inl rfl))).far (p := ⟨a.gD, p, none⟩) h.ne (.slice O6 ((L k).length + 1) c6)
      rw [← hk]
      exact this
  · have hnA : ∀ g, famX (2 * a.N) a.gA a.gD A g → (g = a.gA ∨ g = a.gD) → ¬ blkA (A k) = some g := fun g _ e1 e => by
      have := h.rowNe hkN e
      omega
    rcases ho with ⟨h1, h2⟩ | ⟨h1, h2⟩
    · subst h1 h2
      rw [famCells_other (.inl (by omega))]
      exact (hch.blk h.bd (hnA _ (.inr (.inl rfl)) (.inr rfl))).far (p := ⟨a.gA, p, none⟩) (Ne.symm h.ne) (.slice O6 ((L k).length + 1) c6)
    · subst h1 h2
      have := (hch.blk h.bd (hnA _ (.inr (.inl rfl)) (.inr rfl))).set p (.slice O6 ((L k).length + 1) c6)
      have e := famCells_set (A := A) (c := c) (L := L) (o := a.N) hp O6 c6 (L k ++ [x])
      rw [List.length_append] at e
      rw [show ([x] : List Int).length = 1 from rfl] at e
      rw [e] at this
      rw [hk] at this ⊢
      exact this
  · obtain ⟨h1, h2, h3, h4⟩ := h.prot t b xs hpr
    refine ⟨hcX.blk h1 h3, h2, fun e => ?_, h4⟩
    rcases hX' b e with e | e
    · exact h3 e
    · have := h1.lt
      omega
end
/-- the rows at the start: all of them nil -/
theorem run_make_rows {P : Program} (t e : TypeId) (i : TypeInfo) (ht : P.underlying t = some (.slice e)) (hi : P.info? e = some i) (hz : i.zero = some (.slice none 0 0)) (h1 : i.size = 1) (h8 : i.bytes = 24)
    (n : Nat) (hn : n ≤ 1000000) (w : World) :
    (Instr.makeSlice t (.int .i64 (n : Int)) (.int .i64 (n : Int))).run P w = .ok (.slice (some ⟨w.heap.size, 0, none⟩) n n) (w.alloc (.cells (famCells (fun _ => none) (fun _ => 0) (fun _ => []) 0 n).toArray e)) := by
  have hr := run_make (P := P) w t e i _ ht hi hz .i64 .i64 n n (by omega) (by omega) (by rw [h8]; omega) (by omega)
  simp only [Int.toNat_natCast] at hr
  rw [hr, h1, Nat.mul_one]
  congr 3
  apply Array.ext'
  rw [show (Value.slice none 0 0).cells = #[Value.slice none 0 0] from rfl, toList_madeCells_one]
  unfold famCells
  simp
  apply List.ext_getElem
  · simp
  · intro i h1 h2
    simp
end Go.Proofs.YtemiecammmbjdaaGreat
namespace Go.Proofs.YtemiecammmbjdaaGreat
set_option linter.unusedVariables false
set_option linter.unusedSimpArgs false
open Go.RowKit
theorem factV_low {N t p : Nat} (hN : N ≤ 24) (ht : t ≤ 10) (hp : p ≤ 100) : 0 ≤ factV N t p ∧ factV N t p ≤ 1000 := by
  have := Nat.mul_le_mul ht hN
  have h2 : (t : Int) * (N : Int) = ((t * N : Nat) : Int) := by rw [Int.natCast_mul]
  unfold factV
  rw [h2]
  omega
theorem stepV_low {N S n t q : Nat} (hN : N ≤ 24) (hS : S ≤ 10) (ht : t ≤ 10) (hn : n ≤ 100) (hq : q ≤ 100) : 0 ≤ stepV N S n t q ∧ stepV N S n t q ≤ 5000 := by
  have h1 := Nat.mul_le_mul (show S + 1 ≤ 11 by omega) hN
  have h2 := Nat.mul_le_mul ht hn
  have e1 : ((S : Int) + 1) * (N : Int) = (((S + 1) * N : Nat) : Int) := by rw [Int.natCast_mul]; simp
  have e2 : (t : Int) * (n : Int) = ((t * n : Nat) : Int) := by rw [Int.natCast_mul]
  unfold stepV
  rw [e1, e2]
  omega
/-- the clauses of operator q at a time -/
def opC1 (N S n t q j : Nat) : List (List Int) := (List.range j).map fun k => [-(stepV N S n t k), -(stepV N S n t q)]
def opC2 (N S n t q : Nat) (l : List Int) : List (List Int) := l.map fun p => [factV N t p.toNat, -(stepV N S n t q)]
def opCA (N S n t q : Nat) (l : List Int) : List (List Int) := l.map fun p => [factV N (t + 1) p.toNat, -(stepV N S n t q)]
def opCD (N S n t q : Nat) (l : List Int) : List (List Int) := l.map fun p => [-(factV N (t + 1) p.toNat), -(stepV N S n t q)]
def opC (N S n t q : Nat) (o : Opr) : List (List Int) := opC1 N S n t q q ++ opC2 N S n t q o.pre ++ opCA N S n t q o.add ++ opCD N S n t q o.del
def atOps (N S t : Nat) (ops : List Opr) (q : Nat) : List (List Int) := (List.range q).flatMap fun j => opC N S ops.length t j (opAt ops j)
def addsF (N S t : Nat) (ops : List Opr) (q p : Nat) : List Int := ((List.range q).filter fun j : Nat => hasB (opAt ops (j : Int)).add (p : Int)).map fun j => stepV N S ops.length t j
def delsF (N S t : Nat) (ops : List Opr) (q p : Nat) : List Int := ((List.range q).filter fun j : Nat => hasB (opAt ops (j : Int)).del (p : Int)).map fun j => stepV N S ops.length t j
def atFr (N S t : Nat) (ops : List Opr) (k : Nat) : List (List Int) := (List.range k).flatMap fun p => [[factV N t p, -(factV N (t + 1) p)] ++ addsF N S t ops ops.length p, [-(factV N t p), factV N (t + 1) p] ++ delsF N S t ops ops.length p]
def atC (N S t : Nat) (ops : List Opr) : List (List Int) := atOps N S t ops ops.length ++ atFr N S t ops N
theorem atOps_succ (N S t : Nat) (ops : List Opr) (q : Nat) : atOps N S t ops (q + 1) = atOps N S t ops q ++ opC N S ops.length t q (opAt ops q) := by
  unfold atOps
  rw [List.range_succ, List.flatMap_append]
  simp
theorem atFr_succ (N S t : Nat) (ops : List Opr) (k : Nat) : atFr N S t ops (k + 1) = atFr N S t ops k ++ [[factV N t k, -(factV N (t + 1) k)] ++ addsF N S t ops ops.length k] ++ [[-(factV N t k), factV N (t + 1) k] ++ delsF N S t ops ops.length k] := by
  unfold atFr
  rw [List.range_succ, List.flatMap_append]
  simp
theorem opC1_succ (N S n t q j : Nat) : opC1 N S n t q (j + 1) = opC1 N S n t q j ++ [[-(stepV N S n t j), -(stepV N S n t q)]] := by
  unfold opC1
  rw [List.range_succ, List.map_append]
  rfl
theorem opC2_succ {N S n t q j : Nat} {l : List Int} {p : Nat} (h : l[j]? = some (p : Int)) : opC2 N S n t q (l.take (j + 1)) = opC2 N S n t q (l.take j) ++ [[factV N t p, -(stepV N S n t q)]] := by
  unfold opC2
  rw [List.take_add_one, h]
  simp
theorem opCA_succ {N S n t q j : Nat} {l : List Int} {p : Nat} (h : l[j]? = some (p : Int)) : opCA N S n t q (l.take (j + 1)) = opCA N S n t q (l.take j) ++ [[factV N (t + 1) p, -(stepV N S n t q)]] := by
  unfold opCA
  rw [List.take_add_one, h]
  simp
theorem opCD_succ {N S n t q j : Nat} {l : List Int} {p : Nat} (h : l[j]? = some (p : Int)) : opCD N S n t q (l.take (j + 1)) = opCD N S n t q (l.take j) ++ [[-(factV N (t + 1) p), -(stepV N S n t q)]] := by
  unfold opCD
  rw [List.take_add_one, h]
  simp
/-- the rows of adders and deleters while the lists of operator q are gone through -/
def famL (N S t : Nat) (ops : List Opr) (q : Nat) (la ld : List Int) (k : Nat) : List Int :=
  if k < N then addsF N S t ops q k ++ (if hasB la k = true then [stepV N S ops.length t q] else []) else delsF N S t ops q (k - N) ++ (if hasB ld ((k - N : Nat) : Int) = true then [stepV N S ops.length t q] else [])
theorem hasB_take_succ {l : List Int} {j : Nat} {x : Int} (hs : l.Pairwise (· < ·)) (hx : l[j]? = some x) (y : Int) : hasB (l.take (j + 1)) y = (hasB (l.take j) y || decide (y = x)) := by
  rw [List.take_add_one, hx]
  simp [hasB, List.any_append, eq_comm]
theorem take_not {l : List Int} {j : Nat} {x : Int} (hs : l.Pairwise (· < ·)) (hx : l[j]? = some x) : hasB (l.take j) x = false := by
  cases h : hasB (l.take j) x with
  | false => rfl
  | true =>
    rw [hasB_iff, List.mem_take_iff_getElem] at h
    obtain ⟨i, hi, e⟩ := h
    have h1 : l[i]? = some x := by rw [← e]; exact List.getElem?_eq_getElem _
    have := up_get hs h1 hx (by omega)
    omega
theorem famL_add {N S t q j p : Nat} {ops : List Opr} {la ld : List Int} (hs : la.Pairwise (· < ·)) (hx : la[j]? = some (p : Int)) (hp : p < N) (k : Nat) :
    upd (famL N S t ops q (la.take j) ld) p (famL N S t ops q (la.take j) ld p ++ [stepV N S ops.length t q]) k = famL N S t ops q (la.take (j + 1)) ld k := by
  by_cases hk : k = p
  · subst hk
    rw [upd_at]
    unfold famL
    rw [if_pos hp, if_pos hp, take_not hs hx, hasB_take_succ hs hx]
    simp
  · rw [upd_ne _ _ hk]
    unfold famL
    by_cases hkN : k < N
    · rw [if_pos hkN, if_pos hkN, hasB_take_succ hs hx]
      have : ¬ ((k : Int) = (p : Int)) := by omega
      simp [this]
    · rw [if_neg hkN, if_neg hkN]
theorem famL_del {N S t q j p : Nat} {ops : List Opr} {la ld : List Int} (hs : ld.Pairwise (· < ·)) (hx : ld[j]? = some (p : Int)) (k : Nat) :
    upd (famL N S t ops q la (ld.take j)) (N + p) (famL N S t ops q la (ld.take j) (N + p) ++ [stepV N S ops.length t q]) k = famL N S t ops q la (ld.take (j + 1)) k := by
  by_cases hk : k = N + p
  · subst hk
    rw [upd_at]
    unfold famL
    have hnp : ¬ (N + p < N) := by omega
    rw [if_neg hnp, if_neg hnp, show N + p - N = p by omega, take_not hs hx, hasB_take_succ hs hx]
    simp
  · rw [upd_ne _ _ hk]
    unfold famL
    by_cases hkN : k < N
    · rw [if_pos hkN, if_pos hkN]
    · rw [if_neg hkN, if_neg hkN, hasB_take_succ hs hx]
      have : ¬ (((k - N : Nat) : Int) = (p : Int)) := by omega
      simp [this]
theorem famL_next {N S t q : Nat} {ops : List Opr} (k : Nat) : famL N S t ops q (opAt ops q).add (opAt ops q).del k = famL N S t ops (q + 1) [] [] k := by
  have e0 : ∀ y, hasB [] y = false := fun y => by simp [hasB]
  unfold famL
  rw [e0, e0]
  by_cases hkN : k < N
  · rw [if_pos hkN, if_pos hkN]
    unfold addsF
    rw [List.range_succ, List.filter_append, List.map_append, List.filter_cons, List.filter_nil]
    cases hasB (opAt ops q).add k <;> simp
  · rw [if_neg hkN, if_neg hkN]
    unfold delsF
    rw [List.range_succ, List.filter_append, List.map_append, List.filter_cons, List.filter_nil]
    cases hasB (opAt ops q).del ((k - N : Nat) : Int) <;> simp
theorem famL_zero {N S t q : Nat} {ops : List Opr} (k : Nat) : famL N S t ops q [] [] k = if k < N then addsF N S t ops q k else delsF N S t ops q (k - N) := by
  unfold famL
  simp [hasB]
theorem famL_len (N S t : Nat) (ops : List Opr) (q : Nat) (la ld : List Int) (k : Nat) : (famL N S t ops q la ld k).length ≤ q + 1 := by
  unfold famL addsF delsF
  have h1 : ∀ f : Nat → Bool, ((List.range q).filter f).length ≤ q := fun f => Nat.le_trans (List.length_filter_le _ _) (by simp)
  split
  · rw [List.length_append, List.length_map]
    have := h1 fun j : Nat => hasB (opAt ops (j : Int)).add (k : Int)
    split <;> simp <;> omega
  · rw [List.length_append, List.length_map]
    have := h1 fun j : Nat => hasB (opAt ops (j : Int)).del ((k - N : Nat) : Int)
    split <;> simp <;> omega
def PrT (gT : Nat) (tc : List Value) : TypeId → Nat → List Value → Prop := fun t b xs => t = 85 ∧ b = gT ∧ xs = tc
def PrX (gT : Nat) (tc : List Value) (gX : Nat) (xc : List Value) : TypeId → Nat → List Value → Prop := fun t b xs => PrT gT tc t b xs ∨ (t = 72 ∧ b = gX ∧ xs = xc)
section
variable {a : AtC} {w W : World} {O0 O : Option Addr} {Pr : TypeId → Nat → List Value → Prop} {cs : List (List Int)} {L : Nat → List Int} {oc : Nat} {vs : List Value} {A : Nat → Option Addr} {c : Nat → Nat}
def Added (a : AtC) (w : World) (O0 : Option Addr) (Pr : TypeId → Nat → List Value → Prop) (W : World) (cs : List (List Int)) (L : Nat → List Int) (A : Nat → Option Addr) (c : Nat → Nat) (e : Ending) (w' : World) : Prop :=
  e = .returned (.tuple #[]) ∧ W.heap.size ≤ w'.heap.size ∧ ∃ (O' : Option Addr) (oc' : Nat) (vs' : List Value), AtS a w O0 Pr w' cs L O' oc' vs' A c
theorem AtS.call (h : AtS a w O0 Pr W cs L O oc vs A c) {D : Option Addr} {k d : Nat} {xs : List Int} (hn : cs.length ≤ 1000000) (hf : Firm (Enc.sl Enc.int) (ClM a.B (famX (2 * a.N) a.gA a.gD A) W O) W [.slice D k d] xs) :
    Calls Tryz.prog 75 #[.slice D k d, .pointer (some ⟨a.g, 0, none⟩)] W (Added a w O0 Pr W (cs ++ [xs]) L A c) :=
  (add_ct a.B _ a.g cs O oc vs D k d xs W h.cl hf hn).mono fun e w' k => h.add k
theorem AtS.call2 (h : AtS a w O0 Pr W cs L O oc vs A c) (x y : Int) (hn : cs.length ≤ 1000000) (hx : -10000 ≤ x ∧ x ≤ 10000) (hy : -10000 ≤ y ∧ y ≤ 10000) :
    Calls Tryz.prog 75 #[.slice (some ⟨W.heap.size, 0, none⟩) 2 2, .pointer (some ⟨a.g, 0, none⟩)] (W.alloc (.cells #[.int .i64 x, .int .i64 y] 3)) (Added a w O0 Pr W (cs ++ [[x, y]]) L A c) := by
  have hb : Below W.heap.size W (W.alloc (.cells #[.int .i64 x, .int .i64 y] 3)) := (Below.refl _ _).alloc (Nat.le_refl _) _
  have hk := h.keep hb
  have ho : (W.alloc (.cells #[.int .i64 x, .int .i64 y] 3)).ownsRow W.heap.size 3 1 (.slice (some ⟨W.heap.size, 0, none⟩) 2 2) 2 ([x, y].map (Value.int .i64)) := own_fresh (Nat.le_refl _) (by omega) rfl
  have hO : ∀ r, blkA O = some r → r < W.heap.size := fun r hr => (h.cl.own.base hr).2
  refine (hk.call hn (firm_row ho rfl (fun z hz => by simp at hz; rcases hz with rfl | rfl <;> omega) (fun i hi e => ?_))).mono fun e w' k => ⟨k.1, by have := k.2.1; have := hb.size; omega, k.2.2⟩
  rcases e with e | e | e | e
  · exact hO i e
  · have := h.cl.size
    omega
  · exact h.cl.low i e
  · omega
end
/-- all of a slice of ints onto a row of the call's own, in a region that draws -/
theorem step_app_ints {P : Program} {w : World} {ops : Array Oper} {o : Oper} {a : Act} {K : Act → World → Prop} {Q : Exit → Act → World → Prop} {X : Prop} (hgd : o.guard = none) (s x : Operand) (t : TypeId)
    (ho : o.op = .call { callee := .builtin .append, args := #[s, x], argTypes := #[t, t] })
    (base : Nat) (e : TypeId) (i : TypeInfo) (z : Value) (bytes : Nat) (ht : P.underlying t = some (.slice e)) (hi : P.info? e = some i) (hz : i.zero = some z)
    (hsize : i.size = 1) (hby : i.bytes = bytes) (hzs : z.cells.size = 1)
    (v : Value) (n : Nat) (xs : List Value) (hs : a.eval s = v) (hown : w.ownsRow base e 1 v n xs)
    (A : Option Addr) (m c : Nat) (ys : List Int) (hr : Rd Enc.int w A m c ys) (hx : a.eval x = .slice A m c)
    (h63 : n + m ≤ 1000000000000) (hbytes : (n + m) * bytes ≤ 140737488355328) (hbase : base ≤ w.heap.size)
    (h : ∀ O oc w', w'.ownsRow base e 1 (.slice O (n + m) oc) (n + m) (xs ++ ys.map (Value.int .i64)) → Below base w w' → K (a.put o.dst (.slice O (n + m) oc)) w') :
    if Region.wanted o (yielded ops a.tmps) = true then Oper.wp P o a w K Q else X := by
  have shape : ∀ {w' : World} {v' : Value} {k : Nat} {l : List Value}, w'.ownsRow base e 1 v' k l → ∃ O oc, v' = .slice O k oc := by
    intro w' v' k l h'
    rcases h'.2 with ⟨h0, h1⟩ | ⟨g, cap, cur, e', _⟩
    · exact ⟨_, _, by rw [h0, h1]⟩
    · exact ⟨_, _, e'⟩
  have hw : Region.wanted o (yielded ops a.tmps) = true := by simp [Region.wanted, hgd]
  rw [if_pos hw]
  cases A with
  | none =>
    have hc := hr.nil rfl
    have hm := hr.cap
    obtain rfl : c = 0 := hc
    obtain rfl : m = 0 := by omega
    obtain rfl : ys = [] := List.eq_nil_of_length_eq_zero hr.len
    have hrun := run_append_owned_none (P := P) (w := w) base t o.type e i 1 ht hi v n xs hown
    obtain ⟨O, oc, rfl⟩ := shape hown
    unfold Oper.wp
    simp [execOp, ho, resolve, invoke, builtin, hs, hx, hrun, Result.andThen]
    exact h O oc w (by simpa using hown) (Below.refl _ _)
  | some ad =>
    obtain ⟨v', w', hrn, h2, h3, h4, h5⟩ := run_append_own_at (P := P) w base t o.type e i z 1 bytes ht hi hz hsize hby hzs (by omega) v n xs hown ad m c (ys.map (Value.int .i64)) (by rw [List.length_map, hr.len]; omega) (by
      intro j u hj
      rw [List.getElem?_map] at hj
      cases hy : ys[j]? with
      | none => rw [hy] at hj; cases hj
      | some y =>
        rw [hy] at hj
        injection hj with hj
        subst hj
        obtain ⟨b, off, y', e1, hy', _, _, hc'⟩ := hr.int (show j < m by rw [← hr.len]; exact (List.getElem?_eq_some_iff.1 hy).1)
        injection e1 with e1
        subst e1
        rw [add_plain, hc', Option.some.inj (hy'.symm.trans hy)]) (by intro u hu; obtain ⟨y, _, rfl⟩ := List.mem_map.1 hu; rfl) (by unfold maxLen; omega) hbytes hbase
    unfold Oper.wp execOp
    simp only [ho, resolve, invoke, builtin, Sem.run_bind, Sem.run_pure, Result.andThen_ok, List.map_toArray, List.map_cons, List.map_nil, hs, hx, hrn]
    obtain ⟨O, oc, rfl⟩ := shape h2
    exact h O oc w' h2 ((Below.refl base w).grown h3 hbase (fun k hk => (hown.lt k hk).1))
theorem AtS.callRow {a : AtC} {w W W6 : World} {O0 O : Option Addr} {Pr : TypeId → Nat → List Value → Prop} {cs : List (List Int)} {L : Nat → List Int} {oc : Nat} {vs : List Value} {A : Nat → Option Addr} {c : Nat → Nat} (h : AtS a w O0 Pr W cs L O oc vs A c) (hb : Below W.heap.size W W6) {D : Option Addr} {n d : Nat} {xs : List Int}
    (ho : W6.ownsRow W.heap.size 3 1 (.slice D n d) n (xs.map (Value.int .i64))) (hl : xs.length = n) (hx : ∀ x ∈ xs, -100000 ≤ x ∧ x ≤ 100000) (hn : cs.length ≤ 1000000) :
    Calls Tryz.prog 75 #[.slice D n d, .pointer (some ⟨a.g, 0, none⟩)] W6 (Added a w O0 Pr W (cs ++ [xs]) L A c) := by
  have hk := h.keep hb
  have hO : ∀ r, blkA O = some r → r < W.heap.size := fun r hr => (h.cl.own.base hr).2
  refine (hk.call hn (firm_row ho hl (fun z hz => by have := hx z hz; omega) (fun i hi e => ?_))).mono fun e w' k => ⟨k.1, by have := k.2.1; have := hb.size; omega, k.2.2⟩
  rcases e with e | e | e | e
  · exact hO i e
  · have := h.cl.size
    omega
  · exact h.cl.low i e
  · omega
theorem cell5 {t : TypeId} {w : World} {g : Nat} {x0 x1 x2 x3 x4 : Value} (h : Blk t w g [x0, x1, x2, x3, x4]) : w.cell? ⟨g, 0, none⟩ = some x0 ∧ w.cell? ⟨g, 1, none⟩ = some x1 ∧ w.cell? ⟨g, 2, none⟩ = some x2 ∧ w.cell? ⟨g, 3, none⟩ = some x3 ∧ w.cell? ⟨g, 4, none⟩ = some x4 := ⟨h.cell 0, h.cell 1, h.cell 2, h.cell 3, h.cell 4⟩
def AtP (B g : Nat) (O0 : Option Addr) (cs : List (List Int)) (w : World) (e : Ending) (w' : World) : Prop :=
  e = .returned (.tuple #[]) ∧ Chg (fun b => b = g ∨ blkA O0 = some b) w w' ∧ ∃ (O : Option Addr) (oc : Nat) (vs : List Value), ClS B (fun _ => False) g w' cs O oc vs ∧ (blkA O = blkA O0 ∨ ∃ r, blkA O = some r ∧ w.heap.size ≤ r)
theorem at_start {B g N S t : Nat} {w W0 : World} {cs0 : List (List Int)} {O0 : Option Addr} {oc0 : Nat} {vs0 : List Value} {ops : List Opr} {tc : List Value} (h : ClS B (fun _ => False) g w cs0 O0 oc0 vs0)
    (hW : W0 = ((w.alloc (.cells tc.toArray 85)).alloc (.cells (famCells (fun _ => none) (fun _ => 0) (fun _ => []) 0 N).toArray 22)).alloc (.cells (famCells (fun _ => none) (fun _ => 0) (fun _ => []) 0 N).toArray 22)) :
    AtS ⟨B, g, w.heap.size + 1, w.heap.size + 1 + 1, w.heap.size + 1 + 1 + 1, N⟩ w O0 (PrT w.heap.size tc) W0 cs0 (famL N S t ops 0 [] []) O0 oc0 vs0 (fun _ => none) (fun _ => 0) := by
  have hb : Below w.heap.size w W0 := by rw [hW]; exact below_three w _ _ _
  have hsz : W0.heap.size = w.heap.size + 1 + 1 + 1 := by rw [hW]; simp only [World.size_alloc]
  have hB := h.size
  have hg := h.box.lt
  have hO : ∀ r, blkA O0 = some r → r < w.heap.size := fun r hr => (h.own.base hr).2
  have b1 : Blk 85 W0 w.heap.size tc := by rw [hW]; exact ((Blk.new w _ tc).alloc _).alloc _
  have b2 : Blk 22 W0 (w.heap.size + 1) (famCells (fun _ => none) (fun _ => 0) (fun _ => []) 0 N) := by
    rw [hW]
    have := (Blk.new (w.alloc (.cells tc.toArray 85)) 22 (famCells (fun _ => none) (fun _ => 0) (fun _ => []) 0 N)).alloc (.cells (famCells (fun _ => none) (fun _ => 0) (fun _ => []) 0 N).toArray 22)
    simpa only [World.size_alloc] using this
  have b3 : Blk 22 W0 (w.heap.size + 1 + 1) (famCells (fun _ => none) (fun _ => 0) (fun _ => []) 0 N) := by
    rw [hW]
    have := Blk.new ((w.alloc (.cells tc.toArray 85)).alloc (.cells (famCells (fun _ => none) (fun _ => 0) (fun _ => []) 0 N).toArray 22)) 22 (famCells (fun _ => none) (fun _ => 0) (fun _ => []) 0 N)
    simpa only [World.size_alloc] using this
  have hl : ∀ k, famL N S t ops 0 [] [] k = [] := fun k => by rw [famL_zero]; simp [addsF, delsF]
  have hc : ∀ o, famCells (fun _ => none) (fun _ => 0) (famL N S t ops 0 [] []) o N = famCells (fun _ => none) (fun _ => 0) (fun _ => []) 0 N := fun o => by
    unfold famCells
    apply List.map_congr_left
    intro p _
    rw [hl]
  obtain ⟨gA, hgA⟩ : ∃ g, g = w.heap.size + 1 := ⟨_, rfl⟩
  obtain ⟨gD, hgD⟩ : ∃ g, g = w.heap.size + 1 + 1 := ⟨_, rfl⟩
  obtain ⟨B2, hB2⟩ : ∃ g, g = w.heap.size + 1 + 1 + 1 := ⟨_, rfl⟩
  rw [← hgA] at b2
  rw [← hgD] at b3
  rw [← hB2, ← hgD, ← hgA]
  refine ⟨h.other (Chg.of_below hb _) (fun _ e => e.elim) (fun b e => .inr ?_), ⟨fun k _ => (by rw [hl]; exact World.ownsRow_nil _ _ _ _), fun _ _ _ _ _ r hr => (by cases hr), fun k _ x hx => (by rw [hl] at hx; cases hx)⟩, by rw [hc]; exact b2, by rw [hc]; exact b3, fun t b xs e => ?_, Chg.of_below hb _, .inl rfl, ⟨by show B ≤ gA; omega, by show _ ≤ gA; omega⟩, ⟨by show B ≤ gD; omega, by show _ ≤ gD; omega⟩, by show ¬ gA = gD; omega, by show gA < B2; omega, by show gD < B2; omega, by show B2 ≤ _; omega⟩
  · rcases e with e | e | ⟨k, _, e⟩
    · subst e; omega
    · subst e; omega
    · cases e
  · obtain ⟨rfl, rfl, rfl⟩ := e
    refine ⟨b1, fun e => by have := hO _ e; omega, fun e => ?_, fun e => by rw [e] at hg; exact absurd hg (Nat.lt_irrefl _)⟩
    rcases e with e | e | ⟨k, _, e⟩
    · simp only at e; omega
    · simp only at e; omega
    · cases e
set_option maxRecDepth 100000 in
set_option maxHeartbeats 12800000 in
theorem at_ct (a0 : TA) (T : Tsk) (N S t B g : Nat) (cs0 : List (List Int)) (O0 : Option Addr) (oc0 : Nat) (vs0 : List Value) (w : World) (w0 : World) (hT : TkR w0 a0 T) (hb0 : Below w0.heap.size w0 w) (hg0 : w0.heap.size ≤ g) (hok : OkT T N) (hn : T.ops.length ≤ 20) (hS : S ≤ 4) (ht : t < S)
    (hcl : ClS B (fun _ => False) g w cs0 O0 oc0 vs0) (hlen0 : cs0.length ≤ 100000) :
    Calls Tryz.prog 78 #[.agg #[.int .i64 T.facts, .slice a0.I a0.nI a0.cI, .slice a0.G a0.nG a0.cG, .slice a0.O a0.nO a0.cO, .int .i64 S], .int .i64 t, .func (.func 75) #[] #[.pointer (some ⟨g, 0, none⟩)]] w (AtP B g O0 (cs0 ++ atC N S t T.ops) w) := by
  obtain ⟨i1, hi1, hy0, hy1, hy2⟩ := info_parts rowInfoT
  obtain ⟨i0, hi0, hz0, hz1, hz2⟩ := info_parts intInfoT
  have hmk := fun w => run_make_rows (P := Tryz.prog) 36 22 i1 Tryz.underlying36 hi1 hy0 hy1 hy2 N (by have := hok.low; omega) w
  have hfc := fun t p w h1 h2 h3 => fact_ct a0 N S t p w h1 h2 h3
  have hsc := fun t q w h1 h2 h3 h4 h5 => step_ct a0 N S t q w h1 h2 h3 h4 h5
  obtain ⟨I, nI, cI, G, nG, cG, Oo, nO, cO⟩ := a0
  simp only at hfc hsc ⊢
  rw [hok.facts]
  have hN := hok.low
  have hlO := hT.ops.len
  have hlow := hT.ops.low
  simp only at hlO hlow
  rw [hlO] at hn
  have HlO := hide hlO
  have HT := hide hT
  have hLow : ∀ W, Chg (fun b => b = g ∨ blkA O0 = some b) w W → Below w0.heap.size w0 W := fun W hc => hb0.trans (hc.below (fun i e => by
    rcases e with e | e
    · omega
    · have := (hcl.own.base e).1
      have := hcl.gB
      omega) hb0.size)
  have HLow := hide hLow
  have Hok := hide hok
  have Hcl := hide hcl
  have Hfc := hide hfc
  have Hsc := hide hsc
  have Hmk := hide hmk
  clear hT hLow hok hcl hfc hsc hmk hlO
  go_enter Tryz.func78, Tryz.ntmps78
  have hmk := Hmk.out
  go_upto_region 3 with (fail)
  clear hmk
  obtain ⟨W0, hW0⟩ : ∃ W, W = ((w.alloc (.cells #[.int .i64 N, .slice I nI cI, .slice G nG cG, .slice Oo nO cO, .int .i64 S] 85)).alloc (.cells (famCells (fun _ => none) (fun _ => 0) (fun _ => []) 0 N).toArray 22)).alloc (.cells (famCells (fun _ => none) (fun _ => 0) (fun _ => []) 0 N).toArray 22) := ⟨_, rfl⟩
  have hst := at_start (t := t) (S := S) (ops := T.ops) (tc := [.int .i64 N, .slice I nI cI, .slice G nG cG, .slice Oo nO cO, .int .i64 S]) Hcl.out hW0
  rw [← hW0]
  obtain ⟨gT, hgT⟩ : ∃ g, g = w.heap.size := ⟨_, rfl⟩
  rw [← hgT] at hst ⊢
  have HS := hide hst
  have HgT := hide hgT
  clear hst hW0 hgT
  have hpr : PrT gT [.int .i64 N, .slice I nI cI, .slice G nG cG, .slice Oo nO cO, .int .i64 S] 85 gT [.int .i64 N, .slice I nI cI, .slice G nG cG, .slice Oo nO cO, .int .i64 S] := ⟨rfl, rfl, rfl⟩
  obtain ⟨t0, t1, t2, t3, t4⟩ := cell5 (HS.out.prot _ _ _ hpr).1
  have tl := (HS.out.prot _ _ _ hpr).1.lt
  go_wp2_with fail
  clear t0 t1 t2 t3 t4 tl
  go_loopw [31] (fun iv wr => ∃ (q : Nat) (cs : List (List Int)) (O : Option Addr) (oc : Nat) (vs : List Value) (A : Nat → Option Addr) (c : Nat → Nat), q ≤ nO ∧ iv = .int .i64 q ∧ cs = cs0 ++ atOps N S t T.ops q ∧ cs.length ≤ cs0.length + 200 * q ∧ AtS ⟨B, g, gT + 1, gT + 1 + 1, gT + 1 + 1 + 1, N⟩ w O0 (PrT gT [.int .i64 N, .slice I nI cI, .slice G nG cG, .slice Oo nO cO, .int .i64 S]) wr cs (famL N S t T.ops q [] []) O oc vs A c) (fun iv _ => nO - (intOf iv).toNat)
  case atStart => exact ⟨0, cs0, O0, oc0, vs0, _, _, by omega, rfl, by simp [atOps], by omega, HS.out⟩
  case round =>
    clear HS
    obtain ⟨q, cs, O, oc, vs, A, c, hq, rfl, hcs, hlen, hS1⟩ := hrel
    have HS := hide hS1
    have Hcs := hide hcs
    clear hS1 hcs
    have PRT : PrT gT [.int .i64 N, .slice I nI cI, .slice G nG cG, .slice Oo nO cO, .int .i64 S] 85 gT [.int .i64 N, .slice I nI cI, .slice G nG cG, .slice Oo nO cO, .int .i64 S] := ⟨rfl, rfl, rfl⟩
    by_cases hlt : q < nO
    · obtain ⟨b1, off1, o, A1, n1, d1, A2, n2, d2, A3, n3, d3, rfl, hoq, k0, k1, k2, k3, r1, r2, r3, r4⟩ := HT.out.ops.op hlt
      have hlow1 : b1 < w0.heap.size := World.block_lt_of_cell? w0 _ k0
      have hko := Hok.out.ops o (List.mem_of_getElem? hoq)
      have hoat := opAt_eq hoq
      have R1 := hide r1
      have R2 := hide r2
      have R3_ := hide r3
      have hs1 := setB_len hko.pre
      have hs2 := setB_len hko.add
      have hs3 := setB_len hko.del
      rw [r1.len] at hs1
      rw [r2.len] at hs2
      rw [r3.len] at hs3
      have Hko := hide hko
      have Hoat := hide hoat
      have hbl := HLow.out wr HS.out.chg
      rw [← (olds hbl).1 _ _ hlow1] at k0 k1 k2 k3
      clear hbl hoq hko hoat r1 r2 r3 r4
      have hqn : (q : Int) < (nO : Int) := by omega
      obtain ⟨t0, t1, t2, t3, t4⟩ := cell5 (HS.out.prot _ _ _ PRT).1
      have tl := (HS.out.prot _ _ _ PRT).1.lt
      go_upto_region 6 with (fail)
      clear k0 k1 k2 k3 t0 t1 t2 t3 t4 tl
      have hbW : Below wr.heap.size wr (wr.alloc (.cells #[.slice A1 n1 d1, .slice A2 n2 d2, .slice A3 n3 d3, .int .i64 o.cost] 72)) := (Below.refl _ _).alloc (Nat.le_refl _) _
      have hfr := HS.out.fresh (Nat.le_refl wr.heap.size)
      have hS2 := (HS.out.keep hbW).protect (Pr' := PrX gT [.int .i64 N, .slice I nI cI, .slice G nG cG, .slice (some ⟨b1, off1, none⟩) nO cO, .int .i64 S] wr.heap.size [.slice A1 n1 d1, .slice A2 n2 d2, .slice A3 n3 d3, .int .i64 o.cost]) (fun t b xs e => by
        rcases e with e | ⟨rfl, rfl, rfl⟩
        · exact .inl e
        · exact .inr ⟨Blk.new wr _ _, hfr⟩)
      obtain ⟨gX, hgX⟩ : ∃ g, g = wr.heap.size := ⟨_, rfl⟩
      rw [← hgX] at hS2 ⊢
      obtain ⟨w2, hW⟩ : ∃ W, W = wr.alloc (.cells #[.slice A1 n1 d1, .slice A2 n2 d2, .slice A3 n3 d3, .int .i64 o.cost] 72) := ⟨_, rfl⟩
      rw [← hW] at hS2 ⊢
      clear HS hW hgX hbW hfr
      have HS := hide hS2
      clear hS2
      have PRT : PrX gT [.int .i64 N, .slice I nI cI, .slice G nG cG, .slice (some ⟨b1, off1, none⟩) nO cO, .int .i64 S] gX [.slice A1 n1 d1, .slice A2 n2 d2, .slice A3 n3 d3, .int .i64 o.cost] 85 gT [.int .i64 N, .slice I nI cI, .slice G nG cG, .slice (some ⟨b1, off1, none⟩) nO cO, .int .i64 S] := .inl ⟨rfl, rfl, rfl⟩
      have PRX : PrX gT [.int .i64 N, .slice I nI cI, .slice G nG cG, .slice (some ⟨b1, off1, none⟩) nO cO, .int .i64 S] gX [.slice A1 n1 d1, .slice A2 n2 d2, .slice A3 n3 d3, .int .i64 o.cost] 72 gX [.slice A1 n1 d1, .slice A2 n2 d2, .slice A3 n3 d3, .int .i64 o.cost] := .inr ⟨rfl, rfl, rfl⟩
      obtain ⟨t0, t1, t2, t3, t4⟩ := cell5 (HS.out.prot _ _ _ PRT).1
      have tl := (HS.out.prot _ _ _ PRT).1.lt
      obtain ⟨x0, x1, x2, x3⟩ := (HS.out.prot _ _ _ PRX).1.cell4
      have xl := (HS.out.prot _ _ _ PRX).1.lt
      go_wp2_with fail
      with_reducible refine (Hsc.out t q w2 hN (by omega) (by omega) (by omega) (by omega)).mono ?_
      rintro e w3 ⟨rfl, hb⟩
      replace HS := hide (HS.out.keep hb)
      clear hb
      clear t0 t1 t2 t3 t4 tl
      obtain ⟨t0, t1, t2, t3, t4⟩ := cell5 (HS.out.prot _ _ _ PRT).1
      have tl := (HS.out.prot _ _ _ PRT).1.lt
      clear x0 x1 x2 x3 xl
      obtain ⟨x0, x1, x2, x3⟩ := (HS.out.prot _ _ _ PRX).1.cell4
      have xl := (HS.out.prot _ _ _ PRX).1.lt
      have hlw := stepV_low (n := nO) (q := q) hN (show S ≤ 10 by omega) (show t ≤ 10 by omega) (by omega) (by omega)
      obtain ⟨xs, hxs⟩ : ∃ z, z = stepV N S nO t q := ⟨_, rfl⟩
      rw [← hxs] at hlw ⊢
      obtain ⟨xs0, xs1⟩ := hlw
      have Hxs := hide hxs
      clear hxs
      go_wp2_with fail
      clear t0 t1 t2 t3 t4 tl x0 x1 x2 x3 xl
      go_loopw [41] (fun iv wr => ∃ (j : Nat) (cs : List (List Int)) (O : Option Addr) (oc : Nat) (vs : List Value) (A : Nat → Option Addr) (c : Nat → Nat), j ≤ q ∧ iv = .int .i64 j ∧ cs = cs0 ++ atOps N S t T.ops q ++ opC1 N S nO t q j ∧ cs.length ≤ cs0.length + 200 * q + 0 + j ∧ AtS ⟨B, g, gT + 1, gT + 1 + 1, gT + 1 + 1 + 1, N⟩ w O0 (PrX gT [.int .i64 N, .slice I nI cI, .slice G nG cG, .slice (some ⟨b1, off1, none⟩) nO cO, .int .i64 S] gX [.slice A1 n1 d1, .slice A2 n2 d2, .slice A3 n3 d3, .int .i64 o.cost]) wr cs (famL N S t T.ops q [] []) O oc vs A c) (fun iv _ => q - (intOf iv).toNat)
      case atStart => exact ⟨0, _, _, _, _, _, _, by omega, rfl, (by rw [Hcs.out]; simp [opC1]), by omega, HS.out⟩
      case round =>
        clear HS Hcs
        obtain ⟨wq, rfl⟩ : ∃ V, V = wr := ⟨_, rfl⟩
        obtain ⟨j, cs, O, oc, vs, A, c, hj, rfl, hcs, hlen, hS1⟩ := hrel
        have HS := hide hS1
        have Hcs := hide hcs
        clear hS1 hcs
        obtain ⟨t0, t1, t2, t3, t4⟩ := cell5 (HS.out.prot _ _ _ PRT).1
        have tl := (HS.out.prot _ _ _ PRT).1.lt
        obtain ⟨x0, x1, x2, x3⟩ := (HS.out.prot _ _ _ PRX).1.cell4
        have xl := (HS.out.prot _ _ _ PRX).1.lt
        by_cases hjt : j < q
        · skip
          go_wp2_with fail
          with_reducible refine (Hsc.out t j wq hN (by omega) (by omega) (by omega) (by omega)).mono ?_
          rintro e w4 ⟨rfl, hb⟩
          replace HS := hide (HS.out.keep hb)
          clear hb
          clear t0 t1 t2 t3 t4 tl
          obtain ⟨t0, t1, t2, t3, t4⟩ := cell5 (HS.out.prot _ _ _ PRT).1
          have tl := (HS.out.prot _ _ _ PRT).1.lt
          clear x0 x1 x2 x3 xl
          obtain ⟨x0, x1, x2, x3⟩ := (HS.out.prot _ _ _ PRX).1.cell4
          have xl := (HS.out.prot _ _ _ PRX).1.lt
          have hlw := stepV_low (n := nO) (q := j) hN (show S ≤ 10 by omega) (show t ≤ 10 by omega) (by omega) (by omega)
          obtain ⟨ys, hys⟩ : ∃ z, z = stepV N S nO t j := ⟨_, rfl⟩
          rw [← hys] at hlw ⊢
          obtain ⟨ys0, ys1⟩ := hlw
          have Hys := hide hys
          clear hys
          go_wp2_with fail
          with_reducible refine (HS.out.call2 (-ys) (-xs) (by omega) (by omega) (by omega)).mono ?_
          rintro e w5 ⟨rfl, hsz, O', oc', vs', hS3⟩
          clear HS
          have HS := hide hS3
          clear hS3
          clear t0 t1 t2 t3 t4 tl
          obtain ⟨t0, t1, t2, t3, t4⟩ := cell5 (HS.out.prot _ _ _ PRT).1
          have tl := (HS.out.prot _ _ _ PRT).1.lt
          clear x0 x1 x2 x3 xl
          obtain ⟨x0, x1, x2, x3⟩ := (HS.out.prot _ _ _ PRX).1.cell4
          have xl := (HS.out.prot _ _ _ PRX).1.lt
          go_wp2_with fail
          go_roundw
          case rel => exact ⟨j + 1, _, _, _, _, _, _, by omega, by go_num, (by rw [opC1_succ, ← Hys.out, ← Hxs.out, Hcs.out, List.append_assoc]), by simp only [List.length_append, List.length_cons, List.length_nil]; omega, HS.out⟩
          case measure => simp [intOf]; omega
        · obtain rfl : q = j := by omega
          skip
          go_wp2_with fail
          clear t0 t1 t2 t3 t4 tl x0 x1 x2 x3 xl
          go_loopw [58] (fun iv wr => ∃ (j : Nat) (cs : List (List Int)) (O : Option Addr) (oc : Nat) (vs : List Value) (A : Nat → Option Addr) (c : Nat → Nat), j ≤ n1 ∧ iv = .int .i64 j ∧ cs = cs0 ++ atOps N S t T.ops q ++ opC1 N S nO t q q ++ opC2 N S nO t q (o.pre.take j) ∧ cs.length ≤ cs0.length + 200 * q + 20 + j ∧ AtS ⟨B, g, gT + 1, gT + 1 + 1, gT + 1 + 1 + 1, N⟩ w O0 (PrX gT [.int .i64 N, .slice I nI cI, .slice G nG cG, .slice (some ⟨b1, off1, none⟩) nO cO, .int .i64 S] gX [.slice A1 n1 d1, .slice A2 n2 d2, .slice A3 n3 d3, .int .i64 o.cost]) wr cs (famL N S t T.ops q [] []) O oc vs A c) (fun iv _ => n1 - (intOf iv).toNat)
          case atStart => exact ⟨0, _, _, _, _, _, _, by omega, rfl, (by rw [Hcs.out]; simp [opC2]), by omega, HS.out⟩
          case round =>
            clear HS Hcs
            obtain ⟨wq, rfl⟩ : ∃ V, V = wr := ⟨_, rfl⟩
            obtain ⟨j, cs, O, oc, vs, A, c, hj, rfl, hcs, hlen, hS1⟩ := hrel
            have HS := hide hS1
            have Hcs := hide hcs
            clear hS1 hcs
            obtain ⟨t0, t1, t2, t3, t4⟩ := cell5 (HS.out.prot _ _ _ PRT).1
            have tl := (HS.out.prot _ _ _ PRT).1.lt
            obtain ⟨x0, x1, x2, x3⟩ := (HS.out.prot _ _ _ PRX).1.cell4
            have xl := (HS.out.prot _ _ _ PRX).1.lt
            by_cases hjt : j < n1
            · skip
              obtain ⟨bp, offp, x, rfl, hx, hx1, hx2, hcx⟩ := (R1.out.keep (HLow.out wq HS.out.chg)).int hjt
              have hxr := (setB_iff.1 Hko.out.pre).2 x (List.mem_of_getElem? hx)
              obtain ⟨pp, rfl⟩ : ∃ pp : Nat, x = (pp : Int) := ⟨x.toNat, by omega⟩
              have hpN : pp < N := by omega
              have hpI : (pp : Int) < (N : Int) := by omega
              have Hx := hide hx
              have hjn : (j : Int) < (n1 : Int) := by omega
              clear hx
              have hct := Hfc.out t pp wq hN (by omega) (by omega)
              go_wp2_with fail
              with_reducible refine hct.mono ?_
              rintro e w4 ⟨rfl, hb⟩
              replace HS := hide (HS.out.keep hb)
              clear hb hct hcx
              clear t0 t1 t2 t3 t4 tl
              obtain ⟨t0, t1, t2, t3, t4⟩ := cell5 (HS.out.prot _ _ _ PRT).1
              have tl := (HS.out.prot _ _ _ PRT).1.lt
              clear x0 x1 x2 x3 xl
              obtain ⟨x0, x1, x2, x3⟩ := (HS.out.prot _ _ _ PRX).1.cell4
              have xl := (HS.out.prot _ _ _ PRX).1.lt
              have hlw := factV_low (t := t) (p := pp) hN (show t ≤ 10 by omega) (by omega)
              obtain ⟨f, hf⟩ : ∃ z, z = factV N t pp := ⟨_, rfl⟩
              rw [← hf] at hlw ⊢
              obtain ⟨f0, f1⟩ := hlw
              have Hf := hide hf
              clear hf
              go_wp2_with fail
              with_reducible refine (HS.out.call2 (f) (-xs) (by omega) (by omega) (by omega)).mono ?_
              rintro e w5 ⟨rfl, hsz, O', oc', vs', hS3⟩
              clear HS
              have HS := hide hS3
              clear hS3
              clear t0 t1 t2 t3 t4 tl
              obtain ⟨t0, t1, t2, t3, t4⟩ := cell5 (HS.out.prot _ _ _ PRT).1
              have tl := (HS.out.prot _ _ _ PRT).1.lt
              clear x0 x1 x2 x3 xl
              obtain ⟨x0, x1, x2, x3⟩ := (HS.out.prot _ _ _ PRX).1.cell4
              have xl := (HS.out.prot _ _ _ PRX).1.lt
              go_wp2_with fail
              go_roundw
              case rel => exact ⟨j + 1, _, _, _, _, _, _, by omega, by go_num, (by rw [opC2_succ Hx.out, ← Hf.out, ← Hxs.out, Hcs.out, List.append_assoc]), by simp only [List.length_append, List.length_cons, List.length_nil]; omega, HS.out⟩
              case measure => simp [intOf]; omega
            · obtain rfl : n1 = j := by omega
              skip
              have hpl : o.pre.take n1 = o.pre := List.take_of_length_le (by rw [R1.out.len]; omega)
              replace Hcs := hide (Hcs.out)
              have Hpl := hide hpl
              clear hpl
              go_wp2_with fail
              clear t0 t1 t2 t3 t4 tl x0 x1 x2 x3 xl
              go_loopw [75] (fun iv wr => ∃ (j : Nat) (cs : List (List Int)) (O : Option Addr) (oc : Nat) (vs : List Value) (A : Nat → Option Addr) (c : Nat → Nat), j ≤ n2 ∧ iv = .int .i64 j ∧ cs = cs0 ++ atOps N S t T.ops q ++ opC1 N S nO t q q ++ opC2 N S nO t q o.pre ++ opCA N S nO t q (o.add.take j) ∧ cs.length ≤ cs0.length + 200 * q + 44 + j ∧ AtS ⟨B, g, gT + 1, gT + 1 + 1, gT + 1 + 1 + 1, N⟩ w O0 (PrX gT [.int .i64 N, .slice I nI cI, .slice G nG cG, .slice (some ⟨b1, off1, none⟩) nO cO, .int .i64 S] gX [.slice A1 n1 d1, .slice A2 n2 d2, .slice A3 n3 d3, .int .i64 o.cost]) wr cs (famL N S t T.ops q (o.add.take j) []) O oc vs A c) (fun iv _ => n2 - (intOf iv).toNat)
              case atStart => exact ⟨0, _, _, _, _, _, _, by omega, rfl, (by rw [Hcs.out, Hpl.out]; simp [opCA]), by omega, HS.out⟩
              case round =>
                clear HS Hcs
                obtain ⟨wq, rfl⟩ : ∃ V, V = wr := ⟨_, rfl⟩
                obtain ⟨j, cs, O, oc, vs, A, c, hj, rfl, hcs, hlen, hS1⟩ := hrel
                have HS := hide hS1
                have Hcs := hide hcs
                clear hS1 hcs
                obtain ⟨t0, t1, t2, t3, t4⟩ := cell5 (HS.out.prot _ _ _ PRT).1
                have tl := (HS.out.prot _ _ _ PRT).1.lt
                obtain ⟨x0, x1, x2, x3⟩ := (HS.out.prot _ _ _ PRX).1.cell4
                have xl := (HS.out.prot _ _ _ PRX).1.lt
                by_cases hjt : j < n2
                · skip
                  obtain ⟨bp, offp, x, rfl, hx, hx1, hx2, hcx⟩ := (R2.out.keep (HLow.out wq HS.out.chg)).int hjt
                  have hxr := (setB_iff.1 Hko.out.add).2 x (List.mem_of_getElem? hx)
                  obtain ⟨pp, rfl⟩ : ∃ pp : Nat, x = (pp : Int) := ⟨x.toNat, by omega⟩
                  have hpN : pp < N := by omega
                  have hpI : (pp : Int) < (N : Int) := by omega
                  have Hx := hide hx
                  have hjn : (j : Int) < (n2 : Int) := by omega
                  clear hx
                  have hct := Hfc.out (t + 1) pp wq hN (by omega) (by omega)
                  rw [show ((t + 1 : Nat) : Int) = (t : Int) + 1 by omega] at hct
                  go_wp2_with fail
                  with_reducible refine hct.mono ?_
                  rintro e w4 ⟨rfl, hb⟩
                  replace HS := hide (HS.out.keep hb)
                  clear hb hct hcx
                  clear t0 t1 t2 t3 t4 tl
                  obtain ⟨t0, t1, t2, t3, t4⟩ := cell5 (HS.out.prot _ _ _ PRT).1
                  have tl := (HS.out.prot _ _ _ PRT).1.lt
                  clear x0 x1 x2 x3 xl
                  obtain ⟨x0, x1, x2, x3⟩ := (HS.out.prot _ _ _ PRX).1.cell4
                  have xl := (HS.out.prot _ _ _ PRX).1.lt
                  have hlw := factV_low (t := (t + 1)) (p := pp) hN (show (t + 1) ≤ 10 by omega) (by omega)
                  obtain ⟨f, hf⟩ : ∃ z, z = factV N (t + 1) pp := ⟨_, rfl⟩
                  rw [← hf] at hlw ⊢
                  obtain ⟨f0, f1⟩ := hlw
                  have Hf := hide hf
                  clear hf
                  go_wp2_with fail
                  with_reducible refine (HS.out.call2 (f) (-xs) (by omega) (by omega) (by omega)).mono ?_
                  rintro e w5 ⟨rfl, hsz, O', oc', vs', hS3⟩
                  clear HS
                  have HS := hide hS3
                  clear hS3
                  clear t0 t1 t2 t3 t4 tl
                  obtain ⟨t0, t1, t2, t3, t4⟩ := cell5 (HS.out.prot _ _ _ PRT).1
                  have tl := (HS.out.prot _ _ _ PRT).1.lt
                  clear x0 x1 x2 x3 xl
                  obtain ⟨x0, x1, x2, x3⟩ := (HS.out.prot _ _ _ PRX).1.cell4
                  have xl := (HS.out.prot _ _ _ PRX).1.lt
                  obtain ⟨ln, hln⟩ : ∃ z, z = (famL N S t T.ops q (o.add.take j) [] pp).length := ⟨_, rfl⟩
                  have hcell := (HS.out.ba.cell pp).trans (famCells_at (o := 0) hpN)
                  rw [Nat.zero_add] at hcell
                  rw [← hln] at hcell
                  have hown := HS.out.fam.own pp (by show pp < 2 * N; omega)
                  rw [← hln] at hown
                  have hlnb : ln ≤ 1000 := by
                    rw [hln]
                    refine Nat.le_trans (famL_len _ _ _ _ _ _ _ _) (by omega)
                  have Hown := hide hown
                  have Hln := hide hln
                  have hwB : gT + 1 + 1 + 1 ≤ w5.heap.size := HS.out.b2
                  clear hown hln
                  go_wp2_with
                    (at_builtin
                     refine wpList_pushA rfl _ _ 22 rfl (gT + 1 + 1 + 1) 3 i0 (.int .i64 0) 1 8 Tryz.underlying22 hi0 hz0 hz1 hz2 rfl (by decide) (.slice (A pp) ln (c pp)) ln _ rfl Hown.out [.int .i64 xs] rfl (by intro u hu; simp at hu; subst hu; rfl) rfl (by omega) (by omega) hwB ?_
                     intro O6 oc6 w6 hown6 hg6 hat6
                     rw [own_blkA, own_blkA] at hat6
                     rw [own_blkA] at hg6
                     have hch6 : Chg (fun b => blkA (A pp) = some b) w5 w6 := (Chg.of_below ((Below.refl w5.heap.size w5).alloc (Nat.le_refl _) (.cells (#[.int .i64 xs] : Array Value) 3)) _).trans (Chg.of_grown hg6)
                     have hrn := fun r hr => HS.out.rowNe (k := pp) (r := r) (by show pp < 2 * N; omega) hr
                     have hX6 := hch6.blk HS.out.ba (fun e => (hrn _ e).1 rfl)
                     have hf6 := hX6.frozen pp
                     have hl6 := hX6.lt
                     have hc6 := (hX6.cell pp).trans (famCells_at (o := 0) hpN)
                     rw [Hln.out] at hown6
                     have hps := HS.out.push (k := pp) (p := pp) (o := 0) (gX := gT + 1) (by omega) hpN (.inl ⟨rfl, rfl⟩) (x := xs) (by omega) hown6 hch6 (hat6.imp id (fun e => ⟨_, e, by omega⟩))
                     rw [← Hln.out] at hps
                     have Hps := hide hps
                     clear hown6 hg6 hat6 hch6 hrn hX6 hps t0 t1 t2 t3 t4 tl x0 x1 x2 x3 xl hcell)
                  clear hf6 hl6 hc6
                  go_roundw
                  case rel => exact ⟨j + 1, _, _, _, _, _, _, by omega, by go_num, (by rw [opCA_succ Hx.out, ← Hf.out, ← Hxs.out, Hcs.out, List.append_assoc]), by simp only [List.length_append, List.length_cons, List.length_nil]; omega, Hps.out.congr (fun k _ => by rw [Hxs.out, ← HlO.out]; exact famL_add (setB_iff.1 Hko.out.add).1 Hx.out hpN k)⟩
                  case measure => simp [intOf]; omega
                · obtain rfl : n2 = j := by omega
                  skip
                  have hpa : o.add.take n2 = o.add := List.take_of_length_le (by rw [R2.out.len]; omega)
                  have Hpa := hide hpa
                  clear hpa
                  have hS9 := HS.out
                  rw [Hpa.out] at hS9
                  clear HS
                  have HS := hide hS9
                  clear hS9
                  go_wp2_with fail
                  clear t0 t1 t2 t3 t4 tl x0 x1 x2 x3 xl
                  go_loopw [103] (fun iv wr => ∃ (j : Nat) (cs : List (List Int)) (O : Option Addr) (oc : Nat) (vs : List Value) (A : Nat → Option Addr) (c : Nat → Nat), j ≤ n3 ∧ iv = .int .i64 j ∧ cs = cs0 ++ atOps N S t T.ops q ++ opC1 N S nO t q q ++ opC2 N S nO t q o.pre ++ opCA N S nO t q o.add ++ opCD N S nO t q (o.del.take j) ∧ cs.length ≤ cs0.length + 200 * q + 68 + j ∧ AtS ⟨B, g, gT + 1, gT + 1 + 1, gT + 1 + 1 + 1, N⟩ w O0 (PrX gT [.int .i64 N, .slice I nI cI, .slice G nG cG, .slice (some ⟨b1, off1, none⟩) nO cO, .int .i64 S] gX [.slice A1 n1 d1, .slice A2 n2 d2, .slice A3 n3 d3, .int .i64 o.cost]) wr cs (famL N S t T.ops q o.add (o.del.take j)) O oc vs A c) (fun iv _ => n3 - (intOf iv).toNat)
                  case atStart => exact ⟨0, _, _, _, _, _, _, by omega, rfl, (by rw [Hcs.out, Hpa.out]; simp [opCD]), by omega, HS.out⟩
                  case round =>
                    clear HS Hcs
                    obtain ⟨wq, rfl⟩ : ∃ V, V = wr := ⟨_, rfl⟩
                    obtain ⟨j, cs, O, oc, vs, A, c, hj, rfl, hcs, hlen, hS1⟩ := hrel
                    have HS := hide hS1
                    have Hcs := hide hcs
                    clear hS1 hcs
                    obtain ⟨t0, t1, t2, t3, t4⟩ := cell5 (HS.out.prot _ _ _ PRT).1
                    have tl := (HS.out.prot _ _ _ PRT).1.lt
                    obtain ⟨x0, x1, x2, x3⟩ := (HS.out.prot _ _ _ PRX).1.cell4
                    have xl := (HS.out.prot _ _ _ PRX).1.lt
                    by_cases hjt : j < n3
                    · skip
                      obtain ⟨bp, offp, x, rfl, hx, hx1, hx2, hcx⟩ := (R3_.out.keep (HLow.out wq HS.out.chg)).int hjt
                      have hxr := (setB_iff.1 Hko.out.del).2 x (List.mem_of_getElem? hx)
                      obtain ⟨pp, rfl⟩ : ∃ pp : Nat, x = (pp : Int) := ⟨x.toNat, by omega⟩
                      have hpN : pp < N := by omega
                      have hpI : (pp : Int) < (N : Int) := by omega
                      have Hx := hide hx
                      have hjn : (j : Int) < (n3 : Int) := by omega
                      clear hx
                      have hct := Hfc.out (t + 1) pp wq hN (by omega) (by omega)
                      rw [show ((t + 1 : Nat) : Int) = (t : Int) + 1 by omega] at hct
                      go_wp2_with fail
                      with_reducible refine hct.mono ?_
                      rintro e w4 ⟨rfl, hb⟩
                      replace HS := hide (HS.out.keep hb)
                      clear hb hct hcx
                      clear t0 t1 t2 t3 t4 tl
                      obtain ⟨t0, t1, t2, t3, t4⟩ := cell5 (HS.out.prot _ _ _ PRT).1
                      have tl := (HS.out.prot _ _ _ PRT).1.lt
                      clear x0 x1 x2 x3 xl
                      obtain ⟨x0, x1, x2, x3⟩ := (HS.out.prot _ _ _ PRX).1.cell4
                      have xl := (HS.out.prot _ _ _ PRX).1.lt
                      have hlw := factV_low (t := (t + 1)) (p := pp) hN (show (t + 1) ≤ 10 by omega) (by omega)
                      obtain ⟨f, hf⟩ : ∃ z, z = factV N (t + 1) pp := ⟨_, rfl⟩
                      rw [← hf] at hlw ⊢
                      obtain ⟨f0, f1⟩ := hlw
                      have Hf := hide hf
                      clear hf
                      go_wp2_with fail
                      with_reducible refine (HS.out.call2 (-f) (-xs) (by omega) (by omega) (by omega)).mono ?_
                      rintro e w5 ⟨rfl, hsz, O', oc', vs', hS3⟩
                      clear HS
                      have HS := hide hS3
                      clear hS3
                      clear t0 t1 t2 t3 t4 tl
                      obtain ⟨t0, t1, t2, t3, t4⟩ := cell5 (HS.out.prot _ _ _ PRT).1
                      have tl := (HS.out.prot _ _ _ PRT).1.lt
                      clear x0 x1 x2 x3 xl
                      obtain ⟨x0, x1, x2, x3⟩ := (HS.out.prot _ _ _ PRX).1.cell4
                      have xl := (HS.out.prot _ _ _ PRX).1.lt
                      obtain ⟨ln, hln⟩ : ∃ z, z = (famL N S t T.ops q o.add (o.del.take j) (N + pp)).length := ⟨_, rfl⟩
                      have hcell := (HS.out.bd.cell pp).trans (famCells_at (o := N) hpN)
                      skip
                      rw [← hln] at hcell
                      have hown := HS.out.fam.own (N + pp) (by show (N + pp) < 2 * N; omega)
                      rw [← hln] at hown
                      have hlnb : ln ≤ 1000 := by
                        rw [hln]
                        refine Nat.le_trans (famL_len _ _ _ _ _ _ _ _) (by omega)
                      have Hown := hide hown
                      have Hln := hide hln
                      have hwB : gT + 1 + 1 + 1 ≤ w5.heap.size := HS.out.b2
                      clear hown hln
                      go_wp2_with
                        (at_builtin
                         refine wpList_pushA rfl _ _ 22 rfl (gT + 1 + 1 + 1) 3 i0 (.int .i64 0) 1 8 Tryz.underlying22 hi0 hz0 hz1 hz2 rfl (by decide) (.slice (A (N + pp)) ln (c (N + pp))) ln _ rfl Hown.out [.int .i64 xs] rfl (by intro u hu; simp at hu; subst hu; rfl) rfl (by omega) (by omega) hwB ?_
                         intro O6 oc6 w6 hown6 hg6 hat6
                         rw [own_blkA, own_blkA] at hat6
                         rw [own_blkA] at hg6
                         have hch6 : Chg (fun b => blkA (A (N + pp)) = some b) w5 w6 := (Chg.of_below ((Below.refl w5.heap.size w5).alloc (Nat.le_refl _) (.cells (#[.int .i64 xs] : Array Value) 3)) _).trans (Chg.of_grown hg6)
                         have hrn := fun r hr => HS.out.rowNe (k := (N + pp)) (r := r) (by show (N + pp) < 2 * N; omega) hr
                         have hX6 := hch6.blk HS.out.bd (fun e => (hrn _ e).2.1 rfl)
                         have hf6 := hX6.frozen pp
                         have hl6 := hX6.lt
                         have hc6 := (hX6.cell pp).trans (famCells_at (o := N) hpN)
                         rw [Hln.out] at hown6
                         have hps := HS.out.push (k := (N + pp)) (p := pp) (o := N) (gX := gT + 1 + 1) (by omega) hpN (.inr ⟨rfl, rfl⟩) (x := xs) (by omega) hown6 hch6 (hat6.imp id (fun e => ⟨_, e, by omega⟩))
                         rw [← Hln.out] at hps
                         have Hps := hide hps
                         clear hown6 hg6 hat6 hch6 hrn hX6 hps t0 t1 t2 t3 t4 tl x0 x1 x2 x3 xl hcell)
                      clear hf6 hl6 hc6
                      go_roundw
                      case rel => exact ⟨j + 1, _, _, _, _, _, _, by omega, by go_num, (by rw [opCD_succ Hx.out, ← Hf.out, ← Hxs.out, Hcs.out, List.append_assoc]), by simp only [List.length_append, List.length_cons, List.length_nil]; omega, Hps.out.congr (fun k _ => by rw [Hxs.out, ← HlO.out]; exact famL_del (setB_iff.1 Hko.out.del).1 Hx.out k)⟩
                      case measure => simp [intOf]; omega
                    · obtain rfl : n3 = j := by omega
                      skip
                      have hpd : o.del.take n3 = o.del := List.take_of_length_le (by rw [R3_.out.len]; omega)
                      have hS9 := HS.out
                      rw [hpd] at hS9
                      have hcs9 := Hcs.out
                      rw [hpd] at hcs9
                      have hS10 := hS9.protect (Pr' := PrT gT [.int .i64 N, .slice I nI cI, .slice G nG cG, .slice (some ⟨b1, off1, none⟩) nO cO, .int .i64 S]) (fun t b xs e => .inl (.inl e))
                      have hS11 := hS10.congr (L' := famL N S t T.ops (q + 1) [] []) (fun k _ => by rw [← Hoat.out]; exact famL_next k)
                      have Hcs9 := hide hcs9
                      have HS11 := hide hS11
                      clear hS9 hS10 hS11 hcs9 hpd
                      go_wp2_with fail
                      go_roundw
                      case rel => exact ⟨q + 1, _, _, _, _, _, _, by omega, by go_num, (by rw [Hcs9.out, atOps_succ, Hoat.out, HlO.out]; unfold opC; simp only [List.append_assoc]), by omega, HS11.out⟩
                      case measure => simp [intOf]; omega
    · obtain rfl : nO = q := by omega
      skip
      obtain ⟨t0, t1, t2, t3, t4⟩ := cell5 (HS.out.prot _ _ _ PRT).1
      have tl := (HS.out.prot _ _ _ PRT).1.lt
      go_wp2_with fail
      clear t0 t1 t2 t3 t4 tl
      go_loopw [133] (fun iv wr => ∃ (k : Nat) (cs : List (List Int)) (O : Option Addr) (oc : Nat) (vs : List Value) (A : Nat → Option Addr) (c : Nat → Nat), k ≤ N ∧ iv = .int .i64 k ∧ cs = cs0 ++ atOps N S t T.ops nO ++ atFr N S t T.ops k ∧ cs.length ≤ cs0.length + 200 * nO + 2 * k ∧ AtS ⟨B, g, gT + 1, gT + 1 + 1, gT + 1 + 1 + 1, N⟩ w O0 (PrT gT [.int .i64 N, .slice I nI cI, .slice G nG cG, .slice Oo nO cO, .int .i64 S]) wr cs (famL N S t T.ops nO [] []) O oc vs A c) (fun iv _ => N - (intOf iv).toNat)
      case atStart => exact ⟨0, _, _, _, _, _, _, by omega, rfl, (by rw [Hcs.out]; simp [atFr]), by omega, HS.out⟩
      case round =>
        clear HS Hcs
        obtain ⟨wq, rfl⟩ : ∃ V, V = wr := ⟨_, rfl⟩
        obtain ⟨k, cs, O, oc, vs, A, c, hk, rfl, hcs, hlen, hS1⟩ := hrel
        have HS := hide hS1
        have Hcs := hide hcs
        clear hS1 hcs
        obtain ⟨t0, t1, t2, t3, t4⟩ := cell5 (HS.out.prot _ _ _ PRT).1
        have tl := (HS.out.prot _ _ _ PRT).1.lt
        by_cases hkN : k < N
        · have hkI : (k : Int) < (N : Int) := by omega
          have hlw1 := factV_low (t := t) (p := k) hN (show t ≤ 10 by omega) (by omega)
          have hlw2 := factV_low (t := t + 1) (p := k) hN (show t + 1 ≤ 10 by omega) (by omega)
          have hfc1 := fun W => Hfc.out t k W hN (by omega) (by omega)
          have hfc2 := fun W => Hfc.out (t + 1) k W hN (by omega) (by omega)
          rw [show ((t + 1 : Nat) : Int) = (t : Int) + 1 by omega] at hfc2
          obtain ⟨fa, hfa⟩ : ∃ z, z = factV N t k := ⟨_, rfl⟩
          obtain ⟨fb, hfb⟩ : ∃ z, z = factV N (t + 1) k := ⟨_, rfl⟩
          rw [← hfa] at hlw1 hfc1
          rw [← hfb] at hlw2 hfc2
          obtain ⟨fa0, fa1⟩ := hlw1
          obtain ⟨fb0, fb1⟩ := hlw2
          have Hfa := hide hfa
          have Hfb := hide hfb
          have Hf1 := hide hfc1
          have Hf2 := hide hfc2
          clear hfa hfb hfc1 hfc2
          go_upto_region 33 with (fail)
          obtain ⟨ln, hln⟩ : ∃ z, z = (famL N S t T.ops nO [] [] k).length := ⟨_, rfl⟩
          have hcell := (HS.out.ba.cell k).trans (famCells_at (o := 0) hkN)
          rw [Nat.zero_add] at hcell
          rw [← hln] at hcell
          have hown := HS.out.fam.own k (by show k < 2 * N; omega)
          have hlowr := HS.out.fam.low k (by show k < 2 * N; omega)
          have hlnb : ln ≤ 1000 := by
            rw [hln]
            refine Nat.le_trans (famL_len _ _ _ _ _ _ _ _) (by omega)
          rw [← hln] at hown
          have hrow := own_rd hown hln.symm (fun z hz => by have := hlowr z hz; omega)
          have hHS := HS.out
          generalize hrl : famL N S t T.ops nO [] [] k = rl at hrow hlowr hln
          have Hrl := hide hrl
          have Hlowr := hide hlowr
          have Hln := hide hln
          have Hrow := hide hrow
          clear hown hrow hlowr hln hrl hHS
          refine wp_region_held_drew (S := (fun w' => w'.cell? ⟨gT, 0, none⟩ = some (.int .i64 N) ∧ w'.cell? ⟨gT, 1, none⟩ = some (.slice I nI cI) ∧ w'.cell? ⟨gT, 2, none⟩ = some (.slice G nG cG) ∧ w'.cell? ⟨gT, 3, none⟩ = some (.slice Oo nO cO) ∧ w'.cell? ⟨gT, 4, none⟩ = some (.int .i64 S) ∧ w'.cell? ⟨gT + 1, k, none⟩ = some (.slice (A k) ln (c k)))) (by kernel_rfl) ?_ (fun hHeld => ?_)
          · (try dsimp only); exact ⟨t0, t1, t2, t3, t4, hcell⟩
          refine takeM (i := 0) (v := ?_) (some 136) rfl rfl (by kernel_rfl) (by kernel_rfl) (by kernel_rfl) (fun _ _ _ h => h) (Or.inl ⟨by rfl, ?_⟩) (by assumption) ?_
          rotate_left
          · intro w hSw; (try dsimp only at hSw); obtain ⟨s1, s2, s3, s4, s5, s6⟩ := hSw; first | (go_simp; done) | (go_simp; with_reducible rfl)
          try simp only [Act.put, List.setIfInBounds_toArray, List.set_cons_zero, List.set_cons_succ]
          refine takeM (i := 1) (v := ?_) (some 137) rfl rfl (by kernel_rfl) (by kernel_rfl) (by kernel_rfl) (fun _ _ _ h => h) (Or.inl ⟨by rfl, ?_⟩) (by assumption) ?_
          rotate_left
          · intro w hSw; (try dsimp only at hSw); obtain ⟨s1, s2, s3, s4, s5, s6⟩ := hSw; first | (go_simp; done) | (go_simp; with_reducible rfl)
          try simp only [Act.put, List.setIfInBounds_toArray, List.set_cons_zero, List.set_cons_succ]
          refine takeM (i := 2) (v := ?_) (some 138) rfl rfl (by kernel_rfl) (by kernel_rfl) (by kernel_rfl) (fun _ _ _ h => h) (Or.inl ⟨by rfl, ?_⟩) (by assumption) ?_
          rotate_left
          · intro w hSw; (try dsimp only at hSw); obtain ⟨s1, s2, s3, s4, s5, s6⟩ := hSw; first | (go_simp; done) | (go_simp; with_reducible rfl)
          try simp only [Act.put, List.setIfInBounds_toArray, List.set_cons_zero, List.set_cons_succ]
          refine takeM (i := 3) (v := ?_) (some 139) rfl rfl (by kernel_rfl) (by kernel_rfl) (by kernel_rfl) (fun _ _ _ h => h) (Or.inl ⟨by rfl, ?_⟩) (by assumption) ?_
          rotate_left
          · intro w hSw; (try dsimp only at hSw); obtain ⟨s1, s2, s3, s4, s5, s6⟩ := hSw; first | (go_simp; done) | (go_simp; with_reducible rfl)
          try simp only [Act.put, List.setIfInBounds_toArray, List.set_cons_zero, List.set_cons_succ]
          refine takeM (i := 5) (v := ?_) (some 141) rfl rfl (by kernel_rfl) (by kernel_rfl) (by kernel_rfl) (fun _ _ _ h => h) (Or.inl ⟨by rfl, ?_⟩) (by assumption) ?_
          rotate_left
          · intro w hSw; (try dsimp only at hSw); obtain ⟨s1, s2, s3, s4, s5, s6⟩ := hSw; first | (go_simp; done) | (go_simp; with_reducible rfl)
          try simp only [Act.put, List.setIfInBounds_toArray, List.set_cons_zero, List.set_cons_succ]
          refine takeM (i := 6) (v := ?_) (some 142) rfl rfl (by kernel_rfl) (by kernel_rfl) (by kernel_rfl) (fun _ _ _ h => h) (Or.inl ⟨by rfl, ?_⟩) (by assumption) ?_
          rotate_left
          · intro w hSw; (try dsimp only at hSw); obtain ⟨s1, s2, s3, s4, s5, s6⟩ := hSw; first | (go_simp; done) | (go_simp; with_reducible rfl)
          try simp only [Act.put, List.setIfInBounds_toArray, List.set_cons_zero, List.set_cons_succ]
          refine takeM (i := 7) (v := ?_) (some 143) rfl rfl (by kernel_rfl) (by kernel_rfl) (by kernel_rfl) (fun _ _ _ h => h) (Or.inl ⟨by rfl, ?_⟩) (by assumption) ?_
          rotate_left
          · intro w hSw; (try dsimp only at hSw); obtain ⟨s1, s2, s3, s4, s5, s6⟩ := hSw; first | (go_simp; done) | (go_simp; with_reducible rfl)
          try simp only [Act.put, List.setIfInBounds_toArray, List.set_cons_zero, List.set_cons_succ]
          refine takeM (i := 8) (v := ?_) (some 144) rfl rfl (by kernel_rfl) (by kernel_rfl) (by kernel_rfl) (fun _ _ _ h => h) (Or.inl ⟨by rfl, ?_⟩) (by assumption) ?_
          rotate_left
          · intro w hSw; (try dsimp only at hSw); obtain ⟨s1, s2, s3, s4, s5, s6⟩ := hSw; first | (go_simp; done) | (go_simp; with_reducible rfl)
          try simp only [Act.put, List.setIfInBounds_toArray, List.set_cons_zero, List.set_cons_succ]
          refine takeM (i := 12) (v := ?_) (some 148) rfl rfl (by kernel_rfl) (by kernel_rfl) (by kernel_rfl) (fun _ _ _ h => h) (Or.inl ⟨by rfl, ?_⟩) (by assumption) ?_
          rotate_left
          · intro w hSw; (try dsimp only at hSw); obtain ⟨s1, s2, s3, s4, s5, s6⟩ := hSw; first | (go_simp; done) | (go_simp; with_reducible rfl)
          try simp only [Act.put, List.setIfInBounds_toArray, List.set_cons_zero, List.set_cons_succ]
          refine takeM (i := 13) (v := ?_) (some 149) rfl rfl (by kernel_rfl) (by kernel_rfl) (by kernel_rfl) (fun _ _ _ h => h) (Or.inl ⟨by rfl, ?_⟩) (by assumption) ?_
          rotate_left
          · intro w hSw; (try dsimp only at hSw); obtain ⟨s1, s2, s3, s4, s5, s6⟩ := hSw; first | (go_simp; done) | (go_simp; with_reducible rfl)
          try simp only [Act.put, List.setIfInBounds_toArray, List.set_cons_zero, List.set_cons_succ]
          refine takeM (i := 14) (v := ?_) (some 150) rfl rfl (by kernel_rfl) (by kernel_rfl) (by kernel_rfl) (fun _ _ _ h => h) (Or.inl ⟨by rfl, ?_⟩) (by assumption) ?_
          rotate_left
          · intro w hSw; (try dsimp only at hSw); obtain ⟨s1, s2, s3, s4, s5, s6⟩ := hSw; first | (go_simp; done) | (go_simp; with_reducible rfl)
          try simp only [Act.put, List.setIfInBounds_toArray, List.set_cons_zero, List.set_cons_succ]
          refine takeM (i := 15) (v := ?_) (some 151) rfl rfl (by kernel_rfl) (by kernel_rfl) (by kernel_rfl) (fun _ _ _ h => h) (Or.inl ⟨by rfl, ?_⟩) (by assumption) ?_
          rotate_left
          · intro w hSw; (try dsimp only at hSw); obtain ⟨s1, s2, s3, s4, s5, s6⟩ := hSw; first | (go_simp; done) | (go_simp; with_reducible rfl)
          try simp only [Act.put, List.setIfInBounds_toArray, List.set_cons_zero, List.set_cons_succ]
          refine wpAnyH_ready (rs := [4]) (by kernel_rfl) (by simp) ?_
          refine AllReadyH.cons rfl (fun K hK => ?_) AllReadyH.nil
          go_simp
          with_reducible refine (Hf1.out _).mono ?_
          rintro e wa ⟨rfl, hb0⟩
          have hb : Below wq.heap.size wq wa := (Below.refl wq.heap.size wq).drew.trans hb0
          clear hb0
          replace HS := hide (HS.out.keep hb)
          replace Hrow := hide (Hrow.out.keep hb)
          clear t0 t1 t2 t3 t4 tl hcell
          obtain ⟨t0, t1, t2, t3, t4⟩ := cell5 (HS.out.prot _ _ _ PRT).1
          have tl := (HS.out.prot _ _ _ PRT).1.lt
          have hcell := (HS.out.ba.cell k).trans (famCells_at (o := 0) hkN)
          rw [Nat.zero_add] at hcell
          rw [Hrl.out, ← Hln.out] at hcell
          clear hb
          refine hK.out _ _ ?_ (fun hHeld2 => ?_)
          · (try dsimp only); exact ⟨t0, t1, t2, t3, t4, hcell⟩
          clear hK K hHeld
          try simp only [Act.put, List.setIfInBounds_toArray, List.set_cons_zero, List.set_cons_succ]
          have hHeld := hHeld2; clear hHeld2
          refine wpAnyH_ready (rs := [9]) (by kernel_rfl) (by simp) ?_
          refine AllReadyH.cons rfl (fun K hK => ?_) AllReadyH.nil
          go_simp
          rw [show IntKind.i64.wrap ((t : Int) + 1) = (t : Int) + 1 from wrap_small (by omega) (by omega)]
          with_reducible refine (Hf2.out _).mono ?_
          rintro e wb ⟨rfl, hb⟩
          replace HS := hide (HS.out.keep hb)
          replace Hrow := hide (Hrow.out.keep hb)
          clear t0 t1 t2 t3 t4 tl hcell
          obtain ⟨t0, t1, t2, t3, t4⟩ := cell5 (HS.out.prot _ _ _ PRT).1
          have tl := (HS.out.prot _ _ _ PRT).1.lt
          have hcell := (HS.out.ba.cell k).trans (famCells_at (o := 0) hkN)
          rw [Nat.zero_add] at hcell
          rw [Hrl.out, ← Hln.out] at hcell
          clear hb
          refine hK.out _ _ ?_ (fun hHeld2 => ?_)
          · (try dsimp only); exact ⟨t0, t1, t2, t3, t4, hcell⟩
          clear hK K hHeld
          try simp only [Act.put, List.setIfInBounds_toArray, List.set_cons_zero, List.set_cons_succ]
          have hHeld := hHeld2; clear hHeld2
          refine takeM (i := 10) (v := ?_) (some 146) rfl rfl (by kernel_rfl) (by kernel_rfl) (by kernel_rfl) (fun _ _ _ h => h) (Or.inl ⟨by rfl, ?_⟩) (by assumption) ?_
          rotate_left
          · intro w hSw; (try dsimp only at hSw); obtain ⟨s1, s2, s3, s4, s5, s6⟩ := hSw; first | (go_simp; done) | (go_simp; with_reducible rfl)
          try simp only [Act.put, List.setIfInBounds_toArray, List.set_cons_zero, List.set_cons_succ]
          rw [show IntKind.i64.wrap (-fb) = -fb from IntWalk.i64_in _ (by omega)]
          have hbL : Below wb.heap.size wb (wb.alloc (.cells #[.int .i64 fa, .int .i64 (-fb)] 3)) := (Below.refl _ _).alloc (Nat.le_refl _) _
          have hcellL := (hbL.cell (p := ⟨gT + 1, k, none⟩) (World.block_lt_of_cell? wb _ hcell)).trans hcell
          have hT0 := (hbL.cell (p := ⟨gT, 0, none⟩) tl).trans t0
          have hT1 := (hbL.cell (p := ⟨gT, 1, none⟩) tl).trans t1
          have hT2 := (hbL.cell (p := ⟨gT, 2, none⟩) tl).trans t2
          have hT3 := (hbL.cell (p := ⟨gT, 3, none⟩) tl).trans t3
          have hT4 := (hbL.cell (p := ⟨gT, 4, none⟩) tl).trans t4
          refine wpAnyH_ready (rs := [11]) (by kernel_rfl) (by simp) ?_
          refine AllReadyH.cons rfl (fun K hK => ?_) AllReadyH.nil
          go_simp
          refine hK.out _ _ ?_ (fun hHeld2 => ?_)
          · (try dsimp only); exact ⟨hT0, hT1, hT2, hT3, hT4, hcellL⟩
          clear hK K hHeld
          try simp only [Act.put, List.setIfInBounds_toArray, List.set_cons_zero, List.set_cons_succ]
          have hHeld := hHeld2; clear hHeld2
          refine wpAnyH_ready (rs := [16]) (by kernel_rfl) (by simp) ?_
          refine AllReadyH.cons rfl (fun K hK => ?_) AllReadyH.nil
          have hlit : (wb.alloc (.cells #[.int .i64 fa, .int .i64 (-fb)] 3)).ownsRow wb.heap.size 3 1 (.slice (some ⟨wb.heap.size, 0, none⟩) 2 2) 2 (([fa, (-fb)] : List Int).map (Value.int .i64)) := own_fresh (Nat.le_refl _) (by omega) rfl
          refine step_app_ints rfl _ _ 22 rfl wb.heap.size 3 i0 (.int .i64 0) 8 Tryz.underlying22 hi0 hz0 hz1 hz2 rfl (.slice (some ⟨wb.heap.size, 0, none⟩) 2 2) 2 _ (by simp [Act.eval]) hlit (A k) ln (c k) rl (Hrow.out.keep hbL) (by simp [Act.eval]) (by omega) (by omega) (by simp) ?_
          intro O6 oc6 w6 hown6 hb6
          have hb : Below wb.heap.size wb w6 := hbL.trans hb6
          have hcall := HS.out.callRow hb (xs := [fa, (-fb)] ++ rl) (by rw [List.map_append]; exact hown6) (by rw [List.length_append, ← Hln.out]; rfl) (fun z hz => by
            rcases List.mem_append.1 hz with hz | hz
            · simp at hz
              rcases hz with rfl | rfl <;> omega
            · have := Hlowr.out z hz
              omega) (by omega)
          have Hcall := hide hcall
          have hcell6 := (hb.cell (p := ⟨gT + 1, k, none⟩) (World.block_lt_of_cell? wb _ hcell)).trans hcell
          have h60 := (hb.cell (p := ⟨gT, 0, none⟩) tl).trans t0
          have h61 := (hb.cell (p := ⟨gT, 1, none⟩) tl).trans t1
          have h62 := (hb.cell (p := ⟨gT, 2, none⟩) tl).trans t2
          have h63 := (hb.cell (p := ⟨gT, 3, none⟩) tl).trans t3
          have h64 := (hb.cell (p := ⟨gT, 4, none⟩) tl).trans t4
          clear hown6 hb6 hlit hcall hb
          refine hK.out _ _ ?_ (fun hHeld2 => ?_)
          · (try dsimp only); exact ⟨h60, h61, h62, h63, h64, hcell6⟩
          clear hK K hHeld
          try simp only [Act.put, List.setIfInBounds_toArray, List.set_cons_zero, List.set_cons_succ]
          have hHeld := hHeld2; clear hHeld2
          refine wpAnyH_ready (rs := [17]) (by kernel_rfl) (by simp) ?_
          refine AllReadyH.cons rfl (fun K hK => ?_) AllReadyH.nil
          go_simp
          with_reducible refine Hcall.out.mono ?_
          rintro e wv ⟨rfl, hsz, O', oc', vs', hS3⟩
          clear HS Hcall hT0 hT1 hT2 hT3 hT4 hcellL h60 h61 h62 h63 h64 hcell6 t0 t1 t2 t3 t4 tl hcell hbL Hrow
          have HS := hide hS3
          clear hS3
          obtain ⟨t0, t1, t2, t3, t4⟩ := cell5 (HS.out.prot _ _ _ PRT).1
          have tl := (HS.out.prot _ _ _ PRT).1.lt
          have hcell := (HS.out.ba.cell k).trans (famCells_at (o := 0) hkN)
          rw [Nat.zero_add] at hcell
          rw [Hrl.out, ← Hln.out] at hcell
          refine hK.out _ _ ?_ (fun hHeld2 => ?_)
          · (try dsimp only); exact ⟨t0, t1, t2, t3, t4, hcell⟩
          clear hK K hHeld hHeld2 hcell
          try simp only [Act.put, List.setIfInBounds_toArray, List.set_cons_zero, List.set_cons_succ]
          refine wpAnyH_done (by kernel_rfl) ?_ _
          have Hrl1 := Hrl
          have hcs1 : cs0 ++ atOps N S t T.ops nO ++ atFr N S t T.ops k ++ [[fa, -fb] ++ rl] = cs ++ [[fa, -fb] ++ rl] := by rw [Hcs.out]
          have Hc1 := hide hcs1
          obtain ⟨r1, hr1⟩ : ∃ z, z = rl := ⟨_, rfl⟩
          rw [← hr1] at Hc1 Hrl1 HS
          have hlen1 : (cs ++ [[fa, -fb] ++ r1]).length ≤ cs0.length + 200 * nO + 2 * k + 1 := by simp only [List.length_append, List.length_cons, List.length_nil]; omega
          generalize cs ++ [[fa, -fb] ++ r1] = cs1 at Hc1 HS hlen1
          clear hr1 Hrl Hln Hlowr hlnb hcs1 hlen
          go_upto_region 34 with (fail)
          obtain ⟨ln, hln⟩ : ∃ z, z = (famL N S t T.ops nO [] [] (N + k)).length := ⟨_, rfl⟩
          have hcell := (HS.out.bd.cell k).trans (famCells_at (o := N) hkN)
          skip
          rw [← hln] at hcell
          have hown := HS.out.fam.own (N + k) (by show (N + k) < 2 * N; omega)
          have hlowr := HS.out.fam.low (N + k) (by show (N + k) < 2 * N; omega)
          have hlnb : ln ≤ 1000 := by
            rw [hln]
            refine Nat.le_trans (famL_len _ _ _ _ _ _ _ _) (by omega)
          rw [← hln] at hown
          have hrow := own_rd hown hln.symm (fun z hz => by have := hlowr z hz; omega)
          have hHS := HS.out
          generalize hrl : famL N S t T.ops nO [] [] (N + k) = rl at hrow hlowr hln
          have Hrl := hide hrl
          have Hlowr := hide hlowr
          have Hln := hide hln
          have Hrow := hide hrow
          clear hown hrow hlowr hln hrl hHS
          refine wp_region_held_drew (S := (fun w' => w'.cell? ⟨gT, 0, none⟩ = some (.int .i64 N) ∧ w'.cell? ⟨gT, 1, none⟩ = some (.slice I nI cI) ∧ w'.cell? ⟨gT, 2, none⟩ = some (.slice G nG cG) ∧ w'.cell? ⟨gT, 3, none⟩ = some (.slice Oo nO cO) ∧ w'.cell? ⟨gT, 4, none⟩ = some (.int .i64 S) ∧ w'.cell? ⟨gT + 1 + 1, k, none⟩ = some (.slice (A (N + k)) ln (c (N + k))))) (by kernel_rfl) ?_ (fun hHeld => ?_)
          · (try dsimp only); exact ⟨t0, t1, t2, t3, t4, hcell⟩
          refine takeM (i := 0) (v := ?_) (some 154) rfl rfl (by kernel_rfl) (by kernel_rfl) (by kernel_rfl) (fun _ _ _ h => h) (Or.inl ⟨by rfl, ?_⟩) (by assumption) ?_
          rotate_left
          · intro w hSw; (try dsimp only at hSw); obtain ⟨s1, s2, s3, s4, s5, s6⟩ := hSw; first | (go_simp; done) | (go_simp; with_reducible rfl)
          try simp only [Act.put, List.setIfInBounds_toArray, List.set_cons_zero, List.set_cons_succ]
          refine takeM (i := 1) (v := ?_) (some 155) rfl rfl (by kernel_rfl) (by kernel_rfl) (by kernel_rfl) (fun _ _ _ h => h) (Or.inl ⟨by rfl, ?_⟩) (by assumption) ?_
          rotate_left
          · intro w hSw; (try dsimp only at hSw); obtain ⟨s1, s2, s3, s4, s5, s6⟩ := hSw; first | (go_simp; done) | (go_simp; with_reducible rfl)
          try simp only [Act.put, List.setIfInBounds_toArray, List.set_cons_zero, List.set_cons_succ]
          refine takeM (i := 2) (v := ?_) (some 156) rfl rfl (by kernel_rfl) (by kernel_rfl) (by kernel_rfl) (fun _ _ _ h => h) (Or.inl ⟨by rfl, ?_⟩) (by assumption) ?_
          rotate_left
          · intro w hSw; (try dsimp only at hSw); obtain ⟨s1, s2, s3, s4, s5, s6⟩ := hSw; first | (go_simp; done) | (go_simp; with_reducible rfl)
          try simp only [Act.put, List.setIfInBounds_toArray, List.set_cons_zero, List.set_cons_succ]
          refine takeM (i := 3) (v := ?_) (some 157) rfl rfl (by kernel_rfl) (by kernel_rfl) (by kernel_rfl) (fun _ _ _ h => h) (Or.inl ⟨by rfl, ?_⟩) (by assumption) ?_
          rotate_left
          · intro w hSw; (try dsimp only at hSw); obtain ⟨s1, s2, s3, s4, s5, s6⟩ := hSw; first | (go_simp; done) | (go_simp; with_reducible rfl)
          try simp only [Act.put, List.setIfInBounds_toArray, List.set_cons_zero, List.set_cons_succ]
          refine takeM (i := 6) (v := ?_) (some 160) rfl rfl (by kernel_rfl) (by kernel_rfl) (by kernel_rfl) (fun _ _ _ h => h) (Or.inl ⟨by rfl, ?_⟩) (by assumption) ?_
          rotate_left
          · intro w hSw; (try dsimp only at hSw); obtain ⟨s1, s2, s3, s4, s5, s6⟩ := hSw; first | (go_simp; done) | (go_simp; with_reducible rfl)
          try simp only [Act.put, List.setIfInBounds_toArray, List.set_cons_zero, List.set_cons_succ]
          refine takeM (i := 7) (v := ?_) (some 161) rfl rfl (by kernel_rfl) (by kernel_rfl) (by kernel_rfl) (fun _ _ _ h => h) (Or.inl ⟨by rfl, ?_⟩) (by assumption) ?_
          rotate_left
          · intro w hSw; (try dsimp only at hSw); obtain ⟨s1, s2, s3, s4, s5, s6⟩ := hSw; first | (go_simp; done) | (go_simp; with_reducible rfl)
          try simp only [Act.put, List.setIfInBounds_toArray, List.set_cons_zero, List.set_cons_succ]
          refine takeM (i := 8) (v := ?_) (some 162) rfl rfl (by kernel_rfl) (by kernel_rfl) (by kernel_rfl) (fun _ _ _ h => h) (Or.inl ⟨by rfl, ?_⟩) (by assumption) ?_
          rotate_left
          · intro w hSw; (try dsimp only at hSw); obtain ⟨s1, s2, s3, s4, s5, s6⟩ := hSw; first | (go_simp; done) | (go_simp; with_reducible rfl)
          try simp only [Act.put, List.setIfInBounds_toArray, List.set_cons_zero, List.set_cons_succ]
          refine takeM (i := 9) (v := ?_) (some 163) rfl rfl (by kernel_rfl) (by kernel_rfl) (by kernel_rfl) (fun _ _ _ h => h) (Or.inl ⟨by rfl, ?_⟩) (by assumption) ?_
          rotate_left
          · intro w hSw; (try dsimp only at hSw); obtain ⟨s1, s2, s3, s4, s5, s6⟩ := hSw; first | (go_simp; done) | (go_simp; with_reducible rfl)
          try simp only [Act.put, List.setIfInBounds_toArray, List.set_cons_zero, List.set_cons_succ]
          refine takeM (i := 12) (v := ?_) (some 166) rfl rfl (by kernel_rfl) (by kernel_rfl) (by kernel_rfl) (fun _ _ _ h => h) (Or.inl ⟨by rfl, ?_⟩) (by assumption) ?_
          rotate_left
          · intro w hSw; (try dsimp only at hSw); obtain ⟨s1, s2, s3, s4, s5, s6⟩ := hSw; first | (go_simp; done) | (go_simp; with_reducible rfl)
          try simp only [Act.put, List.setIfInBounds_toArray, List.set_cons_zero, List.set_cons_succ]
          refine takeM (i := 13) (v := ?_) (some 167) rfl rfl (by kernel_rfl) (by kernel_rfl) (by kernel_rfl) (fun _ _ _ h => h) (Or.inl ⟨by rfl, ?_⟩) (by assumption) ?_
          rotate_left
          · intro w hSw; (try dsimp only at hSw); obtain ⟨s1, s2, s3, s4, s5, s6⟩ := hSw; first | (go_simp; done) | (go_simp; with_reducible rfl)
          try simp only [Act.put, List.setIfInBounds_toArray, List.set_cons_zero, List.set_cons_succ]
          refine takeM (i := 14) (v := ?_) (some 168) rfl rfl (by kernel_rfl) (by kernel_rfl) (by kernel_rfl) (fun _ _ _ h => h) (Or.inl ⟨by rfl, ?_⟩) (by assumption) ?_
          rotate_left
          · intro w hSw; (try dsimp only at hSw); obtain ⟨s1, s2, s3, s4, s5, s6⟩ := hSw; first | (go_simp; done) | (go_simp; with_reducible rfl)
          try simp only [Act.put, List.setIfInBounds_toArray, List.set_cons_zero, List.set_cons_succ]
          refine takeM (i := 15) (v := ?_) (some 169) rfl rfl (by kernel_rfl) (by kernel_rfl) (by kernel_rfl) (fun _ _ _ h => h) (Or.inl ⟨by rfl, ?_⟩) (by assumption) ?_
          rotate_left
          · intro w hSw; (try dsimp only at hSw); obtain ⟨s1, s2, s3, s4, s5, s6⟩ := hSw; first | (go_simp; done) | (go_simp; with_reducible rfl)
          try simp only [Act.put, List.setIfInBounds_toArray, List.set_cons_zero, List.set_cons_succ]
          refine wpAnyH_ready (rs := [4]) (by kernel_rfl) (by simp) ?_
          refine AllReadyH.cons rfl (fun K hK => ?_) AllReadyH.nil
          go_simp
          with_reducible refine (Hf1.out _).mono ?_
          rintro e wa ⟨rfl, hb0⟩
          have hb : Below wv.heap.size wv wa := (Below.refl wv.heap.size wv).drew.trans hb0
          clear hb0
          replace HS := hide (HS.out.keep hb)
          replace Hrow := hide (Hrow.out.keep hb)
          clear t0 t1 t2 t3 t4 tl hcell
          obtain ⟨t0, t1, t2, t3, t4⟩ := cell5 (HS.out.prot _ _ _ PRT).1
          have tl := (HS.out.prot _ _ _ PRT).1.lt
          have hcell := (HS.out.bd.cell k).trans (famCells_at (o := N) hkN)
          skip
          rw [Hrl.out, ← Hln.out] at hcell
          clear hb
          refine hK.out _ _ ?_ (fun hHeld2 => ?_)
          · (try dsimp only); exact ⟨t0, t1, t2, t3, t4, hcell⟩
          clear hK K hHeld
          try simp only [Act.put, List.setIfInBounds_toArray, List.set_cons_zero, List.set_cons_succ]
          have hHeld := hHeld2; clear hHeld2
          refine takeM (i := 5) (v := ?_) (some 159) rfl rfl (by kernel_rfl) (by kernel_rfl) (by kernel_rfl) (fun _ _ _ h => h) (Or.inl ⟨by rfl, ?_⟩) (by assumption) ?_
          rotate_left
          · intro w hSw; (try dsimp only at hSw); obtain ⟨s1, s2, s3, s4, s5, s6⟩ := hSw; first | (go_simp; done) | (go_simp; with_reducible rfl)
          try simp only [Act.put, List.setIfInBounds_toArray, List.set_cons_zero, List.set_cons_succ]
          refine wpAnyH_ready (rs := [10]) (by kernel_rfl) (by simp) ?_
          refine AllReadyH.cons rfl (fun K hK => ?_) AllReadyH.nil
          go_simp
          rw [show IntKind.i64.wrap ((t : Int) + 1) = (t : Int) + 1 from wrap_small (by omega) (by omega)]
          with_reducible refine (Hf2.out _).mono ?_
          rintro e wb ⟨rfl, hb⟩
          replace HS := hide (HS.out.keep hb)
          replace Hrow := hide (Hrow.out.keep hb)
          clear t0 t1 t2 t3 t4 tl hcell
          obtain ⟨t0, t1, t2, t3, t4⟩ := cell5 (HS.out.prot _ _ _ PRT).1
          have tl := (HS.out.prot _ _ _ PRT).1.lt
          have hcell := (HS.out.bd.cell k).trans (famCells_at (o := N) hkN)
          skip
          rw [Hrl.out, ← Hln.out] at hcell
          clear hb
          refine hK.out _ _ ?_ (fun hHeld2 => ?_)
          · (try dsimp only); exact ⟨t0, t1, t2, t3, t4, hcell⟩
          clear hK K hHeld
          try simp only [Act.put, List.setIfInBounds_toArray, List.set_cons_zero, List.set_cons_succ]
          have hHeld := hHeld2; clear hHeld2
          rw [show IntKind.i64.wrap (-fa) = -fa from IntWalk.i64_in _ (by omega)]
          have hbL : Below wb.heap.size wb (wb.alloc (.cells #[.int .i64 (-fa), .int .i64 fb] 3)) := (Below.refl _ _).alloc (Nat.le_refl _) _
          have hcellL := (hbL.cell (p := ⟨gT + 1 + 1, k, none⟩) (World.block_lt_of_cell? wb _ hcell)).trans hcell
          have hT0 := (hbL.cell (p := ⟨gT, 0, none⟩) tl).trans t0
          have hT1 := (hbL.cell (p := ⟨gT, 1, none⟩) tl).trans t1
          have hT2 := (hbL.cell (p := ⟨gT, 2, none⟩) tl).trans t2
          have hT3 := (hbL.cell (p := ⟨gT, 3, none⟩) tl).trans t3
          have hT4 := (hbL.cell (p := ⟨gT, 4, none⟩) tl).trans t4
          refine wpAnyH_ready (rs := [11]) (by kernel_rfl) (by simp) ?_
          refine AllReadyH.cons rfl (fun K hK => ?_) AllReadyH.nil
          go_simp
          refine hK.out _ _ ?_ (fun hHeld2 => ?_)
          · (try dsimp only); exact ⟨hT0, hT1, hT2, hT3, hT4, hcellL⟩
          clear hK K hHeld
          try simp only [Act.put, List.setIfInBounds_toArray, List.set_cons_zero, List.set_cons_succ]
          have hHeld := hHeld2; clear hHeld2
          refine wpAnyH_ready (rs := [16]) (by kernel_rfl) (by simp) ?_
          refine AllReadyH.cons rfl (fun K hK => ?_) AllReadyH.nil
          have hlit : (wb.alloc (.cells #[.int .i64 (-fa), .int .i64 fb] 3)).ownsRow wb.heap.size 3 1 (.slice (some ⟨wb.heap.size, 0, none⟩) 2 2) 2 (([(-fa), fb] : List Int).map (Value.int .i64)) := own_fresh (Nat.le_refl _) (by omega) rfl
          refine step_app_ints rfl _ _ 22 rfl wb.heap.size 3 i0 (.int .i64 0) 8 Tryz.underlying22 hi0 hz0 hz1 hz2 rfl (.slice (some ⟨wb.heap.size, 0, none⟩) 2 2) 2 _ (by simp [Act.eval]) hlit (A (N + k)) ln (c (N + k)) rl (Hrow.out.keep hbL) (by simp [Act.eval]) (by omega) (by omega) (by simp) ?_
          intro O6 oc6 w6 hown6 hb6
          have hb : Below wb.heap.size wb w6 := hbL.trans hb6
          have hcall := HS.out.callRow hb (xs := [(-fa), fb] ++ rl) (by rw [List.map_append]; exact hown6) (by rw [List.length_append, ← Hln.out]; rfl) (fun z hz => by
            rcases List.mem_append.1 hz with hz | hz
            · simp at hz
              rcases hz with rfl | rfl <;> omega
            · have := Hlowr.out z hz
              omega) (by omega)
          have Hcall := hide hcall
          have hcell6 := (hb.cell (p := ⟨gT + 1 + 1, k, none⟩) (World.block_lt_of_cell? wb _ hcell)).trans hcell
          have h60 := (hb.cell (p := ⟨gT, 0, none⟩) tl).trans t0
          have h61 := (hb.cell (p := ⟨gT, 1, none⟩) tl).trans t1
          have h62 := (hb.cell (p := ⟨gT, 2, none⟩) tl).trans t2
          have h63 := (hb.cell (p := ⟨gT, 3, none⟩) tl).trans t3
          have h64 := (hb.cell (p := ⟨gT, 4, none⟩) tl).trans t4
          clear hown6 hb6 hlit hcall hb
          refine hK.out _ _ ?_ (fun hHeld2 => ?_)
          · (try dsimp only); exact ⟨h60, h61, h62, h63, h64, hcell6⟩
          clear hK K hHeld
          try simp only [Act.put, List.setIfInBounds_toArray, List.set_cons_zero, List.set_cons_succ]
          have hHeld := hHeld2; clear hHeld2
          refine wpAnyH_ready (rs := [17]) (by kernel_rfl) (by simp) ?_
          refine AllReadyH.cons rfl (fun K hK => ?_) AllReadyH.nil
          go_simp
          with_reducible refine Hcall.out.mono ?_
          rintro e wz ⟨rfl, hsz, O', oc', vs', hS3⟩
          clear HS Hcall hT0 hT1 hT2 hT3 hT4 hcellL h60 h61 h62 h63 h64 hcell6 t0 t1 t2 t3 t4 tl hcell hbL Hrow
          have HS := hide hS3
          clear hS3
          obtain ⟨t0, t1, t2, t3, t4⟩ := cell5 (HS.out.prot _ _ _ PRT).1
          have tl := (HS.out.prot _ _ _ PRT).1.lt
          have hcell := (HS.out.bd.cell k).trans (famCells_at (o := N) hkN)
          skip
          rw [Hrl.out, ← Hln.out] at hcell
          refine hK.out _ _ ?_ (fun hHeld2 => ?_)
          · (try dsimp only); exact ⟨t0, t1, t2, t3, t4, hcell⟩
          clear hK K hHeld hHeld2 hcell
          try simp only [Act.put, List.setIfInBounds_toArray, List.set_cons_zero, List.set_cons_succ]
          refine wpAnyH_done (by kernel_rfl) ?_ _
          have hnext : cs1 ++ [[-fa, fb] ++ rl] = cs0 ++ atOps N S t T.ops nO ++ atFr N S t T.ops (k + 1) := by
            have e1 := famL_zero (N := N) (S := S) (t := t) (q := nO) (ops := T.ops) k
            rw [if_pos hkN, Hrl1.out] at e1
            have e2 := famL_zero (N := N) (S := S) (t := t) (q := nO) (ops := T.ops) (N + k)
            rw [if_neg (by omega), Hrl.out, show N + k - N = k by omega] at e2
            rw [atFr_succ, HlO.out, ← Hfa.out, ← Hfb.out, ← e1, ← e2, ← Hc1.out]
            simp only [List.append_assoc]
          have Hnext := hide hnext
          clear hnext
          go_wp2_with fail
          go_roundw
          case rel => exact ⟨k + 1, _, _, _, _, _, _, by omega, by go_num, Hnext.out, by simp only [List.length_append, List.length_cons, List.length_nil]; omega, HS.out⟩
          case measure => simp [intOf]; omega
        · obtain rfl : N = k := by omega
          go_wp2_with fail
          go_end0
          have hcl := HS.out.cl
          have hce : cs = cs0 ++ atC N S t T.ops := by
            rw [Hcs.out]
            unfold atC
            rw [HlO.out, List.append_assoc]
          subst hce
          exact ⟨rfl, HS.out.chg, O, oc, vs, ⟨hcl.box, hcl.own.less (fun i hi e => by
            rcases e with e | e | e | e
            · exact .inl e
            · exact .inr (.inl e)
            · exact e.elim
            · omega), hcl.gB, hcl.size, fun _ _ e => e, fun _ e => e.elim⟩, HS.out.at_⟩
end Go.Proofs.YtemiecammmbjdaaGreat
namespace Go.Proofs.YtemiecammmbjdaaGreat
set_option linter.unusedVariables false
set_option linter.unusedSimpArgs false
open Go.RowKit
theorem one_low {w : World} {g : Nat} {x : Int} (hb : Blk 3 w g [.int .i64 x]) (hx : -1000 ≤ x ∧ x ≤ 1000) : Rd Enc.int w (some ⟨g, 0, none⟩) 1 1 [x] :=
  Rd.lit_ints [x] hb (by simp) (fun y hy => by simp at hy; subst hy; exact hx)
end Go.Proofs.YtemiecammmbjdaaGreat
namespace Go.Proofs.YtemiecammmbjdaaGreat
set_option linter.unusedVariables false
set_option linter.unusedSimpArgs false
open Go.RowKit
def initC (N : Nat) (init : List Int) (k : Nat) : List (List Int) := (List.range k).map fun p : Nat => if subsetB [(p : Int)] init = true then [factV N 0 p] else [-(factV N 0 p)]
def goalC (N S : Nat) (l : List Int) : List (List Int) := l.map fun p => [factV N S p.toNat]
def timeC (N S : Nat) (ops : List Opr) (k : Nat) : List (List Int) := (List.range k).flatMap fun t => atC N S t ops
/-- the clauses of an encoding -/
def encC (T : Tsk) (N S : Nat) : List (List Int) := initC N T.init N ++ goalC N S T.goal ++ timeC N S T.ops S
theorem initC_succ (N : Nat) (init : List Int) (k : Nat) : initC N init (k + 1) = initC N init k ++ [if subsetB [(k : Int)] init = true then [factV N 0 k] else [-(factV N 0 k)]] := by
  unfold initC
  rw [List.range_succ, List.map_append]
  rfl
theorem goalC_succ {N S j p : Nat} {l : List Int} (h : l[j]? = some (p : Int)) : goalC N S (l.take (j + 1)) = goalC N S (l.take j) ++ [[factV N S p]] := by
  unfold goalC
  rw [List.take_add_one, h]
  simp
theorem timeC_succ (N S : Nat) (ops : List Opr) (k : Nat) : timeC N S ops (k + 1) = timeC N S ops k ++ atC N S k ops := by
  unfold timeC
  rw [List.range_succ, List.flatMap_append]
  simp
theorem set_disj_len {N : Nat} {a b : List Int} (ha : setB N a = true) (hb : setB N b = true) (hd : meetB a b = false) : a.length + b.length ≤ N := by
  obtain ⟨p1, p2⟩ := setB_iff.1 ha
  obtain ⟨q1, q2⟩ := setB_iff.1 hb
  have hnd : ((a ++ b).map Int.toNat).Nodup := by
    unfold List.Nodup
    rw [List.pairwise_map, List.pairwise_append]
    refine ⟨p1.imp_of_mem (fun {x y} hx hy hxy => by have := (p2 x hx).1; omega), q1.imp_of_mem (fun {x y} hx hy hxy => by have := (q2 x hx).1; omega), fun x hx y hy e => ?_⟩
    have h1 := (p2 x hx).1
    have h2 := (q2 y hy).1
    obtain rfl : x = y := by omega
    have : meetB a b = true := meetB_iff.2 ⟨x, hx, hy⟩
    rw [hd] at this
    cases this
  have := List.Nodup.length_le_of_subset (l₂ := List.range N) hnd (fun x hx => by
    obtain ⟨y, hy, rfl⟩ := List.mem_map.1 hx
    rw [List.mem_range]
    rcases List.mem_append.1 hy with hy | hy
    · have := p2 y hy
      omega
    · have := q2 y hy
      omega)
  simpa using this
theorem opC_len {N S n t q : Nat} {o : Opr} (h : OkOp N o) : (opC N S n t q o).length ≤ q + 2 * N := by
  have h1 := setB_len h.pre
  have h2 := set_disj_len h.add h.del h.apart
  unfold opC opC1 opC2 opCA opCD
  simp only [List.length_append, List.length_map, List.length_range]
  omega
theorem atOps_len {T : Tsk} {N S t : Nat} (hok : OkT T N) : ∀ q, q ≤ T.ops.length → 2 * (atOps N S t T.ops q).length ≤ q * (q - 1) + 4 * (q * N) := by
  intro q
  induction q with
  | zero => intro _; simp [atOps]
  | succ q ih =>
    intro hq
    have h1 := ih (by omega)
    have h2 := opC_len (S := S) (n := T.ops.length) (t := t) (q := q) (hok.ops _ (opAt_mem (x := (q : Int)) (by omega) (by omega)))
    rw [atOps_succ, List.length_append]
    have e1 : (q + 1) * (q + 1 - 1) = q * q + q := by rw [Nat.add_sub_cancel, Nat.add_mul]; omega
    have e2 : q * (q - 1) + q = q * q := by
      cases q with
      | zero => rfl
      | succ q => rw [Nat.add_sub_cancel, Nat.mul_add]; omega
    have e3 : (q + 1) * N = q * N + N := by rw [Nat.add_mul]; omega
    omega
theorem atC_len {T : Tsk} {N S t : Nat} (hok : OkT T N) : 2 * (atC N S t T.ops).length ≤ T.ops.length * (T.ops.length - 1) + 4 * (T.ops.length * N) + 4 * N := by
  have h1 := atOps_len (S := S) (t := t) hok T.ops.length (Nat.le_refl _)
  have h2 : ∀ k, (atFr N S t T.ops k).length = 2 * k := by
    intro k
    induction k with
    | zero => simp [atFr]
    | succ k ih => rw [atFr_succ, List.length_append, List.length_append, ih]; simp only [List.length_cons, List.length_nil]; omega
  unfold atC
  rw [List.length_append, h2]
  omega
theorem timeC_len {T : Tsk} {N S : Nat} (hok : OkT T N) : ∀ k, 2 * (timeC N S T.ops k).length ≤ k * (T.ops.length * (T.ops.length - 1) + 4 * (T.ops.length * N) + 4 * N) := by
  intro k
  induction k with
  | zero => simp [timeC]
  | succ k ih =>
    have := atC_len (S := S) (t := k) hok
    rw [timeC_succ, List.length_append, Nat.add_mul]
    omega
theorem timeC_low {T : Tsk} {N S : Nat} (hok : OkT T N) (hn : T.ops.length ≤ 20) {k : Nat} (hk : k ≤ 4) : (timeC N S T.ops k).length ≤ 10000 := by
  have h1 := timeC_len (S := S) hok k
  have h2 : T.ops.length * (T.ops.length - 1) ≤ 20 * 19 := Nat.mul_le_mul hn (by omega)
  have h3 : T.ops.length * N ≤ 20 * 24 := Nat.mul_le_mul hn hok.low
  have h4 := hok.low
  have h5 : k * (T.ops.length * (T.ops.length - 1) + 4 * (T.ops.length * N) + 4 * N) ≤ 4 * (20 * 19 + 4 * (20 * 24) + 4 * 24) := Nat.mul_le_mul hk (by omega)
  omega
def ClQ (B g : Nat) (O : Option Addr) (cs : List (List Int)) (w : World) (e : Ending) (w' : World) : Prop :=
  e = .returned (.tuple #[]) ∧ Chg (fun b => b = g ∨ blkA O = some b) w w' ∧ ∃ (O' : Option Addr) (oc' : Nat) (vs' : List Value), ClS B (fun _ => False) g w' cs O' oc' vs'
theorem ClS.call1 {B g : Nat} {W : World} {cs : List (List Int)} {O : Option Addr} {oc : Nat} {vs : List Value} (h : ClS B (fun _ => False) g W cs O oc vs) (x : Int) (hn : cs.length ≤ 1000000) (hx : -10000 ≤ x ∧ x ≤ 10000) :
    Calls Tryz.prog 75 #[.slice (some ⟨W.heap.size, 0, none⟩) 1 1, .pointer (some ⟨g, 0, none⟩)] (W.alloc (.cells #[.int .i64 x] 3)) (ClQ B g O (cs ++ [[x]]) W) := by
  have hb : Below W.heap.size W (W.alloc (.cells #[.int .i64 x] 3)) := (Below.refl _ _).alloc (Nat.le_refl _) _
  have ho : (W.alloc (.cells #[.int .i64 x] 3)).ownsRow W.heap.size 3 1 (.slice (some ⟨W.heap.size, 0, none⟩) 1 1) 1 ([x].map (Value.int .i64)) := own_fresh (Nat.le_refl _) (by omega) rfl
  have hO : ∀ r, blkA O = some r → r < W.heap.size := fun r hr => (h.own.base hr).2
  refine (add_ct B _ g cs O oc vs _ 1 1 [x] _ (h.keep hb) (firm_row ho rfl (fun z hz => by simp at hz; subst hz; omega) (fun i hi e => ?_)) hn).mono fun e w' k => ⟨k.1, (Chg.of_below hb _).trans k.2.1, ?_⟩
  · rcases e with e | e | e | e
    · exact hO i e
    · have := h.size
      omega
    · exact e.elim
    · omega
  · obtain ⟨O', oc', vs', h1, _⟩ := k.2.2
    exact ⟨O', oc', vs', h1⟩
/-- rows that a call has made, with a plain address -/
def RowsQ (w : World) (rs : List (List Int)) (e : Ending) (w' : World) : Prop :=
  Below w.heap.size w w' ∧ ∃ (A : Option Addr) (c : Nat), e = .returned (.slice A rs.length c) ∧ (∀ ad, A = some ad → ∃ b off, ad = ⟨b, off, none⟩) ∧ ∀ w'', Chg (fun b => b < w.heap.size) w' w'' → Rd (Enc.sl Enc.int) w'' A rs.length c rs
theorem own_plain' {B : Nat} {w : World} {t : TypeId} {s : Nat} {A : Option Addr} {n c : Nat} {xs : List Value} (h : w.ownsRow B t s (.slice A n c) n xs) : ∀ ad, A = some ad → ∃ b off, ad = ⟨b, off, none⟩ := by
  intro ad e
  subst e
  rcases h.2 with ⟨e, _⟩ | ⟨g, cap, cur, e, _⟩
  · cases e
  · injection e with e1
    injection e1 with e1
    exact ⟨g, 0, e1⟩
/-- the clauses' box beside a box of the encoding -/
structure EnS (w : World) (gT : Nat) (tc : List Value) (W : World) (cs : List (List Int)) (O : Option Addr) (oc : Nat) (vs : List Value) : Prop where
  cl : ClS (gT + 1 + 1) (fun _ => False) (gT + 1) W cs O oc vs
  par : Blk 85 W gT tc
  low : Below w.heap.size w W
  g : gT = w.heap.size
section
variable {w W W' : World} {gT : Nat} {tc : List Value} {cs : List (List Int)} {O : Option Addr} {oc : Nat} {vs : List Value}
theorem EnS.keep (h : EnS w gT tc W cs O oc vs) (hb : Below W.heap.size W W') : EnS w gT tc W' cs O oc vs := ⟨h.cl.keep hb, h.par.keep hb, h.low.trans (hb.mono h.low.size), h.g⟩
theorem EnS.chg {cs' : List (List Int)} {O' : Option Addr} {oc' : Nat} {vs' : List Value} (h : EnS w gT tc W cs O oc vs) (hc : Chg (fun b => b = gT + 1 ∨ blkA O = some b) W W') (hk : ClS (gT + 1 + 1) (fun _ => False) (gT + 1) W' cs' O' oc' vs') : EnS w gT tc W' cs' O' oc' vs' := by
  have hg := h.g
  have hO : ∀ r, blkA O = some r → gT + 1 + 1 ≤ r := fun r hr => (h.cl.own.base hr).1
  refine ⟨hk, hc.blk h.par (fun e => ?_), h.low.trans (hc.below (fun i e => ?_) h.low.size), hg⟩
  · rcases e with e | e
    · omega
    · have := hO gT e
      omega
  · rcases e with e | e
    · omega
    · have := hO i e
      omega
end
set_option maxRecDepth 100000 in
set_option maxHeartbeats 6400000 in
theorem clauses_ct (a0 : TA) (T : Tsk) (N S : Nat) (w : World) (hT : TkR w a0 T) (hok : OkT T N) (hn : T.ops.length ≤ 20) (hS : S ≤ 4) :
    Calls Tryz.prog 43 #[.agg #[.int .i64 T.facts, .slice a0.I a0.nI a0.cI, .slice a0.G a0.nG a0.cG, .slice a0.O a0.nO a0.cO, .int .i64 S]] w (RowsQ w (encC T N S)) := by
  have hfc := fun t p w h1 h2 h3 => fact_ct a0 N S t p w h1 h2 h3
  have hat := fun (t : Nat) B g cs0 O0 oc0 vs0 w w0 h1 h2 h3 h4 h5 h6 => at_ct a0 T N S t B g cs0 O0 oc0 vs0 w w0 h1 h2 h3 hok hn hS h4 h5 h6
  have hmf : ∀ (fn : Fn) (first cap : Array Value) (w : World), (Instr.makeFunc fn first cap).run Tryz.prog w = .ok (.func fn first cap) w := fun _ _ _ _ => rfl
  obtain ⟨I, nI, cI, G, nG, cG, Oo, nO, cO⟩ := a0
  simp only at hfc hat ⊢
  rw [hok.facts] at hat ⊢
  have hN := hok.low
  have hlO := hT.ops.len
  simp only at hlO
  have hlg := setB_len hok.goal
  rw [hT.goal.len] at hlg
  simp only at hlg
  have Hn := hide hn
  rw [hlO] at hn
  have HlO := hide hlO
  have HT := hide hT
  have Hok := hide hok
  have Hfc := hide hfc
  have Hat := hide hat
  have Hmf := hide hmf
  clear hT hok hfc hat hlO hmf
  go_enter Tryz.func43, Tryz.ntmps43
  have hmf := Hmf.out
  go_upto_region 3 with (fail)
  clear hmf
  obtain ⟨W0, hW0⟩ : ∃ W, W = (w.alloc (.cells #[.int .i64 N, .slice I nI cI, .slice G nG cG, .slice Oo nO cO, .int .i64 S] 85)).alloc (.cells #[.slice none 0 0] 36) := ⟨_, rfl⟩
  have hst : EnS w w.heap.size [.int .i64 N, .slice I nI cI, .slice G nG cG, .slice Oo nO cO, .int .i64 S] W0 [] none 0 [] := by
    have hb : Below w.heap.size w W0 := by rw [hW0]; exact below_two w _ _
    have hsz : W0.heap.size = w.heap.size + 1 + 1 := by rw [hW0]; simp only [World.size_alloc]
    have b1 : Blk 85 W0 w.heap.size [.int .i64 N, .slice I nI cI, .slice G nG cG, .slice Oo nO cO, .int .i64 S] := by rw [hW0]; exact (Blk.new w _ _).alloc _
    have b2 : Blk 36 W0 (w.heap.size + 1) [.slice none 0 0] := by
      rw [hW0]
      have := Blk.new (w.alloc (.cells #[.int .i64 N, .slice I nI cI, .slice G nG cG, .slice Oo nO cO, .int .i64 S] 85)) 36 [.slice none 0 0]
      simpa only [World.size_alloc] using this
    exact ⟨⟨b2, OwnE.nil _ _ _ _ _, by omega, by omega, fun r hr => (by cases hr), fun _ e => e.elim⟩, b1, hb, rfl⟩
  rw [← hW0]
  obtain ⟨gT, hgT⟩ : ∃ g, g = w.heap.size := ⟨_, rfl⟩
  rw [← hgT] at hst ⊢
  have HS := hide hst
  clear hst hW0 hgT
  obtain ⟨t0, t1, t2, t3, t4⟩ := cell5 HS.out.par
  have tl := HS.out.par.lt
  go_wp2_with fail
  clear t0 t1 t2 t3 t4 tl
  go_loopw [13] (fun iv wr => ∃ (j : Nat) (cs : List (List Int)) (O : Option Addr) (oc : Nat) (vs : List Value), j ≤ N ∧ iv = .int .i64 j ∧ cs = initC N T.init j ∧ cs.length ≤ j ∧ EnS w gT [.int .i64 N, .slice I nI cI, .slice G nG cG, .slice Oo nO cO, .int .i64 S] wr cs O oc vs) (fun iv _ => N - (intOf iv).toNat)
  case atStart => exact ⟨0, _, _, _, _, by omega, rfl, by simp [initC], by simp, HS.out⟩
  case round =>
    clear HS
    skip
    obtain ⟨wq, rfl⟩ : ∃ V, V = wr := ⟨_, rfl⟩
    obtain ⟨j, cs, O, oc, vs, hj, rfl, hcs, hlen, hS1⟩ := hrel
    have HS := hide hS1
    have Hcs := hide hcs
    clear hS1 hcs
    obtain ⟨t0, t1, t2, t3, t4⟩ := cell5 HS.out.par
    have tl := HS.out.par.lt
    by_cases hjt : j < N
    · skip
      have hjI : (j : Int) < (N : Int) := by omega
      have hbL : Below wq.heap.size wq (wq.alloc (.cells #[.int .i64 j] 3)) := (Below.refl _ _).alloc (Nat.le_refl _) _
      have hct := Contains_ct I (some ⟨wq.heap.size, 0, none⟩) nI cI 1 1 T.init [(j : Int)] (wq.alloc (.cells #[.int .i64 j] 3)) (HT.out.init.keep (HS.out.low.trans (hbL.mono HS.out.low.size))) (one_low (Blk.new wq 3 [.int .i64 j]) (by omega)) (setB_iff.1 Hok.out.init).1 (List.pairwise_singleton _ _)
      obtain ⟨bo, hbo⟩ : ∃ z, z = subsetB [(j : Int)] T.init := ⟨_, rfl⟩
      rw [← hbo] at hct
      have Hbo := hide hbo
      clear hbo
      go_wp2_with fail
      with_reducible refine hct.mono ?_
      rintro e w2 ⟨rfl, hw⟩
      obtain ⟨w3, hw3⟩ : ∃ W, W = wq.alloc (.cells #[.int .i64 j] 3) := ⟨_, rfl⟩
      rw [← hw, ← hw3]
      rw [← hw3] at hbL
      replace HS := hide (HS.out.keep hbL)
      clear hct hw hw3 hbL
      clear t0 t1 t2 t3 t4 tl
      obtain ⟨t0, t1, t2, t3, t4⟩ := cell5 HS.out.par
      have tl := HS.out.par.lt
      cases bo with
      | true =>
        have hct := Hfc.out 0 j w3 hN (by omega) (by omega)
        rw [show ((0 : Nat) : Int) = 0 from rfl] at hct
        go_wp2_with fail
        with_reducible refine hct.mono ?_
        rintro e w4 ⟨rfl, hb⟩
        replace HS := hide (HS.out.keep hb)
        clear hb hct
        clear t0 t1 t2 t3 t4 tl
        obtain ⟨t0, t1, t2, t3, t4⟩ := cell5 HS.out.par
        have tl := HS.out.par.lt
        have hlw := factV_low (t := 0) (p := j) hN (show 0 ≤ 10 by omega) (by omega)
        obtain ⟨f, hf⟩ : ∃ z, z = factV N 0 j := ⟨_, rfl⟩
        rw [← hf] at hlw ⊢
        obtain ⟨f0, f1⟩ := hlw
        have Hf := hide hf
        clear hf
        go_wp2_with fail
        with_reducible refine (HS.out.cl.call1 (f) (by omega) (by omega)).mono ?_
        rintro e w5 ⟨rfl, hch, O', oc', vs', hcl⟩
        have hS3 := HS.out.chg hch hcl
        clear HS hch hcl
        have HS := hide hS3
        clear hS3
        clear t0 t1 t2 t3 t4 tl
        obtain ⟨t0, t1, t2, t3, t4⟩ := cell5 HS.out.par
        have tl := HS.out.par.lt
        go_wp2_with fail
        go_roundw
        case rel => exact ⟨j + 1, _, _, _, _, by omega, by go_num, (by rw [initC_succ, ← Hbo.out, if_pos rfl, ← Hf.out, Hcs.out]), by simp only [List.length_append, List.length_cons, List.length_nil]; omega, HS.out⟩
        case measure => simp [intOf]; omega
      | false =>
        have hct := Hfc.out 0 j w3 hN (by omega) (by omega)
        rw [show ((0 : Nat) : Int) = 0 from rfl] at hct
        go_wp2_with fail
        with_reducible refine hct.mono ?_
        rintro e w4 ⟨rfl, hb⟩
        replace HS := hide (HS.out.keep hb)
        clear hb hct
        clear t0 t1 t2 t3 t4 tl
        obtain ⟨t0, t1, t2, t3, t4⟩ := cell5 HS.out.par
        have tl := HS.out.par.lt
        have hlw := factV_low (t := 0) (p := j) hN (show 0 ≤ 10 by omega) (by omega)
        obtain ⟨f, hf⟩ : ∃ z, z = factV N 0 j := ⟨_, rfl⟩
        rw [← hf] at hlw ⊢
        obtain ⟨f0, f1⟩ := hlw
        have Hf := hide hf
        clear hf
        go_wp2_with fail
        with_reducible refine (HS.out.cl.call1 (-f) (by omega) (by omega)).mono ?_
        rintro e w5 ⟨rfl, hch, O', oc', vs', hcl⟩
        have hS3 := HS.out.chg hch hcl
        clear HS hch hcl
        have HS := hide hS3
        clear hS3
        clear t0 t1 t2 t3 t4 tl
        obtain ⟨t0, t1, t2, t3, t4⟩ := cell5 HS.out.par
        have tl := HS.out.par.lt
        go_wp2_with fail
        go_roundw
        case rel => exact ⟨j + 1, _, _, _, _, by omega, by go_num, (by rw [initC_succ, ← Hbo.out, if_neg (by simp), ← Hf.out, Hcs.out]), by simp only [List.length_append, List.length_cons, List.length_nil]; omega, HS.out⟩
        case measure => simp [intOf]; omega
    · obtain rfl : N = j := by omega
      skip
      go_wp2_with fail
      clear t0 t1 t2 t3 t4 tl
      go_loopw [40] (fun iv wr => ∃ (j : Nat) (cs : List (List Int)) (O : Option Addr) (oc : Nat) (vs : List Value), j ≤ nG ∧ iv = .int .i64 j ∧ cs = initC N T.init N ++ goalC N S (T.goal.take j) ∧ cs.length ≤ 24 + j ∧ EnS w gT [.int .i64 N, .slice I nI cI, .slice G nG cG, .slice Oo nO cO, .int .i64 S] wr cs O oc vs) (fun iv _ => nG - (intOf iv).toNat)
      case atStart => exact ⟨0, _, _, _, _, by omega, rfl, (by rw [Hcs.out]; simp [goalC]), by omega, HS.out⟩
      case round =>
        clear HS
        clear Hcs
        obtain ⟨wq, rfl⟩ : ∃ V, V = wr := ⟨_, rfl⟩
        obtain ⟨j, cs, O, oc, vs, hj, rfl, hcs, hlen, hS1⟩ := hrel
        have HS := hide hS1
        have Hcs := hide hcs
        clear hS1 hcs
        obtain ⟨t0, t1, t2, t3, t4⟩ := cell5 HS.out.par
        have tl := HS.out.par.lt
        by_cases hjt : j < nG
        · skip
          obtain ⟨bp, offp, x, rfl, hx, hx1, hx2, hcx⟩ := (HT.out.goal.keep HS.out.low).int hjt
          have hxr := (setB_iff.1 Hok.out.goal).2 x (List.mem_of_getElem? hx)
          obtain ⟨pp, rfl⟩ : ∃ pp : Nat, x = (pp : Int) := ⟨x.toNat, by omega⟩
          have Hx := hide hx
          have hjn : (j : Int) < (nG : Int) := by omega
          clear hx
          have hct := Hfc.out S pp wq hN (by omega) (by omega)
          go_wp2_with fail
          with_reducible refine hct.mono ?_
          rintro e w4 ⟨rfl, hb⟩
          replace HS := hide (HS.out.keep hb)
          clear hb hct
          clear t0 t1 t2 t3 t4 tl
          obtain ⟨t0, t1, t2, t3, t4⟩ := cell5 HS.out.par
          have tl := HS.out.par.lt
          have hlw := factV_low (t := S) (p := pp) hN (show S ≤ 10 by omega) (by omega)
          obtain ⟨f, hf⟩ : ∃ z, z = factV N S pp := ⟨_, rfl⟩
          rw [← hf] at hlw ⊢
          obtain ⟨f0, f1⟩ := hlw
          have Hf := hide hf
          clear hf
          go_wp2_with fail
          with_reducible refine (HS.out.cl.call1 (f) (by omega) (by omega)).mono ?_
          rintro e w5 ⟨rfl, hch, O', oc', vs', hcl⟩
          have hS3 := HS.out.chg hch hcl
          clear HS hch hcl
          have HS := hide hS3
          clear hS3
          clear t0 t1 t2 t3 t4 tl
          obtain ⟨t0, t1, t2, t3, t4⟩ := cell5 HS.out.par
          have tl := HS.out.par.lt
          go_wp2_with fail
          go_roundw
          case rel => exact ⟨j + 1, _, _, _, _, by omega, by go_num, (by rw [goalC_succ Hx.out, ← Hf.out, Hcs.out, List.append_assoc]), by simp only [List.length_append, List.length_cons, List.length_nil]; omega, HS.out⟩
          case measure => simp [intOf]; omega
        · obtain rfl : nG = j := by omega
          skip
          have hgl : T.goal.take nG = T.goal := List.take_of_length_le (by have := HT.out.goal.len; simp only at this; omega)
          have hcs2 := Hcs.out
          rw [hgl] at hcs2
          clear Hcs
          have Hcs := hide hcs2
          clear hcs2 hgl
          go_wp2_with fail
          clear t0 t1 t2 t3 t4 tl
          go_loopw [55] (fun iv wr => ∃ (j : Nat) (cs : List (List Int)) (O : Option Addr) (oc : Nat) (vs : List Value), j ≤ S ∧ iv = .int .i64 j ∧ cs = initC N T.init N ++ goalC N S T.goal ++ timeC N S T.ops j ∧ True ∧ EnS w gT [.int .i64 N, .slice I nI cI, .slice G nG cG, .slice Oo nO cO, .int .i64 S] wr cs O oc vs) (fun iv _ => S - (intOf iv).toNat)
          case atStart => exact ⟨0, _, _, _, _, by omega, rfl, (by rw [Hcs.out]; simp [timeC]), trivial, HS.out⟩
          case round =>
            clear HS
            clear Hcs
            obtain ⟨wq, rfl⟩ : ∃ V, V = wr := ⟨_, rfl⟩
            obtain ⟨j, cs, O, oc, vs, hj, rfl, hcs, hlen, hS1⟩ := hrel
            have HS := hide hS1
            have Hcs := hide hcs
            clear hS1 hcs
            obtain ⟨t0, t1, t2, t3, t4⟩ := cell5 HS.out.par
            have tl := HS.out.par.lt
            by_cases hjt : j < S
            · skip
              have hjI : (j : Int) < (S : Int) := by omega
              have hll : cs.length ≤ 100000 := by
                rw [Hcs.out, List.length_append, List.length_append]
                have h1 := timeC_low (S := S) Hok.out Hn.out (k := j) (by omega)
                have h2 : (initC N T.init N).length ≤ 24 := by unfold initC; simp; omega
                have h3 : (goalC N S T.goal).length ≤ 24 := by unfold goalC; rw [List.length_map]; have := setB_len Hok.out.goal; omega
                omega
              have hg9 := HS.out.g
              have hct := Hat.out j (gT + 1 + 1) (gT + 1) cs O oc vs wq w HT.out HS.out.low (by omega) hjt HS.out.cl hll
              clear hg9
              go_wp2_with fail
              with_reducible refine hct.mono ?_
              rintro e w4 ⟨rfl, hch, O', oc', vs', hcl, _⟩
              have hS3 := HS.out.chg hch hcl
              clear HS hch hcl hct
              have HS := hide hS3
              clear hS3
              clear t0 t1 t2 t3 t4 tl
              obtain ⟨t0, t1, t2, t3, t4⟩ := cell5 HS.out.par
              have tl := HS.out.par.lt
              go_wp2_with fail
              go_roundw
              case rel => exact ⟨j + 1, _, _, _, _, by omega, by go_num, (by rw [timeC_succ, Hcs.out]; simp only [List.append_assoc]), trivial, HS.out⟩
              case measure => simp [intOf]; omega
            · obtain rfl : S = j := by omega
              have hcl := HS.out.cl
              have b0 := hcl.box.cell 0
              have bl := hcl.box.lt
              simp only [List.getElem?_cons_zero] at b0
              have hce : cs = encC T N S := Hcs.out
              subst hce
              clear hcl
              generalize hcn : (encC T N S).length = ln at b0
              have Hcn := hide hcn
              clear hcn
              go_wp2_with fail
              go_ret
              refine ⟨HS.out.low, O, oc, by rw [Hcn.out]; rfl, own_plain' HS.out.cl.own.own, fun w'' hc => ?_⟩
              have hg9 := HS.out.g
              exact (HS.out.cl.own.chg hc (fun i e => .inr (.inl (by omega))) (fun r hr e => by have := (HS.out.cl.own.base hr).1; omega)).rd
end Go.Proofs.YtemiecammmbjdaaGreat
namespace Go.Proofs.YtemiecammmbjdaaGreat
set_option linter.unusedVariables false
set_option linter.unusedSimpArgs false
open Go.RowKit
/-- the formula of a task and a number of steps, or the fault -/
def cnfR (T : Tsk) (s : Int) : Int × List (List Int) × Int × Int :=
  if (taskFault T).1 ≠ 0 then (0, [], taskFault T) else if s < 0 ∨ 4 < s then (0, [], 3, -8) else
  if 80 < sizeV T.facts.toNat s.toNat T.ops.length ∨ 20 < T.ops.length then (0, [], 10, -3) else (sizeV T.facts.toNat s.toNat T.ops.length, encC T T.facts.toNat s.toNat, 0, 0)
def CnfP (w : World) (r : Int × List (List Int) × Int × Int) (e : Ending) (w' : World) : Prop :=
  Below w.heap.size w w' ∧ ∃ (A : Option Addr) (n c : Nat), e = .returned (.tuple #[.agg #[.int .i64 r.1, .slice A n c], fault r.2.2.1 r.2.2.2]) ∧ (∀ ad, A = some ad → ∃ b off, ad = ⟨b, off, none⟩) ∧ ∀ w'', Chg (fun b => b < w.heap.size) w' w'' → Rd (Enc.sl Enc.int) w'' A n c r.2.1
theorem cnfP_nil {w w' : World} (h : Below w.heap.size w w') (c i : Int) : CnfP w (0, [], c, i) (.returned (.tuple #[.agg #[.int .i64 0, .slice none 0 0], fault c i])) w' := ⟨h, none, 0, 0, rfl, fun _ e => (by cases e), fun _ _ => Rd.nil_ _ _⟩
theorem sizeV_low {N S n : Nat} (hN : N ≤ 24) (hS : S ≤ 10) (hn : n ≤ 100) : 0 ≤ sizeV N S n ∧ sizeV N S n ≤ 2000 := by
  have h1 := Nat.mul_le_mul (show S + 1 ≤ 11 by omega) hN
  have h2 := Nat.mul_le_mul hS hn
  have e1 : ((S : Int) + 1) * (N : Int) = (((S + 1) * N : Nat) : Int) := by rw [Int.natCast_mul]; simp
  have e2 : (S : Int) * (n : Int) = ((S * n : Nat) : Int) := by rw [Int.natCast_mul]
  unfold sizeV
  rw [e1, e2]
  omega
set_option maxRecDepth 100000 in
set_option maxHeartbeats 6400000 in
theorem cnf_ct (a : TA) (T : Tsk) (s : Int) (w : World) (h : TkR w a T) (hs : I64s s) :
    Calls Tryz.prog 18 #[.agg #[.int .i64 T.facts, .slice a.I a.nI a.cI, .slice a.G a.nG a.cG, .slice a.O a.nO a.cO], .int .i64 s] w (CnfP w (cnfR T s)) := by
  have hval := SValidate_ct a T
  have hva := fun N S w h1 h2 h3 => variables_ct a N S w h1 h2 h3
  have hcl := fun N S w h1 h2 h3 h4 => clauses_ct a T N S w h1 h2 h3 h4
  obtain ⟨I, nI, cI, G, nG, cG, O, nO, cO⟩ := a
  simp only at hval hva hcl ⊢
  rcases hq : taskFault T with ⟨ec, ei⟩
  rw [hq] at hval
  have H := hide h
  have hlO := h.ops.len
  have hlow := h.ops.low
  simp only at hlO hlow
  have HlO := hide hlO
  have Hq := hide hq
  have Hval := hide hval
  have Hva := hide hva
  have Hcl := hide hcl
  clear h hlO hq hval hva hcl
  have Hbl := hide (Below.refl w.heap.size w)
  go_enter Tryz.func18, Tryz.ntmps18
  go_upto_region 1 with (fail)
  obtain ⟨B0, hB0⟩ : ∃ B0, B0 = w.heap.size := ⟨_, rfl⟩
  have HB0 := hide hB0
  clear hB0
  have s_0 : B0 ≤ w.heap.size := Nat.le_trans (Nat.le_of_eq HB0.out) Hbl.out.size
  have hyt := Blk.new (w) 25 [.int .i64 T.facts, .slice I nI cI, .slice G nG cG, .slice O nO cO]
  have hyr := Blk.new ((w).alloc (.cells #[.int .i64 T.facts, .slice I nI cI, .slice G nG cG, .slice O nO cO] 25)) 45 [.int .i64 0, .slice none 0 0]
  replace hyt := hyt.alloc (.cells #[.int .i64 0, .slice none 0 0] 45)
  have hyf := Blk.new (((w).alloc (.cells #[.int .i64 T.facts, .slice I nI cI, .slice G nG cG, .slice O nO cO] 25)).alloc (.cells #[.int .i64 0, .slice none 0 0] 45)) 28 [.int .i64 0, .int .i64 0]
  replace hyt := hyt.alloc (.cells #[.int .i64 0, .int .i64 0] 28)
  replace hyr := hyr.alloc (.cells #[.int .i64 0, .int .i64 0] 28)
  have hbW := below_three w (.cells #[.int .i64 T.facts, .slice I nI cI, .slice G nG cG, .slice O nO cO] 25) (.cells #[.int .i64 0, .slice none 0 0] 45) (.cells #[.int .i64 0, .int .i64 0] 28)
  simp only [World.size_alloc] at hyr hyf
  obtain ⟨w0, hW⟩ : ∃ W, W = (((w).alloc (.cells #[.int .i64 T.facts, .slice I nI cI, .slice G nG cG, .slice O nO cO] 25)).alloc (.cells #[.int .i64 0, .slice none 0 0] 45)).alloc (.cells #[.int .i64 0, .int .i64 0] 28) := ⟨_, rfl⟩
  rw [← hW] at hyt hyr hyf hbW ⊢
  replace Hbl := hide (Hbl.out.trans (hbW.mono Hbl.out.size))
  have Ht := hide hyt
  have Hr := hide hyr
  have Hf := hide hyf
  clear hW hbW hyt hyr hyf
  generalize w.heap.size = gT at Ht Hr Hf s_0 ⊢
  have t0 := Ht.out.cell 0
  have t1 := Ht.out.cell 1
  have t2 := Ht.out.cell 2
  have t3 := Ht.out.cell 3
  have tl := Ht.out.lt
  have r0 := Hr.out.cell 0
  have r1 := Hr.out.cell 1
  have rl := Hr.out.lt
  have f0 := Hf.out.cell 0
  have f1 := Hf.out.cell 1
  have fl := Hf.out.lt
  simp only [List.getElem?_cons_zero, List.getElem?_cons_succ] at t0 t1 t2 t3 r0 r1 f0 f1
  have a_t : B0 ≤ gT := by omega
  have a_r : B0 ≤ gT + 1 := by omega
  have a_f : B0 ≤ gT + 1 + 1 := by omega
  clear s_0
  have n_t_r : ¬ gT = gT + 1 := by omega
  have n_t_f : ¬ gT = gT + 1 + 1 := by omega
  have n_r_t : ¬ gT + 1 = gT := by omega
  have n_r_f : ¬ gT + 1 = gT + 1 + 1 := by omega
  have n_f_t : ¬ gT + 1 + 1 = gT := by omega
  have n_f_r : ¬ gT + 1 + 1 = gT + 1 := by omega
  go_wp2_with fail
  with_reducible refine (Hval.out w0 (H.out.keep Hbl.out)).mono ?_
  rintro e w1 ⟨rfl, hb⟩
  clear t0 t1 t2 t3 r0 r1 f0 f1 tl rl fl
  replace Ht := hide (Ht.out.keep hb)
  replace Hr := hide (Hr.out.keep hb)
  replace Hf := hide (Hf.out.keep hb)
  replace Hbl := hide (Hbl.out.trans (hb.mono Hbl.out.size))
  clear hb
  unfold fault
  have t0 := Ht.out.cell 0
  have t1 := Ht.out.cell 1
  have t2 := Ht.out.cell 2
  have t3 := Ht.out.cell 3
  have tl := Ht.out.lt
  have r0 := Hr.out.cell 0
  have r1 := Hr.out.cell 1
  have rl := Hr.out.lt
  have f0 := Hf.out.cell 0
  have f1 := Hf.out.cell 1
  have fl := Hf.out.lt
  simp only [List.getElem?_cons_zero, List.getElem?_cons_succ] at t0 t1 t2 t3 r0 r1 f0 f1
  go_upto_region 2 with (fail)
  have n_t_p : ¬ gT = w1.heap.size := by omega
  have n_p_t : ¬ w1.heap.size = gT := by omega
  have n_r_p : ¬ gT + 1 = w1.heap.size := by omega
  have n_p_r : ¬ w1.heap.size = gT + 1 := by omega
  have n_f_p : ¬ gT + 1 + 1 = w1.heap.size := by omega
  have n_p_f : ¬ w1.heap.size = gT + 1 + 1 := by omega
  have s_t : gT < w1.heap.size := tl
  have s_r : gT + 1 < w1.heap.size := rl
  have s_f : gT + 1 + 1 < w1.heap.size := fl
  have s_0 : B0 ≤ w1.heap.size := Nat.le_trans (Nat.le_of_eq HB0.out) Hbl.out.size
  have hyp := Blk.new (w1) 28 [.int .i64 ec, .int .i64 ei]
  have hbW : Below (w1).heap.size (w1) ((w1).alloc (.cells #[.int .i64 ec, .int .i64 ei] 28)) := (Below.refl _ _).alloc (Nat.le_refl _) _
  obtain ⟨w2, hW⟩ : ∃ W, W = (w1).alloc (.cells #[.int .i64 ec, .int .i64 ei] 28) := ⟨_, rfl⟩
  rw [← hW] at hyp hbW ⊢
  replace Ht := hide (Ht.out.keep hbW)
  replace Hr := hide (Hr.out.keep hbW)
  replace Hf := hide (Hf.out.keep hbW)
  replace Hbl := hide (Hbl.out.trans (hbW.mono Hbl.out.size))
  have Hp := hide hyp
  clear hW hbW hyp
  generalize w1.heap.size = gp at Hp n_t_p n_p_t n_r_p n_p_r n_f_p n_p_f s_t s_r s_f s_0 ⊢
  have t0 := Ht.out.cell 0
  have t1 := Ht.out.cell 1
  have t2 := Ht.out.cell 2
  have t3 := Ht.out.cell 3
  have tl := Ht.out.lt
  have r0 := Hr.out.cell 0
  have r1 := Hr.out.cell 1
  have rl := Hr.out.lt
  have f0 := Hf.out.cell 0
  have f1 := Hf.out.cell 1
  have fl := Hf.out.lt
  have p0 := Hp.out.cell 0
  have p1 := Hp.out.cell 1
  have pl := Hp.out.lt
  simp only [List.getElem?_cons_zero, List.getElem?_cons_succ] at t0 t1 t2 t3 r0 r1 f0 f1 p0 p1
  clear s_t
  clear s_r
  clear s_f
  have a_p : B0 ≤ gp := by omega
  clear s_0
  by_cases hec : ec = 0
  · subst hec
    have hz := taskFault_zero (T := T) (by rw [Hq.out])
    rw [Hq.out] at hz
    obtain ⟨_, e2⟩ := Prod.mk.inj hz
    subst e2
    obtain ⟨N, hok⟩ := taskFault_ok (T := T) (by rw [Hq.out])
    have hN := hok.low
    have hfN := hok.facts
    have hfT : T.facts.toNat = N := by omega
    have Hok := hide hok
    have HfT := hide hfT
    have HfN := hide hfN
    clear hz hok hfT hfN
    by_cases hs0 : s < 0
    · skip
      have rf0 := Hr.out.frozen 0
      have rf1 := Hr.out.frozen 1
      have ff0 := Hf.out.frozen 0
      have ff1 := Hf.out.frozen 1
      go_wp2_with fail
      refine bodyPost_ret (v := .tuple #[.agg #[.int .i64 0, .slice none 0 0], fault 3 (-8)]) (by simp [results, Tryz.results18, go_sem, fault, r0, r1, rl, f0, f1, fl, n_r_f, n_f_r]) rfl ?_
      have hres : cnfR T s = (0, [], 3, (-8)) := by
        unfold cnfR
        rw [Hq.out, if_neg (by simp)]
        rw [if_pos (.inl hs0)]
      rw [hres]
      have hbx := HB0.out
      refine cnfP_nil ?_ _ _
      repeat' (first | (with_reducible exact Hbl.out) | (with_reducible refine Below.drew ?_) | (with_reducible refine below_set ?_ ?_ _ _) | (have := HB0.out; omega))
    by_cases hs4 : 4 < s
    · skip
      have rf0 := Hr.out.frozen 0
      have rf1 := Hr.out.frozen 1
      have ff0 := Hf.out.frozen 0
      have ff1 := Hf.out.frozen 1
      go_wp2_with fail
      refine bodyPost_ret (v := .tuple #[.agg #[.int .i64 0, .slice none 0 0], fault 3 (-8)]) (by simp [results, Tryz.results18, go_sem, fault, r0, r1, rl, f0, f1, fl, n_r_f, n_f_r]) rfl ?_
      have hres : cnfR T s = (0, [], 3, (-8)) := by
        unfold cnfR
        rw [Hq.out, if_neg (by simp)]
        rw [if_pos (.inr hs4)]
      rw [hres]
      have hbx := HB0.out
      refine cnfP_nil ?_ _ _
      repeat' (first | (with_reducible exact Hbl.out) | (with_reducible refine Below.drew ?_) | (with_reducible refine below_set ?_ ?_ _ _) | (have := HB0.out; omega))
    obtain ⟨S, rfl⟩ : ∃ S : Nat, s = (S : Int) := ⟨s.toNat, by omega⟩
    have hS : S ≤ 4 := by omega
    have hxc : ¬ ((S : Int) < 0 ∨ 4 < (S : Int)) := by omega
    have hfc : T.facts = (N : Int) := HfN.out
    have Hfc := hide hfc
    rw [hfc] at t0
    go_upto_region 7 with (fail)
    have n_t_e : ¬ gT = w2.heap.size := by omega
    have n_e_t : ¬ w2.heap.size = gT := by omega
    have n_r_e : ¬ gT + 1 = w2.heap.size := by omega
    have n_e_r : ¬ w2.heap.size = gT + 1 := by omega
    have n_f_e : ¬ gT + 1 + 1 = w2.heap.size := by omega
    have n_e_f : ¬ w2.heap.size = gT + 1 + 1 := by omega
    have n_p_e : ¬ gp = w2.heap.size := by omega
    have n_e_p : ¬ w2.heap.size = gp := by omega
    have s_t : gT < w2.heap.size := tl
    have s_r : gT + 1 < w2.heap.size := rl
    have s_f : gT + 1 + 1 < w2.heap.size := fl
    have s_p : gp < w2.heap.size := pl
    have s_0 : B0 ≤ w2.heap.size := Nat.le_trans (Nat.le_of_eq HB0.out) Hbl.out.size
    have hye := Blk.new (w2) 85 [.int .i64 N, .slice I nI cI, .slice G nG cG, .slice O nO cO, .int .i64 S]
    have hbW : Below (w2).heap.size (w2) ((w2).alloc (.cells #[.int .i64 N, .slice I nI cI, .slice G nG cG, .slice O nO cO, .int .i64 S] 85)) := (Below.refl _ _).alloc (Nat.le_refl _) _
    obtain ⟨w3, hW⟩ : ∃ W, W = (w2).alloc (.cells #[.int .i64 N, .slice I nI cI, .slice G nG cG, .slice O nO cO, .int .i64 S] 85) := ⟨_, rfl⟩
    rw [← hW] at hye hbW ⊢
    replace Ht := hide (Ht.out.keep hbW)
    replace Hr := hide (Hr.out.keep hbW)
    replace Hf := hide (Hf.out.keep hbW)
    replace Hp := hide (Hp.out.keep hbW)
    replace Hbl := hide (Hbl.out.trans (hbW.mono Hbl.out.size))
    have He := hide hye
    clear hW hbW hye
    generalize w2.heap.size = gE at He n_t_e n_e_t n_r_e n_e_r n_f_e n_e_f n_p_e n_e_p s_t s_r s_f s_p s_0 ⊢
    have t0 := Ht.out.cell 0
    have t1 := Ht.out.cell 1
    have t2 := Ht.out.cell 2
    have t3 := Ht.out.cell 3
    have tl := Ht.out.lt
    have r0 := Hr.out.cell 0
    have r1 := Hr.out.cell 1
    have rl := Hr.out.lt
    have f0 := Hf.out.cell 0
    have f1 := Hf.out.cell 1
    have fl := Hf.out.lt
    have p0 := Hp.out.cell 0
    have p1 := Hp.out.cell 1
    have pl := Hp.out.lt
    have e0 := He.out.cell 0
    have e1 := He.out.cell 1
    have e2 := He.out.cell 2
    have e3 := He.out.cell 3
    have e4 := He.out.cell 4
    have el := He.out.lt
    simp only [List.getElem?_cons_zero, List.getElem?_cons_succ] at t0 t1 t2 t3 r0 r1 f0 f1 p0 p1 e0 e1 e2 e3 e4
    clear s_t
    clear s_r
    clear s_f
    clear s_p
    have a_e : B0 ≤ gE := by omega
    clear s_0
    clear hfc
    by_cases h20 : 20 < nO
    · skip
      have h40 := Hok.out.few
      rw [HlO.out] at h40
      have hct := Hva.out N S w3 hN (by omega) (by omega)
      obtain ⟨sz, hsz⟩ : ∃ z, z = sizeV N S nO := ⟨_, rfl⟩
      rw [← hsz] at hct
      have hlw := sizeV_low (n := nO) hN (show S ≤ 10 by omega) (by omega)
      rw [← hsz] at hlw
      obtain ⟨sz0, sz1⟩ := hlw
      have Hsz := hide hsz
      clear hsz h40
      go_wp2_with fail
      with_reducible refine (hct).mono ?_
      rintro e w4 ⟨rfl, hb⟩
      clear t0 t1 t2 t3 r0 r1 f0 f1 p0 p1 e0 e1 e2 e3 e4 tl rl fl pl el
      replace Ht := hide (Ht.out.keep hb)
      replace Hr := hide (Hr.out.keep hb)
      replace Hf := hide (Hf.out.keep hb)
      replace Hp := hide (Hp.out.keep hb)
      replace He := hide (He.out.keep hb)
      replace Hbl := hide (Hbl.out.trans (hb.mono Hbl.out.size))
      clear hb
      clear hct
      have t0 := Ht.out.cell 0
      have t1 := Ht.out.cell 1
      have t2 := Ht.out.cell 2
      have t3 := Ht.out.cell 3
      have tl := Ht.out.lt
      have r0 := Hr.out.cell 0
      have r1 := Hr.out.cell 1
      have rl := Hr.out.lt
      have f0 := Hf.out.cell 0
      have f1 := Hf.out.cell 1
      have fl := Hf.out.lt
      have p0 := Hp.out.cell 0
      have p1 := Hp.out.cell 1
      have pl := Hp.out.lt
      have e0 := He.out.cell 0
      have e1 := He.out.cell 1
      have e2 := He.out.cell 2
      have e3 := He.out.cell 3
      have e4 := He.out.cell 4
      have el := He.out.lt
      simp only [List.getElem?_cons_zero, List.getElem?_cons_succ] at t0 t1 t2 t3 r0 r1 f0 f1 p0 p1 e0 e1 e2 e3 e4
      by_cases h80 : 80 < sz
      · skip
        have rf0 := Hr.out.frozen 0
        have rf1 := Hr.out.frozen 1
        have ff0 := Hf.out.frozen 0
        have ff1 := Hf.out.frozen 1
        go_wp2_with fail
        refine bodyPost_ret (v := .tuple #[.agg #[.int .i64 0, .slice none 0 0], fault 10 (-3)]) (by simp [results, Tryz.results18, go_sem, fault, r0, r1, rl, f0, f1, fl, n_r_f, n_f_r]) rfl ?_
        have hres : cnfR T (S : Int) = (0, [], 10, (-3)) := by
          unfold cnfR
          rw [Hq.out, if_neg (by simp)]
          rw [if_neg hxc, HfT.out, Int.toNat_natCast, HlO.out]
          rw [if_pos (.inr h20)]
        rw [hres]
        have hbx := HB0.out
        refine cnfP_nil ?_ _ _
        repeat' (first | (with_reducible exact Hbl.out) | (with_reducible refine Below.drew ?_) | (with_reducible refine below_set ?_ ?_ _ _) | (have := HB0.out; omega))
      · skip
        have rf0 := Hr.out.frozen 0
        have rf1 := Hr.out.frozen 1
        have ff0 := Hf.out.frozen 0
        have ff1 := Hf.out.frozen 1
        go_wp2_with fail
        refine bodyPost_ret (v := .tuple #[.agg #[.int .i64 0, .slice none 0 0], fault 10 (-3)]) (by simp [results, Tryz.results18, go_sem, fault, r0, r1, rl, f0, f1, fl, n_r_f, n_f_r]) rfl ?_
        have hres : cnfR T (S : Int) = (0, [], 10, (-3)) := by
          unfold cnfR
          rw [Hq.out, if_neg (by simp)]
          rw [if_neg hxc, HfT.out, Int.toNat_natCast, HlO.out]
          rw [if_pos (.inr h20)]
        rw [hres]
        have hbx := HB0.out
        refine cnfP_nil ?_ _ _
        repeat' (first | (with_reducible exact Hbl.out) | (with_reducible refine Below.drew ?_) | (with_reducible refine below_set ?_ ?_ _ _) | (have := HB0.out; omega))
    · skip
      have h40 := Hok.out.few
      rw [HlO.out] at h40
      have hct := Hva.out N S w3 hN (by omega) (by omega)
      obtain ⟨sz, hsz⟩ : ∃ z, z = sizeV N S nO := ⟨_, rfl⟩
      rw [← hsz] at hct
      have hlw := sizeV_low (n := nO) hN (show S ≤ 10 by omega) (by omega)
      rw [← hsz] at hlw
      obtain ⟨sz0, sz1⟩ := hlw
      have Hsz := hide hsz
      clear hsz h40
      go_wp2_with fail
      with_reducible refine (hct).mono ?_
      rintro e w4 ⟨rfl, hb⟩
      clear t0 t1 t2 t3 r0 r1 f0 f1 p0 p1 e0 e1 e2 e3 e4 tl rl fl pl el
      replace Ht := hide (Ht.out.keep hb)
      replace Hr := hide (Hr.out.keep hb)
      replace Hf := hide (Hf.out.keep hb)
      replace Hp := hide (Hp.out.keep hb)
      replace He := hide (He.out.keep hb)
      replace Hbl := hide (Hbl.out.trans (hb.mono Hbl.out.size))
      clear hb
      clear hct
      have t0 := Ht.out.cell 0
      have t1 := Ht.out.cell 1
      have t2 := Ht.out.cell 2
      have t3 := Ht.out.cell 3
      have tl := Ht.out.lt
      have r0 := Hr.out.cell 0
      have r1 := Hr.out.cell 1
      have rl := Hr.out.lt
      have f0 := Hf.out.cell 0
      have f1 := Hf.out.cell 1
      have fl := Hf.out.lt
      have p0 := Hp.out.cell 0
      have p1 := Hp.out.cell 1
      have pl := Hp.out.lt
      have e0 := He.out.cell 0
      have e1 := He.out.cell 1
      have e2 := He.out.cell 2
      have e3 := He.out.cell 3
      have e4 := He.out.cell 4
      have el := He.out.lt
      simp only [List.getElem?_cons_zero, List.getElem?_cons_succ] at t0 t1 t2 t3 r0 r1 f0 f1 p0 p1 e0 e1 e2 e3 e4
      by_cases h80 : 80 < sz
      · skip
        have rf0 := Hr.out.frozen 0
        have rf1 := Hr.out.frozen 1
        have ff0 := Hf.out.frozen 0
        have ff1 := Hf.out.frozen 1
        go_wp2_with fail
        refine bodyPost_ret (v := .tuple #[.agg #[.int .i64 0, .slice none 0 0], fault 10 (-3)]) (by simp [results, Tryz.results18, go_sem, fault, r0, r1, rl, f0, f1, fl, n_r_f, n_f_r]) rfl ?_
        have hres : cnfR T (S : Int) = (0, [], 10, (-3)) := by
          unfold cnfR
          rw [Hq.out, if_neg (by simp)]
          rw [if_neg hxc, HfT.out, Int.toNat_natCast, HlO.out]
          rw [if_pos (.inl (by rw [← Hsz.out]; exact h80))]
        rw [hres]
        have hbx := HB0.out
        refine cnfP_nil ?_ _ _
        repeat' (first | (with_reducible exact Hbl.out) | (with_reducible refine Below.drew ?_) | (with_reducible refine below_set ?_ ?_ _ _) | (have := HB0.out; omega))
      · skip
        have rf0 := Hr.out.frozen 0
        have rf1 := Hr.out.frozen 1
        have ff0 := Hf.out.frozen 0
        have ff1 := Hf.out.frozen 1
        go_upto_region 9 with (fail)
        have s4r : gT + 1 < w4.heap.size := rl
        have s4f : gT + 1 + 1 < w4.heap.size := fl
        have s40 := Hbl.out.size
        have hpc := hide (show ∀ V, Below w4.heap.size w4 V → Blk 85 V gE [.int .i64 N, .slice I nI cI, .slice G nG cG, .slice O nO cO, .int .i64 S] ∧ Blk 45 V (gT + 1) [.int .i64 0, .slice none 0 0] ∧ Blk 28 V (gT + 1 + 1) [.int .i64 0, .int .i64 0] from fun V hV => ⟨He.out.keep hV, Hr.out.keep hV, Hf.out.keep hV⟩)
        have hva2 := hide (show ∀ V, Below w4.heap.size w4 V → Calls Tryz.prog 42 #[.agg #[.int .i64 N, .slice I nI cI, .slice G nG cG, .slice O nO cO, .int .i64 S]] V (Gives V (.int .i64 sz)) from fun V _ => by rw [Hsz.out]; exact Hva.out N S V hN (by omega) (by omega))
        have hcl2 := hide (show ∀ V, Below w4.heap.size w4 V → Calls Tryz.prog 43 #[.agg #[.int .i64 N, .slice I nI cI, .slice G nG cG, .slice O nO cO, .int .i64 S]] V (RowsQ V (encC T N S)) from fun V hV => by
          have := Hcl.out N S V (H.out.keep (Hbl.out.trans (hV.mono Hbl.out.size))) Hok.out (by rw [HlO.out]; omega) hS
          rw [Hfc.out] at this
          exact this)
        go_region_held3 (fun w' => w'.cell? ⟨gE, 0, none⟩ = some (.int .i64 N) ∧ w'.cell? ⟨gE, 1, none⟩ = some (.slice I nI cI) ∧ w'.cell? ⟨gE, 2, none⟩ = some (.slice G nG cG) ∧ w'.cell? ⟨gE, 3, none⟩ = some (.slice O nO cO) ∧ w'.cell? ⟨gE, 4, none⟩ = some (.int .i64 S)) (first | go_keep) (first
          | (go_at_call 42
             refine (hva2.out _ (by exact (Below.refl _ _).drew)).mono ?_
             rintro e wq ⟨rfl, hbq0⟩
             have hbq : Below w4.heap.size w4 wq := (Below.refl _ _).drew.trans hbq0
             clear hbq0
             obtain ⟨hE, _, _⟩ := hpc.out wq hbq
             obtain ⟨k0, k1, k2, k3, k4⟩ := cell5 hE
             clear hE)
          | (go_at_call 43
             refine (hcl2.out _ (by exact hbq)).mono ?_
             rintro e wz ⟨hbz0, A, c, rfl, hplain, hrows⟩
             have hsq := hbq.size
             have hbz : Below w4.heap.size w4 wz := hbq.trans (hbz0.mono hsq)
             obtain ⟨hE, hR, hF⟩ := hpc.out wz hbz
             obtain ⟨m0, m1, m2, m3, m4⟩ := cell5 hE
             have z0 := hR.cell 0
             have z1 := hR.cell 1
             have zf0 := hR.frozen 0
             have zf1 := hR.frozen 1
             have y0 := hF.cell 0
             have y1 := hF.cell 1
             have yf0 := hF.frozen 0
             have yf1 := hF.frozen 1
             have zl := hR.lt
             have yl := hF.lt
             simp only [List.getElem?_cons_zero, List.getElem?_cons_succ] at z0 z1 y0 y1
             clear hE hR hF))
        all_goals go_wp2_with fail
        refine bodyPost_ret (v := .tuple #[.agg #[.int .i64 sz, .slice A (encC T N S).length c], fault 0 0]) (by simp [results, Tryz.results18, go_sem, fault, z0, z1, zl, y0, y1, yl, n_r_f, n_f_r]) rfl ?_
        have hres : cnfR T (S : Int) = (sz, encC T N S, 0, 0) := by
          unfold cnfR
          rw [Hq.out, if_neg (by simp), if_neg hxc, HfT.out, Int.toNat_natCast, HlO.out, if_neg (by rw [← Hsz.out]; omega), ← Hsz.out]
        rw [hres]
        have hbx := HB0.out
        replace Hbl := hide (Hbl.out.trans (hbz.mono Hbl.out.size))
        refine ⟨?_, A, _, c, rfl, hplain, fun w'' hc => ?_⟩
        · repeat' (first | (with_reducible exact Hbl.out) | (with_reducible refine Below.drew ?_) | (with_reducible refine below_set ?_ ?_ _ _) | (have := HB0.out; omega))
        · refine hrows w'' ((((((Chg.set _ (gT + 1) 0 _).trans (Chg.set _ (gT + 1) 1 _)).mono (fun b e => ?_)).trans (((Chg.set _ (gT + 1 + 1) 0 _).trans (Chg.set _ (gT + 1 + 1) 1 _)).mono (fun b e => ?_))).trans (hc.mono (fun b e => ?_))))
          · show b < wq.heap.size
            omega
          · show b < wq.heap.size
            omega
          · show b < wq.heap.size
            omega
  · have hne : (ec != 0) = true := by simpa using hec
    have hne2 : (ec == 0) = false := by simpa using hec
    have rf0 := Hr.out.frozen 0
    have rf1 := Hr.out.frozen 1
    have ff0 := Hf.out.frozen 0
    have ff1 := Hf.out.frozen 1
    go_wp2_with fail
    go_region
    all_goals go_wp2_with fail
    all_goals refine bodyPost_ret (v := .tuple #[.agg #[.int .i64 0, .slice none 0 0], fault ec ei]) (by simp [results, Tryz.results18, go_sem, fault, r0, r1, rl, f0, f1, fl, n_r_f, n_f_r]) rfl ?_
    have hres : cnfR T s = (0, [], ec, ei) := by
      unfold cnfR
      rw [Hq.out, if_pos hec]
    rw [hres]
    have hbx := HB0.out
    refine cnfP_nil ?_ _ _
    repeat' (first | (with_reducible exact Hbl.out) | (with_reducible refine Below.drew ?_) | (with_reducible refine below_set ?_ ?_ _ _) | (have := HB0.out; omega))
set_option maxRecDepth 100000 in
set_option maxHeartbeats 6400000 in
theorem Encode_ct (a : TA) (T : Tsk) (s : Int) (r : Int × List (List Int) × Int × Int) (w : World) (h : TkR w a T) (hs : I64s s) (hr : cnfR T s = r) :
    Calls Tryz.prog 14 #[.agg #[.int .i64 T.facts, .slice a.I a.nI a.cI, .slice a.G a.nG a.cG, .slice a.O a.nO a.cO], .int .i64 s] w (CnfP w r) := by
  have hcn := cnf_ct a T s
  obtain ⟨I, nI, cI, G, nG, cG, O, nO, cO⟩ := a
  obtain ⟨V, cs, ec, ei⟩ := r
  rw [hr] at hcn
  simp only at hcn ⊢
  have H := hide h
  have Hcn := hide hcn
  clear h hcn hr
  have Hbl := hide (Below.refl w.heap.size w)
  go_enter Tryz.func14, Tryz.ntmps14
  go_upto_region 1 with (fail)
  obtain ⟨B0, hB0⟩ : ∃ B0, B0 = w.heap.size := ⟨_, rfl⟩
  have HB0 := hide hB0
  clear hB0
  have s_0 : B0 ≤ w.heap.size := Nat.le_trans (Nat.le_of_eq HB0.out) Hbl.out.size
  have hyt := Blk.new (w) 25 [.int .i64 T.facts, .slice I nI cI, .slice G nG cG, .slice O nO cO]
  have hyr := Blk.new ((w).alloc (.cells #[.int .i64 T.facts, .slice I nI cI, .slice G nG cG, .slice O nO cO] 25)) 45 [.int .i64 0, .slice none 0 0]
  replace hyt := hyt.alloc (.cells #[.int .i64 0, .slice none 0 0] 45)
  have hyf := Blk.new (((w).alloc (.cells #[.int .i64 T.facts, .slice I nI cI, .slice G nG cG, .slice O nO cO] 25)).alloc (.cells #[.int .i64 0, .slice none 0 0] 45)) 28 [.int .i64 0, .int .i64 0]
  replace hyt := hyt.alloc (.cells #[.int .i64 0, .int .i64 0] 28)
  replace hyr := hyr.alloc (.cells #[.int .i64 0, .int .i64 0] 28)
  have hbW := below_three w (.cells #[.int .i64 T.facts, .slice I nI cI, .slice G nG cG, .slice O nO cO] 25) (.cells #[.int .i64 0, .slice none 0 0] 45) (.cells #[.int .i64 0, .int .i64 0] 28)
  simp only [World.size_alloc] at hyr hyf
  obtain ⟨w0, hW⟩ : ∃ W, W = (((w).alloc (.cells #[.int .i64 T.facts, .slice I nI cI, .slice G nG cG, .slice O nO cO] 25)).alloc (.cells #[.int .i64 0, .slice none 0 0] 45)).alloc (.cells #[.int .i64 0, .int .i64 0] 28) := ⟨_, rfl⟩
  rw [← hW] at hyt hyr hyf hbW ⊢
  replace Hbl := hide (Hbl.out.trans (hbW.mono Hbl.out.size))
  have Ht := hide hyt
  have Hr := hide hyr
  have Hf := hide hyf
  clear hW hbW hyt hyr hyf
  generalize w.heap.size = gT at Ht Hr Hf s_0 ⊢
  have t0 := Ht.out.cell 0
  have t1 := Ht.out.cell 1
  have t2 := Ht.out.cell 2
  have t3 := Ht.out.cell 3
  have tl := Ht.out.lt
  have r0 := Hr.out.cell 0
  have r1 := Hr.out.cell 1
  have rl := Hr.out.lt
  have f0 := Hf.out.cell 0
  have f1 := Hf.out.cell 1
  have fl := Hf.out.lt
  simp only [List.getElem?_cons_zero, List.getElem?_cons_succ] at t0 t1 t2 t3 r0 r1 f0 f1
  have a_t : B0 ≤ gT := by omega
  have a_r : B0 ≤ gT + 1 := by omega
  have a_f : B0 ≤ gT + 1 + 1 := by omega
  clear s_0
  have n_t_r : ¬ gT = gT + 1 := by omega
  have n_t_f : ¬ gT = gT + 1 + 1 := by omega
  have n_r_t : ¬ gT + 1 = gT := by omega
  have n_r_f : ¬ gT + 1 = gT + 1 + 1 := by omega
  have n_f_t : ¬ gT + 1 + 1 = gT := by omega
  have n_f_r : ¬ gT + 1 + 1 = gT + 1 := by omega
  go_wp2_with fail
  have s0r : gT + 1 < w0.heap.size := rl
  have s0f : gT + 1 + 1 < w0.heap.size := fl
  have s00 := Hbl.out.size
  with_reducible refine (Hcn.out w0 (H.out.keep Hbl.out) hs).mono ?_
  rintro e w1 ⟨hb, A, n, c, rfl, hplain, hrows⟩
  unfold fault
  clear t0 t1 t2 t3 r0 r1 f0 f1 tl rl fl
  replace Ht := hide (Ht.out.keep hb)
  replace Hr := hide (Hr.out.keep hb)
  replace Hf := hide (Hf.out.keep hb)
  replace Hbl := hide (Hbl.out.trans (hb.mono Hbl.out.size))
  clear hb
  have t0 := Ht.out.cell 0
  have t1 := Ht.out.cell 1
  have t2 := Ht.out.cell 2
  have t3 := Ht.out.cell 3
  have tl := Ht.out.lt
  have r0 := Hr.out.cell 0
  have r1 := Hr.out.cell 1
  have rl := Hr.out.lt
  have f0 := Hf.out.cell 0
  have f1 := Hf.out.cell 1
  have fl := Hf.out.lt
  simp only [List.getElem?_cons_zero, List.getElem?_cons_succ] at t0 t1 t2 t3 r0 r1 f0 f1
  have rf0 := Hr.out.frozen 0
  have rf1 := Hr.out.frozen 1
  have ff0 := Hf.out.frozen 0
  have ff1 := Hf.out.frozen 1
  go_wp2_with fail
  refine bodyPost_ret (v := .tuple #[.agg #[.int .i64 V, .slice A n c], fault ec ei]) (by simp [results, Tryz.results14, go_sem, fault, r0, r1, rl, f0, f1, fl, n_r_f, n_f_r]) rfl ?_
  have hbx := HB0.out
  refine ⟨?_, A, _, c, rfl, hplain, fun w'' hc => ?_⟩
  · repeat' (first | (with_reducible exact Hbl.out) | (with_reducible refine Below.drew ?_) | (with_reducible refine below_set ?_ ?_ _ _) | (have := HB0.out; omega))
  · refine hrows w'' ((((((Chg.set _ (gT + 1) 0 _).trans (Chg.set _ (gT + 1) 1 _)).mono (fun b e => ?_)).trans (((Chg.set _ (gT + 1 + 1) 0 _).trans (Chg.set _ (gT + 1 + 1) 1 _)).mono (fun b e => ?_))).trans (hc.mono (fun b e => ?_))))
    · show b < w0.heap.size
      omega
    · show b < w0.heap.size
      omega
    · show b < w0.heap.size
      omega
end Go.Proofs.YtemiecammmbjdaaGreat
namespace Go.Proofs.YtemiecammmbjdaaGreat
set_option linter.unusedVariables false
set_option linter.unusedSimpArgs false
theorem opsFault_all {n : Int} : ∀ (os : List Opr) (i : Nat), (∀ o ∈ os, opCode n o = 0) → opsFault n i os = (0, 0) := fun os i h => opsFault_zero (opsFault_ok.2 h)
theorem okop_code {N : Nat} {o : Opr} (h : OkOp N o) : opCode N o = 0 := by
  rw [opCode_set h.pre h.add h.del h.apart, inB_iff.2 ⟨h.low, h.high⟩]
  rfl
theorem okt_fault {T : Tsk} {N : Nat} (h : OkT T N) : taskFault T = (0, 0) := by
  have hf := h.facts
  rw [tf5 (by have := h.low; omega) (by rw [hf]; exact h.init) (by rw [hf]; exact h.goal) (by have := h.few; omega)]
  exact opsFault_all _ _ (fun o ho => by rw [hf]; exact okop_code (h.ops o ho))
end Go.Proofs.YtemiecammmbjdaaGreat
namespace Go.Proofs.YtemiecammmbjdaaGreat
set_option linter.unusedVariables false
set_option linter.unusedSimpArgs false
open Go.RowKit
def worksF (T : Tsk) (s l : List Int) : Bool := match execO s (l.map (opAt T.ops)) with
  | some r => subsetB T.goal r
  | none => false
end Go.Proofs.YtemiecammmbjdaaGreat
namespace Go.Proofs.YtemiecammmbjdaaGreat
set_option linter.unusedVariables false
set_option linter.unusedSimpArgs false
open Go.RowKit
set_option maxRecDepth 100000 in
set_option maxHeartbeats 3200000 in
theorem RSteps_ct (n : Nat) (A : Option Addr) (m c : Nat) (l : List Int) (w : World) (h : Rd Enc.int w A m c l) (hn : n ≤ 9223372036854775807) :
    Calls Tryz.prog 25 #[.int .i64 n, .slice A m c] w (Gives w (fault (stepsFault n l).1 (stepsFault n l).2)) := by
  have hsm := h.low
  have hX := Blk.new w 28 [.int .i64 0, .int .i64 0]
  have y0 := hX.cell 0
  have y1 := hX.cell 1
  have y2 := hX.frozen 0
  have y3 := hX.frozen 1
  have y4 := hX.lt
  simp only [List.getElem?_cons_zero, List.getElem?_cons_succ] at y0 y1
  have hbw : Below w.heap.size w (w.alloc (.cells #[.int .i64 0, .int .i64 0] 28)) := (Below.refl _ _).alloc (Nat.le_refl _) _
  have Hbw := hide hbw
  have HX := hide hX
  have Hl := hide h.len
  have H := hide (h.keep hbw)
  have At1 := hide (fun c i W => At_ct c i W)
  clear h hbw hX
  go_enter Tryz.func25, Tryz.ntmps25
  go_upto_region 1 with (fail)
  obtain ⟨W0, hW0⟩ : ∃ W0, W0 = w.alloc (.cells #[.int .i64 0, .int .i64 0] 28) := ⟨_, rfl⟩
  rw [← hW0] at H HX Hbw y0 y1 y2 y3 y4 ⊢
  clear hW0
  obtain ⟨gb, hgb⟩ : ∃ gb, gb = w.heap.size := ⟨_, rfl⟩
  rw [← hgb] at HX y0 y1 y2 y3 y4 ⊢
  have Hgb := hide hgb
  clear hgb
  by_cases h1 : 60 < m
  · have hres : stepsFault n l = (2, -5) := by unfold stepsFault; rw [Hl.out, if_pos h1]
    have Hr := hide hres
    clear hres
    go_wp2_with fail
    refine (At1.out 2 (-5) _).mono ?_
    rintro e w9 ⟨rfl, hb⟩
    unfold fault
    have HX9 := hide (HX.out.keep hb)
    have Hb9 := hide (Hbw.out.trans (hb.mono Hbw.out.size))
    clear hb y0 y1 y2 y3 y4
    have y0 := HX9.out.cell 0
    have y1 := HX9.out.cell 1
    have y2 := HX9.out.frozen 0
    have y3 := HX9.out.frozen 1
    have y4 := HX9.out.lt
    simp only [List.getElem?_cons_zero, List.getElem?_cons_succ] at y0 y1
    go_wp2_with fail
    refine bodyPost_ret (v := fault 2 (-5)) (by simp [results, Tryz.results25, go_sem, fault, y0, y1, y4]) rfl ⟨by rw [Hr.out], below_res2 Hb9.out (by have := Hgb.out; omega) _ _⟩
  · have hres : stepsFault n l = if l.any (outB n) = true then (3, -6) else (0, 0) := by unfold stepsFault; rw [Hl.out, if_neg h1]
    have Hres := hide hres
    clear hres
    go_wp2_with fail
    go_loop [5] (fun i => ∃ k : Nat, k ≤ m ∧ i = .int .i64 k ∧ (l.take k).any (outB n) = false) (fun i => m - (intOf i).toNat)
    case atStart => exact ⟨0, by omega, rfl, by simp⟩
    case round =>
      obtain ⟨k, hk, rfl, hset⟩ := hrel
      have Hset := hide hset
      clear hset
      by_cases hlt : k < m
      · obtain ⟨b, off, x, rfl, hx, hx1, hx2, hcx⟩ := H.out.int hlt
        have hwr : IntKind.i64.wrap ((n : Int) - 1) = (n : Int) - 1 := by rw [IntWalk.i64_in _ (by omega)]
        have hc : ∀ W, Calls Tryz.prog 22 #[.int .i64 x, .int .i64 0, .int .i64 ((n : Int) - 1)] W (Same W (.bool (!outB n x))) := by
          intro W
          have := In_ct x 0 ((n : Int) - 1) W
          rwa [inB_outB] at this
        have Hx := hide hx
        rcases eo : outB n x with _ | _
        · rw [eo] at hc
          have Hc := hide hc
          have Heo := hide eo
          clear hc hx eo
          go_wp2_with (go_at_call 22; refine (Hc.out _).mono ?_; rintro e w1 ⟨rfl, rfl⟩)
          go_round
          case rel => exact ⟨k + 1, by omega, by go_num, anyF_succ Hset.out Hx.out Heo.out⟩
          case measure => simp [intOf]; omega
        · rw [eo] at hc
          have Hc := hide hc
          have hres := Hres.out
          rw [if_pos (List.any_eq_true.2 ⟨x, List.mem_of_getElem? Hx.out, eo⟩)] at hres
          have Hr := hide hres
          clear hc hx eo hres
          go_wp2_with (go_at_call 22; refine (Hc.out _).mono ?_; rintro e w1 ⟨rfl, rfl⟩)
          refine (At1.out 3 (-6) _).mono ?_
          rintro e w9 ⟨rfl, hb⟩
          unfold fault
          have HX9 := hide (HX.out.keep hb)
          have Hb9 := hide (Hbw.out.trans (hb.mono Hbw.out.size))
          clear hb y0 y1 y2 y3 y4
          have y0 := HX9.out.cell 0
          have y1 := HX9.out.cell 1
          have y2 := HX9.out.frozen 0
          have y3 := HX9.out.frozen 1
          have y4 := HX9.out.lt
          simp only [List.getElem?_cons_zero, List.getElem?_cons_succ] at y0 y1
          go_wp2_with fail
          refine bodyPost_ret (v := fault 3 (-6)) (by simp [results, Tryz.results25, go_sem, fault, y0, y1, y4]) rfl ⟨by rw [Hr.out], below_res2 Hb9.out (by have := Hgb.out; omega) _ _⟩
      · obtain rfl : k = m := by omega
        have hres := Hres.out
        have hs := Hset.out
        rw [List.take_of_length_le (by rw [Hl.out]; omega)] at hs
        rw [hs, if_neg (by simp)] at hres
        have Hr := hide hres
        clear hres hs
        go_wp2_with fail
        exact bodyPost_ret (v := fault 0 0) (by simp [results, Tryz.results25, go_sem, fault, y0, y1, y4]) rfl ⟨by rw [Hr.out], below_res2 Hbw.out (by have := Hgb.out; omega) _ _⟩
end Go.Proofs.YtemiecammmbjdaaGreat
namespace Go.Proofs.YtemiecammmbjdaaGreat
set_option linter.unusedVariables false
open Go.RowKit
theorem arc_step {ms : List Mk} {s t : Nat} {c : Int} : arcW ms s t c ↔ ∃ op, (op, c, t) ∈ stepsW 0 ms s := by
  constructor
  · rintro ⟨m, hm, h1, rfl, rfl⟩
    obtain ⟨k, hk⟩ := List.getElem?_of_mem hm
    exact ⟨0 + k, (stepsW_mem _ _ _ _).2 ⟨k, m, hk, h1, rfl⟩⟩
  · rintro ⟨op, hx⟩
    obtain ⟨k, m, hk, h1, h2⟩ := (stepsW_mem _ _ _ _).1 hx
    simp only [Prod.mk.injEq] at h2
    exact ⟨m, List.mem_of_getElem? hk, h1, h2.2.2, h2.2.1⟩
theorem exec_path {T : Tsk} {N : Nat} (hok : OkT T N) : ∀ (os : List Opr) (s r : List Int) (u : Nat) (l : List Nat) (n : Int), (∀ o ∈ os, o ∈ T.ops) → setB N s = true → execO s os = some r → PathW (T.ops.map mkOp) (wordF r) l u n → ∃ l', l'.length = os.length + l.length ∧ PathW (T.ops.map mkOp) (wordF s) l' u ((os.map Opr.cost).sum + n) := by
  intro os
  induction os with
  | nil => intro s r u l n _ _ he h; obtain rfl : s = r := by simpa [execO] using he
           exact ⟨l, by simp, by simpa using h⟩
  | cons o os ih =>
    intro s r u l n ho hs he h
    have hm := ho o List.mem_cons_self
    unfold execO at he
    split at he
    · rename_i hp
      obtain ⟨l', h1, h2⟩ := ih _ r u l n (fun p hp => ho p (List.mem_cons_of_mem _ hp)) (upd_setB hs (hok.ops o hm)) he h
      obtain ⟨op, hx⟩ := arc_step.1 ((arc_iff hok hs).2 ⟨o, hm, hp, rfl, rfl⟩)
      refine ⟨op :: l', by rw [List.length_cons, List.length_cons, h1]; omega, ?_⟩
      have := PathW.cons hx h2
      rw [List.map_cons, List.sum_cons, Int.add_assoc]
      exact this
    · cases he
section
variable {T T' : Tsk} {N : Nat}
end
end Go.Proofs.YtemiecammmbjdaaGreat
namespace Go.Proofs.YtemiecammmbjdaaGreat
set_option linter.unusedVariables false
set_option linter.unusedSimpArgs false
theorem path_exec {T : Tsk} {N : Nat} (hok : OkT T N) {a u : Nat} {l : List Nat} {n : Int} (h : PathW (T.ops.map mkOp) a l u n) : ∀ s, setB N s = true → a = wordF s → ∃ r, execO s ((l.map fun o : Nat => (o : Int)).map (opAt T.ops)) = some r ∧ setB N r = true ∧ u = wordF r ∧ ∀ o ∈ l, o < T.ops.length := by
  induction h with
  | nil => intro s hs e; exact ⟨s, rfl, hs, e, fun o ho => by cases ho⟩
  | cons hx _ ih =>
    rintro s hs rfl
    obtain ⟨k, m, hk, h1, h2⟩ := (stepsW_mem _ _ _ _).1 hx
    simp only [Prod.mk.injEq] at h2
    obtain ⟨rfl, rfl, rfl⟩ := h2
    rw [List.getElem?_map] at hk
    cases ho : T.ops[k]? with
    | none => rw [ho] at hk; cases hk
    | some o =>
      rw [ho] at hk
      obtain rfl := Option.some.inj hk
      have hm := List.mem_of_getElem? ho
      rw [can_word hs (hok.ops o hm)] at h1
      obtain ⟨r, e1, e2, e3, e4⟩ := ih _ (upd_setB hs (hok.ops o hm)) (go_word hs (hok.ops o hm))
      have hop : opAt T.ops ((0 + k : Nat) : Int) = o := by
        unfold opAt
        rw [Int.toNat_natCast, Nat.zero_add, List.getD_eq_getElem?_getD, ho]
        rfl
      refine ⟨r, ?_, e2, e3, fun q hq => ?_⟩
      · rw [List.map_cons, List.map_cons, hop]
        show (if subsetB o.pre s = true then execO (updF s o.add o.del) _ else none) = some r
        rw [if_pos h1]
        exact e1
      · rcases List.mem_cons.1 hq with rfl | hq
        · have := (List.getElem?_eq_some_iff.1 ho).1
          omega
        · exact e4 q hq
/-- the answer of the breadth-first search is a plan -/
theorem fewest_plan {T : Tsk} {N : Nat} (hok : OkT T N) {l : List Nat} (h : FewestOf (T.ops.map mkOp) (wordF T.init) (goalW (wordF T.goal)) l) : (∀ x ∈ (l.map fun o : Nat => (o : Int)), 0 ≤ x ∧ x < T.ops.length) ∧ worksF T T.init (l.map fun o : Nat => (o : Int)) = true := by
  obtain ⟨u, n, hp, hg, _⟩ := h
  obtain ⟨r, h1, h2, rfl, h4⟩ := path_exec hok hp T.init hok.init rfl
  refine ⟨fun x hx => ?_, ?_⟩
  · obtain ⟨o, ho, rfl⟩ := List.mem_map.1 hx
    have := h4 o ho
    omega
  · unfold worksF
    rw [h1]
    simp only
    rw [← goal_word h2 hok.goal]
    exact hg
theorem plan_path {T : Tsk} {N : Nat} (hok : OkT T N) {l : List Int} (hr : ∀ x ∈ l, 0 ≤ x ∧ x < T.ops.length) (h : worksF T T.init l = true) : ∃ l' u n, l'.length = l.length ∧ PathW (T.ops.map mkOp) (wordF T.init) l' u n ∧ goalW (wordF T.goal) u = true := by
  unfold worksF at h
  cases he : execO T.init (l.map (opAt T.ops)) with
  | none => rw [he] at h; cases h
  | some r =>
    rw [he] at h
    simp only at h
    have hm : ∀ o ∈ l.map (opAt T.ops), o ∈ T.ops := fun o ho => by
      obtain ⟨x, hx, rfl⟩ := List.mem_map.1 ho
      exact opAt_mem (hr x hx).1 (hr x hx).2
    have hset : ∀ (os : List Opr) (s r : List Int), (∀ o ∈ os, o ∈ T.ops) → setB N s = true → execO s os = some r → setB N r = true := by
      intro os
      induction os with
      | nil => intro s r _ hs he; obtain rfl : s = r := by simpa [execO] using he
               exact hs
      | cons o os ih =>
        intro s r ho hs he
        unfold execO at he
        split at he
        · exact ih _ r (fun p hp => ho p (List.mem_cons_of_mem _ hp)) (upd_setB hs (hok.ops o (ho o List.mem_cons_self))) he
        · cases he
    obtain ⟨l', h1, h2⟩ := exec_path hok _ T.init r (wordF r) [] 0 hm hok.init he .nil
    exact ⟨l', _, _, by simpa using h1, h2, by rw [goal_word (hset _ _ _ hm hok.init he) hok.goal]; exact h⟩
/-- no plan: none at any number of steps -/
theorem noway_plan {T : Tsk} {N : Nat} (hok : OkT T N) (h : NoWay (T.ops.map mkOp) (wordF T.init) (goalW (wordF T.goal))) {l : List Int} (hr : ∀ x ∈ l, 0 ≤ x ∧ x < T.ops.length) (hw : worksF T T.init l = true) : False := by
  obtain ⟨l', u, n, _, hp, hg⟩ := plan_path hok hr hw
  exact h l' u n hp hg
theorem fewest_least {T : Tsk} {N : Nat} (hok : OkT T N) {q : List Nat} (h : FewestOf (T.ops.map mkOp) (wordF T.init) (goalW (wordF T.goal)) q) {l : List Int} (hr : ∀ x ∈ l, 0 ≤ x ∧ x < T.ops.length) (hw : worksF T T.init l = true) : q.length ≤ l.length := by
  obtain ⟨_, _, _, _, h3⟩ := h
  obtain ⟨l', u, n, h1, hp, hg⟩ := plan_path hok hr hw
  have := h3 l' u n hp hg
  omega
end Go.Proofs.YtemiecammmbjdaaGreat
