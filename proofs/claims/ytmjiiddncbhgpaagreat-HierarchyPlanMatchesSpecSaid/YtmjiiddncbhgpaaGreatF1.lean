/- The law HierarchyPlanMatchesSpec of the package hierarchy holds, without a condition., part 1: Base Ref1. -/
import Derived.BigQuiet
import Derived.Deep.AppendLies
import Derived.Deep.Draws
import Derived.Deep.Fields
import Derived.Deep.LoopGhost
import Derived.Deep.QuietTactic
import Derived.Deep.Slices
import Derived.Laws.AppendOwnNone
import Derived.Laws.OwnMore
import Derived.Lib.Hide
import Derived.Test.YtmjiiddncbhgpaaGreatProg
import Derived.WalkKit
namespace Go.Proofs.YtmjiiddncbhgpaaGreat
open Go.RowKit
theorem ret_int {k : IntKind} {a b : Int} (h : a = b) : Ending.returned (.int k a) = .returned (.int k b) := by rw [h]
theorem ret_bool {a b : Bool} (h : a = b) : Ending.returned (.bool a) = .returned (.bool b) := by rw [h]
theorem add_plain (b off n : Nat) : (⟨b, off, none⟩ : Addr).add n = ⟨b, off + n, none⟩ := by unfold Addr.add; split <;> simp_all
theorem hide {p : Prop} (h : p) : Hid p := h

theorem below_drewN {B : Nat} {a w : World} (h : Below B a w) (n : Nat) : Below B a (w.drewN n) := ⟨h.os, h.tape, h.output, h.size, h.block⟩

/-- the world has only drawn -/
def Qt (w w' : World) : Prop := ∃ d, w' = w.drewN d
theorem Qt.refl (w : World) : Qt w w := ⟨0, rfl⟩
theorem Qt.drewN {w w' : World} (h : Qt w w') (n : Nat) : Qt w (w'.drewN n) := by
  obtain ⟨d, rfl⟩ := h
  exact ⟨d + n, World.drewN_drewN w d n⟩
theorem Qt.drew {w w' : World} (h : Qt w w') : Qt w w'.drew := h.drewN 1
theorem Qt.trans {a b c : World} (h : Qt a b) (k : Qt b c) : Qt a c := by
  obtain ⟨d, rfl⟩ := k
  exact h.drewN d
theorem Qt.heap {w w' : World} (h : Qt w w') : w'.heap = w.heap := by
  obtain ⟨d, rfl⟩ := h
  rfl
theorem Qt.below {w w' : World} (h : Qt w w') (B : Nat) : Below B w w' := by
  obtain ⟨d, rfl⟩ := h
  exact below_drewN (Below.refl B w) d

/-- returned v, and the world has only drawn -/
def Quiet (w : World) (v : Value) (e : Ending) (w' : World) : Prop := e = .returned v ∧ Qt w w'
/-- returned v, and all that was there is as it was -/
def Gives (w : World) (v : Value) (e : Ending) (w' : World) : Prop := e = .returned v ∧ Below w.heap.size w w'
/-- returned v, and the world is the very same -/
def Same (w : World) (v : Value) (e : Ending) (w' : World) : Prop := e = .returned v ∧ w = w'
theorem Same.quiet {w : World} {v : Value} {e : Ending} {w' : World} (h : Same w v e w') : Quiet w v e w' := ⟨h.1, by rw [← h.2]; exact Qt.refl _⟩
theorem Quiet.gives {w : World} {v : Value} {e : Ending} {w' : World} (h : Quiet w v e w') : Gives w v e w' := ⟨h.1, h.2.below _⟩
theorem quiet_call {P : Program} {f : FuncId} {args : Array Value} {w : World} {n : Nat} {v : Value}
    (h : Calls P f args (w.drewN n) (Quiet (w.drewN n) v)) : Calls P f args (w.drewN n) fun e w'' => e = .returned v ∧ ∃ m, w'' = w.drewN m :=
  h.mono fun _ _ ⟨he, m, hm⟩ => ⟨he, n + m, by rw [hm, World.drewN_drewN]⟩

theorem same_call {P : Program} {f : FuncId} {args : Array Value} {w : World} {n : Nat} {v : Value}
    (h : Calls P f args (w.drewN n) (Same (w.drewN n) v)) : Calls P f args (w.drewN n) fun e w'' => e = .returned v ∧ ∃ m, w'' = w.drewN m := quiet_call (h.mono fun _ _ h => h.quiet)

/-- what a run of cells reads as -/
structure Enc (α : Type) where
  size : Nat
  ok : World → List Value → α → Prop
  len : ∀ {w vs a}, ok w vs a → vs.length = size
  keep : ∀ {w w' vs a}, ok w vs a → Below w.heap.size w w' → ok w' vs a

/-- a slice (its address, length and capacity) that reads as a list -/
structure Rd {α : Type} (E : Enc α) (w : World) (A : Option Addr) (n c : Nat) (xs : List α) : Prop where
  len : xs.length = n
  cap : n ≤ c
  small : c ≤ 9223372036854775807
  nil : A = none → c = 0
  at_ : 0 < n → ∃ b off, A = some ⟨b, off, none⟩ ∧ ∀ j x, xs[j]? = some x → ∃ vs, E.ok w vs x ∧ ∀ i v, vs[i]? = some v → w.cell? ⟨b, off + j * E.size + i, none⟩ = some v

theorem Rd.keep {α : Type} {E : Enc α} {w w' : World} {A : Option Addr} {n c : Nat} {xs : List α} (h : Rd E w A n c xs) (hb : Below w.heap.size w w') : Rd E w' A n c xs :=
  ⟨h.len, h.cap, h.small, h.nil, fun hn => by
    obtain ⟨b, off, e, hc⟩ := h.at_ hn
    refine ⟨b, off, e, fun j x hj => ?_⟩
    obtain ⟨vs, ho, hv⟩ := hc j x hj
    exact ⟨vs, E.keep ho hb, fun i v hi => (hb.cell (World.block_lt_of_cell? w _ (hv i v hi))).trans (hv i v hi)⟩⟩

theorem Rd.qt {α : Type} {E : Enc α} {w w' : World} {A : Option Addr} {n c : Nat} {xs : List α} (h : Rd E w A n c xs) (hq : Qt w w') : Rd E w' A n c xs := h.keep (hq.below _)

theorem Rd.nil_ {α : Type} (E : Enc α) (w : World) : Rd E w none 0 0 [] := ⟨rfl, Nat.le_refl _, by omega, fun _ => rfl, fun h => absurd h (by omega)⟩
theorem Rd.zero {α : Type} (E : Enc α) (w : World) (A : Option Addr) (c : Nat) (hc : c ≤ 9223372036854775807) (hA : A = none → c = 0) : Rd E w A 0 c [] := ⟨rfl, Nat.zero_le _, hc, hA, fun h => absurd h (by omega)⟩
theorem Rd.low {α : Type} {E : Enc α} {w : World} {A : Option Addr} {n c : Nat} {xs : List α} (h : Rd E w A n c xs) : n ≤ 9223372036854775807 := Nat.le_trans h.cap h.small

def Enc.int : Enc Int where
  size := 1
  ok := fun _ vs x => vs = [.int .i64 x] ∧ -9223372036854775808 ≤ x ∧ x ≤ 9223372036854775807
  len := fun h => by rw [h.1]; rfl
  keep := fun h _ => h
def Enc.bool : Enc Bool where
  size := 1
  ok := fun _ vs x => vs = [.bool x]
  len := fun h => by rw [h]; rfl
  keep := fun h _ => h
def Enc.sl {α : Type} (E : Enc α) : Enc (List α) where
  size := 1
  ok := fun w vs xs => ∃ A n c, vs = [.slice A n c] ∧ Rd E w A n c xs
  len := fun ⟨_, _, _, h, _⟩ => by rw [h]; rfl
  keep := fun ⟨A, n, c, h, hr⟩ hb => ⟨A, n, c, h, hr.keep hb⟩
def Enc.pair {α β : Type} (E : Enc α) (F : Enc β) : Enc (α × β) where
  size := E.size + F.size
  ok := fun w vs x => ∃ us vs', vs = us ++ vs' ∧ E.ok w us x.1 ∧ F.ok w vs' x.2
  len := fun ⟨_, _, h, h1, h2⟩ => by rw [h, List.length_append, E.len h1, F.len h2]
  keep := fun ⟨us, vs', h, h1, h2⟩ hb => ⟨us, vs', h, E.keep h1 hb, F.keep h2 hb⟩
section
variable {w : World} {A : Option Addr} {n c k : Nat}
theorem drop_cons {α : Type} {xs : List α} {x : α} (h : xs[k]? = some x) : xs.drop k = x :: xs.drop (k + 1) := by
  obtain ⟨hk, hx⟩ := List.getElem?_eq_some_iff.1 h
  rw [← hx]
  exact List.drop_eq_getElem_cons hk
theorem Rd.get {α : Type} {E : Enc α} {xs : List α} (h : Rd E w A n c xs) (hk : k < n) : ∃ b off x vs, A = some ⟨b, off, none⟩ ∧ xs[k]? = some x ∧ E.ok w vs x ∧ ∀ i v, vs[i]? = some v → w.cell? ⟨b, off + k * E.size + i, none⟩ = some v := by
  obtain ⟨b, off, e, hc⟩ := h.at_ (by omega)
  have hx : xs[k]? = some (xs[k]'(by rw [h.len]; exact hk)) := List.getElem?_eq_getElem _
  obtain ⟨vs, ho, hv⟩ := hc k _ hx
  exact ⟨b, off, _, vs, e, hx, ho, hv⟩
theorem Rd.int {xs : List Int} (h : Rd Enc.int w A n c xs) (hk : k < n) :
    ∃ b off x, A = some ⟨b, off, none⟩ ∧ xs[k]? = some x ∧ -9223372036854775808 ≤ x ∧ x ≤ 9223372036854775807 ∧ w.cell? ⟨b, off + k, none⟩ = some (.int .i64 x) := by
  obtain ⟨b, off, x, vs, e, hx, ⟨hvs, h1, h2⟩, hv⟩ := h.get hk
  subst hvs
  have := hv 0 _ rfl
  simp only [Enc.int, Nat.mul_one, Nat.add_zero] at this
  exact ⟨b, off, x, e, hx, h1, h2, this⟩
theorem Rd.bool {xs : List Bool} (h : Rd Enc.bool w A n c xs) (hk : k < n) :
    ∃ b off x, A = some ⟨b, off, none⟩ ∧ xs[k]? = some x ∧ w.cell? ⟨b, off + k, none⟩ = some (.bool x) := by
  obtain ⟨b, off, x, vs, e, hx, hvs, hv⟩ := h.get hk
  have hvs : vs = [.bool x] := hvs
  subst hvs
  have := hv 0 _ rfl
  simp only [Enc.bool, Nat.mul_one, Nat.add_zero] at this
  exact ⟨b, off, x, e, hx, this⟩
theorem Rd.sl {α : Type} {E : Enc α} {xs : List (List α)} (h : Rd (Enc.sl E) w A n c xs) (hk : k < n) :
    ∃ b off x A' n' c', A = some ⟨b, off, none⟩ ∧ xs[k]? = some x ∧ w.cell? ⟨b, off + k, none⟩ = some (.slice A' n' c') ∧ Rd E w A' n' c' x := by
  obtain ⟨b, off, x, vs, e, hx, ⟨A', n', c', hvs, hr⟩, hv⟩ := h.get hk
  subst hvs
  have := hv 0 _ rfl
  simp only [Enc.sl, Nat.mul_one, Nat.add_zero] at this
  exact ⟨b, off, x, A', n', c', e, hx, this, hr⟩
end
/-- a cut 's[lo:]' as the model has it -/
theorem Rd.from_ {α : Type} {E : Enc α} {w : World} {A : Option Addr} {n c k : Nat} {xs : List α} (h : Rd E w A n c xs) (hk : k ≤ n) :
    Rd E w (if c = k then A else A.map (·.add (k * E.size))) (n - k) (c - k) (xs.drop k) := by
  refine ⟨by rw [List.length_drop, h.len], by have := h.cap; omega, by have := h.small; omega, fun hA => ?_, fun hn => ?_⟩
  · split at hA
    · omega
    · have := h.nil (by simpa using hA)
      omega
  obtain ⟨b, off, rfl, hc⟩ := h.at_ (by omega)
  rw [if_neg (by have := h.cap; omega)]
  refine ⟨b, off + k * E.size, by simp [add_plain], fun j x hj => ?_⟩
  rw [List.getElem?_drop] at hj
  obtain ⟨vs, ho, hv⟩ := hc _ x hj
  refine ⟨vs, ho, fun i v hi => ?_⟩
  rw [← hv i v hi, Nat.add_mul]
  congr 2
  omega
/-- a cut 's[:hi]' -/
theorem Rd.upto {α : Type} {E : Enc α} {w : World} {A : Option Addr} {n c k : Nat} {xs : List α} (h : Rd E w A n c xs) (hk : k ≤ n) : Rd E w A k c (xs.take k) := by
  refine ⟨by rw [List.length_take, h.len]; omega, by have := h.cap; omega, h.small, h.nil, fun hn => ?_⟩
  obtain ⟨b, off, rfl, hc⟩ := h.at_ (by omega)
  refine ⟨b, off, rfl, fun j x hj => ?_⟩
  rw [List.getElem?_take] at hj
  split at hj
  · exact hc j x hj
  · cases hj

/-- block g is, whole, these cells, none of them frozen -/
def Blk (t : TypeId) (w : World) (g : Nat) (cs : List Value) : Prop := w.heap[g]? = some (.cells cs.toArray t (0, 0))
section
variable {t : TypeId} {w w' : World} {g : Nat} {cs : List Value}
theorem Blk.lt (h : Blk t w g cs) : g < w.heap.size := by
  rcases Nat.lt_or_ge g w.heap.size with h1 | h1
  · exact h1
  · unfold Blk at h
    rw [Array.getElem?_eq_none h1] at h
    cases h
theorem Blk.cell (h : Blk t w g cs) (i : Nat) : w.cell? ⟨g, i, none⟩ = cs[i]? := by
  unfold Blk at h
  simp [World.cell?, h]
theorem Blk.frozen (h : Blk t w g cs) (i : Nat) : w.frozen? ⟨g, i, none⟩ = false := by
  unfold Blk at h
  simp [World.frozen?, h]
theorem Blk.set (h : Blk t w g cs) (i : Nat) (u : Value) : Blk t (w.setCell ⟨g, i, none⟩ u) g (cs.set i u) := by
  unfold Blk at h ⊢
  simp [World.setCell, Array.getElem?_modify, h]
theorem Blk.qt (h : Blk t w g cs) (hq : Qt w w') : Blk t w' g cs := by
  unfold Blk at *
  rw [hq.heap]
  exact h
theorem Blk.below {B : Nat} (h : Blk t w g cs) (hb : Below B w w') (hg : g < B) : Blk t w' g cs := (hb.block g hg).trans h
theorem Blk.keep (h : Blk t w g cs) (hb : Below w.heap.size w w') : Blk t w' g cs := h.below hb h.lt
theorem Blk.grown {row : Option Nat} (h : Blk t w g cs) (hb : w.grownBy w' row) (hg : some g ≠ row) : Blk t w' g cs := (hb.block g h.lt hg).trans h
theorem Blk.new (w : World) (t : TypeId) (cs : List Value) : Blk t (w.alloc (.cells cs.toArray t)) w.heap.size cs := heap_alloc_new w _
theorem Blk.alloc (h : Blk t w g cs) (o : Obj) : Blk t (w.alloc o) g cs := (Below.heap_alloc w o g h.lt).trans h
theorem Blk.far (h : Blk t w g cs) {p : Addr} (hp : g ≠ p.block) (u : Value) : Blk t (w.setCell p u) g cs := (Below.heap_setCell w p u g hp).trans h
end
theorem below_two (w : World) (o o' : Obj) : Below w.heap.size w ((w.alloc o).alloc o') := ((Below.refl _ _).alloc (Nat.le_refl _) o).alloc (by simp) o'
theorem below_res2 {B : Nat} {w w1 : World} (h : Below B w w1) {g : Nat} (hg : B ≤ g) (u1 u2 : Value) : Below B w ((w1.setCell ⟨g, 0, none⟩ u1).setCell ⟨g, 1, none⟩ u2) := (h.setCell hg _).setCell hg _
/-- behind a call: all old cells and marks read as before, as rules of the walk -/
theorem olds {W w1 : World} (hb : Below W.heap.size W w1) : (∀ b o, b < W.heap.size → w1.cell? ⟨b, o, none⟩ = W.cell? ⟨b, o, none⟩) ∧ (∀ b o, b < W.heap.size → w1.frozen? ⟨b, o, none⟩ = W.frozen? ⟨b, o, none⟩) :=
  ⟨fun b o h => hb.cell (p := ⟨b, o, none⟩) h, fun b o h => hb.frozen (p := ⟨b, o, none⟩) h⟩
/-- a boxed parameter and the result's variable, as a function with both begins -/
theorem boxed2 (w : World) (t t' : TypeId) (cs cs' : List Value) : Blk t ((w.alloc (.cells cs.toArray t)).alloc (.cells cs'.toArray t')) w.heap.size cs ∧
    Blk t' ((w.alloc (.cells cs.toArray t)).alloc (.cells cs'.toArray t')) (w.heap.size + 1) cs' ∧ Below w.heap.size w ((w.alloc (.cells cs.toArray t)).alloc (.cells cs'.toArray t')) :=
  ⟨(Blk.new w t cs).alloc _, by have := Blk.new (w.alloc (.cells cs.toArray t)) t' cs'; simpa using this, ((Below.refl _ _).alloc (Nat.le_refl _) _).alloc (by simp) _⟩

section
variable {t : TypeId} {w w' : World} {g : Nat} {xs : List Int}
end
theorem only_set (w : World) (g i : Nat) (u : Value) : w.grownBy (w.setCell ⟨g, i, none⟩ u) (some g) :=
  ⟨rfl, rfl, rfl, by simp [World.setCell], fun k _ hn => Below.heap_setCell w ⟨g, i, none⟩ u k (fun e => hn (by rw [e]))⟩
/-- a reading all of whose blocks lie below B -/
theorem Rd.under {α : Type} {E : Enc α} {w w1 w2 : World} {A : Option Addr} {n c : Nat} {xs : List α} (h : Rd E w A n c xs) (hb : Below w.heap.size w w1) (hb2 : Below w.heap.size w1 w2) : Rd E w2 A n c xs := h.keep (hb.trans hb2)

section
variable {t t' : TypeId} {w w' : World} {g : Nat} {x0 x1 y0 y1 : Value}
end
/-- an owned row of ints reads as a list -/
theorem own_rd {w : World} {base : Nat} {t : TypeId} {A : Option Addr} {n c : Nat} {l : List Int} (h : w.ownsRow base t 1 (.slice A n c) n (l.map (Value.int .i64))) (hl : l.length = n) (hr : ∀ x ∈ l, -9223372036854775808 ≤ x ∧ x ≤ 9223372036854775807) : Rd Enc.int w A n c l := by
  rcases h.2 with ⟨e, rfl⟩ | ⟨g, cap, cur, e, hb, hg, hnc, hcm, hcs, htake⟩
  · injection e with e1 e2 e3
    subst e1 e3
    obtain rfl : l = [] := List.eq_nil_of_length_eq_zero hl
    exact Rd.nil_ _ _
  · injection e with e1 e2 e3
    subst e1 e3
    refine ⟨hl, hnc, by unfold maxLen at hcm; omega, fun h => (by cases h), fun _ => ⟨g, 0, rfl, fun j x hj => ⟨[.int .i64 x], ⟨rfl, hr x (List.mem_of_getElem? hj)⟩, fun i v hi => ?_⟩⟩⟩
    cases i with
    | succ i => simp at hi
    | zero =>
      simp at hi
      subst hi
      have := h.cells (g := g) rfl j (.int .i64 x) (by rw [List.getElem?_map, hj]; rfl)
      rw [add_plain] at this
      simpa [Enc.int] using this
/-- all of a slice of ints onto a row of the call's own: 'out = append(out, xs...)' -/
theorem wpList_append_rd {P : Program} {w : World} {ops : Array Oper} {rest : List Oper} {o : Oper} {a : Act} {Q : Exit → Act → World → Prop} (hgd : o.guard = none) (s x : Operand) (t : TypeId)
    (ho : o.op = .call { callee := .builtin .append, args := #[s, x], argTypes := #[t, t] })
    (base : Nat) (e : TypeId) (i : TypeInfo) (z : Value) (bytes : Nat) (ht : P.underlying t = some (.slice e)) (hi : P.info? e = some i) (hz : i.zero = some z)
    (hsize : i.size = 1) (hby : i.bytes = bytes) (hzs : z.cells.size = 1)
    (v : Value) (n : Nat) (xs : List Value) (hs : a.eval s = v) (hown : w.ownsRow base e 1 v n xs)
    (A : Option Addr) (m c : Nat) (ys : List Int) (hr : Rd Enc.int w A m c ys) (hx : a.eval x = .slice A m c)
    (h63 : n + m ≤ 1000000000000) (hbytes : (n + m) * bytes ≤ 140737488355328) (hbase : base ≤ w.heap.size)
    (h : ∀ O oc w', w'.ownsRow base e 1 (.slice O (n + m) oc) (n + m) (xs ++ ys.map (Value.int .i64)) → Below base w w' → wpList P ops Q rest (a.put o.dst (.slice O (n + m) oc)) w') :
    wpList P ops Q (o :: rest) a w := by
  have shape : ∀ {w' : World} {v' : Value} {k : Nat} {l : List Value}, w'.ownsRow base e 1 v' k l → ∃ O oc, v' = .slice O k oc := by
    intro w' v' k l h'
    rcases h'.2 with ⟨h0, h1⟩ | ⟨g, cap, cur, e', _⟩
    · exact ⟨_, _, by rw [h0, h1]⟩
    · exact ⟨_, _, e'⟩
  cases A with
  | none =>
    have hc := hr.nil rfl
    have hm := hr.cap
    obtain rfl : c = 0 := hc
    obtain rfl : m = 0 := by omega
    obtain rfl : ys = [] := List.eq_nil_of_length_eq_zero hr.len
    obtain ⟨O, oc, rfl⟩ := shape hown
    refine wpList_append_own_none hgd s x t ho base e i 1 ht hi _ n xs hs hown hx ?_
    exact h O oc w (by simpa using hown) (Below.refl _ _)
  | some ad =>
    refine wpList_append_own _ hgd s x t ho base e i z 1 bytes ht hi hz hsize hby hzs (by omega) v n xs hs hown ad m c (ys.map (Value.int .i64)) hx (by rw [List.length_map, hr.len]; omega) ?_ (by intro u hu; obtain ⟨y, _, rfl⟩ := List.mem_map.1 hu; rfl) (by unfold maxLen; omega) hbytes hbase ?_
    · intro j u hj
      rw [List.getElem?_map] at hj
      cases hy : ys[j]? with
      | none => rw [hy] at hj; cases hj
      | some y =>
        rw [hy] at hj
        injection hj with hj
        subst hj
        obtain ⟨b, off, y', e1, hy', _, _, hc'⟩ := hr.int (show j < m by rw [← hr.len]; exact (List.getElem?_eq_some_iff.1 hy).1)
        injection e1 with e1
        subst e1
        rw [add_plain, hc', Option.some.inj (hy'.symm.trans hy)]
    · intro v' w' hown' hg _
      obtain ⟨O, oc, rfl⟩ := shape hown'
      refine h O oc w' hown' ?_
      exact (Below.refl base w).grown hg hbase (fun k hk => (hown.lt k hk).1)

/-- 's[q:]' under one name -/
theorem run_from {P : Program} (t : TypeId) (i : TypeInfo) (ht : P.underlying t = some (.slice (P.elem t))) (hi : P.info? (P.elem t) = some i) (A : Option Addr) (n c q : Nat) (hq : q ≤ n) (w : World) :
    (Instr.sliceAt t (.slice A n c) (some (.int .i64 (q : Int))) none none).run P w = .ok (.slice (if c = q then A else A.map (·.add (q * i.size))) (n - q) (c - q)) w := by
  rw [run_sliceAt_slice (h := ht), run_slice_l (ht := ht) (h0 := by omega) (h1 := by omega)]
  simp [sizeOf, typeInfo, hi, sliced, Result.andThen]

/-- readings of arguments: from the form's own word to Enc -/
def Opens {α : Type} (E : Enc α) (P : Program) (t : TypeId) : Prop :=
  P.cellsOf t = E.size ∧ ∀ (H : Type) (enc : TypeId × Value → H) (w : World) (base : Nat) (spare : Nat → Bool) (held : Bool) (fuel : Nat) (cs : List Value) (x : DataW H × List MemPlace),
    DataW.trod enc P w base spare held fuel t cs = some x → ∃ a, E.ok w cs a

section
open Go.ChangeShapes Go.WideShapes Go.Deep
variable {P : Program}
theorem opens_int {t : TypeId} (ht : P.underlying t = some (.int .i64)) (hc : P.cellsOf t = 1) : Opens Enc.int P t :=
  ⟨hc, fun H enc w base spare held fuel cs x h => by
    obtain ⟨n, rfl, _, hw⟩ := DataW.trod_int ht h
    simp [Lit.wf, IntKind.min, IntKind.max, IntKind.bits, IntKind.signed] at hw
    exact ⟨n, rfl, by omega, by omega⟩⟩
theorem list_of_lt {α : Type} {n : Nat} {p : Nat → α → Prop} (h : ∀ i, i < n → ∃ a, p i a) : ∃ xs : List α, xs.length = n ∧ ∀ i x, xs[i]? = some x → p i x := by
  induction n with
  | zero => exact ⟨[], rfl, fun i x hx => by simp at hx⟩
  | succ l ih =>
    obtain ⟨xs, hxl, hxs⟩ := ih (fun i hi => h i (by omega))
    obtain ⟨a', ha'⟩ := h l (by omega)
    refine ⟨xs ++ [a'], by simp [hxl], fun i x hx => ?_⟩
    by_cases hil : i < xs.length
    · rw [List.getElem?_append_left hil] at hx
      exact hxs i x hx
    · rw [List.getElem?_append_right (by omega)] at hx
      have h1 : i - xs.length = 0 := by
        have := (List.getElem?_eq_some_iff.1 hx).1
        simpa using this
      rw [h1] at hx
      have hx : a' = x := by simpa using hx
      subst hx
      obtain rfl : i = l := by omega
      exact ha'
theorem opens_sl {α : Type} {E : Enc α} {t e : TypeId} (ht : P.underlying t = some (.slice e)) (hc : P.cellsOf t = 1) (he : Opens E P e) (hE : 0 < E.size) : Opens (Enc.sl E) P t :=
  ⟨hc, fun H enc w base spare held fuel cs x h => by
    rcases open_slice ht h with ⟨rfl, _⟩ | ⟨a, len, cap, m, n, D, Pl, rfl, _, hl, hm, hmm, _, hi⟩
    · exact ⟨[], none, 0, 0, rfl, Rd.nil_ _ _⟩
    · have hml : len ≤ m := by rw [hmm]; split <;> omega
      have hel : ∀ i, i < len → ∃ a' : α, ∃ vs, E.ok w vs a' ∧ ∀ j v, vs[j]? = some v → w.cell? ((a.add (i * E.size)).add j) = some v := by
        intro i hil
        obtain ⟨cs', hcs, htr⟩ := hi i (by omega)
        obtain ⟨a', ha⟩ := he.2 H enc w base spare held n cs' _ htr
        rw [he.1] at hcs
        obtain ⟨_, hcl, hat⟩ := World.cells?_some hcs
        refine ⟨a', cs', ha, fun j v hj => ?_⟩
        rw [hat j (by rw [← E.len ha]; exact (List.getElem?_eq_some_iff.1 hj).1), hj]
      have hex := list_of_lt hel
      obtain ⟨xs, hxl, hxs⟩ := hex
      refine ⟨xs, some a, len, cap, rfl, hxl, hl, by unfold maxLen at hm; omega, fun h => (by cases h), fun hn => ?_⟩
      obtain ⟨b, off, spot⟩ := a
      have hsp : spot = none := by
        have h0 : xs[0]? = some (xs[0]'(by omega)) := List.getElem?_eq_getElem _
        obtain ⟨vs, hok, hv⟩ := hxs 0 _ h0
        have h1 := hv 0 (vs[0]'(by rw [E.len hok]; exact hE)) (List.getElem?_eq_getElem _)
        simp only [Nat.zero_mul, Addr.add, if_true, World.cell?] at h1
        cases spot with
        | none => rfl
        | some s => simp at h1; split at h1 <;> simp at h1
      subst hsp
      refine ⟨b, off, rfl, fun j x hj => ?_⟩
      obtain ⟨vs, hok, hv⟩ := hxs j x hj
      exact ⟨vs, hok, fun i v hi => by have := hv i v hi; rwa [add_plain, add_plain] at this⟩⟩
end
end Go.Proofs.YtmjiiddncbhgpaaGreat
namespace Go.Proofs.YtmjiiddncbhgpaaGreat
open Go.RowKit
def fault (c i : Int) : Value := .agg #[.int .i64 c, .int .i64 i]

theorem At_ct (c i : Int) (w : World) : Calls Tryz.prog 13 #[.int .i64 c, .int .i64 i] w (Gives w (fault c i)) := by
  go_enter Tryz.func13, Tryz.ntmps13
  go_wp2
  exact bodyPost_ret (v := .agg #[.int .i64 c, .int .i64 i]) (by simp [results, Tryz.results13, go_sem]) rfl ⟨rfl, (Below.refl _ _).alloc (Nat.le_refl _) _⟩

def inB (n lo hi : Int) : Bool := decide (lo ≤ n) && decide (n ≤ hi)
theorem inB_iff {n lo hi : Int} : inB n lo hi = true ↔ lo ≤ n ∧ n ≤ hi := by simp [inB]
theorem inB_no {n lo hi : Int} : inB n lo hi = false ↔ n < lo ∨ hi < n := by
  rw [← Bool.not_eq_true, inB_iff]; omega
theorem In_ct (n lo hi : Int) (w : World) : Calls Tryz.prog 24 #[.int .i64 n, .int .i64 lo, .int .i64 hi] w (Same w (.bool (inB n lo hi))) := by
  by_cases h1 : lo ≤ n
  · go_enter Tryz.func24, Tryz.ntmps24
    go_wp2
    go_ret
    exact ⟨ret_bool (by simp [inB, h1]), rfl⟩
  · have h2 : n < lo := by omega
    clear h1
    go_enter Tryz.func24, Tryz.ntmps24
    go_wp2
    go_ret
    exact ⟨ret_bool (by rw [eq_comm, inB_no]; omega), rfl⟩

def hasB (l : List Int) (n : Int) : Bool := l.contains n
theorem hasB_cons (x : Int) (l : List Int) (n : Int) : hasB (x :: l) n = ((x == n) || hasB l n) := by
  simp only [hasB, List.contains_cons]
  rw [BEq.comm]
theorem hasB_iff {l : List Int} {n : Int} : hasB l n = true ↔ n ∈ l := by simp [hasB]
theorem Has_ct (A : Option Addr) (n c : Nat) (xs : List Int) (y : Int) (w : World) (h : Rd Enc.int w A n c xs) :
    Calls Tryz.prog 58 #[.slice A n c, .int .i64 y] w (Same w (.bool (hasB xs y))) := by
  have hsm := h.low
  go_enter Tryz.func58, Tryz.ntmps58
  go_wp2
  go_loop [5] (fun i => ∃ k : Nat, k ≤ n ∧ i = .int .i64 k ∧ hasB xs y = hasB (xs.drop k) y) (fun i => n - (intOf i).toNat)
  case atStart => exact ⟨0, by omega, rfl, by simp⟩
  case round =>
    obtain ⟨k, hk, rfl, hrel⟩ := hrel
    have Hrel := Lib.hid hrel
    clear hrel
    by_cases hlt : k < n
    · obtain ⟨b, off, x, rfl, hx, hx1, hx2, hcx⟩ := h.int hlt
      have Hd := Lib.hid (drop_cons hx)
      clear hx
      go_wp2
      · go_ret
        refine ⟨ret_bool ?_, rfl⟩
        rw [Hrel.out, Hd.out, hasB_cons]
        simp [*]
      · go_round
        case rel =>
          refine ⟨k + 1, by omega, by go_num, ?_⟩
          rw [Hrel.out, Hd.out, hasB_cons]
          simp [*]
        case measure => simp [intOf]; omega
    · go_wp2
      go_ret
      refine ⟨ret_bool ?_, rfl⟩
      rw [Hrel.out, List.drop_of_length_le (by rw [h.len]; omega)]
      rfl

def intsB (a b : List Int) : Bool := decide (a = b)
theorem take_eq_step {α : Type} {a b : List α} {k : Nat} {x y : α} (h : a.take k = b.take k) (hx : a[k]? = some x) (hy : b[k]? = some y) (e : x = y) : a.take (k + 1) = b.take (k + 1) := by
  rw [List.take_add_one, List.take_add_one, h, hx, hy, e]
theorem Ints_ct (A B : Option Addr) (n c m d : Nat) (xs ys : List Int) (w : World) (h : Rd Enc.int w A n c xs) (g : Rd Enc.int w B m d ys) :
    Calls Tryz.prog 62 #[.slice A n c, .slice B m d] w (Quiet w (.bool (intsB xs ys))) := by
  have hsm := h.low
  have gsm := g.low
  by_cases hnm : n = m
  · subst hnm
    go_enter Tryz.func62, Tryz.ntmps62
    go_wp2
    go_loopw [5] (fun i wr => ∃ k : Nat, k ≤ n ∧ i = .int .i64 k ∧ Qt w wr ∧ xs.take k = ys.take k) (fun i _ => n - (intOf i).toNat)
    case atStart => exact ⟨0, by omega, rfl, Qt.refl _, by simp⟩
    case round =>
      obtain ⟨k, hk, rfl, hq, hrel⟩ := hrel
      have Hrel := Lib.hid hrel
      clear hrel
      by_cases hlt : k < n
      · obtain ⟨b, off, x, rfl, hx, hx1, hx2, hcx⟩ := (h.qt hq).int hlt
        obtain ⟨b', off', y, rfl, hy, hy1, hy2, hcy⟩ := (g.qt hq).int hlt
        have Hx := Lib.hid hx
        have Hy := Lib.hid hy
        clear hx hy
        go_wp2
        go_quiet (fail)
        go_wp2
        · go_ret
          refine ⟨ret_bool ?_, hq.drewN _⟩
          have hne' : (x != y) = true := by assumption
          have hne : ¬ x = y := by simpa using hne'
          simp only [intsB, eq_comm (a := false), decide_eq_false_iff_not]
          rintro rfl
          exact hne (Option.some.inj (Hx.out.symm.trans Hy.out))
        · go_roundw
          case rel =>
            have hne' : (x != y) = false := by assumption
            exact ⟨k + 1, by omega, by go_num, hq.drewN _, take_eq_step Hrel.out Hx.out Hy.out (by simpa using hne')⟩
          case measure => simp [intOf]; omega
      · go_wp2
        go_ret
        refine ⟨ret_bool ?_, hq⟩
        have e := Hrel.out
        rw [List.take_of_length_le (by rw [h.len]; omega), List.take_of_length_le (by rw [g.len]; omega)] at e
        simp [intsB, e]
  · have hne : ((n : Int) != (m : Int)) = true := by rw [bne_iff_ne]; omega
    go_enter Tryz.func62, Tryz.ntmps62
    go_wp2
    go_ret
    refine ⟨ret_bool ?_, Qt.refl _⟩
    simp only [intsB, eq_comm (a := false), decide_eq_false_iff_not]
    rintro rfl
    exact hnm (h.len.symm.trans g.len)

def subsetB (a b : List Int) : Bool := a.all (hasB b)
theorem Subset_ct (A B : Option Addr) (n c m d : Nat) (xs ys : List Int) (w : World) (h : Rd Enc.int w A n c xs) (g : Rd Enc.int w B m d ys) :
    Calls Tryz.prog 20 #[.slice A n c, .slice B m d] w (Quiet w (.bool (subsetB xs ys))) := by
  have hsm := h.low
  go_enter Tryz.func20, Tryz.ntmps20
  go_wp2
  go_loopw [5] (fun i wr => ∃ k : Nat, k ≤ n ∧ i = .int .i64 k ∧ Qt w wr ∧ subsetB xs ys = subsetB (xs.drop k) ys) (fun i _ => n - (intOf i).toNat)
  case atStart => exact ⟨0, by omega, rfl, Qt.refl _, by simp⟩
  case round =>
    obtain ⟨k, hk, rfl, hq, hrel⟩ := hrel
    have Hrel := Lib.hid hrel
    clear hrel
    by_cases hlt : k < n
    · obtain ⟨b, off, x, rfl, hx, hx1, hx2, hcx⟩ := (h.qt hq).int hlt
      have Hd := Lib.hid (drop_cons hx)
      clear hx
      go_wp2_with (go_at_call 58; refine (Has_ct _ _ _ _ _ _ (g.qt hq)).mono ?_; rintro e w1 ⟨rfl, rfl⟩)
      · go_ret
        refine ⟨ret_bool ?_, hq⟩
        rw [Hrel.out, Hd.out]
        have hh : (!hasB ys x) = true := by assumption
        simp only [Bool.not_eq_true'] at hh
        simp [subsetB, hh]
      · go_roundw
        case rel =>
          refine ⟨k + 1, by omega, by go_num, hq, ?_⟩
          rw [Hrel.out, Hd.out]
          have hh : (!hasB ys x) = false := by assumption
          simp only [Bool.not_eq_false'] at hh
          simp [subsetB, hh]
        case measure => simp [intOf]; omega
    · go_wp2
      go_ret
      refine ⟨ret_bool ?_, hq⟩
      rw [Hrel.out, List.drop_of_length_le (by rw [h.len]; omega)]
      rfl
end Go.Proofs.YtmjiiddncbhgpaaGreat
