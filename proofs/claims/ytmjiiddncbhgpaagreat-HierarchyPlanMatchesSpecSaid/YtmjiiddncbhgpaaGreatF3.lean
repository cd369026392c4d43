/- The law HierarchyPlanMatchesSpec of the package hierarchy holds, without a condition., part 3: Own Grow Lit. -/
import Derived.Test.YtmjiiddncbhgpaaGreatF1
import Derived.BigQuiet
import Derived.Deep.AppendLies
import Derived.Deep.Draws
import Derived.Deep.Fields
import Derived.Deep.LoopGhost
import Derived.Deep.QuietTactic
import Derived.Deep.Slices
import Derived.Laws.AppendOwnNone
import Derived.Laws.OwnMore
import Derived.Lib.Hide
import Derived.Maps.AppendAt
import Derived.Test.YtmjiiddncbhgpaaGreatProg
import Derived.WalkKit
namespace Go.Proofs.YtmjiiddncbhgpaaGreat
set_option linter.unusedVariables false
open Go.RowKit
section
variable {w w' : World} {B : Nat}
theorem own_block {e : TypeId} {size : Nat} {v : Value} {n : Nat} {xs : List Value} (h2 : w.ownsRow B e size v n xs) {r : Nat} (hr : v.ownBlock = some r) : r < w.heap.size ∧ ∃ cs m, w.heap[r]? = some (.cells cs e m) := by
  rcases h2.2 with ⟨h3, _⟩ | ⟨r', cap, cur, e1, _, hc, _⟩
  · rw [h3] at hr
    cases hr
  · rw [e1] at hr
    have hr : r' = r := by simpa [Value.ownBlock] using hr
    subst hr
    refine ⟨?_, _, _, hc⟩
    rcases Nat.lt_or_ge r' w.heap.size with hl | hl
    · exact hl
    · rw [Array.getElem?_eq_none hl] at hc
      cases hc
theorem own_base {e : TypeId} {size : Nat} {v : Value} {n : Nat} {xs : List Value} (h2 : w.ownsRow B e size v n xs) {r : Nat} (hr : v.ownBlock = some r) : B ≤ r := by
  rcases h2.2 with ⟨h3, _⟩ | ⟨r', cap, cur, e1, hb, hc, _⟩
  · rw [h3] at hr
    cases hr
  · rw [e1] at hr
    have hr : r' = r := by simpa [Value.ownBlock] using hr
    omega
/-- a row of one-cell elements, cut short -/
theorem own_cut {e : TypeId} {A : Option Addr} {n c m : Nat} {xs : List Value} (h : w.ownsRow B e 1 (.slice A n c) n xs) (hm : m ≤ n) : w.ownsRow B e 1 (.slice A m c) m (xs.take m) := by
  refine ⟨by rw [List.length_take, h.1]; omega, ?_⟩
  rcases h.2 with ⟨h3, h4⟩ | ⟨r, cap, cur, e1, hr, hc, h5, h6, h7, h8⟩
  · injection h3 with e1 e2 e3
    subst e1 e2 e3
    obtain rfl : m = 0 := by omega
    exact .inl ⟨rfl, rfl⟩
  · injection e1 with e1 e2 e3
    subst e1 e3
    refine .inr ⟨r, c, cur, rfl, hr, hc, by omega, h6, h7, ?_⟩
    rw [← h8, List.take_take]
    congr 1
    omega
theorem own_nil_or {e : TypeId} {size : Nat} {A : Option Addr} {n c : Nat} {xs : List Value} (h : w.ownsRow B e size (.slice A n c) n xs) : n ≤ c ∧ c ≤ 9223372036854775807 := by
  rcases h.2 with ⟨h3, h4⟩ | ⟨r, cap, cur, e1, hr, hc, h5, h6, h7, h8⟩
  · injection h3 with e1 e2 e3
    omega
  · injection e1 with e1 e2 e3
    unfold maxLen at h6
    omega
theorem own_addr {e : TypeId} {size : Nat} {A : Option Addr} {n c : Nat} {xs : List Value} (h : w.ownsRow B e size (.slice A n c) n xs) (hn : 0 < n) : ∃ g, A = some ⟨g, 0, none⟩ := by
  rcases h.2 with ⟨h3, h4⟩ | ⟨r, cap, cur, e1, _⟩
  · omega
  · injection e1 with e1 e2 e3
    exact ⟨r, e1⟩
end
/-- one element more on a row of the call's own; where the row lies now -/
theorem wpList_pushA {P : Program} {w : World} {ops : Array Oper} {rest : List Oper} {o : Oper} {a : Act} {Q : Exit → Act → World → Prop} (hgd : o.guard = none) (s x : Operand) (t : TypeId)
    (ho : o.op = .call { callee := .builtin .append, args := #[s, x], argTypes := #[t, t] })
    (base : Nat) (e : TypeId) (i : TypeInfo) (z : Value) (size bytes : Nat) (ht : P.underlying t = some (.slice e)) (hi : P.info? e = some i) (hz : i.zero = some z)
    (hsize : i.size = size) (hby : i.bytes = bytes) (hzs : z.cells.size = size) (hsz : 0 < size)
    (v : Value) (n : Nat) (xs : List Value) (hs : a.eval s = v) (hown : w.ownsRow base e size v n xs)
    (us : List Value) (hus : us.length = size) (h1 : ∀ u ∈ us, u.oneCell' = true) (hx : a.eval x = .slice (some ⟨w.heap.size, 0, none⟩) 1 1)
    (h63 : n + 1 ≤ 140737488355328) (hbytes : (n + 1) * bytes ≤ 140737488355328) (hbase : base ≤ w.heap.size)
    (h : ∀ O oc w', w'.ownsRow base e size (.slice O (n + 1) oc) (n + 1) (xs ++ us) → (w.alloc (.cells us.toArray e)).grownBy w' v.ownBlock → ((Value.slice O (n + 1) oc).ownBlock = v.ownBlock ∨ (Value.slice O (n + 1) oc).ownBlock = some (w.heap.size + 1)) → wpList P ops Q rest (a.put o.dst (.slice O (n + 1) oc)) w') :
    wpList P ops Q (o :: rest) a (w.alloc (.cells us.toArray e)) := by
  refine wpList_append_own_at _ hgd s x t ho base e i z size bytes ht hi hz hsize hby hzs hsz v n xs hs (hown.alloc _) ⟨w.heap.size, 0, none⟩ 1 1 us hx (by omega) ?_ h1 (by unfold maxLen; omega) hbytes (by simp; omega) ?_
  · intro j u hj
    rw [add_plain, Nat.zero_add]
    have := (Blk.new w e us).cell j
    rw [hj] at this
    exact this
  · intro v' w' hown' hg _ hat
    have hsh : ∃ O oc, v' = .slice O (n + 1) oc := by
      rcases hown'.2 with ⟨_, h0⟩ | ⟨g, cap, cur, e', _⟩
      · omega
      · exact ⟨_, _, e'⟩
    obtain ⟨O, oc, rfl⟩ := hsh
    exact h O oc w' hown' hg (by simpa using hat)
/-- a reading whose block stands -/
theorem Rd.block {α : Type} {E : Enc α} {w w' : World} {A : Option Addr} {n c : Nat} {xs : List α} (h : Rd E w A n c xs) (hE : ∀ vs x, E.ok w vs x → E.ok w' vs x) (hb : ∀ b off, A = some ⟨b, off, none⟩ → 0 < n → w'.heap[b]? = w.heap[b]?) : Rd E w' A n c xs :=
  ⟨h.len, h.cap, h.small, h.nil, fun hn => by
    obtain ⟨b, off, e, hc⟩ := h.at_ hn
    have hbb := hb b off e hn
    refine ⟨b, off, e, fun j x hj => ?_⟩
    obtain ⟨vs, ho, hv⟩ := hc j x hj
    refine ⟨vs, hE vs x ho, fun i v hi => ?_⟩
    rw [← hv i v hi]
    simp [World.cell?, hbb]⟩
end Go.Proofs.YtmjiiddncbhgpaaGreat
namespace Go.Proofs.YtmjiiddncbhgpaaGreat
set_option linter.unusedVariables false
open Go.RowKit
/-- only blocks of M, and such as were not there, may differ -/
structure Chg (M : Nat → Prop) (w w' : World) : Prop where
  os : w'.os = w.os
  tape : w'.tape = w.tape
  output : w'.output = w.output
  size : w.heap.size ≤ w'.heap.size
  block : ∀ i, i < w.heap.size → ¬ M i → w'.heap[i]? = w.heap[i]?
section
variable {M M' : Nat → Prop} {a b c w w' : World}
theorem Chg.refl (M : Nat → Prop) (w : World) : Chg M w w := ⟨rfl, rfl, rfl, Nat.le_refl _, fun _ _ _ => rfl⟩
theorem Chg.trans (h : Chg M a b) (k : Chg M b c) : Chg M a c :=
  ⟨k.os.trans h.os, k.tape.trans h.tape, k.output.trans h.output, Nat.le_trans h.size k.size, fun i hi hn => (k.block i (Nat.lt_of_lt_of_le hi h.size) hn).trans (h.block i hi hn)⟩
theorem Chg.mono (h : Chg M w w') (hM : ∀ i, M i → M' i) : Chg M' w w' := ⟨h.os, h.tape, h.output, h.size, fun i hi hn => h.block i hi (fun e => hn (hM i e))⟩
/-- what was not there at a may differ freely -/
theorem Chg.trans2 (h : Chg M a b) (k : Chg M' b c) (hM : ∀ i, i < a.heap.size → M' i → M i) : Chg M a c :=
  ⟨k.os.trans h.os, k.tape.trans h.tape, k.output.trans h.output, Nat.le_trans h.size k.size, fun i hi hn => (k.block i (Nat.lt_of_lt_of_le hi h.size) (fun e => hn (hM i hi e))).trans (h.block i hi hn)⟩
theorem Chg.of_below (h : Below w.heap.size w w') (M : Nat → Prop) : Chg M w w' := ⟨h.os, h.tape, h.output, h.size, fun i hi _ => h.block i hi⟩
theorem Chg.of_grown {row : Option Nat} (h : w.grownBy w' row) : Chg (fun i => row = some i) w w' := ⟨h.os, h.tape, h.output, h.size, fun i hi hn => h.block i hi (fun e => hn e.symm)⟩
theorem Chg.below {B : Nat} (h : Chg M w w') (hM : ∀ i, M i → B ≤ i) (hB : B ≤ w.heap.size) : Below B w w' := ⟨h.os, h.tape, h.output, h.size, fun i hi => h.block i (by omega) (fun e => by have := hM i e; omega)⟩
theorem Chg.keep (h : Chg M w w') (hM : ∀ i, ¬ M i) : Below w.heap.size w w' := ⟨h.os, h.tape, h.output, h.size, fun i hi => h.block i hi (hM i)⟩
theorem Chg.qt (M : Nat → Prop) (h : Qt w w') : Chg M w w' := Chg.of_below (h.below _) M
theorem Chg.blk {t : TypeId} {g : Nat} {cs : List Value} (h : Chg M w w') (hb : Blk t w g cs) (hg : ¬ M g) : Blk t w' g cs := (h.block g hb.lt hg).trans hb
theorem Chg.set (w : World) (g i : Nat) (u : Value) : Chg (fun b => b = g) w (w.setCell ⟨g, i, none⟩ u) := (Chg.of_grown (only_set w g i u)).mono fun b e => by injection e with e; exact e.symm
theorem Chg.own {B : Nat} {t : TypeId} {size n : Nat} {v : Value} {xs : List Value} (h : Chg M w w') (hb : w.ownsRow B t size v n xs) (hg : ∀ r, v.ownBlock = some r → ¬ M r) : w'.ownsRow B t size v n xs := by
  refine ⟨hb.1, ?_⟩
  rcases hb.2 with h3 | ⟨r, cap, cur, e, hr, hc, rest⟩
  · exact .inl h3
  · refine .inr ⟨r, cap, cur, e, hr, (h.block r ?_ (hg r (by rw [e]; rfl))).trans hc, rest⟩
    rcases Nat.lt_or_ge r w.heap.size with hl | hl
    · exact hl
    · rw [Array.getElem?_eq_none hl] at hc
      cases hc
end
def blkA (A : Option Addr) : Option Nat := A.map (·.block)
theorem own_blkA (A : Option Addr) (n c : Nat) : (Value.slice A n c).ownBlock = blkA A := by cases A <;> rfl
/-- read so now, and whatever happens to blocks of M -/
def Firm {α : Type} (E : Enc α) (M : Nat → Prop) (w : World) (us : List Value) (x : α) : Prop := ∀ w', Chg M w w' → E.ok w' us x
section
variable {α : Type} {E : Enc α} {M M' : Nat → Prop} {w w' : World} {us : List Value} {x : α}
theorem Firm.ok (h : Firm E M w us x) : E.ok w us x := h w (Chg.refl _ _)
theorem Firm.mono (h : Firm E M w us x) (hM : ∀ i, i < w.heap.size → M' i → M i) : Firm E M' w us x := fun w' hc => h w' ⟨hc.os, hc.tape, hc.output, hc.size, fun i hi hn => hc.block i hi (fun e => hn (hM i hi e))⟩
theorem Firm.chg (h : Firm E M w us x) (hc : Chg M w w') : Firm E (fun i => M i ∨ w.heap.size ≤ i) w' us x := fun w'' hk => h w'' (hc.trans2 hk (fun i hi e => by rcases e with e | e; exact e; omega))
theorem Firm.keep (h : Firm E M w us x) (hb : Below w.heap.size w w') : Firm E M w' us x := (h.chg (Chg.of_below hb M)).mono (fun i hi e => .inl e)
/-- a reading that stood in an older world -/
theorem firm_old {w0 : World} (h : E.ok w0 us x) (hb : Below w0.heap.size w0 w) (hM : ∀ i, M i → w0.heap.size ≤ i) : Firm E M w us x := fun w' hc => E.keep h (hb.trans (hc.below hM hb.size))
theorem firm_int {v : Int} (h1 : -9223372036854775808 ≤ v) (h2 : v ≤ 9223372036854775807) : Firm Enc.int M w [.int .i64 v] v := fun _ _ => ⟨rfl, h1, h2⟩
end
/-- a row of the call's own whose elements read as xs; changes to blocks of M do not touch them -/
structure OwnE {α : Type} (E : Enc α) (t : TypeId) (B : Nat) (M : Nat → Prop) (w : World) (A : Option Addr) (n c : Nat) (vs : List Value) (xs : List α) : Prop where
  own : w.ownsRow B t E.size (.slice A n c) n vs
  len : xs.length = n
  elem : ∀ (i : Nat) (x : α), xs[i]? = some x → ∃ us : List Value, (∀ j v, us[j]? = some v → vs[i * E.size + j]? = some v) ∧ Firm E M w us x
section
variable {α : Type} {E : Enc α} {t : TypeId} {B n c : Nat} {M M' : Nat → Prop} {w w' : World} {A : Option Addr} {vs : List Value} {xs : List α}
theorem OwnE.nil (E : Enc α) (t : TypeId) (B : Nat) (M : Nat → Prop) (w : World) : OwnE E t B M w none 0 0 [] [] := ⟨World.ownsRow_nil _ _ _ _, rfl, fun i x h => by simp at h⟩
theorem OwnE.chg (h : OwnE E t B M w A n c vs xs) (hc : Chg M' w w') (hM : ∀ i, M' i → M i) (hA : ∀ r, blkA A = some r → ¬ M' r) : OwnE E t B M w' A n c vs xs :=
  ⟨hc.own h.own (fun r hr => hA r (by rw [own_blkA] at hr; exact hr)), h.len, fun i x hx => by
    obtain ⟨us, h1, h2⟩ := h.elem i x hx
    exact ⟨us, h1, (h2.chg (hc.mono hM)).mono (fun i _ e => .inl e)⟩⟩
theorem OwnE.keep (h : OwnE E t B M w A n c vs xs) (hb : Below w.heap.size w w') : OwnE E t B M w' A n c vs xs := h.chg (M' := fun _ => False) (Chg.of_below hb _) (fun _ e => e.elim) (fun _ _ e => e)
theorem OwnE.qt (h : OwnE E t B M w A n c vs xs) (hb : Qt w w') : OwnE E t B M w' A n c vs xs := h.keep (hb.below _)
theorem OwnE.less (h : OwnE E t B M w A n c vs xs) (hM : ∀ i, i < w.heap.size → M' i → M i) : OwnE E t B M' w A n c vs xs := ⟨h.own, h.len, fun i x hx => by
    obtain ⟨us, h1, h2⟩ := h.elem i x hx
    exact ⟨us, h1, h2.mono hM⟩⟩
theorem OwnE.base (h : OwnE E t B M w A n c vs xs) {r : Nat} (hr : blkA A = some r) : B ≤ r ∧ r < w.heap.size := ⟨own_base h.own (by rw [own_blkA]; exact hr), (own_block h.own (by rw [own_blkA]; exact hr)).1⟩
theorem OwnE.vlen (h : OwnE E t B M w A n c vs xs) : vs.length = n * E.size := h.own.1
theorem OwnE.rd (h : OwnE E t B M w A n c vs xs) : Rd E w A n c xs := by
  rcases h.own.2 with ⟨e, e0⟩ | ⟨g, cap, cur, e, hb, hg, hnc, hcm, hcs, htake⟩
  · injection e with e1 e2 e3
    subst e1 e3 e0
    have hx : xs = [] := List.eq_nil_of_length_eq_zero h.len
    subst hx
    exact Rd.nil_ _ _
  · injection e with e1 e2 e3
    subst e1 e3
    refine ⟨h.len, hnc, by unfold maxLen at hcm; omega, fun h => (by cases h), fun _ => ⟨g, 0, rfl, fun j x hj => ?_⟩⟩
    obtain ⟨us, h1, h2⟩ := h.elem j x hj
    refine ⟨us, h2.ok, fun i v hi => ?_⟩
    have := h.own.cells (g := g) rfl (j * E.size + i) v (h1 i v hi)
    rw [add_plain] at this
    simpa using this
end
/-- one element more -/
theorem wpList_pushE {α : Type} {E : Enc α} {P : Program} {w : World} {ops : Array Oper} {rest : List Oper} {o : Oper} {a : Act} {Q : Exit → Act → World → Prop} (hgd : o.guard = none) (s x : Operand) (t : TypeId)
    (ho : o.op = .call { callee := .builtin .append, args := #[s, x], argTypes := #[t, t] })
    (base : Nat) (e : TypeId) (i : TypeInfo) (z : Value) (bytes : Nat) (ht : P.underlying t = some (.slice e)) (hi : P.info? e = some i) (hz : i.zero = some z)
    (hsize : i.size = E.size) (hby : i.bytes = bytes) (hzs : z.cells.size = E.size) (hsz : 0 < E.size)
    {A : Option Addr} {n c : Nat} {M : Nat → Prop} {vs : List Value} {xs : List α} (hs : a.eval s = .slice A n c) (hown : OwnE E e base M w A n c vs xs) (hA : ∀ r, blkA A = some r → M r)
    (us : List Value) (y : α) (h1 : ∀ u ∈ us, u.oneCell' = true) (hx : a.eval x = .slice (some ⟨w.heap.size, 0, none⟩) 1 1) (hf : Firm E M w us y)
    (h63 : n + 1 ≤ 140737488355328) (hbytes : (n + 1) * bytes ≤ 140737488355328) (hbase : base ≤ w.heap.size)
    (h : ∀ O oc w', OwnE E e base (fun b => M b ∨ w.heap.size ≤ b) w' O (n + 1) oc (vs ++ us) (xs ++ [y]) → Chg (fun b => blkA A = some b) w w' → (blkA O = blkA A ∨ blkA O = some (w.heap.size + 1)) → wpList P ops Q rest (a.put o.dst (.slice O (n + 1) oc)) w') :
    wpList P ops Q (o :: rest) a (w.alloc (.cells us.toArray e)) := by
  have hus : us.length = E.size := E.len hf.ok
  refine wpList_pushA hgd s x t ho base e i z E.size bytes ht hi hz hsize hby hzs hsz _ n vs hs hown.own us hus h1 hx h63 hbytes hbase ?_
  intro O oc w' hown' hg hat
  rw [own_blkA, own_blkA] at hat
  rw [own_blkA] at hg
  have hch : Chg (fun b => blkA A = some b) w w' := (Chg.of_below ((Below.refl w.heap.size w).alloc (Nat.le_refl _) (.cells us.toArray e)) _).trans (Chg.of_grown hg)
  refine h O oc w' ⟨hown', by rw [List.length_append, hown.len]; rfl, fun j u hj => ?_⟩ hch hat
  rcases Nat.lt_or_ge j n with hjn | hjn
  · rw [List.getElem?_append_left (by rw [hown.len]; exact hjn)] at hj
    obtain ⟨us', e1, e2⟩ := hown.elem j u hj
    refine ⟨us', fun k v hk => ?_, e2.chg (hch.mono hA)⟩
    have := e1 k v hk
    rw [List.getElem?_append_left (List.getElem?_eq_some_iff.1 this).1]
    exact this
  · rw [List.getElem?_append_right (by rw [hown.len]; exact hjn), hown.len] at hj
    have hjn2 : j = n := by
      have := (List.getElem?_eq_some_iff.1 hj).1
      simp at this
      omega
    subst hjn2
    simp at hj
    subst hj
    refine ⟨us, fun k v hk => ?_, hf.chg (hch.mono hA)⟩
    rw [List.getElem?_append_right (by rw [hown.vlen]; omega), hown.vlen, Nat.add_sub_cancel_left]
    exact hk
/-- the cells of a slice, all of them -/
theorem rd_cells {α : Type} {E : Enc α} {w : World} {b off n c : Nat} {xs : List α} (h : Rd E w (some ⟨b, off, none⟩) n c xs) :
    ∃ vs : List Value, vs.length = n * E.size ∧ (∀ j u, vs[j]? = some u → w.cell? ⟨b, off + j, none⟩ = some u) ∧ ∀ (i : Nat) (x : α), xs[i]? = some x → ∃ us : List Value, (∀ j v, us[j]? = some v → vs[i * E.size + j]? = some v) ∧ E.ok w us x := by
  have key : ∀ m, m ≤ n → ∃ vs : List Value, vs.length = m * E.size ∧ (∀ j u, vs[j]? = some u → w.cell? ⟨b, off + j, none⟩ = some u) ∧ ∀ (i : Nat) (x : α), i < m → xs[i]? = some x → ∃ us : List Value, (∀ j v, us[j]? = some v → vs[i * E.size + j]? = some v) ∧ E.ok w us x := by
    intro m
    induction m with
    | zero => exact fun _ => ⟨[], by simp, (fun j u h => by simp at h), fun i x h => by omega⟩
    | succ m ih =>
      intro hm
      obtain ⟨vs, h1, h2, h3⟩ := ih (by omega)
      obtain ⟨b', off', x, us, e, hx, hok, hc⟩ := h.get (show m < n by omega)
      injection e with e
      injection e with e1 e2
      subst e1 e2
      have hus := E.len hok
      refine ⟨vs ++ us, by rw [List.length_append, h1, hus, Nat.add_mul]; omega, fun j u hj => ?_, fun i y hi hy => ?_⟩
      · rcases Nat.lt_or_ge j vs.length with hl | hl
        · rw [List.getElem?_append_left hl] at hj
          exact h2 j u hj
        · rw [List.getElem?_append_right hl] at hj
          have := hc _ u hj
          rw [h1] at this hl
          rw [← this]
          congr 2
          omega
      · rcases Nat.lt_or_ge i m with hl | hl
        · obtain ⟨us', e1, e2⟩ := h3 i y hl hy
          refine ⟨us', fun j v hj => ?_, e2⟩
          have := e1 j v hj
          rw [List.getElem?_append_left (List.getElem?_eq_some_iff.1 this).1]
          exact this
        · obtain rfl : i = m := by omega
          rw [hx] at hy
          obtain rfl := Option.some.inj hy
          refine ⟨us, fun j v hj => ?_, hok⟩
          rw [List.getElem?_append_right (by omega), h1, Nat.add_sub_cancel_left]
          exact hj
  obtain ⟨vs, h1, h2, h3⟩ := key n (Nat.le_refl _)
  exact ⟨vs, h1, h2, fun i x hx => h3 i x (by rw [← h.len]; exact (List.getElem?_eq_some_iff.1 hx).1) hx⟩
/-- all of a slice onto a row of the call's own: 'out = append(out, xs...)' -/
theorem wpList_appendE {α : Type} {E : Enc α} {P : Program} {w : World} {ops : Array Oper} {rest : List Oper} {o : Oper} {a : Act} {Q : Exit → Act → World → Prop} (hgd : o.guard = none) (s x : Operand) (t : TypeId)
    (ho : o.op = .call { callee := .builtin .append, args := #[s, x], argTypes := #[t, t] })
    (base : Nat) (e : TypeId) (i : TypeInfo) (z : Value) (bytes : Nat) (ht : P.underlying t = some (.slice e)) (hi : P.info? e = some i) (hz : i.zero = some z)
    (hsize : i.size = E.size) (hby : i.bytes = bytes) (hzs : z.cells.size = E.size) (hsz : 0 < E.size) (hE : ∀ w us (x : α), E.ok w us x → ∀ u ∈ us, u.oneCell' = true)
    {A0 : Option Addr} {n c0 : Nat} {M : Nat → Prop} {vs : List Value} {xs : List α} (hs : a.eval s = .slice A0 n c0) (hown : OwnE E e base M w A0 n c0 vs xs) (hA : ∀ r, blkA A0 = some r → M r)
    {w0 : World} {A : Option Addr} {m c : Nat} {ys : List α} (hr : Rd E w0 A m c ys) (hw0 : Below w0.heap.size w0 w) (hf : ∀ us y, E.ok w0 us y → y ∈ ys → Firm E M w us y) (hx : a.eval x = .slice A m c)
    (h63 : n + m ≤ 140737488355328) (hbytes : (n + m) * bytes ≤ 140737488355328) (hbase : base ≤ w.heap.size)
    (h : ∀ O oc w' vs', OwnE E e base (fun b => M b ∨ w.heap.size ≤ b) w' O (n + m) oc vs' (xs ++ ys) → Chg (fun b => blkA A0 = some b) w w' → (blkA O = blkA A0 ∨ ∃ r, blkA O = some r ∧ w.heap.size ≤ r) → wpList P ops Q rest (a.put o.dst (.slice O (n + m) oc)) w') :
    wpList P ops Q (o :: rest) a w := by
  have shape : ∀ {w' : World} {v' : Value} {k : Nat} {l : List Value}, w'.ownsRow base e E.size v' k l → ∃ O oc, v' = .slice O k oc := by
    intro w' v' k l h'
    rcases h'.2 with ⟨h0, h1⟩ | ⟨g, cap, cur, e', _⟩
    · exact ⟨_, _, by rw [h0, h1]⟩
    · exact ⟨_, _, e'⟩
  cases A with
  | none =>
    have hc := hr.nil rfl
    have hm := hr.cap
    obtain rfl : c = 0 := hc
    obtain rfl : m = 0 := by omega
    obtain rfl : ys = [] := List.eq_nil_of_length_eq_zero hr.len
    refine wpList_append_own_none hgd s x t ho base e i E.size ht hi _ n vs hs hown.own hx ?_
    exact h A0 c0 w vs (by simpa using hown.less (fun i hi e => by rcases e with e | e; exact e; omega)) (Chg.refl _ _) (.inl rfl)
  | some ad =>
    have hplain : ∃ b off, 0 < m → ad = ⟨b, off, none⟩ := by
      rcases Nat.eq_zero_or_pos m with h0 | h0
      · exact ⟨0, 0, fun h => by omega⟩
      · obtain ⟨b, off, e, _⟩ := hr.at_ h0
        exact ⟨b, off, fun _ => by injection e⟩
    have hcells : ∃ us : List Value, us.length = m * E.size ∧ (∀ j u, us[j]? = some u → w.cell? (ad.add j) = some u) ∧ ∀ (i : Nat) (x : α), ys[i]? = some x → ∃ us' : List Value, (∀ j v, us'[j]? = some v → us[i * E.size + j]? = some v) ∧ E.ok w0 us' x := by
      rcases Nat.eq_zero_or_pos m with h0 | h0
      · refine ⟨[], by simp [h0], (fun j u h => by simp at h), fun i x hx => ?_⟩
        have := (List.getElem?_eq_some_iff.1 hx).1
        have := hr.len
        omega
      · obtain ⟨b, off, hp⟩ := hplain
        have := hp h0
        subst this
        obtain ⟨us, h1, h2, h3⟩ := rd_cells hr
        exact ⟨us, h1, fun j u hj => by rw [add_plain]; exact (hw0.cell (p := ⟨b, off + j, none⟩) (World.block_lt_of_cell? w0 _ (h2 j u hj))).trans (h2 j u hj), h3⟩
    obtain ⟨us, u1, u2, u3⟩ := hcells
    have hone : ∀ u ∈ us, u.oneCell' = true := fun u hu => by
      obtain ⟨j, hj⟩ := List.getElem?_of_mem hu
      have hjl := (List.getElem?_eq_some_iff.1 hj).1
      have hq : j / E.size < m := by
        rw [u1] at hjl
        exact (Nat.div_lt_iff_lt_mul hsz).2 hjl
      have hy : ys[j / E.size]? = some (ys[j / E.size]'(by rw [hr.len]; exact hq)) := List.getElem?_eq_getElem _
      obtain ⟨us', e1, e2⟩ := u3 _ _ hy
      have hl := E.len e2
      have hmod : j % E.size < us'.length := by rw [hl]; exact Nat.mod_lt _ hsz
      have h4 := e1 (j % E.size) _ (List.getElem?_eq_getElem hmod)
      rw [Nat.mul_comm, Nat.div_add_mod, hj] at h4
      rw [Option.some.inj h4]
      exact hE w0 us' _ e2 _ (List.getElem_mem _)
    refine wpList_append_own_at _ hgd s x t ho base e i z E.size bytes ht hi hz hsize hby hzs hsz _ n vs hs hown.own ad m c us hx (by rw [u1]) u2 hone (by unfold maxLen; omega) hbytes hbase ?_
    intro v' w' hown' hg _ hat
    obtain ⟨O, oc, rfl⟩ := shape hown'
    rw [own_blkA] at hg
    simp only [own_blkA] at hat
    have hch : Chg (fun b => blkA A0 = some b) w w' := Chg.of_grown hg
    refine h O oc w' _ ⟨hown', by rw [List.length_append, hown.len, hr.len], fun j u hj => ?_⟩ hch ?_
    · rcases Nat.lt_or_ge j n with hjn | hjn
      · rw [List.getElem?_append_left (by rw [hown.len]; exact hjn)] at hj
        obtain ⟨us', e1, e2⟩ := hown.elem j u hj
        refine ⟨us', fun k v hk => ?_, e2.chg (hch.mono hA)⟩
        have := e1 k v hk
        rw [List.getElem?_append_left (List.getElem?_eq_some_iff.1 this).1]
        exact this
      · rw [List.getElem?_append_right (by rw [hown.len]; exact hjn), hown.len] at hj
        obtain ⟨us', e1, e2⟩ := u3 _ _ hj
        refine ⟨us', fun k v hk => ?_, (hf us' u e2 (List.mem_of_getElem? hj)).chg (hch.mono hA)⟩
        have := e1 k v hk
        rw [List.getElem?_append_right (by rw [hown.vlen]; have := Nat.mul_le_mul_right E.size hjn; omega), hown.vlen]
        rw [← this]
        congr 1
        rw [Nat.sub_mul]
        have := Nat.mul_le_mul_right E.size hjn
        omega
    · exact hat.imp id fun e => ⟨_, e, Nat.le_refl _⟩
/-- behind a step that only touched the row -/
theorem row_below {B : Nat} {w0 w w' : World} {A : Option Addr} (hb : Below B w0 w) (hB : B ≤ w.heap.size) (hc : Chg (fun b => blkA A = some b) w w') (hA : ∀ r, blkA A = some r → B ≤ r) : Below B w0 w' := hb.trans (hc.below (fun i hi => hA i hi) hB)
theorem one_int {w : World} {us : List Value} {x : Int} (h : Enc.int.ok w us x) : ∀ u ∈ us, u.oneCell' = true := by
  have h1 : us = [.int .i64 x] := h.1
  subst h1
  intro u hu
  simp at hu
  subst hu
  rfl
end Go.Proofs.YtmjiiddncbhgpaaGreat
namespace Go.Proofs.YtmjiiddncbhgpaaGreat
open Go.RowKit
/-- a row of cells that came to be written out -/
theorem Rd.lit_ints {w : World} {g : Nat} {t : TypeId} (l : List Int) (hb : Blk t w g (l.map (Value.int .i64))) (hl : l.length ≤ 1000) (hr : ∀ x ∈ l, -1000 ≤ x ∧ x ≤ 1000) : Rd Enc.int w (some ⟨g, 0, none⟩) l.length l.length l :=
  ⟨rfl, Nat.le_refl _, by omega, fun h => (by cases h), fun _ => ⟨g, 0, rfl, fun j x hj => ⟨[.int .i64 x], ⟨rfl, by have := hr x (List.mem_of_getElem? hj); omega, by have := hr x (List.mem_of_getElem? hj); omega⟩, fun i v hi => by
    cases i with
    | succ i => simp at hi
    | zero =>
      simp at hi
      subst hi
      have := hb.cell j
      rw [List.getElem?_map, hj] at this
      simpa [Enc.int] using this⟩⟩⟩

end Go.Proofs.YtmjiiddncbhgpaaGreat
