/- Rows of a call's own: behind writes elsewhere, cut short, one element more. -/
import Derived.Test.YtnfeknfakkdbhaaBase
import Derived.Maps.AppendAt
namespace Go.Proofs.Ytnfeknfakkdbhaa
set_option linter.unusedVariables false
open Go.RowKit

section
variable {w w' : World} {B : Nat}
theorem own_keep {e : TypeId} {size : Nat} {v : Value} {n : Nat} {xs : List Value} (h2 : w.ownsRow B e size v n xs) (hb : Below w.heap.size w w') : w'.ownsRow B e size v n xs := by
  refine ⟨h2.1, ?_⟩
  rcases h2.2 with h3 | ⟨r, cap, cur, e, hr, hc, rest⟩
  · exact .inl h3
  · refine .inr ⟨r, cap, cur, e, hr, (hb.block r ?_).trans hc, rest⟩
    rcases Nat.lt_or_ge r w.heap.size with hl | hl
    · exact hl
    · rw [Array.getElem?_eq_none hl] at hc
      cases hc
/-- the row behind writes to other blocks -/
theorem own_other {e : TypeId} {size : Nat} {v : Value} {n : Nat} {xs : List Value} {row : Option Nat} (h2 : w.ownsRow B e size v n xs) (hb : w.grownBy w' row) (hne : ∀ r, v.ownBlock = some r → some r ≠ row) : w'.ownsRow B e size v n xs := by
  refine ⟨h2.1, ?_⟩
  rcases h2.2 with h3 | ⟨r, cap, cur, e, hr, hc, rest⟩
  · exact .inl h3
  · refine .inr ⟨r, cap, cur, e, hr, (hb.block r ?_ (hne r (by rw [e]; rfl))).trans hc, rest⟩
    rcases Nat.lt_or_ge r w.heap.size with hl | hl
    · exact hl
    · rw [Array.getElem?_eq_none hl] at hc
      cases hc
theorem own_block {e : TypeId} {size : Nat} {v : Value} {n : Nat} {xs : List Value} (h2 : w.ownsRow B e size v n xs) {r : Nat} (hr : v.ownBlock = some r) : r < w.heap.size ∧ ∃ cs m, w.heap[r]? = some (.cells cs e m) := by
  rcases h2.2 with ⟨h3, _⟩ | ⟨r', cap, cur, e1, _, hc, _⟩
  · rw [h3] at hr
    cases hr
  · rw [e1] at hr
    have hr : r' = r := by simpa [Value.ownBlock] using hr
    subst hr
    refine ⟨?_, _, _, hc⟩
    rcases Nat.lt_or_ge r' w.heap.size with hl | hl
    · exact hl
    · rw [Array.getElem?_eq_none hl] at hc
      cases hc
theorem own_base {e : TypeId} {size : Nat} {v : Value} {n : Nat} {xs : List Value} (h2 : w.ownsRow B e size v n xs) {r : Nat} (hr : v.ownBlock = some r) : B ≤ r := by
  rcases h2.2 with ⟨h3, _⟩ | ⟨r', cap, cur, e1, hb, hc, _⟩
  · rw [h3] at hr
    cases hr
  · rw [e1] at hr
    have hr : r' = r := by simpa [Value.ownBlock] using hr
    omega
/-- a row of one-cell elements, cut short -/
theorem own_cut {e : TypeId} {A : Option Addr} {n c m : Nat} {xs : List Value} (h : w.ownsRow B e 1 (.slice A n c) n xs) (hm : m ≤ n) : w.ownsRow B e 1 (.slice A m c) m (xs.take m) := by
  refine ⟨by rw [List.length_take, h.1]; omega, ?_⟩
  rcases h.2 with ⟨h3, h4⟩ | ⟨r, cap, cur, e1, hr, hc, h5, h6, h7, h8⟩
  · injection h3 with e1 e2 e3
    subst e1 e2 e3
    obtain rfl : m = 0 := by omega
    exact .inl ⟨rfl, rfl⟩
  · injection e1 with e1 e2 e3
    subst e1 e3
    refine .inr ⟨r, c, cur, rfl, hr, hc, by omega, h6, h7, ?_⟩
    rw [← h8, List.take_take]
    congr 1
    omega
theorem own_nil_or {e : TypeId} {size : Nat} {A : Option Addr} {n c : Nat} {xs : List Value} (h : w.ownsRow B e size (.slice A n c) n xs) : n ≤ c ∧ c ≤ 9223372036854775807 := by
  rcases h.2 with ⟨h3, h4⟩ | ⟨r, cap, cur, e1, hr, hc, h5, h6, h7, h8⟩
  · injection h3 with e1 e2 e3
    omega
  · injection e1 with e1 e2 e3
    unfold maxLen at h6
    omega
theorem own_addr {e : TypeId} {size : Nat} {A : Option Addr} {n c : Nat} {xs : List Value} (h : w.ownsRow B e size (.slice A n c) n xs) (hn : 0 < n) : ∃ g, A = some ⟨g, 0, none⟩ := by
  rcases h.2 with ⟨h3, h4⟩ | ⟨r, cap, cur, e1, _⟩
  · omega
  · injection e1 with e1 e2 e3
    exact ⟨r, e1⟩
end
/-- one element more on a row of the call's own; where the row lies now -/
theorem wpList_pushA {P : Program} {w : World} {ops : Array Oper} {rest : List Oper} {o : Oper} {a : Act} {Q : Exit → Act → World → Prop} (hgd : o.guard = none) (s x : Operand) (t : TypeId)
    (ho : o.op = .call { callee := .builtin .append, args := #[s, x], argTypes := #[t, t] })
    (base : Nat) (e : TypeId) (i : TypeInfo) (z : Value) (size bytes : Nat) (ht : P.underlying t = some (.slice e)) (hi : P.info? e = some i) (hz : i.zero = some z)
    (hsize : i.size = size) (hby : i.bytes = bytes) (hzs : z.cells.size = size) (hsz : 0 < size)
    (v : Value) (n : Nat) (xs : List Value) (hs : a.eval s = v) (hown : w.ownsRow base e size v n xs)
    (us : List Value) (hus : us.length = size) (h1 : ∀ u ∈ us, u.oneCell' = true) (hx : a.eval x = .slice (some ⟨w.heap.size, 0, none⟩) 1 1)
    (h63 : n + 1 ≤ 1000000000000) (hbytes : (n + 1) * bytes ≤ 140737488355328) (hbase : base ≤ w.heap.size)
    (h : ∀ O oc w', w'.ownsRow base e size (.slice O (n + 1) oc) (n + 1) (xs ++ us) → (w.alloc (.cells us.toArray e)).grownBy w' v.ownBlock → ((Value.slice O (n + 1) oc).ownBlock = v.ownBlock ∨ (Value.slice O (n + 1) oc).ownBlock = some (w.heap.size + 1)) → wpList P ops Q rest (a.put o.dst (.slice O (n + 1) oc)) w') :
    wpList P ops Q (o :: rest) a (w.alloc (.cells us.toArray e)) := by
  refine wpList_append_own_at _ hgd s x t ho base e i z size bytes ht hi hz hsize hby hzs hsz v n xs hs (hown.alloc _) ⟨w.heap.size, 0, none⟩ 1 1 us hx (by omega) ?_ h1 (by unfold maxLen; omega) hbytes (by simp; omega) ?_
  · intro j u hj
    rw [add_plain, Nat.zero_add]
    have := (Blk.new w e us).cell j
    rw [hj] at this
    exact this
  · intro v' w' hown' hg _ hat
    have hsh : ∃ O oc, v' = .slice O (n + 1) oc := by
      rcases hown'.2 with ⟨_, h0⟩ | ⟨g, cap, cur, e', _⟩
      · omega
      · exact ⟨_, _, e'⟩
    obtain ⟨O, oc, rfl⟩ := hsh
    exact h O oc w' hown' hg (by simpa using hat)
/-- a reading whose block stands -/
theorem Rd.block {α : Type} {E : Enc α} {w w' : World} {A : Option Addr} {n c : Nat} {xs : List α} (h : Rd E w A n c xs) (hE : ∀ vs x, E.ok w vs x → E.ok w' vs x) (hb : ∀ b off, A = some ⟨b, off, none⟩ → 0 < n → w'.heap[b]? = w.heap[b]?) : Rd E w' A n c xs :=
  ⟨h.len, h.cap, h.small, h.nil, fun hn => by
    obtain ⟨b, off, e, hc⟩ := h.at_ hn
    have hbb := hb b off e hn
    refine ⟨b, off, e, fun j x hj => ?_⟩
    obtain ⟨vs, ho, hv⟩ := hc j x hj
    refine ⟨vs, hE vs x ho, fun i v hi => ?_⟩
    rw [← hv i v hi]
    simp [World.cell?, hbb]⟩
end Go.Proofs.Ytnfeknfakkdbhaa
