/- Three rows of ints of a call's own, apart from each other: one of them grown. -/
import Derived.Test.YtnfeknfakkdbhaaMc5
namespace Go.Proofs.Ytnfeknfakkdbhaa
set_option linter.unusedVariables false
set_option linter.unusedSimpArgs false
open Go.RowKit

/-- a row -/
structure Ro where
  A : Option Addr
  n : Nat
  c : Nat
  vs : List Value
  l : List Int
def OwR (H : Nat) (W : World) (r : Ro) : Prop := OwnE Enc.int 3 H (fun b => H ≤ b) W r.A r.n r.c r.vs r.l
def Apart (r s : Ro) : Prop := ∀ q, blkA r.A = some q → ¬ blkA s.A = some q
theorem Apart.symm {r s : Ro} (h : Apart r s) : Apart s r := fun q h1 h2 => h q h2 h1
structure R3 (H : Nat) (W : World) (r s t : Ro) : Prop where
  r1 : OwR H W r
  r2 : OwR H W s
  r3 : OwR H W t
  a12 : Apart r s
  a13 : Apart r t
  a23 : Apart s t
  size : H ≤ W.heap.size
section
variable {H : Nat} {W W' : World} {r s t : Ro}
theorem R3.keep (h : R3 H W r s t) (hb : Below W.heap.size W W') : R3 H W' r s t := ⟨h.r1.keep hb, h.r2.keep hb, h.r3.keep hb, h.a12, h.a13, h.a23, Nat.le_trans h.size hb.size⟩
theorem R3.set (h : R3 H W r s t) {g : Nat} (hg : g < H) (i : Nat) (u : Value) : R3 H (W.setCell ⟨g, i, none⟩ u) r s t := by
  have key : ∀ {q : Ro}, OwR H W q → OwR H (W.setCell ⟨g, i, none⟩ u) q := fun {q} hq => by
    have h0 : OwnE Enc.int 3 H (fun b => H ≤ b ∨ b = g) W q.A q.n q.c q.vs q.l := ⟨hq.own, hq.len, fun j x hx => by
      obtain ⟨us, h1, h2⟩ := hq.elem j x hx
      exact ⟨us, h1, fun w' _ => h2.ok⟩⟩
    exact (h0.chg (M' := fun b => b = g) (Chg.set W g i u) (fun b e => .inr e) (fun b hb e => by have := (hq.base hb).1; omega)).less (fun _ _ e => .inl e)
  exact ⟨key h.r1, key h.r2, key h.r3, h.a12, h.a13, h.a23, by simpa using h.size⟩
theorem R3.rot (h : R3 H W r s t) : R3 H W s t r := ⟨h.r2, h.r3, h.r1, h.a23, h.a12.symm, h.a13.symm, h.size⟩
/-- the first row has grown -/
theorem R3.push (h : R3 H W r s t) {O : Option Addr} {oc : Nat} {vs : List Value} {l : List Int} (hown : OwnE Enc.int 3 H (fun b => (H ≤ b) ∨ W.heap.size ≤ b) W' O (r.n + 1) oc vs l) (hch : Chg (fun b => blkA r.A = some b) W W') (hat : blkA O = blkA r.A ∨ blkA O = some (W.heap.size + 1)) :
    R3 H W' ⟨O, r.n + 1, oc, vs, l⟩ s t := by
  have key : ∀ {q : Ro}, OwR H W q → Apart r q → OwR H W' q := fun {q} hq ha => hq.chg hch (fun b e => (h.r1.base e).1) (fun b hb e => ha b e hb)
  have hap : ∀ {q : Ro}, OwR H W q → Apart r q → Apart ⟨O, r.n + 1, oc, vs, l⟩ q := fun {q} hq ha b e1 e2 => by
    simp only at e1
    rcases hat with hat | hat
    · exact ha b (by rw [← hat]; exact e1) e2
    · rw [hat] at e1
      injection e1 with e1
      have := (hq.base e2).2
      omega
  exact ⟨hown.less (fun _ _ e => .inl e), key h.r2 h.a12, key h.r3 h.a13, hap h.r2 h.a12, hap h.r3 h.a13, h.a23, Nat.le_trans h.size hch.size⟩
end
end Go.Proofs.Ytnfeknfakkdbhaa
