/- Rows that are written out in the text. -/
import Derived.Test.YtnfeknfakkdbhaaGrow
namespace Go.Proofs.Ytnfeknfakkdbhaa
open Go.RowKit

/-- a row of cells that came to be written out -/
theorem Rd.lit_ints {w : World} {g : Nat} {t : TypeId} (l : List Int) (hb : Blk t w g (l.map (Value.int .i64))) (hl : l.length ≤ 1000) (hr : ∀ x ∈ l, -1000 ≤ x ∧ x ≤ 1000) : Rd Enc.int w (some ⟨g, 0, none⟩) l.length l.length l :=
  ⟨rfl, Nat.le_refl _, by omega, fun h => (by cases h), fun _ => ⟨g, 0, rfl, fun j x hj => ⟨[.int .i64 x], ⟨rfl, by have := hr x (List.mem_of_getElem? hj); omega, by have := hr x (List.mem_of_getElem? hj); omega⟩, fun i v hi => by
    cases i with
    | succ i => simp at hi
    | zero =>
      simp at hi
      subst hi
      have := hb.cell j
      rw [List.getElem?_map, hj] at this
      simpa [Enc.int] using this⟩⟩⟩

theorem Rd.lit_bools {w : World} {g : Nat} {t : TypeId} (l : List Bool) (hb : Blk t w g (l.map Value.bool)) (hl : l.length ≤ 1000) : Rd Enc.bool w (some ⟨g, 0, none⟩) l.length l.length l :=
  ⟨rfl, Nat.le_refl _, by omega, fun h => (by cases h), fun _ => ⟨g, 0, rfl, fun j x hj => ⟨[.bool x], rfl, fun i v hi => by
    cases i with
    | succ i => simp at hi
    | zero =>
      simp at hi
      subst hi
      have := hb.cell j
      rw [List.getElem?_map, hj] at this
      simpa [Enc.bool] using this⟩⟩⟩
theorem Rd.lit_sl {α : Type} {E : Enc α} {w : World} {g : Nat} {t : TypeId} (vs : List Value) (xs : List (List α)) (hb : Blk t w g vs) (hl : xs.length ≤ 1000) (he : ∀ (j : Nat) (x : List α), xs[j]? = some x → ∃ (A : Option Addr) (n c : Nat), vs[j]? = some (Value.slice A n c) ∧ Rd E w A n c x) :
    Rd (Enc.sl E) w (some ⟨g, 0, none⟩) xs.length xs.length xs :=
  ⟨rfl, Nat.le_refl _, by omega, fun h => (by cases h), fun _ => ⟨g, 0, rfl, fun j x hj => by
    obtain ⟨A, n, c, hv, hr⟩ := he j x hj
    refine ⟨[.slice A n c], ⟨A, n, c, rfl, hr⟩, fun i v hi => ?_⟩
    cases i with
    | succ i => simp at hi
    | zero =>
      simp at hi
      subst hi
      have := hb.cell j
      rw [hv] at this
      simpa [Enc.sl] using this⟩⟩

theorem field_code (x y : Value) (w : World) : (Instr.field 29 (.agg #[x, y]) 0).run Try.prog w = .ok x w := by kernel_rfl
theorem field_int (x : Int) (y : Value) (w : World) : (Instr.field 29 (.agg #[.int .i64 x, y]) 0).run Try.prog w = .ok (.int .i64 x) w := by kernel_rfl

end Go.Proofs.Ytnfeknfakkdbhaa
