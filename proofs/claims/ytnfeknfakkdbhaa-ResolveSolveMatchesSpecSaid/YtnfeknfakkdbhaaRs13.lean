/- The copy of the clauses. -/
import Derived.Test.YtnfeknfakkdbhaaRs12
namespace Go.Proofs.Ytnfeknfakkdbhaa
set_option linter.unusedVariables false
set_option linter.unusedSimpArgs false
open Go.RowKit

def CloneQ (w0 w : World) (n : Nat) (cs : List (List Int)) (e : Ending) (w' : World) : Prop :=
  ∃ (O : Option Addr) (oc : Nat), e = .returned (.slice O n oc) ∧ Below w.heap.size w w' ∧ ∃ xs : List Value, w'.ownsRow w.heap.size 22 1 (.slice O n oc) n xs ∧
    ∀ (i : Nat) (x : List Int), cs[i]? = some x → ∃ A' n' c', xs[i]? = some (Value.slice A' n' c') ∧ Rd Enc.int w0 A' n' c' x
theorem sizeOf_sl (w : World) : (Go.sizeOf 22).run Try.prog w = .ok 1 w := Try.sizeOf22 w
theorem clone_ct {w0 w : World} {A : Option Addr} {n c : Nat} {cs : List (List Int)} (h : Rd (Enc.sl Enc.int) w0 A n c cs) (hb0 : Below w0.heap.size w0 w) (hA : ∀ ad, A = some ad → ∃ b off, ad = ⟨b, off, none⟩) (hn : n ≤ 1000000) :
    Calls Try.prog 74 #[.slice A n c] w (CloneQ w0 w n cs) := by
  obtain ⟨i1, hi1, hy0, hy1, hy2⟩ := info_parts sliceInfo
  cases A with
  | none =>
    have hc := h.nil rfl
    have hn0 : n = 0 := by have := h.cap; omega
    subst hn0
    refine (Try.slices_Clone_nil_f74 0 c w).mono ?_
    rintro e w' ⟨rfl, rfl⟩
    refine ⟨none, 0, rfl, Below.refl _ _, [], World.ownsRow_nil _ _ _ _, fun i x hx => ?_⟩
    have := (List.getElem?_eq_some_iff.1 hx).1
    have := h.len
    omega
  | some ad =>
    have hx : ∃ (b off : Nat) (xs : List Value), ad = ⟨b, off, none⟩ ∧ xs.length = n ∧ (∀ j u, xs[j]? = some u → w.cell? ⟨b, off + j, none⟩ = some u) ∧ (∀ u ∈ xs, u.oneCell' = true) ∧
        ∀ (i : Nat) (x : List Int), cs[i]? = some x → ∃ A' n' c', xs[i]? = some (Value.slice A' n' c') ∧ Rd Enc.int w0 A' n' c' x := by
      rcases Nat.eq_zero_or_pos n with h0 | h0
      · obtain ⟨b, off, e⟩ := hA ad rfl
        refine ⟨b, off, [], e, by rw [h0]; rfl, (fun j u hu => by simp at hu), (fun u hu => by cases hu), fun i x hx => ?_⟩
        have := (List.getElem?_eq_some_iff.1 hx).1
        have := h.len
        omega
      · obtain ⟨b, off, e, _⟩ := h.at_ h0
        have hget : ∀ k : Nat, ∃ v : Value, k < n → ∃ x A' n' c', cs[k]? = some x ∧ v = .slice A' n' c' ∧ w.cell? ⟨b, off + k, none⟩ = some v ∧ Rd Enc.int w0 A' n' c' x := fun k => by
          by_cases hk : k < n
          · obtain ⟨b', off', x, A', n', c', e', h1, h2, h3⟩ := h.sl hk
            rw [e] at e'
            injection e' with e'
            injection e' with e1 e2
            subst e1 e2
            exact ⟨.slice A' n' c', fun _ => ⟨x, A', n', c', h1, rfl, (hb0.cell (p := ⟨b, off + k, none⟩) (World.block_lt_of_cell? w0 _ h2)).trans h2, h3⟩⟩
          · exact ⟨undef, fun h => absurd h hk⟩
        obtain ⟨f, hf⟩ := Classical.axiomOfChoice hget
        refine ⟨b, off, (List.range n).map f, by injection e, by simp, fun j u hu => ?_, fun u hu => ?_, fun i x hx => ?_⟩
        · rw [List.getElem?_map] at hu
          by_cases hj : j < n
          · rw [List.getElem?_range hj] at hu
            simp at hu
            subst hu
            obtain ⟨_, _, _, _, _, _, h2, _⟩ := hf j hj
            exact h2
          · rw [List.getElem?_eq_none (by simp; omega)] at hu
            cases hu
        · obtain ⟨j, hj, rfl⟩ := List.mem_map.1 hu
          obtain ⟨_, _, _, _, _, h1, _, _⟩ := hf j (List.mem_range.1 hj)
          rw [h1]
          rfl
        · have hi : i < n := by
            have := (List.getElem?_eq_some_iff.1 hx).1
            have := h.len
            omega
          obtain ⟨x', A', n', c', h1, h2, _, h3⟩ := hf i hi
          rw [hx] at h1
          obtain rfl := Option.some.inj h1
          exact ⟨A', n', c', by rw [List.getElem?_map, List.getElem?_range hi]; simp [h2], h3⟩
    obtain ⟨b, off, xs, he, hl, hc, h1, hxs⟩ := hx
    subst he
    refine (Try.slices_Clone_f74 i1 (.slice none 0 0) 1 24 hi1 hy0 hy1 hy2 rfl (by decide) sizeOf_sl b off n c xs w (by omega) (by unfold maxLen; omega) (by omega) hc h1).mono ?_
    rintro e w' ⟨v', rfl, hown, _, hb⟩
    have hsh : ∃ O oc, v' = .slice O n oc := by
      rcases hown.2 with ⟨e1, h0⟩ | ⟨g, cap, cur, e', _⟩
      · exact ⟨none, 0, by rw [e1, h0]⟩
      · exact ⟨_, _, e'⟩
    obtain ⟨O, oc, rfl⟩ := hsh
    exact ⟨O, oc, rfl, hb, xs, hown, hxs⟩
end Go.Proofs.Ytnfeknfakkdbhaa
