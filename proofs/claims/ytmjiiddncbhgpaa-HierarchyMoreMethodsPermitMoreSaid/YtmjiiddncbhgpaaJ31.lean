/- HierarchyMoreMethodsPermitMore: a refinement remains one if there are more methods, part 31: Sz. -/
import Derived.Test.YtmjiiddncbhgpaaJ1
import Derived.Test.YtmjiiddncbhgpaaJ29
import Derived.BigQuiet
import Derived.ChangeOld
import Derived.Deep.AppendLies
import Derived.Deep.Draws
import Derived.Deep.Fields
import Derived.Deep.LoopGhost
import Derived.Deep.QuietTactic
import Derived.Deep.Slices
import Derived.Laws.AppendOwnNone
import Derived.Laws.OwnMore
import Derived.Lib.Hide
import Derived.OpenShut
import Derived.ProofKit
import Derived.SizedLaws
import Derived.Test.YtmjiiddncbhgpaaProg
import Derived.Test.YtmjiiddncbhgpaaRows
import Derived.WalkKit
namespace Go.Proofs.Ytmjiiddncbhgpaa
open Go.ChangeShapes Go.WideShapes Go.ChangeAt Go.RowKit Go.Deep
theorem weight_sl {H : Type} {enc : TypeId × Value → H} {W : World} {sp : Nat → Bool} {hd : Bool} {A : Option Addr} {n c : Nat} {d : DataW H} {p : List MemPlace} {t e : TypeId} {B : Nat} (ht : Try.prog.underlying t = some (.slice e)) (hB : Try.prog.bytesOf e = B)
    (h : DataW.Trod enc Try.prog W 0 sp hd t (.slice A n c) d p) (hw : ∀ x ∈ d.weights Try.prog t, x ≤ reachBytes) : n * B ≤ 140737488351232 := by
  obtain ⟨fuel, hf⟩ := h
  rcases open_slice ht hf with ⟨e0, _⟩ | ⟨a, len, cap, m, k, D, Pl, e1, _, hl, hm, hmm, e2, hi⟩
  · simp only [Value.cells, List.cons.injEq, and_true, Value.slice.injEq] at e0
    obtain ⟨_, rfl, _⟩ := e0
    omega
  · simp only [Value.cells, List.cons.injEq, and_true, Value.slice.injEq] at e1
    obtain ⟨_, rfl, _⟩ := e1
    injection e2 with e2 _
    subst e2
    have h1 := hw ((n + (m - n)) * B) (by simp [DataW.weights, ht, hB])
    have h2 : n * B ≤ (n + (m - n)) * B := Nat.mul_le_mul_right B (by omega)
    have h3 : reachBytes = 140737488351232 := by decide
    omega
end Go.Proofs.Ytmjiiddncbhgpaa
