/- The law HierarchyDecomposeMatchesSpec of the package hierarchy holds, without a condition., part 4: Sw1. -/
import Derived.Test.YtmjiiddncbhgpaaP1
import Derived.Test.YtmjiiddncbhgpaaP2
import Derived.BigQuiet
import Derived.Deep.AppendLies
import Derived.Deep.Draws
import Derived.Deep.Fields
import Derived.Deep.LoopGhost
import Derived.Deep.QuietTactic
import Derived.Deep.Slices
import Derived.Laws.AppendOwnNone
import Derived.Laws.BitsAllLaws
import Derived.Laws.OwnMore
import Derived.Lib.Hide
import Derived.Lib.SlicesCompact
import Derived.Test.YtmjiiddncbhgpaaProg
import Derived.WalkKit
namespace Go.Proofs.Ytmjiiddncbhgpaa
set_option linter.unusedVariables false
set_option linter.unusedSimpArgs false
open Go.RowKit
theorem word_succ {l : List Int} {k : Nat} {x : Int} (h : l[k]? = some x) : wordF (l.take (k + 1)) = wordF (l.take k) ||| 1 <<< x.toNat := by
  unfold wordF
  rw [List.take_add_one, h]
  simp
theorem shl_u32 {x : Int} (h0 : 0 ≤ x) (h1 : x < 32) : ((2 : Int) ^ x.toNat % (4294967296 : Int)) = (((1 <<< x.toNat) : Nat) : Int) := by
  have hp : 2 ^ x.toNat < 4294967296 := by have := Nat.pow_lt_pow_right (a := 2) (by omega) (show x.toNat < 32 by omega); simpa using this
  rw [Nat.one_shiftLeft]
  have e : ((2 : Int) ^ x.toNat) = ((2 ^ x.toNat : Nat) : Int) := by simp
  rw [e]
  exact Int.emod_eq_of_lt (Int.natCast_nonneg _) (Int.ofNat_lt.2 hp)
set_option maxHeartbeats 1600000 in
theorem Word_ct (A : Option Addr) (m c : Nat) (l : List Int) (w : World) (h : Rd Enc.int w A m c l) (hr : ∀ x ∈ l, 0 ≤ x ∧ x < 32) :
    Calls Try.prog 27 #[.slice A m c] w (Same w (.int .u32 (wordF l))) := by
  have hsm := h.low
  have hcap := h.cap
  have Hl := hide h.len
  have Hr := hide hr
  clear hr
  go_enter Try.func27, Try.ntmps27
  go_wp2
  go_loopw [3, 8] (fun v i wr => ∃ k : Nat, k ≤ m ∧ i = .int .i64 k ∧ wr = w ∧ v = .int .u32 (wordF (l.take k))) (fun _ i _ => m - (intOf i).toNat)
  case atStart => exact ⟨0, by omega, rfl, rfl, by simp [wordF]⟩
  case round =>
    obtain ⟨k, hk, rfl, rfl, rfl⟩ := hrel
    by_cases hlt : k < m
    · obtain ⟨b, off, x, rfl, hx, hxl, hxh, hcx⟩ := h.int hlt
      obtain ⟨h0, h1⟩ := Hr.out x (List.mem_of_getElem? hx)
      have hw : wordF (l.take k) < 4294967296 := word_lt fun y hy => Hr.out y (List.mem_of_mem_take hy)
      have hw1 : 1 <<< x.toNat < 4294967296 := by
        rw [Nat.one_shiftLeft]
        have := Nat.pow_lt_pow_right (a := 2) (by omega) (show x.toNat < 32 by omega)
        simpa using this
      have Hs := hide (word_succ hx)
      have hsh := shl_u32 h0 h1
      have hor := u32_or_nat _ _ hw hw1
      clear hx hw hw1
      generalize wordF (l.take k) = W at *
      generalize 1 <<< x.toNat = X at *
      go_wp2
      go_roundw
      case rel => exact ⟨k + 1, by omega, by go_num, trivial, by rw [Hs.out]⟩
      case measure => simp [intOf]; omega
    · obtain rfl : k = m := by omega
      go_wp2
      go_ret
      refine ⟨?_, rfl⟩
      rw [List.take_of_length_le (by rw [Hl.out]; omega)]
      rfl
end Go.Proofs.Ytmjiiddncbhgpaa
