/- Contracts of the reference's functions on diagrams: IsSet, Value, Truths, completed, DiagramFault. -/
import Derived.Test.YtgenpcokpodhkaaDia11
import Derived.Test.YtgenpcokpodhkaaDgPure7
import Derived.Test.YtgenpcokpodhkaaRef6c
namespace Go.Proofs.Ytgenpcokpodhkaa
set_option linter.unusedVariables false
set_option linter.unusedSimpArgs false
open Go.RowKit

set_option maxHeartbeats 1600000 in
theorem IsSet_ct (A : Option Addr) (m c : Nat) (set : List Int) (n : Int) (w : World) (h : Rd Enc.int w A m c set) (hn : -9223372036854775807 ≤ n ∧ n ≤ 9223372036854775807) :
    Calls Try.prog 29 #[.slice A m c, .int .i64 n] w (Quiet w (.bool (setOk n none set))) := by
  have hsm := h.low
  have hcap := h.cap
  go_enter Try.func29, Try.ntmps29
  go_wp2
  go_loopw [5] (fun i wr => ∃ k : Nat, k ≤ m ∧ i = .int .i64 k ∧ Qt w wr ∧ setOk n none set = setOk n (if k = 0 then none else set[k-1]?) (set.drop k)) (fun i _ => m - (intOf i).toNat)
  case atStart => exact ⟨0, by omega, rfl, Qt.refl _, by simp⟩
  case round =>
    obtain ⟨k, hk, rfl, hq, hrel⟩ := hrel
    have hc : ∀ (x : Int) (b : Bool), inB x 0 (n - 1) = b → ∀ W, Calls Try.prog 25 #[.int .i64 x, .int .i64 0, .int .i64 (n - 1)] W (Same W (.bool b)) := by
      intro x b hb W
      have := In_ct x 0 (n - 1) W
      rwa [hb] at this
    have Hc := hide hc
    clear hc
    by_cases hlt : k < m
    · obtain ⟨b, off, x, rfl, hx, hxl, hxh, hcx⟩ := (h.qt hq).int hlt
      rw [drop_cons hx] at hrel
      have Hx := hide hx
      clear hx
      have hwr : IntKind.i64.wrap (n - 1) = n - 1 := by rw [IntWalk.i64_in _ (by omega)]
      by_cases hk0 : k = 0
      · subst hk0
        rw [if_pos rfl, setOk_first] at hrel
        rw [Nat.add_zero] at hcx
        cases hin : inB x 0 (n - 1)
        · have hi := inB_no.1 hin
          rw [if_pos (by omega)] at hrel
          have Hrel := hide hrel
          have Hin := hide hin
          clear hrel hin
          go_wp2
          go_quiet ((go_at_call 25; exact same_call (Hc.out _ _ Hin.out _)))
          go_wp2
          go_ret
          exact ⟨by rw [Hrel.out]; rfl, hq.drewN _⟩
        · have hi := inB_iff.1 hin
          rw [if_neg (by omega)] at hrel
          have Hrel := hide hrel
          have Hin := hide hin
          clear hrel hin
          go_wp2
          go_quiet ((go_at_call 25; exact same_call (Hc.out _ _ Hin.out _)))
          go_wp2
          go_roundw
          case rel => exact ⟨1, by omega, by go_num, hq.drewN _, by rw [Hrel.out]; simp [Hx.out]⟩
          case measure => simp [intOf]; omega
      · obtain ⟨j, rfl⟩ : ∃ j, k = j + 1 := ⟨k - 1, by omega⟩
        obtain ⟨b', off', y, e, hy, hyl, hyh, hcy⟩ := (h.qt hq).int (show j < m by omega)
        injection e with e
        injection e with e1 e2
        subst e1 e2
        rw [if_neg (by omega), Nat.add_sub_cancel, hy, setOk_next] at hrel
        have Hy := hide hy
        clear hy
        cases hin : inB x 0 (n - 1)
        · have hi := inB_no.1 hin
          rw [if_pos (by omega)] at hrel
          have Hrel := hide hrel
          have Hin := hide hin
          clear hrel hin
          go_wp2
          go_quiet ((go_at_call 25; exact same_call (Hc.out _ _ Hin.out _)))
          go_wp2
          go_ret
          exact ⟨by rw [Hrel.out]; rfl, hq.drewN _⟩
        · have hi := inB_iff.1 hin
          have Hin := hide hin
          by_cases hxy : x ≤ y
          · rw [if_pos (by omega)] at hrel
            have Hrel := hide hrel
            clear hrel hin
            go_wp2
            go_quiet ((go_at_call 25; exact same_call (Hc.out _ _ Hin.out _)))
            go_wp2
            go_ret
            exact ⟨by rw [Hrel.out]; rfl, hq.drewN _⟩
          · rw [if_neg (by omega)] at hrel
            have Hrel := hide hrel
            clear hrel hin
            go_wp2
            go_quiet ((go_at_call 25; exact same_call (Hc.out _ _ Hin.out _)))
            go_wp2
            go_roundw
            case rel => exact ⟨j + 2, by omega, by go_num, hq.drewN _, by rw [Hrel.out]; simp [Hx.out]⟩
            case measure => simp [intOf]; omega
    · obtain rfl : k = m := by omega
      rw [List.drop_of_length_le (by rw [h.len]; omega), setOk_nil] at hrel
      have Hrel := hide hrel
      clear hrel
      go_wp2
      go_ret
      exact ⟨by rw [Hrel.out]; rfl, hq⟩
end Go.Proofs.Ytgenpcokpodhkaa
