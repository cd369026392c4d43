/- The reference on sets and tasks: IsSet, Disjoint, TaskFault. -/
import Derived.Test.YtnfeknfakkdbhaaTk3
import Derived.BigQuiet
namespace Go.Proofs.Ytnfeknfakkdbhaa
set_option linter.unusedVariables false
set_option linter.unusedSimpArgs false
open Go.RowKit

set_option maxHeartbeats 1600000 in
theorem RIsSet_ct (A : Option Addr) (m c : Nat) (set : List Int) (n : Int) (w : World) (h : Rd Enc.int w A m c set) (hn : -9223372036854775807 ≤ n ∧ n ≤ 9223372036854775807) :
    Calls Try.prog 60 #[.slice A m c, .int .i64 n] w (Quiet w (.bool (setB n set))) := by
  have hsm := h.low
  have hcap := h.cap
  have Hl := hide h.len
  go_enter Try.func60, Try.ntmps60
  go_wp2
  go_loopw [5] (fun i wr => ∃ k : Nat, k ≤ m ∧ i = .int .i64 k ∧ Qt w wr ∧ setB n (set.take k) = true) (fun i _ => m - (intOf i).toNat)
  case atStart => exact ⟨0, by omega, rfl, Qt.refl _, by simp [setB]⟩
  case round =>
    obtain ⟨k, hk, rfl, hq, hset⟩ := hrel
    have Hset := hide hset
    clear hset
    have hc : ∀ (x : Int) (b : Bool), inB x 0 (n - 1) = b → ∀ W, Calls Try.prog 37 #[.int .i64 x, .int .i64 0, .int .i64 (n - 1)] W (Same W (.bool b)) := by
      intro x b hb W
      have := In_ct x 0 (n - 1) W
      rwa [hb] at this
    have Hc := hide hc
    clear hc
    by_cases hlt : k < m
    · obtain ⟨b, off, x, rfl, hx, hxl, hxh, hcx⟩ := (h.qt hq).int hlt
      have Hx := hide hx
      clear hx
      have hwr : IntKind.i64.wrap (n - 1) = n - 1 := by rw [IntWalk.i64_in _ (by omega)]
      cases hin : inB x 0 (n - 1) with
      | false =>
        have hi := inB_no.1 hin
        have Hin := hide hin
        have Hi := hide hi
        clear hin hi
        rcases Nat.eq_zero_or_pos k with hk0 | hk0
        · subst hk0
          rw [Nat.add_zero] at hcx
          go_wp2
          go_quiet ((go_at_call 37; exact same_call (Hc.out _ _ Hin.out _)))
          go_wp2
          go_ret
          refine ⟨ret_bool ?_, hq.drewN _⟩
          rw [eq_comm, ← Bool.not_eq_true]
          intro hs
          have := setB_at hs Hx.out
          have := Hi.out
          omega
        · obtain ⟨j, rfl⟩ : ∃ j, k = j + 1 := ⟨k - 1, by omega⟩
          obtain ⟨b', off', y, e, hy, hyl, hyh, hcy⟩ := (h.qt hq).int (show j < m by omega)
          injection e with e
          injection e with e1 e2
          subst e1 e2
          clear hy
          go_wp2
          go_quiet ((go_at_call 37; exact same_call (Hc.out _ _ Hin.out _)))
          go_wp2
          go_ret
          refine ⟨ret_bool ?_, hq.drewN _⟩
          rw [eq_comm, ← Bool.not_eq_true]
          intro hs
          have := setB_at hs Hx.out
          have := Hi.out
          omega
      | true =>
        have hi := inB_iff.1 hin
        have Hin := hide hin
        have Hi := hide hi
        clear hin hi
        rcases Nat.eq_zero_or_pos k with hk0 | hk0
        · subst hk0
          rw [Nat.add_zero] at hcx
          go_wp2
          go_quiet ((go_at_call 37; exact same_call (Hc.out _ _ Hin.out _)))
          go_wp2
          go_roundw
          case rel => exact ⟨1, by omega, by go_num, hq.drewN _, setB_succ (by omega) Hset.out Hx.out (by have := Hi.out; omega) (by have := Hi.out; omega) (fun y h => by omega)⟩
          case measure => simp [intOf]; omega
        · obtain ⟨j, rfl⟩ : ∃ j, k = j + 1 := ⟨k - 1, by omega⟩
          obtain ⟨b', off', y, e, hy, hyl, hyh, hcy⟩ := (h.qt hq).int (show j < m by omega)
          injection e with e
          injection e with e1 e2
          subst e1 e2
          have Hy := hide hy
          clear hy
          by_cases hxy : x ≤ y
          · go_wp2
            go_quiet ((go_at_call 37; exact same_call (Hc.out _ _ Hin.out _)))
            go_wp2
            go_ret
            refine ⟨ret_bool ?_, hq.drewN _⟩
            rw [eq_comm, ← Bool.not_eq_true]
            intro hs
            have := (setB_at hs Hx.out).2.2 y (by omega) Hy.out
            omega
          · go_wp2
            go_quiet ((go_at_call 37; exact same_call (Hc.out _ _ Hin.out _)))
            go_wp2
            go_roundw
            case rel => exact ⟨j + 2, by omega, by go_num, hq.drewN _, setB_succ (by rw [Hl.out]; omega) Hset.out Hx.out (by have := Hi.out; omega) (by have := Hi.out; omega) (fun z _ hz => by
              have e := Hy.out.symm.trans hz
              injection e with e
              omega)⟩
            case measure => simp [intOf]; omega
    · obtain rfl : k = m := by omega
      go_wp2
      go_ret
      refine ⟨ret_bool ?_, hq⟩
      have := Hset.out
      rw [List.take_of_length_le (by rw [Hl.out]; omega)] at this
      exact this.symm
set_option maxHeartbeats 800000 in
theorem RDisjoint_ct (A B : Option Addr) (n c m d : Nat) (xs ys : List Int) (w : World) (h : Rd Enc.int w A n c xs) (g : Rd Enc.int w B m d ys) :
    Calls Try.prog 61 #[.slice A n c, .slice B m d] w (Same w (.bool (!meetB xs ys))) := by
  have hsm := h.low
  have Hl := hide h.len
  go_enter Try.func61, Try.ntmps61
  go_wp2
  go_loop [5] (fun i => ∃ k : Nat, k ≤ n ∧ i = .int .i64 k ∧ meetB xs ys = meetB (xs.drop k) ys) (fun i => n - (intOf i).toNat)
  case atStart => exact ⟨0, by omega, rfl, by simp⟩
  case round =>
    obtain ⟨k, hk, rfl, hrel⟩ := hrel
    have Hrel := hide hrel
    clear hrel
    by_cases hlt : k < n
    · obtain ⟨b, off, x, rfl, hx, hx1, hx2, hcx⟩ := h.int hlt
      have Hd := hide (drop_cons hx)
      clear hx
      obtain ⟨hb, hhb⟩ : ∃ hb, hb = hasB ys x := ⟨_, rfl⟩
      have hct := Has_ct B m d ys x w g
      rw [← hhb] at hct
      have Hct := hide hct
      have Hhb := hide hhb
      clear hct hhb
      cases hb with
      | true =>
        go_wp2_with (go_at_call 62; refine Hct.out.mono ?_; rintro e w1 ⟨rfl, rfl⟩)
        go_ret
        refine ⟨ret_bool ?_, rfl⟩
        rw [Hrel.out, Hd.out, meetB, List.any_cons, ← Hhb.out]
        rfl
      | false =>
        go_wp2_with (go_at_call 62; refine Hct.out.mono ?_; rintro e w1 ⟨rfl, rfl⟩)
        go_round
        case rel =>
          refine ⟨k + 1, by omega, by go_num, ?_⟩
          rw [Hrel.out, Hd.out, meetB, List.any_cons, ← Hhb.out, Bool.false_or]
          rfl
        case measure => simp [intOf]; omega
    · go_wp2
      go_ret
      refine ⟨ret_bool ?_, rfl⟩
      rw [Hrel.out, List.drop_of_length_le (by rw [Hl.out]; omega)]
      rfl
end Go.Proofs.Ytnfeknfakkdbhaa
