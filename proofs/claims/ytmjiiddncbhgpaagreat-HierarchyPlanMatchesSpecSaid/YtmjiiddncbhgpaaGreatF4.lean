/- The law HierarchyPlanMatchesSpec of the package hierarchy holds, without a condition., part 4: Sw1 Sw2. -/
import Derived.Test.YtmjiiddncbhgpaaGreatF1
import Derived.Test.YtmjiiddncbhgpaaGreatF2
import Derived.BigQuiet
import Derived.Deep.AppendLies
import Derived.Deep.Draws
import Derived.Deep.Fields
import Derived.Deep.LoopGhost
import Derived.Deep.QuietTactic
import Derived.Deep.Slices
import Derived.Laws.AppendOwnNone
import Derived.Laws.BitsAllLaws
import Derived.Laws.OwnMore
import Derived.Lib.Hide
import Derived.Lib.SlicesCompact
import Derived.Test.YtmjiiddncbhgpaaGreatProg
import Derived.WalkKit
namespace Go.Proofs.YtmjiiddncbhgpaaGreat
set_option linter.unusedVariables false
set_option linter.unusedSimpArgs false
open Go.RowKit
theorem word_succ {l : List Int} {k : Nat} {x : Int} (h : l[k]? = some x) : wordF (l.take (k + 1)) = wordF (l.take k) ||| 1 <<< x.toNat := by
  unfold wordF
  rw [List.take_add_one, h]
  simp
theorem shl_u32 {x : Int} (h0 : 0 ≤ x) (h1 : x < 32) : ((2 : Int) ^ x.toNat % (4294967296 : Int)) = (((1 <<< x.toNat) : Nat) : Int) := by
  have hp : 2 ^ x.toNat < 4294967296 := by have := Nat.pow_lt_pow_right (a := 2) (by omega) (show x.toNat < 32 by omega); simpa using this
  rw [Nat.one_shiftLeft]
  have e : ((2 : Int) ^ x.toNat) = ((2 ^ x.toNat : Nat) : Int) := by simp
  rw [e]
  exact Int.emod_eq_of_lt (Int.natCast_nonneg _) (Int.ofNat_lt.2 hp)
set_option maxHeartbeats 1600000 in
theorem Word_ct (A : Option Addr) (m c : Nat) (l : List Int) (w : World) (h : Rd Enc.int w A m c l) (hr : ∀ x ∈ l, 0 ≤ x ∧ x < 32) :
    Calls Tryz.prog 39 #[.slice A m c] w (Same w (.int .u32 (wordF l))) := by
  have hsm := h.low
  have hcap := h.cap
  have Hl := hide h.len
  have Hr := hide hr
  clear hr
  go_enter Tryz.func39, Tryz.ntmps39
  go_wp2
  go_loopw [3, 8] (fun v i wr => ∃ k : Nat, k ≤ m ∧ i = .int .i64 k ∧ wr = w ∧ v = .int .u32 (wordF (l.take k))) (fun _ i _ => m - (intOf i).toNat)
  case atStart => exact ⟨0, by omega, rfl, rfl, by simp [wordF]⟩
  case round =>
    obtain ⟨k, hk, rfl, rfl, rfl⟩ := hrel
    by_cases hlt : k < m
    · obtain ⟨b, off, x, rfl, hx, hxl, hxh, hcx⟩ := h.int hlt
      obtain ⟨h0, h1⟩ := Hr.out x (List.mem_of_getElem? hx)
      have hw : wordF (l.take k) < 4294967296 := word_lt fun y hy => Hr.out y (List.mem_of_mem_take hy)
      have hw1 : 1 <<< x.toNat < 4294967296 := by
        rw [Nat.one_shiftLeft]
        have := Nat.pow_lt_pow_right (a := 2) (by omega) (show x.toNat < 32 by omega)
        simpa using this
      have Hs := hide (word_succ hx)
      have hsh := shl_u32 h0 h1
      have hor := u32_or_nat _ _ hw hw1
      clear hx hw hw1
      generalize wordF (l.take k) = W at *
      generalize 1 <<< x.toNat = X at *
      go_wp2
      go_roundw
      case rel => exact ⟨k + 1, by omega, by go_num, trivial, by rw [Hs.out]⟩
      case measure => simp [intOf]; omega
    · obtain rfl : k = m := by omega
      go_wp2
      go_ret
      refine ⟨?_, rfl⟩
      rw [List.take_of_length_le (by rw [Hl.out]; omega)]
      rfl
end Go.Proofs.YtmjiiddncbhgpaaGreat
namespace Go.Proofs.YtmjiiddncbhgpaaGreat
set_option linter.unusedVariables false
set_option linter.unusedSimpArgs false
open Go.RowKit
theorem word_small {l : List Int} {x : Int} (h0 : ∀ y ∈ l, 0 ≤ y ∧ y < x) : wordF l < 2 ^ x.toNat := by
  refine Nat.lt_pow_two_of_testBit _ fun i hi => ?_
  rw [word_bit fun y hy => (h0 y hy).1]
  simp only [decide_eq_false_iff_not]
  intro hm
  have := h0 _ hm
  omega
/-- a greater fact's bit is added -/
theorem word_add {l : List Int} {k : Nat} {x : Int} (hl : setB 32 l = true) (h : l[k]? = some x) : wordF (l.take (k + 1)) = wordF (l.take k) + 2 ^ x.toNat := by
  obtain ⟨hk, hxe⟩ := List.getElem?_eq_some_iff.1 h
  have hsm : wordF (l.take k) < 2 ^ x.toNat := word_small fun y hy => by
    refine ⟨((setB_iff.1 hl).2 y (List.mem_of_mem_take hy)).1, ?_⟩
    obtain ⟨j, hj, rfl⟩ := List.getElem_of_mem hy
    rw [List.getElem_take, ← hxe]
    have hj2 : j < k := by simp only [List.length_take] at hj; omega
    exact List.pairwise_iff_getElem.1 (setB_iff.1 hl).1 j k (by omega) hk hj2
  rw [word_succ h, Nat.one_shiftLeft]
  have := Nat.two_pow_add_eq_or_of_lt hsm 1
  rw [Nat.mul_one] at this
  rw [Nat.or_comm, ← this, Nat.add_comm]
/-- a shift by its own law -/
theorem wpList_shlV {P : Program} {w : World} {ops : Array Oper} {rest : List Oper} {o : Oper} {a : Act} {Q : Exit → Act → World → Prop} (hg : o.guard = none) {t yt : TypeId} {x y : Operand} {v : Value} (hop : o.op = Op.binOp .shl t x y yt) {k yk : IntKind} {A B : Int} (hx : a.eval x = .int k A) (hy : a.eval y = .int yk B)
    (hs : Op.shift .shl k A yk B = pure v) (hK : wpList P ops Q rest (a.put o.dst v) w) : wpList P ops Q (o :: rest) a w := by
  refine wpList_plain hg fun K' hK' => ?_
  unfold Oper.wp
  simp [execOp, hop, hx, hy, eqGuard, binOp, hs, Result.andThen]
  exact hK' _ _ hK
set_option maxRecDepth 100000 in
set_option maxHeartbeats 1600000 in
theorem RWord_ct (A : Option Addr) (m c : Nat) (l : List Int) (w : World) (h : Rd Enc.int w A m c l) (hr : setB 32 l = true) :
    Calls Tryz.prog 103 #[.slice A m c] w (Same w (.int .i64 (wordF l))) := by
  have hsm := h.low
  have hcap := h.cap
  have Hl := hide h.len
  have Hr := hide hr
  clear hr
  go_enter Tryz.func103, Tryz.ntmps103
  go_wp2
  go_loopw [3, 4] (fun v i wr => ∃ k : Nat, k ≤ m ∧ i = .int .i64 k ∧ wr = w ∧ v = .int .i64 (wordF (l.take k))) (fun _ i _ => m - (intOf i).toNat)
  case atStart => exact ⟨0, by omega, rfl, rfl, by simp [wordF]⟩
  case round =>
    obtain ⟨k, hk, rfl, rfl, rfl⟩ := hrel
    by_cases hlt : k < m
    · obtain ⟨b, off, x, rfl, hx, hxl, hxh, hcx⟩ := h.int hlt
      obtain ⟨h0, h1⟩ := (setB_iff.1 Hr.out).2 x (List.mem_of_getElem? hx)
      have hw : wordF (l.take k) < 4294967296 := word_lt fun y hy => (setB_iff.1 Hr.out).2 y (List.mem_of_mem_take hy)
      have hp : 2 ^ x.toNat < 4294967296 := by
        have := Nat.pow_lt_pow_right (a := 2) (by omega) (show x.toNat < 32 by omega)
        simpa using this
      have Hs := hide (word_add Hr.out hx)
      obtain ⟨X, hX⟩ : ∃ X, X = 2 ^ x.toNat := ⟨_, rfl⟩
      have e : ((2 : Int) ^ x.toNat) = (X : Int) := by rw [hX]; simp
      rw [← hX] at hp Hs
      have hsh : Op.shift .shl .i64 1 .u64 x = pure (.int .i64 X) := by
        rw [shift_shl_any _ _ _ _ h0]
        have hm : min x.toNat IntKind.i64.bits = x.toNat := Nat.min_eq_left (by show x.toNat ≤ 64; omega)
        rw [hm, Int.one_mul, e, IntWalk.i64_in _ (by omega)]
      clear hx
      generalize wordF (l.take k) = W at *
      have Hsh := hide hsh
      clear hsh hX e
      go_wp2_with (refine wpList_shlV rfl rfl rfl rfl Hsh.out ?_)
      go_roundw
      case rel => exact ⟨k + 1, by omega, by go_num, trivial, by rw [Hs.out]; simp⟩
      case measure => simp [intOf]; omega
    · obtain rfl : k = m := by omega
      go_wp2
      go_ret
      refine ⟨?_, rfl⟩
      rw [List.take_of_length_le (by rw [Hl.out]; omega)]
      try rfl
end Go.Proofs.YtmjiiddncbhgpaaGreat
