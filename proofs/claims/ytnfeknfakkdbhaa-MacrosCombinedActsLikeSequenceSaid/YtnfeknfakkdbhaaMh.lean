/- The reference: the cost of a plan. -/
import Derived.Test.YtnfeknfakkdbhaaMf
namespace Go.Proofs.Ytnfeknfakkdbhaa
set_option linter.unusedVariables false
set_option linter.unusedSimpArgs false
open Go.RowKit

def costF (os : List Opr) (l : List Int) : Int := (l.map fun x => (opAt os x).cost).sum
theorem costF_succ {os : List Opr} {l : List Int} {k : Nat} {x : Int} (h : l[k]? = some x) : costF os (l.take (k + 1)) = costF os (l.take k) + (opAt os x).cost := by
  unfold costF
  rw [List.take_add_one, h]
  simp
set_option maxRecDepth 100000 in
set_option maxHeartbeats 3200000 in
theorem CostOf_ct (a : TA) (T : Tsk) (B : Option Addr) (m d : Nat) (l : List Int) (w : World) (h : TkR w a T) (hc : ∀ o ∈ T.ops, 0 ≤ o.cost ∧ o.cost ≤ 100) (hl : Rd Enc.int w B m d l) (hm : m ≤ 1000) (hr : ∀ x ∈ l, 0 ≤ x ∧ x < T.ops.length) :
    Calls Try.prog 63 #[.agg #[.int .i64 T.facts, .slice a.I a.nI a.cI, .slice a.G a.nG a.cG, .slice a.O a.nO a.cO], .slice B m d] w (Gives w (.int .i64 (costF T.ops l))) := by
  obtain ⟨I, nI, cI, G, nG, cG, O, nO, cO⟩ := a
  obtain ⟨_, hi, hg, ho⟩ := h
  simp only at hi hg ho ⊢
  have hlo := ho.low
  have hB := Blk.new w 25 [.int .i64 T.facts, .slice I nI cI, .slice G nG cG, .slice O nO cO]
  have hbw : Below w.heap.size w (w.alloc (.cells #[.int .i64 T.facts, .slice I nI cI, .slice G nG cG, .slice O nO cO] 25)) := (Below.refl _ _).alloc (Nat.le_refl _) _
  have Hll := hide hl.len
  have Hlo := hide ho.len
  have Ho := hide (ho.keep hbw)
  have Hl := hide (hl.keep hbw)
  have Hc := hide hc
  have Hr := hide hr
  have HB := hide hB
  have Hbw := hide hbw
  clear hi hg ho hl hc hr hB hbw
  go_enter Try.func63, Try.ntmps63
  go_upto_region 1 with (fail)
  obtain ⟨W0, hW0⟩ : ∃ W0, W0 = w.alloc (.cells #[.int .i64 T.facts, .slice I nI cI, .slice G nG cG, .slice O nO cO] 25) := ⟨_, rfl⟩
  rw [← hW0] at Ho Hl HB Hbw ⊢
  clear hW0
  generalize w.heap.size = gT at HB ⊢
  go_wp2_with fail
  go_loopw [5, 6] (fun n i wr => ∃ (k : Nat) (s : Int), k ≤ m ∧ i = .int .i64 k ∧ n = .int .i64 s ∧ s = costF T.ops (l.take k) ∧ 0 ≤ s ∧ s ≤ 100 * (k : Int) ∧ Qt W0 wr) (fun _ i _ => m - (intOf i).toNat)
  case atStart => exact ⟨0, 0, by omega, rfl, rfl, by simp [costF], by omega, by simp, Qt.refl _⟩
  case round =>
    obtain ⟨k, s, hk, rfl, rfl, hs, hs0, hs1, hq⟩ := hrel
    have Hs := hide hs
    obtain ⟨f0, f1, f2, f3⟩ := (HB.out.qt hq).cell4
    have Hq := hide hq
    clear hs hq
    by_cases hlt : k < m
    · obtain ⟨b, off, x, rfl, hx, hx1, hx2, hcx⟩ := (Hl.out.qt Hq.out).int hlt
      have hxr := Hr.out x (List.mem_of_getElem? hx)
      obtain ⟨q, rfl⟩ : ∃ q : Nat, x = (q : Int) := ⟨x.toNat, by omega⟩
      have hqn : q < nO := by have := Hlo.out; omega
      obtain ⟨b', off', o, B1, m1, d1, B2, m2, d2, B3, m3, d3, rfl, hoq, g0, g1, g2, g3, r1, r2, r3, r4⟩ := (Ho.out.qt Hq.out).op hqn
      have hco := Hc.out o (List.mem_of_getElem? hoq)
      obtain ⟨hc0, hc1⟩ := hco
      have Hstep := hide (show costF T.ops (l.take (k + 1)) = s + o.cost by rw [costF_succ hx, opAt_eq hoq, Hs.out])
      clear hx hoq r1 r2 r3 r4 hxr
      go_wp2
      go_quiet (fail)
      go_wp2
      go_roundw
      case rel => exact ⟨k + 1, s + o.cost, by omega, by go_num, by go_num, Hstep.out.symm, by omega, by omega, Hq.out.drewN _⟩
      case measure => simp [intOf]; omega
    · obtain rfl : k = m := by omega
      have hs9 := Hs.out
      rw [List.take_of_length_le (by rw [Hll.out]; omega)] at hs9
      have Hs9 := hide hs9
      clear hs9
      go_wp2
      go_ret
      exact ⟨ret_int Hs9.out, Hbw.out.trans (Hq.out.below _)⟩
end Go.Proofs.Ytnfeknfakkdbhaa
