/- Contracts of the reference's SameDiagram and of the laws' node. -/
import Derived.Test.YtgenpcokpodhkaaDia12
namespace Go.Proofs.Ytgenpcokpodhkaa
open Go.RowKit Go.Maps

def sameD (L : Int) (ns : List DI) (r L2 : Int) (ns2 : List DI) (r2 : Int) : Bool := decide (L = L2 ∧ r = r2 ∧ ns = ns2)
set_option maxHeartbeats 1600000 in
theorem SameDiagram_ct (L : Int) (A : Option Addr) (n c : Nat) (ns : List DI) (r L2 : Int) (A2 : Option Addr) (n2 c2 : Nat) (ns2 : List DI) (r2 : Int) (w : World) (h : Rd Enc.node w A n c ns) (h2 : Rd Enc.node w A2 n2 c2 ns2) :
    Calls Try.prog 34 #[.agg #[.int .i64 L, .slice A n c, .int .i64 r], .agg #[.int .i64 L2, .slice A2 n2 c2, .int .i64 r2]] w (Gives w (.bool (sameD L ns r L2 ns2 r2))) := by
  have hl := h.len
  have hl2 := h2.len
  have hcap := h.cap
  have hcs := h.small
  have hcap2 := h2.cap
  have hcs2 := h2.small
  have hbel := below_two w (.cells #[.int .i64 L, .slice A n c, .int .i64 r] 30) (.cells #[.int .i64 L2, .slice A2 n2 c2, .int .i64 r2] 30)
  by_cases hno : L = L2 ∧ r = r2 ∧ n = n2
  · obtain ⟨rfl, rfl, rfl⟩ := hno
    have hb1 := Blk.new w 30 [.int .i64 L, .slice A n c, .int .i64 r]
    have hb2 := Blk.new (w.alloc (.cells #[.int .i64 L, .slice A n c, .int .i64 r] 30)) 30 [.int .i64 L, .slice A2 n c2, .int .i64 r]
    simp only [World.size_alloc] at hb2
    have Hrd := hide h
    have Hrd2 := hide h2
    have Hb1 := hide (hb1.alloc (.cells #[.int .i64 L, .slice A2 n c2, .int .i64 r] 30))
    have Hb2 := hide hb2
    have Hbel := hide hbel
    clear h h2 hb1 hb2 hbel
    go_enter Try.func34, Try.ntmps34
    go_wp2
    go_loopw [5] (fun i wr => ∃ k : Nat, k ≤ n ∧ i = .int .i64 k ∧ Qt ((w.alloc (.cells #[.int .i64 L, .slice A n c, .int .i64 r] 30)).alloc (.cells #[.int .i64 L, .slice A2 n c2, .int .i64 r] 30)) wr ∧ ns.take k = ns2.take k) (fun i _ => n - (intOf i).toNat)
    case atStart => exact ⟨0, by omega, rfl, Qt.refl _, by simp⟩
    case round =>
      obtain ⟨k, hk, rfl, hq, hrel⟩ := hrel
      have hx1 := Hb1.out.qt hq
      have hx2 := Hb2.out.qt hq
      have x1 := hx1.cell 1
      have y1 := hx2.cell 1
      have xl := hx1.lt
      have yl := hx2.lt
      simp only [List.getElem?_cons_zero, List.getElem?_cons_succ] at x1 y1
      have hbr := Hbel.out.trans (hq.below _)
      by_cases hlt : k < n
      · obtain ⟨b, off, y, rfl, hy, hc0, hc1, hc2, _, hbw⟩ := (Hrd.out.keep hbr).node hlt
        obtain ⟨b', off', z, rfl, hz, hd0, hd1, hd2, _, hbw'⟩ := (Hrd2.out.keep hbr).node hlt
        obtain ⟨y0, z0, y2⟩ := y
        obtain ⟨v0, v1, v2⟩ := z
        simp only at hc0 hc1 hc2 hd0 hd1 hd2
        have heq := eqNode y0 z0 y2 v0 v1 v2
        have Hrel := hide hrel
        have Hq := hide hq
        have Hbr := hide hbr
        have Hy := hide hy
        have Hz := hide hz
        clear hrel hq hbr hy hz hx1 hx2
        by_cases he : (y0, z0, y2) = (v0, v1, v2)
        · have hr : ns.take (k + 1) = ns2.take (k + 1) := by rw [List.take_add_one, List.take_add_one, Hrel.out, Hy.out, Hz.out, he]
          have Hr := hide hr
          rw [decide_eq_true he] at heq
          clear hr he
          go_wp2_with fail
          go_quiet (fail)
          go_wp2
          go_roundw
          case rel => exact ⟨k + 1, by omega, by go_num, Hq.out.drewN _, Hr.out⟩
          case measure => simp [intOf]; omega
        · have hr : sameD L ns r L ns2 r = false := decide_eq_false (fun e => he (by
            have h1 := Hy.out
            rw [e.2.2, Hz.out] at h1
            exact (Option.some.inj h1).symm))
          have Hr := hide hr
          rw [decide_eq_false he] at heq
          clear hr he
          go_wp2_with fail
          go_quiet (fail)
          go_wp2
          go_ret
          exact ⟨ret_bool Hr.out.symm, below_drewN Hbr.out _⟩
      · have hr : sameD L ns r L ns2 r = true := by
          rw [List.take_of_length_le (by omega), List.take_of_length_le (by omega)] at hrel
          exact decide_eq_true ⟨rfl, rfl, hrel⟩
        have Hr := hide hr
        have Hbr := hide hbr
        clear hrel hq hr hbr hx1 hx2
        go_wp2
        go_ret
        exact ⟨ret_bool Hr.out.symm, Hbr.out⟩
  · have hr : sameD L ns r L2 ns2 r2 = false := decide_eq_false (fun e => hno ⟨e.1, e.2.1, by rw [← hl, ← hl2, e.2.2]⟩)
    have Hr := hide hr
    have Hbel := hide hbel
    clear hr h h2 hbel
    rcases (show L ≠ L2 ∨ (L = L2 ∧ r ≠ r2) ∨ (L = L2 ∧ r = r2 ∧ n ≠ n2) by omega) with hz | ⟨hz0, hz⟩ | ⟨hz0, hz1, hz⟩
    · have hb : (L == L2) = false := by rw [beq_eq_false_iff_ne]; exact hz
      clear hno
      go_enter Try.func34, Try.ntmps34
      go_wp2
      go_ret
      exact ⟨ret_bool Hr.out.symm, Hbel.out⟩
    · subst hz0
      have hb : (r == r2) = false := by rw [beq_eq_false_iff_ne]; exact hz
      clear hno
      go_enter Try.func34, Try.ntmps34
      go_wp2
      go_ret
      exact ⟨ret_bool Hr.out.symm, Hbel.out⟩
    · subst hz0 hz1
      have hb : ((n : Int) == (n2 : Int)) = false := by rw [beq_eq_false_iff_ne]; omega
      clear hno
      go_enter Try.func34, Try.ntmps34
      go_wp2
      go_ret
      exact ⟨ret_bool Hr.out.symm, Hbel.out⟩

set_option maxHeartbeats 800000 in
theorem node_ct (w : World) : Calls Try.prog 35 #[] w (GivesD w 1 [(0, 0, 1)] 2) := by
  go_enter Try.func35, Try.ntmps35
  go_wp2
  have hb := below_two w (.cells #[.int .i64 1, .slice (some ⟨w.heap.size + 1, 0, none⟩) 1 1, .int .i64 2] 30) (.cells #[.int .i64 0, .int .i64 0, .int .i64 1] 69)
  have ho := World.ownsRow_lit (base := w.heap.size) (e := 69) (size := 3) (w.alloc (.cells #[.int .i64 1, .slice (some ⟨w.heap.size + 1, 0, none⟩) 1 1, .int .i64 2] 30)) #[.int .i64 0, .int .i64 0, .int .i64 1] 1 (by simp) (by unfold maxLen; omega) rfl
  have hrd := own_rdN (l := [(0, 0, 1)]) ho rfl (by intro x hx; simp at hx; subst hx; simp)
  simp only [World.size_alloc] at hrd
  refine bodyPost_ret (v := .agg #[.int .i64 1, .slice (some ⟨w.heap.size + 1, 0, none⟩) 1 1, .int .i64 2]) (by simp [results, Try.results35, go_sem]) rfl ?_
  exact ⟨⟨_, 1, 1, rfl, hrd, fun b off e => by simp at e; omega⟩, hb⟩
end Go.Proofs.Ytgenpcokpodhkaa
