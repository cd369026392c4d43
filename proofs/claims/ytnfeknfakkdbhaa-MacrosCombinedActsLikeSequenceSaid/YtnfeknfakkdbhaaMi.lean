/- Plans with macros written out: in plain Lean; by the reference. -/
import Derived.Test.YtnfeknfakkdbhaaMf
import Derived.Test.YtnfeknfakkdbhaaMc5
namespace Go.Proofs.Ytnfeknfakkdbhaa
set_option linter.unusedVariables false
set_option linter.unusedSimpArgs false
open Go.RowKit

def pieceF (n : Nat) (ms : List (List Int)) (x : Int) : List Int := if x < n then [x] else ms.getD (x - n).toNat []
def expandF (n : Nat) (ms : List (List Int)) (l : List Int) : List Int := l.flatMap (pieceF n ms)
theorem expand_succ {n : Nat} {ms : List (List Int)} {l : List Int} {k : Nat} {x : Int} (h : l[k]? = some x) : expandF n ms (l.take (k + 1)) = expandF n ms (l.take k) ++ pieceF n ms x := by
  unfold expandF
  rw [List.take_add_one, h]
  simp
theorem piece_low {n : Nat} {ms : List (List Int)} {x : Int} (h : x < n) : pieceF n ms x = [x] := if_pos h
theorem piece_high {n : Nat} {ms : List (List Int)} {j : Nat} {q : List Int} (h : ms[j]? = some q) : pieceF n ms ((n + j : Nat) : Int) = q := by
  unfold pieceF
  rw [if_neg (by omega)]
  have : (((n + j : Nat) : Int) - (n : Int)).toNat = j := by omega
  rw [this, List.getD_eq_getElem?_getD, h]
  rfl
theorem expand_len {n : Nat} {ms : List (List Int)} (h : ∀ q ∈ ms, q.length ≤ 6) (l : List Int) : (expandF n ms l).length ≤ 6 * l.length := by
  unfold expandF
  induction l with
  | nil => simp
  | cons x l ih =>
    rw [List.flatMap_cons, List.length_append, List.length_cons]
    have : (pieceF n ms x).length ≤ 6 := by
      unfold pieceF
      split
      · simp
      · rw [List.getD_eq_getElem?_getD]
        cases e : ms[(x - n).toNat]? with
        | none => simp
        | some q => exact h q (List.mem_of_getElem? e)
    omega
set_option maxRecDepth 100000 in
set_option maxHeartbeats 3200000 in
theorem Expanded_ct (a : TA) (T : Tsk) (Bm : Option Addr) (mm dm : Nat) (ms : List (List Int)) (B : Option Addr) (m d : Nat) (l : List Int) (w : World) (h : TkR w a T) (hms : Rd (Enc.sl Enc.int) w Bm mm dm ms) (hl : Rd Enc.int w B m d l) (hm : m ≤ 60)
    (hr : ∀ x ∈ l, 0 ≤ x ∧ x < T.ops.length + ms.length) (h6 : ∀ q ∈ ms, q.length ≤ 6) :
    Calls Try.prog 27 #[.agg #[.int .i64 T.facts, .slice a.I a.nI a.cI, .slice a.G a.nG a.cG, .slice a.O a.nO a.cO], .slice Bm mm dm, .slice B m d] w (MadeI w (expandF T.ops.length ms l)) := by
  obtain ⟨i1, hi1, hy0, hy1, hy2⟩ := info_parts intInfoT
  obtain ⟨I, nI, cI, G, nG, cG, O, nO, cO⟩ := a
  obtain ⟨_, hi, hg, ho⟩ := h
  simp only at hi hg ho ⊢
  have hlo := ho.low
  have hlm := hms.low
  have hB := Blk.new w 25 [.int .i64 T.facts, .slice I nI cI, .slice G nG cG, .slice O nO cO]
  have hbw : Below w.heap.size w (w.alloc (.cells #[.int .i64 T.facts, .slice I nI cI, .slice G nG cG, .slice O nO cO] 25)) := (Below.refl _ _).alloc (Nat.le_refl _) _
  rw [ho.len] at hr ⊢
  rw [hms.len] at hr
  have Hll := hide hl.len
  have Hms := hide (hms.keep hbw)
  have Hl := hide (hl.keep hbw)
  have Hr := hide hr
  have H6 := hide h6
  have HB := hide hB
  have Hbw := hide hbw
  clear hi hg ho hl hms hr h6 hB hbw
  go_enter Try.func27, Try.ntmps27
  go_upto_region 1 with (fail)
  obtain ⟨W0, hW0⟩ : ∃ W0, W0 = w.alloc (.cells #[.int .i64 T.facts, .slice I nI cI, .slice G nG cG, .slice O nO cO] 25) := ⟨_, rfl⟩
  rw [← hW0] at Hms Hl HB Hbw ⊢
  clear hW0
  obtain ⟨gT, hgT⟩ : ∃ g, g = w.heap.size := ⟨_, rfl⟩
  rw [← hgT] at HB ⊢
  clear hgT
  go_wp2_with fail
  go_loopw [7, 8] (fun o i wr => ∃ (k : Nat) (O : Option Addr) (q oc : Nat) (vs : List Value), k ≤ m ∧ i = .int .i64 k ∧ o = .slice O q oc ∧ OwnE Enc.int 3 W0.heap.size (fun b => W0.heap.size ≤ b) wr O q oc vs (expandF nO ms (l.take k)) ∧ Below W0.heap.size W0 wr) (fun _ i _ => m - (intOf i).toNat)
  case atStart => exact ⟨0, none, 0, 0, [], by omega, rfl, rfl, OwnE.nil _ _ _ _ _, Below.refl _ _⟩
  case round =>
    obtain ⟨k, O', q, oc, vs, hk, rfl, rfl, hown, hb⟩ := hrel
    have hqk : q ≤ 6 * k := by
      rw [← hown.len]
      have := expand_len (n := nO) H6.out (l.take k)
      rw [List.length_take] at this
      omega
    obtain ⟨f0, f1, f2, f3⟩ := (HB.out.keep hb).cell4
    have Hown := hide hown
    have Hb := hide hb
    clear hown hb
    by_cases hlt : k < m
    · obtain ⟨b, off, x, rfl, hx, hx1, hx2, hcx⟩ := (Hl.out.keep Hb.out).int hlt
      have hxr := Hr.out x (List.mem_of_getElem? hx)
      obtain ⟨p, rfl⟩ : ∃ p : Nat, x = (p : Int) := ⟨x.toNat, by omega⟩
      have hst := expand_succ (n := nO) (ms := ms) hx
      by_cases hp : p < nO
      · rw [piece_low (by omega)] at hst
        have Hst := hide hst
        have hwr : IntKind.i64.wrap ((p : Int) - (nO : Int)) = (p : Int) - (nO : Int) := by rw [IntWalk.i64_in _ (by omega)]
        have hneg : (p : Int) - (nO : Int) < 0 := by omega
        clear hst hx hxr
        go_wp2
        go_quiet (fail)
        have Hown1 := hide (Hown.out.qt ((Qt.refl _).drewN nq))
        have Hb1 := hide (Hb.out.trans (((Qt.refl wr).drewN nq).below _))
        have hsz1 : W0.heap.size ≤ (wr.drewN nq).heap.size := Hb1.out.size
        clear Hown Hb
        go_wp2_with
          (at_builtin
           refine wpList_pushE rfl _ _ 22 rfl W0.heap.size 3 i1 (.int .i64 0) 8 Try.underlying22 hi1 hy0 hy1 hy2 rfl (by decide) rfl Hown1.out (fun r hr => (Hown1.out.base hr).1) [.int .i64 p] p (by intro u hu; simp at hu; subst hu; rfl) rfl (firm_int (by omega) (by omega)) (by omega) (by omega) hsz1 ?_
           intro O6 oc6 w6 hown6 hch6 hat6
           have hown6 := hown6.less (M' := fun b => W0.heap.size ≤ b) (fun i _ e => .inl e)
           have hb6 := row_below Hb1.out hsz1 hch6 (fun r hr => (Hown1.out.base hr).1)
           have Hown6 := hide hown6
           have Hb6 := hide hb6
           clear hown6 hch6 hat6 hb6)
        go_roundw
        case rel => exact ⟨k + 1, O6, q + 1, oc6, _, by omega, by go_num, rfl, by rw [Hst.out]; exact Hown6.out, Hb6.out⟩
        case measure => simp [intOf]; omega
      · obtain ⟨j, rfl⟩ : ∃ j, p = nO + j := ⟨p - nO, by omega⟩
        have hj : j < mm := by omega
        obtain ⟨b2, off2, q2, A2, n2, c2, rfl, hq2, hcq, hrq⟩ := (Hms.out.keep Hb.out).sl hj
        rw [piece_high hq2] at hst
        have hn2 : n2 ≤ 6 := by rw [← hrq.len]; exact H6.out _ (List.mem_of_getElem? hq2)
        have Hst := hide hst
        have Hrq := hide hrq
        have hwr : IntKind.i64.wrap (((nO + j : Nat) : Int) - (nO : Int)) = (j : Int) := by rw [IntWalk.i64_in _ (by omega)]; omega
        clear hst hx hxr hq2 hrq
        go_wp2
        go_quiet (fail)
        have Hown1 := hide (Hown.out.qt ((Qt.refl _).drewN nq))
        have Hb1 := hide (Hb.out.trans (((Qt.refl wr).drewN nq).below _))
        have Hq1 := hide (Hrq.out.qt ((Qt.refl _).drewN nq))
        have hsz1 : W0.heap.size ≤ (wr.drewN nq).heap.size := Hb1.out.size
        have hsz2 : (wr.drewN nq).heap.size = wr.heap.size := by simp
        have hsz3 := Hb.out.size
        clear Hown Hrq
        go_wp2_with
          (at_builtin
           refine wpList_appendE rfl _ _ 22 rfl W0.heap.size 3 i1 (.int .i64 0) 8 Try.underlying22 hi1 hy0 hy1 hy2 rfl (by decide) (fun _ _ _ h => one_int h) rfl Hown1.out (fun r hr => (Hown1.out.base hr).1) Hq1.out (Below.refl _ _) (fun us y hok _ => ?_) rfl (by omega) (by omega) hsz1 ?_
           · obtain ⟨e1, e2, e3⟩ := hok
             subst e1
             exact firm_int e2 e3
           intro O6 oc6 w6 vs6 hown6 hch6 hat6
           have hown6 := hown6.less (M' := fun b => W0.heap.size ≤ b) (fun i _ e => .inl e)
           have hb6 := row_below Hb1.out hsz1 hch6 (fun r hr => (Hown1.out.base hr).1)
           have Hown6 := hide hown6
           have Hb6 := hide hb6
           clear hown6 hch6 hat6 hb6)
        go_roundw
        case rel => exact ⟨k + 1, O6, q + n2, oc6, _, by omega, by go_num, rfl, by rw [Hst.out]; exact Hown6.out, Hb6.out⟩
        case measure => simp [intOf]; omega
    · obtain rfl : k = m := by omega
      have hown := Hown.out
      rw [List.take_of_length_le (by rw [Hll.out]; omega)] at hown
      have hq := hown.len
      have hints := own_low hown.ints Hbw.out.size
      have Hints := hide hints
      have Hq := hide hq
      clear hown hints hq
      go_wp2
      go_ret
      refine ⟨Hbw.out.trans (Hb.out.mono Hbw.out.size), O', oc, ?_, ?_⟩
      · rw [Hq.out]
        rfl
      · rw [Hq.out]
        exact Hints.out
end Go.Proofs.Ytnfeknfakkdbhaa
