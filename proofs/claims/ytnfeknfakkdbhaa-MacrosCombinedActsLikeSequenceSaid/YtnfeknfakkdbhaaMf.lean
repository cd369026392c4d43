/- The reference: the fault of a sequence, the cost of a plan. -/
import Derived.Test.YtnfeknfakkdbhaaMc3
namespace Go.Proofs.Ytnfeknfakkdbhaa
set_option linter.unusedVariables false
set_option linter.unusedSimpArgs false
open Go.RowKit

theorem anyF_succ {p : Int → Bool} {l : List Int} {k : Nat} {x : Int} (h : (l.take k).any p = false) (hx : l[k]? = some x) (hp : p x = false) : (l.take (k + 1)).any p = false := by
  rw [List.take_add_one, List.any_append, h, hx]
  simp [hp]
theorem inB_outB {k : Nat} {x : Int} : inB x 0 ((k : Int) - 1) = !outB k x := by
  rw [Bool.eq_iff_iff, inB_iff]
  unfold outB
  simp
  omega
set_option maxRecDepth 100000 in
set_option maxHeartbeats 3200000 in
theorem RMacroFault_ct (a : TA) (T : Tsk) (B : Option Addr) (m d : Nat) (l : List Int) (i : Int) (w : World) (h : TkR w a T) (hl : Rd Enc.int w B m d l) :
    Calls Try.prog 18 #[.agg #[.int .i64 T.facts, .slice a.I a.nI a.cI, .slice a.G a.nG a.cG, .slice a.O a.nO a.cO], .slice B m d, .int .i64 i] w (Gives w (fault (seqFault T.ops.length l i).1 (seqFault T.ops.length l i).2)) := by
  obtain ⟨I, nI, cI, G, nG, cG, O, nO, cO⟩ := a
  obtain ⟨_, hi, hg, ho⟩ := h
  simp only at hi hg ho ⊢
  have hlo := ho.low
  have hcap := hl.cap
  have hsm := hl.low
  have hlen := ho.len
  have hX := BxF.new w 25 [.int .i64 T.facts, .slice I nI cI, .slice G nG cG, .slice O nO cO] (.int .i64 0) (.int .i64 0)
  have hbw := below_two w (.cells #[.int .i64 T.facts, .slice I nI cI, .slice G nG cG, .slice O nO cO] 25) (.cells #[.int .i64 0, .int .i64 0] 29)
  rw [hlen]
  have Hlm := hide hl.len
  have HX := hide hX
  have Hbl := hide hbw
  have Hl := hide hl
  clear hX hbw hlen ho hi hg hl
  have At1 := hide (fun c W => At_ct c i W)
  obtain ⟨f0, f1, f2, f3⟩ := HX.out.cell4
  obtain ⟨y0, y1, y2, y3, y4, y5⟩ := HX.out.resf
  go_enter Try.func18, Try.ntmps18
  go_upto_region 1 with (fail)
  obtain ⟨W0, hW0⟩ : ∃ W0, W0 = (w.alloc (.cells #[.int .i64 T.facts, .slice I nI cI, .slice G nG cG, .slice O nO cO] 25)).alloc (.cells #[.int .i64 0, .int .i64 0] 29) := ⟨_, rfl⟩
  rw [← hW0] at HX Hbl f0 f1 f2 f3 y0 y1 y2 y3 y4 y5 ⊢
  clear hW0
  obtain ⟨gb, hgb⟩ : ∃ gb, gb = w.heap.size := ⟨_, rfl⟩
  rw [← hgb] at HX f0 f1 f2 f3 y0 y1 y2 y3 y4 y5 ⊢
  have Hgb := hide hgb
  clear hgb
  have hct := In_ct m 1 6 W0
  rcases e0 : inB m 1 6 with _ | _
  · rw [e0] at hct
    have hres : seqFault nO l i = (9, i) := by unfold seqFault; rw [Hlm.out, if_pos (by have := inB_no.1 e0; omega)]
    have Hr := hide hres
    clear e0 hres
    go_wp2_with fail
    refine hct.mono ?_
    rintro e w1 ⟨rfl, rfl⟩
    clear hct
    go_wp2_with fail
    refine (At1.out 9 _).mono ?_
    rintro e w9 ⟨rfl, hb⟩
    unfold fault
    replace HX := hide (HX.out.keep hb)
    replace Hbl := hide (Hbl.out.trans (hb.mono Hbl.out.size))
    clear hb f0 f1 f2 f3 y0 y1 y2 y3 y4 y5
    obtain ⟨f0, f1, f2, f3⟩ := HX.out.cell4
    obtain ⟨y0, y1, y2, y3, y4, y5⟩ := HX.out.resf
    go_wp2_with fail
    refine bodyPost_ret (v := fault 9 i) (by simp [results, Try.results18, go_sem, fault, y0, y1, y5]) rfl ⟨by rw [Hr.out], below_res2 Hbl.out (by have := Hgb.out; omega) _ _⟩
  · rw [e0] at hct
    have h01 := inB_iff.1 e0
    have hres : seqFault nO l i = if l.any (outB nO) = true then (3, i) else (0, 0) := by unfold seqFault; rw [Hlm.out, if_neg (by omega)]
    have Hres := hide hres
    clear e0 hres
    go_wp2_with fail
    refine hct.mono ?_
    rintro e w1 ⟨rfl, rfl⟩
    clear hct
    go_wp2_with fail
    go_loopw [7] (fun i wr => ∃ k : Nat, k ≤ m ∧ i = .int .i64 k ∧ Qt W0 wr ∧ (l.take k).any (outB nO) = false) (fun i _ => m - (intOf i).toNat)
    case atStart => exact ⟨0, by omega, rfl, Qt.refl _, by simp⟩
    case round =>
      obtain ⟨k, hk, rfl, hq, hset⟩ := hrel
      have Hset := hide hset
      have Hq := hide hq
      clear hset f0 f1 f2 f3 y0 y1 y2 y3 y4 y5
      obtain ⟨f0, f1, f2, f3⟩ := (HX.out.qt hq).cell4
      obtain ⟨y0, y1, y2, y3, y4, y5⟩ := (HX.out.qt hq).resf
      clear hq
      by_cases hlt : k < m
      · obtain ⟨b, off, x, rfl, hx, hx1, hx2, hcx⟩ := ((Hl.out.keep Hbl.out).qt Hq.out).int hlt
        have hwr : IntKind.i64.wrap ((nO : Int) - 1) = (nO : Int) - 1 := by rw [IntWalk.i64_in _ (by omega)]
        have hc : ∀ W, Calls Try.prog 37 #[.int .i64 x, .int .i64 0, .int .i64 ((nO : Int) - 1)] W (Same W (.bool (!outB nO x))) := by
          intro W
          have := In_ct x 0 ((nO : Int) - 1) W
          rwa [inB_outB] at this
        have Hx := hide hx
        rcases eo : outB nO x with _ | _
        · rw [eo] at hc
          have Hc := hide hc
          have Heo := hide eo
          clear hc hx eo
          go_wp2
          go_quiet ((go_at_call 37; exact same_call (Hc.out _)))
          go_wp2_with fail
          go_roundw
          case rel => exact ⟨k + 1, by omega, by go_num, Hq.out.drewN _, anyF_succ Hset.out Hx.out Heo.out⟩
          case measure => simp [intOf]; omega
        · rw [eo] at hc
          have Hc := hide hc
          have hres := Hres.out
          rw [if_pos (List.any_eq_true.2 ⟨x, List.mem_of_getElem? Hx.out, eo⟩)] at hres
          have Hr := hide hres
          clear hc hx eo hres
          go_wp2
          go_quiet ((go_at_call 37; exact same_call (Hc.out _)))
          go_wp2_with fail
          refine (At1.out 3 _).mono ?_
          rintro e w9 ⟨rfl, hb⟩
          unfold fault
          have HX9 := hide (((HX.out.qt Hq.out).qt ((Qt.refl _).drewN _)).keep hb)
          have Hbl9 := hide ((Hbl.out.trans ((Hq.out.drewN _).below _)).trans (hb.mono (Hbl.out.trans ((Hq.out.drewN _).below _)).size))
          clear hb f0 f1 f2 f3 y0 y1 y2 y3 y4 y5
          obtain ⟨f0, f1, f2, f3⟩ := HX9.out.cell4
          obtain ⟨y0, y1, y2, y3, y4, y5⟩ := HX9.out.resf
          go_wp2_with fail
          refine bodyPost_ret (v := fault 3 i) (by simp [results, Try.results18, go_sem, fault, y0, y1, y5]) rfl ⟨by rw [Hr.out], below_res2 Hbl9.out (by have := Hgb.out; omega) _ _⟩
      · obtain rfl : k = m := by omega
        have hres := Hres.out
        have hs := Hset.out
        rw [List.take_of_length_le (by rw [Hlm.out]; omega)] at hs
        rw [hs, if_neg (by simp)] at hres
        have Hr := hide hres
        clear hres hs
        go_wp2_with fail
        refine bodyPost_ret (v := fault 0 0) (by simp [results, Try.results18, go_sem, fault, y0, y1, y5]) rfl ⟨by rw [Hr.out], below_res2 (Hbl.out.trans (Hq.out.below _)) (by have := Hgb.out; omega) _ _⟩
end Go.Proofs.Ytnfeknfakkdbhaa
