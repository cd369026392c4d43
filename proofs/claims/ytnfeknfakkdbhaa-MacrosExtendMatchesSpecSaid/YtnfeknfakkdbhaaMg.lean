/- The reference: the fault of a plan, its cost. -/
import Derived.Test.YtnfeknfakkdbhaaMf
import Derived.Test.YtnfeknfakkdbhaaSt
namespace Go.Proofs.Ytnfeknfakkdbhaa
set_option linter.unusedVariables false
set_option linter.unusedSimpArgs false
open Go.RowKit

set_option maxRecDepth 100000 in
set_option maxHeartbeats 3200000 in
theorem RSteps_ct (n : Nat) (A : Option Addr) (m c : Nat) (l : List Int) (w : World) (h : Rd Enc.int w A m c l) (hn : n ≤ 9223372036854775807) :
    Calls Try.prog 26 #[.int .i64 n, .slice A m c] w (Gives w (fault (stepsFault n l).1 (stepsFault n l).2)) := by
  have hsm := h.low
  have hX := Blk.new w 29 [.int .i64 0, .int .i64 0]
  have y0 := hX.cell 0
  have y1 := hX.cell 1
  have y2 := hX.frozen 0
  have y3 := hX.frozen 1
  have y4 := hX.lt
  simp only [List.getElem?_cons_zero, List.getElem?_cons_succ] at y0 y1
  have hbw : Below w.heap.size w (w.alloc (.cells #[.int .i64 0, .int .i64 0] 29)) := (Below.refl _ _).alloc (Nat.le_refl _) _
  have Hbw := hide hbw
  have HX := hide hX
  have Hl := hide h.len
  have H := hide (h.keep hbw)
  have At1 := hide (fun c i W => At_ct c i W)
  clear h hbw hX
  go_enter Try.func26, Try.ntmps26
  go_upto_region 1 with (fail)
  obtain ⟨W0, hW0⟩ : ∃ W0, W0 = w.alloc (.cells #[.int .i64 0, .int .i64 0] 29) := ⟨_, rfl⟩
  rw [← hW0] at H HX Hbw y0 y1 y2 y3 y4 ⊢
  clear hW0
  obtain ⟨gb, hgb⟩ : ∃ gb, gb = w.heap.size := ⟨_, rfl⟩
  rw [← hgb] at HX y0 y1 y2 y3 y4 ⊢
  have Hgb := hide hgb
  clear hgb
  by_cases h1 : 60 < m
  · have hres : stepsFault n l = (2, -5) := by unfold stepsFault; rw [Hl.out, if_pos h1]
    have Hr := hide hres
    clear hres
    go_wp2_with fail
    refine (At1.out 2 (-5) _).mono ?_
    rintro e w9 ⟨rfl, hb⟩
    unfold fault
    have HX9 := hide (HX.out.keep hb)
    have Hb9 := hide (Hbw.out.trans (hb.mono Hbw.out.size))
    clear hb y0 y1 y2 y3 y4
    have y0 := HX9.out.cell 0
    have y1 := HX9.out.cell 1
    have y2 := HX9.out.frozen 0
    have y3 := HX9.out.frozen 1
    have y4 := HX9.out.lt
    simp only [List.getElem?_cons_zero, List.getElem?_cons_succ] at y0 y1
    go_wp2_with fail
    refine bodyPost_ret (v := fault 2 (-5)) (by simp [results, Try.results26, go_sem, fault, y0, y1, y4]) rfl ⟨by rw [Hr.out], below_res2 Hb9.out (by have := Hgb.out; omega) _ _⟩
  · have hres : stepsFault n l = if l.any (outB n) = true then (3, -6) else (0, 0) := by unfold stepsFault; rw [Hl.out, if_neg h1]
    have Hres := hide hres
    clear hres
    go_wp2_with fail
    go_loop [5] (fun i => ∃ k : Nat, k ≤ m ∧ i = .int .i64 k ∧ (l.take k).any (outB n) = false) (fun i => m - (intOf i).toNat)
    case atStart => exact ⟨0, by omega, rfl, by simp⟩
    case round =>
      obtain ⟨k, hk, rfl, hset⟩ := hrel
      have Hset := hide hset
      clear hset
      by_cases hlt : k < m
      · obtain ⟨b, off, x, rfl, hx, hx1, hx2, hcx⟩ := H.out.int hlt
        have hwr : IntKind.i64.wrap ((n : Int) - 1) = (n : Int) - 1 := by rw [IntWalk.i64_in _ (by omega)]
        have hc : ∀ W, Calls Try.prog 37 #[.int .i64 x, .int .i64 0, .int .i64 ((n : Int) - 1)] W (Same W (.bool (!outB n x))) := by
          intro W
          have := In_ct x 0 ((n : Int) - 1) W
          rwa [inB_outB] at this
        have Hx := hide hx
        rcases eo : outB n x with _ | _
        · rw [eo] at hc
          have Hc := hide hc
          have Heo := hide eo
          clear hc hx eo
          go_wp2_with (go_at_call 37; refine (Hc.out _).mono ?_; rintro e w1 ⟨rfl, rfl⟩)
          go_round
          case rel => exact ⟨k + 1, by omega, by go_num, anyF_succ Hset.out Hx.out Heo.out⟩
          case measure => simp [intOf]; omega
        · rw [eo] at hc
          have Hc := hide hc
          have hres := Hres.out
          rw [if_pos (List.any_eq_true.2 ⟨x, List.mem_of_getElem? Hx.out, eo⟩)] at hres
          have Hr := hide hres
          clear hc hx eo hres
          go_wp2_with (go_at_call 37; refine (Hc.out _).mono ?_; rintro e w1 ⟨rfl, rfl⟩)
          refine (At1.out 3 (-6) _).mono ?_
          rintro e w9 ⟨rfl, hb⟩
          unfold fault
          have HX9 := hide (HX.out.keep hb)
          have Hb9 := hide (Hbw.out.trans (hb.mono Hbw.out.size))
          clear hb y0 y1 y2 y3 y4
          have y0 := HX9.out.cell 0
          have y1 := HX9.out.cell 1
          have y2 := HX9.out.frozen 0
          have y3 := HX9.out.frozen 1
          have y4 := HX9.out.lt
          simp only [List.getElem?_cons_zero, List.getElem?_cons_succ] at y0 y1
          go_wp2_with fail
          refine bodyPost_ret (v := fault 3 (-6)) (by simp [results, Try.results26, go_sem, fault, y0, y1, y4]) rfl ⟨by rw [Hr.out], below_res2 Hb9.out (by have := Hgb.out; omega) _ _⟩
      · obtain rfl : k = m := by omega
        have hres := Hres.out
        have hs := Hset.out
        rw [List.take_of_length_le (by rw [Hl.out]; omega)] at hs
        rw [hs, if_neg (by simp)] at hres
        have Hr := hide hres
        clear hres hs
        go_wp2_with fail
        exact bodyPost_ret (v := fault 0 0) (by simp [results, Try.results26, go_sem, fault, y0, y1, y4]) rfl ⟨by rw [Hr.out], below_res2 Hbw.out (by have := Hgb.out; omega) _ _⟩
end Go.Proofs.Ytnfeknfakkdbhaa
