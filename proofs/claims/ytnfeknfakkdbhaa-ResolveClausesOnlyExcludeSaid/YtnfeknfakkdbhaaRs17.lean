/- The laws on solving and refuting: the example that each of them asks first. -/
import Derived.Test.YtnfeknfakkdbhaaRs15
import Derived.Test.YtnfeknfakkdbhaaRs16
import Derived.Test.YtnfeknfakkdbhaaLit
import Derived.Deep.DeepCutAuto
import Derived.Deep.RegionHeld3
namespace Go.Proofs.Ytnfeknfakkdbhaa
set_option linter.unusedVariables false
set_option linter.unusedSimpArgs false
open Go.RowKit

theorem ex1_fault : cnfFault 1 [[1]] = (0, 0) := by decide
theorem ex2_fault : cnfFault 1 [[1], [-1]] = (0, 0) := by decide
theorem ex2_check : checkR 1 [[1], [-1]] [[]] = (true, 0, 0) := by decide
theorem ex1_true : trueAll [[1]] [true] = true := by decide
theorem one_bool {m : List Bool} (h : m.length = 1) : ∃ b, m = [b] := by
  match m, h with
  | [b], _ => exact ⟨b, rfl⟩
theorem ex1_solve {w : World} {e : Ending} {w' : World} (h : SolveP w 1 [[1]] e w') : Below w.heap.size w w' ∧ ∃ A c, e = three (.slice A 1 c) (.slice none 0 0) 0 0 ∧ Rd Enc.bool w' A 1 c [true] := by
  obtain ⟨hb, ⟨h1, _⟩ | ⟨_, ⟨A, c, m, he, hm⟩ | ⟨A, n, c, L, he, h1, h2, h3, _⟩ | ⟨_, h1⟩⟩⟩ := h
  · rw [ex1_fault] at h1
    exact absurd rfl h1
  · obtain ⟨h1, h2, h3⟩ := hm
    obtain ⟨b, rfl⟩ := one_bool h1
    cases b with
    | false => exact absurd h2 (by decide)
    | true => exact ⟨hb, A, c, he, h3⟩
  · have := check_no (V := 1) (m := [true]) (cs := [[1]]) (fun c hc => by
      simp at hc
      subst hc
      exact clean_of_code (by decide)) h2 rfl h3
    rw [ex1_true] at this
    cases this
  · exact absurd h1 (by decide)
theorem ex2_solve {w : World} {e : Ending} {w' : World} (h : SolveP w 1 [[1], [-1]] e w') : Below w.heap.size w w' ∧ ∃ A n c, e = three (.slice none 0 0) (.slice A n c) 0 0 ∧ 0 < n ∧ n ≤ 4000 := by
  obtain ⟨hb, ⟨h1, _⟩ | ⟨_, ⟨A, c, m, he, hm⟩ | ⟨A, n, c, L, he, h1, h2, h3, h4, h5⟩ | ⟨_, h1⟩⟩⟩ := h
  · rw [ex2_fault] at h1
    exact absurd rfl h1
  · obtain ⟨h1, h2, h3⟩ := hm
    obtain ⟨b, rfl⟩ := one_bool h1
    cases b <;> exact absurd h2 (by decide)
  · exact ⟨hb, A, n, c, he, h4, h5⟩
  · exact absurd h1 (by decide)
def exA (w : World) : World := (w.alloc (.cells #[.int .i64 1] 3)).alloc (.cells #[.slice (some ⟨w.heap.size, 0, none⟩) 1 1] 22)
theorem exA_facts (w : World) : Rd (Enc.sl Enc.int) (exA w) (some ⟨w.heap.size + 1, 0, none⟩) 1 1 [[1]] ∧ Below w.heap.size w (exA w) := by
  have h0 : Blk 3 (exA w) w.heap.size ([1].map (Value.int .i64)) := (Blk.new w 3 _).alloc _
  have h1 : Blk 22 (exA w) (w.heap.size + 1) [.slice (some ⟨w.heap.size, 0, none⟩) 1 1] := by
    have := Blk.new (w.alloc (.cells #[.int .i64 1] 3)) 22 [.slice (some ⟨w.heap.size, 0, none⟩) 1 1]
    simpa [exA] using this
  refine ⟨Rd.lit_sl _ [[1]] h1 (by decide) (fun j x hj => ?_), below_two _ _ _⟩
  match j with
  | 0 =>
    obtain rfl : [1] = x := by simpa using hj
    exact ⟨_, _, _, rfl, Rd.lit_ints [1] h0 (by decide) (by decide)⟩
  | j + 1 => simp at hj
def exB (w : World) : World := ((w.alloc (.cells #[.int .i64 1] 3)).alloc (.cells #[.int .i64 (-1)] 3)).alloc (.cells #[.slice (some ⟨w.heap.size, 0, none⟩) 1 1, .slice (some ⟨w.heap.size + 1, 0, none⟩) 1 1] 22)
theorem exB_facts (w : World) : Rd (Enc.sl Enc.int) (exB w) (some ⟨w.heap.size + 1 + 1, 0, none⟩) 2 2 [[1], [-1]] ∧ Below w.heap.size w (exB w) ∧ (exB w).heap.size = w.heap.size + 1 + 1 + 1 := by
  have h0 : Blk 3 (exB w) w.heap.size ([1].map (Value.int .i64)) := ((Blk.new w 3 _).alloc _).alloc _
  have h1 : Blk 3 (exB w) (w.heap.size + 1) ([-1].map (Value.int .i64)) := by
    have := (Blk.new (w.alloc (.cells #[.int .i64 1] 3)) 3 [.int .i64 (-1)]).alloc (.cells #[.slice (some ⟨w.heap.size, 0, none⟩) 1 1, .slice (some ⟨w.heap.size + 1, 0, none⟩) 1 1] 22)
    simpa [exB] using this
  have h2 : Blk 22 (exB w) (w.heap.size + 1 + 1) [.slice (some ⟨w.heap.size, 0, none⟩) 1 1, .slice (some ⟨w.heap.size + 1, 0, none⟩) 1 1] := by
    have := Blk.new ((w.alloc (.cells #[.int .i64 1] 3)).alloc (.cells #[.int .i64 (-1)] 3)) 22 [.slice (some ⟨w.heap.size, 0, none⟩) 1 1, .slice (some ⟨w.heap.size + 1, 0, none⟩) 1 1]
    simpa [exB] using this
  refine ⟨Rd.lit_sl _ [[1], [-1]] h2 (by decide) (fun j x hj => ?_), below_three _ _ _ _, by simp only [exB, World.size_alloc]⟩
  match j with
  | 0 =>
    obtain rfl : [1] = x := by simpa using hj
    exact ⟨_, _, _, rfl, Rd.lit_ints [1] h0 (by decide) (by decide)⟩
  | 1 =>
    obtain rfl : [-1] = x := by simpa using hj
    exact ⟨_, _, _, rfl, Rd.lit_ints [-1] h1 (by decide) (by decide)⟩
  | j + 2 => simp at hj
set_option maxRecDepth 100000 in
set_option maxHeartbeats 3200000 in
theorem resolveExample_ct (w : World) : Calls Try.prog 29 #[] w (Gives w (.bool true)) := by
  obtain ⟨ha, hba⟩ := exA_facts w
  have Ha := hide ha
  have Hba := hide hba
  clear ha hba
  go_enter Try.func29, Try.ntmps29
  go_wp2_with fail
  refine (Solve_ct 1 (some ⟨w.heap.size + 1, 0, none⟩) 1 1 [[1]] (exA w) (by decide) (by decide) Ha.out (fun ad h => by injection h with h; exact ⟨_, _, h.symm⟩)).mono ?_
  intro e w1 hs
  obtain ⟨hb1, A1, c1, rfl, hr1⟩ := ex1_solve hs
  unfold three
  obtain ⟨b1, off1, x1, rfl, hx1, hcx1⟩ := hr1.bool (k := 0) (by decide)
  have hx1 : x1 = true := by simpa using hx1.symm
  subst hx1
  rw [Nat.add_zero] at hcx1
  have Hb1 := hide (Hba.out.trans (hb1.mono Hba.out.size))
  have hlt1 := World.block_lt_of_cell? w1 _ hcx1
  simp only at hlt1
  clear hs hb1 hr1
  go_upto_region 2 with (fail)
  have hF1 := Blk.new w1 29 [.int .i64 0, .int .i64 0]
  have hb2 := (Below.refl w1.heap.size w1).alloc (Nat.le_refl _) (.cells #[.int .i64 0, .int .i64 0] 29)
  obtain ⟨w2, hw2⟩ : ∃ w2, w2 = w1.alloc (.cells #[.int .i64 0, .int .i64 0] 29) := ⟨_, rfl⟩
  rw [← hw2] at hF1 hb2 ⊢
  have hcx2 := (hb2.cell (p := ⟨b1, off1, none⟩) hlt1).trans hcx1
  have Hb2 := hide (Hb1.out.trans (hb2.mono Hb1.out.size))
  clear hw2 hb2 hcx1 hlt1 Hb1 Ha Hba
  generalize w1.heap.size = g1 at *
  obtain ⟨hB, hbB, hszB⟩ := exB_facts w2
  have hX2 := Blk.new (exB w2) 51 [.int .i64 1, .slice (some ⟨w2.heap.size + 1 + 1, 0, none⟩) 2 2]
  have hb3 := (Below.refl (exB w2).heap.size (exB w2)).alloc (Nat.le_refl _) (.cells #[.int .i64 1, .slice (some ⟨w2.heap.size + 1 + 1, 0, none⟩) 2 2] 51)
  obtain ⟨w3, hw3⟩ : ∃ w3, w3 = (exB w2).alloc (.cells #[.int .i64 1, .slice (some ⟨w2.heap.size + 1 + 1, 0, none⟩) 2 2] 51) := ⟨_, rfl⟩
  have Hw3 := hide hw3
  rw [← hw3] at hX2 hb3
  rw [hszB] at hX2
  have hB3 := hB.keep hb3
  have hb23 := hbB.trans (hb3.mono hbB.size)
  have HX2 := hide hX2
  have HB3 := hide hB3
  have HF1 := hide (hF1.keep hb23)
  have hlt2 := World.block_lt_of_cell? w2 _ hcx2
  simp only at hlt2
  have hcx3 := (hb23.cell (p := ⟨b1, off1, none⟩) hlt2).trans hcx2
  have Hb3 := hide (Hb2.out.trans (hb23.mono Hb2.out.size))
  have hlt3 := World.block_lt_of_cell? w3 _ hcx3
  clear hB hbB hszB hX2 hw3 hb3 hB3 hb23 hF1 hcx2 hlt2 Hb2
  go_upto_region 3 with (fail)
  have hw3 := Hw3.out
  unfold exB at hw3
  rw [← hw3]
  clear hw3 Hw3
  have hc0 := HX2.out.cell 0
  have hc1 := HX2.out.cell 1
  have hltX := HX2.out.lt
  simp only [List.getElem?_cons_zero, List.getElem?_cons_succ] at hc0 hc1
  generalize w2.heap.size + 1 + 1 + 1 = gX at *
  generalize w2.heap.size + 1 + 1 = gL at *
  go_wp2_with fail
  with_reducible refine (Solve_ct 1 (some ⟨gL, 0, none⟩) 2 2 [[1], [-1]] w3 (by decide) (by decide) HB3.out (fun ad h => by injection h with h; exact ⟨_, _, h.symm⟩)).mono ?_
  intro e w4 hs
  obtain ⟨hb4, A4, n4, c4, rfl, hn1, hn2⟩ := ex2_solve hs
  unfold three
  have HX4 := hide (HX2.out.keep hb4)
  have HF4 := hide (HF1.out.keep hb4)
  have HB4 := hide (HB3.out.keep hb4)
  have hcx4 := (hb4.cell (p := ⟨b1, off1, none⟩) hlt3).trans hcx3
  have Hb4 := hide (Hb3.out.trans (hb4.mono Hb3.out.size))
  have hlt4 := World.block_lt_of_cell? w4 _ hcx4
  clear hs hb4 HX2 HF1 HB3 hcx3 hlt3 Hb3 hc0 hc1 hltX
  go_upto_region 4 with (fail)
  have hF2 := Blk.new w4 29 [.int .i64 0, .int .i64 0]
  have hb5 := (Below.refl w4.heap.size w4).alloc (Nat.le_refl _) (.cells #[.int .i64 0, .int .i64 0] 29)
  obtain ⟨w5, hw5⟩ : ∃ w5, w5 = w4.alloc (.cells #[.int .i64 0, .int .i64 0] 29) := ⟨_, rfl⟩
  rw [← hw5] at hF2 hb5 ⊢
  have HX5 := hide (HX4.out.keep hb5)
  have HF5 := hide (HF4.out.keep hb5)
  have HB5 := hide (HB4.out.keep hb5)
  have hcx5 := (hb5.cell (p := ⟨b1, off1, none⟩) hlt4).trans hcx4
  have Hb5 := hide (Hb4.out.trans (hb5.mono Hb4.out.size))
  have hlt5 := World.block_lt_of_cell? w5 _ hcx5
  clear hw5 hb5 HX4 HF4 HB4 hcx4 hlt4 Hb4
  generalize w4.heap.size = g2 at *
  have HF2 := hide hF2
  have hc0 := HX5.out.cell 0
  have hc1 := HX5.out.cell 1
  have hltX := HX5.out.lt
  simp only [List.getElem?_cons_zero, List.getElem?_cons_succ] at hc0 hc1
  clear hF2
  go_wp2_with fail
  have hb6 := (Below.refl w5.heap.size w5).alloc (Nat.le_refl _) (.cells #[.slice none 0 0] 22)
  have hRn : Rd (Enc.sl Enc.int) (w5.alloc (.cells #[.slice none 0 0] 22)) (some ⟨w5.heap.size, 0, none⟩) 1 1 [[]] := Rd.lit_sl _ [[]] (Blk.new w5 22 [.slice none 0 0]) (by decide) (fun j x hj => by
    match j with
    | 0 =>
      obtain rfl : [] = x := by simpa using hj
      exact ⟨_, _, _, rfl, Rd.nil_ _ _⟩
    | j + 1 => simp at hj)
  have hck := Check_ct 1 (some ⟨gL, 0, none⟩) 2 2 [[1], [-1]] (some ⟨w5.heap.size, 0, none⟩) 1 1 [[]] _ (by decide) (by decide) (HB5.out.keep hb6) (fun ad h => by injection h with h; exact ⟨_, _, h.symm⟩) hRn
  rw [ex2_check] at hck
  with_reducible refine hck.mono ?_
  rintro e w7 ⟨rfl, hb7⟩
  unfold holdsV
  have hb57 := hb6.trans (hb7.mono hb6.size)
  have HF7 := HF5.out.keep hb57
  have HF8 := HF2.out.keep hb57
  have hcx7 := (hb57.cell (p := ⟨b1, off1, none⟩) hlt5).trans hcx5
  have Hb7 := hide (Hb5.out.trans (hb57.mono Hb5.out.size))
  have hlt7 := World.block_lt_of_cell? w7 _ hcx7
  have hd0 := HF7.cell 0
  have hd1 := HF8.cell 0
  have hl0 := HF7.lt
  have hl1 := HF8.lt
  simp only [List.getElem?_cons_zero, List.getElem?_cons_succ] at hd0 hd1 hlt7
  clear hck hRn hb6 hb7 hb57 HF7 HF8 hcx5 hlt5 HX5 HF5 HB5 hc0 hc1 hltX HF2 Hb5
  have hn3 : (0 : Int) < (n4 : Int) := by omega
  go_wp2
  go_ret
  exact ⟨rfl, Hb7.out.alloc Hb7.out.size _⟩
end Go.Proofs.Ytnfeknfakkdbhaa
