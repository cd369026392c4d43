/- The reference's fault of a task. -/
import Derived.Test.YtnfeknfakkdbhaaTk5
import Derived.Test.YtnfeknfakkdbhaaTk4
namespace Go.Proofs.Ytnfeknfakkdbhaa
set_option linter.unusedVariables false
set_option linter.unusedSimpArgs false
open Go.RowKit

set_option maxRecDepth 100000 in
set_option maxHeartbeats 6400000 in
theorem RTaskFault_ct (a : TA) (T : Tsk) (w : World) (h : TkR w a T) :
    Calls Try.prog 17 #[.agg #[.int .i64 T.facts, .slice a.I a.nI a.cI, .slice a.G a.nG a.cG, .slice a.O a.nO a.cO]] w (Gives w (fault (taskFault T).1 (taskFault T).2)) := by
  obtain ⟨I, nI, cI, G, nG, cG, O, nO, cO⟩ := a
  obtain ⟨⟨hf1, hf2⟩, hi, hg, ho⟩ := h
  simp only at hi hg ho ⊢
  have hlo := ho.low
  have hbw := below_two w (.cells #[.int .i64 T.facts, .slice I nI cI, .slice G nG cG, .slice O nO cO] 25) (.cells #[.int .i64 0, .int .i64 0] 29)
  have hX := BxF.new w 25 [.int .i64 T.facts, .slice I nI cI, .slice G nG cG, .slice O nO cO] (.int .i64 0) (.int .i64 0)
  have Hlo := hide ho.len
  have Hi := hide hi
  have Hg := hide hg
  have Ho := hide ho
  have Hbl := hide hbw
  have HX := hide hX
  obtain ⟨T0, T1, T2, T3⟩ := T
  simp only at *
  clear hi hg ho hbw hX
  obtain ⟨f0, f1, f2, f3⟩ := HX.out.cell4
  obtain ⟨y0, y1, y2, y3, y4, y5⟩ := HX.out.resf
  go_enter Try.func17, Try.ntmps17
  go_upto_region 1 with (fail)
  obtain ⟨W0, hW0⟩ : ∃ W0, W0 = (w.alloc (.cells #[.int .i64 T0, .slice I nI cI, .slice G nG cG, .slice O nO cO] 25)).alloc (.cells #[.int .i64 0, .int .i64 0] 29) := ⟨_, rfl⟩
  rw [← hW0] at HX Hbl f0 f1 f2 f3 y0 y1 y2 y3 y4 y5 ⊢
  clear hW0
  obtain ⟨gb, hgb⟩ : ∃ gb, gb = w.heap.size := ⟨_, rfl⟩
  rw [← hgb] at HX f0 f1 f2 f3 y0 y1 y2 y3 y4 y5 ⊢
  have Hgb := hide hgb
  clear hgb
  rcases e0 : inB T0 0 24 with _ | _
  · have hct := In_ct T0 0 24 W0
    rw [e0] at hct
    have hres := tf1 (T := ⟨T0, T1, T2, T3⟩) (inB_no.1 e0)
    have Hres := hide hres
    clear e0 hres
    go_wp2_with fail
    refine hct.mono ?_
    rintro e w1 ⟨rfl, rfl⟩
    clear hct
    go_wp2_with fail
    refine (At_ct 3 (-1) _).mono ?_
    rintro e w9 ⟨rfl, hb⟩
    unfold fault
    replace HX := hide (HX.out.keep hb)
    replace Hbl := hide (Hbl.out.trans (hb.mono Hbl.out.size))
    clear hb f0 f1 f2 f3 y0 y1 y2 y3 y4 y5
    obtain ⟨f0, f1, f2, f3⟩ := HX.out.cell4
    obtain ⟨y0, y1, y2, y3, y4, y5⟩ := HX.out.resf
    go_wp2_with fail
    refine bodyPost_ret (v := fault 3 (-1)) (by simp [results, Try.results17, go_sem, fault, y0, y1, y5]) rfl ⟨by rw [Hres.out], below_res2 Hbl.out (by have := Hgb.out; omega) _ _⟩
  have hct := In_ct T0 0 24 W0
  rw [e0] at hct
  have h01 := inB_iff.1 e0
  obtain ⟨h0, h1⟩ := h01
  clear e0
  go_wp2_with fail
  refine hct.mono ?_
  rintro e w1 ⟨rfl, rfl⟩
  clear hct
  have hs1 := RIsSet_ct I nI cI T1 T0 W0 (Hi.out.keep Hbl.out) (by omega)
  rcases e1 : setB T0 T1 with _ | _
  · rw [e1] at hs1
    have hres := tf2 (T := ⟨T0, T1, T2, T3⟩) ⟨h0, h1⟩ e1
    have Hres := hide hres
    clear e1 hres
    go_wp2_with fail
    refine (hs1).mono ?_
    rintro e w1 ⟨rfl, hq⟩
    have hb := hq.below W0.heap.size
    clear hq
    replace HX := hide (HX.out.keep hb)
    replace Hbl := hide (Hbl.out.trans (hb.mono Hbl.out.size))
    clear hb f0 f1 f2 f3 y0 y1 y2 y3 y4 y5
    obtain ⟨f0, f1, f2, f3⟩ := HX.out.cell4
    obtain ⟨y0, y1, y2, y3, y4, y5⟩ := HX.out.resf
    clear hs1
    go_wp2_with fail
    refine (At_ct 5 (-2) _).mono ?_
    rintro e w9 ⟨rfl, hb⟩
    unfold fault
    replace HX := hide (HX.out.keep hb)
    replace Hbl := hide (Hbl.out.trans (hb.mono Hbl.out.size))
    clear hb f0 f1 f2 f3 y0 y1 y2 y3 y4 y5
    obtain ⟨f0, f1, f2, f3⟩ := HX.out.cell4
    obtain ⟨y0, y1, y2, y3, y4, y5⟩ := HX.out.resf
    go_wp2_with fail
    refine bodyPost_ret (v := fault 5 (-2)) (by simp [results, Try.results17, go_sem, fault, y0, y1, y5]) rfl ⟨by rw [Hres.out], below_res2 Hbl.out (by have := Hgb.out; omega) _ _⟩
  rw [e1] at hs1
  have He1 := hide e1
  clear e1
  go_wp2_with fail
  refine (hs1).mono ?_
  rintro e w1 ⟨rfl, hq⟩
  have hb := hq.below W0.heap.size
  clear hq
  replace HX := hide (HX.out.keep hb)
  replace Hbl := hide (Hbl.out.trans (hb.mono Hbl.out.size))
  clear hb f0 f1 f2 f3 y0 y1 y2 y3 y4 y5
  obtain ⟨f0, f1, f2, f3⟩ := HX.out.cell4
  obtain ⟨y0, y1, y2, y3, y4, y5⟩ := HX.out.resf
  clear hs1
  have hs2 := RIsSet_ct G nG cG T2 T0 w1 (Hg.out.keep Hbl.out) (by omega)
  rcases e2 : setB T0 T2 with _ | _
  · rw [e2] at hs2
    have hres := tf3 (T := ⟨T0, T1, T2, T3⟩) ⟨h0, h1⟩ He1.out e2
    have Hres := hide hres
    clear e2 hres
    go_wp2_with fail
    refine (hs2).mono ?_
    rintro e w2 ⟨rfl, hq⟩
    have hb := hq.below w1.heap.size
    clear hq
    replace HX := hide (HX.out.keep hb)
    replace Hbl := hide (Hbl.out.trans (hb.mono Hbl.out.size))
    clear hb f0 f1 f2 f3 y0 y1 y2 y3 y4 y5
    obtain ⟨f0, f1, f2, f3⟩ := HX.out.cell4
    obtain ⟨y0, y1, y2, y3, y4, y5⟩ := HX.out.resf
    clear hs2
    go_wp2_with fail
    refine (At_ct 5 (-3) _).mono ?_
    rintro e w9 ⟨rfl, hb⟩
    unfold fault
    replace HX := hide (HX.out.keep hb)
    replace Hbl := hide (Hbl.out.trans (hb.mono Hbl.out.size))
    clear hb f0 f1 f2 f3 y0 y1 y2 y3 y4 y5
    obtain ⟨f0, f1, f2, f3⟩ := HX.out.cell4
    obtain ⟨y0, y1, y2, y3, y4, y5⟩ := HX.out.resf
    go_wp2_with fail
    refine bodyPost_ret (v := fault 5 (-3)) (by simp [results, Try.results17, go_sem, fault, y0, y1, y5]) rfl ⟨by rw [Hres.out], below_res2 Hbl.out (by have := Hgb.out; omega) _ _⟩
  rw [e2] at hs2
  have He2 := hide e2
  clear e2
  go_wp2_with fail
  refine (hs2).mono ?_
  rintro e w2 ⟨rfl, hq⟩
  have hb := hq.below w1.heap.size
  clear hq
  replace HX := hide (HX.out.keep hb)
  replace Hbl := hide (Hbl.out.trans (hb.mono Hbl.out.size))
  clear hb f0 f1 f2 f3 y0 y1 y2 y3 y4 y5
  obtain ⟨f0, f1, f2, f3⟩ := HX.out.cell4
  obtain ⟨y0, y1, y2, y3, y4, y5⟩ := HX.out.resf
  clear hs2
  by_cases h4 : 40 < nO
  · have hres := tf4 (T := ⟨T0, T1, T2, T3⟩) ⟨h0, h1⟩ He1.out He2.out (by show 40 < T3.length; rw [Hlo.out]; exact h4)
    have Hres := hide hres
    clear hres
    go_wp2_with fail
    refine (At_ct 2 (-1) _).mono ?_
    rintro e w9 ⟨rfl, hb⟩
    unfold fault
    replace HX := hide (HX.out.keep hb)
    replace Hbl := hide (Hbl.out.trans (hb.mono Hbl.out.size))
    clear hb f0 f1 f2 f3 y0 y1 y2 y3 y4 y5
    obtain ⟨f0, f1, f2, f3⟩ := HX.out.cell4
    obtain ⟨y0, y1, y2, y3, y4, y5⟩ := HX.out.resf
    go_wp2_with fail
    refine bodyPost_ret (v := fault 2 (-1)) (by simp [results, Try.results17, go_sem, fault, y0, y1, y5]) rfl ⟨by rw [Hres.out], below_res2 Hbl.out (by have := Hgb.out; omega) _ _⟩
  have hres := tf5 (T := ⟨T0, T1, T2, T3⟩) ⟨h0, h1⟩ He1.out He2.out (by show ¬ 40 < T3.length; rw [Hlo.out]; exact h4)
  simp only at hres
  have Hres := hide hres
  obtain ⟨n, rfl⟩ : ∃ n : Nat, T0 = (n : Int) := ⟨T0.toNat, by omega⟩
  clear hres He1 He2
  go_wp2_with fail
  go_loopw [3] (fun i wr => ∃ k : Nat, k ≤ nO ∧ i = .int .i64 k ∧ Below w.heap.size w wr ∧ BxF 25 wr gb [.int .i64 n, .slice I nI cI, .slice G nG cG, .slice O nO cO] (.int .i64 0) (.int .i64 0) ∧ opsFault (n : Int) 0 T3 = opsFault (n : Int) k (T3.drop k)) (fun i _ => nO - (intOf i).toNat)
  case atStart => exact ⟨0, by omega, rfl, Hbl.out, HX.out, by simp⟩
  case round =>
    clear HX Hbl f0 f1 f2 f3 y0 y1 y2 y3 y4 y5
    obtain ⟨k, hk, rfl, hbr, hX, hrel⟩ := hrel
    obtain ⟨f0, f1, f2, f3⟩ := hX.cell4
    obtain ⟨y0, y1, y2, y3, y4, y5⟩ := hX.resf
    have HX := hide hX
    have Hbl := hide hbr
    have Hrel := hide hrel
    clear hX hbr hrel
    by_cases hlt : k < nO
    · obtain ⟨b, off, o, A1, n1, c1, A2, n2, c2, A3, n3, c3, rfl, ho, g0, g1, g2, g3, r1, r2, r3, r4⟩ := (Ho.out.keep Hbl.out).op hlt
      obtain ⟨r41, r42⟩ := r4
      have HO := hide ho
      have R1 := hide r1
      have R2 := hide r2
      have R3 := hide r3
      clear ho r1 r2 r3
      go_upto_region 13 with (fail)
      have hY := Blk.new wr 27 [.slice A1 n1 c1, .slice A2 n2 c2, .slice A3 n3 c3, .int .i64 o.cost]
      have hb := (Below.refl wr.heap.size wr).alloc (Nat.le_refl _) (.cells #[.slice A1 n1 c1, .slice A2 n2 c2, .slice A3 n3 c3, .int .i64 o.cost] 27)
      obtain ⟨w3, hw3⟩ : ∃ w3, w3 = wr.alloc (.cells #[.slice A1 n1 c1, .slice A2 n2 c2, .slice A3 n3 c3, .int .i64 o.cost] 27) := ⟨_, rfl⟩
      rw [← hw3] at hY hb ⊢
      replace R1 := hide (R1.out.keep hb)
      replace R2 := hide (R2.out.keep hb)
      replace R3 := hide (R3.out.keep hb)
      clear hw3 g0 g1 g2 g3
      replace HX := hide (HX.out.keep hb)
      replace Hbl := hide (Hbl.out.trans (hb.mono Hbl.out.size))
      clear hb f0 f1 f2 f3 y0 y1 y2 y3 y4 y5
      obtain ⟨f0, f1, f2, f3⟩ := HX.out.cell4
      obtain ⟨y0, y1, y2, y3, y4, y5⟩ := HX.out.resf
      generalize wr.heap.size = gy at *
      have HY := hide hY
      clear hY
      obtain ⟨z0, z1, z2, z3⟩ := HY.out.cell4
      have zl := HY.out.lt
      have hs := RIsSet_ct A1 n1 c1 o.pre n w3 R1.out (by omega)
      rcases e1 : setB (n : Int) o.pre with _ | _
      · rw [e1] at hs
        have Hc := hide (opCode_bad1 e1)
        clear e1
        go_wp2_with fail
        refine (hs).mono ?_
        rintro e w4 ⟨rfl, hq⟩
        have hb := hq.below w3.heap.size
        clear hq
        replace HY := hide (HY.out.keep hb)
        replace R1 := hide (R1.out.keep hb)
        replace R2 := hide (R2.out.keep hb)
        replace R3 := hide (R3.out.keep hb)
        replace HX := hide (HX.out.keep hb)
        replace Hbl := hide (Hbl.out.trans (hb.mono Hbl.out.size))
        clear hb f0 f1 f2 f3 y0 y1 y2 y3 y4 y5 z0 z1 z2 z3 zl
        obtain ⟨f0, f1, f2, f3⟩ := HX.out.cell4
        obtain ⟨y0, y1, y2, y3, y4, y5⟩ := HX.out.resf
        obtain ⟨z0, z1, z2, z3⟩ := HY.out.cell4
        have zl := HY.out.lt
        clear hs
        clear z0 z1 z2 z3 zl HY
        go_wp2_with fail
        refine (At_ct 5 k _).mono ?_
        rintro e w9 ⟨rfl, hb⟩
        unfold fault
        replace HX := hide (HX.out.keep hb)
        replace Hbl := hide (Hbl.out.trans (hb.mono Hbl.out.size))
        clear hb f0 f1 f2 f3 y0 y1 y2 y3 y4 y5
        obtain ⟨f0, f1, f2, f3⟩ := HX.out.cell4
        obtain ⟨y0, y1, y2, y3, y4, y5⟩ := HX.out.resf
        go_wp2_with fail
        refine bodyPost_ret (v := fault 5 k) (by simp [results, Try.results17, go_sem, fault, y0, y1, y5]) rfl ⟨by rw [Hres.out, Hrel.out, drop_cons HO.out, opsFault, Hc.out]; simp [fault], below_res2 Hbl.out (by have := Hgb.out; omega) _ _⟩
      rw [e1] at hs
      have E1 := hide e1
      clear e1
      go_wp2_with fail
      refine (hs).mono ?_
      rintro e w4 ⟨rfl, hq⟩
      have hb := hq.below w3.heap.size
      clear hq
      replace HY := hide (HY.out.keep hb)
      replace R1 := hide (R1.out.keep hb)
      replace R2 := hide (R2.out.keep hb)
      replace R3 := hide (R3.out.keep hb)
      replace HX := hide (HX.out.keep hb)
      replace Hbl := hide (Hbl.out.trans (hb.mono Hbl.out.size))
      clear hb f0 f1 f2 f3 y0 y1 y2 y3 y4 y5 z0 z1 z2 z3 zl
      obtain ⟨f0, f1, f2, f3⟩ := HX.out.cell4
      obtain ⟨y0, y1, y2, y3, y4, y5⟩ := HX.out.resf
      obtain ⟨z0, z1, z2, z3⟩ := HY.out.cell4
      have zl := HY.out.lt
      clear hs
      have hs := RIsSet_ct A2 n2 c2 o.add n w4 R2.out (by omega)
      rcases e2 : setB (n : Int) o.add with _ | _
      · rw [e2] at hs
        have Hc := hide (opCode_bad2 e2)
        clear e2
        go_wp2_with fail
        refine (hs).mono ?_
        rintro e w5 ⟨rfl, hq⟩
        have hb := hq.below w4.heap.size
        clear hq
        replace HY := hide (HY.out.keep hb)
        replace R1 := hide (R1.out.keep hb)
        replace R2 := hide (R2.out.keep hb)
        replace R3 := hide (R3.out.keep hb)
        replace HX := hide (HX.out.keep hb)
        replace Hbl := hide (Hbl.out.trans (hb.mono Hbl.out.size))
        clear hb f0 f1 f2 f3 y0 y1 y2 y3 y4 y5 z0 z1 z2 z3 zl
        obtain ⟨f0, f1, f2, f3⟩ := HX.out.cell4
        obtain ⟨y0, y1, y2, y3, y4, y5⟩ := HX.out.resf
        obtain ⟨z0, z1, z2, z3⟩ := HY.out.cell4
        have zl := HY.out.lt
        clear hs
        clear z0 z1 z2 z3 zl HY
        go_wp2_with fail
        refine (At_ct 5 k _).mono ?_
        rintro e w9 ⟨rfl, hb⟩
        unfold fault
        replace HX := hide (HX.out.keep hb)
        replace Hbl := hide (Hbl.out.trans (hb.mono Hbl.out.size))
        clear hb f0 f1 f2 f3 y0 y1 y2 y3 y4 y5
        obtain ⟨f0, f1, f2, f3⟩ := HX.out.cell4
        obtain ⟨y0, y1, y2, y3, y4, y5⟩ := HX.out.resf
        go_wp2_with fail
        refine bodyPost_ret (v := fault 5 k) (by simp [results, Try.results17, go_sem, fault, y0, y1, y5]) rfl ⟨by rw [Hres.out, Hrel.out, drop_cons HO.out, opsFault, Hc.out]; simp [fault], below_res2 Hbl.out (by have := Hgb.out; omega) _ _⟩
      rw [e2] at hs
      have E2 := hide e2
      clear e2
      go_wp2_with fail
      refine (hs).mono ?_
      rintro e w5 ⟨rfl, hq⟩
      have hb := hq.below w4.heap.size
      clear hq
      replace HY := hide (HY.out.keep hb)
      replace R1 := hide (R1.out.keep hb)
      replace R2 := hide (R2.out.keep hb)
      replace R3 := hide (R3.out.keep hb)
      replace HX := hide (HX.out.keep hb)
      replace Hbl := hide (Hbl.out.trans (hb.mono Hbl.out.size))
      clear hb f0 f1 f2 f3 y0 y1 y2 y3 y4 y5 z0 z1 z2 z3 zl
      obtain ⟨f0, f1, f2, f3⟩ := HX.out.cell4
      obtain ⟨y0, y1, y2, y3, y4, y5⟩ := HX.out.resf
      obtain ⟨z0, z1, z2, z3⟩ := HY.out.cell4
      have zl := HY.out.lt
      clear hs
      have hs := RIsSet_ct A3 n3 c3 o.del n w5 R3.out (by omega)
      rcases e3 : setB (n : Int) o.del with _ | _
      · rw [e3] at hs
        have Hc := hide (opCode_bad3 e3)
        clear e3
        go_wp2_with fail
        refine (hs).mono ?_
        rintro e w6 ⟨rfl, hq⟩
        have hb := hq.below w5.heap.size
        clear hq
        replace HY := hide (HY.out.keep hb)
        replace R1 := hide (R1.out.keep hb)
        replace R2 := hide (R2.out.keep hb)
        replace R3 := hide (R3.out.keep hb)
        replace HX := hide (HX.out.keep hb)
        replace Hbl := hide (Hbl.out.trans (hb.mono Hbl.out.size))
        clear hb f0 f1 f2 f3 y0 y1 y2 y3 y4 y5 z0 z1 z2 z3 zl
        obtain ⟨f0, f1, f2, f3⟩ := HX.out.cell4
        obtain ⟨y0, y1, y2, y3, y4, y5⟩ := HX.out.resf
        obtain ⟨z0, z1, z2, z3⟩ := HY.out.cell4
        have zl := HY.out.lt
        clear hs
        clear z0 z1 z2 z3 zl HY
        go_wp2_with fail
        refine (At_ct 5 k _).mono ?_
        rintro e w9 ⟨rfl, hb⟩
        unfold fault
        replace HX := hide (HX.out.keep hb)
        replace Hbl := hide (Hbl.out.trans (hb.mono Hbl.out.size))
        clear hb f0 f1 f2 f3 y0 y1 y2 y3 y4 y5
        obtain ⟨f0, f1, f2, f3⟩ := HX.out.cell4
        obtain ⟨y0, y1, y2, y3, y4, y5⟩ := HX.out.resf
        go_wp2_with fail
        refine bodyPost_ret (v := fault 5 k) (by simp [results, Try.results17, go_sem, fault, y0, y1, y5]) rfl ⟨by rw [Hres.out, Hrel.out, drop_cons HO.out, opsFault, Hc.out]; simp [fault], below_res2 Hbl.out (by have := Hgb.out; omega) _ _⟩
      rw [e3] at hs
      have E3 := hide e3
      clear e3
      go_wp2_with fail
      refine (hs).mono ?_
      rintro e w6 ⟨rfl, hq⟩
      have hb := hq.below w5.heap.size
      clear hq
      replace HY := hide (HY.out.keep hb)
      replace R1 := hide (R1.out.keep hb)
      replace R2 := hide (R2.out.keep hb)
      replace R3 := hide (R3.out.keep hb)
      replace HX := hide (HX.out.keep hb)
      replace Hbl := hide (Hbl.out.trans (hb.mono Hbl.out.size))
      clear hb f0 f1 f2 f3 y0 y1 y2 y3 y4 y5 z0 z1 z2 z3 zl
      obtain ⟨f0, f1, f2, f3⟩ := HX.out.cell4
      obtain ⟨y0, y1, y2, y3, y4, y5⟩ := HX.out.resf
      obtain ⟨z0, z1, z2, z3⟩ := HY.out.cell4
      have zl := HY.out.lt
      clear hs
      have hs := RDisjoint_ct A2 A3 n2 c2 n3 c3 o.add o.del w6 R2.out R3.out
      rcases e4 : meetB o.add o.del with _ | _
      · rw [e4] at hs
        have hop := opCode_set E1.out E2.out E3.out e4
        have Hop := hide hop
        clear e4 hop
        go_wp2_with fail
        refine hs.mono ?_
        rintro e w7 ⟨rfl, rfl⟩
        clear hs
        rcases e5 : inB o.cost 0 100 with _ | _
        · have hct := In_ct o.cost 0 100 w6
          rw [e5] at hct
          have hc3 : opCode (n : Int) o = 3 := by rw [Hop.out, e5]; rfl
          have Hc := hide hc3
          clear e5 hc3
          go_wp2_with fail
          refine hct.mono ?_
          rintro e w8 ⟨rfl, rfl⟩
          clear hct
          clear z0 z1 z2 z3 zl HY
          go_wp2_with fail
          refine (At_ct 3 k _).mono ?_
          rintro e w9 ⟨rfl, hb⟩
          unfold fault
          replace HX := hide (HX.out.keep hb)
          replace Hbl := hide (Hbl.out.trans (hb.mono Hbl.out.size))
          clear hb f0 f1 f2 f3 y0 y1 y2 y3 y4 y5
          obtain ⟨f0, f1, f2, f3⟩ := HX.out.cell4
          obtain ⟨y0, y1, y2, y3, y4, y5⟩ := HX.out.resf
          go_wp2_with fail
          refine bodyPost_ret (v := fault 3 k) (by simp [results, Try.results17, go_sem, fault, y0, y1, y5]) rfl ⟨by rw [Hres.out, Hrel.out, drop_cons HO.out, opsFault, Hc.out]; simp [fault], below_res2 Hbl.out (by have := Hgb.out; omega) _ _⟩
        · have hct := In_ct o.cost 0 100 w6
          rw [e5] at hct
          have hc3 : opCode (n : Int) o = 0 := by rw [Hop.out, e5]; rfl
          have Hc := hide hc3
          clear e5 hc3
          go_wp2_with fail
          refine hct.mono ?_
          rintro e w8 ⟨rfl, rfl⟩
          clear hct
          go_wp2_with fail
          go_roundw
          case rel => exact ⟨k + 1, by omega, by go_num, Hbl.out, HX.out, by rw [Hrel.out, drop_cons HO.out, opsFault, if_pos Hc.out]⟩
          case measure => simp [intOf]; omega
      · rw [e4] at hs
        have Hc := hide (opCode_bad4 (n := (n : Int)) e4)
        clear e4
        go_wp2_with fail
        refine hs.mono ?_
        rintro e w7 ⟨rfl, rfl⟩
        clear hs
        clear z0 z1 z2 z3 zl HY
        go_wp2_with fail
        refine (At_ct 5 k _).mono ?_
        rintro e w9 ⟨rfl, hb⟩
        unfold fault
        replace HX := hide (HX.out.keep hb)
        replace Hbl := hide (Hbl.out.trans (hb.mono Hbl.out.size))
        clear hb f0 f1 f2 f3 y0 y1 y2 y3 y4 y5
        obtain ⟨f0, f1, f2, f3⟩ := HX.out.cell4
        obtain ⟨y0, y1, y2, y3, y4, y5⟩ := HX.out.resf
        go_wp2_with fail
        refine bodyPost_ret (v := fault 5 k) (by simp [results, Try.results17, go_sem, fault, y0, y1, y5]) rfl ⟨by rw [Hres.out, Hrel.out, drop_cons HO.out, opsFault, Hc.out]; simp [fault], below_res2 Hbl.out (by have := Hgb.out; omega) _ _⟩
    · obtain rfl : k = nO := by omega
      go_wp2_with fail
      refine bodyPost_ret (v := fault 0 0) (by simp [results, Try.results17, go_sem, fault, y0, y1, y5]) rfl ⟨?_, below_res2 Hbl.out (by have := Hgb.out; omega) _ _⟩
      rw [Hres.out, Hrel.out, List.drop_of_length_le (by rw [Hlo.out]; omega), opsFault]
end Go.Proofs.Ytnfeknfakkdbhaa
