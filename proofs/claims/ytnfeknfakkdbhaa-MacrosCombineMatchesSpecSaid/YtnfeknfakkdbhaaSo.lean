/- The laws' equality of operators. -/
import Derived.Test.YtnfeknfakkdbhaaMc3
namespace Go.Proofs.Ytnfeknfakkdbhaa
set_option linter.unusedVariables false
set_option linter.unusedSimpArgs false
open Go.RowKit

def sameB (a b : Opr) : Bool := intsB a.pre b.pre && (intsB a.add b.add && (intsB a.del b.del && decide (a.cost = b.cost)))
set_option maxRecDepth 100000 in
set_option maxHeartbeats 1600000 in
theorem sameOperator_ct (A1 A2 A3 B1 B2 B3 : Option Addr) (n1 c1 n2 c2 n3 c3 m1 d1 m2 d2 m3 d3 : Nat) (a b : Opr) (w : World)
    (h1 : Rd Enc.int w A1 n1 c1 a.pre) (h2 : Rd Enc.int w A2 n2 c2 a.add) (h3 : Rd Enc.int w A3 n3 c3 a.del)
    (g1 : Rd Enc.int w B1 m1 d1 b.pre) (g2 : Rd Enc.int w B2 m2 d2 b.add) (g3 : Rd Enc.int w B3 m3 d3 b.del) (ha : I64s a.cost) (hb : I64s b.cost) :
    Calls Try.prog 21 #[.agg #[.slice A1 n1 c1, .slice A2 n2 c2, .slice A3 n3 c3, .int .i64 a.cost], .agg #[.slice B1 m1 d1, .slice B2 m2 d2, .slice B3 m3 d3, .int .i64 b.cost]] w (Gives w (.bool (sameB a b))) := by
  obtain ⟨ha1, ha2⟩ := ha
  obtain ⟨hb1, hb2⟩ := hb
  have hbw := below_two w (.cells #[.slice A1 n1 c1, .slice A2 n2 c2, .slice A3 n3 c3, .int .i64 a.cost] 27) (.cells #[.slice B1 m1 d1, .slice B2 m2 d2, .slice B3 m3 d3, .int .i64 b.cost] 27)
  have hX := boxed2 w 27 27 [.slice A1 n1 c1, .slice A2 n2 c2, .slice A3 n3 c3, .int .i64 a.cost] [.slice B1 m1 d1, .slice B2 m2 d2, .slice B3 m3 d3, .int .i64 b.cost]
  obtain ⟨hX1, hX2, _⟩ := hX
  have c1_ := fun W hb => Ints_ct A1 B1 n1 c1 m1 d1 a.pre b.pre W (h1.keep hb) (g1.keep hb)
  have c2_ := fun W hb => Ints_ct A2 B2 n2 c2 m2 d2 a.add b.add W (h2.keep hb) (g2.keep hb)
  have c3_ := fun W hb => Ints_ct A3 B3 n3 c3 m3 d3 a.del b.del W (h3.keep hb) (g3.keep hb)
  have Hbw := hide hbw
  have HX1 := hide hX1
  have HX2 := hide hX2
  obtain ⟨x0, x1, x2, x3⟩ := hX1.cell4
  obtain ⟨z0, z1, z2, z3⟩ := hX2.cell4
  clear hbw hX1 hX2 h1 h2 h3 g1 g2 g3
  have Hbl := Hbw
  clear Hbw
  rcases e1 : intsB a.pre b.pre with _ | _
  · skip
    simp only [e1] at c1_
    have C1 := hide c1_
    have E1 := hide e1
    clear c1_ c2_ c3_ e1
    go_enter Try.func21, Try.ntmps21
    go_upto_region 1 with (fail)
    obtain ⟨W0, hW0⟩ : ∃ W0, W0 = (w.alloc (.cells #[.slice A1 n1 c1, .slice A2 n2 c2, .slice A3 n3 c3, .int .i64 a.cost] 27)).alloc (.cells #[.slice B1 m1 d1, .slice B2 m2 d2, .slice B3 m3 d3, .int .i64 b.cost] 27) := ⟨_, rfl⟩
    rw [← hW0] at HX1 HX2 Hbl x0 x1 x2 x3 z0 z1 z2 z3 ⊢
    clear hW0
    generalize w.heap.size = gb at HX1 HX2 x0 x1 x2 x3 z0 z1 z2 z3 ⊢
    go_wp2_with fail
    with_reducible refine (C1.out _ Hbl.out).mono ?_
    rintro e v1 ⟨rfl, hq⟩
    have hb := hq.below W0.heap.size
    clear hq x0 x1 x2 x3 z0 z1 z2 z3
    replace HX1 := hide (HX1.out.keep hb)
    replace HX2 := hide (HX2.out.keep hb)
    replace Hbl := hide (Hbl.out.trans (hb.mono Hbl.out.size))
    clear hb
    obtain ⟨x0, x1, x2, x3⟩ := HX1.out.cell4
    obtain ⟨z0, z1, z2, z3⟩ := HX2.out.cell4
    go_wp2_with fail
    go_ret
    exact ⟨ret_bool (by unfold sameB; rw [E1.out]; simp), Hbl.out⟩
  · skip
    rcases e2 : intsB a.add b.add with _ | _
    · skip
      simp only [e1] at c1_
      simp only [e2] at c2_
      have C1 := hide c1_
      have C2 := hide c2_
      have E1 := hide e1
      have E2 := hide e2
      clear c1_ c2_ c3_ e1 e2
      go_enter Try.func21, Try.ntmps21
      go_upto_region 1 with (fail)
      obtain ⟨W0, hW0⟩ : ∃ W0, W0 = (w.alloc (.cells #[.slice A1 n1 c1, .slice A2 n2 c2, .slice A3 n3 c3, .int .i64 a.cost] 27)).alloc (.cells #[.slice B1 m1 d1, .slice B2 m2 d2, .slice B3 m3 d3, .int .i64 b.cost] 27) := ⟨_, rfl⟩
      rw [← hW0] at HX1 HX2 Hbl x0 x1 x2 x3 z0 z1 z2 z3 ⊢
      clear hW0
      generalize w.heap.size = gb at HX1 HX2 x0 x1 x2 x3 z0 z1 z2 z3 ⊢
      go_wp2_with fail
      with_reducible refine (C1.out _ Hbl.out).mono ?_
      rintro e v1 ⟨rfl, hq⟩
      have hb := hq.below W0.heap.size
      clear hq x0 x1 x2 x3 z0 z1 z2 z3
      replace HX1 := hide (HX1.out.keep hb)
      replace HX2 := hide (HX2.out.keep hb)
      replace Hbl := hide (Hbl.out.trans (hb.mono Hbl.out.size))
      clear hb
      obtain ⟨x0, x1, x2, x3⟩ := HX1.out.cell4
      obtain ⟨z0, z1, z2, z3⟩ := HX2.out.cell4
      go_wp2_with fail
      with_reducible refine (C2.out _ Hbl.out).mono ?_
      rintro e v2 ⟨rfl, hq⟩
      have hb := hq.below v1.heap.size
      clear hq x0 x1 x2 x3 z0 z1 z2 z3
      replace HX1 := hide (HX1.out.keep hb)
      replace HX2 := hide (HX2.out.keep hb)
      replace Hbl := hide (Hbl.out.trans (hb.mono Hbl.out.size))
      clear hb
      obtain ⟨x0, x1, x2, x3⟩ := HX1.out.cell4
      obtain ⟨z0, z1, z2, z3⟩ := HX2.out.cell4
      go_wp2_with fail
      go_ret
      exact ⟨ret_bool (by unfold sameB; rw [E1.out]; rw [E2.out]; simp), Hbl.out⟩
    · skip
      rcases e3 : intsB a.del b.del with _ | _
      · skip
        simp only [e1] at c1_
        simp only [e2] at c2_
        simp only [e3] at c3_
        have C1 := hide c1_
        have C2 := hide c2_
        have C3 := hide c3_
        have E1 := hide e1
        have E2 := hide e2
        have E3 := hide e3
        clear c1_ c2_ c3_ e1 e2 e3
        go_enter Try.func21, Try.ntmps21
        go_upto_region 1 with (fail)
        obtain ⟨W0, hW0⟩ : ∃ W0, W0 = (w.alloc (.cells #[.slice A1 n1 c1, .slice A2 n2 c2, .slice A3 n3 c3, .int .i64 a.cost] 27)).alloc (.cells #[.slice B1 m1 d1, .slice B2 m2 d2, .slice B3 m3 d3, .int .i64 b.cost] 27) := ⟨_, rfl⟩
        rw [← hW0] at HX1 HX2 Hbl x0 x1 x2 x3 z0 z1 z2 z3 ⊢
        clear hW0
        generalize w.heap.size = gb at HX1 HX2 x0 x1 x2 x3 z0 z1 z2 z3 ⊢
        go_wp2_with fail
        with_reducible refine (C1.out _ Hbl.out).mono ?_
        rintro e v1 ⟨rfl, hq⟩
        have hb := hq.below W0.heap.size
        clear hq x0 x1 x2 x3 z0 z1 z2 z3
        replace HX1 := hide (HX1.out.keep hb)
        replace HX2 := hide (HX2.out.keep hb)
        replace Hbl := hide (Hbl.out.trans (hb.mono Hbl.out.size))
        clear hb
        obtain ⟨x0, x1, x2, x3⟩ := HX1.out.cell4
        obtain ⟨z0, z1, z2, z3⟩ := HX2.out.cell4
        go_wp2_with fail
        with_reducible refine (C2.out _ Hbl.out).mono ?_
        rintro e v2 ⟨rfl, hq⟩
        have hb := hq.below v1.heap.size
        clear hq x0 x1 x2 x3 z0 z1 z2 z3
        replace HX1 := hide (HX1.out.keep hb)
        replace HX2 := hide (HX2.out.keep hb)
        replace Hbl := hide (Hbl.out.trans (hb.mono Hbl.out.size))
        clear hb
        obtain ⟨x0, x1, x2, x3⟩ := HX1.out.cell4
        obtain ⟨z0, z1, z2, z3⟩ := HX2.out.cell4
        go_wp2_with fail
        with_reducible refine (C3.out _ Hbl.out).mono ?_
        rintro e v3 ⟨rfl, hq⟩
        have hb := hq.below v2.heap.size
        clear hq x0 x1 x2 x3 z0 z1 z2 z3
        replace HX1 := hide (HX1.out.keep hb)
        replace HX2 := hide (HX2.out.keep hb)
        replace Hbl := hide (Hbl.out.trans (hb.mono Hbl.out.size))
        clear hb
        obtain ⟨x0, x1, x2, x3⟩ := HX1.out.cell4
        obtain ⟨z0, z1, z2, z3⟩ := HX2.out.cell4
        go_wp2_with fail
        go_ret
        exact ⟨ret_bool (by unfold sameB; rw [E1.out]; rw [E2.out]; rw [E3.out]; simp), Hbl.out⟩
      · skip
        simp only [e1] at c1_
        simp only [e2] at c2_
        simp only [e3] at c3_
        have C1 := hide c1_
        have C2 := hide c2_
        have C3 := hide c3_
        have E1 := hide e1
        have E2 := hide e2
        have E3 := hide e3
        clear c1_ c2_ c3_ e1 e2 e3
        go_enter Try.func21, Try.ntmps21
        go_upto_region 1 with (fail)
        obtain ⟨W0, hW0⟩ : ∃ W0, W0 = (w.alloc (.cells #[.slice A1 n1 c1, .slice A2 n2 c2, .slice A3 n3 c3, .int .i64 a.cost] 27)).alloc (.cells #[.slice B1 m1 d1, .slice B2 m2 d2, .slice B3 m3 d3, .int .i64 b.cost] 27) := ⟨_, rfl⟩
        rw [← hW0] at HX1 HX2 Hbl x0 x1 x2 x3 z0 z1 z2 z3 ⊢
        clear hW0
        generalize w.heap.size = gb at HX1 HX2 x0 x1 x2 x3 z0 z1 z2 z3 ⊢
        go_wp2_with fail
        with_reducible refine (C1.out _ Hbl.out).mono ?_
        rintro e v1 ⟨rfl, hq⟩
        have hb := hq.below W0.heap.size
        clear hq x0 x1 x2 x3 z0 z1 z2 z3
        replace HX1 := hide (HX1.out.keep hb)
        replace HX2 := hide (HX2.out.keep hb)
        replace Hbl := hide (Hbl.out.trans (hb.mono Hbl.out.size))
        clear hb
        obtain ⟨x0, x1, x2, x3⟩ := HX1.out.cell4
        obtain ⟨z0, z1, z2, z3⟩ := HX2.out.cell4
        go_wp2_with fail
        with_reducible refine (C2.out _ Hbl.out).mono ?_
        rintro e v2 ⟨rfl, hq⟩
        have hb := hq.below v1.heap.size
        clear hq x0 x1 x2 x3 z0 z1 z2 z3
        replace HX1 := hide (HX1.out.keep hb)
        replace HX2 := hide (HX2.out.keep hb)
        replace Hbl := hide (Hbl.out.trans (hb.mono Hbl.out.size))
        clear hb
        obtain ⟨x0, x1, x2, x3⟩ := HX1.out.cell4
        obtain ⟨z0, z1, z2, z3⟩ := HX2.out.cell4
        go_wp2_with fail
        with_reducible refine (C3.out _ Hbl.out).mono ?_
        rintro e v3 ⟨rfl, hq⟩
        have hb := hq.below v2.heap.size
        clear hq x0 x1 x2 x3 z0 z1 z2 z3
        replace HX1 := hide (HX1.out.keep hb)
        replace HX2 := hide (HX2.out.keep hb)
        replace Hbl := hide (Hbl.out.trans (hb.mono Hbl.out.size))
        clear hb
        obtain ⟨x0, x1, x2, x3⟩ := HX1.out.cell4
        obtain ⟨z0, z1, z2, z3⟩ := HX2.out.cell4
        go_wp2_with fail
        go_ret
        exact ⟨ret_bool (by unfold sameB; rw [E1.out]; rw [E2.out]; rw [E3.out]; simp; rfl), Hbl.out⟩
end Go.Proofs.Ytnfeknfakkdbhaa
