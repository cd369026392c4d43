/- The walk of the law on the Boolean algebra of diagrams. -/
import Derived.Test.YtgenpcokpodhkaaDgLaw1
import Derived.Test.YtgenpcokpodhkaaDgSmall
namespace Go.Proofs.Ytgenpcokpodhkaa
open Go.RowKit Go.Maps

theorem sameD_refl (L : Int) (ns : List DI) (r : Int) : sameD L ns r L ns r = true := by simp [sameD]
set_option maxHeartbeats 12800000 in
set_option maxRecDepth 100000 in
theorem AlgebraLaw_ct (L : Int) (A : Option Addr) (n c : Nat) (ns : List DI) (r L2 : Int) (A2 : Option Addr) (n2 c2 : Nat) (ns2 : List DI) (r2 : Int) (w : World) (hL : -9223372036854775808 ≤ L ∧ L ≤ 9223372036854775807) (hr : -9223372036854775808 ≤ r ∧ r ≤ 9223372036854775807) (hL2 : -9223372036854775808 ≤ L2 ∧ L2 ≤ 9223372036854775807) (hr2 : -9223372036854775808 ≤ r2 ∧ r2 ≤ 9223372036854775807) (h : Rd Enc.node w A n c ns) (h2 : Rd Enc.node w A2 n2 c2 ns2) :
    Calls Try.prog 7 #[.agg #[.int .i64 L, .slice A n c, .int .i64 r], .agg #[.int .i64 L2, .slice A2 n2 c2, .int .i64 r2]] w (Gives w (.bool true)) := by
  have htrue := algebra_true L ns r L2 ns2 r2
  unfold algebra at htrue
  simp only at htrue
  have hcx := fun W => Not_d L A n c ns r W hL hr
  have hcy := fun W => Not_d L2 A2 n2 c2 ns2 r2 W hL2 hr2
  have hca := fun W => And_d L A n c ns r L2 A2 n2 c2 ns2 r2 W hL hr hL2 hr2
  have hcs := fun W => And_d L2 A2 n2 c2 ns2 r2 L A n c ns r W hL2 hr2 hL hr
  have smx := notR_small L ns r
  have smy := notR_small L2 ns2 r2
  have sma := combineR_small 0 L ns r L2 ns2 r2
  generalize hx : notR L ns r = x at htrue hcx smx
  generalize hy : notR L2 ns2 r2 = y at htrue hcy smy
  generalize ha : combineR 0 L ns r L2 ns2 r2 = a at htrue hca sma
  generalize hs : combineR 0 L2 ns2 r2 L ns r = sw at htrue hcs
  obtain ⟨⟨xL, xs, xr⟩, x1, x2⟩ := x
  obtain ⟨⟨yL, ys, yr⟩, y1, y2⟩ := y
  obtain ⟨⟨aL, aS, ar⟩, a1, a2⟩ := a
  obtain ⟨⟨sL, sS, sr⟩, s1, s2⟩ := sw
  clear hx hy ha hs
  have hcb := fun B m d W => Not_d xL B m d xs xr W smx.1 smx.2
  have hcn := fun B m d W => Not_d aL B m d aS ar W sma.1 sma.2
  have hco := fun B m d B2 m2 d2 W => Or_d2 xL B m d xs xr yL B2 m2 d2 ys yr W smx.1 smx.2 smy.1 smy.2
  simp only at htrue
  generalize hb : notR xL xs xr = b at htrue hcb
  generalize hn : notR aL aS ar = nt at htrue hcn
  generalize ho : combineR 1 xL xs xr yL ys yr = o at htrue hco
  obtain ⟨⟨bL, bs, br⟩, b1, b2⟩ := b
  obtain ⟨⟨nL, nns, nr⟩, t1, t2⟩ := nt
  obtain ⟨⟨oL, oS, or_⟩, o1, o2⟩ := o
  clear hb hn ho smx smy sma
  simp only at htrue
  have Hcx := hide hcx
  have Hcy := hide hcy
  have Hca := hide hca
  have Hcs := hide hcs
  have Hcb := hide hcb
  have Hcn := hide hcn
  have Hco := hide hco
  have Htrue := hide htrue
  have hb0 := below_two w (.cells #[(.int .i64 L), (.slice A n c), (.int .i64 r)] 30) (.cells #[(.int .i64 L2), (.slice A2 n2 c2), (.int .i64 r2)] 30)
  have h1 := ((show Bxs w [] from fun x hx => by cases hx).push 30 [(.int .i64 L), (.slice A n c), (.int .i64 r)]).push 30 [(.int .i64 L2), (.slice A2 n2 c2), (.int .i64 r2)]
  simp only [World.size_alloc] at h1
  have HB := hide hb0
  have HX := hide h1
  have R := hide (h.keep hb0)
  have R2 := hide (h2.keep hb0)
  clear hcx hcy hca hcs hcb hcn hco htrue h h2 hb0 h1 hL hr hL2 hr2
  go_enter Try.func7, Try.ntmps7
  go_wp2_with fail
  have hc := example_ct ((w.alloc (.cells #[(.int .i64 L), (.slice A n c), (.int .i64 r)] 30)).alloc (.cells #[(.int .i64 L2), (.slice A2 n2 c2), (.int .i64 r2)] 30))
  refine hc.mono ?_
  clear hc
  rintro e w1 ⟨rfl, hb⟩
  have HB' := hide (HB.out.trans (hb.mono HB.out.size))
  clear HB
  have HB := HB'
  clear HB'
  have R' := hide (R.out.keep hb)
  clear R
  have R := R'
  clear R'
  have R2' := hide (R2.out.keep hb)
  clear R2
  have R2 := R2'
  clear R2'
  have HX' := hide (HX.out.keep hb)
  clear HX
  have HX := HX'
  clear HX'
  clear hb
  have bb1 := HX.out (30, w.heap.size, [(.int .i64 L), (.slice A n c), (.int .i64 r)]) (by simp)
  have bc1_0 := bb1.cell 0
  have bc1_1 := bb1.cell 1
  have bc1_2 := bb1.cell 2
  have bl1 := bb1.lt
  simp only [List.getElem?_cons_zero, List.getElem?_cons_succ] at bl1 bc1_0 bc1_1 bc1_2
  clear bb1
  have bb2 := HX.out (30, w.heap.size + 1, [(.int .i64 L2), (.slice A2 n2 c2), (.int .i64 r2)]) (by simp)
  have bc2_0 := bb2.cell 0
  have bc2_1 := bb2.cell 1
  have bc2_2 := bb2.cell 2
  have bl2 := bb2.lt
  simp only [List.getElem?_cons_zero, List.getElem?_cons_succ] at bl2 bc2_0 bc2_1 bc2_2
  clear bb2
  go_wp2_with fail
  clear bl1 bc1_0 bc1_1 bc1_2 bl2 bc2_0 bc2_1 bc2_2
  have hc := Hcx.out w1 R.out
  refine hc.mono ?_
  clear hc
  intro e w2 hp
  obtain ⟨A3, n3, c3, rfl, hr, hb⟩ := hp.open_
  have HB' := hide (HB.out.trans (hb.mono HB.out.size))
  clear HB
  have HB := HB'
  clear HB'
  have R' := hide (R.out.keep hb)
  clear R
  have R := R'
  clear R'
  have R2' := hide (R2.out.keep hb)
  clear R2
  have R2 := R2'
  clear R2'
  have HX' := hide (HX.out.keep hb)
  clear HX
  have HX := HX'
  clear HX'
  have R3 := hide hr
  clear hp hr hb
  have bb1 := HX.out (30, w.heap.size, [(.int .i64 L), (.slice A n c), (.int .i64 r)]) (by simp)
  have bc1_0 := bb1.cell 0
  have bc1_1 := bb1.cell 1
  have bc1_2 := bb1.cell 2
  have bl1 := bb1.lt
  simp only [List.getElem?_cons_zero, List.getElem?_cons_succ] at bl1 bc1_0 bc1_1 bc1_2
  clear bb1
  have bb2 := HX.out (30, w.heap.size + 1, [(.int .i64 L2), (.slice A2 n2 c2), (.int .i64 r2)]) (by simp)
  have bc2_0 := bb2.cell 0
  have bc2_1 := bb2.cell 1
  have bc2_2 := bb2.cell 2
  have bl2 := bb2.lt
  simp only [List.getElem?_cons_zero, List.getElem?_cons_succ] at bl2 bc2_0 bc2_1 bc2_2
  clear bb2
  go_wp2_with fail
  clear bl1 bc1_0 bc1_1 bc1_2 bl2 bc2_0 bc2_1 bc2_2
  obtain ⟨W2, hW⟩ : ∃ W, W = (w2.alloc (.cells #[(.int .i64 xL), (.slice A3 n3 c3), (.int .i64 xr)] 30)).alloc (.cells #[(.int .i64 x1), (.int .i64 x2)] 25) := ⟨_, rfl⟩
  rw [← hW]
  have hbW : Below w2.heap.size w2 W2 := by rw [hW]; exact below_two _ _ _
  have hX : Bxs W2 [(25, w2.heap.size + 1, [(.int .i64 x1), (.int .i64 x2)]), (30, w2.heap.size, [(.int .i64 xL), (.slice A3 n3 c3), (.int .i64 xr)]), (30, w.heap.size + 1, [(.int .i64 L2), (.slice A2 n2 c2), (.int .i64 r2)]), (30, w.heap.size, [(.int .i64 L), (.slice A n c), (.int .i64 r)])] := by
    rw [hW]
    have h1 := (HX.out.push 30 [(.int .i64 xL), (.slice A3 n3 c3), (.int .i64 xr)]).push 25 [(.int .i64 x1), (.int .i64 x2)]
    simp only [World.size_alloc] at h1
    exact h1
  have HB' := hide (HB.out.trans (hbW.mono HB.out.size))
  clear HB
  have HB := HB'
  clear HB'
  have R' := hide (R.out.keep hbW)
  clear R
  have R := R'
  clear R'
  have R2' := hide (R2.out.keep hbW)
  clear R2
  have R2 := R2'
  clear R2'
  have R3' := hide (R3.out.keep hbW)
  clear R3
  have R3 := R3'
  clear R3'
  have HX' := hide (hX)
  clear HX
  have HX := HX'
  clear HX'
  clear hW hbW hX
  have hc := Hcy.out W2 R2.out
  refine hc.mono ?_
  clear hc
  intro e w3 hp
  obtain ⟨A4, n4, c4, rfl, hr, hb⟩ := hp.open_
  have HB' := hide (HB.out.trans (hb.mono HB.out.size))
  clear HB
  have HB := HB'
  clear HB'
  have R' := hide (R.out.keep hb)
  clear R
  have R := R'
  clear R'
  have R2' := hide (R2.out.keep hb)
  clear R2
  have R2 := R2'
  clear R2'
  have R3' := hide (R3.out.keep hb)
  clear R3
  have R3 := R3'
  clear R3'
  have HX' := hide (HX.out.keep hb)
  clear HX
  have HX := HX'
  clear HX'
  have R4 := hide hr
  clear hp hr hb
  by_cases hq : x1 ≠ 0 ∨ y1 ≠ 0 ∨ L ≠ L2
  · clear Htrue
    have bb4 := HX.out (25, w2.heap.size + 1, [(.int .i64 x1), (.int .i64 x2)]) (by simp)
    have bc4_0 := bb4.cell 0
    have bc4_1 := bb4.cell 1
    have bl4 := bb4.lt
    simp only [List.getElem?_cons_zero, List.getElem?_cons_succ] at bl4 bc4_0 bc4_1
    clear bb4
    have bb3 := HX.out (30, w2.heap.size, [(.int .i64 xL), (.slice A3 n3 c3), (.int .i64 xr)]) (by simp)
    have bc3_0 := bb3.cell 0
    have bc3_1 := bb3.cell 1
    have bc3_2 := bb3.cell 2
    have bl3 := bb3.lt
    simp only [List.getElem?_cons_zero, List.getElem?_cons_succ] at bl3 bc3_0 bc3_1 bc3_2
    clear bb3
    have bb2 := HX.out (30, w.heap.size + 1, [(.int .i64 L2), (.slice A2 n2 c2), (.int .i64 r2)]) (by simp)
    have bc2_0 := bb2.cell 0
    have bc2_1 := bb2.cell 1
    have bc2_2 := bb2.cell 2
    have bl2 := bb2.lt
    simp only [List.getElem?_cons_zero, List.getElem?_cons_succ] at bl2 bc2_0 bc2_1 bc2_2
    clear bb2
    have bb1 := HX.out (30, w.heap.size, [(.int .i64 L), (.slice A n c), (.int .i64 r)]) (by simp)
    have bc1_0 := bb1.cell 0
    have bc1_1 := bb1.cell 1
    have bc1_2 := bb1.cell 2
    have bl1 := bb1.lt
    simp only [List.getElem?_cons_zero, List.getElem?_cons_succ] at bl1 bc1_0 bc1_1 bc1_2
    clear bb1
    have hd1 : (x1 == 0) = decide (x1 = 0) := by by_cases hz : x1 = 0 <;> simp [hz]
    have hd2 : (y1 == 0) = decide (y1 = 0) := by by_cases hz : y1 = 0 <;> simp [hz]
    have hd3 : (L == L2) = decide (L = L2) := by by_cases hz : L = L2 <;> simp [hz]
    by_cases q1 : x1 = 0
    · subst q1
      by_cases q2 : y1 = 0
      · subst q2
        have q3 : L ≠ L2 := by simpa using hq
        clear hq hd1 hd2 hd3
        have q4 : (L == L2) = false := by simpa using q3
        go_wp2
        go_ret
        exact ⟨rfl, (HB.out.alloc HB.out.size _).alloc (by rw [World.size_alloc]; exact Nat.le_succ_of_le HB.out.size) _⟩
      · have q4 : (y1 == 0) = false := by simpa using q2
        clear hq hd1 hd2 hd3
        go_wp2
        go_ret
        exact ⟨rfl, (HB.out.alloc HB.out.size _).alloc (by rw [World.size_alloc]; exact Nat.le_succ_of_le HB.out.size) _⟩
    · have q4 : (x1 == 0) = false := by simpa using q1
      clear hq hd1 hd2 hd3
      go_wp2
      go_ret
      exact ⟨rfl, (HB.out.alloc HB.out.size _).alloc (by rw [World.size_alloc]; exact Nat.le_succ_of_le HB.out.size) _⟩
  have ht := Htrue.out
  rw [if_neg hq] at ht
  clear Htrue
  have Ht := hide ht
  clear ht
  simp only [not_or, ne_eq, Decidable.not_not] at hq
  obtain ⟨rfl, rfl, rfl⟩ := hq
  have bb4 := HX.out (25, w2.heap.size + 1, [(.int .i64 0), (.int .i64 x2)]) (by simp)
  have bc4_0 := bb4.cell 0
  have bc4_1 := bb4.cell 1
  have bl4 := bb4.lt
  simp only [List.getElem?_cons_zero, List.getElem?_cons_succ] at bl4 bc4_0 bc4_1
  clear bb4
  have bb3 := HX.out (30, w2.heap.size, [(.int .i64 xL), (.slice A3 n3 c3), (.int .i64 xr)]) (by simp)
  have bc3_0 := bb3.cell 0
  have bc3_1 := bb3.cell 1
  have bc3_2 := bb3.cell 2
  have bl3 := bb3.lt
  simp only [List.getElem?_cons_zero, List.getElem?_cons_succ] at bl3 bc3_0 bc3_1 bc3_2
  clear bb3
  have bb2 := HX.out (30, w.heap.size + 1, [(.int .i64 L), (.slice A2 n2 c2), (.int .i64 r2)]) (by simp)
  have bc2_0 := bb2.cell 0
  have bc2_1 := bb2.cell 1
  have bc2_2 := bb2.cell 2
  have bl2 := bb2.lt
  simp only [List.getElem?_cons_zero, List.getElem?_cons_succ] at bl2 bc2_0 bc2_1 bc2_2
  clear bb2
  have bb1 := HX.out (30, w.heap.size, [(.int .i64 L), (.slice A n c), (.int .i64 r)]) (by simp)
  have bc1_0 := bb1.cell 0
  have bc1_1 := bb1.cell 1
  have bc1_2 := bb1.cell 2
  have bl1 := bb1.lt
  simp only [List.getElem?_cons_zero, List.getElem?_cons_succ] at bl1 bc1_0 bc1_1 bc1_2
  clear bb1
  go_wp2_with fail
  clear bl4 bc4_0 bc4_1 bl3 bc3_0 bc3_1 bc3_2 bl2 bc2_0 bc2_1 bc2_2 bl1 bc1_0 bc1_1 bc1_2
  obtain ⟨W3, hW⟩ : ∃ W, W = (w3.alloc (.cells #[(.int .i64 yL), (.slice A4 n4 c4), (.int .i64 yr)] 30)).alloc (.cells #[(.int .i64 0), (.int .i64 y2)] 25) := ⟨_, rfl⟩
  rw [← hW]
  have hbW : Below w3.heap.size w3 W3 := by rw [hW]; exact below_two _ _ _
  have hX : Bxs W3 [(25, w3.heap.size + 1, [(.int .i64 0), (.int .i64 y2)]), (30, w3.heap.size, [(.int .i64 yL), (.slice A4 n4 c4), (.int .i64 yr)]), (25, w2.heap.size + 1, [(.int .i64 0), (.int .i64 x2)]), (30, w2.heap.size, [(.int .i64 xL), (.slice A3 n3 c3), (.int .i64 xr)]), (30, w.heap.size + 1, [(.int .i64 L), (.slice A2 n2 c2), (.int .i64 r2)]), (30, w.heap.size, [(.int .i64 L), (.slice A n c), (.int .i64 r)])] := by
    rw [hW]
    have h1 := (HX.out.push 30 [(.int .i64 yL), (.slice A4 n4 c4), (.int .i64 yr)]).push 25 [(.int .i64 0), (.int .i64 y2)]
    simp only [World.size_alloc] at h1
    exact h1
  have HB' := hide (HB.out.trans (hbW.mono HB.out.size))
  clear HB
  have HB := HB'
  clear HB'
  have R' := hide (R.out.keep hbW)
  clear R
  have R := R'
  clear R'
  have R2' := hide (R2.out.keep hbW)
  clear R2
  have R2 := R2'
  clear R2'
  have R3' := hide (R3.out.keep hbW)
  clear R3
  have R3 := R3'
  clear R3'
  have R4' := hide (R4.out.keep hbW)
  clear R4
  have R4 := R4'
  clear R4'
  have HX' := hide (hX)
  clear HX
  have HX := HX'
  clear HX'
  clear hW hbW hX
  have hc := Hcb.out A3 n3 c3 W3 R3.out
  refine hc.mono ?_
  clear hc
  intro e w4 hp
  obtain ⟨A5, n5, c5, rfl, hr, hb⟩ := hp.open_
  have HB' := hide (HB.out.trans (hb.mono HB.out.size))
  clear HB
  have HB := HB'
  clear HB'
  have R' := hide (R.out.keep hb)
  clear R
  have R := R'
  clear R'
  have R2' := hide (R2.out.keep hb)
  clear R2
  have R2 := R2'
  clear R2'
  have R3' := hide (R3.out.keep hb)
  clear R3
  have R3 := R3'
  clear R3'
  have R4' := hide (R4.out.keep hb)
  clear R4
  have R4 := R4'
  clear R4'
  have HX' := hide (HX.out.keep hb)
  clear HX
  have HX := HX'
  clear HX'
  have R5 := hide hr
  clear hp hr hb
  have bb1 := HX.out (30, w.heap.size, [(.int .i64 L), (.slice A n c), (.int .i64 r)]) (by simp)
  have bc1_0 := bb1.cell 0
  have bc1_1 := bb1.cell 1
  have bc1_2 := bb1.cell 2
  have bl1 := bb1.lt
  simp only [List.getElem?_cons_zero, List.getElem?_cons_succ] at bl1 bc1_0 bc1_1 bc1_2
  clear bb1
  have bb2 := HX.out (30, w.heap.size + 1, [(.int .i64 L), (.slice A2 n2 c2), (.int .i64 r2)]) (by simp)
  have bc2_0 := bb2.cell 0
  have bc2_1 := bb2.cell 1
  have bc2_2 := bb2.cell 2
  have bl2 := bb2.lt
  simp only [List.getElem?_cons_zero, List.getElem?_cons_succ] at bl2 bc2_0 bc2_1 bc2_2
  clear bb2
  go_wp2_with fail
  clear bl1 bc1_0 bc1_1 bc1_2 bl2 bc2_0 bc2_1 bc2_2
  obtain ⟨W4, hW⟩ : ∃ W, W = (w4.alloc (.cells #[(.int .i64 bL), (.slice A5 n5 c5), (.int .i64 br)] 30)).alloc (.cells #[(.int .i64 b1), (.int .i64 b2)] 25) := ⟨_, rfl⟩
  rw [← hW]
  have hbW : Below w4.heap.size w4 W4 := by rw [hW]; exact below_two _ _ _
  have hX : Bxs W4 [(25, w4.heap.size + 1, [(.int .i64 b1), (.int .i64 b2)]), (30, w4.heap.size, [(.int .i64 bL), (.slice A5 n5 c5), (.int .i64 br)]), (25, w3.heap.size + 1, [(.int .i64 0), (.int .i64 y2)]), (30, w3.heap.size, [(.int .i64 yL), (.slice A4 n4 c4), (.int .i64 yr)]), (25, w2.heap.size + 1, [(.int .i64 0), (.int .i64 x2)]), (30, w2.heap.size, [(.int .i64 xL), (.slice A3 n3 c3), (.int .i64 xr)]), (30, w.heap.size + 1, [(.int .i64 L), (.slice A2 n2 c2), (.int .i64 r2)]), (30, w.heap.size, [(.int .i64 L), (.slice A n c), (.int .i64 r)])] := by
    rw [hW]
    have h1 := (HX.out.push 30 [(.int .i64 bL), (.slice A5 n5 c5), (.int .i64 br)]).push 25 [(.int .i64 b1), (.int .i64 b2)]
    simp only [World.size_alloc] at h1
    exact h1
  have HB' := hide (HB.out.trans (hbW.mono HB.out.size))
  clear HB
  have HB := HB'
  clear HB'
  have R' := hide (R.out.keep hbW)
  clear R
  have R := R'
  clear R'
  have R2' := hide (R2.out.keep hbW)
  clear R2
  have R2 := R2'
  clear R2'
  have R3' := hide (R3.out.keep hbW)
  clear R3
  have R3 := R3'
  clear R3'
  have R4' := hide (R4.out.keep hbW)
  clear R4
  have R4 := R4'
  clear R4'
  have R5' := hide (R5.out.keep hbW)
  clear R5
  have R5 := R5'
  clear R5'
  have HX' := hide (hX)
  clear HX
  have HX := HX'
  clear HX'
  clear hW hbW hX
  have hc := Hca.out W4 R.out R2.out
  refine hc.mono ?_
  clear hc
  intro e w5 hp
  obtain ⟨A6, n6, c6, rfl, hr, hb⟩ := hp.open_
  have HB' := hide (HB.out.trans (hb.mono HB.out.size))
  clear HB
  have HB := HB'
  clear HB'
  have R' := hide (R.out.keep hb)
  clear R
  have R := R'
  clear R'
  have R2' := hide (R2.out.keep hb)
  clear R2
  have R2 := R2'
  clear R2'
  have R3' := hide (R3.out.keep hb)
  clear R3
  have R3 := R3'
  clear R3'
  have R4' := hide (R4.out.keep hb)
  clear R4
  have R4 := R4'
  clear R4'
  have R5' := hide (R5.out.keep hb)
  clear R5
  have R5 := R5'
  clear R5'
  have HX' := hide (HX.out.keep hb)
  clear HX
  have HX := HX'
  clear HX'
  have R6 := hide hr
  clear hp hr hb
  go_wp2_with fail
  obtain ⟨W5, hW⟩ : ∃ W, W = (w5.alloc (.cells #[(.int .i64 aL), (.slice A6 n6 c6), (.int .i64 ar)] 30)).alloc (.cells #[(.int .i64 a1), (.int .i64 a2)] 25) := ⟨_, rfl⟩
  rw [← hW]
  have hbW : Below w5.heap.size w5 W5 := by rw [hW]; exact below_two _ _ _
  have hX : Bxs W5 [(25, w5.heap.size + 1, [(.int .i64 a1), (.int .i64 a2)]), (30, w5.heap.size, [(.int .i64 aL), (.slice A6 n6 c6), (.int .i64 ar)]), (25, w4.heap.size + 1, [(.int .i64 b1), (.int .i64 b2)]), (30, w4.heap.size, [(.int .i64 bL), (.slice A5 n5 c5), (.int .i64 br)]), (25, w3.heap.size + 1, [(.int .i64 0), (.int .i64 y2)]), (30, w3.heap.size, [(.int .i64 yL), (.slice A4 n4 c4), (.int .i64 yr)]), (25, w2.heap.size + 1, [(.int .i64 0), (.int .i64 x2)]), (30, w2.heap.size, [(.int .i64 xL), (.slice A3 n3 c3), (.int .i64 xr)]), (30, w.heap.size + 1, [(.int .i64 L), (.slice A2 n2 c2), (.int .i64 r2)]), (30, w.heap.size, [(.int .i64 L), (.slice A n c), (.int .i64 r)])] := by
    rw [hW]
    have h1 := (HX.out.push 30 [(.int .i64 aL), (.slice A6 n6 c6), (.int .i64 ar)]).push 25 [(.int .i64 a1), (.int .i64 a2)]
    simp only [World.size_alloc] at h1
    exact h1
  have HB' := hide (HB.out.trans (hbW.mono HB.out.size))
  clear HB
  have HB := HB'
  clear HB'
  have R' := hide (R.out.keep hbW)
  clear R
  have R := R'
  clear R'
  have R2' := hide (R2.out.keep hbW)
  clear R2
  have R2 := R2'
  clear R2'
  have R3' := hide (R3.out.keep hbW)
  clear R3
  have R3 := R3'
  clear R3'
  have R4' := hide (R4.out.keep hbW)
  clear R4
  have R4 := R4'
  clear R4'
  have R5' := hide (R5.out.keep hbW)
  clear R5
  have R5 := R5'
  clear R5'
  have R6' := hide (R6.out.keep hbW)
  clear R6
  have R6 := R6'
  clear R6'
  have HX' := hide (hX)
  clear HX
  have HX := HX'
  clear HX'
  clear hW hbW hX
  have hc := Hcn.out A6 n6 c6 W5 R6.out
  refine hc.mono ?_
  clear hc
  intro e w6 hp
  obtain ⟨A7, n7, c7, rfl, hr, hb⟩ := hp.open_
  have HB' := hide (HB.out.trans (hb.mono HB.out.size))
  clear HB
  have HB := HB'
  clear HB'
  have R' := hide (R.out.keep hb)
  clear R
  have R := R'
  clear R'
  have R2' := hide (R2.out.keep hb)
  clear R2
  have R2 := R2'
  clear R2'
  have R3' := hide (R3.out.keep hb)
  clear R3
  have R3 := R3'
  clear R3'
  have R4' := hide (R4.out.keep hb)
  clear R4
  have R4 := R4'
  clear R4'
  have R5' := hide (R5.out.keep hb)
  clear R5
  have R5 := R5'
  clear R5'
  have R6' := hide (R6.out.keep hb)
  clear R6
  have R6 := R6'
  clear R6'
  have HX' := hide (HX.out.keep hb)
  clear HX
  have HX := HX'
  clear HX'
  have R7 := hide hr
  clear hp hr hb
  have bb3 := HX.out (30, w2.heap.size, [(.int .i64 xL), (.slice A3 n3 c3), (.int .i64 xr)]) (by simp)
  have bc3_0 := bb3.cell 0
  have bc3_1 := bb3.cell 1
  have bc3_2 := bb3.cell 2
  have bl3 := bb3.lt
  simp only [List.getElem?_cons_zero, List.getElem?_cons_succ] at bl3 bc3_0 bc3_1 bc3_2
  clear bb3
  have bb5 := HX.out (30, w3.heap.size, [(.int .i64 yL), (.slice A4 n4 c4), (.int .i64 yr)]) (by simp)
  have bc5_0 := bb5.cell 0
  have bc5_1 := bb5.cell 1
  have bc5_2 := bb5.cell 2
  have bl5 := bb5.lt
  simp only [List.getElem?_cons_zero, List.getElem?_cons_succ] at bl5 bc5_0 bc5_1 bc5_2
  clear bb5
  go_wp2_with fail
  clear bl3 bc3_0 bc3_1 bc3_2 bl5 bc5_0 bc5_1 bc5_2
  obtain ⟨W6, hW⟩ : ∃ W, W = (w6.alloc (.cells #[(.int .i64 nL), (.slice A7 n7 c7), (.int .i64 nr)] 30)).alloc (.cells #[(.int .i64 t1), (.int .i64 t2)] 25) := ⟨_, rfl⟩
  rw [← hW]
  have hbW : Below w6.heap.size w6 W6 := by rw [hW]; exact below_two _ _ _
  have hX : Bxs W6 [(25, w6.heap.size + 1, [(.int .i64 t1), (.int .i64 t2)]), (30, w6.heap.size, [(.int .i64 nL), (.slice A7 n7 c7), (.int .i64 nr)]), (25, w5.heap.size + 1, [(.int .i64 a1), (.int .i64 a2)]), (30, w5.heap.size, [(.int .i64 aL), (.slice A6 n6 c6), (.int .i64 ar)]), (25, w4.heap.size + 1, [(.int .i64 b1), (.int .i64 b2)]), (30, w4.heap.size, [(.int .i64 bL), (.slice A5 n5 c5), (.int .i64 br)]), (25, w3.heap.size + 1, [(.int .i64 0), (.int .i64 y2)]), (30, w3.heap.size, [(.int .i64 yL), (.slice A4 n4 c4), (.int .i64 yr)]), (25, w2.heap.size + 1, [(.int .i64 0), (.int .i64 x2)]), (30, w2.heap.size, [(.int .i64 xL), (.slice A3 n3 c3), (.int .i64 xr)]), (30, w.heap.size + 1, [(.int .i64 L), (.slice A2 n2 c2), (.int .i64 r2)]), (30, w.heap.size, [(.int .i64 L), (.slice A n c), (.int .i64 r)])] := by
    rw [hW]
    have h1 := (HX.out.push 30 [(.int .i64 nL), (.slice A7 n7 c7), (.int .i64 nr)]).push 25 [(.int .i64 t1), (.int .i64 t2)]
    simp only [World.size_alloc] at h1
    exact h1
  have HB' := hide (HB.out.trans (hbW.mono HB.out.size))
  clear HB
  have HB := HB'
  clear HB'
  have R' := hide (R.out.keep hbW)
  clear R
  have R := R'
  clear R'
  have R2' := hide (R2.out.keep hbW)
  clear R2
  have R2 := R2'
  clear R2'
  have R3' := hide (R3.out.keep hbW)
  clear R3
  have R3 := R3'
  clear R3'
  have R4' := hide (R4.out.keep hbW)
  clear R4
  have R4 := R4'
  clear R4'
  have R5' := hide (R5.out.keep hbW)
  clear R5
  have R5 := R5'
  clear R5'
  have R6' := hide (R6.out.keep hbW)
  clear R6
  have R6 := R6'
  clear R6'
  have R7' := hide (R7.out.keep hbW)
  clear R7
  have R7 := R7'
  clear R7'
  have HX' := hide (hX)
  clear HX
  have HX := HX'
  clear HX'
  clear hW hbW hX
  have hc := Hco.out A3 n3 c3 A4 n4 c4 W6 R3.out R4.out
  refine hc.mono ?_
  clear hc
  intro e w7 hp
  obtain ⟨A8, n8, c8, rfl, hr, hb⟩ := hp.open_
  have HB' := hide (HB.out.trans (hb.mono HB.out.size))
  clear HB
  have HB := HB'
  clear HB'
  have R' := hide (R.out.keep hb)
  clear R
  have R := R'
  clear R'
  have R2' := hide (R2.out.keep hb)
  clear R2
  have R2 := R2'
  clear R2'
  have R3' := hide (R3.out.keep hb)
  clear R3
  have R3 := R3'
  clear R3'
  have R4' := hide (R4.out.keep hb)
  clear R4
  have R4 := R4'
  clear R4'
  have R5' := hide (R5.out.keep hb)
  clear R5
  have R5 := R5'
  clear R5'
  have R6' := hide (R6.out.keep hb)
  clear R6
  have R6 := R6'
  clear R6'
  have R7' := hide (R7.out.keep hb)
  clear R7
  have R7 := R7'
  clear R7'
  have HX' := hide (HX.out.keep hb)
  clear HX
  have HX := HX'
  clear HX'
  have R8 := hide hr
  clear hp hr hb
  have bb1 := HX.out (30, w.heap.size, [(.int .i64 L), (.slice A n c), (.int .i64 r)]) (by simp)
  have bc1_0 := bb1.cell 0
  have bc1_1 := bb1.cell 1
  have bc1_2 := bb1.cell 2
  have bl1 := bb1.lt
  simp only [List.getElem?_cons_zero, List.getElem?_cons_succ] at bl1 bc1_0 bc1_1 bc1_2
  clear bb1
  have bb2 := HX.out (30, w.heap.size + 1, [(.int .i64 L), (.slice A2 n2 c2), (.int .i64 r2)]) (by simp)
  have bc2_0 := bb2.cell 0
  have bc2_1 := bb2.cell 1
  have bc2_2 := bb2.cell 2
  have bl2 := bb2.lt
  simp only [List.getElem?_cons_zero, List.getElem?_cons_succ] at bl2 bc2_0 bc2_1 bc2_2
  clear bb2
  go_wp2_with fail
  clear bl1 bc1_0 bc1_1 bc1_2 bl2 bc2_0 bc2_1 bc2_2
  obtain ⟨W7, hW⟩ : ∃ W, W = (w7.alloc (.cells #[(.int .i64 oL), (.slice A8 n8 c8), (.int .i64 or_)] 30)).alloc (.cells #[(.int .i64 o1), (.int .i64 o2)] 25) := ⟨_, rfl⟩
  rw [← hW]
  have hbW : Below w7.heap.size w7 W7 := by rw [hW]; exact below_two _ _ _
  have hX : Bxs W7 [(25, w7.heap.size + 1, [(.int .i64 o1), (.int .i64 o2)]), (30, w7.heap.size, [(.int .i64 oL), (.slice A8 n8 c8), (.int .i64 or_)]), (25, w6.heap.size + 1, [(.int .i64 t1), (.int .i64 t2)]), (30, w6.heap.size, [(.int .i64 nL), (.slice A7 n7 c7), (.int .i64 nr)]), (25, w5.heap.size + 1, [(.int .i64 a1), (.int .i64 a2)]), (30, w5.heap.size, [(.int .i64 aL), (.slice A6 n6 c6), (.int .i64 ar)]), (25, w4.heap.size + 1, [(.int .i64 b1), (.int .i64 b2)]), (30, w4.heap.size, [(.int .i64 bL), (.slice A5 n5 c5), (.int .i64 br)]), (25, w3.heap.size + 1, [(.int .i64 0), (.int .i64 y2)]), (30, w3.heap.size, [(.int .i64 yL), (.slice A4 n4 c4), (.int .i64 yr)]), (25, w2.heap.size + 1, [(.int .i64 0), (.int .i64 x2)]), (30, w2.heap.size, [(.int .i64 xL), (.slice A3 n3 c3), (.int .i64 xr)]), (30, w.heap.size + 1, [(.int .i64 L), (.slice A2 n2 c2), (.int .i64 r2)]), (30, w.heap.size, [(.int .i64 L), (.slice A n c), (.int .i64 r)])] := by
    rw [hW]
    have h1 := (HX.out.push 30 [(.int .i64 oL), (.slice A8 n8 c8), (.int .i64 or_)]).push 25 [(.int .i64 o1), (.int .i64 o2)]
    simp only [World.size_alloc] at h1
    exact h1
  have HB' := hide (HB.out.trans (hbW.mono HB.out.size))
  clear HB
  have HB := HB'
  clear HB'
  have R' := hide (R.out.keep hbW)
  clear R
  have R := R'
  clear R'
  have R2' := hide (R2.out.keep hbW)
  clear R2
  have R2 := R2'
  clear R2'
  have R3' := hide (R3.out.keep hbW)
  clear R3
  have R3 := R3'
  clear R3'
  have R4' := hide (R4.out.keep hbW)
  clear R4
  have R4 := R4'
  clear R4'
  have R5' := hide (R5.out.keep hbW)
  clear R5
  have R5 := R5'
  clear R5'
  have R6' := hide (R6.out.keep hbW)
  clear R6
  have R6 := R6'
  clear R6'
  have R7' := hide (R7.out.keep hbW)
  clear R7
  have R7 := R7'
  clear R7'
  have R8' := hide (R8.out.keep hbW)
  clear R8
  have R8 := R8'
  clear R8'
  have HX' := hide (hX)
  clear HX
  have HX := HX'
  clear HX'
  clear hW hbW hX
  have hc := Hcs.out W7 R2.out R.out
  refine hc.mono ?_
  clear hc
  intro e w8 hp
  obtain ⟨A9, n9, c9, rfl, hr, hb⟩ := hp.open_
  have HB' := hide (HB.out.trans (hb.mono HB.out.size))
  clear HB
  have HB := HB'
  clear HB'
  have R' := hide (R.out.keep hb)
  clear R
  have R := R'
  clear R'
  have R2' := hide (R2.out.keep hb)
  clear R2
  have R2 := R2'
  clear R2'
  have R3' := hide (R3.out.keep hb)
  clear R3
  have R3 := R3'
  clear R3'
  have R4' := hide (R4.out.keep hb)
  clear R4
  have R4 := R4'
  clear R4'
  have R5' := hide (R5.out.keep hb)
  clear R5
  have R5 := R5'
  clear R5'
  have R6' := hide (R6.out.keep hb)
  clear R6
  have R6 := R6'
  clear R6'
  have R7' := hide (R7.out.keep hb)
  clear R7
  have R7 := R7'
  clear R7'
  have R8' := hide (R8.out.keep hb)
  clear R8
  have R8 := R8'
  clear R8'
  have HX' := hide (HX.out.keep hb)
  clear HX
  have HX := HX'
  clear HX'
  have R9 := hide hr
  clear hp hr hb
  have hz : ¬(b1 ≠ 0 ∨ ¬ ((bL, bs, br) = (L, ns, r)) ∨ (a1, a2) ≠ (s1, s2) ∨ ¬ ((aL, aS, ar) = (sL, sS, sr))) := by intro hz; have hw := Ht.out; rw [if_pos hz] at hw; cases hw
  have ht := Ht.out
  rw [if_neg hz] at ht
  simp only [not_or, ne_eq, Decidable.not_not, Prod.mk.injEq] at hz
  obtain ⟨rfl, ⟨rfl, rfl, rfl⟩, ⟨rfl, rfl⟩, ⟨rfl, rfl, rfl⟩⟩ := hz
  clear Ht
  have Ht := hide ht
  clear ht
  have bb7 := HX.out (30, w4.heap.size, [(.int .i64 bL), (.slice A5 n5 c5), (.int .i64 br)]) (by simp)
  have bc7_0 := bb7.cell 0
  have bc7_1 := bb7.cell 1
  have bc7_2 := bb7.cell 2
  have bl7 := bb7.lt
  simp only [List.getElem?_cons_zero, List.getElem?_cons_succ] at bl7 bc7_0 bc7_1 bc7_2
  clear bb7
  have bb8 := HX.out (25, w4.heap.size + 1, [(.int .i64 0), (.int .i64 b2)]) (by simp)
  have bc8_0 := bb8.cell 0
  have bc8_1 := bb8.cell 1
  have bl8 := bb8.lt
  simp only [List.getElem?_cons_zero, List.getElem?_cons_succ] at bl8 bc8_0 bc8_1
  clear bb8
  have bb9 := HX.out (30, w5.heap.size, [(.int .i64 aL), (.slice A6 n6 c6), (.int .i64 ar)]) (by simp)
  have bc9_0 := bb9.cell 0
  have bc9_1 := bb9.cell 1
  have bc9_2 := bb9.cell 2
  have bl9 := bb9.lt
  simp only [List.getElem?_cons_zero, List.getElem?_cons_succ] at bl9 bc9_0 bc9_1 bc9_2
  clear bb9
  have bb10 := HX.out (25, w5.heap.size + 1, [(.int .i64 a1), (.int .i64 a2)]) (by simp)
  have bc10_0 := bb10.cell 0
  have bc10_1 := bb10.cell 1
  have bl10 := bb10.lt
  simp only [List.getElem?_cons_zero, List.getElem?_cons_succ] at bl10 bc10_0 bc10_1
  clear bb10
  have bb1 := HX.out (30, w.heap.size, [(.int .i64 bL), (.slice A n c), (.int .i64 br)]) (by simp)
  have bc1_0 := bb1.cell 0
  have bc1_1 := bb1.cell 1
  have bc1_2 := bb1.cell 2
  have bl1 := bb1.lt
  simp only [List.getElem?_cons_zero, List.getElem?_cons_succ] at bl1 bc1_0 bc1_1 bc1_2
  clear bb1
  have bb2 := HX.out (30, w.heap.size + 1, [(.int .i64 bL), (.slice A2 n2 c2), (.int .i64 r2)]) (by simp)
  have bc2_0 := bb2.cell 0
  have bc2_1 := bb2.cell 1
  have bc2_2 := bb2.cell 2
  have bl2 := bb2.lt
  simp only [List.getElem?_cons_zero, List.getElem?_cons_succ] at bl2 bc2_0 bc2_1 bc2_2
  clear bb2
  go_wp2_with fail
  clear bl7 bc7_0 bc7_1 bc7_2 bl8 bc8_0 bc8_1 bl9 bc9_0 bc9_1 bc9_2 bl10 bc10_0 bc10_1 bl1 bc1_0 bc1_1 bc1_2 bl2 bc2_0 bc2_1 bc2_2
  obtain ⟨W8, hW⟩ : ∃ W, W = (w8.alloc (.cells #[(.int .i64 aL), (.slice A9 n9 c9), (.int .i64 ar)] 30)).alloc (.cells #[(.int .i64 a1), (.int .i64 a2)] 25) := ⟨_, rfl⟩
  rw [← hW]
  have hbW : Below w8.heap.size w8 W8 := by rw [hW]; exact below_two _ _ _
  have hX : Bxs W8 [(25, w8.heap.size + 1, [(.int .i64 a1), (.int .i64 a2)]), (30, w8.heap.size, [(.int .i64 aL), (.slice A9 n9 c9), (.int .i64 ar)]), (25, w7.heap.size + 1, [(.int .i64 o1), (.int .i64 o2)]), (30, w7.heap.size, [(.int .i64 oL), (.slice A8 n8 c8), (.int .i64 or_)]), (25, w6.heap.size + 1, [(.int .i64 t1), (.int .i64 t2)]), (30, w6.heap.size, [(.int .i64 nL), (.slice A7 n7 c7), (.int .i64 nr)]), (25, w5.heap.size + 1, [(.int .i64 a1), (.int .i64 a2)]), (30, w5.heap.size, [(.int .i64 aL), (.slice A6 n6 c6), (.int .i64 ar)]), (25, w4.heap.size + 1, [(.int .i64 0), (.int .i64 b2)]), (30, w4.heap.size, [(.int .i64 bL), (.slice A5 n5 c5), (.int .i64 br)]), (25, w3.heap.size + 1, [(.int .i64 0), (.int .i64 y2)]), (30, w3.heap.size, [(.int .i64 yL), (.slice A4 n4 c4), (.int .i64 yr)]), (25, w2.heap.size + 1, [(.int .i64 0), (.int .i64 x2)]), (30, w2.heap.size, [(.int .i64 xL), (.slice A3 n3 c3), (.int .i64 xr)]), (30, w.heap.size + 1, [(.int .i64 bL), (.slice A2 n2 c2), (.int .i64 r2)]), (30, w.heap.size, [(.int .i64 bL), (.slice A n c), (.int .i64 br)])] := by
    rw [hW]
    have h1 := (HX.out.push 30 [(.int .i64 aL), (.slice A9 n9 c9), (.int .i64 ar)]).push 25 [(.int .i64 a1), (.int .i64 a2)]
    simp only [World.size_alloc] at h1
    exact h1
  have HB' := hide (HB.out.trans (hbW.mono HB.out.size))
  clear HB
  have HB := HB'
  clear HB'
  have R' := hide (R.out.keep hbW)
  clear R
  have R := R'
  clear R'
  have R2' := hide (R2.out.keep hbW)
  clear R2
  have R2 := R2'
  clear R2'
  have R3' := hide (R3.out.keep hbW)
  clear R3
  have R3 := R3'
  clear R3'
  have R4' := hide (R4.out.keep hbW)
  clear R4
  have R4 := R4'
  clear R4'
  have R5' := hide (R5.out.keep hbW)
  clear R5
  have R5 := R5'
  clear R5'
  have R6' := hide (R6.out.keep hbW)
  clear R6
  have R6 := R6'
  clear R6'
  have R7' := hide (R7.out.keep hbW)
  clear R7
  have R7 := R7'
  clear R7'
  have R8' := hide (R8.out.keep hbW)
  clear R8
  have R8 := R8'
  clear R8'
  have R9' := hide (R9.out.keep hbW)
  clear R9
  have R9 := R9'
  clear R9'
  have HX' := hide (hX)
  clear HX
  have HX := HX'
  clear HX'
  clear hW hbW hX
  have hc := SameDiagram_ct bL A5 n5 c5 bs br bL A n c bs br W8 R5.out R.out
  rw [sameD_refl] at hc
  refine hc.mono ?_
  clear hc
  rintro e w9 ⟨rfl, hb⟩
  have HB' := hide (HB.out.trans (hb.mono HB.out.size))
  clear HB
  have HB := HB'
  clear HB'
  have R' := hide (R.out.keep hb)
  clear R
  have R := R'
  clear R'
  have R2' := hide (R2.out.keep hb)
  clear R2
  have R2 := R2'
  clear R2'
  have R3' := hide (R3.out.keep hb)
  clear R3
  have R3 := R3'
  clear R3'
  have R4' := hide (R4.out.keep hb)
  clear R4
  have R4 := R4'
  clear R4'
  have R5' := hide (R5.out.keep hb)
  clear R5
  have R5 := R5'
  clear R5'
  have R6' := hide (R6.out.keep hb)
  clear R6
  have R6 := R6'
  clear R6'
  have R7' := hide (R7.out.keep hb)
  clear R7
  have R7 := R7'
  clear R7'
  have R8' := hide (R8.out.keep hb)
  clear R8
  have R8 := R8'
  clear R8'
  have R9' := hide (R9.out.keep hb)
  clear R9
  have R9 := R9'
  clear R9'
  have HX' := hide (HX.out.keep hb)
  clear HX
  have HX := HX'
  clear HX'
  clear hb
  have heq := eqFault a1 a2 a1 a2
  rw [decide_eq_true rfl] at heq
  have bb9 := HX.out (30, w5.heap.size, [(.int .i64 aL), (.slice A6 n6 c6), (.int .i64 ar)]) (by simp)
  have bc9_0 := bb9.cell 0
  have bc9_1 := bb9.cell 1
  have bc9_2 := bb9.cell 2
  have bl9 := bb9.lt
  simp only [List.getElem?_cons_zero, List.getElem?_cons_succ] at bl9 bc9_0 bc9_1 bc9_2
  clear bb9
  have bb10 := HX.out (25, w5.heap.size + 1, [(.int .i64 a1), (.int .i64 a2)]) (by simp)
  have bc10_0 := bb10.cell 0
  have bc10_1 := bb10.cell 1
  have bl10 := bb10.lt
  simp only [List.getElem?_cons_zero, List.getElem?_cons_succ] at bl10 bc10_0 bc10_1
  clear bb10
  have bb15 := HX.out (30, w8.heap.size, [(.int .i64 aL), (.slice A9 n9 c9), (.int .i64 ar)]) (by simp)
  have bc15_0 := bb15.cell 0
  have bc15_1 := bb15.cell 1
  have bc15_2 := bb15.cell 2
  have bl15 := bb15.lt
  simp only [List.getElem?_cons_zero, List.getElem?_cons_succ] at bl15 bc15_0 bc15_1 bc15_2
  clear bb15
  have bb16 := HX.out (25, w8.heap.size + 1, [(.int .i64 a1), (.int .i64 a2)]) (by simp)
  have bc16_0 := bb16.cell 0
  have bc16_1 := bb16.cell 1
  have bl16 := bb16.lt
  simp only [List.getElem?_cons_zero, List.getElem?_cons_succ] at bl16 bc16_0 bc16_1
  clear bb16
  go_wp2_with fail
  clear bl9 bc9_0 bc9_1 bc9_2 bl10 bc10_0 bc10_1 bl15 bc15_0 bc15_1 bc15_2 bl16 bc16_0 bc16_1
  clear heq
  have hc := SameDiagram_ct aL A6 n6 c6 aS ar aL A9 n9 c9 aS ar w9 R6.out R9.out
  rw [sameD_refl] at hc
  refine hc.mono ?_
  clear hc
  rintro e w10 ⟨rfl, hb⟩
  have HB' := hide (HB.out.trans (hb.mono HB.out.size))
  clear HB
  have HB := HB'
  clear HB'
  have R' := hide (R.out.keep hb)
  clear R
  have R := R'
  clear R'
  have R2' := hide (R2.out.keep hb)
  clear R2
  have R2 := R2'
  clear R2'
  have R3' := hide (R3.out.keep hb)
  clear R3
  have R3 := R3'
  clear R3'
  have R4' := hide (R4.out.keep hb)
  clear R4
  have R4 := R4'
  clear R4'
  have R5' := hide (R5.out.keep hb)
  clear R5
  have R5 := R5'
  clear R5'
  have R6' := hide (R6.out.keep hb)
  clear R6
  have R6 := R6'
  clear R6'
  have R7' := hide (R7.out.keep hb)
  clear R7
  have R7 := R7'
  clear R7'
  have R8' := hide (R8.out.keep hb)
  clear R8
  have R8 := R8'
  clear R8'
  have R9' := hide (R9.out.keep hb)
  clear R9
  have R9 := R9'
  clear R9'
  have HX' := hide (HX.out.keep hb)
  clear HX
  have HX := HX'
  clear HX'
  clear hb
  by_cases hk : a1 ≠ 0 ∨ o1 ≠ 0
  · have ht := Ht.out
    rw [if_pos hk] at ht
    simp only [decide_eq_true_eq, Prod.mk.injEq] at ht
    obtain ⟨rfl, rfl⟩ := ht
    clear Ht
    have bb10 := HX.out (25, w5.heap.size + 1, [(.int .i64 a1), (.int .i64 a2)]) (by simp)
    have bc10_0 := bb10.cell 0
    have bc10_1 := bb10.cell 1
    have bl10 := bb10.lt
    simp only [List.getElem?_cons_zero, List.getElem?_cons_succ] at bl10 bc10_0 bc10_1
    clear bb10
    have bb14 := HX.out (25, w7.heap.size + 1, [(.int .i64 a1), (.int .i64 a2)]) (by simp)
    have bc14_0 := bb14.cell 0
    have bc14_1 := bb14.cell 1
    have bl14 := bb14.lt
    simp only [List.getElem?_cons_zero, List.getElem?_cons_succ] at bl14 bc14_0 bc14_1
    clear bb14
    have hne : (a1 == 0) = false := by rw [beq_eq_false_iff_ne]; omega
    have hne2 : ¬ a1 = 0 := by omega
    have heq := eqFault a1 a2 a1 a2
    rw [decide_eq_true rfl] at heq
    clear hk
    go_wp2
    go_ret
    exact ⟨rfl, HB.out⟩
  · have ht := Ht.out
    rw [if_neg hk] at ht
    simp only [decide_eq_true_eq, Prod.mk.injEq] at ht
    simp only [not_or, ne_eq, Decidable.not_not] at hk
    obtain ⟨rfl, rfl⟩ := hk
    obtain ⟨rfl, rfl, rfl, rfl⟩ := ht
    clear Ht
    have bb10 := HX.out (25, w5.heap.size + 1, [(.int .i64 0), (.int .i64 a2)]) (by simp)
    have bc10_0 := bb10.cell 0
    have bc10_1 := bb10.cell 1
    have bl10 := bb10.lt
    simp only [List.getElem?_cons_zero, List.getElem?_cons_succ] at bl10 bc10_0 bc10_1
    clear bb10
    have bb14 := HX.out (25, w7.heap.size + 1, [(.int .i64 0), (.int .i64 o2)]) (by simp)
    have bc14_0 := bb14.cell 0
    have bc14_1 := bb14.cell 1
    have bl14 := bb14.lt
    simp only [List.getElem?_cons_zero, List.getElem?_cons_succ] at bl14 bc14_0 bc14_1
    clear bb14
    have bb11 := HX.out (30, w6.heap.size, [(.int .i64 nL), (.slice A7 n7 c7), (.int .i64 nr)]) (by simp)
    have bc11_0 := bb11.cell 0
    have bc11_1 := bb11.cell 1
    have bc11_2 := bb11.cell 2
    have bl11 := bb11.lt
    simp only [List.getElem?_cons_zero, List.getElem?_cons_succ] at bl11 bc11_0 bc11_1 bc11_2
    clear bb11
    have bb12 := HX.out (25, w6.heap.size + 1, [(.int .i64 0), (.int .i64 t2)]) (by simp)
    have bc12_0 := bb12.cell 0
    have bc12_1 := bb12.cell 1
    have bl12 := bb12.lt
    simp only [List.getElem?_cons_zero, List.getElem?_cons_succ] at bl12 bc12_0 bc12_1
    clear bb12
    have bb13 := HX.out (30, w7.heap.size, [(.int .i64 nL), (.slice A8 n8 c8), (.int .i64 nr)]) (by simp)
    have bc13_0 := bb13.cell 0
    have bc13_1 := bb13.cell 1
    have bc13_2 := bb13.cell 2
    have bl13 := bb13.lt
    simp only [List.getElem?_cons_zero, List.getElem?_cons_succ] at bl13 bc13_0 bc13_1 bc13_2
    clear bb13
    go_wp2_with fail
    clear bl10 bc10_0 bc10_1 bl14 bc14_0 bc14_1 bl11 bc11_0 bc11_1 bc11_2 bl12 bc12_0 bc12_1 bl13 bc13_0 bc13_1 bc13_2
    have hc := SameDiagram_ct nL A7 n7 c7 nns nr nL A8 n8 c8 nns nr w10 R7.out R8.out
    rw [sameD_refl] at hc
    refine hc.mono ?_
    clear hc
    rintro e w11 ⟨rfl, hb⟩
    have HB' := hide (HB.out.trans (hb.mono HB.out.size))
    clear HB
    have HB := HB'
    clear HB'
    have R' := hide (R.out.keep hb)
    clear R
    have R := R'
    clear R'
    have R2' := hide (R2.out.keep hb)
    clear R2
    have R2 := R2'
    clear R2'
    have R3' := hide (R3.out.keep hb)
    clear R3
    have R3 := R3'
    clear R3'
    have R4' := hide (R4.out.keep hb)
    clear R4
    have R4 := R4'
    clear R4'
    have R5' := hide (R5.out.keep hb)
    clear R5
    have R5 := R5'
    clear R5'
    have R6' := hide (R6.out.keep hb)
    clear R6
    have R6 := R6'
    clear R6'
    have R7' := hide (R7.out.keep hb)
    clear R7
    have R7 := R7'
    clear R7'
    have R8' := hide (R8.out.keep hb)
    clear R8
    have R8 := R8'
    clear R8'
    have R9' := hide (R9.out.keep hb)
    clear R9
    have R9 := R9'
    clear R9'
    have HX' := hide (HX.out.keep hb)
    clear HX
    have HX := HX'
    clear HX'
    clear hb
    go_wp2
    go_ret
    exact ⟨rfl, HB.out⟩
end Go.Proofs.Ytgenpcokpodhkaa
