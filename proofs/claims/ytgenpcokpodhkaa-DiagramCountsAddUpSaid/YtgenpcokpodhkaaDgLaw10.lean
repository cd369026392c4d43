/- The walk of the law on counts. -/
import Derived.Test.YtgenpcokpodhkaaDgLaw1
import Derived.Test.YtgenpcokpodhkaaDgSmall
namespace Go.Proofs.Ytgenpcokpodhkaa
open Go.RowKit Go.Maps

theorem count_level {L : Int} {ns : List DI} {r : Int} (h : (countR L ns r).2.1 = 0) : 0 ≤ L ∧ L ≤ 24 := by
  obtain ⟨L', ds, r', rfl, rfl, rfl, hv⟩ := countR_code h
  have := hv.low
  omega
set_option maxHeartbeats 12800000 in
set_option maxRecDepth 100000 in
theorem CountsLaw_ct (L : Int) (A : Option Addr) (n c : Nat) (ns : List DI) (r L2 : Int) (A2 : Option Addr) (n2 c2 : Nat) (ns2 : List DI) (r2 : Int) (w : World) (hL : -9223372036854775808 ≤ L ∧ L ≤ 9223372036854775807) (hr : -9223372036854775808 ≤ r ∧ r ≤ 9223372036854775807) (hL2 : -9223372036854775808 ≤ L2 ∧ L2 ≤ 9223372036854775807) (hr2 : -9223372036854775808 ≤ r2 ∧ r2 ≤ 9223372036854775807) (h : Rd Enc.node w A n c ns) (h2 : Rd Enc.node w A2 n2 c2 ns2) :
    Calls Try.prog 8 #[.agg #[.int .i64 L, .slice A n c, .int .i64 r], .agg #[.int .i64 L2, .slice A2 n2 c2, .int .i64 r2]] w (Gives w (.bool true)) := by
  have htrue := countsTrue_true L ns r L2 ns2 r2
  unfold countsTrue at htrue
  simp only at htrue
  have hcn := fun W => Count_d L A n c ns r W hL hr
  have hcx := fun W => Not_d L A n c ns r W hL hr
  have hcm := fun W => Count_d L2 A2 n2 c2 ns2 r2 W hL2 hr2
  have hca := fun W => And_d L A n c ns r L2 A2 n2 c2 ns2 r2 W hL hr hL2 hr2
  have hco := fun W => Or_d2 L A n c ns r L2 A2 n2 c2 ns2 r2 W hL hr hL2 hr2
  have hlev := @count_level L ns r
  have smx := notR_small L ns r
  have sma := combineR_small 0 L ns r L2 ns2 r2
  have smo := combineR_small 1 L ns r L2 ns2 r2
  have bn := countR_bound L ns r
  have bm := countR_bound L2 ns2 r2
  generalize countR L ns r = nn at htrue hcn hlev bn
  generalize countR L2 ns2 r2 = mm at htrue hcm bm
  generalize notR L ns r = x at htrue hcx smx
  generalize combineR 0 L ns r L2 ns2 r2 = a at htrue hca sma
  generalize combineR 1 L ns r L2 ns2 r2 = o at htrue hco smo
  obtain ⟨n0, n1, n2_⟩ := nn
  obtain ⟨m0, m1, m2_⟩ := mm
  obtain ⟨⟨xL, xs, xr⟩, x1, x2⟩ := x
  obtain ⟨⟨aL, aS, ar⟩, a1, a2⟩ := a
  obtain ⟨⟨oL, oS, or_⟩, o1, o2⟩ := o
  have hck := fun B m d W => Count_d xL B m d xs xr W smx.1 smx.2
  have hcu := fun B m d W => Count_d aL B m d aS ar W sma.1 sma.2
  have hcv := fun B m d W => Count_d oL B m d oS or_ W smo.1 smo.2
  have bk := countR_bound xL xs xr
  have bu := countR_bound aL aS ar
  have bv := countR_bound oL oS or_
  simp only at htrue hlev
  generalize countR xL xs xr = kk at htrue hck bk
  generalize countR aL aS ar = uu at htrue hcu bu
  generalize countR oL oS or_ = vv at htrue hcv bv
  obtain ⟨k0, k1, k2⟩ := kk
  obtain ⟨u0, u1, u2⟩ := uu
  obtain ⟨v0, v1, v2⟩ := vv
  clear smx sma smo
  simp only at htrue bn bm bk bu bv
  simp only [faultV] at hcn hcm hck hcu hcv
  have Hcn := hide hcn
  have Hcx := hide hcx
  have Hcm := hide hcm
  have Hca := hide hca
  have Hco := hide hco
  have Hck := hide hck
  have Hcu := hide hcu
  have Hcv := hide hcv
  have Bn := hide bn
  have Bm := hide bm
  have Bk := hide bk
  have Bu := hide bu
  have Bv := hide bv
  have Htrue := hide htrue
  have Hlev := hide hlev
  have hb0 := below_two w (.cells #[(.int .i64 L), (.slice A n c), (.int .i64 r)] 30) (.cells #[(.int .i64 L2), (.slice A2 n2 c2), (.int .i64 r2)] 30)
  have h1 := ((show Bxs w [] from fun x hx => by cases hx).push 30 [(.int .i64 L), (.slice A n c), (.int .i64 r)]).push 30 [(.int .i64 L2), (.slice A2 n2 c2), (.int .i64 r2)]
  simp only [World.size_alloc] at h1
  have HB := hide hb0
  have HX := hide h1
  have R := hide (h.keep hb0)
  have R2 := hide (h2.keep hb0)
  clear hcn hcx hcm hca hco hck hcu hcv bn bm bk bu bv htrue hlev h h2 hb0 h1 hL hr hL2 hr2
  go_enter Try.func8, Try.ntmps8
  go_wp2_with fail
  have hc := example_ct ((w.alloc (.cells #[(.int .i64 L), (.slice A n c), (.int .i64 r)] 30)).alloc (.cells #[(.int .i64 L2), (.slice A2 n2 c2), (.int .i64 r2)] 30))
  refine hc.mono ?_
  clear hc
  rintro e w1 ⟨rfl, hb⟩
  have HB' := hide (HB.out.trans (hb.mono HB.out.size))
  clear HB
  have HB := HB'
  clear HB'
  have R' := hide (R.out.keep hb)
  clear R
  have R := R'
  clear R'
  have R2' := hide (R2.out.keep hb)
  clear R2
  have R2 := R2'
  clear R2'
  have HX' := hide (HX.out.keep hb)
  clear HX
  have HX := HX'
  clear HX'
  clear hb
  have bb1 := HX.out (30, w.heap.size, [(.int .i64 L), (.slice A n c), (.int .i64 r)]) (by simp)
  have bc1_0 := bb1.cell 0
  have bc1_1 := bb1.cell 1
  have bc1_2 := bb1.cell 2
  have bl1 := bb1.lt
  simp only [List.getElem?_cons_zero, List.getElem?_cons_succ] at bl1 bc1_0 bc1_1 bc1_2
  clear bb1
  go_wp2_with fail
  clear bl1 bc1_0 bc1_1 bc1_2
  have hc := Hcn.out w1 R.out
  refine hc.mono ?_
  clear hc
  rintro e w2 ⟨rfl, hb⟩
  have HB' := hide (HB.out.trans (hb.mono HB.out.size))
  clear HB
  have HB := HB'
  clear HB'
  have R' := hide (R.out.keep hb)
  clear R
  have R := R'
  clear R'
  have R2' := hide (R2.out.keep hb)
  clear R2
  have R2 := R2'
  clear R2'
  have HX' := hide (HX.out.keep hb)
  clear HX
  have HX := HX'
  clear HX'
  clear hb
  have bb1 := HX.out (30, w.heap.size, [(.int .i64 L), (.slice A n c), (.int .i64 r)]) (by simp)
  have bc1_0 := bb1.cell 0
  have bc1_1 := bb1.cell 1
  have bc1_2 := bb1.cell 2
  have bl1 := bb1.lt
  simp only [List.getElem?_cons_zero, List.getElem?_cons_succ] at bl1 bc1_0 bc1_1 bc1_2
  clear bb1
  go_wp2_with fail
  clear bl1 bc1_0 bc1_1 bc1_2
  obtain ⟨W2, hW⟩ : ∃ W, W = w2.alloc (.cells #[(.int .i64 n1), (.int .i64 n2_)] 25) := ⟨_, rfl⟩
  rw [← hW]
  have hbW : Below w2.heap.size w2 W2 := by rw [hW]; exact (Below.refl _ _).alloc (Nat.le_refl _) _
  have hX : Bxs W2 [(25, w2.heap.size, [(.int .i64 n1), (.int .i64 n2_)]), (30, w.heap.size + 1, [(.int .i64 L2), (.slice A2 n2 c2), (.int .i64 r2)]), (30, w.heap.size, [(.int .i64 L), (.slice A n c), (.int .i64 r)])] := by
    rw [hW]
    exact HX.out.push 25 [(.int .i64 n1), (.int .i64 n2_)]
  have HB' := hide (HB.out.trans (hbW.mono HB.out.size))
  clear HB
  have HB := HB'
  clear HB'
  have R' := hide (R.out.keep hbW)
  clear R
  have R := R'
  clear R'
  have R2' := hide (R2.out.keep hbW)
  clear R2
  have R2 := R2'
  clear R2'
  have HX' := hide (hX)
  clear HX
  have HX := HX'
  clear HX'
  clear hW hbW hX
  have hc := Hcx.out W2 R.out
  refine hc.mono ?_
  clear hc
  intro e w3 hp
  obtain ⟨A3, n3, c3, rfl, hr, hb⟩ := hp.open_
  have HB' := hide (HB.out.trans (hb.mono HB.out.size))
  clear HB
  have HB := HB'
  clear HB'
  have R' := hide (R.out.keep hb)
  clear R
  have R := R'
  clear R'
  have R2' := hide (R2.out.keep hb)
  clear R2
  have R2 := R2'
  clear R2'
  have HX' := hide (HX.out.keep hb)
  clear HX
  have HX := HX'
  clear HX'
  have R3 := hide hr
  clear hp hr hb
  go_wp2_with fail
  obtain ⟨W3, hW⟩ : ∃ W, W = (w3.alloc (.cells #[(.int .i64 xL), (.slice A3 n3 c3), (.int .i64 xr)] 30)).alloc (.cells #[(.int .i64 x1), (.int .i64 x2)] 25) := ⟨_, rfl⟩
  rw [← hW]
  have hbW : Below w3.heap.size w3 W3 := by rw [hW]; exact below_two _ _ _
  have hX : Bxs W3 [(25, w3.heap.size + 1, [(.int .i64 x1), (.int .i64 x2)]), (30, w3.heap.size, [(.int .i64 xL), (.slice A3 n3 c3), (.int .i64 xr)]), (25, w2.heap.size, [(.int .i64 n1), (.int .i64 n2_)]), (30, w.heap.size + 1, [(.int .i64 L2), (.slice A2 n2 c2), (.int .i64 r2)]), (30, w.heap.size, [(.int .i64 L), (.slice A n c), (.int .i64 r)])] := by
    rw [hW]
    have h1 := (HX.out.push 30 [(.int .i64 xL), (.slice A3 n3 c3), (.int .i64 xr)]).push 25 [(.int .i64 x1), (.int .i64 x2)]
    simp only [World.size_alloc] at h1
    exact h1
  have HB' := hide (HB.out.trans (hbW.mono HB.out.size))
  clear HB
  have HB := HB'
  clear HB'
  have R' := hide (R.out.keep hbW)
  clear R
  have R := R'
  clear R'
  have R2' := hide (R2.out.keep hbW)
  clear R2
  have R2 := R2'
  clear R2'
  have R3' := hide (R3.out.keep hbW)
  clear R3
  have R3 := R3'
  clear R3'
  have HX' := hide (hX)
  clear HX
  have HX := HX'
  clear HX'
  clear hW hbW hX
  have hc := Hck.out A3 n3 c3 W3 R3.out
  refine hc.mono ?_
  clear hc
  rintro e w4 ⟨rfl, hb⟩
  have HB' := hide (HB.out.trans (hb.mono HB.out.size))
  clear HB
  have HB := HB'
  clear HB'
  have R' := hide (R.out.keep hb)
  clear R
  have R := R'
  clear R'
  have R2' := hide (R2.out.keep hb)
  clear R2
  have R2 := R2'
  clear R2'
  have R3' := hide (R3.out.keep hb)
  clear R3
  have R3 := R3'
  clear R3'
  have HX' := hide (HX.out.keep hb)
  clear HX
  have HX := HX'
  clear HX'
  clear hb
  obtain ⟨hn0, hn9⟩ := Bn.out
  obtain ⟨hk0, hk9⟩ := Bk.out
  by_cases hq : n1 ≠ 0
  · have ht := Htrue.out
    rw [if_pos hq] at ht
    have hz : n0 = 0 := by simpa using ht
    subst hz
    clear Htrue ht
    have bb3 := HX.out (25, w2.heap.size, [(.int .i64 n1), (.int .i64 n2_)]) (by simp)
    have bc3_0 := bb3.cell 0
    have bc3_1 := bb3.cell 1
    have bl3 := bb3.lt
    simp only [List.getElem?_cons_zero, List.getElem?_cons_succ] at bl3 bc3_0 bc3_1
    clear bb3
    have q4 : (n1 == 0) = false := by simpa using hq
    have q5 : ((0 : Int) == 0) = true := rfl
    go_wp2
    go_ret
    exact ⟨rfl, HB.out.alloc HB.out.size _⟩
  have ht := Htrue.out
  rw [if_neg hq] at ht
  have hq2 : ¬ (x1 ≠ 0 ∨ k1 ≠ 0 ∨ n0 + k0 ≠ ((2 ^ L.toNat : Nat) : Int)) := by intro hz; rw [if_pos hz] at ht; cases ht
  rw [if_neg hq2] at ht
  clear Htrue
  have Ht := hide ht
  clear ht
  simp only [ne_eq, Decidable.not_not] at hq
  simp only [not_or, ne_eq, Decidable.not_not] at hq2
  obtain ⟨rfl, rfl, hsum⟩ := hq2
  subst hq
  obtain ⟨hl0, hl9⟩ := Hlev.out rfl
  obtain ⟨l, rfl⟩ : ∃ l : Nat, L = (l : Int) := ⟨L.toNat, by omega⟩
  simp only [Int.toNat_natCast] at hsum
  have bb3 := HX.out (25, w2.heap.size, [(.int .i64 0), (.int .i64 n2_)]) (by simp)
  have bc3_0 := bb3.cell 0
  have bc3_1 := bb3.cell 1
  have bl3 := bb3.lt
  simp only [List.getElem?_cons_zero, List.getElem?_cons_succ] at bl3 bc3_0 bc3_1
  clear bb3
  have bb5 := HX.out (25, w3.heap.size + 1, [(.int .i64 0), (.int .i64 x2)]) (by simp)
  have bc5_0 := bb5.cell 0
  have bc5_1 := bb5.cell 1
  have bl5 := bb5.lt
  simp only [List.getElem?_cons_zero, List.getElem?_cons_succ] at bl5 bc5_0 bc5_1
  clear bb5
  have bb1 := HX.out (30, w.heap.size, [(.int .i64 (l : Int)), (.slice A n c), (.int .i64 r)]) (by simp)
  have bc1_0 := bb1.cell 0
  have bc1_1 := bb1.cell 1
  have bc1_2 := bb1.cell 2
  have bl1 := bb1.lt
  simp only [List.getElem?_cons_zero, List.getElem?_cons_succ] at bl1 bc1_0 bc1_1 bc1_2
  clear bb1
  have bb2 := HX.out (30, w.heap.size + 1, [(.int .i64 L2), (.slice A2 n2 c2), (.int .i64 r2)]) (by simp)
  have bc2_0 := bb2.cell 0
  have bc2_1 := bb2.cell 1
  have bc2_2 := bb2.cell 2
  have bl2 := bb2.lt
  simp only [List.getElem?_cons_zero, List.getElem?_cons_succ] at bl2 bc2_0 bc2_1 bc2_2
  clear bb2
  have hw1 : IntKind.i64.wrap (n0 + k0) = n0 + k0 := by rw [IntWalk.i64_in _ (by omega)]
  have hw2 : IntKind.u64.wrap (l : Int) = (l : Int) := by rw [IntWalk.u64_in _ (by omega)]
  have hpw : 2 ^ l ≤ 2 ^ 24 := Nat.pow_le_pow_right (by omega) (by omega)
  go_wp2_with fail
  clear bl3 bc3_0 bc3_1 bl5 bc5_0 bc5_1 bl1 bc1_0 bc1_1 bc1_2 bl2 bc2_0 bc2_1 bc2_2
  clear hw1 hw2 hpw
  obtain ⟨W4, hW⟩ : ∃ W, W = w4.alloc (.cells #[(.int .i64 0), (.int .i64 k2)] 25) := ⟨_, rfl⟩
  rw [← hW]
  have hbW : Below w4.heap.size w4 W4 := by rw [hW]; exact (Below.refl _ _).alloc (Nat.le_refl _) _
  have hX : Bxs W4 [(25, w4.heap.size, [(.int .i64 0), (.int .i64 k2)]), (25, w3.heap.size + 1, [(.int .i64 0), (.int .i64 x2)]), (30, w3.heap.size, [(.int .i64 xL), (.slice A3 n3 c3), (.int .i64 xr)]), (25, w2.heap.size, [(.int .i64 0), (.int .i64 n2_)]), (30, w.heap.size + 1, [(.int .i64 L2), (.slice A2 n2 c2), (.int .i64 r2)]), (30, w.heap.size, [(.int .i64 (l : Int)), (.slice A n c), (.int .i64 r)])] := by
    rw [hW]
    exact HX.out.push 25 [(.int .i64 0), (.int .i64 k2)]
  have HB' := hide (HB.out.trans (hbW.mono HB.out.size))
  clear HB
  have HB := HB'
  clear HB'
  have R' := hide (R.out.keep hbW)
  clear R
  have R := R'
  clear R'
  have R2' := hide (R2.out.keep hbW)
  clear R2
  have R2 := R2'
  clear R2'
  have R3' := hide (R3.out.keep hbW)
  clear R3
  have R3 := R3'
  clear R3'
  have HX' := hide (hX)
  clear HX
  have HX := HX'
  clear HX'
  clear hW hbW hX
  have hc := Hcm.out W4 R2.out
  refine hc.mono ?_
  clear hc
  rintro e w5 ⟨rfl, hb⟩
  have HB' := hide (HB.out.trans (hb.mono HB.out.size))
  clear HB
  have HB := HB'
  clear HB'
  have R' := hide (R.out.keep hb)
  clear R
  have R := R'
  clear R'
  have R2' := hide (R2.out.keep hb)
  clear R2
  have R2 := R2'
  clear R2'
  have R3' := hide (R3.out.keep hb)
  clear R3
  have R3 := R3'
  clear R3'
  have HX' := hide (HX.out.keep hb)
  clear HX
  have HX := HX'
  clear HX'
  clear hb
  have bb1 := HX.out (30, w.heap.size, [(.int .i64 (l : Int)), (.slice A n c), (.int .i64 r)]) (by simp)
  have bc1_0 := bb1.cell 0
  have bc1_1 := bb1.cell 1
  have bc1_2 := bb1.cell 2
  have bl1 := bb1.lt
  simp only [List.getElem?_cons_zero, List.getElem?_cons_succ] at bl1 bc1_0 bc1_1 bc1_2
  clear bb1
  have bb2 := HX.out (30, w.heap.size + 1, [(.int .i64 L2), (.slice A2 n2 c2), (.int .i64 r2)]) (by simp)
  have bc2_0 := bb2.cell 0
  have bc2_1 := bb2.cell 1
  have bc2_2 := bb2.cell 2
  have bl2 := bb2.lt
  simp only [List.getElem?_cons_zero, List.getElem?_cons_succ] at bl2 bc2_0 bc2_1 bc2_2
  clear bb2
  go_wp2_with fail
  clear bl1 bc1_0 bc1_1 bc1_2 bl2 bc2_0 bc2_1 bc2_2
  obtain ⟨W5, hW⟩ : ∃ W, W = w5.alloc (.cells #[(.int .i64 m1), (.int .i64 m2_)] 25) := ⟨_, rfl⟩
  rw [← hW]
  have hbW : Below w5.heap.size w5 W5 := by rw [hW]; exact (Below.refl _ _).alloc (Nat.le_refl _) _
  have hX : Bxs W5 [(25, w5.heap.size, [(.int .i64 m1), (.int .i64 m2_)]), (25, w4.heap.size, [(.int .i64 0), (.int .i64 k2)]), (25, w3.heap.size + 1, [(.int .i64 0), (.int .i64 x2)]), (30, w3.heap.size, [(.int .i64 xL), (.slice A3 n3 c3), (.int .i64 xr)]), (25, w2.heap.size, [(.int .i64 0), (.int .i64 n2_)]), (30, w.heap.size + 1, [(.int .i64 L2), (.slice A2 n2 c2), (.int .i64 r2)]), (30, w.heap.size, [(.int .i64 (l : Int)), (.slice A n c), (.int .i64 r)])] := by
    rw [hW]
    exact HX.out.push 25 [(.int .i64 m1), (.int .i64 m2_)]
  have HB' := hide (HB.out.trans (hbW.mono HB.out.size))
  clear HB
  have HB := HB'
  clear HB'
  have R' := hide (R.out.keep hbW)
  clear R
  have R := R'
  clear R'
  have R2' := hide (R2.out.keep hbW)
  clear R2
  have R2 := R2'
  clear R2'
  have R3' := hide (R3.out.keep hbW)
  clear R3
  have R3 := R3'
  clear R3'
  have HX' := hide (hX)
  clear HX
  have HX := HX'
  clear HX'
  clear hW hbW hX
  have hc := Hca.out W5 R.out R2.out
  refine hc.mono ?_
  clear hc
  intro e w6 hp
  obtain ⟨A6, n6, c6, rfl, hr, hb⟩ := hp.open_
  have HB' := hide (HB.out.trans (hb.mono HB.out.size))
  clear HB
  have HB := HB'
  clear HB'
  have R' := hide (R.out.keep hb)
  clear R
  have R := R'
  clear R'
  have R2' := hide (R2.out.keep hb)
  clear R2
  have R2 := R2'
  clear R2'
  have R3' := hide (R3.out.keep hb)
  clear R3
  have R3 := R3'
  clear R3'
  have HX' := hide (HX.out.keep hb)
  clear HX
  have HX := HX'
  clear HX'
  have R6 := hide hr
  clear hp hr hb
  have bb1 := HX.out (30, w.heap.size, [(.int .i64 (l : Int)), (.slice A n c), (.int .i64 r)]) (by simp)
  have bc1_0 := bb1.cell 0
  have bc1_1 := bb1.cell 1
  have bc1_2 := bb1.cell 2
  have bl1 := bb1.lt
  simp only [List.getElem?_cons_zero, List.getElem?_cons_succ] at bl1 bc1_0 bc1_1 bc1_2
  clear bb1
  have bb2 := HX.out (30, w.heap.size + 1, [(.int .i64 L2), (.slice A2 n2 c2), (.int .i64 r2)]) (by simp)
  have bc2_0 := bb2.cell 0
  have bc2_1 := bb2.cell 1
  have bc2_2 := bb2.cell 2
  have bl2 := bb2.lt
  simp only [List.getElem?_cons_zero, List.getElem?_cons_succ] at bl2 bc2_0 bc2_1 bc2_2
  clear bb2
  go_wp2_with fail
  clear bl1 bc1_0 bc1_1 bc1_2 bl2 bc2_0 bc2_1 bc2_2
  obtain ⟨W6, hW⟩ : ∃ W, W = (w6.alloc (.cells #[(.int .i64 aL), (.slice A6 n6 c6), (.int .i64 ar)] 30)).alloc (.cells #[(.int .i64 a1), (.int .i64 a2)] 25) := ⟨_, rfl⟩
  rw [← hW]
  have hbW : Below w6.heap.size w6 W6 := by rw [hW]; exact below_two _ _ _
  have hX : Bxs W6 [(25, w6.heap.size + 1, [(.int .i64 a1), (.int .i64 a2)]), (30, w6.heap.size, [(.int .i64 aL), (.slice A6 n6 c6), (.int .i64 ar)]), (25, w5.heap.size, [(.int .i64 m1), (.int .i64 m2_)]), (25, w4.heap.size, [(.int .i64 0), (.int .i64 k2)]), (25, w3.heap.size + 1, [(.int .i64 0), (.int .i64 x2)]), (30, w3.heap.size, [(.int .i64 xL), (.slice A3 n3 c3), (.int .i64 xr)]), (25, w2.heap.size, [(.int .i64 0), (.int .i64 n2_)]), (30, w.heap.size + 1, [(.int .i64 L2), (.slice A2 n2 c2), (.int .i64 r2)]), (30, w.heap.size, [(.int .i64 (l : Int)), (.slice A n c), (.int .i64 r)])] := by
    rw [hW]
    have h1 := (HX.out.push 30 [(.int .i64 aL), (.slice A6 n6 c6), (.int .i64 ar)]).push 25 [(.int .i64 a1), (.int .i64 a2)]
    simp only [World.size_alloc] at h1
    exact h1
  have HB' := hide (HB.out.trans (hbW.mono HB.out.size))
  clear HB
  have HB := HB'
  clear HB'
  have R' := hide (R.out.keep hbW)
  clear R
  have R := R'
  clear R'
  have R2' := hide (R2.out.keep hbW)
  clear R2
  have R2 := R2'
  clear R2'
  have R3' := hide (R3.out.keep hbW)
  clear R3
  have R3 := R3'
  clear R3'
  have R6' := hide (R6.out.keep hbW)
  clear R6
  have R6 := R6'
  clear R6'
  have HX' := hide (hX)
  clear HX
  have HX := HX'
  clear HX'
  clear hW hbW hX
  have hc := Hco.out W6 R.out R2.out
  refine hc.mono ?_
  clear hc
  intro e w7 hp
  obtain ⟨A7, n7, c7, rfl, hr, hb⟩ := hp.open_
  have HB' := hide (HB.out.trans (hb.mono HB.out.size))
  clear HB
  have HB := HB'
  clear HB'
  have R' := hide (R.out.keep hb)
  clear R
  have R := R'
  clear R'
  have R2' := hide (R2.out.keep hb)
  clear R2
  have R2 := R2'
  clear R2'
  have R3' := hide (R3.out.keep hb)
  clear R3
  have R3 := R3'
  clear R3'
  have R6' := hide (R6.out.keep hb)
  clear R6
  have R6 := R6'
  clear R6'
  have HX' := hide (HX.out.keep hb)
  clear HX
  have HX := HX'
  clear HX'
  have R7 := hide hr
  clear hp hr hb
  by_cases hq : m1 ≠ 0 ∨ a1 ≠ 0 ∨ o1 ≠ 0
  · clear Ht
    have bb7 := HX.out (25, w5.heap.size, [(.int .i64 m1), (.int .i64 m2_)]) (by simp)
    have bc7_0 := bb7.cell 0
    have bc7_1 := bb7.cell 1
    have bl7 := bb7.lt
    simp only [List.getElem?_cons_zero, List.getElem?_cons_succ] at bl7 bc7_0 bc7_1
    clear bb7
    have bb9 := HX.out (25, w6.heap.size + 1, [(.int .i64 a1), (.int .i64 a2)]) (by simp)
    have bc9_0 := bb9.cell 0
    have bc9_1 := bb9.cell 1
    have bl9 := bb9.lt
    simp only [List.getElem?_cons_zero, List.getElem?_cons_succ] at bl9 bc9_0 bc9_1
    clear bb9
    have bb8 := HX.out (30, w6.heap.size, [(.int .i64 aL), (.slice A6 n6 c6), (.int .i64 ar)]) (by simp)
    have bc8_0 := bb8.cell 0
    have bc8_1 := bb8.cell 1
    have bc8_2 := bb8.cell 2
    have bl8 := bb8.lt
    simp only [List.getElem?_cons_zero, List.getElem?_cons_succ] at bl8 bc8_0 bc8_1 bc8_2
    clear bb8
    by_cases q1 : m1 = 0
    · subst q1
      by_cases q2 : a1 = 0
      · subst q2
        have q3 : o1 ≠ 0 := by simpa using hq
        clear hq
        have q4 : (o1 == 0) = false := by simpa using q3
        go_wp2
        go_ret
        exact ⟨rfl, (HB.out.alloc HB.out.size _).alloc (by rw [World.size_alloc]; exact Nat.le_succ_of_le HB.out.size) _⟩
      · have q4 : (a1 == 0) = false := by simpa using q2
        clear hq
        go_wp2
        go_ret
        exact ⟨rfl, (HB.out.alloc HB.out.size _).alloc (by rw [World.size_alloc]; exact Nat.le_succ_of_le HB.out.size) _⟩
    · have q4 : (m1 == 0) = false := by simpa using q1
      clear hq
      go_wp2
      go_ret
      exact ⟨rfl, (HB.out.alloc HB.out.size _).alloc (by rw [World.size_alloc]; exact Nat.le_succ_of_le HB.out.size) _⟩
  have ht := Ht.out
  rw [if_neg hq] at ht
  simp only [decide_eq_true_eq] at ht
  simp only [not_or, ne_eq, Decidable.not_not] at hq
  obtain ⟨rfl, rfl, rfl⟩ := hq
  obtain ⟨rfl, rfl, hfin⟩ := ht
  clear Ht
  have Hfin := hide hfin
  clear hfin
  have bb7 := HX.out (25, w5.heap.size, [(.int .i64 0), (.int .i64 m2_)]) (by simp)
  have bc7_0 := bb7.cell 0
  have bc7_1 := bb7.cell 1
  have bl7 := bb7.lt
  simp only [List.getElem?_cons_zero, List.getElem?_cons_succ] at bl7 bc7_0 bc7_1
  clear bb7
  have bb9 := HX.out (25, w6.heap.size + 1, [(.int .i64 0), (.int .i64 a2)]) (by simp)
  have bc9_0 := bb9.cell 0
  have bc9_1 := bb9.cell 1
  have bl9 := bb9.lt
  simp only [List.getElem?_cons_zero, List.getElem?_cons_succ] at bl9 bc9_0 bc9_1
  clear bb9
  have bb8 := HX.out (30, w6.heap.size, [(.int .i64 aL), (.slice A6 n6 c6), (.int .i64 ar)]) (by simp)
  have bc8_0 := bb8.cell 0
  have bc8_1 := bb8.cell 1
  have bc8_2 := bb8.cell 2
  have bl8 := bb8.lt
  simp only [List.getElem?_cons_zero, List.getElem?_cons_succ] at bl8 bc8_0 bc8_1 bc8_2
  clear bb8
  go_wp2_with fail
  clear bl7 bc7_0 bc7_1 bl9 bc9_0 bc9_1 bl8 bc8_0 bc8_1 bc8_2
  obtain ⟨W7, hW⟩ : ∃ W, W = (w7.alloc (.cells #[(.int .i64 oL), (.slice A7 n7 c7), (.int .i64 or_)] 30)).alloc (.cells #[(.int .i64 0), (.int .i64 o2)] 25) := ⟨_, rfl⟩
  rw [← hW]
  have hbW : Below w7.heap.size w7 W7 := by rw [hW]; exact below_two _ _ _
  have hX : Bxs W7 [(25, w7.heap.size + 1, [(.int .i64 0), (.int .i64 o2)]), (30, w7.heap.size, [(.int .i64 oL), (.slice A7 n7 c7), (.int .i64 or_)]), (25, w6.heap.size + 1, [(.int .i64 0), (.int .i64 a2)]), (30, w6.heap.size, [(.int .i64 aL), (.slice A6 n6 c6), (.int .i64 ar)]), (25, w5.heap.size, [(.int .i64 0), (.int .i64 m2_)]), (25, w4.heap.size, [(.int .i64 0), (.int .i64 k2)]), (25, w3.heap.size + 1, [(.int .i64 0), (.int .i64 x2)]), (30, w3.heap.size, [(.int .i64 xL), (.slice A3 n3 c3), (.int .i64 xr)]), (25, w2.heap.size, [(.int .i64 0), (.int .i64 n2_)]), (30, w.heap.size + 1, [(.int .i64 L2), (.slice A2 n2 c2), (.int .i64 r2)]), (30, w.heap.size, [(.int .i64 (l : Int)), (.slice A n c), (.int .i64 r)])] := by
    rw [hW]
    have h1 := (HX.out.push 30 [(.int .i64 oL), (.slice A7 n7 c7), (.int .i64 or_)]).push 25 [(.int .i64 0), (.int .i64 o2)]
    simp only [World.size_alloc] at h1
    exact h1
  have HB' := hide (HB.out.trans (hbW.mono HB.out.size))
  clear HB
  have HB := HB'
  clear HB'
  have R' := hide (R.out.keep hbW)
  clear R
  have R := R'
  clear R'
  have R2' := hide (R2.out.keep hbW)
  clear R2
  have R2 := R2'
  clear R2'
  have R3' := hide (R3.out.keep hbW)
  clear R3
  have R3 := R3'
  clear R3'
  have R6' := hide (R6.out.keep hbW)
  clear R6
  have R6 := R6'
  clear R6'
  have R7' := hide (R7.out.keep hbW)
  clear R7
  have R7 := R7'
  clear R7'
  have HX' := hide (hX)
  clear HX
  have HX := HX'
  clear HX'
  clear hW hbW hX
  have hc := Hcu.out A6 n6 c6 W7 R6.out
  refine hc.mono ?_
  clear hc
  rintro e w8 ⟨rfl, hb⟩
  have HB' := hide (HB.out.trans (hb.mono HB.out.size))
  clear HB
  have HB := HB'
  clear HB'
  have R' := hide (R.out.keep hb)
  clear R
  have R := R'
  clear R'
  have R2' := hide (R2.out.keep hb)
  clear R2
  have R2 := R2'
  clear R2'
  have R3' := hide (R3.out.keep hb)
  clear R3
  have R3 := R3'
  clear R3'
  have R6' := hide (R6.out.keep hb)
  clear R6
  have R6 := R6'
  clear R6'
  have R7' := hide (R7.out.keep hb)
  clear R7
  have R7 := R7'
  clear R7'
  have HX' := hide (HX.out.keep hb)
  clear HX
  have HX := HX'
  clear HX'
  clear hb
  have bb10 := HX.out (30, w7.heap.size, [(.int .i64 oL), (.slice A7 n7 c7), (.int .i64 or_)]) (by simp)
  have bc10_0 := bb10.cell 0
  have bc10_1 := bb10.cell 1
  have bc10_2 := bb10.cell 2
  have bl10 := bb10.lt
  simp only [List.getElem?_cons_zero, List.getElem?_cons_succ] at bl10 bc10_0 bc10_1 bc10_2
  clear bb10
  go_wp2_with fail
  clear bl10 bc10_0 bc10_1 bc10_2
  obtain ⟨W8, hW⟩ : ∃ W, W = w8.alloc (.cells #[(.int .i64 0), (.int .i64 u2)] 25) := ⟨_, rfl⟩
  rw [← hW]
  have hbW : Below w8.heap.size w8 W8 := by rw [hW]; exact (Below.refl _ _).alloc (Nat.le_refl _) _
  have hX : Bxs W8 [(25, w8.heap.size, [(.int .i64 0), (.int .i64 u2)]), (25, w7.heap.size + 1, [(.int .i64 0), (.int .i64 o2)]), (30, w7.heap.size, [(.int .i64 oL), (.slice A7 n7 c7), (.int .i64 or_)]), (25, w6.heap.size + 1, [(.int .i64 0), (.int .i64 a2)]), (30, w6.heap.size, [(.int .i64 aL), (.slice A6 n6 c6), (.int .i64 ar)]), (25, w5.heap.size, [(.int .i64 0), (.int .i64 m2_)]), (25, w4.heap.size, [(.int .i64 0), (.int .i64 k2)]), (25, w3.heap.size + 1, [(.int .i64 0), (.int .i64 x2)]), (30, w3.heap.size, [(.int .i64 xL), (.slice A3 n3 c3), (.int .i64 xr)]), (25, w2.heap.size, [(.int .i64 0), (.int .i64 n2_)]), (30, w.heap.size + 1, [(.int .i64 L2), (.slice A2 n2 c2), (.int .i64 r2)]), (30, w.heap.size, [(.int .i64 (l : Int)), (.slice A n c), (.int .i64 r)])] := by
    rw [hW]
    exact HX.out.push 25 [(.int .i64 0), (.int .i64 u2)]
  have HB' := hide (HB.out.trans (hbW.mono HB.out.size))
  clear HB
  have HB := HB'
  clear HB'
  have R' := hide (R.out.keep hbW)
  clear R
  have R := R'
  clear R'
  have R2' := hide (R2.out.keep hbW)
  clear R2
  have R2 := R2'
  clear R2'
  have R3' := hide (R3.out.keep hbW)
  clear R3
  have R3 := R3'
  clear R3'
  have R6' := hide (R6.out.keep hbW)
  clear R6
  have R6 := R6'
  clear R6'
  have R7' := hide (R7.out.keep hbW)
  clear R7
  have R7 := R7'
  clear R7'
  have HX' := hide (hX)
  clear HX
  have HX := HX'
  clear HX'
  clear hW hbW hX
  have hc := Hcv.out A7 n7 c7 W8 R7.out
  refine hc.mono ?_
  clear hc
  rintro e w9 ⟨rfl, hb⟩
  have HB' := hide (HB.out.trans (hb.mono HB.out.size))
  clear HB
  have HB := HB'
  clear HB'
  have R' := hide (R.out.keep hb)
  clear R
  have R := R'
  clear R'
  have R2' := hide (R2.out.keep hb)
  clear R2
  have R2 := R2'
  clear R2'
  have R3' := hide (R3.out.keep hb)
  clear R3
  have R3 := R3'
  clear R3'
  have R6' := hide (R6.out.keep hb)
  clear R6
  have R6 := R6'
  clear R6'
  have R7' := hide (R7.out.keep hb)
  clear R7
  have R7 := R7'
  clear R7'
  have HX' := hide (HX.out.keep hb)
  clear HX
  have HX := HX'
  clear HX'
  clear hb
  have bb12 := HX.out (25, w8.heap.size, [(.int .i64 0), (.int .i64 u2)]) (by simp)
  have bc12_0 := bb12.cell 0
  have bc12_1 := bb12.cell 1
  have bl12 := bb12.lt
  simp only [List.getElem?_cons_zero, List.getElem?_cons_succ] at bl12 bc12_0 bc12_1
  clear bb12
  obtain ⟨hm0, hm9⟩ := Bm.out
  obtain ⟨hu0, hu9⟩ := Bu.out
  obtain ⟨hv0, hv9⟩ := Bv.out
  have hx1 : IntKind.i64.wrap (n0 + m0) = n0 + m0 := by rw [IntWalk.i64_in _ (by omega)]
  have hx2 : IntKind.i64.wrap (u0 + v0) = u0 + v0 := by rw [IntWalk.i64_in _ (by omega)]
  have hx3 : (u0 + v0 == n0 + m0) = true := by rw [Hfin.out]; simp
  go_wp2
  go_ret
  exact ⟨rfl, HB.out.alloc HB.out.size _⟩
end Go.Proofs.Ytgenpcokpodhkaa
