/- The laws' example. -/
import Derived.Test.YtnfeknfakkdbhaaCt
import Derived.Test.YtnfeknfakkdbhaaMc4
import Derived.Test.YtnfeknfakkdbhaaMc10
import Derived.Test.YtnfeknfakkdbhaaMc11
namespace Go.Proofs.Ytnfeknfakkdbhaa
set_option linter.unusedVariables false
set_option linter.unusedSimpArgs false
open Go.RowKit

theorem two_low {w : World} {g : Nat} {x y : Int} (hb : Blk 3 w g [.int .i64 x, .int .i64 y]) (hx : -1000 ≤ x ∧ x ≤ 1000) (hy : -1000 ≤ y ∧ y ≤ 1000) : Rd Enc.int w (some ⟨g, 0, none⟩) 2 2 [x, y] :=
  Rd.lit_ints [x, y] hb (by simp) (fun z hz => by simp at hz; rcases hz with rfl | rfl <;> assumption)
set_option maxRecDepth 100000 in
set_option maxHeartbeats 6400000 in
theorem macrosExample_ct (w : World) : Calls Try.prog 16 #[] w (Gives w (.bool true)) := by
  have Hbl := hide (Below.refl w.heap.size w)
  go_enter Try.func16, Try.ntmps16
  go_wp2_with fail
  with_reducible refine (macroTask_ct _).mono ?_
  rintro e w1 ⟨hb, a, rfl, ht⟩
  have Ht := hide ht
  clear ht
  replace Hbl := hide (Hbl.out.trans (hb.mono Hbl.out.size))
  clear hb
  unfold taskV
  go_wp2_with fail
  have hyi := Blk.new (w1) 3 [.int .i64 0, .int .i64 1]
  have hbW : Below (w1).heap.size (w1) ((w1).alloc (.cells #[.int .i64 0, .int .i64 1] 3)) := (Below.refl _ _).alloc (Nat.le_refl _) _
  obtain ⟨w2, hW⟩ : ∃ W, W = (w1).alloc (.cells #[.int .i64 0, .int .i64 1] 3) := ⟨_, rfl⟩
  rw [← hW] at hyi hbW ⊢
  replace Ht := hide (Ht.out.keep hbW)
  replace Hbl := hide (Hbl.out.trans (hbW.mono Hbl.out.size))
  have Hi := hide hyi
  clear hW hbW hyi
  generalize w1.heap.size = gi at Hi ⊢
  have i0 := Hi.out.cell 0
  have i1 := Hi.out.cell 1
  have il := Hi.out.lt
  simp only [List.getElem?_cons_zero, List.getElem?_cons_succ] at i0 i1
  have hct := Combine_ct a mT (some ⟨gi, 0, none⟩) 2 2 [0, 1] w2 Ht.out (two_low Hi.out (by omega) (by omega))
  rw [combine_mT] at hct
  with_reducible refine hct.mono ?_
  rintro e w3 ⟨hb, v, rfl, A1, n1, c1, A2, n2, c2, A3, n3, c3, rfl, q1, q2, q3⟩
  have Q1 := hide q1
  have Q2 := hide q2
  have Q3 := hide q3
  have hn1 := q1.rd.len
  simp only [List.length_nil] at hn1
  subst hn1
  clear q1 q2 q3
  clear i0 i1 il
  replace Hi := hide (Hi.out.keep hb)
  replace Hbl := hide (Hbl.out.trans (hb.mono Hbl.out.size))
  clear hb hct Ht
  have i0 := Hi.out.cell 0
  have i1 := Hi.out.cell 1
  have il := Hi.out.lt
  simp only [List.getElem?_cons_zero, List.getElem?_cons_succ] at i0 i1
  clear i0 i1 il
  clear Hi
  unfold fault
  simp only
  go_wp2_with fail
  have hyo := Blk.new (w3) 27 [.slice A1 0 c1, .slice A2 n2 c2, .slice A3 n3 c3, .int .i64 3]
  have hye := Blk.new ((w3).alloc (.cells #[.slice A1 0 c1, .slice A2 n2 c2, .slice A3 n3 c3, .int .i64 3] 27)) 29 [.int .i64 0, .int .i64 0]
  replace hyo := hyo.alloc (.cells #[.int .i64 0, .int .i64 0] 29)
  have hbW := below_two w3 (.cells #[.slice A1 0 c1, .slice A2 n2 c2, .slice A3 n3 c3, .int .i64 3] 27) (.cells #[.int .i64 0, .int .i64 0] 29)
  simp only [World.size_alloc] at hye
  obtain ⟨w4, hW⟩ : ∃ W, W = ((w3).alloc (.cells #[.slice A1 0 c1, .slice A2 n2 c2, .slice A3 n3 c3, .int .i64 3] 27)).alloc (.cells #[.int .i64 0, .int .i64 0] 29) := ⟨_, rfl⟩
  rw [← hW] at hyo hye hbW ⊢
  replace Q1 := hide (Q1.out.keep hbW)
  replace Q2 := hide (Q2.out.keep hbW)
  replace Q3 := hide (Q3.out.keep hbW)
  replace Hbl := hide (Hbl.out.trans (hbW.mono Hbl.out.size))
  have Ho := hide hyo
  have He := hide hye
  clear hW hbW hyo hye
  generalize w3.heap.size = g1 at Ho He ⊢
  have o0 := Ho.out.cell 0
  have o1 := Ho.out.cell 1
  have o2 := Ho.out.cell 2
  have o3 := Ho.out.cell 3
  have ol := Ho.out.lt
  have e0 := He.out.cell 0
  have e1 := He.out.cell 1
  have el := He.out.lt
  simp only [List.getElem?_cons_zero, List.getElem?_cons_succ] at o0 o1 o2 o3 e0 e1
  with_reducible refine (macroTask_ct _).mono ?_
  rintro e w5 ⟨hb, b, rfl, ht⟩
  have Ht := hide ht
  clear ht
  clear o0 o1 o2 o3 e0 e1 ol el
  replace Ho := hide (Ho.out.keep hb)
  replace He := hide (He.out.keep hb)
  replace Q1 := hide (Q1.out.keep hb)
  replace Q2 := hide (Q2.out.keep hb)
  replace Q3 := hide (Q3.out.keep hb)
  replace Hbl := hide (Hbl.out.trans (hb.mono Hbl.out.size))
  clear hb
  unfold taskV
  have o0 := Ho.out.cell 0
  have o1 := Ho.out.cell 1
  have o2 := Ho.out.cell 2
  have o3 := Ho.out.cell 3
  have ol := Ho.out.lt
  have e0 := He.out.cell 0
  have e1 := He.out.cell 1
  have el := He.out.lt
  simp only [List.getElem?_cons_zero, List.getElem?_cons_succ] at o0 o1 o2 o3 e0 e1
  go_wp2_with fail
  have hyi := Blk.new (w5) 3 [.int .i64 0, .int .i64 1]
  have hym := Blk.new ((w5).alloc (.cells #[.int .i64 0, .int .i64 1] 3)) 22 [.slice (some ⟨w5.heap.size, 0, none⟩) 2 2]
  replace hyi := hyi.alloc (.cells #[.slice (some ⟨w5.heap.size, 0, none⟩) 2 2] 22)
  have hbW := below_two w5 (.cells #[.int .i64 0, .int .i64 1] 3) (.cells #[.slice (some ⟨w5.heap.size, 0, none⟩) 2 2] 22)
  simp only [World.size_alloc] at hym
  obtain ⟨w6, hW⟩ : ∃ W, W = ((w5).alloc (.cells #[.int .i64 0, .int .i64 1] 3)).alloc (.cells #[.slice (some ⟨w5.heap.size, 0, none⟩) 2 2] 22) := ⟨_, rfl⟩
  rw [← hW] at hyi hym hbW ⊢
  replace Ho := hide (Ho.out.keep hbW)
  replace He := hide (He.out.keep hbW)
  replace Q1 := hide (Q1.out.keep hbW)
  replace Q2 := hide (Q2.out.keep hbW)
  replace Q3 := hide (Q3.out.keep hbW)
  replace Ht := hide (Ht.out.keep hbW)
  replace Hbl := hide (Hbl.out.trans (hbW.mono Hbl.out.size))
  have Hi := hide hyi
  have Hm := hide hym
  clear hW hbW hyi hym
  generalize w5.heap.size = gi at Hi Hm ⊢
  have o0 := Ho.out.cell 0
  have o1 := Ho.out.cell 1
  have o2 := Ho.out.cell 2
  have o3 := Ho.out.cell 3
  have ol := Ho.out.lt
  have e0 := He.out.cell 0
  have e1 := He.out.cell 1
  have el := He.out.lt
  have i0 := Hi.out.cell 0
  have i1 := Hi.out.cell 1
  have il := Hi.out.lt
  have m0 := Hm.out.cell 0
  have ml := Hm.out.lt
  simp only [List.getElem?_cons_zero, List.getElem?_cons_succ] at o0 o1 o2 o3 e0 e1 i0 i1 m0
  have hrd : Rd (Enc.sl Enc.int) w6 (some ⟨gi + 1, 0, none⟩) 1 1 [[0, 1]] := Rd.lit_sl _ [[0, 1]] Hm.out (by simp) (fun j x hx => by
    cases j with
    | zero => obtain rfl := Option.some.inj hx; exact ⟨_, 2, 2, rfl, two_low Hi.out (by omega) (by omega)⟩
    | succ j => simp at hx)
  have hct := Extend_ct b mT (some ⟨gi + 1, 0, none⟩) 1 1 [[0, 1]] w6 Ht.out hrd
  rw [extend_mT] at hct
  with_reducible refine hct.mono ?_
  rintro e w7 ⟨hb, x, rfl, hx⟩
  have hx0 := hx w7 (Chg.refl _ _)
  have hx3 := hx0.ops.len
  simp only [List.length_cons, List.length_nil] at hx3
  have Hx3 := hide hx3
  clear hrd hx hx0 hx3
  clear o0 o1 o2 o3 e0 e1 i0 i1 m0 ol el il ml
  replace Ho := hide (Ho.out.keep hb)
  replace He := hide (He.out.keep hb)
  replace Hi := hide (Hi.out.keep hb)
  replace Hm := hide (Hm.out.keep hb)
  replace Q1 := hide (Q1.out.keep hb)
  replace Q2 := hide (Q2.out.keep hb)
  replace Q3 := hide (Q3.out.keep hb)
  replace Hbl := hide (Hbl.out.trans (hb.mono Hbl.out.size))
  clear hb hct Ht
  have o0 := Ho.out.cell 0
  have o1 := Ho.out.cell 1
  have o2 := Ho.out.cell 2
  have o3 := Ho.out.cell 3
  have ol := Ho.out.lt
  have e0 := He.out.cell 0
  have e1 := He.out.cell 1
  have el := He.out.lt
  have i0 := Hi.out.cell 0
  have i1 := Hi.out.cell 1
  have il := Hi.out.lt
  have m0 := Hm.out.cell 0
  have ml := Hm.out.lt
  simp only [List.getElem?_cons_zero, List.getElem?_cons_succ] at o0 o1 o2 o3 e0 e1 i0 i1 m0
  clear o0 o1 o2 o3 e0 e1 i0 i1 m0 ol el il ml
  have o0 := Ho.out.cell 0
  have o1 := Ho.out.cell 1
  have o2 := Ho.out.cell 2
  have o3 := Ho.out.cell 3
  have ol := Ho.out.lt
  have e0 := He.out.cell 0
  have e1 := He.out.cell 1
  have el := He.out.lt
  simp only [List.getElem?_cons_zero, List.getElem?_cons_succ] at o0 o1 o2 o3 e0 e1
  clear Hi Hm
  unfold fault taskV
  simp only
  go_wp2_with fail
  have hyx := Blk.new (w7) 25 [.int .i64 2, .slice x.I x.nI x.cI, .slice x.G x.nG x.cG, .slice x.O x.nO x.cO]
  have hyf := Blk.new ((w7).alloc (.cells #[.int .i64 2, .slice x.I x.nI x.cI, .slice x.G x.nG x.cG, .slice x.O x.nO x.cO] 25)) 29 [.int .i64 0, .int .i64 0]
  replace hyx := hyx.alloc (.cells #[.int .i64 0, .int .i64 0] 29)
  have hbW := below_two w7 (.cells #[.int .i64 2, .slice x.I x.nI x.cI, .slice x.G x.nG x.cG, .slice x.O x.nO x.cO] 25) (.cells #[.int .i64 0, .int .i64 0] 29)
  simp only [World.size_alloc] at hyf
  obtain ⟨w8, hW⟩ : ∃ W, W = ((w7).alloc (.cells #[.int .i64 2, .slice x.I x.nI x.cI, .slice x.G x.nG x.cG, .slice x.O x.nO x.cO] 25)).alloc (.cells #[.int .i64 0, .int .i64 0] 29) := ⟨_, rfl⟩
  rw [← hW] at hyx hyf hbW ⊢
  replace Ho := hide (Ho.out.keep hbW)
  replace He := hide (He.out.keep hbW)
  replace Q1 := hide (Q1.out.keep hbW)
  replace Q2 := hide (Q2.out.keep hbW)
  replace Q3 := hide (Q3.out.keep hbW)
  replace Hbl := hide (Hbl.out.trans (hbW.mono Hbl.out.size))
  have Hx := hide hyx
  have Hf := hide hyf
  clear hW hbW hyx hyf
  generalize w7.heap.size = g2 at Hx Hf ⊢
  have o0 := Ho.out.cell 0
  have o1 := Ho.out.cell 1
  have o2 := Ho.out.cell 2
  have o3 := Ho.out.cell 3
  have ol := Ho.out.lt
  have e0 := He.out.cell 0
  have e1 := He.out.cell 1
  have el := He.out.lt
  have x0 := Hx.out.cell 0
  have x1 := Hx.out.cell 1
  have x2 := Hx.out.cell 2
  have x3 := Hx.out.cell 3
  have xl := Hx.out.lt
  have f0 := Hf.out.cell 0
  have f1 := Hf.out.cell 1
  have fl := Hf.out.lt
  simp only [List.getElem?_cons_zero, List.getElem?_cons_succ] at o0 o1 o2 o3 e0 e1 x0 x1 x2 x3 f0 f1
  with_reducible refine (macroTask_ct _).mono ?_
  rintro e w9 ⟨hb, c, rfl, ht⟩
  have Ht := hide ht
  clear ht
  clear o0 o1 o2 o3 e0 e1 x0 x1 x2 x3 f0 f1 ol el xl fl
  replace Ho := hide (Ho.out.keep hb)
  replace He := hide (He.out.keep hb)
  replace Hx := hide (Hx.out.keep hb)
  replace Hf := hide (Hf.out.keep hb)
  replace Q1 := hide (Q1.out.keep hb)
  replace Q2 := hide (Q2.out.keep hb)
  replace Q3 := hide (Q3.out.keep hb)
  replace Hbl := hide (Hbl.out.trans (hb.mono Hbl.out.size))
  clear hb
  unfold taskV
  have o0 := Ho.out.cell 0
  have o1 := Ho.out.cell 1
  have o2 := Ho.out.cell 2
  have o3 := Ho.out.cell 3
  have ol := Ho.out.lt
  have e0 := He.out.cell 0
  have e1 := He.out.cell 1
  have el := He.out.lt
  have x0 := Hx.out.cell 0
  have x1 := Hx.out.cell 1
  have x2 := Hx.out.cell 2
  have x3 := Hx.out.cell 3
  have xl := Hx.out.lt
  have f0 := Hf.out.cell 0
  have f1 := Hf.out.cell 1
  have fl := Hf.out.lt
  simp only [List.getElem?_cons_zero, List.getElem?_cons_succ] at o0 o1 o2 o3 e0 e1 x0 x1 x2 x3 f0 f1
  go_wp2_with fail
  have hyi := Blk.new (w9) 3 [.int .i64 0, .int .i64 1]
  have hym := Blk.new ((w9).alloc (.cells #[.int .i64 0, .int .i64 1] 3)) 22 [.slice (some ⟨w9.heap.size, 0, none⟩) 2 2]
  replace hyi := hyi.alloc (.cells #[.slice (some ⟨w9.heap.size, 0, none⟩) 2 2] 22)
  have hyp := Blk.new (((w9).alloc (.cells #[.int .i64 0, .int .i64 1] 3)).alloc (.cells #[.slice (some ⟨w9.heap.size, 0, none⟩) 2 2] 22)) 3 [.int .i64 2]
  replace hyi := hyi.alloc (.cells #[.int .i64 2] 3)
  replace hym := hym.alloc (.cells #[.int .i64 2] 3)
  have hbW := below_three w9 (.cells #[.int .i64 0, .int .i64 1] 3) (.cells #[.slice (some ⟨w9.heap.size, 0, none⟩) 2 2] 22) (.cells #[.int .i64 2] 3)
  simp only [World.size_alloc] at hym hyp
  obtain ⟨w10, hW⟩ : ∃ W, W = (((w9).alloc (.cells #[.int .i64 0, .int .i64 1] 3)).alloc (.cells #[.slice (some ⟨w9.heap.size, 0, none⟩) 2 2] 22)).alloc (.cells #[.int .i64 2] 3) := ⟨_, rfl⟩
  rw [← hW] at hyi hym hyp hbW ⊢
  replace Ho := hide (Ho.out.keep hbW)
  replace He := hide (He.out.keep hbW)
  replace Hx := hide (Hx.out.keep hbW)
  replace Hf := hide (Hf.out.keep hbW)
  replace Q1 := hide (Q1.out.keep hbW)
  replace Q2 := hide (Q2.out.keep hbW)
  replace Q3 := hide (Q3.out.keep hbW)
  replace Ht := hide (Ht.out.keep hbW)
  replace Hbl := hide (Hbl.out.trans (hbW.mono Hbl.out.size))
  have Hi := hide hyi
  have Hm := hide hym
  have Hp := hide hyp
  clear hW hbW hyi hym hyp
  generalize w9.heap.size = gi at Hi Hm Hp ⊢
  have o0 := Ho.out.cell 0
  have o1 := Ho.out.cell 1
  have o2 := Ho.out.cell 2
  have o3 := Ho.out.cell 3
  have ol := Ho.out.lt
  have e0 := He.out.cell 0
  have e1 := He.out.cell 1
  have el := He.out.lt
  have x0 := Hx.out.cell 0
  have x1 := Hx.out.cell 1
  have x2 := Hx.out.cell 2
  have x3 := Hx.out.cell 3
  have xl := Hx.out.lt
  have f0 := Hf.out.cell 0
  have f1 := Hf.out.cell 1
  have fl := Hf.out.lt
  have i0 := Hi.out.cell 0
  have i1 := Hi.out.cell 1
  have il := Hi.out.lt
  have m0 := Hm.out.cell 0
  have ml := Hm.out.lt
  have p0 := Hp.out.cell 0
  have pl := Hp.out.lt
  simp only [List.getElem?_cons_zero, List.getElem?_cons_succ] at o0 o1 o2 o3 e0 e1 x0 x1 x2 x3 f0 f1 i0 i1 m0 p0
  have hrd : Rd (Enc.sl Enc.int) w10 (some ⟨gi + 1, 0, none⟩) 1 1 [[0, 1]] := Rd.lit_sl _ [[0, 1]] Hm.out (by simp) (fun j x hx => by
    cases j with
    | zero => obtain rfl := Option.some.inj hx; exact ⟨_, 2, 2, rfl, two_low Hi.out (by omega) (by omega)⟩
    | succ j => simp at hx)
  have hct := Expand_ct c mT (some ⟨gi + 1, 0, none⟩) 1 1 [[0, 1]] (some ⟨gi + 1 + 1, 0, none⟩) 1 1 [2] w10 Ht.out hrd (one_low Hp.out (by omega))
  rw [expand_mT] at hct
  with_reducible refine hct.mono ?_
  rintro e w11 ⟨hb, P, np, cp, rfl, hx⟩
  have HP := hide (hx w11 (Chg.refl _ _))
  clear hrd hx
  clear o0 o1 o2 o3 e0 e1 x0 x1 x2 x3 f0 f1 i0 i1 m0 p0 ol el xl fl il ml pl
  replace Ho := hide (Ho.out.keep hb)
  replace He := hide (He.out.keep hb)
  replace Hx := hide (Hx.out.keep hb)
  replace Hf := hide (Hf.out.keep hb)
  replace Hi := hide (Hi.out.keep hb)
  replace Hm := hide (Hm.out.keep hb)
  replace Hp := hide (Hp.out.keep hb)
  replace Q1 := hide (Q1.out.keep hb)
  replace Q2 := hide (Q2.out.keep hb)
  replace Q3 := hide (Q3.out.keep hb)
  replace Hbl := hide (Hbl.out.trans (hb.mono Hbl.out.size))
  clear hb hct Ht
  have o0 := Ho.out.cell 0
  have o1 := Ho.out.cell 1
  have o2 := Ho.out.cell 2
  have o3 := Ho.out.cell 3
  have ol := Ho.out.lt
  have e0 := He.out.cell 0
  have e1 := He.out.cell 1
  have el := He.out.lt
  have x0 := Hx.out.cell 0
  have x1 := Hx.out.cell 1
  have x2 := Hx.out.cell 2
  have x3 := Hx.out.cell 3
  have xl := Hx.out.lt
  have f0 := Hf.out.cell 0
  have f1 := Hf.out.cell 1
  have fl := Hf.out.lt
  have i0 := Hi.out.cell 0
  have i1 := Hi.out.cell 1
  have il := Hi.out.lt
  have m0 := Hm.out.cell 0
  have ml := Hm.out.lt
  have p0 := Hp.out.cell 0
  have pl := Hp.out.lt
  simp only [List.getElem?_cons_zero, List.getElem?_cons_succ] at o0 o1 o2 o3 e0 e1 x0 x1 x2 x3 f0 f1 i0 i1 m0 p0
  clear o0 o1 o2 o3 e0 e1 x0 x1 x2 x3 f0 f1 i0 i1 m0 p0 ol el xl fl il ml pl
  have o0 := Ho.out.cell 0
  have o1 := Ho.out.cell 1
  have o2 := Ho.out.cell 2
  have o3 := Ho.out.cell 3
  have ol := Ho.out.lt
  have e0 := He.out.cell 0
  have e1 := He.out.cell 1
  have el := He.out.lt
  have x0 := Hx.out.cell 0
  have x1 := Hx.out.cell 1
  have x2 := Hx.out.cell 2
  have x3 := Hx.out.cell 3
  have xl := Hx.out.lt
  have f0 := Hf.out.cell 0
  have f1 := Hf.out.cell 1
  have fl := Hf.out.lt
  simp only [List.getElem?_cons_zero, List.getElem?_cons_succ] at o0 o1 o2 o3 e0 e1 x0 x1 x2 x3 f0 f1
  clear Hi Hm Hp
  unfold fault
  simp only
  go_upto_region 4 with (fail)
  have hyh := Blk.new (w11) 29 [.int .i64 0, .int .i64 0]
  have hbW : Below (w11).heap.size (w11) ((w11).alloc (.cells #[.int .i64 0, .int .i64 0] 29)) := (Below.refl _ _).alloc (Nat.le_refl _) _
  obtain ⟨w12, hW⟩ : ∃ W, W = (w11).alloc (.cells #[.int .i64 0, .int .i64 0] 29) := ⟨_, rfl⟩
  rw [← hW] at hyh hbW ⊢
  replace Ho := hide (Ho.out.keep hbW)
  replace He := hide (He.out.keep hbW)
  replace Hx := hide (Hx.out.keep hbW)
  replace Hf := hide (Hf.out.keep hbW)
  replace Q1 := hide (Q1.out.keep hbW)
  replace Q2 := hide (Q2.out.keep hbW)
  replace Q3 := hide (Q3.out.keep hbW)
  replace HP := hide (HP.out.keep hbW)
  replace Hbl := hide (Hbl.out.trans (hbW.mono Hbl.out.size))
  have Hh := hide hyh
  clear hW hbW hyh
  generalize w11.heap.size = g3 at Hh ⊢
  have o0 := Ho.out.cell 0
  have o1 := Ho.out.cell 1
  have o2 := Ho.out.cell 2
  have o3 := Ho.out.cell 3
  have ol := Ho.out.lt
  have e0 := He.out.cell 0
  have e1 := He.out.cell 1
  have el := He.out.lt
  have x0 := Hx.out.cell 0
  have x1 := Hx.out.cell 1
  have x2 := Hx.out.cell 2
  have x3 := Hx.out.cell 3
  have xl := Hx.out.lt
  have f0 := Hf.out.cell 0
  have f1 := Hf.out.cell 1
  have fl := Hf.out.lt
  have h0 := Hh.out.cell 0
  have h1 := Hh.out.cell 1
  have hl := Hh.out.lt
  simp only [List.getElem?_cons_zero, List.getElem?_cons_succ] at o0 o1 o2 o3 e0 e1 x0 x1 x2 x3 f0 f1 h0 h1
  obtain ⟨nO, hnO⟩ : ∃ k, k = x.nO := ⟨_, rfl⟩
  rw [← hnO] at Hx x3 Hx3
  obtain rfl : nO = 3 := Hx3.out.symm
  clear hnO Hx3
  go_wp2_with fail
  have hyk := Blk.new (w12) 3 [.int .i64 1]
  have hbW : Below (w12).heap.size (w12) ((w12).alloc (.cells #[.int .i64 1] 3)) := (Below.refl _ _).alloc (Nat.le_refl _) _
  obtain ⟨w13, hW⟩ : ∃ W, W = (w12).alloc (.cells #[.int .i64 1] 3) := ⟨_, rfl⟩
  rw [← hW] at hyk hbW ⊢
  replace Ho := hide (Ho.out.keep hbW)
  replace He := hide (He.out.keep hbW)
  replace Hx := hide (Hx.out.keep hbW)
  replace Hf := hide (Hf.out.keep hbW)
  replace Hh := hide (Hh.out.keep hbW)
  replace Q1 := hide (Q1.out.keep hbW)
  replace Q2 := hide (Q2.out.keep hbW)
  replace Q3 := hide (Q3.out.keep hbW)
  replace HP := hide (HP.out.keep hbW)
  replace Hbl := hide (Hbl.out.trans (hbW.mono Hbl.out.size))
  have Hk := hide hyk
  clear hW hbW hyk
  generalize w12.heap.size = gk at Hk ⊢
  have o0 := Ho.out.cell 0
  have o1 := Ho.out.cell 1
  have o2 := Ho.out.cell 2
  have o3 := Ho.out.cell 3
  have ol := Ho.out.lt
  have e0 := He.out.cell 0
  have e1 := He.out.cell 1
  have el := He.out.lt
  have x0 := Hx.out.cell 0
  have x1 := Hx.out.cell 1
  have x2 := Hx.out.cell 2
  have x3 := Hx.out.cell 3
  have xl := Hx.out.lt
  have f0 := Hf.out.cell 0
  have f1 := Hf.out.cell 1
  have fl := Hf.out.lt
  have h0 := Hh.out.cell 0
  have h1 := Hh.out.cell 1
  have hl := Hh.out.lt
  have k0 := Hk.out.cell 0
  have kl := Hk.out.lt
  simp only [List.getElem?_cons_zero, List.getElem?_cons_succ] at o0 o1 o2 o3 e0 e1 x0 x1 x2 x3 f0 f1 h0 h1 k0
  have hct := Ints_ct A2 (some ⟨gk, 0, none⟩) _ _ 1 1 [1] [1] w13 Q2.out.rd (one_low Hk.out (by omega))
  rw [show intsB [1] [1] = true by decide] at hct
  with_reducible refine hct.mono ?_
  rintro e w14 ⟨rfl, hq⟩
  have hb := hq.below w13.heap.size
  clear hct hq
  clear o0 o1 o2 o3 e0 e1 x0 x1 x2 x3 f0 f1 h0 h1 k0 ol el xl fl hl kl
  replace Ho := hide (Ho.out.keep hb)
  replace He := hide (He.out.keep hb)
  replace Hx := hide (Hx.out.keep hb)
  replace Hf := hide (Hf.out.keep hb)
  replace Hh := hide (Hh.out.keep hb)
  replace Hk := hide (Hk.out.keep hb)
  replace Q1 := hide (Q1.out.keep hb)
  replace Q2 := hide (Q2.out.keep hb)
  replace Q3 := hide (Q3.out.keep hb)
  replace HP := hide (HP.out.keep hb)
  replace Hbl := hide (Hbl.out.trans (hb.mono Hbl.out.size))
  clear hb
  have o0 := Ho.out.cell 0
  have o1 := Ho.out.cell 1
  have o2 := Ho.out.cell 2
  have o3 := Ho.out.cell 3
  have ol := Ho.out.lt
  have e0 := He.out.cell 0
  have e1 := He.out.cell 1
  have el := He.out.lt
  have x0 := Hx.out.cell 0
  have x1 := Hx.out.cell 1
  have x2 := Hx.out.cell 2
  have x3 := Hx.out.cell 3
  have xl := Hx.out.lt
  have f0 := Hf.out.cell 0
  have f1 := Hf.out.cell 1
  have fl := Hf.out.lt
  have h0 := Hh.out.cell 0
  have h1 := Hh.out.cell 1
  have hl := Hh.out.lt
  simp only [List.getElem?_cons_zero, List.getElem?_cons_succ] at o0 o1 o2 o3 e0 e1 x0 x1 x2 x3 f0 f1 h0 h1
  clear Hk
  go_wp2_with fail
  have hyk := Blk.new (w14) 3 [.int .i64 0]
  have hbW : Below (w14).heap.size (w14) ((w14).alloc (.cells #[.int .i64 0] 3)) := (Below.refl _ _).alloc (Nat.le_refl _) _
  obtain ⟨w15, hW⟩ : ∃ W, W = (w14).alloc (.cells #[.int .i64 0] 3) := ⟨_, rfl⟩
  rw [← hW] at hyk hbW ⊢
  replace Ho := hide (Ho.out.keep hbW)
  replace He := hide (He.out.keep hbW)
  replace Hx := hide (Hx.out.keep hbW)
  replace Hf := hide (Hf.out.keep hbW)
  replace Hh := hide (Hh.out.keep hbW)
  replace Q1 := hide (Q1.out.keep hbW)
  replace Q2 := hide (Q2.out.keep hbW)
  replace Q3 := hide (Q3.out.keep hbW)
  replace HP := hide (HP.out.keep hbW)
  replace Hbl := hide (Hbl.out.trans (hbW.mono Hbl.out.size))
  have Hk := hide hyk
  clear hW hbW hyk
  generalize w14.heap.size = gk at Hk ⊢
  have o0 := Ho.out.cell 0
  have o1 := Ho.out.cell 1
  have o2 := Ho.out.cell 2
  have o3 := Ho.out.cell 3
  have ol := Ho.out.lt
  have e0 := He.out.cell 0
  have e1 := He.out.cell 1
  have el := He.out.lt
  have x0 := Hx.out.cell 0
  have x1 := Hx.out.cell 1
  have x2 := Hx.out.cell 2
  have x3 := Hx.out.cell 3
  have xl := Hx.out.lt
  have f0 := Hf.out.cell 0
  have f1 := Hf.out.cell 1
  have fl := Hf.out.lt
  have h0 := Hh.out.cell 0
  have h1 := Hh.out.cell 1
  have hl := Hh.out.lt
  have k0 := Hk.out.cell 0
  have kl := Hk.out.lt
  simp only [List.getElem?_cons_zero, List.getElem?_cons_succ] at o0 o1 o2 o3 e0 e1 x0 x1 x2 x3 f0 f1 h0 h1 k0
  have hct := Ints_ct A3 (some ⟨gk, 0, none⟩) _ _ 1 1 [0] [0] w15 Q3.out.rd (one_low Hk.out (by omega))
  rw [show intsB [0] [0] = true by decide] at hct
  with_reducible refine hct.mono ?_
  rintro e w16 ⟨rfl, hq⟩
  have hb := hq.below w15.heap.size
  clear hct hq
  clear o0 o1 o2 o3 e0 e1 x0 x1 x2 x3 f0 f1 h0 h1 k0 ol el xl fl hl kl
  replace Ho := hide (Ho.out.keep hb)
  replace He := hide (He.out.keep hb)
  replace Hx := hide (Hx.out.keep hb)
  replace Hf := hide (Hf.out.keep hb)
  replace Hh := hide (Hh.out.keep hb)
  replace Hk := hide (Hk.out.keep hb)
  replace Q1 := hide (Q1.out.keep hb)
  replace Q2 := hide (Q2.out.keep hb)
  replace Q3 := hide (Q3.out.keep hb)
  replace HP := hide (HP.out.keep hb)
  replace Hbl := hide (Hbl.out.trans (hb.mono Hbl.out.size))
  clear hb
  have o0 := Ho.out.cell 0
  have o1 := Ho.out.cell 1
  have o2 := Ho.out.cell 2
  have o3 := Ho.out.cell 3
  have ol := Ho.out.lt
  have e0 := He.out.cell 0
  have e1 := He.out.cell 1
  have el := He.out.lt
  have x0 := Hx.out.cell 0
  have x1 := Hx.out.cell 1
  have x2 := Hx.out.cell 2
  have x3 := Hx.out.cell 3
  have xl := Hx.out.lt
  have f0 := Hf.out.cell 0
  have f1 := Hf.out.cell 1
  have fl := Hf.out.lt
  have h0 := Hh.out.cell 0
  have h1 := Hh.out.cell 1
  have hl := Hh.out.lt
  simp only [List.getElem?_cons_zero, List.getElem?_cons_succ] at o0 o1 o2 o3 e0 e1 x0 x1 x2 x3 f0 f1 h0 h1
  clear Hk
  go_wp2_with fail
  have hyk := Blk.new (w16) 3 [.int .i64 0, .int .i64 1]
  have hbW : Below (w16).heap.size (w16) ((w16).alloc (.cells #[.int .i64 0, .int .i64 1] 3)) := (Below.refl _ _).alloc (Nat.le_refl _) _
  obtain ⟨w17, hW⟩ : ∃ W, W = (w16).alloc (.cells #[.int .i64 0, .int .i64 1] 3) := ⟨_, rfl⟩
  rw [← hW] at hyk hbW ⊢
  replace Ho := hide (Ho.out.keep hbW)
  replace He := hide (He.out.keep hbW)
  replace Hx := hide (Hx.out.keep hbW)
  replace Hf := hide (Hf.out.keep hbW)
  replace Hh := hide (Hh.out.keep hbW)
  replace Q1 := hide (Q1.out.keep hbW)
  replace Q2 := hide (Q2.out.keep hbW)
  replace Q3 := hide (Q3.out.keep hbW)
  replace HP := hide (HP.out.keep hbW)
  replace Hbl := hide (Hbl.out.trans (hbW.mono Hbl.out.size))
  have Hk := hide hyk
  clear hW hbW hyk
  generalize w16.heap.size = gk at Hk ⊢
  have o0 := Ho.out.cell 0
  have o1 := Ho.out.cell 1
  have o2 := Ho.out.cell 2
  have o3 := Ho.out.cell 3
  have ol := Ho.out.lt
  have e0 := He.out.cell 0
  have e1 := He.out.cell 1
  have el := He.out.lt
  have x0 := Hx.out.cell 0
  have x1 := Hx.out.cell 1
  have x2 := Hx.out.cell 2
  have x3 := Hx.out.cell 3
  have xl := Hx.out.lt
  have f0 := Hf.out.cell 0
  have f1 := Hf.out.cell 1
  have fl := Hf.out.lt
  have h0 := Hh.out.cell 0
  have h1 := Hh.out.cell 1
  have hl := Hh.out.lt
  have k0 := Hk.out.cell 0
  have k1 := Hk.out.cell 1
  have kl := Hk.out.lt
  simp only [List.getElem?_cons_zero, List.getElem?_cons_succ] at o0 o1 o2 o3 e0 e1 x0 x1 x2 x3 f0 f1 h0 h1 k0 k1
  have hct := Ints_ct P (some ⟨gk, 0, none⟩) _ _ 2 2 [0, 1] [0, 1] w17 HP.out (two_low Hk.out (by omega) (by omega))
  rw [show intsB [0, 1] [0, 1] = true by decide] at hct
  with_reducible refine hct.mono ?_
  rintro e w18 ⟨rfl, hq⟩
  have hb := hq.below w17.heap.size
  clear hct hq
  clear o0 o1 o2 o3 e0 e1 x0 x1 x2 x3 f0 f1 h0 h1 k0 k1 ol el xl fl hl kl
  replace Ho := hide (Ho.out.keep hb)
  replace He := hide (He.out.keep hb)
  replace Hx := hide (Hx.out.keep hb)
  replace Hf := hide (Hf.out.keep hb)
  replace Hh := hide (Hh.out.keep hb)
  replace Hk := hide (Hk.out.keep hb)
  replace Q1 := hide (Q1.out.keep hb)
  replace Q2 := hide (Q2.out.keep hb)
  replace Q3 := hide (Q3.out.keep hb)
  replace HP := hide (HP.out.keep hb)
  replace Hbl := hide (Hbl.out.trans (hb.mono Hbl.out.size))
  clear hb
  have o0 := Ho.out.cell 0
  have o1 := Ho.out.cell 1
  have o2 := Ho.out.cell 2
  have o3 := Ho.out.cell 3
  have ol := Ho.out.lt
  have e0 := He.out.cell 0
  have e1 := He.out.cell 1
  have el := He.out.lt
  have x0 := Hx.out.cell 0
  have x1 := Hx.out.cell 1
  have x2 := Hx.out.cell 2
  have x3 := Hx.out.cell 3
  have xl := Hx.out.lt
  have f0 := Hf.out.cell 0
  have f1 := Hf.out.cell 1
  have fl := Hf.out.lt
  have h0 := Hh.out.cell 0
  have h1 := Hh.out.cell 1
  have hl := Hh.out.lt
  simp only [List.getElem?_cons_zero, List.getElem?_cons_succ] at o0 o1 o2 o3 e0 e1 x0 x1 x2 x3 f0 f1 h0 h1
  clear Hk
  go_wp2_with fail
  go_ret
  exact ⟨ret_bool (by simp), Hbl.out⟩
end Go.Proofs.Ytnfeknfakkdbhaa
