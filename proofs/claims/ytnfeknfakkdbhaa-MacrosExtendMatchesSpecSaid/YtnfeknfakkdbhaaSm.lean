/- The reference: a task is the same as itself, wherever it lies. -/
import Derived.Test.YtnfeknfakkdbhaaTk6
namespace Go.Proofs.Ytnfeknfakkdbhaa
set_option linter.unusedVariables false
set_option linter.unusedSimpArgs false
open Go.RowKit

set_option maxRecDepth 100000 in
set_option maxHeartbeats 6400000 in
theorem SameTask_ct (a b : TA) (T : Tsk) (w : World) (h : TkR w a T) (g : TkR w b T) :
    Calls Try.prog 25 #[.agg #[.int .i64 T.facts, .slice a.I a.nI a.cI, .slice a.G a.nG a.cG, .slice a.O a.nO a.cO], .agg #[.int .i64 T.facts, .slice b.I b.nI b.cI, .slice b.G b.nG b.cG, .slice b.O b.nO b.cO]] w (Gives w (.bool true)) := by
  obtain ⟨I, nI, cI, G, nG, cG, O, nO, cO⟩ := a
  obtain ⟨I', nI', cI', G', nG', cG', O', nO', cO'⟩ := b
  have hlO := h.ops.len
  have hlO' := g.ops.len
  have hlow := h.ops.low
  obtain ⟨hf1, hf2⟩ := h.facts
  simp only at hlO hlO' hlow
  rw [hlO] at hlO'
  subst hlO'
  have H := hide h
  have K := hide g
  have HlO := hide hlO
  clear h g hlO
  have Hbl := hide (Below.refl w.heap.size w)
  go_enter Try.func25, Try.ntmps25
  go_upto_region 1 with (fail)
  have hya := Blk.new (w) 25 [.int .i64 T.facts, .slice I nI cI, .slice G nG cG, .slice O nO cO]
  have hyb := Blk.new ((w).alloc (.cells #[.int .i64 T.facts, .slice I nI cI, .slice G nG cG, .slice O nO cO] 25)) 25 [.int .i64 T.facts, .slice I' nI' cI', .slice G' nG' cG', .slice O' nO cO']
  replace hya := hya.alloc (.cells #[.int .i64 T.facts, .slice I' nI' cI', .slice G' nG' cG', .slice O' nO cO'] 25)
  have hbW := below_two w (.cells #[.int .i64 T.facts, .slice I nI cI, .slice G nG cG, .slice O nO cO] 25) (.cells #[.int .i64 T.facts, .slice I' nI' cI', .slice G' nG' cG', .slice O' nO cO'] 25)
  simp only [World.size_alloc] at hyb
  obtain ⟨w0, hW⟩ : ∃ W, W = ((w).alloc (.cells #[.int .i64 T.facts, .slice I nI cI, .slice G nG cG, .slice O nO cO] 25)).alloc (.cells #[.int .i64 T.facts, .slice I' nI' cI', .slice G' nG' cG', .slice O' nO cO'] 25) := ⟨_, rfl⟩
  rw [← hW] at hya hyb hbW ⊢
  replace Hbl := hide (Hbl.out.trans (hbW.mono Hbl.out.size))
  have Ha := hide hya
  have Hb := hide hyb
  clear hW hbW hya hyb
  generalize w.heap.size = gA at Ha Hb ⊢
  have a0 := Ha.out.cell 0
  have a1 := Ha.out.cell 1
  have a2 := Ha.out.cell 2
  have a3 := Ha.out.cell 3
  have al := Ha.out.lt
  have b0 := Hb.out.cell 0
  have b1 := Hb.out.cell 1
  have b2 := Hb.out.cell 2
  have b3 := Hb.out.cell 3
  have bl := Hb.out.lt
  simp only [List.getElem?_cons_zero, List.getElem?_cons_succ] at a0 a1 a2 a3 b0 b1 b2 b3
  go_wp2_with fail
  have hct := Ints_ct _ _ _ _ _ _ T.init T.init w0 (H.out.init.keep Hbl.out) (K.out.init.keep Hbl.out)
  rw [show intsB T.init T.init = true by simp [intsB]] at hct
  with_reducible refine hct.mono ?_
  rintro e w1 ⟨rfl, hq⟩
  have hb := hq.below w0.heap.size
  clear hct hq
  clear a0 a1 a2 a3 b0 b1 b2 b3 al bl
  replace Ha := hide (Ha.out.keep hb)
  replace Hb := hide (Hb.out.keep hb)
  replace Hbl := hide (Hbl.out.trans (hb.mono Hbl.out.size))
  clear hb
  have a0 := Ha.out.cell 0
  have a1 := Ha.out.cell 1
  have a2 := Ha.out.cell 2
  have a3 := Ha.out.cell 3
  have al := Ha.out.lt
  have b0 := Hb.out.cell 0
  have b1 := Hb.out.cell 1
  have b2 := Hb.out.cell 2
  have b3 := Hb.out.cell 3
  have bl := Hb.out.lt
  simp only [List.getElem?_cons_zero, List.getElem?_cons_succ] at a0 a1 a2 a3 b0 b1 b2 b3
  go_wp2_with fail
  have hct := Ints_ct _ _ _ _ _ _ T.goal T.goal w1 (H.out.goal.keep Hbl.out) (K.out.goal.keep Hbl.out)
  rw [show intsB T.goal T.goal = true by simp [intsB]] at hct
  with_reducible refine hct.mono ?_
  rintro e w2 ⟨rfl, hq⟩
  have hb := hq.below w1.heap.size
  clear hct hq
  clear a0 a1 a2 a3 b0 b1 b2 b3 al bl
  replace Ha := hide (Ha.out.keep hb)
  replace Hb := hide (Hb.out.keep hb)
  replace Hbl := hide (Hbl.out.trans (hb.mono Hbl.out.size))
  clear hb
  have a0 := Ha.out.cell 0
  have a1 := Ha.out.cell 1
  have a2 := Ha.out.cell 2
  have a3 := Ha.out.cell 3
  have al := Ha.out.lt
  have b0 := Hb.out.cell 0
  have b1 := Hb.out.cell 1
  have b2 := Hb.out.cell 2
  have b3 := Hb.out.cell 3
  have bl := Hb.out.lt
  simp only [List.getElem?_cons_zero, List.getElem?_cons_succ] at a0 a1 a2 a3 b0 b1 b2 b3
  go_wp2_with fail
  have hsz0 := Hbl.out.size
  have Hb2 := Hbl
  clear a0 a1 a2 a3 b0 b1 b2 b3 al bl
  go_loopw [5] (fun i wr => ∃ k : Nat, k ≤ nO ∧ i = .int .i64 k ∧ Below w2.heap.size w2 wr) (fun i _ => nO - (intOf i).toNat)
  case atStart => exact ⟨0, by omega, rfl, Below.refl _ _⟩
  case round =>
    obtain ⟨k, hk, rfl, hb⟩ := hrel
    replace Ha := hide (Ha.out.keep hb)
    replace Hb := hide (Hb.out.keep hb)
    replace Hbl := hide (Hbl.out.trans (hb.mono Hbl.out.size))
    have Hr := hide hb
    clear hb
    have a0 := Ha.out.cell 0
    have a1 := Ha.out.cell 1
    have a2 := Ha.out.cell 2
    have a3 := Ha.out.cell 3
    have al := Ha.out.lt
    have b0 := Hb.out.cell 0
    have b1 := Hb.out.cell 1
    have b2 := Hb.out.cell 2
    have b3 := Hb.out.cell 3
    have bl := Hb.out.lt
    simp only [List.getElem?_cons_zero, List.getElem?_cons_succ] at a0 a1 a2 a3 b0 b1 b2 b3
    by_cases hlt : k < nO
    · obtain ⟨b1, off1, o, A1, n1, d1, A2, n2, d2, A3, n3, d3, rfl, hoq, g0, g1, g2, g3, r1, r2, r3, r4⟩ := H.out.ops.op hlt
      obtain ⟨b2, off2, o', B1, m1, e1, B2, m2, e2, B3, m3, e3, rfl, hoq', k0, k1, k2, k3, s1, s2, s3, s4⟩ := K.out.ops.op hlt
      rw [hoq] at hoq'
      obtain rfl := Option.some.inj hoq'
      obtain ⟨hc1, hc2⟩ := r4
      have hl1 : b1 < w.heap.size := World.block_lt_of_cell? w _ g0
      have hl2 : b2 < w.heap.size := World.block_lt_of_cell? w _ k0
      rw [← (olds Hbl.out).1 _ _ hl1] at g0 g1 g2 g3
      have Hk0 := hide k0
      have Hk1 := hide k1
      have Hk2 := hide k2
      have Hk3 := hide k3
      have R1 := hide r1
      have R2 := hide r2
      have R3_ := hide r3
      have S1 := hide s1
      have S2 := hide s2
      have S3 := hide s3
      clear r1 r2 r3 s1 s2 s3 s4 hoq hoq' k0 k1 k2 k3
      have Hx8 := hide (Below.refl wr.heap.size wr)
      go_upto_region 7 with (fail)
      have hyx := Blk.new (wr) 27 [.slice A1 n1 d1, .slice A2 n2 d2, .slice A3 n3 d3, .int .i64 o.cost]
      have hbW : Below (wr).heap.size (wr) ((wr).alloc (.cells #[.slice A1 n1 d1, .slice A2 n2 d2, .slice A3 n3 d3, .int .i64 o.cost] 27)) := (Below.refl _ _).alloc (Nat.le_refl _) _
      obtain ⟨w3, hW⟩ : ∃ W, W = (wr).alloc (.cells #[.slice A1 n1 d1, .slice A2 n2 d2, .slice A3 n3 d3, .int .i64 o.cost] 27) := ⟨_, rfl⟩
      rw [← hW] at hyx hbW ⊢
      replace Ha := hide (Ha.out.keep hbW)
      replace Hb := hide (Hb.out.keep hbW)
      replace Hbl := hide (Hbl.out.trans (hbW.mono Hbl.out.size))
      replace Hx8 := hide (Hx8.out.trans (hbW.mono Hx8.out.size))
      have Hx := hide hyx
      clear hW hbW hyx
      generalize wr.heap.size = gx at Hx ⊢
      have a0 := Ha.out.cell 0
      have a1 := Ha.out.cell 1
      have a2 := Ha.out.cell 2
      have a3 := Ha.out.cell 3
      have al := Ha.out.lt
      have b0 := Hb.out.cell 0
      have b1 := Hb.out.cell 1
      have b2 := Hb.out.cell 2
      have b3 := Hb.out.cell 3
      have bl := Hb.out.lt
      have x0 := Hx.out.cell 0
      have x1 := Hx.out.cell 1
      have x2 := Hx.out.cell 2
      have x3 := Hx.out.cell 3
      have xl := Hx.out.lt
      simp only [List.getElem?_cons_zero, List.getElem?_cons_succ] at a0 a1 a2 a3 b0 b1 b2 b3 x0 x1 x2 x3
      clear g0 g1 g2 g3
      have k0 := ((olds Hbl.out).1 _ _ hl2).trans Hk0.out
      have k1 := ((olds Hbl.out).1 _ _ hl2).trans Hk1.out
      have k2 := ((olds Hbl.out).1 _ _ hl2).trans Hk2.out
      have k3 := ((olds Hbl.out).1 _ _ hl2).trans Hk3.out
      go_upto_region 8 with (fail)
      have hyy := Blk.new (w3) 27 [.slice B1 m1 e1, .slice B2 m2 e2, .slice B3 m3 e3, .int .i64 o.cost]
      have hbW : Below (w3).heap.size (w3) ((w3).alloc (.cells #[.slice B1 m1 e1, .slice B2 m2 e2, .slice B3 m3 e3, .int .i64 o.cost] 27)) := (Below.refl _ _).alloc (Nat.le_refl _) _
      obtain ⟨w4, hW⟩ : ∃ W, W = (w3).alloc (.cells #[.slice B1 m1 e1, .slice B2 m2 e2, .slice B3 m3 e3, .int .i64 o.cost] 27) := ⟨_, rfl⟩
      rw [← hW] at hyy hbW ⊢
      replace Ha := hide (Ha.out.keep hbW)
      replace Hb := hide (Hb.out.keep hbW)
      replace Hx := hide (Hx.out.keep hbW)
      replace Hbl := hide (Hbl.out.trans (hbW.mono Hbl.out.size))
      replace Hx8 := hide (Hx8.out.trans (hbW.mono Hx8.out.size))
      have Hy := hide hyy
      clear hW hbW hyy
      generalize w3.heap.size = gy at Hy ⊢
      have a0 := Ha.out.cell 0
      have a1 := Ha.out.cell 1
      have a2 := Ha.out.cell 2
      have a3 := Ha.out.cell 3
      have al := Ha.out.lt
      have b0 := Hb.out.cell 0
      have b1 := Hb.out.cell 1
      have b2 := Hb.out.cell 2
      have b3 := Hb.out.cell 3
      have bl := Hb.out.lt
      have x0 := Hx.out.cell 0
      have x1 := Hx.out.cell 1
      have x2 := Hx.out.cell 2
      have x3 := Hx.out.cell 3
      have xl := Hx.out.lt
      have y0 := Hy.out.cell 0
      have y1 := Hy.out.cell 1
      have y2 := Hy.out.cell 2
      have y3 := Hy.out.cell 3
      have yl := Hy.out.lt
      simp only [List.getElem?_cons_zero, List.getElem?_cons_succ] at a0 a1 a2 a3 b0 b1 b2 b3 x0 x1 x2 x3 y0 y1 y2 y3
      clear k0 k1 k2 k3
      go_wp2_with fail
      have hct := Ints_ct _ _ _ _ _ _ o.pre o.pre w4 (R1.out.keep Hbl.out) (S1.out.keep Hbl.out)
      rw [show intsB o.pre o.pre = true by simp [intsB]] at hct
      with_reducible refine hct.mono ?_
      rintro e w5 ⟨rfl, hq⟩
      have hb := hq.below w4.heap.size
      clear hct hq
      clear a0 a1 a2 a3 b0 b1 b2 b3 x0 x1 x2 x3 y0 y1 y2 y3 al bl xl yl
      replace Ha := hide (Ha.out.keep hb)
      replace Hb := hide (Hb.out.keep hb)
      replace Hx := hide (Hx.out.keep hb)
      replace Hy := hide (Hy.out.keep hb)
      replace Hbl := hide (Hbl.out.trans (hb.mono Hbl.out.size))
      replace Hx8 := hide (Hx8.out.trans (hb.mono Hx8.out.size))
      clear hb
      have a0 := Ha.out.cell 0
      have a1 := Ha.out.cell 1
      have a2 := Ha.out.cell 2
      have a3 := Ha.out.cell 3
      have al := Ha.out.lt
      have b0 := Hb.out.cell 0
      have b1 := Hb.out.cell 1
      have b2 := Hb.out.cell 2
      have b3 := Hb.out.cell 3
      have bl := Hb.out.lt
      have x0 := Hx.out.cell 0
      have x1 := Hx.out.cell 1
      have x2 := Hx.out.cell 2
      have x3 := Hx.out.cell 3
      have xl := Hx.out.lt
      have y0 := Hy.out.cell 0
      have y1 := Hy.out.cell 1
      have y2 := Hy.out.cell 2
      have y3 := Hy.out.cell 3
      have yl := Hy.out.lt
      simp only [List.getElem?_cons_zero, List.getElem?_cons_succ] at a0 a1 a2 a3 b0 b1 b2 b3 x0 x1 x2 x3 y0 y1 y2 y3
      go_wp2_with fail
      have hct := Ints_ct _ _ _ _ _ _ o.add o.add w5 (R2.out.keep Hbl.out) (S2.out.keep Hbl.out)
      rw [show intsB o.add o.add = true by simp [intsB]] at hct
      with_reducible refine hct.mono ?_
      rintro e w6 ⟨rfl, hq⟩
      have hb := hq.below w5.heap.size
      clear hct hq
      clear a0 a1 a2 a3 b0 b1 b2 b3 x0 x1 x2 x3 y0 y1 y2 y3 al bl xl yl
      replace Ha := hide (Ha.out.keep hb)
      replace Hb := hide (Hb.out.keep hb)
      replace Hx := hide (Hx.out.keep hb)
      replace Hy := hide (Hy.out.keep hb)
      replace Hbl := hide (Hbl.out.trans (hb.mono Hbl.out.size))
      replace Hx8 := hide (Hx8.out.trans (hb.mono Hx8.out.size))
      clear hb
      have a0 := Ha.out.cell 0
      have a1 := Ha.out.cell 1
      have a2 := Ha.out.cell 2
      have a3 := Ha.out.cell 3
      have al := Ha.out.lt
      have b0 := Hb.out.cell 0
      have b1 := Hb.out.cell 1
      have b2 := Hb.out.cell 2
      have b3 := Hb.out.cell 3
      have bl := Hb.out.lt
      have x0 := Hx.out.cell 0
      have x1 := Hx.out.cell 1
      have x2 := Hx.out.cell 2
      have x3 := Hx.out.cell 3
      have xl := Hx.out.lt
      have y0 := Hy.out.cell 0
      have y1 := Hy.out.cell 1
      have y2 := Hy.out.cell 2
      have y3 := Hy.out.cell 3
      have yl := Hy.out.lt
      simp only [List.getElem?_cons_zero, List.getElem?_cons_succ] at a0 a1 a2 a3 b0 b1 b2 b3 x0 x1 x2 x3 y0 y1 y2 y3
      go_wp2_with fail
      have hct := Ints_ct _ _ _ _ _ _ o.del o.del w6 (R3_.out.keep Hbl.out) (S3.out.keep Hbl.out)
      rw [show intsB o.del o.del = true by simp [intsB]] at hct
      with_reducible refine hct.mono ?_
      rintro e w7 ⟨rfl, hq⟩
      have hb := hq.below w6.heap.size
      clear hct hq
      clear a0 a1 a2 a3 b0 b1 b2 b3 x0 x1 x2 x3 y0 y1 y2 y3 al bl xl yl
      replace Ha := hide (Ha.out.keep hb)
      replace Hb := hide (Hb.out.keep hb)
      replace Hx := hide (Hx.out.keep hb)
      replace Hy := hide (Hy.out.keep hb)
      replace Hbl := hide (Hbl.out.trans (hb.mono Hbl.out.size))
      replace Hx8 := hide (Hx8.out.trans (hb.mono Hx8.out.size))
      clear hb
      have a0 := Ha.out.cell 0
      have a1 := Ha.out.cell 1
      have a2 := Ha.out.cell 2
      have a3 := Ha.out.cell 3
      have al := Ha.out.lt
      have b0 := Hb.out.cell 0
      have b1 := Hb.out.cell 1
      have b2 := Hb.out.cell 2
      have b3 := Hb.out.cell 3
      have bl := Hb.out.lt
      have x0 := Hx.out.cell 0
      have x1 := Hx.out.cell 1
      have x2 := Hx.out.cell 2
      have x3 := Hx.out.cell 3
      have xl := Hx.out.lt
      have y0 := Hy.out.cell 0
      have y1 := Hy.out.cell 1
      have y2 := Hy.out.cell 2
      have y3 := Hy.out.cell 3
      have yl := Hy.out.lt
      simp only [List.getElem?_cons_zero, List.getElem?_cons_succ] at a0 a1 a2 a3 b0 b1 b2 b3 x0 x1 x2 x3 y0 y1 y2 y3
      go_wp2_with fail
      go_roundw
      case rel => exact ⟨k + 1, by omega, by go_num, (Hr.out.trans (Hx8.out.mono Hr.out.size))⟩
      case measure => simp [intOf]; omega
    · obtain rfl : k = nO := by omega
      go_wp2_with fail
      go_ret
      exact ⟨ret_bool rfl, Hbl.out⟩
end Go.Proofs.Ytnfeknfakkdbhaa
