/- The walk of the law on Combine. -/
import Derived.Test.YtnfeknfakkdbhaaMe
import Derived.Test.YtnfeknfakkdbhaaCv
import Derived.Test.YtnfeknfakkdbhaaSo
import Derived.Test.YtnfeknfakkdbhaaTk6
namespace Go.Proofs.Ytnfeknfakkdbhaa
set_option linter.unusedVariables false
set_option linter.unusedSimpArgs false
open Go.RowKit

theorem RdM.old {w : World} {A : Option Addr} {n c : Nat} {l : List Int} (h : Rd Enc.int w A n c l) : RdM (fun b => w.heap.size ≤ b) w A n c l := fun w' hc => h.keep (hc.below (fun i e => e) (Nat.le_refl _))
theorem sameB_refl (o : Opr) : sameB o o = true := by simp [sameB, intsB]
set_option maxRecDepth 100000 in
set_option maxHeartbeats 6400000 in
theorem combineLawA (a : TA) (T : Tsk) (B : Option Addr) (m d : Nat) (l : List Int) (w : World) (h : TkR w a T) (hl : Rd Enc.int w B m d l) (ec ei : Int) (hec : ec ≠ 0) (htf : taskFault T = (ec, ei)) (hres : combineR T l = (zeroOp, false, ec, ei)) :
    Calls Try.prog 3 #[.agg #[.int .i64 T.facts, .slice a.I a.nI a.cI, .slice a.G a.nG a.cG, .slice a.O a.nO a.cO], .slice B m d] w (Gives w (.bool true)) := by
  obtain ⟨I, nI, cI, G, nG, cG, O, nO, cO⟩ := a
  have H := hide h
  have Hl := hide hl
  have Htf := hide htf
  have HC := Combine_ct ⟨I, nI, cI, G, nG, cG, O, nO, cO⟩ T B m d l
  rw [hres] at HC
  simp only at HC
  replace HC := hide HC
  clear h hl htf hres
  have Hbl := hide (Below.refl w.heap.size w)
  go_enter Try.func3, Try.ntmps3
  go_upto_region 1 with (fail)
  have hyt := Blk.new (w) 25 [.int .i64 T.facts, .slice I nI cI, .slice G nG cG, .slice O nO cO]
  have hbW : Below (w).heap.size (w) ((w).alloc (.cells #[.int .i64 T.facts, .slice I nI cI, .slice G nG cG, .slice O nO cO] 25)) := (Below.refl _ _).alloc (Nat.le_refl _) _
  obtain ⟨w0, hW⟩ : ∃ W, W = (w).alloc (.cells #[.int .i64 T.facts, .slice I nI cI, .slice G nG cG, .slice O nO cO] 25) := ⟨_, rfl⟩
  rw [← hW] at hyt hbW ⊢
  replace Hbl := hide (Hbl.out.trans (hbW.mono Hbl.out.size))
  have Ht := hide hyt
  clear hW hbW hyt
  generalize w.heap.size = gT at Ht ⊢
  have t0 := Ht.out.cell 0
  have t1 := Ht.out.cell 1
  have t2 := Ht.out.cell 2
  have t3 := Ht.out.cell 3
  have tl := Ht.out.lt
  simp only [List.getElem?_cons_zero, List.getElem?_cons_succ] at t0 t1 t2 t3
  go_wp2_with fail
  with_reducible refine (HC.out w0 (H.out.keep Hbl.out) (Hl.out.keep Hbl.out)).mono ?_
  rintro e w1 ⟨hb, v, rfl, A1, n1, c1, A2, n2, c2, A3, n3, c3, rfl, q1, q2, q3⟩
  have Q1 := hide q1
  have Q2 := hide q2
  have Q3 := hide q3
  clear q1 q2 q3
  have hz0 : zeroOp.cost = 0 := rfl
  rw [hz0]
  clear t0 t1 t2 t3 tl
  replace Ht := hide (Ht.out.keep hb)
  replace Hbl := hide (Hbl.out.trans (hb.mono Hbl.out.size))
  clear hb
  unfold fault
  have t0 := Ht.out.cell 0
  have t1 := Ht.out.cell 1
  have t2 := Ht.out.cell 2
  have t3 := Ht.out.cell 3
  have tl := Ht.out.lt
  simp only [List.getElem?_cons_zero, List.getElem?_cons_succ] at t0 t1 t2 t3
  go_upto_region 2 with (fail)
  have hyo := Blk.new (w1) 27 [.slice A1 n1 c1, .slice A2 n2 c2, .slice A3 n3 c3, .int .i64 0]
  have hyf := Blk.new ((w1).alloc (.cells #[.slice A1 n1 c1, .slice A2 n2 c2, .slice A3 n3 c3, .int .i64 0] 27)) 29 [.int .i64 ec, .int .i64 ei]
  replace hyo := hyo.alloc (.cells #[.int .i64 ec, .int .i64 ei] 29)
  have hbW := below_two w1 (.cells #[.slice A1 n1 c1, .slice A2 n2 c2, .slice A3 n3 c3, .int .i64 0] 27) (.cells #[.int .i64 ec, .int .i64 ei] 29)
  simp only [World.size_alloc] at hyf
  obtain ⟨w2, hW⟩ : ∃ W, W = ((w1).alloc (.cells #[.slice A1 n1 c1, .slice A2 n2 c2, .slice A3 n3 c3, .int .i64 0] 27)).alloc (.cells #[.int .i64 ec, .int .i64 ei] 29) := ⟨_, rfl⟩
  rw [← hW] at hyo hyf hbW ⊢
  replace Ht := hide (Ht.out.keep hbW)
  replace Q1 := hide (Q1.out.keep hbW)
  replace Q2 := hide (Q2.out.keep hbW)
  replace Q3 := hide (Q3.out.keep hbW)
  replace Hbl := hide (Hbl.out.trans (hbW.mono Hbl.out.size))
  have Ho := hide hyo
  have Hf := hide hyf
  clear hW hbW hyo hyf
  generalize w1.heap.size = gO at Ho Hf ⊢
  have t0 := Ht.out.cell 0
  have t1 := Ht.out.cell 1
  have t2 := Ht.out.cell 2
  have t3 := Ht.out.cell 3
  have tl := Ht.out.lt
  have o0 := Ho.out.cell 0
  have o1 := Ho.out.cell 1
  have o2 := Ho.out.cell 2
  have o3 := Ho.out.cell 3
  have ol := Ho.out.lt
  have f0 := Hf.out.cell 0
  have f1 := Hf.out.cell 1
  have fl := Hf.out.lt
  simp only [List.getElem?_cons_zero, List.getElem?_cons_succ] at t0 t1 t2 t3 o0 o1 o2 o3 f0 f1
  go_wp2_with fail
  with_reducible refine (macrosExample_ct w2).mono ?_
  rintro e w3 ⟨rfl, hb⟩
  clear t0 t1 t2 t3 o0 o1 o2 o3 f0 f1 tl ol fl
  replace Ht := hide (Ht.out.keep hb)
  replace Ho := hide (Ho.out.keep hb)
  replace Hf := hide (Hf.out.keep hb)
  replace Q1 := hide (Q1.out.keep hb)
  replace Q2 := hide (Q2.out.keep hb)
  replace Q3 := hide (Q3.out.keep hb)
  replace Hbl := hide (Hbl.out.trans (hb.mono Hbl.out.size))
  clear hb
  have t0 := Ht.out.cell 0
  have t1 := Ht.out.cell 1
  have t2 := Ht.out.cell 2
  have t3 := Ht.out.cell 3
  have tl := Ht.out.lt
  have o0 := Ho.out.cell 0
  have o1 := Ho.out.cell 1
  have o2 := Ho.out.cell 2
  have o3 := Ho.out.cell 3
  have ol := Ho.out.lt
  have f0 := Hf.out.cell 0
  have f1 := Hf.out.cell 1
  have fl := Hf.out.lt
  simp only [List.getElem?_cons_zero, List.getElem?_cons_succ] at t0 t1 t2 t3 o0 o1 o2 o3 f0 f1
  go_wp2_with fail
  have htf2 := RTaskFault_ct ⟨I, nI, cI, G, nG, cG, O, nO, cO⟩ T w3 (H.out.keep Hbl.out)
  rw [Htf.out] at htf2
  with_reducible refine (htf2).mono ?_
  rintro e w4 ⟨rfl, hb⟩
  clear t0 t1 t2 t3 o0 o1 o2 o3 f0 f1 tl ol fl
  replace Ht := hide (Ht.out.keep hb)
  replace Ho := hide (Ho.out.keep hb)
  replace Hf := hide (Hf.out.keep hb)
  replace Q1 := hide (Q1.out.keep hb)
  replace Q2 := hide (Q2.out.keep hb)
  replace Q3 := hide (Q3.out.keep hb)
  replace Hbl := hide (Hbl.out.trans (hb.mono Hbl.out.size))
  clear hb
  clear htf2
  unfold fault
  have t0 := Ht.out.cell 0
  have t1 := Ht.out.cell 1
  have t2 := Ht.out.cell 2
  have t3 := Ht.out.cell 3
  have tl := Ht.out.lt
  have o0 := Ho.out.cell 0
  have o1 := Ho.out.cell 1
  have o2 := Ho.out.cell 2
  have o3 := Ho.out.cell 3
  have ol := Ho.out.lt
  have f0 := Hf.out.cell 0
  have f1 := Hf.out.cell 1
  have fl := Hf.out.lt
  simp only [List.getElem?_cons_zero, List.getElem?_cons_succ] at t0 t1 t2 t3 o0 o1 o2 o3 f0 f1
  go_upto_region 5 with (fail)
  replace Q1 := hide (RdM.old Q1.out.rd)
  replace Q2 := hide (RdM.old Q2.out.rd)
  replace Q3 := hide (RdM.old Q3.out.rd)
  have hg1 : gT < w4.heap.size := tl
  have hg2 : gO < w4.heap.size := ol
  have hg3 : gO + 1 < w4.heap.size := fl
  have hg4 : w.heap.size ≤ w4.heap.size := Hbl.out.size
  have hyk := Blk.new (w4) 29 [.int .i64 ec, .int .i64 ei]
  have hbW : Below (w4).heap.size (w4) ((w4).alloc (.cells #[.int .i64 ec, .int .i64 ei] 29)) := (Below.refl _ _).alloc (Nat.le_refl _) _
  obtain ⟨w5, hW⟩ : ∃ W, W = (w4).alloc (.cells #[.int .i64 ec, .int .i64 ei] 29) := ⟨_, rfl⟩
  rw [← hW] at hyk hbW ⊢
  replace Ht := hide (Ht.out.keep hbW)
  replace Ho := hide (Ho.out.keep hbW)
  replace Hf := hide (Hf.out.keep hbW)
  replace Q1 := hide (Q1.out.keep hbW)
  replace Q2 := hide (Q2.out.keep hbW)
  replace Q3 := hide (Q3.out.keep hbW)
  replace Hbl := hide (Hbl.out.trans (hbW.mono Hbl.out.size))
  have Hk := hide hyk
  clear hW hbW hyk
  generalize w4.heap.size = gW at Hk hg1 hg2 hg3 hg4 Q1 Q2 Q3 ⊢
  have t0 := Ht.out.cell 0
  have t1 := Ht.out.cell 1
  have t2 := Ht.out.cell 2
  have t3 := Ht.out.cell 3
  have tl := Ht.out.lt
  have o0 := Ho.out.cell 0
  have o1 := Ho.out.cell 1
  have o2 := Ho.out.cell 2
  have o3 := Ho.out.cell 3
  have ol := Ho.out.lt
  have f0 := Hf.out.cell 0
  have f1 := Hf.out.cell 1
  have fl := Hf.out.lt
  have k0 := Hk.out.cell 0
  have k1 := Hk.out.cell 1
  have kl := Hk.out.lt
  simp only [List.getElem?_cons_zero, List.getElem?_cons_succ] at t0 t1 t2 t3 o0 o1 o2 o3 f0 f1 k0 k1
  have hne : (ec != 0) = true := by simpa using hec
  have hne2 : (ec == 0) = false := by simpa using hec
  go_upto_region 8 with (fail)
  have hk1 : gT < w5.heap.size := tl
  have hk2 : gO < w5.heap.size := ol
  have hk3 : gO + 1 < w5.heap.size := fl
  have hk4 : gW < w5.heap.size := kl
  have hyv := Blk.new (w5) 27 [.slice none 0 0, .slice none 0 0, .slice none 0 0, .int .i64 0]
  have hbW : Below (w5).heap.size (w5) ((w5).alloc (.cells #[.slice none 0 0, .slice none 0 0, .slice none 0 0, .int .i64 0] 27)) := (Below.refl _ _).alloc (Nat.le_refl _) _
  obtain ⟨w8, hW⟩ : ∃ W, W = (w5).alloc (.cells #[.slice none 0 0, .slice none 0 0, .slice none 0 0, .int .i64 0] 27) := ⟨_, rfl⟩
  rw [← hW] at hyv hbW ⊢
  replace Ht := hide (Ht.out.keep hbW)
  replace Ho := hide (Ho.out.keep hbW)
  replace Hf := hide (Hf.out.keep hbW)
  replace Hk := hide (Hk.out.keep hbW)
  replace Q1 := hide (Q1.out.keep hbW)
  replace Q2 := hide (Q2.out.keep hbW)
  replace Q3 := hide (Q3.out.keep hbW)
  replace Hbl := hide (Hbl.out.trans (hbW.mono Hbl.out.size))
  have Hv := hide hyv
  clear hW hbW hyv
  generalize w5.heap.size = gV at Hv hk1 hk2 hk3 hk4 ⊢
  have t0 := Ht.out.cell 0
  have t1 := Ht.out.cell 1
  have t2 := Ht.out.cell 2
  have t3 := Ht.out.cell 3
  have tl := Ht.out.lt
  have o0 := Ho.out.cell 0
  have o1 := Ho.out.cell 1
  have o2 := Ho.out.cell 2
  have o3 := Ho.out.cell 3
  have ol := Ho.out.lt
  have f0 := Hf.out.cell 0
  have f1 := Hf.out.cell 1
  have fl := Hf.out.lt
  have k0 := Hk.out.cell 0
  have k1 := Hk.out.cell 1
  have kl := Hk.out.lt
  have v0 := Hv.out.cell 0
  have v1 := Hv.out.cell 1
  have v2 := Hv.out.cell 2
  have v3 := Hv.out.cell 3
  have vl := Hv.out.lt
  simp only [List.getElem?_cons_zero, List.getElem?_cons_succ] at t0 t1 t2 t3 o0 o1 o2 o3 f0 f1 k0 k1 v0 v1 v2 v3
  go_wp2_with fail
  have hso : Calls Try.prog 21 #[.agg #[.slice A1 n1 c1, .slice A2 n2 c2, .slice A3 n3 c3, .int .i64 0], .agg #[.slice none 0 0, .slice none 0 0, .slice none 0 0, .int .i64 0]] w8 (Gives w8 (.bool true)) :=
    sameOperator_ct A1 A2 A3 none none none n1 c1 n2 c2 n3 c3 0 0 0 0 0 0 zeroOp zeroOp w8 Q1.out.rd Q2.out.rd Q3.out.rd (Rd.nil_ _ _) (Rd.nil_ _ _) (Rd.nil_ _ _) (by unfold zeroOp I64s; simp) (by unfold zeroOp I64s; simp)
  with_reducible refine hso.mono ?_
  rintro e w20 ⟨rfl, hb⟩
  replace Hbl := hide (Hbl.out.trans (hb.mono Hbl.out.size))
  clear hso hb
  go_wp2_with fail
  go_ret
  exact ⟨ret_bool (by simp), Hbl.out⟩
set_option maxRecDepth 100000 in
set_option maxHeartbeats 6400000 in
theorem combineLawB (a : TA) (T : Tsk) (B : Option Addr) (m d : Nat) (l : List Int) (w : World) (h : TkR w a T) (hl : Rd Enc.int w B m d l) (sc si : Int) (hsc : sc ≠ 0) (htf : taskFault T = (0, 0)) (hsq : seqFault T.ops.length l (-8) = (sc, si)) (hres : combineR T l = (zeroOp, false, sc, si)) :
    Calls Try.prog 3 #[.agg #[.int .i64 T.facts, .slice a.I a.nI a.cI, .slice a.G a.nG a.cG, .slice a.O a.nO a.cO], .slice B m d] w (Gives w (.bool true)) := by
  obtain ⟨I, nI, cI, G, nG, cG, O, nO, cO⟩ := a
  have H := hide h
  have Hl := hide hl
  have Htf := hide htf
  have HC := Combine_ct ⟨I, nI, cI, G, nG, cG, O, nO, cO⟩ T B m d l
  rw [hres] at HC
  simp only at HC
  replace HC := hide HC
  clear h hl htf hres
  have Hsq := hide hsq
  clear hsq
  have Hbl := hide (Below.refl w.heap.size w)
  go_enter Try.func3, Try.ntmps3
  go_upto_region 1 with (fail)
  have hyt := Blk.new (w) 25 [.int .i64 T.facts, .slice I nI cI, .slice G nG cG, .slice O nO cO]
  have hbW : Below (w).heap.size (w) ((w).alloc (.cells #[.int .i64 T.facts, .slice I nI cI, .slice G nG cG, .slice O nO cO] 25)) := (Below.refl _ _).alloc (Nat.le_refl _) _
  obtain ⟨w0, hW⟩ : ∃ W, W = (w).alloc (.cells #[.int .i64 T.facts, .slice I nI cI, .slice G nG cG, .slice O nO cO] 25) := ⟨_, rfl⟩
  rw [← hW] at hyt hbW ⊢
  replace Hbl := hide (Hbl.out.trans (hbW.mono Hbl.out.size))
  have Ht := hide hyt
  clear hW hbW hyt
  generalize w.heap.size = gT at Ht ⊢
  have t0 := Ht.out.cell 0
  have t1 := Ht.out.cell 1
  have t2 := Ht.out.cell 2
  have t3 := Ht.out.cell 3
  have tl := Ht.out.lt
  simp only [List.getElem?_cons_zero, List.getElem?_cons_succ] at t0 t1 t2 t3
  go_wp2_with fail
  with_reducible refine (HC.out w0 (H.out.keep Hbl.out) (Hl.out.keep Hbl.out)).mono ?_
  rintro e w1 ⟨hb, v, rfl, A1, n1, c1, A2, n2, c2, A3, n3, c3, rfl, q1, q2, q3⟩
  have Q1 := hide q1
  have Q2 := hide q2
  have Q3 := hide q3
  clear q1 q2 q3
  have hz0 : zeroOp.cost = 0 := rfl
  rw [hz0]
  clear t0 t1 t2 t3 tl
  replace Ht := hide (Ht.out.keep hb)
  replace Hbl := hide (Hbl.out.trans (hb.mono Hbl.out.size))
  clear hb
  unfold fault
  have t0 := Ht.out.cell 0
  have t1 := Ht.out.cell 1
  have t2 := Ht.out.cell 2
  have t3 := Ht.out.cell 3
  have tl := Ht.out.lt
  simp only [List.getElem?_cons_zero, List.getElem?_cons_succ] at t0 t1 t2 t3
  go_upto_region 2 with (fail)
  have hyo := Blk.new (w1) 27 [.slice A1 n1 c1, .slice A2 n2 c2, .slice A3 n3 c3, .int .i64 0]
  have hyf := Blk.new ((w1).alloc (.cells #[.slice A1 n1 c1, .slice A2 n2 c2, .slice A3 n3 c3, .int .i64 0] 27)) 29 [.int .i64 sc, .int .i64 si]
  replace hyo := hyo.alloc (.cells #[.int .i64 sc, .int .i64 si] 29)
  have hbW := below_two w1 (.cells #[.slice A1 n1 c1, .slice A2 n2 c2, .slice A3 n3 c3, .int .i64 0] 27) (.cells #[.int .i64 sc, .int .i64 si] 29)
  simp only [World.size_alloc] at hyf
  obtain ⟨w2, hW⟩ : ∃ W, W = ((w1).alloc (.cells #[.slice A1 n1 c1, .slice A2 n2 c2, .slice A3 n3 c3, .int .i64 0] 27)).alloc (.cells #[.int .i64 sc, .int .i64 si] 29) := ⟨_, rfl⟩
  rw [← hW] at hyo hyf hbW ⊢
  replace Ht := hide (Ht.out.keep hbW)
  replace Q1 := hide (Q1.out.keep hbW)
  replace Q2 := hide (Q2.out.keep hbW)
  replace Q3 := hide (Q3.out.keep hbW)
  replace Hbl := hide (Hbl.out.trans (hbW.mono Hbl.out.size))
  have Ho := hide hyo
  have Hf := hide hyf
  clear hW hbW hyo hyf
  generalize w1.heap.size = gO at Ho Hf ⊢
  have t0 := Ht.out.cell 0
  have t1 := Ht.out.cell 1
  have t2 := Ht.out.cell 2
  have t3 := Ht.out.cell 3
  have tl := Ht.out.lt
  have o0 := Ho.out.cell 0
  have o1 := Ho.out.cell 1
  have o2 := Ho.out.cell 2
  have o3 := Ho.out.cell 3
  have ol := Ho.out.lt
  have f0 := Hf.out.cell 0
  have f1 := Hf.out.cell 1
  have fl := Hf.out.lt
  simp only [List.getElem?_cons_zero, List.getElem?_cons_succ] at t0 t1 t2 t3 o0 o1 o2 o3 f0 f1
  go_wp2_with fail
  with_reducible refine (macrosExample_ct w2).mono ?_
  rintro e w3 ⟨rfl, hb⟩
  clear t0 t1 t2 t3 o0 o1 o2 o3 f0 f1 tl ol fl
  replace Ht := hide (Ht.out.keep hb)
  replace Ho := hide (Ho.out.keep hb)
  replace Hf := hide (Hf.out.keep hb)
  replace Q1 := hide (Q1.out.keep hb)
  replace Q2 := hide (Q2.out.keep hb)
  replace Q3 := hide (Q3.out.keep hb)
  replace Hbl := hide (Hbl.out.trans (hb.mono Hbl.out.size))
  clear hb
  have t0 := Ht.out.cell 0
  have t1 := Ht.out.cell 1
  have t2 := Ht.out.cell 2
  have t3 := Ht.out.cell 3
  have tl := Ht.out.lt
  have o0 := Ho.out.cell 0
  have o1 := Ho.out.cell 1
  have o2 := Ho.out.cell 2
  have o3 := Ho.out.cell 3
  have ol := Ho.out.lt
  have f0 := Hf.out.cell 0
  have f1 := Hf.out.cell 1
  have fl := Hf.out.lt
  simp only [List.getElem?_cons_zero, List.getElem?_cons_succ] at t0 t1 t2 t3 o0 o1 o2 o3 f0 f1
  go_wp2_with fail
  have htf2 := RTaskFault_ct ⟨I, nI, cI, G, nG, cG, O, nO, cO⟩ T w3 (H.out.keep Hbl.out)
  rw [Htf.out] at htf2
  with_reducible refine (htf2).mono ?_
  rintro e w4 ⟨rfl, hb⟩
  clear t0 t1 t2 t3 o0 o1 o2 o3 f0 f1 tl ol fl
  replace Ht := hide (Ht.out.keep hb)
  replace Ho := hide (Ho.out.keep hb)
  replace Hf := hide (Hf.out.keep hb)
  replace Q1 := hide (Q1.out.keep hb)
  replace Q2 := hide (Q2.out.keep hb)
  replace Q3 := hide (Q3.out.keep hb)
  replace Hbl := hide (Hbl.out.trans (hb.mono Hbl.out.size))
  clear hb
  clear htf2
  unfold fault
  have t0 := Ht.out.cell 0
  have t1 := Ht.out.cell 1
  have t2 := Ht.out.cell 2
  have t3 := Ht.out.cell 3
  have tl := Ht.out.lt
  have o0 := Ho.out.cell 0
  have o1 := Ho.out.cell 1
  have o2 := Ho.out.cell 2
  have o3 := Ho.out.cell 3
  have ol := Ho.out.lt
  have f0 := Hf.out.cell 0
  have f1 := Hf.out.cell 1
  have fl := Hf.out.lt
  simp only [List.getElem?_cons_zero, List.getElem?_cons_succ] at t0 t1 t2 t3 o0 o1 o2 o3 f0 f1
  go_upto_region 5 with (fail)
  replace Q1 := hide (RdM.old Q1.out.rd)
  replace Q2 := hide (RdM.old Q2.out.rd)
  replace Q3 := hide (RdM.old Q3.out.rd)
  have hg1 : gT < w4.heap.size := tl
  have hg2 : gO < w4.heap.size := ol
  have hg3 : gO + 1 < w4.heap.size := fl
  have hg4 : w.heap.size ≤ w4.heap.size := Hbl.out.size
  have hyk := Blk.new (w4) 29 [.int .i64 0, .int .i64 0]
  have hbW : Below (w4).heap.size (w4) ((w4).alloc (.cells #[.int .i64 0, .int .i64 0] 29)) := (Below.refl _ _).alloc (Nat.le_refl _) _
  obtain ⟨w5, hW⟩ : ∃ W, W = (w4).alloc (.cells #[.int .i64 0, .int .i64 0] 29) := ⟨_, rfl⟩
  rw [← hW] at hyk hbW ⊢
  replace Ht := hide (Ht.out.keep hbW)
  replace Ho := hide (Ho.out.keep hbW)
  replace Hf := hide (Hf.out.keep hbW)
  replace Q1 := hide (Q1.out.keep hbW)
  replace Q2 := hide (Q2.out.keep hbW)
  replace Q3 := hide (Q3.out.keep hbW)
  replace Hbl := hide (Hbl.out.trans (hbW.mono Hbl.out.size))
  have Hk := hide hyk
  clear hW hbW hyk
  generalize w4.heap.size = gW at Hk hg1 hg2 hg3 hg4 Q1 Q2 Q3 ⊢
  have t0 := Ht.out.cell 0
  have t1 := Ht.out.cell 1
  have t2 := Ht.out.cell 2
  have t3 := Ht.out.cell 3
  have tl := Ht.out.lt
  have o0 := Ho.out.cell 0
  have o1 := Ho.out.cell 1
  have o2 := Ho.out.cell 2
  have o3 := Ho.out.cell 3
  have ol := Ho.out.lt
  have f0 := Hf.out.cell 0
  have f1 := Hf.out.cell 1
  have fl := Hf.out.lt
  have k0 := Hk.out.cell 0
  have k1 := Hk.out.cell 1
  have kl := Hk.out.lt
  simp only [List.getElem?_cons_zero, List.getElem?_cons_succ] at t0 t1 t2 t3 o0 o1 o2 o3 f0 f1 k0 k1
  go_wp2_with fail
  have hsq2 := RMacroFault_ct ⟨I, nI, cI, G, nG, cG, O, nO, cO⟩ T B m d l (-8) w5 (H.out.keep Hbl.out) (Hl.out.keep Hbl.out)
  rw [Hsq.out] at hsq2
  with_reducible refine (hsq2).mono ?_
  rintro e w6 ⟨rfl, hb⟩
  clear t0 t1 t2 t3 o0 o1 o2 o3 f0 f1 k0 k1 tl ol fl kl
  replace Ht := hide (Ht.out.keep hb)
  replace Ho := hide (Ho.out.keep hb)
  replace Hf := hide (Hf.out.keep hb)
  replace Hk := hide (Hk.out.keep hb)
  replace Q1 := hide (Q1.out.keep hb)
  replace Q2 := hide (Q2.out.keep hb)
  replace Q3 := hide (Q3.out.keep hb)
  replace Hbl := hide (Hbl.out.trans (hb.mono Hbl.out.size))
  clear hb
  clear hsq2
  unfold fault
  have t0 := Ht.out.cell 0
  have t1 := Ht.out.cell 1
  have t2 := Ht.out.cell 2
  have t3 := Ht.out.cell 3
  have tl := Ht.out.lt
  have o0 := Ho.out.cell 0
  have o1 := Ho.out.cell 1
  have o2 := Ho.out.cell 2
  have o3 := Ho.out.cell 3
  have ol := Ho.out.lt
  have f0 := Hf.out.cell 0
  have f1 := Hf.out.cell 1
  have fl := Hf.out.lt
  have k0 := Hk.out.cell 0
  have k1 := Hk.out.cell 1
  have kl := Hk.out.lt
  simp only [List.getElem?_cons_zero, List.getElem?_cons_succ] at t0 t1 t2 t3 o0 o1 o2 o3 f0 f1 k0 k1
  have kf0 := Hk.out.frozen 0
  have kf1 := Hk.out.frozen 1
  go_upto_region 7 with (fail)
  clear kf0 kf1
  have hyb := ((Hk.out.set 0 (.int .i64 sc)).set 1 (.int .i64 si))
  simp only [List.set_cons_zero, List.set_cons_succ] at hyb
  have hbW := below_set (below_set (Below.refl gW w6) (g := gW) (by omega) 0 (.int .i64 sc)) (g := gW) (by omega) 1 (.int .i64 si)
  have hcW := ((Chg.refl (fun b => b = gW) w6).trans (Chg.set _ gW 0 (.int .i64 sc))).trans (Chg.set _ gW 1 (.int .i64 si))
  obtain ⟨w7, hW⟩ : ∃ W, W = ((w6).setCell ⟨gW, 0, none⟩ (.int .i64 sc)).setCell ⟨gW, 1, none⟩ (.int .i64 si) := ⟨_, rfl⟩
  rw [← hW] at hyb hbW hcW ⊢
  replace Hk := hide hyb
  clear hW hyb
  clear t0 t1 t2 t3 o0 o1 o2 o3 f0 f1 k0 k1 tl ol fl kl
  replace Ht := hide (Ht.out.below hbW (by omega))
  replace Ho := hide (Ho.out.below hbW (by omega))
  replace Hf := hide (Hf.out.below hbW (by omega))
  replace Hbl := hide (Hbl.out.trans (hbW.mono (by omega)))
  replace Q1 := hide (Q1.out.chg (hcW.mono (fun b e => by omega)))
  replace Q2 := hide (Q2.out.chg (hcW.mono (fun b e => by omega)))
  replace Q3 := hide (Q3.out.chg (hcW.mono (fun b e => by omega)))
  clear hbW hcW
  have t0 := Ht.out.cell 0
  have t1 := Ht.out.cell 1
  have t2 := Ht.out.cell 2
  have t3 := Ht.out.cell 3
  have tl := Ht.out.lt
  have o0 := Ho.out.cell 0
  have o1 := Ho.out.cell 1
  have o2 := Ho.out.cell 2
  have o3 := Ho.out.cell 3
  have ol := Ho.out.lt
  have f0 := Hf.out.cell 0
  have f1 := Hf.out.cell 1
  have fl := Hf.out.lt
  have k0 := Hk.out.cell 0
  have k1 := Hk.out.cell 1
  have kl := Hk.out.lt
  simp only [List.getElem?_cons_zero, List.getElem?_cons_succ] at t0 t1 t2 t3 o0 o1 o2 o3 f0 f1 k0 k1
  have hne : (sc != 0) = true := by simpa using hsc
  have hne2 : (sc == 0) = false := by simpa using hsc
  go_upto_region 8 with (fail)
  have hk1 : gT < w7.heap.size := tl
  have hk2 : gO < w7.heap.size := ol
  have hk3 : gO + 1 < w7.heap.size := fl
  have hk4 : gW < w7.heap.size := kl
  have hyv := Blk.new (w7) 27 [.slice none 0 0, .slice none 0 0, .slice none 0 0, .int .i64 0]
  have hbW : Below (w7).heap.size (w7) ((w7).alloc (.cells #[.slice none 0 0, .slice none 0 0, .slice none 0 0, .int .i64 0] 27)) := (Below.refl _ _).alloc (Nat.le_refl _) _
  obtain ⟨w8, hW⟩ : ∃ W, W = (w7).alloc (.cells #[.slice none 0 0, .slice none 0 0, .slice none 0 0, .int .i64 0] 27) := ⟨_, rfl⟩
  rw [← hW] at hyv hbW ⊢
  replace Ht := hide (Ht.out.keep hbW)
  replace Ho := hide (Ho.out.keep hbW)
  replace Hf := hide (Hf.out.keep hbW)
  replace Hk := hide (Hk.out.keep hbW)
  replace Q1 := hide (Q1.out.keep hbW)
  replace Q2 := hide (Q2.out.keep hbW)
  replace Q3 := hide (Q3.out.keep hbW)
  replace Hbl := hide (Hbl.out.trans (hbW.mono Hbl.out.size))
  have Hv := hide hyv
  clear hW hbW hyv
  generalize w7.heap.size = gV at Hv hk1 hk2 hk3 hk4 ⊢
  have t0 := Ht.out.cell 0
  have t1 := Ht.out.cell 1
  have t2 := Ht.out.cell 2
  have t3 := Ht.out.cell 3
  have tl := Ht.out.lt
  have o0 := Ho.out.cell 0
  have o1 := Ho.out.cell 1
  have o2 := Ho.out.cell 2
  have o3 := Ho.out.cell 3
  have ol := Ho.out.lt
  have f0 := Hf.out.cell 0
  have f1 := Hf.out.cell 1
  have fl := Hf.out.lt
  have k0 := Hk.out.cell 0
  have k1 := Hk.out.cell 1
  have kl := Hk.out.lt
  have v0 := Hv.out.cell 0
  have v1 := Hv.out.cell 1
  have v2 := Hv.out.cell 2
  have v3 := Hv.out.cell 3
  have vl := Hv.out.lt
  simp only [List.getElem?_cons_zero, List.getElem?_cons_succ] at t0 t1 t2 t3 o0 o1 o2 o3 f0 f1 k0 k1 v0 v1 v2 v3
  go_wp2_with fail
  have hso : Calls Try.prog 21 #[.agg #[.slice A1 n1 c1, .slice A2 n2 c2, .slice A3 n3 c3, .int .i64 0], .agg #[.slice none 0 0, .slice none 0 0, .slice none 0 0, .int .i64 0]] w8 (Gives w8 (.bool true)) :=
    sameOperator_ct A1 A2 A3 none none none n1 c1 n2 c2 n3 c3 0 0 0 0 0 0 zeroOp zeroOp w8 Q1.out.rd Q2.out.rd Q3.out.rd (Rd.nil_ _ _) (Rd.nil_ _ _) (Rd.nil_ _ _) (by unfold zeroOp I64s; simp) (by unfold zeroOp I64s; simp)
  with_reducible refine hso.mono ?_
  rintro e w20 ⟨rfl, hb⟩
  replace Hbl := hide (Hbl.out.trans (hb.mono Hbl.out.size))
  clear hso hb
  go_wp2_with fail
  go_ret
  exact ⟨ret_bool (by simp), Hbl.out⟩
set_option maxRecDepth 100000 in
set_option maxHeartbeats 6400000 in
theorem combineLawC (a : TA) (T : Tsk) (B : Option Addr) (m d : Nat) (l : List Int) (w : World) (h : TkR w a T) (hl : Rd Enc.int w B m d l) (N : Nat) (hok : OkT T N) (hr : ∀ x ∈ l, 0 ≤ x ∧ x < T.ops.length) (hm : m ≤ 6) (htf : taskFault T = (0, 0)) (hsq : seqFault T.ops.length l (-8) = (0, 0)) (hcf : combF zeroOp (l.map (opAt T.ops)) = none) (hres : combineR T l = (zeroOp, false, 0, 0)) :
    Calls Try.prog 3 #[.agg #[.int .i64 T.facts, .slice a.I a.nI a.cI, .slice a.G a.nG a.cG, .slice a.O a.nO a.cO], .slice B m d] w (Gives w (.bool true)) := by
  obtain ⟨I, nI, cI, G, nG, cG, O, nO, cO⟩ := a
  have H := hide h
  have Hl := hide hl
  have Htf := hide htf
  have HC := Combine_ct ⟨I, nI, cI, G, nG, cG, O, nO, cO⟩ T B m d l
  rw [hres] at HC
  simp only at HC
  replace HC := hide HC
  clear h hl htf hres
  have Hsq := hide hsq
  clear hsq
  have Hok := hide hok
  have Hr := hide hr
  have Hm := hide hm
  have Hcf := hide hcf
  clear hok hr hm hcf
  have Hbl := hide (Below.refl w.heap.size w)
  go_enter Try.func3, Try.ntmps3
  go_upto_region 1 with (fail)
  have hyt := Blk.new (w) 25 [.int .i64 T.facts, .slice I nI cI, .slice G nG cG, .slice O nO cO]
  have hbW : Below (w).heap.size (w) ((w).alloc (.cells #[.int .i64 T.facts, .slice I nI cI, .slice G nG cG, .slice O nO cO] 25)) := (Below.refl _ _).alloc (Nat.le_refl _) _
  obtain ⟨w0, hW⟩ : ∃ W, W = (w).alloc (.cells #[.int .i64 T.facts, .slice I nI cI, .slice G nG cG, .slice O nO cO] 25) := ⟨_, rfl⟩
  rw [← hW] at hyt hbW ⊢
  replace Hbl := hide (Hbl.out.trans (hbW.mono Hbl.out.size))
  have Ht := hide hyt
  clear hW hbW hyt
  generalize w.heap.size = gT at Ht ⊢
  have t0 := Ht.out.cell 0
  have t1 := Ht.out.cell 1
  have t2 := Ht.out.cell 2
  have t3 := Ht.out.cell 3
  have tl := Ht.out.lt
  simp only [List.getElem?_cons_zero, List.getElem?_cons_succ] at t0 t1 t2 t3
  go_wp2_with fail
  with_reducible refine (HC.out w0 (H.out.keep Hbl.out) (Hl.out.keep Hbl.out)).mono ?_
  rintro e w1 ⟨hb, v, rfl, A1, n1, c1, A2, n2, c2, A3, n3, c3, rfl, q1, q2, q3⟩
  have Q1 := hide q1
  have Q2 := hide q2
  have Q3 := hide q3
  clear q1 q2 q3
  have hz0 : zeroOp.cost = 0 := rfl
  rw [hz0]
  clear t0 t1 t2 t3 tl
  replace Ht := hide (Ht.out.keep hb)
  replace Hbl := hide (Hbl.out.trans (hb.mono Hbl.out.size))
  clear hb
  unfold fault
  have t0 := Ht.out.cell 0
  have t1 := Ht.out.cell 1
  have t2 := Ht.out.cell 2
  have t3 := Ht.out.cell 3
  have tl := Ht.out.lt
  simp only [List.getElem?_cons_zero, List.getElem?_cons_succ] at t0 t1 t2 t3
  go_upto_region 2 with (fail)
  have hyo := Blk.new (w1) 27 [.slice A1 n1 c1, .slice A2 n2 c2, .slice A3 n3 c3, .int .i64 0]
  have hyf := Blk.new ((w1).alloc (.cells #[.slice A1 n1 c1, .slice A2 n2 c2, .slice A3 n3 c3, .int .i64 0] 27)) 29 [.int .i64 0, .int .i64 0]
  replace hyo := hyo.alloc (.cells #[.int .i64 0, .int .i64 0] 29)
  have hbW := below_two w1 (.cells #[.slice A1 n1 c1, .slice A2 n2 c2, .slice A3 n3 c3, .int .i64 0] 27) (.cells #[.int .i64 0, .int .i64 0] 29)
  simp only [World.size_alloc] at hyf
  obtain ⟨w2, hW⟩ : ∃ W, W = ((w1).alloc (.cells #[.slice A1 n1 c1, .slice A2 n2 c2, .slice A3 n3 c3, .int .i64 0] 27)).alloc (.cells #[.int .i64 0, .int .i64 0] 29) := ⟨_, rfl⟩
  rw [← hW] at hyo hyf hbW ⊢
  replace Ht := hide (Ht.out.keep hbW)
  replace Q1 := hide (Q1.out.keep hbW)
  replace Q2 := hide (Q2.out.keep hbW)
  replace Q3 := hide (Q3.out.keep hbW)
  replace Hbl := hide (Hbl.out.trans (hbW.mono Hbl.out.size))
  have Ho := hide hyo
  have Hf := hide hyf
  clear hW hbW hyo hyf
  generalize w1.heap.size = gO at Ho Hf ⊢
  have t0 := Ht.out.cell 0
  have t1 := Ht.out.cell 1
  have t2 := Ht.out.cell 2
  have t3 := Ht.out.cell 3
  have tl := Ht.out.lt
  have o0 := Ho.out.cell 0
  have o1 := Ho.out.cell 1
  have o2 := Ho.out.cell 2
  have o3 := Ho.out.cell 3
  have ol := Ho.out.lt
  have f0 := Hf.out.cell 0
  have f1 := Hf.out.cell 1
  have fl := Hf.out.lt
  simp only [List.getElem?_cons_zero, List.getElem?_cons_succ] at t0 t1 t2 t3 o0 o1 o2 o3 f0 f1
  go_wp2_with fail
  with_reducible refine (macrosExample_ct w2).mono ?_
  rintro e w3 ⟨rfl, hb⟩
  clear t0 t1 t2 t3 o0 o1 o2 o3 f0 f1 tl ol fl
  replace Ht := hide (Ht.out.keep hb)
  replace Ho := hide (Ho.out.keep hb)
  replace Hf := hide (Hf.out.keep hb)
  replace Q1 := hide (Q1.out.keep hb)
  replace Q2 := hide (Q2.out.keep hb)
  replace Q3 := hide (Q3.out.keep hb)
  replace Hbl := hide (Hbl.out.trans (hb.mono Hbl.out.size))
  clear hb
  have t0 := Ht.out.cell 0
  have t1 := Ht.out.cell 1
  have t2 := Ht.out.cell 2
  have t3 := Ht.out.cell 3
  have tl := Ht.out.lt
  have o0 := Ho.out.cell 0
  have o1 := Ho.out.cell 1
  have o2 := Ho.out.cell 2
  have o3 := Ho.out.cell 3
  have ol := Ho.out.lt
  have f0 := Hf.out.cell 0
  have f1 := Hf.out.cell 1
  have fl := Hf.out.lt
  simp only [List.getElem?_cons_zero, List.getElem?_cons_succ] at t0 t1 t2 t3 o0 o1 o2 o3 f0 f1
  go_wp2_with fail
  have htf2 := RTaskFault_ct ⟨I, nI, cI, G, nG, cG, O, nO, cO⟩ T w3 (H.out.keep Hbl.out)
  rw [Htf.out] at htf2
  with_reducible refine (htf2).mono ?_
  rintro e w4 ⟨rfl, hb⟩
  clear t0 t1 t2 t3 o0 o1 o2 o3 f0 f1 tl ol fl
  replace Ht := hide (Ht.out.keep hb)
  replace Ho := hide (Ho.out.keep hb)
  replace Hf := hide (Hf.out.keep hb)
  replace Q1 := hide (Q1.out.keep hb)
  replace Q2 := hide (Q2.out.keep hb)
  replace Q3 := hide (Q3.out.keep hb)
  replace Hbl := hide (Hbl.out.trans (hb.mono Hbl.out.size))
  clear hb
  clear htf2
  unfold fault
  have t0 := Ht.out.cell 0
  have t1 := Ht.out.cell 1
  have t2 := Ht.out.cell 2
  have t3 := Ht.out.cell 3
  have tl := Ht.out.lt
  have o0 := Ho.out.cell 0
  have o1 := Ho.out.cell 1
  have o2 := Ho.out.cell 2
  have o3 := Ho.out.cell 3
  have ol := Ho.out.lt
  have f0 := Hf.out.cell 0
  have f1 := Hf.out.cell 1
  have fl := Hf.out.lt
  simp only [List.getElem?_cons_zero, List.getElem?_cons_succ] at t0 t1 t2 t3 o0 o1 o2 o3 f0 f1
  go_upto_region 5 with (fail)
  replace Q1 := hide (RdM.old Q1.out.rd)
  replace Q2 := hide (RdM.old Q2.out.rd)
  replace Q3 := hide (RdM.old Q3.out.rd)
  have hg1 : gT < w4.heap.size := tl
  have hg2 : gO < w4.heap.size := ol
  have hg3 : gO + 1 < w4.heap.size := fl
  have hg4 : w.heap.size ≤ w4.heap.size := Hbl.out.size
  have hyk := Blk.new (w4) 29 [.int .i64 0, .int .i64 0]
  have hbW : Below (w4).heap.size (w4) ((w4).alloc (.cells #[.int .i64 0, .int .i64 0] 29)) := (Below.refl _ _).alloc (Nat.le_refl _) _
  obtain ⟨w5, hW⟩ : ∃ W, W = (w4).alloc (.cells #[.int .i64 0, .int .i64 0] 29) := ⟨_, rfl⟩
  rw [← hW] at hyk hbW ⊢
  replace Ht := hide (Ht.out.keep hbW)
  replace Ho := hide (Ho.out.keep hbW)
  replace Hf := hide (Hf.out.keep hbW)
  replace Q1 := hide (Q1.out.keep hbW)
  replace Q2 := hide (Q2.out.keep hbW)
  replace Q3 := hide (Q3.out.keep hbW)
  replace Hbl := hide (Hbl.out.trans (hbW.mono Hbl.out.size))
  have Hk := hide hyk
  clear hW hbW hyk
  generalize w4.heap.size = gW at Hk hg1 hg2 hg3 hg4 Q1 Q2 Q3 ⊢
  have t0 := Ht.out.cell 0
  have t1 := Ht.out.cell 1
  have t2 := Ht.out.cell 2
  have t3 := Ht.out.cell 3
  have tl := Ht.out.lt
  have o0 := Ho.out.cell 0
  have o1 := Ho.out.cell 1
  have o2 := Ho.out.cell 2
  have o3 := Ho.out.cell 3
  have ol := Ho.out.lt
  have f0 := Hf.out.cell 0
  have f1 := Hf.out.cell 1
  have fl := Hf.out.lt
  have k0 := Hk.out.cell 0
  have k1 := Hk.out.cell 1
  have kl := Hk.out.lt
  simp only [List.getElem?_cons_zero, List.getElem?_cons_succ] at t0 t1 t2 t3 o0 o1 o2 o3 f0 f1 k0 k1
  go_wp2_with fail
  have hsq2 := RMacroFault_ct ⟨I, nI, cI, G, nG, cG, O, nO, cO⟩ T B m d l (-8) w5 (H.out.keep Hbl.out) (Hl.out.keep Hbl.out)
  rw [Hsq.out] at hsq2
  with_reducible refine (hsq2).mono ?_
  rintro e w6 ⟨rfl, hb⟩
  clear t0 t1 t2 t3 o0 o1 o2 o3 f0 f1 k0 k1 tl ol fl kl
  replace Ht := hide (Ht.out.keep hb)
  replace Ho := hide (Ho.out.keep hb)
  replace Hf := hide (Hf.out.keep hb)
  replace Hk := hide (Hk.out.keep hb)
  replace Q1 := hide (Q1.out.keep hb)
  replace Q2 := hide (Q2.out.keep hb)
  replace Q3 := hide (Q3.out.keep hb)
  replace Hbl := hide (Hbl.out.trans (hb.mono Hbl.out.size))
  clear hb
  clear hsq2
  unfold fault
  have t0 := Ht.out.cell 0
  have t1 := Ht.out.cell 1
  have t2 := Ht.out.cell 2
  have t3 := Ht.out.cell 3
  have tl := Ht.out.lt
  have o0 := Ho.out.cell 0
  have o1 := Ho.out.cell 1
  have o2 := Ho.out.cell 2
  have o3 := Ho.out.cell 3
  have ol := Ho.out.lt
  have f0 := Hf.out.cell 0
  have f1 := Hf.out.cell 1
  have fl := Hf.out.lt
  have k0 := Hk.out.cell 0
  have k1 := Hk.out.cell 1
  have kl := Hk.out.lt
  simp only [List.getElem?_cons_zero, List.getElem?_cons_succ] at t0 t1 t2 t3 o0 o1 o2 o3 f0 f1 k0 k1
  have kf0 := Hk.out.frozen 0
  have kf1 := Hk.out.frozen 1
  go_upto_region 7 with (fail)
  clear kf0 kf1
  have hyb := ((Hk.out.set 0 (.int .i64 0)).set 1 (.int .i64 0))
  simp only [List.set_cons_zero, List.set_cons_succ] at hyb
  have hbW := below_set (below_set (Below.refl gW w6) (g := gW) (by omega) 0 (.int .i64 0)) (g := gW) (by omega) 1 (.int .i64 0)
  have hcW := ((Chg.refl (fun b => b = gW) w6).trans (Chg.set _ gW 0 (.int .i64 0))).trans (Chg.set _ gW 1 (.int .i64 0))
  obtain ⟨w7, hW⟩ : ∃ W, W = ((w6).setCell ⟨gW, 0, none⟩ (.int .i64 0)).setCell ⟨gW, 1, none⟩ (.int .i64 0) := ⟨_, rfl⟩
  rw [← hW] at hyb hbW hcW ⊢
  replace Hk := hide hyb
  clear hW hyb
  clear t0 t1 t2 t3 o0 o1 o2 o3 f0 f1 k0 k1 tl ol fl kl
  replace Ht := hide (Ht.out.below hbW (by omega))
  replace Ho := hide (Ho.out.below hbW (by omega))
  replace Hf := hide (Hf.out.below hbW (by omega))
  replace Hbl := hide (Hbl.out.trans (hbW.mono (by omega)))
  replace Q1 := hide (Q1.out.chg (hcW.mono (fun b e => by omega)))
  replace Q2 := hide (Q2.out.chg (hcW.mono (fun b e => by omega)))
  replace Q3 := hide (Q3.out.chg (hcW.mono (fun b e => by omega)))
  clear hbW hcW
  have t0 := Ht.out.cell 0
  have t1 := Ht.out.cell 1
  have t2 := Ht.out.cell 2
  have t3 := Ht.out.cell 3
  have tl := Ht.out.lt
  have o0 := Ho.out.cell 0
  have o1 := Ho.out.cell 1
  have o2 := Ho.out.cell 2
  have o3 := Ho.out.cell 3
  have ol := Ho.out.lt
  have f0 := Hf.out.cell 0
  have f1 := Hf.out.cell 1
  have fl := Hf.out.lt
  have k0 := Hk.out.cell 0
  have k1 := Hk.out.cell 1
  have kl := Hk.out.lt
  simp only [List.getElem?_cons_zero, List.getElem?_cons_succ] at t0 t1 t2 t3 o0 o1 o2 o3 f0 f1 k0 k1
  go_upto_region 8 with (fail)
  have hk1 : gT < w7.heap.size := tl
  have hk2 : gO < w7.heap.size := ol
  have hk3 : gO + 1 < w7.heap.size := fl
  have hk4 : gW < w7.heap.size := kl
  have hyv := Blk.new (w7) 27 [.slice none 0 0, .slice none 0 0, .slice none 0 0, .int .i64 0]
  have hbW : Below (w7).heap.size (w7) ((w7).alloc (.cells #[.slice none 0 0, .slice none 0 0, .slice none 0 0, .int .i64 0] 27)) := (Below.refl _ _).alloc (Nat.le_refl _) _
  obtain ⟨w8, hW⟩ : ∃ W, W = (w7).alloc (.cells #[.slice none 0 0, .slice none 0 0, .slice none 0 0, .int .i64 0] 27) := ⟨_, rfl⟩
  rw [← hW] at hyv hbW ⊢
  replace Ht := hide (Ht.out.keep hbW)
  replace Ho := hide (Ho.out.keep hbW)
  replace Hf := hide (Hf.out.keep hbW)
  replace Hk := hide (Hk.out.keep hbW)
  replace Q1 := hide (Q1.out.keep hbW)
  replace Q2 := hide (Q2.out.keep hbW)
  replace Q3 := hide (Q3.out.keep hbW)
  replace Hbl := hide (Hbl.out.trans (hbW.mono Hbl.out.size))
  have Hv := hide hyv
  clear hW hbW hyv
  generalize w7.heap.size = gV at Hv hk1 hk2 hk3 hk4 ⊢
  have t0 := Ht.out.cell 0
  have t1 := Ht.out.cell 1
  have t2 := Ht.out.cell 2
  have t3 := Ht.out.cell 3
  have tl := Ht.out.lt
  have o0 := Ho.out.cell 0
  have o1 := Ho.out.cell 1
  have o2 := Ho.out.cell 2
  have o3 := Ho.out.cell 3
  have ol := Ho.out.lt
  have f0 := Hf.out.cell 0
  have f1 := Hf.out.cell 1
  have fl := Hf.out.lt
  have k0 := Hk.out.cell 0
  have k1 := Hk.out.cell 1
  have kl := Hk.out.lt
  have v0 := Hv.out.cell 0
  have v1 := Hv.out.cell 1
  have v2 := Hv.out.cell 2
  have v3 := Hv.out.cell 3
  have vl := Hv.out.lt
  simp only [List.getElem?_cons_zero, List.getElem?_cons_succ] at t0 t1 t2 t3 o0 o1 o2 o3 f0 f1 k0 k1 v0 v1 v2 v3
  have hcm := Combined_ct ⟨I, nI, cI, G, nG, cG, O, nO, cO⟩ T N B m d l w8 (H.out.keep Hbl.out) Hok.out (Hl.out.keep Hbl.out) Hm.out Hr.out
  rw [Hcf.out] at hcm
  go_wp2_with fail
  with_reducible refine hcm.mono ?_
  rintro e w9 ⟨hb, ⟨_, rfl⟩ | ⟨o, C1, x1, y1, C2, x2, y2, C3, x3, y3, hno, rfl, z1, z2, z3, z4⟩⟩
  rotate_left
  · cases hno
  clear t0 t1 t2 t3 o0 o1 o2 o3 f0 f1 k0 k1 v0 v1 v2 v3 tl ol fl kl vl
  replace Ht := hide (Ht.out.keep hb)
  replace Ho := hide (Ho.out.keep hb)
  replace Hf := hide (Hf.out.keep hb)
  replace Hk := hide (Hk.out.keep hb)
  replace Hv := hide (Hv.out.keep hb)
  replace Q1 := hide (Q1.out.keep hb)
  replace Q2 := hide (Q2.out.keep hb)
  replace Q3 := hide (Q3.out.keep hb)
  replace Hbl := hide (Hbl.out.trans (hb.mono Hbl.out.size))
  clear hb hcm
  have t0 := Ht.out.cell 0
  have t1 := Ht.out.cell 1
  have t2 := Ht.out.cell 2
  have t3 := Ht.out.cell 3
  have tl := Ht.out.lt
  have o0 := Ho.out.cell 0
  have o1 := Ho.out.cell 1
  have o2 := Ho.out.cell 2
  have o3 := Ho.out.cell 3
  have ol := Ho.out.lt
  have f0 := Hf.out.cell 0
  have f1 := Hf.out.cell 1
  have fl := Hf.out.lt
  have k0 := Hk.out.cell 0
  have k1 := Hk.out.cell 1
  have kl := Hk.out.lt
  have v0 := Hv.out.cell 0
  have v1 := Hv.out.cell 1
  have v2 := Hv.out.cell 2
  have v3 := Hv.out.cell 3
  have vl := Hv.out.lt
  simp only [List.getElem?_cons_zero, List.getElem?_cons_succ] at t0 t1 t2 t3 o0 o1 o2 o3 f0 f1 k0 k1 v0 v1 v2 v3
  have vf0 := Hv.out.frozen 0
  have vf1 := Hv.out.frozen 1
  have vf2 := Hv.out.frozen 2
  have vf3 := Hv.out.frozen 3
  go_upto_region 10 with (fail)
  clear vf0 vf1 vf2 vf3
  have hyb := ((((Hv.out.set 0 (.slice none 0 0)).set 1 (.slice none 0 0)).set 2 (.slice none 0 0)).set 3 (.int .i64 0))
  simp only [List.set_cons_zero, List.set_cons_succ] at hyb
  have hbW := below_set (below_set (below_set (below_set (Below.refl gV w9) (g := gV) (by omega) 0 (.slice none 0 0)) (g := gV) (by omega) 1 (.slice none 0 0)) (g := gV) (by omega) 2 (.slice none 0 0)) (g := gV) (by omega) 3 (.int .i64 0)
  have hcW := ((((Chg.refl (fun b => b = gV) w9).trans (Chg.set _ gV 0 (.slice none 0 0))).trans (Chg.set _ gV 1 (.slice none 0 0))).trans (Chg.set _ gV 2 (.slice none 0 0))).trans (Chg.set _ gV 3 (.int .i64 0))
  obtain ⟨w10, hW⟩ : ∃ W, W = ((((w9).setCell ⟨gV, 0, none⟩ (.slice none 0 0)).setCell ⟨gV, 1, none⟩ (.slice none 0 0)).setCell ⟨gV, 2, none⟩ (.slice none 0 0)).setCell ⟨gV, 3, none⟩ (.int .i64 0) := ⟨_, rfl⟩
  rw [← hW] at hyb hbW hcW ⊢
  replace Hv := hide hyb
  clear hW hyb
  clear t0 t1 t2 t3 o0 o1 o2 o3 f0 f1 k0 k1 v0 v1 v2 v3 tl ol fl kl vl
  replace Ht := hide (Ht.out.below hbW (by omega))
  replace Ho := hide (Ho.out.below hbW (by omega))
  replace Hf := hide (Hf.out.below hbW (by omega))
  replace Hk := hide (Hk.out.below hbW (by omega))
  replace Hbl := hide (Hbl.out.trans (hbW.mono (by omega)))
  replace Q1 := hide (Q1.out.chg (hcW.mono (fun b e => by omega)))
  replace Q2 := hide (Q2.out.chg (hcW.mono (fun b e => by omega)))
  replace Q3 := hide (Q3.out.chg (hcW.mono (fun b e => by omega)))
  clear hbW hcW
  have t0 := Ht.out.cell 0
  have t1 := Ht.out.cell 1
  have t2 := Ht.out.cell 2
  have t3 := Ht.out.cell 3
  have tl := Ht.out.lt
  have o0 := Ho.out.cell 0
  have o1 := Ho.out.cell 1
  have o2 := Ho.out.cell 2
  have o3 := Ho.out.cell 3
  have ol := Ho.out.lt
  have f0 := Hf.out.cell 0
  have f1 := Hf.out.cell 1
  have fl := Hf.out.lt
  have k0 := Hk.out.cell 0
  have k1 := Hk.out.cell 1
  have kl := Hk.out.lt
  have v0 := Hv.out.cell 0
  have v1 := Hv.out.cell 1
  have v2 := Hv.out.cell 2
  have v3 := Hv.out.cell 3
  have vl := Hv.out.lt
  simp only [List.getElem?_cons_zero, List.getElem?_cons_succ] at t0 t1 t2 t3 o0 o1 o2 o3 f0 f1 k0 k1 v0 v1 v2 v3
  go_wp2_with fail
  have hso : Calls Try.prog 21 #[.agg #[.slice A1 n1 c1, .slice A2 n2 c2, .slice A3 n3 c3, .int .i64 0], .agg #[.slice none 0 0, .slice none 0 0, .slice none 0 0, .int .i64 0]] w10 (Gives w10 (.bool true)) :=
    sameOperator_ct A1 A2 A3 none none none n1 c1 n2 c2 n3 c3 0 0 0 0 0 0 zeroOp zeroOp w10 Q1.out.rd Q2.out.rd Q3.out.rd (Rd.nil_ _ _) (Rd.nil_ _ _) (Rd.nil_ _ _) (by unfold zeroOp I64s; simp) (by unfold zeroOp I64s; simp)
  with_reducible refine hso.mono ?_
  rintro e w20 ⟨rfl, hb⟩
  replace Hbl := hide (Hbl.out.trans (hb.mono Hbl.out.size))
  clear hso hb
  go_wp2_with fail
  go_ret
  exact ⟨ret_bool (by simp), Hbl.out⟩
set_option maxRecDepth 100000 in
set_option maxHeartbeats 6400000 in
theorem combineLawD (a : TA) (T : Tsk) (B : Option Addr) (m d : Nat) (l : List Int) (w : World) (h : TkR w a T) (hl : Rd Enc.int w B m d l) (N : Nat) (hok : OkT T N) (hr : ∀ x ∈ l, 0 ≤ x ∧ x < T.ops.length) (hm : m ≤ 6) (o : Opr) (hoc : 100 < o.cost) (hi64 : I64s o.cost) (htf : taskFault T = (0, 0)) (hsq : seqFault T.ops.length l (-8) = (0, 0)) (hcf : combF zeroOp (l.map (opAt T.ops)) = some o) (hres : combineR T l = (zeroOp, false, 10, -9)) :
    Calls Try.prog 3 #[.agg #[.int .i64 T.facts, .slice a.I a.nI a.cI, .slice a.G a.nG a.cG, .slice a.O a.nO a.cO], .slice B m d] w (Gives w (.bool true)) := by
  obtain ⟨I, nI, cI, G, nG, cG, O, nO, cO⟩ := a
  have H := hide h
  have Hl := hide hl
  have Htf := hide htf
  have HC := Combine_ct ⟨I, nI, cI, G, nG, cG, O, nO, cO⟩ T B m d l
  rw [hres] at HC
  simp only at HC
  replace HC := hide HC
  clear h hl htf hres
  have Hsq := hide hsq
  clear hsq
  have Hok := hide hok
  have Hr := hide hr
  have Hm := hide hm
  have Hcf := hide hcf
  clear hok hr hm hcf
  have Hi64 := hide hi64
  clear hi64
  have Hbl := hide (Below.refl w.heap.size w)
  go_enter Try.func3, Try.ntmps3
  go_upto_region 1 with (fail)
  have hyt := Blk.new (w) 25 [.int .i64 T.facts, .slice I nI cI, .slice G nG cG, .slice O nO cO]
  have hbW : Below (w).heap.size (w) ((w).alloc (.cells #[.int .i64 T.facts, .slice I nI cI, .slice G nG cG, .slice O nO cO] 25)) := (Below.refl _ _).alloc (Nat.le_refl _) _
  obtain ⟨w0, hW⟩ : ∃ W, W = (w).alloc (.cells #[.int .i64 T.facts, .slice I nI cI, .slice G nG cG, .slice O nO cO] 25) := ⟨_, rfl⟩
  rw [← hW] at hyt hbW ⊢
  replace Hbl := hide (Hbl.out.trans (hbW.mono Hbl.out.size))
  have Ht := hide hyt
  clear hW hbW hyt
  generalize w.heap.size = gT at Ht ⊢
  have t0 := Ht.out.cell 0
  have t1 := Ht.out.cell 1
  have t2 := Ht.out.cell 2
  have t3 := Ht.out.cell 3
  have tl := Ht.out.lt
  simp only [List.getElem?_cons_zero, List.getElem?_cons_succ] at t0 t1 t2 t3
  go_wp2_with fail
  with_reducible refine (HC.out w0 (H.out.keep Hbl.out) (Hl.out.keep Hbl.out)).mono ?_
  rintro e w1 ⟨hb, v, rfl, A1, n1, c1, A2, n2, c2, A3, n3, c3, rfl, q1, q2, q3⟩
  have Q1 := hide q1
  have Q2 := hide q2
  have Q3 := hide q3
  clear q1 q2 q3
  have hz0 : zeroOp.cost = 0 := rfl
  rw [hz0]
  clear t0 t1 t2 t3 tl
  replace Ht := hide (Ht.out.keep hb)
  replace Hbl := hide (Hbl.out.trans (hb.mono Hbl.out.size))
  clear hb
  unfold fault
  have t0 := Ht.out.cell 0
  have t1 := Ht.out.cell 1
  have t2 := Ht.out.cell 2
  have t3 := Ht.out.cell 3
  have tl := Ht.out.lt
  simp only [List.getElem?_cons_zero, List.getElem?_cons_succ] at t0 t1 t2 t3
  go_upto_region 2 with (fail)
  have hyo := Blk.new (w1) 27 [.slice A1 n1 c1, .slice A2 n2 c2, .slice A3 n3 c3, .int .i64 0]
  have hyf := Blk.new ((w1).alloc (.cells #[.slice A1 n1 c1, .slice A2 n2 c2, .slice A3 n3 c3, .int .i64 0] 27)) 29 [.int .i64 10, .int .i64 (-9)]
  replace hyo := hyo.alloc (.cells #[.int .i64 10, .int .i64 (-9)] 29)
  have hbW := below_two w1 (.cells #[.slice A1 n1 c1, .slice A2 n2 c2, .slice A3 n3 c3, .int .i64 0] 27) (.cells #[.int .i64 10, .int .i64 (-9)] 29)
  simp only [World.size_alloc] at hyf
  obtain ⟨w2, hW⟩ : ∃ W, W = ((w1).alloc (.cells #[.slice A1 n1 c1, .slice A2 n2 c2, .slice A3 n3 c3, .int .i64 0] 27)).alloc (.cells #[.int .i64 10, .int .i64 (-9)] 29) := ⟨_, rfl⟩
  rw [← hW] at hyo hyf hbW ⊢
  replace Ht := hide (Ht.out.keep hbW)
  replace Q1 := hide (Q1.out.keep hbW)
  replace Q2 := hide (Q2.out.keep hbW)
  replace Q3 := hide (Q3.out.keep hbW)
  replace Hbl := hide (Hbl.out.trans (hbW.mono Hbl.out.size))
  have Ho := hide hyo
  have Hf := hide hyf
  clear hW hbW hyo hyf
  generalize w1.heap.size = gO at Ho Hf ⊢
  have t0 := Ht.out.cell 0
  have t1 := Ht.out.cell 1
  have t2 := Ht.out.cell 2
  have t3 := Ht.out.cell 3
  have tl := Ht.out.lt
  have o0 := Ho.out.cell 0
  have o1 := Ho.out.cell 1
  have o2 := Ho.out.cell 2
  have o3 := Ho.out.cell 3
  have ol := Ho.out.lt
  have f0 := Hf.out.cell 0
  have f1 := Hf.out.cell 1
  have fl := Hf.out.lt
  simp only [List.getElem?_cons_zero, List.getElem?_cons_succ] at t0 t1 t2 t3 o0 o1 o2 o3 f0 f1
  go_wp2_with fail
  with_reducible refine (macrosExample_ct w2).mono ?_
  rintro e w3 ⟨rfl, hb⟩
  clear t0 t1 t2 t3 o0 o1 o2 o3 f0 f1 tl ol fl
  replace Ht := hide (Ht.out.keep hb)
  replace Ho := hide (Ho.out.keep hb)
  replace Hf := hide (Hf.out.keep hb)
  replace Q1 := hide (Q1.out.keep hb)
  replace Q2 := hide (Q2.out.keep hb)
  replace Q3 := hide (Q3.out.keep hb)
  replace Hbl := hide (Hbl.out.trans (hb.mono Hbl.out.size))
  clear hb
  have t0 := Ht.out.cell 0
  have t1 := Ht.out.cell 1
  have t2 := Ht.out.cell 2
  have t3 := Ht.out.cell 3
  have tl := Ht.out.lt
  have o0 := Ho.out.cell 0
  have o1 := Ho.out.cell 1
  have o2 := Ho.out.cell 2
  have o3 := Ho.out.cell 3
  have ol := Ho.out.lt
  have f0 := Hf.out.cell 0
  have f1 := Hf.out.cell 1
  have fl := Hf.out.lt
  simp only [List.getElem?_cons_zero, List.getElem?_cons_succ] at t0 t1 t2 t3 o0 o1 o2 o3 f0 f1
  go_wp2_with fail
  have htf2 := RTaskFault_ct ⟨I, nI, cI, G, nG, cG, O, nO, cO⟩ T w3 (H.out.keep Hbl.out)
  rw [Htf.out] at htf2
  with_reducible refine (htf2).mono ?_
  rintro e w4 ⟨rfl, hb⟩
  clear t0 t1 t2 t3 o0 o1 o2 o3 f0 f1 tl ol fl
  replace Ht := hide (Ht.out.keep hb)
  replace Ho := hide (Ho.out.keep hb)
  replace Hf := hide (Hf.out.keep hb)
  replace Q1 := hide (Q1.out.keep hb)
  replace Q2 := hide (Q2.out.keep hb)
  replace Q3 := hide (Q3.out.keep hb)
  replace Hbl := hide (Hbl.out.trans (hb.mono Hbl.out.size))
  clear hb
  clear htf2
  unfold fault
  have t0 := Ht.out.cell 0
  have t1 := Ht.out.cell 1
  have t2 := Ht.out.cell 2
  have t3 := Ht.out.cell 3
  have tl := Ht.out.lt
  have o0 := Ho.out.cell 0
  have o1 := Ho.out.cell 1
  have o2 := Ho.out.cell 2
  have o3 := Ho.out.cell 3
  have ol := Ho.out.lt
  have f0 := Hf.out.cell 0
  have f1 := Hf.out.cell 1
  have fl := Hf.out.lt
  simp only [List.getElem?_cons_zero, List.getElem?_cons_succ] at t0 t1 t2 t3 o0 o1 o2 o3 f0 f1
  go_upto_region 5 with (fail)
  replace Q1 := hide (RdM.old Q1.out.rd)
  replace Q2 := hide (RdM.old Q2.out.rd)
  replace Q3 := hide (RdM.old Q3.out.rd)
  have hg1 : gT < w4.heap.size := tl
  have hg2 : gO < w4.heap.size := ol
  have hg3 : gO + 1 < w4.heap.size := fl
  have hg4 : w.heap.size ≤ w4.heap.size := Hbl.out.size
  have hyk := Blk.new (w4) 29 [.int .i64 0, .int .i64 0]
  have hbW : Below (w4).heap.size (w4) ((w4).alloc (.cells #[.int .i64 0, .int .i64 0] 29)) := (Below.refl _ _).alloc (Nat.le_refl _) _
  obtain ⟨w5, hW⟩ : ∃ W, W = (w4).alloc (.cells #[.int .i64 0, .int .i64 0] 29) := ⟨_, rfl⟩
  rw [← hW] at hyk hbW ⊢
  replace Ht := hide (Ht.out.keep hbW)
  replace Ho := hide (Ho.out.keep hbW)
  replace Hf := hide (Hf.out.keep hbW)
  replace Q1 := hide (Q1.out.keep hbW)
  replace Q2 := hide (Q2.out.keep hbW)
  replace Q3 := hide (Q3.out.keep hbW)
  replace Hbl := hide (Hbl.out.trans (hbW.mono Hbl.out.size))
  have Hk := hide hyk
  clear hW hbW hyk
  generalize w4.heap.size = gW at Hk hg1 hg2 hg3 hg4 Q1 Q2 Q3 ⊢
  have t0 := Ht.out.cell 0
  have t1 := Ht.out.cell 1
  have t2 := Ht.out.cell 2
  have t3 := Ht.out.cell 3
  have tl := Ht.out.lt
  have o0 := Ho.out.cell 0
  have o1 := Ho.out.cell 1
  have o2 := Ho.out.cell 2
  have o3 := Ho.out.cell 3
  have ol := Ho.out.lt
  have f0 := Hf.out.cell 0
  have f1 := Hf.out.cell 1
  have fl := Hf.out.lt
  have k0 := Hk.out.cell 0
  have k1 := Hk.out.cell 1
  have kl := Hk.out.lt
  simp only [List.getElem?_cons_zero, List.getElem?_cons_succ] at t0 t1 t2 t3 o0 o1 o2 o3 f0 f1 k0 k1
  go_wp2_with fail
  have hsq2 := RMacroFault_ct ⟨I, nI, cI, G, nG, cG, O, nO, cO⟩ T B m d l (-8) w5 (H.out.keep Hbl.out) (Hl.out.keep Hbl.out)
  rw [Hsq.out] at hsq2
  with_reducible refine (hsq2).mono ?_
  rintro e w6 ⟨rfl, hb⟩
  clear t0 t1 t2 t3 o0 o1 o2 o3 f0 f1 k0 k1 tl ol fl kl
  replace Ht := hide (Ht.out.keep hb)
  replace Ho := hide (Ho.out.keep hb)
  replace Hf := hide (Hf.out.keep hb)
  replace Hk := hide (Hk.out.keep hb)
  replace Q1 := hide (Q1.out.keep hb)
  replace Q2 := hide (Q2.out.keep hb)
  replace Q3 := hide (Q3.out.keep hb)
  replace Hbl := hide (Hbl.out.trans (hb.mono Hbl.out.size))
  clear hb
  clear hsq2
  unfold fault
  have t0 := Ht.out.cell 0
  have t1 := Ht.out.cell 1
  have t2 := Ht.out.cell 2
  have t3 := Ht.out.cell 3
  have tl := Ht.out.lt
  have o0 := Ho.out.cell 0
  have o1 := Ho.out.cell 1
  have o2 := Ho.out.cell 2
  have o3 := Ho.out.cell 3
  have ol := Ho.out.lt
  have f0 := Hf.out.cell 0
  have f1 := Hf.out.cell 1
  have fl := Hf.out.lt
  have k0 := Hk.out.cell 0
  have k1 := Hk.out.cell 1
  have kl := Hk.out.lt
  simp only [List.getElem?_cons_zero, List.getElem?_cons_succ] at t0 t1 t2 t3 o0 o1 o2 o3 f0 f1 k0 k1
  have kf0 := Hk.out.frozen 0
  have kf1 := Hk.out.frozen 1
  go_upto_region 7 with (fail)
  clear kf0 kf1
  have hyb := ((Hk.out.set 0 (.int .i64 0)).set 1 (.int .i64 0))
  simp only [List.set_cons_zero, List.set_cons_succ] at hyb
  have hbW := below_set (below_set (Below.refl gW w6) (g := gW) (by omega) 0 (.int .i64 0)) (g := gW) (by omega) 1 (.int .i64 0)
  have hcW := ((Chg.refl (fun b => b = gW) w6).trans (Chg.set _ gW 0 (.int .i64 0))).trans (Chg.set _ gW 1 (.int .i64 0))
  obtain ⟨w7, hW⟩ : ∃ W, W = ((w6).setCell ⟨gW, 0, none⟩ (.int .i64 0)).setCell ⟨gW, 1, none⟩ (.int .i64 0) := ⟨_, rfl⟩
  rw [← hW] at hyb hbW hcW ⊢
  replace Hk := hide hyb
  clear hW hyb
  clear t0 t1 t2 t3 o0 o1 o2 o3 f0 f1 k0 k1 tl ol fl kl
  replace Ht := hide (Ht.out.below hbW (by omega))
  replace Ho := hide (Ho.out.below hbW (by omega))
  replace Hf := hide (Hf.out.below hbW (by omega))
  replace Hbl := hide (Hbl.out.trans (hbW.mono (by omega)))
  replace Q1 := hide (Q1.out.chg (hcW.mono (fun b e => by omega)))
  replace Q2 := hide (Q2.out.chg (hcW.mono (fun b e => by omega)))
  replace Q3 := hide (Q3.out.chg (hcW.mono (fun b e => by omega)))
  clear hbW hcW
  have t0 := Ht.out.cell 0
  have t1 := Ht.out.cell 1
  have t2 := Ht.out.cell 2
  have t3 := Ht.out.cell 3
  have tl := Ht.out.lt
  have o0 := Ho.out.cell 0
  have o1 := Ho.out.cell 1
  have o2 := Ho.out.cell 2
  have o3 := Ho.out.cell 3
  have ol := Ho.out.lt
  have f0 := Hf.out.cell 0
  have f1 := Hf.out.cell 1
  have fl := Hf.out.lt
  have k0 := Hk.out.cell 0
  have k1 := Hk.out.cell 1
  have kl := Hk.out.lt
  simp only [List.getElem?_cons_zero, List.getElem?_cons_succ] at t0 t1 t2 t3 o0 o1 o2 o3 f0 f1 k0 k1
  go_upto_region 8 with (fail)
  have hk1 : gT < w7.heap.size := tl
  have hk2 : gO < w7.heap.size := ol
  have hk3 : gO + 1 < w7.heap.size := fl
  have hk4 : gW < w7.heap.size := kl
  have hyv := Blk.new (w7) 27 [.slice none 0 0, .slice none 0 0, .slice none 0 0, .int .i64 0]
  have hbW : Below (w7).heap.size (w7) ((w7).alloc (.cells #[.slice none 0 0, .slice none 0 0, .slice none 0 0, .int .i64 0] 27)) := (Below.refl _ _).alloc (Nat.le_refl _) _
  obtain ⟨w8, hW⟩ : ∃ W, W = (w7).alloc (.cells #[.slice none 0 0, .slice none 0 0, .slice none 0 0, .int .i64 0] 27) := ⟨_, rfl⟩
  rw [← hW] at hyv hbW ⊢
  replace Ht := hide (Ht.out.keep hbW)
  replace Ho := hide (Ho.out.keep hbW)
  replace Hf := hide (Hf.out.keep hbW)
  replace Hk := hide (Hk.out.keep hbW)
  replace Q1 := hide (Q1.out.keep hbW)
  replace Q2 := hide (Q2.out.keep hbW)
  replace Q3 := hide (Q3.out.keep hbW)
  replace Hbl := hide (Hbl.out.trans (hbW.mono Hbl.out.size))
  have Hv := hide hyv
  clear hW hbW hyv
  generalize w7.heap.size = gV at Hv hk1 hk2 hk3 hk4 ⊢
  have t0 := Ht.out.cell 0
  have t1 := Ht.out.cell 1
  have t2 := Ht.out.cell 2
  have t3 := Ht.out.cell 3
  have tl := Ht.out.lt
  have o0 := Ho.out.cell 0
  have o1 := Ho.out.cell 1
  have o2 := Ho.out.cell 2
  have o3 := Ho.out.cell 3
  have ol := Ho.out.lt
  have f0 := Hf.out.cell 0
  have f1 := Hf.out.cell 1
  have fl := Hf.out.lt
  have k0 := Hk.out.cell 0
  have k1 := Hk.out.cell 1
  have kl := Hk.out.lt
  have v0 := Hv.out.cell 0
  have v1 := Hv.out.cell 1
  have v2 := Hv.out.cell 2
  have v3 := Hv.out.cell 3
  have vl := Hv.out.lt
  simp only [List.getElem?_cons_zero, List.getElem?_cons_succ] at t0 t1 t2 t3 o0 o1 o2 o3 f0 f1 k0 k1 v0 v1 v2 v3
  have hcm := Combined_ct ⟨I, nI, cI, G, nG, cG, O, nO, cO⟩ T N B m d l w8 (H.out.keep Hbl.out) Hok.out (Hl.out.keep Hbl.out) Hm.out Hr.out
  rw [Hcf.out] at hcm
  go_wp2_with fail
  with_reducible refine hcm.mono ?_
  rintro e w9 ⟨hb, ⟨hno, rfl⟩ | ⟨o', C1, x1, y1, C2, x2, y2, C3, x3, y3, hno, rfl, z1, z2, z3, z4⟩⟩
  · cases hno
  obtain rfl := Option.some.inj hno
  have Z1 := hide z1
  have Z2 := hide z2
  have Z3 := hide z3
  have hZs := hide (show gV ≤ w8.heap.size from Nat.le_of_lt vl)
  have hZt := hide (show gW ≤ w8.heap.size from Nat.le_of_lt kl)
  clear hno z1 z2 z3 z4
  clear t0 t1 t2 t3 o0 o1 o2 o3 f0 f1 k0 k1 v0 v1 v2 v3 tl ol fl kl vl
  replace Ht := hide (Ht.out.keep hb)
  replace Ho := hide (Ho.out.keep hb)
  replace Hf := hide (Hf.out.keep hb)
  replace Hk := hide (Hk.out.keep hb)
  replace Hv := hide (Hv.out.keep hb)
  replace Q1 := hide (Q1.out.keep hb)
  replace Q2 := hide (Q2.out.keep hb)
  replace Q3 := hide (Q3.out.keep hb)
  replace Hbl := hide (Hbl.out.trans (hb.mono Hbl.out.size))
  clear hb hcm
  have t0 := Ht.out.cell 0
  have t1 := Ht.out.cell 1
  have t2 := Ht.out.cell 2
  have t3 := Ht.out.cell 3
  have tl := Ht.out.lt
  have o0 := Ho.out.cell 0
  have o1 := Ho.out.cell 1
  have o2 := Ho.out.cell 2
  have o3 := Ho.out.cell 3
  have ol := Ho.out.lt
  have f0 := Hf.out.cell 0
  have f1 := Hf.out.cell 1
  have fl := Hf.out.lt
  have k0 := Hk.out.cell 0
  have k1 := Hk.out.cell 1
  have kl := Hk.out.lt
  have v0 := Hv.out.cell 0
  have v1 := Hv.out.cell 1
  have v2 := Hv.out.cell 2
  have v3 := Hv.out.cell 3
  have vl := Hv.out.lt
  simp only [List.getElem?_cons_zero, List.getElem?_cons_succ] at t0 t1 t2 t3 o0 o1 o2 o3 f0 f1 k0 k1 v0 v1 v2 v3
  have vf0 := Hv.out.frozen 0
  have vf1 := Hv.out.frozen 1
  have vf2 := Hv.out.frozen 2
  have vf3 := Hv.out.frozen 3
  go_upto_region 10 with (fail)
  clear vf0 vf1 vf2 vf3
  have hyb := ((((Hv.out.set 0 (.slice C1 x1 y1)).set 1 (.slice C2 x2 y2)).set 2 (.slice C3 x3 y3)).set 3 (.int .i64 o.cost))
  simp only [List.set_cons_zero, List.set_cons_succ] at hyb
  have hbW := below_set (below_set (below_set (below_set (Below.refl gV w9) (g := gV) (by omega) 0 (.slice C1 x1 y1)) (g := gV) (by omega) 1 (.slice C2 x2 y2)) (g := gV) (by omega) 2 (.slice C3 x3 y3)) (g := gV) (by omega) 3 (.int .i64 o.cost)
  have hcW := ((((Chg.refl (fun b => b = gV) w9).trans (Chg.set _ gV 0 (.slice C1 x1 y1))).trans (Chg.set _ gV 1 (.slice C2 x2 y2))).trans (Chg.set _ gV 2 (.slice C3 x3 y3))).trans (Chg.set _ gV 3 (.int .i64 o.cost))
  obtain ⟨w10, hW⟩ : ∃ W, W = ((((w9).setCell ⟨gV, 0, none⟩ (.slice C1 x1 y1)).setCell ⟨gV, 1, none⟩ (.slice C2 x2 y2)).setCell ⟨gV, 2, none⟩ (.slice C3 x3 y3)).setCell ⟨gV, 3, none⟩ (.int .i64 o.cost) := ⟨_, rfl⟩
  rw [← hW] at hyb hbW hcW ⊢
  replace Hv := hide hyb
  clear hW hyb
  clear t0 t1 t2 t3 o0 o1 o2 o3 f0 f1 k0 k1 v0 v1 v2 v3 tl ol fl kl vl
  replace Ht := hide (Ht.out.below hbW (by omega))
  replace Ho := hide (Ho.out.below hbW (by omega))
  replace Hf := hide (Hf.out.below hbW (by omega))
  replace Hk := hide (Hk.out.below hbW (by omega))
  replace Hbl := hide (Hbl.out.trans (hbW.mono (by omega)))
  replace Q1 := hide (Q1.out.chg (hcW.mono (fun b e => by omega)))
  replace Q2 := hide (Q2.out.chg (hcW.mono (fun b e => by omega)))
  replace Q3 := hide (Q3.out.chg (hcW.mono (fun b e => by omega)))
  have hZs2 := hZs.out
  replace Z1 := hide (Z1.out.chg (hcW.mono (fun b e => by omega)))
  replace Z2 := hide (Z2.out.chg (hcW.mono (fun b e => by omega)))
  replace Z3 := hide (Z3.out.chg (hcW.mono (fun b e => by omega)))
  clear hZs2
  clear hbW hcW
  have t0 := Ht.out.cell 0
  have t1 := Ht.out.cell 1
  have t2 := Ht.out.cell 2
  have t3 := Ht.out.cell 3
  have tl := Ht.out.lt
  have o0 := Ho.out.cell 0
  have o1 := Ho.out.cell 1
  have o2 := Ho.out.cell 2
  have o3 := Ho.out.cell 3
  have ol := Ho.out.lt
  have f0 := Hf.out.cell 0
  have f1 := Hf.out.cell 1
  have fl := Hf.out.lt
  have k0 := Hk.out.cell 0
  have k1 := Hk.out.cell 1
  have kl := Hk.out.lt
  have v0 := Hv.out.cell 0
  have v1 := Hv.out.cell 1
  have v2 := Hv.out.cell 2
  have v3 := Hv.out.cell 3
  have vl := Hv.out.lt
  simp only [List.getElem?_cons_zero, List.getElem?_cons_succ] at t0 t1 t2 t3 o0 o1 o2 o3 f0 f1 k0 k1 v0 v1 v2 v3
  go_wp2_with fail
  with_reducible refine (At_ct _ _ _).mono ?_
  rintro e w11 ⟨rfl, hb⟩
  clear t0 t1 t2 t3 o0 o1 o2 o3 f0 f1 k0 k1 v0 v1 v2 v3 tl ol fl kl vl
  replace Ht := hide (Ht.out.keep hb)
  replace Ho := hide (Ho.out.keep hb)
  replace Hf := hide (Hf.out.keep hb)
  replace Hk := hide (Hk.out.keep hb)
  replace Hv := hide (Hv.out.keep hb)
  replace Q1 := hide (Q1.out.keep hb)
  replace Q2 := hide (Q2.out.keep hb)
  replace Q3 := hide (Q3.out.keep hb)
  replace Hbl := hide (Hbl.out.trans (hb.mono Hbl.out.size))
  clear hb
  unfold fault
  have t0 := Ht.out.cell 0
  have t1 := Ht.out.cell 1
  have t2 := Ht.out.cell 2
  have t3 := Ht.out.cell 3
  have tl := Ht.out.lt
  have o0 := Ho.out.cell 0
  have o1 := Ho.out.cell 1
  have o2 := Ho.out.cell 2
  have o3 := Ho.out.cell 3
  have ol := Ho.out.lt
  have f0 := Hf.out.cell 0
  have f1 := Hf.out.cell 1
  have fl := Hf.out.lt
  have k0 := Hk.out.cell 0
  have k1 := Hk.out.cell 1
  have kl := Hk.out.lt
  have v0 := Hv.out.cell 0
  have v1 := Hv.out.cell 1
  have v2 := Hv.out.cell 2
  have v3 := Hv.out.cell 3
  have vl := Hv.out.lt
  simp only [List.getElem?_cons_zero, List.getElem?_cons_succ] at t0 t1 t2 t3 o0 o1 o2 o3 f0 f1 k0 k1 v0 v1 v2 v3
  have kf0 := Hk.out.frozen 0
  have kf1 := Hk.out.frozen 1
  go_upto_region 12 with (fail)
  clear kf0 kf1
  clear v0 v1 v2 v3 vl
  clear Hv
  have hyb := ((Hk.out.set 0 (.int .i64 10)).set 1 (.int .i64 (-9)))
  simp only [List.set_cons_zero, List.set_cons_succ] at hyb
  have hbW := below_set (below_set (Below.refl gW w11) (g := gW) (by omega) 0 (.int .i64 10)) (g := gW) (by omega) 1 (.int .i64 (-9))
  have hcW := ((Chg.refl (fun b => b = gW) w11).trans (Chg.set _ gW 0 (.int .i64 10))).trans (Chg.set _ gW 1 (.int .i64 (-9)))
  obtain ⟨w12, hW⟩ : ∃ W, W = ((w11).setCell ⟨gW, 0, none⟩ (.int .i64 10)).setCell ⟨gW, 1, none⟩ (.int .i64 (-9)) := ⟨_, rfl⟩
  rw [← hW] at hyb hbW hcW ⊢
  replace Hk := hide hyb
  clear hW hyb
  clear t0 t1 t2 t3 o0 o1 o2 o3 f0 f1 k0 k1 tl ol fl kl
  replace Ht := hide (Ht.out.below hbW (by omega))
  replace Ho := hide (Ho.out.below hbW (by omega))
  replace Hf := hide (Hf.out.below hbW (by omega))
  replace Hbl := hide (Hbl.out.trans (hbW.mono (by omega)))
  replace Q1 := hide (Q1.out.chg (hcW.mono (fun b e => by omega)))
  replace Q2 := hide (Q2.out.chg (hcW.mono (fun b e => by omega)))
  replace Q3 := hide (Q3.out.chg (hcW.mono (fun b e => by omega)))
  clear hbW hcW
  have t0 := Ht.out.cell 0
  have t1 := Ht.out.cell 1
  have t2 := Ht.out.cell 2
  have t3 := Ht.out.cell 3
  have tl := Ht.out.lt
  have o0 := Ho.out.cell 0
  have o1 := Ho.out.cell 1
  have o2 := Ho.out.cell 2
  have o3 := Ho.out.cell 3
  have ol := Ho.out.lt
  have f0 := Hf.out.cell 0
  have f1 := Hf.out.cell 1
  have fl := Hf.out.lt
  have k0 := Hk.out.cell 0
  have k1 := Hk.out.cell 1
  have kl := Hk.out.lt
  simp only [List.getElem?_cons_zero, List.getElem?_cons_succ] at t0 t1 t2 t3 o0 o1 o2 o3 f0 f1 k0 k1
  go_wp2_with fail
  have hso : Calls Try.prog 21 #[.agg #[.slice A1 n1 c1, .slice A2 n2 c2, .slice A3 n3 c3, .int .i64 0], .agg #[.slice none 0 0, .slice none 0 0, .slice none 0 0, .int .i64 0]] w12 (Gives w12 (.bool true)) :=
    sameOperator_ct A1 A2 A3 none none none n1 c1 n2 c2 n3 c3 0 0 0 0 0 0 zeroOp zeroOp w12 Q1.out.rd Q2.out.rd Q3.out.rd (Rd.nil_ _ _) (Rd.nil_ _ _) (Rd.nil_ _ _) (by unfold zeroOp I64s; simp) (by unfold zeroOp I64s; simp)
  with_reducible refine hso.mono ?_
  rintro e w20 ⟨rfl, hb⟩
  replace Hbl := hide (Hbl.out.trans (hb.mono Hbl.out.size))
  clear hso hb
  go_wp2_with fail
  go_ret
  exact ⟨ret_bool (by simp), Hbl.out⟩
set_option maxRecDepth 100000 in
set_option maxHeartbeats 6400000 in
theorem combineLawE (a : TA) (T : Tsk) (B : Option Addr) (m d : Nat) (l : List Int) (w : World) (h : TkR w a T) (hl : Rd Enc.int w B m d l) (N : Nat) (hok : OkT T N) (hr : ∀ x ∈ l, 0 ≤ x ∧ x < T.ops.length) (hm : m ≤ 6) (o : Opr) (hoc : ¬ 100 < o.cost) (hi64 : I64s o.cost) (htf : taskFault T = (0, 0)) (hsq : seqFault T.ops.length l (-8) = (0, 0)) (hcf : combF zeroOp (l.map (opAt T.ops)) = some o) (hres : combineR T l = (o, true, 0, 0)) :
    Calls Try.prog 3 #[.agg #[.int .i64 T.facts, .slice a.I a.nI a.cI, .slice a.G a.nG a.cG, .slice a.O a.nO a.cO], .slice B m d] w (Gives w (.bool true)) := by
  obtain ⟨I, nI, cI, G, nG, cG, O, nO, cO⟩ := a
  have H := hide h
  have Hl := hide hl
  have Htf := hide htf
  have HC := Combine_ct ⟨I, nI, cI, G, nG, cG, O, nO, cO⟩ T B m d l
  rw [hres] at HC
  simp only at HC
  replace HC := hide HC
  clear h hl htf hres
  have Hsq := hide hsq
  clear hsq
  have Hok := hide hok
  have Hr := hide hr
  have Hm := hide hm
  have Hcf := hide hcf
  clear hok hr hm hcf
  have Hi64 := hide hi64
  clear hi64
  have Hbl := hide (Below.refl w.heap.size w)
  go_enter Try.func3, Try.ntmps3
  go_upto_region 1 with (fail)
  have hyt := Blk.new (w) 25 [.int .i64 T.facts, .slice I nI cI, .slice G nG cG, .slice O nO cO]
  have hbW : Below (w).heap.size (w) ((w).alloc (.cells #[.int .i64 T.facts, .slice I nI cI, .slice G nG cG, .slice O nO cO] 25)) := (Below.refl _ _).alloc (Nat.le_refl _) _
  obtain ⟨w0, hW⟩ : ∃ W, W = (w).alloc (.cells #[.int .i64 T.facts, .slice I nI cI, .slice G nG cG, .slice O nO cO] 25) := ⟨_, rfl⟩
  rw [← hW] at hyt hbW ⊢
  replace Hbl := hide (Hbl.out.trans (hbW.mono Hbl.out.size))
  have Ht := hide hyt
  clear hW hbW hyt
  generalize w.heap.size = gT at Ht ⊢
  have t0 := Ht.out.cell 0
  have t1 := Ht.out.cell 1
  have t2 := Ht.out.cell 2
  have t3 := Ht.out.cell 3
  have tl := Ht.out.lt
  simp only [List.getElem?_cons_zero, List.getElem?_cons_succ] at t0 t1 t2 t3
  go_wp2_with fail
  with_reducible refine (HC.out w0 (H.out.keep Hbl.out) (Hl.out.keep Hbl.out)).mono ?_
  rintro e w1 ⟨hb, v, rfl, A1, n1, c1, A2, n2, c2, A3, n3, c3, rfl, q1, q2, q3⟩
  have Q1 := hide q1
  have Q2 := hide q2
  have Q3 := hide q3
  clear q1 q2 q3
  skip
  skip
  clear t0 t1 t2 t3 tl
  replace Ht := hide (Ht.out.keep hb)
  replace Hbl := hide (Hbl.out.trans (hb.mono Hbl.out.size))
  clear hb
  unfold fault
  have t0 := Ht.out.cell 0
  have t1 := Ht.out.cell 1
  have t2 := Ht.out.cell 2
  have t3 := Ht.out.cell 3
  have tl := Ht.out.lt
  simp only [List.getElem?_cons_zero, List.getElem?_cons_succ] at t0 t1 t2 t3
  go_upto_region 2 with (fail)
  have hyo := Blk.new (w1) 27 [.slice A1 n1 c1, .slice A2 n2 c2, .slice A3 n3 c3, .int .i64 o.cost]
  have hyf := Blk.new ((w1).alloc (.cells #[.slice A1 n1 c1, .slice A2 n2 c2, .slice A3 n3 c3, .int .i64 o.cost] 27)) 29 [.int .i64 0, .int .i64 0]
  replace hyo := hyo.alloc (.cells #[.int .i64 0, .int .i64 0] 29)
  have hbW := below_two w1 (.cells #[.slice A1 n1 c1, .slice A2 n2 c2, .slice A3 n3 c3, .int .i64 o.cost] 27) (.cells #[.int .i64 0, .int .i64 0] 29)
  simp only [World.size_alloc] at hyf
  obtain ⟨w2, hW⟩ : ∃ W, W = ((w1).alloc (.cells #[.slice A1 n1 c1, .slice A2 n2 c2, .slice A3 n3 c3, .int .i64 o.cost] 27)).alloc (.cells #[.int .i64 0, .int .i64 0] 29) := ⟨_, rfl⟩
  rw [← hW] at hyo hyf hbW ⊢
  replace Ht := hide (Ht.out.keep hbW)
  replace Q1 := hide (Q1.out.keep hbW)
  replace Q2 := hide (Q2.out.keep hbW)
  replace Q3 := hide (Q3.out.keep hbW)
  replace Hbl := hide (Hbl.out.trans (hbW.mono Hbl.out.size))
  have Ho := hide hyo
  have Hf := hide hyf
  clear hW hbW hyo hyf
  generalize w1.heap.size = gO at Ho Hf ⊢
  have t0 := Ht.out.cell 0
  have t1 := Ht.out.cell 1
  have t2 := Ht.out.cell 2
  have t3 := Ht.out.cell 3
  have tl := Ht.out.lt
  have o0 := Ho.out.cell 0
  have o1 := Ho.out.cell 1
  have o2 := Ho.out.cell 2
  have o3 := Ho.out.cell 3
  have ol := Ho.out.lt
  have f0 := Hf.out.cell 0
  have f1 := Hf.out.cell 1
  have fl := Hf.out.lt
  simp only [List.getElem?_cons_zero, List.getElem?_cons_succ] at t0 t1 t2 t3 o0 o1 o2 o3 f0 f1
  go_wp2_with fail
  with_reducible refine (macrosExample_ct w2).mono ?_
  rintro e w3 ⟨rfl, hb⟩
  clear t0 t1 t2 t3 o0 o1 o2 o3 f0 f1 tl ol fl
  replace Ht := hide (Ht.out.keep hb)
  replace Ho := hide (Ho.out.keep hb)
  replace Hf := hide (Hf.out.keep hb)
  replace Q1 := hide (Q1.out.keep hb)
  replace Q2 := hide (Q2.out.keep hb)
  replace Q3 := hide (Q3.out.keep hb)
  replace Hbl := hide (Hbl.out.trans (hb.mono Hbl.out.size))
  clear hb
  have t0 := Ht.out.cell 0
  have t1 := Ht.out.cell 1
  have t2 := Ht.out.cell 2
  have t3 := Ht.out.cell 3
  have tl := Ht.out.lt
  have o0 := Ho.out.cell 0
  have o1 := Ho.out.cell 1
  have o2 := Ho.out.cell 2
  have o3 := Ho.out.cell 3
  have ol := Ho.out.lt
  have f0 := Hf.out.cell 0
  have f1 := Hf.out.cell 1
  have fl := Hf.out.lt
  simp only [List.getElem?_cons_zero, List.getElem?_cons_succ] at t0 t1 t2 t3 o0 o1 o2 o3 f0 f1
  go_wp2_with fail
  have htf2 := RTaskFault_ct ⟨I, nI, cI, G, nG, cG, O, nO, cO⟩ T w3 (H.out.keep Hbl.out)
  rw [Htf.out] at htf2
  with_reducible refine (htf2).mono ?_
  rintro e w4 ⟨rfl, hb⟩
  clear t0 t1 t2 t3 o0 o1 o2 o3 f0 f1 tl ol fl
  replace Ht := hide (Ht.out.keep hb)
  replace Ho := hide (Ho.out.keep hb)
  replace Hf := hide (Hf.out.keep hb)
  replace Q1 := hide (Q1.out.keep hb)
  replace Q2 := hide (Q2.out.keep hb)
  replace Q3 := hide (Q3.out.keep hb)
  replace Hbl := hide (Hbl.out.trans (hb.mono Hbl.out.size))
  clear hb
  clear htf2
  unfold fault
  have t0 := Ht.out.cell 0
  have t1 := Ht.out.cell 1
  have t2 := Ht.out.cell 2
  have t3 := Ht.out.cell 3
  have tl := Ht.out.lt
  have o0 := Ho.out.cell 0
  have o1 := Ho.out.cell 1
  have o2 := Ho.out.cell 2
  have o3 := Ho.out.cell 3
  have ol := Ho.out.lt
  have f0 := Hf.out.cell 0
  have f1 := Hf.out.cell 1
  have fl := Hf.out.lt
  simp only [List.getElem?_cons_zero, List.getElem?_cons_succ] at t0 t1 t2 t3 o0 o1 o2 o3 f0 f1
  go_upto_region 5 with (fail)
  replace Q1 := hide (RdM.old Q1.out.rd)
  replace Q2 := hide (RdM.old Q2.out.rd)
  replace Q3 := hide (RdM.old Q3.out.rd)
  have hg1 : gT < w4.heap.size := tl
  have hg2 : gO < w4.heap.size := ol
  have hg3 : gO + 1 < w4.heap.size := fl
  have hg4 : w.heap.size ≤ w4.heap.size := Hbl.out.size
  have hyk := Blk.new (w4) 29 [.int .i64 0, .int .i64 0]
  have hbW : Below (w4).heap.size (w4) ((w4).alloc (.cells #[.int .i64 0, .int .i64 0] 29)) := (Below.refl _ _).alloc (Nat.le_refl _) _
  obtain ⟨w5, hW⟩ : ∃ W, W = (w4).alloc (.cells #[.int .i64 0, .int .i64 0] 29) := ⟨_, rfl⟩
  rw [← hW] at hyk hbW ⊢
  replace Ht := hide (Ht.out.keep hbW)
  replace Ho := hide (Ho.out.keep hbW)
  replace Hf := hide (Hf.out.keep hbW)
  replace Q1 := hide (Q1.out.keep hbW)
  replace Q2 := hide (Q2.out.keep hbW)
  replace Q3 := hide (Q3.out.keep hbW)
  replace Hbl := hide (Hbl.out.trans (hbW.mono Hbl.out.size))
  have Hk := hide hyk
  clear hW hbW hyk
  generalize w4.heap.size = gW at Hk hg1 hg2 hg3 hg4 Q1 Q2 Q3 ⊢
  have t0 := Ht.out.cell 0
  have t1 := Ht.out.cell 1
  have t2 := Ht.out.cell 2
  have t3 := Ht.out.cell 3
  have tl := Ht.out.lt
  have o0 := Ho.out.cell 0
  have o1 := Ho.out.cell 1
  have o2 := Ho.out.cell 2
  have o3 := Ho.out.cell 3
  have ol := Ho.out.lt
  have f0 := Hf.out.cell 0
  have f1 := Hf.out.cell 1
  have fl := Hf.out.lt
  have k0 := Hk.out.cell 0
  have k1 := Hk.out.cell 1
  have kl := Hk.out.lt
  simp only [List.getElem?_cons_zero, List.getElem?_cons_succ] at t0 t1 t2 t3 o0 o1 o2 o3 f0 f1 k0 k1
  go_wp2_with fail
  have hsq2 := RMacroFault_ct ⟨I, nI, cI, G, nG, cG, O, nO, cO⟩ T B m d l (-8) w5 (H.out.keep Hbl.out) (Hl.out.keep Hbl.out)
  rw [Hsq.out] at hsq2
  with_reducible refine (hsq2).mono ?_
  rintro e w6 ⟨rfl, hb⟩
  clear t0 t1 t2 t3 o0 o1 o2 o3 f0 f1 k0 k1 tl ol fl kl
  replace Ht := hide (Ht.out.keep hb)
  replace Ho := hide (Ho.out.keep hb)
  replace Hf := hide (Hf.out.keep hb)
  replace Hk := hide (Hk.out.keep hb)
  replace Q1 := hide (Q1.out.keep hb)
  replace Q2 := hide (Q2.out.keep hb)
  replace Q3 := hide (Q3.out.keep hb)
  replace Hbl := hide (Hbl.out.trans (hb.mono Hbl.out.size))
  clear hb
  clear hsq2
  unfold fault
  have t0 := Ht.out.cell 0
  have t1 := Ht.out.cell 1
  have t2 := Ht.out.cell 2
  have t3 := Ht.out.cell 3
  have tl := Ht.out.lt
  have o0 := Ho.out.cell 0
  have o1 := Ho.out.cell 1
  have o2 := Ho.out.cell 2
  have o3 := Ho.out.cell 3
  have ol := Ho.out.lt
  have f0 := Hf.out.cell 0
  have f1 := Hf.out.cell 1
  have fl := Hf.out.lt
  have k0 := Hk.out.cell 0
  have k1 := Hk.out.cell 1
  have kl := Hk.out.lt
  simp only [List.getElem?_cons_zero, List.getElem?_cons_succ] at t0 t1 t2 t3 o0 o1 o2 o3 f0 f1 k0 k1
  have kf0 := Hk.out.frozen 0
  have kf1 := Hk.out.frozen 1
  go_upto_region 7 with (fail)
  clear kf0 kf1
  have hyb := ((Hk.out.set 0 (.int .i64 0)).set 1 (.int .i64 0))
  simp only [List.set_cons_zero, List.set_cons_succ] at hyb
  have hbW := below_set (below_set (Below.refl gW w6) (g := gW) (by omega) 0 (.int .i64 0)) (g := gW) (by omega) 1 (.int .i64 0)
  have hcW := ((Chg.refl (fun b => b = gW) w6).trans (Chg.set _ gW 0 (.int .i64 0))).trans (Chg.set _ gW 1 (.int .i64 0))
  obtain ⟨w7, hW⟩ : ∃ W, W = ((w6).setCell ⟨gW, 0, none⟩ (.int .i64 0)).setCell ⟨gW, 1, none⟩ (.int .i64 0) := ⟨_, rfl⟩
  rw [← hW] at hyb hbW hcW ⊢
  replace Hk := hide hyb
  clear hW hyb
  clear t0 t1 t2 t3 o0 o1 o2 o3 f0 f1 k0 k1 tl ol fl kl
  replace Ht := hide (Ht.out.below hbW (by omega))
  replace Ho := hide (Ho.out.below hbW (by omega))
  replace Hf := hide (Hf.out.below hbW (by omega))
  replace Hbl := hide (Hbl.out.trans (hbW.mono (by omega)))
  replace Q1 := hide (Q1.out.chg (hcW.mono (fun b e => by omega)))
  replace Q2 := hide (Q2.out.chg (hcW.mono (fun b e => by omega)))
  replace Q3 := hide (Q3.out.chg (hcW.mono (fun b e => by omega)))
  clear hbW hcW
  have t0 := Ht.out.cell 0
  have t1 := Ht.out.cell 1
  have t2 := Ht.out.cell 2
  have t3 := Ht.out.cell 3
  have tl := Ht.out.lt
  have o0 := Ho.out.cell 0
  have o1 := Ho.out.cell 1
  have o2 := Ho.out.cell 2
  have o3 := Ho.out.cell 3
  have ol := Ho.out.lt
  have f0 := Hf.out.cell 0
  have f1 := Hf.out.cell 1
  have fl := Hf.out.lt
  have k0 := Hk.out.cell 0
  have k1 := Hk.out.cell 1
  have kl := Hk.out.lt
  simp only [List.getElem?_cons_zero, List.getElem?_cons_succ] at t0 t1 t2 t3 o0 o1 o2 o3 f0 f1 k0 k1
  go_upto_region 8 with (fail)
  have hk1 : gT < w7.heap.size := tl
  have hk2 : gO < w7.heap.size := ol
  have hk3 : gO + 1 < w7.heap.size := fl
  have hk4 : gW < w7.heap.size := kl
  have hyv := Blk.new (w7) 27 [.slice none 0 0, .slice none 0 0, .slice none 0 0, .int .i64 0]
  have hbW : Below (w7).heap.size (w7) ((w7).alloc (.cells #[.slice none 0 0, .slice none 0 0, .slice none 0 0, .int .i64 0] 27)) := (Below.refl _ _).alloc (Nat.le_refl _) _
  obtain ⟨w8, hW⟩ : ∃ W, W = (w7).alloc (.cells #[.slice none 0 0, .slice none 0 0, .slice none 0 0, .int .i64 0] 27) := ⟨_, rfl⟩
  rw [← hW] at hyv hbW ⊢
  replace Ht := hide (Ht.out.keep hbW)
  replace Ho := hide (Ho.out.keep hbW)
  replace Hf := hide (Hf.out.keep hbW)
  replace Hk := hide (Hk.out.keep hbW)
  replace Q1 := hide (Q1.out.keep hbW)
  replace Q2 := hide (Q2.out.keep hbW)
  replace Q3 := hide (Q3.out.keep hbW)
  replace Hbl := hide (Hbl.out.trans (hbW.mono Hbl.out.size))
  have Hv := hide hyv
  clear hW hbW hyv
  generalize w7.heap.size = gV at Hv hk1 hk2 hk3 hk4 ⊢
  have t0 := Ht.out.cell 0
  have t1 := Ht.out.cell 1
  have t2 := Ht.out.cell 2
  have t3 := Ht.out.cell 3
  have tl := Ht.out.lt
  have o0 := Ho.out.cell 0
  have o1 := Ho.out.cell 1
  have o2 := Ho.out.cell 2
  have o3 := Ho.out.cell 3
  have ol := Ho.out.lt
  have f0 := Hf.out.cell 0
  have f1 := Hf.out.cell 1
  have fl := Hf.out.lt
  have k0 := Hk.out.cell 0
  have k1 := Hk.out.cell 1
  have kl := Hk.out.lt
  have v0 := Hv.out.cell 0
  have v1 := Hv.out.cell 1
  have v2 := Hv.out.cell 2
  have v3 := Hv.out.cell 3
  have vl := Hv.out.lt
  simp only [List.getElem?_cons_zero, List.getElem?_cons_succ] at t0 t1 t2 t3 o0 o1 o2 o3 f0 f1 k0 k1 v0 v1 v2 v3
  have hcm := Combined_ct ⟨I, nI, cI, G, nG, cG, O, nO, cO⟩ T N B m d l w8 (H.out.keep Hbl.out) Hok.out (Hl.out.keep Hbl.out) Hm.out Hr.out
  rw [Hcf.out] at hcm
  go_wp2_with fail
  with_reducible refine hcm.mono ?_
  rintro e w9 ⟨hb, ⟨hno, rfl⟩ | ⟨o', C1, x1, y1, C2, x2, y2, C3, x3, y3, hno, rfl, z1, z2, z3, z4⟩⟩
  · cases hno
  obtain rfl := Option.some.inj hno
  have Z1 := hide z1
  have Z2 := hide z2
  have Z3 := hide z3
  have hZs := hide (show gV ≤ w8.heap.size from Nat.le_of_lt vl)
  have hZt := hide (show gW ≤ w8.heap.size from Nat.le_of_lt kl)
  clear hno z1 z2 z3 z4
  clear t0 t1 t2 t3 o0 o1 o2 o3 f0 f1 k0 k1 v0 v1 v2 v3 tl ol fl kl vl
  replace Ht := hide (Ht.out.keep hb)
  replace Ho := hide (Ho.out.keep hb)
  replace Hf := hide (Hf.out.keep hb)
  replace Hk := hide (Hk.out.keep hb)
  replace Hv := hide (Hv.out.keep hb)
  replace Q1 := hide (Q1.out.keep hb)
  replace Q2 := hide (Q2.out.keep hb)
  replace Q3 := hide (Q3.out.keep hb)
  replace Hbl := hide (Hbl.out.trans (hb.mono Hbl.out.size))
  clear hb hcm
  have t0 := Ht.out.cell 0
  have t1 := Ht.out.cell 1
  have t2 := Ht.out.cell 2
  have t3 := Ht.out.cell 3
  have tl := Ht.out.lt
  have o0 := Ho.out.cell 0
  have o1 := Ho.out.cell 1
  have o2 := Ho.out.cell 2
  have o3 := Ho.out.cell 3
  have ol := Ho.out.lt
  have f0 := Hf.out.cell 0
  have f1 := Hf.out.cell 1
  have fl := Hf.out.lt
  have k0 := Hk.out.cell 0
  have k1 := Hk.out.cell 1
  have kl := Hk.out.lt
  have v0 := Hv.out.cell 0
  have v1 := Hv.out.cell 1
  have v2 := Hv.out.cell 2
  have v3 := Hv.out.cell 3
  have vl := Hv.out.lt
  simp only [List.getElem?_cons_zero, List.getElem?_cons_succ] at t0 t1 t2 t3 o0 o1 o2 o3 f0 f1 k0 k1 v0 v1 v2 v3
  have vf0 := Hv.out.frozen 0
  have vf1 := Hv.out.frozen 1
  have vf2 := Hv.out.frozen 2
  have vf3 := Hv.out.frozen 3
  go_upto_region 10 with (fail)
  clear vf0 vf1 vf2 vf3
  have hyb := ((((Hv.out.set 0 (.slice C1 x1 y1)).set 1 (.slice C2 x2 y2)).set 2 (.slice C3 x3 y3)).set 3 (.int .i64 o.cost))
  simp only [List.set_cons_zero, List.set_cons_succ] at hyb
  have hbW := below_set (below_set (below_set (below_set (Below.refl gV w9) (g := gV) (by omega) 0 (.slice C1 x1 y1)) (g := gV) (by omega) 1 (.slice C2 x2 y2)) (g := gV) (by omega) 2 (.slice C3 x3 y3)) (g := gV) (by omega) 3 (.int .i64 o.cost)
  have hcW := ((((Chg.refl (fun b => b = gV) w9).trans (Chg.set _ gV 0 (.slice C1 x1 y1))).trans (Chg.set _ gV 1 (.slice C2 x2 y2))).trans (Chg.set _ gV 2 (.slice C3 x3 y3))).trans (Chg.set _ gV 3 (.int .i64 o.cost))
  obtain ⟨w10, hW⟩ : ∃ W, W = ((((w9).setCell ⟨gV, 0, none⟩ (.slice C1 x1 y1)).setCell ⟨gV, 1, none⟩ (.slice C2 x2 y2)).setCell ⟨gV, 2, none⟩ (.slice C3 x3 y3)).setCell ⟨gV, 3, none⟩ (.int .i64 o.cost) := ⟨_, rfl⟩
  rw [← hW] at hyb hbW hcW ⊢
  replace Hv := hide hyb
  clear hW hyb
  clear t0 t1 t2 t3 o0 o1 o2 o3 f0 f1 k0 k1 v0 v1 v2 v3 tl ol fl kl vl
  replace Ht := hide (Ht.out.below hbW (by omega))
  replace Ho := hide (Ho.out.below hbW (by omega))
  replace Hf := hide (Hf.out.below hbW (by omega))
  replace Hk := hide (Hk.out.below hbW (by omega))
  replace Hbl := hide (Hbl.out.trans (hbW.mono (by omega)))
  replace Q1 := hide (Q1.out.chg (hcW.mono (fun b e => by omega)))
  replace Q2 := hide (Q2.out.chg (hcW.mono (fun b e => by omega)))
  replace Q3 := hide (Q3.out.chg (hcW.mono (fun b e => by omega)))
  have hZs2 := hZs.out
  replace Z1 := hide (Z1.out.chg (hcW.mono (fun b e => by omega)))
  replace Z2 := hide (Z2.out.chg (hcW.mono (fun b e => by omega)))
  replace Z3 := hide (Z3.out.chg (hcW.mono (fun b e => by omega)))
  clear hZs2
  clear hbW hcW
  have t0 := Ht.out.cell 0
  have t1 := Ht.out.cell 1
  have t2 := Ht.out.cell 2
  have t3 := Ht.out.cell 3
  have tl := Ht.out.lt
  have o0 := Ho.out.cell 0
  have o1 := Ho.out.cell 1
  have o2 := Ho.out.cell 2
  have o3 := Ho.out.cell 3
  have ol := Ho.out.lt
  have f0 := Hf.out.cell 0
  have f1 := Hf.out.cell 1
  have fl := Hf.out.lt
  have k0 := Hk.out.cell 0
  have k1 := Hk.out.cell 1
  have kl := Hk.out.lt
  have v0 := Hv.out.cell 0
  have v1 := Hv.out.cell 1
  have v2 := Hv.out.cell 2
  have v3 := Hv.out.cell 3
  have vl := Hv.out.lt
  simp only [List.getElem?_cons_zero, List.getElem?_cons_succ] at t0 t1 t2 t3 o0 o1 o2 o3 f0 f1 k0 k1 v0 v1 v2 v3
  go_wp2_with fail
  have hso := sameOperator_ct A1 A2 A3 C1 C2 C3 n1 c1 n2 c2 n3 c3 x1 y1 x2 y2 x3 y3 o o w10 Q1.out.rd Q2.out.rd Q3.out.rd Z1.out.rd Z2.out.rd Z3.out.rd Hi64.out Hi64.out
  rw [sameB_refl] at hso
  with_reducible refine hso.mono ?_
  rintro e w20 ⟨rfl, hb⟩
  replace Hbl := hide (Hbl.out.trans (hb.mono Hbl.out.size))
  clear hso hb
  go_wp2_with fail
  go_ret
  exact ⟨ret_bool (by simp), Hbl.out⟩
theorem combineLaw_ct (T : Tsk) (a : TA) (B : Option Addr) (m d : Nat) (l : List Int) (w : World) (h : TkR w a T) (hl : Rd Enc.int w B m d l) :
    Calls Try.prog 3 #[.agg #[.int .i64 T.facts, .slice a.I a.nI a.cI, .slice a.G a.nG a.cG, .slice a.O a.nO a.cO], .slice B m d] w (Gives w (.bool true)) := by
  rcases ht : taskFault T with ⟨ec, ei⟩
  by_cases hec : ec = 0
  · subst hec
    have hz := taskFault_zero (T := T) (by rw [ht])
    obtain ⟨N, hok⟩ := taskFault_ok (T := T) (by rw [ht])
    rcases hs : seqFault T.ops.length l (-8) with ⟨sc, si⟩
    by_cases hsc : sc = 0
    · subst hsc
      obtain ⟨hz2, h1, h6, hr⟩ := seqFault_ok (k := T.ops.length) (l := l) (i := -8) (by rw [hs])
      have hm : m ≤ 6 := by rw [← hl.len]; exact h6
      cases hc : combF zeroOp (l.map (opAt T.ops)) with
      | none => exact combineLawC a T B m d l w h hl N hok hr hm hz hz2 hc (by unfold combineR; rw [hz, if_neg (by simp), hz2, if_neg (by simp), hc])
      | some o =>
        have hsm := comb_small hok hr h6 hc
        have hi : I64s o.cost := by unfold I64s; omega
        by_cases hoc : 100 < o.cost
        · exact combineLawD a T B m d l w h hl N hok hr hm o hoc hi hz hz2 hc (by unfold combineR; rw [hz, if_neg (by simp), hz2, if_neg (by simp), hc]; simp only; rw [if_pos hoc])
        · exact combineLawE a T B m d l w h hl N hok hr hm o hoc hi hz hz2 hc (by unfold combineR; rw [hz, if_neg (by simp), hz2, if_neg (by simp), hc]; simp only; rw [if_neg hoc])
    · exact combineLawB a T B m d l w h hl sc si hsc hz hs (by unfold combineR; rw [hz, if_neg (by simp), hs, if_pos hsc])
  · exact combineLawA a T B m d l w h hl ec ei hec ht (by unfold combineR; rw [ht, if_pos hec])
end Go.Proofs.Ytnfeknfakkdbhaa
