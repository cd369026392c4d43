/- The walk of the law on a sequence and its one operator. -/
import Derived.Test.YtnfeknfakkdbhaaMe
import Derived.Test.YtnfeknfakkdbhaaTs3
namespace Go.Proofs.Ytnfeknfakkdbhaa
set_option linter.unusedVariables false
set_option linter.unusedSimpArgs false
open Go.RowKit

set_option maxRecDepth 100000 in
set_option maxHeartbeats 6400000 in
theorem seqLawA (a : TA) (T : Tsk) (B : Option Addr) (m d : Nat) (l : List Int) (C : Option Addr) (np dp : Nat) (s : List Int) (w : World) (h : TkR w a T) (hl : Rd Enc.int w B m d l) (hs : Rd Enc.int w C np dp s) (o : Opr) (ok : Bool) (ec ei : Int) (hec : ec ≠ 0) (hcr : combineR T l = (zeroOp, ok, ec, ei)) (rs : List (List Int)) (pc pi : Int) (hpr : playR T s l = (rs, pc, pi)) (co cc ci : Int) (hdr : scostR T l = (co, cc, ci)) :
    Calls Try.prog 11 #[.agg #[.int .i64 T.facts, .slice a.I a.nI a.cI, .slice a.G a.nG a.cG, .slice a.O a.nO a.cO], .slice B m d, .slice C np dp] w (Gives w (.bool true)) := by
  obtain ⟨I, nI, cI, G, nG, cG, O, nO, cO⟩ := a
  have H := hide h
  have Hl := hide hl
  have Hs := hide hs
  have HC := Combine_ct ⟨I, nI, cI, G, nG, cG, O, nO, cO⟩ T B m d l
  rw [hcr] at HC
  have HP := Play_ct ⟨I, nI, cI, G, nG, cG, O, nO, cO⟩ T C np dp s B m d l
  rw [hpr] at HP
  have HD := SCost_ct ⟨I, nI, cI, G, nG, cG, O, nO, cO⟩ T B m d l
  rw [hdr] at HD
  simp only at HC HP HD ⊢
  replace HC := hide HC
  replace HP := hide HP
  replace HD := hide HD
  clear h hl hs hcr hpr hdr
  have Hbl := hide (Below.refl w.heap.size w)
  go_enter Try.func11, Try.ntmps11
  go_upto_region 1 with (fail)
  obtain ⟨B0, hB0⟩ : ∃ B0, B0 = w.heap.size := ⟨_, rfl⟩
  have HB0 := hide hB0
  clear hB0
  have s_0 : B0 ≤ w.heap.size := Nat.le_trans (Nat.le_of_eq HB0.out) Hbl.out.size
  have hyt := Blk.new (w) 25 [.int .i64 T.facts, .slice I nI cI, .slice G nG cG, .slice O nO cO]
  have hbW : Below (w).heap.size (w) ((w).alloc (.cells #[.int .i64 T.facts, .slice I nI cI, .slice G nG cG, .slice O nO cO] 25)) := (Below.refl _ _).alloc (Nat.le_refl _) _
  obtain ⟨w0, hW⟩ : ∃ W, W = (w).alloc (.cells #[.int .i64 T.facts, .slice I nI cI, .slice G nG cG, .slice O nO cO] 25) := ⟨_, rfl⟩
  rw [← hW] at hyt hbW ⊢
  replace Hbl := hide (Hbl.out.trans (hbW.mono Hbl.out.size))
  have Ht := hide hyt
  clear hW hbW hyt
  generalize w.heap.size = gT at Ht s_0 ⊢
  have t0 := Ht.out.cell 0
  have t1 := Ht.out.cell 1
  have t2 := Ht.out.cell 2
  have t3 := Ht.out.cell 3
  have tl := Ht.out.lt
  simp only [List.getElem?_cons_zero, List.getElem?_cons_succ] at t0 t1 t2 t3
  have a_t : B0 ≤ gT := by omega
  clear s_0
  go_wp2_with fail
  with_reducible refine (macrosExample_ct w0).mono ?_
  rintro e w1 ⟨rfl, hb⟩
  clear t0 t1 t2 t3 tl
  replace Ht := hide (Ht.out.keep hb)
  replace Hbl := hide (Hbl.out.trans (hb.mono Hbl.out.size))
  clear hb
  have t0 := Ht.out.cell 0
  have t1 := Ht.out.cell 1
  have t2 := Ht.out.cell 2
  have t3 := Ht.out.cell 3
  have tl := Ht.out.lt
  simp only [List.getElem?_cons_zero, List.getElem?_cons_succ] at t0 t1 t2 t3
  go_wp2_with fail
  with_reducible refine (HC.out w1 (H.out.keep Hbl.out) (Hl.out.keep Hbl.out)).mono ?_
  rintro e w2 ⟨hb, v, rfl, A1, n1, c1, A2, n2, c2, A3, n3, c3, rfl, q1, q2, q3⟩
  have Q1 := hide q1.rd
  have Q2 := hide q2.rd
  have Q3 := hide q3.rd
  clear q1 q2 q3
  have hz0 : zeroOp.cost = 0 := rfl
  rw [hz0]
  clear t0 t1 t2 t3 tl
  replace Ht := hide (Ht.out.keep hb)
  replace Hbl := hide (Hbl.out.trans (hb.mono Hbl.out.size))
  clear hb
  unfold fault
  have t0 := Ht.out.cell 0
  have t1 := Ht.out.cell 1
  have t2 := Ht.out.cell 2
  have t3 := Ht.out.cell 3
  have tl := Ht.out.lt
  simp only [List.getElem?_cons_zero, List.getElem?_cons_succ] at t0 t1 t2 t3
  go_upto_region 4 with (fail)
  have s_t : gT < w2.heap.size := tl
  have s_0 : B0 ≤ w2.heap.size := Nat.le_trans (Nat.le_of_eq HB0.out) Hbl.out.size
  have hyo := Blk.new (w2) 27 [.slice A1 n1 c1, .slice A2 n2 c2, .slice A3 n3 c3, .int .i64 0]
  have hye := Blk.new ((w2).alloc (.cells #[.slice A1 n1 c1, .slice A2 n2 c2, .slice A3 n3 c3, .int .i64 0] 27)) 29 [.int .i64 ec, .int .i64 ei]
  replace hyo := hyo.alloc (.cells #[.int .i64 ec, .int .i64 ei] 29)
  have hbW := below_two w2 (.cells #[.slice A1 n1 c1, .slice A2 n2 c2, .slice A3 n3 c3, .int .i64 0] 27) (.cells #[.int .i64 ec, .int .i64 ei] 29)
  simp only [World.size_alloc] at hye
  obtain ⟨w3, hW⟩ : ∃ W, W = ((w2).alloc (.cells #[.slice A1 n1 c1, .slice A2 n2 c2, .slice A3 n3 c3, .int .i64 0] 27)).alloc (.cells #[.int .i64 ec, .int .i64 ei] 29) := ⟨_, rfl⟩
  rw [← hW] at hyo hye hbW ⊢
  replace Ht := hide (Ht.out.keep hbW)
  replace Q1 := hide (Q1.out.keep hbW)
  replace Q2 := hide (Q2.out.keep hbW)
  replace Q3 := hide (Q3.out.keep hbW)
  replace Hbl := hide (Hbl.out.trans (hbW.mono Hbl.out.size))
  have Ho := hide hyo
  have He := hide hye
  clear hW hbW hyo hye
  generalize w2.heap.size = gO at Ho He s_t s_0 ⊢
  have t0 := Ht.out.cell 0
  have t1 := Ht.out.cell 1
  have t2 := Ht.out.cell 2
  have t3 := Ht.out.cell 3
  have tl := Ht.out.lt
  have o0 := Ho.out.cell 0
  have o1 := Ho.out.cell 1
  have o2 := Ho.out.cell 2
  have o3 := Ho.out.cell 3
  have ol := Ho.out.lt
  have e0 := He.out.cell 0
  have e1 := He.out.cell 1
  have el := He.out.lt
  simp only [List.getElem?_cons_zero, List.getElem?_cons_succ] at t0 t1 t2 t3 o0 o1 o2 o3 e0 e1
  clear s_t
  have a_o : B0 ≤ gO := by omega
  have a_e : B0 ≤ gO + 1 := by omega
  clear s_0
  have n_o_e : ¬ gO = gO + 1 := by omega
  have n_e_o : ¬ gO + 1 = gO := by omega
  go_wp2_with fail
  with_reducible refine (HP.out w3 (H.out.keep Hbl.out) (Hs.out.keep Hbl.out) (Hl.out.keep Hbl.out)).mono ?_
  rintro e w4 ⟨hb, R, nr, cr, rfl, hx⟩
  have HRW := hide (hx w4 (Chg.refl _ _))
  clear hx
  clear t0 t1 t2 t3 o0 o1 o2 o3 e0 e1 tl ol el
  replace Ht := hide (Ht.out.keep hb)
  replace Ho := hide (Ho.out.keep hb)
  replace He := hide (He.out.keep hb)
  replace Q1 := hide (Q1.out.keep hb)
  replace Q2 := hide (Q2.out.keep hb)
  replace Q3 := hide (Q3.out.keep hb)
  replace Hbl := hide (Hbl.out.trans (hb.mono Hbl.out.size))
  clear hb
  unfold fault
  have t0 := Ht.out.cell 0
  have t1 := Ht.out.cell 1
  have t2 := Ht.out.cell 2
  have t3 := Ht.out.cell 3
  have tl := Ht.out.lt
  have o0 := Ho.out.cell 0
  have o1 := Ho.out.cell 1
  have o2 := Ho.out.cell 2
  have o3 := Ho.out.cell 3
  have ol := Ho.out.lt
  have e0 := He.out.cell 0
  have e1 := He.out.cell 1
  have el := He.out.lt
  simp only [List.getElem?_cons_zero, List.getElem?_cons_succ] at t0 t1 t2 t3 o0 o1 o2 o3 e0 e1
  go_upto_region 5 with (fail)
  have s_t : gT < w4.heap.size := tl
  have s_o : gO < w4.heap.size := ol
  have s_e : gO + 1 < w4.heap.size := el
  have s_0 : B0 ≤ w4.heap.size := Nat.le_trans (Nat.le_of_eq HB0.out) Hbl.out.size
  have hyf := Blk.new (w4) 29 [.int .i64 pc, .int .i64 pi]
  have hbW : Below (w4).heap.size (w4) ((w4).alloc (.cells #[.int .i64 pc, .int .i64 pi] 29)) := (Below.refl _ _).alloc (Nat.le_refl _) _
  obtain ⟨w5, hW⟩ : ∃ W, W = (w4).alloc (.cells #[.int .i64 pc, .int .i64 pi] 29) := ⟨_, rfl⟩
  rw [← hW] at hyf hbW ⊢
  replace Ht := hide (Ht.out.keep hbW)
  replace Ho := hide (Ho.out.keep hbW)
  replace He := hide (He.out.keep hbW)
  replace Q1 := hide (Q1.out.keep hbW)
  replace Q2 := hide (Q2.out.keep hbW)
  replace Q3 := hide (Q3.out.keep hbW)
  replace HRW := hide (HRW.out.keep hbW)
  replace Hbl := hide (Hbl.out.trans (hbW.mono Hbl.out.size))
  have Hf := hide hyf
  clear hW hbW hyf
  generalize w4.heap.size = gf at Hf s_t s_o s_e s_0 ⊢
  have t0 := Ht.out.cell 0
  have t1 := Ht.out.cell 1
  have t2 := Ht.out.cell 2
  have t3 := Ht.out.cell 3
  have tl := Ht.out.lt
  have o0 := Ho.out.cell 0
  have o1 := Ho.out.cell 1
  have o2 := Ho.out.cell 2
  have o3 := Ho.out.cell 3
  have ol := Ho.out.lt
  have e0 := He.out.cell 0
  have e1 := He.out.cell 1
  have el := He.out.lt
  have f0 := Hf.out.cell 0
  have f1 := Hf.out.cell 1
  have fl := Hf.out.lt
  simp only [List.getElem?_cons_zero, List.getElem?_cons_succ] at t0 t1 t2 t3 o0 o1 o2 o3 e0 e1 f0 f1
  clear s_t
  clear s_o
  clear s_e
  have a_f : B0 ≤ gf := by omega
  clear s_0
  go_wp2_with fail
  with_reducible refine (HD.out w5 (H.out.keep Hbl.out) (Hl.out.keep Hbl.out)).mono ?_
  rintro e w6 ⟨rfl, hb⟩
  clear t0 t1 t2 t3 o0 o1 o2 o3 e0 e1 f0 f1 tl ol el fl
  replace Ht := hide (Ht.out.keep hb)
  replace Ho := hide (Ho.out.keep hb)
  replace He := hide (He.out.keep hb)
  replace Hf := hide (Hf.out.keep hb)
  replace Q1 := hide (Q1.out.keep hb)
  replace Q2 := hide (Q2.out.keep hb)
  replace Q3 := hide (Q3.out.keep hb)
  replace HRW := hide (HRW.out.keep hb)
  replace Hbl := hide (Hbl.out.trans (hb.mono Hbl.out.size))
  clear hb
  unfold fault
  have t0 := Ht.out.cell 0
  have t1 := Ht.out.cell 1
  have t2 := Ht.out.cell 2
  have t3 := Ht.out.cell 3
  have tl := Ht.out.lt
  have o0 := Ho.out.cell 0
  have o1 := Ho.out.cell 1
  have o2 := Ho.out.cell 2
  have o3 := Ho.out.cell 3
  have ol := Ho.out.lt
  have e0 := He.out.cell 0
  have e1 := He.out.cell 1
  have el := He.out.lt
  have f0 := Hf.out.cell 0
  have f1 := Hf.out.cell 1
  have fl := Hf.out.lt
  simp only [List.getElem?_cons_zero, List.getElem?_cons_succ] at t0 t1 t2 t3 o0 o1 o2 o3 e0 e1 f0 f1
  go_upto_region 6 with (fail)
  have s_t : gT < w6.heap.size := tl
  have s_o : gO < w6.heap.size := ol
  have s_e : gO + 1 < w6.heap.size := el
  have s_f : gf < w6.heap.size := fl
  have s_0 : B0 ≤ w6.heap.size := Nat.le_trans (Nat.le_of_eq HB0.out) Hbl.out.size
  have hyk := Blk.new (w6) 29 [.int .i64 cc, .int .i64 ci]
  have hbW : Below (w6).heap.size (w6) ((w6).alloc (.cells #[.int .i64 cc, .int .i64 ci] 29)) := (Below.refl _ _).alloc (Nat.le_refl _) _
  obtain ⟨w7, hW⟩ : ∃ W, W = (w6).alloc (.cells #[.int .i64 cc, .int .i64 ci] 29) := ⟨_, rfl⟩
  rw [← hW] at hyk hbW ⊢
  replace Ht := hide (Ht.out.keep hbW)
  replace Ho := hide (Ho.out.keep hbW)
  replace He := hide (He.out.keep hbW)
  replace Hf := hide (Hf.out.keep hbW)
  replace Q1 := hide (Q1.out.keep hbW)
  replace Q2 := hide (Q2.out.keep hbW)
  replace Q3 := hide (Q3.out.keep hbW)
  replace HRW := hide (HRW.out.keep hbW)
  replace Hbl := hide (Hbl.out.trans (hbW.mono Hbl.out.size))
  have Hk := hide hyk
  clear hW hbW hyk
  generalize w6.heap.size = gc at Hk s_t s_o s_e s_f s_0 ⊢
  have t0 := Ht.out.cell 0
  have t1 := Ht.out.cell 1
  have t2 := Ht.out.cell 2
  have t3 := Ht.out.cell 3
  have tl := Ht.out.lt
  have o0 := Ho.out.cell 0
  have o1 := Ho.out.cell 1
  have o2 := Ho.out.cell 2
  have o3 := Ho.out.cell 3
  have ol := Ho.out.lt
  have e0 := He.out.cell 0
  have e1 := He.out.cell 1
  have el := He.out.lt
  have f0 := Hf.out.cell 0
  have f1 := Hf.out.cell 1
  have fl := Hf.out.lt
  have k0 := Hk.out.cell 0
  have k1 := Hk.out.cell 1
  have kl := Hk.out.lt
  simp only [List.getElem?_cons_zero, List.getElem?_cons_succ] at t0 t1 t2 t3 o0 o1 o2 o3 e0 e1 f0 f1 k0 k1
  clear s_t
  clear s_o
  clear s_e
  clear s_f
  have a_k : B0 ≤ gc := by omega
  clear s_0
  have hne : (ec != 0) = true := by simpa using hec
  go_wp2_with fail
  go_ret
  exact ⟨ret_bool rfl, Hbl.out⟩
set_option maxRecDepth 100000 in
set_option maxHeartbeats 6400000 in
theorem seqLawC (a : TA) (T : Tsk) (B : Option Addr) (m d : Nat) (l : List Int) (C : Option Addr) (np dp : Nat) (s : List Int) (w : World) (h : TkR w a T) (hl : Rd Enc.int w B m d l) (hs : Rd Enc.int w C np dp s) (o : Opr) (ok : Bool) (hcr : combineR T l = (o, ok, 0, 0)) (rs : List (List Int)) (pc pi : Int) (hpr : playR T s l = (rs, pc, pi)) (co : Int) (hdr : scostR T l = (co, 0, 0)) (hf : 0 ≤ T.facts) (hset : setB T.facts s = false) :
    Calls Try.prog 11 #[.agg #[.int .i64 T.facts, .slice a.I a.nI a.cI, .slice a.G a.nG a.cG, .slice a.O a.nO a.cO], .slice B m d, .slice C np dp] w (Gives w (.bool true)) := by
  obtain ⟨I, nI, cI, G, nG, cG, O, nO, cO⟩ := a
  have H := hide h
  have Hl := hide hl
  have Hs := hide hs
  have HC := Combine_ct ⟨I, nI, cI, G, nG, cG, O, nO, cO⟩ T B m d l
  rw [hcr] at HC
  have HP := Play_ct ⟨I, nI, cI, G, nG, cG, O, nO, cO⟩ T C np dp s B m d l
  rw [hpr] at HP
  have HD := SCost_ct ⟨I, nI, cI, G, nG, cG, O, nO, cO⟩ T B m d l
  rw [hdr] at HD
  simp only at HC HP HD ⊢
  replace HC := hide HC
  replace HP := hide HP
  replace HD := hide HD
  clear h hl hs hcr hpr hdr
  have HK := RStateOk_ct ⟨I, nI, cI, G, nG, cG, O, nO, cO⟩ T C np dp s
  rw [hset] at HK
  replace HK := hide HK
  clear hset
  have Hbl := hide (Below.refl w.heap.size w)
  go_enter Try.func11, Try.ntmps11
  go_upto_region 1 with (fail)
  obtain ⟨B0, hB0⟩ : ∃ B0, B0 = w.heap.size := ⟨_, rfl⟩
  have HB0 := hide hB0
  clear hB0
  have s_0 : B0 ≤ w.heap.size := Nat.le_trans (Nat.le_of_eq HB0.out) Hbl.out.size
  have hyt := Blk.new (w) 25 [.int .i64 T.facts, .slice I nI cI, .slice G nG cG, .slice O nO cO]
  have hbW : Below (w).heap.size (w) ((w).alloc (.cells #[.int .i64 T.facts, .slice I nI cI, .slice G nG cG, .slice O nO cO] 25)) := (Below.refl _ _).alloc (Nat.le_refl _) _
  obtain ⟨w0, hW⟩ : ∃ W, W = (w).alloc (.cells #[.int .i64 T.facts, .slice I nI cI, .slice G nG cG, .slice O nO cO] 25) := ⟨_, rfl⟩
  rw [← hW] at hyt hbW ⊢
  replace Hbl := hide (Hbl.out.trans (hbW.mono Hbl.out.size))
  have Ht := hide hyt
  clear hW hbW hyt
  generalize w.heap.size = gT at Ht s_0 ⊢
  have t0 := Ht.out.cell 0
  have t1 := Ht.out.cell 1
  have t2 := Ht.out.cell 2
  have t3 := Ht.out.cell 3
  have tl := Ht.out.lt
  simp only [List.getElem?_cons_zero, List.getElem?_cons_succ] at t0 t1 t2 t3
  have a_t : B0 ≤ gT := by omega
  clear s_0
  go_wp2_with fail
  with_reducible refine (macrosExample_ct w0).mono ?_
  rintro e w1 ⟨rfl, hb⟩
  clear t0 t1 t2 t3 tl
  replace Ht := hide (Ht.out.keep hb)
  replace Hbl := hide (Hbl.out.trans (hb.mono Hbl.out.size))
  clear hb
  have t0 := Ht.out.cell 0
  have t1 := Ht.out.cell 1
  have t2 := Ht.out.cell 2
  have t3 := Ht.out.cell 3
  have tl := Ht.out.lt
  simp only [List.getElem?_cons_zero, List.getElem?_cons_succ] at t0 t1 t2 t3
  go_wp2_with fail
  with_reducible refine (HC.out w1 (H.out.keep Hbl.out) (Hl.out.keep Hbl.out)).mono ?_
  rintro e w2 ⟨hb, v, rfl, A1, n1, c1, A2, n2, c2, A3, n3, c3, rfl, q1, q2, q3⟩
  have Q1 := hide q1.rd
  have Q2 := hide q2.rd
  have Q3 := hide q3.rd
  clear q1 q2 q3
  clear t0 t1 t2 t3 tl
  replace Ht := hide (Ht.out.keep hb)
  replace Hbl := hide (Hbl.out.trans (hb.mono Hbl.out.size))
  clear hb
  unfold fault
  have t0 := Ht.out.cell 0
  have t1 := Ht.out.cell 1
  have t2 := Ht.out.cell 2
  have t3 := Ht.out.cell 3
  have tl := Ht.out.lt
  simp only [List.getElem?_cons_zero, List.getElem?_cons_succ] at t0 t1 t2 t3
  go_upto_region 4 with (fail)
  have s_t : gT < w2.heap.size := tl
  have s_0 : B0 ≤ w2.heap.size := Nat.le_trans (Nat.le_of_eq HB0.out) Hbl.out.size
  have hyo := Blk.new (w2) 27 [.slice A1 n1 c1, .slice A2 n2 c2, .slice A3 n3 c3, .int .i64 o.cost]
  have hye := Blk.new ((w2).alloc (.cells #[.slice A1 n1 c1, .slice A2 n2 c2, .slice A3 n3 c3, .int .i64 o.cost] 27)) 29 [.int .i64 0, .int .i64 0]
  replace hyo := hyo.alloc (.cells #[.int .i64 0, .int .i64 0] 29)
  have hbW := below_two w2 (.cells #[.slice A1 n1 c1, .slice A2 n2 c2, .slice A3 n3 c3, .int .i64 o.cost] 27) (.cells #[.int .i64 0, .int .i64 0] 29)
  simp only [World.size_alloc] at hye
  obtain ⟨w3, hW⟩ : ∃ W, W = ((w2).alloc (.cells #[.slice A1 n1 c1, .slice A2 n2 c2, .slice A3 n3 c3, .int .i64 o.cost] 27)).alloc (.cells #[.int .i64 0, .int .i64 0] 29) := ⟨_, rfl⟩
  rw [← hW] at hyo hye hbW ⊢
  replace Ht := hide (Ht.out.keep hbW)
  replace Q1 := hide (Q1.out.keep hbW)
  replace Q2 := hide (Q2.out.keep hbW)
  replace Q3 := hide (Q3.out.keep hbW)
  replace Hbl := hide (Hbl.out.trans (hbW.mono Hbl.out.size))
  have Ho := hide hyo
  have He := hide hye
  clear hW hbW hyo hye
  generalize w2.heap.size = gO at Ho He s_t s_0 ⊢
  have t0 := Ht.out.cell 0
  have t1 := Ht.out.cell 1
  have t2 := Ht.out.cell 2
  have t3 := Ht.out.cell 3
  have tl := Ht.out.lt
  have o0 := Ho.out.cell 0
  have o1 := Ho.out.cell 1
  have o2 := Ho.out.cell 2
  have o3 := Ho.out.cell 3
  have ol := Ho.out.lt
  have e0 := He.out.cell 0
  have e1 := He.out.cell 1
  have el := He.out.lt
  simp only [List.getElem?_cons_zero, List.getElem?_cons_succ] at t0 t1 t2 t3 o0 o1 o2 o3 e0 e1
  clear s_t
  have a_o : B0 ≤ gO := by omega
  have a_e : B0 ≤ gO + 1 := by omega
  clear s_0
  have n_o_e : ¬ gO = gO + 1 := by omega
  have n_e_o : ¬ gO + 1 = gO := by omega
  go_wp2_with fail
  with_reducible refine (HP.out w3 (H.out.keep Hbl.out) (Hs.out.keep Hbl.out) (Hl.out.keep Hbl.out)).mono ?_
  rintro e w4 ⟨hb, R, nr, cr, rfl, hx⟩
  have HRW := hide (hx w4 (Chg.refl _ _))
  clear hx
  clear t0 t1 t2 t3 o0 o1 o2 o3 e0 e1 tl ol el
  replace Ht := hide (Ht.out.keep hb)
  replace Ho := hide (Ho.out.keep hb)
  replace He := hide (He.out.keep hb)
  replace Q1 := hide (Q1.out.keep hb)
  replace Q2 := hide (Q2.out.keep hb)
  replace Q3 := hide (Q3.out.keep hb)
  replace Hbl := hide (Hbl.out.trans (hb.mono Hbl.out.size))
  clear hb
  unfold fault
  have t0 := Ht.out.cell 0
  have t1 := Ht.out.cell 1
  have t2 := Ht.out.cell 2
  have t3 := Ht.out.cell 3
  have tl := Ht.out.lt
  have o0 := Ho.out.cell 0
  have o1 := Ho.out.cell 1
  have o2 := Ho.out.cell 2
  have o3 := Ho.out.cell 3
  have ol := Ho.out.lt
  have e0 := He.out.cell 0
  have e1 := He.out.cell 1
  have el := He.out.lt
  simp only [List.getElem?_cons_zero, List.getElem?_cons_succ] at t0 t1 t2 t3 o0 o1 o2 o3 e0 e1
  go_upto_region 5 with (fail)
  have s_t : gT < w4.heap.size := tl
  have s_o : gO < w4.heap.size := ol
  have s_e : gO + 1 < w4.heap.size := el
  have s_0 : B0 ≤ w4.heap.size := Nat.le_trans (Nat.le_of_eq HB0.out) Hbl.out.size
  have hyf := Blk.new (w4) 29 [.int .i64 pc, .int .i64 pi]
  have hbW : Below (w4).heap.size (w4) ((w4).alloc (.cells #[.int .i64 pc, .int .i64 pi] 29)) := (Below.refl _ _).alloc (Nat.le_refl _) _
  obtain ⟨w5, hW⟩ : ∃ W, W = (w4).alloc (.cells #[.int .i64 pc, .int .i64 pi] 29) := ⟨_, rfl⟩
  rw [← hW] at hyf hbW ⊢
  replace Ht := hide (Ht.out.keep hbW)
  replace Ho := hide (Ho.out.keep hbW)
  replace He := hide (He.out.keep hbW)
  replace Q1 := hide (Q1.out.keep hbW)
  replace Q2 := hide (Q2.out.keep hbW)
  replace Q3 := hide (Q3.out.keep hbW)
  replace HRW := hide (HRW.out.keep hbW)
  replace Hbl := hide (Hbl.out.trans (hbW.mono Hbl.out.size))
  have Hf := hide hyf
  clear hW hbW hyf
  generalize w4.heap.size = gf at Hf s_t s_o s_e s_0 ⊢
  have t0 := Ht.out.cell 0
  have t1 := Ht.out.cell 1
  have t2 := Ht.out.cell 2
  have t3 := Ht.out.cell 3
  have tl := Ht.out.lt
  have o0 := Ho.out.cell 0
  have o1 := Ho.out.cell 1
  have o2 := Ho.out.cell 2
  have o3 := Ho.out.cell 3
  have ol := Ho.out.lt
  have e0 := He.out.cell 0
  have e1 := He.out.cell 1
  have el := He.out.lt
  have f0 := Hf.out.cell 0
  have f1 := Hf.out.cell 1
  have fl := Hf.out.lt
  simp only [List.getElem?_cons_zero, List.getElem?_cons_succ] at t0 t1 t2 t3 o0 o1 o2 o3 e0 e1 f0 f1
  clear s_t
  clear s_o
  clear s_e
  have a_f : B0 ≤ gf := by omega
  clear s_0
  go_wp2_with fail
  with_reducible refine (HD.out w5 (H.out.keep Hbl.out) (Hl.out.keep Hbl.out)).mono ?_
  rintro e w6 ⟨rfl, hb⟩
  clear t0 t1 t2 t3 o0 o1 o2 o3 e0 e1 f0 f1 tl ol el fl
  replace Ht := hide (Ht.out.keep hb)
  replace Ho := hide (Ho.out.keep hb)
  replace He := hide (He.out.keep hb)
  replace Hf := hide (Hf.out.keep hb)
  replace Q1 := hide (Q1.out.keep hb)
  replace Q2 := hide (Q2.out.keep hb)
  replace Q3 := hide (Q3.out.keep hb)
  replace HRW := hide (HRW.out.keep hb)
  replace Hbl := hide (Hbl.out.trans (hb.mono Hbl.out.size))
  clear hb
  unfold fault
  have t0 := Ht.out.cell 0
  have t1 := Ht.out.cell 1
  have t2 := Ht.out.cell 2
  have t3 := Ht.out.cell 3
  have tl := Ht.out.lt
  have o0 := Ho.out.cell 0
  have o1 := Ho.out.cell 1
  have o2 := Ho.out.cell 2
  have o3 := Ho.out.cell 3
  have ol := Ho.out.lt
  have e0 := He.out.cell 0
  have e1 := He.out.cell 1
  have el := He.out.lt
  have f0 := Hf.out.cell 0
  have f1 := Hf.out.cell 1
  have fl := Hf.out.lt
  simp only [List.getElem?_cons_zero, List.getElem?_cons_succ] at t0 t1 t2 t3 o0 o1 o2 o3 e0 e1 f0 f1
  go_upto_region 6 with (fail)
  have s_t : gT < w6.heap.size := tl
  have s_o : gO < w6.heap.size := ol
  have s_e : gO + 1 < w6.heap.size := el
  have s_f : gf < w6.heap.size := fl
  have s_0 : B0 ≤ w6.heap.size := Nat.le_trans (Nat.le_of_eq HB0.out) Hbl.out.size
  have hyk := Blk.new (w6) 29 [.int .i64 0, .int .i64 0]
  have hbW : Below (w6).heap.size (w6) ((w6).alloc (.cells #[.int .i64 0, .int .i64 0] 29)) := (Below.refl _ _).alloc (Nat.le_refl _) _
  obtain ⟨w7, hW⟩ : ∃ W, W = (w6).alloc (.cells #[.int .i64 0, .int .i64 0] 29) := ⟨_, rfl⟩
  rw [← hW] at hyk hbW ⊢
  replace Ht := hide (Ht.out.keep hbW)
  replace Ho := hide (Ho.out.keep hbW)
  replace He := hide (He.out.keep hbW)
  replace Hf := hide (Hf.out.keep hbW)
  replace Q1 := hide (Q1.out.keep hbW)
  replace Q2 := hide (Q2.out.keep hbW)
  replace Q3 := hide (Q3.out.keep hbW)
  replace HRW := hide (HRW.out.keep hbW)
  replace Hbl := hide (Hbl.out.trans (hbW.mono Hbl.out.size))
  have Hk := hide hyk
  clear hW hbW hyk
  generalize w6.heap.size = gc at Hk s_t s_o s_e s_f s_0 ⊢
  have t0 := Ht.out.cell 0
  have t1 := Ht.out.cell 1
  have t2 := Ht.out.cell 2
  have t3 := Ht.out.cell 3
  have tl := Ht.out.lt
  have o0 := Ho.out.cell 0
  have o1 := Ho.out.cell 1
  have o2 := Ho.out.cell 2
  have o3 := Ho.out.cell 3
  have ol := Ho.out.lt
  have e0 := He.out.cell 0
  have e1 := He.out.cell 1
  have el := He.out.lt
  have f0 := Hf.out.cell 0
  have f1 := Hf.out.cell 1
  have fl := Hf.out.lt
  have k0 := Hk.out.cell 0
  have k1 := Hk.out.cell 1
  have kl := Hk.out.lt
  simp only [List.getElem?_cons_zero, List.getElem?_cons_succ] at t0 t1 t2 t3 o0 o1 o2 o3 e0 e1 f0 f1 k0 k1
  clear s_t
  clear s_o
  clear s_e
  clear s_f
  have a_k : B0 ≤ gc := by omega
  clear s_0
  go_wp2_with fail
  with_reducible refine (HK.out w7 (H.out.keep Hbl.out) (by omega) (Hs.out.keep Hbl.out)).mono ?_
  rintro e w8 ⟨rfl, hb⟩
  clear t0 t1 t2 t3 o0 o1 o2 o3 e0 e1 f0 f1 k0 k1 tl ol el fl kl
  replace Ht := hide (Ht.out.keep hb)
  replace Ho := hide (Ho.out.keep hb)
  replace He := hide (He.out.keep hb)
  replace Hf := hide (Hf.out.keep hb)
  replace Hk := hide (Hk.out.keep hb)
  replace Q1 := hide (Q1.out.keep hb)
  replace Q2 := hide (Q2.out.keep hb)
  replace Q3 := hide (Q3.out.keep hb)
  replace HRW := hide (HRW.out.keep hb)
  replace Hbl := hide (Hbl.out.trans (hb.mono Hbl.out.size))
  clear hb
  have t0 := Ht.out.cell 0
  have t1 := Ht.out.cell 1
  have t2 := Ht.out.cell 2
  have t3 := Ht.out.cell 3
  have tl := Ht.out.lt
  have o0 := Ho.out.cell 0
  have o1 := Ho.out.cell 1
  have o2 := Ho.out.cell 2
  have o3 := Ho.out.cell 3
  have ol := Ho.out.lt
  have e0 := He.out.cell 0
  have e1 := He.out.cell 1
  have el := He.out.lt
  have f0 := Hf.out.cell 0
  have f1 := Hf.out.cell 1
  have fl := Hf.out.lt
  have k0 := Hk.out.cell 0
  have k1 := Hk.out.cell 1
  have kl := Hk.out.lt
  simp only [List.getElem?_cons_zero, List.getElem?_cons_succ] at t0 t1 t2 t3 o0 o1 o2 o3 e0 e1 f0 f1 k0 k1
  go_wp2_with fail
  go_ret
  exact ⟨ret_bool rfl, Hbl.out⟩
set_option maxRecDepth 100000 in
set_option maxHeartbeats 6400000 in
theorem seqLawD (a : TA) (T : Tsk) (B : Option Addr) (m d : Nat) (l : List Int) (C : Option Addr) (np dp : Nat) (s : List Int) (w : World) (h : TkR w a T) (hl : Rd Enc.int w B m d l) (hs : Rd Enc.int w C np dp s) (hcr : combineR T l = (zeroOp, false, 0, 0)) (rs : List (List Int)) (pc pi : Int) (hpc : pc ≠ 0) (hpr : playR T s l = (rs, pc, pi)) (co : Int) (hdr : scostR T l = (co, 0, 0)) (hf : 0 ≤ T.facts) (hset : setB T.facts s = true) :
    Calls Try.prog 11 #[.agg #[.int .i64 T.facts, .slice a.I a.nI a.cI, .slice a.G a.nG a.cG, .slice a.O a.nO a.cO], .slice B m d, .slice C np dp] w (Gives w (.bool true)) := by
  obtain ⟨I, nI, cI, G, nG, cG, O, nO, cO⟩ := a
  have H := hide h
  have Hl := hide hl
  have Hs := hide hs
  have HC := Combine_ct ⟨I, nI, cI, G, nG, cG, O, nO, cO⟩ T B m d l
  rw [hcr] at HC
  have HP := Play_ct ⟨I, nI, cI, G, nG, cG, O, nO, cO⟩ T C np dp s B m d l
  rw [hpr] at HP
  have HD := SCost_ct ⟨I, nI, cI, G, nG, cG, O, nO, cO⟩ T B m d l
  rw [hdr] at HD
  simp only at HC HP HD ⊢
  replace HC := hide HC
  replace HP := hide HP
  replace HD := hide HD
  clear h hl hs hcr hpr hdr
  have HK := RStateOk_ct ⟨I, nI, cI, G, nG, cG, O, nO, cO⟩ T C np dp s
  rw [hset] at HK
  replace HK := hide HK
  clear hset
  have Hbl := hide (Below.refl w.heap.size w)
  go_enter Try.func11, Try.ntmps11
  go_upto_region 1 with (fail)
  obtain ⟨B0, hB0⟩ : ∃ B0, B0 = w.heap.size := ⟨_, rfl⟩
  have HB0 := hide hB0
  clear hB0
  have s_0 : B0 ≤ w.heap.size := Nat.le_trans (Nat.le_of_eq HB0.out) Hbl.out.size
  have hyt := Blk.new (w) 25 [.int .i64 T.facts, .slice I nI cI, .slice G nG cG, .slice O nO cO]
  have hbW : Below (w).heap.size (w) ((w).alloc (.cells #[.int .i64 T.facts, .slice I nI cI, .slice G nG cG, .slice O nO cO] 25)) := (Below.refl _ _).alloc (Nat.le_refl _) _
  obtain ⟨w0, hW⟩ : ∃ W, W = (w).alloc (.cells #[.int .i64 T.facts, .slice I nI cI, .slice G nG cG, .slice O nO cO] 25) := ⟨_, rfl⟩
  rw [← hW] at hyt hbW ⊢
  replace Hbl := hide (Hbl.out.trans (hbW.mono Hbl.out.size))
  have Ht := hide hyt
  clear hW hbW hyt
  generalize w.heap.size = gT at Ht s_0 ⊢
  have t0 := Ht.out.cell 0
  have t1 := Ht.out.cell 1
  have t2 := Ht.out.cell 2
  have t3 := Ht.out.cell 3
  have tl := Ht.out.lt
  simp only [List.getElem?_cons_zero, List.getElem?_cons_succ] at t0 t1 t2 t3
  have a_t : B0 ≤ gT := by omega
  clear s_0
  go_wp2_with fail
  with_reducible refine (macrosExample_ct w0).mono ?_
  rintro e w1 ⟨rfl, hb⟩
  clear t0 t1 t2 t3 tl
  replace Ht := hide (Ht.out.keep hb)
  replace Hbl := hide (Hbl.out.trans (hb.mono Hbl.out.size))
  clear hb
  have t0 := Ht.out.cell 0
  have t1 := Ht.out.cell 1
  have t2 := Ht.out.cell 2
  have t3 := Ht.out.cell 3
  have tl := Ht.out.lt
  simp only [List.getElem?_cons_zero, List.getElem?_cons_succ] at t0 t1 t2 t3
  go_wp2_with fail
  with_reducible refine (HC.out w1 (H.out.keep Hbl.out) (Hl.out.keep Hbl.out)).mono ?_
  rintro e w2 ⟨hb, v, rfl, A1, n1, c1, A2, n2, c2, A3, n3, c3, rfl, q1, q2, q3⟩
  have Q1 := hide q1.rd
  have Q2 := hide q2.rd
  have Q3 := hide q3.rd
  clear q1 q2 q3
  have hz0 : zeroOp.cost = 0 := rfl
  rw [hz0]
  clear t0 t1 t2 t3 tl
  replace Ht := hide (Ht.out.keep hb)
  replace Hbl := hide (Hbl.out.trans (hb.mono Hbl.out.size))
  clear hb
  unfold fault
  have t0 := Ht.out.cell 0
  have t1 := Ht.out.cell 1
  have t2 := Ht.out.cell 2
  have t3 := Ht.out.cell 3
  have tl := Ht.out.lt
  simp only [List.getElem?_cons_zero, List.getElem?_cons_succ] at t0 t1 t2 t3
  go_upto_region 4 with (fail)
  have s_t : gT < w2.heap.size := tl
  have s_0 : B0 ≤ w2.heap.size := Nat.le_trans (Nat.le_of_eq HB0.out) Hbl.out.size
  have hyo := Blk.new (w2) 27 [.slice A1 n1 c1, .slice A2 n2 c2, .slice A3 n3 c3, .int .i64 0]
  have hye := Blk.new ((w2).alloc (.cells #[.slice A1 n1 c1, .slice A2 n2 c2, .slice A3 n3 c3, .int .i64 0] 27)) 29 [.int .i64 0, .int .i64 0]
  replace hyo := hyo.alloc (.cells #[.int .i64 0, .int .i64 0] 29)
  have hbW := below_two w2 (.cells #[.slice A1 n1 c1, .slice A2 n2 c2, .slice A3 n3 c3, .int .i64 0] 27) (.cells #[.int .i64 0, .int .i64 0] 29)
  simp only [World.size_alloc] at hye
  obtain ⟨w3, hW⟩ : ∃ W, W = ((w2).alloc (.cells #[.slice A1 n1 c1, .slice A2 n2 c2, .slice A3 n3 c3, .int .i64 0] 27)).alloc (.cells #[.int .i64 0, .int .i64 0] 29) := ⟨_, rfl⟩
  rw [← hW] at hyo hye hbW ⊢
  replace Ht := hide (Ht.out.keep hbW)
  replace Q1 := hide (Q1.out.keep hbW)
  replace Q2 := hide (Q2.out.keep hbW)
  replace Q3 := hide (Q3.out.keep hbW)
  replace Hbl := hide (Hbl.out.trans (hbW.mono Hbl.out.size))
  have Ho := hide hyo
  have He := hide hye
  clear hW hbW hyo hye
  generalize w2.heap.size = gO at Ho He s_t s_0 ⊢
  have t0 := Ht.out.cell 0
  have t1 := Ht.out.cell 1
  have t2 := Ht.out.cell 2
  have t3 := Ht.out.cell 3
  have tl := Ht.out.lt
  have o0 := Ho.out.cell 0
  have o1 := Ho.out.cell 1
  have o2 := Ho.out.cell 2
  have o3 := Ho.out.cell 3
  have ol := Ho.out.lt
  have e0 := He.out.cell 0
  have e1 := He.out.cell 1
  have el := He.out.lt
  simp only [List.getElem?_cons_zero, List.getElem?_cons_succ] at t0 t1 t2 t3 o0 o1 o2 o3 e0 e1
  clear s_t
  have a_o : B0 ≤ gO := by omega
  have a_e : B0 ≤ gO + 1 := by omega
  clear s_0
  have n_o_e : ¬ gO = gO + 1 := by omega
  have n_e_o : ¬ gO + 1 = gO := by omega
  go_wp2_with fail
  with_reducible refine (HP.out w3 (H.out.keep Hbl.out) (Hs.out.keep Hbl.out) (Hl.out.keep Hbl.out)).mono ?_
  rintro e w4 ⟨hb, R, nr, cr, rfl, hx⟩
  have HRW := hide (hx w4 (Chg.refl _ _))
  clear hx
  clear t0 t1 t2 t3 o0 o1 o2 o3 e0 e1 tl ol el
  replace Ht := hide (Ht.out.keep hb)
  replace Ho := hide (Ho.out.keep hb)
  replace He := hide (He.out.keep hb)
  replace Q1 := hide (Q1.out.keep hb)
  replace Q2 := hide (Q2.out.keep hb)
  replace Q3 := hide (Q3.out.keep hb)
  replace Hbl := hide (Hbl.out.trans (hb.mono Hbl.out.size))
  clear hb
  unfold fault
  have t0 := Ht.out.cell 0
  have t1 := Ht.out.cell 1
  have t2 := Ht.out.cell 2
  have t3 := Ht.out.cell 3
  have tl := Ht.out.lt
  have o0 := Ho.out.cell 0
  have o1 := Ho.out.cell 1
  have o2 := Ho.out.cell 2
  have o3 := Ho.out.cell 3
  have ol := Ho.out.lt
  have e0 := He.out.cell 0
  have e1 := He.out.cell 1
  have el := He.out.lt
  simp only [List.getElem?_cons_zero, List.getElem?_cons_succ] at t0 t1 t2 t3 o0 o1 o2 o3 e0 e1
  go_upto_region 5 with (fail)
  have s_t : gT < w4.heap.size := tl
  have s_o : gO < w4.heap.size := ol
  have s_e : gO + 1 < w4.heap.size := el
  have s_0 : B0 ≤ w4.heap.size := Nat.le_trans (Nat.le_of_eq HB0.out) Hbl.out.size
  have hyf := Blk.new (w4) 29 [.int .i64 pc, .int .i64 pi]
  have hbW : Below (w4).heap.size (w4) ((w4).alloc (.cells #[.int .i64 pc, .int .i64 pi] 29)) := (Below.refl _ _).alloc (Nat.le_refl _) _
  obtain ⟨w5, hW⟩ : ∃ W, W = (w4).alloc (.cells #[.int .i64 pc, .int .i64 pi] 29) := ⟨_, rfl⟩
  rw [← hW] at hyf hbW ⊢
  replace Ht := hide (Ht.out.keep hbW)
  replace Ho := hide (Ho.out.keep hbW)
  replace He := hide (He.out.keep hbW)
  replace Q1 := hide (Q1.out.keep hbW)
  replace Q2 := hide (Q2.out.keep hbW)
  replace Q3 := hide (Q3.out.keep hbW)
  replace HRW := hide (HRW.out.keep hbW)
  replace Hbl := hide (Hbl.out.trans (hbW.mono Hbl.out.size))
  have Hf := hide hyf
  clear hW hbW hyf
  generalize w4.heap.size = gf at Hf s_t s_o s_e s_0 ⊢
  have t0 := Ht.out.cell 0
  have t1 := Ht.out.cell 1
  have t2 := Ht.out.cell 2
  have t3 := Ht.out.cell 3
  have tl := Ht.out.lt
  have o0 := Ho.out.cell 0
  have o1 := Ho.out.cell 1
  have o2 := Ho.out.cell 2
  have o3 := Ho.out.cell 3
  have ol := Ho.out.lt
  have e0 := He.out.cell 0
  have e1 := He.out.cell 1
  have el := He.out.lt
  have f0 := Hf.out.cell 0
  have f1 := Hf.out.cell 1
  have fl := Hf.out.lt
  simp only [List.getElem?_cons_zero, List.getElem?_cons_succ] at t0 t1 t2 t3 o0 o1 o2 o3 e0 e1 f0 f1
  clear s_t
  clear s_o
  clear s_e
  have a_f : B0 ≤ gf := by omega
  clear s_0
  go_wp2_with fail
  with_reducible refine (HD.out w5 (H.out.keep Hbl.out) (Hl.out.keep Hbl.out)).mono ?_
  rintro e w6 ⟨rfl, hb⟩
  clear t0 t1 t2 t3 o0 o1 o2 o3 e0 e1 f0 f1 tl ol el fl
  replace Ht := hide (Ht.out.keep hb)
  replace Ho := hide (Ho.out.keep hb)
  replace He := hide (He.out.keep hb)
  replace Hf := hide (Hf.out.keep hb)
  replace Q1 := hide (Q1.out.keep hb)
  replace Q2 := hide (Q2.out.keep hb)
  replace Q3 := hide (Q3.out.keep hb)
  replace HRW := hide (HRW.out.keep hb)
  replace Hbl := hide (Hbl.out.trans (hb.mono Hbl.out.size))
  clear hb
  unfold fault
  have t0 := Ht.out.cell 0
  have t1 := Ht.out.cell 1
  have t2 := Ht.out.cell 2
  have t3 := Ht.out.cell 3
  have tl := Ht.out.lt
  have o0 := Ho.out.cell 0
  have o1 := Ho.out.cell 1
  have o2 := Ho.out.cell 2
  have o3 := Ho.out.cell 3
  have ol := Ho.out.lt
  have e0 := He.out.cell 0
  have e1 := He.out.cell 1
  have el := He.out.lt
  have f0 := Hf.out.cell 0
  have f1 := Hf.out.cell 1
  have fl := Hf.out.lt
  simp only [List.getElem?_cons_zero, List.getElem?_cons_succ] at t0 t1 t2 t3 o0 o1 o2 o3 e0 e1 f0 f1
  go_upto_region 6 with (fail)
  have s_t : gT < w6.heap.size := tl
  have s_o : gO < w6.heap.size := ol
  have s_e : gO + 1 < w6.heap.size := el
  have s_f : gf < w6.heap.size := fl
  have s_0 : B0 ≤ w6.heap.size := Nat.le_trans (Nat.le_of_eq HB0.out) Hbl.out.size
  have hyk := Blk.new (w6) 29 [.int .i64 0, .int .i64 0]
  have hbW : Below (w6).heap.size (w6) ((w6).alloc (.cells #[.int .i64 0, .int .i64 0] 29)) := (Below.refl _ _).alloc (Nat.le_refl _) _
  obtain ⟨w7, hW⟩ : ∃ W, W = (w6).alloc (.cells #[.int .i64 0, .int .i64 0] 29) := ⟨_, rfl⟩
  rw [← hW] at hyk hbW ⊢
  replace Ht := hide (Ht.out.keep hbW)
  replace Ho := hide (Ho.out.keep hbW)
  replace He := hide (He.out.keep hbW)
  replace Hf := hide (Hf.out.keep hbW)
  replace Q1 := hide (Q1.out.keep hbW)
  replace Q2 := hide (Q2.out.keep hbW)
  replace Q3 := hide (Q3.out.keep hbW)
  replace HRW := hide (HRW.out.keep hbW)
  replace Hbl := hide (Hbl.out.trans (hbW.mono Hbl.out.size))
  have Hk := hide hyk
  clear hW hbW hyk
  generalize w6.heap.size = gc at Hk s_t s_o s_e s_f s_0 ⊢
  have t0 := Ht.out.cell 0
  have t1 := Ht.out.cell 1
  have t2 := Ht.out.cell 2
  have t3 := Ht.out.cell 3
  have tl := Ht.out.lt
  have o0 := Ho.out.cell 0
  have o1 := Ho.out.cell 1
  have o2 := Ho.out.cell 2
  have o3 := Ho.out.cell 3
  have ol := Ho.out.lt
  have e0 := He.out.cell 0
  have e1 := He.out.cell 1
  have el := He.out.lt
  have f0 := Hf.out.cell 0
  have f1 := Hf.out.cell 1
  have fl := Hf.out.lt
  have k0 := Hk.out.cell 0
  have k1 := Hk.out.cell 1
  have kl := Hk.out.lt
  simp only [List.getElem?_cons_zero, List.getElem?_cons_succ] at t0 t1 t2 t3 o0 o1 o2 o3 e0 e1 f0 f1 k0 k1
  clear s_t
  clear s_o
  clear s_e
  clear s_f
  have a_k : B0 ≤ gc := by omega
  clear s_0
  go_wp2_with fail
  with_reducible refine (HK.out w7 (H.out.keep Hbl.out) (by omega) (Hs.out.keep Hbl.out)).mono ?_
  rintro e w8 ⟨rfl, hb⟩
  clear t0 t1 t2 t3 o0 o1 o2 o3 e0 e1 f0 f1 k0 k1 tl ol el fl kl
  replace Ht := hide (Ht.out.keep hb)
  replace Ho := hide (Ho.out.keep hb)
  replace He := hide (He.out.keep hb)
  replace Hf := hide (Hf.out.keep hb)
  replace Hk := hide (Hk.out.keep hb)
  replace Q1 := hide (Q1.out.keep hb)
  replace Q2 := hide (Q2.out.keep hb)
  replace Q3 := hide (Q3.out.keep hb)
  replace HRW := hide (HRW.out.keep hb)
  replace Hbl := hide (Hbl.out.trans (hb.mono Hbl.out.size))
  clear hb
  have t0 := Ht.out.cell 0
  have t1 := Ht.out.cell 1
  have t2 := Ht.out.cell 2
  have t3 := Ht.out.cell 3
  have tl := Ht.out.lt
  have o0 := Ho.out.cell 0
  have o1 := Ho.out.cell 1
  have o2 := Ho.out.cell 2
  have o3 := Ho.out.cell 3
  have ol := Ho.out.lt
  have e0 := He.out.cell 0
  have e1 := He.out.cell 1
  have el := He.out.lt
  have f0 := Hf.out.cell 0
  have f1 := Hf.out.cell 1
  have fl := Hf.out.lt
  have k0 := Hk.out.cell 0
  have k1 := Hk.out.cell 1
  have kl := Hk.out.lt
  simp only [List.getElem?_cons_zero, List.getElem?_cons_succ] at t0 t1 t2 t3 o0 o1 o2 o3 e0 e1 f0 f1 k0 k1
  have hne : (pc != 0) = true := by simpa using hpc
  go_wp2_with fail
  go_ret
  exact ⟨ret_bool (by simp), Hbl.out⟩
set_option maxRecDepth 100000 in
set_option maxHeartbeats 6400000 in
theorem seqLawE (a : TA) (T : Tsk) (B : Option Addr) (m d : Nat) (l : List Int) (C : Option Addr) (np dp : Nat) (s : List Int) (w : World) (h : TkR w a T) (hl : Rd Enc.int w B m d l) (hs : Rd Enc.int w C np dp s) (o : Opr) (hcr : combineR T l = (o, true, 0, 0)) (rs : List (List Int)) (pc pi : Int) (hpc : pc ≠ 0) (hpr : playR T s l = (rs, pc, pi)) (co : Int) (hdr : scostR T l = (co, 0, 0)) (hf : 0 ≤ T.facts) (hset : setB T.facts s = true) (hsub : subsetB o.pre s = false) :
    Calls Try.prog 11 #[.agg #[.int .i64 T.facts, .slice a.I a.nI a.cI, .slice a.G a.nG a.cG, .slice a.O a.nO a.cO], .slice B m d, .slice C np dp] w (Gives w (.bool true)) := by
  obtain ⟨I, nI, cI, G, nG, cG, O, nO, cO⟩ := a
  have H := hide h
  have Hl := hide hl
  have Hs := hide hs
  have HC := Combine_ct ⟨I, nI, cI, G, nG, cG, O, nO, cO⟩ T B m d l
  rw [hcr] at HC
  have HP := Play_ct ⟨I, nI, cI, G, nG, cG, O, nO, cO⟩ T C np dp s B m d l
  rw [hpr] at HP
  have HD := SCost_ct ⟨I, nI, cI, G, nG, cG, O, nO, cO⟩ T B m d l
  rw [hdr] at HD
  simp only at HC HP HD ⊢
  replace HC := hide HC
  replace HP := hide HP
  replace HD := hide HD
  clear h hl hs hcr hpr hdr
  have HK := RStateOk_ct ⟨I, nI, cI, G, nG, cG, O, nO, cO⟩ T C np dp s
  rw [hset] at HK
  replace HK := hide HK
  clear hset
  have Hsub := hide hsub
  clear hsub
  have Hbl := hide (Below.refl w.heap.size w)
  go_enter Try.func11, Try.ntmps11
  go_upto_region 1 with (fail)
  obtain ⟨B0, hB0⟩ : ∃ B0, B0 = w.heap.size := ⟨_, rfl⟩
  have HB0 := hide hB0
  clear hB0
  have s_0 : B0 ≤ w.heap.size := Nat.le_trans (Nat.le_of_eq HB0.out) Hbl.out.size
  have hyt := Blk.new (w) 25 [.int .i64 T.facts, .slice I nI cI, .slice G nG cG, .slice O nO cO]
  have hbW : Below (w).heap.size (w) ((w).alloc (.cells #[.int .i64 T.facts, .slice I nI cI, .slice G nG cG, .slice O nO cO] 25)) := (Below.refl _ _).alloc (Nat.le_refl _) _
  obtain ⟨w0, hW⟩ : ∃ W, W = (w).alloc (.cells #[.int .i64 T.facts, .slice I nI cI, .slice G nG cG, .slice O nO cO] 25) := ⟨_, rfl⟩
  rw [← hW] at hyt hbW ⊢
  replace Hbl := hide (Hbl.out.trans (hbW.mono Hbl.out.size))
  have Ht := hide hyt
  clear hW hbW hyt
  generalize w.heap.size = gT at Ht s_0 ⊢
  have t0 := Ht.out.cell 0
  have t1 := Ht.out.cell 1
  have t2 := Ht.out.cell 2
  have t3 := Ht.out.cell 3
  have tl := Ht.out.lt
  simp only [List.getElem?_cons_zero, List.getElem?_cons_succ] at t0 t1 t2 t3
  have a_t : B0 ≤ gT := by omega
  clear s_0
  go_wp2_with fail
  with_reducible refine (macrosExample_ct w0).mono ?_
  rintro e w1 ⟨rfl, hb⟩
  clear t0 t1 t2 t3 tl
  replace Ht := hide (Ht.out.keep hb)
  replace Hbl := hide (Hbl.out.trans (hb.mono Hbl.out.size))
  clear hb
  have t0 := Ht.out.cell 0
  have t1 := Ht.out.cell 1
  have t2 := Ht.out.cell 2
  have t3 := Ht.out.cell 3
  have tl := Ht.out.lt
  simp only [List.getElem?_cons_zero, List.getElem?_cons_succ] at t0 t1 t2 t3
  go_wp2_with fail
  with_reducible refine (HC.out w1 (H.out.keep Hbl.out) (Hl.out.keep Hbl.out)).mono ?_
  rintro e w2 ⟨hb, v, rfl, A1, n1, c1, A2, n2, c2, A3, n3, c3, rfl, q1, q2, q3⟩
  have Q1 := hide q1.rd
  have Q2 := hide q2.rd
  have Q3 := hide q3.rd
  clear q1 q2 q3
  clear t0 t1 t2 t3 tl
  replace Ht := hide (Ht.out.keep hb)
  replace Hbl := hide (Hbl.out.trans (hb.mono Hbl.out.size))
  clear hb
  unfold fault
  have t0 := Ht.out.cell 0
  have t1 := Ht.out.cell 1
  have t2 := Ht.out.cell 2
  have t3 := Ht.out.cell 3
  have tl := Ht.out.lt
  simp only [List.getElem?_cons_zero, List.getElem?_cons_succ] at t0 t1 t2 t3
  go_upto_region 4 with (fail)
  have s_t : gT < w2.heap.size := tl
  have s_0 : B0 ≤ w2.heap.size := Nat.le_trans (Nat.le_of_eq HB0.out) Hbl.out.size
  have hyo := Blk.new (w2) 27 [.slice A1 n1 c1, .slice A2 n2 c2, .slice A3 n3 c3, .int .i64 o.cost]
  have hye := Blk.new ((w2).alloc (.cells #[.slice A1 n1 c1, .slice A2 n2 c2, .slice A3 n3 c3, .int .i64 o.cost] 27)) 29 [.int .i64 0, .int .i64 0]
  replace hyo := hyo.alloc (.cells #[.int .i64 0, .int .i64 0] 29)
  have hbW := below_two w2 (.cells #[.slice A1 n1 c1, .slice A2 n2 c2, .slice A3 n3 c3, .int .i64 o.cost] 27) (.cells #[.int .i64 0, .int .i64 0] 29)
  simp only [World.size_alloc] at hye
  obtain ⟨w3, hW⟩ : ∃ W, W = ((w2).alloc (.cells #[.slice A1 n1 c1, .slice A2 n2 c2, .slice A3 n3 c3, .int .i64 o.cost] 27)).alloc (.cells #[.int .i64 0, .int .i64 0] 29) := ⟨_, rfl⟩
  rw [← hW] at hyo hye hbW ⊢
  replace Ht := hide (Ht.out.keep hbW)
  replace Q1 := hide (Q1.out.keep hbW)
  replace Q2 := hide (Q2.out.keep hbW)
  replace Q3 := hide (Q3.out.keep hbW)
  replace Hbl := hide (Hbl.out.trans (hbW.mono Hbl.out.size))
  have Ho := hide hyo
  have He := hide hye
  clear hW hbW hyo hye
  generalize w2.heap.size = gO at Ho He s_t s_0 ⊢
  have t0 := Ht.out.cell 0
  have t1 := Ht.out.cell 1
  have t2 := Ht.out.cell 2
  have t3 := Ht.out.cell 3
  have tl := Ht.out.lt
  have o0 := Ho.out.cell 0
  have o1 := Ho.out.cell 1
  have o2 := Ho.out.cell 2
  have o3 := Ho.out.cell 3
  have ol := Ho.out.lt
  have e0 := He.out.cell 0
  have e1 := He.out.cell 1
  have el := He.out.lt
  simp only [List.getElem?_cons_zero, List.getElem?_cons_succ] at t0 t1 t2 t3 o0 o1 o2 o3 e0 e1
  clear s_t
  have a_o : B0 ≤ gO := by omega
  have a_e : B0 ≤ gO + 1 := by omega
  clear s_0
  have n_o_e : ¬ gO = gO + 1 := by omega
  have n_e_o : ¬ gO + 1 = gO := by omega
  go_wp2_with fail
  with_reducible refine (HP.out w3 (H.out.keep Hbl.out) (Hs.out.keep Hbl.out) (Hl.out.keep Hbl.out)).mono ?_
  rintro e w4 ⟨hb, R, nr, cr, rfl, hx⟩
  have HRW := hide (hx w4 (Chg.refl _ _))
  clear hx
  clear t0 t1 t2 t3 o0 o1 o2 o3 e0 e1 tl ol el
  replace Ht := hide (Ht.out.keep hb)
  replace Ho := hide (Ho.out.keep hb)
  replace He := hide (He.out.keep hb)
  replace Q1 := hide (Q1.out.keep hb)
  replace Q2 := hide (Q2.out.keep hb)
  replace Q3 := hide (Q3.out.keep hb)
  replace Hbl := hide (Hbl.out.trans (hb.mono Hbl.out.size))
  clear hb
  unfold fault
  have t0 := Ht.out.cell 0
  have t1 := Ht.out.cell 1
  have t2 := Ht.out.cell 2
  have t3 := Ht.out.cell 3
  have tl := Ht.out.lt
  have o0 := Ho.out.cell 0
  have o1 := Ho.out.cell 1
  have o2 := Ho.out.cell 2
  have o3 := Ho.out.cell 3
  have ol := Ho.out.lt
  have e0 := He.out.cell 0
  have e1 := He.out.cell 1
  have el := He.out.lt
  simp only [List.getElem?_cons_zero, List.getElem?_cons_succ] at t0 t1 t2 t3 o0 o1 o2 o3 e0 e1
  go_upto_region 5 with (fail)
  have s_t : gT < w4.heap.size := tl
  have s_o : gO < w4.heap.size := ol
  have s_e : gO + 1 < w4.heap.size := el
  have s_0 : B0 ≤ w4.heap.size := Nat.le_trans (Nat.le_of_eq HB0.out) Hbl.out.size
  have hyf := Blk.new (w4) 29 [.int .i64 pc, .int .i64 pi]
  have hbW : Below (w4).heap.size (w4) ((w4).alloc (.cells #[.int .i64 pc, .int .i64 pi] 29)) := (Below.refl _ _).alloc (Nat.le_refl _) _
  obtain ⟨w5, hW⟩ : ∃ W, W = (w4).alloc (.cells #[.int .i64 pc, .int .i64 pi] 29) := ⟨_, rfl⟩
  rw [← hW] at hyf hbW ⊢
  replace Ht := hide (Ht.out.keep hbW)
  replace Ho := hide (Ho.out.keep hbW)
  replace He := hide (He.out.keep hbW)
  replace Q1 := hide (Q1.out.keep hbW)
  replace Q2 := hide (Q2.out.keep hbW)
  replace Q3 := hide (Q3.out.keep hbW)
  replace HRW := hide (HRW.out.keep hbW)
  replace Hbl := hide (Hbl.out.trans (hbW.mono Hbl.out.size))
  have Hf := hide hyf
  clear hW hbW hyf
  generalize w4.heap.size = gf at Hf s_t s_o s_e s_0 ⊢
  have t0 := Ht.out.cell 0
  have t1 := Ht.out.cell 1
  have t2 := Ht.out.cell 2
  have t3 := Ht.out.cell 3
  have tl := Ht.out.lt
  have o0 := Ho.out.cell 0
  have o1 := Ho.out.cell 1
  have o2 := Ho.out.cell 2
  have o3 := Ho.out.cell 3
  have ol := Ho.out.lt
  have e0 := He.out.cell 0
  have e1 := He.out.cell 1
  have el := He.out.lt
  have f0 := Hf.out.cell 0
  have f1 := Hf.out.cell 1
  have fl := Hf.out.lt
  simp only [List.getElem?_cons_zero, List.getElem?_cons_succ] at t0 t1 t2 t3 o0 o1 o2 o3 e0 e1 f0 f1
  clear s_t
  clear s_o
  clear s_e
  have a_f : B0 ≤ gf := by omega
  clear s_0
  go_wp2_with fail
  with_reducible refine (HD.out w5 (H.out.keep Hbl.out) (Hl.out.keep Hbl.out)).mono ?_
  rintro e w6 ⟨rfl, hb⟩
  clear t0 t1 t2 t3 o0 o1 o2 o3 e0 e1 f0 f1 tl ol el fl
  replace Ht := hide (Ht.out.keep hb)
  replace Ho := hide (Ho.out.keep hb)
  replace He := hide (He.out.keep hb)
  replace Hf := hide (Hf.out.keep hb)
  replace Q1 := hide (Q1.out.keep hb)
  replace Q2 := hide (Q2.out.keep hb)
  replace Q3 := hide (Q3.out.keep hb)
  replace HRW := hide (HRW.out.keep hb)
  replace Hbl := hide (Hbl.out.trans (hb.mono Hbl.out.size))
  clear hb
  unfold fault
  have t0 := Ht.out.cell 0
  have t1 := Ht.out.cell 1
  have t2 := Ht.out.cell 2
  have t3 := Ht.out.cell 3
  have tl := Ht.out.lt
  have o0 := Ho.out.cell 0
  have o1 := Ho.out.cell 1
  have o2 := Ho.out.cell 2
  have o3 := Ho.out.cell 3
  have ol := Ho.out.lt
  have e0 := He.out.cell 0
  have e1 := He.out.cell 1
  have el := He.out.lt
  have f0 := Hf.out.cell 0
  have f1 := Hf.out.cell 1
  have fl := Hf.out.lt
  simp only [List.getElem?_cons_zero, List.getElem?_cons_succ] at t0 t1 t2 t3 o0 o1 o2 o3 e0 e1 f0 f1
  go_upto_region 6 with (fail)
  have s_t : gT < w6.heap.size := tl
  have s_o : gO < w6.heap.size := ol
  have s_e : gO + 1 < w6.heap.size := el
  have s_f : gf < w6.heap.size := fl
  have s_0 : B0 ≤ w6.heap.size := Nat.le_trans (Nat.le_of_eq HB0.out) Hbl.out.size
  have hyk := Blk.new (w6) 29 [.int .i64 0, .int .i64 0]
  have hbW : Below (w6).heap.size (w6) ((w6).alloc (.cells #[.int .i64 0, .int .i64 0] 29)) := (Below.refl _ _).alloc (Nat.le_refl _) _
  obtain ⟨w7, hW⟩ : ∃ W, W = (w6).alloc (.cells #[.int .i64 0, .int .i64 0] 29) := ⟨_, rfl⟩
  rw [← hW] at hyk hbW ⊢
  replace Ht := hide (Ht.out.keep hbW)
  replace Ho := hide (Ho.out.keep hbW)
  replace He := hide (He.out.keep hbW)
  replace Hf := hide (Hf.out.keep hbW)
  replace Q1 := hide (Q1.out.keep hbW)
  replace Q2 := hide (Q2.out.keep hbW)
  replace Q3 := hide (Q3.out.keep hbW)
  replace HRW := hide (HRW.out.keep hbW)
  replace Hbl := hide (Hbl.out.trans (hbW.mono Hbl.out.size))
  have Hk := hide hyk
  clear hW hbW hyk
  generalize w6.heap.size = gc at Hk s_t s_o s_e s_f s_0 ⊢
  have t0 := Ht.out.cell 0
  have t1 := Ht.out.cell 1
  have t2 := Ht.out.cell 2
  have t3 := Ht.out.cell 3
  have tl := Ht.out.lt
  have o0 := Ho.out.cell 0
  have o1 := Ho.out.cell 1
  have o2 := Ho.out.cell 2
  have o3 := Ho.out.cell 3
  have ol := Ho.out.lt
  have e0 := He.out.cell 0
  have e1 := He.out.cell 1
  have el := He.out.lt
  have f0 := Hf.out.cell 0
  have f1 := Hf.out.cell 1
  have fl := Hf.out.lt
  have k0 := Hk.out.cell 0
  have k1 := Hk.out.cell 1
  have kl := Hk.out.lt
  simp only [List.getElem?_cons_zero, List.getElem?_cons_succ] at t0 t1 t2 t3 o0 o1 o2 o3 e0 e1 f0 f1 k0 k1
  clear s_t
  clear s_o
  clear s_e
  clear s_f
  have a_k : B0 ≤ gc := by omega
  clear s_0
  go_wp2_with fail
  with_reducible refine (HK.out w7 (H.out.keep Hbl.out) (by omega) (Hs.out.keep Hbl.out)).mono ?_
  rintro e w8 ⟨rfl, hb⟩
  clear t0 t1 t2 t3 o0 o1 o2 o3 e0 e1 f0 f1 k0 k1 tl ol el fl kl
  replace Ht := hide (Ht.out.keep hb)
  replace Ho := hide (Ho.out.keep hb)
  replace He := hide (He.out.keep hb)
  replace Hf := hide (Hf.out.keep hb)
  replace Hk := hide (Hk.out.keep hb)
  replace Q1 := hide (Q1.out.keep hb)
  replace Q2 := hide (Q2.out.keep hb)
  replace Q3 := hide (Q3.out.keep hb)
  replace HRW := hide (HRW.out.keep hb)
  replace Hbl := hide (Hbl.out.trans (hb.mono Hbl.out.size))
  clear hb
  have t0 := Ht.out.cell 0
  have t1 := Ht.out.cell 1
  have t2 := Ht.out.cell 2
  have t3 := Ht.out.cell 3
  have tl := Ht.out.lt
  have o0 := Ho.out.cell 0
  have o1 := Ho.out.cell 1
  have o2 := Ho.out.cell 2
  have o3 := Ho.out.cell 3
  have ol := Ho.out.lt
  have e0 := He.out.cell 0
  have e1 := He.out.cell 1
  have el := He.out.lt
  have f0 := Hf.out.cell 0
  have f1 := Hf.out.cell 1
  have fl := Hf.out.lt
  have k0 := Hk.out.cell 0
  have k1 := Hk.out.cell 1
  have kl := Hk.out.lt
  simp only [List.getElem?_cons_zero, List.getElem?_cons_succ] at t0 t1 t2 t3 o0 o1 o2 o3 e0 e1 f0 f1 k0 k1
  have hne : (pc != 0) = true := by simpa using hpc
  go_wp2_with fail
  have hct := Subset_ct A1 C n1 c1 np dp o.pre s w8 Q1.out (Hs.out.keep Hbl.out)
  rw [Hsub.out] at hct
  with_reducible refine hct.mono ?_
  rintro e w9 ⟨rfl, hq⟩
  replace Hbl := hide (Hbl.out.trans (hq.below _))
  clear hct hq
  go_wp2_with fail
  go_ret
  exact ⟨ret_bool (by simp), Hbl.out⟩
set_option maxRecDepth 100000 in
set_option maxHeartbeats 6400000 in
theorem seqLawF (a : TA) (T : Tsk) (B : Option Addr) (m d : Nat) (l : List Int) (C : Option Addr) (np dp : Nat) (s : List Int) (w : World) (h : TkR w a T) (hl : Rd Enc.int w B m d l) (hs : Rd Enc.int w C np dp s) (o : Opr) (hcr : combineR T l = (o, true, 0, 0)) (rs : List (List Int)) (hpr : playR T s l = (rs, 0, 0)) (hdr : scostR T l = (o.cost, 0, 0)) (hf : 0 ≤ T.facts) (hset : setB T.facts s = true) (nx' : List Int) (hap : applyR ⟨T.facts, [], [], [o]⟩ s 0 = (nx', 0, 0)) (hi64 : I64s o.cost) (hlen : rs.length = m + 1) (hrs : rs[m]? = some nx') (hm : m < 100) :
    Calls Try.prog 11 #[.agg #[.int .i64 T.facts, .slice a.I a.nI a.cI, .slice a.G a.nG a.cG, .slice a.O a.nO a.cO], .slice B m d, .slice C np dp] w (Gives w (.bool true)) := by
  obtain ⟨I, nI, cI, G, nG, cG, O, nO, cO⟩ := a
  have H := hide h
  have Hl := hide hl
  have Hs := hide hs
  have HC := Combine_ct ⟨I, nI, cI, G, nG, cG, O, nO, cO⟩ T B m d l
  rw [hcr] at HC
  have HP := Play_ct ⟨I, nI, cI, G, nG, cG, O, nO, cO⟩ T C np dp s B m d l
  rw [hpr] at HP
  have HD := SCost_ct ⟨I, nI, cI, G, nG, cG, O, nO, cO⟩ T B m d l
  rw [hdr] at HD
  simp only at HC HP HD ⊢
  replace HC := hide HC
  replace HP := hide HP
  replace HD := hide HD
  clear h hl hs hcr hpr hdr
  have HK := RStateOk_ct ⟨I, nI, cI, G, nG, cG, O, nO, cO⟩ T C np dp s
  rw [hset] at HK
  replace HK := hide HK
  clear hset
  have Hap := hide hap
  have Hrs := hide hrs
  have Hlen := hide hlen
  clear hap hrs hlen
  have Hbl := hide (Below.refl w.heap.size w)
  go_enter Try.func11, Try.ntmps11
  go_upto_region 1 with (fail)
  obtain ⟨B0, hB0⟩ : ∃ B0, B0 = w.heap.size := ⟨_, rfl⟩
  have HB0 := hide hB0
  clear hB0
  have s_0 : B0 ≤ w.heap.size := Nat.le_trans (Nat.le_of_eq HB0.out) Hbl.out.size
  have hyt := Blk.new (w) 25 [.int .i64 T.facts, .slice I nI cI, .slice G nG cG, .slice O nO cO]
  have hbW : Below (w).heap.size (w) ((w).alloc (.cells #[.int .i64 T.facts, .slice I nI cI, .slice G nG cG, .slice O nO cO] 25)) := (Below.refl _ _).alloc (Nat.le_refl _) _
  obtain ⟨w0, hW⟩ : ∃ W, W = (w).alloc (.cells #[.int .i64 T.facts, .slice I nI cI, .slice G nG cG, .slice O nO cO] 25) := ⟨_, rfl⟩
  rw [← hW] at hyt hbW ⊢
  replace Hbl := hide (Hbl.out.trans (hbW.mono Hbl.out.size))
  have Ht := hide hyt
  clear hW hbW hyt
  generalize w.heap.size = gT at Ht s_0 ⊢
  have t0 := Ht.out.cell 0
  have t1 := Ht.out.cell 1
  have t2 := Ht.out.cell 2
  have t3 := Ht.out.cell 3
  have tl := Ht.out.lt
  simp only [List.getElem?_cons_zero, List.getElem?_cons_succ] at t0 t1 t2 t3
  have a_t : B0 ≤ gT := by omega
  clear s_0
  go_wp2_with fail
  with_reducible refine (macrosExample_ct w0).mono ?_
  rintro e w1 ⟨rfl, hb⟩
  clear t0 t1 t2 t3 tl
  replace Ht := hide (Ht.out.keep hb)
  replace Hbl := hide (Hbl.out.trans (hb.mono Hbl.out.size))
  clear hb
  have t0 := Ht.out.cell 0
  have t1 := Ht.out.cell 1
  have t2 := Ht.out.cell 2
  have t3 := Ht.out.cell 3
  have tl := Ht.out.lt
  simp only [List.getElem?_cons_zero, List.getElem?_cons_succ] at t0 t1 t2 t3
  go_wp2_with fail
  with_reducible refine (HC.out w1 (H.out.keep Hbl.out) (Hl.out.keep Hbl.out)).mono ?_
  rintro e w2 ⟨hb, v, rfl, A1, n1, c1, A2, n2, c2, A3, n3, c3, rfl, q1, q2, q3⟩
  have Q1 := hide q1.rd
  have Q2 := hide q2.rd
  have Q3 := hide q3.rd
  clear q1 q2 q3
  clear t0 t1 t2 t3 tl
  replace Ht := hide (Ht.out.keep hb)
  replace Hbl := hide (Hbl.out.trans (hb.mono Hbl.out.size))
  clear hb
  unfold fault
  have t0 := Ht.out.cell 0
  have t1 := Ht.out.cell 1
  have t2 := Ht.out.cell 2
  have t3 := Ht.out.cell 3
  have tl := Ht.out.lt
  simp only [List.getElem?_cons_zero, List.getElem?_cons_succ] at t0 t1 t2 t3
  go_upto_region 4 with (fail)
  have s_t : gT < w2.heap.size := tl
  have s_0 : B0 ≤ w2.heap.size := Nat.le_trans (Nat.le_of_eq HB0.out) Hbl.out.size
  have hyo := Blk.new (w2) 27 [.slice A1 n1 c1, .slice A2 n2 c2, .slice A3 n3 c3, .int .i64 o.cost]
  have hye := Blk.new ((w2).alloc (.cells #[.slice A1 n1 c1, .slice A2 n2 c2, .slice A3 n3 c3, .int .i64 o.cost] 27)) 29 [.int .i64 0, .int .i64 0]
  replace hyo := hyo.alloc (.cells #[.int .i64 0, .int .i64 0] 29)
  have hbW := below_two w2 (.cells #[.slice A1 n1 c1, .slice A2 n2 c2, .slice A3 n3 c3, .int .i64 o.cost] 27) (.cells #[.int .i64 0, .int .i64 0] 29)
  simp only [World.size_alloc] at hye
  obtain ⟨w3, hW⟩ : ∃ W, W = ((w2).alloc (.cells #[.slice A1 n1 c1, .slice A2 n2 c2, .slice A3 n3 c3, .int .i64 o.cost] 27)).alloc (.cells #[.int .i64 0, .int .i64 0] 29) := ⟨_, rfl⟩
  rw [← hW] at hyo hye hbW ⊢
  replace Ht := hide (Ht.out.keep hbW)
  replace Q1 := hide (Q1.out.keep hbW)
  replace Q2 := hide (Q2.out.keep hbW)
  replace Q3 := hide (Q3.out.keep hbW)
  replace Hbl := hide (Hbl.out.trans (hbW.mono Hbl.out.size))
  have Ho := hide hyo
  have He := hide hye
  clear hW hbW hyo hye
  generalize w2.heap.size = gO at Ho He s_t s_0 ⊢
  have t0 := Ht.out.cell 0
  have t1 := Ht.out.cell 1
  have t2 := Ht.out.cell 2
  have t3 := Ht.out.cell 3
  have tl := Ht.out.lt
  have o0 := Ho.out.cell 0
  have o1 := Ho.out.cell 1
  have o2 := Ho.out.cell 2
  have o3 := Ho.out.cell 3
  have ol := Ho.out.lt
  have e0 := He.out.cell 0
  have e1 := He.out.cell 1
  have el := He.out.lt
  simp only [List.getElem?_cons_zero, List.getElem?_cons_succ] at t0 t1 t2 t3 o0 o1 o2 o3 e0 e1
  clear s_t
  have a_o : B0 ≤ gO := by omega
  have a_e : B0 ≤ gO + 1 := by omega
  clear s_0
  have n_o_e : ¬ gO = gO + 1 := by omega
  have n_e_o : ¬ gO + 1 = gO := by omega
  go_wp2_with fail
  with_reducible refine (HP.out w3 (H.out.keep Hbl.out) (Hs.out.keep Hbl.out) (Hl.out.keep Hbl.out)).mono ?_
  rintro e w4 ⟨hb, R, nr, cr, rfl, hx⟩
  have HRW := hide (hx w4 (Chg.refl _ _))
  clear hx
  clear t0 t1 t2 t3 o0 o1 o2 o3 e0 e1 tl ol el
  replace Ht := hide (Ht.out.keep hb)
  replace Ho := hide (Ho.out.keep hb)
  replace He := hide (He.out.keep hb)
  replace Q1 := hide (Q1.out.keep hb)
  replace Q2 := hide (Q2.out.keep hb)
  replace Q3 := hide (Q3.out.keep hb)
  replace Hbl := hide (Hbl.out.trans (hb.mono Hbl.out.size))
  clear hb
  unfold fault
  have t0 := Ht.out.cell 0
  have t1 := Ht.out.cell 1
  have t2 := Ht.out.cell 2
  have t3 := Ht.out.cell 3
  have tl := Ht.out.lt
  have o0 := Ho.out.cell 0
  have o1 := Ho.out.cell 1
  have o2 := Ho.out.cell 2
  have o3 := Ho.out.cell 3
  have ol := Ho.out.lt
  have e0 := He.out.cell 0
  have e1 := He.out.cell 1
  have el := He.out.lt
  simp only [List.getElem?_cons_zero, List.getElem?_cons_succ] at t0 t1 t2 t3 o0 o1 o2 o3 e0 e1
  go_upto_region 5 with (fail)
  have s_t : gT < w4.heap.size := tl
  have s_o : gO < w4.heap.size := ol
  have s_e : gO + 1 < w4.heap.size := el
  have s_0 : B0 ≤ w4.heap.size := Nat.le_trans (Nat.le_of_eq HB0.out) Hbl.out.size
  have hyf := Blk.new (w4) 29 [.int .i64 0, .int .i64 0]
  have hbW : Below (w4).heap.size (w4) ((w4).alloc (.cells #[.int .i64 0, .int .i64 0] 29)) := (Below.refl _ _).alloc (Nat.le_refl _) _
  obtain ⟨w5, hW⟩ : ∃ W, W = (w4).alloc (.cells #[.int .i64 0, .int .i64 0] 29) := ⟨_, rfl⟩
  rw [← hW] at hyf hbW ⊢
  replace Ht := hide (Ht.out.keep hbW)
  replace Ho := hide (Ho.out.keep hbW)
  replace He := hide (He.out.keep hbW)
  replace Q1 := hide (Q1.out.keep hbW)
  replace Q2 := hide (Q2.out.keep hbW)
  replace Q3 := hide (Q3.out.keep hbW)
  replace HRW := hide (HRW.out.keep hbW)
  replace Hbl := hide (Hbl.out.trans (hbW.mono Hbl.out.size))
  have Hf := hide hyf
  clear hW hbW hyf
  generalize w4.heap.size = gf at Hf s_t s_o s_e s_0 ⊢
  have t0 := Ht.out.cell 0
  have t1 := Ht.out.cell 1
  have t2 := Ht.out.cell 2
  have t3 := Ht.out.cell 3
  have tl := Ht.out.lt
  have o0 := Ho.out.cell 0
  have o1 := Ho.out.cell 1
  have o2 := Ho.out.cell 2
  have o3 := Ho.out.cell 3
  have ol := Ho.out.lt
  have e0 := He.out.cell 0
  have e1 := He.out.cell 1
  have el := He.out.lt
  have f0 := Hf.out.cell 0
  have f1 := Hf.out.cell 1
  have fl := Hf.out.lt
  simp only [List.getElem?_cons_zero, List.getElem?_cons_succ] at t0 t1 t2 t3 o0 o1 o2 o3 e0 e1 f0 f1
  clear s_t
  clear s_o
  clear s_e
  have a_f : B0 ≤ gf := by omega
  clear s_0
  go_wp2_with fail
  with_reducible refine (HD.out w5 (H.out.keep Hbl.out) (Hl.out.keep Hbl.out)).mono ?_
  rintro e w6 ⟨rfl, hb⟩
  clear t0 t1 t2 t3 o0 o1 o2 o3 e0 e1 f0 f1 tl ol el fl
  replace Ht := hide (Ht.out.keep hb)
  replace Ho := hide (Ho.out.keep hb)
  replace He := hide (He.out.keep hb)
  replace Hf := hide (Hf.out.keep hb)
  replace Q1 := hide (Q1.out.keep hb)
  replace Q2 := hide (Q2.out.keep hb)
  replace Q3 := hide (Q3.out.keep hb)
  replace HRW := hide (HRW.out.keep hb)
  replace Hbl := hide (Hbl.out.trans (hb.mono Hbl.out.size))
  clear hb
  unfold fault
  have t0 := Ht.out.cell 0
  have t1 := Ht.out.cell 1
  have t2 := Ht.out.cell 2
  have t3 := Ht.out.cell 3
  have tl := Ht.out.lt
  have o0 := Ho.out.cell 0
  have o1 := Ho.out.cell 1
  have o2 := Ho.out.cell 2
  have o3 := Ho.out.cell 3
  have ol := Ho.out.lt
  have e0 := He.out.cell 0
  have e1 := He.out.cell 1
  have el := He.out.lt
  have f0 := Hf.out.cell 0
  have f1 := Hf.out.cell 1
  have fl := Hf.out.lt
  simp only [List.getElem?_cons_zero, List.getElem?_cons_succ] at t0 t1 t2 t3 o0 o1 o2 o3 e0 e1 f0 f1
  go_upto_region 6 with (fail)
  have s_t : gT < w6.heap.size := tl
  have s_o : gO < w6.heap.size := ol
  have s_e : gO + 1 < w6.heap.size := el
  have s_f : gf < w6.heap.size := fl
  have s_0 : B0 ≤ w6.heap.size := Nat.le_trans (Nat.le_of_eq HB0.out) Hbl.out.size
  have hyk := Blk.new (w6) 29 [.int .i64 0, .int .i64 0]
  have hbW : Below (w6).heap.size (w6) ((w6).alloc (.cells #[.int .i64 0, .int .i64 0] 29)) := (Below.refl _ _).alloc (Nat.le_refl _) _
  obtain ⟨w7, hW⟩ : ∃ W, W = (w6).alloc (.cells #[.int .i64 0, .int .i64 0] 29) := ⟨_, rfl⟩
  rw [← hW] at hyk hbW ⊢
  replace Ht := hide (Ht.out.keep hbW)
  replace Ho := hide (Ho.out.keep hbW)
  replace He := hide (He.out.keep hbW)
  replace Hf := hide (Hf.out.keep hbW)
  replace Q1 := hide (Q1.out.keep hbW)
  replace Q2 := hide (Q2.out.keep hbW)
  replace Q3 := hide (Q3.out.keep hbW)
  replace HRW := hide (HRW.out.keep hbW)
  replace Hbl := hide (Hbl.out.trans (hbW.mono Hbl.out.size))
  have Hk := hide hyk
  clear hW hbW hyk
  generalize w6.heap.size = gc at Hk s_t s_o s_e s_f s_0 ⊢
  have t0 := Ht.out.cell 0
  have t1 := Ht.out.cell 1
  have t2 := Ht.out.cell 2
  have t3 := Ht.out.cell 3
  have tl := Ht.out.lt
  have o0 := Ho.out.cell 0
  have o1 := Ho.out.cell 1
  have o2 := Ho.out.cell 2
  have o3 := Ho.out.cell 3
  have ol := Ho.out.lt
  have e0 := He.out.cell 0
  have e1 := He.out.cell 1
  have el := He.out.lt
  have f0 := Hf.out.cell 0
  have f1 := Hf.out.cell 1
  have fl := Hf.out.lt
  have k0 := Hk.out.cell 0
  have k1 := Hk.out.cell 1
  have kl := Hk.out.lt
  simp only [List.getElem?_cons_zero, List.getElem?_cons_succ] at t0 t1 t2 t3 o0 o1 o2 o3 e0 e1 f0 f1 k0 k1
  clear s_t
  clear s_o
  clear s_e
  clear s_f
  have a_k : B0 ≤ gc := by omega
  clear s_0
  go_wp2_with fail
  with_reducible refine (HK.out w7 (H.out.keep Hbl.out) (by omega) (Hs.out.keep Hbl.out)).mono ?_
  rintro e w8 ⟨rfl, hb⟩
  clear t0 t1 t2 t3 o0 o1 o2 o3 e0 e1 f0 f1 k0 k1 tl ol el fl kl
  replace Ht := hide (Ht.out.keep hb)
  replace Ho := hide (Ho.out.keep hb)
  replace He := hide (He.out.keep hb)
  replace Hf := hide (Hf.out.keep hb)
  replace Hk := hide (Hk.out.keep hb)
  replace Q1 := hide (Q1.out.keep hb)
  replace Q2 := hide (Q2.out.keep hb)
  replace Q3 := hide (Q3.out.keep hb)
  replace HRW := hide (HRW.out.keep hb)
  replace Hbl := hide (Hbl.out.trans (hb.mono Hbl.out.size))
  clear hb
  have t0 := Ht.out.cell 0
  have t1 := Ht.out.cell 1
  have t2 := Ht.out.cell 2
  have t3 := Ht.out.cell 3
  have tl := Ht.out.lt
  have o0 := Ho.out.cell 0
  have o1 := Ho.out.cell 1
  have o2 := Ho.out.cell 2
  have o3 := Ho.out.cell 3
  have ol := Ho.out.lt
  have e0 := He.out.cell 0
  have e1 := He.out.cell 1
  have el := He.out.lt
  have f0 := Hf.out.cell 0
  have f1 := Hf.out.cell 1
  have fl := Hf.out.lt
  have k0 := Hk.out.cell 0
  have k1 := Hk.out.cell 1
  have kl := Hk.out.lt
  simp only [List.getElem?_cons_zero, List.getElem?_cons_succ] at t0 t1 t2 t3 o0 o1 o2 o3 e0 e1 f0 f1 k0 k1
  go_upto_region 13 with (fail)
  have s_t : gT < w8.heap.size := tl
  have s_o : gO < w8.heap.size := ol
  have s_e : gO + 1 < w8.heap.size := el
  have s_f : gf < w8.heap.size := fl
  have s_k : gc < w8.heap.size := kl
  have s_0 : B0 ≤ w8.heap.size := Nat.le_trans (Nat.le_of_eq HB0.out) Hbl.out.size
  have hys := Blk.new (w8) 27 [.slice A1 n1 c1, .slice A2 n2 c2, .slice A3 n3 c3, .int .i64 o.cost]
  have hyz := Blk.new ((w8).alloc (.cells #[.slice A1 n1 c1, .slice A2 n2 c2, .slice A3 n3 c3, .int .i64 o.cost] 27)) 25 [.int .i64 T.facts, .slice none 0 0, .slice none 0 0, .slice (some ⟨w8.heap.size, 0, none⟩) 1 1]
  replace hys := hys.alloc (.cells #[.int .i64 T.facts, .slice none 0 0, .slice none 0 0, .slice (some ⟨w8.heap.size, 0, none⟩) 1 1] 25)
  have hbW := below_two w8 (.cells #[.slice A1 n1 c1, .slice A2 n2 c2, .slice A3 n3 c3, .int .i64 o.cost] 27) (.cells #[.int .i64 T.facts, .slice none 0 0, .slice none 0 0, .slice (some ⟨w8.heap.size, 0, none⟩) 1 1] 25)
  simp only [World.size_alloc] at hyz
  obtain ⟨w9, hW⟩ : ∃ W, W = ((w8).alloc (.cells #[.slice A1 n1 c1, .slice A2 n2 c2, .slice A3 n3 c3, .int .i64 o.cost] 27)).alloc (.cells #[.int .i64 T.facts, .slice none 0 0, .slice none 0 0, .slice (some ⟨w8.heap.size, 0, none⟩) 1 1] 25) := ⟨_, rfl⟩
  rw [← hW] at hys hyz hbW ⊢
  replace Ht := hide (Ht.out.keep hbW)
  replace Ho := hide (Ho.out.keep hbW)
  replace He := hide (He.out.keep hbW)
  replace Hf := hide (Hf.out.keep hbW)
  replace Hk := hide (Hk.out.keep hbW)
  replace Q1 := hide (Q1.out.keep hbW)
  replace Q2 := hide (Q2.out.keep hbW)
  replace Q3 := hide (Q3.out.keep hbW)
  replace HRW := hide (HRW.out.keep hbW)
  replace Hbl := hide (Hbl.out.trans (hbW.mono Hbl.out.size))
  have Hs_ := hide hys
  have Hz := hide hyz
  clear hW hbW hys hyz
  generalize w8.heap.size = gs at Hs_ Hz s_t s_o s_e s_f s_k s_0 ⊢
  have t0 := Ht.out.cell 0
  have t1 := Ht.out.cell 1
  have t2 := Ht.out.cell 2
  have t3 := Ht.out.cell 3
  have tl := Ht.out.lt
  have o0 := Ho.out.cell 0
  have o1 := Ho.out.cell 1
  have o2 := Ho.out.cell 2
  have o3 := Ho.out.cell 3
  have ol := Ho.out.lt
  have e0 := He.out.cell 0
  have e1 := He.out.cell 1
  have el := He.out.lt
  have f0 := Hf.out.cell 0
  have f1 := Hf.out.cell 1
  have fl := Hf.out.lt
  have k0 := Hk.out.cell 0
  have k1 := Hk.out.cell 1
  have kl := Hk.out.lt
  have s0 := Hs_.out.cell 0
  have s1 := Hs_.out.cell 1
  have s2 := Hs_.out.cell 2
  have s3 := Hs_.out.cell 3
  have sl := Hs_.out.lt
  have z0 := Hz.out.cell 0
  have z1 := Hz.out.cell 1
  have z2 := Hz.out.cell 2
  have z3 := Hz.out.cell 3
  have zl := Hz.out.lt
  simp only [List.getElem?_cons_zero, List.getElem?_cons_succ] at t0 t1 t2 t3 o0 o1 o2 o3 e0 e1 f0 f1 k0 k1 s0 s1 s2 s3 z0 z1 z2 z3
  clear s_t
  clear s_o
  clear s_e
  clear s_f
  clear s_k
  have a_s : B0 ≤ gs := by omega
  have a_z : B0 ≤ gs + 1 := by omega
  clear s_0
  have n_s_z : ¬ gs = gs + 1 := by omega
  have n_z_s : ¬ gs + 1 = gs := by omega
  have htk : TkR w9 ⟨none, 0, 0, none, 0, 0, some ⟨gs, 0, none⟩, 1, 1⟩ ⟨T.facts, [], [], [o]⟩ := by
    refine ⟨H.out.facts, Rd.nil_ _ _, Rd.nil_ _ _, ⟨rfl, Nat.le_refl _, (show (1 : Nat) ≤ 9223372036854775807 by omega), (fun h => by cases h), fun _ => ⟨gs, 0, rfl, fun j x hj => ?_⟩⟩⟩
    cases j with
    | succ j => simp at hj
    | zero =>
      simp at hj
      subst hj
      refine ⟨[.slice A1 n1 c1, .slice A2 n2 c2, .slice A3 n3 c3, .int .i64 o.cost], ⟨A1, n1, c1, A2, n2, c2, A3, n3, c3, rfl, Q1.out, Q2.out, Q3.out, hi64⟩, fun i v hi => ?_⟩
      rw [← hi]
      simpa using Hs_.out.cell i
  have hct := Apply_ct _ _ C np dp s 0 w9 htk (Hs.out.keep Hbl.out) (by unfold I64s; omega)
  rw [Hap.out] at hct
  simp only at hct
  clear htk
  go_wp2_with fail
  with_reducible refine hct.mono ?_
  rintro e w10 ⟨hb, X, nx, cx, rfl, hx⟩
  have HXW := hide (hx w10 (Chg.refl _ _))
  clear hx hct
  clear t0 t1 t2 t3 o0 o1 o2 o3 e0 e1 f0 f1 k0 k1 s0 s1 s2 s3 z0 z1 z2 z3 tl ol el fl kl sl zl
  replace Ht := hide (Ht.out.keep hb)
  replace Ho := hide (Ho.out.keep hb)
  replace He := hide (He.out.keep hb)
  replace Hf := hide (Hf.out.keep hb)
  replace Hk := hide (Hk.out.keep hb)
  replace Hs_ := hide (Hs_.out.keep hb)
  replace Hz := hide (Hz.out.keep hb)
  replace Q1 := hide (Q1.out.keep hb)
  replace Q2 := hide (Q2.out.keep hb)
  replace Q3 := hide (Q3.out.keep hb)
  replace HRW := hide (HRW.out.keep hb)
  replace Hbl := hide (Hbl.out.trans (hb.mono Hbl.out.size))
  clear hb
  unfold fault
  have t0 := Ht.out.cell 0
  have t1 := Ht.out.cell 1
  have t2 := Ht.out.cell 2
  have t3 := Ht.out.cell 3
  have tl := Ht.out.lt
  have o0 := Ho.out.cell 0
  have o1 := Ho.out.cell 1
  have o2 := Ho.out.cell 2
  have o3 := Ho.out.cell 3
  have ol := Ho.out.lt
  have e0 := He.out.cell 0
  have e1 := He.out.cell 1
  have el := He.out.lt
  have f0 := Hf.out.cell 0
  have f1 := Hf.out.cell 1
  have fl := Hf.out.lt
  have k0 := Hk.out.cell 0
  have k1 := Hk.out.cell 1
  have kl := Hk.out.lt
  have s0 := Hs_.out.cell 0
  have s1 := Hs_.out.cell 1
  have s2 := Hs_.out.cell 2
  have s3 := Hs_.out.cell 3
  have sl := Hs_.out.lt
  have z0 := Hz.out.cell 0
  have z1 := Hz.out.cell 1
  have z2 := Hz.out.cell 2
  have z3 := Hz.out.cell 3
  have zl := Hz.out.lt
  simp only [List.getElem?_cons_zero, List.getElem?_cons_succ] at t0 t1 t2 t3 o0 o1 o2 o3 e0 e1 f0 f1 k0 k1 s0 s1 s2 s3 z0 z1 z2 z3
  go_upto_region 14 with (fail)
  have s_t : gT < w10.heap.size := tl
  have s_o : gO < w10.heap.size := ol
  have s_e : gO + 1 < w10.heap.size := el
  have s_f : gf < w10.heap.size := fl
  have s_k : gc < w10.heap.size := kl
  have s_s : gs < w10.heap.size := sl
  have s_z : gs + 1 < w10.heap.size := zl
  have s_0 : B0 ≤ w10.heap.size := Nat.le_trans (Nat.le_of_eq HB0.out) Hbl.out.size
  have hyv := Blk.new (w10) 29 [.int .i64 0, .int .i64 0]
  have hbW : Below (w10).heap.size (w10) ((w10).alloc (.cells #[.int .i64 0, .int .i64 0] 29)) := (Below.refl _ _).alloc (Nat.le_refl _) _
  obtain ⟨w11, hW⟩ : ∃ W, W = (w10).alloc (.cells #[.int .i64 0, .int .i64 0] 29) := ⟨_, rfl⟩
  rw [← hW] at hyv hbW ⊢
  replace Ht := hide (Ht.out.keep hbW)
  replace Ho := hide (Ho.out.keep hbW)
  replace He := hide (He.out.keep hbW)
  replace Hf := hide (Hf.out.keep hbW)
  replace Hk := hide (Hk.out.keep hbW)
  replace Hs_ := hide (Hs_.out.keep hbW)
  replace Hz := hide (Hz.out.keep hbW)
  replace Q1 := hide (Q1.out.keep hbW)
  replace Q2 := hide (Q2.out.keep hbW)
  replace Q3 := hide (Q3.out.keep hbW)
  replace HRW := hide (HRW.out.keep hbW)
  replace HXW := hide (HXW.out.keep hbW)
  replace Hbl := hide (Hbl.out.trans (hbW.mono Hbl.out.size))
  have Hv := hide hyv
  clear hW hbW hyv
  generalize w10.heap.size = gv at Hv s_t s_o s_e s_f s_k s_s s_z s_0 ⊢
  have t0 := Ht.out.cell 0
  have t1 := Ht.out.cell 1
  have t2 := Ht.out.cell 2
  have t3 := Ht.out.cell 3
  have tl := Ht.out.lt
  have o0 := Ho.out.cell 0
  have o1 := Ho.out.cell 1
  have o2 := Ho.out.cell 2
  have o3 := Ho.out.cell 3
  have ol := Ho.out.lt
  have e0 := He.out.cell 0
  have e1 := He.out.cell 1
  have el := He.out.lt
  have f0 := Hf.out.cell 0
  have f1 := Hf.out.cell 1
  have fl := Hf.out.lt
  have k0 := Hk.out.cell 0
  have k1 := Hk.out.cell 1
  have kl := Hk.out.lt
  have s0 := Hs_.out.cell 0
  have s1 := Hs_.out.cell 1
  have s2 := Hs_.out.cell 2
  have s3 := Hs_.out.cell 3
  have sl := Hs_.out.lt
  have z0 := Hz.out.cell 0
  have z1 := Hz.out.cell 1
  have z2 := Hz.out.cell 2
  have z3 := Hz.out.cell 3
  have zl := Hz.out.lt
  have v0 := Hv.out.cell 0
  have v1 := Hv.out.cell 1
  have vl := Hv.out.lt
  simp only [List.getElem?_cons_zero, List.getElem?_cons_succ] at t0 t1 t2 t3 o0 o1 o2 o3 e0 e1 f0 f1 k0 k1 s0 s1 s2 s3 z0 z1 z2 z3 v0 v1
  clear s_t
  clear s_o
  clear s_e
  clear s_f
  clear s_k
  clear s_s
  clear s_z
  have a_v : B0 ≤ gv := by omega
  clear s_0
  have hnr : nr = m + 1 := by have := HRW.out.len; have := Hlen.out; omega
  have hmi : (m : Int) < (nr : Int) := by omega
  obtain ⟨b2, off2, y, A4, n4, c4, rfl, hr2, hc2, hrd2⟩ := HRW.out.sl (show m < nr by omega)
  obtain rfl : y = nx' := Option.some.inj (hr2.symm.trans Hrs.out)
  have Hrd2 := hide hrd2
  have hnr2 : (nr : Int) = (m : Int) + 1 := by omega
  have hll := (Hl.out).low
  have hlm : m < 100 := hm
  clear hr2 hrd2 hnr
  go_wp2_with fail
  with_reducible refine (Ints_ct _ _ _ _ _ _ _ _ w11 HXW.out Hrd2.out).mono ?_
  rw [show intsB y y = true by simp [intsB]]
  rintro e w12 ⟨rfl, hqt⟩
  clear t0 t1 t2 t3 o0 o1 o2 o3 e0 e1 f0 f1 k0 k1 s0 s1 s2 s3 z0 z1 z2 z3 v0 v1 tl ol el fl kl sl zl vl
  have hb := hqt.below w11.heap.size
  replace Ht := hide (Ht.out.keep hb)
  replace Ho := hide (Ho.out.keep hb)
  replace He := hide (He.out.keep hb)
  replace Hf := hide (Hf.out.keep hb)
  replace Hk := hide (Hk.out.keep hb)
  replace Hs_ := hide (Hs_.out.keep hb)
  replace Hz := hide (Hz.out.keep hb)
  replace Hv := hide (Hv.out.keep hb)
  have t0 := Ht.out.cell 0
  have t1 := Ht.out.cell 1
  have t2 := Ht.out.cell 2
  have t3 := Ht.out.cell 3
  have tl := Ht.out.lt
  have o0 := Ho.out.cell 0
  have o1 := Ho.out.cell 1
  have o2 := Ho.out.cell 2
  have o3 := Ho.out.cell 3
  have ol := Ho.out.lt
  have e0 := He.out.cell 0
  have e1 := He.out.cell 1
  have el := He.out.lt
  have f0 := Hf.out.cell 0
  have f1 := Hf.out.cell 1
  have fl := Hf.out.lt
  have k0 := Hk.out.cell 0
  have k1 := Hk.out.cell 1
  have kl := Hk.out.lt
  have s0 := Hs_.out.cell 0
  have s1 := Hs_.out.cell 1
  have s2 := Hs_.out.cell 2
  have s3 := Hs_.out.cell 3
  have sl := Hs_.out.lt
  have z0 := Hz.out.cell 0
  have z1 := Hz.out.cell 1
  have z2 := Hz.out.cell 2
  have z3 := Hz.out.cell 3
  have zl := Hz.out.lt
  have v0 := Hv.out.cell 0
  have v1 := Hv.out.cell 1
  have vl := Hv.out.lt
  simp only [List.getElem?_cons_zero, List.getElem?_cons_succ] at t0 t1 t2 t3 o0 o1 o2 o3 e0 e1 f0 f1 k0 k1 s0 s1 s2 s3 z0 z1 z2 z3 v0 v1
  replace Hbl := hide (Hbl.out.trans (hqt.below _))
  clear hqt
  go_wp2_with fail
  go_ret
  exact ⟨ret_bool (by simp), Hbl.out⟩
theorem comb_run {T : Tsk} {N : Nat} (hok : OkT T N) {l s : List Int} (hr : ∀ x ∈ l, 0 ≤ x ∧ x < T.ops.length) (hs : s.Pairwise (· < ·)) :
    (combF zeroOp (l.map (opAt T.ops)) = none → (runF T.ops s l).length ≤ l.length) ∧ ∀ o, combF zeroOp (l.map (opAt T.ops)) = some o →
      (subsetB o.pre s = false → (runF T.ops s l).length ≤ l.length) ∧ (subsetB o.pre s = true → (runF T.ops s l).length = l.length + 1 ∧ (runF T.ops s l)[l.length]? = some (updF s o.add o.del)) := by
  have hos : ∀ q ∈ l.map (opAt T.ops), OkOp N q := fun q hq => by
    obtain ⟨x, hx, rfl⟩ := List.mem_map.1 hq
    exact hok.ops _ (opAt_mem (hr x hx).1 (hr x hx).2)
  obtain ⟨h1, h2⟩ := comb_state hos hs
  have e1 := fun r => exec_some (l.map (opAt T.ops)) s r
  have e2 := exec_none (l.map (opAt T.ops)) s
  rw [List.length_map] at e1 e2
  unfold runF
  simp only [List.length_cons]
  refine ⟨fun h => by have := e2 (h1 h); omega, fun o ho => ?_⟩
  have h3 := (h2 o ho).2.2.2
  refine ⟨fun hb => ?_, fun hb => ?_⟩
  · rw [hb, if_neg (by simp)] at h3
    have := e2 h3
    omega
  · rw [hb, if_pos rfl] at h3
    have := e1 _ h3
    exact ⟨by omega, this.2⟩
theorem seqLaw_ct (T : Tsk) (a : TA) (B : Option Addr) (m d : Nat) (l : List Int) (C : Option Addr) (np dp : Nat) (s : List Int) (w : World) (h : TkR w a T) (hl : Rd Enc.int w B m d l) (hs : Rd Enc.int w C np dp s) :
    Calls Try.prog 11 #[.agg #[.int .i64 T.facts, .slice a.I a.nI a.cI, .slice a.G a.nG a.cG, .slice a.O a.nO a.cO], .slice B m d, .slice C np dp] w (Gives w (.bool true)) := by
  rcases hpr : playR T s l with ⟨rs, pc, pi⟩
  by_cases htf : (taskFault T).1 = 0
  · by_cases hsf : (seqFault T.ops.length l (-8)).1 = 0
    · obtain ⟨N, hok⟩ := taskFault_ok htf
      obtain ⟨hsz, h1, h6, hr⟩ := seqFault_ok hsf
      have hm : m < 100 := by rw [← hl.len]; omega
      have hst : stepsFault T.ops.length l = (0, 0) := by
        unfold stepsFault
        rw [if_neg (by omega), if_neg]
        intro e
        obtain ⟨x, hx, hb⟩ := List.any_eq_true.1 e
        have := hr x hx
        unfold outB at hb
        simp at hb
        omega
      have hpf : planFault T l = (0, 0) := by
        unfold planFault
        rw [if_neg (by simpa using htf), hst]
      have hdr : scostR T l = (costF T.ops l, 0, 0) := by
        unfold scostR
        rw [hpf, if_neg (by simp)]
      have hf : 0 ≤ T.facts := by have := hok.facts; omega
      have hos : ∀ q ∈ l.map (opAt T.ops), OkOp N q := fun q hq => by
        obtain ⟨x, hx, rfl⟩ := List.mem_map.1 hq
        exact hok.ops _ (opAt_mem (hr x hx).1 (hr x hx).2)
      cases hset : setB T.facts s with
      | false =>
        rcases hcr : combineR T l with ⟨o, ok, ec, ei⟩
        by_cases hec : ec = 0
        · have hei : ei = 0 := by
            unfold combineR at hcr
            rw [if_neg (by simpa using htf), if_neg (by simpa using hsf)] at hcr
            split at hcr
            · have := congrArg (fun z => z.2.2.2) hcr
              exact this.symm
            · split at hcr
              · have := congrArg (fun z => z.2.2.1) hcr
                simp only at this
                omega
              · have := congrArg (fun z => z.2.2.2) hcr
                exact this.symm
          subst hec hei
          exact seqLawC a T B m d l C np dp s w h hl hs o ok hcr rs pc pi hpr _ hdr hf hset
        · have hoz : o = zeroOp := by
            unfold combineR at hcr
            rw [if_neg (by simpa using htf), if_neg (by simpa using hsf)] at hcr
            split at hcr
            · have := congrArg (fun z => z.1) hcr
              exact this.symm
            · split at hcr
              · have := congrArg (fun z => z.1) hcr
                exact this.symm
              · have := congrArg (fun z => z.2.2.1) hcr
                exact absurd this.symm hec
          subst hoz
          exact seqLawA a T B m d l C np dp s w h hl hs zeroOp ok ec ei hec hcr rs pc pi hpr _ _ _ hdr
      | true =>
        have hset2 := hset
        rw [hok.facts] at hset2
        have hup := (setB_iff.1 hset2).1
        obtain ⟨k1, k2⟩ := comb_run hok (l := l) hr hup
        have hstate : stateFault T s = (0, 0) := by
          unfold stateFault
          rw [if_neg (by simpa using htf), if_neg (by rw [hset]; simp)]
        have hpl : playR T s l = if (runF T.ops s l).length ≤ l.length then ([], 11, ((runF T.ops s l).length : Int) - 1) else (runF T.ops s l, 0, 0) := by
          unfold playR
          rw [hstate, if_neg (by simp), hst, if_neg (by simp)]
        cases hc : combF zeroOp (l.map (opAt T.ops)) with
        | none =>
          have hcr : combineR T l = (zeroOp, false, 0, 0) := by
            unfold combineR
            rw [if_neg (by simpa using htf), if_neg (by simpa using hsf), hc]
          rw [if_pos (k1 hc)] at hpl
          exact seqLawD a T B m d l C np dp s w h hl hs hcr _ 11 _ (by omega) hpl _ hdr hf hset
        | some o =>
          obtain ⟨g1, g2, g3, _⟩ := (comb_state hos hup).2 o hc
          have hsm := comb_small hok hr h6 hc
          have hi : I64s o.cost := by unfold I64s; omega
          by_cases hbig : 100 < o.cost
          · have hcr : combineR T l = (zeroOp, false, 10, -9) := by
              unfold combineR
              rw [if_neg (by simpa using htf), if_neg (by simpa using hsf), hc]
              simp only
              rw [if_pos hbig]
            exact seqLawA a T B m d l C np dp s w h hl hs zeroOp false 10 (-9) (by omega) hcr rs pc pi hpr _ _ _ hdr
          · have hcr : combineR T l = (o, true, 0, 0) := by
              unfold combineR
              rw [if_neg (by simpa using htf), if_neg (by simpa using hsf), hc]
              simp only
              rw [if_neg hbig]
            have hcost : costF T.ops l = o.cost := by
              rw [g3, List.map_map]
              rfl
            cases hsub : subsetB o.pre s with
            | false =>
              rw [if_pos ((k2 o hc).1 hsub)] at hpl
              exact seqLawE a T B m d l C np dp s w h hl hs o hcr _ 11 _ (by omega) hpl _ hdr hf hset hsub
            | true =>
              obtain ⟨j1, j2⟩ := (k2 o hc).2 hsub
              rw [if_neg (by omega)] at hpl
              rw [hcost] at hdr
              have hokS : OkT ⟨T.facts, [], [], [o]⟩ N := ⟨hok.facts, hok.low, by simp [setB], by simp [setB], by simp, fun q hq => by
                simp at hq
                subst hq
                exact ⟨g2.pre, g2.add, g2.del, g1, hsm.1, by omega⟩⟩
              have hap : applyR ⟨T.facts, [], [], [o]⟩ s 0 = (updF s o.add o.del, 0, 0) := by
                unfold applyR
                have e1 : stateFault ⟨T.facts, [], [], [o]⟩ s = (0, 0) := by
                  unfold stateFault
                  rw [okt_fault hokS, if_neg (by simp), if_neg (by simp only; rw [hset]; simp)]
                rw [e1, if_neg (by simp), if_neg (by simp), if_neg (by simp [opAt, hsub])]
                rfl
              exact seqLawF a T B m d l C np dp s w h hl hs o hcr _ hpl hdr hf hset _ hap hi (by rw [j1, hl.len]) (by rw [← hl.len]; exact j2) hm
    · have hcr : combineR T l = (zeroOp, false, seqFault T.ops.length l (-8)) := by
        unfold combineR
        rw [if_neg (by simpa using htf), if_pos (by simpa using hsf)]
      exact seqLawA a T B m d l C np dp s w h hl hs zeroOp false _ _ hsf hcr rs pc pi hpr _ _ _ rfl
  · have hcr : combineR T l = (zeroOp, false, taskFault T) := by
      unfold combineR
      rw [if_pos (by simpa using htf)]
    exact seqLawA a T B m d l C np dp s w h hl hs zeroOp false _ _ htf hcr rs pc pi hpr _ _ _ rfl
end Go.Proofs.Ytnfeknfakkdbhaa
