/- The walk of the law on plans with macros. -/
import Derived.Test.YtnfeknfakkdbhaaMe
import Derived.Test.YtnfeknfakkdbhaaTs3
namespace Go.Proofs.Ytnfeknfakkdbhaa
set_option linter.unusedVariables false
set_option linter.unusedSimpArgs false
open Go.RowKit

set_option maxRecDepth 100000 in
set_option maxHeartbeats 6400000 in
theorem expandedLawA (a : TA) (T X : Tsk) (B : Option Addr) (m d : Nat) (ms : List (List Int)) (C : Option Addr) (q r : Nat) (l : List Int) (w : World) (h : TkR w a T) (hms : Rd (Enc.sl Enc.int) w B m d ms) (hl : Rd Enc.int w C q r l) (p : List Int) (ec ei pc pi : Int) (hec : ec ≠ 0) (hex : extendR T ms = (X, ec, ei)) (hpx : expandR T ms l = (p, pc, pi)) :
    Calls Try.prog 8 #[.agg #[.int .i64 T.facts, .slice a.I a.nI a.cI, .slice a.G a.nG a.cG, .slice a.O a.nO a.cO], .slice B m d, .slice C q r] w (Gives w (.bool true)) := by
  obtain ⟨I, nI, cI, G, nG, cG, O, nO, cO⟩ := a
  have H := hide h
  have Hms := hide hms
  have Hl := hide hl
  have HE := Extend_ct ⟨I, nI, cI, G, nG, cG, O, nO, cO⟩ T B m d ms
  rw [hex] at HE
  have HP := Expand_ct ⟨I, nI, cI, G, nG, cG, O, nO, cO⟩ T B m d ms C q r l
  rw [hpx] at HP
  simp only at HE HP ⊢
  replace HE := hide HE
  replace HP := hide HP
  clear h hms hl hex hpx
  have Hbl := hide (Below.refl w.heap.size w)
  go_enter Try.func8, Try.ntmps8
  go_upto_region 1 with (fail)
  obtain ⟨B0, hB0⟩ : ∃ B0, B0 = w.heap.size := ⟨_, rfl⟩
  have HB0 := hide hB0
  clear hB0
  have s_0 : B0 ≤ w.heap.size := Nat.le_trans (Nat.le_of_eq HB0.out) Hbl.out.size
  have hyt := Blk.new (w) 25 [.int .i64 T.facts, .slice I nI cI, .slice G nG cG, .slice O nO cO]
  have hbW : Below (w).heap.size (w) ((w).alloc (.cells #[.int .i64 T.facts, .slice I nI cI, .slice G nG cG, .slice O nO cO] 25)) := (Below.refl _ _).alloc (Nat.le_refl _) _
  obtain ⟨w0, hW⟩ : ∃ W, W = (w).alloc (.cells #[.int .i64 T.facts, .slice I nI cI, .slice G nG cG, .slice O nO cO] 25) := ⟨_, rfl⟩
  rw [← hW] at hyt hbW ⊢
  replace Hbl := hide (Hbl.out.trans (hbW.mono Hbl.out.size))
  have Ht := hide hyt
  clear hW hbW hyt
  generalize w.heap.size = gT at Ht s_0 ⊢
  have t0 := Ht.out.cell 0
  have t1 := Ht.out.cell 1
  have t2 := Ht.out.cell 2
  have t3 := Ht.out.cell 3
  have tl := Ht.out.lt
  simp only [List.getElem?_cons_zero, List.getElem?_cons_succ] at t0 t1 t2 t3
  have a_t : B0 ≤ gT := by omega
  clear s_0
  go_wp2_with fail
  with_reducible refine (macrosExample_ct w0).mono ?_
  rintro e w1 ⟨rfl, hb⟩
  clear t0 t1 t2 t3 tl
  replace Ht := hide (Ht.out.keep hb)
  replace Hbl := hide (Hbl.out.trans (hb.mono Hbl.out.size))
  clear hb
  have t0 := Ht.out.cell 0
  have t1 := Ht.out.cell 1
  have t2 := Ht.out.cell 2
  have t3 := Ht.out.cell 3
  have tl := Ht.out.lt
  simp only [List.getElem?_cons_zero, List.getElem?_cons_succ] at t0 t1 t2 t3
  go_wp2_with fail
  with_reducible refine (HE.out w1 (H.out.keep Hbl.out) (Hms.out.keep Hbl.out)).mono ?_
  rintro e w2 ⟨hb, x, rfl, hx⟩
  have HX := hide (hx w2 (Chg.refl _ _))
  clear hx
  clear t0 t1 t2 t3 tl
  replace Ht := hide (Ht.out.keep hb)
  replace Hbl := hide (Hbl.out.trans (hb.mono Hbl.out.size))
  clear hb
  unfold fault taskV
  have t0 := Ht.out.cell 0
  have t1 := Ht.out.cell 1
  have t2 := Ht.out.cell 2
  have t3 := Ht.out.cell 3
  have tl := Ht.out.lt
  simp only [List.getElem?_cons_zero, List.getElem?_cons_succ] at t0 t1 t2 t3
  go_upto_region 4 with (fail)
  have s_t : gT < w2.heap.size := tl
  have s_0 : B0 ≤ w2.heap.size := Nat.le_trans (Nat.le_of_eq HB0.out) Hbl.out.size
  have hyx := Blk.new (w2) 25 [.int .i64 X.facts, .slice x.I x.nI x.cI, .slice x.G x.nG x.cG, .slice x.O x.nO x.cO]
  have hye := Blk.new ((w2).alloc (.cells #[.int .i64 X.facts, .slice x.I x.nI x.cI, .slice x.G x.nG x.cG, .slice x.O x.nO x.cO] 25)) 29 [.int .i64 ec, .int .i64 ei]
  replace hyx := hyx.alloc (.cells #[.int .i64 ec, .int .i64 ei] 29)
  have hbW := below_two w2 (.cells #[.int .i64 X.facts, .slice x.I x.nI x.cI, .slice x.G x.nG x.cG, .slice x.O x.nO x.cO] 25) (.cells #[.int .i64 ec, .int .i64 ei] 29)
  simp only [World.size_alloc] at hye
  obtain ⟨w3, hW⟩ : ∃ W, W = ((w2).alloc (.cells #[.int .i64 X.facts, .slice x.I x.nI x.cI, .slice x.G x.nG x.cG, .slice x.O x.nO x.cO] 25)).alloc (.cells #[.int .i64 ec, .int .i64 ei] 29) := ⟨_, rfl⟩
  rw [← hW] at hyx hye hbW ⊢
  replace Ht := hide (Ht.out.keep hbW)
  replace HX := hide (HX.out.keep hbW)
  replace Hbl := hide (Hbl.out.trans (hbW.mono Hbl.out.size))
  have Hx := hide hyx
  have He := hide hye
  clear hW hbW hyx hye
  generalize w2.heap.size = gX at Hx He s_t s_0 ⊢
  have t0 := Ht.out.cell 0
  have t1 := Ht.out.cell 1
  have t2 := Ht.out.cell 2
  have t3 := Ht.out.cell 3
  have tl := Ht.out.lt
  have x0 := Hx.out.cell 0
  have x1 := Hx.out.cell 1
  have x2 := Hx.out.cell 2
  have x3 := Hx.out.cell 3
  have xl := Hx.out.lt
  have e0 := He.out.cell 0
  have e1 := He.out.cell 1
  have el := He.out.lt
  simp only [List.getElem?_cons_zero, List.getElem?_cons_succ] at t0 t1 t2 t3 x0 x1 x2 x3 e0 e1
  clear s_t
  have a_x : B0 ≤ gX := by omega
  have a_e : B0 ≤ gX + 1 := by omega
  clear s_0
  have n_x_e : ¬ gX = gX + 1 := by omega
  have n_e_x : ¬ gX + 1 = gX := by omega
  go_wp2_with fail
  with_reducible refine (HP.out w3 (H.out.keep Hbl.out) (Hms.out.keep Hbl.out) (Hl.out.keep Hbl.out)).mono ?_
  rintro e w4 ⟨hb, P, np, cp, rfl, hx⟩
  have HPR := hide (hx w4 (Chg.refl _ _))
  clear hx
  clear t0 t1 t2 t3 x0 x1 x2 x3 e0 e1 tl xl el
  replace Ht := hide (Ht.out.keep hb)
  replace Hx := hide (Hx.out.keep hb)
  replace He := hide (He.out.keep hb)
  replace HX := hide (HX.out.keep hb)
  replace Hbl := hide (Hbl.out.trans (hb.mono Hbl.out.size))
  clear hb
  unfold fault
  have t0 := Ht.out.cell 0
  have t1 := Ht.out.cell 1
  have t2 := Ht.out.cell 2
  have t3 := Ht.out.cell 3
  have tl := Ht.out.lt
  have x0 := Hx.out.cell 0
  have x1 := Hx.out.cell 1
  have x2 := Hx.out.cell 2
  have x3 := Hx.out.cell 3
  have xl := Hx.out.lt
  have e0 := He.out.cell 0
  have e1 := He.out.cell 1
  have el := He.out.lt
  simp only [List.getElem?_cons_zero, List.getElem?_cons_succ] at t0 t1 t2 t3 x0 x1 x2 x3 e0 e1
  go_upto_region 5 with (fail)
  have s_t : gT < w4.heap.size := tl
  have s_x : gX < w4.heap.size := xl
  have s_e : gX + 1 < w4.heap.size := el
  have s_0 : B0 ≤ w4.heap.size := Nat.le_trans (Nat.le_of_eq HB0.out) Hbl.out.size
  have hyf := Blk.new (w4) 29 [.int .i64 pc, .int .i64 pi]
  have hbW : Below (w4).heap.size (w4) ((w4).alloc (.cells #[.int .i64 pc, .int .i64 pi] 29)) := (Below.refl _ _).alloc (Nat.le_refl _) _
  obtain ⟨w5, hW⟩ : ∃ W, W = (w4).alloc (.cells #[.int .i64 pc, .int .i64 pi] 29) := ⟨_, rfl⟩
  rw [← hW] at hyf hbW ⊢
  replace Ht := hide (Ht.out.keep hbW)
  replace Hx := hide (Hx.out.keep hbW)
  replace He := hide (He.out.keep hbW)
  replace HX := hide (HX.out.keep hbW)
  replace HPR := hide (HPR.out.keep hbW)
  replace Hbl := hide (Hbl.out.trans (hbW.mono Hbl.out.size))
  have Hf := hide hyf
  clear hW hbW hyf
  generalize w4.heap.size = gf at Hf s_t s_x s_e s_0 ⊢
  have t0 := Ht.out.cell 0
  have t1 := Ht.out.cell 1
  have t2 := Ht.out.cell 2
  have t3 := Ht.out.cell 3
  have tl := Ht.out.lt
  have x0 := Hx.out.cell 0
  have x1 := Hx.out.cell 1
  have x2 := Hx.out.cell 2
  have x3 := Hx.out.cell 3
  have xl := Hx.out.lt
  have e0 := He.out.cell 0
  have e1 := He.out.cell 1
  have el := He.out.lt
  have f0 := Hf.out.cell 0
  have f1 := Hf.out.cell 1
  have fl := Hf.out.lt
  simp only [List.getElem?_cons_zero, List.getElem?_cons_succ] at t0 t1 t2 t3 x0 x1 x2 x3 e0 e1 f0 f1
  clear s_t
  clear s_x
  clear s_e
  have a_f : B0 ≤ gf := by omega
  clear s_0
  have hne : (ec != 0) = true := by simpa using hec
  go_wp2_with fail
  go_ret
  exact ⟨ret_bool rfl, Hbl.out⟩
set_option maxRecDepth 100000 in
set_option maxHeartbeats 6400000 in
theorem expandedLawB (a : TA) (T X : Tsk) (B : Option Addr) (m d : Nat) (ms : List (List Int)) (C : Option Addr) (q r : Nat) (l : List Int) (w : World) (h : TkR w a T) (hms : Rd (Enc.sl Enc.int) w B m d ms) (hl : Rd Enc.int w C q r l) (p : List Int) (pc pi : Int) (hpc : pc ≠ 0) (hex : extendR T ms = (X, 0, 0)) (hpx : expandR T ms l = (p, pc, pi)) :
    Calls Try.prog 8 #[.agg #[.int .i64 T.facts, .slice a.I a.nI a.cI, .slice a.G a.nG a.cG, .slice a.O a.nO a.cO], .slice B m d, .slice C q r] w (Gives w (.bool true)) := by
  obtain ⟨I, nI, cI, G, nG, cG, O, nO, cO⟩ := a
  have H := hide h
  have Hms := hide hms
  have Hl := hide hl
  have HE := Extend_ct ⟨I, nI, cI, G, nG, cG, O, nO, cO⟩ T B m d ms
  rw [hex] at HE
  have HP := Expand_ct ⟨I, nI, cI, G, nG, cG, O, nO, cO⟩ T B m d ms C q r l
  rw [hpx] at HP
  simp only at HE HP ⊢
  replace HE := hide HE
  replace HP := hide HP
  clear h hms hl hex hpx
  have Hbl := hide (Below.refl w.heap.size w)
  go_enter Try.func8, Try.ntmps8
  go_upto_region 1 with (fail)
  obtain ⟨B0, hB0⟩ : ∃ B0, B0 = w.heap.size := ⟨_, rfl⟩
  have HB0 := hide hB0
  clear hB0
  have s_0 : B0 ≤ w.heap.size := Nat.le_trans (Nat.le_of_eq HB0.out) Hbl.out.size
  have hyt := Blk.new (w) 25 [.int .i64 T.facts, .slice I nI cI, .slice G nG cG, .slice O nO cO]
  have hbW : Below (w).heap.size (w) ((w).alloc (.cells #[.int .i64 T.facts, .slice I nI cI, .slice G nG cG, .slice O nO cO] 25)) := (Below.refl _ _).alloc (Nat.le_refl _) _
  obtain ⟨w0, hW⟩ : ∃ W, W = (w).alloc (.cells #[.int .i64 T.facts, .slice I nI cI, .slice G nG cG, .slice O nO cO] 25) := ⟨_, rfl⟩
  rw [← hW] at hyt hbW ⊢
  replace Hbl := hide (Hbl.out.trans (hbW.mono Hbl.out.size))
  have Ht := hide hyt
  clear hW hbW hyt
  generalize w.heap.size = gT at Ht s_0 ⊢
  have t0 := Ht.out.cell 0
  have t1 := Ht.out.cell 1
  have t2 := Ht.out.cell 2
  have t3 := Ht.out.cell 3
  have tl := Ht.out.lt
  simp only [List.getElem?_cons_zero, List.getElem?_cons_succ] at t0 t1 t2 t3
  have a_t : B0 ≤ gT := by omega
  clear s_0
  go_wp2_with fail
  with_reducible refine (macrosExample_ct w0).mono ?_
  rintro e w1 ⟨rfl, hb⟩
  clear t0 t1 t2 t3 tl
  replace Ht := hide (Ht.out.keep hb)
  replace Hbl := hide (Hbl.out.trans (hb.mono Hbl.out.size))
  clear hb
  have t0 := Ht.out.cell 0
  have t1 := Ht.out.cell 1
  have t2 := Ht.out.cell 2
  have t3 := Ht.out.cell 3
  have tl := Ht.out.lt
  simp only [List.getElem?_cons_zero, List.getElem?_cons_succ] at t0 t1 t2 t3
  go_wp2_with fail
  with_reducible refine (HE.out w1 (H.out.keep Hbl.out) (Hms.out.keep Hbl.out)).mono ?_
  rintro e w2 ⟨hb, x, rfl, hx⟩
  have HX := hide (hx w2 (Chg.refl _ _))
  clear hx
  clear t0 t1 t2 t3 tl
  replace Ht := hide (Ht.out.keep hb)
  replace Hbl := hide (Hbl.out.trans (hb.mono Hbl.out.size))
  clear hb
  unfold fault taskV
  have t0 := Ht.out.cell 0
  have t1 := Ht.out.cell 1
  have t2 := Ht.out.cell 2
  have t3 := Ht.out.cell 3
  have tl := Ht.out.lt
  simp only [List.getElem?_cons_zero, List.getElem?_cons_succ] at t0 t1 t2 t3
  go_upto_region 4 with (fail)
  have s_t : gT < w2.heap.size := tl
  have s_0 : B0 ≤ w2.heap.size := Nat.le_trans (Nat.le_of_eq HB0.out) Hbl.out.size
  have hyx := Blk.new (w2) 25 [.int .i64 X.facts, .slice x.I x.nI x.cI, .slice x.G x.nG x.cG, .slice x.O x.nO x.cO]
  have hye := Blk.new ((w2).alloc (.cells #[.int .i64 X.facts, .slice x.I x.nI x.cI, .slice x.G x.nG x.cG, .slice x.O x.nO x.cO] 25)) 29 [.int .i64 0, .int .i64 0]
  replace hyx := hyx.alloc (.cells #[.int .i64 0, .int .i64 0] 29)
  have hbW := below_two w2 (.cells #[.int .i64 X.facts, .slice x.I x.nI x.cI, .slice x.G x.nG x.cG, .slice x.O x.nO x.cO] 25) (.cells #[.int .i64 0, .int .i64 0] 29)
  simp only [World.size_alloc] at hye
  obtain ⟨w3, hW⟩ : ∃ W, W = ((w2).alloc (.cells #[.int .i64 X.facts, .slice x.I x.nI x.cI, .slice x.G x.nG x.cG, .slice x.O x.nO x.cO] 25)).alloc (.cells #[.int .i64 0, .int .i64 0] 29) := ⟨_, rfl⟩
  rw [← hW] at hyx hye hbW ⊢
  replace Ht := hide (Ht.out.keep hbW)
  replace HX := hide (HX.out.keep hbW)
  replace Hbl := hide (Hbl.out.trans (hbW.mono Hbl.out.size))
  have Hx := hide hyx
  have He := hide hye
  clear hW hbW hyx hye
  generalize w2.heap.size = gX at Hx He s_t s_0 ⊢
  have t0 := Ht.out.cell 0
  have t1 := Ht.out.cell 1
  have t2 := Ht.out.cell 2
  have t3 := Ht.out.cell 3
  have tl := Ht.out.lt
  have x0 := Hx.out.cell 0
  have x1 := Hx.out.cell 1
  have x2 := Hx.out.cell 2
  have x3 := Hx.out.cell 3
  have xl := Hx.out.lt
  have e0 := He.out.cell 0
  have e1 := He.out.cell 1
  have el := He.out.lt
  simp only [List.getElem?_cons_zero, List.getElem?_cons_succ] at t0 t1 t2 t3 x0 x1 x2 x3 e0 e1
  clear s_t
  have a_x : B0 ≤ gX := by omega
  have a_e : B0 ≤ gX + 1 := by omega
  clear s_0
  have n_x_e : ¬ gX = gX + 1 := by omega
  have n_e_x : ¬ gX + 1 = gX := by omega
  go_wp2_with fail
  with_reducible refine (HP.out w3 (H.out.keep Hbl.out) (Hms.out.keep Hbl.out) (Hl.out.keep Hbl.out)).mono ?_
  rintro e w4 ⟨hb, P, np, cp, rfl, hx⟩
  have HPR := hide (hx w4 (Chg.refl _ _))
  clear hx
  clear t0 t1 t2 t3 x0 x1 x2 x3 e0 e1 tl xl el
  replace Ht := hide (Ht.out.keep hb)
  replace Hx := hide (Hx.out.keep hb)
  replace He := hide (He.out.keep hb)
  replace HX := hide (HX.out.keep hb)
  replace Hbl := hide (Hbl.out.trans (hb.mono Hbl.out.size))
  clear hb
  unfold fault
  have t0 := Ht.out.cell 0
  have t1 := Ht.out.cell 1
  have t2 := Ht.out.cell 2
  have t3 := Ht.out.cell 3
  have tl := Ht.out.lt
  have x0 := Hx.out.cell 0
  have x1 := Hx.out.cell 1
  have x2 := Hx.out.cell 2
  have x3 := Hx.out.cell 3
  have xl := Hx.out.lt
  have e0 := He.out.cell 0
  have e1 := He.out.cell 1
  have el := He.out.lt
  simp only [List.getElem?_cons_zero, List.getElem?_cons_succ] at t0 t1 t2 t3 x0 x1 x2 x3 e0 e1
  go_upto_region 5 with (fail)
  have s_t : gT < w4.heap.size := tl
  have s_x : gX < w4.heap.size := xl
  have s_e : gX + 1 < w4.heap.size := el
  have s_0 : B0 ≤ w4.heap.size := Nat.le_trans (Nat.le_of_eq HB0.out) Hbl.out.size
  have hyf := Blk.new (w4) 29 [.int .i64 pc, .int .i64 pi]
  have hbW : Below (w4).heap.size (w4) ((w4).alloc (.cells #[.int .i64 pc, .int .i64 pi] 29)) := (Below.refl _ _).alloc (Nat.le_refl _) _
  obtain ⟨w5, hW⟩ : ∃ W, W = (w4).alloc (.cells #[.int .i64 pc, .int .i64 pi] 29) := ⟨_, rfl⟩
  rw [← hW] at hyf hbW ⊢
  replace Ht := hide (Ht.out.keep hbW)
  replace Hx := hide (Hx.out.keep hbW)
  replace He := hide (He.out.keep hbW)
  replace HX := hide (HX.out.keep hbW)
  replace HPR := hide (HPR.out.keep hbW)
  replace Hbl := hide (Hbl.out.trans (hbW.mono Hbl.out.size))
  have Hf := hide hyf
  clear hW hbW hyf
  generalize w4.heap.size = gf at Hf s_t s_x s_e s_0 ⊢
  have t0 := Ht.out.cell 0
  have t1 := Ht.out.cell 1
  have t2 := Ht.out.cell 2
  have t3 := Ht.out.cell 3
  have tl := Ht.out.lt
  have x0 := Hx.out.cell 0
  have x1 := Hx.out.cell 1
  have x2 := Hx.out.cell 2
  have x3 := Hx.out.cell 3
  have xl := Hx.out.lt
  have e0 := He.out.cell 0
  have e1 := He.out.cell 1
  have el := He.out.lt
  have f0 := Hf.out.cell 0
  have f1 := Hf.out.cell 1
  have fl := Hf.out.lt
  simp only [List.getElem?_cons_zero, List.getElem?_cons_succ] at t0 t1 t2 t3 x0 x1 x2 x3 e0 e1 f0 f1
  clear s_t
  clear s_x
  clear s_e
  have a_f : B0 ≤ gf := by omega
  clear s_0
  have hne : (pc != 0) = true := by simpa using hpc
  go_wp2_with fail
  go_ret
  exact ⟨ret_bool rfl, Hbl.out⟩
set_option maxRecDepth 100000 in
set_option maxHeartbeats 6400000 in
theorem expandedLawC (a : TA) (T X : Tsk) (B : Option Addr) (m d : Nat) (ms : List (List Int)) (C : Option Addr) (q r : Nat) (l : List Int) (w : World) (h : TkR w a T) (hms : Rd (Enc.sl Enc.int) w B m d ms) (hl : Rd Enc.int w C q r l) (p : List Int) (b : Bool) (c : Int) (hex : extendR T ms = (X, 0, 0)) (hpx : expandR T ms l = (p, 0, 0)) (hs1 : solvesR X l = (b, 0, 0)) (hs2 : solvesR T p = (b, 0, 0)) (hc1 : scostR X l = (c, 0, 0)) (hc2 : scostR T p = (c, 0, 0)) :
    Calls Try.prog 8 #[.agg #[.int .i64 T.facts, .slice a.I a.nI a.cI, .slice a.G a.nG a.cG, .slice a.O a.nO a.cO], .slice B m d, .slice C q r] w (Gives w (.bool true)) := by
  obtain ⟨I, nI, cI, G, nG, cG, O, nO, cO⟩ := a
  have H := hide h
  have Hms := hide hms
  have Hl := hide hl
  have HE := Extend_ct ⟨I, nI, cI, G, nG, cG, O, nO, cO⟩ T B m d ms
  rw [hex] at HE
  have HP := Expand_ct ⟨I, nI, cI, G, nG, cG, O, nO, cO⟩ T B m d ms C q r l
  rw [hpx] at HP
  simp only at HE HP ⊢
  replace HE := hide HE
  replace HP := hide HP
  clear h hms hl hex hpx
  have Hs1 := hide hs1
  have Hs2 := hide hs2
  have Hc1 := hide hc1
  have Hc2 := hide hc2
  clear hs1 hs2 hc1 hc2
  have Hbl := hide (Below.refl w.heap.size w)
  go_enter Try.func8, Try.ntmps8
  go_upto_region 1 with (fail)
  obtain ⟨B0, hB0⟩ : ∃ B0, B0 = w.heap.size := ⟨_, rfl⟩
  have HB0 := hide hB0
  clear hB0
  have s_0 : B0 ≤ w.heap.size := Nat.le_trans (Nat.le_of_eq HB0.out) Hbl.out.size
  have hyt := Blk.new (w) 25 [.int .i64 T.facts, .slice I nI cI, .slice G nG cG, .slice O nO cO]
  have hbW : Below (w).heap.size (w) ((w).alloc (.cells #[.int .i64 T.facts, .slice I nI cI, .slice G nG cG, .slice O nO cO] 25)) := (Below.refl _ _).alloc (Nat.le_refl _) _
  obtain ⟨w0, hW⟩ : ∃ W, W = (w).alloc (.cells #[.int .i64 T.facts, .slice I nI cI, .slice G nG cG, .slice O nO cO] 25) := ⟨_, rfl⟩
  rw [← hW] at hyt hbW ⊢
  replace Hbl := hide (Hbl.out.trans (hbW.mono Hbl.out.size))
  have Ht := hide hyt
  clear hW hbW hyt
  generalize w.heap.size = gT at Ht s_0 ⊢
  have t0 := Ht.out.cell 0
  have t1 := Ht.out.cell 1
  have t2 := Ht.out.cell 2
  have t3 := Ht.out.cell 3
  have tl := Ht.out.lt
  simp only [List.getElem?_cons_zero, List.getElem?_cons_succ] at t0 t1 t2 t3
  have a_t : B0 ≤ gT := by omega
  clear s_0
  go_wp2_with fail
  with_reducible refine (macrosExample_ct w0).mono ?_
  rintro e w1 ⟨rfl, hb⟩
  clear t0 t1 t2 t3 tl
  replace Ht := hide (Ht.out.keep hb)
  replace Hbl := hide (Hbl.out.trans (hb.mono Hbl.out.size))
  clear hb
  have t0 := Ht.out.cell 0
  have t1 := Ht.out.cell 1
  have t2 := Ht.out.cell 2
  have t3 := Ht.out.cell 3
  have tl := Ht.out.lt
  simp only [List.getElem?_cons_zero, List.getElem?_cons_succ] at t0 t1 t2 t3
  go_wp2_with fail
  with_reducible refine (HE.out w1 (H.out.keep Hbl.out) (Hms.out.keep Hbl.out)).mono ?_
  rintro e w2 ⟨hb, x, rfl, hx⟩
  have HX := hide (hx w2 (Chg.refl _ _))
  clear hx
  clear t0 t1 t2 t3 tl
  replace Ht := hide (Ht.out.keep hb)
  replace Hbl := hide (Hbl.out.trans (hb.mono Hbl.out.size))
  clear hb
  unfold fault taskV
  have t0 := Ht.out.cell 0
  have t1 := Ht.out.cell 1
  have t2 := Ht.out.cell 2
  have t3 := Ht.out.cell 3
  have tl := Ht.out.lt
  simp only [List.getElem?_cons_zero, List.getElem?_cons_succ] at t0 t1 t2 t3
  go_upto_region 4 with (fail)
  have s_t : gT < w2.heap.size := tl
  have s_0 : B0 ≤ w2.heap.size := Nat.le_trans (Nat.le_of_eq HB0.out) Hbl.out.size
  have hyx := Blk.new (w2) 25 [.int .i64 X.facts, .slice x.I x.nI x.cI, .slice x.G x.nG x.cG, .slice x.O x.nO x.cO]
  have hye := Blk.new ((w2).alloc (.cells #[.int .i64 X.facts, .slice x.I x.nI x.cI, .slice x.G x.nG x.cG, .slice x.O x.nO x.cO] 25)) 29 [.int .i64 0, .int .i64 0]
  replace hyx := hyx.alloc (.cells #[.int .i64 0, .int .i64 0] 29)
  have hbW := below_two w2 (.cells #[.int .i64 X.facts, .slice x.I x.nI x.cI, .slice x.G x.nG x.cG, .slice x.O x.nO x.cO] 25) (.cells #[.int .i64 0, .int .i64 0] 29)
  simp only [World.size_alloc] at hye
  obtain ⟨w3, hW⟩ : ∃ W, W = ((w2).alloc (.cells #[.int .i64 X.facts, .slice x.I x.nI x.cI, .slice x.G x.nG x.cG, .slice x.O x.nO x.cO] 25)).alloc (.cells #[.int .i64 0, .int .i64 0] 29) := ⟨_, rfl⟩
  rw [← hW] at hyx hye hbW ⊢
  replace Ht := hide (Ht.out.keep hbW)
  replace HX := hide (HX.out.keep hbW)
  replace Hbl := hide (Hbl.out.trans (hbW.mono Hbl.out.size))
  have Hx := hide hyx
  have He := hide hye
  clear hW hbW hyx hye
  generalize w2.heap.size = gX at Hx He s_t s_0 ⊢
  have t0 := Ht.out.cell 0
  have t1 := Ht.out.cell 1
  have t2 := Ht.out.cell 2
  have t3 := Ht.out.cell 3
  have tl := Ht.out.lt
  have x0 := Hx.out.cell 0
  have x1 := Hx.out.cell 1
  have x2 := Hx.out.cell 2
  have x3 := Hx.out.cell 3
  have xl := Hx.out.lt
  have e0 := He.out.cell 0
  have e1 := He.out.cell 1
  have el := He.out.lt
  simp only [List.getElem?_cons_zero, List.getElem?_cons_succ] at t0 t1 t2 t3 x0 x1 x2 x3 e0 e1
  clear s_t
  have a_x : B0 ≤ gX := by omega
  have a_e : B0 ≤ gX + 1 := by omega
  clear s_0
  have n_x_e : ¬ gX = gX + 1 := by omega
  have n_e_x : ¬ gX + 1 = gX := by omega
  go_wp2_with fail
  with_reducible refine (HP.out w3 (H.out.keep Hbl.out) (Hms.out.keep Hbl.out) (Hl.out.keep Hbl.out)).mono ?_
  rintro e w4 ⟨hb, P, np, cp, rfl, hx⟩
  have HPR := hide (hx w4 (Chg.refl _ _))
  clear hx
  clear t0 t1 t2 t3 x0 x1 x2 x3 e0 e1 tl xl el
  replace Ht := hide (Ht.out.keep hb)
  replace Hx := hide (Hx.out.keep hb)
  replace He := hide (He.out.keep hb)
  replace HX := hide (HX.out.keep hb)
  replace Hbl := hide (Hbl.out.trans (hb.mono Hbl.out.size))
  clear hb
  unfold fault
  have t0 := Ht.out.cell 0
  have t1 := Ht.out.cell 1
  have t2 := Ht.out.cell 2
  have t3 := Ht.out.cell 3
  have tl := Ht.out.lt
  have x0 := Hx.out.cell 0
  have x1 := Hx.out.cell 1
  have x2 := Hx.out.cell 2
  have x3 := Hx.out.cell 3
  have xl := Hx.out.lt
  have e0 := He.out.cell 0
  have e1 := He.out.cell 1
  have el := He.out.lt
  simp only [List.getElem?_cons_zero, List.getElem?_cons_succ] at t0 t1 t2 t3 x0 x1 x2 x3 e0 e1
  go_upto_region 5 with (fail)
  have s_t : gT < w4.heap.size := tl
  have s_x : gX < w4.heap.size := xl
  have s_e : gX + 1 < w4.heap.size := el
  have s_0 : B0 ≤ w4.heap.size := Nat.le_trans (Nat.le_of_eq HB0.out) Hbl.out.size
  have hyf := Blk.new (w4) 29 [.int .i64 0, .int .i64 0]
  have hbW : Below (w4).heap.size (w4) ((w4).alloc (.cells #[.int .i64 0, .int .i64 0] 29)) := (Below.refl _ _).alloc (Nat.le_refl _) _
  obtain ⟨w5, hW⟩ : ∃ W, W = (w4).alloc (.cells #[.int .i64 0, .int .i64 0] 29) := ⟨_, rfl⟩
  rw [← hW] at hyf hbW ⊢
  replace Ht := hide (Ht.out.keep hbW)
  replace Hx := hide (Hx.out.keep hbW)
  replace He := hide (He.out.keep hbW)
  replace HX := hide (HX.out.keep hbW)
  replace HPR := hide (HPR.out.keep hbW)
  replace Hbl := hide (Hbl.out.trans (hbW.mono Hbl.out.size))
  have Hf := hide hyf
  clear hW hbW hyf
  generalize w4.heap.size = gf at Hf s_t s_x s_e s_0 ⊢
  have t0 := Ht.out.cell 0
  have t1 := Ht.out.cell 1
  have t2 := Ht.out.cell 2
  have t3 := Ht.out.cell 3
  have tl := Ht.out.lt
  have x0 := Hx.out.cell 0
  have x1 := Hx.out.cell 1
  have x2 := Hx.out.cell 2
  have x3 := Hx.out.cell 3
  have xl := Hx.out.lt
  have e0 := He.out.cell 0
  have e1 := He.out.cell 1
  have el := He.out.lt
  have f0 := Hf.out.cell 0
  have f1 := Hf.out.cell 1
  have fl := Hf.out.lt
  simp only [List.getElem?_cons_zero, List.getElem?_cons_succ] at t0 t1 t2 t3 x0 x1 x2 x3 e0 e1 f0 f1
  clear s_t
  clear s_x
  clear s_e
  have a_f : B0 ≤ gf := by omega
  clear s_0
  have hct := SSolves_ct x X C q r l w5 HX.out (Hl.out.keep Hbl.out)
  rw [Hs1.out] at hct
  simp only at hct
  go_wp2_with fail
  with_reducible refine (hct).mono ?_
  rintro e w6 ⟨rfl, hb⟩
  clear t0 t1 t2 t3 x0 x1 x2 x3 e0 e1 f0 f1 tl xl el fl
  replace Ht := hide (Ht.out.keep hb)
  replace Hx := hide (Hx.out.keep hb)
  replace He := hide (He.out.keep hb)
  replace Hf := hide (Hf.out.keep hb)
  replace HX := hide (HX.out.keep hb)
  replace HPR := hide (HPR.out.keep hb)
  replace Hbl := hide (Hbl.out.trans (hb.mono Hbl.out.size))
  clear hb
  clear hct
  unfold fault
  have t0 := Ht.out.cell 0
  have t1 := Ht.out.cell 1
  have t2 := Ht.out.cell 2
  have t3 := Ht.out.cell 3
  have tl := Ht.out.lt
  have x0 := Hx.out.cell 0
  have x1 := Hx.out.cell 1
  have x2 := Hx.out.cell 2
  have x3 := Hx.out.cell 3
  have xl := Hx.out.lt
  have e0 := He.out.cell 0
  have e1 := He.out.cell 1
  have el := He.out.lt
  have f0 := Hf.out.cell 0
  have f1 := Hf.out.cell 1
  have fl := Hf.out.lt
  simp only [List.getElem?_cons_zero, List.getElem?_cons_succ] at t0 t1 t2 t3 x0 x1 x2 x3 e0 e1 f0 f1
  go_upto_region 8 with (fail)
  have s_t : gT < w6.heap.size := tl
  have s_x : gX < w6.heap.size := xl
  have s_e : gX + 1 < w6.heap.size := el
  have s_f : gf < w6.heap.size := fl
  have s_0 : B0 ≤ w6.heap.size := Nat.le_trans (Nat.le_of_eq HB0.out) Hbl.out.size
  have hya := Blk.new (w6) 29 [.int .i64 0, .int .i64 0]
  have hbW : Below (w6).heap.size (w6) ((w6).alloc (.cells #[.int .i64 0, .int .i64 0] 29)) := (Below.refl _ _).alloc (Nat.le_refl _) _
  obtain ⟨w7, hW⟩ : ∃ W, W = (w6).alloc (.cells #[.int .i64 0, .int .i64 0] 29) := ⟨_, rfl⟩
  rw [← hW] at hya hbW ⊢
  replace Ht := hide (Ht.out.keep hbW)
  replace Hx := hide (Hx.out.keep hbW)
  replace He := hide (He.out.keep hbW)
  replace Hf := hide (Hf.out.keep hbW)
  replace HX := hide (HX.out.keep hbW)
  replace HPR := hide (HPR.out.keep hbW)
  replace Hbl := hide (Hbl.out.trans (hbW.mono Hbl.out.size))
  have Ha := hide hya
  clear hW hbW hya
  generalize w6.heap.size = ga at Ha s_t s_x s_e s_f s_0 ⊢
  have t0 := Ht.out.cell 0
  have t1 := Ht.out.cell 1
  have t2 := Ht.out.cell 2
  have t3 := Ht.out.cell 3
  have tl := Ht.out.lt
  have x0 := Hx.out.cell 0
  have x1 := Hx.out.cell 1
  have x2 := Hx.out.cell 2
  have x3 := Hx.out.cell 3
  have xl := Hx.out.lt
  have e0 := He.out.cell 0
  have e1 := He.out.cell 1
  have el := He.out.lt
  have f0 := Hf.out.cell 0
  have f1 := Hf.out.cell 1
  have fl := Hf.out.lt
  have a0 := Ha.out.cell 0
  have a1 := Ha.out.cell 1
  have al := Ha.out.lt
  simp only [List.getElem?_cons_zero, List.getElem?_cons_succ] at t0 t1 t2 t3 x0 x1 x2 x3 e0 e1 f0 f1 a0 a1
  clear s_t
  clear s_x
  clear s_e
  clear s_f
  have a_a : B0 ≤ ga := by omega
  clear s_0
  have hct := SSolves_ct ⟨I, nI, cI, G, nG, cG, O, nO, cO⟩ T P np cp p w7 (H.out.keep Hbl.out) HPR.out
  rw [Hs2.out] at hct
  simp only at hct
  go_wp2_with fail
  with_reducible refine (hct).mono ?_
  rintro e w8 ⟨rfl, hb⟩
  clear t0 t1 t2 t3 x0 x1 x2 x3 e0 e1 f0 f1 a0 a1 tl xl el fl al
  replace Ht := hide (Ht.out.keep hb)
  replace Hx := hide (Hx.out.keep hb)
  replace He := hide (He.out.keep hb)
  replace Hf := hide (Hf.out.keep hb)
  replace Ha := hide (Ha.out.keep hb)
  replace HX := hide (HX.out.keep hb)
  replace HPR := hide (HPR.out.keep hb)
  replace Hbl := hide (Hbl.out.trans (hb.mono Hbl.out.size))
  clear hb
  clear hct
  unfold fault
  have t0 := Ht.out.cell 0
  have t1 := Ht.out.cell 1
  have t2 := Ht.out.cell 2
  have t3 := Ht.out.cell 3
  have tl := Ht.out.lt
  have x0 := Hx.out.cell 0
  have x1 := Hx.out.cell 1
  have x2 := Hx.out.cell 2
  have x3 := Hx.out.cell 3
  have xl := Hx.out.lt
  have e0 := He.out.cell 0
  have e1 := He.out.cell 1
  have el := He.out.lt
  have f0 := Hf.out.cell 0
  have f1 := Hf.out.cell 1
  have fl := Hf.out.lt
  have a0 := Ha.out.cell 0
  have a1 := Ha.out.cell 1
  have al := Ha.out.lt
  simp only [List.getElem?_cons_zero, List.getElem?_cons_succ] at t0 t1 t2 t3 x0 x1 x2 x3 e0 e1 f0 f1 a0 a1
  go_upto_region 9 with (fail)
  have s_t : gT < w8.heap.size := tl
  have s_x : gX < w8.heap.size := xl
  have s_e : gX + 1 < w8.heap.size := el
  have s_f : gf < w8.heap.size := fl
  have s_a : ga < w8.heap.size := al
  have s_0 : B0 ≤ w8.heap.size := Nat.le_trans (Nat.le_of_eq HB0.out) Hbl.out.size
  have hyb := Blk.new (w8) 29 [.int .i64 0, .int .i64 0]
  have hbW : Below (w8).heap.size (w8) ((w8).alloc (.cells #[.int .i64 0, .int .i64 0] 29)) := (Below.refl _ _).alloc (Nat.le_refl _) _
  obtain ⟨w9, hW⟩ : ∃ W, W = (w8).alloc (.cells #[.int .i64 0, .int .i64 0] 29) := ⟨_, rfl⟩
  rw [← hW] at hyb hbW ⊢
  replace Ht := hide (Ht.out.keep hbW)
  replace Hx := hide (Hx.out.keep hbW)
  replace He := hide (He.out.keep hbW)
  replace Hf := hide (Hf.out.keep hbW)
  replace Ha := hide (Ha.out.keep hbW)
  replace HX := hide (HX.out.keep hbW)
  replace HPR := hide (HPR.out.keep hbW)
  replace Hbl := hide (Hbl.out.trans (hbW.mono Hbl.out.size))
  have Hb := hide hyb
  clear hW hbW hyb
  generalize w8.heap.size = gb at Hb s_t s_x s_e s_f s_a s_0 ⊢
  have t0 := Ht.out.cell 0
  have t1 := Ht.out.cell 1
  have t2 := Ht.out.cell 2
  have t3 := Ht.out.cell 3
  have tl := Ht.out.lt
  have x0 := Hx.out.cell 0
  have x1 := Hx.out.cell 1
  have x2 := Hx.out.cell 2
  have x3 := Hx.out.cell 3
  have xl := Hx.out.lt
  have e0 := He.out.cell 0
  have e1 := He.out.cell 1
  have el := He.out.lt
  have f0 := Hf.out.cell 0
  have f1 := Hf.out.cell 1
  have fl := Hf.out.lt
  have a0 := Ha.out.cell 0
  have a1 := Ha.out.cell 1
  have al := Ha.out.lt
  have b0 := Hb.out.cell 0
  have b1 := Hb.out.cell 1
  have bl := Hb.out.lt
  simp only [List.getElem?_cons_zero, List.getElem?_cons_succ] at t0 t1 t2 t3 x0 x1 x2 x3 e0 e1 f0 f1 a0 a1 b0 b1
  clear s_t
  clear s_x
  clear s_e
  clear s_f
  clear s_a
  have a_b : B0 ≤ gb := by omega
  clear s_0
  have hct := SCost_ct x X C q r l w9 HX.out (Hl.out.keep Hbl.out)
  rw [Hc1.out] at hct
  simp only at hct
  go_wp2_with fail
  with_reducible refine (hct).mono ?_
  rintro e w10 ⟨rfl, hb⟩
  clear t0 t1 t2 t3 x0 x1 x2 x3 e0 e1 f0 f1 a0 a1 b0 b1 tl xl el fl al bl
  replace Ht := hide (Ht.out.keep hb)
  replace Hx := hide (Hx.out.keep hb)
  replace He := hide (He.out.keep hb)
  replace Hf := hide (Hf.out.keep hb)
  replace Ha := hide (Ha.out.keep hb)
  replace Hb := hide (Hb.out.keep hb)
  replace HX := hide (HX.out.keep hb)
  replace HPR := hide (HPR.out.keep hb)
  replace Hbl := hide (Hbl.out.trans (hb.mono Hbl.out.size))
  clear hb
  clear hct
  unfold fault
  have t0 := Ht.out.cell 0
  have t1 := Ht.out.cell 1
  have t2 := Ht.out.cell 2
  have t3 := Ht.out.cell 3
  have tl := Ht.out.lt
  have x0 := Hx.out.cell 0
  have x1 := Hx.out.cell 1
  have x2 := Hx.out.cell 2
  have x3 := Hx.out.cell 3
  have xl := Hx.out.lt
  have e0 := He.out.cell 0
  have e1 := He.out.cell 1
  have el := He.out.lt
  have f0 := Hf.out.cell 0
  have f1 := Hf.out.cell 1
  have fl := Hf.out.lt
  have a0 := Ha.out.cell 0
  have a1 := Ha.out.cell 1
  have al := Ha.out.lt
  have b0 := Hb.out.cell 0
  have b1 := Hb.out.cell 1
  have bl := Hb.out.lt
  simp only [List.getElem?_cons_zero, List.getElem?_cons_succ] at t0 t1 t2 t3 x0 x1 x2 x3 e0 e1 f0 f1 a0 a1 b0 b1
  go_upto_region 10 with (fail)
  have s_t : gT < w10.heap.size := tl
  have s_x : gX < w10.heap.size := xl
  have s_e : gX + 1 < w10.heap.size := el
  have s_f : gf < w10.heap.size := fl
  have s_a : ga < w10.heap.size := al
  have s_b : gb < w10.heap.size := bl
  have s_0 : B0 ≤ w10.heap.size := Nat.le_trans (Nat.le_of_eq HB0.out) Hbl.out.size
  have hyc := Blk.new (w10) 29 [.int .i64 0, .int .i64 0]
  have hbW : Below (w10).heap.size (w10) ((w10).alloc (.cells #[.int .i64 0, .int .i64 0] 29)) := (Below.refl _ _).alloc (Nat.le_refl _) _
  obtain ⟨w11, hW⟩ : ∃ W, W = (w10).alloc (.cells #[.int .i64 0, .int .i64 0] 29) := ⟨_, rfl⟩
  rw [← hW] at hyc hbW ⊢
  replace Ht := hide (Ht.out.keep hbW)
  replace Hx := hide (Hx.out.keep hbW)
  replace He := hide (He.out.keep hbW)
  replace Hf := hide (Hf.out.keep hbW)
  replace Ha := hide (Ha.out.keep hbW)
  replace Hb := hide (Hb.out.keep hbW)
  replace HX := hide (HX.out.keep hbW)
  replace HPR := hide (HPR.out.keep hbW)
  replace Hbl := hide (Hbl.out.trans (hbW.mono Hbl.out.size))
  have Hc := hide hyc
  clear hW hbW hyc
  generalize w10.heap.size = gc at Hc s_t s_x s_e s_f s_a s_b s_0 ⊢
  have t0 := Ht.out.cell 0
  have t1 := Ht.out.cell 1
  have t2 := Ht.out.cell 2
  have t3 := Ht.out.cell 3
  have tl := Ht.out.lt
  have x0 := Hx.out.cell 0
  have x1 := Hx.out.cell 1
  have x2 := Hx.out.cell 2
  have x3 := Hx.out.cell 3
  have xl := Hx.out.lt
  have e0 := He.out.cell 0
  have e1 := He.out.cell 1
  have el := He.out.lt
  have f0 := Hf.out.cell 0
  have f1 := Hf.out.cell 1
  have fl := Hf.out.lt
  have a0 := Ha.out.cell 0
  have a1 := Ha.out.cell 1
  have al := Ha.out.lt
  have b0 := Hb.out.cell 0
  have b1 := Hb.out.cell 1
  have bl := Hb.out.lt
  have c0 := Hc.out.cell 0
  have c1 := Hc.out.cell 1
  have cl := Hc.out.lt
  simp only [List.getElem?_cons_zero, List.getElem?_cons_succ] at t0 t1 t2 t3 x0 x1 x2 x3 e0 e1 f0 f1 a0 a1 b0 b1 c0 c1
  clear s_t
  clear s_x
  clear s_e
  clear s_f
  clear s_a
  clear s_b
  have a_c : B0 ≤ gc := by omega
  clear s_0
  have hct := SCost_ct ⟨I, nI, cI, G, nG, cG, O, nO, cO⟩ T P np cp p w11 (H.out.keep Hbl.out) HPR.out
  rw [Hc2.out] at hct
  simp only at hct
  go_wp2_with fail
  with_reducible refine (hct).mono ?_
  rintro e w12 ⟨rfl, hb⟩
  clear t0 t1 t2 t3 x0 x1 x2 x3 e0 e1 f0 f1 a0 a1 b0 b1 c0 c1 tl xl el fl al bl cl
  replace Ht := hide (Ht.out.keep hb)
  replace Hx := hide (Hx.out.keep hb)
  replace He := hide (He.out.keep hb)
  replace Hf := hide (Hf.out.keep hb)
  replace Ha := hide (Ha.out.keep hb)
  replace Hb := hide (Hb.out.keep hb)
  replace Hc := hide (Hc.out.keep hb)
  replace HX := hide (HX.out.keep hb)
  replace HPR := hide (HPR.out.keep hb)
  replace Hbl := hide (Hbl.out.trans (hb.mono Hbl.out.size))
  clear hb
  clear hct
  unfold fault
  have t0 := Ht.out.cell 0
  have t1 := Ht.out.cell 1
  have t2 := Ht.out.cell 2
  have t3 := Ht.out.cell 3
  have tl := Ht.out.lt
  have x0 := Hx.out.cell 0
  have x1 := Hx.out.cell 1
  have x2 := Hx.out.cell 2
  have x3 := Hx.out.cell 3
  have xl := Hx.out.lt
  have e0 := He.out.cell 0
  have e1 := He.out.cell 1
  have el := He.out.lt
  have f0 := Hf.out.cell 0
  have f1 := Hf.out.cell 1
  have fl := Hf.out.lt
  have a0 := Ha.out.cell 0
  have a1 := Ha.out.cell 1
  have al := Ha.out.lt
  have b0 := Hb.out.cell 0
  have b1 := Hb.out.cell 1
  have bl := Hb.out.lt
  have c0 := Hc.out.cell 0
  have c1 := Hc.out.cell 1
  have cl := Hc.out.lt
  simp only [List.getElem?_cons_zero, List.getElem?_cons_succ] at t0 t1 t2 t3 x0 x1 x2 x3 e0 e1 f0 f1 a0 a1 b0 b1 c0 c1
  go_upto_region 11 with (fail)
  have s_t : gT < w12.heap.size := tl
  have s_x : gX < w12.heap.size := xl
  have s_e : gX + 1 < w12.heap.size := el
  have s_f : gf < w12.heap.size := fl
  have s_a : ga < w12.heap.size := al
  have s_b : gb < w12.heap.size := bl
  have s_c : gc < w12.heap.size := cl
  have s_0 : B0 ≤ w12.heap.size := Nat.le_trans (Nat.le_of_eq HB0.out) Hbl.out.size
  have hyd := Blk.new (w12) 29 [.int .i64 0, .int .i64 0]
  have hbW : Below (w12).heap.size (w12) ((w12).alloc (.cells #[.int .i64 0, .int .i64 0] 29)) := (Below.refl _ _).alloc (Nat.le_refl _) _
  obtain ⟨w13, hW⟩ : ∃ W, W = (w12).alloc (.cells #[.int .i64 0, .int .i64 0] 29) := ⟨_, rfl⟩
  rw [← hW] at hyd hbW ⊢
  replace Ht := hide (Ht.out.keep hbW)
  replace Hx := hide (Hx.out.keep hbW)
  replace He := hide (He.out.keep hbW)
  replace Hf := hide (Hf.out.keep hbW)
  replace Ha := hide (Ha.out.keep hbW)
  replace Hb := hide (Hb.out.keep hbW)
  replace Hc := hide (Hc.out.keep hbW)
  replace HX := hide (HX.out.keep hbW)
  replace HPR := hide (HPR.out.keep hbW)
  replace Hbl := hide (Hbl.out.trans (hbW.mono Hbl.out.size))
  have Hd := hide hyd
  clear hW hbW hyd
  generalize w12.heap.size = gd at Hd s_t s_x s_e s_f s_a s_b s_c s_0 ⊢
  have t0 := Ht.out.cell 0
  have t1 := Ht.out.cell 1
  have t2 := Ht.out.cell 2
  have t3 := Ht.out.cell 3
  have tl := Ht.out.lt
  have x0 := Hx.out.cell 0
  have x1 := Hx.out.cell 1
  have x2 := Hx.out.cell 2
  have x3 := Hx.out.cell 3
  have xl := Hx.out.lt
  have e0 := He.out.cell 0
  have e1 := He.out.cell 1
  have el := He.out.lt
  have f0 := Hf.out.cell 0
  have f1 := Hf.out.cell 1
  have fl := Hf.out.lt
  have a0 := Ha.out.cell 0
  have a1 := Ha.out.cell 1
  have al := Ha.out.lt
  have b0 := Hb.out.cell 0
  have b1 := Hb.out.cell 1
  have bl := Hb.out.lt
  have c0 := Hc.out.cell 0
  have c1 := Hc.out.cell 1
  have cl := Hc.out.lt
  have d0 := Hd.out.cell 0
  have d1 := Hd.out.cell 1
  have dl := Hd.out.lt
  simp only [List.getElem?_cons_zero, List.getElem?_cons_succ] at t0 t1 t2 t3 x0 x1 x2 x3 e0 e1 f0 f1 a0 a1 b0 b1 c0 c1 d0 d1
  clear s_t
  clear s_x
  clear s_e
  clear s_f
  clear s_a
  clear s_b
  clear s_c
  have a_d : B0 ≤ gd := by omega
  clear s_0
  go_wp2_with fail
  go_ret
  exact ⟨ret_bool (by simp), Hbl.out⟩
theorem expandedLaw_ct (T : Tsk) (a : TA) (B : Option Addr) (m d : Nat) (ms : List (List Int)) (C : Option Addr) (q r : Nat) (l : List Int) (w : World) (h : TkR w a T) (hms : Rd (Enc.sl Enc.int) w B m d ms) (hl : Rd Enc.int w C q r l) :
    Calls Try.prog 8 #[.agg #[.int .i64 T.facts, .slice a.I a.nI a.cI, .slice a.G a.nG a.cG, .slice a.O a.nO a.cO], .slice B m d, .slice C q r] w (Gives w (.bool true)) := by
  rcases hex : extendR T ms with ⟨X, ec, ei⟩
  rcases hpx : expandR T ms l with ⟨p, pc, pi⟩
  by_cases hec : ec = 0
  · have h2 : (extendR T ms).2.1 = 0 := by rw [hex]; exact hec
    obtain ⟨hz, hlen, h8, h6, h40⟩ := extend_ok h2
    rw [hex] at hz
    obtain ⟨e1, e2⟩ := Prod.mk.inj hz
    subst e1 e2
    by_cases hpc : pc = 0
    · obtain ⟨⟨N, hok⟩, _, _, _⟩ := extend_ops h2
      have hokX := extend_okt hok h2
      rw [hex] at hlen hokX
      simp only at hlen hokX
      have hpx2 := hpx
      unfold expandR at hpx2
      rw [if_neg (by rw [hex]; simp), hex] at hpx2
      simp only at hpx2
      by_cases hsf : (stepsFault X.ops.length l).1 ≠ 0
      · rw [if_pos hsf] at hpx2
        obtain ⟨_, e⟩ := Prod.mk.inj hpx2
        rw [e] at hsf
        exact absurd hpc hsf
      rw [if_neg hsf] at hpx2
      obtain ⟨hsz, h60, hr⟩ := steps_ok (n := X.ops.length) (l := l) (by simpa using hsf)
      by_cases hlong : 60 < (expandF T.ops.length ms l).length
      · rw [if_pos hlong] at hpx2
        obtain ⟨_, e⟩ := Prod.mk.inj hpx2
        obtain ⟨e, _⟩ := Prod.mk.inj e
        omega
      rw [if_neg hlong] at hpx2
      obtain ⟨e3, e4⟩ := Prod.mk.inj hpx2
      obtain ⟨e5, e6⟩ := Prod.mk.inj e4
      subst e3 e5 e6
      have hrX : ∀ x ∈ l, 0 ≤ x ∧ x < ((extendR T ms).1.ops.length : Int) := by rw [hex]; exact hr
      obtain ⟨g1, g2, g3⟩ := expand_law hok h2 l T.init (setB_iff.1 hok.init).1 hrX
      have hsol := expand_solve hok h2 hrX
      rw [hex] at g2 hsol
      simp only at g2 hsol
      have hp1 : planFault X l = (0, 0) := by
        unfold planFault
        rw [okt_fault hokX, if_neg (by simp), hsz]
      have hp2 : planFault T (expandF T.ops.length ms l) = (0, 0) := by
        unfold planFault
        rw [okt_fault hok, if_neg (by simp)]
        unfold stepsFault
        rw [if_neg hlong, if_neg]
        intro e
        obtain ⟨x, hx, hb⟩ := List.any_eq_true.1 e
        have := g1 x hx
        unfold outB at hb
        simp at hb
        omega
      refine expandedLawC a T X B m d ms C q r l w h hms hl _ (solveF X l) (costF X.ops l) hex hpx ?_ ?_ ?_ ?_
      · unfold solvesR
        rw [hp1, if_neg (by simp)]
        rfl
      · unfold solvesR
        rw [hp2, if_neg (by simp), ← hsol]
        rfl
      · unfold scostR
        rw [hp1, if_neg (by simp)]
      · unfold scostR
        rw [hp2, if_neg (by simp), g2]
    · exact expandedLawB a T X B m d ms C q r l w h hms hl p pc pi hpc hex hpx
  · exact expandedLawA a T X B m d ms C q r l w h hms hl p ec ei pc pi hec hex hpx
end Go.Proofs.Ytnfeknfakkdbhaa
