/- The walk of the law on Extend and Expand. -/
import Derived.Test.YtnfeknfakkdbhaaMe
import Derived.Test.YtnfeknfakkdbhaaEs
import Derived.Test.YtnfeknfakkdbhaaEx
import Derived.Test.YtnfeknfakkdbhaaSm
import Derived.Test.YtnfeknfakkdbhaaMg
namespace Go.Proofs.Ytnfeknfakkdbhaa
set_option linter.unusedVariables false
set_option linter.unusedSimpArgs false
open Go.RowKit

theorem rdm_old {w : World} {A : Option Addr} {n c : Nat} {l : List Int} (h : Rd Enc.int w A n c l) : RdM (fun b => w.heap.size ≤ b) w A n c l := fun w' hc => h.keep (hc.below (fun i e => e) (Nat.le_refl _))
set_option maxRecDepth 100000 in
set_option maxHeartbeats 6400000 in
theorem extendLawA (a : TA) (T : Tsk) (B : Option Addr) (m d : Nat) (ms : List (List Int)) (C : Option Addr) (q r : Nat) (l : List Int) (w : World) (h : TkR w a T) (hms : Rd (Enc.sl Enc.int) w B m d ms) (hl : Rd Enc.int w C q r l) (X : Tsk) (ec ei : Int) (hec : ec ≠ 0) (hex : extendR T ms = (zeroT, ec, ei)) (hpx : expandR T ms l = ([], ec, ei)) :
    Calls Try.prog 4 #[.agg #[.int .i64 T.facts, .slice a.I a.nI a.cI, .slice a.G a.nG a.cG, .slice a.O a.nO a.cO], .slice B m d, .slice C q r] w (Gives w (.bool true)) := by
  obtain ⟨I, nI, cI, G, nG, cG, O, nO, cO⟩ := a
  have H := hide h
  have Hms := hide hms
  have Hl := hide hl
  have HE := Extend_ct ⟨I, nI, cI, G, nG, cG, O, nO, cO⟩ T B m d ms
  rw [hex] at HE
  have HF := Extended_ct ⟨I, nI, cI, G, nG, cG, O, nO, cO⟩ T B m d ms
  rw [hex] at HF
  have HP := Expand_ct ⟨I, nI, cI, G, nG, cG, O, nO, cO⟩ T B m d ms C q r l
  rw [hpx] at HP
  simp only at HE HF HP ⊢
  replace HE := hide HE
  replace HF := hide HF
  replace HP := hide HP
  clear h hms hl hex hpx
  have Hbl := hide (Below.refl w.heap.size w)
  go_enter Try.func4, Try.ntmps4
  go_upto_region 1 with (fail)
  obtain ⟨B0, hB0⟩ : ∃ B0, B0 = w.heap.size := ⟨_, rfl⟩
  have HB0 := hide hB0
  clear hB0
  have s_0 : B0 ≤ w.heap.size := Nat.le_trans (Nat.le_of_eq HB0.out) Hbl.out.size
  have hyt := Blk.new (w) 25 [.int .i64 T.facts, .slice I nI cI, .slice G nG cG, .slice O nO cO]
  have hbW : Below (w).heap.size (w) ((w).alloc (.cells #[.int .i64 T.facts, .slice I nI cI, .slice G nG cG, .slice O nO cO] 25)) := (Below.refl _ _).alloc (Nat.le_refl _) _
  obtain ⟨w0, hW⟩ : ∃ W, W = (w).alloc (.cells #[.int .i64 T.facts, .slice I nI cI, .slice G nG cG, .slice O nO cO] 25) := ⟨_, rfl⟩
  rw [← hW] at hyt hbW ⊢
  replace Hbl := hide (Hbl.out.trans (hbW.mono Hbl.out.size))
  have Ht := hide hyt
  clear hW hbW hyt
  generalize w.heap.size = gT at Ht s_0 ⊢
  have t0 := Ht.out.cell 0
  have t1 := Ht.out.cell 1
  have t2 := Ht.out.cell 2
  have t3 := Ht.out.cell 3
  have tl := Ht.out.lt
  simp only [List.getElem?_cons_zero, List.getElem?_cons_succ] at t0 t1 t2 t3
  have a_t : B0 ≤ gT := by omega
  clear s_0
  go_wp2_with fail
  with_reducible refine (HE.out w0 (H.out.keep Hbl.out) (Hms.out.keep Hbl.out)).mono ?_
  rintro e w2 ⟨hb, x, rfl, hx⟩
  have HXa := hide (hx w2 (Chg.refl _ _))
  have HXm := hide (show ∀ w', Chg (fun b => B0 ≤ b ∧ b < B0) w2 w' → True from fun _ _ => trivial)
  clear hx HXm
  clear t0 t1 t2 t3 tl
  replace Ht := hide (Ht.out.keep hb)
  replace Hbl := hide (Hbl.out.trans (hb.mono Hbl.out.size))
  clear hb
  unfold fault taskV
  rw [show zeroT.facts = (0 : Int) from rfl]
  have t0 := Ht.out.cell 0
  have t1 := Ht.out.cell 1
  have t2 := Ht.out.cell 2
  have t3 := Ht.out.cell 3
  have tl := Ht.out.lt
  simp only [List.getElem?_cons_zero, List.getElem?_cons_succ] at t0 t1 t2 t3
  go_upto_region 2 with (fail)
  have n_t_x : ¬ gT = w2.heap.size := by omega
  have n_x_t : ¬ w2.heap.size = gT := by omega
  have n_t_e : ¬ gT = w2.heap.size + 1 := by omega
  have n_e_t : ¬ w2.heap.size + 1 = gT := by omega
  have s_t : gT < w2.heap.size := tl
  have s_0 : B0 ≤ w2.heap.size := Nat.le_trans (Nat.le_of_eq HB0.out) Hbl.out.size
  have hyx := Blk.new (w2) 25 [.int .i64 0, .slice x.I x.nI x.cI, .slice x.G x.nG x.cG, .slice x.O x.nO x.cO]
  have hye := Blk.new ((w2).alloc (.cells #[.int .i64 0, .slice x.I x.nI x.cI, .slice x.G x.nG x.cG, .slice x.O x.nO x.cO] 25)) 29 [.int .i64 ec, .int .i64 ei]
  replace hyx := hyx.alloc (.cells #[.int .i64 ec, .int .i64 ei] 29)
  have hbW := below_two w2 (.cells #[.int .i64 0, .slice x.I x.nI x.cI, .slice x.G x.nG x.cG, .slice x.O x.nO x.cO] 25) (.cells #[.int .i64 ec, .int .i64 ei] 29)
  simp only [World.size_alloc] at hye
  obtain ⟨w3, hW⟩ : ∃ W, W = ((w2).alloc (.cells #[.int .i64 0, .slice x.I x.nI x.cI, .slice x.G x.nG x.cG, .slice x.O x.nO x.cO] 25)).alloc (.cells #[.int .i64 ec, .int .i64 ei] 29) := ⟨_, rfl⟩
  rw [← hW] at hyx hye hbW ⊢
  replace Ht := hide (Ht.out.keep hbW)
  replace HXa := hide (HXa.out.keep hbW)
  replace Hbl := hide (Hbl.out.trans (hbW.mono Hbl.out.size))
  have Hx := hide hyx
  have He := hide hye
  clear hW hbW hyx hye
  generalize w2.heap.size = gX at Hx He n_t_x n_x_t n_t_e n_e_t s_t s_0 ⊢
  have t0 := Ht.out.cell 0
  have t1 := Ht.out.cell 1
  have t2 := Ht.out.cell 2
  have t3 := Ht.out.cell 3
  have tl := Ht.out.lt
  have x0 := Hx.out.cell 0
  have x1 := Hx.out.cell 1
  have x2 := Hx.out.cell 2
  have x3 := Hx.out.cell 3
  have xl := Hx.out.lt
  have e0 := He.out.cell 0
  have e1 := He.out.cell 1
  have el := He.out.lt
  simp only [List.getElem?_cons_zero, List.getElem?_cons_succ] at t0 t1 t2 t3 x0 x1 x2 x3 e0 e1
  clear s_t
  have a_x : B0 ≤ gX := by omega
  have a_e : B0 ≤ gX + 1 := by omega
  clear s_0
  have n_x_e : ¬ gX = gX + 1 := by omega
  have n_e_x : ¬ gX + 1 = gX := by omega
  go_wp2_with fail
  with_reducible refine (HP.out w3 (H.out.keep Hbl.out) (Hms.out.keep Hbl.out) (Hl.out.keep Hbl.out)).mono ?_
  rintro e w4 ⟨hb, P, np, cp, rfl, hx⟩
  have HPR := hide (hx w4 (Chg.refl _ _))
  clear hx
  clear t0 t1 t2 t3 x0 x1 x2 x3 e0 e1 tl xl el
  replace Ht := hide (Ht.out.keep hb)
  replace Hx := hide (Hx.out.keep hb)
  replace He := hide (He.out.keep hb)
  replace HXa := hide (HXa.out.keep hb)
  replace Hbl := hide (Hbl.out.trans (hb.mono Hbl.out.size))
  clear hb
  unfold fault
  have t0 := Ht.out.cell 0
  have t1 := Ht.out.cell 1
  have t2 := Ht.out.cell 2
  have t3 := Ht.out.cell 3
  have tl := Ht.out.lt
  have x0 := Hx.out.cell 0
  have x1 := Hx.out.cell 1
  have x2 := Hx.out.cell 2
  have x3 := Hx.out.cell 3
  have xl := Hx.out.lt
  have e0 := He.out.cell 0
  have e1 := He.out.cell 1
  have el := He.out.lt
  simp only [List.getElem?_cons_zero, List.getElem?_cons_succ] at t0 t1 t2 t3 x0 x1 x2 x3 e0 e1
  go_upto_region 3 with (fail)
  have n_t_f : ¬ gT = w4.heap.size := by omega
  have n_f_t : ¬ w4.heap.size = gT := by omega
  have n_x_f : ¬ gX = w4.heap.size := by omega
  have n_f_x : ¬ w4.heap.size = gX := by omega
  have n_e_f : ¬ gX + 1 = w4.heap.size := by omega
  have n_f_e : ¬ w4.heap.size = gX + 1 := by omega
  have s_t : gT < w4.heap.size := tl
  have s_x : gX < w4.heap.size := xl
  have s_e : gX + 1 < w4.heap.size := el
  have s_0 : B0 ≤ w4.heap.size := Nat.le_trans (Nat.le_of_eq HB0.out) Hbl.out.size
  have hyf := Blk.new (w4) 29 [.int .i64 ec, .int .i64 ei]
  have hbW : Below (w4).heap.size (w4) ((w4).alloc (.cells #[.int .i64 ec, .int .i64 ei] 29)) := (Below.refl _ _).alloc (Nat.le_refl _) _
  obtain ⟨w5, hW⟩ : ∃ W, W = (w4).alloc (.cells #[.int .i64 ec, .int .i64 ei] 29) := ⟨_, rfl⟩
  rw [← hW] at hyf hbW ⊢
  replace Ht := hide (Ht.out.keep hbW)
  replace Hx := hide (Hx.out.keep hbW)
  replace He := hide (He.out.keep hbW)
  replace HXa := hide (HXa.out.keep hbW)
  replace HPR := hide (HPR.out.keep hbW)
  replace Hbl := hide (Hbl.out.trans (hbW.mono Hbl.out.size))
  have Hf := hide hyf
  clear hW hbW hyf
  generalize w4.heap.size = gf at Hf n_t_f n_f_t n_x_f n_f_x n_e_f n_f_e s_t s_x s_e s_0 ⊢
  have t0 := Ht.out.cell 0
  have t1 := Ht.out.cell 1
  have t2 := Ht.out.cell 2
  have t3 := Ht.out.cell 3
  have tl := Ht.out.lt
  have x0 := Hx.out.cell 0
  have x1 := Hx.out.cell 1
  have x2 := Hx.out.cell 2
  have x3 := Hx.out.cell 3
  have xl := Hx.out.lt
  have e0 := He.out.cell 0
  have e1 := He.out.cell 1
  have el := He.out.lt
  have f0 := Hf.out.cell 0
  have f1 := Hf.out.cell 1
  have fl := Hf.out.lt
  simp only [List.getElem?_cons_zero, List.getElem?_cons_succ] at t0 t1 t2 t3 x0 x1 x2 x3 e0 e1 f0 f1
  clear s_t
  clear s_x
  clear s_e
  have a_f : B0 ≤ gf := by omega
  clear s_0
  go_wp2_with fail
  with_reducible refine (macrosExample_ct w5).mono ?_
  rintro e w6 ⟨rfl, hb⟩
  clear t0 t1 t2 t3 x0 x1 x2 x3 e0 e1 f0 f1 tl xl el fl
  replace Ht := hide (Ht.out.keep hb)
  replace Hx := hide (Hx.out.keep hb)
  replace He := hide (He.out.keep hb)
  replace Hf := hide (Hf.out.keep hb)
  replace HXa := hide (HXa.out.keep hb)
  replace HPR := hide (HPR.out.keep hb)
  replace Hbl := hide (Hbl.out.trans (hb.mono Hbl.out.size))
  clear hb
  have t0 := Ht.out.cell 0
  have t1 := Ht.out.cell 1
  have t2 := Ht.out.cell 2
  have t3 := Ht.out.cell 3
  have tl := Ht.out.lt
  have x0 := Hx.out.cell 0
  have x1 := Hx.out.cell 1
  have x2 := Hx.out.cell 2
  have x3 := Hx.out.cell 3
  have xl := Hx.out.lt
  have e0 := He.out.cell 0
  have e1 := He.out.cell 1
  have el := He.out.lt
  have f0 := Hf.out.cell 0
  have f1 := Hf.out.cell 1
  have fl := Hf.out.lt
  simp only [List.getElem?_cons_zero, List.getElem?_cons_succ] at t0 t1 t2 t3 x0 x1 x2 x3 e0 e1 f0 f1
  go_wp2_with fail
  with_reducible refine (HF.out w6 (H.out.keep Hbl.out) (Hms.out.keep Hbl.out)).mono ?_
  rintro e w7 ⟨hb, y, rfl, hx⟩
  have HYa := hide (hx w7 (Chg.refl _ _))
  clear hx
  clear t0 t1 t2 t3 x0 x1 x2 x3 e0 e1 f0 f1 tl xl el fl
  replace Ht := hide (Ht.out.keep hb)
  replace Hx := hide (Hx.out.keep hb)
  replace He := hide (He.out.keep hb)
  replace Hf := hide (Hf.out.keep hb)
  replace HXa := hide (HXa.out.keep hb)
  replace HPR := hide (HPR.out.keep hb)
  replace Hbl := hide (Hbl.out.trans (hb.mono Hbl.out.size))
  clear hb
  unfold fault taskV
  rw [show zeroT.facts = (0 : Int) from rfl]
  have t0 := Ht.out.cell 0
  have t1 := Ht.out.cell 1
  have t2 := Ht.out.cell 2
  have t3 := Ht.out.cell 3
  have tl := Ht.out.lt
  have x0 := Hx.out.cell 0
  have x1 := Hx.out.cell 1
  have x2 := Hx.out.cell 2
  have x3 := Hx.out.cell 3
  have xl := Hx.out.lt
  have e0 := He.out.cell 0
  have e1 := He.out.cell 1
  have el := He.out.lt
  have f0 := Hf.out.cell 0
  have f1 := Hf.out.cell 1
  have fl := Hf.out.lt
  simp only [List.getElem?_cons_zero, List.getElem?_cons_succ] at t0 t1 t2 t3 x0 x1 x2 x3 e0 e1 f0 f1
  go_upto_region 6 with (fail)
  have n_t_y : ¬ gT = w7.heap.size := by omega
  have n_y_t : ¬ w7.heap.size = gT := by omega
  have n_t_v : ¬ gT = w7.heap.size + 1 := by omega
  have n_v_t : ¬ w7.heap.size + 1 = gT := by omega
  have n_x_y : ¬ gX = w7.heap.size := by omega
  have n_y_x : ¬ w7.heap.size = gX := by omega
  have n_x_v : ¬ gX = w7.heap.size + 1 := by omega
  have n_v_x : ¬ w7.heap.size + 1 = gX := by omega
  have n_e_y : ¬ gX + 1 = w7.heap.size := by omega
  have n_y_e : ¬ w7.heap.size = gX + 1 := by omega
  have n_e_v : ¬ gX + 1 = w7.heap.size + 1 := by omega
  have n_v_e : ¬ w7.heap.size + 1 = gX + 1 := by omega
  have n_f_y : ¬ gf = w7.heap.size := by omega
  have n_y_f : ¬ w7.heap.size = gf := by omega
  have n_f_v : ¬ gf = w7.heap.size + 1 := by omega
  have n_v_f : ¬ w7.heap.size + 1 = gf := by omega
  have s_t : gT < w7.heap.size := tl
  have s_x : gX < w7.heap.size := xl
  have s_e : gX + 1 < w7.heap.size := el
  have s_f : gf < w7.heap.size := fl
  have s_0 : B0 ≤ w7.heap.size := Nat.le_trans (Nat.le_of_eq HB0.out) Hbl.out.size
  have hyy := Blk.new (w7) 25 [.int .i64 0, .slice y.I y.nI y.cI, .slice y.G y.nG y.cG, .slice y.O y.nO y.cO]
  have hyv := Blk.new ((w7).alloc (.cells #[.int .i64 0, .slice y.I y.nI y.cI, .slice y.G y.nG y.cG, .slice y.O y.nO y.cO] 25)) 29 [.int .i64 ec, .int .i64 ei]
  replace hyy := hyy.alloc (.cells #[.int .i64 ec, .int .i64 ei] 29)
  have hbW := below_two w7 (.cells #[.int .i64 0, .slice y.I y.nI y.cI, .slice y.G y.nG y.cG, .slice y.O y.nO y.cO] 25) (.cells #[.int .i64 ec, .int .i64 ei] 29)
  simp only [World.size_alloc] at hyv
  obtain ⟨w8, hW⟩ : ∃ W, W = ((w7).alloc (.cells #[.int .i64 0, .slice y.I y.nI y.cI, .slice y.G y.nG y.cG, .slice y.O y.nO y.cO] 25)).alloc (.cells #[.int .i64 ec, .int .i64 ei] 29) := ⟨_, rfl⟩
  rw [← hW] at hyy hyv hbW ⊢
  replace Ht := hide (Ht.out.keep hbW)
  replace Hx := hide (Hx.out.keep hbW)
  replace He := hide (He.out.keep hbW)
  replace Hf := hide (Hf.out.keep hbW)
  replace HXa := hide (HXa.out.keep hbW)
  replace HPR := hide (HPR.out.keep hbW)
  replace HYa := hide (HYa.out.keep hbW)
  replace Hbl := hide (Hbl.out.trans (hbW.mono Hbl.out.size))
  have Hy := hide hyy
  have Hv := hide hyv
  clear hW hbW hyy hyv
  generalize w7.heap.size = gY at Hy Hv n_t_y n_y_t n_t_v n_v_t n_x_y n_y_x n_x_v n_v_x n_e_y n_y_e n_e_v n_v_e n_f_y n_y_f n_f_v n_v_f s_t s_x s_e s_f s_0 ⊢
  have t0 := Ht.out.cell 0
  have t1 := Ht.out.cell 1
  have t2 := Ht.out.cell 2
  have t3 := Ht.out.cell 3
  have tl := Ht.out.lt
  have x0 := Hx.out.cell 0
  have x1 := Hx.out.cell 1
  have x2 := Hx.out.cell 2
  have x3 := Hx.out.cell 3
  have xl := Hx.out.lt
  have e0 := He.out.cell 0
  have e1 := He.out.cell 1
  have el := He.out.lt
  have f0 := Hf.out.cell 0
  have f1 := Hf.out.cell 1
  have fl := Hf.out.lt
  have y0 := Hy.out.cell 0
  have y1 := Hy.out.cell 1
  have y2 := Hy.out.cell 2
  have y3 := Hy.out.cell 3
  have yl := Hy.out.lt
  have v0 := Hv.out.cell 0
  have v1 := Hv.out.cell 1
  have vl := Hv.out.lt
  simp only [List.getElem?_cons_zero, List.getElem?_cons_succ] at t0 t1 t2 t3 x0 x1 x2 x3 e0 e1 f0 f1 y0 y1 y2 y3 v0 v1
  clear s_t
  clear s_x
  clear s_e
  clear s_f
  have a_y : B0 ≤ gY := by omega
  have a_v : B0 ≤ gY + 1 := by omega
  clear s_0
  have n_y_v : ¬ gY = gY + 1 := by omega
  have n_v_y : ¬ gY + 1 = gY := by omega
  have hne : (ec != 0) = true := by simpa using hec
  have hpl : np = 0 := by have := HPR.out.len; simpa using this.symm
  subst hpl
  go_wp2_with fail
  have hct := SameTask_ct x ⟨none, 0, 0, none, 0, 0, none, 0, 0⟩ zeroT w8 HXa.out ⟨by unfold zeroT I64s; simp, Rd.nil_ _ _, Rd.nil_ _ _, Rd.nil_ _ _⟩
  simp only [show zeroT.facts = 0 from rfl] at hct
  with_reducible refine hct.mono ?_
  rintro e w9 ⟨rfl, hb⟩
  replace Hbl := hide (Hbl.out.trans (hb.mono Hbl.out.size))
  clear hct hb
  go_wp2_with fail
  go_ret
  exact ⟨ret_bool (by simp), Hbl.out⟩
set_option maxRecDepth 100000 in
set_option maxHeartbeats 6400000 in
theorem extendLawB (a : TA) (T : Tsk) (B : Option Addr) (m d : Nat) (ms : List (List Int)) (C : Option Addr) (q r : Nat) (l : List Int) (w : World) (h : TkR w a T) (hms : Rd (Enc.sl Enc.int) w B m d ms) (hl : Rd Enc.int w C q r l) (X : Tsk) (pc pi : Int) (hpc : pc ≠ 0) (hex : extendR T ms = (X, 0, 0)) (hsf : stepsFault X.ops.length l = (pc, pi)) (hpx : expandR T ms l = ([], pc, pi)) :
    Calls Try.prog 4 #[.agg #[.int .i64 T.facts, .slice a.I a.nI a.cI, .slice a.G a.nG a.cG, .slice a.O a.nO a.cO], .slice B m d, .slice C q r] w (Gives w (.bool true)) := by
  obtain ⟨I, nI, cI, G, nG, cG, O, nO, cO⟩ := a
  have H := hide h
  have Hms := hide hms
  have Hl := hide hl
  have HE := Extend_ct ⟨I, nI, cI, G, nG, cG, O, nO, cO⟩ T B m d ms
  rw [hex] at HE
  have HF := Extended_ct ⟨I, nI, cI, G, nG, cG, O, nO, cO⟩ T B m d ms
  rw [hex] at HF
  have HP := Expand_ct ⟨I, nI, cI, G, nG, cG, O, nO, cO⟩ T B m d ms C q r l
  rw [hpx] at HP
  simp only at HE HF HP ⊢
  replace HE := hide HE
  replace HF := hide HF
  replace HP := hide HP
  clear h hms hl hex hpx
  have Hsf := hide hsf
  clear hsf
  have Hbl := hide (Below.refl w.heap.size w)
  go_enter Try.func4, Try.ntmps4
  go_upto_region 1 with (fail)
  obtain ⟨B0, hB0⟩ : ∃ B0, B0 = w.heap.size := ⟨_, rfl⟩
  have HB0 := hide hB0
  clear hB0
  have s_0 : B0 ≤ w.heap.size := Nat.le_trans (Nat.le_of_eq HB0.out) Hbl.out.size
  have hyt := Blk.new (w) 25 [.int .i64 T.facts, .slice I nI cI, .slice G nG cG, .slice O nO cO]
  have hbW : Below (w).heap.size (w) ((w).alloc (.cells #[.int .i64 T.facts, .slice I nI cI, .slice G nG cG, .slice O nO cO] 25)) := (Below.refl _ _).alloc (Nat.le_refl _) _
  obtain ⟨w0, hW⟩ : ∃ W, W = (w).alloc (.cells #[.int .i64 T.facts, .slice I nI cI, .slice G nG cG, .slice O nO cO] 25) := ⟨_, rfl⟩
  rw [← hW] at hyt hbW ⊢
  replace Hbl := hide (Hbl.out.trans (hbW.mono Hbl.out.size))
  have Ht := hide hyt
  clear hW hbW hyt
  generalize w.heap.size = gT at Ht s_0 ⊢
  have t0 := Ht.out.cell 0
  have t1 := Ht.out.cell 1
  have t2 := Ht.out.cell 2
  have t3 := Ht.out.cell 3
  have tl := Ht.out.lt
  simp only [List.getElem?_cons_zero, List.getElem?_cons_succ] at t0 t1 t2 t3
  have a_t : B0 ≤ gT := by omega
  clear s_0
  go_wp2_with fail
  with_reducible refine (HE.out w0 (H.out.keep Hbl.out) (Hms.out.keep Hbl.out)).mono ?_
  rintro e w2 ⟨hb, x, rfl, hx⟩
  have HXa := hide (hx w2 (Chg.refl _ _))
  have HXm := hide (show ∀ w', Chg (fun b => B0 ≤ b ∧ b < B0) w2 w' → True from fun _ _ => trivial)
  clear hx HXm
  clear t0 t1 t2 t3 tl
  replace Ht := hide (Ht.out.keep hb)
  replace Hbl := hide (Hbl.out.trans (hb.mono Hbl.out.size))
  clear hb
  unfold fault taskV
  skip
  have t0 := Ht.out.cell 0
  have t1 := Ht.out.cell 1
  have t2 := Ht.out.cell 2
  have t3 := Ht.out.cell 3
  have tl := Ht.out.lt
  simp only [List.getElem?_cons_zero, List.getElem?_cons_succ] at t0 t1 t2 t3
  go_upto_region 2 with (fail)
  have n_t_x : ¬ gT = w2.heap.size := by omega
  have n_x_t : ¬ w2.heap.size = gT := by omega
  have n_t_e : ¬ gT = w2.heap.size + 1 := by omega
  have n_e_t : ¬ w2.heap.size + 1 = gT := by omega
  have s_t : gT < w2.heap.size := tl
  have s_0 : B0 ≤ w2.heap.size := Nat.le_trans (Nat.le_of_eq HB0.out) Hbl.out.size
  have hyx := Blk.new (w2) 25 [.int .i64 X.facts, .slice x.I x.nI x.cI, .slice x.G x.nG x.cG, .slice x.O x.nO x.cO]
  have hye := Blk.new ((w2).alloc (.cells #[.int .i64 X.facts, .slice x.I x.nI x.cI, .slice x.G x.nG x.cG, .slice x.O x.nO x.cO] 25)) 29 [.int .i64 0, .int .i64 0]
  replace hyx := hyx.alloc (.cells #[.int .i64 0, .int .i64 0] 29)
  have hbW := below_two w2 (.cells #[.int .i64 X.facts, .slice x.I x.nI x.cI, .slice x.G x.nG x.cG, .slice x.O x.nO x.cO] 25) (.cells #[.int .i64 0, .int .i64 0] 29)
  simp only [World.size_alloc] at hye
  obtain ⟨w3, hW⟩ : ∃ W, W = ((w2).alloc (.cells #[.int .i64 X.facts, .slice x.I x.nI x.cI, .slice x.G x.nG x.cG, .slice x.O x.nO x.cO] 25)).alloc (.cells #[.int .i64 0, .int .i64 0] 29) := ⟨_, rfl⟩
  rw [← hW] at hyx hye hbW ⊢
  replace Ht := hide (Ht.out.keep hbW)
  replace HXa := hide (HXa.out.keep hbW)
  replace Hbl := hide (Hbl.out.trans (hbW.mono Hbl.out.size))
  have Hx := hide hyx
  have He := hide hye
  clear hW hbW hyx hye
  generalize w2.heap.size = gX at Hx He n_t_x n_x_t n_t_e n_e_t s_t s_0 ⊢
  have t0 := Ht.out.cell 0
  have t1 := Ht.out.cell 1
  have t2 := Ht.out.cell 2
  have t3 := Ht.out.cell 3
  have tl := Ht.out.lt
  have x0 := Hx.out.cell 0
  have x1 := Hx.out.cell 1
  have x2 := Hx.out.cell 2
  have x3 := Hx.out.cell 3
  have xl := Hx.out.lt
  have e0 := He.out.cell 0
  have e1 := He.out.cell 1
  have el := He.out.lt
  simp only [List.getElem?_cons_zero, List.getElem?_cons_succ] at t0 t1 t2 t3 x0 x1 x2 x3 e0 e1
  clear s_t
  have a_x : B0 ≤ gX := by omega
  have a_e : B0 ≤ gX + 1 := by omega
  clear s_0
  have n_x_e : ¬ gX = gX + 1 := by omega
  have n_e_x : ¬ gX + 1 = gX := by omega
  go_wp2_with fail
  with_reducible refine (HP.out w3 (H.out.keep Hbl.out) (Hms.out.keep Hbl.out) (Hl.out.keep Hbl.out)).mono ?_
  rintro e w4 ⟨hb, P, np, cp, rfl, hx⟩
  have HPR := hide (hx w4 (Chg.refl _ _))
  have Hnp := hide (show np = 0 by have := HPR.out.len; simpa using this.symm)
  clear hx
  clear t0 t1 t2 t3 x0 x1 x2 x3 e0 e1 tl xl el
  replace Ht := hide (Ht.out.keep hb)
  replace Hx := hide (Hx.out.keep hb)
  replace He := hide (He.out.keep hb)
  replace HXa := hide (HXa.out.keep hb)
  replace Hbl := hide (Hbl.out.trans (hb.mono Hbl.out.size))
  clear hb
  unfold fault
  have t0 := Ht.out.cell 0
  have t1 := Ht.out.cell 1
  have t2 := Ht.out.cell 2
  have t3 := Ht.out.cell 3
  have tl := Ht.out.lt
  have x0 := Hx.out.cell 0
  have x1 := Hx.out.cell 1
  have x2 := Hx.out.cell 2
  have x3 := Hx.out.cell 3
  have xl := Hx.out.lt
  have e0 := He.out.cell 0
  have e1 := He.out.cell 1
  have el := He.out.lt
  simp only [List.getElem?_cons_zero, List.getElem?_cons_succ] at t0 t1 t2 t3 x0 x1 x2 x3 e0 e1
  go_upto_region 3 with (fail)
  have n_t_f : ¬ gT = w4.heap.size := by omega
  have n_f_t : ¬ w4.heap.size = gT := by omega
  have n_x_f : ¬ gX = w4.heap.size := by omega
  have n_f_x : ¬ w4.heap.size = gX := by omega
  have n_e_f : ¬ gX + 1 = w4.heap.size := by omega
  have n_f_e : ¬ w4.heap.size = gX + 1 := by omega
  have s_t : gT < w4.heap.size := tl
  have s_x : gX < w4.heap.size := xl
  have s_e : gX + 1 < w4.heap.size := el
  have s_0 : B0 ≤ w4.heap.size := Nat.le_trans (Nat.le_of_eq HB0.out) Hbl.out.size
  have hyf := Blk.new (w4) 29 [.int .i64 pc, .int .i64 pi]
  have hbW : Below (w4).heap.size (w4) ((w4).alloc (.cells #[.int .i64 pc, .int .i64 pi] 29)) := (Below.refl _ _).alloc (Nat.le_refl _) _
  obtain ⟨w5, hW⟩ : ∃ W, W = (w4).alloc (.cells #[.int .i64 pc, .int .i64 pi] 29) := ⟨_, rfl⟩
  rw [← hW] at hyf hbW ⊢
  replace Ht := hide (Ht.out.keep hbW)
  replace Hx := hide (Hx.out.keep hbW)
  replace He := hide (He.out.keep hbW)
  replace HXa := hide (HXa.out.keep hbW)
  replace HPR := hide (HPR.out.keep hbW)
  replace Hbl := hide (Hbl.out.trans (hbW.mono Hbl.out.size))
  have Hf := hide hyf
  clear hW hbW hyf
  generalize w4.heap.size = gf at Hf n_t_f n_f_t n_x_f n_f_x n_e_f n_f_e s_t s_x s_e s_0 ⊢
  have t0 := Ht.out.cell 0
  have t1 := Ht.out.cell 1
  have t2 := Ht.out.cell 2
  have t3 := Ht.out.cell 3
  have tl := Ht.out.lt
  have x0 := Hx.out.cell 0
  have x1 := Hx.out.cell 1
  have x2 := Hx.out.cell 2
  have x3 := Hx.out.cell 3
  have xl := Hx.out.lt
  have e0 := He.out.cell 0
  have e1 := He.out.cell 1
  have el := He.out.lt
  have f0 := Hf.out.cell 0
  have f1 := Hf.out.cell 1
  have fl := Hf.out.lt
  simp only [List.getElem?_cons_zero, List.getElem?_cons_succ] at t0 t1 t2 t3 x0 x1 x2 x3 e0 e1 f0 f1
  clear s_t
  clear s_x
  clear s_e
  have a_f : B0 ≤ gf := by omega
  clear s_0
  go_wp2_with fail
  with_reducible refine (macrosExample_ct w5).mono ?_
  rintro e w6 ⟨rfl, hb⟩
  clear t0 t1 t2 t3 x0 x1 x2 x3 e0 e1 f0 f1 tl xl el fl
  replace Ht := hide (Ht.out.keep hb)
  replace Hx := hide (Hx.out.keep hb)
  replace He := hide (He.out.keep hb)
  replace Hf := hide (Hf.out.keep hb)
  replace HXa := hide (HXa.out.keep hb)
  replace HPR := hide (HPR.out.keep hb)
  replace Hbl := hide (Hbl.out.trans (hb.mono Hbl.out.size))
  clear hb
  have t0 := Ht.out.cell 0
  have t1 := Ht.out.cell 1
  have t2 := Ht.out.cell 2
  have t3 := Ht.out.cell 3
  have tl := Ht.out.lt
  have x0 := Hx.out.cell 0
  have x1 := Hx.out.cell 1
  have x2 := Hx.out.cell 2
  have x3 := Hx.out.cell 3
  have xl := Hx.out.lt
  have e0 := He.out.cell 0
  have e1 := He.out.cell 1
  have el := He.out.lt
  have f0 := Hf.out.cell 0
  have f1 := Hf.out.cell 1
  have fl := Hf.out.lt
  simp only [List.getElem?_cons_zero, List.getElem?_cons_succ] at t0 t1 t2 t3 x0 x1 x2 x3 e0 e1 f0 f1
  go_wp2_with fail
  with_reducible refine (HF.out w6 (H.out.keep Hbl.out) (Hms.out.keep Hbl.out)).mono ?_
  rintro e w7 ⟨hb, y, rfl, hx⟩
  have HYa := hide (hx w7 (Chg.refl _ _))
  clear hx
  clear t0 t1 t2 t3 x0 x1 x2 x3 e0 e1 f0 f1 tl xl el fl
  replace Ht := hide (Ht.out.keep hb)
  replace Hx := hide (Hx.out.keep hb)
  replace He := hide (He.out.keep hb)
  replace Hf := hide (Hf.out.keep hb)
  replace HXa := hide (HXa.out.keep hb)
  replace HPR := hide (HPR.out.keep hb)
  replace Hbl := hide (Hbl.out.trans (hb.mono Hbl.out.size))
  clear hb
  unfold fault taskV
  skip
  have t0 := Ht.out.cell 0
  have t1 := Ht.out.cell 1
  have t2 := Ht.out.cell 2
  have t3 := Ht.out.cell 3
  have tl := Ht.out.lt
  have x0 := Hx.out.cell 0
  have x1 := Hx.out.cell 1
  have x2 := Hx.out.cell 2
  have x3 := Hx.out.cell 3
  have xl := Hx.out.lt
  have e0 := He.out.cell 0
  have e1 := He.out.cell 1
  have el := He.out.lt
  have f0 := Hf.out.cell 0
  have f1 := Hf.out.cell 1
  have fl := Hf.out.lt
  simp only [List.getElem?_cons_zero, List.getElem?_cons_succ] at t0 t1 t2 t3 x0 x1 x2 x3 e0 e1 f0 f1
  go_upto_region 6 with (fail)
  have n_t_y : ¬ gT = w7.heap.size := by omega
  have n_y_t : ¬ w7.heap.size = gT := by omega
  have n_t_v : ¬ gT = w7.heap.size + 1 := by omega
  have n_v_t : ¬ w7.heap.size + 1 = gT := by omega
  have n_x_y : ¬ gX = w7.heap.size := by omega
  have n_y_x : ¬ w7.heap.size = gX := by omega
  have n_x_v : ¬ gX = w7.heap.size + 1 := by omega
  have n_v_x : ¬ w7.heap.size + 1 = gX := by omega
  have n_e_y : ¬ gX + 1 = w7.heap.size := by omega
  have n_y_e : ¬ w7.heap.size = gX + 1 := by omega
  have n_e_v : ¬ gX + 1 = w7.heap.size + 1 := by omega
  have n_v_e : ¬ w7.heap.size + 1 = gX + 1 := by omega
  have n_f_y : ¬ gf = w7.heap.size := by omega
  have n_y_f : ¬ w7.heap.size = gf := by omega
  have n_f_v : ¬ gf = w7.heap.size + 1 := by omega
  have n_v_f : ¬ w7.heap.size + 1 = gf := by omega
  have s_t : gT < w7.heap.size := tl
  have s_x : gX < w7.heap.size := xl
  have s_e : gX + 1 < w7.heap.size := el
  have s_f : gf < w7.heap.size := fl
  have s_0 : B0 ≤ w7.heap.size := Nat.le_trans (Nat.le_of_eq HB0.out) Hbl.out.size
  have hyy := Blk.new (w7) 25 [.int .i64 X.facts, .slice y.I y.nI y.cI, .slice y.G y.nG y.cG, .slice y.O y.nO y.cO]
  have hyv := Blk.new ((w7).alloc (.cells #[.int .i64 X.facts, .slice y.I y.nI y.cI, .slice y.G y.nG y.cG, .slice y.O y.nO y.cO] 25)) 29 [.int .i64 0, .int .i64 0]
  replace hyy := hyy.alloc (.cells #[.int .i64 0, .int .i64 0] 29)
  have hbW := below_two w7 (.cells #[.int .i64 X.facts, .slice y.I y.nI y.cI, .slice y.G y.nG y.cG, .slice y.O y.nO y.cO] 25) (.cells #[.int .i64 0, .int .i64 0] 29)
  simp only [World.size_alloc] at hyv
  obtain ⟨w8, hW⟩ : ∃ W, W = ((w7).alloc (.cells #[.int .i64 X.facts, .slice y.I y.nI y.cI, .slice y.G y.nG y.cG, .slice y.O y.nO y.cO] 25)).alloc (.cells #[.int .i64 0, .int .i64 0] 29) := ⟨_, rfl⟩
  rw [← hW] at hyy hyv hbW ⊢
  replace Ht := hide (Ht.out.keep hbW)
  replace Hx := hide (Hx.out.keep hbW)
  replace He := hide (He.out.keep hbW)
  replace Hf := hide (Hf.out.keep hbW)
  replace HXa := hide (HXa.out.keep hbW)
  replace HPR := hide (HPR.out.keep hbW)
  replace HYa := hide (HYa.out.keep hbW)
  replace Hbl := hide (Hbl.out.trans (hbW.mono Hbl.out.size))
  have Hy := hide hyy
  have Hv := hide hyv
  clear hW hbW hyy hyv
  generalize w7.heap.size = gY at Hy Hv n_t_y n_y_t n_t_v n_v_t n_x_y n_y_x n_x_v n_v_x n_e_y n_y_e n_e_v n_v_e n_f_y n_y_f n_f_v n_v_f s_t s_x s_e s_f s_0 ⊢
  have t0 := Ht.out.cell 0
  have t1 := Ht.out.cell 1
  have t2 := Ht.out.cell 2
  have t3 := Ht.out.cell 3
  have tl := Ht.out.lt
  have x0 := Hx.out.cell 0
  have x1 := Hx.out.cell 1
  have x2 := Hx.out.cell 2
  have x3 := Hx.out.cell 3
  have xl := Hx.out.lt
  have e0 := He.out.cell 0
  have e1 := He.out.cell 1
  have el := He.out.lt
  have f0 := Hf.out.cell 0
  have f1 := Hf.out.cell 1
  have fl := Hf.out.lt
  have y0 := Hy.out.cell 0
  have y1 := Hy.out.cell 1
  have y2 := Hy.out.cell 2
  have y3 := Hy.out.cell 3
  have yl := Hy.out.lt
  have v0 := Hv.out.cell 0
  have v1 := Hv.out.cell 1
  have vl := Hv.out.lt
  simp only [List.getElem?_cons_zero, List.getElem?_cons_succ] at t0 t1 t2 t3 x0 x1 x2 x3 e0 e1 f0 f1 y0 y1 y2 y3 v0 v1
  clear s_t
  clear s_x
  clear s_e
  clear s_f
  have a_y : B0 ≤ gY := by omega
  have a_v : B0 ≤ gY + 1 := by omega
  clear s_0
  have n_y_v : ¬ gY = gY + 1 := by omega
  have n_v_y : ¬ gY + 1 = gY := by omega
  have hct := SameTask_ct x y X w8 HXa.out HYa.out
  go_wp2_with fail
  with_reducible refine (hct).mono ?_
  rintro e w9 ⟨rfl, hb⟩
  clear t0 t1 t2 t3 x0 x1 x2 x3 e0 e1 f0 f1 y0 y1 y2 y3 v0 v1 tl xl el fl yl vl
  replace Ht := hide (Ht.out.keep hb)
  replace Hx := hide (Hx.out.keep hb)
  replace He := hide (He.out.keep hb)
  replace Hf := hide (Hf.out.keep hb)
  replace Hy := hide (Hy.out.keep hb)
  replace Hv := hide (Hv.out.keep hb)
  replace HXa := hide (HXa.out.keep hb)
  replace HPR := hide (HPR.out.keep hb)
  replace HYa := hide (HYa.out.keep hb)
  replace Hbl := hide (Hbl.out.trans (hb.mono Hbl.out.size))
  clear hb
  clear hct
  have t0 := Ht.out.cell 0
  have t1 := Ht.out.cell 1
  have t2 := Ht.out.cell 2
  have t3 := Ht.out.cell 3
  have tl := Ht.out.lt
  have x0 := Hx.out.cell 0
  have x1 := Hx.out.cell 1
  have x2 := Hx.out.cell 2
  have x3 := Hx.out.cell 3
  have xl := Hx.out.lt
  have e0 := He.out.cell 0
  have e1 := He.out.cell 1
  have el := He.out.lt
  have f0 := Hf.out.cell 0
  have f1 := Hf.out.cell 1
  have fl := Hf.out.lt
  have y0 := Hy.out.cell 0
  have y1 := Hy.out.cell 1
  have y2 := Hy.out.cell 2
  have y3 := Hy.out.cell 3
  have yl := Hy.out.lt
  have v0 := Hv.out.cell 0
  have v1 := Hv.out.cell 1
  have vl := Hv.out.lt
  simp only [List.getElem?_cons_zero, List.getElem?_cons_succ] at t0 t1 t2 t3 x0 x1 x2 x3 e0 e1 f0 f1 y0 y1 y2 y3 v0 v1
  have hyo := HYa.out.ops.len
  have hyl := HYa.out.ops.low
  have hct := RSteps_ct y.nO C q r l w9 (Hl.out.keep Hbl.out) hyl
  rw [← hyo, Hsf.out, hyo] at hct
  clear hyo hyl
  go_wp2_with fail
  with_reducible refine (hct).mono ?_
  rintro e w10 ⟨rfl, hb⟩
  clear t0 t1 t2 t3 x0 x1 x2 x3 e0 e1 f0 f1 y0 y1 y2 y3 v0 v1 tl xl el fl yl vl
  replace Ht := hide (Ht.out.keep hb)
  replace Hx := hide (Hx.out.keep hb)
  replace He := hide (He.out.keep hb)
  replace Hf := hide (Hf.out.keep hb)
  replace Hy := hide (Hy.out.keep hb)
  replace Hv := hide (Hv.out.keep hb)
  replace HXa := hide (HXa.out.keep hb)
  replace HPR := hide (HPR.out.keep hb)
  replace HYa := hide (HYa.out.keep hb)
  replace Hbl := hide (Hbl.out.trans (hb.mono Hbl.out.size))
  clear hb
  clear hct
  unfold fault
  have t0 := Ht.out.cell 0
  have t1 := Ht.out.cell 1
  have t2 := Ht.out.cell 2
  have t3 := Ht.out.cell 3
  have tl := Ht.out.lt
  have x0 := Hx.out.cell 0
  have x1 := Hx.out.cell 1
  have x2 := Hx.out.cell 2
  have x3 := Hx.out.cell 3
  have xl := Hx.out.lt
  have e0 := He.out.cell 0
  have e1 := He.out.cell 1
  have el := He.out.lt
  have f0 := Hf.out.cell 0
  have f1 := Hf.out.cell 1
  have fl := Hf.out.lt
  have y0 := Hy.out.cell 0
  have y1 := Hy.out.cell 1
  have y2 := Hy.out.cell 2
  have y3 := Hy.out.cell 3
  have yl := Hy.out.lt
  have v0 := Hv.out.cell 0
  have v1 := Hv.out.cell 1
  have vl := Hv.out.lt
  simp only [List.getElem?_cons_zero, List.getElem?_cons_succ] at t0 t1 t2 t3 x0 x1 x2 x3 e0 e1 f0 f1 y0 y1 y2 y3 v0 v1
  have vf0 := Hv.out.frozen 0
  have vf1 := Hv.out.frozen 1
  go_upto_region 11 with (fail)
  skip
  clear vf0 vf1
  have hyb := ((Hv.out.set 0 (.int .i64 pc)).set 1 (.int .i64 pi))
  simp only [List.set_cons_zero, List.set_cons_succ] at hyb
  have hbW := (below_set ((below_set (Below.refl B0 w10) (g := gY + 1) a_v 0 (.int .i64 pc))) (g := gY + 1) a_v 1 (.int .i64 pi))
  have hcW := ((Chg.refl (fun x => x = gY + 1) w10).trans (Chg.set _ (gY + 1) 0 (.int .i64 pc))).trans (Chg.set _ (gY + 1) 1 (.int .i64 pi))
  obtain ⟨w11, hW⟩ : ∃ W, W = ((w10).setCell ⟨gY + 1, 0, none⟩ (.int .i64 pc)).setCell ⟨gY + 1, 1, none⟩ (.int .i64 pi) := ⟨_, rfl⟩
  rw [← hW] at hyb hbW hcW ⊢
  replace Hv := hide hyb
  clear hW hyb
  clear t0 t1 t2 t3 x0 x1 x2 x3 e0 e1 f0 f1 y0 y1 y2 y3 v0 v1 tl xl el fl yl vl
  replace Ht := hide (hcW.blk Ht.out (by exact n_t_v))
  replace Hx := hide (hcW.blk Hx.out (by exact n_x_v))
  replace He := hide (hcW.blk He.out (by exact n_e_v))
  replace Hf := hide (hcW.blk Hf.out (by exact n_f_v))
  replace Hy := hide (hcW.blk Hy.out (by exact n_y_v))
  replace Hbl := hide (Hbl.out.trans (hbW.mono (Nat.le_of_eq HB0.out.symm)))
  clear hbW hcW
  have t0 := Ht.out.cell 0
  have t1 := Ht.out.cell 1
  have t2 := Ht.out.cell 2
  have t3 := Ht.out.cell 3
  have tl := Ht.out.lt
  have x0 := Hx.out.cell 0
  have x1 := Hx.out.cell 1
  have x2 := Hx.out.cell 2
  have x3 := Hx.out.cell 3
  have xl := Hx.out.lt
  have e0 := He.out.cell 0
  have e1 := He.out.cell 1
  have el := He.out.lt
  have f0 := Hf.out.cell 0
  have f1 := Hf.out.cell 1
  have fl := Hf.out.lt
  have y0 := Hy.out.cell 0
  have y1 := Hy.out.cell 1
  have y2 := Hy.out.cell 2
  have y3 := Hy.out.cell 3
  have yl := Hy.out.lt
  have v0 := Hv.out.cell 0
  have v1 := Hv.out.cell 1
  have vl := Hv.out.lt
  simp only [List.getElem?_cons_zero, List.getElem?_cons_succ] at t0 t1 t2 t3 x0 x1 x2 x3 e0 e1 f0 f1 y0 y1 y2 y3 v0 v1
  have hne : (pc != 0) = true := by simpa using hpc
  have hne2 : (pc == 0) = false := by simpa using hpc
  have hpl : np = 0 := Hnp.out
  subst hpl
  go_wp2_with fail
  go_ret
  exact ⟨ret_bool (by simp), Hbl.out⟩
set_option maxRecDepth 100000 in
set_option maxHeartbeats 6400000 in
theorem extendLawC (a : TA) (T : Tsk) (B : Option Addr) (m d : Nat) (ms : List (List Int)) (C : Option Addr) (q r : Nat) (l : List Int) (w : World) (h : TkR w a T) (hms : Rd (Enc.sl Enc.int) w B m d ms) (hl : Rd Enc.int w C q r l) (X : Tsk) (hex : extendR T ms = (X, 0, 0)) (hsf : stepsFault X.ops.length l = (0, 0)) (hr60 : q ≤ 60) (hrng : ∀ x ∈ l, 0 ≤ x ∧ x < T.ops.length + ms.length) (h6 : ∀ q ∈ ms, q.length ≤ 6) (hln : 60 < (expandF T.ops.length ms l).length) (hpx : expandR T ms l = ([], 10, -9)) :
    Calls Try.prog 4 #[.agg #[.int .i64 T.facts, .slice a.I a.nI a.cI, .slice a.G a.nG a.cG, .slice a.O a.nO a.cO], .slice B m d, .slice C q r] w (Gives w (.bool true)) := by
  obtain ⟨I, nI, cI, G, nG, cG, O, nO, cO⟩ := a
  have H := hide h
  have Hms := hide hms
  have Hl := hide hl
  have HE := Extend_ct ⟨I, nI, cI, G, nG, cG, O, nO, cO⟩ T B m d ms
  rw [hex] at HE
  have HF := Extended_ct ⟨I, nI, cI, G, nG, cG, O, nO, cO⟩ T B m d ms
  rw [hex] at HF
  have HP := Expand_ct ⟨I, nI, cI, G, nG, cG, O, nO, cO⟩ T B m d ms C q r l
  rw [hpx] at HP
  simp only at HE HF HP ⊢
  replace HE := hide HE
  replace HF := hide HF
  replace HP := hide HP
  clear h hms hl hex hpx
  have Hsf := hide hsf
  clear hsf
  have HX0 := fun w h hms hl => Expanded_ct ⟨I, nI, cI, G, nG, cG, O, nO, cO⟩ T B m d ms C q r l w h hms hl hr60 hrng h6
  have HXP := hide HX0
  have Hln := hide hln
  clear HX0 hrng h6 hln
  have Hbl := hide (Below.refl w.heap.size w)
  go_enter Try.func4, Try.ntmps4
  go_upto_region 1 with (fail)
  obtain ⟨B0, hB0⟩ : ∃ B0, B0 = w.heap.size := ⟨_, rfl⟩
  have HB0 := hide hB0
  clear hB0
  have s_0 : B0 ≤ w.heap.size := Nat.le_trans (Nat.le_of_eq HB0.out) Hbl.out.size
  have hyt := Blk.new (w) 25 [.int .i64 T.facts, .slice I nI cI, .slice G nG cG, .slice O nO cO]
  have hbW : Below (w).heap.size (w) ((w).alloc (.cells #[.int .i64 T.facts, .slice I nI cI, .slice G nG cG, .slice O nO cO] 25)) := (Below.refl _ _).alloc (Nat.le_refl _) _
  obtain ⟨w0, hW⟩ : ∃ W, W = (w).alloc (.cells #[.int .i64 T.facts, .slice I nI cI, .slice G nG cG, .slice O nO cO] 25) := ⟨_, rfl⟩
  rw [← hW] at hyt hbW ⊢
  replace Hbl := hide (Hbl.out.trans (hbW.mono Hbl.out.size))
  have Ht := hide hyt
  clear hW hbW hyt
  generalize w.heap.size = gT at Ht s_0 ⊢
  have t0 := Ht.out.cell 0
  have t1 := Ht.out.cell 1
  have t2 := Ht.out.cell 2
  have t3 := Ht.out.cell 3
  have tl := Ht.out.lt
  simp only [List.getElem?_cons_zero, List.getElem?_cons_succ] at t0 t1 t2 t3
  have a_t : B0 ≤ gT := by omega
  clear s_0
  go_wp2_with fail
  with_reducible refine (HE.out w0 (H.out.keep Hbl.out) (Hms.out.keep Hbl.out)).mono ?_
  rintro e w2 ⟨hb, x, rfl, hx⟩
  have HXa := hide (hx w2 (Chg.refl _ _))
  have HXm := hide (show ∀ w', Chg (fun b => B0 ≤ b ∧ b < B0) w2 w' → True from fun _ _ => trivial)
  clear hx HXm
  clear t0 t1 t2 t3 tl
  replace Ht := hide (Ht.out.keep hb)
  replace Hbl := hide (Hbl.out.trans (hb.mono Hbl.out.size))
  clear hb
  unfold fault taskV
  skip
  have t0 := Ht.out.cell 0
  have t1 := Ht.out.cell 1
  have t2 := Ht.out.cell 2
  have t3 := Ht.out.cell 3
  have tl := Ht.out.lt
  simp only [List.getElem?_cons_zero, List.getElem?_cons_succ] at t0 t1 t2 t3
  go_upto_region 2 with (fail)
  have n_t_x : ¬ gT = w2.heap.size := by omega
  have n_x_t : ¬ w2.heap.size = gT := by omega
  have n_t_e : ¬ gT = w2.heap.size + 1 := by omega
  have n_e_t : ¬ w2.heap.size + 1 = gT := by omega
  have s_t : gT < w2.heap.size := tl
  have s_0 : B0 ≤ w2.heap.size := Nat.le_trans (Nat.le_of_eq HB0.out) Hbl.out.size
  have hyx := Blk.new (w2) 25 [.int .i64 X.facts, .slice x.I x.nI x.cI, .slice x.G x.nG x.cG, .slice x.O x.nO x.cO]
  have hye := Blk.new ((w2).alloc (.cells #[.int .i64 X.facts, .slice x.I x.nI x.cI, .slice x.G x.nG x.cG, .slice x.O x.nO x.cO] 25)) 29 [.int .i64 0, .int .i64 0]
  replace hyx := hyx.alloc (.cells #[.int .i64 0, .int .i64 0] 29)
  have hbW := below_two w2 (.cells #[.int .i64 X.facts, .slice x.I x.nI x.cI, .slice x.G x.nG x.cG, .slice x.O x.nO x.cO] 25) (.cells #[.int .i64 0, .int .i64 0] 29)
  simp only [World.size_alloc] at hye
  obtain ⟨w3, hW⟩ : ∃ W, W = ((w2).alloc (.cells #[.int .i64 X.facts, .slice x.I x.nI x.cI, .slice x.G x.nG x.cG, .slice x.O x.nO x.cO] 25)).alloc (.cells #[.int .i64 0, .int .i64 0] 29) := ⟨_, rfl⟩
  rw [← hW] at hyx hye hbW ⊢
  replace Ht := hide (Ht.out.keep hbW)
  replace HXa := hide (HXa.out.keep hbW)
  replace Hbl := hide (Hbl.out.trans (hbW.mono Hbl.out.size))
  have Hx := hide hyx
  have He := hide hye
  clear hW hbW hyx hye
  generalize w2.heap.size = gX at Hx He n_t_x n_x_t n_t_e n_e_t s_t s_0 ⊢
  have t0 := Ht.out.cell 0
  have t1 := Ht.out.cell 1
  have t2 := Ht.out.cell 2
  have t3 := Ht.out.cell 3
  have tl := Ht.out.lt
  have x0 := Hx.out.cell 0
  have x1 := Hx.out.cell 1
  have x2 := Hx.out.cell 2
  have x3 := Hx.out.cell 3
  have xl := Hx.out.lt
  have e0 := He.out.cell 0
  have e1 := He.out.cell 1
  have el := He.out.lt
  simp only [List.getElem?_cons_zero, List.getElem?_cons_succ] at t0 t1 t2 t3 x0 x1 x2 x3 e0 e1
  clear s_t
  have a_x : B0 ≤ gX := by omega
  have a_e : B0 ≤ gX + 1 := by omega
  clear s_0
  have n_x_e : ¬ gX = gX + 1 := by omega
  have n_e_x : ¬ gX + 1 = gX := by omega
  go_wp2_with fail
  with_reducible refine (HP.out w3 (H.out.keep Hbl.out) (Hms.out.keep Hbl.out) (Hl.out.keep Hbl.out)).mono ?_
  rintro e w4 ⟨hb, P, np, cp, rfl, hx⟩
  have HPR := hide (hx w4 (Chg.refl _ _))
  have Hnp := hide (show np = 0 by have := HPR.out.len; simpa using this.symm)
  clear hx
  clear t0 t1 t2 t3 x0 x1 x2 x3 e0 e1 tl xl el
  replace Ht := hide (Ht.out.keep hb)
  replace Hx := hide (Hx.out.keep hb)
  replace He := hide (He.out.keep hb)
  replace HXa := hide (HXa.out.keep hb)
  replace Hbl := hide (Hbl.out.trans (hb.mono Hbl.out.size))
  clear hb
  unfold fault
  have t0 := Ht.out.cell 0
  have t1 := Ht.out.cell 1
  have t2 := Ht.out.cell 2
  have t3 := Ht.out.cell 3
  have tl := Ht.out.lt
  have x0 := Hx.out.cell 0
  have x1 := Hx.out.cell 1
  have x2 := Hx.out.cell 2
  have x3 := Hx.out.cell 3
  have xl := Hx.out.lt
  have e0 := He.out.cell 0
  have e1 := He.out.cell 1
  have el := He.out.lt
  simp only [List.getElem?_cons_zero, List.getElem?_cons_succ] at t0 t1 t2 t3 x0 x1 x2 x3 e0 e1
  go_upto_region 3 with (fail)
  have n_t_f : ¬ gT = w4.heap.size := by omega
  have n_f_t : ¬ w4.heap.size = gT := by omega
  have n_x_f : ¬ gX = w4.heap.size := by omega
  have n_f_x : ¬ w4.heap.size = gX := by omega
  have n_e_f : ¬ gX + 1 = w4.heap.size := by omega
  have n_f_e : ¬ w4.heap.size = gX + 1 := by omega
  have s_t : gT < w4.heap.size := tl
  have s_x : gX < w4.heap.size := xl
  have s_e : gX + 1 < w4.heap.size := el
  have s_0 : B0 ≤ w4.heap.size := Nat.le_trans (Nat.le_of_eq HB0.out) Hbl.out.size
  have hyf := Blk.new (w4) 29 [.int .i64 10, .int .i64 (-9)]
  have hbW : Below (w4).heap.size (w4) ((w4).alloc (.cells #[.int .i64 10, .int .i64 (-9)] 29)) := (Below.refl _ _).alloc (Nat.le_refl _) _
  obtain ⟨w5, hW⟩ : ∃ W, W = (w4).alloc (.cells #[.int .i64 10, .int .i64 (-9)] 29) := ⟨_, rfl⟩
  rw [← hW] at hyf hbW ⊢
  replace Ht := hide (Ht.out.keep hbW)
  replace Hx := hide (Hx.out.keep hbW)
  replace He := hide (He.out.keep hbW)
  replace HXa := hide (HXa.out.keep hbW)
  replace HPR := hide (HPR.out.keep hbW)
  replace Hbl := hide (Hbl.out.trans (hbW.mono Hbl.out.size))
  have Hf := hide hyf
  clear hW hbW hyf
  generalize w4.heap.size = gf at Hf n_t_f n_f_t n_x_f n_f_x n_e_f n_f_e s_t s_x s_e s_0 ⊢
  have t0 := Ht.out.cell 0
  have t1 := Ht.out.cell 1
  have t2 := Ht.out.cell 2
  have t3 := Ht.out.cell 3
  have tl := Ht.out.lt
  have x0 := Hx.out.cell 0
  have x1 := Hx.out.cell 1
  have x2 := Hx.out.cell 2
  have x3 := Hx.out.cell 3
  have xl := Hx.out.lt
  have e0 := He.out.cell 0
  have e1 := He.out.cell 1
  have el := He.out.lt
  have f0 := Hf.out.cell 0
  have f1 := Hf.out.cell 1
  have fl := Hf.out.lt
  simp only [List.getElem?_cons_zero, List.getElem?_cons_succ] at t0 t1 t2 t3 x0 x1 x2 x3 e0 e1 f0 f1
  clear s_t
  clear s_x
  clear s_e
  have a_f : B0 ≤ gf := by omega
  clear s_0
  go_wp2_with fail
  with_reducible refine (macrosExample_ct w5).mono ?_
  rintro e w6 ⟨rfl, hb⟩
  clear t0 t1 t2 t3 x0 x1 x2 x3 e0 e1 f0 f1 tl xl el fl
  replace Ht := hide (Ht.out.keep hb)
  replace Hx := hide (Hx.out.keep hb)
  replace He := hide (He.out.keep hb)
  replace Hf := hide (Hf.out.keep hb)
  replace HXa := hide (HXa.out.keep hb)
  replace HPR := hide (HPR.out.keep hb)
  replace Hbl := hide (Hbl.out.trans (hb.mono Hbl.out.size))
  clear hb
  have t0 := Ht.out.cell 0
  have t1 := Ht.out.cell 1
  have t2 := Ht.out.cell 2
  have t3 := Ht.out.cell 3
  have tl := Ht.out.lt
  have x0 := Hx.out.cell 0
  have x1 := Hx.out.cell 1
  have x2 := Hx.out.cell 2
  have x3 := Hx.out.cell 3
  have xl := Hx.out.lt
  have e0 := He.out.cell 0
  have e1 := He.out.cell 1
  have el := He.out.lt
  have f0 := Hf.out.cell 0
  have f1 := Hf.out.cell 1
  have fl := Hf.out.lt
  simp only [List.getElem?_cons_zero, List.getElem?_cons_succ] at t0 t1 t2 t3 x0 x1 x2 x3 e0 e1 f0 f1
  go_wp2_with fail
  with_reducible refine (HF.out w6 (H.out.keep Hbl.out) (Hms.out.keep Hbl.out)).mono ?_
  rintro e w7 ⟨hb, y, rfl, hx⟩
  have HYa := hide (hx w7 (Chg.refl _ _))
  clear hx
  clear t0 t1 t2 t3 x0 x1 x2 x3 e0 e1 f0 f1 tl xl el fl
  replace Ht := hide (Ht.out.keep hb)
  replace Hx := hide (Hx.out.keep hb)
  replace He := hide (He.out.keep hb)
  replace Hf := hide (Hf.out.keep hb)
  replace HXa := hide (HXa.out.keep hb)
  replace HPR := hide (HPR.out.keep hb)
  replace Hbl := hide (Hbl.out.trans (hb.mono Hbl.out.size))
  clear hb
  unfold fault taskV
  skip
  have t0 := Ht.out.cell 0
  have t1 := Ht.out.cell 1
  have t2 := Ht.out.cell 2
  have t3 := Ht.out.cell 3
  have tl := Ht.out.lt
  have x0 := Hx.out.cell 0
  have x1 := Hx.out.cell 1
  have x2 := Hx.out.cell 2
  have x3 := Hx.out.cell 3
  have xl := Hx.out.lt
  have e0 := He.out.cell 0
  have e1 := He.out.cell 1
  have el := He.out.lt
  have f0 := Hf.out.cell 0
  have f1 := Hf.out.cell 1
  have fl := Hf.out.lt
  simp only [List.getElem?_cons_zero, List.getElem?_cons_succ] at t0 t1 t2 t3 x0 x1 x2 x3 e0 e1 f0 f1
  go_upto_region 6 with (fail)
  have n_t_y : ¬ gT = w7.heap.size := by omega
  have n_y_t : ¬ w7.heap.size = gT := by omega
  have n_t_v : ¬ gT = w7.heap.size + 1 := by omega
  have n_v_t : ¬ w7.heap.size + 1 = gT := by omega
  have n_x_y : ¬ gX = w7.heap.size := by omega
  have n_y_x : ¬ w7.heap.size = gX := by omega
  have n_x_v : ¬ gX = w7.heap.size + 1 := by omega
  have n_v_x : ¬ w7.heap.size + 1 = gX := by omega
  have n_e_y : ¬ gX + 1 = w7.heap.size := by omega
  have n_y_e : ¬ w7.heap.size = gX + 1 := by omega
  have n_e_v : ¬ gX + 1 = w7.heap.size + 1 := by omega
  have n_v_e : ¬ w7.heap.size + 1 = gX + 1 := by omega
  have n_f_y : ¬ gf = w7.heap.size := by omega
  have n_y_f : ¬ w7.heap.size = gf := by omega
  have n_f_v : ¬ gf = w7.heap.size + 1 := by omega
  have n_v_f : ¬ w7.heap.size + 1 = gf := by omega
  have s_t : gT < w7.heap.size := tl
  have s_x : gX < w7.heap.size := xl
  have s_e : gX + 1 < w7.heap.size := el
  have s_f : gf < w7.heap.size := fl
  have s_0 : B0 ≤ w7.heap.size := Nat.le_trans (Nat.le_of_eq HB0.out) Hbl.out.size
  have hyy := Blk.new (w7) 25 [.int .i64 X.facts, .slice y.I y.nI y.cI, .slice y.G y.nG y.cG, .slice y.O y.nO y.cO]
  have hyv := Blk.new ((w7).alloc (.cells #[.int .i64 X.facts, .slice y.I y.nI y.cI, .slice y.G y.nG y.cG, .slice y.O y.nO y.cO] 25)) 29 [.int .i64 0, .int .i64 0]
  replace hyy := hyy.alloc (.cells #[.int .i64 0, .int .i64 0] 29)
  have hbW := below_two w7 (.cells #[.int .i64 X.facts, .slice y.I y.nI y.cI, .slice y.G y.nG y.cG, .slice y.O y.nO y.cO] 25) (.cells #[.int .i64 0, .int .i64 0] 29)
  simp only [World.size_alloc] at hyv
  obtain ⟨w8, hW⟩ : ∃ W, W = ((w7).alloc (.cells #[.int .i64 X.facts, .slice y.I y.nI y.cI, .slice y.G y.nG y.cG, .slice y.O y.nO y.cO] 25)).alloc (.cells #[.int .i64 0, .int .i64 0] 29) := ⟨_, rfl⟩
  rw [← hW] at hyy hyv hbW ⊢
  replace Ht := hide (Ht.out.keep hbW)
  replace Hx := hide (Hx.out.keep hbW)
  replace He := hide (He.out.keep hbW)
  replace Hf := hide (Hf.out.keep hbW)
  replace HXa := hide (HXa.out.keep hbW)
  replace HPR := hide (HPR.out.keep hbW)
  replace HYa := hide (HYa.out.keep hbW)
  replace Hbl := hide (Hbl.out.trans (hbW.mono Hbl.out.size))
  have Hy := hide hyy
  have Hv := hide hyv
  clear hW hbW hyy hyv
  generalize w7.heap.size = gY at Hy Hv n_t_y n_y_t n_t_v n_v_t n_x_y n_y_x n_x_v n_v_x n_e_y n_y_e n_e_v n_v_e n_f_y n_y_f n_f_v n_v_f s_t s_x s_e s_f s_0 ⊢
  have t0 := Ht.out.cell 0
  have t1 := Ht.out.cell 1
  have t2 := Ht.out.cell 2
  have t3 := Ht.out.cell 3
  have tl := Ht.out.lt
  have x0 := Hx.out.cell 0
  have x1 := Hx.out.cell 1
  have x2 := Hx.out.cell 2
  have x3 := Hx.out.cell 3
  have xl := Hx.out.lt
  have e0 := He.out.cell 0
  have e1 := He.out.cell 1
  have el := He.out.lt
  have f0 := Hf.out.cell 0
  have f1 := Hf.out.cell 1
  have fl := Hf.out.lt
  have y0 := Hy.out.cell 0
  have y1 := Hy.out.cell 1
  have y2 := Hy.out.cell 2
  have y3 := Hy.out.cell 3
  have yl := Hy.out.lt
  have v0 := Hv.out.cell 0
  have v1 := Hv.out.cell 1
  have vl := Hv.out.lt
  simp only [List.getElem?_cons_zero, List.getElem?_cons_succ] at t0 t1 t2 t3 x0 x1 x2 x3 e0 e1 f0 f1 y0 y1 y2 y3 v0 v1
  clear s_t
  clear s_x
  clear s_e
  clear s_f
  have a_y : B0 ≤ gY := by omega
  have a_v : B0 ≤ gY + 1 := by omega
  clear s_0
  have n_y_v : ¬ gY = gY + 1 := by omega
  have n_v_y : ¬ gY + 1 = gY := by omega
  have hct := SameTask_ct x y X w8 HXa.out HYa.out
  go_wp2_with fail
  with_reducible refine (hct).mono ?_
  rintro e w9 ⟨rfl, hb⟩
  clear t0 t1 t2 t3 x0 x1 x2 x3 e0 e1 f0 f1 y0 y1 y2 y3 v0 v1 tl xl el fl yl vl
  replace Ht := hide (Ht.out.keep hb)
  replace Hx := hide (Hx.out.keep hb)
  replace He := hide (He.out.keep hb)
  replace Hf := hide (Hf.out.keep hb)
  replace Hy := hide (Hy.out.keep hb)
  replace Hv := hide (Hv.out.keep hb)
  replace HXa := hide (HXa.out.keep hb)
  replace HPR := hide (HPR.out.keep hb)
  replace HYa := hide (HYa.out.keep hb)
  replace Hbl := hide (Hbl.out.trans (hb.mono Hbl.out.size))
  clear hb
  clear hct
  have t0 := Ht.out.cell 0
  have t1 := Ht.out.cell 1
  have t2 := Ht.out.cell 2
  have t3 := Ht.out.cell 3
  have tl := Ht.out.lt
  have x0 := Hx.out.cell 0
  have x1 := Hx.out.cell 1
  have x2 := Hx.out.cell 2
  have x3 := Hx.out.cell 3
  have xl := Hx.out.lt
  have e0 := He.out.cell 0
  have e1 := He.out.cell 1
  have el := He.out.lt
  have f0 := Hf.out.cell 0
  have f1 := Hf.out.cell 1
  have fl := Hf.out.lt
  have y0 := Hy.out.cell 0
  have y1 := Hy.out.cell 1
  have y2 := Hy.out.cell 2
  have y3 := Hy.out.cell 3
  have yl := Hy.out.lt
  have v0 := Hv.out.cell 0
  have v1 := Hv.out.cell 1
  have vl := Hv.out.lt
  simp only [List.getElem?_cons_zero, List.getElem?_cons_succ] at t0 t1 t2 t3 x0 x1 x2 x3 e0 e1 f0 f1 y0 y1 y2 y3 v0 v1
  have hyo := HYa.out.ops.len
  have hyl := HYa.out.ops.low
  have hct := RSteps_ct y.nO C q r l w9 (Hl.out.keep Hbl.out) hyl
  rw [← hyo, Hsf.out, hyo] at hct
  clear hyo hyl
  go_wp2_with fail
  with_reducible refine (hct).mono ?_
  rintro e w10 ⟨rfl, hb⟩
  clear t0 t1 t2 t3 x0 x1 x2 x3 e0 e1 f0 f1 y0 y1 y2 y3 v0 v1 tl xl el fl yl vl
  replace Ht := hide (Ht.out.keep hb)
  replace Hx := hide (Hx.out.keep hb)
  replace He := hide (He.out.keep hb)
  replace Hf := hide (Hf.out.keep hb)
  replace Hy := hide (Hy.out.keep hb)
  replace Hv := hide (Hv.out.keep hb)
  replace HXa := hide (HXa.out.keep hb)
  replace HPR := hide (HPR.out.keep hb)
  replace HYa := hide (HYa.out.keep hb)
  replace Hbl := hide (Hbl.out.trans (hb.mono Hbl.out.size))
  clear hb
  clear hct
  unfold fault
  have t0 := Ht.out.cell 0
  have t1 := Ht.out.cell 1
  have t2 := Ht.out.cell 2
  have t3 := Ht.out.cell 3
  have tl := Ht.out.lt
  have x0 := Hx.out.cell 0
  have x1 := Hx.out.cell 1
  have x2 := Hx.out.cell 2
  have x3 := Hx.out.cell 3
  have xl := Hx.out.lt
  have e0 := He.out.cell 0
  have e1 := He.out.cell 1
  have el := He.out.lt
  have f0 := Hf.out.cell 0
  have f1 := Hf.out.cell 1
  have fl := Hf.out.lt
  have y0 := Hy.out.cell 0
  have y1 := Hy.out.cell 1
  have y2 := Hy.out.cell 2
  have y3 := Hy.out.cell 3
  have yl := Hy.out.lt
  have v0 := Hv.out.cell 0
  have v1 := Hv.out.cell 1
  have vl := Hv.out.lt
  simp only [List.getElem?_cons_zero, List.getElem?_cons_succ] at t0 t1 t2 t3 x0 x1 x2 x3 e0 e1 f0 f1 y0 y1 y2 y3 v0 v1
  have vf0 := Hv.out.frozen 0
  have vf1 := Hv.out.frozen 1
  go_upto_region 11 with (fail)
  skip
  clear vf0 vf1
  have hyb := ((Hv.out.set 0 (.int .i64 0)).set 1 (.int .i64 0))
  simp only [List.set_cons_zero, List.set_cons_succ] at hyb
  have hbW := (below_set ((below_set (Below.refl B0 w10) (g := gY + 1) a_v 0 (.int .i64 0))) (g := gY + 1) a_v 1 (.int .i64 0))
  have hcW := ((Chg.refl (fun x => x = gY + 1) w10).trans (Chg.set _ (gY + 1) 0 (.int .i64 0))).trans (Chg.set _ (gY + 1) 1 (.int .i64 0))
  obtain ⟨w11, hW⟩ : ∃ W, W = ((w10).setCell ⟨gY + 1, 0, none⟩ (.int .i64 0)).setCell ⟨gY + 1, 1, none⟩ (.int .i64 0) := ⟨_, rfl⟩
  rw [← hW] at hyb hbW hcW ⊢
  replace Hv := hide hyb
  clear hW hyb
  clear t0 t1 t2 t3 x0 x1 x2 x3 e0 e1 f0 f1 y0 y1 y2 y3 v0 v1 tl xl el fl yl vl
  replace Ht := hide (hcW.blk Ht.out (by exact n_t_v))
  replace Hx := hide (hcW.blk Hx.out (by exact n_x_v))
  replace He := hide (hcW.blk He.out (by exact n_e_v))
  replace Hf := hide (hcW.blk Hf.out (by exact n_f_v))
  replace Hy := hide (hcW.blk Hy.out (by exact n_y_v))
  replace Hbl := hide (Hbl.out.trans (hbW.mono (Nat.le_of_eq HB0.out.symm)))
  clear hbW hcW
  have t0 := Ht.out.cell 0
  have t1 := Ht.out.cell 1
  have t2 := Ht.out.cell 2
  have t3 := Ht.out.cell 3
  have tl := Ht.out.lt
  have x0 := Hx.out.cell 0
  have x1 := Hx.out.cell 1
  have x2 := Hx.out.cell 2
  have x3 := Hx.out.cell 3
  have xl := Hx.out.lt
  have e0 := He.out.cell 0
  have e1 := He.out.cell 1
  have el := He.out.lt
  have f0 := Hf.out.cell 0
  have f1 := Hf.out.cell 1
  have fl := Hf.out.lt
  have y0 := Hy.out.cell 0
  have y1 := Hy.out.cell 1
  have y2 := Hy.out.cell 2
  have y3 := Hy.out.cell 3
  have yl := Hy.out.lt
  have v0 := Hv.out.cell 0
  have v1 := Hv.out.cell 1
  have vl := Hv.out.lt
  simp only [List.getElem?_cons_zero, List.getElem?_cons_succ] at t0 t1 t2 t3 x0 x1 x2 x3 e0 e1 f0 f1 y0 y1 y2 y3 v0 v1
  go_wp2_with fail
  with_reducible refine (HXP.out w11 (H.out.keep Hbl.out) (Hms.out.keep Hbl.out) (Hl.out.keep Hbl.out)).mono ?_
  rintro e w12 ⟨hb, E, ce, rfl, hown⟩
  clear t0 t1 t2 t3 x0 x1 x2 x3 e0 e1 f0 f1 y0 y1 y2 y3 v0 v1 tl xl el fl yl vl
  replace Ht := hide (Ht.out.keep hb)
  replace Hx := hide (Hx.out.keep hb)
  replace He := hide (He.out.keep hb)
  replace Hf := hide (Hf.out.keep hb)
  replace Hy := hide (Hy.out.keep hb)
  replace Hv := hide (Hv.out.keep hb)
  replace Hbl := hide (Hbl.out.trans (hb.mono Hbl.out.size))
  clear hb hown
  have t0 := Ht.out.cell 0
  have t1 := Ht.out.cell 1
  have t2 := Ht.out.cell 2
  have t3 := Ht.out.cell 3
  have tl := Ht.out.lt
  have x0 := Hx.out.cell 0
  have x1 := Hx.out.cell 1
  have x2 := Hx.out.cell 2
  have x3 := Hx.out.cell 3
  have xl := Hx.out.lt
  have e0 := He.out.cell 0
  have e1 := He.out.cell 1
  have el := He.out.lt
  have f0 := Hf.out.cell 0
  have f1 := Hf.out.cell 1
  have fl := Hf.out.lt
  have y0 := Hy.out.cell 0
  have y1 := Hy.out.cell 1
  have y2 := Hy.out.cell 2
  have y3 := Hy.out.cell 3
  have yl := Hy.out.lt
  have v0 := Hv.out.cell 0
  have v1 := Hv.out.cell 1
  have vl := Hv.out.lt
  simp only [List.getElem?_cons_zero, List.getElem?_cons_succ] at t0 t1 t2 t3 x0 x1 x2 x3 e0 e1 f0 f1 y0 y1 y2 y3 v0 v1
  have hln60 : (60 : Int) < ((expandF T.ops.length ms l).length : Int) := by have := Hln.out; omega
  generalize (expandF T.ops.length ms l).length = ln at hln60 ⊢
  go_wp2_with fail
  with_reducible refine (At_ct _ _ _).mono ?_
  rintro e w13 ⟨rfl, hb⟩
  clear t0 t1 t2 t3 x0 x1 x2 x3 e0 e1 f0 f1 y0 y1 y2 y3 v0 v1 tl xl el fl yl vl
  replace Ht := hide (Ht.out.keep hb)
  replace Hx := hide (Hx.out.keep hb)
  replace He := hide (He.out.keep hb)
  replace Hf := hide (Hf.out.keep hb)
  replace Hy := hide (Hy.out.keep hb)
  replace Hv := hide (Hv.out.keep hb)
  replace Hbl := hide (Hbl.out.trans (hb.mono Hbl.out.size))
  clear hb
  unfold fault
  have t0 := Ht.out.cell 0
  have t1 := Ht.out.cell 1
  have t2 := Ht.out.cell 2
  have t3 := Ht.out.cell 3
  have tl := Ht.out.lt
  have x0 := Hx.out.cell 0
  have x1 := Hx.out.cell 1
  have x2 := Hx.out.cell 2
  have x3 := Hx.out.cell 3
  have xl := Hx.out.lt
  have e0 := He.out.cell 0
  have e1 := He.out.cell 1
  have el := He.out.lt
  have f0 := Hf.out.cell 0
  have f1 := Hf.out.cell 1
  have fl := Hf.out.lt
  have y0 := Hy.out.cell 0
  have y1 := Hy.out.cell 1
  have y2 := Hy.out.cell 2
  have y3 := Hy.out.cell 3
  have yl := Hy.out.lt
  have v0 := Hv.out.cell 0
  have v1 := Hv.out.cell 1
  have vl := Hv.out.lt
  simp only [List.getElem?_cons_zero, List.getElem?_cons_succ] at t0 t1 t2 t3 x0 x1 x2 x3 e0 e1 f0 f1 y0 y1 y2 y3 v0 v1
  have vf0 := Hv.out.frozen 0
  have vf1 := Hv.out.frozen 1
  go_upto_region 13 with (fail)
  clear vf0 vf1
  have hyb := ((Hv.out.set 0 (.int .i64 10)).set 1 (.int .i64 (-9)))
  simp only [List.set_cons_zero, List.set_cons_succ] at hyb
  have hbW := (below_set ((below_set (Below.refl B0 w13) (g := gY + 1) a_v 0 (.int .i64 10))) (g := gY + 1) a_v 1 (.int .i64 (-9)))
  have hcW := ((Chg.refl (fun x => x = gY + 1) w13).trans (Chg.set _ (gY + 1) 0 (.int .i64 10))).trans (Chg.set _ (gY + 1) 1 (.int .i64 (-9)))
  obtain ⟨w14, hW⟩ : ∃ W, W = ((w13).setCell ⟨gY + 1, 0, none⟩ (.int .i64 10)).setCell ⟨gY + 1, 1, none⟩ (.int .i64 (-9)) := ⟨_, rfl⟩
  rw [← hW] at hyb hbW hcW ⊢
  replace Hv := hide hyb
  clear hW hyb
  clear t0 t1 t2 t3 x0 x1 x2 x3 e0 e1 f0 f1 y0 y1 y2 y3 v0 v1 tl xl el fl yl vl
  replace Ht := hide (hcW.blk Ht.out (by exact n_t_v))
  replace Hx := hide (hcW.blk Hx.out (by exact n_x_v))
  replace He := hide (hcW.blk He.out (by exact n_e_v))
  replace Hf := hide (hcW.blk Hf.out (by exact n_f_v))
  replace Hy := hide (hcW.blk Hy.out (by exact n_y_v))
  replace Hbl := hide (Hbl.out.trans (hbW.mono (Nat.le_of_eq HB0.out.symm)))
  clear hbW hcW
  have t0 := Ht.out.cell 0
  have t1 := Ht.out.cell 1
  have t2 := Ht.out.cell 2
  have t3 := Ht.out.cell 3
  have tl := Ht.out.lt
  have x0 := Hx.out.cell 0
  have x1 := Hx.out.cell 1
  have x2 := Hx.out.cell 2
  have x3 := Hx.out.cell 3
  have xl := Hx.out.lt
  have e0 := He.out.cell 0
  have e1 := He.out.cell 1
  have el := He.out.lt
  have f0 := Hf.out.cell 0
  have f1 := Hf.out.cell 1
  have fl := Hf.out.lt
  have y0 := Hy.out.cell 0
  have y1 := Hy.out.cell 1
  have y2 := Hy.out.cell 2
  have y3 := Hy.out.cell 3
  have yl := Hy.out.lt
  have v0 := Hv.out.cell 0
  have v1 := Hv.out.cell 1
  have vl := Hv.out.lt
  simp only [List.getElem?_cons_zero, List.getElem?_cons_succ] at t0 t1 t2 t3 x0 x1 x2 x3 e0 e1 f0 f1 y0 y1 y2 y3 v0 v1
  have hpl : np = 0 := Hnp.out
  subst hpl
  go_wp2_with fail
  go_ret
  exact ⟨ret_bool (by simp), Hbl.out⟩
set_option maxRecDepth 100000 in
set_option maxHeartbeats 6400000 in
theorem extendLawD (a : TA) (T : Tsk) (B : Option Addr) (m d : Nat) (ms : List (List Int)) (C : Option Addr) (q r : Nat) (l : List Int) (w : World) (h : TkR w a T) (hms : Rd (Enc.sl Enc.int) w B m d ms) (hl : Rd Enc.int w C q r l) (X : Tsk) (hex : extendR T ms = (X, 0, 0)) (hsf : stepsFault X.ops.length l = (0, 0)) (hr60 : q ≤ 60) (hrng : ∀ x ∈ l, 0 ≤ x ∧ x < T.ops.length + ms.length) (h6 : ∀ q ∈ ms, q.length ≤ 6) (hln : ¬ 60 < (expandF T.ops.length ms l).length) (hpx : expandR T ms l = (expandF T.ops.length ms l, 0, 0)) :
    Calls Try.prog 4 #[.agg #[.int .i64 T.facts, .slice a.I a.nI a.cI, .slice a.G a.nG a.cG, .slice a.O a.nO a.cO], .slice B m d, .slice C q r] w (Gives w (.bool true)) := by
  obtain ⟨I, nI, cI, G, nG, cG, O, nO, cO⟩ := a
  have H := hide h
  have Hms := hide hms
  have Hl := hide hl
  have HE := Extend_ct ⟨I, nI, cI, G, nG, cG, O, nO, cO⟩ T B m d ms
  rw [hex] at HE
  have HF := Extended_ct ⟨I, nI, cI, G, nG, cG, O, nO, cO⟩ T B m d ms
  rw [hex] at HF
  have HP := Expand_ct ⟨I, nI, cI, G, nG, cG, O, nO, cO⟩ T B m d ms C q r l
  rw [hpx] at HP
  simp only at HE HF HP ⊢
  replace HE := hide HE
  replace HF := hide HF
  replace HP := hide HP
  clear h hms hl hex hpx
  have Hsf := hide hsf
  clear hsf
  have HX0 := fun w h hms hl => Expanded_ct ⟨I, nI, cI, G, nG, cG, O, nO, cO⟩ T B m d ms C q r l w h hms hl hr60 hrng h6
  have HXP := hide HX0
  have Hln := hide hln
  clear HX0 hrng h6 hln
  have Hbl := hide (Below.refl w.heap.size w)
  go_enter Try.func4, Try.ntmps4
  go_upto_region 1 with (fail)
  obtain ⟨B0, hB0⟩ : ∃ B0, B0 = w.heap.size := ⟨_, rfl⟩
  have HB0 := hide hB0
  clear hB0
  have s_0 : B0 ≤ w.heap.size := Nat.le_trans (Nat.le_of_eq HB0.out) Hbl.out.size
  have hyt := Blk.new (w) 25 [.int .i64 T.facts, .slice I nI cI, .slice G nG cG, .slice O nO cO]
  have hbW : Below (w).heap.size (w) ((w).alloc (.cells #[.int .i64 T.facts, .slice I nI cI, .slice G nG cG, .slice O nO cO] 25)) := (Below.refl _ _).alloc (Nat.le_refl _) _
  obtain ⟨w0, hW⟩ : ∃ W, W = (w).alloc (.cells #[.int .i64 T.facts, .slice I nI cI, .slice G nG cG, .slice O nO cO] 25) := ⟨_, rfl⟩
  rw [← hW] at hyt hbW ⊢
  replace Hbl := hide (Hbl.out.trans (hbW.mono Hbl.out.size))
  have Ht := hide hyt
  clear hW hbW hyt
  generalize w.heap.size = gT at Ht s_0 ⊢
  have t0 := Ht.out.cell 0
  have t1 := Ht.out.cell 1
  have t2 := Ht.out.cell 2
  have t3 := Ht.out.cell 3
  have tl := Ht.out.lt
  simp only [List.getElem?_cons_zero, List.getElem?_cons_succ] at t0 t1 t2 t3
  have a_t : B0 ≤ gT := by omega
  clear s_0
  go_wp2_with fail
  with_reducible refine (HE.out w0 (H.out.keep Hbl.out) (Hms.out.keep Hbl.out)).mono ?_
  rintro e w2 ⟨hb, x, rfl, hx⟩
  have HXa := hide (hx w2 (Chg.refl _ _))
  have HXm := hide (show ∀ w', Chg (fun b => B0 ≤ b ∧ b < B0) w2 w' → True from fun _ _ => trivial)
  clear hx HXm
  clear t0 t1 t2 t3 tl
  replace Ht := hide (Ht.out.keep hb)
  replace Hbl := hide (Hbl.out.trans (hb.mono Hbl.out.size))
  clear hb
  unfold fault taskV
  skip
  have t0 := Ht.out.cell 0
  have t1 := Ht.out.cell 1
  have t2 := Ht.out.cell 2
  have t3 := Ht.out.cell 3
  have tl := Ht.out.lt
  simp only [List.getElem?_cons_zero, List.getElem?_cons_succ] at t0 t1 t2 t3
  go_upto_region 2 with (fail)
  have n_t_x : ¬ gT = w2.heap.size := by omega
  have n_x_t : ¬ w2.heap.size = gT := by omega
  have n_t_e : ¬ gT = w2.heap.size + 1 := by omega
  have n_e_t : ¬ w2.heap.size + 1 = gT := by omega
  have s_t : gT < w2.heap.size := tl
  have s_0 : B0 ≤ w2.heap.size := Nat.le_trans (Nat.le_of_eq HB0.out) Hbl.out.size
  have hyx := Blk.new (w2) 25 [.int .i64 X.facts, .slice x.I x.nI x.cI, .slice x.G x.nG x.cG, .slice x.O x.nO x.cO]
  have hye := Blk.new ((w2).alloc (.cells #[.int .i64 X.facts, .slice x.I x.nI x.cI, .slice x.G x.nG x.cG, .slice x.O x.nO x.cO] 25)) 29 [.int .i64 0, .int .i64 0]
  replace hyx := hyx.alloc (.cells #[.int .i64 0, .int .i64 0] 29)
  have hbW := below_two w2 (.cells #[.int .i64 X.facts, .slice x.I x.nI x.cI, .slice x.G x.nG x.cG, .slice x.O x.nO x.cO] 25) (.cells #[.int .i64 0, .int .i64 0] 29)
  simp only [World.size_alloc] at hye
  obtain ⟨w3, hW⟩ : ∃ W, W = ((w2).alloc (.cells #[.int .i64 X.facts, .slice x.I x.nI x.cI, .slice x.G x.nG x.cG, .slice x.O x.nO x.cO] 25)).alloc (.cells #[.int .i64 0, .int .i64 0] 29) := ⟨_, rfl⟩
  rw [← hW] at hyx hye hbW ⊢
  replace Ht := hide (Ht.out.keep hbW)
  replace HXa := hide (HXa.out.keep hbW)
  replace Hbl := hide (Hbl.out.trans (hbW.mono Hbl.out.size))
  have Hx := hide hyx
  have He := hide hye
  clear hW hbW hyx hye
  generalize w2.heap.size = gX at Hx He n_t_x n_x_t n_t_e n_e_t s_t s_0 ⊢
  have t0 := Ht.out.cell 0
  have t1 := Ht.out.cell 1
  have t2 := Ht.out.cell 2
  have t3 := Ht.out.cell 3
  have tl := Ht.out.lt
  have x0 := Hx.out.cell 0
  have x1 := Hx.out.cell 1
  have x2 := Hx.out.cell 2
  have x3 := Hx.out.cell 3
  have xl := Hx.out.lt
  have e0 := He.out.cell 0
  have e1 := He.out.cell 1
  have el := He.out.lt
  simp only [List.getElem?_cons_zero, List.getElem?_cons_succ] at t0 t1 t2 t3 x0 x1 x2 x3 e0 e1
  clear s_t
  have a_x : B0 ≤ gX := by omega
  have a_e : B0 ≤ gX + 1 := by omega
  clear s_0
  have n_x_e : ¬ gX = gX + 1 := by omega
  have n_e_x : ¬ gX + 1 = gX := by omega
  go_wp2_with fail
  with_reducible refine (HP.out w3 (H.out.keep Hbl.out) (Hms.out.keep Hbl.out) (Hl.out.keep Hbl.out)).mono ?_
  rintro e w4 ⟨hb, P, np, cp, rfl, hx⟩
  have HPR := hide (hx w4 (Chg.refl _ _))
  clear hx
  clear t0 t1 t2 t3 x0 x1 x2 x3 e0 e1 tl xl el
  replace Ht := hide (Ht.out.keep hb)
  replace Hx := hide (Hx.out.keep hb)
  replace He := hide (He.out.keep hb)
  replace HXa := hide (HXa.out.keep hb)
  replace Hbl := hide (Hbl.out.trans (hb.mono Hbl.out.size))
  clear hb
  unfold fault
  have t0 := Ht.out.cell 0
  have t1 := Ht.out.cell 1
  have t2 := Ht.out.cell 2
  have t3 := Ht.out.cell 3
  have tl := Ht.out.lt
  have x0 := Hx.out.cell 0
  have x1 := Hx.out.cell 1
  have x2 := Hx.out.cell 2
  have x3 := Hx.out.cell 3
  have xl := Hx.out.lt
  have e0 := He.out.cell 0
  have e1 := He.out.cell 1
  have el := He.out.lt
  simp only [List.getElem?_cons_zero, List.getElem?_cons_succ] at t0 t1 t2 t3 x0 x1 x2 x3 e0 e1
  go_upto_region 3 with (fail)
  have n_t_f : ¬ gT = w4.heap.size := by omega
  have n_f_t : ¬ w4.heap.size = gT := by omega
  have n_x_f : ¬ gX = w4.heap.size := by omega
  have n_f_x : ¬ w4.heap.size = gX := by omega
  have n_e_f : ¬ gX + 1 = w4.heap.size := by omega
  have n_f_e : ¬ w4.heap.size = gX + 1 := by omega
  have s_t : gT < w4.heap.size := tl
  have s_x : gX < w4.heap.size := xl
  have s_e : gX + 1 < w4.heap.size := el
  have s_0 : B0 ≤ w4.heap.size := Nat.le_trans (Nat.le_of_eq HB0.out) Hbl.out.size
  have hyf := Blk.new (w4) 29 [.int .i64 0, .int .i64 0]
  have hbW : Below (w4).heap.size (w4) ((w4).alloc (.cells #[.int .i64 0, .int .i64 0] 29)) := (Below.refl _ _).alloc (Nat.le_refl _) _
  obtain ⟨w5, hW⟩ : ∃ W, W = (w4).alloc (.cells #[.int .i64 0, .int .i64 0] 29) := ⟨_, rfl⟩
  rw [← hW] at hyf hbW ⊢
  replace Ht := hide (Ht.out.keep hbW)
  replace Hx := hide (Hx.out.keep hbW)
  replace He := hide (He.out.keep hbW)
  replace HXa := hide (HXa.out.keep hbW)
  replace HPR := hide (HPR.out.keep hbW)
  replace Hbl := hide (Hbl.out.trans (hbW.mono Hbl.out.size))
  have Hf := hide hyf
  clear hW hbW hyf
  generalize w4.heap.size = gf at Hf n_t_f n_f_t n_x_f n_f_x n_e_f n_f_e s_t s_x s_e s_0 ⊢
  have t0 := Ht.out.cell 0
  have t1 := Ht.out.cell 1
  have t2 := Ht.out.cell 2
  have t3 := Ht.out.cell 3
  have tl := Ht.out.lt
  have x0 := Hx.out.cell 0
  have x1 := Hx.out.cell 1
  have x2 := Hx.out.cell 2
  have x3 := Hx.out.cell 3
  have xl := Hx.out.lt
  have e0 := He.out.cell 0
  have e1 := He.out.cell 1
  have el := He.out.lt
  have f0 := Hf.out.cell 0
  have f1 := Hf.out.cell 1
  have fl := Hf.out.lt
  simp only [List.getElem?_cons_zero, List.getElem?_cons_succ] at t0 t1 t2 t3 x0 x1 x2 x3 e0 e1 f0 f1
  clear s_t
  clear s_x
  clear s_e
  have a_f : B0 ≤ gf := by omega
  clear s_0
  go_wp2_with fail
  with_reducible refine (macrosExample_ct w5).mono ?_
  rintro e w6 ⟨rfl, hb⟩
  clear t0 t1 t2 t3 x0 x1 x2 x3 e0 e1 f0 f1 tl xl el fl
  replace Ht := hide (Ht.out.keep hb)
  replace Hx := hide (Hx.out.keep hb)
  replace He := hide (He.out.keep hb)
  replace Hf := hide (Hf.out.keep hb)
  replace HXa := hide (HXa.out.keep hb)
  replace HPR := hide (HPR.out.keep hb)
  replace Hbl := hide (Hbl.out.trans (hb.mono Hbl.out.size))
  clear hb
  have t0 := Ht.out.cell 0
  have t1 := Ht.out.cell 1
  have t2 := Ht.out.cell 2
  have t3 := Ht.out.cell 3
  have tl := Ht.out.lt
  have x0 := Hx.out.cell 0
  have x1 := Hx.out.cell 1
  have x2 := Hx.out.cell 2
  have x3 := Hx.out.cell 3
  have xl := Hx.out.lt
  have e0 := He.out.cell 0
  have e1 := He.out.cell 1
  have el := He.out.lt
  have f0 := Hf.out.cell 0
  have f1 := Hf.out.cell 1
  have fl := Hf.out.lt
  simp only [List.getElem?_cons_zero, List.getElem?_cons_succ] at t0 t1 t2 t3 x0 x1 x2 x3 e0 e1 f0 f1
  go_wp2_with fail
  with_reducible refine (HF.out w6 (H.out.keep Hbl.out) (Hms.out.keep Hbl.out)).mono ?_
  rintro e w7 ⟨hb, y, rfl, hx⟩
  have HYa := hide (hx w7 (Chg.refl _ _))
  clear hx
  clear t0 t1 t2 t3 x0 x1 x2 x3 e0 e1 f0 f1 tl xl el fl
  replace Ht := hide (Ht.out.keep hb)
  replace Hx := hide (Hx.out.keep hb)
  replace He := hide (He.out.keep hb)
  replace Hf := hide (Hf.out.keep hb)
  replace HXa := hide (HXa.out.keep hb)
  replace HPR := hide (HPR.out.keep hb)
  replace Hbl := hide (Hbl.out.trans (hb.mono Hbl.out.size))
  clear hb
  unfold fault taskV
  skip
  have t0 := Ht.out.cell 0
  have t1 := Ht.out.cell 1
  have t2 := Ht.out.cell 2
  have t3 := Ht.out.cell 3
  have tl := Ht.out.lt
  have x0 := Hx.out.cell 0
  have x1 := Hx.out.cell 1
  have x2 := Hx.out.cell 2
  have x3 := Hx.out.cell 3
  have xl := Hx.out.lt
  have e0 := He.out.cell 0
  have e1 := He.out.cell 1
  have el := He.out.lt
  have f0 := Hf.out.cell 0
  have f1 := Hf.out.cell 1
  have fl := Hf.out.lt
  simp only [List.getElem?_cons_zero, List.getElem?_cons_succ] at t0 t1 t2 t3 x0 x1 x2 x3 e0 e1 f0 f1
  obtain ⟨B7, hB7⟩ : ∃ B, B = w7.heap.size := ⟨_, rfl⟩
  have HPF := hide (rdm_old HPR.out)
  rw [← hB7] at HPF
  replace hB7 : B7 ≤ w7.heap.size := by omega
  go_upto_region 6 with (fail)
  have n_t_y : ¬ gT = w7.heap.size := by omega
  have n_y_t : ¬ w7.heap.size = gT := by omega
  have n_t_v : ¬ gT = w7.heap.size + 1 := by omega
  have n_v_t : ¬ w7.heap.size + 1 = gT := by omega
  have n_x_y : ¬ gX = w7.heap.size := by omega
  have n_y_x : ¬ w7.heap.size = gX := by omega
  have n_x_v : ¬ gX = w7.heap.size + 1 := by omega
  have n_v_x : ¬ w7.heap.size + 1 = gX := by omega
  have n_e_y : ¬ gX + 1 = w7.heap.size := by omega
  have n_y_e : ¬ w7.heap.size = gX + 1 := by omega
  have n_e_v : ¬ gX + 1 = w7.heap.size + 1 := by omega
  have n_v_e : ¬ w7.heap.size + 1 = gX + 1 := by omega
  have n_f_y : ¬ gf = w7.heap.size := by omega
  have n_y_f : ¬ w7.heap.size = gf := by omega
  have n_f_v : ¬ gf = w7.heap.size + 1 := by omega
  have n_v_f : ¬ w7.heap.size + 1 = gf := by omega
  have s_t : gT < w7.heap.size := tl
  have s_x : gX < w7.heap.size := xl
  have s_e : gX + 1 < w7.heap.size := el
  have s_f : gf < w7.heap.size := fl
  have s_0 : B0 ≤ w7.heap.size := Nat.le_trans (Nat.le_of_eq HB0.out) Hbl.out.size
  have hyy := Blk.new (w7) 25 [.int .i64 X.facts, .slice y.I y.nI y.cI, .slice y.G y.nG y.cG, .slice y.O y.nO y.cO]
  have hyv := Blk.new ((w7).alloc (.cells #[.int .i64 X.facts, .slice y.I y.nI y.cI, .slice y.G y.nG y.cG, .slice y.O y.nO y.cO] 25)) 29 [.int .i64 0, .int .i64 0]
  replace hyy := hyy.alloc (.cells #[.int .i64 0, .int .i64 0] 29)
  have hbW := below_two w7 (.cells #[.int .i64 X.facts, .slice y.I y.nI y.cI, .slice y.G y.nG y.cG, .slice y.O y.nO y.cO] 25) (.cells #[.int .i64 0, .int .i64 0] 29)
  simp only [World.size_alloc] at hyv
  obtain ⟨w8, hW⟩ : ∃ W, W = ((w7).alloc (.cells #[.int .i64 X.facts, .slice y.I y.nI y.cI, .slice y.G y.nG y.cG, .slice y.O y.nO y.cO] 25)).alloc (.cells #[.int .i64 0, .int .i64 0] 29) := ⟨_, rfl⟩
  rw [← hW] at hyy hyv hbW ⊢
  replace Ht := hide (Ht.out.keep hbW)
  replace Hx := hide (Hx.out.keep hbW)
  replace He := hide (He.out.keep hbW)
  replace Hf := hide (Hf.out.keep hbW)
  replace HXa := hide (HXa.out.keep hbW)
  replace HPR := hide (HPR.out.keep hbW)
  replace HYa := hide (HYa.out.keep hbW)
  replace HPF := hide (HPF.out.keep hbW)
  replace Hbl := hide (Hbl.out.trans (hbW.mono Hbl.out.size))
  have Hy := hide hyy
  have Hv := hide hyv
  clear hW hbW hyy hyv
  generalize w7.heap.size = gY at Hy Hv hB7 n_t_y n_y_t n_t_v n_v_t n_x_y n_y_x n_x_v n_v_x n_e_y n_y_e n_e_v n_v_e n_f_y n_y_f n_f_v n_v_f s_t s_x s_e s_f s_0 ⊢
  have t0 := Ht.out.cell 0
  have t1 := Ht.out.cell 1
  have t2 := Ht.out.cell 2
  have t3 := Ht.out.cell 3
  have tl := Ht.out.lt
  have x0 := Hx.out.cell 0
  have x1 := Hx.out.cell 1
  have x2 := Hx.out.cell 2
  have x3 := Hx.out.cell 3
  have xl := Hx.out.lt
  have e0 := He.out.cell 0
  have e1 := He.out.cell 1
  have el := He.out.lt
  have f0 := Hf.out.cell 0
  have f1 := Hf.out.cell 1
  have fl := Hf.out.lt
  have y0 := Hy.out.cell 0
  have y1 := Hy.out.cell 1
  have y2 := Hy.out.cell 2
  have y3 := Hy.out.cell 3
  have yl := Hy.out.lt
  have v0 := Hv.out.cell 0
  have v1 := Hv.out.cell 1
  have vl := Hv.out.lt
  simp only [List.getElem?_cons_zero, List.getElem?_cons_succ] at t0 t1 t2 t3 x0 x1 x2 x3 e0 e1 f0 f1 y0 y1 y2 y3 v0 v1
  clear s_t
  clear s_x
  clear s_e
  clear s_f
  have a_y : B0 ≤ gY := by omega
  have a_v : B0 ≤ gY + 1 := by omega
  clear s_0
  have n_y_v : ¬ gY = gY + 1 := by omega
  have n_v_y : ¬ gY + 1 = gY := by omega
  have hct := SameTask_ct x y X w8 HXa.out HYa.out
  go_wp2_with fail
  with_reducible refine (hct).mono ?_
  rintro e w9 ⟨rfl, hb⟩
  clear t0 t1 t2 t3 x0 x1 x2 x3 e0 e1 f0 f1 y0 y1 y2 y3 v0 v1 tl xl el fl yl vl
  replace Ht := hide (Ht.out.keep hb)
  replace Hx := hide (Hx.out.keep hb)
  replace He := hide (He.out.keep hb)
  replace Hf := hide (Hf.out.keep hb)
  replace Hy := hide (Hy.out.keep hb)
  replace Hv := hide (Hv.out.keep hb)
  replace HXa := hide (HXa.out.keep hb)
  replace HPR := hide (HPR.out.keep hb)
  replace HYa := hide (HYa.out.keep hb)
  replace HPF := hide (HPF.out.keep hb)
  replace Hbl := hide (Hbl.out.trans (hb.mono Hbl.out.size))
  clear hb
  clear hct
  have t0 := Ht.out.cell 0
  have t1 := Ht.out.cell 1
  have t2 := Ht.out.cell 2
  have t3 := Ht.out.cell 3
  have tl := Ht.out.lt
  have x0 := Hx.out.cell 0
  have x1 := Hx.out.cell 1
  have x2 := Hx.out.cell 2
  have x3 := Hx.out.cell 3
  have xl := Hx.out.lt
  have e0 := He.out.cell 0
  have e1 := He.out.cell 1
  have el := He.out.lt
  have f0 := Hf.out.cell 0
  have f1 := Hf.out.cell 1
  have fl := Hf.out.lt
  have y0 := Hy.out.cell 0
  have y1 := Hy.out.cell 1
  have y2 := Hy.out.cell 2
  have y3 := Hy.out.cell 3
  have yl := Hy.out.lt
  have v0 := Hv.out.cell 0
  have v1 := Hv.out.cell 1
  have vl := Hv.out.lt
  simp only [List.getElem?_cons_zero, List.getElem?_cons_succ] at t0 t1 t2 t3 x0 x1 x2 x3 e0 e1 f0 f1 y0 y1 y2 y3 v0 v1
  have hyo := HYa.out.ops.len
  have hyl := HYa.out.ops.low
  have hct := RSteps_ct y.nO C q r l w9 (Hl.out.keep Hbl.out) hyl
  rw [← hyo, Hsf.out, hyo] at hct
  clear hyo hyl
  go_wp2_with fail
  with_reducible refine (hct).mono ?_
  rintro e w10 ⟨rfl, hb⟩
  clear t0 t1 t2 t3 x0 x1 x2 x3 e0 e1 f0 f1 y0 y1 y2 y3 v0 v1 tl xl el fl yl vl
  replace Ht := hide (Ht.out.keep hb)
  replace Hx := hide (Hx.out.keep hb)
  replace He := hide (He.out.keep hb)
  replace Hf := hide (Hf.out.keep hb)
  replace Hy := hide (Hy.out.keep hb)
  replace Hv := hide (Hv.out.keep hb)
  replace HXa := hide (HXa.out.keep hb)
  replace HPR := hide (HPR.out.keep hb)
  replace HYa := hide (HYa.out.keep hb)
  replace HPF := hide (HPF.out.keep hb)
  replace Hbl := hide (Hbl.out.trans (hb.mono Hbl.out.size))
  clear hb
  clear hct
  unfold fault
  have t0 := Ht.out.cell 0
  have t1 := Ht.out.cell 1
  have t2 := Ht.out.cell 2
  have t3 := Ht.out.cell 3
  have tl := Ht.out.lt
  have x0 := Hx.out.cell 0
  have x1 := Hx.out.cell 1
  have x2 := Hx.out.cell 2
  have x3 := Hx.out.cell 3
  have xl := Hx.out.lt
  have e0 := He.out.cell 0
  have e1 := He.out.cell 1
  have el := He.out.lt
  have f0 := Hf.out.cell 0
  have f1 := Hf.out.cell 1
  have fl := Hf.out.lt
  have y0 := Hy.out.cell 0
  have y1 := Hy.out.cell 1
  have y2 := Hy.out.cell 2
  have y3 := Hy.out.cell 3
  have yl := Hy.out.lt
  have v0 := Hv.out.cell 0
  have v1 := Hv.out.cell 1
  have vl := Hv.out.lt
  simp only [List.getElem?_cons_zero, List.getElem?_cons_succ] at t0 t1 t2 t3 x0 x1 x2 x3 e0 e1 f0 f1 y0 y1 y2 y3 v0 v1
  have vf0 := Hv.out.frozen 0
  have vf1 := Hv.out.frozen 1
  go_upto_region 11 with (fail)
  skip
  clear vf0 vf1
  have hyb := ((Hv.out.set 0 (.int .i64 0)).set 1 (.int .i64 0))
  simp only [List.set_cons_zero, List.set_cons_succ] at hyb
  have hbW := (below_set ((below_set (Below.refl B0 w10) (g := gY + 1) a_v 0 (.int .i64 0))) (g := gY + 1) a_v 1 (.int .i64 0))
  have hcW := ((Chg.refl (fun x => x = gY + 1) w10).trans (Chg.set _ (gY + 1) 0 (.int .i64 0))).trans (Chg.set _ (gY + 1) 1 (.int .i64 0))
  obtain ⟨w11, hW⟩ : ∃ W, W = ((w10).setCell ⟨gY + 1, 0, none⟩ (.int .i64 0)).setCell ⟨gY + 1, 1, none⟩ (.int .i64 0) := ⟨_, rfl⟩
  rw [← hW] at hyb hbW hcW ⊢
  replace Hv := hide hyb
  clear hW hyb
  clear t0 t1 t2 t3 x0 x1 x2 x3 e0 e1 f0 f1 y0 y1 y2 y3 v0 v1 tl xl el fl yl vl
  replace Ht := hide (hcW.blk Ht.out (by exact n_t_v))
  replace Hx := hide (hcW.blk Hx.out (by exact n_x_v))
  replace He := hide (hcW.blk He.out (by exact n_e_v))
  replace Hf := hide (hcW.blk Hf.out (by exact n_f_v))
  replace Hy := hide (hcW.blk Hy.out (by exact n_y_v))
  replace HPF := hide (HPF.out.chg (hcW.mono (fun b e => by omega)))
  replace Hbl := hide (Hbl.out.trans (hbW.mono (Nat.le_of_eq HB0.out.symm)))
  clear hbW hcW
  have t0 := Ht.out.cell 0
  have t1 := Ht.out.cell 1
  have t2 := Ht.out.cell 2
  have t3 := Ht.out.cell 3
  have tl := Ht.out.lt
  have x0 := Hx.out.cell 0
  have x1 := Hx.out.cell 1
  have x2 := Hx.out.cell 2
  have x3 := Hx.out.cell 3
  have xl := Hx.out.lt
  have e0 := He.out.cell 0
  have e1 := He.out.cell 1
  have el := He.out.lt
  have f0 := Hf.out.cell 0
  have f1 := Hf.out.cell 1
  have fl := Hf.out.lt
  have y0 := Hy.out.cell 0
  have y1 := Hy.out.cell 1
  have y2 := Hy.out.cell 2
  have y3 := Hy.out.cell 3
  have yl := Hy.out.lt
  have v0 := Hv.out.cell 0
  have v1 := Hv.out.cell 1
  have vl := Hv.out.lt
  simp only [List.getElem?_cons_zero, List.getElem?_cons_succ] at t0 t1 t2 t3 x0 x1 x2 x3 e0 e1 f0 f1 y0 y1 y2 y3 v0 v1
  go_wp2_with fail
  with_reducible refine (HXP.out w11 (H.out.keep Hbl.out) (Hms.out.keep Hbl.out) (Hl.out.keep Hbl.out)).mono ?_
  rintro e w12 ⟨hb, E, ce, rfl, hown⟩
  clear t0 t1 t2 t3 x0 x1 x2 x3 e0 e1 f0 f1 y0 y1 y2 y3 v0 v1 tl xl el fl yl vl
  replace Ht := hide (Ht.out.keep hb)
  replace Hx := hide (Hx.out.keep hb)
  replace He := hide (He.out.keep hb)
  replace Hf := hide (Hf.out.keep hb)
  replace Hy := hide (Hy.out.keep hb)
  replace Hv := hide (Hv.out.keep hb)
  replace HPF := hide (HPF.out.keep hb)
  replace Hbl := hide (Hbl.out.trans (hb.mono Hbl.out.size))
  clear hb hown
  have t0 := Ht.out.cell 0
  have t1 := Ht.out.cell 1
  have t2 := Ht.out.cell 2
  have t3 := Ht.out.cell 3
  have tl := Ht.out.lt
  have x0 := Hx.out.cell 0
  have x1 := Hx.out.cell 1
  have x2 := Hx.out.cell 2
  have x3 := Hx.out.cell 3
  have xl := Hx.out.lt
  have e0 := He.out.cell 0
  have e1 := He.out.cell 1
  have el := He.out.lt
  have f0 := Hf.out.cell 0
  have f1 := Hf.out.cell 1
  have fl := Hf.out.lt
  have y0 := Hy.out.cell 0
  have y1 := Hy.out.cell 1
  have y2 := Hy.out.cell 2
  have y3 := Hy.out.cell 3
  have yl := Hy.out.lt
  have v0 := Hv.out.cell 0
  have v1 := Hv.out.cell 1
  have vl := Hv.out.lt
  simp only [List.getElem?_cons_zero, List.getElem?_cons_succ] at t0 t1 t2 t3 x0 x1 x2 x3 e0 e1 f0 f1 y0 y1 y2 y3 v0 v1
  have hln60 : ¬ (60 : Int) < ((expandF T.ops.length ms l).length : Int) := by have := Hln.out; omega
  generalize hlq : (expandF T.ops.length ms l).length = ln at hln60 ⊢
  have Hlq := hide hlq
  clear hlq
  go_wp2_with fail
  with_reducible refine (HXP.out w12 (H.out.keep Hbl.out) (Hms.out.keep Hbl.out) (Hl.out.keep Hbl.out)).mono ?_
  rintro e w14 ⟨hb, E2, ce2, rfl, hown⟩
  have hb12 := hb
  clear t0 t1 t2 t3 x0 x1 x2 x3 e0 e1 f0 f1 y0 y1 y2 y3 v0 v1 tl xl el fl yl vl
  replace Ht := hide (Ht.out.keep hb)
  replace Hx := hide (Hx.out.keep hb)
  replace He := hide (He.out.keep hb)
  replace Hf := hide (Hf.out.keep hb)
  replace Hy := hide (Hy.out.keep hb)
  replace Hv := hide (Hv.out.keep hb)
  replace Hbl := hide (Hbl.out.trans (hb.mono Hbl.out.size))
  replace HPF := hide (HPF.out.keep hb12)
  clear hb
  have t0 := Ht.out.cell 0
  have t1 := Ht.out.cell 1
  have t2 := Ht.out.cell 2
  have t3 := Ht.out.cell 3
  have tl := Ht.out.lt
  have x0 := Hx.out.cell 0
  have x1 := Hx.out.cell 1
  have x2 := Hx.out.cell 2
  have x3 := Hx.out.cell 3
  have xl := Hx.out.lt
  have e0 := He.out.cell 0
  have e1 := He.out.cell 1
  have el := He.out.lt
  have f0 := Hf.out.cell 0
  have f1 := Hf.out.cell 1
  have fl := Hf.out.lt
  have y0 := Hy.out.cell 0
  have y1 := Hy.out.cell 1
  have y2 := Hy.out.cell 2
  have y3 := Hy.out.cell 3
  have yl := Hy.out.lt
  have v0 := Hv.out.cell 0
  have v1 := Hv.out.cell 1
  have vl := Hv.out.lt
  simp only [List.getElem?_cons_zero, List.getElem?_cons_succ] at t0 t1 t2 t3 x0 x1 x2 x3 e0 e1 f0 f1 y0 y1 y2 y3 v0 v1
  have hrd2 := own_rd hown rfl (rd_ints HPF.out.rd)
  have Hrd2 := hide hrd2
  clear hown hrd2 hb12
  go_wp2_with fail
  with_reducible refine (Ints_ct _ _ _ _ _ _ _ _ w14 HPF.out.rd Hrd2.out).mono ?_
  rw [show intsB (expandF T.ops.length ms l) (expandF T.ops.length ms l) = true by simp [intsB]]
  rintro e w15 ⟨rfl, hqt⟩
  replace Hbl := hide (Hbl.out.trans (hqt.below _))
  clear hqt
  go_wp2_with fail
  go_ret
  exact ⟨ret_bool (by simp), Hbl.out⟩
theorem extendLaw_ct (T : Tsk) (a : TA) (B : Option Addr) (m d : Nat) (ms : List (List Int)) (C : Option Addr) (q r : Nat) (l : List Int) (w : World) (h : TkR w a T) (hms : Rd (Enc.sl Enc.int) w B m d ms) (hl : Rd Enc.int w C q r l) :
    Calls Try.prog 4 #[.agg #[.int .i64 T.facts, .slice a.I a.nI a.cI, .slice a.G a.nG a.cG, .slice a.O a.nO a.cO], .slice B m d, .slice C q r] w (Gives w (.bool true)) := by
  rcases hex : extendR T ms with ⟨X, ec, ei⟩
  by_cases hec : ec = 0
  · have h2 : (extendR T ms).2.1 = 0 := by rw [hex]; exact hec
    obtain ⟨hz, hlen, h8, h6, h40⟩ := extend_ok h2
    rw [hex] at hz hlen
    obtain ⟨e1, e2⟩ := Prod.mk.inj hz
    subst e1 e2
    simp only at hlen
    rcases hsf : stepsFault X.ops.length l with ⟨pc, pi⟩
    by_cases hpc : pc = 0
    · obtain ⟨hsz, h60, hr⟩ := steps_ok (n := X.ops.length) (l := l) (by rw [hsf]; exact hpc)
      rw [hlen] at hr
      have hq : q ≤ 60 := by rw [← hl.len]; exact h60
      have hr2 : ∀ x ∈ l, 0 ≤ x ∧ x < (T.ops.length : Int) + ms.length := fun x hx => by have := hr x hx; omega
      by_cases hln : 60 < (expandF T.ops.length ms l).length
      · exact extendLawC a T B m d ms C q r l w h hms hl X hex hsz hq hr2 h6 hln (by unfold expandR; rw [hex, if_neg (by simp), if_neg (by simp only; rw [hsz]; simp), if_pos hln])
      · exact extendLawD a T B m d ms C q r l w h hms hl X hex hsz hq hr2 h6 hln (by unfold expandR; rw [hex, if_neg (by simp), if_neg (by simp only; rw [hsz]; simp), if_neg hln])
    · exact extendLawB a T B m d ms C q r l w h hms hl X pc pi hpc hex hsf (by unfold expandR; rw [hex, if_neg (by simp), if_pos (by simp only; rw [hsf]; exact hpc), hsf])
  · have hz := extend_zero (T := T) (ms := ms) (by rw [hex]; exact hec)
    rw [hex] at hz
    simp only at hz
    subst hz
    exact extendLawA a T B m d ms C q r l w h hms hl zeroT ec ei hec hex (by unfold expandR; rw [hex, if_pos hec])
end Go.Proofs.Ytnfeknfakkdbhaa
