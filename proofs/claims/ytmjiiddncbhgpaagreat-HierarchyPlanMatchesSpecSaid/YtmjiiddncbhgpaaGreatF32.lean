/- The law HierarchyPlanMatchesSpec of the package hierarchy holds, without a condition., part 32: Rh1. -/
import Derived.Test.YtmjiiddncbhgpaaGreatF1
import Derived.Test.YtmjiiddncbhgpaaGreatF2
import Derived.Test.YtmjiiddncbhgpaaGreatF3
import Derived.Test.YtmjiiddncbhgpaaGreatF13
import Derived.Test.YtmjiiddncbhgpaaGreatF14
import Derived.Test.YtmjiiddncbhgpaaGreatF15
import Derived.Test.YtmjiiddncbhgpaaGreatF16
import Derived.BigQuiet
import Derived.Deep.AppendLies
import Derived.Deep.DeepCutAuto
import Derived.Deep.Draws
import Derived.Deep.Fields
import Derived.Deep.LoopGhost
import Derived.Deep.QuietTactic
import Derived.Deep.RegionHeld3
import Derived.Deep.Slices
import Derived.Ground.Names2Prog
import Derived.Ground.SlgnProg
import Derived.Ground.SlsfProg
import Derived.IntWalk
import Derived.Laws.AppendOwnNone
import Derived.Laws.OwnMore
import Derived.Lib.Hide
import Derived.Lib.SlicesCompact
import Derived.Maps.AppendAt
import Derived.Shelf.Slices.Cells
import Derived.Shelf.Slices.Clone
import Derived.Shelf.Slices.CompactI
import Derived.Shelf.Slices.Empties
import Derived.Shelf.Slices.In.SortNone
import Derived.Shelf.Slices.SearchI
import Derived.Shelf.Sort.Plain
import Derived.Sort.OwnSortedInts
import Derived.Test.YtmjiiddncbhgpaaGreatProg
import Derived.WalkKit
namespace Go.Proofs.YtmjiiddncbhgpaaGreat
set_option linter.unusedVariables false
set_option linter.unusedSimpArgs false
open Go.RowKit
theorem inB_outH {K : Int} {n : Nat} {x : Int} : inB x (-K) ((n : Int) - 1) = !outH K n x := by
  unfold inB outH
  rw [Bool.eq_iff_iff]
  simp only [Bool.and_eq_true, decide_eq_true_eq, Bool.not_eq_true', Bool.or_eq_false_iff, decide_eq_false_iff_not]
  omega
set_option maxRecDepth 100000 in
set_option maxHeartbeats 1600000 in
theorem stepsCode_ct (b : HA) (h : Hy) (A : Option Addr) (n c : Nat) (l : List Int) (w : World) (hh : HyR w b h) (hK : 0 ≤ h.tasks ∧ h.tasks ≤ 16) (hl : Rd Enc.int w A n c l) :
    Calls Tryz.prog 68 #[.agg #[.int .i64 h.T.facts, .slice b.a.I b.a.nI b.a.cI, .slice b.a.G b.a.nG b.a.cG, .slice b.a.O b.a.nO b.a.cO, .int .i64 h.tasks, .slice b.M b.nM b.cM, .slice b.L b.nL b.cL], .slice A n c] w (Gives w (.int .i64 (listCode h.tasks h.T.ops.length l))) := by
  have hol := hh.task.ops.len
  have hon := hh.task.ops.low
  obtain ⟨⟨I, nI, cI, G, nG, cG, O, nO, cO⟩, M, nM, cM, L, nL, cL⟩ := b
  simp only at hol hon ⊢
  rw [hol]
  obtain ⟨T, K, ms, li⟩ := h
  simp only at hK hol ⊢
  have hlow := hl.low
  have hll := hl.len
  obtain ⟨R, hR⟩ : ∃ R, R = listCode K nO l := ⟨_, rfl⟩
  rw [← hR]
  unfold listCode at hR
  have HR := hide hR
  have Hl := hide hl
  have HLL := hide hll
  clear hh hl hR hol hll
  have Hbl := hide (Below.refl w.heap.size w)
  go_enter Tryz.func68, Tryz.ntmps68
  go_upto_region 1 with (fail)
  obtain ⟨B0, hB0⟩ : ∃ B0, B0 = w.heap.size := ⟨_, rfl⟩
  have HB0 := hide hB0
  clear hB0
  have s_0 : B0 ≤ w.heap.size := Nat.le_trans (Nat.le_of_eq HB0.out) Hbl.out.size
  have hyh_ := Blk.new (w) 50 [.int .i64 T.facts, .slice I nI cI, .slice G nG cG, .slice O nO cO, .int .i64 K, .slice M nM cM, .slice L nL cL]
  have hbW : Below (w).heap.size (w) ((w).alloc (.cells #[.int .i64 T.facts, .slice I nI cI, .slice G nG cG, .slice O nO cO, .int .i64 K, .slice M nM cM, .slice L nL cL] 50)) := (Below.refl _ _).alloc (Nat.le_refl _) _
  obtain ⟨w0, hW⟩ : ∃ W, W = (w).alloc (.cells #[.int .i64 T.facts, .slice I nI cI, .slice G nG cG, .slice O nO cO, .int .i64 K, .slice M nM cM, .slice L nL cL] 50) := ⟨_, rfl⟩
  rw [← hW] at hyh_ hbW ⊢
  replace Hbl := hide (Hbl.out.trans (hbW.mono Hbl.out.size))
  have Hh_ := hide hyh_
  clear hW hbW hyh_
  generalize w.heap.size = gh at Hh_ s_0 ⊢
  have h_0 := Hh_.out.cell 0
  have h_1 := Hh_.out.cell 1
  have h_2 := Hh_.out.cell 2
  have h_3 := Hh_.out.cell 3
  have h_4 := Hh_.out.cell 4
  have h_5 := Hh_.out.cell 5
  have h_6 := Hh_.out.cell 6
  have h_l := Hh_.out.lt
  simp only [List.getElem?_cons_zero, List.getElem?_cons_succ] at h_0 h_1 h_2 h_3 h_4 h_5 h_6
  have a_h_ : B0 ≤ gh := by omega
  clear s_0
  by_cases h4 : 4 < n
  · have h4i : (4 : Int) < (n : Int) := by omega
    go_wp2_with fail
    go_ret
    exact ⟨ret_int (by rw [HR.out, if_pos (by rw [HLL.out]; exact h4)]), Hbl.out⟩
  have h4i : ¬ (4 : Int) < (n : Int) := by omega
  have hR2 := HR.out
  rw [if_neg (by rw [HLL.out]; exact h4)] at hR2
  replace HR := hide hR2
  clear hR2
  go_wp2_with fail
  go_loopw [5] (fun i wr => ∃ k : Nat, k ≤ n ∧ i = .int .i64 k ∧ Qt w0 wr ∧ (l.take k).any (outH K nO) = false) (fun i _ => n - (intOf i).toNat)
  case atStart => exact ⟨0, by omega, rfl, Qt.refl _, by simp⟩
  case round =>
    obtain ⟨k, hk, rfl, hq, hset⟩ := hrel
    have Hset := hide hset
    have Hq := hide (show Qt w0 wr from hq)
    have Hlr := (Hl.out.keep Hbl.out).qt hq
    have hb := hq.below w0.heap.size
    clear hset hq h_0 h_1 h_2 h_3 h_4 h_5 h_6 h_l
    replace Hh_ := hide (Hh_.out.keep hb)
    clear hb
    have h_0 := Hh_.out.cell 0
    have h_3 := Hh_.out.cell 3
    have h_4 := Hh_.out.cell 4
    simp only [List.getElem?_cons_zero, List.getElem?_cons_succ] at h_0 h_3 h_4
    by_cases hlt : k < n
    · obtain ⟨b, off, x, rfl, hx, hx1, hx2, hcx⟩ := Hlr.int hlt
      have hw1 : IntKind.i64.wrap (-K) = -K := IntWalk.i64_in _ (by omega)
      have hw2 : IntKind.i64.wrap ((nO : Int) - 1) = (nO : Int) - 1 := IntWalk.i64_in _ (by omega)
      have hc : ∀ W, Calls Tryz.prog 24 #[.int .i64 x, .int .i64 (-K), .int .i64 ((nO : Int) - 1)] W (Same W (.bool (!outH K nO x))) := by
        intro W
        have := In_ct x (-K) ((nO : Int) - 1) W
        rwa [inB_outH] at this
      have Hx := hide hx
      clear Hlr
      rcases eo : outH K nO x with _ | _
      · rw [eo] at hc
        have Hc := hide hc
        have Heo := hide eo
        clear hc hx eo
        go_wp2
        go_quiet ((go_at_call 24; exact same_call (Hc.out _)))
        go_wp2
        go_roundw
        case rel => exact ⟨k + 1, by omega, by go_num, Hq.out.drewN _, anyF_succ Hset.out Hx.out Heo.out⟩
        case measure => simp [intOf]; omega
      · rw [eo] at hc
        have Hc := hide hc
        have hres := HR.out
        rw [if_pos (List.any_eq_true.2 ⟨x, List.mem_of_getElem? Hx.out, eo⟩)] at hres
        have Hr := hide hres
        clear hc hx eo hres
        go_wp2
        go_quiet ((go_at_call 24; exact same_call (Hc.out _)))
        go_wp2
        go_ret
        exact ⟨ret_int (by rw [Hr.out]), Hbl.out.trans (((Hq.out.drewN _).below _))⟩
    · obtain rfl : k = n := by omega
      have hres := HR.out
      have hs := Hset.out
      rw [List.take_of_length_le (by rw [HLL.out]; omega)] at hs
      rw [hs, if_neg (by simp)] at hres
      have Hr := hide hres
      clear hres hs
      go_wp2
      go_ret
      exact ⟨ret_int (by rw [Hr.out]), Hbl.out.trans (Hq.out.below _)⟩
set_option maxRecDepth 100000 in
set_option maxHeartbeats 6400000 in
theorem RHierFault_ct (b : HA) (h : Hy) (w : World) (hh : HyR w b h) :
    Calls Tryz.prog 23 #[.agg #[.int .i64 h.T.facts, .slice b.a.I b.a.nI b.a.cI, .slice b.a.G b.a.nG b.a.cG, .slice b.a.O b.a.nO b.a.cO, .int .i64 h.tasks, .slice b.M b.nM b.cM, .slice b.L b.nL b.cL]] w (Gives w (fault (hierFault h).1 (hierFault h).2)) := by
  have hval := fun W hW => RTaskFault_ct b.a h.T W hW
  have hli := fun A n c l W hW hK hl => stepsCode_ct b h A n c l W hW hK hl
  obtain ⟨⟨I, nI, cI, G, nG, cG, O, nO, cO⟩, M, nM, cM, L, nL, cL⟩ := b
  simp only at hval hli ⊢
  have hml := hh.ms.len
  have hmn := hh.ms.low
  obtain ⟨T, K, ms, li⟩ := h
  simp only at hval hli hml hmn ⊢
  obtain ⟨R, hR⟩ : ∃ R, R = hierFault ⟨T, K, ms, li⟩ := ⟨_, rfl⟩
  rw [← hR]
  unfold hierFault at hR
  simp only at hR
  rcases hq : taskFault T with ⟨ec, ei⟩
  rw [hq] at hval hR
  simp only at hval hR
  obtain ⟨hK1, hK2⟩ := hh.tasks
  simp only at hK1 hK2
  have HH := hide hh
  have HR := hide hR
  have Hval := hide hval
  have Hli := hide hli
  have Hq := hide hq
  have At1 := hide (fun c i W => At_ct c i W)
  have In1 := hide (fun x lo hi W => In_ct x lo hi W)
  clear hh hR hval hli hq
  have Hbl := hide (Below.refl w.heap.size w)
  go_enter Tryz.func23, Tryz.ntmps23
  go_upto_region 1 with (fail)
  obtain ⟨B0, hB0⟩ : ∃ B0, B0 = w.heap.size := ⟨_, rfl⟩
  have HB0 := hide hB0
  clear hB0
  have s_0 : B0 ≤ w.heap.size := Nat.le_trans (Nat.le_of_eq HB0.out) Hbl.out.size
  have hyh_ := Blk.new (w) 50 [.int .i64 T.facts, .slice I nI cI, .slice G nG cG, .slice O nO cO, .int .i64 K, .slice M nM cM, .slice L nL cL]
  have hyf := Blk.new ((w).alloc (.cells #[.int .i64 T.facts, .slice I nI cI, .slice G nG cG, .slice O nO cO, .int .i64 K, .slice M nM cM, .slice L nL cL] 50)) 29 [.int .i64 0, .int .i64 0]
  replace hyh_ := hyh_.alloc (.cells #[.int .i64 0, .int .i64 0] 29)
  have hbW := below_two w (.cells #[.int .i64 T.facts, .slice I nI cI, .slice G nG cG, .slice O nO cO, .int .i64 K, .slice M nM cM, .slice L nL cL] 50) (.cells #[.int .i64 0, .int .i64 0] 29)
  simp only [World.size_alloc] at hyf
  obtain ⟨w0, hW⟩ : ∃ W, W = ((w).alloc (.cells #[.int .i64 T.facts, .slice I nI cI, .slice G nG cG, .slice O nO cO, .int .i64 K, .slice M nM cM, .slice L nL cL] 50)).alloc (.cells #[.int .i64 0, .int .i64 0] 29) := ⟨_, rfl⟩
  rw [← hW] at hyh_ hyf hbW ⊢
  replace Hbl := hide (Hbl.out.trans (hbW.mono Hbl.out.size))
  have Hh_ := hide hyh_
  have Hf := hide hyf
  clear hW hbW hyh_ hyf
  generalize w.heap.size = gh at Hh_ Hf s_0 ⊢
  have h_0 := Hh_.out.cell 0
  have h_1 := Hh_.out.cell 1
  have h_2 := Hh_.out.cell 2
  have h_3 := Hh_.out.cell 3
  have h_4 := Hh_.out.cell 4
  have h_5 := Hh_.out.cell 5
  have h_6 := Hh_.out.cell 6
  have h_l := Hh_.out.lt
  have f0 := Hf.out.cell 0
  have f1 := Hf.out.cell 1
  have fl := Hf.out.lt
  simp only [List.getElem?_cons_zero, List.getElem?_cons_succ] at h_0 h_1 h_2 h_3 h_4 h_5 h_6 f0 f1
  have a_h_ : B0 ≤ gh := by omega
  have a_f : B0 ≤ gh + 1 := by omega
  clear s_0
  have n_h__f : ¬ gh = gh + 1 := by omega
  have n_f_h_ : ¬ gh + 1 = gh := by omega
  go_wp2_with fail
  with_reducible refine (Hval.out w0 (HH.out.keep Hbl.out).task).mono ?_
  rintro e w1 ⟨rfl, hb⟩
  clear h_0 h_1 h_2 h_3 h_4 h_5 h_6 f0 f1 h_l fl
  replace Hh_ := hide (Hh_.out.keep hb)
  replace Hf := hide (Hf.out.keep hb)
  replace Hbl := hide (Hbl.out.trans (hb.mono Hbl.out.size))
  clear hb
  have h_0 := Hh_.out.cell 0
  have h_1 := Hh_.out.cell 1
  have h_2 := Hh_.out.cell 2
  have h_3 := Hh_.out.cell 3
  have h_4 := Hh_.out.cell 4
  have h_5 := Hh_.out.cell 5
  have h_6 := Hh_.out.cell 6
  have h_l := Hh_.out.lt
  have f0 := Hf.out.cell 0
  have f1 := Hf.out.cell 1
  have fl := Hf.out.lt
  simp only [List.getElem?_cons_zero, List.getElem?_cons_succ] at h_0 h_1 h_2 h_3 h_4 h_5 h_6 f0 f1
  unfold fault
  go_upto_region 2 with (fail)
  have n_h__p : ¬ gh = w1.heap.size := by omega
  have n_p_h_ : ¬ w1.heap.size = gh := by omega
  have n_f_p : ¬ gh + 1 = w1.heap.size := by omega
  have n_p_f : ¬ w1.heap.size = gh + 1 := by omega
  have s_h_ : gh < w1.heap.size := h_l
  have s_f : gh + 1 < w1.heap.size := fl
  have s_0 : B0 ≤ w1.heap.size := Nat.le_trans (Nat.le_of_eq HB0.out) Hbl.out.size
  have hyp := Blk.new (w1) 29 [.int .i64 ec, .int .i64 ei]
  have hbW : Below (w1).heap.size (w1) ((w1).alloc (.cells #[.int .i64 ec, .int .i64 ei] 29)) := (Below.refl _ _).alloc (Nat.le_refl _) _
  obtain ⟨w2, hW⟩ : ∃ W, W = (w1).alloc (.cells #[.int .i64 ec, .int .i64 ei] 29) := ⟨_, rfl⟩
  rw [← hW] at hyp hbW ⊢
  replace Hh_ := hide (Hh_.out.keep hbW)
  replace Hf := hide (Hf.out.keep hbW)
  replace Hbl := hide (Hbl.out.trans (hbW.mono Hbl.out.size))
  have Hp := hide hyp
  clear hW hbW hyp
  generalize w1.heap.size = gp at Hp n_h__p n_p_h_ n_f_p n_p_f s_h_ s_f s_0 ⊢
  have h_0 := Hh_.out.cell 0
  have h_1 := Hh_.out.cell 1
  have h_2 := Hh_.out.cell 2
  have h_3 := Hh_.out.cell 3
  have h_4 := Hh_.out.cell 4
  have h_5 := Hh_.out.cell 5
  have h_6 := Hh_.out.cell 6
  have h_l := Hh_.out.lt
  have f0 := Hf.out.cell 0
  have f1 := Hf.out.cell 1
  have fl := Hf.out.lt
  have p0 := Hp.out.cell 0
  have p1 := Hp.out.cell 1
  have pl := Hp.out.lt
  simp only [List.getElem?_cons_zero, List.getElem?_cons_succ] at h_0 h_1 h_2 h_3 h_4 h_5 h_6 f0 f1 p0 p1
  clear s_h_
  clear s_f
  have a_p : B0 ≤ gp := by omega
  clear s_0
  by_cases hec : ec = 0
  rotate_left
  · have hne : (ec != 0) = true := by simpa using hec
    have ff0 := Hf.out.frozen 0
    have ff1 := Hf.out.frozen 1
    go_wp2_with fail
    refine bodyPost_ret (v := fault ec ei) (by simp [results, Tryz.results23, go_sem, fault, f0, f1, fl]) rfl ?_
    have hbx := HB0.out
    refine ⟨by rw [HR.out]; rw [if_pos hec], ?_⟩
    repeat' (first | (with_reducible exact Hbl.out) | (with_reducible refine Below.drew ?_) | (with_reducible refine below_setH ?_ ?_ _ _) | omega)
  subst hec
  have hz := taskFault_zero (T := T) (by rw [Hq.out])
  rw [Hq.out] at hz
  obtain ⟨_, e2⟩ := Prod.mk.inj hz
  subst e2
  clear hz
  obtain ⟨NT, hok⟩ := taskFault_ok (T := T) (by rw [Hq.out])
  have hfb : 0 ≤ T.facts ∧ T.facts ≤ 24 := by have hfN := hok.facts; have hfl := hok.low; omega
  obtain ⟨hfb1, hfb2⟩ := hfb
  clear hok
  have hR2 := HR.out
  rw [if_neg (by simp)] at hR2
  replace HR := hide hR2
  have hct := In1.out K 0 16 w2
  rcases e0 : inB K 0 16 with _ | _
  · have k1 := inB_no.1 e0
    rw [e0] at hct
    clear e0 hR2
    go_wp2_with fail
    with_reducible refine hct.mono ?_
    rintro e w3 ⟨rfl, rfl⟩
    clear hct
    go_wp2_with fail
    with_reducible refine (At1.out 3 (-10) _).mono ?_
    rintro e w4 ⟨rfl, hb⟩
    clear h_0 h_1 h_2 h_3 h_4 h_5 h_6 f0 f1 p0 p1 h_l fl pl
    replace Hh_ := hide (Hh_.out.keep hb)
    replace Hf := hide (Hf.out.keep hb)
    replace Hp := hide (Hp.out.keep hb)
    replace Hbl := hide (Hbl.out.trans (hb.mono Hbl.out.size))
    clear hb
    unfold fault
    have h_0 := Hh_.out.cell 0
    have h_1 := Hh_.out.cell 1
    have h_2 := Hh_.out.cell 2
    have h_3 := Hh_.out.cell 3
    have h_4 := Hh_.out.cell 4
    have h_5 := Hh_.out.cell 5
    have h_6 := Hh_.out.cell 6
    have h_l := Hh_.out.lt
    have f0 := Hf.out.cell 0
    have f1 := Hf.out.cell 1
    have fl := Hf.out.lt
    have p0 := Hp.out.cell 0
    have p1 := Hp.out.cell 1
    have pl := Hp.out.lt
    simp only [List.getElem?_cons_zero, List.getElem?_cons_succ] at h_0 h_1 h_2 h_3 h_4 h_5 h_6 f0 f1 p0 p1
    have ff0 := Hf.out.frozen 0
    have ff1 := Hf.out.frozen 1
    go_wp2_with fail
    refine bodyPost_ret (v := fault 3 (-10)) (by simp [results, Tryz.results23, go_sem, fault, f0, f1, fl]) rfl ?_
    have hbx := HB0.out
    refine ⟨by rw [HR.out]; rw [if_pos (by omega)], ?_⟩
    repeat' (first | (with_reducible exact Hbl.out) | (with_reducible refine Below.drew ?_) | (with_reducible refine below_setH ?_ ?_ _ _) | omega)
  rw [e0] at hct
  have hK0 := inB_iff.1 e0
  obtain ⟨k1, k2⟩ := hK0
  rw [if_neg (by omega)] at hR2
  replace HR := hide hR2
  clear e0 hR2
  go_wp2_with fail
  with_reducible refine hct.mono ?_
  rintro e w3 ⟨rfl, rfl⟩
  clear hct
  by_cases m1 : 16 < nM
  · have m1i : (16 : Int) < (nM : Int) := by omega
    go_wp2_with fail
    with_reducible refine (At1.out 2 (-10) _).mono ?_
    rintro e w4 ⟨rfl, hb⟩
    clear h_0 h_1 h_2 h_3 h_4 h_5 h_6 f0 f1 p0 p1 h_l fl pl
    replace Hh_ := hide (Hh_.out.keep hb)
    replace Hf := hide (Hf.out.keep hb)
    replace Hp := hide (Hp.out.keep hb)
    replace Hbl := hide (Hbl.out.trans (hb.mono Hbl.out.size))
    clear hb
    unfold fault
    have h_0 := Hh_.out.cell 0
    have h_1 := Hh_.out.cell 1
    have h_2 := Hh_.out.cell 2
    have h_3 := Hh_.out.cell 3
    have h_4 := Hh_.out.cell 4
    have h_5 := Hh_.out.cell 5
    have h_6 := Hh_.out.cell 6
    have h_l := Hh_.out.lt
    have f0 := Hf.out.cell 0
    have f1 := Hf.out.cell 1
    have fl := Hf.out.lt
    have p0 := Hp.out.cell 0
    have p1 := Hp.out.cell 1
    have pl := Hp.out.lt
    simp only [List.getElem?_cons_zero, List.getElem?_cons_succ] at h_0 h_1 h_2 h_3 h_4 h_5 h_6 f0 f1 p0 p1
    have ff0 := Hf.out.frozen 0
    have ff1 := Hf.out.frozen 1
    go_wp2_with fail
    refine bodyPost_ret (v := fault 2 (-10)) (by simp [results, Tryz.results23, go_sem, fault, f0, f1, fl]) rfl ?_
    have hbx := HB0.out
    refine ⟨by rw [HR.out]; rw [if_pos (by rw [hml]; exact m1)], ?_⟩
    repeat' (first | (with_reducible exact Hbl.out) | (with_reducible refine Below.drew ?_) | (with_reducible refine below_setH ?_ ?_ _ _) | omega)
  have m1i : ¬ (16 : Int) < (nM : Int) := by omega
  have hR2 := HR.out
  rw [if_neg (by rw [hml]; exact m1)] at hR2
  obtain ⟨R2, hR3⟩ : ∃ z, z = mesFault T.facts K T.ops.length 0 ms := ⟨_, rfl⟩
  rw [← hR3] at hR2
  replace HR := hide hR2
  have HR2 := hide (show R2 = mesFault T.facts K T.ops.length 0 (ms.drop 0) by simpa using hR3)
  clear hR2 hR3
  go_wp2_with fail
  have hbx2 := hide Hbl.out.size
  have Kh_ := Hh_
  have Kf := Hf
  have Kp := Hp
  have Kbl := Hbl
  clear h_0 h_1 h_2 h_3 h_4 h_5 h_6 f0 f1 p0 p1 h_l fl pl
  go_loopw [4] (fun i wr => ∃ k : Nat, k ≤ nM ∧ i = .int .i64 k ∧ Below w2.heap.size w2 wr ∧ R2 = mesFault T.facts K T.ops.length k (ms.drop k)) (fun i _ => nM - (intOf i).toNat)
  case atStart => exact ⟨0, by omega, rfl, Below.refl _ _, HR2.out⟩
  case round =>
    obtain ⟨k, hk, rfl, hb, hrk⟩ := hrel
    replace HR2 := hide hrk
    have Hb2 := hide hb
    replace Hbl := hide (Kbl.out.trans (hb.mono Kbl.out.size))
    clear hrk hb
    replace Hh_ := hide (Kh_.out.keep Hb2.out)
    replace Hf := hide (Kf.out.keep Hb2.out)
    replace Hp := hide (Kp.out.keep Hb2.out)
    have h_0 := Hh_.out.cell 0
    have h_1 := Hh_.out.cell 1
    have h_2 := Hh_.out.cell 2
    have h_3 := Hh_.out.cell 3
    have h_4 := Hh_.out.cell 4
    have h_5 := Hh_.out.cell 5
    have h_6 := Hh_.out.cell 6
    have h_l := Hh_.out.lt
    have f0 := Hf.out.cell 0
    have f1 := Hf.out.cell 1
    have fl := Hf.out.lt
    have p0 := Hp.out.cell 0
    have p1 := Hp.out.cell 1
    have pl := Hp.out.lt
    simp only [List.getElem?_cons_zero, List.getElem?_cons_succ] at h_0 h_1 h_2 h_3 h_4 h_5 h_6 f0 f1 p0 p1
    by_cases hlt : k < nM
    rotate_left
    · obtain rfl : k = nM := by omega
      have hR2 := HR.out
      rw [HR2.out, mesFault_end (by rw [hml]; exact Nat.le_refl _), if_neg (by simp)] at hR2
      replace HR := hide hR2
      obtain ⟨v, hv⟩ : ∃ z, z = listCode K T.ops.length li := ⟨_, rfl⟩
      rw [← hv] at hR2
      replace HR := hide hR2
      have hli := Hli.out L nL cL li wr (HH.out.keep Hbl.out) ⟨by omega, by omega⟩ (HH.out.keep Hbl.out).list
      rw [← hv] at hli
      have Hli2 := hide hli
      clear hR2 hli hv
      go_wp2_with fail
      with_reducible refine (Hli2.out).mono ?_
      rintro e w5 ⟨rfl, hb⟩
      clear h_0 h_1 h_2 h_3 h_4 h_5 h_6 f0 f1 p0 p1 h_l fl pl
      replace Hh_ := hide (Hh_.out.keep hb)
      replace Hf := hide (Hf.out.keep hb)
      replace Hp := hide (Hp.out.keep hb)
      replace Hbl := hide (Hbl.out.trans (hb.mono Hbl.out.size))
      clear hb
      have h_0 := Hh_.out.cell 0
      have h_1 := Hh_.out.cell 1
      have h_2 := Hh_.out.cell 2
      have h_3 := Hh_.out.cell 3
      have h_4 := Hh_.out.cell 4
      have h_5 := Hh_.out.cell 5
      have h_6 := Hh_.out.cell 6
      have h_l := Hh_.out.lt
      have f0 := Hf.out.cell 0
      have f1 := Hf.out.cell 1
      have fl := Hf.out.lt
      have p0 := Hp.out.cell 0
      have p1 := Hp.out.cell 1
      have pl := Hp.out.lt
      simp only [List.getElem?_cons_zero, List.getElem?_cons_succ] at h_0 h_1 h_2 h_3 h_4 h_5 h_6 f0 f1 p0 p1
      by_cases hv0 : v = 0
      · subst hv0
        have hR2 := HR.out
        rw [if_neg (by simp)] at hR2
        replace HR := hide hR2
        clear hR2
        have ff0 := Hf.out.frozen 0
        have ff1 := Hf.out.frozen 1
        go_wp2_with fail
        refine bodyPost_ret (v := fault 0 0) (by simp [results, Tryz.results23, go_sem, fault, f0, f1, fl]) rfl ?_
        have hbx := HB0.out
        refine ⟨by rw [HR.out], ?_⟩
        repeat' (first | (with_reducible exact Hbl.out) | (with_reducible refine Below.drew ?_) | (with_reducible refine below_setH ?_ ?_ _ _) | omega)
      have hvn : (v != 0) = true := by simpa using hv0
      go_wp2_with fail
      with_reducible refine (At1.out v (-11) _).mono ?_
      rintro e w6 ⟨rfl, hb⟩
      clear h_0 h_1 h_2 h_3 h_4 h_5 h_6 f0 f1 p0 p1 h_l fl pl
      replace Hh_ := hide (Hh_.out.keep hb)
      replace Hf := hide (Hf.out.keep hb)
      replace Hp := hide (Hp.out.keep hb)
      replace Hbl := hide (Hbl.out.trans (hb.mono Hbl.out.size))
      clear hb
      unfold fault
      have h_0 := Hh_.out.cell 0
      have h_1 := Hh_.out.cell 1
      have h_2 := Hh_.out.cell 2
      have h_3 := Hh_.out.cell 3
      have h_4 := Hh_.out.cell 4
      have h_5 := Hh_.out.cell 5
      have h_6 := Hh_.out.cell 6
      have h_l := Hh_.out.lt
      have f0 := Hf.out.cell 0
      have f1 := Hf.out.cell 1
      have fl := Hf.out.lt
      have p0 := Hp.out.cell 0
      have p1 := Hp.out.cell 1
      have pl := Hp.out.lt
      simp only [List.getElem?_cons_zero, List.getElem?_cons_succ] at h_0 h_1 h_2 h_3 h_4 h_5 h_6 f0 f1 p0 p1
      have ff0 := Hf.out.frozen 0
      have ff1 := Hf.out.frozen 1
      go_wp2_with fail
      refine bodyPost_ret (v := fault v (-11)) (by simp [results, Tryz.results23, go_sem, fault, f0, f1, fl]) rfl ?_
      have hbx := HB0.out
      refine ⟨by rw [HR.out]; rw [if_pos hv0], ?_⟩
      repeat' (first | (with_reducible exact Hbl.out) | (with_reducible refine Below.drew ?_) | (with_reducible refine below_setH ?_ ?_ _ _) | omega)
    obtain ⟨b, off, m, A1, n1, c1, A2, n2, c2, rfl, hx, y0, y1, y2, mt, r1, r2⟩ := HH.out.ms.me hlt
    have g0 := cellOf_lowH Hbl.out y0
    have g1 := cellOf_lowH Hbl.out y1
    have g2 := cellOf_lowH Hbl.out y2
    have hki : (k : Int) < (nM : Int) := by omega
    have hR3 := HR2.out
    rw [mesFault_at hx] at hR3
    replace HR2 := hide hR3
    obtain ⟨v, hv⟩ : ∃ z, z = meCode T.facts K T.ops.length m := ⟨_, rfl⟩
    rw [← hv] at hR3
    replace HR2 := hide hR3
    have HV := hide hv
    have R1 := hide r1
    have R2' := hide r2
    obtain ⟨mt1, mt2⟩ := mt
    have hw20 : IntKind.i64.wrap (-20 - (k : Int)) = -20 - (k : Int) := IntWalk.i64_in _ (by omega)
    have hwK : IntKind.i64.wrap (K - 1) = K - 1 := IntWalk.i64_in _ (by omega)
    clear hR3 hx r1 r2 hv y0 y1 y2
    go_upto_region 12 with (fail)
    have n_h__m_ : ¬ gh = wr.heap.size := by omega
    have n_m__h_ : ¬ wr.heap.size = gh := by omega
    have n_f_m_ : ¬ gh + 1 = wr.heap.size := by omega
    have n_m__f : ¬ wr.heap.size = gh + 1 := by omega
    have n_p_m_ : ¬ gp = wr.heap.size := by omega
    have n_m__p : ¬ wr.heap.size = gp := by omega
    have s_h_ : gh < wr.heap.size := h_l
    have s_f : gh + 1 < wr.heap.size := fl
    have s_p : gp < wr.heap.size := pl
    have s_0 : B0 ≤ wr.heap.size := Nat.le_trans (Nat.le_of_eq HB0.out) Hbl.out.size
    have hym_ := Blk.new (wr) 116 [.int .i64 m.task, .slice A1 n1 c1, .slice A2 n2 c2]
    have hbW : Below (wr).heap.size (wr) ((wr).alloc (.cells #[.int .i64 m.task, .slice A1 n1 c1, .slice A2 n2 c2] 116)) := (Below.refl _ _).alloc (Nat.le_refl _) _
    obtain ⟨w3, hW⟩ : ∃ W, W = (wr).alloc (.cells #[.int .i64 m.task, .slice A1 n1 c1, .slice A2 n2 c2] 116) := ⟨_, rfl⟩
    rw [← hW] at hym_ hbW ⊢
    replace Hh_ := hide (Hh_.out.keep hbW)
    replace Hf := hide (Hf.out.keep hbW)
    replace Hp := hide (Hp.out.keep hbW)
    replace Hbl := hide (Hbl.out.trans (hbW.mono Hbl.out.size))
    replace Hb2 := hide (Hb2.out.trans (hbW.mono Hb2.out.size))
    have Hm_ := hide hym_
    clear hW hbW hym_
    generalize wr.heap.size = gm at Hm_ n_h__m_ n_m__h_ n_f_m_ n_m__f n_p_m_ n_m__p s_h_ s_f s_p s_0 ⊢
    have h_0 := Hh_.out.cell 0
    have h_1 := Hh_.out.cell 1
    have h_2 := Hh_.out.cell 2
    have h_3 := Hh_.out.cell 3
    have h_4 := Hh_.out.cell 4
    have h_5 := Hh_.out.cell 5
    have h_6 := Hh_.out.cell 6
    have h_l := Hh_.out.lt
    have f0 := Hf.out.cell 0
    have f1 := Hf.out.cell 1
    have fl := Hf.out.lt
    have p0 := Hp.out.cell 0
    have p1 := Hp.out.cell 1
    have pl := Hp.out.lt
    have m_0 := Hm_.out.cell 0
    have m_1 := Hm_.out.cell 1
    have m_2 := Hm_.out.cell 2
    have m_l := Hm_.out.lt
    simp only [List.getElem?_cons_zero, List.getElem?_cons_succ] at h_0 h_1 h_2 h_3 h_4 h_5 h_6 f0 f1 p0 p1 m_0 m_1 m_2
    clear s_h_
    clear s_f
    clear s_p
    have a_m_ : B0 ≤ gm := by omega
    clear s_0
    have hct := In1.out m.task 0 (K - 1) w3
    rcases e0 : inB m.task 0 (K - 1) with _ | _
    · have t1 := inB_no.1 e0
      rw [e0] at hct
      have hvv : v = 3 := by rw [HV.out]; unfold meCode; rw [if_pos (by omega)]
      clear e0
      have hR2 := HR.out
      have hv0 : ¬ v = 0 := by omega
      rw [HR2.out, if_neg hv0, if_pos hv0, hvv] at hR2
      clear hv0
      replace HR := hide hR2
      clear hR2 hvv
      go_wp2_with fail
      with_reducible refine hct.mono ?_
      rintro e w4 ⟨rfl, rfl⟩
      clear hct
      go_wp2_with fail
      with_reducible refine (At1.out 3 (-20 - (k : Int)) _).mono ?_
      rintro e w5 ⟨rfl, hb⟩
      clear h_0 h_1 h_2 h_3 h_4 h_5 h_6 f0 f1 p0 p1 m_0 m_1 m_2 h_l fl pl m_l
      replace Hh_ := hide (Hh_.out.keep hb)
      replace Hf := hide (Hf.out.keep hb)
      replace Hp := hide (Hp.out.keep hb)
      replace Hm_ := hide (Hm_.out.keep hb)
      replace Hbl := hide (Hbl.out.trans (hb.mono Hbl.out.size))
      replace Hb2 := hide (Hb2.out.trans (hb.mono Hb2.out.size))
      clear hb
      unfold fault
      have h_0 := Hh_.out.cell 0
      have h_1 := Hh_.out.cell 1
      have h_2 := Hh_.out.cell 2
      have h_3 := Hh_.out.cell 3
      have h_4 := Hh_.out.cell 4
      have h_5 := Hh_.out.cell 5
      have h_6 := Hh_.out.cell 6
      have h_l := Hh_.out.lt
      have f0 := Hf.out.cell 0
      have f1 := Hf.out.cell 1
      have fl := Hf.out.lt
      have p0 := Hp.out.cell 0
      have p1 := Hp.out.cell 1
      have pl := Hp.out.lt
      have m_0 := Hm_.out.cell 0
      have m_1 := Hm_.out.cell 1
      have m_2 := Hm_.out.cell 2
      have m_l := Hm_.out.lt
      simp only [List.getElem?_cons_zero, List.getElem?_cons_succ] at h_0 h_1 h_2 h_3 h_4 h_5 h_6 f0 f1 p0 p1 m_0 m_1 m_2
      have ff0 := Hf.out.frozen 0
      have ff1 := Hf.out.frozen 1
      go_wp2_with fail
      refine bodyPost_ret (v := fault 3 (-20 - (k : Int))) (by simp [results, Tryz.results23, go_sem, fault, f0, f1, fl]) rfl ?_
      have hbx := HB0.out
      refine ⟨by rw [HR.out], ?_⟩
      repeat' (first | (with_reducible exact Hbl.out) | (with_reducible refine Below.drew ?_) | (with_reducible refine below_setH ?_ ?_ _ _) | omega)
    have t1 := inB_iff.1 e0
    rw [e0] at hct
    clear e0
    go_wp2_with fail
    with_reducible refine hct.mono ?_
    rintro e w4 ⟨rfl, rfl⟩
    clear hct
    obtain ⟨sb, hsb⟩ : ∃ z, z = setB T.facts m.pre := ⟨_, rfl⟩
    have hct := RIsSet_ct A1 n1 c1 m.pre T.facts w3 (R1.out.keep Hbl.out) (by omega)
    rw [← hsb] at hct
    have HSB := hide hsb
    clear hsb
    go_wp2_with fail
    with_reducible refine hct.mono ?_
    rintro e w4 ⟨rfl, hq⟩
    have hb := hq.below w3.heap.size
    clear hct hq
    clear h_0 h_1 h_2 h_3 h_4 h_5 h_6 f0 f1 p0 p1 m_0 m_1 m_2 h_l fl pl m_l
    replace Hh_ := hide (Hh_.out.keep hb)
    replace Hf := hide (Hf.out.keep hb)
    replace Hp := hide (Hp.out.keep hb)
    replace Hm_ := hide (Hm_.out.keep hb)
    replace Hbl := hide (Hbl.out.trans (hb.mono Hbl.out.size))
    replace Hb2 := hide (Hb2.out.trans (hb.mono Hb2.out.size))
    clear hb
    have h_0 := Hh_.out.cell 0
    have h_1 := Hh_.out.cell 1
    have h_2 := Hh_.out.cell 2
    have h_3 := Hh_.out.cell 3
    have h_4 := Hh_.out.cell 4
    have h_5 := Hh_.out.cell 5
    have h_6 := Hh_.out.cell 6
    have h_l := Hh_.out.lt
    have f0 := Hf.out.cell 0
    have f1 := Hf.out.cell 1
    have fl := Hf.out.lt
    have p0 := Hp.out.cell 0
    have p1 := Hp.out.cell 1
    have pl := Hp.out.lt
    have m_0 := Hm_.out.cell 0
    have m_1 := Hm_.out.cell 1
    have m_2 := Hm_.out.cell 2
    have m_l := Hm_.out.lt
    simp only [List.getElem?_cons_zero, List.getElem?_cons_succ] at h_0 h_1 h_2 h_3 h_4 h_5 h_6 f0 f1 p0 p1 m_0 m_1 m_2
    cases sb with
    | false =>
      have hvv : v = 5 := by rw [HV.out]; unfold meCode; rw [if_neg (by omega), if_pos HSB.out.symm]
      have hR2 := HR.out
      have hv0 : ¬ v = 0 := by omega
      rw [HR2.out, if_neg hv0, if_pos hv0, hvv] at hR2
      clear hv0
      replace HR := hide hR2
      clear hR2 hvv
      go_wp2_with fail
      with_reducible refine (At1.out 5 (-20 - (k : Int)) _).mono ?_
      rintro e w5 ⟨rfl, hb⟩
      clear h_0 h_1 h_2 h_3 h_4 h_5 h_6 f0 f1 p0 p1 m_0 m_1 m_2 h_l fl pl m_l
      replace Hh_ := hide (Hh_.out.keep hb)
      replace Hf := hide (Hf.out.keep hb)
      replace Hp := hide (Hp.out.keep hb)
      replace Hm_ := hide (Hm_.out.keep hb)
      replace Hbl := hide (Hbl.out.trans (hb.mono Hbl.out.size))
      replace Hb2 := hide (Hb2.out.trans (hb.mono Hb2.out.size))
      clear hb
      unfold fault
      have h_0 := Hh_.out.cell 0
      have h_1 := Hh_.out.cell 1
      have h_2 := Hh_.out.cell 2
      have h_3 := Hh_.out.cell 3
      have h_4 := Hh_.out.cell 4
      have h_5 := Hh_.out.cell 5
      have h_6 := Hh_.out.cell 6
      have h_l := Hh_.out.lt
      have f0 := Hf.out.cell 0
      have f1 := Hf.out.cell 1
      have fl := Hf.out.lt
      have p0 := Hp.out.cell 0
      have p1 := Hp.out.cell 1
      have pl := Hp.out.lt
      have m_0 := Hm_.out.cell 0
      have m_1 := Hm_.out.cell 1
      have m_2 := Hm_.out.cell 2
      have m_l := Hm_.out.lt
      simp only [List.getElem?_cons_zero, List.getElem?_cons_succ] at h_0 h_1 h_2 h_3 h_4 h_5 h_6 f0 f1 p0 p1 m_0 m_1 m_2
      have ff0 := Hf.out.frozen 0
      have ff1 := Hf.out.frozen 1
      go_wp2_with fail
      refine bodyPost_ret (v := fault 5 (-20 - (k : Int))) (by simp [results, Tryz.results23, go_sem, fault, f0, f1, fl]) rfl ?_
      have hbx := HB0.out
      refine ⟨by rw [HR.out], ?_⟩
      repeat' (first | (with_reducible exact Hbl.out) | (with_reducible refine Below.drew ?_) | (with_reducible refine below_setH ?_ ?_ _ _) | omega)
    | true =>
      have hvv : v = listCode K T.ops.length m.steps := by rw [HV.out]; unfold meCode; rw [if_neg (by omega), if_neg (by rw [← HSB.out]; simp)]
      have hli := Hli.out A2 n2 c2 m.steps w4 (HH.out.keep Hbl.out) ⟨by omega, by omega⟩ (R2'.out.keep Hbl.out)
      rw [← hvv] at hli
      have Hli2 := hide hli
      clear hvv hli
      go_wp2_with fail
      with_reducible refine (Hli2.out).mono ?_
      rintro e w5 ⟨rfl, hb⟩
      clear h_0 h_1 h_2 h_3 h_4 h_5 h_6 f0 f1 p0 p1 m_0 m_1 m_2 h_l fl pl m_l
      replace Hh_ := hide (Hh_.out.keep hb)
      replace Hf := hide (Hf.out.keep hb)
      replace Hp := hide (Hp.out.keep hb)
      replace Hm_ := hide (Hm_.out.keep hb)
      replace Hbl := hide (Hbl.out.trans (hb.mono Hbl.out.size))
      replace Hb2 := hide (Hb2.out.trans (hb.mono Hb2.out.size))
      clear hb
      have h_0 := Hh_.out.cell 0
      have h_1 := Hh_.out.cell 1
      have h_2 := Hh_.out.cell 2
      have h_3 := Hh_.out.cell 3
      have h_4 := Hh_.out.cell 4
      have h_5 := Hh_.out.cell 5
      have h_6 := Hh_.out.cell 6
      have h_l := Hh_.out.lt
      have f0 := Hf.out.cell 0
      have f1 := Hf.out.cell 1
      have fl := Hf.out.lt
      have p0 := Hp.out.cell 0
      have p1 := Hp.out.cell 1
      have pl := Hp.out.lt
      have m_0 := Hm_.out.cell 0
      have m_1 := Hm_.out.cell 1
      have m_2 := Hm_.out.cell 2
      have m_l := Hm_.out.lt
      simp only [List.getElem?_cons_zero, List.getElem?_cons_succ] at h_0 h_1 h_2 h_3 h_4 h_5 h_6 f0 f1 p0 p1 m_0 m_1 m_2
      by_cases hv0 : v = 0
      · subst hv0
        have hR2 := HR2.out
        rw [if_pos rfl] at hR2
        replace HR2 := hide hR2
        clear hR2
        go_wp2_with fail
        go_roundw
        case rel => exact ⟨k + 1, by omega, by go_num, Hb2.out, HR2.out⟩
        case measure => simp [intOf]; omega
      have hvn : (v != 0) = true := by simpa using hv0
      have hR2 := HR.out
      rw [HR2.out, if_neg hv0, if_pos hv0] at hR2
      replace HR := hide hR2
      clear hR2
      go_wp2_with fail
      with_reducible refine (At1.out v (-20 - (k : Int)) _).mono ?_
      rintro e w6 ⟨rfl, hb⟩
      clear h_0 h_1 h_2 h_3 h_4 h_5 h_6 f0 f1 p0 p1 m_0 m_1 m_2 h_l fl pl m_l
      replace Hh_ := hide (Hh_.out.keep hb)
      replace Hf := hide (Hf.out.keep hb)
      replace Hp := hide (Hp.out.keep hb)
      replace Hm_ := hide (Hm_.out.keep hb)
      replace Hbl := hide (Hbl.out.trans (hb.mono Hbl.out.size))
      replace Hb2 := hide (Hb2.out.trans (hb.mono Hb2.out.size))
      clear hb
      unfold fault
      have h_0 := Hh_.out.cell 0
      have h_1 := Hh_.out.cell 1
      have h_2 := Hh_.out.cell 2
      have h_3 := Hh_.out.cell 3
      have h_4 := Hh_.out.cell 4
      have h_5 := Hh_.out.cell 5
      have h_6 := Hh_.out.cell 6
      have h_l := Hh_.out.lt
      have f0 := Hf.out.cell 0
      have f1 := Hf.out.cell 1
      have fl := Hf.out.lt
      have p0 := Hp.out.cell 0
      have p1 := Hp.out.cell 1
      have pl := Hp.out.lt
      have m_0 := Hm_.out.cell 0
      have m_1 := Hm_.out.cell 1
      have m_2 := Hm_.out.cell 2
      have m_l := Hm_.out.lt
      simp only [List.getElem?_cons_zero, List.getElem?_cons_succ] at h_0 h_1 h_2 h_3 h_4 h_5 h_6 f0 f1 p0 p1 m_0 m_1 m_2
      have ff0 := Hf.out.frozen 0
      have ff1 := Hf.out.frozen 1
      go_wp2_with fail
      refine bodyPost_ret (v := fault v (-20 - (k : Int))) (by simp [results, Tryz.results23, go_sem, fault, f0, f1, fl]) rfl ?_
      have hbx := HB0.out
      refine ⟨by rw [HR.out], ?_⟩
      repeat' (first | (with_reducible exact Hbl.out) | (with_reducible refine Below.drew ?_) | (with_reducible refine below_setH ?_ ?_ _ _) | omega)
end Go.Proofs.YtmjiiddncbhgpaaGreat
