/- Dead ends: the law that Make answers as the specification requires. No condition., part 33: La34. -/
import Derived.Test.YtmjiiddncbhgpaaGreatB1
import Derived.Test.YtmjiiddncbhgpaaGreatB2
import Derived.Test.YtmjiiddncbhgpaaGreatB3
import Derived.Test.YtmjiiddncbhgpaaGreatB4
import Derived.Test.YtmjiiddncbhgpaaGreatB5
import Derived.Test.YtmjiiddncbhgpaaGreatB6
import Derived.Test.YtmjiiddncbhgpaaGreatB7
import Derived.Test.YtmjiiddncbhgpaaGreatB8
import Derived.Test.YtmjiiddncbhgpaaGreatB9
import Derived.Test.YtmjiiddncbhgpaaGreatB10
import Derived.Test.YtmjiiddncbhgpaaGreatB11
import Derived.Test.YtmjiiddncbhgpaaGreatB12
import Derived.Test.YtmjiiddncbhgpaaGreatB13
import Derived.Test.YtmjiiddncbhgpaaGreatB14
import Derived.Test.YtmjiiddncbhgpaaGreatB15
import Derived.Test.YtmjiiddncbhgpaaGreatB16
import Derived.Test.YtmjiiddncbhgpaaGreatB17
import Derived.Test.YtmjiiddncbhgpaaGreatB18
import Derived.Test.YtmjiiddncbhgpaaGreatB19
import Derived.Test.YtmjiiddncbhgpaaGreatB20
import Derived.Test.YtmjiiddncbhgpaaGreatB21
import Derived.Test.YtmjiiddncbhgpaaGreatB22
import Derived.Test.YtmjiiddncbhgpaaGreatB23
import Derived.Test.YtmjiiddncbhgpaaGreatB24
import Derived.Test.YtmjiiddncbhgpaaGreatB25
import Derived.Test.YtmjiiddncbhgpaaGreatB26
import Derived.Test.YtmjiiddncbhgpaaGreatB27
import Derived.Test.YtmjiiddncbhgpaaGreatB28
import Derived.Test.YtmjiiddncbhgpaaGreatB29
import Derived.Test.YtmjiiddncbhgpaaGreatB30
import Derived.Test.YtmjiiddncbhgpaaGreatB31
import Derived.Test.YtmjiiddncbhgpaaGreatB32
import Derived.BigQuiet
import Derived.Deep.AppendLies
import Derived.Deep.DeepCutAuto
import Derived.Deep.Draws
import Derived.Deep.Fields
import Derived.Deep.LoopGhost
import Derived.Deep.QuietTactic
import Derived.Deep.RegionHeld
import Derived.Deep.RegionHeld3
import Derived.Deep.RegionLaw
import Derived.Deep.Slices
import Derived.DeepKeys4
import Derived.Ground.Names2Prog
import Derived.Ground.SlgnProg
import Derived.Ground.SlsfProg
import Derived.IntWalk
import Derived.Laws.AppendOwnNone
import Derived.Laws.BitsAllLaws
import Derived.Laws.EntriesVeiled
import Derived.Laws.OwnMore
import Derived.Lib.Hide
import Derived.Lib.SlicesCompact
import Derived.LoopIn
import Derived.LoopNIn
import Derived.Maps.AppendAt
import Derived.Maps.OwnIn
import Derived.Maps.OwnOps
import Derived.Maps.OwnSet
import Derived.OrdersHeld
import Derived.OrdersIn
import Derived.OwnWalkIn
import Derived.ProofKit
import Derived.RangeFuncBound
import Derived.RangeFuncCalls
import Derived.RangeFuncLeaves
import Derived.RangeFuncNested
import Derived.Shelf.Abstract
import Derived.Shelf.RegionOpen
import Derived.Shelf.SlSortCmp.Whole1
import Derived.Shelf.Slices.Cells
import Derived.Shelf.Slices.Clone
import Derived.Shelf.Slices.CompactI
import Derived.Shelf.Slices.Empties
import Derived.Shelf.Slices.In.SortNone
import Derived.Shelf.Slices.SearchI
import Derived.Shelf.Sort.Plain
import Derived.Sort.OwnSortedInts
import Derived.StillTail
import Derived.StillTailTactics
import Derived.TacticsInMore
import Derived.Test.YtmjiiddncbhgpaaGreatProg
import Derived.WalkKit
import Init
namespace Go.Proofs.YtmjiiddncbhgpaaGreat
set_option linter.unusedVariables false
set_option linter.unusedSimpArgs false
open Go.RowKit
theorem one_okD : OkT oneT 1 := ⟨rfl, by omega, by decide +kernel, by decide +kernel, by decide +kernel, fun o ho => by
  have : o = ⟨[], [0], [], 3⟩ := by simpa [oneT] using ho
  subst this
  exact ⟨by decide +kernel, by decide +kernel, by decide +kernel, by decide +kernel, by decide +kernel, by decide +kernel⟩⟩
theorem fieldD (x : Int) (y : Value) (w : World) : (Instr.field 29 (.agg #[.int .i64 x, y]) 0).run Tryz.prog w = .ok (.int .i64 x) w := by kernel_rfl
theorem sets_made {N : Nat} {T : Tsk} {l : List Nat} {cs : List SS} (hT : OkT T N) (hl : l.length ≤ 2000) (h : MadeD N T l cs) : setsF T cs = (0, 0) := by
  obtain ⟨h1, h2, _⟩ := h
  have hz : taskFault T = (0, 0) := by
    have h0 : (taskFault T).1 = 0 := by
      unfold taskFault
      rw [if_neg (by rw [hT.facts, inB_iff.2 ⟨by omega, by have := hT.low; omega⟩]; simp), if_neg (by rw [hT.facts, hT.init]; simp), if_neg (by rw [hT.facts, hT.goal]; simp), if_neg (by have := hT.few; omega)]
      refine opsFault_ok.2 (fun o ho => ?_)
      have oo := hT.ops o ho
      unfold opCode
      rw [hT.facts, if_pos ⟨oo.pre, oo.add, oo.del, oo.apart⟩, if_pos (inB_iff.2 ⟨oo.low, oo.high⟩)]
    exact taskFault_zero h0
  unfold setsF
  rw [hz, if_neg (by simp), if_neg (by omega)]
  refine ssF_none (ssF_zero.2 (fun c hc => ?_))
  rw [hT.facts]
  exact okSS_iff.2 (h1 c hc)
set_option maxRecDepth 100000 in
set_option maxHeartbeats 12800000 in
theorem deadMakeLaw_ct (T : Tsk) (a : TA) (w : World) (h : TkR w a T) :
    Calls Tryz.prog 4 #[.agg #[.int .i64 T.facts, .slice a.I a.nI a.cI, .slice a.G a.nG a.cG, .slice a.O a.nO a.cO]] w (Gives w (.bool true)) := by
  have hmk := fun W hT => DMake_ct a T W hT
  have htf := fun W hT => RTaskFault_ct a T W hT
  have hsf := fun A n c l W hT hW => SetsFault_ct a T A n c l W hT hW
  have hpr := fun N A n c l W hT hok hW => Proves_ct a T N A n c l W hT hok hW
  have hre := fun N W hT hok => Reached_ct a T N W hT hok
  obtain ⟨I, nI, cI, G, nG, cG, O, nO, cO⟩ := a
  simp only at hmk htf hsf hpr hre ⊢
  unfold MakeP at hmk
  rcases hq : taskFault T with ⟨ec, ei⟩
  rw [hq] at hmk htf
  have H := hide h
  have Hmk := hide hmk
  have Htf := hide htf
  have Hsf := hide hsf
  have Hpr := hide hpr
  have Hre := hide hre
  have Hq := hide hq
  have hfld := fieldD
  obtain ⟨hf1, hf2⟩ := h.facts
  clear h hmk htf hsf hpr hre hq
  have Hbl := hide (Below.refl w.heap.size w)
  go_enter Tryz.func4, Tryz.ntmps4
  go_upto_region 1 with (fail)
  obtain ⟨B0, hB0⟩ : ∃ B0, B0 = w.heap.size := ⟨_, rfl⟩
  have HB0 := hide hB0
  clear hB0
  have s_0 : B0 ≤ w.heap.size := Nat.le_trans (Nat.le_of_eq HB0.out) Hbl.out.size
  have hyt := Blk.new (w) 25 [.int .i64 T.facts, .slice I nI cI, .slice G nG cG, .slice O nO cO]
  have hbW : Below (w).heap.size (w) ((w).alloc (.cells #[.int .i64 T.facts, .slice I nI cI, .slice G nG cG, .slice O nO cO] 25)) := (Below.refl _ _).alloc (Nat.le_refl _) _
  obtain ⟨w0, hW⟩ : ∃ W, W = (w).alloc (.cells #[.int .i64 T.facts, .slice I nI cI, .slice G nG cG, .slice O nO cO] 25) := ⟨_, rfl⟩
  rw [← hW] at hyt hbW ⊢
  replace Hbl := hide (Hbl.out.trans (hbW.mono Hbl.out.size))
  have Ht := hide hyt
  clear hW hbW hyt
  generalize w.heap.size = gT at Ht s_0 ⊢
  have t0 := Ht.out.cell 0
  have t1 := Ht.out.cell 1
  have t2 := Ht.out.cell 2
  have t3 := Ht.out.cell 3
  have tl := Ht.out.lt
  simp only [List.getElem?_cons_zero, List.getElem?_cons_succ] at t0 t1 t2 t3
  have a_t : B0 ≤ gT := by omega
  clear s_0
  go_wp2_with fail
  with_reducible refine (deadendExample_ct w0).mono ?_
  rintro e w1 ⟨rfl, hb⟩
  clear t0 t1 t2 t3 tl
  replace Ht := hide (Ht.out.keep hb)
  replace Hbl := hide (Hbl.out.trans (hb.mono Hbl.out.size))
  clear hb
  have t0 := Ht.out.cell 0
  have t1 := Ht.out.cell 1
  have t2 := Ht.out.cell 2
  have t3 := Ht.out.cell 3
  have tl := Ht.out.lt
  simp only [List.getElem?_cons_zero, List.getElem?_cons_succ] at t0 t1 t2 t3
  go_wp2_with fail
  with_reducible refine (Hmk.out w1 (H.out.keep Hbl.out)).mono ?_
  rintro e w2 ⟨hb, hor⟩
  clear t0 t1 t2 t3 tl
  replace Ht := hide (Ht.out.keep hb)
  replace Hbl := hide (Hbl.out.trans (hb.mono Hbl.out.size))
  clear hb
  have t0 := Ht.out.cell 0
  have t1 := Ht.out.cell 1
  have t2 := Ht.out.cell 2
  have t3 := Ht.out.cell 3
  have tl := Ht.out.lt
  simp only [List.getElem?_cons_zero, List.getElem?_cons_succ] at t0 t1 t2 t3
  rcases hor with ⟨h1, rfl⟩ | ⟨h1, hmany, rfl⟩ | ⟨h1, l, hlist, ⟨⟨gx, hgx, hgg⟩, rfl⟩ | ⟨hng, N, P, np, pc, cs, hok, hmd, hrd, rfl⟩⟩
  · have hne : (ec == 0) = false := by rw [beq_eq_false_iff_ne]; exact h1
    have hne2 : (ec != 0) = true := by simpa using h1
    unfold fault
    go_upto_region 4 with (fail)
    have n_t_m_ : ¬ gT = w2.heap.size := by omega
    have n_m__t : ¬ w2.heap.size = gT := by omega
    have s_t : gT < w2.heap.size := tl
    have s_0 : B0 ≤ w2.heap.size := Nat.le_trans (Nat.le_of_eq HB0.out) Hbl.out.size
    have hym_ := Blk.new (w2) 29 [.int .i64 ec, .int .i64 ei]
    have hbW : Below (w2).heap.size (w2) ((w2).alloc (.cells #[.int .i64 ec, .int .i64 ei] 29)) := (Below.refl _ _).alloc (Nat.le_refl _) _
    obtain ⟨w3, hW⟩ : ∃ W, W = (w2).alloc (.cells #[.int .i64 ec, .int .i64 ei] 29) := ⟨_, rfl⟩
    rw [← hW] at hym_ hbW ⊢
    replace Ht := hide (Ht.out.keep hbW)
    replace Hbl := hide (Hbl.out.trans (hbW.mono Hbl.out.size))
    have Hm_ := hide hym_
    clear hW hbW hym_
    generalize w2.heap.size = gm at Hm_ n_t_m_ n_m__t s_t s_0 ⊢
    have t0 := Ht.out.cell 0
    have t1 := Ht.out.cell 1
    have t2 := Ht.out.cell 2
    have t3 := Ht.out.cell 3
    have tl := Ht.out.lt
    have m_0 := Hm_.out.cell 0
    have m_1 := Hm_.out.cell 1
    have m_l := Hm_.out.lt
    simp only [List.getElem?_cons_zero, List.getElem?_cons_succ] at t0 t1 t2 t3 m_0 m_1
    clear s_t
    have a_m_ : B0 ≤ gm := by omega
    clear s_0
    go_wp2_with fail
    with_reducible refine (Htf.out w3 (H.out.keep Hbl.out)).mono ?_
    rintro e w4 ⟨rfl, hb⟩
    clear t0 t1 t2 t3 m_0 m_1 tl m_l
    replace Ht := hide (Ht.out.keep hb)
    replace Hm_ := hide (Hm_.out.keep hb)
    replace Hbl := hide (Hbl.out.trans (hb.mono Hbl.out.size))
    clear hb
    have t0 := Ht.out.cell 0
    have t1 := Ht.out.cell 1
    have t2 := Ht.out.cell 2
    have t3 := Ht.out.cell 3
    have tl := Ht.out.lt
    have m_0 := Hm_.out.cell 0
    have m_1 := Hm_.out.cell 1
    have m_l := Hm_.out.lt
    simp only [List.getElem?_cons_zero, List.getElem?_cons_succ] at t0 t1 t2 t3 m_0 m_1
    unfold fault
    go_upto_region 5 with (fail)
    have n_t_w_ : ¬ gT = w4.heap.size := by omega
    have n_w__t : ¬ w4.heap.size = gT := by omega
    have n_m__w_ : ¬ gm = w4.heap.size := by omega
    have n_w__m_ : ¬ w4.heap.size = gm := by omega
    have s_t : gT < w4.heap.size := tl
    have s_m_ : gm < w4.heap.size := m_l
    have s_0 : B0 ≤ w4.heap.size := Nat.le_trans (Nat.le_of_eq HB0.out) Hbl.out.size
    have hyw_ := Blk.new (w4) 29 [.int .i64 ec, .int .i64 ei]
    have hbW : Below (w4).heap.size (w4) ((w4).alloc (.cells #[.int .i64 ec, .int .i64 ei] 29)) := (Below.refl _ _).alloc (Nat.le_refl _) _
    obtain ⟨w5, hW⟩ : ∃ W, W = (w4).alloc (.cells #[.int .i64 ec, .int .i64 ei] 29) := ⟨_, rfl⟩
    rw [← hW] at hyw_ hbW ⊢
    replace Ht := hide (Ht.out.keep hbW)
    replace Hm_ := hide (Hm_.out.keep hbW)
    replace Hbl := hide (Hbl.out.trans (hbW.mono Hbl.out.size))
    have Hw_ := hide hyw_
    clear hW hbW hyw_
    generalize w4.heap.size = gw at Hw_ n_t_w_ n_w__t n_m__w_ n_w__m_ s_t s_m_ s_0 ⊢
    have t0 := Ht.out.cell 0
    have t1 := Ht.out.cell 1
    have t2 := Ht.out.cell 2
    have t3 := Ht.out.cell 3
    have tl := Ht.out.lt
    have m_0 := Hm_.out.cell 0
    have m_1 := Hm_.out.cell 1
    have m_l := Hm_.out.lt
    have w_0 := Hw_.out.cell 0
    have w_1 := Hw_.out.cell 1
    have w_l := Hw_.out.lt
    simp only [List.getElem?_cons_zero, List.getElem?_cons_succ] at t0 t1 t2 t3 m_0 m_1 w_0 w_1
    clear s_t
    clear s_m_
    have a_w_ : B0 ≤ gw := by omega
    clear s_0
    go_wp2_with fail
    with_reducible refine (one_ct w5).mono ?_
    rintro e w6 ⟨hb, a1, rfl, hn1, ht1⟩
    clear t0 t1 t2 t3 m_0 m_1 w_0 w_1 tl m_l w_l
    replace Ht := hide (Ht.out.keep hb)
    replace Hm_ := hide (Hm_.out.keep hb)
    replace Hw_ := hide (Hw_.out.keep hb)
    replace Hbl := hide (Hbl.out.trans (hb.mono Hbl.out.size))
    clear hb
    have Ht1 := hide ht1
    clear ht1 hn1
    unfold taskVo
    have t0 := Ht.out.cell 0
    have t1 := Ht.out.cell 1
    have t2 := Ht.out.cell 2
    have t3 := Ht.out.cell 3
    have tl := Ht.out.lt
    have m_0 := Hm_.out.cell 0
    have m_1 := Hm_.out.cell 1
    have m_l := Hm_.out.lt
    have w_0 := Hw_.out.cell 0
    have w_1 := Hw_.out.cell 1
    have w_l := Hw_.out.lt
    simp only [List.getElem?_cons_zero, List.getElem?_cons_succ] at t0 t1 t2 t3 m_0 m_1 w_0 w_1
    go_wp2_with fail
    with_reducible refine (Reached_ct a1 oneT 1 w6 Ht1.out one_okD).mono ?_
    rintro e w7 ⟨hb, hres⟩
    obtain ⟨R1, fit1, rfl⟩ : ∃ (R1 : Value) (fit1 : Bool), e = .returned (.tuple #[R1, .bool fit1]) := by
      cases hr1 : refReach oneT with
      | none => rw [hr1] at hres; exact ⟨_, _, hres⟩
      | some l1 => rw [hr1] at hres; obtain ⟨_, _, h1, _⟩ := hres; exact ⟨_, _, h1⟩
    clear hres Ht1
    clear t0 t1 t2 t3 m_0 m_1 w_0 w_1 tl m_l w_l
    replace Ht := hide (Ht.out.keep hb)
    replace Hm_ := hide (Hm_.out.keep hb)
    replace Hw_ := hide (Hw_.out.keep hb)
    replace Hbl := hide (Hbl.out.trans (hb.mono Hbl.out.size))
    clear hb
    have t0 := Ht.out.cell 0
    have t1 := Ht.out.cell 1
    have t2 := Ht.out.cell 2
    have t3 := Ht.out.cell 3
    have tl := Ht.out.lt
    have m_0 := Hm_.out.cell 0
    have m_1 := Hm_.out.cell 1
    have m_l := Hm_.out.lt
    have w_0 := Hw_.out.cell 0
    have w_1 := Hw_.out.cell 1
    have w_l := Hw_.out.lt
    simp only [List.getElem?_cons_zero, List.getElem?_cons_succ] at t0 t1 t2 t3 m_0 m_1 w_0 w_1
    go_wp2_with fail
    go_ret
    exact ⟨ret_bool (by simp), Hbl.out⟩
  · skip
    have h1' : ec = 0 := h1
    subst h1'
    have hz := taskFault_zero (T := T) (by rw [Hq.out])
    rw [Hq.out] at hz
    obtain ⟨_, e2⟩ := Prod.mk.inj hz
    subst e2
    clear hz h1
    obtain ⟨N, hok⟩ := taskFault_ok (T := T) (by rw [Hq.out])
    have hnone : refReach T = none := by
      cases hr : refReach T with
      | none => rfl
      | some l =>
        obtain ⟨e1, e2, _⟩ := reach_some hok hr
        have := many_not_all hmany e1
        simp at this
        omega
    have Hok := hide hok
    have hre := fun W hT => Hre.out N W hT Hok.out
    rw [hnone] at hre
    replace Hre := hide hre
    clear hok hnone hmany hre
    unfold fault
    go_upto_region 4 with (fail)
    have n_t_m_ : ¬ gT = w2.heap.size := by omega
    have n_m__t : ¬ w2.heap.size = gT := by omega
    have s_t : gT < w2.heap.size := tl
    have s_0 : B0 ≤ w2.heap.size := Nat.le_trans (Nat.le_of_eq HB0.out) Hbl.out.size
    have hym_ := Blk.new (w2) 29 [.int .i64 10, .int .i64 (-7)]
    have hbW : Below (w2).heap.size (w2) ((w2).alloc (.cells #[.int .i64 10, .int .i64 (-7)] 29)) := (Below.refl _ _).alloc (Nat.le_refl _) _
    obtain ⟨w3, hW⟩ : ∃ W, W = (w2).alloc (.cells #[.int .i64 10, .int .i64 (-7)] 29) := ⟨_, rfl⟩
    rw [← hW] at hym_ hbW ⊢
    replace Ht := hide (Ht.out.keep hbW)
    replace Hbl := hide (Hbl.out.trans (hbW.mono Hbl.out.size))
    have Hm_ := hide hym_
    clear hW hbW hym_
    generalize w2.heap.size = gm at Hm_ n_t_m_ n_m__t s_t s_0 ⊢
    have t0 := Ht.out.cell 0
    have t1 := Ht.out.cell 1
    have t2 := Ht.out.cell 2
    have t3 := Ht.out.cell 3
    have tl := Ht.out.lt
    have m_0 := Hm_.out.cell 0
    have m_1 := Hm_.out.cell 1
    have m_l := Hm_.out.lt
    simp only [List.getElem?_cons_zero, List.getElem?_cons_succ] at t0 t1 t2 t3 m_0 m_1
    clear s_t
    have a_m_ : B0 ≤ gm := by omega
    clear s_0
    go_wp2_with fail
    with_reducible refine (Htf.out w3 (H.out.keep Hbl.out)).mono ?_
    rintro e w4 ⟨rfl, hb⟩
    clear t0 t1 t2 t3 m_0 m_1 tl m_l
    replace Ht := hide (Ht.out.keep hb)
    replace Hm_ := hide (Hm_.out.keep hb)
    replace Hbl := hide (Hbl.out.trans (hb.mono Hbl.out.size))
    clear hb
    have t0 := Ht.out.cell 0
    have t1 := Ht.out.cell 1
    have t2 := Ht.out.cell 2
    have t3 := Ht.out.cell 3
    have tl := Ht.out.lt
    have m_0 := Hm_.out.cell 0
    have m_1 := Hm_.out.cell 1
    have m_l := Hm_.out.lt
    simp only [List.getElem?_cons_zero, List.getElem?_cons_succ] at t0 t1 t2 t3 m_0 m_1
    unfold fault
    go_upto_region 5 with (fail)
    have n_t_w_ : ¬ gT = w4.heap.size := by omega
    have n_w__t : ¬ w4.heap.size = gT := by omega
    have n_m__w_ : ¬ gm = w4.heap.size := by omega
    have n_w__m_ : ¬ w4.heap.size = gm := by omega
    have s_t : gT < w4.heap.size := tl
    have s_m_ : gm < w4.heap.size := m_l
    have s_0 : B0 ≤ w4.heap.size := Nat.le_trans (Nat.le_of_eq HB0.out) Hbl.out.size
    have hyw_ := Blk.new (w4) 29 [.int .i64 0, .int .i64 0]
    have hbW : Below (w4).heap.size (w4) ((w4).alloc (.cells #[.int .i64 0, .int .i64 0] 29)) := (Below.refl _ _).alloc (Nat.le_refl _) _
    obtain ⟨w5, hW⟩ : ∃ W, W = (w4).alloc (.cells #[.int .i64 0, .int .i64 0] 29) := ⟨_, rfl⟩
    rw [← hW] at hyw_ hbW ⊢
    replace Ht := hide (Ht.out.keep hbW)
    replace Hm_ := hide (Hm_.out.keep hbW)
    replace Hbl := hide (Hbl.out.trans (hbW.mono Hbl.out.size))
    have Hw_ := hide hyw_
    clear hW hbW hyw_
    generalize w4.heap.size = gw at Hw_ n_t_w_ n_w__t n_m__w_ n_w__m_ s_t s_m_ s_0 ⊢
    have t0 := Ht.out.cell 0
    have t1 := Ht.out.cell 1
    have t2 := Ht.out.cell 2
    have t3 := Ht.out.cell 3
    have tl := Ht.out.lt
    have m_0 := Hm_.out.cell 0
    have m_1 := Hm_.out.cell 1
    have m_l := Hm_.out.lt
    have w_0 := Hw_.out.cell 0
    have w_1 := Hw_.out.cell 1
    have w_l := Hw_.out.lt
    simp only [List.getElem?_cons_zero, List.getElem?_cons_succ] at t0 t1 t2 t3 m_0 m_1 w_0 w_1
    clear s_t
    clear s_m_
    have a_w_ : B0 ≤ gw := by omega
    clear s_0
    go_wp2_with fail
    with_reducible refine (one_ct w5).mono ?_
    rintro e w6 ⟨hb, a1, rfl, hn1, ht1⟩
    clear t0 t1 t2 t3 m_0 m_1 w_0 w_1 tl m_l w_l
    replace Ht := hide (Ht.out.keep hb)
    replace Hm_ := hide (Hm_.out.keep hb)
    replace Hw_ := hide (Hw_.out.keep hb)
    replace Hbl := hide (Hbl.out.trans (hb.mono Hbl.out.size))
    clear hb
    have Ht1 := hide ht1
    clear ht1 hn1
    unfold taskVo
    have t0 := Ht.out.cell 0
    have t1 := Ht.out.cell 1
    have t2 := Ht.out.cell 2
    have t3 := Ht.out.cell 3
    have tl := Ht.out.lt
    have m_0 := Hm_.out.cell 0
    have m_1 := Hm_.out.cell 1
    have m_l := Hm_.out.lt
    have w_0 := Hw_.out.cell 0
    have w_1 := Hw_.out.cell 1
    have w_l := Hw_.out.lt
    simp only [List.getElem?_cons_zero, List.getElem?_cons_succ] at t0 t1 t2 t3 m_0 m_1 w_0 w_1
    go_wp2_with fail
    with_reducible refine (Reached_ct a1 oneT 1 w6 Ht1.out one_okD).mono ?_
    rintro e w7 ⟨hb, hres⟩
    obtain ⟨R1, fit1, rfl⟩ : ∃ (R1 : Value) (fit1 : Bool), e = .returned (.tuple #[R1, .bool fit1]) := by
      cases hr1 : refReach oneT with
      | none => rw [hr1] at hres; exact ⟨_, _, hres⟩
      | some l1 => rw [hr1] at hres; obtain ⟨_, _, h1, _⟩ := hres; exact ⟨_, _, h1⟩
    clear hres Ht1
    clear t0 t1 t2 t3 m_0 m_1 w_0 w_1 tl m_l w_l
    replace Ht := hide (Ht.out.keep hb)
    replace Hm_ := hide (Hm_.out.keep hb)
    replace Hw_ := hide (Hw_.out.keep hb)
    replace Hbl := hide (Hbl.out.trans (hb.mono Hbl.out.size))
    clear hb
    have t0 := Ht.out.cell 0
    have t1 := Ht.out.cell 1
    have t2 := Ht.out.cell 2
    have t3 := Ht.out.cell 3
    have tl := Ht.out.lt
    have m_0 := Hm_.out.cell 0
    have m_1 := Hm_.out.cell 1
    have m_l := Hm_.out.lt
    have w_0 := Hw_.out.cell 0
    have w_1 := Hw_.out.cell 1
    have w_l := Hw_.out.lt
    simp only [List.getElem?_cons_zero, List.getElem?_cons_succ] at t0 t1 t2 t3 m_0 m_1 w_0 w_1
    go_wp2_with fail
    with_reducible refine (Hre.out _ (H.out.keep Hbl.out)).mono ?_
    rintro e w8 ⟨hb, rfl⟩
    clear t0 t1 t2 t3 m_0 m_1 w_0 w_1 tl m_l w_l
    replace Ht := hide (Ht.out.keep hb)
    replace Hm_ := hide (Hm_.out.keep hb)
    replace Hw_ := hide (Hw_.out.keep hb)
    replace Hbl := hide (Hbl.out.trans (hb.mono Hbl.out.size))
    clear hb
    have t0 := Ht.out.cell 0
    have t1 := Ht.out.cell 1
    have t2 := Ht.out.cell 2
    have t3 := Ht.out.cell 3
    have tl := Ht.out.lt
    have m_0 := Hm_.out.cell 0
    have m_1 := Hm_.out.cell 1
    have m_l := Hm_.out.lt
    have w_0 := Hw_.out.cell 0
    have w_1 := Hw_.out.cell 1
    have w_l := Hw_.out.lt
    simp only [List.getElem?_cons_zero, List.getElem?_cons_succ] at t0 t1 t2 t3 m_0 m_1 w_0 w_1
    have wf0 := Hw_.out.frozen 0
    have wf1 := Hw_.out.frozen 1
    go_wp2_with fail
    with_reducible refine (At_ct 10 (-7) w8).mono ?_
    rintro e w9 ⟨rfl, hb⟩
    unfold fault
    clear wf0 wf1
    clear t0 t1 t2 t3 m_0 m_1 w_0 w_1 tl m_l w_l
    replace Ht := hide (Ht.out.keep hb)
    replace Hm_ := hide (Hm_.out.keep hb)
    replace Hw_ := hide (Hw_.out.keep hb)
    replace Hbl := hide (Hbl.out.trans (hb.mono Hbl.out.size))
    clear hb
    have t0 := Ht.out.cell 0
    have t1 := Ht.out.cell 1
    have t2 := Ht.out.cell 2
    have t3 := Ht.out.cell 3
    have tl := Ht.out.lt
    have m_0 := Hm_.out.cell 0
    have m_1 := Hm_.out.cell 1
    have m_l := Hm_.out.lt
    have w_0 := Hw_.out.cell 0
    have w_1 := Hw_.out.cell 1
    have w_l := Hw_.out.lt
    simp only [List.getElem?_cons_zero, List.getElem?_cons_succ] at t0 t1 t2 t3 m_0 m_1 w_0 w_1
    have wf0 := Hw_.out.frozen 0
    have wf1 := Hw_.out.frozen 1
    go_wp2_with fail
    go_ret
    exact ⟨ret_bool (by simp), by
      have hbx := HB0.out
      repeat' (first | (with_reducible exact Hbl.out) | (with_reducible refine Below.drew ?_) | (with_reducible refine below_setD ?_ ?_ _ _) | (with_reducible refine below_drewN ?_ _) | omega)⟩
  · skip
    have h1' : ec = 0 := h1
    subst h1'
    have hz := taskFault_zero (T := T) (by rw [Hq.out])
    rw [Hq.out] at hz
    obtain ⟨_, e2⟩ := Prod.mk.inj hz
    subst e2
    clear hz h1
    obtain ⟨N, hok⟩ := taskFault_ok (T := T) (by rw [Hq.out])
    have hsome : ∃ sl, refReach T = some sl := by
      cases hr : refReach T with
      | none =>
        have := many_not_all (reach_none hok hr) hlist.all
        have := hlist.few
        omega
      | some sl => exact ⟨sl, rfl⟩
    obtain ⟨sl, hsl⟩ := hsome
    obtain ⟨s1, s2, s3⟩ := reach_some hok hsl
    have hlen := hlist.all.len s1
    rw [List.length_map] at hlen
    have hany : sl.any (fun s => subsetB T.goal s) = true := by
      obtain ⟨y, hy, hye⟩ := List.mem_map.1 ((s1.mem gx).2 ((hlist.all.mem gx).1 hgx))
      refine List.any_eq_true.2 ⟨y, hy, ?_⟩
      rw [← goal_word (s3 y hy) hok.goal, hye]
      exact hgg
    have Hany := hide hany
    have hre := fun W hT => Hre.out N W hT hok
    rw [hsl] at hre
    replace Hre := hide hre
    have Hok := hide hok
    have Hs3 := hide s3
    have hN := hok.low
    have HfN := hide hok.facts
    have hfew := hlist.few
    clear hsl s1 s3 hany hre
    clear hgx hgg
    clear hlist hok
    unfold fault
    go_upto_region 4 with (fail)
    have n_t_m_ : ¬ gT = w2.heap.size := by omega
    have n_m__t : ¬ w2.heap.size = gT := by omega
    have s_t : gT < w2.heap.size := tl
    have s_0 : B0 ≤ w2.heap.size := Nat.le_trans (Nat.le_of_eq HB0.out) Hbl.out.size
    have hym_ := Blk.new (w2) 29 [.int .i64 0, .int .i64 0]
    have hbW : Below (w2).heap.size (w2) ((w2).alloc (.cells #[.int .i64 0, .int .i64 0] 29)) := (Below.refl _ _).alloc (Nat.le_refl _) _
    obtain ⟨w3, hW⟩ : ∃ W, W = (w2).alloc (.cells #[.int .i64 0, .int .i64 0] 29) := ⟨_, rfl⟩
    rw [← hW] at hym_ hbW ⊢
    replace Ht := hide (Ht.out.keep hbW)
    replace Hbl := hide (Hbl.out.trans (hbW.mono Hbl.out.size))
    have Hm_ := hide hym_
    clear hW hbW hym_
    generalize w2.heap.size = gm at Hm_ n_t_m_ n_m__t s_t s_0 ⊢
    have t0 := Ht.out.cell 0
    have t1 := Ht.out.cell 1
    have t2 := Ht.out.cell 2
    have t3 := Ht.out.cell 3
    have tl := Ht.out.lt
    have m_0 := Hm_.out.cell 0
    have m_1 := Hm_.out.cell 1
    have m_l := Hm_.out.lt
    simp only [List.getElem?_cons_zero, List.getElem?_cons_succ] at t0 t1 t2 t3 m_0 m_1
    clear s_t
    have a_m_ : B0 ≤ gm := by omega
    clear s_0
    go_wp2_with fail
    with_reducible refine (Htf.out w3 (H.out.keep Hbl.out)).mono ?_
    rintro e w4 ⟨rfl, hb⟩
    clear t0 t1 t2 t3 m_0 m_1 tl m_l
    replace Ht := hide (Ht.out.keep hb)
    replace Hm_ := hide (Hm_.out.keep hb)
    replace Hbl := hide (Hbl.out.trans (hb.mono Hbl.out.size))
    clear hb
    have t0 := Ht.out.cell 0
    have t1 := Ht.out.cell 1
    have t2 := Ht.out.cell 2
    have t3 := Ht.out.cell 3
    have tl := Ht.out.lt
    have m_0 := Hm_.out.cell 0
    have m_1 := Hm_.out.cell 1
    have m_l := Hm_.out.lt
    simp only [List.getElem?_cons_zero, List.getElem?_cons_succ] at t0 t1 t2 t3 m_0 m_1
    unfold fault
    go_upto_region 5 with (fail)
    have n_t_w_ : ¬ gT = w4.heap.size := by omega
    have n_w__t : ¬ w4.heap.size = gT := by omega
    have n_m__w_ : ¬ gm = w4.heap.size := by omega
    have n_w__m_ : ¬ w4.heap.size = gm := by omega
    have s_t : gT < w4.heap.size := tl
    have s_m_ : gm < w4.heap.size := m_l
    have s_0 : B0 ≤ w4.heap.size := Nat.le_trans (Nat.le_of_eq HB0.out) Hbl.out.size
    have hyw_ := Blk.new (w4) 29 [.int .i64 0, .int .i64 0]
    have hbW : Below (w4).heap.size (w4) ((w4).alloc (.cells #[.int .i64 0, .int .i64 0] 29)) := (Below.refl _ _).alloc (Nat.le_refl _) _
    obtain ⟨w5, hW⟩ : ∃ W, W = (w4).alloc (.cells #[.int .i64 0, .int .i64 0] 29) := ⟨_, rfl⟩
    rw [← hW] at hyw_ hbW ⊢
    replace Ht := hide (Ht.out.keep hbW)
    replace Hm_ := hide (Hm_.out.keep hbW)
    replace Hbl := hide (Hbl.out.trans (hbW.mono Hbl.out.size))
    have Hw_ := hide hyw_
    clear hW hbW hyw_
    generalize w4.heap.size = gw at Hw_ n_t_w_ n_w__t n_m__w_ n_w__m_ s_t s_m_ s_0 ⊢
    have t0 := Ht.out.cell 0
    have t1 := Ht.out.cell 1
    have t2 := Ht.out.cell 2
    have t3 := Ht.out.cell 3
    have tl := Ht.out.lt
    have m_0 := Hm_.out.cell 0
    have m_1 := Hm_.out.cell 1
    have m_l := Hm_.out.lt
    have w_0 := Hw_.out.cell 0
    have w_1 := Hw_.out.cell 1
    have w_l := Hw_.out.lt
    simp only [List.getElem?_cons_zero, List.getElem?_cons_succ] at t0 t1 t2 t3 m_0 m_1 w_0 w_1
    clear s_t
    clear s_m_
    have a_w_ : B0 ≤ gw := by omega
    clear s_0
    go_wp2_with fail
    with_reducible refine (one_ct w5).mono ?_
    rintro e w6 ⟨hb, a1, rfl, hn1, ht1⟩
    clear t0 t1 t2 t3 m_0 m_1 w_0 w_1 tl m_l w_l
    replace Ht := hide (Ht.out.keep hb)
    replace Hm_ := hide (Hm_.out.keep hb)
    replace Hw_ := hide (Hw_.out.keep hb)
    replace Hbl := hide (Hbl.out.trans (hb.mono Hbl.out.size))
    clear hb
    have Ht1 := hide ht1
    clear ht1 hn1
    unfold taskVo
    have t0 := Ht.out.cell 0
    have t1 := Ht.out.cell 1
    have t2 := Ht.out.cell 2
    have t3 := Ht.out.cell 3
    have tl := Ht.out.lt
    have m_0 := Hm_.out.cell 0
    have m_1 := Hm_.out.cell 1
    have m_l := Hm_.out.lt
    have w_0 := Hw_.out.cell 0
    have w_1 := Hw_.out.cell 1
    have w_l := Hw_.out.lt
    simp only [List.getElem?_cons_zero, List.getElem?_cons_succ] at t0 t1 t2 t3 m_0 m_1 w_0 w_1
    go_wp2_with fail
    with_reducible refine (Reached_ct a1 oneT 1 w6 Ht1.out one_okD).mono ?_
    rintro e w7 ⟨hb, hres⟩
    obtain ⟨R1, fit1, rfl⟩ : ∃ (R1 : Value) (fit1 : Bool), e = .returned (.tuple #[R1, .bool fit1]) := by
      cases hr1 : refReach oneT with
      | none => rw [hr1] at hres; exact ⟨_, _, hres⟩
      | some l1 => rw [hr1] at hres; obtain ⟨_, _, h1, _⟩ := hres; exact ⟨_, _, h1⟩
    clear hres Ht1
    clear t0 t1 t2 t3 m_0 m_1 w_0 w_1 tl m_l w_l
    replace Ht := hide (Ht.out.keep hb)
    replace Hm_ := hide (Hm_.out.keep hb)
    replace Hw_ := hide (Hw_.out.keep hb)
    replace Hbl := hide (Hbl.out.trans (hb.mono Hbl.out.size))
    clear hb
    have t0 := Ht.out.cell 0
    have t1 := Ht.out.cell 1
    have t2 := Ht.out.cell 2
    have t3 := Ht.out.cell 3
    have tl := Ht.out.lt
    have m_0 := Hm_.out.cell 0
    have m_1 := Hm_.out.cell 1
    have m_l := Hm_.out.lt
    have w_0 := Hw_.out.cell 0
    have w_1 := Hw_.out.cell 1
    have w_l := Hw_.out.lt
    simp only [List.getElem?_cons_zero, List.getElem?_cons_succ] at t0 t1 t2 t3 m_0 m_1 w_0 w_1
    go_wp2_with fail
    with_reducible refine (Hre.out _ (H.out.keep Hbl.out)).mono ?_
    rintro e w8 ⟨hb, Sa, sc, rfl, hsrd⟩
    have hslow := hsrd.low
    have Hsrd := hide hsrd
    clear hsrd
    clear t0 t1 t2 t3 m_0 m_1 w_0 w_1 tl m_l w_l
    replace Ht := hide (Ht.out.keep hb)
    replace Hm_ := hide (Hm_.out.keep hb)
    replace Hw_ := hide (Hw_.out.keep hb)
    replace Hbl := hide (Hbl.out.trans (hb.mono Hbl.out.size))
    clear hb
    have t0 := Ht.out.cell 0
    have t1 := Ht.out.cell 1
    have t2 := Ht.out.cell 2
    have t3 := Ht.out.cell 3
    have tl := Ht.out.lt
    have m_0 := Hm_.out.cell 0
    have m_1 := Hm_.out.cell 1
    have m_l := Hm_.out.lt
    have w_0 := Hw_.out.cell 0
    have w_1 := Hw_.out.cell 1
    have w_l := Hw_.out.lt
    simp only [List.getElem?_cons_zero, List.getElem?_cons_succ] at t0 t1 t2 t3 m_0 m_1 w_0 w_1
    obtain ⟨sn, hsn⟩ : ∃ z, z = sl.length := ⟨_, rfl⟩
    rw [← hsn] at Hsrd hslow hlen ⊢
    go_wp2_with fail
    have Kt := Ht
    have Km_ := Hm_
    have Kw_ := Hw_
    have Kbl := Hbl
    have Hslen := hide hsn
    clear t0 t1 t2 t3 m_0 m_1 w_0 w_1 tl m_l w_l
    go_loopw [9, 10] (fun gv i wr => ∃ k : Nat, k ≤ sn ∧ i = .int .i64 k ∧ gv = .bool ((sl.take k).any (fun s => subsetB T.goal s)) ∧ Below w8.heap.size w8 wr) (fun _ i _ => sn - (intOf i).toNat)
    case atStart => exact ⟨0, by omega, rfl, rfl, Below.refl _ _⟩
    case round =>
      obtain ⟨k, hk, rfl, rfl, hb⟩ := hrel
      replace Hbl := hide (Kbl.out.trans (hb.mono Kbl.out.size))
      have Hb8 := hide hb
      clear hb
      replace Ht := hide (Kt.out.keep Hb8.out)
      replace Hm_ := hide (Km_.out.keep Hb8.out)
      replace Hw_ := hide (Kw_.out.keep Hb8.out)
      have t0 := Ht.out.cell 0
      have t1 := Ht.out.cell 1
      have t2 := Ht.out.cell 2
      have t3 := Ht.out.cell 3
      have tl := Ht.out.lt
      have m_0 := Hm_.out.cell 0
      have m_1 := Hm_.out.cell 1
      have m_l := Hm_.out.lt
      have w_0 := Hw_.out.cell 0
      have w_1 := Hw_.out.cell 1
      have w_l := Hw_.out.lt
      simp only [List.getElem?_cons_zero, List.getElem?_cons_succ] at t0 t1 t2 t3 m_0 m_1 w_0 w_1
      by_cases hlt : k < sn
      rotate_left
      · obtain rfl : k = sn := by omega
        have ht : sl.take k = sl := List.take_of_length_le (by rw [← Hslen.out]; exact Nat.le_refl _)
        rw [ht, Hany.out]
        have hl0 : ¬ (k : Int) < 0 := by omega
        go_wp2_with fail
        go_ret
        exact ⟨ret_bool (by simp), Hbl.out⟩
      obtain ⟨v, hv⟩ : ∃ z, z = (sl.take k).any (fun s => subsetB T.goal s) := ⟨_, rfl⟩
      rw [← hv]
      have Hv := hide hv
      obtain ⟨b, off, s, A1, n1, c1, rfl, hs, g0, r1⟩ := (Hsrd.out.keep Hb8.out).sl hlt
      have hki : (k : Int) < (sn : Int) := by omega
      have hnx : (sl.take (k + 1)).any (fun s => subsetB T.goal s) = (v || subsetB T.goal s) := by rw [List.take_add_one, hs, List.any_append, hv]; simp
      have hsub := Subset_ct G A1 nG cG n1 c1 T.goal s wr.drew ((H.out.goal.keep Hbl.out).qt (Qt.refl wr).drew) (r1.qt (Qt.refl wr).drew)
      have Hnx := hide hnx
      have Hsub := hide hsub
      clear hv hnx hsub hs r1
      go_upto_region 16 with (fail)
      refine wp_region_held_drew (S := (fun w' => w'.cell? ⟨gT, 2, none⟩ = some (.slice G nG cG) ∧ w'.cell? ⟨b, off + k, none⟩ = some (.slice A1 n1 c1))) (by kernel_rfl) ?_ (fun hHeld => ?_)
      · exact ⟨t2, g0⟩
      cases v with
      | true =>
        refine takeR (i := 0) (v := ?_) (some 58) rfl rfl (by kernel_rfl) (by kernel_rfl) (by kernel_rfl) (fun _ _ _ h => h) (Or.inl ⟨by rfl, ?_⟩) (by assumption) ?_
        rotate_left
        · intro w hSw; (try dsimp only at hSw); obtain ⟨s1, s2⟩ := hSw; first | (go_simp; done) | (go_simp; with_reducible rfl)
        try simp only [Act.put, List.setIfInBounds_toArray, List.set_cons_zero, List.set_cons_succ]
        refine takeR (i := 1) (v := ?_) (some 59) rfl rfl (by kernel_rfl) (by kernel_rfl) (by kernel_rfl) (fun _ _ _ h => h) (Or.inl ⟨by rfl, ?_⟩) (by assumption) ?_
        rotate_left
        · intro w hSw; (try dsimp only at hSw); obtain ⟨s1, s2⟩ := hSw; first | (go_simp; done) | (go_simp; with_reducible rfl)
        try simp only [Act.put, List.setIfInBounds_toArray, List.set_cons_zero, List.set_cons_succ]
        refine takeR (i := 2) (v := undef) (some 60) rfl rfl (by kernel_rfl) (by kernel_rfl) (by kernel_rfl) (fun _ _ _ h => h) (Or.inr ⟨by rfl, rfl⟩) (by assumption) ?_
        try simp only [Act.put, List.setIfInBounds_toArray, List.set_cons_zero, List.set_cons_succ]
        refine takeR (i := 3) (v := undef) (some 61) rfl rfl (by kernel_rfl) (by kernel_rfl) (by kernel_rfl) (fun _ _ _ h => h) (Or.inr ⟨by rfl, rfl⟩) (by assumption) ?_
        try simp only [Act.put, List.setIfInBounds_toArray, List.set_cons_zero, List.set_cons_succ]
        refine takeR (i := 4) (v := undef) (some 62) rfl rfl (by kernel_rfl) (by kernel_rfl) (by kernel_rfl) (fun _ _ _ h => h) (Or.inr ⟨by rfl, rfl⟩) (by assumption) ?_
        try simp only [Act.put, List.setIfInBounds_toArray, List.set_cons_zero, List.set_cons_succ]
        refine takeR (i := 5) (v := undef) (some 63) rfl rfl (by kernel_rfl) (by kernel_rfl) (by kernel_rfl) (fun _ _ _ h => h) (Or.inr ⟨by rfl, rfl⟩) (by assumption) ?_
        try simp only [Act.put, List.setIfInBounds_toArray, List.set_cons_zero, List.set_cons_succ]
        refine takeR (i := 6) (v := undef) (some 64) rfl rfl (by kernel_rfl) (by kernel_rfl) (by kernel_rfl) (fun _ _ _ h => h) (Or.inr ⟨by rfl, rfl⟩) (by assumption) ?_
        try simp only [Act.put, List.setIfInBounds_toArray, List.set_cons_zero, List.set_cons_succ]
        refine takeR (i := 7) (v := undef) (some 65) rfl rfl (by kernel_rfl) (by kernel_rfl) (by kernel_rfl) (fun _ _ _ h => h) (Or.inr ⟨by rfl, rfl⟩) (by assumption) ?_
        try simp only [Act.put, List.setIfInBounds_toArray, List.set_cons_zero, List.set_cons_succ]
        refine takeR (i := 8) (v := undef) (some 66) rfl rfl (by kernel_rfl) (by kernel_rfl) (by kernel_rfl) (fun _ _ _ h => h) (Or.inr ⟨by rfl, rfl⟩) (by assumption) ?_
        try simp only [Act.put, List.setIfInBounds_toArray, List.set_cons_zero, List.set_cons_succ]
        refine takeR (i := 9) (v := ?_) (some 67) rfl rfl (by kernel_rfl) (by kernel_rfl) (by kernel_rfl) (fun _ _ _ h => h) (Or.inl ⟨by rfl, ?_⟩) (by assumption) ?_
        rotate_left
        · intro w hSw; (try dsimp only at hSw); obtain ⟨s1, s2⟩ := hSw; first | (go_simp; done) | (go_simp; with_reducible rfl)
        try simp only [Act.put, List.setIfInBounds_toArray, List.set_cons_zero, List.set_cons_succ]
        refine takeR (i := 10) (v := ?_) (some 9) rfl rfl (by kernel_rfl) (by kernel_rfl) (by kernel_rfl) (fun _ _ _ h => h) (Or.inl ⟨by rfl, ?_⟩) (by assumption) ?_
        rotate_left
        · intro w hSw; (try dsimp only at hSw); obtain ⟨s1, s2⟩ := hSw; first | (go_simp; done) | (go_simp; with_reducible rfl)
        try simp only [Act.put, List.setIfInBounds_toArray, List.set_cons_zero, List.set_cons_succ]
        refine wpAnyH_done (by kernel_rfl) ?_ _
        go_wp2_with fail
        go_roundw
        case rel => exact ⟨k + 1, by omega, by go_num, by rw [Hnx.out]; rfl, Hb8.out.drew⟩
        case measure => simp [intOf]; omega
      | false =>
        refine takeR (i := 0) (v := ?_) (some 58) rfl rfl (by kernel_rfl) (by kernel_rfl) (by kernel_rfl) (fun _ _ _ h => h) (Or.inl ⟨by rfl, ?_⟩) (by assumption) ?_
        rotate_left
        · intro w hSw; (try dsimp only at hSw); obtain ⟨s1, s2⟩ := hSw; first | (go_simp; done) | (go_simp; with_reducible rfl)
        try simp only [Act.put, List.setIfInBounds_toArray, List.set_cons_zero, List.set_cons_succ]
        refine takeR (i := 1) (v := ?_) (some 59) rfl rfl (by kernel_rfl) (by kernel_rfl) (by kernel_rfl) (fun _ _ _ h => h) (Or.inl ⟨by rfl, ?_⟩) (by assumption) ?_
        rotate_left
        · intro w hSw; (try dsimp only at hSw); obtain ⟨s1, s2⟩ := hSw; first | (go_simp; done) | (go_simp; with_reducible rfl)
        try simp only [Act.put, List.setIfInBounds_toArray, List.set_cons_zero, List.set_cons_succ]
        refine takeR (i := 2) (v := ?_) (some 60) rfl rfl (by kernel_rfl) (by kernel_rfl) (by kernel_rfl) (fun _ _ _ h => h) (Or.inl ⟨by rfl, ?_⟩) (by assumption) ?_
        rotate_left
        · intro w hSw; (try dsimp only at hSw); obtain ⟨s1, s2⟩ := hSw; first | (go_simp; done) | (go_simp; with_reducible rfl)
        try simp only [Act.put, List.setIfInBounds_toArray, List.set_cons_zero, List.set_cons_succ]
        refine takeR (i := 3) (v := ?_) (some 61) rfl rfl (by kernel_rfl) (by kernel_rfl) (by kernel_rfl) (fun _ _ _ h => h) (Or.inl ⟨by rfl, ?_⟩) (by assumption) ?_
        rotate_left
        · intro w hSw; (try dsimp only at hSw); obtain ⟨s1, s2⟩ := hSw; first | (go_simp; done) | (go_simp; with_reducible rfl)
        try simp only [Act.put, List.setIfInBounds_toArray, List.set_cons_zero, List.set_cons_succ]
        refine takeR (i := 4) (v := ?_) (some 62) rfl rfl (by kernel_rfl) (by kernel_rfl) (by kernel_rfl) (fun _ _ _ h => h) (Or.inl ⟨by rfl, ?_⟩) (by assumption) ?_
        rotate_left
        · intro w hSw; (try dsimp only at hSw); obtain ⟨s1, s2⟩ := hSw; first | (go_simp; done) | (go_simp; with_reducible rfl)
        try simp only [Act.put, List.setIfInBounds_toArray, List.set_cons_zero, List.set_cons_succ]
        refine takeR (i := 5) (v := ?_) (some 63) rfl rfl (by kernel_rfl) (by kernel_rfl) (by kernel_rfl) (fun _ _ _ h => h) (Or.inl ⟨by rfl, ?_⟩) (by assumption) ?_
        rotate_left
        · intro w hSw; (try dsimp only at hSw); obtain ⟨s1, s2⟩ := hSw; first | (go_simp; done) | (go_simp; with_reducible rfl)
        try simp only [Act.put, List.setIfInBounds_toArray, List.set_cons_zero, List.set_cons_succ]
        refine takeR (i := 6) (v := ?_) (some 64) rfl rfl (by kernel_rfl) (by kernel_rfl) (by kernel_rfl) (fun _ _ _ h => h) (Or.inl ⟨by rfl, ?_⟩) (by assumption) ?_
        rotate_left
        · intro w hSw; (try dsimp only at hSw); obtain ⟨s1, s2⟩ := hSw; first | (go_simp; done) | (go_simp; with_reducible rfl)
        try simp only [Act.put, List.setIfInBounds_toArray, List.set_cons_zero, List.set_cons_succ]
        refine takeR (i := 7) (v := ?_) (some 65) rfl rfl (by kernel_rfl) (by kernel_rfl) (by kernel_rfl) (fun _ _ _ h => h) (Or.inl ⟨by rfl, ?_⟩) (by assumption) ?_
        rotate_left
        · intro w hSw; (try dsimp only at hSw); obtain ⟨s1, s2⟩ := hSw; first | (go_simp; done) | (go_simp; with_reducible rfl)
        try simp only [Act.put, List.setIfInBounds_toArray, List.set_cons_zero, List.set_cons_succ]
        refine wpAnyH_ready (rs := [8]) (by kernel_rfl) (by simp) ?_
        refine AllReadyH.cons rfl (fun K hK => ?_) AllReadyH.nil
        go_simp
        refine Hsub.out.mono ?_
        rintro e w9 ⟨rfl, hq9⟩
        go_simp
        have hb := (Below.refl wr.heap.size wr).drew.trans (hq9.below wr.heap.size)
        have gb := World.block_lt_of_cell? wr _ g0
        replace t2 := (hb.cell (p := ⟨gT, 2, none⟩) tl).trans t2
        replace g0 := (hb.cell (p := ⟨b, off + k, none⟩) gb).trans g0
        refine hK.out _ _ ?_ (fun hHeld2 => ?_)
        · exact ⟨t2, g0⟩
        clear hK K hHeld
        try simp only [Act.put, List.setIfInBounds_toArray, List.set_cons_zero, List.set_cons_succ]
        have hHeld := hHeld2; clear hHeld2
        refine takeR (i := 9) (v := ?_) (some 67) rfl rfl (by kernel_rfl) (by kernel_rfl) (by kernel_rfl) (fun _ _ _ h => h) (Or.inl ⟨by rfl, ?_⟩) (by assumption) ?_
        rotate_left
        · intro w hSw; (try dsimp only at hSw); obtain ⟨s1, s2⟩ := hSw; first | (go_simp; done) | (go_simp; with_reducible rfl)
        try simp only [Act.put, List.setIfInBounds_toArray, List.set_cons_zero, List.set_cons_succ]
        refine takeR (i := 10) (v := ?_) (some 9) rfl rfl (by kernel_rfl) (by kernel_rfl) (by kernel_rfl) (fun _ _ _ h => h) (Or.inl ⟨by rfl, ?_⟩) (by assumption) ?_
        rotate_left
        · intro w hSw; (try dsimp only at hSw); obtain ⟨s1, s2⟩ := hSw; first | (go_simp; done) | (go_simp; with_reducible rfl)
        try simp only [Act.put, List.setIfInBounds_toArray, List.set_cons_zero, List.set_cons_succ]
        refine wpAnyH_done (by kernel_rfl) ?_ _
        replace Hb8 := hide (Hb8.out.trans (hb.mono Hb8.out.size))
        clear hb t2 g0
        go_wp2_with fail
        go_roundw
        case rel => exact ⟨k + 1, by omega, by go_num, by rw [Hnx.out]; rfl, Hb8.out⟩
        case measure => simp [intOf]; omega
  · skip
    have h1' : ec = 0 := h1
    subst h1'
    have hz := taskFault_zero (T := T) (by rw [Hq.out])
    rw [Hq.out] at hz
    obtain ⟨_, e2⟩ := Prod.mk.inj hz
    subst e2
    clear hz h1
    have hsome : ∃ sl, refReach T = some sl := by
      cases hr : refReach T with
      | none =>
        have := many_not_all (reach_none hok hr) hlist.all
        have := hlist.few
        omega
      | some sl => exact ⟨sl, rfl⟩
    obtain ⟨sl, hsl⟩ := hsome
    obtain ⟨s1, s2, s3⟩ := reach_some hok hsl
    have hlen := hlist.all.len s1
    rw [List.length_map] at hlen
    have hany : sl.any (fun s => subsetB T.goal s) = false := by
      rw [Bool.eq_false_iff]
      intro e
      obtain ⟨y, hy, hye⟩ := List.any_eq_true.1 e
      rw [← goal_word (s3 y hy) hok.goal] at hye
      have := hng _ ((hlist.all.mem _).2 ((s1.mem _).1 (List.mem_map_of_mem hy)))
      rw [hye] at this
      cases this
    have Hany := hide hany
    have hre := fun W hT => Hre.out N W hT hok
    rw [hsl] at hre
    replace Hre := hide hre
    have Hok := hide hok
    have Hs3 := hide s3
    have hN := hok.low
    have HfN := hide hok.facts
    have hfew := hlist.few
    clear hsl s1 s3 hany hre
    have hsm := sets_made hok hfew hmd
    have hprv := (proves_law hok hmd.ok).2 (made_proof hok hlist.all hng hmd)
    have hcl : np ≤ sl.length := by have e1 := hmd.few; have e2 := hrd.len; omega
    have Hrd := hide hrd
    have Hsm := hide hsm
    have Hprv := hide hprv
    have hcl0 := hrd.low
    clear hsm hprv hrd hmd hng
    clear hlist hok
    unfold fault
    go_upto_region 4 with (fail)
    have n_t_m_ : ¬ gT = w2.heap.size := by omega
    have n_m__t : ¬ w2.heap.size = gT := by omega
    have s_t : gT < w2.heap.size := tl
    have s_0 : B0 ≤ w2.heap.size := Nat.le_trans (Nat.le_of_eq HB0.out) Hbl.out.size
    have hym_ := Blk.new (w2) 29 [.int .i64 0, .int .i64 0]
    have hbW : Below (w2).heap.size (w2) ((w2).alloc (.cells #[.int .i64 0, .int .i64 0] 29)) := (Below.refl _ _).alloc (Nat.le_refl _) _
    obtain ⟨w3, hW⟩ : ∃ W, W = (w2).alloc (.cells #[.int .i64 0, .int .i64 0] 29) := ⟨_, rfl⟩
    rw [← hW] at hym_ hbW ⊢
    replace Ht := hide (Ht.out.keep hbW)
    replace Hrd := hide (Hrd.out.keep hbW)
    replace Hbl := hide (Hbl.out.trans (hbW.mono Hbl.out.size))
    have Hm_ := hide hym_
    clear hW hbW hym_
    generalize w2.heap.size = gm at Hm_ n_t_m_ n_m__t s_t s_0 ⊢
    have t0 := Ht.out.cell 0
    have t1 := Ht.out.cell 1
    have t2 := Ht.out.cell 2
    have t3 := Ht.out.cell 3
    have tl := Ht.out.lt
    have m_0 := Hm_.out.cell 0
    have m_1 := Hm_.out.cell 1
    have m_l := Hm_.out.lt
    simp only [List.getElem?_cons_zero, List.getElem?_cons_succ] at t0 t1 t2 t3 m_0 m_1
    clear s_t
    have a_m_ : B0 ≤ gm := by omega
    clear s_0
    go_wp2_with fail
    with_reducible refine (Htf.out w3 (H.out.keep Hbl.out)).mono ?_
    rintro e w4 ⟨rfl, hb⟩
    clear t0 t1 t2 t3 m_0 m_1 tl m_l
    replace Ht := hide (Ht.out.keep hb)
    replace Hm_ := hide (Hm_.out.keep hb)
    replace Hrd := hide (Hrd.out.keep hb)
    replace Hbl := hide (Hbl.out.trans (hb.mono Hbl.out.size))
    clear hb
    have t0 := Ht.out.cell 0
    have t1 := Ht.out.cell 1
    have t2 := Ht.out.cell 2
    have t3 := Ht.out.cell 3
    have tl := Ht.out.lt
    have m_0 := Hm_.out.cell 0
    have m_1 := Hm_.out.cell 1
    have m_l := Hm_.out.lt
    simp only [List.getElem?_cons_zero, List.getElem?_cons_succ] at t0 t1 t2 t3 m_0 m_1
    unfold fault
    go_upto_region 5 with (fail)
    have n_t_w_ : ¬ gT = w4.heap.size := by omega
    have n_w__t : ¬ w4.heap.size = gT := by omega
    have n_m__w_ : ¬ gm = w4.heap.size := by omega
    have n_w__m_ : ¬ w4.heap.size = gm := by omega
    have s_t : gT < w4.heap.size := tl
    have s_m_ : gm < w4.heap.size := m_l
    have s_0 : B0 ≤ w4.heap.size := Nat.le_trans (Nat.le_of_eq HB0.out) Hbl.out.size
    have hyw_ := Blk.new (w4) 29 [.int .i64 0, .int .i64 0]
    have hbW : Below (w4).heap.size (w4) ((w4).alloc (.cells #[.int .i64 0, .int .i64 0] 29)) := (Below.refl _ _).alloc (Nat.le_refl _) _
    obtain ⟨w5, hW⟩ : ∃ W, W = (w4).alloc (.cells #[.int .i64 0, .int .i64 0] 29) := ⟨_, rfl⟩
    rw [← hW] at hyw_ hbW ⊢
    replace Ht := hide (Ht.out.keep hbW)
    replace Hm_ := hide (Hm_.out.keep hbW)
    replace Hrd := hide (Hrd.out.keep hbW)
    replace Hbl := hide (Hbl.out.trans (hbW.mono Hbl.out.size))
    have Hw_ := hide hyw_
    clear hW hbW hyw_
    generalize w4.heap.size = gw at Hw_ n_t_w_ n_w__t n_m__w_ n_w__m_ s_t s_m_ s_0 ⊢
    have t0 := Ht.out.cell 0
    have t1 := Ht.out.cell 1
    have t2 := Ht.out.cell 2
    have t3 := Ht.out.cell 3
    have tl := Ht.out.lt
    have m_0 := Hm_.out.cell 0
    have m_1 := Hm_.out.cell 1
    have m_l := Hm_.out.lt
    have w_0 := Hw_.out.cell 0
    have w_1 := Hw_.out.cell 1
    have w_l := Hw_.out.lt
    simp only [List.getElem?_cons_zero, List.getElem?_cons_succ] at t0 t1 t2 t3 m_0 m_1 w_0 w_1
    clear s_t
    clear s_m_
    have a_w_ : B0 ≤ gw := by omega
    clear s_0
    go_wp2_with fail
    with_reducible refine (one_ct w5).mono ?_
    rintro e w6 ⟨hb, a1, rfl, hn1, ht1⟩
    clear t0 t1 t2 t3 m_0 m_1 w_0 w_1 tl m_l w_l
    replace Ht := hide (Ht.out.keep hb)
    replace Hm_ := hide (Hm_.out.keep hb)
    replace Hw_ := hide (Hw_.out.keep hb)
    replace Hrd := hide (Hrd.out.keep hb)
    replace Hbl := hide (Hbl.out.trans (hb.mono Hbl.out.size))
    clear hb
    have Ht1 := hide ht1
    clear ht1 hn1
    unfold taskVo
    have t0 := Ht.out.cell 0
    have t1 := Ht.out.cell 1
    have t2 := Ht.out.cell 2
    have t3 := Ht.out.cell 3
    have tl := Ht.out.lt
    have m_0 := Hm_.out.cell 0
    have m_1 := Hm_.out.cell 1
    have m_l := Hm_.out.lt
    have w_0 := Hw_.out.cell 0
    have w_1 := Hw_.out.cell 1
    have w_l := Hw_.out.lt
    simp only [List.getElem?_cons_zero, List.getElem?_cons_succ] at t0 t1 t2 t3 m_0 m_1 w_0 w_1
    go_wp2_with fail
    with_reducible refine (Reached_ct a1 oneT 1 w6 Ht1.out one_okD).mono ?_
    rintro e w7 ⟨hb, hres⟩
    obtain ⟨R1, fit1, rfl⟩ : ∃ (R1 : Value) (fit1 : Bool), e = .returned (.tuple #[R1, .bool fit1]) := by
      cases hr1 : refReach oneT with
      | none => rw [hr1] at hres; exact ⟨_, _, hres⟩
      | some l1 => rw [hr1] at hres; obtain ⟨_, _, h1, _⟩ := hres; exact ⟨_, _, h1⟩
    clear hres Ht1
    clear t0 t1 t2 t3 m_0 m_1 w_0 w_1 tl m_l w_l
    replace Ht := hide (Ht.out.keep hb)
    replace Hm_ := hide (Hm_.out.keep hb)
    replace Hw_ := hide (Hw_.out.keep hb)
    replace Hrd := hide (Hrd.out.keep hb)
    replace Hbl := hide (Hbl.out.trans (hb.mono Hbl.out.size))
    clear hb
    have t0 := Ht.out.cell 0
    have t1 := Ht.out.cell 1
    have t2 := Ht.out.cell 2
    have t3 := Ht.out.cell 3
    have tl := Ht.out.lt
    have m_0 := Hm_.out.cell 0
    have m_1 := Hm_.out.cell 1
    have m_l := Hm_.out.lt
    have w_0 := Hw_.out.cell 0
    have w_1 := Hw_.out.cell 1
    have w_l := Hw_.out.lt
    simp only [List.getElem?_cons_zero, List.getElem?_cons_succ] at t0 t1 t2 t3 m_0 m_1 w_0 w_1
    go_wp2_with fail
    with_reducible refine (Hre.out _ (H.out.keep Hbl.out)).mono ?_
    rintro e w8 ⟨hb, Sa, sc, rfl, hsrd⟩
    have hslow := hsrd.low
    have Hsrd := hide hsrd
    clear hsrd
    clear t0 t1 t2 t3 m_0 m_1 w_0 w_1 tl m_l w_l
    replace Ht := hide (Ht.out.keep hb)
    replace Hm_ := hide (Hm_.out.keep hb)
    replace Hw_ := hide (Hw_.out.keep hb)
    replace Hrd := hide (Hrd.out.keep hb)
    replace Hbl := hide (Hbl.out.trans (hb.mono Hbl.out.size))
    clear hb
    have t0 := Ht.out.cell 0
    have t1 := Ht.out.cell 1
    have t2 := Ht.out.cell 2
    have t3 := Ht.out.cell 3
    have tl := Ht.out.lt
    have m_0 := Hm_.out.cell 0
    have m_1 := Hm_.out.cell 1
    have m_l := Hm_.out.lt
    have w_0 := Hw_.out.cell 0
    have w_1 := Hw_.out.cell 1
    have w_l := Hw_.out.lt
    simp only [List.getElem?_cons_zero, List.getElem?_cons_succ] at t0 t1 t2 t3 m_0 m_1 w_0 w_1
    obtain ⟨sn, hsn⟩ : ∃ z, z = sl.length := ⟨_, rfl⟩
    rw [← hsn] at Hsrd hslow hlen ⊢
    rw [← hsn] at hcl
    go_wp2_with fail
    have Kt := Ht
    have Km_ := Hm_
    have Kw_ := Hw_
    have Kbl := Hbl
    have Hslen := hide hsn
    have Krd := Hrd
    clear t0 t1 t2 t3 m_0 m_1 w_0 w_1 tl m_l w_l
    go_loopw [9, 10] (fun gv i wr => ∃ k : Nat, k ≤ sn ∧ i = .int .i64 k ∧ gv = .bool ((sl.take k).any (fun s => subsetB T.goal s)) ∧ Below w8.heap.size w8 wr) (fun _ i _ => sn - (intOf i).toNat)
    case atStart => exact ⟨0, by omega, rfl, rfl, Below.refl _ _⟩
    case round =>
      obtain ⟨k, hk, rfl, rfl, hb⟩ := hrel
      replace Hbl := hide (Kbl.out.trans (hb.mono Kbl.out.size))
      have Hb8 := hide hb
      clear hb
      replace Ht := hide (Kt.out.keep Hb8.out)
      replace Hm_ := hide (Km_.out.keep Hb8.out)
      replace Hw_ := hide (Kw_.out.keep Hb8.out)
      have t0 := Ht.out.cell 0
      have t1 := Ht.out.cell 1
      have t2 := Ht.out.cell 2
      have t3 := Ht.out.cell 3
      have tl := Ht.out.lt
      have m_0 := Hm_.out.cell 0
      have m_1 := Hm_.out.cell 1
      have m_l := Hm_.out.lt
      have w_0 := Hw_.out.cell 0
      have w_1 := Hw_.out.cell 1
      have w_l := Hw_.out.lt
      simp only [List.getElem?_cons_zero, List.getElem?_cons_succ] at t0 t1 t2 t3 m_0 m_1 w_0 w_1
      by_cases hlt : k < sn
      rotate_left
      · obtain rfl : k = sn := by omega
        have ht : sl.take k = sl := List.take_of_length_le (by rw [← Hslen.out]; exact Nat.le_refl _)
        rw [ht, Hany.out]
        have hl0 : ¬ (k : Int) < (np : Int) := by omega
        replace Hrd := hide (Krd.out.keep Hb8.out)
        have hsfc := Hsf.out P np pc cs wr (H.out.keep Hbl.out) (Krd.out.keep Hb8.out)
        rw [Hsm.out] at hsfc
        unfold fault at hsfc
        dsimp only at hsfc
        go_wp2_with fail
        with_reducible refine (hsfc).mono ?_
        rintro e w9 ⟨rfl, hb⟩
        clear t0 t1 t2 t3 m_0 m_1 w_0 w_1 tl m_l w_l
        replace Ht := hide (Ht.out.keep hb)
        replace Hm_ := hide (Hm_.out.keep hb)
        replace Hw_ := hide (Hw_.out.keep hb)
        replace Hrd := hide (Hrd.out.keep hb)
        replace Hbl := hide (Hbl.out.trans (hb.mono Hbl.out.size))
        clear hb
        have t0 := Ht.out.cell 0
        have t1 := Ht.out.cell 1
        have t2 := Ht.out.cell 2
        have t3 := Ht.out.cell 3
        have tl := Ht.out.lt
        have m_0 := Hm_.out.cell 0
        have m_1 := Hm_.out.cell 1
        have m_l := Hm_.out.lt
        have w_0 := Hw_.out.cell 0
        have w_1 := Hw_.out.cell 1
        have w_l := Hw_.out.lt
        simp only [List.getElem?_cons_zero, List.getElem?_cons_succ] at t0 t1 t2 t3 m_0 m_1 w_0 w_1
        by_cases h9 : (9 : Int) < T.facts
        · go_wp2_with fail
          go_ret
          exact ⟨ret_bool (by simp), Hbl.out⟩
        have hpv := Hpr.out N P np pc cs w9 (H.out.keep Hbl.out) Hok.out Hrd.out
        rw [Hprv.out] at hpv
        go_wp2_with fail
        with_reducible refine (hpv).mono ?_
        rintro e w10 ⟨rfl, hb⟩
        clear t0 t1 t2 t3 m_0 m_1 w_0 w_1 tl m_l w_l
        replace Ht := hide (Ht.out.keep hb)
        replace Hm_ := hide (Hm_.out.keep hb)
        replace Hw_ := hide (Hw_.out.keep hb)
        replace Hrd := hide (Hrd.out.keep hb)
        replace Hbl := hide (Hbl.out.trans (hb.mono Hbl.out.size))
        clear hb
        have t0 := Ht.out.cell 0
        have t1 := Ht.out.cell 1
        have t2 := Ht.out.cell 2
        have t3 := Ht.out.cell 3
        have tl := Ht.out.lt
        have m_0 := Hm_.out.cell 0
        have m_1 := Hm_.out.cell 1
        have m_l := Hm_.out.lt
        have w_0 := Hw_.out.cell 0
        have w_1 := Hw_.out.cell 1
        have w_l := Hw_.out.lt
        simp only [List.getElem?_cons_zero, List.getElem?_cons_succ] at t0 t1 t2 t3 m_0 m_1 w_0 w_1
        go_wp2_with fail
        go_ret
        exact ⟨ret_bool (by simp), Hbl.out⟩
      obtain ⟨v, hv⟩ : ∃ z, z = (sl.take k).any (fun s => subsetB T.goal s) := ⟨_, rfl⟩
      rw [← hv]
      have Hv := hide hv
      obtain ⟨b, off, s, A1, n1, c1, rfl, hs, g0, r1⟩ := (Hsrd.out.keep Hb8.out).sl hlt
      have hki : (k : Int) < (sn : Int) := by omega
      have hnx : (sl.take (k + 1)).any (fun s => subsetB T.goal s) = (v || subsetB T.goal s) := by rw [List.take_add_one, hs, List.any_append, hv]; simp
      have hsub := Subset_ct G A1 nG cG n1 c1 T.goal s wr.drew ((H.out.goal.keep Hbl.out).qt (Qt.refl wr).drew) (r1.qt (Qt.refl wr).drew)
      have Hnx := hide hnx
      have Hsub := hide hsub
      clear hv hnx hsub hs r1
      go_upto_region 16 with (fail)
      refine wp_region_held_drew (S := (fun w' => w'.cell? ⟨gT, 2, none⟩ = some (.slice G nG cG) ∧ w'.cell? ⟨b, off + k, none⟩ = some (.slice A1 n1 c1))) (by kernel_rfl) ?_ (fun hHeld => ?_)
      · exact ⟨t2, g0⟩
      cases v with
      | true =>
        refine takeR (i := 0) (v := ?_) (some 58) rfl rfl (by kernel_rfl) (by kernel_rfl) (by kernel_rfl) (fun _ _ _ h => h) (Or.inl ⟨by rfl, ?_⟩) (by assumption) ?_
        rotate_left
        · intro w hSw; (try dsimp only at hSw); obtain ⟨s1, s2⟩ := hSw; first | (go_simp; done) | (go_simp; with_reducible rfl)
        try simp only [Act.put, List.setIfInBounds_toArray, List.set_cons_zero, List.set_cons_succ]
        refine takeR (i := 1) (v := ?_) (some 59) rfl rfl (by kernel_rfl) (by kernel_rfl) (by kernel_rfl) (fun _ _ _ h => h) (Or.inl ⟨by rfl, ?_⟩) (by assumption) ?_
        rotate_left
        · intro w hSw; (try dsimp only at hSw); obtain ⟨s1, s2⟩ := hSw; first | (go_simp; done) | (go_simp; with_reducible rfl)
        try simp only [Act.put, List.setIfInBounds_toArray, List.set_cons_zero, List.set_cons_succ]
        refine takeR (i := 2) (v := undef) (some 60) rfl rfl (by kernel_rfl) (by kernel_rfl) (by kernel_rfl) (fun _ _ _ h => h) (Or.inr ⟨by rfl, rfl⟩) (by assumption) ?_
        try simp only [Act.put, List.setIfInBounds_toArray, List.set_cons_zero, List.set_cons_succ]
        refine takeR (i := 3) (v := undef) (some 61) rfl rfl (by kernel_rfl) (by kernel_rfl) (by kernel_rfl) (fun _ _ _ h => h) (Or.inr ⟨by rfl, rfl⟩) (by assumption) ?_
        try simp only [Act.put, List.setIfInBounds_toArray, List.set_cons_zero, List.set_cons_succ]
        refine takeR (i := 4) (v := undef) (some 62) rfl rfl (by kernel_rfl) (by kernel_rfl) (by kernel_rfl) (fun _ _ _ h => h) (Or.inr ⟨by rfl, rfl⟩) (by assumption) ?_
        try simp only [Act.put, List.setIfInBounds_toArray, List.set_cons_zero, List.set_cons_succ]
        refine takeR (i := 5) (v := undef) (some 63) rfl rfl (by kernel_rfl) (by kernel_rfl) (by kernel_rfl) (fun _ _ _ h => h) (Or.inr ⟨by rfl, rfl⟩) (by assumption) ?_
        try simp only [Act.put, List.setIfInBounds_toArray, List.set_cons_zero, List.set_cons_succ]
        refine takeR (i := 6) (v := undef) (some 64) rfl rfl (by kernel_rfl) (by kernel_rfl) (by kernel_rfl) (fun _ _ _ h => h) (Or.inr ⟨by rfl, rfl⟩) (by assumption) ?_
        try simp only [Act.put, List.setIfInBounds_toArray, List.set_cons_zero, List.set_cons_succ]
        refine takeR (i := 7) (v := undef) (some 65) rfl rfl (by kernel_rfl) (by kernel_rfl) (by kernel_rfl) (fun _ _ _ h => h) (Or.inr ⟨by rfl, rfl⟩) (by assumption) ?_
        try simp only [Act.put, List.setIfInBounds_toArray, List.set_cons_zero, List.set_cons_succ]
        refine takeR (i := 8) (v := undef) (some 66) rfl rfl (by kernel_rfl) (by kernel_rfl) (by kernel_rfl) (fun _ _ _ h => h) (Or.inr ⟨by rfl, rfl⟩) (by assumption) ?_
        try simp only [Act.put, List.setIfInBounds_toArray, List.set_cons_zero, List.set_cons_succ]
        refine takeR (i := 9) (v := ?_) (some 67) rfl rfl (by kernel_rfl) (by kernel_rfl) (by kernel_rfl) (fun _ _ _ h => h) (Or.inl ⟨by rfl, ?_⟩) (by assumption) ?_
        rotate_left
        · intro w hSw; (try dsimp only at hSw); obtain ⟨s1, s2⟩ := hSw; first | (go_simp; done) | (go_simp; with_reducible rfl)
        try simp only [Act.put, List.setIfInBounds_toArray, List.set_cons_zero, List.set_cons_succ]
        refine takeR (i := 10) (v := ?_) (some 9) rfl rfl (by kernel_rfl) (by kernel_rfl) (by kernel_rfl) (fun _ _ _ h => h) (Or.inl ⟨by rfl, ?_⟩) (by assumption) ?_
        rotate_left
        · intro w hSw; (try dsimp only at hSw); obtain ⟨s1, s2⟩ := hSw; first | (go_simp; done) | (go_simp; with_reducible rfl)
        try simp only [Act.put, List.setIfInBounds_toArray, List.set_cons_zero, List.set_cons_succ]
        refine wpAnyH_done (by kernel_rfl) ?_ _
        go_wp2_with fail
        go_roundw
        case rel => exact ⟨k + 1, by omega, by go_num, by rw [Hnx.out]; rfl, Hb8.out.drew⟩
        case measure => simp [intOf]; omega
      | false =>
        refine takeR (i := 0) (v := ?_) (some 58) rfl rfl (by kernel_rfl) (by kernel_rfl) (by kernel_rfl) (fun _ _ _ h => h) (Or.inl ⟨by rfl, ?_⟩) (by assumption) ?_
        rotate_left
        · intro w hSw; (try dsimp only at hSw); obtain ⟨s1, s2⟩ := hSw; first | (go_simp; done) | (go_simp; with_reducible rfl)
        try simp only [Act.put, List.setIfInBounds_toArray, List.set_cons_zero, List.set_cons_succ]
        refine takeR (i := 1) (v := ?_) (some 59) rfl rfl (by kernel_rfl) (by kernel_rfl) (by kernel_rfl) (fun _ _ _ h => h) (Or.inl ⟨by rfl, ?_⟩) (by assumption) ?_
        rotate_left
        · intro w hSw; (try dsimp only at hSw); obtain ⟨s1, s2⟩ := hSw; first | (go_simp; done) | (go_simp; with_reducible rfl)
        try simp only [Act.put, List.setIfInBounds_toArray, List.set_cons_zero, List.set_cons_succ]
        refine takeR (i := 2) (v := ?_) (some 60) rfl rfl (by kernel_rfl) (by kernel_rfl) (by kernel_rfl) (fun _ _ _ h => h) (Or.inl ⟨by rfl, ?_⟩) (by assumption) ?_
        rotate_left
        · intro w hSw; (try dsimp only at hSw); obtain ⟨s1, s2⟩ := hSw; first | (go_simp; done) | (go_simp; with_reducible rfl)
        try simp only [Act.put, List.setIfInBounds_toArray, List.set_cons_zero, List.set_cons_succ]
        refine takeR (i := 3) (v := ?_) (some 61) rfl rfl (by kernel_rfl) (by kernel_rfl) (by kernel_rfl) (fun _ _ _ h => h) (Or.inl ⟨by rfl, ?_⟩) (by assumption) ?_
        rotate_left
        · intro w hSw; (try dsimp only at hSw); obtain ⟨s1, s2⟩ := hSw; first | (go_simp; done) | (go_simp; with_reducible rfl)
        try simp only [Act.put, List.setIfInBounds_toArray, List.set_cons_zero, List.set_cons_succ]
        refine takeR (i := 4) (v := ?_) (some 62) rfl rfl (by kernel_rfl) (by kernel_rfl) (by kernel_rfl) (fun _ _ _ h => h) (Or.inl ⟨by rfl, ?_⟩) (by assumption) ?_
        rotate_left
        · intro w hSw; (try dsimp only at hSw); obtain ⟨s1, s2⟩ := hSw; first | (go_simp; done) | (go_simp; with_reducible rfl)
        try simp only [Act.put, List.setIfInBounds_toArray, List.set_cons_zero, List.set_cons_succ]
        refine takeR (i := 5) (v := ?_) (some 63) rfl rfl (by kernel_rfl) (by kernel_rfl) (by kernel_rfl) (fun _ _ _ h => h) (Or.inl ⟨by rfl, ?_⟩) (by assumption) ?_
        rotate_left
        · intro w hSw; (try dsimp only at hSw); obtain ⟨s1, s2⟩ := hSw; first | (go_simp; done) | (go_simp; with_reducible rfl)
        try simp only [Act.put, List.setIfInBounds_toArray, List.set_cons_zero, List.set_cons_succ]
        refine takeR (i := 6) (v := ?_) (some 64) rfl rfl (by kernel_rfl) (by kernel_rfl) (by kernel_rfl) (fun _ _ _ h => h) (Or.inl ⟨by rfl, ?_⟩) (by assumption) ?_
        rotate_left
        · intro w hSw; (try dsimp only at hSw); obtain ⟨s1, s2⟩ := hSw; first | (go_simp; done) | (go_simp; with_reducible rfl)
        try simp only [Act.put, List.setIfInBounds_toArray, List.set_cons_zero, List.set_cons_succ]
        refine takeR (i := 7) (v := ?_) (some 65) rfl rfl (by kernel_rfl) (by kernel_rfl) (by kernel_rfl) (fun _ _ _ h => h) (Or.inl ⟨by rfl, ?_⟩) (by assumption) ?_
        rotate_left
        · intro w hSw; (try dsimp only at hSw); obtain ⟨s1, s2⟩ := hSw; first | (go_simp; done) | (go_simp; with_reducible rfl)
        try simp only [Act.put, List.setIfInBounds_toArray, List.set_cons_zero, List.set_cons_succ]
        refine wpAnyH_ready (rs := [8]) (by kernel_rfl) (by simp) ?_
        refine AllReadyH.cons rfl (fun K hK => ?_) AllReadyH.nil
        go_simp
        refine Hsub.out.mono ?_
        rintro e w9 ⟨rfl, hq9⟩
        go_simp
        have hb := (Below.refl wr.heap.size wr).drew.trans (hq9.below wr.heap.size)
        have gb := World.block_lt_of_cell? wr _ g0
        replace t2 := (hb.cell (p := ⟨gT, 2, none⟩) tl).trans t2
        replace g0 := (hb.cell (p := ⟨b, off + k, none⟩) gb).trans g0
        refine hK.out _ _ ?_ (fun hHeld2 => ?_)
        · exact ⟨t2, g0⟩
        clear hK K hHeld
        try simp only [Act.put, List.setIfInBounds_toArray, List.set_cons_zero, List.set_cons_succ]
        have hHeld := hHeld2; clear hHeld2
        refine takeR (i := 9) (v := ?_) (some 67) rfl rfl (by kernel_rfl) (by kernel_rfl) (by kernel_rfl) (fun _ _ _ h => h) (Or.inl ⟨by rfl, ?_⟩) (by assumption) ?_
        rotate_left
        · intro w hSw; (try dsimp only at hSw); obtain ⟨s1, s2⟩ := hSw; first | (go_simp; done) | (go_simp; with_reducible rfl)
        try simp only [Act.put, List.setIfInBounds_toArray, List.set_cons_zero, List.set_cons_succ]
        refine takeR (i := 10) (v := ?_) (some 9) rfl rfl (by kernel_rfl) (by kernel_rfl) (by kernel_rfl) (fun _ _ _ h => h) (Or.inl ⟨by rfl, ?_⟩) (by assumption) ?_
        rotate_left
        · intro w hSw; (try dsimp only at hSw); obtain ⟨s1, s2⟩ := hSw; first | (go_simp; done) | (go_simp; with_reducible rfl)
        try simp only [Act.put, List.setIfInBounds_toArray, List.set_cons_zero, List.set_cons_succ]
        refine wpAnyH_done (by kernel_rfl) ?_ _
        replace Hb8 := hide (Hb8.out.trans (hb.mono Hb8.out.size))
        clear hb t2 g0
        go_wp2_with fail
        go_roundw
        case rel => exact ⟨k + 1, by omega, by go_num, by rw [Hnx.out]; rfl, Hb8.out⟩
        case measure => simp [intOf]; omega
end Go.Proofs.YtmjiiddncbhgpaaGreat
