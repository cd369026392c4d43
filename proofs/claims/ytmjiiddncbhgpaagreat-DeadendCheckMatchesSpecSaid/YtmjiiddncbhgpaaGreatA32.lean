/- Dead ends: the law that Check and Covers answer as the specification requires. No condition., part 32: La33. -/
import Derived.Test.YtmjiiddncbhgpaaGreatA1
import Derived.Test.YtmjiiddncbhgpaaGreatA2
import Derived.Test.YtmjiiddncbhgpaaGreatA3
import Derived.Test.YtmjiiddncbhgpaaGreatA4
import Derived.Test.YtmjiiddncbhgpaaGreatA5
import Derived.Test.YtmjiiddncbhgpaaGreatA6
import Derived.Test.YtmjiiddncbhgpaaGreatA7
import Derived.Test.YtmjiiddncbhgpaaGreatA8
import Derived.Test.YtmjiiddncbhgpaaGreatA9
import Derived.Test.YtmjiiddncbhgpaaGreatA10
import Derived.Test.YtmjiiddncbhgpaaGreatA11
import Derived.Test.YtmjiiddncbhgpaaGreatA12
import Derived.Test.YtmjiiddncbhgpaaGreatA13
import Derived.Test.YtmjiiddncbhgpaaGreatA14
import Derived.Test.YtmjiiddncbhgpaaGreatA15
import Derived.Test.YtmjiiddncbhgpaaGreatA16
import Derived.Test.YtmjiiddncbhgpaaGreatA17
import Derived.Test.YtmjiiddncbhgpaaGreatA18
import Derived.Test.YtmjiiddncbhgpaaGreatA19
import Derived.Test.YtmjiiddncbhgpaaGreatA20
import Derived.Test.YtmjiiddncbhgpaaGreatA21
import Derived.Test.YtmjiiddncbhgpaaGreatA22
import Derived.Test.YtmjiiddncbhgpaaGreatA23
import Derived.Test.YtmjiiddncbhgpaaGreatA24
import Derived.Test.YtmjiiddncbhgpaaGreatA25
import Derived.Test.YtmjiiddncbhgpaaGreatA26
import Derived.Test.YtmjiiddncbhgpaaGreatA27
import Derived.Test.YtmjiiddncbhgpaaGreatA28
import Derived.Test.YtmjiiddncbhgpaaGreatA29
import Derived.Test.YtmjiiddncbhgpaaGreatA30
import Derived.Test.YtmjiiddncbhgpaaGreatA31
import Derived.BigQuiet
import Derived.Deep.AppendLies
import Derived.Deep.DeepCutAuto
import Derived.Deep.Draws
import Derived.Deep.Fields
import Derived.Deep.LoopGhost
import Derived.Deep.QuietTactic
import Derived.Deep.RegionHeld
import Derived.Deep.RegionHeld3
import Derived.Deep.RegionLaw
import Derived.Deep.Slices
import Derived.DeepKeys4
import Derived.Ground.Names2Prog
import Derived.Ground.SlgnProg
import Derived.Ground.SlsfProg
import Derived.IntWalk
import Derived.Laws.AppendOwnNone
import Derived.Laws.BitsAllLaws
import Derived.Laws.EntriesVeiled
import Derived.Laws.OwnMore
import Derived.Lib.Hide
import Derived.Lib.SlicesCompact
import Derived.LoopIn
import Derived.LoopNIn
import Derived.Maps.AppendAt
import Derived.Maps.OwnIn
import Derived.Maps.OwnOps
import Derived.Maps.OwnSet
import Derived.OrdersHeld
import Derived.OrdersIn
import Derived.OwnWalkIn
import Derived.ProofKit
import Derived.RangeFuncBound
import Derived.RangeFuncCalls
import Derived.RangeFuncLeaves
import Derived.RangeFuncNested
import Derived.Shelf.Abstract
import Derived.Shelf.RegionOpen
import Derived.Shelf.SlSortCmp.Whole1
import Derived.Shelf.Slices.Cells
import Derived.Shelf.Slices.Clone
import Derived.Shelf.Slices.CompactI
import Derived.Shelf.Slices.Empties
import Derived.Shelf.Slices.In.SortNone
import Derived.Shelf.Slices.SearchI
import Derived.Shelf.Sort.Plain
import Derived.Sort.OwnSortedInts
import Derived.StillTail
import Derived.StillTailTactics
import Derived.TacticsInMore
import Derived.Test.YtmjiiddncbhgpaaGreatProg
import Derived.WalkKit
import Init
namespace Go.Proofs.YtmjiiddncbhgpaaGreat
set_option linter.unusedVariables false
set_option linter.unusedSimpArgs false
open Go.RowKit
set_option maxHeartbeats 1600000 in
theorem DStateOk_ct (a : TA) (T : Tsk) (N : Nat) (D : Option Addr) (m d : Nat) (s : List Int) (w : World) (h : TkR w a T) (hN : T.facts = N) (hN2 : N ≤ 24) (hs : Rd Enc.int w D m d s) :
    Calls Tryz.prog 12 #[.agg #[.int .i64 T.facts, .slice a.I a.nI a.cI, .slice a.G a.nG a.cG, .slice a.O a.nO a.cO], .slice D m d] w (Gives w (.bool (setB N s))) := by
  obtain ⟨I, nI, cI, G, nG, cG, O, nO, cO⟩ := a
  simp only
  have hb0 := (Below.refl w.heap.size w).alloc (Nat.le_refl _) (.cells #[.int .i64 T.facts, .slice I nI cI, .slice G nG cG, .slice O nO cO] 25)
  have hci := RIsSet_ct D m d s T.facts _ (hs.keep hb0) (by rw [hN]; omega)
  rw [hN] at hci hb0 ⊢
  have Hci := hide hci
  have Hb0 := hide hb0
  clear hci hb0 h hs hN
  go_enter Tryz.func12, Tryz.ntmps12
  go_wp2_with fail
  with_reducible refine Hci.out.mono ?_
  rintro e w1 ⟨rfl, hq⟩
  have Hq := hide (Hb0.out.trans (hq.below _))
  clear hq
  go_wp2_with fail
  go_ret
  exact ⟨rfl, Hq.out⟩
set_option maxRecDepth 100000 in
set_option maxHeartbeats 12800000 in
theorem deadCheckLaw_ct (T : Tsk) (a : TA) (A : Option Addr) (n c : Nat) (l : List SS) (D : Option Addr) (m d : Nat) (s : List Int) (w : World) (h : TkR w a T) (hl : Rd Enc.ss w A n c l) (hs : Rd Enc.int w D m d s) :
    Calls Tryz.prog 3 #[.agg #[.int .i64 T.facts, .slice a.I a.nI a.cI, .slice a.G a.nG a.cG, .slice a.O a.nO a.cO], .slice A n c, .slice D m d] w (Gives w (.bool true)) := by
  have hck := fun W hT hW => Check_ct a T A n c l W hT hW
  have hcv := fun W hT hW hS => Covers_ct a T A n c l D m d s W hT hW hS
  have hsf := fun W hT hW => SetsFault_ct a T A n c l W hT hW
  have hpr := fun N W hT hok hW => Proves_ct a T N A n c l W hT hok hW
  have hso := fun N W hT hN hN2 hS => DStateOk_ct a T N D m d s W hT hN hN2 hS
  have hin := fun W hW hS => InSets_ct A D n c m d l s W hW hS
  obtain ⟨I, nI, cI, G, nG, cG, O, nO, cO⟩ := a
  simp only at hck hcv hsf hpr hso ⊢
  have hlow := hl.low
  have Hlen := hide hl.len
  rcases hq : setsF T l with ⟨ec, ei⟩
  rw [hq] at hsf
  unfold ChkP at hck
  rw [hq] at hck
  have hcf : covF T l s = if (setsF T l).1 ≠ 0 then (false, (setsF T l).1, (setsF T l).2) else if setB T.facts s = false then (false, 5, -4) else (inSetsB l s, 0, 0) := rfl
  rw [hq] at hcf
  simp only at hcf
  have H := hide h
  have Hl := hide hl
  have Hs := hide hs
  have Hck := hide hck
  have Hcv := hide hcv
  have Hsf := hide hsf
  have Hpr := hide hpr
  have Hso := hide hso
  have Hin := hide hin
  have Hq := hide hq
  have Hcf := hide hcf
  obtain ⟨hf1, hf2⟩ := h.facts
  clear h hl hs hck hcv hsf hpr hso hin hq hcf
  have Hbl := hide (Below.refl w.heap.size w)
  go_enter Tryz.func3, Tryz.ntmps3
  go_upto_region 1 with (fail)
  obtain ⟨B0, hB0⟩ : ∃ B0, B0 = w.heap.size := ⟨_, rfl⟩
  have HB0 := hide hB0
  clear hB0
  have s_0 : B0 ≤ w.heap.size := Nat.le_trans (Nat.le_of_eq HB0.out) Hbl.out.size
  have hyt := Blk.new (w) 25 [.int .i64 T.facts, .slice I nI cI, .slice G nG cG, .slice O nO cO]
  have hbW : Below (w).heap.size (w) ((w).alloc (.cells #[.int .i64 T.facts, .slice I nI cI, .slice G nG cG, .slice O nO cO] 25)) := (Below.refl _ _).alloc (Nat.le_refl _) _
  obtain ⟨w0, hW⟩ : ∃ W, W = (w).alloc (.cells #[.int .i64 T.facts, .slice I nI cI, .slice G nG cG, .slice O nO cO] 25) := ⟨_, rfl⟩
  rw [← hW] at hyt hbW ⊢
  replace Hbl := hide (Hbl.out.trans (hbW.mono Hbl.out.size))
  have Ht := hide hyt
  clear hW hbW hyt
  generalize w.heap.size = gT at Ht s_0 ⊢
  have t0 := Ht.out.cell 0
  have t1 := Ht.out.cell 1
  have t2 := Ht.out.cell 2
  have t3 := Ht.out.cell 3
  have tl := Ht.out.lt
  simp only [List.getElem?_cons_zero, List.getElem?_cons_succ] at t0 t1 t2 t3
  have a_t : B0 ≤ gT := by omega
  clear s_0
  go_wp2_with fail
  with_reducible refine (deadendExample_ct w0).mono ?_
  rintro e w1 ⟨rfl, hb⟩
  clear t0 t1 t2 t3 tl
  replace Ht := hide (Ht.out.keep hb)
  replace Hbl := hide (Hbl.out.trans (hb.mono Hbl.out.size))
  clear hb
  have t0 := Ht.out.cell 0
  have t1 := Ht.out.cell 1
  have t2 := Ht.out.cell 2
  have t3 := Ht.out.cell 3
  have tl := Ht.out.lt
  simp only [List.getElem?_cons_zero, List.getElem?_cons_succ] at t0 t1 t2 t3
  go_wp2_with fail
  with_reducible refine (Hck.out w1 (H.out.keep Hbl.out) (Hl.out.keep Hbl.out)).mono ?_
  rintro e w2 ⟨hb, b1, rfl, hiff⟩
  have Hiff := hide hiff
  clear hiff
  clear t0 t1 t2 t3 tl
  replace Ht := hide (Ht.out.keep hb)
  replace Hbl := hide (Hbl.out.trans (hb.mono Hbl.out.size))
  clear hb
  have t0 := Ht.out.cell 0
  have t1 := Ht.out.cell 1
  have t2 := Ht.out.cell 2
  have t3 := Ht.out.cell 3
  have tl := Ht.out.lt
  simp only [List.getElem?_cons_zero, List.getElem?_cons_succ] at t0 t1 t2 t3
  unfold fault
  go_upto_region 4 with (fail)
  have s_t : gT < w2.heap.size := tl
  have s_0 : B0 ≤ w2.heap.size := Nat.le_trans (Nat.le_of_eq HB0.out) Hbl.out.size
  have hyc_ := Blk.new (w2) 29 [.int .i64 ec, .int .i64 ei]
  have hbW : Below (w2).heap.size (w2) ((w2).alloc (.cells #[.int .i64 ec, .int .i64 ei] 29)) := (Below.refl _ _).alloc (Nat.le_refl _) _
  obtain ⟨w3, hW⟩ : ∃ W, W = (w2).alloc (.cells #[.int .i64 ec, .int .i64 ei] 29) := ⟨_, rfl⟩
  rw [← hW] at hyc_ hbW ⊢
  replace Ht := hide (Ht.out.keep hbW)
  replace Hbl := hide (Hbl.out.trans (hbW.mono Hbl.out.size))
  have Hc_ := hide hyc_
  clear hW hbW hyc_
  generalize w2.heap.size = gc at Hc_ s_t s_0 ⊢
  have t0 := Ht.out.cell 0
  have t1 := Ht.out.cell 1
  have t2 := Ht.out.cell 2
  have t3 := Ht.out.cell 3
  have tl := Ht.out.lt
  have c_0 := Hc_.out.cell 0
  have c_1 := Hc_.out.cell 1
  have c_l := Hc_.out.lt
  simp only [List.getElem?_cons_zero, List.getElem?_cons_succ] at t0 t1 t2 t3 c_0 c_1
  clear s_t
  have a_c_ : B0 ≤ gc := by omega
  clear s_0
  by_cases hec : ec = 0
  rotate_left
  · have hne : (ec != 0) = true := by simpa using hec
    have hb1 : b1 = false := by
      cases b1
      · rfl
      · exact absurd (Hiff.out.1 rfl).1 hec
    subst hb1
    have hct := Hcv.out w3 (H.out.keep Hbl.out) (Hl.out.keep Hbl.out) (Hs.out.keep Hbl.out)
    rw [Hcf.out, if_pos hec] at hct
    unfold covV fault at hct
    dsimp only at hct
    go_wp2_with fail
    with_reducible refine (hct).mono ?_
    rintro e w4 ⟨rfl, hb⟩
    clear t0 t1 t2 t3 c_0 c_1 tl c_l
    replace Ht := hide (Ht.out.keep hb)
    replace Hc_ := hide (Hc_.out.keep hb)
    replace Hbl := hide (Hbl.out.trans (hb.mono Hbl.out.size))
    clear hb
    have t0 := Ht.out.cell 0
    have t1 := Ht.out.cell 1
    have t2 := Ht.out.cell 2
    have t3 := Ht.out.cell 3
    have tl := Ht.out.lt
    have c_0 := Hc_.out.cell 0
    have c_1 := Hc_.out.cell 1
    have c_l := Hc_.out.lt
    simp only [List.getElem?_cons_zero, List.getElem?_cons_succ] at t0 t1 t2 t3 c_0 c_1
    clear hct
    go_upto_region 5 with (fail)
    have s_t : gT < w4.heap.size := tl
    have s_c_ : gc < w4.heap.size := c_l
    have s_0 : B0 ≤ w4.heap.size := Nat.le_trans (Nat.le_of_eq HB0.out) Hbl.out.size
    have hyv_ := Blk.new (w4) 29 [.int .i64 ec, .int .i64 ei]
    have hbW : Below (w4).heap.size (w4) ((w4).alloc (.cells #[.int .i64 ec, .int .i64 ei] 29)) := (Below.refl _ _).alloc (Nat.le_refl _) _
    obtain ⟨w5, hW⟩ : ∃ W, W = (w4).alloc (.cells #[.int .i64 ec, .int .i64 ei] 29) := ⟨_, rfl⟩
    rw [← hW] at hyv_ hbW ⊢
    replace Ht := hide (Ht.out.keep hbW)
    replace Hc_ := hide (Hc_.out.keep hbW)
    replace Hbl := hide (Hbl.out.trans (hbW.mono Hbl.out.size))
    have Hv_ := hide hyv_
    clear hW hbW hyv_
    generalize w4.heap.size = gv at Hv_ s_t s_c_ s_0 ⊢
    have t0 := Ht.out.cell 0
    have t1 := Ht.out.cell 1
    have t2 := Ht.out.cell 2
    have t3 := Ht.out.cell 3
    have tl := Ht.out.lt
    have c_0 := Hc_.out.cell 0
    have c_1 := Hc_.out.cell 1
    have c_l := Hc_.out.lt
    have v_0 := Hv_.out.cell 0
    have v_1 := Hv_.out.cell 1
    have v_l := Hv_.out.lt
    simp only [List.getElem?_cons_zero, List.getElem?_cons_succ] at t0 t1 t2 t3 c_0 c_1 v_0 v_1
    clear s_t
    clear s_c_
    have a_v_ : B0 ≤ gv := by omega
    clear s_0
    go_wp2_with fail
    with_reducible refine (Hsf.out w5 (H.out.keep Hbl.out) (Hl.out.keep Hbl.out)).mono ?_
    rintro e w6 ⟨rfl, hb⟩
    clear t0 t1 t2 t3 c_0 c_1 v_0 v_1 tl c_l v_l
    replace Ht := hide (Ht.out.keep hb)
    replace Hc_ := hide (Hc_.out.keep hb)
    replace Hv_ := hide (Hv_.out.keep hb)
    replace Hbl := hide (Hbl.out.trans (hb.mono Hbl.out.size))
    clear hb
    have t0 := Ht.out.cell 0
    have t1 := Ht.out.cell 1
    have t2 := Ht.out.cell 2
    have t3 := Ht.out.cell 3
    have tl := Ht.out.lt
    have c_0 := Hc_.out.cell 0
    have c_1 := Hc_.out.cell 1
    have c_l := Hc_.out.lt
    have v_0 := Hv_.out.cell 0
    have v_1 := Hv_.out.cell 1
    have v_l := Hv_.out.lt
    simp only [List.getElem?_cons_zero, List.getElem?_cons_succ] at t0 t1 t2 t3 c_0 c_1 v_0 v_1
    unfold fault
    go_upto_region 6 with (fail)
    have s_t : gT < w6.heap.size := tl
    have s_c_ : gc < w6.heap.size := c_l
    have s_v_ : gv < w6.heap.size := v_l
    have s_0 : B0 ≤ w6.heap.size := Nat.le_trans (Nat.le_of_eq HB0.out) Hbl.out.size
    have hyw_ := Blk.new (w6) 29 [.int .i64 ec, .int .i64 ei]
    have hbW : Below (w6).heap.size (w6) ((w6).alloc (.cells #[.int .i64 ec, .int .i64 ei] 29)) := (Below.refl _ _).alloc (Nat.le_refl _) _
    obtain ⟨w7, hW⟩ : ∃ W, W = (w6).alloc (.cells #[.int .i64 ec, .int .i64 ei] 29) := ⟨_, rfl⟩
    rw [← hW] at hyw_ hbW ⊢
    replace Ht := hide (Ht.out.keep hbW)
    replace Hc_ := hide (Hc_.out.keep hbW)
    replace Hv_ := hide (Hv_.out.keep hbW)
    replace Hbl := hide (Hbl.out.trans (hbW.mono Hbl.out.size))
    have Hw_ := hide hyw_
    clear hW hbW hyw_
    generalize w6.heap.size = gw at Hw_ s_t s_c_ s_v_ s_0 ⊢
    have t0 := Ht.out.cell 0
    have t1 := Ht.out.cell 1
    have t2 := Ht.out.cell 2
    have t3 := Ht.out.cell 3
    have tl := Ht.out.lt
    have c_0 := Hc_.out.cell 0
    have c_1 := Hc_.out.cell 1
    have c_l := Hc_.out.lt
    have v_0 := Hv_.out.cell 0
    have v_1 := Hv_.out.cell 1
    have v_l := Hv_.out.lt
    have w_0 := Hw_.out.cell 0
    have w_1 := Hw_.out.cell 1
    have w_l := Hw_.out.lt
    simp only [List.getElem?_cons_zero, List.getElem?_cons_succ] at t0 t1 t2 t3 c_0 c_1 v_0 v_1 w_0 w_1
    clear s_t
    clear s_c_
    clear s_v_
    have a_w_ : B0 ≤ gw := by omega
    clear s_0
    go_wp2_with fail
    go_ret
    exact ⟨ret_bool (by simp), Hbl.out⟩
  subst hec
  obtain ⟨N, hok, hss, hfew, hz⟩ := setsF_ok (T := T) (l := l) (by rw [Hq.out])
  rw [Hq.out] at hz
  obtain ⟨_, e2⟩ := Prod.mk.inj hz
  subst e2
  clear hz
  have hN := hok.low
  have HfN := hide hok.facts
  have hpl := proves_law hok hss
  have hb1 : b1 = provesB N T l := bool_iff (Hiff.out.trans (Iff.trans ⟨fun h => h.2, fun h => ⟨rfl, h⟩⟩ hpl.symm))
  have Hb1 := hide hb1
  have Hss := hide hss
  have Hok := hide hok
  clear hok hss hfew hpl hb1
  have hso := Hso.out N
  obtain ⟨v1, hv1⟩ : ∃ z, z = setB N s := ⟨_, rfl⟩
  have hcf2 := Hcf.out
  rw [if_neg (by simp), HfN.out, ← hv1] at hcf2
  replace Hcf := hide hcf2
  simp only [← hv1] at hso
  replace Hso := hide hso
  clear hso hcf2 hv1
  have hpr := fun W hT hW => Hpr.out N W hT Hok.out hW
  simp only [← Hb1.out] at hpr
  have Hpr2 := hide hpr
  clear hpr Hpr
  cases v1 with
  | false =>
    have hct := Hcv.out w3 (H.out.keep Hbl.out) (Hl.out.keep Hbl.out) (Hs.out.keep Hbl.out)
    rw [Hcf.out, if_pos (by simp)] at hct
    unfold covV fault at hct
    dsimp only at hct
    go_wp2_with fail
    with_reducible refine (hct).mono ?_
    rintro e w4 ⟨rfl, hb⟩
    clear t0 t1 t2 t3 c_0 c_1 tl c_l
    replace Ht := hide (Ht.out.keep hb)
    replace Hc_ := hide (Hc_.out.keep hb)
    replace Hbl := hide (Hbl.out.trans (hb.mono Hbl.out.size))
    clear hb
    have t0 := Ht.out.cell 0
    have t1 := Ht.out.cell 1
    have t2 := Ht.out.cell 2
    have t3 := Ht.out.cell 3
    have tl := Ht.out.lt
    have c_0 := Hc_.out.cell 0
    have c_1 := Hc_.out.cell 1
    have c_l := Hc_.out.lt
    simp only [List.getElem?_cons_zero, List.getElem?_cons_succ] at t0 t1 t2 t3 c_0 c_1
    clear hct
    go_upto_region 5 with (fail)
    have s_t : gT < w4.heap.size := tl
    have s_c_ : gc < w4.heap.size := c_l
    have s_0 : B0 ≤ w4.heap.size := Nat.le_trans (Nat.le_of_eq HB0.out) Hbl.out.size
    have hyv_ := Blk.new (w4) 29 [.int .i64 5, .int .i64 (-4)]
    have hbW : Below (w4).heap.size (w4) ((w4).alloc (.cells #[.int .i64 5, .int .i64 (-4)] 29)) := (Below.refl _ _).alloc (Nat.le_refl _) _
    obtain ⟨w5, hW⟩ : ∃ W, W = (w4).alloc (.cells #[.int .i64 5, .int .i64 (-4)] 29) := ⟨_, rfl⟩
    rw [← hW] at hyv_ hbW ⊢
    replace Ht := hide (Ht.out.keep hbW)
    replace Hc_ := hide (Hc_.out.keep hbW)
    replace Hbl := hide (Hbl.out.trans (hbW.mono Hbl.out.size))
    have Hv_ := hide hyv_
    clear hW hbW hyv_
    generalize w4.heap.size = gv at Hv_ s_t s_c_ s_0 ⊢
    have t0 := Ht.out.cell 0
    have t1 := Ht.out.cell 1
    have t2 := Ht.out.cell 2
    have t3 := Ht.out.cell 3
    have tl := Ht.out.lt
    have c_0 := Hc_.out.cell 0
    have c_1 := Hc_.out.cell 1
    have c_l := Hc_.out.lt
    have v_0 := Hv_.out.cell 0
    have v_1 := Hv_.out.cell 1
    have v_l := Hv_.out.lt
    simp only [List.getElem?_cons_zero, List.getElem?_cons_succ] at t0 t1 t2 t3 c_0 c_1 v_0 v_1
    clear s_t
    clear s_c_
    have a_v_ : B0 ≤ gv := by omega
    clear s_0
    go_wp2_with fail
    with_reducible refine (Hsf.out w5 (H.out.keep Hbl.out) (Hl.out.keep Hbl.out)).mono ?_
    rintro e w6 ⟨rfl, hb⟩
    clear t0 t1 t2 t3 c_0 c_1 v_0 v_1 tl c_l v_l
    replace Ht := hide (Ht.out.keep hb)
    replace Hc_ := hide (Hc_.out.keep hb)
    replace Hv_ := hide (Hv_.out.keep hb)
    replace Hbl := hide (Hbl.out.trans (hb.mono Hbl.out.size))
    clear hb
    have t0 := Ht.out.cell 0
    have t1 := Ht.out.cell 1
    have t2 := Ht.out.cell 2
    have t3 := Ht.out.cell 3
    have tl := Ht.out.lt
    have c_0 := Hc_.out.cell 0
    have c_1 := Hc_.out.cell 1
    have c_l := Hc_.out.lt
    have v_0 := Hv_.out.cell 0
    have v_1 := Hv_.out.cell 1
    have v_l := Hv_.out.lt
    simp only [List.getElem?_cons_zero, List.getElem?_cons_succ] at t0 t1 t2 t3 c_0 c_1 v_0 v_1
    unfold fault
    go_upto_region 6 with (fail)
    have s_t : gT < w6.heap.size := tl
    have s_c_ : gc < w6.heap.size := c_l
    have s_v_ : gv < w6.heap.size := v_l
    have s_0 : B0 ≤ w6.heap.size := Nat.le_trans (Nat.le_of_eq HB0.out) Hbl.out.size
    have hyw_ := Blk.new (w6) 29 [.int .i64 0, .int .i64 0]
    have hbW : Below (w6).heap.size (w6) ((w6).alloc (.cells #[.int .i64 0, .int .i64 0] 29)) := (Below.refl _ _).alloc (Nat.le_refl _) _
    obtain ⟨w7, hW⟩ : ∃ W, W = (w6).alloc (.cells #[.int .i64 0, .int .i64 0] 29) := ⟨_, rfl⟩
    rw [← hW] at hyw_ hbW ⊢
    replace Ht := hide (Ht.out.keep hbW)
    replace Hc_ := hide (Hc_.out.keep hbW)
    replace Hv_ := hide (Hv_.out.keep hbW)
    replace Hbl := hide (Hbl.out.trans (hbW.mono Hbl.out.size))
    have Hw_ := hide hyw_
    clear hW hbW hyw_
    generalize w6.heap.size = gw at Hw_ s_t s_c_ s_v_ s_0 ⊢
    have t0 := Ht.out.cell 0
    have t1 := Ht.out.cell 1
    have t2 := Ht.out.cell 2
    have t3 := Ht.out.cell 3
    have tl := Ht.out.lt
    have c_0 := Hc_.out.cell 0
    have c_1 := Hc_.out.cell 1
    have c_l := Hc_.out.lt
    have v_0 := Hv_.out.cell 0
    have v_1 := Hv_.out.cell 1
    have v_l := Hv_.out.lt
    have w_0 := Hw_.out.cell 0
    have w_1 := Hw_.out.cell 1
    have w_l := Hw_.out.lt
    simp only [List.getElem?_cons_zero, List.getElem?_cons_succ] at t0 t1 t2 t3 c_0 c_1 v_0 v_1 w_0 w_1
    clear s_t
    clear s_c_
    clear s_v_
    have a_w_ : B0 ≤ gw := by omega
    clear s_0
    go_wp2_with fail
    with_reducible refine (Hso.out w7 (H.out.keep Hbl.out) HfN.out hN (Hs.out.keep Hbl.out)).mono ?_
    rintro e w8 ⟨rfl, hb⟩
    clear t0 t1 t2 t3 c_0 c_1 v_0 v_1 w_0 w_1 tl c_l v_l w_l
    replace Ht := hide (Ht.out.keep hb)
    replace Hc_ := hide (Hc_.out.keep hb)
    replace Hv_ := hide (Hv_.out.keep hb)
    replace Hw_ := hide (Hw_.out.keep hb)
    replace Hbl := hide (Hbl.out.trans (hb.mono Hbl.out.size))
    clear hb
    have t0 := Ht.out.cell 0
    have t1 := Ht.out.cell 1
    have t2 := Ht.out.cell 2
    have t3 := Ht.out.cell 3
    have tl := Ht.out.lt
    have c_0 := Hc_.out.cell 0
    have c_1 := Hc_.out.cell 1
    have c_l := Hc_.out.lt
    have v_0 := Hv_.out.cell 0
    have v_1 := Hv_.out.cell 1
    have v_l := Hv_.out.lt
    have w_0 := Hw_.out.cell 0
    have w_1 := Hw_.out.cell 1
    have w_l := Hw_.out.lt
    simp only [List.getElem?_cons_zero, List.getElem?_cons_succ] at t0 t1 t2 t3 c_0 c_1 v_0 v_1 w_0 w_1
    have Hat := hide (fun W => At_ct 5 (-4) W)
    go_upto_region 9 with (fail)
    obtain ⟨w9, hw9⟩ : ∃ W, W = w8.drew := ⟨_, rfl⟩
    have hb : Below w8.heap.size w8 w9 := by rw [hw9]; exact (Below.refl _ _).drew
    refine wp_region_held_drew (S := (fun w' => w'.cell? ⟨gv, 0, none⟩ = some (.int .i64 5) ∧ w'.cell? ⟨gv, 1, none⟩ = some (.int .i64 (-4)) ∧ gv < w'.heap.size)) (by kernel_rfl) ?_ (fun hHeld => ?_)
    · exact ⟨v_0, v_1, v_l⟩
    rw [← hw9] at hHeld ⊢
    clear hw9
    clear t0 t1 t2 t3 c_0 c_1 v_0 v_1 w_0 w_1 tl c_l v_l w_l
    replace Ht := hide (Ht.out.keep hb)
    replace Hc_ := hide (Hc_.out.keep hb)
    replace Hv_ := hide (Hv_.out.keep hb)
    replace Hw_ := hide (Hw_.out.keep hb)
    replace Hbl := hide (Hbl.out.trans (hb.mono Hbl.out.size))
    clear hb
    have t0 := Ht.out.cell 0
    have t1 := Ht.out.cell 1
    have t2 := Ht.out.cell 2
    have t3 := Ht.out.cell 3
    have tl := Ht.out.lt
    have c_0 := Hc_.out.cell 0
    have c_1 := Hc_.out.cell 1
    have c_l := Hc_.out.lt
    have v_0 := Hv_.out.cell 0
    have v_1 := Hv_.out.cell 1
    have v_l := Hv_.out.lt
    have w_0 := Hw_.out.cell 0
    have w_1 := Hw_.out.cell 1
    have w_l := Hw_.out.lt
    simp only [List.getElem?_cons_zero, List.getElem?_cons_succ] at t0 t1 t2 t3 c_0 c_1 v_0 v_1 w_0 w_1
    refine takeR (i := 0) (v := ?_) (some 53) rfl rfl (by kernel_rfl) (by kernel_rfl) (by kernel_rfl) (fun _ _ _ h => h) (Or.inl ⟨by rfl, ?_⟩) (by assumption) ?_
    rotate_left
    · intro w hSw; (try dsimp only at hSw); obtain ⟨s1, s2, s3⟩ := hSw; first | (go_simp; done) | (go_simp; with_reducible rfl)
    try simp only [Act.put, List.setIfInBounds_toArray, List.set_cons_zero, List.set_cons_succ]
    refine wpAnyH_ready (rs := [1]) (by kernel_rfl) (by simp) ?_
    refine AllReadyH.cons rfl (fun K hK => ?_) AllReadyH.nil
    go_simp
    with_reducible refine (Hat.out w9).mono ?_
    rintro e1 w10 ⟨rfl, hb⟩
    unfold fault
    go_simp
    clear t0 t1 t2 t3 c_0 c_1 v_0 v_1 w_0 w_1 tl c_l v_l w_l
    replace Ht := hide (Ht.out.keep hb)
    replace Hc_ := hide (Hc_.out.keep hb)
    replace Hv_ := hide (Hv_.out.keep hb)
    replace Hw_ := hide (Hw_.out.keep hb)
    replace Hbl := hide (Hbl.out.trans (hb.mono Hbl.out.size))
    clear hb
    have t0 := Ht.out.cell 0
    have t1 := Ht.out.cell 1
    have t2 := Ht.out.cell 2
    have t3 := Ht.out.cell 3
    have tl := Ht.out.lt
    have c_0 := Hc_.out.cell 0
    have c_1 := Hc_.out.cell 1
    have c_l := Hc_.out.lt
    have v_0 := Hv_.out.cell 0
    have v_1 := Hv_.out.cell 1
    have v_l := Hv_.out.lt
    have w_0 := Hw_.out.cell 0
    have w_1 := Hw_.out.cell 1
    have w_l := Hw_.out.lt
    simp only [List.getElem?_cons_zero, List.getElem?_cons_succ] at t0 t1 t2 t3 c_0 c_1 v_0 v_1 w_0 w_1
    refine hK.out _ _ ?_ (fun hHeld2 => ?_)
    · exact ⟨v_0, v_1, v_l⟩
    clear hK K hHeld
    try simp only [Act.put, List.setIfInBounds_toArray, List.set_cons_zero, List.set_cons_succ]
    have hHeld := hHeld2; clear hHeld2
    refine takeR (i := 2) (v := ?_) (some 55) rfl rfl (by kernel_rfl) (by kernel_rfl) (by kernel_rfl) (fun _ _ _ h => h) (Or.inl ⟨by rfl, ?_⟩) (by assumption) ?_
    rotate_left
    · intro w hSw; (try dsimp only at hSw); obtain ⟨s1, s2, s3⟩ := hSw; first | (go_simp; done) | (go_simp; with_reducible rfl)
    try simp only [Act.put, List.setIfInBounds_toArray, List.set_cons_zero, List.set_cons_succ]
    refine takeR (i := 3) (v := ?_) (some 56) rfl rfl (by kernel_rfl) (by kernel_rfl) (by kernel_rfl) (fun _ _ _ h => h) (Or.inl ⟨by rfl, ?_⟩) (by assumption) ?_
    rotate_left
    · intro w hSw; (try dsimp only at hSw); obtain ⟨s1, s2, s3⟩ := hSw; first | (go_simp; done) | (go_simp; with_reducible rfl)
    try simp only [Act.put, List.setIfInBounds_toArray, List.set_cons_zero, List.set_cons_succ]
    refine takeR (i := 4) (v := ?_) (some 57) rfl rfl (by kernel_rfl) (by kernel_rfl) (by kernel_rfl) (fun _ _ _ h => h) (Or.inl ⟨by rfl, ?_⟩) (by assumption) ?_
    rotate_left
    · intro w hSw; (try dsimp only at hSw); obtain ⟨s1, s2, s3⟩ := hSw; first | (go_simp; done) | (go_simp; with_reducible rfl)
    try simp only [Act.put, List.setIfInBounds_toArray, List.set_cons_zero, List.set_cons_succ]
    refine takeR (i := 5) (v := ?_) (some 58) rfl rfl (by kernel_rfl) (by kernel_rfl) (by kernel_rfl) (fun _ _ _ h => h) (Or.inl ⟨by rfl, ?_⟩) (by assumption) ?_
    rotate_left
    · intro w hSw; (try dsimp only at hSw); obtain ⟨s1, s2, s3⟩ := hSw; first | (go_simp; done) | (go_simp; with_reducible rfl)
    try simp only [Act.put, List.setIfInBounds_toArray, List.set_cons_zero, List.set_cons_succ]
    refine wpAnyH_done (by kernel_rfl) ?_ _
    by_cases h9 : (9 : Int) < T.facts
    · go_wp2_with fail
      go_ret
      exact ⟨ret_bool (by simp), Hbl.out⟩
    by_cases h150 : 150 < n
    · have hbi : (150 : Int) < (n : Int) := by omega
      go_wp2_with fail
      go_ret
      exact ⟨ret_bool (by simp), Hbl.out⟩
    have hbi : ¬ (150 : Int) < (n : Int) := by omega
    go_wp2_with fail
    with_reducible refine (Hpr2.out _ (H.out.keep Hbl.out) (Hl.out.keep Hbl.out)).mono ?_
    rintro e wz ⟨rfl, hb⟩
    clear t0 t1 t2 t3 c_0 c_1 v_0 v_1 w_0 w_1 tl c_l v_l w_l
    replace Ht := hide (Ht.out.keep hb)
    replace Hc_ := hide (Hc_.out.keep hb)
    replace Hv_ := hide (Hv_.out.keep hb)
    replace Hw_ := hide (Hw_.out.keep hb)
    replace Hbl := hide (Hbl.out.trans (hb.mono Hbl.out.size))
    clear hb
    have t0 := Ht.out.cell 0
    have t1 := Ht.out.cell 1
    have t2 := Ht.out.cell 2
    have t3 := Ht.out.cell 3
    have tl := Ht.out.lt
    have c_0 := Hc_.out.cell 0
    have c_1 := Hc_.out.cell 1
    have c_l := Hc_.out.lt
    have v_0 := Hv_.out.cell 0
    have v_1 := Hv_.out.cell 1
    have v_l := Hv_.out.lt
    have w_0 := Hw_.out.cell 0
    have w_1 := Hw_.out.cell 1
    have w_l := Hw_.out.lt
    simp only [List.getElem?_cons_zero, List.getElem?_cons_succ] at t0 t1 t2 t3 c_0 c_1 v_0 v_1 w_0 w_1
    go_wp2_with fail
    go_ret
    exact ⟨ret_bool (by simp), Hbl.out⟩
  | true =>
    have hct := Hcv.out w3 (H.out.keep Hbl.out) (Hl.out.keep Hbl.out) (Hs.out.keep Hbl.out)
    rw [Hcf.out, if_neg (by simp)] at hct
    unfold covV fault at hct
    dsimp only at hct
    go_wp2_with fail
    with_reducible refine (hct).mono ?_
    rintro e w4 ⟨rfl, hb⟩
    clear t0 t1 t2 t3 c_0 c_1 tl c_l
    replace Ht := hide (Ht.out.keep hb)
    replace Hc_ := hide (Hc_.out.keep hb)
    replace Hbl := hide (Hbl.out.trans (hb.mono Hbl.out.size))
    clear hb
    have t0 := Ht.out.cell 0
    have t1 := Ht.out.cell 1
    have t2 := Ht.out.cell 2
    have t3 := Ht.out.cell 3
    have tl := Ht.out.lt
    have c_0 := Hc_.out.cell 0
    have c_1 := Hc_.out.cell 1
    have c_l := Hc_.out.lt
    simp only [List.getElem?_cons_zero, List.getElem?_cons_succ] at t0 t1 t2 t3 c_0 c_1
    clear hct
    go_upto_region 5 with (fail)
    have s_t : gT < w4.heap.size := tl
    have s_c_ : gc < w4.heap.size := c_l
    have s_0 : B0 ≤ w4.heap.size := Nat.le_trans (Nat.le_of_eq HB0.out) Hbl.out.size
    have hyv_ := Blk.new (w4) 29 [.int .i64 0, .int .i64 0]
    have hbW : Below (w4).heap.size (w4) ((w4).alloc (.cells #[.int .i64 0, .int .i64 0] 29)) := (Below.refl _ _).alloc (Nat.le_refl _) _
    obtain ⟨w5, hW⟩ : ∃ W, W = (w4).alloc (.cells #[.int .i64 0, .int .i64 0] 29) := ⟨_, rfl⟩
    rw [← hW] at hyv_ hbW ⊢
    replace Ht := hide (Ht.out.keep hbW)
    replace Hc_ := hide (Hc_.out.keep hbW)
    replace Hbl := hide (Hbl.out.trans (hbW.mono Hbl.out.size))
    have Hv_ := hide hyv_
    clear hW hbW hyv_
    generalize w4.heap.size = gv at Hv_ s_t s_c_ s_0 ⊢
    have t0 := Ht.out.cell 0
    have t1 := Ht.out.cell 1
    have t2 := Ht.out.cell 2
    have t3 := Ht.out.cell 3
    have tl := Ht.out.lt
    have c_0 := Hc_.out.cell 0
    have c_1 := Hc_.out.cell 1
    have c_l := Hc_.out.lt
    have v_0 := Hv_.out.cell 0
    have v_1 := Hv_.out.cell 1
    have v_l := Hv_.out.lt
    simp only [List.getElem?_cons_zero, List.getElem?_cons_succ] at t0 t1 t2 t3 c_0 c_1 v_0 v_1
    clear s_t
    clear s_c_
    have a_v_ : B0 ≤ gv := by omega
    clear s_0
    go_wp2_with fail
    with_reducible refine (Hsf.out w5 (H.out.keep Hbl.out) (Hl.out.keep Hbl.out)).mono ?_
    rintro e w6 ⟨rfl, hb⟩
    clear t0 t1 t2 t3 c_0 c_1 v_0 v_1 tl c_l v_l
    replace Ht := hide (Ht.out.keep hb)
    replace Hc_ := hide (Hc_.out.keep hb)
    replace Hv_ := hide (Hv_.out.keep hb)
    replace Hbl := hide (Hbl.out.trans (hb.mono Hbl.out.size))
    clear hb
    have t0 := Ht.out.cell 0
    have t1 := Ht.out.cell 1
    have t2 := Ht.out.cell 2
    have t3 := Ht.out.cell 3
    have tl := Ht.out.lt
    have c_0 := Hc_.out.cell 0
    have c_1 := Hc_.out.cell 1
    have c_l := Hc_.out.lt
    have v_0 := Hv_.out.cell 0
    have v_1 := Hv_.out.cell 1
    have v_l := Hv_.out.lt
    simp only [List.getElem?_cons_zero, List.getElem?_cons_succ] at t0 t1 t2 t3 c_0 c_1 v_0 v_1
    unfold fault
    go_upto_region 6 with (fail)
    have s_t : gT < w6.heap.size := tl
    have s_c_ : gc < w6.heap.size := c_l
    have s_v_ : gv < w6.heap.size := v_l
    have s_0 : B0 ≤ w6.heap.size := Nat.le_trans (Nat.le_of_eq HB0.out) Hbl.out.size
    have hyw_ := Blk.new (w6) 29 [.int .i64 0, .int .i64 0]
    have hbW : Below (w6).heap.size (w6) ((w6).alloc (.cells #[.int .i64 0, .int .i64 0] 29)) := (Below.refl _ _).alloc (Nat.le_refl _) _
    obtain ⟨w7, hW⟩ : ∃ W, W = (w6).alloc (.cells #[.int .i64 0, .int .i64 0] 29) := ⟨_, rfl⟩
    rw [← hW] at hyw_ hbW ⊢
    replace Ht := hide (Ht.out.keep hbW)
    replace Hc_ := hide (Hc_.out.keep hbW)
    replace Hv_ := hide (Hv_.out.keep hbW)
    replace Hbl := hide (Hbl.out.trans (hbW.mono Hbl.out.size))
    have Hw_ := hide hyw_
    clear hW hbW hyw_
    generalize w6.heap.size = gw at Hw_ s_t s_c_ s_v_ s_0 ⊢
    have t0 := Ht.out.cell 0
    have t1 := Ht.out.cell 1
    have t2 := Ht.out.cell 2
    have t3 := Ht.out.cell 3
    have tl := Ht.out.lt
    have c_0 := Hc_.out.cell 0
    have c_1 := Hc_.out.cell 1
    have c_l := Hc_.out.lt
    have v_0 := Hv_.out.cell 0
    have v_1 := Hv_.out.cell 1
    have v_l := Hv_.out.lt
    have w_0 := Hw_.out.cell 0
    have w_1 := Hw_.out.cell 1
    have w_l := Hw_.out.lt
    simp only [List.getElem?_cons_zero, List.getElem?_cons_succ] at t0 t1 t2 t3 c_0 c_1 v_0 v_1 w_0 w_1
    clear s_t
    clear s_c_
    clear s_v_
    have a_w_ : B0 ≤ gw := by omega
    clear s_0
    go_wp2_with fail
    with_reducible refine (Hso.out w7 (H.out.keep Hbl.out) HfN.out hN (Hs.out.keep Hbl.out)).mono ?_
    rintro e w8 ⟨rfl, hb⟩
    clear t0 t1 t2 t3 c_0 c_1 v_0 v_1 w_0 w_1 tl c_l v_l w_l
    replace Ht := hide (Ht.out.keep hb)
    replace Hc_ := hide (Hc_.out.keep hb)
    replace Hv_ := hide (Hv_.out.keep hb)
    replace Hw_ := hide (Hw_.out.keep hb)
    replace Hbl := hide (Hbl.out.trans (hb.mono Hbl.out.size))
    clear hb
    have t0 := Ht.out.cell 0
    have t1 := Ht.out.cell 1
    have t2 := Ht.out.cell 2
    have t3 := Ht.out.cell 3
    have tl := Ht.out.lt
    have c_0 := Hc_.out.cell 0
    have c_1 := Hc_.out.cell 1
    have c_l := Hc_.out.lt
    have v_0 := Hv_.out.cell 0
    have v_1 := Hv_.out.cell 1
    have v_l := Hv_.out.lt
    have w_0 := Hw_.out.cell 0
    have w_1 := Hw_.out.cell 1
    have w_l := Hw_.out.lt
    simp only [List.getElem?_cons_zero, List.getElem?_cons_succ] at t0 t1 t2 t3 c_0 c_1 v_0 v_1 w_0 w_1
    go_wp2_with fail
    with_reducible refine (toGives (Hin.out w8 (Hl.out.keep Hbl.out) (Hs.out.keep Hbl.out))).mono ?_
    rintro e w9 ⟨rfl, hb⟩
    clear t0 t1 t2 t3 c_0 c_1 v_0 v_1 w_0 w_1 tl c_l v_l w_l
    replace Ht := hide (Ht.out.keep hb)
    replace Hc_ := hide (Hc_.out.keep hb)
    replace Hv_ := hide (Hv_.out.keep hb)
    replace Hw_ := hide (Hw_.out.keep hb)
    replace Hbl := hide (Hbl.out.trans (hb.mono Hbl.out.size))
    clear hb
    have t0 := Ht.out.cell 0
    have t1 := Ht.out.cell 1
    have t2 := Ht.out.cell 2
    have t3 := Ht.out.cell 3
    have tl := Ht.out.lt
    have c_0 := Hc_.out.cell 0
    have c_1 := Hc_.out.cell 1
    have c_l := Hc_.out.lt
    have v_0 := Hv_.out.cell 0
    have v_1 := Hv_.out.cell 1
    have v_l := Hv_.out.lt
    have w_0 := Hw_.out.cell 0
    have w_1 := Hw_.out.cell 1
    have w_l := Hw_.out.lt
    simp only [List.getElem?_cons_zero, List.getElem?_cons_succ] at t0 t1 t2 t3 c_0 c_1 v_0 v_1 w_0 w_1
    have hee : (inSetsB l s != inSetsB l s) = false := by simp
    by_cases h9 : (9 : Int) < T.facts
    · go_wp2_with fail
      go_ret
      exact ⟨ret_bool (by simp), Hbl.out⟩
    by_cases h150 : 150 < n
    · have hbi : (150 : Int) < (n : Int) := by omega
      go_wp2_with fail
      go_ret
      exact ⟨ret_bool (by simp), Hbl.out⟩
    have hbi : ¬ (150 : Int) < (n : Int) := by omega
    go_wp2_with fail
    with_reducible refine (Hpr2.out _ (H.out.keep Hbl.out) (Hl.out.keep Hbl.out)).mono ?_
    rintro e wz ⟨rfl, hb⟩
    clear t0 t1 t2 t3 c_0 c_1 v_0 v_1 w_0 w_1 tl c_l v_l w_l
    replace Ht := hide (Ht.out.keep hb)
    replace Hc_ := hide (Hc_.out.keep hb)
    replace Hv_ := hide (Hv_.out.keep hb)
    replace Hw_ := hide (Hw_.out.keep hb)
    replace Hbl := hide (Hbl.out.trans (hb.mono Hbl.out.size))
    clear hb
    have t0 := Ht.out.cell 0
    have t1 := Ht.out.cell 1
    have t2 := Ht.out.cell 2
    have t3 := Ht.out.cell 3
    have tl := Ht.out.lt
    have c_0 := Hc_.out.cell 0
    have c_1 := Hc_.out.cell 1
    have c_l := Hc_.out.lt
    have v_0 := Hv_.out.cell 0
    have v_1 := Hv_.out.cell 1
    have v_l := Hv_.out.lt
    have w_0 := Hw_.out.cell 0
    have w_1 := Hw_.out.cell 1
    have w_l := Hw_.out.lt
    simp only [List.getElem?_cons_zero, List.getElem?_cons_succ] at t0 t1 t2 t3 c_0 c_1 v_0 v_1 w_0 w_1
    go_wp2_with fail
    go_ret
    exact ⟨ret_bool (by simp), Hbl.out⟩
end Go.Proofs.YtmjiiddncbhgpaaGreat
