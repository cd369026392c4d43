/- What the laws of lowerbound ask for, part 34: La27 La30. -/
import Derived.Test.YtliggcmohcdchaaU1
import Derived.Test.YtliggcmohcdchaaU2
import Derived.Test.YtliggcmohcdchaaU3
import Derived.Test.YtliggcmohcdchaaU4
import Derived.Test.YtliggcmohcdchaaU5
import Derived.Test.YtliggcmohcdchaaU6
import Derived.Test.YtliggcmohcdchaaU7
import Derived.Test.YtliggcmohcdchaaU8
import Derived.Test.YtliggcmohcdchaaU9
import Derived.Test.YtliggcmohcdchaaU10
import Derived.Test.YtliggcmohcdchaaU11
import Derived.Test.YtliggcmohcdchaaU12
import Derived.Test.YtliggcmohcdchaaU13
import Derived.Test.YtliggcmohcdchaaU14
import Derived.Test.YtliggcmohcdchaaU15
import Derived.Test.YtliggcmohcdchaaU16
import Derived.Test.YtliggcmohcdchaaU17
import Derived.Test.YtliggcmohcdchaaU18
import Derived.Test.YtliggcmohcdchaaU19
import Derived.Test.YtliggcmohcdchaaU20
import Derived.Test.YtliggcmohcdchaaU21
import Derived.Test.YtliggcmohcdchaaU22
import Derived.Test.YtliggcmohcdchaaU23
import Derived.Test.YtliggcmohcdchaaU24
import Derived.Test.YtliggcmohcdchaaU25
import Derived.Test.YtliggcmohcdchaaU26
import Derived.Test.YtliggcmohcdchaaU27
import Derived.Test.YtliggcmohcdchaaU28
import Derived.Test.YtliggcmohcdchaaU29
import Derived.Test.YtliggcmohcdchaaU30
import Derived.Test.YtliggcmohcdchaaU31
import Derived.Test.YtliggcmohcdchaaU32
import Derived.Test.YtliggcmohcdchaaU33
import Derived.BigQuiet
import Derived.BigRegion
import Derived.Deep.AppendLies
import Derived.Deep.DeepCutAuto
import Derived.Deep.Draws
import Derived.Deep.Fields
import Derived.Deep.LoopGhost
import Derived.Deep.QuietTactic
import Derived.Deep.RegionHeld3
import Derived.Deep.Slices
import Derived.DeepKeys4
import Derived.Ground.Names2Prog
import Derived.Ground.SlgnProg
import Derived.Ground.SlsfProg
import Derived.IntWalk
import Derived.Laws.AppendOwnNone
import Derived.Laws.BitsAllLaws
import Derived.Laws.EntriesVeiled
import Derived.Laws.OwnMore
import Derived.Lib.Hide
import Derived.Lib.SlicesCompact
import Derived.LoopIn
import Derived.LoopNIn
import Derived.Maps.AppendAt
import Derived.Maps.OwnIn
import Derived.Maps.OwnOps
import Derived.Maps.OwnSet
import Derived.OrdersHeld
import Derived.OrdersIn
import Derived.OwnWalkIn
import Derived.RangeFuncBound
import Derived.RangeFuncCalls
import Derived.RangeFuncLeaves
import Derived.RangeFuncNested
import Derived.Shelf.Abstract
import Derived.Shelf.RegionOpen
import Derived.Shelf.SlSortCmp.Whole1
import Derived.Shelf.Slices.Cells
import Derived.Shelf.Slices.Clone
import Derived.Shelf.Slices.CompactI
import Derived.Shelf.Slices.Empties
import Derived.Shelf.Slices.In.SortNone
import Derived.Shelf.Slices.SearchI
import Derived.Shelf.Sort.Plain
import Derived.Sort.OwnSortedInts
import Derived.StillTail
import Derived.StillTailTactics
import Derived.TacticsInMore
import Derived.Test.YtliggcmohcdchaaProg
import Derived.WalkKit
namespace Go.Proofs.Ytliggcmohcdchaa
set_option linter.unusedVariables false
set_option linter.unusedSimpArgs false
open Go.RowKit
set_option maxRecDepth 100000 in
set_option maxHeartbeats 12800000 in
theorem checkLaw_ct (T : Tsk) (a : TA) (A : Option Addr) (n c : Nat) (l : List Ent) (w : World) (h : TkR w a T) (hl : Rd Enc.ent w A n c l) :
    Calls Try.prog 3 #[.agg #[.int .i64 T.facts, .slice a.I a.nI a.cI, .slice a.G a.nG a.cG, .slice a.O a.nO a.cO], .slice A n c] w (Gives w (.bool true)) := by
  obtain ⟨i1, hi1, hy0, hy1, hy2⟩ := info_parts entInfo
  have hbf := fun W hT hW => RBoundsFault_ct a T A n c l W hT hW
  have hra := fun W hT hW => Raise_ct a T A n c l W hT hW
  have hck := fun W hT hW => Check_ct a T A n c l W hT hW
  have hbh := fun N W hT hok hW htab => RBoundsHold_ct a T N A n c l W hT hok hW htab
  have hrs := fun N A n c' B m d s w h hok hl htab hs hset => RRaised_ct a T N A n c' l B m d s w h hok hl htab hs hset
  obtain ⟨I, nI, cI, G, nG, cG, O, nO, cO⟩ := a
  simp only at hbf hra hck hbh hrs ⊢
  have hlow := hl.low
  have Hlen := hide hl.len
  rcases hq : boundsF T l with ⟨ec, ei⟩
  rw [hq] at hbf
  have H := hide h
  have Hl := hide hl
  have Hbf := hide hbf
  have Hra := hide hra
  have Hck := hide hck
  have Hbh := hide hbh
  have Hrs := hide hrs
  have Hq := hide hq
  clear h hl hbf hra hck hbh hrs hq
  have Hbl := hide (Below.refl w.heap.size w)
  go_enter Try.func3, Try.ntmps3
  go_upto_region 1 with (fail)
  obtain ⟨B0, hB0⟩ : ∃ B0, B0 = w.heap.size := ⟨_, rfl⟩
  have HB0 := hide hB0
  clear hB0
  have s_0 : B0 ≤ w.heap.size := Nat.le_trans (Nat.le_of_eq HB0.out) Hbl.out.size
  have hyt := Blk.new (w) 25 [.int .i64 T.facts, .slice I nI cI, .slice G nG cG, .slice O nO cO]
  have hbW : Below (w).heap.size (w) ((w).alloc (.cells #[.int .i64 T.facts, .slice I nI cI, .slice G nG cG, .slice O nO cO] 25)) := (Below.refl _ _).alloc (Nat.le_refl _) _
  obtain ⟨w0, hW⟩ : ∃ W, W = (w).alloc (.cells #[.int .i64 T.facts, .slice I nI cI, .slice G nG cG, .slice O nO cO] 25) := ⟨_, rfl⟩
  rw [← hW] at hyt hbW ⊢
  replace Hbl := hide (Hbl.out.trans (hbW.mono Hbl.out.size))
  have Ht := hide hyt
  clear hW hbW hyt
  generalize w.heap.size = gT at Ht s_0 ⊢
  have t0 := Ht.out.cell 0
  have t1 := Ht.out.cell 1
  have t2 := Ht.out.cell 2
  have t3 := Ht.out.cell 3
  have tl := Ht.out.lt
  simp only [List.getElem?_cons_zero, List.getElem?_cons_succ] at t0 t1 t2 t3
  have a_t : B0 ≤ gT := by omega
  clear s_0
  go_wp2_with fail
  with_reducible refine (lowerboundExample_ct w0).mono ?_
  rintro e w1 ⟨rfl, hb⟩
  clear t0 t1 t2 t3 tl
  replace Ht := hide (Ht.out.keep hb)
  replace Hbl := hide (Hbl.out.trans (hb.mono Hbl.out.size))
  clear hb
  have t0 := Ht.out.cell 0
  have t1 := Ht.out.cell 1
  have t2 := Ht.out.cell 2
  have t3 := Ht.out.cell 3
  have tl := Ht.out.lt
  simp only [List.getElem?_cons_zero, List.getElem?_cons_succ] at t0 t1 t2 t3
  go_wp2_with fail
  with_reducible refine (Hbf.out w1 (H.out.keep Hbl.out) (Hl.out.keep Hbl.out)).mono ?_
  rintro e w2 ⟨rfl, hb⟩
  clear t0 t1 t2 t3 tl
  replace Ht := hide (Ht.out.keep hb)
  replace Hbl := hide (Hbl.out.trans (hb.mono Hbl.out.size))
  clear hb
  have t0 := Ht.out.cell 0
  have t1 := Ht.out.cell 1
  have t2 := Ht.out.cell 2
  have t3 := Ht.out.cell 3
  have tl := Ht.out.lt
  simp only [List.getElem?_cons_zero, List.getElem?_cons_succ] at t0 t1 t2 t3
  unfold fault
  go_upto_region 4 with (fail)
  have s_t : gT < w2.heap.size := tl
  have s_0 : B0 ≤ w2.heap.size := Nat.le_trans (Nat.le_of_eq HB0.out) Hbl.out.size
  have hyf := Blk.new (w2) 29 [.int .i64 ec, .int .i64 ei]
  have hbW : Below (w2).heap.size (w2) ((w2).alloc (.cells #[.int .i64 ec, .int .i64 ei] 29)) := (Below.refl _ _).alloc (Nat.le_refl _) _
  obtain ⟨w3, hW⟩ : ∃ W, W = (w2).alloc (.cells #[.int .i64 ec, .int .i64 ei] 29) := ⟨_, rfl⟩
  rw [← hW] at hyf hbW ⊢
  replace Ht := hide (Ht.out.keep hbW)
  replace Hbl := hide (Hbl.out.trans (hbW.mono Hbl.out.size))
  have Hf := hide hyf
  clear hW hbW hyf
  generalize w2.heap.size = gf at Hf s_t s_0 ⊢
  have t0 := Ht.out.cell 0
  have t1 := Ht.out.cell 1
  have t2 := Ht.out.cell 2
  have t3 := Ht.out.cell 3
  have tl := Ht.out.lt
  have f0 := Hf.out.cell 0
  have f1 := Hf.out.cell 1
  have fl := Hf.out.lt
  simp only [List.getElem?_cons_zero, List.getElem?_cons_succ] at t0 t1 t2 t3 f0 f1
  clear s_t
  have a_f : B0 ≤ gf := by omega
  clear s_0
  by_cases hec : ec = 0
  rotate_left
  · have hne : (ec == 0) = false := by rw [beq_eq_false_iff_ne]; exact hec
    have hne2 : (ec != 0) = true := by simpa using hec
    have hck2 := chk_bad (T := T) (l := l) (by rw [Hq.out]; exact hec)
    have hrs2 := rse_bad (T := T) (l := l) (by rw [Hq.out]; exact hec)
    rw [Hq.out] at hck2 hrs2
    have hct := Hck.out w3 (H.out.keep Hbl.out) (Hl.out.keep Hbl.out)
    rw [hck2] at hct
    unfold chkV fault at hct
    dsimp only at hct
    clear hck2
    go_wp2_with fail
    with_reducible refine (hct).mono ?_
    rintro e w4 ⟨rfl, hb⟩
    clear t0 t1 t2 t3 f0 f1 tl fl
    replace Ht := hide (Ht.out.keep hb)
    replace Hf := hide (Hf.out.keep hb)
    replace Hbl := hide (Hbl.out.trans (hb.mono Hbl.out.size))
    clear hb
    have t0 := Ht.out.cell 0
    have t1 := Ht.out.cell 1
    have t2 := Ht.out.cell 2
    have t3 := Ht.out.cell 3
    have tl := Ht.out.lt
    have f0 := Hf.out.cell 0
    have f1 := Hf.out.cell 1
    have fl := Hf.out.lt
    simp only [List.getElem?_cons_zero, List.getElem?_cons_succ] at t0 t1 t2 t3 f0 f1
    clear hct
    go_upto_region 7 with (fail)
    have s_t : gT < w4.heap.size := tl
    have s_f : gf < w4.heap.size := fl
    have s_0 : B0 ≤ w4.heap.size := Nat.le_trans (Nat.le_of_eq HB0.out) Hbl.out.size
    have hycc := Blk.new (w4) 29 [.int .i64 ec, .int .i64 ei]
    have hbW : Below (w4).heap.size (w4) ((w4).alloc (.cells #[.int .i64 ec, .int .i64 ei] 29)) := (Below.refl _ _).alloc (Nat.le_refl _) _
    obtain ⟨w5, hW⟩ : ∃ W, W = (w4).alloc (.cells #[.int .i64 ec, .int .i64 ei] 29) := ⟨_, rfl⟩
    rw [← hW] at hycc hbW ⊢
    replace Ht := hide (Ht.out.keep hbW)
    replace Hf := hide (Hf.out.keep hbW)
    replace Hbl := hide (Hbl.out.trans (hbW.mono Hbl.out.size))
    have Hcc := hide hycc
    clear hW hbW hycc
    generalize w4.heap.size = gc at Hcc s_t s_f s_0 ⊢
    have t0 := Ht.out.cell 0
    have t1 := Ht.out.cell 1
    have t2 := Ht.out.cell 2
    have t3 := Ht.out.cell 3
    have tl := Ht.out.lt
    have f0 := Hf.out.cell 0
    have f1 := Hf.out.cell 1
    have fl := Hf.out.lt
    have cc0 := Hcc.out.cell 0
    have cc1 := Hcc.out.cell 1
    have ccl := Hcc.out.lt
    simp only [List.getElem?_cons_zero, List.getElem?_cons_succ] at t0 t1 t2 t3 f0 f1 cc0 cc1
    clear s_t
    clear s_f
    have a_cc : B0 ≤ gc := by omega
    clear s_0
    have hct := Hra.out w5 (H.out.keep Hbl.out) (Hl.out.keep Hbl.out)
    rw [hrs2] at hct
    clear hrs2
    go_wp2_with fail
    with_reducible refine hct.mono ?_
    rintro e w6 ⟨hb, rfl⟩
    clear hct
    clear t0 t1 t2 t3 f0 f1 cc0 cc1 tl fl ccl
    replace Ht := hide (Ht.out.keep hb)
    replace Hf := hide (Hf.out.keep hb)
    replace Hcc := hide (Hcc.out.keep hb)
    replace Hbl := hide (Hbl.out.trans (hb.mono Hbl.out.size))
    clear hb
    have t0 := Ht.out.cell 0
    have t1 := Ht.out.cell 1
    have t2 := Ht.out.cell 2
    have t3 := Ht.out.cell 3
    have tl := Ht.out.lt
    have f0 := Hf.out.cell 0
    have f1 := Hf.out.cell 1
    have fl := Hf.out.lt
    have cc0 := Hcc.out.cell 0
    have cc1 := Hcc.out.cell 1
    have ccl := Hcc.out.lt
    simp only [List.getElem?_cons_zero, List.getElem?_cons_succ] at t0 t1 t2 t3 f0 f1 cc0 cc1
    unfold fault
    go_upto_region 8 with (fail)
    have s_t : gT < w6.heap.size := tl
    have s_f : gf < w6.heap.size := fl
    have s_cc : gc < w6.heap.size := ccl
    have s_0 : B0 ≤ w6.heap.size := Nat.le_trans (Nat.le_of_eq HB0.out) Hbl.out.size
    have hyr := Blk.new (w6) 29 [.int .i64 ec, .int .i64 ei]
    have hbW : Below (w6).heap.size (w6) ((w6).alloc (.cells #[.int .i64 ec, .int .i64 ei] 29)) := (Below.refl _ _).alloc (Nat.le_refl _) _
    obtain ⟨w7, hW⟩ : ∃ W, W = (w6).alloc (.cells #[.int .i64 ec, .int .i64 ei] 29) := ⟨_, rfl⟩
    rw [← hW] at hyr hbW ⊢
    replace Ht := hide (Ht.out.keep hbW)
    replace Hf := hide (Hf.out.keep hbW)
    replace Hcc := hide (Hcc.out.keep hbW)
    replace Hbl := hide (Hbl.out.trans (hbW.mono Hbl.out.size))
    have Hr := hide hyr
    clear hW hbW hyr
    generalize w6.heap.size = gr at Hr s_t s_f s_cc s_0 ⊢
    have t0 := Ht.out.cell 0
    have t1 := Ht.out.cell 1
    have t2 := Ht.out.cell 2
    have t3 := Ht.out.cell 3
    have tl := Ht.out.lt
    have f0 := Hf.out.cell 0
    have f1 := Hf.out.cell 1
    have fl := Hf.out.lt
    have cc0 := Hcc.out.cell 0
    have cc1 := Hcc.out.cell 1
    have ccl := Hcc.out.lt
    have r0 := Hr.out.cell 0
    have r1 := Hr.out.cell 1
    have rl := Hr.out.lt
    simp only [List.getElem?_cons_zero, List.getElem?_cons_succ] at t0 t1 t2 t3 f0 f1 cc0 cc1 r0 r1
    clear s_t
    clear s_f
    clear s_cc
    have a_r : B0 ≤ gr := by omega
    clear s_0
    go_wp2_with fail
    go_ret
    exact ⟨ret_bool (by simp), Hbl.out⟩
  subst hec
  have hz := boundsF_zero (T := T) (l := l) (by rw [Hq.out])
  rw [Hq.out] at hz
  obtain ⟨_, e2⟩ := Prod.mk.inj hz
  subst e2
  clear hz
  obtain ⟨N, hok, htab⟩ := boundsF_ok (T := T) (l := l) (by rw [Hq.out])
  have Hok := hide hok
  have Htab := hide htab
  have hN := hok.low
  clear hok htab
  by_cases hbig : 200 < n
  · have hbi : (200 : Int) < (n : Int) := by omega
    go_wp2_with fail
    go_ret
    exact ⟨rfl, Hbl.out⟩
  have hbi : ¬ (200 : Int) < (n : Int) := by omega
  obtain ⟨v1, hv1⟩ : ∃ z, z = holdB infC T l := ⟨_, rfl⟩
  have hbh2 := fun W hT hW => Hbh.out N W hT Hok.out hW Htab.out
  simp only [← hv1] at hbh2
  have Hbh2 := hide hbh2
  have Hv1 := hide hv1
  clear hbh2 hv1
  cases v1 with
  | false =>
    have hck2 := chk_no (T := T) (l := l) (by rw [Hq.out]) Hv1.out.symm
    have hrs2 := rse_no (T := T) (l := l) (by rw [Hq.out]) Hv1.out.symm
    have hct := Hck.out w3 (H.out.keep Hbl.out) (Hl.out.keep Hbl.out)
    rw [hck2] at hct
    unfold chkV fault at hct
    dsimp only at hct
    clear hck2
    go_wp2_with fail
    with_reducible refine (hct).mono ?_
    rintro e w4 ⟨rfl, hb⟩
    clear t0 t1 t2 t3 f0 f1 tl fl
    replace Ht := hide (Ht.out.keep hb)
    replace Hf := hide (Hf.out.keep hb)
    replace Hbl := hide (Hbl.out.trans (hb.mono Hbl.out.size))
    clear hb
    have t0 := Ht.out.cell 0
    have t1 := Ht.out.cell 1
    have t2 := Ht.out.cell 2
    have t3 := Ht.out.cell 3
    have tl := Ht.out.lt
    have f0 := Hf.out.cell 0
    have f1 := Hf.out.cell 1
    have fl := Hf.out.lt
    simp only [List.getElem?_cons_zero, List.getElem?_cons_succ] at t0 t1 t2 t3 f0 f1
    clear hct
    go_upto_region 7 with (fail)
    have s_t : gT < w4.heap.size := tl
    have s_f : gf < w4.heap.size := fl
    have s_0 : B0 ≤ w4.heap.size := Nat.le_trans (Nat.le_of_eq HB0.out) Hbl.out.size
    have hycc := Blk.new (w4) 29 [.int .i64 0, .int .i64 0]
    have hbW : Below (w4).heap.size (w4) ((w4).alloc (.cells #[.int .i64 0, .int .i64 0] 29)) := (Below.refl _ _).alloc (Nat.le_refl _) _
    obtain ⟨w5, hW⟩ : ∃ W, W = (w4).alloc (.cells #[.int .i64 0, .int .i64 0] 29) := ⟨_, rfl⟩
    rw [← hW] at hycc hbW ⊢
    replace Ht := hide (Ht.out.keep hbW)
    replace Hf := hide (Hf.out.keep hbW)
    replace Hbl := hide (Hbl.out.trans (hbW.mono Hbl.out.size))
    have Hcc := hide hycc
    clear hW hbW hycc
    generalize w4.heap.size = gc at Hcc s_t s_f s_0 ⊢
    have t0 := Ht.out.cell 0
    have t1 := Ht.out.cell 1
    have t2 := Ht.out.cell 2
    have t3 := Ht.out.cell 3
    have tl := Ht.out.lt
    have f0 := Hf.out.cell 0
    have f1 := Hf.out.cell 1
    have fl := Hf.out.lt
    have cc0 := Hcc.out.cell 0
    have cc1 := Hcc.out.cell 1
    have ccl := Hcc.out.lt
    simp only [List.getElem?_cons_zero, List.getElem?_cons_succ] at t0 t1 t2 t3 f0 f1 cc0 cc1
    clear s_t
    clear s_f
    have a_cc : B0 ≤ gc := by omega
    clear s_0
    have hct := Hra.out w5 (H.out.keep Hbl.out) (Hl.out.keep Hbl.out)
    rw [hrs2] at hct
    clear hrs2
    go_wp2_with fail
    with_reducible refine hct.mono ?_
    rintro e w6 ⟨hb, rfl⟩
    clear hct
    clear t0 t1 t2 t3 f0 f1 cc0 cc1 tl fl ccl
    replace Ht := hide (Ht.out.keep hb)
    replace Hf := hide (Hf.out.keep hb)
    replace Hcc := hide (Hcc.out.keep hb)
    replace Hbl := hide (Hbl.out.trans (hb.mono Hbl.out.size))
    clear hb
    have t0 := Ht.out.cell 0
    have t1 := Ht.out.cell 1
    have t2 := Ht.out.cell 2
    have t3 := Ht.out.cell 3
    have tl := Ht.out.lt
    have f0 := Hf.out.cell 0
    have f1 := Hf.out.cell 1
    have fl := Hf.out.lt
    have cc0 := Hcc.out.cell 0
    have cc1 := Hcc.out.cell 1
    have ccl := Hcc.out.lt
    simp only [List.getElem?_cons_zero, List.getElem?_cons_succ] at t0 t1 t2 t3 f0 f1 cc0 cc1
    unfold fault
    go_upto_region 8 with (fail)
    have s_t : gT < w6.heap.size := tl
    have s_f : gf < w6.heap.size := fl
    have s_cc : gc < w6.heap.size := ccl
    have s_0 : B0 ≤ w6.heap.size := Nat.le_trans (Nat.le_of_eq HB0.out) Hbl.out.size
    have hyr := Blk.new (w6) 29 [.int .i64 16, .int .i64 (-10)]
    have hbW : Below (w6).heap.size (w6) ((w6).alloc (.cells #[.int .i64 16, .int .i64 (-10)] 29)) := (Below.refl _ _).alloc (Nat.le_refl _) _
    obtain ⟨w7, hW⟩ : ∃ W, W = (w6).alloc (.cells #[.int .i64 16, .int .i64 (-10)] 29) := ⟨_, rfl⟩
    rw [← hW] at hyr hbW ⊢
    replace Ht := hide (Ht.out.keep hbW)
    replace Hf := hide (Hf.out.keep hbW)
    replace Hcc := hide (Hcc.out.keep hbW)
    replace Hbl := hide (Hbl.out.trans (hbW.mono Hbl.out.size))
    have Hr := hide hyr
    clear hW hbW hyr
    generalize w6.heap.size = gr at Hr s_t s_f s_cc s_0 ⊢
    have t0 := Ht.out.cell 0
    have t1 := Ht.out.cell 1
    have t2 := Ht.out.cell 2
    have t3 := Ht.out.cell 3
    have tl := Ht.out.lt
    have f0 := Hf.out.cell 0
    have f1 := Hf.out.cell 1
    have fl := Hf.out.lt
    have cc0 := Hcc.out.cell 0
    have cc1 := Hcc.out.cell 1
    have ccl := Hcc.out.lt
    have r0 := Hr.out.cell 0
    have r1 := Hr.out.cell 1
    have rl := Hr.out.lt
    simp only [List.getElem?_cons_zero, List.getElem?_cons_succ] at t0 t1 t2 t3 f0 f1 cc0 cc1 r0 r1
    clear s_t
    clear s_f
    clear s_cc
    have a_r : B0 ≤ gr := by omega
    clear s_0
    go_wp2_with fail
    with_reducible refine (Hbh2.out w7 (H.out.keep Hbl.out) (Hl.out.keep Hbl.out)).mono ?_
    rintro e w8 ⟨rfl, hb⟩
    clear t0 t1 t2 t3 f0 f1 cc0 cc1 r0 r1 tl fl ccl rl
    replace Ht := hide (Ht.out.keep hb)
    replace Hf := hide (Hf.out.keep hb)
    replace Hcc := hide (Hcc.out.keep hb)
    replace Hr := hide (Hr.out.keep hb)
    replace Hbl := hide (Hbl.out.trans (hb.mono Hbl.out.size))
    clear hb
    have t0 := Ht.out.cell 0
    have t1 := Ht.out.cell 1
    have t2 := Ht.out.cell 2
    have t3 := Ht.out.cell 3
    have tl := Ht.out.lt
    have f0 := Hf.out.cell 0
    have f1 := Hf.out.cell 1
    have fl := Hf.out.lt
    have cc0 := Hcc.out.cell 0
    have cc1 := Hcc.out.cell 1
    have ccl := Hcc.out.lt
    have r0 := Hr.out.cell 0
    have r1 := Hr.out.cell 1
    have rl := Hr.out.lt
    simp only [List.getElem?_cons_zero, List.getElem?_cons_succ] at t0 t1 t2 t3 f0 f1 cc0 cc1 r0 r1
    have hat := fun W => At_ct 16 (-10) W
    have Hat := hide hat
    clear hat
    go_upto_region 11 with (fail)
    refine wp_region_held_drew (S := (fun w' => w'.cell? ⟨gc, 0, none⟩ = some (.int .i64 0) ∧ w'.cell? ⟨gr, 0, none⟩ = some (.int .i64 16) ∧ w'.cell? ⟨gr, 1, none⟩ = some (.int .i64 (-10)) ∧ gr < w'.heap.size)) (by kernel_rfl) ?_ (fun hHeld => ?_)
    · (try dsimp only); exact ⟨cc0, r0, r1, rl⟩
    refine takeH (i := 0) (v := ?_) (some 67) rfl rfl (by kernel_rfl) (by kernel_rfl) (by kernel_rfl) (fun _ _ _ h => h) (Or.inl ⟨by rfl, ?_⟩) (by assumption) ?_
    rotate_left
    · intro w hSw; (try dsimp only at hSw); obtain ⟨s1, s2, s3, s4⟩ := hSw; first | (go_simp; done) | (go_simp; with_reducible rfl)
    try simp only [Act.put, List.setIfInBounds_toArray, List.set_cons_zero, List.set_cons_succ]
    refine takeH (i := 1) (v := ?_) (some 68) rfl rfl (by kernel_rfl) (by kernel_rfl) (by kernel_rfl) (fun _ _ _ h => h) (Or.inl ⟨by rfl, ?_⟩) (by assumption) ?_
    rotate_left
    · intro w hSw; (try dsimp only at hSw); obtain ⟨s1, s2, s3, s4⟩ := hSw; first | (go_simp; done) | (go_simp; with_reducible rfl)
    try simp only [Act.put, List.setIfInBounds_toArray, List.set_cons_zero, List.set_cons_succ]
    refine takeH (i := 2) (v := ?_) (some 69) rfl rfl (by kernel_rfl) (by kernel_rfl) (by kernel_rfl) (fun _ _ _ h => h) (Or.inl ⟨by rfl, ?_⟩) (by assumption) ?_
    rotate_left
    · intro w hSw; (try dsimp only at hSw); obtain ⟨s1, s2, s3, s4⟩ := hSw; first | (go_simp; done) | (go_simp; with_reducible rfl)
    try simp only [Act.put, List.setIfInBounds_toArray, List.set_cons_zero, List.set_cons_succ]
    refine takeH (i := 3) (v := ?_) (some 70) rfl rfl (by kernel_rfl) (by kernel_rfl) (by kernel_rfl) (fun _ _ _ h => h) (Or.inl ⟨by rfl, ?_⟩) (by assumption) ?_
    rotate_left
    · intro w hSw; (try dsimp only at hSw); obtain ⟨s1, s2, s3, s4⟩ := hSw; first | (go_simp; done) | (go_simp; with_reducible rfl)
    try simp only [Act.put, List.setIfInBounds_toArray, List.set_cons_zero, List.set_cons_succ]
    refine takeH (i := 4) (v := ?_) (some 71) rfl rfl (by kernel_rfl) (by kernel_rfl) (by kernel_rfl) (fun _ _ _ h => h) (Or.inl ⟨by rfl, ?_⟩) (by assumption) ?_
    rotate_left
    · intro w hSw; (try dsimp only at hSw); obtain ⟨s1, s2, s3, s4⟩ := hSw; first | (go_simp; done) | (go_simp; with_reducible rfl)
    try simp only [Act.put, List.setIfInBounds_toArray, List.set_cons_zero, List.set_cons_succ]
    refine takeH (i := 5) (v := ?_) (some 72) rfl rfl (by kernel_rfl) (by kernel_rfl) (by kernel_rfl) (fun _ _ _ h => h) (Or.inl ⟨by rfl, ?_⟩) (by assumption) ?_
    rotate_left
    · intro w hSw; (try dsimp only at hSw); obtain ⟨s1, s2, s3, s4⟩ := hSw; first | (go_simp; done) | (go_simp; with_reducible rfl)
    try simp only [Act.put, List.setIfInBounds_toArray, List.set_cons_zero, List.set_cons_succ]
    refine takeH (i := 6) (v := ?_) (some 73) rfl rfl (by kernel_rfl) (by kernel_rfl) (by kernel_rfl) (fun _ _ _ h => h) (Or.inl ⟨by rfl, ?_⟩) (by assumption) ?_
    rotate_left
    · intro w hSw; (try dsimp only at hSw); obtain ⟨s1, s2, s3, s4⟩ := hSw; first | (go_simp; done) | (go_simp; with_reducible rfl)
    try simp only [Act.put, List.setIfInBounds_toArray, List.set_cons_zero, List.set_cons_succ]
    refine takeH (i := 7) (v := ?_) (some 74) rfl rfl (by kernel_rfl) (by kernel_rfl) (by kernel_rfl) (fun _ _ _ h => h) (Or.inl ⟨by rfl, ?_⟩) (by assumption) ?_
    rotate_left
    · intro w hSw; (try dsimp only at hSw); obtain ⟨s1, s2, s3, s4⟩ := hSw; first | (go_simp; done) | (go_simp; with_reducible rfl)
    try simp only [Act.put, List.setIfInBounds_toArray, List.set_cons_zero, List.set_cons_succ]
    refine takeH (i := 8) (v := ?_) (some 75) rfl rfl (by kernel_rfl) (by kernel_rfl) (by kernel_rfl) (fun _ _ _ h => h) (Or.inl ⟨by rfl, ?_⟩) (by assumption) ?_
    rotate_left
    · intro w hSw; (try dsimp only at hSw); obtain ⟨s1, s2, s3, s4⟩ := hSw; first | (go_simp; done) | (go_simp; with_reducible rfl)
    try simp only [Act.put, List.setIfInBounds_toArray, List.set_cons_zero, List.set_cons_succ]
    refine takeH (i := 9) (v := ?_) (some 76) rfl rfl (by kernel_rfl) (by kernel_rfl) (by kernel_rfl) (fun _ _ _ h => h) (Or.inl ⟨by rfl, ?_⟩) (by assumption) ?_
    rotate_left
    · intro w hSw; (try dsimp only at hSw); obtain ⟨s1, s2, s3, s4⟩ := hSw; first | (go_simp; done) | (go_simp; with_reducible rfl)
    try simp only [Act.put, List.setIfInBounds_toArray, List.set_cons_zero, List.set_cons_succ]
    refine takeH (i := 10) (v := ?_) (some 77) rfl rfl (by kernel_rfl) (by kernel_rfl) (by kernel_rfl) (fun _ _ _ h => h) (Or.inl ⟨by rfl, ?_⟩) (by assumption) ?_
    rotate_left
    · intro w hSw; (try dsimp only at hSw); obtain ⟨s1, s2, s3, s4⟩ := hSw; first | (go_simp; done) | (go_simp; with_reducible rfl)
    try simp only [Act.put, List.setIfInBounds_toArray, List.set_cons_zero, List.set_cons_succ]
    refine takeH (i := 11) (v := ?_) (some 78) rfl rfl (by kernel_rfl) (by kernel_rfl) (by kernel_rfl) (fun _ _ _ h => h) (Or.inl ⟨by rfl, ?_⟩) (by assumption) ?_
    rotate_left
    · intro w hSw; (try dsimp only at hSw); obtain ⟨s1, s2, s3, s4⟩ := hSw; first | (go_simp; done) | (go_simp; with_reducible rfl)
    try simp only [Act.put, List.setIfInBounds_toArray, List.set_cons_zero, List.set_cons_succ]
    refine takeH (i := 12) (v := ?_) (some 79) rfl rfl (by kernel_rfl) (by kernel_rfl) (by kernel_rfl) (fun _ _ _ h => h) (Or.inl ⟨by rfl, ?_⟩) (by assumption) ?_
    rotate_left
    · intro w hSw; (try dsimp only at hSw); obtain ⟨s1, s2, s3, s4⟩ := hSw; first | (go_simp; done) | (go_simp; with_reducible rfl)
    try simp only [Act.put, List.setIfInBounds_toArray, List.set_cons_zero, List.set_cons_succ]
    refine wpAnyH_ready (rs := [13]) (by kernel_rfl) (by simp) ?_
    refine AllReadyH.cons rfl (fun K hK => ?_) AllReadyH.nil
    go_simp
    with_reducible refine (Hat.out w8.drew).mono ?_
    rintro e1 w9 ⟨rfl, hb0⟩
    have hb : Below w8.heap.size w8 w9 := (Below.refl _ _).drew.trans hb0
    unfold fault
    clear hb0
    clear t0 t1 t2 t3 f0 f1 cc0 cc1 r0 r1 tl fl ccl rl
    replace Ht := hide (Ht.out.keep hb)
    replace Hf := hide (Hf.out.keep hb)
    replace Hcc := hide (Hcc.out.keep hb)
    replace Hr := hide (Hr.out.keep hb)
    replace Hbl := hide (Hbl.out.trans (hb.mono Hbl.out.size))
    clear hb
    have t0 := Ht.out.cell 0
    have t1 := Ht.out.cell 1
    have t2 := Ht.out.cell 2
    have t3 := Ht.out.cell 3
    have tl := Ht.out.lt
    have f0 := Hf.out.cell 0
    have f1 := Hf.out.cell 1
    have fl := Hf.out.lt
    have cc0 := Hcc.out.cell 0
    have cc1 := Hcc.out.cell 1
    have ccl := Hcc.out.lt
    have r0 := Hr.out.cell 0
    have r1 := Hr.out.cell 1
    have rl := Hr.out.lt
    simp only [List.getElem?_cons_zero, List.getElem?_cons_succ] at t0 t1 t2 t3 f0 f1 cc0 cc1 r0 r1
    refine hK.out _ _ ?_ (fun hHeld2 => ?_)
    · (try dsimp only); exact ⟨cc0, r0, r1, rl⟩
    clear hK K hHeld
    try simp only [Act.put, List.setIfInBounds_toArray, List.set_cons_zero, List.set_cons_succ]
    have hHeld := hHeld2; clear hHeld2
    refine takeH (i := 14) (v := ?_) (some 81) rfl rfl (by kernel_rfl) (by kernel_rfl) (by kernel_rfl) (fun _ _ _ h => h) (Or.inl ⟨by rfl, ?_⟩) (by assumption) ?_
    rotate_left
    · intro w hSw; (try dsimp only at hSw); obtain ⟨s1, s2, s3, s4⟩ := hSw; first | (go_simp; done) | (go_simp; with_reducible rfl)
    try simp only [Act.put, List.setIfInBounds_toArray, List.set_cons_zero, List.set_cons_succ]
    refine takeH (i := 15) (v := ?_) (some 82) rfl rfl (by kernel_rfl) (by kernel_rfl) (by kernel_rfl) (fun _ _ _ h => h) (Or.inl ⟨by rfl, ?_⟩) (by assumption) ?_
    rotate_left
    · intro w hSw; (try dsimp only at hSw); obtain ⟨s1, s2, s3, s4⟩ := hSw; first | (go_simp; done) | (go_simp; with_reducible rfl)
    try simp only [Act.put, List.setIfInBounds_toArray, List.set_cons_zero, List.set_cons_succ]
    refine takeH (i := 16) (v := ?_) (some 83) rfl rfl (by kernel_rfl) (by kernel_rfl) (by kernel_rfl) (fun _ _ _ h => h) (Or.inl ⟨by rfl, ?_⟩) (by assumption) ?_
    rotate_left
    · intro w hSw; (try dsimp only at hSw); obtain ⟨s1, s2, s3, s4⟩ := hSw; first | (go_simp; done) | (go_simp; with_reducible rfl)
    try simp only [Act.put, List.setIfInBounds_toArray, List.set_cons_zero, List.set_cons_succ]
    refine takeH (i := 17) (v := ?_) (some 84) rfl rfl (by kernel_rfl) (by kernel_rfl) (by kernel_rfl) (fun _ _ _ h => h) (Or.inl ⟨by rfl, ?_⟩) (by assumption) ?_
    rotate_left
    · intro w hSw; (try dsimp only at hSw); obtain ⟨s1, s2, s3, s4⟩ := hSw; first | (go_simp; done) | (go_simp; with_reducible rfl)
    try simp only [Act.put, List.setIfInBounds_toArray, List.set_cons_zero, List.set_cons_succ]
    refine takeH (i := 18) (v := ?_) (some 85) rfl rfl (by kernel_rfl) (by kernel_rfl) (by kernel_rfl) (fun _ _ _ h => h) (Or.inl ⟨by rfl, ?_⟩) (by assumption) ?_
    rotate_left
    · intro w hSw; (try dsimp only at hSw); obtain ⟨s1, s2, s3, s4⟩ := hSw; first | (go_simp; done) | (go_simp; with_reducible rfl)
    try simp only [Act.put, List.setIfInBounds_toArray, List.set_cons_zero, List.set_cons_succ]
    refine takeH (i := 19) (v := ?_) (some 86) rfl rfl (by kernel_rfl) (by kernel_rfl) (by kernel_rfl) (fun _ _ _ h => h) (Or.inl ⟨by rfl, ?_⟩) (by assumption) ?_
    rotate_left
    · intro w hSw; (try dsimp only at hSw); obtain ⟨s1, s2, s3, s4⟩ := hSw; first | (go_simp; done) | (go_simp; with_reducible rfl)
    try simp only [Act.put, List.setIfInBounds_toArray, List.set_cons_zero, List.set_cons_succ]
    refine takeH (i := 20) (v := ?_) (some 87) rfl rfl (by kernel_rfl) (by kernel_rfl) (by kernel_rfl) (fun _ _ _ h => h) (Or.inl ⟨by rfl, ?_⟩) (by assumption) ?_
    rotate_left
    · intro w hSw; (try dsimp only at hSw); obtain ⟨s1, s2, s3, s4⟩ := hSw; first | (go_simp; done) | (go_simp; with_reducible rfl)
    try simp only [Act.put, List.setIfInBounds_toArray, List.set_cons_zero, List.set_cons_succ]
    refine takeH (i := 21) (v := ?_) (some 4) rfl rfl (by kernel_rfl) (by kernel_rfl) (by kernel_rfl) (fun _ _ _ h => h) (Or.inl ⟨by rfl, ?_⟩) (by assumption) ?_
    rotate_left
    · intro w hSw; (try dsimp only at hSw); obtain ⟨s1, s2, s3, s4⟩ := hSw; first | (go_simp; done) | (go_simp; with_reducible rfl)
    try simp only [Act.put, List.setIfInBounds_toArray, List.set_cons_zero, List.set_cons_succ]
    refine wpAnyH_done (by kernel_rfl) ?_ _
    go_wp2_with fail
    go_ret
    exact ⟨ret_bool (by simp), Hbl.out⟩
  | true =>
    have hck2 := chk_yes (T := T) (l := l) (by rw [Hq.out]) Hv1.out.symm
    have hrs2 := rse_yes (T := T) (l := l) (by rw [Hq.out]) Hv1.out.symm
    have hlr : (raiseF infC T l).length = n := by unfold raiseF; rw [List.length_map, Hlen.out]
    obtain ⟨vb, hvb⟩ : ∃ z, z = bOf l T.init := ⟨_, rfl⟩
    rw [← hvb] at hck2
    have Hvb := hide hvb
    have Hlr := hide hlr
    have hct := Hck.out w3 (H.out.keep Hbl.out) (Hl.out.keep Hbl.out)
    rw [hck2] at hct
    unfold chkV fault at hct
    dsimp only at hct
    clear hck2 hvb hlr
    go_wp2_with fail
    with_reducible refine (hct).mono ?_
    rintro e w4 ⟨rfl, hb⟩
    clear t0 t1 t2 t3 f0 f1 tl fl
    replace Ht := hide (Ht.out.keep hb)
    replace Hf := hide (Hf.out.keep hb)
    replace Hbl := hide (Hbl.out.trans (hb.mono Hbl.out.size))
    clear hb
    have t0 := Ht.out.cell 0
    have t1 := Ht.out.cell 1
    have t2 := Ht.out.cell 2
    have t3 := Ht.out.cell 3
    have tl := Ht.out.lt
    have f0 := Hf.out.cell 0
    have f1 := Hf.out.cell 1
    have fl := Hf.out.lt
    simp only [List.getElem?_cons_zero, List.getElem?_cons_succ] at t0 t1 t2 t3 f0 f1
    clear hct
    go_upto_region 7 with (fail)
    have s_t : gT < w4.heap.size := tl
    have s_f : gf < w4.heap.size := fl
    have s_0 : B0 ≤ w4.heap.size := Nat.le_trans (Nat.le_of_eq HB0.out) Hbl.out.size
    have hycc := Blk.new (w4) 29 [.int .i64 0, .int .i64 0]
    have hbW : Below (w4).heap.size (w4) ((w4).alloc (.cells #[.int .i64 0, .int .i64 0] 29)) := (Below.refl _ _).alloc (Nat.le_refl _) _
    obtain ⟨w5, hW⟩ : ∃ W, W = (w4).alloc (.cells #[.int .i64 0, .int .i64 0] 29) := ⟨_, rfl⟩
    rw [← hW] at hycc hbW ⊢
    replace Ht := hide (Ht.out.keep hbW)
    replace Hf := hide (Hf.out.keep hbW)
    replace Hbl := hide (Hbl.out.trans (hbW.mono Hbl.out.size))
    have Hcc := hide hycc
    clear hW hbW hycc
    generalize w4.heap.size = gc at Hcc s_t s_f s_0 ⊢
    have t0 := Ht.out.cell 0
    have t1 := Ht.out.cell 1
    have t2 := Ht.out.cell 2
    have t3 := Ht.out.cell 3
    have tl := Ht.out.lt
    have f0 := Hf.out.cell 0
    have f1 := Hf.out.cell 1
    have fl := Hf.out.lt
    have cc0 := Hcc.out.cell 0
    have cc1 := Hcc.out.cell 1
    have ccl := Hcc.out.lt
    simp only [List.getElem?_cons_zero, List.getElem?_cons_succ] at t0 t1 t2 t3 f0 f1 cc0 cc1
    clear s_t
    clear s_f
    have a_cc : B0 ≤ gc := by omega
    clear s_0
    have hct := Hra.out w5 (H.out.keep Hbl.out) (Hl.out.keep Hbl.out)
    rw [hrs2] at hct
    clear hrs2
    go_wp2_with fail
    with_reducible refine hct.mono ?_
    rintro e w6 ⟨hb, rA, rc, rfl, hrr⟩
    rw [Hlr.out] at hrr ⊢
    have Hrr := hide hrr
    clear hct hrr
    clear t0 t1 t2 t3 f0 f1 cc0 cc1 tl fl ccl
    replace Ht := hide (Ht.out.keep hb)
    replace Hf := hide (Hf.out.keep hb)
    replace Hcc := hide (Hcc.out.keep hb)
    replace Hbl := hide (Hbl.out.trans (hb.mono Hbl.out.size))
    clear hb
    have t0 := Ht.out.cell 0
    have t1 := Ht.out.cell 1
    have t2 := Ht.out.cell 2
    have t3 := Ht.out.cell 3
    have tl := Ht.out.lt
    have f0 := Hf.out.cell 0
    have f1 := Hf.out.cell 1
    have fl := Hf.out.lt
    have cc0 := Hcc.out.cell 0
    have cc1 := Hcc.out.cell 1
    have ccl := Hcc.out.lt
    simp only [List.getElem?_cons_zero, List.getElem?_cons_succ] at t0 t1 t2 t3 f0 f1 cc0 cc1
    unfold fault
    go_upto_region 8 with (fail)
    have s_t : gT < w6.heap.size := tl
    have s_f : gf < w6.heap.size := fl
    have s_cc : gc < w6.heap.size := ccl
    have s_0 : B0 ≤ w6.heap.size := Nat.le_trans (Nat.le_of_eq HB0.out) Hbl.out.size
    have hyr := Blk.new (w6) 29 [.int .i64 0, .int .i64 0]
    have hbW : Below (w6).heap.size (w6) ((w6).alloc (.cells #[.int .i64 0, .int .i64 0] 29)) := (Below.refl _ _).alloc (Nat.le_refl _) _
    obtain ⟨w7, hW⟩ : ∃ W, W = (w6).alloc (.cells #[.int .i64 0, .int .i64 0] 29) := ⟨_, rfl⟩
    rw [← hW] at hyr hbW ⊢
    replace Ht := hide (Ht.out.keep hbW)
    replace Hf := hide (Hf.out.keep hbW)
    replace Hcc := hide (Hcc.out.keep hbW)
    replace Hrr := hide (Hrr.out.keep hbW)
    replace Hbl := hide (Hbl.out.trans (hbW.mono Hbl.out.size))
    have Hr := hide hyr
    clear hW hbW hyr
    generalize w6.heap.size = gr at Hr s_t s_f s_cc s_0 ⊢
    have t0 := Ht.out.cell 0
    have t1 := Ht.out.cell 1
    have t2 := Ht.out.cell 2
    have t3 := Ht.out.cell 3
    have tl := Ht.out.lt
    have f0 := Hf.out.cell 0
    have f1 := Hf.out.cell 1
    have fl := Hf.out.lt
    have cc0 := Hcc.out.cell 0
    have cc1 := Hcc.out.cell 1
    have ccl := Hcc.out.lt
    have r0 := Hr.out.cell 0
    have r1 := Hr.out.cell 1
    have rl := Hr.out.lt
    simp only [List.getElem?_cons_zero, List.getElem?_cons_succ] at t0 t1 t2 t3 f0 f1 cc0 cc1 r0 r1
    clear s_t
    clear s_f
    clear s_cc
    have a_r : B0 ≤ gr := by omega
    clear s_0
    go_wp2_with fail
    with_reducible refine (Hbh2.out w7 (H.out.keep Hbl.out) (Hl.out.keep Hbl.out)).mono ?_
    rintro e w8 ⟨rfl, hb⟩
    clear t0 t1 t2 t3 f0 f1 cc0 cc1 r0 r1 tl fl ccl rl
    replace Ht := hide (Ht.out.keep hb)
    replace Hf := hide (Hf.out.keep hb)
    replace Hcc := hide (Hcc.out.keep hb)
    replace Hr := hide (Hr.out.keep hb)
    replace Hrr := hide (Hrr.out.keep hb)
    replace Hbl := hide (Hbl.out.trans (hb.mono Hbl.out.size))
    clear hb
    have t0 := Ht.out.cell 0
    have t1 := Ht.out.cell 1
    have t2 := Ht.out.cell 2
    have t3 := Ht.out.cell 3
    have tl := Ht.out.lt
    have f0 := Hf.out.cell 0
    have f1 := Hf.out.cell 1
    have fl := Hf.out.lt
    have cc0 := Hcc.out.cell 0
    have cc1 := Hcc.out.cell 1
    have ccl := Hcc.out.lt
    have r0 := Hr.out.cell 0
    have r1 := Hr.out.cell 1
    have rl := Hr.out.lt
    simp only [List.getElem?_cons_zero, List.getElem?_cons_succ] at t0 t1 t2 t3 f0 f1 cc0 cc1 r0 r1
    have Hl8 := hide (Hl.out.keep Hbl.out)
    have Ht8 := hide Ht.out
    have Hc8 := hide Hcc.out
    have Hr8 := hide Hr.out
    have hg8 := Hbl.out.size
    have ht8 := tl
    have hc8 := ccl
    have hr8 := rl
    go_wp2_with fail
    clear t0 t1 t2 t3 f0 f1 cc0 cc1 r0 r1 tl fl ccl rl
    go_loopw [11, 12] (fun ov i wr => ∃ (k : Nat) (Oa : Option Addr) (oc : Nat) (vs : List Value), k ≤ n ∧ i = .int .i64 k ∧ ov = .slice Oa k oc ∧ Below w8.heap.size w8 wr ∧ OwnE Enc.ent 38 w8.heap.size (fun b => w8.heap.size ≤ b) wr Oa k oc vs ((l.take k).map fun e => ⟨e.st, leastF infC T.ops l e.st⟩)) (fun _ i _ => n - (intOf i).toNat)
    case atStart => exact ⟨0, none, 0, [], by omega, rfl, rfl, Below.refl _ _, OwnE.nil _ _ _ _ _⟩
    case round =>
      obtain ⟨k, Oa, oc, vs, hk, rfl, rfl, hb, hown⟩ := hrel
      have hszb := hb.size
      have Hb := hide hb
      have Hown := hide hown
      replace Hbl := hide (Hbl.out.trans (hb.mono hg8))
      replace Ht := hide (Ht8.out.keep hb)
      replace Hcc := hide (Hc8.out.keep hb)
      replace Hr := hide (Hr8.out.keep hb)
      replace Hrr := hide (Hrr.out.keep hb)
      clear hb hown
      have t0 := Ht.out.cell 0
      have t1 := Ht.out.cell 1
      have t2 := Ht.out.cell 2
      have t3 := Ht.out.cell 3
      have tl := Ht.out.lt
      have cc0 := Hcc.out.cell 0
      have cc1 := Hcc.out.cell 1
      have ccl := Hcc.out.lt
      have r0 := Hr.out.cell 0
      have r1 := Hr.out.cell 1
      have rl := Hr.out.lt
      simp only [List.getElem?_cons_zero, List.getElem?_cons_succ] at t0 t1 t2 t3 cc0 cc1 r0 r1
      by_cases hlt : k < n
      rotate_left
      · obtain rfl : k = n := by omega
        have hown := Hown.out
        rw [List.take_of_length_le (by rw [Hlen.out]; omega)] at hown
        have hrd := hown.rd
        have hbo := RBoundOf_ct A I k c nI cI l T.init wr (Hl.out.keep Hbl.out) (H.out.keep Hbl.out).init
        rw [← Hvb.out] at hbo
        have hsb := fun W (hW : Qt wr W) => sameBounds_ct rA Oa k rc k oc _ _ W (Hrr.out.qt hW) (hrd.qt hW)
        have hse : sameE (raiseF infC T l) (l.map fun e => (⟨e.st, leastF infC T.ops l e.st⟩ : Ent)) = true := sameE_iff.2 rfl
        simp only [hse] at hsb
        have hvv : (vb == vb) = true := by simp
        have Hbo := hide hbo
        have Hsb := hide hsb
        clear hown hrd hbo hsb hse
        go_wp2_with fail
        with_reducible refine Hbo.out.mono ?_
        rintro e w9 ⟨rfl, hq9⟩
        have hb := hq9.below wr.heap.size
        clear t0 t1 t2 t3 cc0 cc1 r0 r1 tl ccl rl
        replace Ht := hide (Ht.out.keep hb)
        replace Hcc := hide (Hcc.out.keep hb)
        replace Hr := hide (Hr.out.keep hb)
        replace Hbl := hide (Hbl.out.trans (hb.mono Hbl.out.size))
        clear hb
        have t0 := Ht.out.cell 0
        have t1 := Ht.out.cell 1
        have t2 := Ht.out.cell 2
        have t3 := Ht.out.cell 3
        have tl := Ht.out.lt
        have cc0 := Hcc.out.cell 0
        have cc1 := Hcc.out.cell 1
        have ccl := Hcc.out.lt
        have r0 := Hr.out.cell 0
        have r1 := Hr.out.cell 1
        have rl := Hr.out.lt
        simp only [List.getElem?_cons_zero, List.getElem?_cons_succ] at t0 t1 t2 t3 cc0 cc1 r0 r1
        go_wp2_with fail
        with_reducible refine (Hsb.out w9 hq9).mono ?_
        rintro e w10 ⟨rfl, hq10⟩
        have Hfin := hide (Hbl.out.trans (hq10.below _))
        clear hq9 hq10
        go_wp2_with fail
        go_ret
        exact ⟨ret_bool (by simp), Hfin.out⟩
      obtain ⟨b, off, e, A1, n1, c1, rfl, he, z0, z1, r9, _⟩ := Hl8.out.ent hlt
      have hbw : b < w8.heap.size := World.block_lt_of_cell? w8 _ z0
      have g0 := (Hb.out.cell (p := ⟨b, off + k * 2, none⟩) hbw).trans z0
      have hmem := List.mem_of_getElem? he
      have hset := Htab.out.set e hmem
      have htk : ((l.take (k + 1)).map fun e => (⟨e.st, leastF infC T.ops l e.st⟩ : Ent)) = ((l.take k).map fun e => ⟨e.st, leastF infC T.ops l e.st⟩) ++ [⟨e.st, leastF infC T.ops l e.st⟩] := by rw [List.take_add_one, he, List.map_append]; rfl
      have hrange : 1 ≤ leastF infC T.ops l e.st ∧ leastF infC T.ops l e.st ≤ infC := raise_range Hv1.out.symm (Htab.out.low) ⟨e.st, leastF infC T.ops l e.st⟩ (List.mem_map.2 ⟨e, hmem, rfl⟩)
      have hr1 := Hrs.out N (some ⟨b, off, none⟩) n c A1 n1 c1 e.st wr.drew (H.out.keep Hbl.out.drew) Hok.out (Hl.out.keep Hbl.out.drew) Htab.out (r9.keep Hb.out.drew) hset
      obtain ⟨v, hv⟩ : ∃ v, v = leastF infC T.ops l e.st := ⟨_, rfl⟩
      rw [← hv] at htk hrange hr1
      unfold infC at hrange
      have Htk := hide htk
      have Hr1 := hide hr1
      have Hr9 := hide r9
      have hki : (k : Int) < (n : Int) := by omega
      clear htk hr1 r9 hv hset hmem he z0 z1
      go_upto_region 16 with (fail)
      refine wp_region_held_drew (S := (fun w' => w'.cell? ⟨gT, 0, none⟩ = some (.int .i64 T.facts) ∧ w'.cell? ⟨gT, 1, none⟩ = some (.slice I nI cI) ∧ w'.cell? ⟨gT, 2, none⟩ = some (.slice G nG cG) ∧ w'.cell? ⟨gT, 3, none⟩ = some (.slice O nO cO) ∧ gT < w'.heap.size ∧ w'.cell? ⟨b, off + k * 2, none⟩ = some (.slice A1 n1 c1))) (by kernel_rfl) ?_ (fun hHeld => ?_)
      · (try dsimp only); exact ⟨t0, t1, t2, t3, tl, g0⟩
      refine takeH (i := 0) (v := ?_) (some 94) rfl rfl (by kernel_rfl) (by kernel_rfl) (by kernel_rfl) (fun _ _ _ h => h) (Or.inl ⟨by rfl, ?_⟩) (by assumption) ?_
      rotate_left
      · intro w hSw; (try dsimp only at hSw); obtain ⟨s1, s2, s3, s4, s5, s6⟩ := hSw; first | (go_simp; done) | (go_simp; with_reducible rfl)
      try simp only [Act.put, List.setIfInBounds_toArray, List.set_cons_zero, List.set_cons_succ]
      refine takeH (i := 1) (v := ?_) (some 95) rfl rfl (by kernel_rfl) (by kernel_rfl) (by kernel_rfl) (fun _ _ _ h => h) (Or.inl ⟨by rfl, ?_⟩) (by assumption) ?_
      rotate_left
      · intro w hSw; (try dsimp only at hSw); obtain ⟨s1, s2, s3, s4, s5, s6⟩ := hSw; first | (go_simp; done) | (go_simp; with_reducible rfl)
      try simp only [Act.put, List.setIfInBounds_toArray, List.set_cons_zero, List.set_cons_succ]
      refine takeH (i := 2) (v := ?_) (some 96) rfl rfl (by kernel_rfl) (by kernel_rfl) (by kernel_rfl) (fun _ _ _ h => h) (Or.inl ⟨by rfl, ?_⟩) (by assumption) ?_
      rotate_left
      · intro w hSw; (try dsimp only at hSw); obtain ⟨s1, s2, s3, s4, s5, s6⟩ := hSw; first | (go_simp; done) | (go_simp; with_reducible rfl)
      try simp only [Act.put, List.setIfInBounds_toArray, List.set_cons_zero, List.set_cons_succ]
      refine takeH (i := 3) (v := ?_) (some 97) rfl rfl (by kernel_rfl) (by kernel_rfl) (by kernel_rfl) (fun _ _ _ h => h) (Or.inl ⟨by rfl, ?_⟩) (by assumption) ?_
      rotate_left
      · intro w hSw; (try dsimp only at hSw); obtain ⟨s1, s2, s3, s4, s5, s6⟩ := hSw; first | (go_simp; done) | (go_simp; with_reducible rfl)
      try simp only [Act.put, List.setIfInBounds_toArray, List.set_cons_zero, List.set_cons_succ]
      refine takeH (i := 4) (v := ?_) (some 98) rfl rfl (by kernel_rfl) (by kernel_rfl) (by kernel_rfl) (fun _ _ _ h => h) (Or.inl ⟨by rfl, ?_⟩) (by assumption) ?_
      rotate_left
      · intro w hSw; (try dsimp only at hSw); obtain ⟨s1, s2, s3, s4, s5, s6⟩ := hSw; first | (go_simp; done) | (go_simp; with_reducible rfl)
      try simp only [Act.put, List.setIfInBounds_toArray, List.set_cons_zero, List.set_cons_succ]
      refine takeH (i := 5) (v := ?_) (some 99) rfl rfl (by kernel_rfl) (by kernel_rfl) (by kernel_rfl) (fun _ _ _ h => h) (Or.inl ⟨by rfl, ?_⟩) (by assumption) ?_
      rotate_left
      · intro w hSw; (try dsimp only at hSw); obtain ⟨s1, s2, s3, s4, s5, s6⟩ := hSw; first | (go_simp; done) | (go_simp; with_reducible rfl)
      try simp only [Act.put, List.setIfInBounds_toArray, List.set_cons_zero, List.set_cons_succ]
      refine takeH (i := 6) (v := ?_) (some 100) rfl rfl (by kernel_rfl) (by kernel_rfl) (by kernel_rfl) (fun _ _ _ h => h) (Or.inl ⟨by rfl, ?_⟩) (by assumption) ?_
      rotate_left
      · intro w hSw; (try dsimp only at hSw); obtain ⟨s1, s2, s3, s4, s5, s6⟩ := hSw; first | (go_simp; done) | (go_simp; with_reducible rfl)
      try simp only [Act.put, List.setIfInBounds_toArray, List.set_cons_zero, List.set_cons_succ]
      refine takeH (i := 7) (v := ?_) (some 101) rfl rfl (by kernel_rfl) (by kernel_rfl) (by kernel_rfl) (fun _ _ _ h => h) (Or.inl ⟨by rfl, ?_⟩) (by assumption) ?_
      rotate_left
      · intro w hSw; (try dsimp only at hSw); obtain ⟨s1, s2, s3, s4, s5, s6⟩ := hSw; first | (go_simp; done) | (go_simp; with_reducible rfl)
      try simp only [Act.put, List.setIfInBounds_toArray, List.set_cons_zero, List.set_cons_succ]
      refine takeH (i := 8) (v := ?_) (some 102) rfl rfl (by kernel_rfl) (by kernel_rfl) (by kernel_rfl) (fun _ _ _ h => h) (Or.inl ⟨by rfl, ?_⟩) (by assumption) ?_
      rotate_left
      · intro w hSw; (try dsimp only at hSw); obtain ⟨s1, s2, s3, s4, s5, s6⟩ := hSw; first | (go_simp; done) | (go_simp; with_reducible rfl)
      try simp only [Act.put, List.setIfInBounds_toArray, List.set_cons_zero, List.set_cons_succ]
      refine takeH (i := 9) (v := ?_) (some 103) rfl rfl (by kernel_rfl) (by kernel_rfl) (by kernel_rfl) (fun _ _ _ h => h) (Or.inl ⟨by rfl, ?_⟩) (by assumption) ?_
      rotate_left
      · intro w hSw; (try dsimp only at hSw); obtain ⟨s1, s2, s3, s4, s5, s6⟩ := hSw; first | (go_simp; done) | (go_simp; with_reducible rfl)
      try simp only [Act.put, List.setIfInBounds_toArray, List.set_cons_zero, List.set_cons_succ]
      refine takeH (i := 10) (v := ?_) (some 104) rfl rfl (by kernel_rfl) (by kernel_rfl) (by kernel_rfl) (fun _ _ _ h => h) (Or.inl ⟨by rfl, ?_⟩) (by assumption) ?_
      rotate_left
      · intro w hSw; (try dsimp only at hSw); obtain ⟨s1, s2, s3, s4, s5, s6⟩ := hSw; first | (go_simp; done) | (go_simp; with_reducible rfl)
      try simp only [Act.put, List.setIfInBounds_toArray, List.set_cons_zero, List.set_cons_succ]
      refine takeH (i := 11) (v := ?_) (some 105) rfl rfl (by kernel_rfl) (by kernel_rfl) (by kernel_rfl) (fun _ _ _ h => h) (Or.inl ⟨by rfl, ?_⟩) (by assumption) ?_
      rotate_left
      · intro w hSw; (try dsimp only at hSw); obtain ⟨s1, s2, s3, s4, s5, s6⟩ := hSw; first | (go_simp; done) | (go_simp; with_reducible rfl)
      try simp only [Act.put, List.setIfInBounds_toArray, List.set_cons_zero, List.set_cons_succ]
      refine takeH (i := 12) (v := ?_) (some 106) rfl rfl (by kernel_rfl) (by kernel_rfl) (by kernel_rfl) (fun _ _ _ h => h) (Or.inl ⟨by rfl, ?_⟩) (by assumption) ?_
      rotate_left
      · intro w hSw; (try dsimp only at hSw); obtain ⟨s1, s2, s3, s4, s5, s6⟩ := hSw; first | (go_simp; done) | (go_simp; with_reducible rfl)
      try simp only [Act.put, List.setIfInBounds_toArray, List.set_cons_zero, List.set_cons_succ]
      refine wpAnyH_ready (rs := [13]) (by kernel_rfl) (by simp) ?_
      refine AllReadyH.cons rfl (fun K hK => ?_) AllReadyH.nil
      go_simp
      with_reducible refine Hr1.out.mono ?_
      rintro e1 w9 ⟨rfl, hb0⟩
      have hb : Below wr.heap.size wr w9 := (Below.refl _ _).drew.trans hb0
      have hgb := World.block_lt_of_cell? wr _ g0
      replace g0 := (hb.cell (p := ⟨b, off + k * 2, none⟩) hgb).trans g0
      replace Hown := hide (Hown.out.keep hb)
      replace Hb := hide (Hb.out.trans (hb.mono hszb))
      have hz9 := hb.size
      clear hb0 hgb
      clear t0 t1 t2 t3 cc0 cc1 r0 r1 tl ccl rl
      replace Ht := hide (Ht.out.keep hb)
      replace Hcc := hide (Hcc.out.keep hb)
      replace Hr := hide (Hr.out.keep hb)
      replace Hbl := hide (Hbl.out.trans (hb.mono Hbl.out.size))
      clear hb
      have t0 := Ht.out.cell 0
      have t1 := Ht.out.cell 1
      have t2 := Ht.out.cell 2
      have t3 := Ht.out.cell 3
      have tl := Ht.out.lt
      have cc0 := Hcc.out.cell 0
      have cc1 := Hcc.out.cell 1
      have ccl := Hcc.out.lt
      have r0 := Hr.out.cell 0
      have r1 := Hr.out.cell 1
      have rl := Hr.out.lt
      simp only [List.getElem?_cons_zero, List.getElem?_cons_succ] at t0 t1 t2 t3 cc0 cc1 r0 r1
      refine hK.out _ _ ?_ (fun hHeld2 => ?_)
      · (try dsimp only); exact ⟨t0, t1, t2, t3, tl, g0⟩
      clear hK K hHeld
      try simp only [Act.put, List.setIfInBounds_toArray, List.set_cons_zero, List.set_cons_succ]
      have hHeld := hHeld2; clear hHeld2
      refine takeH (i := 14) (v := ?_) (some 108) rfl rfl (by kernel_rfl) (by kernel_rfl) (by kernel_rfl) (fun _ _ _ h => h) (Or.inl ⟨by rfl, ?_⟩) (by assumption) ?_
      rotate_left
      · intro w hSw; (try dsimp only at hSw); obtain ⟨s1, s2, s3, s4, s5, s6⟩ := hSw; first | (go_simp; done) | (go_simp; with_reducible rfl)
      try simp only [Act.put, List.setIfInBounds_toArray, List.set_cons_zero, List.set_cons_succ]
      have hta := (Ht.out.alloc (.cells #[.slice A1 n1 c1, .int .i64 v] 38))
      have q0 := hta.cell 0
      have q1 := hta.cell 1
      have q2 := hta.cell 2
      have q3 := hta.cell 3
      have ql := hta.lt
      simp only [List.getElem?_cons_zero, List.getElem?_cons_succ] at q0 q1 q2 q3
      have q4 : (w9.alloc (.cells #[.slice A1 n1 c1, .int .i64 v] 38)).cell? ⟨b, off + k * 2, none⟩ = some (.slice A1 n1 c1) := (((Below.refl w9.heap.size w9).alloc (Nat.le_refl _) _).cell (p := ⟨b, off + k * 2, none⟩) (World.block_lt_of_cell? w9 _ g0)).trans g0
      refine wpAnyH_ready (rs := [15]) (by kernel_rfl) (by simp) ?_
      refine AllReadyH.cons rfl (fun K hK => ?_) AllReadyH.nil
      go_simp
      refine hK.out _ _ ?_ (fun hHeld2 => ?_)
      · (try dsimp only); exact ⟨q0, q1, q2, q3, ql, q4⟩
      clear hK K hHeld hta q0 q1 q2 q3 ql q4
      try simp only [Act.put, List.setIfInBounds_toArray, List.set_cons_zero, List.set_cons_succ]
      have hHeld := hHeld2; clear hHeld2
      have hfirm : Firm Enc.ent (fun b => w8.heap.size ≤ b) w9 [.slice A1 n1 c1, .int .i64 v] ⟨e.st, v⟩ := by
        have hrm : RdM (fun b => w8.heap.size ≤ b) w9 A1 n1 c1 e.st := fun w' hc => Hr9.out.keep (Hb.out.trans (hc.below (fun i hi => hi) (by omega)))
        exact firm_ent (e := ⟨e.st, v⟩) hrm (show -9223372036854775808 ≤ v ∧ v ≤ 9223372036854775807 by omega)
      refine wpAnyH_ready (rs := [16]) (by kernel_rfl) (by simp) ?_
      refine AllReadyH.cons rfl (fun K hK => ?_) AllReadyH.nil
      refine step_pushS rfl _ _ 26 rfl w8.heap.size 38 i1 _ 32 Try.underlying26 hi1 hy0 hy1 hy2 rfl (by decide) (A := Oa) (n := k) (c := oc) (by first | rfl | (go_simp; done)) Hown.out (fun r hr => (Hown.out.base hr).1) [.slice A1 n1 c1, .int .i64 v] ⟨e.st, v⟩ (by intro u hu; simp at hu; rcases hu with hu | hu <;> subst hu <;> rfl) (by first | rfl | (go_simp; done)) hfirm (by omega) (by omega) (by omega) ?_
      intro O8 oc8 w10 hown8 hch8 hat8
      have hOb : ∀ r, blkA Oa = some r → w8.heap.size ≤ r := fun r hr => (Hown.out.base hr).1
      have hbx : Below w8.heap.size w9 w10 := (Below.refl _ _).trans (hch8.below (fun i hi => hOb i hi) (by omega))
      have htx := Ht8.out.below (Hb.out.trans hbx) ht8
      have q0 := htx.cell 0
      have q1 := htx.cell 1
      have q2 := htx.cell 2
      have q3 := htx.cell 3
      have ql := htx.lt
      simp only [List.getElem?_cons_zero, List.getElem?_cons_succ] at q0 q1 q2 q3
      have q4 : w10.cell? ⟨b, off + k * 2, none⟩ = some (.slice A1 n1 c1) := (hbx.cell (p := ⟨b, off + k * 2, none⟩) hbw).trans g0
      have hb8 := Hb.out.trans hbx
      have hown9 := hown8.less (M' := fun b => w8.heap.size ≤ b) (fun i _ e => .inl e)
      rw [← Htk.out] at hown9
      have Hb8 := hide hb8
      have Hown9 := hide hown9
      clear hfirm hown8 hch8 hat8 hb8 hown9 htx hbx
      refine hK.out _ _ ?_ (fun hHeld2 => ?_)
      · (try dsimp only); exact ⟨q0, q1, q2, q3, ql, q4⟩
      clear hK K hHeld
      try simp only [Act.put, List.setIfInBounds_toArray, List.set_cons_zero, List.set_cons_succ]
      have hHeld := hHeld2; clear hHeld2
      refine takeH (i := 17) (v := ?_) (some 11) rfl rfl (by kernel_rfl) (by kernel_rfl) (by kernel_rfl) (fun _ _ _ h => h) (Or.inl ⟨by rfl, ?_⟩) (by assumption) ?_
      rotate_left
      · intro w hSw; (try dsimp only at hSw); obtain ⟨s1, s2, s3, s4, s5, s6⟩ := hSw; first | (go_simp; done) | (go_simp; with_reducible rfl)
      try simp only [Act.put, List.setIfInBounds_toArray, List.set_cons_zero, List.set_cons_succ]
      refine wpAnyH_done (by kernel_rfl) ?_ _
      go_wp2_with fail
      go_roundw
      case rel => exact ⟨k + 1, O8, oc8, _, by omega, by go_num, rfl, Hb8.out, Hown9.out⟩
      case measure => simp [intOf]; omega
end Go.Proofs.Ytliggcmohcdchaa
namespace Go.Proofs.Ytliggcmohcdchaa
set_option linter.unusedVariables false
set_option linter.unusedSimpArgs false
open Go.RowKit
theorem made_chk {T : Tsk} {N : Nat} (hok : OkT T N) (h0 : (taskFault T).1 = 0) {l : List Nat} {f : Nat → Int} (h : CostsOf T l f) : chkF T (mkTab l f) = (f (wordF T.init), true, 0, 0) := by
  rw [chk_yes (by rw [boundsF_good hok h0 (made_tab hok h)]) (made_hold hok h), made_init hok h]
theorem made_rse {T : Tsk} {N : Nat} (hok : OkT T N) (h0 : (taskFault T).1 = 0) {l : List Nat} {f : Nat → Int} (h : CostsOf T l f) : rseF T (mkTab l f) = (some (mkTab l f), 0, 0) := by
  rw [rse_yes (by rw [boundsF_good hok h0 (made_tab hok h)]) (made_hold hok h), made_raise hok h]
set_option maxRecDepth 100000 in
set_option maxHeartbeats 6400000 in
theorem madeLaw_ct (T : Tsk) (a : TA) (w : World) (h : TkR w a T) :
    Calls Try.prog 6 #[.agg #[.int .i64 T.facts, .slice a.I a.nI a.cI, .slice a.G a.nG a.cG, .slice a.O a.nO a.cO]] w (Gives w (.bool true)) := by
  have hmk := fun W hT => Make_ct a T W hT
  have hop := fun W hT => Optimal_ct a T W hT
  have hra := fun A n c l W hT hW => Raise_ct a T A n c l W hT hW
  have hck := fun A n c l W hT hW => Check_ct a T A n c l W hT hW
  obtain ⟨I, nI, cI, G, nG, cG, O, nO, cO⟩ := a
  simp only at hmk hop hra hck ⊢
  unfold MakeP at hmk
  unfold OptP at hop
  have H := hide h
  have Hmk := hide hmk
  have Hop := hide hop
  have Hra := hide hra
  have Hck := hide hck
  clear h hmk hop hra hck
  have Hbl := hide (Below.refl w.heap.size w)
  go_enter Try.func6, Try.ntmps6
  go_upto_region 1 with (fail)
  obtain ⟨B0, hB0⟩ : ∃ B0, B0 = w.heap.size := ⟨_, rfl⟩
  have HB0 := hide hB0
  clear hB0
  have s_0 : B0 ≤ w.heap.size := Nat.le_trans (Nat.le_of_eq HB0.out) Hbl.out.size
  have hyt := Blk.new (w) 25 [.int .i64 T.facts, .slice I nI cI, .slice G nG cG, .slice O nO cO]
  have hbW : Below (w).heap.size (w) ((w).alloc (.cells #[.int .i64 T.facts, .slice I nI cI, .slice G nG cG, .slice O nO cO] 25)) := (Below.refl _ _).alloc (Nat.le_refl _) _
  obtain ⟨w0, hW⟩ : ∃ W, W = (w).alloc (.cells #[.int .i64 T.facts, .slice I nI cI, .slice G nG cG, .slice O nO cO] 25) := ⟨_, rfl⟩
  rw [← hW] at hyt hbW ⊢
  replace Hbl := hide (Hbl.out.trans (hbW.mono Hbl.out.size))
  have Ht := hide hyt
  clear hW hbW hyt
  generalize w.heap.size = gT at Ht s_0 ⊢
  have t0 := Ht.out.cell 0
  have t1 := Ht.out.cell 1
  have t2 := Ht.out.cell 2
  have t3 := Ht.out.cell 3
  have tl := Ht.out.lt
  simp only [List.getElem?_cons_zero, List.getElem?_cons_succ] at t0 t1 t2 t3
  have a_t : B0 ≤ gT := by omega
  clear s_0
  go_wp2_with fail
  with_reducible refine (lowerboundExample_ct w0).mono ?_
  rintro e w1 ⟨rfl, hb⟩
  clear t0 t1 t2 t3 tl
  replace Ht := hide (Ht.out.keep hb)
  replace Hbl := hide (Hbl.out.trans (hb.mono Hbl.out.size))
  clear hb
  have t0 := Ht.out.cell 0
  have t1 := Ht.out.cell 1
  have t2 := Ht.out.cell 2
  have t3 := Ht.out.cell 3
  have tl := Ht.out.lt
  simp only [List.getElem?_cons_zero, List.getElem?_cons_succ] at t0 t1 t2 t3
  rcases hq : taskFault T with ⟨ec, ei⟩
  have Hq := hide hq
  rw [hq] at Hmk Hop
  clear hq
  go_wp2_with fail
  with_reducible refine (Hmk.out w1 (H.out.keep Hbl.out)).mono ?_
  rintro e w2 ⟨hb, hor⟩
  clear t0 t1 t2 t3 tl
  replace Ht := hide (Ht.out.keep hb)
  replace Hbl := hide (Hbl.out.trans (hb.mono Hbl.out.size))
  clear hb
  have t0 := Ht.out.cell 0
  have t1 := Ht.out.cell 1
  have t2 := Ht.out.cell 2
  have t3 := Ht.out.cell 3
  have tl := Ht.out.lt
  simp only [List.getElem?_cons_zero, List.getElem?_cons_succ] at t0 t1 t2 t3
  rcases hor with ⟨h1, rfl⟩ | ⟨h1, hmany, rfl⟩ | ⟨h1, L, f, mA, mc, hco, rfl, hmr⟩
  · skip
    have hne : (ec != 0) = true := by simpa using h1
    unfold fault
    go_upto_region 4 with (fail)
    have s_t : gT < w2.heap.size := tl
    have s_0 : B0 ≤ w2.heap.size := Nat.le_trans (Nat.le_of_eq HB0.out) Hbl.out.size
    have hym := Blk.new (w2) 29 [.int .i64 ec, .int .i64 ei]
    have hbW : Below (w2).heap.size (w2) ((w2).alloc (.cells #[.int .i64 ec, .int .i64 ei] 29)) := (Below.refl _ _).alloc (Nat.le_refl _) _
    obtain ⟨w3, hW⟩ : ∃ W, W = (w2).alloc (.cells #[.int .i64 ec, .int .i64 ei] 29) := ⟨_, rfl⟩
    rw [← hW] at hym hbW ⊢
    replace Ht := hide (Ht.out.keep hbW)
    replace Hbl := hide (Hbl.out.trans (hbW.mono Hbl.out.size))
    have Hm := hide hym
    clear hW hbW hym
    generalize w2.heap.size = gm at Hm s_t s_0 ⊢
    have t0 := Ht.out.cell 0
    have t1 := Ht.out.cell 1
    have t2 := Ht.out.cell 2
    have t3 := Ht.out.cell 3
    have tl := Ht.out.lt
    have m0 := Hm.out.cell 0
    have m1 := Hm.out.cell 1
    have ml := Hm.out.lt
    simp only [List.getElem?_cons_zero, List.getElem?_cons_succ] at t0 t1 t2 t3 m0 m1
    clear s_t
    have a_m : B0 ≤ gm := by omega
    clear s_0
    go_wp2_with fail
    with_reducible refine (Hop.out w3 (H.out.keep Hbl.out)).mono ?_
    rintro e w4 ⟨hb, hor⟩
    clear t0 t1 t2 t3 m0 m1 tl ml
    replace Ht := hide (Ht.out.keep hb)
    replace Hm := hide (Hm.out.keep hb)
    replace Hbl := hide (Hbl.out.trans (hb.mono Hbl.out.size))
    clear hb
    have t0 := Ht.out.cell 0
    have t1 := Ht.out.cell 1
    have t2 := Ht.out.cell 2
    have t3 := Ht.out.cell 3
    have tl := Ht.out.lt
    have m0 := Hm.out.cell 0
    have m1 := Hm.out.cell 1
    have ml := Hm.out.lt
    simp only [List.getElem?_cons_zero, List.getElem?_cons_succ] at t0 t1 t2 t3 m0 m1
    rcases hor with ⟨h2, rfl⟩ | ⟨h2, _, rfl⟩ | ⟨h2, _⟩
    rotate_left
    · exact absurd h2 h1
    · exact absurd h2 h1
    unfold fault
    go_upto_region 5 with (fail)
    have s_t : gT < w4.heap.size := tl
    have s_m : gm < w4.heap.size := ml
    have s_0 : B0 ≤ w4.heap.size := Nat.le_trans (Nat.le_of_eq HB0.out) Hbl.out.size
    have hyo := Blk.new (w4) 29 [.int .i64 ec, .int .i64 ei]
    have hbW : Below (w4).heap.size (w4) ((w4).alloc (.cells #[.int .i64 ec, .int .i64 ei] 29)) := (Below.refl _ _).alloc (Nat.le_refl _) _
    obtain ⟨w5, hW⟩ : ∃ W, W = (w4).alloc (.cells #[.int .i64 ec, .int .i64 ei] 29) := ⟨_, rfl⟩
    rw [← hW] at hyo hbW ⊢
    replace Ht := hide (Ht.out.keep hbW)
    replace Hm := hide (Hm.out.keep hbW)
    replace Hbl := hide (Hbl.out.trans (hbW.mono Hbl.out.size))
    have Ho := hide hyo
    clear hW hbW hyo
    generalize w4.heap.size = go at Ho s_t s_m s_0 ⊢
    have t0 := Ht.out.cell 0
    have t1 := Ht.out.cell 1
    have t2 := Ht.out.cell 2
    have t3 := Ht.out.cell 3
    have tl := Ht.out.lt
    have m0 := Hm.out.cell 0
    have m1 := Hm.out.cell 1
    have ml := Hm.out.lt
    have o0 := Ho.out.cell 0
    have o1 := Ho.out.cell 1
    have ol := Ho.out.lt
    simp only [List.getElem?_cons_zero, List.getElem?_cons_succ] at t0 t1 t2 t3 m0 m1 o0 o1
    clear s_t
    clear s_m
    have a_o : B0 ≤ go := by omega
    clear s_0
    go_wp2_with fail
    go_ret
    exact ⟨ret_bool (by simp), Hbl.out⟩
  · skip
    have Hmany := hide hmany
    clear hmany
    unfold fault
    go_upto_region 4 with (fail)
    have s_t : gT < w2.heap.size := tl
    have s_0 : B0 ≤ w2.heap.size := Nat.le_trans (Nat.le_of_eq HB0.out) Hbl.out.size
    have hym := Blk.new (w2) 29 [.int .i64 10, .int .i64 (-7)]
    have hbW : Below (w2).heap.size (w2) ((w2).alloc (.cells #[.int .i64 10, .int .i64 (-7)] 29)) := (Below.refl _ _).alloc (Nat.le_refl _) _
    obtain ⟨w3, hW⟩ : ∃ W, W = (w2).alloc (.cells #[.int .i64 10, .int .i64 (-7)] 29) := ⟨_, rfl⟩
    rw [← hW] at hym hbW ⊢
    replace Ht := hide (Ht.out.keep hbW)
    replace Hbl := hide (Hbl.out.trans (hbW.mono Hbl.out.size))
    have Hm := hide hym
    clear hW hbW hym
    generalize w2.heap.size = gm at Hm s_t s_0 ⊢
    have t0 := Ht.out.cell 0
    have t1 := Ht.out.cell 1
    have t2 := Ht.out.cell 2
    have t3 := Ht.out.cell 3
    have tl := Ht.out.lt
    have m0 := Hm.out.cell 0
    have m1 := Hm.out.cell 1
    have ml := Hm.out.lt
    simp only [List.getElem?_cons_zero, List.getElem?_cons_succ] at t0 t1 t2 t3 m0 m1
    clear s_t
    have a_m : B0 ≤ gm := by omega
    clear s_0
    go_wp2_with fail
    with_reducible refine (Hop.out w3 (H.out.keep Hbl.out)).mono ?_
    rintro e w4 ⟨hb, hor⟩
    clear t0 t1 t2 t3 m0 m1 tl ml
    replace Ht := hide (Ht.out.keep hb)
    replace Hm := hide (Hm.out.keep hb)
    replace Hbl := hide (Hbl.out.trans (hb.mono Hbl.out.size))
    clear hb
    have t0 := Ht.out.cell 0
    have t1 := Ht.out.cell 1
    have t2 := Ht.out.cell 2
    have t3 := Ht.out.cell 3
    have tl := Ht.out.lt
    have m0 := Hm.out.cell 0
    have m1 := Hm.out.cell 1
    have ml := Hm.out.lt
    simp only [List.getElem?_cons_zero, List.getElem?_cons_succ] at t0 t1 t2 t3 m0 m1
    rcases hor with ⟨h2, rfl⟩ | ⟨h2, _, rfl⟩ | ⟨h2, l2, f2, hco2, _⟩
    · exact absurd h1 h2
    rotate_left
    · exact absurd hco2.list (fun h => many_list Hmany.out h)
    unfold fault
    go_upto_region 5 with (fail)
    have s_t : gT < w4.heap.size := tl
    have s_m : gm < w4.heap.size := ml
    have s_0 : B0 ≤ w4.heap.size := Nat.le_trans (Nat.le_of_eq HB0.out) Hbl.out.size
    have hyo := Blk.new (w4) 29 [.int .i64 10, .int .i64 (-7)]
    have hbW : Below (w4).heap.size (w4) ((w4).alloc (.cells #[.int .i64 10, .int .i64 (-7)] 29)) := (Below.refl _ _).alloc (Nat.le_refl _) _
    obtain ⟨w5, hW⟩ : ∃ W, W = (w4).alloc (.cells #[.int .i64 10, .int .i64 (-7)] 29) := ⟨_, rfl⟩
    rw [← hW] at hyo hbW ⊢
    replace Ht := hide (Ht.out.keep hbW)
    replace Hm := hide (Hm.out.keep hbW)
    replace Hbl := hide (Hbl.out.trans (hbW.mono Hbl.out.size))
    have Ho := hide hyo
    clear hW hbW hyo
    generalize w4.heap.size = go at Ho s_t s_m s_0 ⊢
    have t0 := Ht.out.cell 0
    have t1 := Ht.out.cell 1
    have t2 := Ht.out.cell 2
    have t3 := Ht.out.cell 3
    have tl := Ht.out.lt
    have m0 := Hm.out.cell 0
    have m1 := Hm.out.cell 1
    have ml := Hm.out.lt
    have o0 := Ho.out.cell 0
    have o1 := Ho.out.cell 1
    have ol := Ho.out.lt
    simp only [List.getElem?_cons_zero, List.getElem?_cons_succ] at t0 t1 t2 t3 m0 m1 o0 o1
    clear s_t
    clear s_m
    have a_o : B0 ≤ go := by omega
    clear s_0
    go_wp2_with fail
    go_ret
    exact ⟨ret_bool (by simp), Hbl.out⟩
  · skip
    have Hco := hide hco
    obtain ⟨N, hok⟩ := taskFault_ok (T := T) (by rw [Hq.out]; exact h1)
    have Hok := hide hok
    have htf : (taskFault T).1 = 0 := by rw [Hq.out]; exact h1
    have hck2 := made_chk hok htf hco
    have hrs2 := made_rse hok htf hco
    have Hck2 := hide hck2
    have Hrs2 := hide hrs2
    have Hmr := hide hmr
    have HqL := hide (rfl : (mkTab L f).length = (mkTab L f).length)
    clear hco hok htf hck2 hrs2 hmr
    obtain ⟨v, hv⟩ : ∃ v, v = f (wordF T.init) := ⟨_, rfl⟩
    obtain ⟨tb, htb⟩ : ∃ tb, tb = mkTab L f := ⟨_, rfl⟩
    rw [← hv, ← htb] at Hck2
    rw [← htb] at Hrs2 Hmr
    rw [← hv, ← htb]
    have Hv := hide hv
    clear hv htb HqL
    obtain ⟨n, hn⟩ : ∃ n, n = tb.length := ⟨_, rfl⟩
    rw [← hn] at Hmr ⊢
    have Hn := hide hn
    clear hn
    unfold fault
    go_upto_region 4 with (fail)
    have s_t : gT < w2.heap.size := tl
    have s_0 : B0 ≤ w2.heap.size := Nat.le_trans (Nat.le_of_eq HB0.out) Hbl.out.size
    have hym := Blk.new (w2) 29 [.int .i64 0, .int .i64 0]
    have hbW : Below (w2).heap.size (w2) ((w2).alloc (.cells #[.int .i64 0, .int .i64 0] 29)) := (Below.refl _ _).alloc (Nat.le_refl _) _
    obtain ⟨w3, hW⟩ : ∃ W, W = (w2).alloc (.cells #[.int .i64 0, .int .i64 0] 29) := ⟨_, rfl⟩
    rw [← hW] at hym hbW ⊢
    replace Ht := hide (Ht.out.keep hbW)
    replace Hmr := hide (Hmr.out.keep hbW)
    replace Hbl := hide (Hbl.out.trans (hbW.mono Hbl.out.size))
    have Hm := hide hym
    clear hW hbW hym
    generalize w2.heap.size = gm at Hm s_t s_0 ⊢
    have t0 := Ht.out.cell 0
    have t1 := Ht.out.cell 1
    have t2 := Ht.out.cell 2
    have t3 := Ht.out.cell 3
    have tl := Ht.out.lt
    have m0 := Hm.out.cell 0
    have m1 := Hm.out.cell 1
    have ml := Hm.out.lt
    simp only [List.getElem?_cons_zero, List.getElem?_cons_succ] at t0 t1 t2 t3 m0 m1
    clear s_t
    have a_m : B0 ≤ gm := by omega
    clear s_0
    go_wp2_with fail
    with_reducible refine (Hop.out w3 (H.out.keep Hbl.out)).mono ?_
    rintro e w4 ⟨hb, hor⟩
    clear t0 t1 t2 t3 m0 m1 tl ml
    replace Ht := hide (Ht.out.keep hb)
    replace Hm := hide (Hm.out.keep hb)
    replace Hmr := hide (Hmr.out.keep hb)
    replace Hbl := hide (Hbl.out.trans (hb.mono Hbl.out.size))
    clear hb
    have t0 := Ht.out.cell 0
    have t1 := Ht.out.cell 1
    have t2 := Ht.out.cell 2
    have t3 := Ht.out.cell 3
    have tl := Ht.out.lt
    have m0 := Hm.out.cell 0
    have m1 := Hm.out.cell 1
    have ml := Hm.out.lt
    simp only [List.getElem?_cons_zero, List.getElem?_cons_succ] at t0 t1 t2 t3 m0 m1
    rcases hor with ⟨h2, _⟩ | ⟨h2, hmany, _⟩ | ⟨h2, l2, f2, hco2, rfl⟩
    · exact absurd h1 h2
    · exact absurd Hco.out.list (fun h => many_list hmany h)
    have hsame := Hco.out.same Hok.out hco2 _ Hco.out.init
    rw [← Hv.out] at hsame
    rw [← hsame]
    clear hsame hco2 h2
    unfold fault
    go_upto_region 5 with (fail)
    have s_t : gT < w4.heap.size := tl
    have s_m : gm < w4.heap.size := ml
    have s_0 : B0 ≤ w4.heap.size := Nat.le_trans (Nat.le_of_eq HB0.out) Hbl.out.size
    have hyo := Blk.new (w4) 29 [.int .i64 0, .int .i64 0]
    have hbW : Below (w4).heap.size (w4) ((w4).alloc (.cells #[.int .i64 0, .int .i64 0] 29)) := (Below.refl _ _).alloc (Nat.le_refl _) _
    obtain ⟨w5, hW⟩ : ∃ W, W = (w4).alloc (.cells #[.int .i64 0, .int .i64 0] 29) := ⟨_, rfl⟩
    rw [← hW] at hyo hbW ⊢
    replace Ht := hide (Ht.out.keep hbW)
    replace Hm := hide (Hm.out.keep hbW)
    replace Hmr := hide (Hmr.out.keep hbW)
    replace Hbl := hide (Hbl.out.trans (hbW.mono Hbl.out.size))
    have Ho := hide hyo
    clear hW hbW hyo
    generalize w4.heap.size = go at Ho s_t s_m s_0 ⊢
    have t0 := Ht.out.cell 0
    have t1 := Ht.out.cell 1
    have t2 := Ht.out.cell 2
    have t3 := Ht.out.cell 3
    have tl := Ht.out.lt
    have m0 := Hm.out.cell 0
    have m1 := Hm.out.cell 1
    have ml := Hm.out.lt
    have o0 := Ho.out.cell 0
    have o1 := Ho.out.cell 1
    have ol := Ho.out.lt
    simp only [List.getElem?_cons_zero, List.getElem?_cons_succ] at t0 t1 t2 t3 m0 m1 o0 o1
    clear s_t
    clear s_m
    have a_o : B0 ≤ go := by omega
    clear s_0
    have hct := Hck.out mA n mc tb w5 (H.out.keep Hbl.out) Hmr.out
    rw [Hck2.out] at hct
    unfold chkV fault at hct
    dsimp only at hct
    go_wp2_with fail
    with_reducible refine (hct).mono ?_
    rintro e w6 ⟨rfl, hb⟩
    clear t0 t1 t2 t3 m0 m1 o0 o1 tl ml ol
    replace Ht := hide (Ht.out.keep hb)
    replace Hm := hide (Hm.out.keep hb)
    replace Ho := hide (Ho.out.keep hb)
    replace Hmr := hide (Hmr.out.keep hb)
    replace Hbl := hide (Hbl.out.trans (hb.mono Hbl.out.size))
    clear hb
    have t0 := Ht.out.cell 0
    have t1 := Ht.out.cell 1
    have t2 := Ht.out.cell 2
    have t3 := Ht.out.cell 3
    have tl := Ht.out.lt
    have m0 := Hm.out.cell 0
    have m1 := Hm.out.cell 1
    have ml := Hm.out.lt
    have o0 := Ho.out.cell 0
    have o1 := Ho.out.cell 1
    have ol := Ho.out.lt
    simp only [List.getElem?_cons_zero, List.getElem?_cons_succ] at t0 t1 t2 t3 m0 m1 o0 o1
    clear hct
    go_upto_region 8 with (fail)
    have s_t : gT < w6.heap.size := tl
    have s_m : gm < w6.heap.size := ml
    have s_o : go < w6.heap.size := ol
    have s_0 : B0 ≤ w6.heap.size := Nat.le_trans (Nat.le_of_eq HB0.out) Hbl.out.size
    have hyc := Blk.new (w6) 29 [.int .i64 0, .int .i64 0]
    have hbW : Below (w6).heap.size (w6) ((w6).alloc (.cells #[.int .i64 0, .int .i64 0] 29)) := (Below.refl _ _).alloc (Nat.le_refl _) _
    obtain ⟨w7, hW⟩ : ∃ W, W = (w6).alloc (.cells #[.int .i64 0, .int .i64 0] 29) := ⟨_, rfl⟩
    rw [← hW] at hyc hbW ⊢
    replace Ht := hide (Ht.out.keep hbW)
    replace Hm := hide (Hm.out.keep hbW)
    replace Ho := hide (Ho.out.keep hbW)
    replace Hmr := hide (Hmr.out.keep hbW)
    replace Hbl := hide (Hbl.out.trans (hbW.mono Hbl.out.size))
    have Hc := hide hyc
    clear hW hbW hyc
    generalize w6.heap.size = gc at Hc s_t s_m s_o s_0 ⊢
    have t0 := Ht.out.cell 0
    have t1 := Ht.out.cell 1
    have t2 := Ht.out.cell 2
    have t3 := Ht.out.cell 3
    have tl := Ht.out.lt
    have m0 := Hm.out.cell 0
    have m1 := Hm.out.cell 1
    have ml := Hm.out.lt
    have o0 := Ho.out.cell 0
    have o1 := Ho.out.cell 1
    have ol := Ho.out.lt
    have c0 := Hc.out.cell 0
    have c1 := Hc.out.cell 1
    have cl := Hc.out.lt
    simp only [List.getElem?_cons_zero, List.getElem?_cons_succ] at t0 t1 t2 t3 m0 m1 o0 o1 c0 c1
    clear s_t
    clear s_m
    clear s_o
    have a_c : B0 ≤ gc := by omega
    clear s_0
    have hct := Hra.out mA n mc tb w7 (H.out.keep Hbl.out) Hmr.out
    rw [Hrs2.out] at hct
    go_wp2_with fail
    with_reducible refine hct.mono ?_
    rintro e w8 ⟨hb, rA, rc, rfl, hrr⟩
    rw [← Hn.out] at hrr ⊢
    have Hrr := hide hrr
    clear hct hrr
    clear t0 t1 t2 t3 m0 m1 o0 o1 c0 c1 tl ml ol cl
    replace Ht := hide (Ht.out.keep hb)
    replace Hm := hide (Hm.out.keep hb)
    replace Ho := hide (Ho.out.keep hb)
    replace Hc := hide (Hc.out.keep hb)
    replace Hmr := hide (Hmr.out.keep hb)
    replace Hbl := hide (Hbl.out.trans (hb.mono Hbl.out.size))
    clear hb
    have t0 := Ht.out.cell 0
    have t1 := Ht.out.cell 1
    have t2 := Ht.out.cell 2
    have t3 := Ht.out.cell 3
    have tl := Ht.out.lt
    have m0 := Hm.out.cell 0
    have m1 := Hm.out.cell 1
    have ml := Hm.out.lt
    have o0 := Ho.out.cell 0
    have o1 := Ho.out.cell 1
    have ol := Ho.out.lt
    have c0 := Hc.out.cell 0
    have c1 := Hc.out.cell 1
    have cl := Hc.out.lt
    simp only [List.getElem?_cons_zero, List.getElem?_cons_succ] at t0 t1 t2 t3 m0 m1 o0 o1 c0 c1
    unfold fault
    go_upto_region 9 with (fail)
    have s_t : gT < w8.heap.size := tl
    have s_m : gm < w8.heap.size := ml
    have s_o : go < w8.heap.size := ol
    have s_c : gc < w8.heap.size := cl
    have s_0 : B0 ≤ w8.heap.size := Nat.le_trans (Nat.le_of_eq HB0.out) Hbl.out.size
    have hyr := Blk.new (w8) 29 [.int .i64 0, .int .i64 0]
    have hbW : Below (w8).heap.size (w8) ((w8).alloc (.cells #[.int .i64 0, .int .i64 0] 29)) := (Below.refl _ _).alloc (Nat.le_refl _) _
    obtain ⟨w9, hW⟩ : ∃ W, W = (w8).alloc (.cells #[.int .i64 0, .int .i64 0] 29) := ⟨_, rfl⟩
    rw [← hW] at hyr hbW ⊢
    replace Ht := hide (Ht.out.keep hbW)
    replace Hm := hide (Hm.out.keep hbW)
    replace Ho := hide (Ho.out.keep hbW)
    replace Hc := hide (Hc.out.keep hbW)
    replace Hmr := hide (Hmr.out.keep hbW)
    replace Hrr := hide (Hrr.out.keep hbW)
    replace Hbl := hide (Hbl.out.trans (hbW.mono Hbl.out.size))
    have Hr := hide hyr
    clear hW hbW hyr
    generalize w8.heap.size = gr at Hr s_t s_m s_o s_c s_0 ⊢
    have t0 := Ht.out.cell 0
    have t1 := Ht.out.cell 1
    have t2 := Ht.out.cell 2
    have t3 := Ht.out.cell 3
    have tl := Ht.out.lt
    have m0 := Hm.out.cell 0
    have m1 := Hm.out.cell 1
    have ml := Hm.out.lt
    have o0 := Ho.out.cell 0
    have o1 := Ho.out.cell 1
    have ol := Ho.out.lt
    have c0 := Hc.out.cell 0
    have c1 := Hc.out.cell 1
    have cl := Hc.out.lt
    have r0 := Hr.out.cell 0
    have r1 := Hr.out.cell 1
    have rl := Hr.out.lt
    simp only [List.getElem?_cons_zero, List.getElem?_cons_succ] at t0 t1 t2 t3 m0 m1 o0 o1 c0 c1 r0 r1
    clear s_t
    clear s_m
    clear s_o
    clear s_c
    have a_r : B0 ≤ gr := by omega
    clear s_0
    have hct := sameBounds_ct mA rA n mc n rc tb tb w9 Hmr.out Hrr.out
    rw [show sameE tb tb = true from sameE_iff.2 rfl] at hct
    have hvv : (v == v) = true := by simp
    go_wp2_with fail
    with_reducible refine hct.mono ?_
    rintro e w10 ⟨rfl, hq⟩
    have Hfin := hide (Hbl.out.trans (hq.below _))
    clear hct hq
    go_wp2_with fail
    go_ret
    exact ⟨ret_bool (by simp), Hfin.out⟩
end Go.Proofs.Ytliggcmohcdchaa
