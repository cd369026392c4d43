/- What the law asks for, part 32: La32. -/
import Derived.Test.YtemiecammmbjdaaK1
import Derived.Test.YtemiecammmbjdaaK2
import Derived.Test.YtemiecammmbjdaaK3
import Derived.Test.YtemiecammmbjdaaK4
import Derived.Test.YtemiecammmbjdaaK5
import Derived.Test.YtemiecammmbjdaaK6
import Derived.Test.YtemiecammmbjdaaK7
import Derived.Test.YtemiecammmbjdaaK8
import Derived.Test.YtemiecammmbjdaaK9
import Derived.Test.YtemiecammmbjdaaK10
import Derived.Test.YtemiecammmbjdaaK11
import Derived.Test.YtemiecammmbjdaaK12
import Derived.Test.YtemiecammmbjdaaK13
import Derived.Test.YtemiecammmbjdaaK14
import Derived.Test.YtemiecammmbjdaaK15
import Derived.Test.YtemiecammmbjdaaK16
import Derived.Test.YtemiecammmbjdaaK17
import Derived.Test.YtemiecammmbjdaaK18
import Derived.Test.YtemiecammmbjdaaK19
import Derived.Test.YtemiecammmbjdaaK20
import Derived.Test.YtemiecammmbjdaaK21
import Derived.Test.YtemiecammmbjdaaK22
import Derived.Test.YtemiecammmbjdaaK23
import Derived.Test.YtemiecammmbjdaaK24
import Derived.Test.YtemiecammmbjdaaK25
import Derived.Test.YtemiecammmbjdaaK26
import Derived.Test.YtemiecammmbjdaaK27
import Derived.Test.YtemiecammmbjdaaK28
import Derived.Test.YtemiecammmbjdaaK29
import Derived.Test.YtemiecammmbjdaaK30
import Derived.Test.YtemiecammmbjdaaK31
import Derived.BigQuiet
import Derived.Deep.AppendLies
import Derived.Deep.DeepCutAuto
import Derived.Deep.Draws
import Derived.Deep.Fields
import Derived.Deep.LoopGhost
import Derived.Deep.QuietTactic
import Derived.Deep.RegionHeld3
import Derived.Deep.RegionLaw
import Derived.Deep.Slices
import Derived.DeepKeys4
import Derived.Ground.Names2Prog
import Derived.Ground.SlgnProg
import Derived.Ground.SlsfProg
import Derived.IntWalk
import Derived.Laws.AppendOwnNone
import Derived.Laws.BitsAllLaws
import Derived.Laws.OwnMore
import Derived.Lib.Hide
import Derived.Lib.SlicesCompact
import Derived.LoopIn
import Derived.LoopNIn
import Derived.Maps.AppendAt
import Derived.Maps.OwnIn
import Derived.Maps.OwnOps
import Derived.Maps.OwnSet
import Derived.OwnWalkIn
import Derived.RangeFuncBound
import Derived.RangeFuncCalls
import Derived.RangeFuncLeaves
import Derived.RangeFuncNested
import Derived.Shelf.Abstract
import Derived.Shelf.RegionOpen
import Derived.Shelf.SlSortCmp.Whole1
import Derived.Shelf.Slices.Cells
import Derived.Shelf.Slices.Clone
import Derived.Shelf.Slices.CompactI
import Derived.Shelf.Slices.Empties
import Derived.Shelf.Slices.In.SortNone
import Derived.Shelf.Slices.Reverse
import Derived.Shelf.Slices.SearchI
import Derived.Shelf.SlicesE.Clone
import Derived.Shelf.Sort.Plain
import Derived.Sort.OwnSortedInts
import Derived.TacticsInMore
import Derived.Test.YtemiecammmbjdaaProg
import Derived.WalkKit
import Init
namespace Go.Proofs.Ytemiecammmbjdaa
set_option linter.unusedVariables false
set_option linter.unusedSimpArgs false
open Go.RowKit
set_option maxRecDepth 100000 in
set_option maxHeartbeats 12800000 in
theorem agreeLaw_ct (T : Tsk) (a : TA) (s : Int) (w : World) (hs : -9223372036854775808 ≤ s ∧ s ≤ 9223372036854775807) (h : TkR w a T) :
    Calls Try.prog 4 #[.agg #[.int .i64 T.facts, .slice a.I a.nI a.cI, .slice a.G a.nG a.cG, .slice a.O a.nO a.cO], .int .i64 s] w (Gives w (.bool true)) := by
  rcases hcr : cnfR T s with ⟨V1, cs1, c1, i1⟩
  have hp1 := fun W hT => HPlan_ct a T s W V1 cs1 c1 i1 hT hs hcr
  have hbp := fun W hT => BPlan_ct a T W hT
  have hokx : c1 = 0 → ∃ N, OkT T N := fun e => by
    obtain ⟨N, S, hok, _⟩ := cnfR_ok (T := T) (s := s) (by rw [hcr]; exact e)
    exact ⟨N, hok⟩
  obtain ⟨I, nI, cI, G, nG, cG, O, nO, cO⟩ := a
  simp only at hp1 hbp ⊢
  have H := hide h
  have Hp1 := hide hp1
  have Hbp := hide hbp
  have Hokx := hide hokx
  clear h hp1 hbp hcr hokx
  have Hbl := hide (Below.refl w.heap.size w)
  go_enter Try.func4, Try.ntmps4
  go_upto_region 1 with (fail)
  obtain ⟨B0, hB0⟩ : ∃ B0, B0 = w.heap.size := ⟨_, rfl⟩
  have HB0 := hide hB0
  clear hB0
  have s_0 : B0 ≤ w.heap.size := Nat.le_trans (Nat.le_of_eq HB0.out) Hbl.out.size
  have hyt := Blk.new (w) 25 [.int .i64 T.facts, .slice I nI cI, .slice G nG cG, .slice O nO cO]
  have hbW : Below (w).heap.size (w) ((w).alloc (.cells #[.int .i64 T.facts, .slice I nI cI, .slice G nG cG, .slice O nO cO] 25)) := (Below.refl _ _).alloc (Nat.le_refl _) _
  obtain ⟨w0, hW⟩ : ∃ W, W = (w).alloc (.cells #[.int .i64 T.facts, .slice I nI cI, .slice G nG cG, .slice O nO cO] 25) := ⟨_, rfl⟩
  rw [← hW] at hyt hbW ⊢
  replace Hbl := hide (Hbl.out.trans (hbW.mono Hbl.out.size))
  have Ht := hide hyt
  clear hW hbW hyt
  generalize w.heap.size = gT at Ht s_0 ⊢
  have t0 := Ht.out.cell 0
  have t1 := Ht.out.cell 1
  have t2 := Ht.out.cell 2
  have t3 := Ht.out.cell 3
  have tl := Ht.out.lt
  simp only [List.getElem?_cons_zero, List.getElem?_cons_succ] at t0 t1 t2 t3
  have a_t : B0 ≤ gT := by omega
  clear s_0
  go_wp2_with fail
  with_reducible refine (horizonExample_ct w0).mono ?_
  rintro e w1 ⟨rfl, hb⟩
  clear t0 t1 t2 t3 tl
  replace Ht := hide (Ht.out.keep hb)
  replace Hbl := hide (Hbl.out.trans (hb.mono Hbl.out.size))
  clear hb
  have t0 := Ht.out.cell 0
  have t1 := Ht.out.cell 1
  have t2 := Ht.out.cell 2
  have t3 := Ht.out.cell 3
  have tl := Ht.out.lt
  simp only [List.getElem?_cons_zero, List.getElem?_cons_succ] at t0 t1 t2 t3
  go_wp2_with fail
  with_reducible refine (Hp1.out w1 (H.out.keep Hbl.out)).mono ?_
  rintro e w2 ⟨hb, X, k, c, b1, rfl, _, _, hiff1, _⟩
  have Hi1 := hide hiff1
  clear hiff1
  unfold fault
  clear t0 t1 t2 t3 tl
  replace Ht := hide (Ht.out.keep hb)
  replace Hbl := hide (Hbl.out.trans (hb.mono Hbl.out.size))
  clear hb
  have t0 := Ht.out.cell 0
  have t1 := Ht.out.cell 1
  have t2 := Ht.out.cell 2
  have t3 := Ht.out.cell 3
  have tl := Ht.out.lt
  simp only [List.getElem?_cons_zero, List.getElem?_cons_succ] at t0 t1 t2 t3
  go_upto_region 4 with (fail)
  have s_t : gT < w2.heap.size := tl
  have s_0 : B0 ≤ w2.heap.size := Nat.le_trans (Nat.le_of_eq HB0.out) Hbl.out.size
  have hye := Blk.new (w2) 28 [.int .i64 c1, .int .i64 i1]
  have hbW : Below (w2).heap.size (w2) ((w2).alloc (.cells #[.int .i64 c1, .int .i64 i1] 28)) := (Below.refl _ _).alloc (Nat.le_refl _) _
  obtain ⟨w3, hW⟩ : ∃ W, W = (w2).alloc (.cells #[.int .i64 c1, .int .i64 i1] 28) := ⟨_, rfl⟩
  rw [← hW] at hye hbW ⊢
  replace Ht := hide (Ht.out.keep hbW)
  replace Hbl := hide (Hbl.out.trans (hbW.mono Hbl.out.size))
  have He := hide hye
  clear hW hbW hye
  generalize w2.heap.size = ge at He s_t s_0 ⊢
  have t0 := Ht.out.cell 0
  have t1 := Ht.out.cell 1
  have t2 := Ht.out.cell 2
  have t3 := Ht.out.cell 3
  have tl := Ht.out.lt
  have e0 := He.out.cell 0
  have e1 := He.out.cell 1
  have el := He.out.lt
  simp only [List.getElem?_cons_zero, List.getElem?_cons_succ] at t0 t1 t2 t3 e0 e1
  clear s_t
  have a_e : B0 ≤ ge := by omega
  clear s_0
  by_cases h1 : c1 = 0
  rotate_left
  · skip
    have hne : (c1 != 0) = true := by simpa using h1
    have hbq := (Hbp.out w3 (H.out.keep Hbl.out)).mono (fun e w' h => bplan_any h)
    go_wp2_with fail
    with_reducible refine hbq.mono ?_
    rintro e w4 ⟨hb, Y, m, d, f, fc, fi, rfl, hf⟩
    have HF0 := hide hf
    clear hf hbq
    unfold fault
    clear t0 t1 t2 t3 e0 e1 tl el
    replace Ht := hide (Ht.out.keep hb)
    replace He := hide (He.out.keep hb)
    replace Hbl := hide (Hbl.out.trans (hb.mono Hbl.out.size))
    clear hb
    have t0 := Ht.out.cell 0
    have t1 := Ht.out.cell 1
    have t2 := Ht.out.cell 2
    have t3 := Ht.out.cell 3
    have tl := Ht.out.lt
    have e0 := He.out.cell 0
    have e1 := He.out.cell 1
    have el := He.out.lt
    simp only [List.getElem?_cons_zero, List.getElem?_cons_succ] at t0 t1 t2 t3 e0 e1
    go_upto_region 5 with (fail)
    have s_t : gT < w4.heap.size := tl
    have s_e : ge < w4.heap.size := el
    have s_0 : B0 ≤ w4.heap.size := Nat.le_trans (Nat.le_of_eq HB0.out) Hbl.out.size
    have hyf := Blk.new (w4) 28 [.int .i64 fc, .int .i64 fi]
    have hbW : Below (w4).heap.size (w4) ((w4).alloc (.cells #[.int .i64 fc, .int .i64 fi] 28)) := (Below.refl _ _).alloc (Nat.le_refl _) _
    obtain ⟨w5, hW⟩ : ∃ W, W = (w4).alloc (.cells #[.int .i64 fc, .int .i64 fi] 28) := ⟨_, rfl⟩
    rw [← hW] at hyf hbW ⊢
    replace Ht := hide (Ht.out.keep hbW)
    replace He := hide (He.out.keep hbW)
    replace Hbl := hide (Hbl.out.trans (hbW.mono Hbl.out.size))
    have Hf := hide hyf
    clear hW hbW hyf
    generalize w4.heap.size = gf at Hf s_t s_e s_0 ⊢
    have t0 := Ht.out.cell 0
    have t1 := Ht.out.cell 1
    have t2 := Ht.out.cell 2
    have t3 := Ht.out.cell 3
    have tl := Ht.out.lt
    have e0 := He.out.cell 0
    have e1 := He.out.cell 1
    have el := He.out.lt
    have f0 := Hf.out.cell 0
    have f1 := Hf.out.cell 1
    have fl := Hf.out.lt
    simp only [List.getElem?_cons_zero, List.getElem?_cons_succ] at t0 t1 t2 t3 e0 e1 f0 f1
    clear s_t
    clear s_e
    have a_f : B0 ≤ gf := by omega
    clear s_0
    go_wp2_with fail
    all_goals go_ret
    all_goals exact ⟨ret_bool (by simp), Hbl.out⟩
  subst h1
  obtain ⟨N, hok⟩ := Hokx.out rfl
  have hbq := (Hbp.out w3 (H.out.keep Hbl.out)).mono (fun e w' h => bplan_out hok h)
  go_wp2_with fail
  with_reducible refine hbq.mono ?_
  rintro e w4 ⟨hb, Y, m, d, f, fc, fi, rfl, hf⟩
  have HF0 := hide hf
  clear hf hbq
  unfold fault
  clear t0 t1 t2 t3 e0 e1 tl el
  replace Ht := hide (Ht.out.keep hb)
  replace He := hide (He.out.keep hb)
  replace Hbl := hide (Hbl.out.trans (hb.mono Hbl.out.size))
  clear hb
  have t0 := Ht.out.cell 0
  have t1 := Ht.out.cell 1
  have t2 := Ht.out.cell 2
  have t3 := Ht.out.cell 3
  have tl := Ht.out.lt
  have e0 := He.out.cell 0
  have e1 := He.out.cell 1
  have el := He.out.lt
  simp only [List.getElem?_cons_zero, List.getElem?_cons_succ] at t0 t1 t2 t3 e0 e1
  go_upto_region 5 with (fail)
  have s_t : gT < w4.heap.size := tl
  have s_e : ge < w4.heap.size := el
  have s_0 : B0 ≤ w4.heap.size := Nat.le_trans (Nat.le_of_eq HB0.out) Hbl.out.size
  have hyf := Blk.new (w4) 28 [.int .i64 fc, .int .i64 fi]
  have hbW : Below (w4).heap.size (w4) ((w4).alloc (.cells #[.int .i64 fc, .int .i64 fi] 28)) := (Below.refl _ _).alloc (Nat.le_refl _) _
  obtain ⟨w5, hW⟩ : ∃ W, W = (w4).alloc (.cells #[.int .i64 fc, .int .i64 fi] 28) := ⟨_, rfl⟩
  rw [← hW] at hyf hbW ⊢
  replace Ht := hide (Ht.out.keep hbW)
  replace He := hide (He.out.keep hbW)
  replace Hbl := hide (Hbl.out.trans (hbW.mono Hbl.out.size))
  have Hf := hide hyf
  clear hW hbW hyf
  generalize w4.heap.size = gf at Hf s_t s_e s_0 ⊢
  have t0 := Ht.out.cell 0
  have t1 := Ht.out.cell 1
  have t2 := Ht.out.cell 2
  have t3 := Ht.out.cell 3
  have tl := Ht.out.lt
  have e0 := He.out.cell 0
  have e1 := He.out.cell 1
  have el := He.out.lt
  have f0 := Hf.out.cell 0
  have f1 := Hf.out.cell 1
  have fl := Hf.out.lt
  simp only [List.getElem?_cons_zero, List.getElem?_cons_succ] at t0 t1 t2 t3 e0 e1 f0 f1
  clear s_t
  clear s_e
  have a_f : B0 ≤ gf := by omega
  clear s_0
  by_cases hfc : fc = 0
  rotate_left
  · have hne : (fc != 0) = true := by simpa using hfc
    go_wp2_with fail
    all_goals go_ret
    all_goals exact ⟨ret_bool (by simp), Hbl.out⟩
  subst hfc
  have hff := HF0.out rfl
  by_cases hsm : (m : Int) ≤ s
  · have hb1 : b1 = f := by
      rw [Bool.eq_iff_iff, Hi1.out (by simp)]
      constructor
      · rintro ⟨l, g1, g2, g3⟩
        cases f with
        | true => rfl
        | false => exact (hff.2 rfl l g1 g3).elim
      · intro e
        obtain ⟨l, g1, g2, g3, _⟩ := hff.1 e
        exact ⟨l, g2, by omega, g3⟩
    subst hb1
    cases b1 with
    | false =>
      go_wp2_with fail
      all_goals go_ret
      all_goals exact ⟨ret_bool (by simp), Hbl.out⟩
    | true =>
      go_wp2_with fail
      all_goals go_ret
      all_goals exact ⟨ret_bool (by simp), Hbl.out⟩
  · cases f with
    | false =>
      have hb1 : b1 = false := by
        cases b1 with
        | false => rfl
        | true =>
          obtain ⟨l, g1, g2, g3⟩ := (Hi1.out (by simp)).1 rfl
          exact (hff.2 rfl l g1 g3).elim
      subst hb1
      go_wp2_with fail
      all_goals go_ret
      all_goals exact ⟨ret_bool (by simp), Hbl.out⟩
    | true =>
      have hb1 : b1 = false := by
        cases b1 with
        | false => rfl
        | true =>
          obtain ⟨l, g1, g2, g3⟩ := (Hi1.out (by simp)).1 rfl
          obtain ⟨q, h2, h3, h4, h5⟩ := hff.1 rfl
          have := h5 l g1 g3
          omega
      subst hb1
      go_wp2_with fail
      all_goals go_ret
      all_goals exact ⟨ret_bool (by simp), Hbl.out⟩
end Go.Proofs.Ytemiecammmbjdaa
