/- HierarchyPlansAreRefinements: Decompose accepts the plan that Plan returns, and strips.Solves does, part 31: La42. -/
import Derived.Test.YtmjiiddncbhgpaaN1
import Derived.Test.YtmjiiddncbhgpaaN2
import Derived.Test.YtmjiiddncbhgpaaN3
import Derived.Test.YtmjiiddncbhgpaaN4
import Derived.Test.YtmjiiddncbhgpaaN5
import Derived.Test.YtmjiiddncbhgpaaN6
import Derived.Test.YtmjiiddncbhgpaaN7
import Derived.Test.YtmjiiddncbhgpaaN8
import Derived.Test.YtmjiiddncbhgpaaN9
import Derived.Test.YtmjiiddncbhgpaaN10
import Derived.Test.YtmjiiddncbhgpaaN11
import Derived.Test.YtmjiiddncbhgpaaN12
import Derived.Test.YtmjiiddncbhgpaaN13
import Derived.Test.YtmjiiddncbhgpaaN14
import Derived.Test.YtmjiiddncbhgpaaN15
import Derived.Test.YtmjiiddncbhgpaaN16
import Derived.Test.YtmjiiddncbhgpaaN17
import Derived.Test.YtmjiiddncbhgpaaN18
import Derived.Test.YtmjiiddncbhgpaaN19
import Derived.Test.YtmjiiddncbhgpaaN20
import Derived.Test.YtmjiiddncbhgpaaN21
import Derived.Test.YtmjiiddncbhgpaaN22
import Derived.Test.YtmjiiddncbhgpaaN23
import Derived.Test.YtmjiiddncbhgpaaN24
import Derived.Test.YtmjiiddncbhgpaaN25
import Derived.Test.YtmjiiddncbhgpaaN26
import Derived.Test.YtmjiiddncbhgpaaN27
import Derived.Test.YtmjiiddncbhgpaaN28
import Derived.Test.YtmjiiddncbhgpaaN29
import Derived.Test.YtmjiiddncbhgpaaN30
import Derived.BigQuiet
import Derived.BigRegionIn
import Derived.ChangeOld
import Derived.Deep.AppendLies
import Derived.Deep.DeepCutAuto
import Derived.Deep.Draws
import Derived.Deep.Fields
import Derived.Deep.LoopGhost
import Derived.Deep.QuietTactic
import Derived.Deep.RegionHeld3
import Derived.Deep.Slices
import Derived.DeepKeys4
import Derived.Ground.Names2Prog
import Derived.Ground.SlgnProg
import Derived.Ground.SlsfProg
import Derived.IntWalk
import Derived.Laws.AppendOwnNone
import Derived.Laws.BitsAllLaws
import Derived.Laws.OwnMore
import Derived.Lib.Hide
import Derived.Lib.SlicesCompact
import Derived.LoopIn
import Derived.LoopNIn
import Derived.Maps.AppendAt
import Derived.Maps.OwnIn
import Derived.Maps.OwnOps
import Derived.Maps.OwnSet
import Derived.OpenShut
import Derived.OrdersHeld
import Derived.OrdersIn
import Derived.OwnWalkIn
import Derived.ProofKit
import Derived.RangeFuncBound
import Derived.RangeFuncCalls
import Derived.RangeFuncKeeps
import Derived.RangeFuncLeaves
import Derived.RangeFuncNested
import Derived.Shelf.Abstract
import Derived.Shelf.RegionOpen
import Derived.Shelf.SlSortCmp.Whole1
import Derived.Shelf.Slices.Cells
import Derived.Shelf.Slices.Clone
import Derived.Shelf.Slices.CompactI
import Derived.Shelf.Slices.Empties
import Derived.Shelf.Slices.In.SortNone
import Derived.Shelf.Slices.SearchI
import Derived.Shelf.Sort.Plain
import Derived.Sort.CutIn
import Derived.Sort.OwnSortedInts
import Derived.StillTail
import Derived.StillTailTactics
import Derived.TacticsInMore
import Derived.Test.YtmjiiddncbhgpaaProg
import Derived.Test.YtmjiiddncbhgpaaRows
import Derived.WalkKit
import Derived.WideKeyEntry
namespace Go.Proofs.Ytmjiiddncbhgpaa
set_option linter.unusedVariables false
set_option linter.unusedSimpArgs false
open Go.RowKit
set_option maxRecDepth 100000 in
set_option maxHeartbeats 6400000 in
theorem planRefLaw_ct (h : Hy) (b : HA) (lim : Int) (w : World) (hl1 : -9223372036854775808 ≤ lim) (hl2 : lim ≤ 9223372036854775807) (hh : HyR w b h) :
    Calls Try.prog 6 #[.agg #[.int .i64 h.T.facts, .slice b.a.I b.a.nI b.a.cI, .slice b.a.G b.a.nG b.a.cG, .slice b.a.O b.a.nO b.a.cO, .int .i64 h.tasks, .slice b.M b.nM b.cM, .slice b.L b.nL b.cL], .int .i64 lim] w (Gives w (.bool true)) := by
  have hpl := fun W hW => HierPlan_ct b h lim W hl1 hl2 hW
  have hde := fun A n c l W hW hl => Decompose_ct b h A n c l W hW hl
  have hso := fun B m d l W hW hl => SSolves_ct b.a h.T B m d l W hW hl
  have htk := hh.task
  obtain ⟨⟨I, nI, cI, G, nG, cG, O, nO, cO⟩, M, nM, cM, L, nL, cL⟩ := b
  simp only at hpl hde hso htk ⊢
  have Hpl := hide hpl
  have Hde := hide hde
  have Hso := hide hso
  have Htk := hide htk
  have H := hide hh
  clear hpl hde hso htk hh
  go_enter Try.func6, Try.ntmps6
  go_upto_region 1 with (fail)
  have bH := Blk.new w 37 [.int .i64 h.T.facts, .slice I nI cI, .slice G nG cG, .slice O nO cO, .int .i64 h.tasks, .slice M nM cM, .slice L nL cL]
  have hb0 : Below w.heap.size w (w.alloc (.cells #[.int .i64 h.T.facts, .slice I nI cI, .slice G nG cG, .slice O nO cO, .int .i64 h.tasks, .slice M nM cM, .slice L nL cL] 37)) := (Below.refl _ _).alloc (Nat.le_refl _) _
  change Blk 37 (w.alloc (.cells #[.int .i64 h.T.facts, .slice I nI cI, .slice G nG cG, .slice O nO cO, .int .i64 h.tasks, .slice M nM cM, .slice L nL cL] 37)) w.heap.size [.int .i64 h.T.facts, .slice I nI cI, .slice G nG cG, .slice O nO cO, .int .i64 h.tasks, .slice M nM cM, .slice L nL cL] at bH
  obtain ⟨w0, hw⟩ : ∃ Z, Z = w.alloc (.cells #[.int .i64 h.T.facts, .slice I nI cI, .slice G nG cG, .slice O nO cO, .int .i64 h.tasks, .slice M nM cM, .slice L nL cL] 37) := ⟨_, rfl⟩
  rw [← hw] at bH hb0 ⊢
  clear hw
  obtain ⟨g1, hg⟩ : ∃ z, z = w.heap.size := ⟨_, rfl⟩
  rw [← hg] at bH ⊢
  clear hg
  have BH := hide bH
  have Hb := hide hb0
  clear bH hb0
  go_wp2_with fail
  with_reducible refine (hierExample_ct w0).mono ?_
  rintro e w1 ⟨rfl, hb1⟩
  replace BH := hide (BH.out.keep hb1)
  replace Hb := hide (Hb.out.trans (hb1.mono Hb.out.size))
  clear hb1
  have h_0 := BH.out.cell 0
  have h_1 := BH.out.cell 1
  have h_2 := BH.out.cell 2
  have h_3 := BH.out.cell 3
  have h_4 := BH.out.cell 4
  have h_5 := BH.out.cell 5
  have h_6 := BH.out.cell 6
  simp only [List.getElem?_cons_zero, List.getElem?_cons_succ] at h_0 h_1 h_2 h_3 h_4 h_5 h_6
  go_wp2_with fail
  with_reducible refine (Hpl.out w1 (H.out.keep Hb.out)).mono ?_
  rintro e w2 ⟨hb2, Op, np, cp, l, ok, fc, fi, rfl, hrow, hpr⟩
  replace BH := hide (BH.out.keep hb2)
  replace Hb := hide (Hb.out.trans (hb2.mono Hb.out.size))
  have hrd := hrow.rd
  have hln := hrow.len
  clear hb2 hrow h_0 h_1 h_2 h_3 h_4 h_5 h_6
  unfold fault
  go_upto_region 4 with (fail)
  have bQ := Blk.new w2 29 [.int .i64 fc, .int .i64 fi]
  have hbQ : Below w2.heap.size w2 (w2.alloc (.cells #[.int .i64 fc, .int .i64 fi] 29)) := (Below.refl _ _).alloc (Nat.le_refl _) _
  change Blk 29 (w2.alloc (.cells #[.int .i64 fc, .int .i64 fi] 29)) w2.heap.size [.int .i64 fc, .int .i64 fi] at bQ
  obtain ⟨w3, hw⟩ : ∃ Z, Z = w2.alloc (.cells #[.int .i64 fc, .int .i64 fi] 29) := ⟨_, rfl⟩
  rw [← hw] at bQ hbQ ⊢
  clear hw
  obtain ⟨gq, hg⟩ : ∃ z, z = w2.heap.size := ⟨_, rfl⟩
  rw [← hg] at bQ ⊢
  clear hg
  replace BH := hide (BH.out.keep hbQ)
  replace Hb := hide (Hb.out.trans (hbQ.mono Hb.out.size))
  have BQ := hide bQ
  clear bQ
  replace hrd := hrd.keep hbQ
  clear hbQ
  have q_0 := BQ.out.cell 0
  have q_l := BQ.out.lt
  simp only [List.getElem?_cons_zero, List.getElem?_cons_succ] at q_0
  have hcase : ((fc ≠ 0 ∨ ok = false) ∧ l = []) ∨ (fc = 0 ∧ fi = 0 ∧ ok = true ∧ (hierFault h).1 = 0 ∧ GoodP h l ∧ (l.length : Int) ≤ lim ∧ lim ≤ 8) := by
    rcases hpr with ⟨a1, a2, a3, a4⟩ | ⟨_, _, a1, _, _, a4⟩ | ⟨_, _, _, a1, _, _, a4⟩ | ⟨a0, a1, _, rfl, rfl, ⟨a2, a3, a4, _⟩ | ⟨a2, a3, _⟩⟩
    · exact .inl ⟨.inl (by have := congrArg Prod.fst a2; simp only at this; rw [this]; exact a1), a4⟩
    · exact .inl ⟨.inl (by omega), a4⟩
    · exact .inl ⟨.inl (by omega), a4⟩
    · exact .inr ⟨rfl, rfl, a2, a0, a3, a4, a1.2⟩
    · exact .inl ⟨.inr a2, a3⟩
  have Hrd := hide hrd
  clear hpr hrd
  rcases hcase with ⟨hbad, rfl⟩ | ⟨rfl, rfl, rfl, hf0, hgood, hlen, hlim8⟩
  · have hn0 : np = 0 := by simpa using hln.symm
    subst hn0
    clear hln
    by_cases hfc : fc = 0
    · obtain rfl : ok = false := hbad.resolve_left (fun e => e hfc)
      subst hfc
      clear hbad
      go_wp2_with fail
      go_ret
      exact ⟨rfl, Hb.out⟩
    · clear hbad
      go_wp2_with fail
      go_ret
      exact ⟨rfl, Hb.out⟩
  · have hst : stepsFault h.T.ops.length l = (0, 0) := by
      unfold stepsFault
      rw [if_neg (by omega), if_neg (fun e => by
        obtain ⟨x, hx, e2⟩ := List.any_eq_true.1 e
        have := hgood.1 x hx
        unfold outB at e2
        simp only [Bool.or_eq_true, decide_eq_true_eq] at e2
        omega)]
    have hdf : decFault h l = (0, 0) := by
      unfold decFault
      rw [if_neg (by rw [hf0]; simp)]
      exact hst
    have htf : (taskFault h.T).1 = 0 := by
      by_cases e0 : (taskFault h.T).1 = 0
      · exact e0
      · have hq := hf0
        unfold hierFault at hq
        rw [if_pos e0] at hq
        exact hq
    have hsv : solvesR h.T l = (true, 0, 0) := by
      have hpf : planFault h.T l = (0, 0) := by
        unfold planFault
        rw [if_neg (by rw [htf]; simp)]
        exact hst
      unfold solvesR
      rw [hpf, if_neg (by simp), hgood.2.2]
    have hnl : (np : Int) ≤ lim := by omega
    have Hdf := hide hdf
    have Hsv := hide hsv
    have Hgood := hide hgood
    clear hdf hsv hgood hf0 hst htf hlen hln
    have h_0 := BH.out.cell 0
    have h_1 := BH.out.cell 1
    have h_2 := BH.out.cell 2
    have h_3 := BH.out.cell 3
    have h_4 := BH.out.cell 4
    have h_5 := BH.out.cell 5
    have h_6 := BH.out.cell 6
    simp only [List.getElem?_cons_zero, List.getElem?_cons_succ] at h_0 h_1 h_2 h_3 h_4 h_5 h_6
    go_wp2_with fail
    with_reducible refine (Hde.out Op np cp l w3 (H.out.keep Hb.out) Hrd.out).mono ?_
    rintro e w4 ⟨hb4, bb, rfl, hiff⟩
    rw [Hdf.out] at hiff ⊢
    obtain rfl : bb = true := hiff.2 ⟨rfl, Hgood.out.2.1⟩
    clear hiff h_0 h_1 h_2 h_3 h_4 h_5 h_6 q_0 q_l
    replace BH := hide (BH.out.keep hb4)
    replace Hb := hide (Hb.out.trans (hb4.mono Hb.out.size))
    have Hrd4 := hide (Hrd.out.keep hb4)
    clear hb4
    unfold fault
    go_upto_region 7 with (fail)
    have bS := Blk.new w4 29 [.int .i64 0, .int .i64 0]
    have hbS : Below w4.heap.size w4 (w4.alloc (.cells #[.int .i64 0, .int .i64 0] 29)) := (Below.refl _ _).alloc (Nat.le_refl _) _
    change Blk 29 (w4.alloc (.cells #[.int .i64 0, .int .i64 0] 29)) w4.heap.size [.int .i64 0, .int .i64 0] at bS
    obtain ⟨w5, hw⟩ : ∃ Z, Z = w4.alloc (.cells #[.int .i64 0, .int .i64 0] 29) := ⟨_, rfl⟩
    rw [← hw] at bS hbS ⊢
    clear hw
    obtain ⟨gs, hg⟩ : ∃ z, z = w4.heap.size := ⟨_, rfl⟩
    rw [← hg] at bS ⊢
    clear hg
    replace BH := hide (BH.out.keep hbS)
    replace Hb := hide (Hb.out.trans (hbS.mono Hb.out.size))
    have BS := hide bS
    clear bS
    have Hrd5 := hide (Hrd4.out.keep hbS)
    clear hbS
    have h_0 := BH.out.cell 0
    have h_1 := BH.out.cell 1
    have h_2 := BH.out.cell 2
    have h_3 := BH.out.cell 3
    have h_4 := BH.out.cell 4
    have h_5 := BH.out.cell 5
    have h_6 := BH.out.cell 6
    simp only [List.getElem?_cons_zero, List.getElem?_cons_succ] at h_0 h_1 h_2 h_3 h_4 h_5 h_6
    go_wp2_with fail
    with_reducible refine (Hso.out Op np cp l w5 ((H.out.keep Hb.out).task) Hrd5.out).mono ?_
    rintro e w6 ⟨rfl, hb6⟩
    rw [Hsv.out]
    clear h_0 h_1 h_2 h_3 h_4 h_5 h_6
    replace BS := hide (BS.out.keep hb6)
    replace BH := hide (BH.out.keep hb6)
    replace Hb := hide (Hb.out.trans (hb6.mono Hb.out.size))
    clear hb6
    unfold fault
    go_upto_region 8 with (fail)
    have bT := Blk.new w6 29 [.int .i64 0, .int .i64 0]
    have hbT : Below w6.heap.size w6 (w6.alloc (.cells #[.int .i64 0, .int .i64 0] 29)) := (Below.refl _ _).alloc (Nat.le_refl _) _
    change Blk 29 (w6.alloc (.cells #[.int .i64 0, .int .i64 0] 29)) w6.heap.size [.int .i64 0, .int .i64 0] at bT
    obtain ⟨w7, hw⟩ : ∃ Z, Z = w6.alloc (.cells #[.int .i64 0, .int .i64 0] 29) := ⟨_, rfl⟩
    rw [← hw] at bT hbT ⊢
    clear hw
    obtain ⟨gt, hg⟩ : ∃ z, z = w6.heap.size := ⟨_, rfl⟩
    rw [← hg] at bT ⊢
    clear hg
    replace BH := hide (BH.out.keep hbT)
    replace Hb := hide (Hb.out.trans (hbT.mono Hb.out.size))
    have BT := hide bT
    clear bT
    replace BS := hide (BS.out.keep hbT)
    have s_0 := BS.out.cell 0
    have s_l := BS.out.lt
    have t_0 := BT.out.cell 0
    have t_l := BT.out.lt
    simp only [List.getElem?_cons_zero, List.getElem?_cons_succ] at s_0 t_0
    clear hbT
    go_wp2_with fail
    go_ret
    exact ⟨rfl, Hb.out⟩
end Go.Proofs.Ytmjiiddncbhgpaa
