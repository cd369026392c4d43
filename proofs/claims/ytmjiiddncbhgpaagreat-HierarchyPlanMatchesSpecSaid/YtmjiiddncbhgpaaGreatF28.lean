/- The law HierarchyPlanMatchesSpec of the package hierarchy holds, without a condition., part 28: Sw12. -/
import Derived.Test.YtmjiiddncbhgpaaGreatF1
import Derived.Test.YtmjiiddncbhgpaaGreatF2
import Derived.Test.YtmjiiddncbhgpaaGreatF3
import Derived.Test.YtmjiiddncbhgpaaGreatF4
import Derived.Test.YtmjiiddncbhgpaaGreatF5
import Derived.Test.YtmjiiddncbhgpaaGreatF6
import Derived.Test.YtmjiiddncbhgpaaGreatF7
import Derived.Test.YtmjiiddncbhgpaaGreatF8
import Derived.Test.YtmjiiddncbhgpaaGreatF9
import Derived.Test.YtmjiiddncbhgpaaGreatF13
import Derived.Test.YtmjiiddncbhgpaaGreatF14
import Derived.Test.YtmjiiddncbhgpaaGreatF17
import Derived.Test.YtmjiiddncbhgpaaGreatF20
import Derived.Test.YtmjiiddncbhgpaaGreatF26
import Derived.Test.YtmjiiddncbhgpaaGreatF27
import Derived.BigQuiet
import Derived.Deep.AppendLies
import Derived.Deep.DeepCutAuto
import Derived.Deep.Draws
import Derived.Deep.Fields
import Derived.Deep.LoopGhost
import Derived.Deep.QuietTactic
import Derived.Deep.RegionHeld3
import Derived.Deep.Slices
import Derived.DeepKeys4
import Derived.Ground.Names2Prog
import Derived.Ground.SlgnProg
import Derived.Ground.SlsfProg
import Derived.IntWalk
import Derived.Laws.AppendOwnNone
import Derived.Laws.BitsAllLaws
import Derived.Laws.OwnMore
import Derived.Lib.Hide
import Derived.Lib.SlicesCompact
import Derived.LoopIn
import Derived.LoopNIn
import Derived.Maps.AppendAt
import Derived.Maps.OwnIn
import Derived.Maps.OwnOps
import Derived.Maps.OwnSet
import Derived.OwnWalkIn
import Derived.RangeFuncBound
import Derived.RangeFuncCalls
import Derived.RangeFuncLeaves
import Derived.RangeFuncNested
import Derived.Shelf.Abstract
import Derived.Shelf.RegionOpen
import Derived.Shelf.SlSortCmp.Whole1
import Derived.Shelf.Slices.Cells
import Derived.Shelf.Slices.Clone
import Derived.Shelf.Slices.CompactI
import Derived.Shelf.Slices.Empties
import Derived.Shelf.Slices.In.SortNone
import Derived.Shelf.Slices.SearchI
import Derived.Shelf.Sort.Plain
import Derived.Sort.OwnSortedInts
import Derived.TacticsInMore
import Derived.Test.YtmjiiddncbhgpaaGreatProg
import Derived.WalkKit
namespace Go.Proofs.YtmjiiddncbhgpaaGreat
set_option linter.unusedVariables false
set_option linter.unusedSimpArgs false
open Go.RowKit
set_option maxRecDepth 100000 in
set_option maxHeartbeats 6400000 in
theorem Checked_ct (a : TA) (T : Tsk) (w : World) (h : TkR w a T) :
    Calls Tryz.prog 52 #[.agg #[.int .i64 T.facts, .slice a.I a.nI a.cI, .slice a.G a.nG a.cG, .slice a.O a.nO a.cO]] w (CheckedP w T) := by
  have hval := SValidate_ct a T
  have hof := fun N w h1 h2 => Of_ct a T N w h1 h2
  obtain ⟨I, nI, cI, G, nG, cG, O, nO, cO⟩ := a
  simp only at hval hof ⊢
  rcases hq : taskFault T with ⟨ec, ei⟩
  rw [hq] at hval
  have H := hide h
  have Hq := hide hq
  have Hval := hide hval
  have Hof := hide hof
  clear h hq hval hof
  have Hbl := hide (Below.refl w.heap.size w)
  go_enter Tryz.func52, Tryz.ntmps52
  go_upto_region 1 with (fail)
  obtain ⟨B0, hB0⟩ : ∃ B0, B0 = w.heap.size := ⟨_, rfl⟩
  have HB0 := hide hB0
  clear hB0
  have s_0 : B0 ≤ w.heap.size := Nat.le_trans (Nat.le_of_eq HB0.out) Hbl.out.size
  have hyt := Blk.new (w) 25 [.int .i64 T.facts, .slice I nI cI, .slice G nG cG, .slice O nO cO]
  have hyf := Blk.new ((w).alloc (.cells #[.int .i64 T.facts, .slice I nI cI, .slice G nG cG, .slice O nO cO] 25)) 29 [.int .i64 0, .int .i64 0]
  replace hyt := hyt.alloc (.cells #[.int .i64 0, .int .i64 0] 29)
  have hbW := below_two w (.cells #[.int .i64 T.facts, .slice I nI cI, .slice G nG cG, .slice O nO cO] 25) (.cells #[.int .i64 0, .int .i64 0] 29)
  simp only [World.size_alloc] at hyf
  obtain ⟨w0, hW⟩ : ∃ W, W = ((w).alloc (.cells #[.int .i64 T.facts, .slice I nI cI, .slice G nG cG, .slice O nO cO] 25)).alloc (.cells #[.int .i64 0, .int .i64 0] 29) := ⟨_, rfl⟩
  rw [← hW] at hyt hyf hbW ⊢
  replace Hbl := hide (Hbl.out.trans (hbW.mono Hbl.out.size))
  have Ht := hide hyt
  have Hf := hide hyf
  clear hW hbW hyt hyf
  generalize w.heap.size = gT at Ht Hf s_0 ⊢
  have t0 := Ht.out.cell 0
  have t1 := Ht.out.cell 1
  have t2 := Ht.out.cell 2
  have t3 := Ht.out.cell 3
  have tl := Ht.out.lt
  have f0 := Hf.out.cell 0
  have f1 := Hf.out.cell 1
  have fl := Hf.out.lt
  simp only [List.getElem?_cons_zero, List.getElem?_cons_succ] at t0 t1 t2 t3 f0 f1
  have a_t : B0 ≤ gT := by omega
  have a_f : B0 ≤ gT + 1 := by omega
  clear s_0
  have n_t_f : ¬ gT = gT + 1 := by omega
  have n_f_t : ¬ gT + 1 = gT := by omega
  go_wp2_with fail
  with_reducible refine (Hval.out w0 (H.out.keep Hbl.out)).mono ?_
  rintro e w1 ⟨rfl, hb⟩
  clear t0 t1 t2 t3 f0 f1 tl fl
  replace Ht := hide (Ht.out.keep hb)
  replace Hf := hide (Hf.out.keep hb)
  replace Hbl := hide (Hbl.out.trans (hb.mono Hbl.out.size))
  clear hb
  unfold fault
  have t0 := Ht.out.cell 0
  have t1 := Ht.out.cell 1
  have t2 := Ht.out.cell 2
  have t3 := Ht.out.cell 3
  have tl := Ht.out.lt
  have f0 := Hf.out.cell 0
  have f1 := Hf.out.cell 1
  have fl := Hf.out.lt
  simp only [List.getElem?_cons_zero, List.getElem?_cons_succ] at t0 t1 t2 t3 f0 f1
  go_upto_region 2 with (fail)
  have n_t_p : ¬ gT = w1.heap.size := by omega
  have n_p_t : ¬ w1.heap.size = gT := by omega
  have n_f_p : ¬ gT + 1 = w1.heap.size := by omega
  have n_p_f : ¬ w1.heap.size = gT + 1 := by omega
  have s_t : gT < w1.heap.size := tl
  have s_f : gT + 1 < w1.heap.size := fl
  have s_0 : B0 ≤ w1.heap.size := Nat.le_trans (Nat.le_of_eq HB0.out) Hbl.out.size
  have hyp := Blk.new (w1) 29 [.int .i64 ec, .int .i64 ei]
  have hbW : Below (w1).heap.size (w1) ((w1).alloc (.cells #[.int .i64 ec, .int .i64 ei] 29)) := (Below.refl _ _).alloc (Nat.le_refl _) _
  obtain ⟨w2, hW⟩ : ∃ W, W = (w1).alloc (.cells #[.int .i64 ec, .int .i64 ei] 29) := ⟨_, rfl⟩
  rw [← hW] at hyp hbW ⊢
  replace Ht := hide (Ht.out.keep hbW)
  replace Hf := hide (Hf.out.keep hbW)
  replace Hbl := hide (Hbl.out.trans (hbW.mono Hbl.out.size))
  have Hp := hide hyp
  clear hW hbW hyp
  generalize w1.heap.size = gp at Hp n_t_p n_p_t n_f_p n_p_f s_t s_f s_0 ⊢
  have t0 := Ht.out.cell 0
  have t1 := Ht.out.cell 1
  have t2 := Ht.out.cell 2
  have t3 := Ht.out.cell 3
  have tl := Ht.out.lt
  have f0 := Hf.out.cell 0
  have f1 := Hf.out.cell 1
  have fl := Hf.out.lt
  have p0 := Hp.out.cell 0
  have p1 := Hp.out.cell 1
  have pl := Hp.out.lt
  simp only [List.getElem?_cons_zero, List.getElem?_cons_succ] at t0 t1 t2 t3 f0 f1 p0 p1
  clear s_t
  clear s_f
  have a_p : B0 ≤ gp := by omega
  clear s_0
  by_cases hec : ec = 0
  · subst hec
    have hz := taskFault_zero (T := T) (by rw [Hq.out])
    rw [Hq.out] at hz
    obtain ⟨_, e2⟩ := Prod.mk.inj hz
    subst e2
    obtain ⟨N, hok⟩ := taskFault_ok (T := T) (by rw [Hq.out])
    have Hok := hide hok
    clear hz hok
    go_wp2_with fail
    have sf2 := fl
    with_reducible refine (Hof.out N w2 (H.out.keep Hbl.out) Hok.out).mono ?_
    rintro e w3 ⟨hb, gW, rfl, hgW, hgl, hWf⟩
    have hW := hWf w3 (Chg.refl _ _)
    have HWf := hide hWf
    have Hgl := hide hgl
    clear hWf hgl
    clear t0 t1 t2 t3 f0 f1 p0 p1 tl fl pl
    replace Ht := hide (Ht.out.keep hb)
    replace Hf := hide (Hf.out.keep hb)
    replace Hp := hide (Hp.out.keep hb)
    have Hg2 := hide (Nat.le_trans Hbl.out.size hgW)
    have Hb2 := hide Hbl.out.size
    have Hs2 := hide (show gT + 1 < w2.heap.size from sf2)
    replace Hbl := hide (Hbl.out.trans (hb.mono Hbl.out.size))
    have HW := hide hW
    have Hb3 := hide Hbl.out.size
    clear hb hW hgW sf2
    have t0 := Ht.out.cell 0
    have t1 := Ht.out.cell 1
    have t2 := Ht.out.cell 2
    have t3 := Ht.out.cell 3
    have tl := Ht.out.lt
    have f0 := Hf.out.cell 0
    have f1 := Hf.out.cell 1
    have fl := Hf.out.lt
    have p0 := Hp.out.cell 0
    have p1 := Hp.out.cell 1
    have pl := Hp.out.lt
    simp only [List.getElem?_cons_zero, List.getElem?_cons_succ] at t0 t1 t2 t3 f0 f1 p0 p1
    have Lt := hide tl
    have Lf := hide fl
    have Lp := hide pl
    go_wp2_with fail
    with_reducible refine (All_ct gW _ _ _ w3 HW.out).mono ?_
    rintro e w4 ⟨hb, hor⟩
    clear t0 t1 t2 t3 f0 f1 p0 p1 tl fl pl
    replace Ht := hide (Ht.out.keep hb)
    replace Hf := hide (Hf.out.keep hb)
    replace Hp := hide (Hp.out.keep hb)
    replace Hbl := hide (Hbl.out.trans (hb.mono Hbl.out.size))
    have Hb34 := hide hb
    replace HW := hide (HW.out.keep hb)
    clear hb
    have t0 := Ht.out.cell 0
    have t1 := Ht.out.cell 1
    have t2 := Ht.out.cell 2
    have t3 := Ht.out.cell 3
    have tl := Ht.out.lt
    have f0 := Hf.out.cell 0
    have f1 := Hf.out.cell 1
    have fl := Hf.out.lt
    have p0 := Hp.out.cell 0
    have p1 := Hp.out.cell 1
    have pl := Hp.out.lt
    simp only [List.getElem?_cons_zero, List.getElem?_cons_succ] at t0 t1 t2 t3 f0 f1 p0 p1
    rcases hor with ⟨l, A, c, rfl, hrow, hall, hfew⟩ | ⟨rfl, m, hm1, hm2, hm3⟩
    · skip
      have hpos : 0 < l.length := List.length_pos_of_mem ((hall.mem _).2 .start)
      have Hrow := hide hrow
      have Hall := hide hall
      clear hrow hall
      obtain ⟨q, hq⟩ : ∃ q, q = l.length := ⟨_, rfl⟩
      have hrow := Hrow.out
      rw [← hq] at hpos hfew hrow ⊢
      clear Hrow
      have Hrow := hide hrow
      have Hql := hide hq
      clear hrow hq
      go_wp2_with fail
      with_reducible refine (SortW_ct Hrow.out Hall.out.once hpos (by omega)).mono ?_
      rintro e w5 ⟨rfl, l', hperm, hup, hrow5, hch⟩
      have hb5 : Below w3.heap.size w4 w5 := hch.below (fun i hi => (Hrow.out.base hi).1) Hb34.out.size
      clear t0 t1 t2 t3 f0 f1 p0 p1 tl fl pl
      replace Ht := hide (Ht.out.below hb5 Lt.out)
      replace Hf := hide (Hf.out.below hb5 Lf.out)
      replace Hp := hide (Hp.out.below hb5 Lp.out)
      have Hbl5 := hide (Hbl.out.trans (hb5.mono Hb3.out))
      have Hb35 := hide (Hb34.out.trans hb5)
      have Hperm := hide hperm
      have Hup := hide hup
      have Hrow5 := hide hrow5
      clear hb5 hperm hup hrow5 hch Hbl
      have t0 := Ht.out.cell 0
      have t1 := Ht.out.cell 1
      have t2 := Ht.out.cell 2
      have t3 := Ht.out.cell 3
      have tl := Ht.out.lt
      have f0 := Hf.out.cell 0
      have f1 := Hf.out.cell 1
      have fl := Hf.out.lt
      have p0 := Hp.out.cell 0
      have p1 := Hp.out.cell 1
      have pl := Hp.out.lt
      simp only [List.getElem?_cons_zero, List.getElem?_cons_succ] at t0 t1 t2 t3 f0 f1 p0 p1
      have ff0 := Hf.out.frozen 0
      have ff1 := Hf.out.frozen 1
      go_wp2_with fail
      refine bodyPost_ret (v := .tuple #[.pointer (some ⟨gW, 0, none⟩), .slice A q c, fault 0 0]) (by simp [results, Tryz.results52, go_sem, fault, f0, f1, fl]) rfl ?_
      have hbx := HB0.out
      have hl' := Hperm.out.length_eq
      have hq := Hql.out
      have hLf := Lf.out
      have hc2 := ((Chg.set w5 (gT + 1) 0 (.int .i64 0)).trans (Chg.set _ (gT + 1) 1 (.int .i64 0)))
      have hl2 := Hs2.out
      refine ⟨(Hbl5.out.setCell (p := ⟨gT + 1, 0, none⟩) (by show w.heap.size ≤ gT + 1; omega) _).setCell (p := ⟨gT + 1, 1, none⟩) (by show w.heap.size ≤ gT + 1; omega) _, .inr (.inr ⟨by rw [Hq.out], gW, A, c, l', ?_, Hg2.out, ?_, fun w'' hc => HWf.out w'' ?_, ?_, ⟨⟨Hperm.out.nodup_iff.2 Hall.out.once, fun x => (Hperm.out.mem_iff).trans (Hall.out.mem x)⟩, Hup.out, by rw [hl', ← hq]; exact hfew⟩⟩)⟩
      · rw [hl', ← hq]
      · have h1 := Hgl.out
        have h2 := Hb35.out.size
        simp only [World.size_setCell]
        omega
      · refine ((Chg.of_below Hb35.out _).trans (hc2.mono fun b e => ?_)).trans (hc.mono fun b e => ?_)
        · show b < w2.heap.size
          omega
        · show b < w2.heap.size
          have := Hb2.out
          omega
      · rw [hl', ← hq]
        exact (Hrow5.out.low (by have := Hb3.out; omega)).chg hc2 (fun r hr e => by have h1 := (Hrow5.out.base hr).1; omega)
    · skip
      have Hm := hide (show TooMany T from ⟨m, hm1, hm2, hm3⟩)
      clear hm1 hm2 hm3
      have ff0 := Hf.out.frozen 0
      have ff1 := Hf.out.frozen 1
      go_wp2_with fail
      refine bodyPost_ret (v := .tuple #[.pointer none, .slice none 0 0, fault 10 (-7)]) (by simp [results, Tryz.results52, go_sem, fault, f0, f1, fl]) rfl ?_
      have hbx := HB0.out
      exact ⟨(Hbl.out.setCell (p := ⟨gT + 1, 0, none⟩) (by show w.heap.size ≤ gT + 1; omega) _).setCell (p := ⟨gT + 1, 1, none⟩) (by show w.heap.size ≤ gT + 1; omega) _, .inr (.inl ⟨by rw [Hq.out], Hm.out, rfl⟩)⟩
  · skip
    have ff0 := Hf.out.frozen 0
    have ff1 := Hf.out.frozen 1
    go_upto_region 3 with (fail)
    go_region
    all_goals go_wp2_with fail
    all_goals refine bodyPost_ret (v := .tuple #[.pointer none, .slice none 0 0, fault ec ei]) (by simp [results, Tryz.results52, go_sem, fault, f0, f1, fl]) rfl ?_
    have hbx := HB0.out
    refine ⟨?_, .inl ⟨by rw [Hq.out]; exact hec, by rw [Hq.out]⟩⟩
    repeat' (first | (with_reducible exact Hbl.out) | (with_reducible refine Below.drew ?_) | (with_reducible refine below_setG ?_ ?_ _ _) | omega)
end Go.Proofs.YtmjiiddncbhgpaaGreat
