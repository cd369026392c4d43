/- Dead ends: the law that a proof excludes plans and covers all reachable states. No condition., part 38: Lo8. -/
import Derived.Test.YtmjiiddncbhgpaaGreatC1
import Derived.Test.YtmjiiddncbhgpaaGreatC2
import Derived.Test.YtmjiiddncbhgpaaGreatC3
import Derived.Test.YtmjiiddncbhgpaaGreatC4
import Derived.Test.YtmjiiddncbhgpaaGreatC5
import Derived.Test.YtmjiiddncbhgpaaGreatC6
import Derived.Test.YtmjiiddncbhgpaaGreatC7
import Derived.Test.YtmjiiddncbhgpaaGreatC8
import Derived.Test.YtmjiiddncbhgpaaGreatC9
import Derived.Test.YtmjiiddncbhgpaaGreatC20
import Derived.Test.YtmjiiddncbhgpaaGreatC21
import Derived.Test.YtmjiiddncbhgpaaGreatC24
import Derived.Test.YtmjiiddncbhgpaaGreatC27
import Derived.Test.YtmjiiddncbhgpaaGreatC28
import Derived.Test.YtmjiiddncbhgpaaGreatC29
import Derived.Test.YtmjiiddncbhgpaaGreatC30
import Derived.Test.YtmjiiddncbhgpaaGreatC32
import Derived.Test.YtmjiiddncbhgpaaGreatC33
import Derived.Test.YtmjiiddncbhgpaaGreatC34
import Derived.Test.YtmjiiddncbhgpaaGreatC35
import Derived.Test.YtmjiiddncbhgpaaGreatC36
import Derived.Test.YtmjiiddncbhgpaaGreatC37
import Derived.BigQuiet
import Derived.BigRegion
import Derived.Deep.AppendLies
import Derived.Deep.DeepCutAuto
import Derived.Deep.Draws
import Derived.Deep.Fields
import Derived.Deep.LoopGhost
import Derived.Deep.QuietTactic
import Derived.Deep.RegionHeld3
import Derived.Deep.Slices
import Derived.DeepKeys4
import Derived.Ground.Names2Prog
import Derived.Ground.SlgnProg
import Derived.Ground.SlsfProg
import Derived.IntWalk
import Derived.Laws.AppendOwnNone
import Derived.Laws.BitsAllLaws
import Derived.Laws.EntriesVeiled
import Derived.Laws.OwnMore
import Derived.Lib.Hide
import Derived.Lib.SlicesCompact
import Derived.LoopIn
import Derived.LoopNIn
import Derived.Maps.AppendAt
import Derived.Maps.OwnIn
import Derived.Maps.OwnOps
import Derived.Maps.OwnSet
import Derived.OrdersHeld
import Derived.OrdersIn
import Derived.OwnWalkIn
import Derived.RangeFuncBound
import Derived.RangeFuncCalls
import Derived.RangeFuncLeaves
import Derived.RangeFuncNested
import Derived.Shelf.Abstract
import Derived.Shelf.RegionOpen
import Derived.Shelf.SlSortCmp.Whole1
import Derived.Shelf.Slices.Cells
import Derived.Shelf.Slices.Clone
import Derived.Shelf.Slices.CompactI
import Derived.Shelf.Slices.Empties
import Derived.Shelf.Slices.In.SortNone
import Derived.Shelf.Slices.SearchI
import Derived.Shelf.Sort.Plain
import Derived.Sort.OwnSortedInts
import Derived.StillTail
import Derived.StillTailTactics
import Derived.TacticsInMore
import Derived.Test.YtmjiiddncbhgpaaGreatProg
import Derived.WalkKit
namespace Go.Proofs.YtmjiiddncbhgpaaGreat
set_option linter.unusedVariables false
set_option linter.unusedSimpArgs false
open Go.RowKit Go.Maps
theorem below_setO {B : Nat} {w w' : World} (h : Below B w w') {g : Nat} (hg : B ≤ g) (i : Nat) (u : Value) : Below B w (w'.setCell ⟨g, i, none⟩ u) := h.setCell hg u
/-- least costs of all states that can be reached -/
structure CostsOf (T : Tsk) (l : List Nat) (f : Nat → Int) : Prop where
  list : ListOf T l
  least : Least (arcW (T.ops.map mkOp)) (goalW (wordF T.goal)) infW (· ∈ l) f
def OptP (w : World) (T : Tsk) (e : Ending) (w' : World) : Prop :=
  Below w.heap.size w w' ∧ (((taskFault T).1 ≠ 0 ∧ e = .returned (.tuple #[.int .i64 0, fault (taskFault T).1 (taskFault T).2])) ∨
    ((taskFault T).1 = 0 ∧ TooMany T ∧ e = .returned (.tuple #[.int .i64 0, fault 10 (-7)])) ∨
    ((taskFault T).1 = 0 ∧ ∃ l f, CostsOf T l f ∧ e = .returned (.tuple #[.int .i64 (f (wordF T.init)), fault 0 0])))
theorem outM_in {L : List Nat} {f : Nat → Int} {x : Nat} (h : x ∈ L) : (outM L f x).getD (.int .i64 0) = .int .i64 (f x) := by unfold outM; rw [if_pos h]; rfl
set_option maxRecDepth 100000 in
set_option maxHeartbeats 6400000 in
theorem Optimal_ct (a : TA) (T : Tsk) (w : World) (h : TkR w a T) :
    Calls Tryz.prog 30 #[.agg #[.int .i64 T.facts, .slice a.I a.nI a.cI, .slice a.G a.nG a.cG, .slice a.O a.nO a.cO]] w (OptP w T) := by
  have hck := fun W hW => Checked_ct a T W hW
  obtain ⟨I, nI, cI, G, nG, cG, O, nO, cO⟩ := a
  simp only at hck ⊢
  unfold CheckedP at hck
  rcases hq : taskFault T with ⟨ec, ei⟩
  rw [hq] at hck
  have H := hide h
  have Hck := hide hck
  have Hq := hide hq
  clear h hq hck
  have Hbl := hide (Below.refl w.heap.size w)
  go_enter Tryz.func30, Tryz.ntmps30
  go_upto_region 1 with (fail)
  obtain ⟨B0, hB0⟩ : ∃ B0, B0 = w.heap.size := ⟨_, rfl⟩
  have HB0 := hide hB0
  clear hB0
  have s_0 : B0 ≤ w.heap.size := Nat.le_trans (Nat.le_of_eq HB0.out) Hbl.out.size
  have hyt := Blk.new (w) 25 [.int .i64 T.facts, .slice I nI cI, .slice G nG cG, .slice O nO cO]
  have hyf := Blk.new ((w).alloc (.cells #[.int .i64 T.facts, .slice I nI cI, .slice G nG cG, .slice O nO cO] 25)) 29 [.int .i64 0, .int .i64 0]
  replace hyt := hyt.alloc (.cells #[.int .i64 0, .int .i64 0] 29)
  have hbW := below_two w (.cells #[.int .i64 T.facts, .slice I nI cI, .slice G nG cG, .slice O nO cO] 25) (.cells #[.int .i64 0, .int .i64 0] 29)
  simp only [World.size_alloc] at hyf
  obtain ⟨w0, hW⟩ : ∃ W, W = ((w).alloc (.cells #[.int .i64 T.facts, .slice I nI cI, .slice G nG cG, .slice O nO cO] 25)).alloc (.cells #[.int .i64 0, .int .i64 0] 29) := ⟨_, rfl⟩
  rw [← hW] at hyt hyf hbW ⊢
  replace Hbl := hide (Hbl.out.trans (hbW.mono Hbl.out.size))
  have Ht := hide hyt
  have Hf := hide hyf
  clear hW hbW hyt hyf
  generalize w.heap.size = gT at Ht Hf s_0 ⊢
  have t0 := Ht.out.cell 0
  have t1 := Ht.out.cell 1
  have t2 := Ht.out.cell 2
  have t3 := Ht.out.cell 3
  have tl := Ht.out.lt
  have f0 := Hf.out.cell 0
  have f1 := Hf.out.cell 1
  have fl := Hf.out.lt
  simp only [List.getElem?_cons_zero, List.getElem?_cons_succ] at t0 t1 t2 t3 f0 f1
  have a_t : B0 ≤ gT := by omega
  have a_f : B0 ≤ gT + 1 := by omega
  clear s_0
  have n_t_f : ¬ gT = gT + 1 := by omega
  have n_f_t : ¬ gT + 1 = gT := by omega
  go_wp2_with fail
  with_reducible refine (Hck.out w0 (H.out.keep Hbl.out)).mono ?_
  rintro e w1 ⟨hb, hor⟩
  have Hb01 := hide hb
  clear t0 t1 t2 t3 f0 f1 tl fl
  replace Ht := hide (Ht.out.keep hb)
  replace Hf := hide (Hf.out.keep hb)
  replace Hbl := hide (Hbl.out.trans (hb.mono Hbl.out.size))
  clear hb
  have t0 := Ht.out.cell 0
  have t1 := Ht.out.cell 1
  have t2 := Ht.out.cell 2
  have t3 := Ht.out.cell 3
  have tl := Ht.out.lt
  have f0 := Hf.out.cell 0
  have f1 := Hf.out.cell 1
  have fl := Hf.out.lt
  simp only [List.getElem?_cons_zero, List.getElem?_cons_succ] at t0 t1 t2 t3 f0 f1
  rcases hor with ⟨h1, rfl⟩ | ⟨h1, hmany, rfl⟩ | ⟨h1, g, A, c, L, rfl, hgl, hgh, hW, hrow, hlist⟩
  · skip
    skip
    unfold fault
    go_upto_region 2 with (fail)
    have n_t_p : ¬ gT = w1.heap.size := by omega
    have n_p_t : ¬ w1.heap.size = gT := by omega
    have n_f_p : ¬ gT + 1 = w1.heap.size := by omega
    have n_p_f : ¬ w1.heap.size = gT + 1 := by omega
    have s_t : gT < w1.heap.size := tl
    have s_f : gT + 1 < w1.heap.size := fl
    have s_0 : B0 ≤ w1.heap.size := Nat.le_trans (Nat.le_of_eq HB0.out) Hbl.out.size
    have hyp := Blk.new (w1) 29 [.int .i64 ec, .int .i64 ei]
    have hbW : Below (w1).heap.size (w1) ((w1).alloc (.cells #[.int .i64 ec, .int .i64 ei] 29)) := (Below.refl _ _).alloc (Nat.le_refl _) _
    obtain ⟨w2, hW⟩ : ∃ W, W = (w1).alloc (.cells #[.int .i64 ec, .int .i64 ei] 29) := ⟨_, rfl⟩
    rw [← hW] at hyp hbW ⊢
    replace Ht := hide (Ht.out.keep hbW)
    replace Hf := hide (Hf.out.keep hbW)
    replace Hbl := hide (Hbl.out.trans (hbW.mono Hbl.out.size))
    have Hp := hide hyp
    clear hW hbW hyp
    generalize w1.heap.size = gp at Hp n_t_p n_p_t n_f_p n_p_f s_t s_f s_0 ⊢
    have t0 := Ht.out.cell 0
    have t1 := Ht.out.cell 1
    have t2 := Ht.out.cell 2
    have t3 := Ht.out.cell 3
    have tl := Ht.out.lt
    have f0 := Hf.out.cell 0
    have f1 := Hf.out.cell 1
    have fl := Hf.out.lt
    have p0 := Hp.out.cell 0
    have p1 := Hp.out.cell 1
    have pl := Hp.out.lt
    simp only [List.getElem?_cons_zero, List.getElem?_cons_succ] at t0 t1 t2 t3 f0 f1 p0 p1
    clear s_t
    clear s_f
    have a_p : B0 ≤ gp := by omega
    clear s_0
    have ff0 := Hf.out.frozen 0
    have ff1 := Hf.out.frozen 1
    go_upto_region 3 with (fail)
    go_region
    all_goals go_wp2_with fail
    all_goals refine bodyPost_ret (v := .tuple #[.int .i64 0, fault ec ei]) (by simp [results, Tryz.results30, go_sem, fault, f0, f1, fl]) rfl ?_
    have hbx := HB0.out
    refine ⟨?_, .inl ⟨by rw [Hq.out]; exact h1, by rw [Hq.out]⟩⟩
    repeat' (first | (with_reducible exact Hbl.out) | (with_reducible refine Below.drew ?_) | (with_reducible refine below_setO ?_ ?_ _ _) | (with_reducible refine below_drewN ?_ _) | omega)
  · skip
    have Hmany := hide hmany
    clear hmany
    unfold fault
    go_upto_region 2 with (fail)
    have n_t_p : ¬ gT = w1.heap.size := by omega
    have n_p_t : ¬ w1.heap.size = gT := by omega
    have n_f_p : ¬ gT + 1 = w1.heap.size := by omega
    have n_p_f : ¬ w1.heap.size = gT + 1 := by omega
    have s_t : gT < w1.heap.size := tl
    have s_f : gT + 1 < w1.heap.size := fl
    have s_0 : B0 ≤ w1.heap.size := Nat.le_trans (Nat.le_of_eq HB0.out) Hbl.out.size
    have hyp := Blk.new (w1) 29 [.int .i64 10, .int .i64 (-7)]
    have hbW : Below (w1).heap.size (w1) ((w1).alloc (.cells #[.int .i64 10, .int .i64 (-7)] 29)) := (Below.refl _ _).alloc (Nat.le_refl _) _
    obtain ⟨w2, hW⟩ : ∃ W, W = (w1).alloc (.cells #[.int .i64 10, .int .i64 (-7)] 29) := ⟨_, rfl⟩
    rw [← hW] at hyp hbW ⊢
    replace Ht := hide (Ht.out.keep hbW)
    replace Hf := hide (Hf.out.keep hbW)
    replace Hbl := hide (Hbl.out.trans (hbW.mono Hbl.out.size))
    have Hp := hide hyp
    clear hW hbW hyp
    generalize w1.heap.size = gp at Hp n_t_p n_p_t n_f_p n_p_f s_t s_f s_0 ⊢
    have t0 := Ht.out.cell 0
    have t1 := Ht.out.cell 1
    have t2 := Ht.out.cell 2
    have t3 := Ht.out.cell 3
    have tl := Ht.out.lt
    have f0 := Hf.out.cell 0
    have f1 := Hf.out.cell 1
    have fl := Hf.out.lt
    have p0 := Hp.out.cell 0
    have p1 := Hp.out.cell 1
    have pl := Hp.out.lt
    simp only [List.getElem?_cons_zero, List.getElem?_cons_succ] at t0 t1 t2 t3 f0 f1 p0 p1
    clear s_t
    clear s_f
    have a_p : B0 ≤ gp := by omega
    clear s_0
    have ff0 := Hf.out.frozen 0
    have ff1 := Hf.out.frozen 1
    go_upto_region 3 with (fail)
    go_region
    all_goals go_wp2_with fail
    all_goals refine bodyPost_ret (v := .tuple #[.int .i64 0, fault 10 (-7)]) (by simp [results, Tryz.results30, go_sem, fault, f0, f1, fl]) rfl ?_
    have hbx := HB0.out
    refine ⟨?_, .inr (.inl ⟨by rw [Hq.out]; exact h1, Hmany.out, rfl⟩)⟩
    repeat' (first | (with_reducible exact Hbl.out) | (with_reducible refine Below.drew ?_) | (with_reducible refine below_setO ?_ ?_ _ _) | (with_reducible refine below_drewN ?_ _) | omega)
  · skip
    skip
    have HW := hide (hW w1 (Chg.refl _ _))
    have Hrow := hide hrow
    have Hlist := hide hlist
    clear hW hrow hlist
    unfold fault
    go_upto_region 2 with (fail)
    have n_t_p : ¬ gT = w1.heap.size := by omega
    have n_p_t : ¬ w1.heap.size = gT := by omega
    have n_f_p : ¬ gT + 1 = w1.heap.size := by omega
    have n_p_f : ¬ w1.heap.size = gT + 1 := by omega
    have s_t : gT < w1.heap.size := tl
    have s_f : gT + 1 < w1.heap.size := fl
    have s_0 : B0 ≤ w1.heap.size := Nat.le_trans (Nat.le_of_eq HB0.out) Hbl.out.size
    have hyp := Blk.new (w1) 29 [.int .i64 0, .int .i64 0]
    have hbW : Below (w1).heap.size (w1) ((w1).alloc (.cells #[.int .i64 0, .int .i64 0] 29)) := (Below.refl _ _).alloc (Nat.le_refl _) _
    obtain ⟨w2, hW⟩ : ∃ W, W = (w1).alloc (.cells #[.int .i64 0, .int .i64 0] 29) := ⟨_, rfl⟩
    rw [← hW] at hyp hbW ⊢
    replace Ht := hide (Ht.out.keep hbW)
    replace Hf := hide (Hf.out.keep hbW)
    replace HW := hide (HW.out.keep hbW)
    replace Hrow := hide (Hrow.out.keep hbW)
    replace Hbl := hide (Hbl.out.trans (hbW.mono Hbl.out.size))
    have Hp := hide hyp
    clear hW hbW hyp
    generalize w1.heap.size = gp at Hp n_t_p n_p_t n_f_p n_p_f s_t s_f s_0 ⊢
    have t0 := Ht.out.cell 0
    have t1 := Ht.out.cell 1
    have t2 := Ht.out.cell 2
    have t3 := Ht.out.cell 3
    have tl := Ht.out.lt
    have f0 := Hf.out.cell 0
    have f1 := Hf.out.cell 1
    have fl := Hf.out.lt
    have p0 := Hp.out.cell 0
    have p1 := Hp.out.cell 1
    have pl := Hp.out.lt
    simp only [List.getElem?_cons_zero, List.getElem?_cons_succ] at t0 t1 t2 t3 f0 f1 p0 p1
    clear s_t
    clear s_f
    have a_p : B0 ≤ gp := by omega
    clear s_0
    have hst := fun W hW => Start_ct g _ _ _ W (HW.out.keep hW)
    have hs0 := HW.out.start
    have hcs := Costs_ct g _ _ _ A L.length c L w2 HW.out Hrow.out.rd Hlist.out.all.once Hlist.out.few
    have hin : wordF T.init ∈ L := (Hlist.out.all.mem _).2 .start
    have Hcs := hide hcs
    have Hst := hide hst
    have Hin := hide hin
    obtain ⟨q, hq⟩ : ∃ q, q = L.length := ⟨_, rfl⟩
    rw [← hq] at Hcs ⊢
    clear hcs hst hin hq
    go_wp2_with fail
    with_reducible refine Hcs.out.mono ?_
    rintro e w3 ⟨hb, ob, f, rfl, hob, hmap, hleast⟩
    have Hb23 := hide hb
    clear t0 t1 t2 t3 f0 f1 p0 p1 tl fl pl
    replace Ht := hide (Ht.out.keep hb)
    replace Hf := hide (Hf.out.keep hb)
    replace Hp := hide (Hp.out.keep hb)
    replace Hbl := hide (Hbl.out.trans (hb.mono Hbl.out.size))
    clear hb
    have t0 := Ht.out.cell 0
    have t1 := Ht.out.cell 1
    have t2 := Ht.out.cell 2
    have t3 := Ht.out.cell 3
    have tl := Ht.out.lt
    have f0 := Hf.out.cell 0
    have f1 := Hf.out.cell 1
    have fl := Hf.out.lt
    have p0 := Hp.out.cell 0
    have p1 := Hp.out.cell 1
    have pl := Hp.out.lt
    simp only [List.getElem?_cons_zero, List.getElem?_cons_succ] at t0 t1 t2 t3 f0 f1 p0 p1
    have hz3 : ∀ w : World, (zeroValue 3).run Tryz.prog w = .ok (.int .i64 0) w := fun w => by kernel_rfl
    have hlook := hmap.look1 (int_keyed Tryz.underlying78) (T := 103) (E := 3) Tryz.underlying103 hz3 (keyW Tryz.underlying78 hs0) w3 rfl
    rw [outM_in Hin.out] at hlook
    unfold encW at hlook
    have hst3 := Hst.out w3 Hb23.out
    have Hleast := hide hleast
    obtain ⟨s0, hs0e⟩ : ∃ x, x = wordF T.init := ⟨_, rfl⟩
    rw [← hs0e] at hst3 hlook
    obtain ⟨v, hv⟩ : ∃ v, v = f s0 := ⟨_, rfl⟩
    rw [← hv] at hlook
    have Hv := hide hv
    have Hs0 := hide hs0e
    have Hst3 := hide hst3
    clear hmap hleast hst3 hv hs0e hz3
    have ff0 := Hf.out.frozen 0
    have ff1 := Hf.out.frozen 1
    go_wp2_with fail
    with_reducible refine Hst3.out.mono ?_
    rintro e w4 ⟨rfl, rfl⟩
    go_wp2_with fail
    refine bodyPost_ret (v := .tuple #[.int .i64 v, fault 0 0]) (by simp [results, Tryz.results30, go_sem, fault, f0, f1, fl]) rfl ?_
    have hbx := HB0.out
    refine ⟨?_, .inr (.inr ⟨by rw [Hq.out]; exact h1, L, f, ⟨Hlist.out, Hleast.out⟩, by rw [Hv.out, Hs0.out]⟩)⟩
    repeat' (first | (with_reducible exact Hbl.out) | (with_reducible refine Below.drew ?_) | (with_reducible refine below_setO ?_ ?_ _ _) | (with_reducible refine below_drewN ?_ _) | omega)
end Go.Proofs.YtmjiiddncbhgpaaGreat
