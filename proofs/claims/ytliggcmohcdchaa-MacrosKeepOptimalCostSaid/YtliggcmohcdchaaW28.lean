/- What the law of macros' costs asks for, part 28: Lo8 Lb2 Kp La37. -/
import Derived.Test.YtliggcmohcdchaaW1
import Derived.Test.YtliggcmohcdchaaW2
import Derived.Test.YtliggcmohcdchaaW3
import Derived.Test.YtliggcmohcdchaaW4
import Derived.Test.YtliggcmohcdchaaW5
import Derived.Test.YtliggcmohcdchaaW6
import Derived.Test.YtliggcmohcdchaaW7
import Derived.Test.YtliggcmohcdchaaW8
import Derived.Test.YtliggcmohcdchaaW9
import Derived.Test.YtliggcmohcdchaaW10
import Derived.Test.YtliggcmohcdchaaW11
import Derived.Test.YtliggcmohcdchaaW12
import Derived.Test.YtliggcmohcdchaaW13
import Derived.Test.YtliggcmohcdchaaW14
import Derived.Test.YtliggcmohcdchaaW15
import Derived.Test.YtliggcmohcdchaaW16
import Derived.Test.YtliggcmohcdchaaW17
import Derived.Test.YtliggcmohcdchaaW18
import Derived.Test.YtliggcmohcdchaaW19
import Derived.Test.YtliggcmohcdchaaW20
import Derived.Test.YtliggcmohcdchaaW21
import Derived.Test.YtliggcmohcdchaaW22
import Derived.Test.YtliggcmohcdchaaW23
import Derived.Test.YtliggcmohcdchaaW24
import Derived.Test.YtliggcmohcdchaaW25
import Derived.Test.YtliggcmohcdchaaW26
import Derived.Test.YtliggcmohcdchaaW27
import Derived.BigQuiet
import Derived.BigRegion
import Derived.Deep.AppendLies
import Derived.Deep.DeepCutAuto
import Derived.Deep.Draws
import Derived.Deep.Fields
import Derived.Deep.LoopGhost
import Derived.Deep.QuietTactic
import Derived.Deep.RegionHeld3
import Derived.Deep.Slices
import Derived.DeepKeys4
import Derived.Ground.Names2Prog
import Derived.Ground.SlgnProg
import Derived.Ground.SlsfProg
import Derived.IntWalk
import Derived.Laws.AppendOwnNone
import Derived.Laws.BitsAllLaws
import Derived.Laws.EntriesVeiled
import Derived.Laws.OwnMore
import Derived.Lib.Hide
import Derived.Lib.SlicesCompact
import Derived.LoopIn
import Derived.LoopNIn
import Derived.Maps.AppendAt
import Derived.Maps.OwnIn
import Derived.Maps.OwnOps
import Derived.Maps.OwnSet
import Derived.OrdersHeld
import Derived.OrdersIn
import Derived.OwnWalkIn
import Derived.RangeFuncBound
import Derived.RangeFuncCalls
import Derived.RangeFuncLeaves
import Derived.RangeFuncNested
import Derived.Shelf.Abstract
import Derived.Shelf.RegionOpen
import Derived.Shelf.SlSortCmp.Whole1
import Derived.Shelf.Slices.Cells
import Derived.Shelf.Slices.Clone
import Derived.Shelf.Slices.CompactI
import Derived.Shelf.Slices.Empties
import Derived.Shelf.Slices.In.SortNone
import Derived.Shelf.Slices.SearchI
import Derived.Shelf.Sort.Plain
import Derived.Sort.OwnSortedInts
import Derived.StillTail
import Derived.StillTailTactics
import Derived.TacticsInMore
import Derived.Test.YtliggcmohcdchaaProg
import Derived.WalkKit
namespace Go.Proofs.Ytliggcmohcdchaa
set_option linter.unusedVariables false
set_option linter.unusedSimpArgs false
open Go.RowKit Go.Maps
/-- least costs of all states that can be reached -/
structure CostsOf (T : Tsk) (l : List Nat) (f : Nat → Int) : Prop where
  list : ListOf T l
  least : Least (arcW (T.ops.map mkOp)) (goalW (wordF T.goal)) infW (· ∈ l) f
def OptP (w : World) (T : Tsk) (e : Ending) (w' : World) : Prop :=
  Below w.heap.size w w' ∧ (((taskFault T).1 ≠ 0 ∧ e = .returned (.tuple #[.int .i64 0, fault (taskFault T).1 (taskFault T).2])) ∨
    ((taskFault T).1 = 0 ∧ TooMany T ∧ e = .returned (.tuple #[.int .i64 0, fault 10 (-7)])) ∨
    ((taskFault T).1 = 0 ∧ ∃ l f, CostsOf T l f ∧ e = .returned (.tuple #[.int .i64 (f (wordF T.init)), fault 0 0])))
theorem outM_in {L : List Nat} {f : Nat → Int} {x : Nat} (h : x ∈ L) : (outM L f x).getD (.int .i64 0) = .int .i64 (f x) := by unfold outM; rw [if_pos h]; rfl
set_option maxRecDepth 100000 in
set_option maxHeartbeats 6400000 in
theorem Optimal_ct (a : TA) (T : Tsk) (w : World) (h : TkR w a T) :
    Calls Try.prog 24 #[.agg #[.int .i64 T.facts, .slice a.I a.nI a.cI, .slice a.G a.nG a.cG, .slice a.O a.nO a.cO]] w (OptP w T) := by
  have hck := fun W hW => Checked_ct a T W hW
  obtain ⟨I, nI, cI, G, nG, cG, O, nO, cO⟩ := a
  simp only at hck ⊢
  unfold CheckedP at hck
  rcases hq : taskFault T with ⟨ec, ei⟩
  rw [hq] at hck
  have H := hide h
  have Hck := hide hck
  have Hq := hide hq
  clear h hq hck
  have Hbl := hide (Below.refl w.heap.size w)
  go_enter Try.func24, Try.ntmps24
  go_upto_region 1 with (fail)
  obtain ⟨B0, hB0⟩ : ∃ B0, B0 = w.heap.size := ⟨_, rfl⟩
  have HB0 := hide hB0
  clear hB0
  have s_0 : B0 ≤ w.heap.size := Nat.le_trans (Nat.le_of_eq HB0.out) Hbl.out.size
  have hyt := Blk.new (w) 25 [.int .i64 T.facts, .slice I nI cI, .slice G nG cG, .slice O nO cO]
  have hyf := Blk.new ((w).alloc (.cells #[.int .i64 T.facts, .slice I nI cI, .slice G nG cG, .slice O nO cO] 25)) 29 [.int .i64 0, .int .i64 0]
  replace hyt := hyt.alloc (.cells #[.int .i64 0, .int .i64 0] 29)
  have hbW := below_two w (.cells #[.int .i64 T.facts, .slice I nI cI, .slice G nG cG, .slice O nO cO] 25) (.cells #[.int .i64 0, .int .i64 0] 29)
  simp only [World.size_alloc] at hyf
  obtain ⟨w0, hW⟩ : ∃ W, W = ((w).alloc (.cells #[.int .i64 T.facts, .slice I nI cI, .slice G nG cG, .slice O nO cO] 25)).alloc (.cells #[.int .i64 0, .int .i64 0] 29) := ⟨_, rfl⟩
  rw [← hW] at hyt hyf hbW ⊢
  replace Hbl := hide (Hbl.out.trans (hbW.mono Hbl.out.size))
  have Ht := hide hyt
  have Hf := hide hyf
  clear hW hbW hyt hyf
  generalize w.heap.size = gT at Ht Hf s_0 ⊢
  have t0 := Ht.out.cell 0
  have t1 := Ht.out.cell 1
  have t2 := Ht.out.cell 2
  have t3 := Ht.out.cell 3
  have tl := Ht.out.lt
  have f0 := Hf.out.cell 0
  have f1 := Hf.out.cell 1
  have fl := Hf.out.lt
  simp only [List.getElem?_cons_zero, List.getElem?_cons_succ] at t0 t1 t2 t3 f0 f1
  have a_t : B0 ≤ gT := by omega
  have a_f : B0 ≤ gT + 1 := by omega
  clear s_0
  have n_t_f : ¬ gT = gT + 1 := by omega
  have n_f_t : ¬ gT + 1 = gT := by omega
  go_wp2_with fail
  with_reducible refine (Hck.out w0 (H.out.keep Hbl.out)).mono ?_
  rintro e w1 ⟨hb, hor⟩
  have Hb01 := hide hb
  clear t0 t1 t2 t3 f0 f1 tl fl
  replace Ht := hide (Ht.out.keep hb)
  replace Hf := hide (Hf.out.keep hb)
  replace Hbl := hide (Hbl.out.trans (hb.mono Hbl.out.size))
  clear hb
  have t0 := Ht.out.cell 0
  have t1 := Ht.out.cell 1
  have t2 := Ht.out.cell 2
  have t3 := Ht.out.cell 3
  have tl := Ht.out.lt
  have f0 := Hf.out.cell 0
  have f1 := Hf.out.cell 1
  have fl := Hf.out.lt
  simp only [List.getElem?_cons_zero, List.getElem?_cons_succ] at t0 t1 t2 t3 f0 f1
  rcases hor with ⟨h1, rfl⟩ | ⟨h1, hmany, rfl⟩ | ⟨h1, g, A, c, L, rfl, hgl, hgh, hW, hrow, hlist⟩
  · skip
    skip
    unfold fault
    go_upto_region 2 with (fail)
    have n_t_p : ¬ gT = w1.heap.size := by omega
    have n_p_t : ¬ w1.heap.size = gT := by omega
    have n_f_p : ¬ gT + 1 = w1.heap.size := by omega
    have n_p_f : ¬ w1.heap.size = gT + 1 := by omega
    have s_t : gT < w1.heap.size := tl
    have s_f : gT + 1 < w1.heap.size := fl
    have s_0 : B0 ≤ w1.heap.size := Nat.le_trans (Nat.le_of_eq HB0.out) Hbl.out.size
    have hyp := Blk.new (w1) 29 [.int .i64 ec, .int .i64 ei]
    have hbW : Below (w1).heap.size (w1) ((w1).alloc (.cells #[.int .i64 ec, .int .i64 ei] 29)) := (Below.refl _ _).alloc (Nat.le_refl _) _
    obtain ⟨w2, hW⟩ : ∃ W, W = (w1).alloc (.cells #[.int .i64 ec, .int .i64 ei] 29) := ⟨_, rfl⟩
    rw [← hW] at hyp hbW ⊢
    replace Ht := hide (Ht.out.keep hbW)
    replace Hf := hide (Hf.out.keep hbW)
    replace Hbl := hide (Hbl.out.trans (hbW.mono Hbl.out.size))
    have Hp := hide hyp
    clear hW hbW hyp
    generalize w1.heap.size = gp at Hp n_t_p n_p_t n_f_p n_p_f s_t s_f s_0 ⊢
    have t0 := Ht.out.cell 0
    have t1 := Ht.out.cell 1
    have t2 := Ht.out.cell 2
    have t3 := Ht.out.cell 3
    have tl := Ht.out.lt
    have f0 := Hf.out.cell 0
    have f1 := Hf.out.cell 1
    have fl := Hf.out.lt
    have p0 := Hp.out.cell 0
    have p1 := Hp.out.cell 1
    have pl := Hp.out.lt
    simp only [List.getElem?_cons_zero, List.getElem?_cons_succ] at t0 t1 t2 t3 f0 f1 p0 p1
    clear s_t
    clear s_f
    have a_p : B0 ≤ gp := by omega
    clear s_0
    have ff0 := Hf.out.frozen 0
    have ff1 := Hf.out.frozen 1
    go_upto_region 3 with (fail)
    go_region
    all_goals go_wp2_with fail
    all_goals refine bodyPost_ret (v := .tuple #[.int .i64 0, fault ec ei]) (by simp [results, Try.results24, go_sem, fault, f0, f1, fl]) rfl ?_
    have hbx := HB0.out
    refine ⟨?_, .inl ⟨by rw [Hq.out]; exact h1, by rw [Hq.out]⟩⟩
    repeat' (first | (with_reducible exact Hbl.out) | (with_reducible refine Below.drew ?_) | (with_reducible refine below_setL ?_ ?_ _ _) | (with_reducible refine below_drewN ?_ _) | omega)
  · skip
    have Hmany := hide hmany
    clear hmany
    unfold fault
    go_upto_region 2 with (fail)
    have n_t_p : ¬ gT = w1.heap.size := by omega
    have n_p_t : ¬ w1.heap.size = gT := by omega
    have n_f_p : ¬ gT + 1 = w1.heap.size := by omega
    have n_p_f : ¬ w1.heap.size = gT + 1 := by omega
    have s_t : gT < w1.heap.size := tl
    have s_f : gT + 1 < w1.heap.size := fl
    have s_0 : B0 ≤ w1.heap.size := Nat.le_trans (Nat.le_of_eq HB0.out) Hbl.out.size
    have hyp := Blk.new (w1) 29 [.int .i64 10, .int .i64 (-7)]
    have hbW : Below (w1).heap.size (w1) ((w1).alloc (.cells #[.int .i64 10, .int .i64 (-7)] 29)) := (Below.refl _ _).alloc (Nat.le_refl _) _
    obtain ⟨w2, hW⟩ : ∃ W, W = (w1).alloc (.cells #[.int .i64 10, .int .i64 (-7)] 29) := ⟨_, rfl⟩
    rw [← hW] at hyp hbW ⊢
    replace Ht := hide (Ht.out.keep hbW)
    replace Hf := hide (Hf.out.keep hbW)
    replace Hbl := hide (Hbl.out.trans (hbW.mono Hbl.out.size))
    have Hp := hide hyp
    clear hW hbW hyp
    generalize w1.heap.size = gp at Hp n_t_p n_p_t n_f_p n_p_f s_t s_f s_0 ⊢
    have t0 := Ht.out.cell 0
    have t1 := Ht.out.cell 1
    have t2 := Ht.out.cell 2
    have t3 := Ht.out.cell 3
    have tl := Ht.out.lt
    have f0 := Hf.out.cell 0
    have f1 := Hf.out.cell 1
    have fl := Hf.out.lt
    have p0 := Hp.out.cell 0
    have p1 := Hp.out.cell 1
    have pl := Hp.out.lt
    simp only [List.getElem?_cons_zero, List.getElem?_cons_succ] at t0 t1 t2 t3 f0 f1 p0 p1
    clear s_t
    clear s_f
    have a_p : B0 ≤ gp := by omega
    clear s_0
    have ff0 := Hf.out.frozen 0
    have ff1 := Hf.out.frozen 1
    go_upto_region 3 with (fail)
    go_region
    all_goals go_wp2_with fail
    all_goals refine bodyPost_ret (v := .tuple #[.int .i64 0, fault 10 (-7)]) (by simp [results, Try.results24, go_sem, fault, f0, f1, fl]) rfl ?_
    have hbx := HB0.out
    refine ⟨?_, .inr (.inl ⟨by rw [Hq.out]; exact h1, Hmany.out, rfl⟩)⟩
    repeat' (first | (with_reducible exact Hbl.out) | (with_reducible refine Below.drew ?_) | (with_reducible refine below_setL ?_ ?_ _ _) | (with_reducible refine below_drewN ?_ _) | omega)
  · skip
    skip
    have HW := hide (hW w1 (Chg.refl _ _))
    have Hrow := hide hrow
    have Hlist := hide hlist
    clear hW hrow hlist
    unfold fault
    go_upto_region 2 with (fail)
    have n_t_p : ¬ gT = w1.heap.size := by omega
    have n_p_t : ¬ w1.heap.size = gT := by omega
    have n_f_p : ¬ gT + 1 = w1.heap.size := by omega
    have n_p_f : ¬ w1.heap.size = gT + 1 := by omega
    have s_t : gT < w1.heap.size := tl
    have s_f : gT + 1 < w1.heap.size := fl
    have s_0 : B0 ≤ w1.heap.size := Nat.le_trans (Nat.le_of_eq HB0.out) Hbl.out.size
    have hyp := Blk.new (w1) 29 [.int .i64 0, .int .i64 0]
    have hbW : Below (w1).heap.size (w1) ((w1).alloc (.cells #[.int .i64 0, .int .i64 0] 29)) := (Below.refl _ _).alloc (Nat.le_refl _) _
    obtain ⟨w2, hW⟩ : ∃ W, W = (w1).alloc (.cells #[.int .i64 0, .int .i64 0] 29) := ⟨_, rfl⟩
    rw [← hW] at hyp hbW ⊢
    replace Ht := hide (Ht.out.keep hbW)
    replace Hf := hide (Hf.out.keep hbW)
    replace HW := hide (HW.out.keep hbW)
    replace Hrow := hide (Hrow.out.keep hbW)
    replace Hbl := hide (Hbl.out.trans (hbW.mono Hbl.out.size))
    have Hp := hide hyp
    clear hW hbW hyp
    generalize w1.heap.size = gp at Hp n_t_p n_p_t n_f_p n_p_f s_t s_f s_0 ⊢
    have t0 := Ht.out.cell 0
    have t1 := Ht.out.cell 1
    have t2 := Ht.out.cell 2
    have t3 := Ht.out.cell 3
    have tl := Ht.out.lt
    have f0 := Hf.out.cell 0
    have f1 := Hf.out.cell 1
    have fl := Hf.out.lt
    have p0 := Hp.out.cell 0
    have p1 := Hp.out.cell 1
    have pl := Hp.out.lt
    simp only [List.getElem?_cons_zero, List.getElem?_cons_succ] at t0 t1 t2 t3 f0 f1 p0 p1
    clear s_t
    clear s_f
    have a_p : B0 ≤ gp := by omega
    clear s_0
    have hst := fun W hW => Start_ct g _ _ _ W (HW.out.keep hW)
    have hs0 := HW.out.start
    have hcs := Costs_ct g _ _ _ A L.length c L w2 HW.out Hrow.out.rd Hlist.out.all.once Hlist.out.few
    have hin : wordF T.init ∈ L := (Hlist.out.all.mem _).2 .start
    have Hcs := hide hcs
    have Hst := hide hst
    have Hin := hide hin
    obtain ⟨q, hq⟩ : ∃ q, q = L.length := ⟨_, rfl⟩
    rw [← hq] at Hcs ⊢
    clear hcs hst hin hq
    go_wp2_with fail
    with_reducible refine Hcs.out.mono ?_
    rintro e w3 ⟨hb, ob, f, rfl, hob, hmap, hleast⟩
    have Hb23 := hide hb
    clear t0 t1 t2 t3 f0 f1 p0 p1 tl fl pl
    replace Ht := hide (Ht.out.keep hb)
    replace Hf := hide (Hf.out.keep hb)
    replace Hp := hide (Hp.out.keep hb)
    replace Hbl := hide (Hbl.out.trans (hb.mono Hbl.out.size))
    clear hb
    have t0 := Ht.out.cell 0
    have t1 := Ht.out.cell 1
    have t2 := Ht.out.cell 2
    have t3 := Ht.out.cell 3
    have tl := Ht.out.lt
    have f0 := Hf.out.cell 0
    have f1 := Hf.out.cell 1
    have fl := Hf.out.lt
    have p0 := Hp.out.cell 0
    have p1 := Hp.out.cell 1
    have pl := Hp.out.lt
    simp only [List.getElem?_cons_zero, List.getElem?_cons_succ] at t0 t1 t2 t3 f0 f1 p0 p1
    have hz3 : ∀ w : World, (zeroValue 3).run Try.prog w = .ok (.int .i64 0) w := fun w => by kernel_rfl
    have hlook := hmap.look1 (int_keyed Try.underlying75) (T := 72) (E := 3) Try.underlying72 hz3 (keyW Try.underlying75 hs0) w3 rfl
    rw [outM_in Hin.out] at hlook
    unfold encW at hlook
    have hst3 := Hst.out w3 Hb23.out
    have Hleast := hide hleast
    obtain ⟨s0, hs0e⟩ : ∃ x, x = wordF T.init := ⟨_, rfl⟩
    rw [← hs0e] at hst3 hlook
    obtain ⟨v, hv⟩ : ∃ v, v = f s0 := ⟨_, rfl⟩
    rw [← hv] at hlook
    have Hv := hide hv
    have Hs0 := hide hs0e
    have Hst3 := hide hst3
    clear hmap hleast hst3 hv hs0e hz3
    have ff0 := Hf.out.frozen 0
    have ff1 := Hf.out.frozen 1
    go_wp2_with fail
    with_reducible refine Hst3.out.mono ?_
    rintro e w4 ⟨rfl, rfl⟩
    go_wp2_with fail
    refine bodyPost_ret (v := .tuple #[.int .i64 v, fault 0 0]) (by simp [results, Try.results24, go_sem, fault, f0, f1, fl]) rfl ?_
    have hbx := HB0.out
    refine ⟨?_, .inr (.inr ⟨by rw [Hq.out]; exact h1, L, f, ⟨Hlist.out, Hleast.out⟩, by rw [Hv.out, Hs0.out]⟩)⟩
    repeat' (first | (with_reducible exact Hbl.out) | (with_reducible refine Below.drew ?_) | (with_reducible refine below_setL ?_ ?_ _ _) | (with_reducible refine below_drewN ?_ _) | omega)
end Go.Proofs.Ytliggcmohcdchaa
namespace Go.Proofs.Ytliggcmohcdchaa
set_option linter.unusedVariables false
open Go.RowKit
theorem many_list {T : Tsk} {l : List Nat} (h : TooMany T) (hl : ListOf T l) : False := by
  obtain ⟨m, h1, h2, h3⟩ := h
  have h4 := hl.all.few h1 h2
  have h5 := hl.few
  omega
theorem CostsOf.set {T : Tsk} {N : Nat} (hok : OkT T N) {l : List Nat} {f : Nat → Int} (h : CostsOf T l f) {s : Nat} (hs : s ∈ l) : setB N (factsF s) = true ∧ wordF (factsF s) = s := by
  obtain ⟨st, h1, rfl⟩ := reach_set hok ((h.list.all.mem s).1 hs)
  have hN := hok.low
  rw [facts_word (by omega) h1]
  exact ⟨h1, rfl⟩
theorem CostsOf.next {T : Tsk} {l : List Nat} {f : Nat → Int} (h : CostsOf T l f) {s t : Nat} {c : Int} (hs : s ∈ l) (ha : arcW (T.ops.map mkOp) s t c) : t ∈ l := (h.list.all.mem t).2 (.step ((h.list.all.mem s).1 hs) (step_arc.2 ⟨c, ha⟩))
theorem CostsOf.same {T : Tsk} {N : Nat} (hok : OkT T N) {l l' : List Nat} {f f' : Nat → Int} (h : CostsOf T l f) (h' : CostsOf T l' f') : ∀ s ∈ l, f s = f' s := by
  have he : (fun x => x ∈ l) = (fun x => x ∈ l') := funext fun x => propext ((h.list.all.mem x).trans (h'.list.all.mem x).symm)
  have hl := h.least
  have hl' := h'.least
  rw [← he] at hl'
  exact fun s hs => hl.uniq hl' (fun s t c ha => (arc_cost hok ha).1) (fun s t c hs ha => h.next hs ha) s hs
theorem CostsOf.init {T : Tsk} {l : List Nat} {f : Nat → Int} (h : CostsOf T l f) : wordF T.init ∈ l := (h.list.all.mem _).2 .start
end Go.Proofs.Ytliggcmohcdchaa
namespace Go.Proofs.Ytliggcmohcdchaa
set_option linter.unusedVariables false
open Go.RowKit
/-- T' does what T does, by operators of T or by sequences of them -/
structure Macro (T T' : Tsk) (N : Nat) : Prop where
  ok : OkT T N
  ok' : OkT T' N
  init : T'.init = T.init
  goal : T'.goal = T.goal
  sub : ∀ o ∈ T.ops, o ∈ T'.ops
  seq : ∀ o ∈ T'.ops, ∃ os : List Opr, (∀ p ∈ os, p ∈ T.ops) ∧ (os.map Opr.cost).sum = o.cost ∧ ∀ s, setB N s = true → subsetB o.pre s = true → execO s os = some (updF s o.add o.del)
theorem extend_macro {T : Tsk} {ms : List (List Int)} (h : (extendR T ms).2.1 = 0) : ∃ N, Macro T (extendR T ms).1 N := by
  obtain ⟨⟨N, hok⟩, h1, h2, os', e1, e2, e3⟩ := extend_ops h
  have hok' := extend_okt hok h
  refine ⟨N, hok, hok', by rw [e2], by rw [e2], fun o ho => by rw [e2]; exact List.mem_append_left _ ho, fun o ho => ?_⟩
  rw [e2] at ho
  rcases List.mem_append.1 ho with ho | ho
  · refine ⟨[o], fun p hp => by obtain rfl := List.mem_singleton.1 hp; exact ho, by simp, fun s hs hp => ?_⟩
    show (if subsetB o.pre s = true then execO (updF s o.add o.del) [] else none) = _
    rw [if_pos hp]
    rfl
  · obtain ⟨j, hj⟩ := List.getElem?_of_mem ho
    have hjl : j < ms.length := by rw [← e1]; exact (List.getElem?_eq_some_iff.1 hj).1
    obtain ⟨o2, g1, g2, g3, _, _, g4⟩ := e3 j ms[j] (List.getElem?_eq_getElem hjl)
    obtain rfl := Option.some.inj (hj.symm.trans g1)
    have hmem : ∀ p ∈ (ms[j]).map (opAt T.ops), p ∈ T.ops := fun p hp => by
      obtain ⟨x, hx, rfl⟩ := List.mem_map.1 hp
      exact opAt_mem (g4 x hx).1 (g4 x hx).2
    have hokp : ∀ p ∈ (ms[j]).map (opAt T.ops), OkOp N p := fun p hp => hok.ops p (hmem p hp)
    have hc : (((ms[j]).map (opAt T.ops)).map Opr.cost).sum = o.cost := ((comb_state (s := []) hokp List.Pairwise.nil).2 o g2).2.2.1.symm
    refine ⟨_, hmem, hc, fun s hs hp => ?_⟩
    obtain ⟨_, _, _, h5⟩ := (comb_state hokp (setB_iff.1 hs).1).2 o g2
    rw [h5, if_pos hp]
theorem exec_reach {T : Tsk} {N : Nat} (hok : OkT T N) : ∀ (os : List Opr) (s r : List Int), (∀ o ∈ os, o ∈ T.ops) → setB N s = true → execO s os = some r → Reach (stepW (T.ops.map mkOp)) (wordF T.init) (wordF s) → Reach (stepW (T.ops.map mkOp)) (wordF T.init) (wordF r) := by
  intro os
  induction os with
  | nil => intro s r _ _ he h; obtain rfl : s = r := by simpa [execO] using he
           exact h
  | cons o os ih =>
    intro s r ho hs he h
    have hm := ho o List.mem_cons_self
    unfold execO at he
    split at he
    · rename_i hp
      exact ih _ r (fun p hp => ho p (List.mem_cons_of_mem _ hp)) (upd_setB hs (hok.ops o hm)) he (.step h (step_arc.2 ⟨_, (arc_iff hok hs).2 ⟨o, hm, hp, rfl, rfl⟩⟩))
    · cases he
theorem exec_wayT {T : Tsk} {N : Nat} (hok : OkT T N) : ∀ (os : List Opr) (s r : List Int) (n : Int), (∀ o ∈ os, o ∈ T.ops) → setB N s = true → execO s os = some r → Way (arcW (T.ops.map mkOp)) (goalW (wordF T.goal)) (wordF r) n → Way (arcW (T.ops.map mkOp)) (goalW (wordF T.goal)) (wordF s) (n + (os.map Opr.cost).sum) := by
  intro os
  induction os with
  | nil => intro s r n _ _ he h; obtain rfl : s = r := by simpa [execO] using he
           simpa using h
  | cons o os ih =>
    intro s r n ho hs he h
    have hm := ho o List.mem_cons_self
    unfold execO at he
    split at he
    · rename_i hp
      have h1 := ih _ r n (fun p hp => ho p (List.mem_cons_of_mem _ hp)) (upd_setB hs (hok.ops o hm)) he h
      have h2 := Way.step ((arc_iff hok hs).2 ⟨o, hm, hp, rfl, rfl⟩) h1
      have e : n + ((o :: os).map Opr.cost).sum = n + (os.map Opr.cost).sum + o.cost := by
        rw [List.map_cons, List.sum_cons]; omega
      rw [e]
      exact h2
    · cases he
section
variable {T T' : Tsk} {N : Nat}
theorem Macro.arc (h : Macro T T' N) {s : List Int} (hs : setB N s = true) {t : Nat} {c : Int} (ha : arcW (T.ops.map mkOp) (wordF s) t c) : arcW (T'.ops.map mkOp) (wordF s) t c := by
  obtain ⟨o, ho, h1⟩ := (arc_iff h.ok hs).1 ha
  exact (arc_iff h.ok' hs).2 ⟨o, h.sub o ho, h1⟩
theorem Macro.reach (h : Macro T T' N) {x : Nat} : Reach (stepW (T'.ops.map mkOp)) (wordF T'.init) x ↔ Reach (stepW (T.ops.map mkOp)) (wordF T.init) x := by
  constructor
  · intro hr
    have key : ∀ x, Reach (stepW (T'.ops.map mkOp)) (wordF T'.init) x → Reach (stepW (T.ops.map mkOp)) (wordF T.init) x ∧ ∃ s, setB N s = true ∧ x = wordF s := by
      intro x hx
      induction hx with
      | start => rw [h.init]; exact ⟨.start, T.init, h.ok.init, rfl⟩
      | step hr hs ih =>
        obtain ⟨ih, s, hset, rfl⟩ := ih
        obtain ⟨c, ha⟩ := step_arc.1 hs
        obtain ⟨o, ho, hp, rfl, rfl⟩ := (arc_iff h.ok' hset).1 ha
        obtain ⟨os, h1, _, h2⟩ := h.seq o ho
        exact ⟨exec_reach h.ok os s _ h1 hset (h2 s hset hp) ih, _, upd_setB hset (h.ok'.ops o ho), rfl⟩
    exact (key x hr).1
  · intro hr
    have key : ∀ x, Reach (stepW (T.ops.map mkOp)) (wordF T.init) x → Reach (stepW (T'.ops.map mkOp)) (wordF T'.init) x := by
      intro x hx
      induction hx with
      | start => rw [h.init]; exact .start
      | step hr hs ih =>
        obtain ⟨s, hset, rfl⟩ := reach_set h.ok hr
        obtain ⟨c, ha⟩ := step_arc.1 hs
        exact .step ih (step_arc.2 ⟨c, h.arc hset ha⟩)
    exact key x hr
theorem Macro.many (h : Macro T T' N) : TooMany T' ↔ TooMany T := by
  constructor
  · rintro ⟨m, h1, h2, h3⟩; exact ⟨m, h1, fun x hx => h.reach.1 (h2 x hx), h3⟩
  · rintro ⟨m, h1, h2, h3⟩; exact ⟨m, h1, fun x hx => h.reach.2 (h2 x hx), h3⟩
theorem Macro.way (h : Macro T T' N) {w : Nat} {n : Int} (hw : Way (arcW (T.ops.map mkOp)) (goalW (wordF T.goal)) w n) : ∀ s, setB N s = true → w = wordF s → Way (arcW (T'.ops.map mkOp)) (goalW (wordF T'.goal)) w n := by
  rw [h.goal]
  induction hw with
  | here hg => intro s _ _; exact .here hg
  | step ha _ ih =>
    rintro s hs rfl
    obtain ⟨o, ho, hp, rfl, rfl⟩ := (arc_iff h.ok hs).1 ha
    exact .step (h.arc hs ha) (ih _ (upd_setB hs (h.ok.ops o ho)) rfl)
theorem Macro.back (h : Macro T T' N) {w : Nat} {n : Int} (hw : Way (arcW (T'.ops.map mkOp)) (goalW (wordF T'.goal)) w n) : ∀ s, setB N s = true → w = wordF s → Way (arcW (T.ops.map mkOp)) (goalW (wordF T.goal)) w n := by
  rw [h.goal] at hw
  induction hw with
  | here hg => intro s _ _; exact .here hg
  | step ha _ ih =>
    rintro s hs rfl
    obtain ⟨o, ho, hp, rfl, rfl⟩ := (arc_iff h.ok' hs).1 ha
    have h1 := ih _ (upd_setB hs (h.ok'.ops o ho)) rfl
    obtain ⟨os, h2, h3, h4⟩ := h.seq o ho
    have h5 := exec_wayT h.ok os s _ _ h2 hs (h4 s hs hp) h1
    rw [h3] at h5
    exact h5
theorem Macro.cost (h : Macro T T' N) {l l' : List Nat} {f f' : Nat → Int} (hc : CostsOf T l f) (hc' : CostsOf T' l' f') : f' (wordF T'.init) = f (wordF T.init) := by
  have hi := hc.init
  have hi' := hc'.init
  have a1 := hc.least.high _ hi
  have a2 := hc'.least.high _ hi'
  have b1 : f' (wordF T'.init) ≤ f (wordF T.init) := by
    by_cases hf : f (wordF T.init) < infW
    · have hw := h.way (hc.least.way _ hi hf) T.init h.ok.init rfl
      rw [← h.init] at hw
      have := hc'.least.le (fun s t c ha => (arc_cost h.ok' ha).1) (fun s t c hs ha => hc'.next hs ha) hw hi' (by rw [h.init]; exact hf)
      rw [h.init] at this
      rw [h.init]
      exact this
    · omega
  have b2 : f (wordF T.init) ≤ f' (wordF T'.init) := by
    by_cases hf : f' (wordF T'.init) < infW
    · have hw := h.back (hc'.least.way _ hi' hf) T'.init h.ok'.init rfl
      rw [h.init] at hw hf ⊢
      exact hc.least.le (fun s t c ha => (arc_cost h.ok ha).1) (fun s t c hs ha => hc.next hs ha) hw hi hf
    · omega
  omega
end
end Go.Proofs.Ytliggcmohcdchaa
namespace Go.Proofs.Ytliggcmohcdchaa
set_option linter.unusedVariables false
set_option linter.unusedSimpArgs false
open Go.RowKit
/-- what Optimal answers with macros: the very same -/
theorem opt_same {T : Tsk} {ms : List (List Int)} (h : (extendR T ms).2.1 = 0) {w1 w2 : World} {e1 e2 : Ending} {w1' w2' : World} (h1 : OptP w1 T e1 w1') (h2 : OptP w2 (extendR T ms).1 e2 w2') : e2 = e1 := by
  obtain ⟨N, hm⟩ := extend_macro h
  have t1 := okt_fault hm.ok
  have t2 := okt_fault hm.ok'
  rcases h1.2 with ⟨g, _⟩ | ⟨g, hmany, rfl⟩ | ⟨g, l, f, hc, rfl⟩
  · rw [t1] at g; exact absurd rfl g
  · rcases h2.2 with ⟨g2, _⟩ | ⟨g2, hmany2, rfl⟩ | ⟨g2, l2, f2, hc2, rfl⟩
    · rw [t2] at g2; exact absurd rfl g2
    · rfl
    · exact (many_list (hm.many.2 hmany) hc2.list).elim
  · rcases h2.2 with ⟨g2, _⟩ | ⟨g2, hmany2, rfl⟩ | ⟨g2, l2, f2, hc2, rfl⟩
    · rw [t2] at g2; exact absurd rfl g2
    · exact (many_list (hm.many.1 hmany2) hc.list).elim
    · rw [hm.cost hc hc2]
theorem opt_shape {T : Tsk} {w : World} {e : Ending} {w' : World} (h : OptP w T e w') : ∃ k c i, e = .returned (.tuple #[.int .i64 k, fault c i]) := by
  rcases h.2 with ⟨_, rfl⟩ | ⟨_, _, rfl⟩ | ⟨_, l, f, _, rfl⟩
  · exact ⟨_, _, _, rfl⟩
  · exact ⟨_, _, _, rfl⟩
  · exact ⟨_, _, _, rfl⟩
set_option maxRecDepth 100000 in
set_option maxHeartbeats 12800000 in
theorem keepLaw_ct (T : Tsk) (a : TA) (B : Option Addr) (m d : Nat) (ms : List (List Int)) (w : World) (h : TkR w a T) (hl : Rd (Enc.sl Enc.int) w B m d ms) :
    Calls Try.prog 8 #[.agg #[.int .i64 T.facts, .slice a.I a.nI a.cI, .slice a.G a.nG a.cG, .slice a.O a.nO a.cO], .slice B m d] w (Gives w (.bool true)) := by
  have hex := fun W hT hl => Extend_ct a T B m d ms W hT hl
  have hop := fun W hT => Optimal_ct a T W hT
  obtain ⟨I, nI, cI, G, nG, cG, O, nO, cO⟩ := a
  simp only at hex hop ⊢
  have H := hide h
  have Hl := hide hl
  have Hex := hide hex
  have Hop := hide hop
  clear h hl hex hop
  have Hbl := hide (Below.refl w.heap.size w)
  go_enter Try.func8, Try.ntmps8
  go_upto_region 1 with (fail)
  obtain ⟨B0, hB0⟩ : ∃ B0, B0 = w.heap.size := ⟨_, rfl⟩
  have HB0 := hide hB0
  clear hB0
  have s_0 : B0 ≤ w.heap.size := Nat.le_trans (Nat.le_of_eq HB0.out) Hbl.out.size
  have hyt := Blk.new (w) 25 [.int .i64 T.facts, .slice I nI cI, .slice G nG cG, .slice O nO cO]
  have hbW : Below (w).heap.size (w) ((w).alloc (.cells #[.int .i64 T.facts, .slice I nI cI, .slice G nG cG, .slice O nO cO] 25)) := (Below.refl _ _).alloc (Nat.le_refl _) _
  obtain ⟨w0, hW⟩ : ∃ W, W = (w).alloc (.cells #[.int .i64 T.facts, .slice I nI cI, .slice G nG cG, .slice O nO cO] 25) := ⟨_, rfl⟩
  rw [← hW] at hyt hbW ⊢
  replace Hbl := hide (Hbl.out.trans (hbW.mono Hbl.out.size))
  have Ht := hide hyt
  clear hW hbW hyt
  generalize w.heap.size = gT at Ht s_0 ⊢
  have t0 := Ht.out.cell 0
  have t1 := Ht.out.cell 1
  have t2 := Ht.out.cell 2
  have t3 := Ht.out.cell 3
  have tl := Ht.out.lt
  simp only [List.getElem?_cons_zero, List.getElem?_cons_succ] at t0 t1 t2 t3
  have a_t : B0 ≤ gT := by omega
  clear s_0
  go_wp2_with fail
  with_reducible refine (macrosExample_ct w0).mono ?_
  rintro e w1 ⟨rfl, hb⟩
  clear t0 t1 t2 t3 tl
  replace Ht := hide (Ht.out.keep hb)
  replace Hbl := hide (Hbl.out.trans (hb.mono Hbl.out.size))
  clear hb
  have t0 := Ht.out.cell 0
  have t1 := Ht.out.cell 1
  have t2 := Ht.out.cell 2
  have t3 := Ht.out.cell 3
  have tl := Ht.out.lt
  simp only [List.getElem?_cons_zero, List.getElem?_cons_succ] at t0 t1 t2 t3
  rcases hxr : extendR T ms with ⟨X, xc, xi⟩
  have hct := Hex.out w1 (H.out.keep Hbl.out) (Hl.out.keep Hbl.out)
  rw [hxr] at hct
  have Hxr := hide hxr
  clear hxr
  go_wp2_with fail
  with_reducible refine hct.mono ?_
  rintro e w2 ⟨hb, b, rfl, hx⟩
  have Hx := hide (hx w2 (Chg.refl _ _))
  clear hct hx
  unfold taskV fault
  dsimp only
  clear t0 t1 t2 t3 tl
  replace Ht := hide (Ht.out.keep hb)
  replace Hbl := hide (Hbl.out.trans (hb.mono Hbl.out.size))
  clear hb
  have t0 := Ht.out.cell 0
  have t1 := Ht.out.cell 1
  have t2 := Ht.out.cell 2
  have t3 := Ht.out.cell 3
  have tl := Ht.out.lt
  simp only [List.getElem?_cons_zero, List.getElem?_cons_succ] at t0 t1 t2 t3
  obtain ⟨bI, bnI, bcI, bG, bnG, bcG, bO, bnO, bcO⟩ := b
  simp only at Hx ⊢
  go_upto_region 4 with (fail)
  have s_t : gT < w2.heap.size := tl
  have s_0 : B0 ≤ w2.heap.size := Nat.le_trans (Nat.le_of_eq HB0.out) Hbl.out.size
  have hyxx := Blk.new (w2) 25 [.int .i64 X.facts, .slice bI bnI bcI, .slice bG bnG bcG, .slice bO bnO bcO]
  have hyf := Blk.new ((w2).alloc (.cells #[.int .i64 X.facts, .slice bI bnI bcI, .slice bG bnG bcG, .slice bO bnO bcO] 25)) 29 [.int .i64 xc, .int .i64 xi]
  replace hyxx := hyxx.alloc (.cells #[.int .i64 xc, .int .i64 xi] 29)
  have hbW := below_two w2 (.cells #[.int .i64 X.facts, .slice bI bnI bcI, .slice bG bnG bcG, .slice bO bnO bcO] 25) (.cells #[.int .i64 xc, .int .i64 xi] 29)
  simp only [World.size_alloc] at hyf
  obtain ⟨w3, hW⟩ : ∃ W, W = ((w2).alloc (.cells #[.int .i64 X.facts, .slice bI bnI bcI, .slice bG bnG bcG, .slice bO bnO bcO] 25)).alloc (.cells #[.int .i64 xc, .int .i64 xi] 29) := ⟨_, rfl⟩
  rw [← hW] at hyxx hyf hbW ⊢
  replace Ht := hide (Ht.out.keep hbW)
  replace Hx := hide (Hx.out.keep hbW)
  replace Hbl := hide (Hbl.out.trans (hbW.mono Hbl.out.size))
  have Hxx := hide hyxx
  have Hf := hide hyf
  clear hW hbW hyxx hyf
  generalize w2.heap.size = gx at Hxx Hf s_t s_0 ⊢
  have t0 := Ht.out.cell 0
  have t1 := Ht.out.cell 1
  have t2 := Ht.out.cell 2
  have t3 := Ht.out.cell 3
  have tl := Ht.out.lt
  have xx0 := Hxx.out.cell 0
  have xx1 := Hxx.out.cell 1
  have xx2 := Hxx.out.cell 2
  have xx3 := Hxx.out.cell 3
  have xxl := Hxx.out.lt
  have f0 := Hf.out.cell 0
  have f1 := Hf.out.cell 1
  have fl := Hf.out.lt
  simp only [List.getElem?_cons_zero, List.getElem?_cons_succ] at t0 t1 t2 t3 xx0 xx1 xx2 xx3 f0 f1
  clear s_t
  have a_xx : B0 ≤ gx := by omega
  have a_f : B0 ≤ gx + 1 := by omega
  clear s_0
  have n_xx_f : ¬ gx = gx + 1 := by omega
  have n_f_xx : ¬ gx + 1 = gx := by omega
  go_wp2_with fail
  with_reducible refine (Hop.out w3 (H.out.keep Hbl.out)).mono ?_
  rintro e w4 hopt
  have hb := hopt.1
  obtain ⟨kv, c1, i1, rfl⟩ := opt_shape hopt
  have Hopt := hide hopt
  clear hopt
  unfold fault
  clear t0 t1 t2 t3 xx0 xx1 xx2 xx3 f0 f1 tl xxl fl
  replace Ht := hide (Ht.out.keep hb)
  replace Hxx := hide (Hxx.out.keep hb)
  replace Hf := hide (Hf.out.keep hb)
  replace Hx := hide (Hx.out.keep hb)
  replace Hbl := hide (Hbl.out.trans (hb.mono Hbl.out.size))
  clear hb
  have t0 := Ht.out.cell 0
  have t1 := Ht.out.cell 1
  have t2 := Ht.out.cell 2
  have t3 := Ht.out.cell 3
  have tl := Ht.out.lt
  have xx0 := Hxx.out.cell 0
  have xx1 := Hxx.out.cell 1
  have xx2 := Hxx.out.cell 2
  have xx3 := Hxx.out.cell 3
  have xxl := Hxx.out.lt
  have f0 := Hf.out.cell 0
  have f1 := Hf.out.cell 1
  have fl := Hf.out.lt
  simp only [List.getElem?_cons_zero, List.getElem?_cons_succ] at t0 t1 t2 t3 xx0 xx1 xx2 xx3 f0 f1
  go_upto_region 5 with (fail)
  have s_t : gT < w4.heap.size := tl
  have s_xx : gx < w4.heap.size := xxl
  have s_f : gx + 1 < w4.heap.size := fl
  have s_0 : B0 ≤ w4.heap.size := Nat.le_trans (Nat.le_of_eq HB0.out) Hbl.out.size
  have hyn := Blk.new (w4) 29 [.int .i64 c1, .int .i64 i1]
  have hbW : Below (w4).heap.size (w4) ((w4).alloc (.cells #[.int .i64 c1, .int .i64 i1] 29)) := (Below.refl _ _).alloc (Nat.le_refl _) _
  obtain ⟨w5, hW⟩ : ∃ W, W = (w4).alloc (.cells #[.int .i64 c1, .int .i64 i1] 29) := ⟨_, rfl⟩
  rw [← hW] at hyn hbW ⊢
  replace Ht := hide (Ht.out.keep hbW)
  replace Hxx := hide (Hxx.out.keep hbW)
  replace Hf := hide (Hf.out.keep hbW)
  replace Hx := hide (Hx.out.keep hbW)
  replace Hbl := hide (Hbl.out.trans (hbW.mono Hbl.out.size))
  have Hn := hide hyn
  clear hW hbW hyn
  generalize w4.heap.size = gn at Hn s_t s_xx s_f s_0 ⊢
  have t0 := Ht.out.cell 0
  have t1 := Ht.out.cell 1
  have t2 := Ht.out.cell 2
  have t3 := Ht.out.cell 3
  have tl := Ht.out.lt
  have xx0 := Hxx.out.cell 0
  have xx1 := Hxx.out.cell 1
  have xx2 := Hxx.out.cell 2
  have xx3 := Hxx.out.cell 3
  have xxl := Hxx.out.lt
  have f0 := Hf.out.cell 0
  have f1 := Hf.out.cell 1
  have fl := Hf.out.lt
  have n0 := Hn.out.cell 0
  have n1 := Hn.out.cell 1
  have nl := Hn.out.lt
  simp only [List.getElem?_cons_zero, List.getElem?_cons_succ] at t0 t1 t2 t3 xx0 xx1 xx2 xx3 f0 f1 n0 n1
  clear s_t
  clear s_xx
  clear s_f
  have a_n : B0 ≤ gn := by omega
  clear s_0
  have hop2 := Optimal_ct ⟨bI, bnI, bcI, bG, bnG, bcG, bO, bnO, bcO⟩ X w5 Hx.out
  simp only at hop2
  go_wp2_with fail
  with_reducible refine hop2.mono ?_
  rintro e w6 hopt2
  have hb := hopt2.1
  obtain ⟨kv2, c2, i2, rfl⟩ := opt_shape hopt2
  have hsame : xc = 0 → kv2 = kv ∧ c2 = c1 ∧ i2 = i1 := fun h0 => by
    have h1 : (extendR T ms).2.1 = 0 := by rw [Hxr.out]; exact h0
    have h2 : X = (extendR T ms).1 := by rw [Hxr.out]
    rw [h2] at hopt2
    have h3 := opt_same h1 Hopt.out hopt2
    unfold fault at h3
    injection h3 with h3
    injection h3 with h3
    simp at h3
    exact ⟨h3.1, h3.2.1, h3.2.2⟩
  have Hsame := hide hsame
  clear hop2 hopt2 hsame Hopt
  unfold fault
  clear t0 t1 t2 t3 xx0 xx1 xx2 xx3 f0 f1 n0 n1 tl xxl fl nl
  replace Ht := hide (Ht.out.keep hb)
  replace Hxx := hide (Hxx.out.keep hb)
  replace Hf := hide (Hf.out.keep hb)
  replace Hn := hide (Hn.out.keep hb)
  replace Hx := hide (Hx.out.keep hb)
  replace Hbl := hide (Hbl.out.trans (hb.mono Hbl.out.size))
  clear hb
  have t0 := Ht.out.cell 0
  have t1 := Ht.out.cell 1
  have t2 := Ht.out.cell 2
  have t3 := Ht.out.cell 3
  have tl := Ht.out.lt
  have xx0 := Hxx.out.cell 0
  have xx1 := Hxx.out.cell 1
  have xx2 := Hxx.out.cell 2
  have xx3 := Hxx.out.cell 3
  have xxl := Hxx.out.lt
  have f0 := Hf.out.cell 0
  have f1 := Hf.out.cell 1
  have fl := Hf.out.lt
  have n0 := Hn.out.cell 0
  have n1 := Hn.out.cell 1
  have nl := Hn.out.lt
  simp only [List.getElem?_cons_zero, List.getElem?_cons_succ] at t0 t1 t2 t3 xx0 xx1 xx2 xx3 f0 f1 n0 n1
  go_upto_region 6 with (fail)
  have s_t : gT < w6.heap.size := tl
  have s_xx : gx < w6.heap.size := xxl
  have s_f : gx + 1 < w6.heap.size := fl
  have s_n : gn < w6.heap.size := nl
  have s_0 : B0 ≤ w6.heap.size := Nat.le_trans (Nat.le_of_eq HB0.out) Hbl.out.size
  have hymm := Blk.new (w6) 29 [.int .i64 c2, .int .i64 i2]
  have hbW : Below (w6).heap.size (w6) ((w6).alloc (.cells #[.int .i64 c2, .int .i64 i2] 29)) := (Below.refl _ _).alloc (Nat.le_refl _) _
  obtain ⟨w7, hW⟩ : ∃ W, W = (w6).alloc (.cells #[.int .i64 c2, .int .i64 i2] 29) := ⟨_, rfl⟩
  rw [← hW] at hymm hbW ⊢
  replace Ht := hide (Ht.out.keep hbW)
  replace Hxx := hide (Hxx.out.keep hbW)
  replace Hf := hide (Hf.out.keep hbW)
  replace Hn := hide (Hn.out.keep hbW)
  replace Hx := hide (Hx.out.keep hbW)
  replace Hbl := hide (Hbl.out.trans (hbW.mono Hbl.out.size))
  have Hmm := hide hymm
  clear hW hbW hymm
  generalize w6.heap.size = gm at Hmm s_t s_xx s_f s_n s_0 ⊢
  have t0 := Ht.out.cell 0
  have t1 := Ht.out.cell 1
  have t2 := Ht.out.cell 2
  have t3 := Ht.out.cell 3
  have tl := Ht.out.lt
  have xx0 := Hxx.out.cell 0
  have xx1 := Hxx.out.cell 1
  have xx2 := Hxx.out.cell 2
  have xx3 := Hxx.out.cell 3
  have xxl := Hxx.out.lt
  have f0 := Hf.out.cell 0
  have f1 := Hf.out.cell 1
  have fl := Hf.out.lt
  have n0 := Hn.out.cell 0
  have n1 := Hn.out.cell 1
  have nl := Hn.out.lt
  have mm0 := Hmm.out.cell 0
  have mm1 := Hmm.out.cell 1
  have mml := Hmm.out.lt
  simp only [List.getElem?_cons_zero, List.getElem?_cons_succ] at t0 t1 t2 t3 xx0 xx1 xx2 xx3 f0 f1 n0 n1 mm0 mm1
  clear s_t
  clear s_xx
  clear s_f
  clear s_n
  have a_mm : B0 ≤ gm := by omega
  clear s_0
  by_cases hx0 : xc = 0
  · obtain ⟨e1, e2, e3⟩ := Hsame.out hx0
    subst hx0 e1 e2 e3
    go_wp2_with fail
    all_goals go_ret
    all_goals exact ⟨ret_bool (by simp), Hbl.out⟩
  · have hne : (xc != 0) = true := by simpa using hx0
    go_wp2_with fail
    go_ret
    exact ⟨ret_bool (by simp), Hbl.out⟩
end Go.Proofs.Ytliggcmohcdchaa
