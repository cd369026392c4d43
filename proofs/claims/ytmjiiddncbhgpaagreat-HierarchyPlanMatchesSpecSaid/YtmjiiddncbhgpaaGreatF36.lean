/- The law HierarchyPlanMatchesSpec of the package hierarchy holds, without a condition., part 36: La39. -/
import Derived.Test.YtmjiiddncbhgpaaGreatF1
import Derived.Test.YtmjiiddncbhgpaaGreatF2
import Derived.Test.YtmjiiddncbhgpaaGreatF3
import Derived.Test.YtmjiiddncbhgpaaGreatF4
import Derived.Test.YtmjiiddncbhgpaaGreatF5
import Derived.Test.YtmjiiddncbhgpaaGreatF6
import Derived.Test.YtmjiiddncbhgpaaGreatF7
import Derived.Test.YtmjiiddncbhgpaaGreatF8
import Derived.Test.YtmjiiddncbhgpaaGreatF9
import Derived.Test.YtmjiiddncbhgpaaGreatF10
import Derived.Test.YtmjiiddncbhgpaaGreatF11
import Derived.Test.YtmjiiddncbhgpaaGreatF12
import Derived.Test.YtmjiiddncbhgpaaGreatF13
import Derived.Test.YtmjiiddncbhgpaaGreatF14
import Derived.Test.YtmjiiddncbhgpaaGreatF15
import Derived.Test.YtmjiiddncbhgpaaGreatF16
import Derived.Test.YtmjiiddncbhgpaaGreatF17
import Derived.Test.YtmjiiddncbhgpaaGreatF18
import Derived.Test.YtmjiiddncbhgpaaGreatF19
import Derived.Test.YtmjiiddncbhgpaaGreatF20
import Derived.Test.YtmjiiddncbhgpaaGreatF21
import Derived.Test.YtmjiiddncbhgpaaGreatF22
import Derived.Test.YtmjiiddncbhgpaaGreatF23
import Derived.Test.YtmjiiddncbhgpaaGreatF24
import Derived.Test.YtmjiiddncbhgpaaGreatF25
import Derived.Test.YtmjiiddncbhgpaaGreatF26
import Derived.Test.YtmjiiddncbhgpaaGreatF27
import Derived.Test.YtmjiiddncbhgpaaGreatF28
import Derived.Test.YtmjiiddncbhgpaaGreatF29
import Derived.Test.YtmjiiddncbhgpaaGreatF30
import Derived.Test.YtmjiiddncbhgpaaGreatF31
import Derived.Test.YtmjiiddncbhgpaaGreatF32
import Derived.Test.YtmjiiddncbhgpaaGreatF33
import Derived.Test.YtmjiiddncbhgpaaGreatF34
import Derived.Test.YtmjiiddncbhgpaaGreatF35
import Derived.BigQuiet
import Derived.BigRegionIn
import Derived.ChangeOld
import Derived.Deep.AppendLies
import Derived.Deep.DeepCutAuto
import Derived.Deep.Draws
import Derived.Deep.Fields
import Derived.Deep.LoopGhost
import Derived.Deep.QuietTactic
import Derived.Deep.RegionHeld3
import Derived.Deep.Slices
import Derived.DeepKeys4
import Derived.Ground.Names2Prog
import Derived.Ground.SlgnProg
import Derived.Ground.SlsfProg
import Derived.IntWalk
import Derived.Laws.AppendOwnNone
import Derived.Laws.BitsAllLaws
import Derived.Laws.OwnMore
import Derived.Laws.StructEq
import Derived.Lib.Hide
import Derived.Lib.SlicesCompact
import Derived.LoopIn
import Derived.LoopNIn
import Derived.Maps.AppendAt
import Derived.Maps.OwnIn
import Derived.Maps.OwnOps
import Derived.Maps.OwnSet
import Derived.OpenShut
import Derived.OrdersHeld
import Derived.OrdersIn
import Derived.OwnWalkIn
import Derived.ProofKit
import Derived.RangeFuncBound
import Derived.RangeFuncCalls
import Derived.RangeFuncKeeps
import Derived.RangeFuncLeaves
import Derived.RangeFuncNested
import Derived.Shelf.Abstract
import Derived.Shelf.RegionOpen
import Derived.Shelf.SlSortCmp.Whole1
import Derived.Shelf.Slices.Cells
import Derived.Shelf.Slices.Clone
import Derived.Shelf.Slices.CompactI
import Derived.Shelf.Slices.Empties
import Derived.Shelf.Slices.In.SortNone
import Derived.Shelf.Slices.SearchI
import Derived.Shelf.Sort.Plain
import Derived.Sort.CutIn
import Derived.Sort.OwnSortedInts
import Derived.StillTail
import Derived.StillTailTactics
import Derived.TacticsInMore
import Derived.Test.YtmjiiddncbhgpaaGreatProg
import Derived.Test.YtmjiiddncbhgpaaGreatRows
import Derived.WalkKit
import Derived.WideKeyEntry
namespace Go.Proofs.YtmjiiddncbhgpaaGreat
set_option linter.unusedVariables false
set_option linter.unusedSimpArgs false
open Go.RowKit
theorem field39 (x : Int) (y : Value) (w : World) : (Instr.field 29 (.agg #[.int .i64 x, y]) 0).run Tryz.prog w = .ok (.int .i64 x) w := by kernel_rfl
theorem plan_fine39 {T : Tsk} {N : Nat} (hT : OkT T N) {l : List Int} (h60 : l.length ≤ 60) (hr : ∀ x ∈ l, 0 ≤ x ∧ x < T.ops.length) : planFault T l = (0, 0) := by
  unfold planFault
  rw [if_neg (by rw [okt_fault hT]; simp)]
  unfold stepsFault
  rw [if_neg (by omega), if_neg (fun e => by
    obtain ⟨x, hx, e2⟩ := List.any_eq_true.1 e
    have := hr x hx
    unfold outB at e2
    simp only [Bool.or_eq_true, decide_eq_true_eq] at e2
    omega)]
theorem reach_short {T : Tsk} {N : Nat} (hok : OkT T N) {L : List Nat} (hL : ListOf T L) (h64 : L.length ≤ 64) : ∃ l, refReach T = some l ∧ l.length ≤ 64 := by
  cases hr : refReach T with
  | none =>
    have := many_not_all (reach_none hok hr) hL.all
    omega
  | some l =>
    obtain ⟨h1, h2, h3⟩ := reach_some hok hr
    have := h1.len hL.all
    rw [List.length_map] at this
    exact ⟨l, rfl, by omega⟩
theorem reach_long {T : Tsk} {N : Nat} (hok : OkT T N) (h : TooMany T ∨ ∃ L, ListOf T L ∧ 64 < L.length) {l : List (List Int)} (hr : refReach T = some l) : 64 < l.length := by
  obtain ⟨h1, h2, h3⟩ := reach_some hok hr
  rcases h with h | ⟨L, hL, h64⟩
  · have := many_not_all h h1
    rw [List.length_map] at this
    omega
  · have := h1.len hL.all
    rw [List.length_map] at this
    omega
theorem planR_A {h : Hy} {lim fc fi : Int} {l : List Int} {ok : Bool} (hp : PlanR h lim l ok fc fi) (hec : (hierFault h).1 ≠ 0) : (fc, fi) = hierFault h ∧ ok = false ∧ l = [] := by
  rcases hp with ⟨_, a2, a3, a4⟩ | ⟨a1, _⟩ | ⟨a1, _⟩ | ⟨a1, _⟩
  · exact ⟨a2, a3, a4⟩
  all_goals exact absurd a1 hec
theorem planR_B {h : Hy} {lim fc fi : Int} {l : List Int} {ok : Bool} (hp : PlanR h lim l ok fc fi) (hec : (hierFault h).1 = 0) (hl : ¬ (0 ≤ lim ∧ lim ≤ 8)) : fc = 3 ∧ fi = -8 ∧ ok = false ∧ l = [] := by
  rcases hp with ⟨a1, _⟩ | ⟨_, _, a1, a2, a3, a4⟩ | ⟨_, a1, _⟩ | ⟨_, a1, _⟩
  · exact absurd hec a1
  · exact ⟨a1, a2, a3, a4⟩
  all_goals exact absurd a1 hl
theorem planR_C {h : Hy} {lim fc fi : Int} {l : List Int} {ok : Bool} (hp : PlanR h lim l ok fc fi) (hec : (hierFault h).1 = 0) (hl : 0 ≤ lim ∧ lim ≤ 8) :
    ((TooMany h.T ∨ ∃ L, ListOf h.T L ∧ 64 < L.length) ∧ fc = 10 ∧ fi = -7 ∧ ok = false ∧ l = []) ∨ ((∃ L, ListOf h.T L ∧ L.length ≤ 64) ∧ fc = 0 ∧ fi = 0 ∧ ((ok = true ∧ GoodP h l ∧ (l.length : Int) ≤ lim ∧ ∀ p, GoodP h p → l.length ≤ p.length) ∨ (ok = false ∧ l = [] ∧ ∀ p, GoodP h p → lim < p.length))) := by
  rcases hp with ⟨a1, _⟩ | ⟨_, a1, _⟩ | ⟨_, _, a1, a2, a3, a4, a5⟩ | ⟨_, _, a1, a2, a3, a4⟩
  · exact absurd hec a1
  · omega
  · exact .inl ⟨a1, a2, a3, a4, a5⟩
  · exact .inr ⟨a1, a2, a3, a4⟩
/-- the reference's least length is the found plan's -/
theorem refR_yes {h : Hy} {m : Nat} {R : Int} {l : List Int} (hr : RefR h m R) (hg : GoodP h l) (hl : (l.length : Int) ≤ m) (hm : ∀ p, GoodP h p → l.length ≤ p.length) : R = (l.length : Int) := by
  rcases hr with ⟨_, a2⟩ | ⟨a1, a2, ⟨p, hp, a3⟩, a4⟩
  · have := a2 l hg; omega
  · have h1 := hm p hp
    have h2 := a4 l hg
    omega
theorem refR_no {h : Hy} {m : Nat} {R : Int} (hr : RefR h m R) (hm : ∀ p, GoodP h p → (m : Int) < p.length) : R = -1 := by
  rcases hr with ⟨a1, _⟩ | ⟨a1, a2, ⟨p, hp, a3⟩, a4⟩
  · exact a1
  · have := hm p hp; omega
set_option maxRecDepth 100000 in
set_option maxHeartbeats 25600000 in
theorem planMA (h : Hy) (b : HA) (lim : Int) (w : World) (hl1 : -9223372036854775808 ≤ lim) (hl2 : lim ≤ 9223372036854775807) (hh : HyR w b h) (hec : (hierFault h).1 ≠ 0) :
    Calls Tryz.prog 5 #[.agg #[.int .i64 h.T.facts, .slice b.a.I b.a.nI b.a.cI, .slice b.a.G b.a.nG b.a.cG, .slice b.a.O b.a.nO b.a.cO, .int .i64 h.tasks, .slice b.M b.nM b.cM, .slice b.L b.nL b.cL], .int .i64 lim] w (Gives w (.bool true)) := by
  have hpl := fun W hW => HierPlan_ct b h lim W (by omega) (by omega) hW
  have hrf := fun W hW => RHierFault_ct b h W hW
  obtain ⟨⟨I, nI, cI, G, nG, cG, O, nO, cO⟩, M, nM, cM, L, nL, cL⟩ := b
  simp only at hpl hrf ⊢
  rcases hq : hierFault h with ⟨ec, ei⟩
  rw [hq] at hec hrf
  simp only at hec
  have Hq := hide hq
  clear hq
  have H := hide hh
  replace hpl := hide hpl
  replace hrf := hide hrf
  clear hh
  have Hbl := hide (Below.refl w.heap.size w)
  go_enter Tryz.func5, Tryz.ntmps5
  go_upto_region 1 with (fail)
  obtain ⟨B0, hB0⟩ : ∃ B0, B0 = w.heap.size := ⟨_, rfl⟩
  have HB0 := hide hB0
  clear hB0
  have s_0 : B0 ≤ w.heap.size := Nat.le_trans (Nat.le_of_eq HB0.out) Hbl.out.size
  have hyh_ := Blk.new (w) 50 [.int .i64 h.T.facts, .slice I nI cI, .slice G nG cG, .slice O nO cO, .int .i64 h.tasks, .slice M nM cM, .slice L nL cL]
  have hbW : Below (w).heap.size (w) ((w).alloc (.cells #[.int .i64 h.T.facts, .slice I nI cI, .slice G nG cG, .slice O nO cO, .int .i64 h.tasks, .slice M nM cM, .slice L nL cL] 50)) := (Below.refl _ _).alloc (Nat.le_refl _) _
  obtain ⟨w0, hW⟩ : ∃ W, W = (w).alloc (.cells #[.int .i64 h.T.facts, .slice I nI cI, .slice G nG cG, .slice O nO cO, .int .i64 h.tasks, .slice M nM cM, .slice L nL cL] 50) := ⟨_, rfl⟩
  rw [← hW] at hyh_ hbW ⊢
  replace Hbl := hide (Hbl.out.trans (hbW.mono Hbl.out.size))
  have Hh_ := hide hyh_
  clear hW hbW hyh_
  generalize w.heap.size = gH at Hh_ s_0 ⊢
  have h_0 := Hh_.out.cell 0
  have h_1 := Hh_.out.cell 1
  have h_2 := Hh_.out.cell 2
  have h_3 := Hh_.out.cell 3
  have h_4 := Hh_.out.cell 4
  have h_5 := Hh_.out.cell 5
  have h_6 := Hh_.out.cell 6
  have h_l := Hh_.out.lt
  simp only [List.getElem?_cons_zero, List.getElem?_cons_succ] at h_0 h_1 h_2 h_3 h_4 h_5 h_6
  have a_h_ : B0 ≤ gH := by omega
  clear s_0
  go_wp2_with fail
  with_reducible refine (hierExample_ct w0).mono ?_
  rintro e w1 ⟨rfl, hb⟩
  clear h_0 h_1 h_2 h_3 h_4 h_5 h_6 h_l
  replace Hh_ := hide (Hh_.out.keep hb)
  replace Hbl := hide (Hbl.out.trans (hb.mono Hbl.out.size))
  clear hb
  have h_0 := Hh_.out.cell 0
  have h_1 := Hh_.out.cell 1
  have h_2 := Hh_.out.cell 2
  have h_3 := Hh_.out.cell 3
  have h_4 := Hh_.out.cell 4
  have h_5 := Hh_.out.cell 5
  have h_6 := Hh_.out.cell 6
  have h_l := Hh_.out.lt
  simp only [List.getElem?_cons_zero, List.getElem?_cons_succ] at h_0 h_1 h_2 h_3 h_4 h_5 h_6
  go_wp2_with fail
  with_reducible refine (hpl.out w1 (H.out.keep Hbl.out)).mono ?_
  rintro e w2 ⟨hb, Op, np, cp, l, ok, fc, fi, rfl, hrow, hpr⟩
  have hl := hrow.rd
  have hln := hrow.len
  clear hrow
  unfold fault
  clear h_0 h_1 h_2 h_3 h_4 h_5 h_6 h_l
  replace Hh_ := hide (Hh_.out.keep hb)
  replace Hbl := hide (Hbl.out.trans (hb.mono Hbl.out.size))
  clear hb
  have h_0 := Hh_.out.cell 0
  have h_1 := Hh_.out.cell 1
  have h_2 := Hh_.out.cell 2
  have h_3 := Hh_.out.cell 3
  have h_4 := Hh_.out.cell 4
  have h_5 := Hh_.out.cell 5
  have h_6 := Hh_.out.cell 6
  have h_l := Hh_.out.lt
  simp only [List.getElem?_cons_zero, List.getElem?_cons_succ] at h_0 h_1 h_2 h_3 h_4 h_5 h_6
  obtain ⟨a1, rfl, rfl⟩ := planR_A hpr (by rw [Hq.out]; exact hec)
  rw [Hq.out] at a1
  obtain ⟨rfl, rfl⟩ := Prod.mk.inj a1
  obtain rfl : np = 0 := by simpa using hln.symm
  clear a1 hpr hln hl
  go_upto_region 4 with (fail)
  have n_h__f : ¬ gH = w2.heap.size := by omega
  have n_f_h_ : ¬ w2.heap.size = gH := by omega
  have s_h_ : gH < w2.heap.size := h_l
  have s_0 : B0 ≤ w2.heap.size := Nat.le_trans (Nat.le_of_eq HB0.out) Hbl.out.size
  have hyf := Blk.new (w2) 29 [.int .i64 fc, .int .i64 fi]
  have hbW : Below (w2).heap.size (w2) ((w2).alloc (.cells #[.int .i64 fc, .int .i64 fi] 29)) := (Below.refl _ _).alloc (Nat.le_refl _) _
  obtain ⟨w3, hW⟩ : ∃ W, W = (w2).alloc (.cells #[.int .i64 fc, .int .i64 fi] 29) := ⟨_, rfl⟩
  rw [← hW] at hyf hbW ⊢
  replace Hh_ := hide (Hh_.out.keep hbW)
  replace Hbl := hide (Hbl.out.trans (hbW.mono Hbl.out.size))
  have Hf := hide hyf
  clear hW hbW hyf
  generalize w2.heap.size = gf at Hf n_h__f n_f_h_ s_h_ s_0 ⊢
  have h_0 := Hh_.out.cell 0
  have h_1 := Hh_.out.cell 1
  have h_2 := Hh_.out.cell 2
  have h_3 := Hh_.out.cell 3
  have h_4 := Hh_.out.cell 4
  have h_5 := Hh_.out.cell 5
  have h_6 := Hh_.out.cell 6
  have h_l := Hh_.out.lt
  have f0 := Hf.out.cell 0
  have f1 := Hf.out.cell 1
  have fl := Hf.out.lt
  simp only [List.getElem?_cons_zero, List.getElem?_cons_succ] at h_0 h_1 h_2 h_3 h_4 h_5 h_6 f0 f1
  clear s_h_
  have a_f : B0 ≤ gf := by omega
  clear s_0
  go_wp2_with fail
  with_reducible refine (hrf.out w3 (H.out.keep Hbl.out)).mono ?_
  rintro e w4 ⟨rfl, hb⟩
  clear h_0 h_1 h_2 h_3 h_4 h_5 h_6 f0 f1 h_l fl
  replace Hh_ := hide (Hh_.out.keep hb)
  replace Hf := hide (Hf.out.keep hb)
  replace Hbl := hide (Hbl.out.trans (hb.mono Hbl.out.size))
  clear hb
  unfold fault
  simp only
  have h_0 := Hh_.out.cell 0
  have h_1 := Hh_.out.cell 1
  have h_2 := Hh_.out.cell 2
  have h_3 := Hh_.out.cell 3
  have h_4 := Hh_.out.cell 4
  have h_5 := Hh_.out.cell 5
  have h_6 := Hh_.out.cell 6
  have h_l := Hh_.out.lt
  have f0 := Hf.out.cell 0
  have f1 := Hf.out.cell 1
  have fl := Hf.out.lt
  simp only [List.getElem?_cons_zero, List.getElem?_cons_succ] at h_0 h_1 h_2 h_3 h_4 h_5 h_6 f0 f1
  go_upto_region 5 with (fail)
  have n_h__v : ¬ gH = w4.heap.size := by omega
  have n_v_h_ : ¬ w4.heap.size = gH := by omega
  have n_f_v : ¬ gf = w4.heap.size := by omega
  have n_v_f : ¬ w4.heap.size = gf := by omega
  have s_h_ : gH < w4.heap.size := h_l
  have s_f : gf < w4.heap.size := fl
  have s_0 : B0 ≤ w4.heap.size := Nat.le_trans (Nat.le_of_eq HB0.out) Hbl.out.size
  have hyv := Blk.new (w4) 29 [.int .i64 fc, .int .i64 fi]
  have hbW : Below (w4).heap.size (w4) ((w4).alloc (.cells #[.int .i64 fc, .int .i64 fi] 29)) := (Below.refl _ _).alloc (Nat.le_refl _) _
  obtain ⟨w5, hW⟩ : ∃ W, W = (w4).alloc (.cells #[.int .i64 fc, .int .i64 fi] 29) := ⟨_, rfl⟩
  rw [← hW] at hyv hbW ⊢
  replace Hh_ := hide (Hh_.out.keep hbW)
  replace Hf := hide (Hf.out.keep hbW)
  replace Hbl := hide (Hbl.out.trans (hbW.mono Hbl.out.size))
  have Hv := hide hyv
  clear hW hbW hyv
  generalize w4.heap.size = gv at Hv n_h__v n_v_h_ n_f_v n_v_f s_h_ s_f s_0 ⊢
  have h_0 := Hh_.out.cell 0
  have h_1 := Hh_.out.cell 1
  have h_2 := Hh_.out.cell 2
  have h_3 := Hh_.out.cell 3
  have h_4 := Hh_.out.cell 4
  have h_5 := Hh_.out.cell 5
  have h_6 := Hh_.out.cell 6
  have h_l := Hh_.out.lt
  have f0 := Hf.out.cell 0
  have f1 := Hf.out.cell 1
  have fl := Hf.out.lt
  have v0 := Hv.out.cell 0
  have v1 := Hv.out.cell 1
  have vl := Hv.out.lt
  simp only [List.getElem?_cons_zero, List.getElem?_cons_succ] at h_0 h_1 h_2 h_3 h_4 h_5 h_6 f0 f1 v0 v1
  clear s_h_
  clear s_f
  have a_v : B0 ≤ gv := by omega
  clear s_0
  have hne : (fc != 0) = true := by simpa using hec
  have hne2 : (fc == 0) = false := by simpa using hec
  go_wp2_with fail
  all_goals go_ret
  all_goals exact ⟨ret_bool (by simp), Hbl.out⟩
set_option maxRecDepth 100000 in
set_option maxHeartbeats 25600000 in
theorem planMB (h : Hy) (b : HA) (lim : Int) (w : World) (hl1 : -9223372036854775808 ≤ lim) (hl2 : lim ≤ 9223372036854775807) (hh : HyR w b h) (hz : hierFault h = (0, 0)) (hlim : ¬ (0 ≤ lim ∧ lim ≤ 8)) :
    Calls Tryz.prog 5 #[.agg #[.int .i64 h.T.facts, .slice b.a.I b.a.nI b.a.cI, .slice b.a.G b.a.nG b.a.cG, .slice b.a.O b.a.nO b.a.cO, .int .i64 h.tasks, .slice b.M b.nM b.cM, .slice b.L b.nL b.cL], .int .i64 lim] w (Gives w (.bool true)) := by
  have hpl := fun W hW => HierPlan_ct b h lim W (by omega) (by omega) hW
  have hrf := fun W hW => RHierFault_ct b h W hW
  obtain ⟨⟨I, nI, cI, G, nG, cG, O, nO, cO⟩, M, nM, cM, L, nL, cL⟩ := b
  simp only at hpl hrf ⊢
  rw [hz] at hrf
  have H := hide hh
  replace hpl := hide hpl
  replace hrf := hide hrf
  clear hh
  have Hbl := hide (Below.refl w.heap.size w)
  go_enter Tryz.func5, Tryz.ntmps5
  go_upto_region 1 with (fail)
  obtain ⟨B0, hB0⟩ : ∃ B0, B0 = w.heap.size := ⟨_, rfl⟩
  have HB0 := hide hB0
  clear hB0
  have s_0 : B0 ≤ w.heap.size := Nat.le_trans (Nat.le_of_eq HB0.out) Hbl.out.size
  have hyh_ := Blk.new (w) 50 [.int .i64 h.T.facts, .slice I nI cI, .slice G nG cG, .slice O nO cO, .int .i64 h.tasks, .slice M nM cM, .slice L nL cL]
  have hbW : Below (w).heap.size (w) ((w).alloc (.cells #[.int .i64 h.T.facts, .slice I nI cI, .slice G nG cG, .slice O nO cO, .int .i64 h.tasks, .slice M nM cM, .slice L nL cL] 50)) := (Below.refl _ _).alloc (Nat.le_refl _) _
  obtain ⟨w0, hW⟩ : ∃ W, W = (w).alloc (.cells #[.int .i64 h.T.facts, .slice I nI cI, .slice G nG cG, .slice O nO cO, .int .i64 h.tasks, .slice M nM cM, .slice L nL cL] 50) := ⟨_, rfl⟩
  rw [← hW] at hyh_ hbW ⊢
  replace Hbl := hide (Hbl.out.trans (hbW.mono Hbl.out.size))
  have Hh_ := hide hyh_
  clear hW hbW hyh_
  generalize w.heap.size = gH at Hh_ s_0 ⊢
  have h_0 := Hh_.out.cell 0
  have h_1 := Hh_.out.cell 1
  have h_2 := Hh_.out.cell 2
  have h_3 := Hh_.out.cell 3
  have h_4 := Hh_.out.cell 4
  have h_5 := Hh_.out.cell 5
  have h_6 := Hh_.out.cell 6
  have h_l := Hh_.out.lt
  simp only [List.getElem?_cons_zero, List.getElem?_cons_succ] at h_0 h_1 h_2 h_3 h_4 h_5 h_6
  have a_h_ : B0 ≤ gH := by omega
  clear s_0
  go_wp2_with fail
  with_reducible refine (hierExample_ct w0).mono ?_
  rintro e w1 ⟨rfl, hb⟩
  clear h_0 h_1 h_2 h_3 h_4 h_5 h_6 h_l
  replace Hh_ := hide (Hh_.out.keep hb)
  replace Hbl := hide (Hbl.out.trans (hb.mono Hbl.out.size))
  clear hb
  have h_0 := Hh_.out.cell 0
  have h_1 := Hh_.out.cell 1
  have h_2 := Hh_.out.cell 2
  have h_3 := Hh_.out.cell 3
  have h_4 := Hh_.out.cell 4
  have h_5 := Hh_.out.cell 5
  have h_6 := Hh_.out.cell 6
  have h_l := Hh_.out.lt
  simp only [List.getElem?_cons_zero, List.getElem?_cons_succ] at h_0 h_1 h_2 h_3 h_4 h_5 h_6
  go_wp2_with fail
  with_reducible refine (hpl.out w1 (H.out.keep Hbl.out)).mono ?_
  rintro e w2 ⟨hb, Op, np, cp, l, ok, fc, fi, rfl, hrow, hpr⟩
  have hl := hrow.rd
  have hln := hrow.len
  clear hrow
  unfold fault
  clear h_0 h_1 h_2 h_3 h_4 h_5 h_6 h_l
  replace Hh_ := hide (Hh_.out.keep hb)
  replace Hbl := hide (Hbl.out.trans (hb.mono Hbl.out.size))
  clear hb
  have h_0 := Hh_.out.cell 0
  have h_1 := Hh_.out.cell 1
  have h_2 := Hh_.out.cell 2
  have h_3 := Hh_.out.cell 3
  have h_4 := Hh_.out.cell 4
  have h_5 := Hh_.out.cell 5
  have h_6 := Hh_.out.cell 6
  have h_l := Hh_.out.lt
  simp only [List.getElem?_cons_zero, List.getElem?_cons_succ] at h_0 h_1 h_2 h_3 h_4 h_5 h_6
  obtain ⟨rfl, rfl, rfl, rfl⟩ := planR_B hpr (by rw [hz]) hlim
  obtain rfl : np = 0 := by simpa using hln.symm
  have hin : inB lim 0 8 = false := by rw [inB_no]; omega
  have Hin := hide hin
  clear hpr hln hl hin hlim
  go_upto_region 4 with (fail)
  have n_h__f : ¬ gH = w2.heap.size := by omega
  have n_f_h_ : ¬ w2.heap.size = gH := by omega
  have s_h_ : gH < w2.heap.size := h_l
  have s_0 : B0 ≤ w2.heap.size := Nat.le_trans (Nat.le_of_eq HB0.out) Hbl.out.size
  have hyf := Blk.new (w2) 29 [.int .i64 3, .int .i64 (-8)]
  have hbW : Below (w2).heap.size (w2) ((w2).alloc (.cells #[.int .i64 3, .int .i64 (-8)] 29)) := (Below.refl _ _).alloc (Nat.le_refl _) _
  obtain ⟨w3, hW⟩ : ∃ W, W = (w2).alloc (.cells #[.int .i64 3, .int .i64 (-8)] 29) := ⟨_, rfl⟩
  rw [← hW] at hyf hbW ⊢
  replace Hh_ := hide (Hh_.out.keep hbW)
  replace Hbl := hide (Hbl.out.trans (hbW.mono Hbl.out.size))
  have Hf := hide hyf
  clear hW hbW hyf
  generalize w2.heap.size = gf at Hf n_h__f n_f_h_ s_h_ s_0 ⊢
  have h_0 := Hh_.out.cell 0
  have h_1 := Hh_.out.cell 1
  have h_2 := Hh_.out.cell 2
  have h_3 := Hh_.out.cell 3
  have h_4 := Hh_.out.cell 4
  have h_5 := Hh_.out.cell 5
  have h_6 := Hh_.out.cell 6
  have h_l := Hh_.out.lt
  have f0 := Hf.out.cell 0
  have f1 := Hf.out.cell 1
  have fl := Hf.out.lt
  simp only [List.getElem?_cons_zero, List.getElem?_cons_succ] at h_0 h_1 h_2 h_3 h_4 h_5 h_6 f0 f1
  clear s_h_
  have a_f : B0 ≤ gf := by omega
  clear s_0
  go_wp2_with fail
  with_reducible refine (hrf.out w3 (H.out.keep Hbl.out)).mono ?_
  rintro e w4 ⟨rfl, hb⟩
  clear h_0 h_1 h_2 h_3 h_4 h_5 h_6 f0 f1 h_l fl
  replace Hh_ := hide (Hh_.out.keep hb)
  replace Hf := hide (Hf.out.keep hb)
  replace Hbl := hide (Hbl.out.trans (hb.mono Hbl.out.size))
  clear hb
  unfold fault
  simp only
  have h_0 := Hh_.out.cell 0
  have h_1 := Hh_.out.cell 1
  have h_2 := Hh_.out.cell 2
  have h_3 := Hh_.out.cell 3
  have h_4 := Hh_.out.cell 4
  have h_5 := Hh_.out.cell 5
  have h_6 := Hh_.out.cell 6
  have h_l := Hh_.out.lt
  have f0 := Hf.out.cell 0
  have f1 := Hf.out.cell 1
  have fl := Hf.out.lt
  simp only [List.getElem?_cons_zero, List.getElem?_cons_succ] at h_0 h_1 h_2 h_3 h_4 h_5 h_6 f0 f1
  go_upto_region 5 with (fail)
  have n_h__v : ¬ gH = w4.heap.size := by omega
  have n_v_h_ : ¬ w4.heap.size = gH := by omega
  have n_f_v : ¬ gf = w4.heap.size := by omega
  have n_v_f : ¬ w4.heap.size = gf := by omega
  have s_h_ : gH < w4.heap.size := h_l
  have s_f : gf < w4.heap.size := fl
  have s_0 : B0 ≤ w4.heap.size := Nat.le_trans (Nat.le_of_eq HB0.out) Hbl.out.size
  have hyv := Blk.new (w4) 29 [.int .i64 0, .int .i64 0]
  have hbW : Below (w4).heap.size (w4) ((w4).alloc (.cells #[.int .i64 0, .int .i64 0] 29)) := (Below.refl _ _).alloc (Nat.le_refl _) _
  obtain ⟨w5, hW⟩ : ∃ W, W = (w4).alloc (.cells #[.int .i64 0, .int .i64 0] 29) := ⟨_, rfl⟩
  rw [← hW] at hyv hbW ⊢
  replace Hh_ := hide (Hh_.out.keep hbW)
  replace Hf := hide (Hf.out.keep hbW)
  replace Hbl := hide (Hbl.out.trans (hbW.mono Hbl.out.size))
  have Hv := hide hyv
  clear hW hbW hyv
  generalize w4.heap.size = gv at Hv n_h__v n_v_h_ n_f_v n_v_f s_h_ s_f s_0 ⊢
  have h_0 := Hh_.out.cell 0
  have h_1 := Hh_.out.cell 1
  have h_2 := Hh_.out.cell 2
  have h_3 := Hh_.out.cell 3
  have h_4 := Hh_.out.cell 4
  have h_5 := Hh_.out.cell 5
  have h_6 := Hh_.out.cell 6
  have h_l := Hh_.out.lt
  have f0 := Hf.out.cell 0
  have f1 := Hf.out.cell 1
  have fl := Hf.out.lt
  have v0 := Hv.out.cell 0
  have v1 := Hv.out.cell 1
  have vl := Hv.out.lt
  simp only [List.getElem?_cons_zero, List.getElem?_cons_succ] at h_0 h_1 h_2 h_3 h_4 h_5 h_6 f0 f1 v0 v1
  clear s_h_
  clear s_f
  have a_v : B0 ≤ gv := by omega
  clear s_0
  go_wp2_with fail
  with_reducible refine (In_ct lim 0 8 w5).mono ?_
  rintro e w6 ⟨rfl, rfl⟩
  rw [Hin.out]
  go_wp2_with fail
  with_reducible refine (At_ct 3 (-8) _).mono ?_
  rintro e w6 ⟨rfl, hb⟩
  clear h_0 h_1 h_2 h_3 h_4 h_5 h_6 f0 f1 v0 v1 h_l fl vl
  replace Hh_ := hide (Hh_.out.keep hb)
  replace Hf := hide (Hf.out.keep hb)
  replace Hv := hide (Hv.out.keep hb)
  replace Hbl := hide (Hbl.out.trans (hb.mono Hbl.out.size))
  clear hb
  unfold fault
  have h_0 := Hh_.out.cell 0
  have h_1 := Hh_.out.cell 1
  have h_2 := Hh_.out.cell 2
  have h_3 := Hh_.out.cell 3
  have h_4 := Hh_.out.cell 4
  have h_5 := Hh_.out.cell 5
  have h_6 := Hh_.out.cell 6
  have h_l := Hh_.out.lt
  have f0 := Hf.out.cell 0
  have f1 := Hf.out.cell 1
  have fl := Hf.out.lt
  have v0 := Hv.out.cell 0
  have v1 := Hv.out.cell 1
  have vl := Hv.out.lt
  simp only [List.getElem?_cons_zero, List.getElem?_cons_succ] at h_0 h_1 h_2 h_3 h_4 h_5 h_6 f0 f1 v0 v1
  have vf0 := Hv.out.frozen 0
  have vf1 := Hv.out.frozen 1
  go_upto_region 7 with (fail)
  clear vf0 vf1
  have hyb := ((Hv.out.set 0 (.int .i64 3)).set 1 (.int .i64 (-8)))
  simp only [List.set_cons_zero, List.set_cons_succ] at hyb
  have hbW := (below_set ((below_set (Below.refl B0 w6) (g := gv) a_v 0 (.int .i64 3))) (g := gv) a_v 1 (.int .i64 (-8)))
  have hcW := ((Chg.refl (fun x => x = gv) w6).trans (Chg.set _ (gv) 0 (.int .i64 3))).trans (Chg.set _ (gv) 1 (.int .i64 (-8)))
  obtain ⟨w7, hW⟩ : ∃ W, W = ((w6).setCell ⟨gv, 0, none⟩ (.int .i64 3)).setCell ⟨gv, 1, none⟩ (.int .i64 (-8)) := ⟨_, rfl⟩
  rw [← hW] at hyb hbW hcW ⊢
  replace Hv := hide hyb
  clear hW hyb
  clear h_0 h_1 h_2 h_3 h_4 h_5 h_6 f0 f1 v0 v1 h_l fl vl
  replace Hh_ := hide (hcW.blk Hh_.out (by exact n_h__v))
  replace Hf := hide (hcW.blk Hf.out (by exact n_f_v))
  replace Hbl := hide (Hbl.out.trans (hbW.mono (Nat.le_of_eq HB0.out.symm)))
  clear hbW hcW
  have h_0 := Hh_.out.cell 0
  have h_1 := Hh_.out.cell 1
  have h_2 := Hh_.out.cell 2
  have h_3 := Hh_.out.cell 3
  have h_4 := Hh_.out.cell 4
  have h_5 := Hh_.out.cell 5
  have h_6 := Hh_.out.cell 6
  have h_l := Hh_.out.lt
  have f0 := Hf.out.cell 0
  have f1 := Hf.out.cell 1
  have fl := Hf.out.lt
  have v0 := Hv.out.cell 0
  have v1 := Hv.out.cell 1
  have vl := Hv.out.lt
  simp only [List.getElem?_cons_zero, List.getElem?_cons_succ] at h_0 h_1 h_2 h_3 h_4 h_5 h_6 f0 f1 v0 v1
  go_wp2_with fail
  all_goals go_ret
  all_goals exact ⟨ret_bool (by simp), Hbl.out⟩
set_option maxRecDepth 100000 in
set_option maxHeartbeats 25600000 in
theorem planMC (h : Hy) (b : HA) (m : Nat) (w : World) (N KK : Nat) (hok : OkH h N KK) (hm : m ≤ 8) (hh : HyR w b h) (hz : hierFault h = (0, 0)) :
    Calls Tryz.prog 5 #[.agg #[.int .i64 h.T.facts, .slice b.a.I b.a.nI b.a.cI, .slice b.a.G b.a.nG b.a.cG, .slice b.a.O b.a.nO b.a.cO, .int .i64 h.tasks, .slice b.M b.nM b.cM, .slice b.L b.nL b.cL], .int .i64 (m : Int)] w (Gives w (.bool true)) := by
  have hpl := fun W hW => HierPlan_ct b h (m : Int) W (by omega) (by omega) hW
  have hrf := fun W hW => RHierFault_ct b h W hW
  have hrc := fun W hT => Reached_ct b.a h.T N W hT hok.task
  have hpf := fun B m d l W hT hl => RPlanFault_ct b.a h.T B m d l W hT hl
  have hso := fun B m d l W hT hl hr => RSolves_ct b.a h.T N B m d l W hT hok.task hl hr
  have hre := fun A n c l W hW hl hn hx => Refines_ct b h N KK hok A n c l W hW hl hn hx
  have hrd := fun W hW hf => Refined_ct b h N KK hok m W hW hm hf
  have hol := hh.task.ops.len
  obtain ⟨⟨I, nI, cI, G, nG, cG, O, nO, cO⟩, M, nM, cM, L, nL, cL⟩ := b
  simp only at hpl hrf hrc hpf hso hre hrd hol ⊢
  rw [hz] at hrf
  have H := hide hh
  replace hpl := hide hpl
  replace hrf := hide hrf
  clear hh
  have hfw := hok.task.few
  have Hok := hide hok
  replace hrc := hide hrc
  replace hpf := hide hpf
  replace hso := hide hso
  replace hre := hide hre
  replace hrd := hide hrd
  have Hol := hide hol
  have hoi : (nO : Int) = (nO : Int) := rfl
  clear hok hol hoi
  have Hbl := hide (Below.refl w.heap.size w)
  go_enter Tryz.func5, Tryz.ntmps5
  go_upto_region 1 with (fail)
  obtain ⟨B0, hB0⟩ : ∃ B0, B0 = w.heap.size := ⟨_, rfl⟩
  have HB0 := hide hB0
  clear hB0
  have s_0 : B0 ≤ w.heap.size := Nat.le_trans (Nat.le_of_eq HB0.out) Hbl.out.size
  have hyh_ := Blk.new (w) 50 [.int .i64 h.T.facts, .slice I nI cI, .slice G nG cG, .slice O nO cO, .int .i64 h.tasks, .slice M nM cM, .slice L nL cL]
  have hbW : Below (w).heap.size (w) ((w).alloc (.cells #[.int .i64 h.T.facts, .slice I nI cI, .slice G nG cG, .slice O nO cO, .int .i64 h.tasks, .slice M nM cM, .slice L nL cL] 50)) := (Below.refl _ _).alloc (Nat.le_refl _) _
  obtain ⟨w0, hW⟩ : ∃ W, W = (w).alloc (.cells #[.int .i64 h.T.facts, .slice I nI cI, .slice G nG cG, .slice O nO cO, .int .i64 h.tasks, .slice M nM cM, .slice L nL cL] 50) := ⟨_, rfl⟩
  rw [← hW] at hyh_ hbW ⊢
  replace Hbl := hide (Hbl.out.trans (hbW.mono Hbl.out.size))
  have Hh_ := hide hyh_
  clear hW hbW hyh_
  generalize w.heap.size = gH at Hh_ s_0 ⊢
  have h_0 := Hh_.out.cell 0
  have h_1 := Hh_.out.cell 1
  have h_2 := Hh_.out.cell 2
  have h_3 := Hh_.out.cell 3
  have h_4 := Hh_.out.cell 4
  have h_5 := Hh_.out.cell 5
  have h_6 := Hh_.out.cell 6
  have h_l := Hh_.out.lt
  simp only [List.getElem?_cons_zero, List.getElem?_cons_succ] at h_0 h_1 h_2 h_3 h_4 h_5 h_6
  have a_h_ : B0 ≤ gH := by omega
  clear s_0
  go_wp2_with fail
  with_reducible refine (hierExample_ct w0).mono ?_
  rintro e w1 ⟨rfl, hb⟩
  clear h_0 h_1 h_2 h_3 h_4 h_5 h_6 h_l
  replace Hh_ := hide (Hh_.out.keep hb)
  replace Hbl := hide (Hbl.out.trans (hb.mono Hbl.out.size))
  clear hb
  have h_0 := Hh_.out.cell 0
  have h_1 := Hh_.out.cell 1
  have h_2 := Hh_.out.cell 2
  have h_3 := Hh_.out.cell 3
  have h_4 := Hh_.out.cell 4
  have h_5 := Hh_.out.cell 5
  have h_6 := Hh_.out.cell 6
  have h_l := Hh_.out.lt
  simp only [List.getElem?_cons_zero, List.getElem?_cons_succ] at h_0 h_1 h_2 h_3 h_4 h_5 h_6
  go_wp2_with fail
  with_reducible refine (hpl.out w1 (H.out.keep Hbl.out)).mono ?_
  rintro e w2 ⟨hb, Op, np, cp, l, ok, fc, fi, rfl, hrow, hpr⟩
  have hl := hrow.rd
  have hln := hrow.len
  clear hrow
  unfold fault
  clear h_0 h_1 h_2 h_3 h_4 h_5 h_6 h_l
  replace Hh_ := hide (Hh_.out.keep hb)
  replace Hbl := hide (Hbl.out.trans (hb.mono Hbl.out.size))
  clear hb
  have h_0 := Hh_.out.cell 0
  have h_1 := Hh_.out.cell 1
  have h_2 := Hh_.out.cell 2
  have h_3 := Hh_.out.cell 3
  have h_4 := Hh_.out.cell 4
  have h_5 := Hh_.out.cell 5
  have h_6 := Hh_.out.cell 6
  have h_l := Hh_.out.lt
  simp only [List.getElem?_cons_zero, List.getElem?_cons_succ] at h_0 h_1 h_2 h_3 h_4 h_5 h_6
  have hin : inB (m : Int) 0 8 = true := by rw [inB_iff]; omega
  have Hin := hide hin
  clear hin
  rcases planR_C hpr (by rw [hz]) (by omega) with ⟨hbig, rfl, rfl, rfl, rfl⟩ | ⟨⟨LL, hLL, hL64⟩, rfl, rfl, hp2⟩
  · skip
    obtain rfl : np = 0 := by simpa using hln.symm
    have Hlong := hide (fun lr hr => reach_long Hok.out.task hbig (l := lr) hr)
    clear hbig hln hl hpr
    go_upto_region 4 with (fail)
    have n_h__f : ¬ gH = w2.heap.size := by omega
    have n_f_h_ : ¬ w2.heap.size = gH := by omega
    have s_h_ : gH < w2.heap.size := h_l
    have s_0 : B0 ≤ w2.heap.size := Nat.le_trans (Nat.le_of_eq HB0.out) Hbl.out.size
    have hyf := Blk.new (w2) 29 [.int .i64 10, .int .i64 (-7)]
    have hbW : Below (w2).heap.size (w2) ((w2).alloc (.cells #[.int .i64 10, .int .i64 (-7)] 29)) := (Below.refl _ _).alloc (Nat.le_refl _) _
    obtain ⟨w3, hW⟩ : ∃ W, W = (w2).alloc (.cells #[.int .i64 10, .int .i64 (-7)] 29) := ⟨_, rfl⟩
    rw [← hW] at hyf hbW ⊢
    replace Hh_ := hide (Hh_.out.keep hbW)
    replace Hbl := hide (Hbl.out.trans (hbW.mono Hbl.out.size))
    have Hf := hide hyf
    clear hW hbW hyf
    generalize w2.heap.size = gf at Hf n_h__f n_f_h_ s_h_ s_0 ⊢
    have h_0 := Hh_.out.cell 0
    have h_1 := Hh_.out.cell 1
    have h_2 := Hh_.out.cell 2
    have h_3 := Hh_.out.cell 3
    have h_4 := Hh_.out.cell 4
    have h_5 := Hh_.out.cell 5
    have h_6 := Hh_.out.cell 6
    have h_l := Hh_.out.lt
    have f0 := Hf.out.cell 0
    have f1 := Hf.out.cell 1
    have fl := Hf.out.lt
    simp only [List.getElem?_cons_zero, List.getElem?_cons_succ] at h_0 h_1 h_2 h_3 h_4 h_5 h_6 f0 f1
    clear s_h_
    have a_f : B0 ≤ gf := by omega
    clear s_0
    go_wp2_with fail
    with_reducible refine (hrf.out w3 (H.out.keep Hbl.out)).mono ?_
    rintro e w4 ⟨rfl, hb⟩
    clear h_0 h_1 h_2 h_3 h_4 h_5 h_6 f0 f1 h_l fl
    replace Hh_ := hide (Hh_.out.keep hb)
    replace Hf := hide (Hf.out.keep hb)
    replace Hbl := hide (Hbl.out.trans (hb.mono Hbl.out.size))
    clear hb
    unfold fault
    simp only
    have h_0 := Hh_.out.cell 0
    have h_1 := Hh_.out.cell 1
    have h_2 := Hh_.out.cell 2
    have h_3 := Hh_.out.cell 3
    have h_4 := Hh_.out.cell 4
    have h_5 := Hh_.out.cell 5
    have h_6 := Hh_.out.cell 6
    have h_l := Hh_.out.lt
    have f0 := Hf.out.cell 0
    have f1 := Hf.out.cell 1
    have fl := Hf.out.lt
    simp only [List.getElem?_cons_zero, List.getElem?_cons_succ] at h_0 h_1 h_2 h_3 h_4 h_5 h_6 f0 f1
    go_upto_region 5 with (fail)
    have n_h__v : ¬ gH = w4.heap.size := by omega
    have n_v_h_ : ¬ w4.heap.size = gH := by omega
    have n_f_v : ¬ gf = w4.heap.size := by omega
    have n_v_f : ¬ w4.heap.size = gf := by omega
    have s_h_ : gH < w4.heap.size := h_l
    have s_f : gf < w4.heap.size := fl
    have s_0 : B0 ≤ w4.heap.size := Nat.le_trans (Nat.le_of_eq HB0.out) Hbl.out.size
    have hyv := Blk.new (w4) 29 [.int .i64 0, .int .i64 0]
    have hbW : Below (w4).heap.size (w4) ((w4).alloc (.cells #[.int .i64 0, .int .i64 0] 29)) := (Below.refl _ _).alloc (Nat.le_refl _) _
    obtain ⟨w5, hW⟩ : ∃ W, W = (w4).alloc (.cells #[.int .i64 0, .int .i64 0] 29) := ⟨_, rfl⟩
    rw [← hW] at hyv hbW ⊢
    replace Hh_ := hide (Hh_.out.keep hbW)
    replace Hf := hide (Hf.out.keep hbW)
    replace Hbl := hide (Hbl.out.trans (hbW.mono Hbl.out.size))
    have Hv := hide hyv
    clear hW hbW hyv
    generalize w4.heap.size = gv at Hv n_h__v n_v_h_ n_f_v n_v_f s_h_ s_f s_0 ⊢
    have h_0 := Hh_.out.cell 0
    have h_1 := Hh_.out.cell 1
    have h_2 := Hh_.out.cell 2
    have h_3 := Hh_.out.cell 3
    have h_4 := Hh_.out.cell 4
    have h_5 := Hh_.out.cell 5
    have h_6 := Hh_.out.cell 6
    have h_l := Hh_.out.lt
    have f0 := Hf.out.cell 0
    have f1 := Hf.out.cell 1
    have fl := Hf.out.lt
    have v0 := Hv.out.cell 0
    have v1 := Hv.out.cell 1
    have vl := Hv.out.lt
    simp only [List.getElem?_cons_zero, List.getElem?_cons_succ] at h_0 h_1 h_2 h_3 h_4 h_5 h_6 f0 f1 v0 v1
    clear s_h_
    clear s_f
    have a_v : B0 ≤ gv := by omega
    clear s_0
    go_wp2_with fail
    with_reducible refine (In_ct (m : Int) 0 8 w5).mono ?_
    rintro e w6 ⟨rfl, rfl⟩
    rw [Hin.out]
    go_wp2_with fail
    with_reducible refine (hrc.out _ (H.out.keep Hbl.out).task).mono ?_
    rintro e w6 ⟨hb, hrr⟩
    clear h_0 h_1 h_2 h_3 h_4 h_5 h_6 f0 f1 v0 v1 h_l fl vl
    replace Hh_ := hide (Hh_.out.keep hb)
    replace Hf := hide (Hf.out.keep hb)
    replace Hv := hide (Hv.out.keep hb)
    replace Hbl := hide (Hbl.out.trans (hb.mono Hbl.out.size))
    clear hb
    have h_0 := Hh_.out.cell 0
    have h_1 := Hh_.out.cell 1
    have h_2 := Hh_.out.cell 2
    have h_3 := Hh_.out.cell 3
    have h_4 := Hh_.out.cell 4
    have h_5 := Hh_.out.cell 5
    have h_6 := Hh_.out.cell 6
    have h_l := Hh_.out.lt
    have f0 := Hf.out.cell 0
    have f1 := Hf.out.cell 1
    have fl := Hf.out.lt
    have v0 := Hv.out.cell 0
    have v1 := Hv.out.cell 1
    have vl := Hv.out.lt
    simp only [List.getElem?_cons_zero, List.getElem?_cons_succ] at h_0 h_1 h_2 h_3 h_4 h_5 h_6 f0 f1 v0 v1
    cases hr : refReach h.T with
    | none =>
      rw [hr] at hrr
      subst hrr
      clear hr
      go_wp2_with fail
      with_reducible refine (At_ct 10 (-7) _).mono ?_
      rintro e w7 ⟨rfl, hb⟩
      clear h_0 h_1 h_2 h_3 h_4 h_5 h_6 f0 f1 v0 v1 h_l fl vl
      replace Hh_ := hide (Hh_.out.keep hb)
      replace Hf := hide (Hf.out.keep hb)
      replace Hv := hide (Hv.out.keep hb)
      replace Hbl := hide (Hbl.out.trans (hb.mono Hbl.out.size))
      clear hb
      unfold fault
      have h_0 := Hh_.out.cell 0
      have h_1 := Hh_.out.cell 1
      have h_2 := Hh_.out.cell 2
      have h_3 := Hh_.out.cell 3
      have h_4 := Hh_.out.cell 4
      have h_5 := Hh_.out.cell 5
      have h_6 := Hh_.out.cell 6
      have h_l := Hh_.out.lt
      have f0 := Hf.out.cell 0
      have f1 := Hf.out.cell 1
      have fl := Hf.out.lt
      have v0 := Hv.out.cell 0
      have v1 := Hv.out.cell 1
      have vl := Hv.out.lt
      simp only [List.getElem?_cons_zero, List.getElem?_cons_succ] at h_0 h_1 h_2 h_3 h_4 h_5 h_6 f0 f1 v0 v1
      have vf0 := Hv.out.frozen 0
      have vf1 := Hv.out.frozen 1
      go_upto_region 11 with (fail)
      clear vf0 vf1
      have hyb := ((Hv.out.set 0 (.int .i64 10)).set 1 (.int .i64 (-7)))
      simp only [List.set_cons_zero, List.set_cons_succ] at hyb
      have hbW := (below_set ((below_set (Below.refl B0 w7) (g := gv) a_v 0 (.int .i64 10))) (g := gv) a_v 1 (.int .i64 (-7)))
      have hcW := ((Chg.refl (fun x => x = gv) w7).trans (Chg.set _ (gv) 0 (.int .i64 10))).trans (Chg.set _ (gv) 1 (.int .i64 (-7)))
      obtain ⟨w8, hW⟩ : ∃ W, W = ((w7).setCell ⟨gv, 0, none⟩ (.int .i64 10)).setCell ⟨gv, 1, none⟩ (.int .i64 (-7)) := ⟨_, rfl⟩
      rw [← hW] at hyb hbW hcW ⊢
      replace Hv := hide hyb
      clear hW hyb
      clear h_0 h_1 h_2 h_3 h_4 h_5 h_6 f0 f1 v0 v1 h_l fl vl
      replace Hh_ := hide (hcW.blk Hh_.out (by exact n_h__v))
      replace Hf := hide (hcW.blk Hf.out (by exact n_f_v))
      replace Hbl := hide (Hbl.out.trans (hbW.mono (Nat.le_of_eq HB0.out.symm)))
      clear hbW hcW
      have h_0 := Hh_.out.cell 0
      have h_1 := Hh_.out.cell 1
      have h_2 := Hh_.out.cell 2
      have h_3 := Hh_.out.cell 3
      have h_4 := Hh_.out.cell 4
      have h_5 := Hh_.out.cell 5
      have h_6 := Hh_.out.cell 6
      have h_l := Hh_.out.lt
      have f0 := Hf.out.cell 0
      have f1 := Hf.out.cell 1
      have fl := Hf.out.lt
      have v0 := Hv.out.cell 0
      have v1 := Hv.out.cell 1
      have vl := Hv.out.lt
      simp only [List.getElem?_cons_zero, List.getElem?_cons_succ] at h_0 h_1 h_2 h_3 h_4 h_5 h_6 f0 f1 v0 v1
      go_wp2_with fail
      all_goals go_ret
      all_goals exact ⟨ret_bool (by simp), Hbl.out⟩
    | some lr =>
      rw [hr] at hrr
      obtain ⟨Ar, cr, rfl, hrr⟩ := hrr
      have h64 := Hlong.out lr hr
      have h64i : (64 : Int) < (lr.length : Int) := by omega
      clear hrr hr
      go_wp2_with fail
      with_reducible refine (At_ct 10 (-7) _).mono ?_
      rintro e w7 ⟨rfl, hb⟩
      clear h_0 h_1 h_2 h_3 h_4 h_5 h_6 f0 f1 v0 v1 h_l fl vl
      replace Hh_ := hide (Hh_.out.keep hb)
      replace Hf := hide (Hf.out.keep hb)
      replace Hv := hide (Hv.out.keep hb)
      replace Hbl := hide (Hbl.out.trans (hb.mono Hbl.out.size))
      clear hb
      unfold fault
      have h_0 := Hh_.out.cell 0
      have h_1 := Hh_.out.cell 1
      have h_2 := Hh_.out.cell 2
      have h_3 := Hh_.out.cell 3
      have h_4 := Hh_.out.cell 4
      have h_5 := Hh_.out.cell 5
      have h_6 := Hh_.out.cell 6
      have h_l := Hh_.out.lt
      have f0 := Hf.out.cell 0
      have f1 := Hf.out.cell 1
      have fl := Hf.out.lt
      have v0 := Hv.out.cell 0
      have v1 := Hv.out.cell 1
      have vl := Hv.out.lt
      simp only [List.getElem?_cons_zero, List.getElem?_cons_succ] at h_0 h_1 h_2 h_3 h_4 h_5 h_6 f0 f1 v0 v1
      have vf0 := Hv.out.frozen 0
      have vf1 := Hv.out.frozen 1
      go_upto_region 11 with (fail)
      clear vf0 vf1
      have hyb := ((Hv.out.set 0 (.int .i64 10)).set 1 (.int .i64 (-7)))
      simp only [List.set_cons_zero, List.set_cons_succ] at hyb
      have hbW := (below_set ((below_set (Below.refl B0 w7) (g := gv) a_v 0 (.int .i64 10))) (g := gv) a_v 1 (.int .i64 (-7)))
      have hcW := ((Chg.refl (fun x => x = gv) w7).trans (Chg.set _ (gv) 0 (.int .i64 10))).trans (Chg.set _ (gv) 1 (.int .i64 (-7)))
      obtain ⟨w8, hW⟩ : ∃ W, W = ((w7).setCell ⟨gv, 0, none⟩ (.int .i64 10)).setCell ⟨gv, 1, none⟩ (.int .i64 (-7)) := ⟨_, rfl⟩
      rw [← hW] at hyb hbW hcW ⊢
      replace Hv := hide hyb
      clear hW hyb
      clear h_0 h_1 h_2 h_3 h_4 h_5 h_6 f0 f1 v0 v1 h_l fl vl
      replace Hh_ := hide (hcW.blk Hh_.out (by exact n_h__v))
      replace Hf := hide (hcW.blk Hf.out (by exact n_f_v))
      replace Hbl := hide (Hbl.out.trans (hbW.mono (Nat.le_of_eq HB0.out.symm)))
      clear hbW hcW
      have h_0 := Hh_.out.cell 0
      have h_1 := Hh_.out.cell 1
      have h_2 := Hh_.out.cell 2
      have h_3 := Hh_.out.cell 3
      have h_4 := Hh_.out.cell 4
      have h_5 := Hh_.out.cell 5
      have h_6 := Hh_.out.cell 6
      have h_l := Hh_.out.lt
      have f0 := Hf.out.cell 0
      have f1 := Hf.out.cell 1
      have fl := Hf.out.lt
      have v0 := Hv.out.cell 0
      have v1 := Hv.out.cell 1
      have vl := Hv.out.lt
      simp only [List.getElem?_cons_zero, List.getElem?_cons_succ] at h_0 h_1 h_2 h_3 h_4 h_5 h_6 f0 f1 v0 v1
      go_wp2_with fail
      all_goals go_ret
      all_goals exact ⟨ret_bool (by simp), Hbl.out⟩
  · skip
    obtain ⟨lr, hlr, h64⟩ := reach_short Hok.out.task hLL hL64
    have h64i : ¬ (64 : Int) < (lr.length : Int) := by omega
    have Hlr := hide hlr
    clear hLL hL64 hlr hpr
    rcases hp2 with ⟨rfl, hgood, hlen, hleast⟩ | ⟨rfl, rfl, hnone⟩
    · skip
      rw [hln] at hlen
      have hnpm : np ≤ m := by omega
      have hlen2 : (np : Int) ≤ (m : Int) := by omega
      have hnp0 : (0 : Int) ≤ (np : Int) := by omega
      have hfine := plan_fine39 Hok.out.task (l := l) (by omega) hgood.1
      have HL := hide hl
      have Hgood := hide hgood
      obtain ⟨hg1, hg2, hg3⟩ := hgood
      have Hg1 := hide hg1
      have Hg2 := hide hg2
      have Hg3 := hide hg3
      have Hleast := hide hleast
      have Hfine := hide hfine
      have Hln := hide hln
      clear hl hg1 hg2 hg3 hleast hfine hln hlen
      go_upto_region 4 with (fail)
      have n_h__f : ¬ gH = w2.heap.size := by omega
      have n_f_h_ : ¬ w2.heap.size = gH := by omega
      have s_h_ : gH < w2.heap.size := h_l
      have s_0 : B0 ≤ w2.heap.size := Nat.le_trans (Nat.le_of_eq HB0.out) Hbl.out.size
      have hyf := Blk.new (w2) 29 [.int .i64 0, .int .i64 0]
      have hbW : Below (w2).heap.size (w2) ((w2).alloc (.cells #[.int .i64 0, .int .i64 0] 29)) := (Below.refl _ _).alloc (Nat.le_refl _) _
      obtain ⟨w3, hW⟩ : ∃ W, W = (w2).alloc (.cells #[.int .i64 0, .int .i64 0] 29) := ⟨_, rfl⟩
      rw [← hW] at hyf hbW ⊢
      replace Hh_ := hide (Hh_.out.keep hbW)
      replace HL := hide (HL.out.keep hbW)
      replace Hbl := hide (Hbl.out.trans (hbW.mono Hbl.out.size))
      have Hf := hide hyf
      clear hW hbW hyf
      generalize w2.heap.size = gf at Hf n_h__f n_f_h_ s_h_ s_0 ⊢
      have h_0 := Hh_.out.cell 0
      have h_1 := Hh_.out.cell 1
      have h_2 := Hh_.out.cell 2
      have h_3 := Hh_.out.cell 3
      have h_4 := Hh_.out.cell 4
      have h_5 := Hh_.out.cell 5
      have h_6 := Hh_.out.cell 6
      have h_l := Hh_.out.lt
      have f0 := Hf.out.cell 0
      have f1 := Hf.out.cell 1
      have fl := Hf.out.lt
      simp only [List.getElem?_cons_zero, List.getElem?_cons_succ] at h_0 h_1 h_2 h_3 h_4 h_5 h_6 f0 f1
      clear s_h_
      have a_f : B0 ≤ gf := by omega
      clear s_0
      go_wp2_with fail
      with_reducible refine (hrf.out w3 (H.out.keep Hbl.out)).mono ?_
      rintro e w4 ⟨rfl, hb⟩
      clear h_0 h_1 h_2 h_3 h_4 h_5 h_6 f0 f1 h_l fl
      replace Hh_ := hide (Hh_.out.keep hb)
      replace Hf := hide (Hf.out.keep hb)
      replace HL := hide (HL.out.keep hb)
      replace Hbl := hide (Hbl.out.trans (hb.mono Hbl.out.size))
      clear hb
      unfold fault
      simp only
      have h_0 := Hh_.out.cell 0
      have h_1 := Hh_.out.cell 1
      have h_2 := Hh_.out.cell 2
      have h_3 := Hh_.out.cell 3
      have h_4 := Hh_.out.cell 4
      have h_5 := Hh_.out.cell 5
      have h_6 := Hh_.out.cell 6
      have h_l := Hh_.out.lt
      have f0 := Hf.out.cell 0
      have f1 := Hf.out.cell 1
      have fl := Hf.out.lt
      simp only [List.getElem?_cons_zero, List.getElem?_cons_succ] at h_0 h_1 h_2 h_3 h_4 h_5 h_6 f0 f1
      go_upto_region 5 with (fail)
      have n_h__v : ¬ gH = w4.heap.size := by omega
      have n_v_h_ : ¬ w4.heap.size = gH := by omega
      have n_f_v : ¬ gf = w4.heap.size := by omega
      have n_v_f : ¬ w4.heap.size = gf := by omega
      have s_h_ : gH < w4.heap.size := h_l
      have s_f : gf < w4.heap.size := fl
      have s_0 : B0 ≤ w4.heap.size := Nat.le_trans (Nat.le_of_eq HB0.out) Hbl.out.size
      have hyv := Blk.new (w4) 29 [.int .i64 0, .int .i64 0]
      have hbW : Below (w4).heap.size (w4) ((w4).alloc (.cells #[.int .i64 0, .int .i64 0] 29)) := (Below.refl _ _).alloc (Nat.le_refl _) _
      obtain ⟨w5, hW⟩ : ∃ W, W = (w4).alloc (.cells #[.int .i64 0, .int .i64 0] 29) := ⟨_, rfl⟩
      rw [← hW] at hyv hbW ⊢
      replace Hh_ := hide (Hh_.out.keep hbW)
      replace Hf := hide (Hf.out.keep hbW)
      replace HL := hide (HL.out.keep hbW)
      replace Hbl := hide (Hbl.out.trans (hbW.mono Hbl.out.size))
      have Hv := hide hyv
      clear hW hbW hyv
      generalize w4.heap.size = gv at Hv n_h__v n_v_h_ n_f_v n_v_f s_h_ s_f s_0 ⊢
      have h_0 := Hh_.out.cell 0
      have h_1 := Hh_.out.cell 1
      have h_2 := Hh_.out.cell 2
      have h_3 := Hh_.out.cell 3
      have h_4 := Hh_.out.cell 4
      have h_5 := Hh_.out.cell 5
      have h_6 := Hh_.out.cell 6
      have h_l := Hh_.out.lt
      have f0 := Hf.out.cell 0
      have f1 := Hf.out.cell 1
      have fl := Hf.out.lt
      have v0 := Hv.out.cell 0
      have v1 := Hv.out.cell 1
      have vl := Hv.out.lt
      simp only [List.getElem?_cons_zero, List.getElem?_cons_succ] at h_0 h_1 h_2 h_3 h_4 h_5 h_6 f0 f1 v0 v1
      clear s_h_
      clear s_f
      have a_v : B0 ≤ gv := by omega
      clear s_0
      go_wp2_with fail
      with_reducible refine (In_ct (m : Int) 0 8 w5).mono ?_
      rintro e w6 ⟨rfl, rfl⟩
      rw [Hin.out]
      go_wp2_with fail
      with_reducible refine (hrc.out _ (H.out.keep Hbl.out).task).mono ?_
      rintro e w6 ⟨hb, hrr⟩
      clear h_0 h_1 h_2 h_3 h_4 h_5 h_6 f0 f1 v0 v1 h_l fl vl
      replace Hh_ := hide (Hh_.out.keep hb)
      replace Hf := hide (Hf.out.keep hb)
      replace Hv := hide (Hv.out.keep hb)
      replace HL := hide (HL.out.keep hb)
      replace Hbl := hide (Hbl.out.trans (hb.mono Hbl.out.size))
      clear hb
      have h_0 := Hh_.out.cell 0
      have h_1 := Hh_.out.cell 1
      have h_2 := Hh_.out.cell 2
      have h_3 := Hh_.out.cell 3
      have h_4 := Hh_.out.cell 4
      have h_5 := Hh_.out.cell 5
      have h_6 := Hh_.out.cell 6
      have h_l := Hh_.out.lt
      have f0 := Hf.out.cell 0
      have f1 := Hf.out.cell 1
      have fl := Hf.out.lt
      have v0 := Hv.out.cell 0
      have v1 := Hv.out.cell 1
      have vl := Hv.out.lt
      simp only [List.getElem?_cons_zero, List.getElem?_cons_succ] at h_0 h_1 h_2 h_3 h_4 h_5 h_6 f0 f1 v0 v1
      rw [Hlr.out] at hrr
      obtain ⟨Ar, cr, rfl, hrr⟩ := hrr
      clear hrr
      have hfi := field39
      go_wp2_with fail
      with_reducible refine (hpf.out Op np cp l w6 (H.out.keep Hbl.out).task HL.out).mono ?_
      rintro e w7 ⟨rfl, hb⟩
      clear h_0 h_1 h_2 h_3 h_4 h_5 h_6 f0 f1 v0 v1 h_l fl vl
      replace Hh_ := hide (Hh_.out.keep hb)
      replace Hf := hide (Hf.out.keep hb)
      replace Hv := hide (Hv.out.keep hb)
      replace HL := hide (HL.out.keep hb)
      replace Hbl := hide (Hbl.out.trans (hb.mono Hbl.out.size))
      clear hb
      rw [Hfine.out]
      unfold fault
      simp only
      have h_0 := Hh_.out.cell 0
      have h_1 := Hh_.out.cell 1
      have h_2 := Hh_.out.cell 2
      have h_3 := Hh_.out.cell 3
      have h_4 := Hh_.out.cell 4
      have h_5 := Hh_.out.cell 5
      have h_6 := Hh_.out.cell 6
      have h_l := Hh_.out.lt
      have f0 := Hf.out.cell 0
      have f1 := Hf.out.cell 1
      have fl := Hf.out.lt
      have v0 := Hv.out.cell 0
      have v1 := Hv.out.cell 1
      have vl := Hv.out.lt
      simp only [List.getElem?_cons_zero, List.getElem?_cons_succ] at h_0 h_1 h_2 h_3 h_4 h_5 h_6 f0 f1 v0 v1
      go_wp2_with fail
      have hso2 := hso.out Op np cp l w7 (H.out.keep Hbl.out).task HL.out Hg1.out
      rw [Hg3.out] at hso2
      with_reducible refine hso2.mono ?_
      rintro e w8 ⟨rfl, hb⟩
      clear hso2
      clear h_0 h_1 h_2 h_3 h_4 h_5 h_6 f0 f1 v0 v1 h_l fl vl
      replace Hh_ := hide (Hh_.out.keep hb)
      replace Hf := hide (Hf.out.keep hb)
      replace Hv := hide (Hv.out.keep hb)
      replace HL := hide (HL.out.keep hb)
      replace Hbl := hide (Hbl.out.trans (hb.mono Hbl.out.size))
      clear hb
      have h_0 := Hh_.out.cell 0
      have h_1 := Hh_.out.cell 1
      have h_2 := Hh_.out.cell 2
      have h_3 := Hh_.out.cell 3
      have h_4 := Hh_.out.cell 4
      have h_5 := Hh_.out.cell 5
      have h_6 := Hh_.out.cell 6
      have h_l := Hh_.out.lt
      have f0 := Hf.out.cell 0
      have f1 := Hf.out.cell 1
      have fl := Hf.out.lt
      have v0 := Hv.out.cell 0
      have v1 := Hv.out.cell 1
      have vl := Hv.out.lt
      simp only [List.getElem?_cons_zero, List.getElem?_cons_succ] at h_0 h_1 h_2 h_3 h_4 h_5 h_6 f0 f1 v0 v1
      go_wp2_with fail
      with_reducible refine (hre.out Op np cp l w8 (H.out.keep Hbl.out) HL.out (by omega) Hg1.out).mono ?_
      rintro e w9 ⟨hb, bb, rfl, hbb⟩
      obtain rfl : bb = true := hbb.2 Hg2.out
      clear hbb
      clear h_0 h_1 h_2 h_3 h_4 h_5 h_6 f0 f1 v0 v1 h_l fl vl
      replace Hh_ := hide (Hh_.out.keep hb)
      replace Hf := hide (Hf.out.keep hb)
      replace Hv := hide (Hv.out.keep hb)
      replace HL := hide (HL.out.keep hb)
      replace Hbl := hide (Hbl.out.trans (hb.mono Hbl.out.size))
      clear hb
      have h_0 := Hh_.out.cell 0
      have h_1 := Hh_.out.cell 1
      have h_2 := Hh_.out.cell 2
      have h_3 := Hh_.out.cell 3
      have h_4 := Hh_.out.cell 4
      have h_5 := Hh_.out.cell 5
      have h_6 := Hh_.out.cell 6
      have h_l := Hh_.out.lt
      have f0 := Hf.out.cell 0
      have f1 := Hf.out.cell 1
      have fl := Hf.out.lt
      have v0 := Hv.out.cell 0
      have v1 := Hv.out.cell 1
      have vl := Hv.out.lt
      simp only [List.getElem?_cons_zero, List.getElem?_cons_succ] at h_0 h_1 h_2 h_3 h_4 h_5 h_6 f0 f1 v0 v1
      go_wp2_with fail
      with_reducible refine (few_ct nO m w9 (by rw [← Hol.out]; omega) (by omega)).mono ?_
      rintro e w10 ⟨rfl, b10, rfl, hfew⟩
      cases b10 with
      | false =>
        clear hfew
        go_wp2_with fail
        all_goals go_ret
        all_goals exact ⟨ret_bool (by simp), Hbl.out⟩
      | true =>
        have hfe := hfew rfl
        rw [← Hol.out] at hfe
        clear hfew
        go_wp2_with fail
        with_reducible refine (hrd.out _ (H.out.keep Hbl.out) hfe).mono ?_
        rintro e w11 ⟨hb, R, rfl, hR⟩
        clear h_0 h_1 h_2 h_3 h_4 h_5 h_6 f0 f1 v0 v1 h_l fl vl
        replace Hh_ := hide (Hh_.out.keep hb)
        replace Hf := hide (Hf.out.keep hb)
        replace Hv := hide (Hv.out.keep hb)
        replace HL := hide (HL.out.keep hb)
        replace Hbl := hide (Hbl.out.trans (hb.mono Hbl.out.size))
        clear hb
        have h_0 := Hh_.out.cell 0
        have h_1 := Hh_.out.cell 1
        have h_2 := Hh_.out.cell 2
        have h_3 := Hh_.out.cell 3
        have h_4 := Hh_.out.cell 4
        have h_5 := Hh_.out.cell 5
        have h_6 := Hh_.out.cell 6
        have h_l := Hh_.out.lt
        have f0 := Hf.out.cell 0
        have f1 := Hf.out.cell 1
        have fl := Hf.out.lt
        have v0 := Hv.out.cell 0
        have v1 := Hv.out.cell 1
        have vl := Hv.out.lt
        simp only [List.getElem?_cons_zero, List.getElem?_cons_succ] at h_0 h_1 h_2 h_3 h_4 h_5 h_6 f0 f1 v0 v1
        obtain rfl : R = (np : Int) := by
          have := refR_yes hR Hgood.out (by rw [Hln.out]; omega) Hleast.out
          rw [Hln.out] at this
          exact this
        clear hR hfe
        go_wp2_with fail
        all_goals go_ret
        all_goals exact ⟨ret_bool (by simp), Hbl.out⟩
    · skip
      obtain rfl : np = 0 := by simpa using hln.symm
      have h0m : (0 : Int) ≤ (m : Int) := by omega
      have Hnone := hide hnone
      clear hl hnone hln
      go_upto_region 4 with (fail)
      have n_h__f : ¬ gH = w2.heap.size := by omega
      have n_f_h_ : ¬ w2.heap.size = gH := by omega
      have s_h_ : gH < w2.heap.size := h_l
      have s_0 : B0 ≤ w2.heap.size := Nat.le_trans (Nat.le_of_eq HB0.out) Hbl.out.size
      have hyf := Blk.new (w2) 29 [.int .i64 0, .int .i64 0]
      have hbW : Below (w2).heap.size (w2) ((w2).alloc (.cells #[.int .i64 0, .int .i64 0] 29)) := (Below.refl _ _).alloc (Nat.le_refl _) _
      obtain ⟨w3, hW⟩ : ∃ W, W = (w2).alloc (.cells #[.int .i64 0, .int .i64 0] 29) := ⟨_, rfl⟩
      rw [← hW] at hyf hbW ⊢
      replace Hh_ := hide (Hh_.out.keep hbW)
      replace Hbl := hide (Hbl.out.trans (hbW.mono Hbl.out.size))
      have Hf := hide hyf
      clear hW hbW hyf
      generalize w2.heap.size = gf at Hf n_h__f n_f_h_ s_h_ s_0 ⊢
      have h_0 := Hh_.out.cell 0
      have h_1 := Hh_.out.cell 1
      have h_2 := Hh_.out.cell 2
      have h_3 := Hh_.out.cell 3
      have h_4 := Hh_.out.cell 4
      have h_5 := Hh_.out.cell 5
      have h_6 := Hh_.out.cell 6
      have h_l := Hh_.out.lt
      have f0 := Hf.out.cell 0
      have f1 := Hf.out.cell 1
      have fl := Hf.out.lt
      simp only [List.getElem?_cons_zero, List.getElem?_cons_succ] at h_0 h_1 h_2 h_3 h_4 h_5 h_6 f0 f1
      clear s_h_
      have a_f : B0 ≤ gf := by omega
      clear s_0
      go_wp2_with fail
      with_reducible refine (hrf.out w3 (H.out.keep Hbl.out)).mono ?_
      rintro e w4 ⟨rfl, hb⟩
      clear h_0 h_1 h_2 h_3 h_4 h_5 h_6 f0 f1 h_l fl
      replace Hh_ := hide (Hh_.out.keep hb)
      replace Hf := hide (Hf.out.keep hb)
      replace Hbl := hide (Hbl.out.trans (hb.mono Hbl.out.size))
      clear hb
      unfold fault
      simp only
      have h_0 := Hh_.out.cell 0
      have h_1 := Hh_.out.cell 1
      have h_2 := Hh_.out.cell 2
      have h_3 := Hh_.out.cell 3
      have h_4 := Hh_.out.cell 4
      have h_5 := Hh_.out.cell 5
      have h_6 := Hh_.out.cell 6
      have h_l := Hh_.out.lt
      have f0 := Hf.out.cell 0
      have f1 := Hf.out.cell 1
      have fl := Hf.out.lt
      simp only [List.getElem?_cons_zero, List.getElem?_cons_succ] at h_0 h_1 h_2 h_3 h_4 h_5 h_6 f0 f1
      go_upto_region 5 with (fail)
      have n_h__v : ¬ gH = w4.heap.size := by omega
      have n_v_h_ : ¬ w4.heap.size = gH := by omega
      have n_f_v : ¬ gf = w4.heap.size := by omega
      have n_v_f : ¬ w4.heap.size = gf := by omega
      have s_h_ : gH < w4.heap.size := h_l
      have s_f : gf < w4.heap.size := fl
      have s_0 : B0 ≤ w4.heap.size := Nat.le_trans (Nat.le_of_eq HB0.out) Hbl.out.size
      have hyv := Blk.new (w4) 29 [.int .i64 0, .int .i64 0]
      have hbW : Below (w4).heap.size (w4) ((w4).alloc (.cells #[.int .i64 0, .int .i64 0] 29)) := (Below.refl _ _).alloc (Nat.le_refl _) _
      obtain ⟨w5, hW⟩ : ∃ W, W = (w4).alloc (.cells #[.int .i64 0, .int .i64 0] 29) := ⟨_, rfl⟩
      rw [← hW] at hyv hbW ⊢
      replace Hh_ := hide (Hh_.out.keep hbW)
      replace Hf := hide (Hf.out.keep hbW)
      replace Hbl := hide (Hbl.out.trans (hbW.mono Hbl.out.size))
      have Hv := hide hyv
      clear hW hbW hyv
      generalize w4.heap.size = gv at Hv n_h__v n_v_h_ n_f_v n_v_f s_h_ s_f s_0 ⊢
      have h_0 := Hh_.out.cell 0
      have h_1 := Hh_.out.cell 1
      have h_2 := Hh_.out.cell 2
      have h_3 := Hh_.out.cell 3
      have h_4 := Hh_.out.cell 4
      have h_5 := Hh_.out.cell 5
      have h_6 := Hh_.out.cell 6
      have h_l := Hh_.out.lt
      have f0 := Hf.out.cell 0
      have f1 := Hf.out.cell 1
      have fl := Hf.out.lt
      have v0 := Hv.out.cell 0
      have v1 := Hv.out.cell 1
      have vl := Hv.out.lt
      simp only [List.getElem?_cons_zero, List.getElem?_cons_succ] at h_0 h_1 h_2 h_3 h_4 h_5 h_6 f0 f1 v0 v1
      clear s_h_
      clear s_f
      have a_v : B0 ≤ gv := by omega
      clear s_0
      go_wp2_with fail
      with_reducible refine (In_ct (m : Int) 0 8 w5).mono ?_
      rintro e w6 ⟨rfl, rfl⟩
      rw [Hin.out]
      go_wp2_with fail
      with_reducible refine (hrc.out _ (H.out.keep Hbl.out).task).mono ?_
      rintro e w6 ⟨hb, hrr⟩
      clear h_0 h_1 h_2 h_3 h_4 h_5 h_6 f0 f1 v0 v1 h_l fl vl
      replace Hh_ := hide (Hh_.out.keep hb)
      replace Hf := hide (Hf.out.keep hb)
      replace Hv := hide (Hv.out.keep hb)
      replace Hbl := hide (Hbl.out.trans (hb.mono Hbl.out.size))
      clear hb
      have h_0 := Hh_.out.cell 0
      have h_1 := Hh_.out.cell 1
      have h_2 := Hh_.out.cell 2
      have h_3 := Hh_.out.cell 3
      have h_4 := Hh_.out.cell 4
      have h_5 := Hh_.out.cell 5
      have h_6 := Hh_.out.cell 6
      have h_l := Hh_.out.lt
      have f0 := Hf.out.cell 0
      have f1 := Hf.out.cell 1
      have fl := Hf.out.lt
      have v0 := Hv.out.cell 0
      have v1 := Hv.out.cell 1
      have vl := Hv.out.lt
      simp only [List.getElem?_cons_zero, List.getElem?_cons_succ] at h_0 h_1 h_2 h_3 h_4 h_5 h_6 f0 f1 v0 v1
      rw [Hlr.out] at hrr
      obtain ⟨Ar, cr, rfl, hrr⟩ := hrr
      clear hrr
      go_wp2_with fail
      with_reducible refine (few_ct nO m w6 (by rw [← Hol.out]; omega) (by omega)).mono ?_
      rintro e w10 ⟨rfl, b10, rfl, hfew⟩
      cases b10 with
      | false =>
        clear hfew
        go_wp2_with fail
        all_goals go_ret
        all_goals exact ⟨ret_bool (by simp), Hbl.out⟩
      | true =>
        have hfe := hfew rfl
        rw [← Hol.out] at hfe
        clear hfew
        go_wp2_with fail
        with_reducible refine (hrd.out _ (H.out.keep Hbl.out) hfe).mono ?_
        rintro e w11 ⟨hb, R, rfl, hR⟩
        clear h_0 h_1 h_2 h_3 h_4 h_5 h_6 f0 f1 v0 v1 h_l fl vl
        replace Hh_ := hide (Hh_.out.keep hb)
        replace Hf := hide (Hf.out.keep hb)
        replace Hv := hide (Hv.out.keep hb)
        replace Hbl := hide (Hbl.out.trans (hb.mono Hbl.out.size))
        clear hb
        have h_0 := Hh_.out.cell 0
        have h_1 := Hh_.out.cell 1
        have h_2 := Hh_.out.cell 2
        have h_3 := Hh_.out.cell 3
        have h_4 := Hh_.out.cell 4
        have h_5 := Hh_.out.cell 5
        have h_6 := Hh_.out.cell 6
        have h_l := Hh_.out.lt
        have f0 := Hf.out.cell 0
        have f1 := Hf.out.cell 1
        have fl := Hf.out.lt
        have v0 := Hv.out.cell 0
        have v1 := Hv.out.cell 1
        have vl := Hv.out.lt
        simp only [List.getElem?_cons_zero, List.getElem?_cons_succ] at h_0 h_1 h_2 h_3 h_4 h_5 h_6 f0 f1 v0 v1
        obtain rfl : R = -1 := refR_no hR Hnone.out
        clear hR hfe
        go_wp2_with fail
        all_goals go_ret
        all_goals exact ⟨ret_bool (by simp), Hbl.out⟩
theorem planMatchLaw_ct (h : Hy) (b : HA) (lim : Int) (w : World) (hl1 : -9223372036854775808 ≤ lim) (hl2 : lim ≤ 9223372036854775807) (hh : HyR w b h) :
    Calls Tryz.prog 5 #[.agg #[.int .i64 h.T.facts, .slice b.a.I b.a.nI b.a.cI, .slice b.a.G b.a.nG b.a.cG, .slice b.a.O b.a.nO b.a.cO, .int .i64 h.tasks, .slice b.M b.nM b.cM, .slice b.L b.nL b.cL], .int .i64 lim] w (Gives w (.bool true)) := by
  by_cases hec : (hierFault h).1 = 0
  · obtain ⟨N, KK, hok, hz⟩ := hierFault_ok hec
    by_cases hlim : 0 ≤ lim ∧ lim ≤ 8
    · obtain ⟨m, rfl⟩ : ∃ m : Nat, lim = (m : Int) := ⟨lim.toNat, by omega⟩
      exact planMC h b m w N KK hok (by omega) hh hz
    · exact planMB h b lim w hl1 hl2 hh hz hlim
  · exact planMA h b lim w hl1 hl2 hh hec
end Go.Proofs.YtmjiiddncbhgpaaGreat
