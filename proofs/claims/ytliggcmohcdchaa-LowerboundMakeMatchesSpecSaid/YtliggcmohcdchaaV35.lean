/- What the law of made tables' costs asks for, part 35: La28. -/
import Derived.Test.YtliggcmohcdchaaV1
import Derived.Test.YtliggcmohcdchaaV2
import Derived.Test.YtliggcmohcdchaaV3
import Derived.Test.YtliggcmohcdchaaV4
import Derived.Test.YtliggcmohcdchaaV5
import Derived.Test.YtliggcmohcdchaaV6
import Derived.Test.YtliggcmohcdchaaV7
import Derived.Test.YtliggcmohcdchaaV8
import Derived.Test.YtliggcmohcdchaaV9
import Derived.Test.YtliggcmohcdchaaV10
import Derived.Test.YtliggcmohcdchaaV11
import Derived.Test.YtliggcmohcdchaaV12
import Derived.Test.YtliggcmohcdchaaV13
import Derived.Test.YtliggcmohcdchaaV14
import Derived.Test.YtliggcmohcdchaaV15
import Derived.Test.YtliggcmohcdchaaV16
import Derived.Test.YtliggcmohcdchaaV17
import Derived.Test.YtliggcmohcdchaaV18
import Derived.Test.YtliggcmohcdchaaV19
import Derived.Test.YtliggcmohcdchaaV20
import Derived.Test.YtliggcmohcdchaaV21
import Derived.Test.YtliggcmohcdchaaV22
import Derived.Test.YtliggcmohcdchaaV23
import Derived.Test.YtliggcmohcdchaaV24
import Derived.Test.YtliggcmohcdchaaV25
import Derived.Test.YtliggcmohcdchaaV26
import Derived.Test.YtliggcmohcdchaaV27
import Derived.Test.YtliggcmohcdchaaV28
import Derived.Test.YtliggcmohcdchaaV29
import Derived.Test.YtliggcmohcdchaaV30
import Derived.Test.YtliggcmohcdchaaV31
import Derived.Test.YtliggcmohcdchaaV32
import Derived.Test.YtliggcmohcdchaaV33
import Derived.Test.YtliggcmohcdchaaV34
import Derived.BigQuiet
import Derived.BigRegion
import Derived.Deep.AppendLies
import Derived.Deep.DeepCutAuto
import Derived.Deep.Draws
import Derived.Deep.Fields
import Derived.Deep.LoopGhost
import Derived.Deep.QuietTactic
import Derived.Deep.RegionHeld3
import Derived.Deep.Slices
import Derived.DeepKeys4
import Derived.Ground.Names2Prog
import Derived.Ground.SlgnProg
import Derived.Ground.SlsfProg
import Derived.IntWalk
import Derived.Laws.AppendOwnNone
import Derived.Laws.BitsAllLaws
import Derived.Laws.EntriesVeiled
import Derived.Laws.OwnMore
import Derived.Lib.Hide
import Derived.Lib.SlicesCompact
import Derived.LoopIn
import Derived.LoopNIn
import Derived.Maps.AppendAt
import Derived.Maps.OwnIn
import Derived.Maps.OwnOps
import Derived.Maps.OwnSet
import Derived.OrdersHeld
import Derived.OrdersIn
import Derived.OwnWalkIn
import Derived.RangeFuncBound
import Derived.RangeFuncCalls
import Derived.RangeFuncLeaves
import Derived.RangeFuncNested
import Derived.Shelf.Abstract
import Derived.Shelf.RegionOpen
import Derived.Shelf.SlSortCmp.Whole1
import Derived.Shelf.Slices.Cells
import Derived.Shelf.Slices.Clone
import Derived.Shelf.Slices.CompactI
import Derived.Shelf.Slices.Empties
import Derived.Shelf.Slices.In.SortNone
import Derived.Shelf.Slices.SearchI
import Derived.Shelf.Sort.Plain
import Derived.Sort.OwnSortedInts
import Derived.StillTail
import Derived.StillTailTactics
import Derived.TacticsInMore
import Derived.Test.YtliggcmohcdchaaProg
import Derived.WalkKit
namespace Go.Proofs.Ytliggcmohcdchaa
set_option linter.unusedVariables false
set_option linter.unusedSimpArgs false
open Go.RowKit
/-- how many of a list of states cost something -/
def cntF (f : Nat → Int) (l : List (List Int)) : Nat := ((l.map wordF).filter fun s => decide (0 < f s)).length
theorem cntF_succ {f : Nat → Int} {l : List (List Int)} {k : Nat} {s : List Int} (h : l[k]? = some s) : cntF f (l.take (k + 1)) = cntF f (l.take k) + (if 0 < f (wordF s) then 1 else 0) := by
  unfold cntF
  rw [List.take_add_one, h, List.map_append, List.filter_append, List.length_append]
  congr 1
  show (List.filter (fun s => decide (0 < f s)) [wordF s]).length = _
  by_cases hp : 0 < f (wordF s)
  · simp [hp]
  · simp [hp]
/-- the two searches agree -/
structure Agree (T : Tsk) (rl : List (List Int)) (L : List Nat) (f g : Nat → Int) : Prop where
  val : ∀ s ∈ rl, g (wordF s) = bOf (mkTab L f) s
  cnt : cntF g rl = (mkTab L f).length
  first : ∃ r, rl = T.init :: r
  start : g (wordF T.init) = f (wordF T.init)
theorem agree {T : Tsk} {N : Nat} (hok : OkT T N) {rl : List (List Int)} {L : List Nat} {f g : Nat → Int} (hr : refReach T = some rl) (h : CostsOf T L f) (hg : Least (arcW (T.ops.map mkOp)) (goalW (wordF T.goal)) infC (· ∈ rl.map wordF) g) : Agree T rl L f g := by
  obtain ⟨hall, hfew, hset⟩ := reach_some hok hr
  have hmem : ∀ x, x ∈ rl.map wordF ↔ x ∈ L := fun x => (hall.mem x).trans (h.list.all.mem x).symm
  have he : (fun x => x ∈ rl.map wordF) = (fun x => x ∈ L) := funext fun x => propext (hmem x)
  rw [he] at hg
  have huniq := fun s hs => hg.uniq h.least (fun s t c ha => (arc_cost hok ha).1) (fun s t c hs ha => h.next hs ha) s hs
  refine ⟨fun s hs => ?_, ?_, refReach_first hr, huniq _ h.init⟩
  · have hm : wordF s ∈ L := (hmem _).1 (List.mem_map.2 ⟨s, hs, rfl⟩)
    rw [made_of hok h (hset s hs) hm, huniq _ hm]
  · unfold cntF mkTab
    rw [List.length_map]
    have hperm : (rl.map wordF).Perm L := (List.perm_ext_iff_of_nodup hall.once h.list.all.once).2 hmem
    rw [(hperm.filter _).length_eq]
    congr 1
    refine List.filter_congr fun x hx => ?_
    rw [huniq x hx]
theorem costs_not_many {T : Tsk} {N : Nat} (hok : OkT T N) {rl : List (List Int)} (hr : refReach T = some rl) (h : TooMany T) : False := by
  obtain ⟨hall, hfew, _⟩ := reach_some hok hr
  have := many_not_all h hall
  rw [List.length_map] at this
  omega
theorem field_fault (c i : Int) (w : World) : (Instr.field 29 (.agg #[.int .i64 c, .int .i64 i]) 0).run Try.prog w = .ok (.int .i64 c) w := by kernel_rfl
set_option maxRecDepth 100000 in
set_option maxHeartbeats 12800000 in
theorem makeLaw_ct (T : Tsk) (a : TA) (w : World) (h : TkR w a T) :
    Calls Try.prog 4 #[.agg #[.int .i64 T.facts, .slice a.I a.nI a.cI, .slice a.G a.nG a.cG, .slice a.O a.nO a.cO]] w (Gives w (.bool true)) := by
  have hmk := fun W hT => Make_ct a T W hT
  have htf := fun W hT => RTaskFault_ct a T W hT
  have hre := fun N W hT hok => Reached_ct a T N W hT hok
  have hco := fun N B n c l W hT hok hl hs hf ha => RCosts_ct a T N B n c l W hT hok hl hs hf ha
  have hbf := fun A n c l W hT hW => RBoundsFault_ct a T A n c l W hT hW
  obtain ⟨I, nI, cI, G, nG, cG, O, nO, cO⟩ := a
  simp only at hmk htf hre hco hbf ⊢
  unfold MakeP at hmk
  have H := hide h
  have Hmk := hide hmk
  have Htf := hide htf
  have Hre := hide hre
  have Hco := hide hco
  have Hbf := hide hbf
  clear h hmk htf hre hco hbf
  have Hbl := hide (Below.refl w.heap.size w)
  go_enter Try.func4, Try.ntmps4
  go_upto_region 1 with (fail)
  obtain ⟨B0, hB0⟩ : ∃ B0, B0 = w.heap.size := ⟨_, rfl⟩
  have HB0 := hide hB0
  clear hB0
  have s_0 : B0 ≤ w.heap.size := Nat.le_trans (Nat.le_of_eq HB0.out) Hbl.out.size
  have hyt := Blk.new (w) 25 [.int .i64 T.facts, .slice I nI cI, .slice G nG cG, .slice O nO cO]
  have hbW : Below (w).heap.size (w) ((w).alloc (.cells #[.int .i64 T.facts, .slice I nI cI, .slice G nG cG, .slice O nO cO] 25)) := (Below.refl _ _).alloc (Nat.le_refl _) _
  obtain ⟨w0, hW⟩ : ∃ W, W = (w).alloc (.cells #[.int .i64 T.facts, .slice I nI cI, .slice G nG cG, .slice O nO cO] 25) := ⟨_, rfl⟩
  rw [← hW] at hyt hbW ⊢
  replace Hbl := hide (Hbl.out.trans (hbW.mono Hbl.out.size))
  have Ht := hide hyt
  clear hW hbW hyt
  generalize w.heap.size = gT at Ht s_0 ⊢
  have t0 := Ht.out.cell 0
  have t1 := Ht.out.cell 1
  have t2 := Ht.out.cell 2
  have t3 := Ht.out.cell 3
  have tl := Ht.out.lt
  simp only [List.getElem?_cons_zero, List.getElem?_cons_succ] at t0 t1 t2 t3
  have a_t : B0 ≤ gT := by omega
  clear s_0
  go_wp2_with fail
  with_reducible refine (lowerboundExample_ct w0).mono ?_
  rintro e w1 ⟨rfl, hb⟩
  clear t0 t1 t2 t3 tl
  replace Ht := hide (Ht.out.keep hb)
  replace Hbl := hide (Hbl.out.trans (hb.mono Hbl.out.size))
  clear hb
  have t0 := Ht.out.cell 0
  have t1 := Ht.out.cell 1
  have t2 := Ht.out.cell 2
  have t3 := Ht.out.cell 3
  have tl := Ht.out.lt
  simp only [List.getElem?_cons_zero, List.getElem?_cons_succ] at t0 t1 t2 t3
  rcases hq : taskFault T with ⟨ec, ei⟩
  have Hq := hide hq
  rw [hq] at Htf Hmk
  clear hq
  go_wp2_with fail
  with_reducible refine (Htf.out w1 (H.out.keep Hbl.out)).mono ?_
  rintro e w2 ⟨rfl, hb⟩
  clear t0 t1 t2 t3 tl
  replace Ht := hide (Ht.out.keep hb)
  replace Hbl := hide (Hbl.out.trans (hb.mono Hbl.out.size))
  clear hb
  have t0 := Ht.out.cell 0
  have t1 := Ht.out.cell 1
  have t2 := Ht.out.cell 2
  have t3 := Ht.out.cell 3
  have tl := Ht.out.lt
  simp only [List.getElem?_cons_zero, List.getElem?_cons_succ] at t0 t1 t2 t3
  unfold fault
  go_upto_region 4 with (fail)
  have n_t_f : ¬ gT = w2.heap.size := by omega
  have n_f_t : ¬ w2.heap.size = gT := by omega
  have s_t : gT < w2.heap.size := tl
  have s_0 : B0 ≤ w2.heap.size := Nat.le_trans (Nat.le_of_eq HB0.out) Hbl.out.size
  have hyf := Blk.new (w2) 29 [.int .i64 ec, .int .i64 ei]
  have hbW : Below (w2).heap.size (w2) ((w2).alloc (.cells #[.int .i64 ec, .int .i64 ei] 29)) := (Below.refl _ _).alloc (Nat.le_refl _) _
  obtain ⟨w3, hW⟩ : ∃ W, W = (w2).alloc (.cells #[.int .i64 ec, .int .i64 ei] 29) := ⟨_, rfl⟩
  rw [← hW] at hyf hbW ⊢
  replace Ht := hide (Ht.out.keep hbW)
  replace Hbl := hide (Hbl.out.trans (hbW.mono Hbl.out.size))
  have Hf := hide hyf
  clear hW hbW hyf
  generalize w2.heap.size = gf at Hf n_t_f n_f_t s_t s_0 ⊢
  have t0 := Ht.out.cell 0
  have t1 := Ht.out.cell 1
  have t2 := Ht.out.cell 2
  have t3 := Ht.out.cell 3
  have tl := Ht.out.lt
  have f0 := Hf.out.cell 0
  have f1 := Hf.out.cell 1
  have fl := Hf.out.lt
  simp only [List.getElem?_cons_zero, List.getElem?_cons_succ] at t0 t1 t2 t3 f0 f1
  clear s_t
  have a_f : B0 ≤ gf := by omega
  clear s_0
  by_cases hec : ec = 0
  rotate_left
  · have hne : (ec == 0) = false := by rw [beq_eq_false_iff_ne]; exact hec
    have hne2 : (ec != 0) = true := by simpa using hec
    go_wp2_with fail
    with_reducible refine (Hmk.out w3 (H.out.keep Hbl.out)).mono ?_
    rintro e w4 ⟨hb, hor⟩
    clear t0 t1 t2 t3 f0 f1 tl fl
    replace Ht := hide (Ht.out.keep hb)
    replace Hf := hide (Hf.out.keep hb)
    replace Hbl := hide (Hbl.out.trans (hb.mono Hbl.out.size))
    clear hb
    have t0 := Ht.out.cell 0
    have t1 := Ht.out.cell 1
    have t2 := Ht.out.cell 2
    have t3 := Ht.out.cell 3
    have tl := Ht.out.lt
    have f0 := Hf.out.cell 0
    have f1 := Hf.out.cell 1
    have fl := Hf.out.lt
    simp only [List.getElem?_cons_zero, List.getElem?_cons_succ] at t0 t1 t2 t3 f0 f1
    rcases hor with ⟨h2, rfl⟩ | ⟨h2, _⟩ | ⟨h2, _⟩
    rotate_left
    · exact absurd h2 hec
    · exact absurd h2 hec
    unfold fault
    go_upto_region 11 with (fail)
    have s_t : gT < w4.heap.size := tl
    have s_f : gf < w4.heap.size := fl
    have s_0 : B0 ≤ w4.heap.size := Nat.le_trans (Nat.le_of_eq HB0.out) Hbl.out.size
    have hym := Blk.new (w4) 29 [.int .i64 ec, .int .i64 ei]
    have hbW : Below (w4).heap.size (w4) ((w4).alloc (.cells #[.int .i64 ec, .int .i64 ei] 29)) := (Below.refl _ _).alloc (Nat.le_refl _) _
    obtain ⟨w5, hW⟩ : ∃ W, W = (w4).alloc (.cells #[.int .i64 ec, .int .i64 ei] 29) := ⟨_, rfl⟩
    rw [← hW] at hym hbW ⊢
    replace Ht := hide (Ht.out.keep hbW)
    replace Hf := hide (Hf.out.keep hbW)
    replace Hbl := hide (Hbl.out.trans (hbW.mono Hbl.out.size))
    have Hm := hide hym
    clear hW hbW hym
    generalize w4.heap.size = gm at Hm s_t s_f s_0 ⊢
    have t0 := Ht.out.cell 0
    have t1 := Ht.out.cell 1
    have t2 := Ht.out.cell 2
    have t3 := Ht.out.cell 3
    have tl := Ht.out.lt
    have f0 := Hf.out.cell 0
    have f1 := Hf.out.cell 1
    have fl := Hf.out.lt
    have m0 := Hm.out.cell 0
    have m1 := Hm.out.cell 1
    have ml := Hm.out.lt
    simp only [List.getElem?_cons_zero, List.getElem?_cons_succ] at t0 t1 t2 t3 f0 f1 m0 m1
    clear s_t
    clear s_f
    have a_m : B0 ≤ gm := by omega
    clear s_0
    go_wp2_with fail
    go_ret
    exact ⟨ret_bool (by simp), Hbl.out⟩
  subst hec
  have hz := taskFault_zero (T := T) (by rw [Hq.out])
  rw [Hq.out] at hz
  obtain ⟨_, e2⟩ := Prod.mk.inj hz
  subst e2
  clear hz
  obtain ⟨N, hok⟩ := taskFault_ok (T := T) (by rw [Hq.out])
  have Hok := hide hok
  clear hok
  have hct := fun W hT => Hre.out N W hT Hok.out
  cases hrr : refReach T with
  | none =>
    rw [hrr] at hct
    have Hmany := hide (reach_none Hok.out hrr)
    have Hct := hide hct
    clear hct hrr
    go_wp2_with fail
    with_reducible refine (Hct.out w3 (H.out.keep Hbl.out)).mono ?_
    rintro e w4 ⟨hb, rfl⟩
    clear Hct
    clear t0 t1 t2 t3 f0 f1 tl fl
    replace Ht := hide (Ht.out.keep hb)
    replace Hf := hide (Hf.out.keep hb)
    replace Hbl := hide (Hbl.out.trans (hb.mono Hbl.out.size))
    clear hb
    have t0 := Ht.out.cell 0
    have t1 := Ht.out.cell 1
    have t2 := Ht.out.cell 2
    have t3 := Ht.out.cell 3
    have tl := Ht.out.lt
    have f0 := Hf.out.cell 0
    have f1 := Hf.out.cell 1
    have fl := Hf.out.lt
    simp only [List.getElem?_cons_zero, List.getElem?_cons_succ] at t0 t1 t2 t3 f0 f1
    go_wp2_with fail
    with_reducible refine (At_ct 10 (-7) w4).mono ?_
    rintro e w5 ⟨rfl, hb⟩
    unfold fault
    clear t0 t1 t2 t3 f0 f1 tl fl
    replace Ht := hide (Ht.out.keep hb)
    replace Hf := hide (Hf.out.keep hb)
    replace Hbl := hide (Hbl.out.trans (hb.mono Hbl.out.size))
    clear hb
    have t0 := Ht.out.cell 0
    have t1 := Ht.out.cell 1
    have t2 := Ht.out.cell 2
    have t3 := Ht.out.cell 3
    have tl := Ht.out.lt
    have f0 := Hf.out.cell 0
    have f1 := Hf.out.cell 1
    have fl := Hf.out.lt
    simp only [List.getElem?_cons_zero, List.getElem?_cons_succ] at t0 t1 t2 t3 f0 f1
    have ff0 := Hf.out.frozen 0
    have ff1 := Hf.out.frozen 1
    go_upto_region 10 with (fail)
    have hyb := ((Hf.out.set 0 (.int .i64 10)).set 1 (.int .i64 (-7)))
    simp only [List.set_cons_zero, List.set_cons_succ] at hyb
    have hbW := (below_set ((below_set (Below.refl B0 w5) (g := gf) a_f 0 (.int .i64 10))) (g := gf) a_f 1 (.int .i64 (-7)))
    have hcW := ((Chg.refl (fun x => x = gf) w5).trans (Chg.set _ (gf) 0 (.int .i64 10))).trans (Chg.set _ (gf) 1 (.int .i64 (-7)))
    obtain ⟨w6, hW⟩ : ∃ W, W = ((w5).setCell ⟨gf, 0, none⟩ (.int .i64 10)).setCell ⟨gf, 1, none⟩ (.int .i64 (-7)) := ⟨_, rfl⟩
    rw [← hW] at hyb hbW hcW ⊢
    replace Hf := hide hyb
    clear hW hyb
    clear t0 t1 t2 t3 f0 f1 tl fl
    replace Ht := hide (hcW.blk Ht.out (by exact n_t_f))
    replace Hbl := hide (Hbl.out.trans (hbW.mono (Nat.le_of_eq HB0.out.symm)))
    clear hbW hcW
    have t0 := Ht.out.cell 0
    have t1 := Ht.out.cell 1
    have t2 := Ht.out.cell 2
    have t3 := Ht.out.cell 3
    have tl := Ht.out.lt
    have f0 := Hf.out.cell 0
    have f1 := Hf.out.cell 1
    have fl := Hf.out.lt
    simp only [List.getElem?_cons_zero, List.getElem?_cons_succ] at t0 t1 t2 t3 f0 f1
    go_wp2_with fail
    with_reducible refine (Hmk.out w6 (H.out.keep Hbl.out)).mono ?_
    rintro e w7 ⟨hb, hor⟩
    clear t0 t1 t2 t3 f0 f1 tl fl
    replace Ht := hide (Ht.out.keep hb)
    replace Hf := hide (Hf.out.keep hb)
    replace Hbl := hide (Hbl.out.trans (hb.mono Hbl.out.size))
    clear hb
    have t0 := Ht.out.cell 0
    have t1 := Ht.out.cell 1
    have t2 := Ht.out.cell 2
    have t3 := Ht.out.cell 3
    have tl := Ht.out.lt
    have f0 := Hf.out.cell 0
    have f1 := Hf.out.cell 1
    have fl := Hf.out.lt
    simp only [List.getElem?_cons_zero, List.getElem?_cons_succ] at t0 t1 t2 t3 f0 f1
    rcases hor with ⟨h2, _⟩ | ⟨h2, _, rfl⟩ | ⟨h2, l2, f2, A2, c2, hco2, _⟩
    · exact absurd rfl h2
    rotate_left
    · exact absurd hco2.list (fun h => many_list Hmany.out h)
    unfold fault
    go_upto_region 11 with (fail)
    have s_t : gT < w7.heap.size := tl
    have s_f : gf < w7.heap.size := fl
    have s_0 : B0 ≤ w7.heap.size := Nat.le_trans (Nat.le_of_eq HB0.out) Hbl.out.size
    have hym := Blk.new (w7) 29 [.int .i64 10, .int .i64 (-7)]
    have hbW : Below (w7).heap.size (w7) ((w7).alloc (.cells #[.int .i64 10, .int .i64 (-7)] 29)) := (Below.refl _ _).alloc (Nat.le_refl _) _
    obtain ⟨w8, hW⟩ : ∃ W, W = (w7).alloc (.cells #[.int .i64 10, .int .i64 (-7)] 29) := ⟨_, rfl⟩
    rw [← hW] at hym hbW ⊢
    replace Ht := hide (Ht.out.keep hbW)
    replace Hf := hide (Hf.out.keep hbW)
    replace Hbl := hide (Hbl.out.trans (hbW.mono Hbl.out.size))
    have Hm := hide hym
    clear hW hbW hym
    generalize w7.heap.size = gm at Hm s_t s_f s_0 ⊢
    have t0 := Ht.out.cell 0
    have t1 := Ht.out.cell 1
    have t2 := Ht.out.cell 2
    have t3 := Ht.out.cell 3
    have tl := Ht.out.lt
    have f0 := Hf.out.cell 0
    have f1 := Hf.out.cell 1
    have fl := Hf.out.lt
    have m0 := Hm.out.cell 0
    have m1 := Hm.out.cell 1
    have ml := Hm.out.lt
    simp only [List.getElem?_cons_zero, List.getElem?_cons_succ] at t0 t1 t2 t3 f0 f1 m0 m1
    clear s_t
    clear s_f
    have a_m : B0 ≤ gm := by omega
    clear s_0
    go_wp2_with fail
    go_ret
    exact ⟨ret_bool (by simp), Hbl.out⟩
  | some rl =>
    rw [hrr] at hct
    have Hrr := hide hrr
    have Hct := hide hct
    obtain ⟨m, hm⟩ : ∃ m, m = rl.length := ⟨_, rfl⟩
    unfold RReachP at Hct
    simp only [← hm] at Hct
    have Hm := hide hm
    clear hct hrr hm
    have hm2 : m ≤ 2000 := by rw [Hm.out]; exact (reach_some Hok.out Hrr.out).2.1
    go_wp2_with fail
    with_reducible refine (Hct.out w3 (H.out.keep Hbl.out)).mono ?_
    rintro e w4 ⟨hb, A1, c1, rfl, _⟩
    clear t0 t1 t2 t3 f0 f1 tl fl
    replace Ht := hide (Ht.out.keep hb)
    replace Hf := hide (Hf.out.keep hb)
    replace Hbl := hide (Hbl.out.trans (hb.mono Hbl.out.size))
    clear hb
    have t0 := Ht.out.cell 0
    have t1 := Ht.out.cell 1
    have t2 := Ht.out.cell 2
    have t3 := Ht.out.cell 3
    have tl := Ht.out.lt
    have f0 := Hf.out.cell 0
    have f1 := Hf.out.cell 1
    have fl := Hf.out.lt
    simp only [List.getElem?_cons_zero, List.getElem?_cons_succ] at t0 t1 t2 t3 f0 f1
    by_cases hbig : 150 < m
    · have hbi : (150 : Int) < (m : Int) := by omega
      go_wp2_with fail
      go_ret
      exact ⟨rfl, Hbl.out⟩
    have hbi : ¬ (150 : Int) < (m : Int) := by omega
    go_wp2_with fail
    with_reducible refine (Hmk.out w4 (H.out.keep Hbl.out)).mono ?_
    rintro e w5 ⟨hb, hor⟩
    clear t0 t1 t2 t3 f0 f1 tl fl
    replace Ht := hide (Ht.out.keep hb)
    replace Hf := hide (Hf.out.keep hb)
    replace Hbl := hide (Hbl.out.trans (hb.mono Hbl.out.size))
    clear hb
    have t0 := Ht.out.cell 0
    have t1 := Ht.out.cell 1
    have t2 := Ht.out.cell 2
    have t3 := Ht.out.cell 3
    have tl := Ht.out.lt
    have f0 := Hf.out.cell 0
    have f1 := Hf.out.cell 1
    have fl := Hf.out.lt
    simp only [List.getElem?_cons_zero, List.getElem?_cons_succ] at t0 t1 t2 t3 f0 f1
    rcases hor with ⟨h2, _⟩ | ⟨h2, hmany, _⟩ | ⟨h2, L, f, mA, mc, hcost, rfl, hmr⟩
    · exact absurd rfl h2
    · exact (costs_not_many Hok.out Hrr.out hmany).elim
    have Hcost := hide hcost
    have htb := boundsF_good Hok.out (by rw [Hq.out]) (made_tab Hok.out hcost)
    have Htb := hide htb
    have hlen2 : (mkTab L f).length ≤ 2000 := (made_tab Hok.out hcost).few
    obtain ⟨v, hv⟩ : ∃ v, v = f (wordF T.init) := ⟨_, rfl⟩
    rw [← hv]
    have Hv := hide hv
    obtain ⟨tb, htbe⟩ : ∃ tb, tb = mkTab L f := ⟨_, rfl⟩
    rw [← htbe] at Htb hmr hlen2 ⊢
    have Htbe := hide htbe
    obtain ⟨n, hn⟩ : ∃ n, n = tb.length := ⟨_, rfl⟩
    rw [← hn] at hmr hlen2 ⊢
    have Hn := hide hn
    have Hmr := hide hmr
    clear hcost hmr htb htbe hv hn h2
    unfold fault
    go_upto_region 11 with (fail)
    have s_t : gT < w5.heap.size := tl
    have s_f : gf < w5.heap.size := fl
    have s_0 : B0 ≤ w5.heap.size := Nat.le_trans (Nat.le_of_eq HB0.out) Hbl.out.size
    have hymm := Blk.new (w5) 29 [.int .i64 0, .int .i64 0]
    have hbW : Below (w5).heap.size (w5) ((w5).alloc (.cells #[.int .i64 0, .int .i64 0] 29)) := (Below.refl _ _).alloc (Nat.le_refl _) _
    obtain ⟨w6, hW⟩ : ∃ W, W = (w5).alloc (.cells #[.int .i64 0, .int .i64 0] 29) := ⟨_, rfl⟩
    rw [← hW] at hymm hbW ⊢
    replace Ht := hide (Ht.out.keep hbW)
    replace Hf := hide (Hf.out.keep hbW)
    replace Hmr := hide (Hmr.out.keep hbW)
    replace Hbl := hide (Hbl.out.trans (hbW.mono Hbl.out.size))
    have Hmm := hide hymm
    clear hW hbW hymm
    generalize w5.heap.size = gm at Hmm s_t s_f s_0 ⊢
    have t0 := Ht.out.cell 0
    have t1 := Ht.out.cell 1
    have t2 := Ht.out.cell 2
    have t3 := Ht.out.cell 3
    have tl := Ht.out.lt
    have f0 := Hf.out.cell 0
    have f1 := Hf.out.cell 1
    have fl := Hf.out.lt
    have mm0 := Hmm.out.cell 0
    have mm1 := Hmm.out.cell 1
    have mml := Hmm.out.lt
    simp only [List.getElem?_cons_zero, List.getElem?_cons_succ] at t0 t1 t2 t3 f0 f1 mm0 mm1
    clear s_t
    clear s_f
    have a_mm : B0 ≤ gm := by omega
    clear s_0
    go_wp2_with fail
    with_reducible refine (Hct.out w6 (H.out.keep Hbl.out)).mono ?_
    rintro e w7 ⟨hb, rA, rc, rfl, hrl⟩
    have Hrl := hide hrl
    clear hrl Hct
    clear t0 t1 t2 t3 f0 f1 mm0 mm1 tl fl mml
    replace Ht := hide (Ht.out.keep hb)
    replace Hf := hide (Hf.out.keep hb)
    replace Hmm := hide (Hmm.out.keep hb)
    replace Hmr := hide (Hmr.out.keep hb)
    replace Hbl := hide (Hbl.out.trans (hb.mono Hbl.out.size))
    clear hb
    have t0 := Ht.out.cell 0
    have t1 := Ht.out.cell 1
    have t2 := Ht.out.cell 2
    have t3 := Ht.out.cell 3
    have tl := Ht.out.lt
    have f0 := Hf.out.cell 0
    have f1 := Hf.out.cell 1
    have fl := Hf.out.lt
    have mm0 := Hmm.out.cell 0
    have mm1 := Hmm.out.cell 1
    have mml := Hmm.out.lt
    simp only [List.getElem?_cons_zero, List.getElem?_cons_succ] at t0 t1 t2 t3 f0 f1 mm0 mm1
    have hco2 := Hco.out N rA m rc rl w7 (H.out.keep Hbl.out) Hok.out Hrl.out (reach_some Hok.out Hrr.out).2.2 (reach_some Hok.out Hrr.out).2.1 (reach_some Hok.out Hrr.out).1
    unfold RCostsP at hco2
    rw [← Hm.out] at hco2
    go_wp2_with fail
    with_reducible refine hco2.mono ?_
    rintro e w8 ⟨hb, dA, dc, g, rfl, hdr, hg⟩
    have Hdr := hide hdr
    have Hag := hide (agree Hok.out Hrr.out Hcost.out hg)
    clear hco2 hdr hg
    clear t0 t1 t2 t3 f0 f1 mm0 mm1 tl fl mml
    replace Ht := hide (Ht.out.keep hb)
    replace Hf := hide (Hf.out.keep hb)
    replace Hmm := hide (Hmm.out.keep hb)
    replace Hmr := hide (Hmr.out.keep hb)
    replace Hrl := hide (Hrl.out.keep hb)
    replace Hbl := hide (Hbl.out.trans (hb.mono Hbl.out.size))
    clear hb
    have t0 := Ht.out.cell 0
    have t1 := Ht.out.cell 1
    have t2 := Ht.out.cell 2
    have t3 := Ht.out.cell 3
    have tl := Ht.out.lt
    have f0 := Hf.out.cell 0
    have f1 := Hf.out.cell 1
    have fl := Hf.out.lt
    have mm0 := Hmm.out.cell 0
    have mm1 := Hmm.out.cell 1
    have mml := Hmm.out.lt
    simp only [List.getElem?_cons_zero, List.getElem?_cons_succ] at t0 t1 t2 t3 f0 f1 mm0 mm1
    have hlo1 := Hrl.out.low
    have hlo2 := Hdr.out.low
    have hrle := Hrl.out.len
    have hm0 : 0 < m := by
      obtain ⟨r, hr⟩ := Hag.out.first
      rw [Hm.out, hr]
      simp
    have hgb := fun (s : List Int) (hs : s ∈ rl) => (show 0 ≤ bOf tb s ∧ bOf tb s ≤ infC from by
      rw [Htbe.out]
      exact ⟨by rw [← bW_of Hok.out.low (made_tab Hok.out Hcost.out).set ((reach_some Hok.out Hrr.out).2.2 s hs)]; exact (bW_range (made_tab Hok.out Hcost.out) _).1, by rw [← bW_of Hok.out.low (made_tab Hok.out Hcost.out).set ((reach_some Hok.out Hrr.out).2.2 s hs)]; exact (bW_range (made_tab Hok.out Hcost.out) _).2⟩)
    have Hgb := hide hgb
    clear hgb
    have Hrle := hide hrle
    clear hrle
    go_wp2_with fail
    have hg8 := Hbl.out.size
    have Ht8 := hide Ht.out
    have Hmm8 := hide Hmm.out
    clear t0 t1 t2 t3 f0 f1 mm0 mm1 tl fl mml
    go_loopw [12, 13] (fun cv iv wr => ∃ (p cn : Nat), p ≤ m ∧ iv = .int .i64 p ∧ cv = .int .i64 cn ∧ Qt w8 wr ∧ cn = cntF g (rl.take p) ∧ cn ≤ p) (fun _ iv _ => m - (intOf iv).toNat)
    case atStart => exact ⟨0, 0, by omega, rfl, rfl, Qt.refl _, by simp [cntF], by omega⟩
    case round =>
      obtain ⟨p, cn, hp, rfl, rfl, hq, hcn, hcp⟩ := hrel
      have Hq8 := hide hq
      have Hcn := hide hcn
      replace Ht := hide (Ht8.out.qt hq)
      replace Hmm := hide (Hmm8.out.qt hq)
      clear hq hcn
      by_cases hlt : p < m
      rotate_left
      · obtain rfl : p = m := by omega
        have hcn := Hcn.out
        rw [List.take_of_length_le (by rw [Hrle.out]; omega), Hag.out.cnt, ← Htbe.out, ← Hn.out] at hcn
        subst hcn
        have hbw := Hq8.out.below w8.heap.size
        replace Hbl := hide (Hbl.out.trans (hbw.mono hg8))
        have hbf := Hbf.out mA cn mc tb wr (H.out.keep Hbl.out) (Hmr.out.keep hbw)
        rw [Htb.out] at hbf
        unfold fault at hbf
        dsimp only at hbf
        have Hbf2 := hide hbf
        have hff := field_fault 0 0
        obtain ⟨b0, o0, x0, rfl, hx0, _, _, c0⟩ := (Hdr.out.keep hbw).int hm0
        have hx1 : x0 = v := by
          obtain ⟨r, hr⟩ := Hag.out.first
          rw [List.getElem?_map, hr] at hx0
          have := Option.some.inj hx0
          rw [← this, Hv.out]
          exact Hag.out.start
        subst hx1
        have hmi : (0 : Int) < (p : Int) := by omega
        have hvv : (x0 == x0) = true := by simp
        rw [Nat.add_zero] at c0
        clear hbf hbw hx0
        have t0 := Ht.out.cell 0
        have t1 := Ht.out.cell 1
        have t2 := Ht.out.cell 2
        have t3 := Ht.out.cell 3
        have tl := Ht.out.lt
        have mm0 := Hmm.out.cell 0
        have mm1 := Hmm.out.cell 1
        have mml := Hmm.out.lt
        simp only [List.getElem?_cons_zero, List.getElem?_cons_succ] at t0 t1 t2 t3 mm0 mm1
        go_wp2_with fail
        with_reducible refine Hbf2.out.mono ?_
        rintro e w9 ⟨rfl, hb⟩
        have Hfin := hide (Hbl.out.trans (hb.mono Hbl.out.size))
        clear hb
        go_wp2_with fail
        go_ret
        exact ⟨ret_bool (by simp), Hfin.out⟩
      obtain ⟨b1, o1, s, A2, n2, c2, rfl, hs, hcs, hrs⟩ := (Hrl.out.qt Hq8.out).sl hlt
      obtain ⟨b2, o2, y, rfl, hy, _, _, hcy⟩ := (Hdr.out.qt Hq8.out).int hlt
      have hmem := List.mem_of_getElem? hs
      have hyv : y = bOf tb s := by
        rw [List.getElem?_map, hs] at hy
        have := Option.some.inj hy
        rw [← this, Htbe.out]
        exact Hag.out.val s hmem
      have hyg : y = g (wordF s) := by
        rw [List.getElem?_map, hs] at hy
        exact (Option.some.inj hy).symm
      have hct := fun W (hW : Qt wr W) => RBoundOf_ct mA A2 n mc n2 c2 tb s W (Hmr.out.qt (Hq8.out.trans hW)) (hrs.qt hW)
      obtain ⟨hy0, hy1⟩ := Hgb.out s hmem
      rw [← hyv] at hy0 hy1
      simp only [← hyv] at hct
      unfold infC at hy1
      have hstep := cntF_succ (f := g) hs
      rw [← hyg] at hstep
      have Hct2 := hide hct
      have Hstep := hide hstep
      have hpm : (p : Int) < (m : Int) := by omega
      have hyy : (y != y) = false := by simp
      clear hct hstep hs hy hmem hyv hyg hrs
      go_upto_region 19 with (fail)
      go_quiet ((go_at_call 17; with_reducible exact quiet_call (Hct2.out _ ((Qt.refl _).drewN _))))
      obtain ⟨w9, hW⟩ : ∃ W, W = wr.drewN nq := ⟨_, rfl⟩
      have hq9 : Qt wr w9 := ⟨_, hW⟩
      have hcy9 : w9.cell? ⟨b2, o2 + p, none⟩ = some (.int .i64 y) := by rw [hW]; exact hcy
      rw [← hW]
      clear hW hcy hcs
      by_cases hpos : 0 < y
      · have hstep := Hstep.out
        rw [if_pos hpos, ← Hcn.out] at hstep
        replace Hstep := hide hstep
        clear hstep
        go_wp2_with fail
        go_roundw
        case rel => exact ⟨p + 1, cn + 1, by omega, by go_num, by go_num, Hq8.out.trans hq9, Hstep.out.symm, by omega⟩
        case measure => simp [intOf]; omega
      · have hstep := Hstep.out
        rw [if_neg hpos, ← Hcn.out] at hstep
        replace Hstep := hide hstep
        clear hstep
        go_wp2_with fail
        go_roundw
        case rel => exact ⟨p + 1, cn, by omega, by go_num, rfl, Hq8.out.trans hq9, Hstep.out.symm, by omega⟩
        case measure => simp [intOf]; omega
end Go.Proofs.Ytliggcmohcdchaa
