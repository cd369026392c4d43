/- The law HierarchyPlanMatchesSpec of the package hierarchy holds, without a condition., part 29: Hpl Hxm. -/
import Derived.Test.YtmjiiddncbhgpaaGreatF1
import Derived.Test.YtmjiiddncbhgpaaGreatF2
import Derived.Test.YtmjiiddncbhgpaaGreatF3
import Derived.Test.YtmjiiddncbhgpaaGreatF4
import Derived.Test.YtmjiiddncbhgpaaGreatF5
import Derived.Test.YtmjiiddncbhgpaaGreatF6
import Derived.Test.YtmjiiddncbhgpaaGreatF7
import Derived.Test.YtmjiiddncbhgpaaGreatF8
import Derived.Test.YtmjiiddncbhgpaaGreatF9
import Derived.Test.YtmjiiddncbhgpaaGreatF10
import Derived.Test.YtmjiiddncbhgpaaGreatF11
import Derived.Test.YtmjiiddncbhgpaaGreatF12
import Derived.Test.YtmjiiddncbhgpaaGreatF13
import Derived.Test.YtmjiiddncbhgpaaGreatF14
import Derived.Test.YtmjiiddncbhgpaaGreatF15
import Derived.Test.YtmjiiddncbhgpaaGreatF16
import Derived.Test.YtmjiiddncbhgpaaGreatF17
import Derived.Test.YtmjiiddncbhgpaaGreatF19
import Derived.Test.YtmjiiddncbhgpaaGreatF20
import Derived.Test.YtmjiiddncbhgpaaGreatF21
import Derived.Test.YtmjiiddncbhgpaaGreatF22
import Derived.Test.YtmjiiddncbhgpaaGreatF23
import Derived.Test.YtmjiiddncbhgpaaGreatF24
import Derived.Test.YtmjiiddncbhgpaaGreatF25
import Derived.Test.YtmjiiddncbhgpaaGreatF26
import Derived.Test.YtmjiiddncbhgpaaGreatF27
import Derived.Test.YtmjiiddncbhgpaaGreatF28
import Derived.BigQuiet
import Derived.BigRegionIn
import Derived.Deep.AppendLies
import Derived.Deep.DeepCutAuto
import Derived.Deep.Draws
import Derived.Deep.Fields
import Derived.Deep.LoopGhost
import Derived.Deep.QuietTactic
import Derived.Deep.RegionHeld3
import Derived.Deep.Slices
import Derived.DeepKeys4
import Derived.Ground.Names2Prog
import Derived.Ground.SlgnProg
import Derived.Ground.SlsfProg
import Derived.IntWalk
import Derived.Laws.AppendOwnNone
import Derived.Laws.BitsAllLaws
import Derived.Laws.OwnMore
import Derived.Lib.Hide
import Derived.Lib.SlicesCompact
import Derived.LoopIn
import Derived.LoopNIn
import Derived.Maps.AppendAt
import Derived.Maps.OwnIn
import Derived.Maps.OwnOps
import Derived.Maps.OwnSet
import Derived.OrdersHeld
import Derived.OrdersIn
import Derived.OwnWalkIn
import Derived.RangeFuncBound
import Derived.RangeFuncCalls
import Derived.RangeFuncKeeps
import Derived.RangeFuncLeaves
import Derived.RangeFuncNested
import Derived.Shelf.Abstract
import Derived.Shelf.RegionOpen
import Derived.Shelf.SlSortCmp.Whole1
import Derived.Shelf.Slices.Cells
import Derived.Shelf.Slices.Clone
import Derived.Shelf.Slices.CompactI
import Derived.Shelf.Slices.Empties
import Derived.Shelf.Slices.In.SortNone
import Derived.Shelf.Slices.SearchI
import Derived.Shelf.Sort.Plain
import Derived.Sort.CutIn
import Derived.Sort.OwnSortedInts
import Derived.StillTail
import Derived.StillTailTactics
import Derived.TacticsInMore
import Derived.Test.YtmjiiddncbhgpaaGreatProg
import Derived.WalkKit
import Derived.WideKeyEntry
namespace Go.Proofs.YtmjiiddncbhgpaaGreat
set_option linter.unusedVariables false
set_option linter.unusedSimpArgs false
open Go.RowKit Go.Shelf Go.Maps
attribute [local go_sem] Oper.semAt_some
/-- what Plan answers -/
def PlanR (h : Hy) (lim : Int) (l : List Int) (ok : Bool) (fc fi : Int) : Prop :=
  ((hierFault h).1 ≠ 0 ∧ (fc, fi) = hierFault h ∧ ok = false ∧ l = []) ∨ ((hierFault h).1 = 0 ∧ (lim < 0 ∨ 8 < lim) ∧ fc = 3 ∧ fi = -8 ∧ ok = false ∧ l = []) ∨
  ((hierFault h).1 = 0 ∧ (0 ≤ lim ∧ lim ≤ 8) ∧ (TooMany h.T ∨ ∃ L, ListOf h.T L ∧ 64 < L.length) ∧ fc = 10 ∧ fi = -7 ∧ ok = false ∧ l = []) ∨
  ((hierFault h).1 = 0 ∧ (0 ≤ lim ∧ lim ≤ 8) ∧ (∃ L, ListOf h.T L ∧ L.length ≤ 64) ∧ fc = 0 ∧ fi = 0 ∧ ((ok = true ∧ GoodP h l ∧ (l.length : Int) ≤ lim ∧ ∀ p, GoodP h p → l.length ≤ p.length) ∨ (ok = false ∧ l = [] ∧ ∀ p, GoodP h p → lim < p.length)))
def PlP (w : World) (h : Hy) (lim : Int) (e : Ending) (w' : World) : Prop :=
  Below w.heap.size w w' ∧ ∃ (O : Option Addr) (n oc : Nat) (l : List Int) (ok : Bool) (fc fi : Int), e = .returned (.tuple #[.slice O n oc, .bool ok, fault fc fi]) ∧ RowZ w.heap.size w' O n oc l ∧ PlanR h lim l ok fc fi
/-- the best goal among the spots seen: its state, the operators left -/
def BestI (gs : Nat → Bool) (l : List Spot) (k bi : Nat) (bl : Int) : Prop := (bl = -1 ∧ ∀ p ∈ l.take k, gs p.1 = false) ∨ (0 ≤ bl ∧ (bi, bl) ∈ l ∧ gs bi = true ∧ ∀ p ∈ l.take k, gs p.1 = true → p.2 ≤ bl)
theorem BestI.skip {gs : Nat → Bool} {l : List Spot} {k bi : Nat} {bl : Int} {p : Spot} (h : BestI gs l k bi bl) (hp : l[k]? = some p) (hg : gs p.1 = false) : BestI gs l (k + 1) bi bl := by
  rcases h with ⟨h1, h2⟩ | ⟨h1, h2, h3, h4⟩
  · refine .inl ⟨h1, fun y hy => ?_⟩
    rcases (take_one hp y).1 hy with hy | rfl
    · exact h2 y hy
    · exact hg
  · refine .inr ⟨h1, h2, h3, fun y hy hgy => ?_⟩
    rcases (take_one hp y).1 hy with hy | rfl
    · exact h4 y hy hgy
    · rw [hg] at hgy
      cases hgy
theorem BestI.less {gs : Nat → Bool} {l : List Spot} {k bi : Nat} {bl : Int} {p : Spot} (h : BestI gs l k bi bl) (hp : l[k]? = some p) (hp0 : 0 ≤ p.2) (hl : ¬ bl < p.2) : BestI gs l (k + 1) bi bl := by
  rcases h with ⟨h1, h2⟩ | ⟨h1, h2, h3, h4⟩
  · omega
  · refine .inr ⟨h1, h2, h3, fun y hy hgy => ?_⟩
    rcases (take_one hp y).1 hy with hy | rfl
    · exact h4 y hy hgy
    · omega
theorem BestI.more {gs : Nat → Bool} {l : List Spot} {k bi : Nat} {bl : Int} {p : Spot} (h : BestI gs l k bi bl) (hp : l[k]? = some p) (hp0 : 0 ≤ p.2) (hl : bl < p.2) (hg : gs p.1 = true) : BestI gs l (k + 1) p.1 p.2 := by
  refine .inr ⟨hp0, List.mem_of_getElem? hp, hg, fun y hy hgy => ?_⟩
  rcases (take_one hp y).1 hy with hy | rfl
  · rcases h with ⟨h1, h2⟩ | ⟨h1, h2, h3, h4⟩
    · rw [h2 y hy] at hgy
      cases hgy
    · have := h4 y hy hgy
      omega
  · omega
theorem chg_cell {w w' : World} {M : Nat → Prop} (h : Chg M w w') {p : Addr} {v : Value} (hc : w.cell? p = some v) (hM : ¬ M p.block) : w'.cell? p = some v := by
  have h1 := h.block p.block (World.block_lt_of_cell? w _ hc) hM
  rw [← hc]
  unfold World.cell?
  simp only [h1]
set_option maxRecDepth 100000 in
set_option maxHeartbeats 12800000 in
theorem HierPlan_ct (b : HA) (h : Hy) (lim : Int) (w : World) (hlim1 : -9223372036854775808 ≤ lim) (hlim2 : lim ≤ 9223372036854775807) (hh : HyR w b h) :
    Calls Tryz.prog 22 #[.agg #[.int .i64 h.T.facts, .slice b.a.I b.a.nI b.a.cI, .slice b.a.G b.a.nG b.a.cG, .slice b.a.O b.a.nO b.a.cO, .int .i64 h.tasks, .slice b.M b.nM b.cM, .slice b.L b.nL b.cL], .int .i64 lim] w (PlP w h lim) := by
  have hchk := Checked_ct
  have hval := fun W hW => hvalidate_ct b h W hW
  have hck := fun W hW => hchk b.a h.T W hW
  have hol := hh.task.ops.len
  have hml := hh.ms.len
  have hmw := hh.ms.low
  have hll := hh.list.len
  have hlw := hh.list.low
  have hlst := hh.list
  have hmth := hh.ms
  have htk := hh.task
  obtain ⟨⟨I, nI, cI, G, nG, cG, O, nO, cO⟩, M, nM, cM, L, nL, cL⟩ := b
  simp only at hval hck hol hml hmw hll hlw hlst hmth htk ⊢
  rcases hq : hierFault h with ⟨ec, ei⟩
  rw [hq] at hval
  have Hq := hide hq
  have Hval := hide hval
  have Hck := hide hck
  have H := hide hh
  have Hol := hide hol
  have Hml := hide hml
  have Hll := hide hll
  have Hlst := hide hlst
  have Hmth := hide hmth
  have Htk := hide htk
  clear hval hck hh hq hol hml hll hlst hmth htk
  go_enter Tryz.func22, Tryz.ntmps22
  go_upto_region 1 with (fail)
  have bH := (Blk.new w 50 [.int .i64 h.T.facts, .slice I nI cI, .slice G nG cG, .slice O nO cO, .int .i64 h.tasks, .slice M nM cM, .slice L nL cL]).alloc (.cells #[.int .i64 0, .int .i64 0] 29)
  have bR := Blk.new (w.alloc (.cells #[.int .i64 h.T.facts, .slice I nI cI, .slice G nG cG, .slice O nO cO, .int .i64 h.tasks, .slice M nM cM, .slice L nL cL] 50)) 29 [.int .i64 0, .int .i64 0]
  have hb0 := below_two w (.cells #[.int .i64 h.T.facts, .slice I nI cI, .slice G nG cG, .slice O nO cO, .int .i64 h.tasks, .slice M nM cM, .slice L nL cL] 50) (.cells #[.int .i64 0, .int .i64 0] 29)
  simp only [World.size_alloc] at bR
  change Blk 29 ((w.alloc (.cells #[.int .i64 h.T.facts, .slice I nI cI, .slice G nG cG, .slice O nO cO, .int .i64 h.tasks, .slice M nM cM, .slice L nL cL] 50)).alloc (.cells #[.int .i64 0, .int .i64 0] 29)) (w.heap.size + 1) [.int .i64 0, .int .i64 0] at bR
  change Blk 50 ((w.alloc (.cells #[.int .i64 h.T.facts, .slice I nI cI, .slice G nG cG, .slice O nO cO, .int .i64 h.tasks, .slice M nM cM, .slice L nL cL] 50)).alloc (.cells #[.int .i64 0, .int .i64 0] 29)) w.heap.size [.int .i64 h.T.facts, .slice I nI cI, .slice G nG cG, .slice O nO cO, .int .i64 h.tasks, .slice M nM cM, .slice L nL cL] at bH
  obtain ⟨w0, hw0⟩ : ∃ Z, Z = (w.alloc (.cells #[.int .i64 h.T.facts, .slice I nI cI, .slice G nG cG, .slice O nO cO, .int .i64 h.tasks, .slice M nM cM, .slice L nL cL] 50)).alloc (.cells #[.int .i64 0, .int .i64 0] 29) := ⟨_, rfl⟩
  rw [← hw0] at bH bR hb0 ⊢
  clear hw0
  obtain ⟨Bh, hBh⟩ : ∃ z, z = w.heap.size := ⟨_, rfl⟩
  rw [← hBh] at bH bR ⊢
  have HBh := hide hBh
  clear hBh
  have h_0 := bH.cell 0
  have h_1 := bH.cell 1
  have h_2 := bH.cell 2
  have h_3 := bH.cell 3
  have h_4 := bH.cell 4
  have h_5 := bH.cell 5
  have h_6 := bH.cell 6
  simp only [List.getElem?_cons_zero, List.getElem?_cons_succ] at h_0 h_1 h_2 h_3 h_4 h_5 h_6
  have BH := hide bH
  have BR := hide bR
  have Hb0 := hide hb0
  clear bH bR hb0
  go_wp2_with fail
  with_reducible refine (Hval.out w0 (H.out.keep Hb0.out)).mono ?_
  rintro e w1 ⟨rfl, hb1⟩
  clear h_0 h_1 h_2 h_3 h_4 h_5 h_6
  replace BH := hide (BH.out.keep hb1)
  replace BR := hide (BR.out.keep hb1)
  replace Hb0 := hide (Hb0.out.trans (hb1.mono Hb0.out.size))
  clear hb1
  unfold fault
  go_upto_region 2 with (fail)
  have bQ := Blk.new w1 29 [.int .i64 ec, .int .i64 ei]
  have hb2 : Below w1.heap.size w1 (w1.alloc (.cells #[.int .i64 ec, .int .i64 ei] 29)) := (Below.refl _ _).alloc (Nat.le_refl _) _
  change Blk 29 (w1.alloc (.cells #[.int .i64 ec, .int .i64 ei] 29)) w1.heap.size [.int .i64 ec, .int .i64 ei] at bQ
  have lR := BR.out.lt
  obtain ⟨w2, hw2⟩ : ∃ Z, Z = w1.alloc (.cells #[.int .i64 ec, .int .i64 ei] 29) := ⟨_, rfl⟩
  rw [← hw2] at bQ hb2 ⊢
  clear hw2
  obtain ⟨Bq, hBq⟩ : ∃ z, z = w1.heap.size := ⟨_, rfl⟩
  rw [← hBq] at bQ lR ⊢
  replace BH := hide (BH.out.keep hb2)
  replace BR := hide (BR.out.keep hb2)
  replace Hb0 := hide (Hb0.out.trans (hb2.mono Hb0.out.size))
  clear hb2 hBq
  have q_0 := bQ.cell 0
  have q_1 := bQ.cell 1
  have q_l := bQ.lt
  have r_0 := BR.out.cell 0
  have r_1 := BR.out.cell 1
  have r_l := BR.out.lt
  have rf0 := BR.out.frozen 0
  have rf1 := BR.out.frozen 1
  have n_r_q : ¬ Bh + 1 = Bq := by omega
  have n_q_r : ¬ Bq = Bh + 1 := by omega
  simp only [List.getElem?_cons_zero, List.getElem?_cons_succ] at q_0 q_1 r_0 r_1
  by_cases hne : ec = 0
  rotate_left
  · go_upto_region 3 with (fail)
    go_region
    all_goals go_wp2_with fail
    all_goals refine bodyPost_ret (v := .tuple #[.slice none 0 0, .bool false, fault ec ei]) (by simp [results, Tryz.results22, go_sem, fault, r_0, r_1, r_l]) rfl ?_
    all_goals refine ⟨?_, none, 0, 0, [], false, ec, ei, rfl, .nil _ _, .inl ⟨by rw [Hq.out]; exact hne, Hq.out.symm, rfl, rfl⟩⟩
    all_goals (have hbx := HBh.out)
    all_goals repeat' (first | (with_reducible exact Hb0.out) | (with_reducible refine Below.drew ?_) | (with_reducible refine below_setH ?_ ?_ _ _) | omega)
  · subst hne
    obtain ⟨N, K, hok, hz⟩ := hierFault_ok (h := h) (by rw [Hq.out])
    rw [Hq.out] at hz
    obtain ⟨_, e2⟩ := Prod.mk.inj hz
    subst e2
    clear hz
    have Hok := hide hok
    clear hok
    by_cases hl0 : lim < 0 ∨ 8 < lim
    · go_upto_region 4 with (fail)
      clear q_0 q_1 q_l n_r_q n_q_r
      rcases hl0 with hl0 | hl0
      all_goals
        have Hl0 := hide hl0
        (try have hl1 : ¬ lim < 0 := by omega)
        go_wp2_with fail
      all_goals refine bodyPost_ret (v := .tuple #[.slice none 0 0, .bool false, fault 3 (-8)]) (by simp [results, Tryz.results22, go_sem, fault, r_0, r_1, r_l]) rfl ?_
      all_goals refine ⟨?_, none, 0, 0, [], false, 3, -8, rfl, .nil _ _, .inr (.inl ⟨by rw [Hq.out], (by have := Hl0.out; omega), rfl, rfl, rfl, rfl⟩)⟩
      all_goals (have hbx := HBh.out)
      all_goals repeat' (first | (with_reducible exact Hb0.out) | (with_reducible refine Below.drew ?_) | (with_reducible refine below_setH ?_ ?_ _ _) | omega)
    · obtain ⟨lm, rfl⟩ : ∃ k : Nat, lim = (k : Int) := ⟨lim.toNat, by omega⟩
      have hlm : lm ≤ 8 := by omega
      have hlmI : ¬ ((lm : Int) < 0) := by omega
      have hlmJ : ¬ ((8 : Int) < (lm : Int)) := by omega
      clear hl0
      have h_0 := BH.out.cell 0
      have h_1 := BH.out.cell 1
      have h_2 := BH.out.cell 2
      have h_3 := BH.out.cell 3
      simp only [List.getElem?_cons_zero, List.getElem?_cons_succ] at h_0 h_1 h_2 h_3
      go_upto_region 6 with (fail)
      clear q_0 q_1 q_l n_r_q n_q_r r_0 r_1 r_l rf0 rf1
      go_wp2_with fail
      with_reducible refine (Hck.out w2 (Htk.out.keep Hb0.out)).mono ?_
      rintro e w3 ⟨hb3, hcase⟩
      clear h_0 h_1 h_2 h_3
      replace BH := hide (BH.out.keep hb3)
      replace BR := hide (BR.out.keep hb3)
      have hz23 := Hb0.out.size
      have hlR2 := BR.out.lt
      rcases hcase with ⟨h1, rfl⟩ | ⟨h1, htm, rfl⟩ | ⟨h1, g, SA, sc, st, rfl, hg1, hg2, hws, hrow, hlist⟩
      · exfalso
        have hq := Hq.out
        unfold hierFault at hq
        rw [if_pos h1] at hq
        rw [hq] at h1
        exact h1 rfl
      · replace Hb0 := hide (Hb0.out.trans (hb3.mono Hb0.out.size))
        have Htm := hide htm
        clear hb3 htm
        unfold fault
        go_upto_region 7 with (fail)
        have bS := Blk.new w3 29 [.int .i64 10, .int .i64 (-7)]
        have hb4 : Below w3.heap.size w3 (w3.alloc (.cells #[.int .i64 10, .int .i64 (-7)] 29)) := (Below.refl _ _).alloc (Nat.le_refl _) _
        change Blk 29 (w3.alloc (.cells #[.int .i64 10, .int .i64 (-7)] 29)) w3.heap.size [.int .i64 10, .int .i64 (-7)] at bS
        have lR := BR.out.lt
        obtain ⟨w4, hw4⟩ : ∃ Z, Z = w3.alloc (.cells #[.int .i64 10, .int .i64 (-7)] 29) := ⟨_, rfl⟩
        rw [← hw4] at bS hb4 ⊢
        clear hw4
        obtain ⟨Bs, hBs⟩ : ∃ z, z = w3.heap.size := ⟨_, rfl⟩
        rw [← hBs] at bS lR ⊢
        replace BH := hide (BH.out.keep hb4)
        replace BR := hide (BR.out.keep hb4)
        replace Hb0 := hide (Hb0.out.trans (hb4.mono Hb0.out.size))
        clear hb4 hBs
        have s_0 := bS.cell 0
        have s_1 := bS.cell 1
        have s_l := bS.lt
        have r_0 := BR.out.cell 0
        have r_1 := BR.out.cell 1
        have r_l := BR.out.lt
        have rf0 := BR.out.frozen 0
        have rf1 := BR.out.frozen 1
        have n_r_s : ¬ Bh + 1 = Bs := by omega
        have n_s_r : ¬ Bs = Bh + 1 := by omega
        simp only [List.getElem?_cons_zero, List.getElem?_cons_succ] at s_0 s_1 r_0 r_1
        go_upto_region 10 with (fail)
        go_region
        all_goals go_wp2_with fail
        all_goals refine bodyPost_ret (v := .tuple #[.slice none 0 0, .bool false, fault 10 (-7)]) (by simp [results, Tryz.results22, go_sem, fault, r_0, r_1, r_l]) rfl ?_
        all_goals refine ⟨?_, none, 0, 0, [], false, 10, -7, rfl, .nil _ _, .inr (.inr (.inl ⟨by rw [Hq.out], (by omega), .inl Htm.out, rfl, rfl, rfl, rfl⟩))⟩
        all_goals (have hbx := HBh.out)
        all_goals repeat' (first | (with_reducible exact Hb0.out) | (with_reducible refine Below.drew ?_) | (with_reducible refine below_setH ?_ ?_ _ _) | omega)
      · have Hws := hide (fun w'' (hb : Below w3.heap.size w3 w'') => hws w'' (Chg.of_below hb _))
        have Hb3 := hide hb3
        have HbC := hide (Hb0.out.trans (hb3.mono Hb0.out.size))
        have Hrow := hide hrow
        have Hlist := hide hlist
        clear hws hb3 hrow hlist Hb0 h1
        unfold fault
        go_upto_region 7 with (fail)
        have bS := Blk.new w3 29 [.int .i64 0, .int .i64 0]
        have hb4 : Below w3.heap.size w3 (w3.alloc (.cells #[.int .i64 0, .int .i64 0] 29)) := (Below.refl _ _).alloc (Nat.le_refl _) _
        change Blk 29 (w3.alloc (.cells #[.int .i64 0, .int .i64 0] 29)) w3.heap.size [.int .i64 0, .int .i64 0] at bS
        have lR := BR.out.lt
        obtain ⟨w4, hw4⟩ : ∃ Z, Z = w3.alloc (.cells #[.int .i64 0, .int .i64 0] 29) := ⟨_, rfl⟩
        rw [← hw4] at bS hb4 ⊢
        clear hw4
        obtain ⟨Bs, hBs⟩ : ∃ z, z = w3.heap.size := ⟨_, rfl⟩
        rw [← hBs] at bS lR ⊢
        have Hb4 := hide hb4
        replace BH := hide (BH.out.keep hb4)
        replace BR := hide (BR.out.keep hb4)
        have Hb0 := hide (HbC.out.trans (hb4.mono HbC.out.size))
        clear hb4 hBs
        have s_0 := bS.cell 0
        have s_1 := bS.cell 1
        have s_l := bS.lt
        have r_0 := BR.out.cell 0
        have r_1 := BR.out.cell 1
        have r_l := BR.out.lt
        have rf0 := BR.out.frozen 0
        have rf1 := BR.out.frozen 1
        have n_r_s : ¬ Bh + 1 = Bs := by omega
        have n_s_r : ¬ Bs = Bh + 1 := by omega
        simp only [List.getElem?_cons_zero, List.getElem?_cons_succ] at s_0 s_1 r_0 r_1
        by_cases h64 : 64 < st.length
        · have h64I : (64 : Int) < (st.length : Int) := by omega
          have H64 := hide h64
          clear h64
          have sf0 := bS.frozen 0
          have sf1 := bS.frozen 1
          go_upto_region 10 with (fail)
          have bS5 := (bS.set 0 (.int .i64 10)).set 1 (.int .i64 (-7))
          have bR5 := (BR.out.far (p := ⟨Bs, 0, none⟩) n_r_s (.int .i64 10)).far (p := ⟨Bs, 1, none⟩) n_r_s (.int .i64 (-7))
          have hbx := HBh.out
          have hb5 : Below w.heap.size w ((w4.setCell ⟨Bs, 0, none⟩ (.int .i64 10)).setCell ⟨Bs, 1, none⟩ (.int .i64 (-7))) := (Hb0.out.setCell (p := ⟨Bs, 0, none⟩) (by show w.heap.size ≤ Bs; omega) _).setCell (p := ⟨Bs, 1, none⟩) (by show w.heap.size ≤ Bs; omega) _
          simp only [List.set_cons_zero, List.set_cons_succ] at bS5
          obtain ⟨w5, hw5⟩ : ∃ Z, Z = (w4.setCell ⟨Bs, 0, none⟩ (.int .i64 10)).setCell ⟨Bs, 1, none⟩ (.int .i64 (-7)) := ⟨_, rfl⟩
          rw [← hw5] at bS5 bR5 hb5 ⊢
          clear hw5 s_0 s_1 s_l r_0 r_1 r_l rf0 rf1 sf0 sf1
          have Hb5 := hide hb5
          clear hb5
          have s_0 := bS5.cell 0
          have s_1 := bS5.cell 1
          have s_l := bS5.lt
          have r_0 := bR5.cell 0
          have r_1 := bR5.cell 1
          have r_l := bR5.lt
          have rf0 := bR5.frozen 0
          have rf1 := bR5.frozen 1
          simp only [List.getElem?_cons_zero, List.getElem?_cons_succ] at s_0 s_1 r_0 r_1
          clear hbx
          go_region
          all_goals go_wp2_with fail
          all_goals refine bodyPost_ret (v := .tuple #[.slice none 0 0, .bool false, fault 10 (-7)]) (by simp [results, Tryz.results22, go_sem, fault, r_0, r_1, r_l]) rfl ?_
          all_goals refine ⟨?_, none, 0, 0, [], false, 10, -7, rfl, .nil _ _, .inr (.inr (.inl ⟨by rw [Hq.out], (by omega), .inr ⟨st, Hlist.out, H64.out⟩, rfl, rfl, rfl, rfl⟩))⟩
          all_goals (have hbx := HBh.out)
          all_goals repeat' (first | (with_reducible exact Hb5.out) | (with_reducible refine Below.drew ?_) | (with_reducible refine below_setH ?_ ?_ _ _) | omega)
        · have h64I : ¬ (64 : Int) < (st.length : Int) := by omega
          go_upto_region 11 with (fail)
          clear s_0 s_1 s_l r_0 r_1 r_l rf0 rf1 n_r_s n_s_r bS
          have h_0 := BH.out.cell 0
          have h_1 := BH.out.cell 1
          have h_2 := BH.out.cell 2
          have h_3 := BH.out.cell 3
          have h_4 := BH.out.cell 4
          have h_5 := BH.out.cell 5
          have h_6 := BH.out.cell 6
          simp only [List.getElem?_cons_zero, List.getElem?_cons_succ] at h_0 h_1 h_2 h_3 h_4 h_5 h_6
          have hW4 := Hws.out w4 Hb4.out
          have hst4 := (Hrow.out.rd).keep Hb4.out
          have hnr := newRefiner_ct (.int .i64 h.T.facts) (.slice I nI cI) (.slice G nG cG) (.slice O nO cO) (.int .i64 h.tasks) (.slice M nM cM) (.slice L nL cL) g (wordF h.T.init) (wordF h.T.goal) (h.T.ops.map mkOp) SA st.length sc st lm w4 hW4 hst4 Hlist.out.all.once Hlist.out.few Hlist.out.step
          have Hnr := hide hnr
          have HW4 := hide hW4
          have Hst4 := hide hst4
          clear hnr hW4 hst4
          have hmsr : ∀ m ∈ h.ms, 0 ≤ m.task ∧ m.task < 16 ∧ (∀ x ∈ m.pre, 0 ≤ x ∧ x < 32) ∧ (∀ x ∈ m.steps, -1000 ≤ x ∧ x < 1000) ∧ m.steps.length ≤ 1000 := fun m hm => by
            have hK := Hok.out.low
            have h1 := Hok.out.mt m hm
            have h2 := setB_iff.1 (Hok.out.mp m hm)
            have h3 := Hok.out.ml m hm
            have hN := Hok.out.task.low
            have hops := Hok.out.task.few
            refine ⟨h1.1, by omega, fun x hx => by have := h2.2 x hx; omega, fun x hx => by have := h3.rng x hx; omega, by have := h3.few; omega⟩
          have Hmsr := hide hmsr
          have hlr : ∀ x ∈ h.list, -1000 ≤ x ∧ x < 1000 := fun x hx => by
            have hK := Hok.out.low
            have hops := Hok.out.task.few
            have := Hok.out.list.rng x hx
            omega
          have Hlr := hide hlr
          clear hmsr hlr
          go_wp2_with fail
          with_reducible refine Hnr.out.mono ?_
          rintro e w5 ⟨hb5, Rb, am, rm, bm, rfl, hlo, hRf, hKn⟩
          have hcl := close_ct w4 w5 Rb g (wordF h.T.init) (wordF h.T.goal) (h.T.ops.map mkOp) SA st.length sc st am rm bm (.int .i64 h.T.facts) (.slice I nI cI) (.slice G nG cG) (.slice O nO cO) (.int .i64 h.tasks) (.slice L nL cL) M nM cM h.ms lm hb5 HW4.out Hst4.out (Hmth.out.keep Hb0.out) hlo hRf hKn Hmsr.out (by omega) hlm
          have Hcl := hide hcl
          have Hb5 := hide hb5
          clear hb5 hlo hRf hKn hcl h_0 h_1 h_2 h_3 h_4 h_5 h_6
          go_wp2_with fail
          with_reducible refine Hcl.out.mono ?_
          rintro e w6 ⟨rfl, hb6, hRf6, R, r, cr, cb, rows, bk, hKn6, hI6, hno6, hr6, hfull6, hin6⟩
          have hb06 := Hb0.out.trans (hb6.mono Hb0.out.size)
          have Hcl6 := hb6
          obtain ⟨f, hf⟩ : ∃ f : FC, f = ⟨Rb, g, wordF h.T.init, wordF h.T.goal, h.T.ops.map mkOp, SA, st.length, sc, st, am, rm, bm, .int .i64 h.T.facts, .slice I nI cI, .slice G nG cG, .slice O nO cO, .int .i64 h.tasks, .slice L nL cL, lm, w4.heap.size, cr, cb, R, rows, bk, M, nM, cM, h.ms⟩ := ⟨_, rfl⟩
          have hFx : FxS f w6 := by rw [hf]; exact ⟨hRf6, hKn6, Hmth.out.keep hb06⟩
          have hFk : FxK f := by rw [hf]; exact ⟨hin6, hfull6, fun c q hq => ⟨by have := (hI6.sound c q hq).2.1; omega, (hI6.sound c q hq).2.2⟩, Hmsr.out, by show st.length ≤ 64; omega, hlm⟩
          have bH6 := BH.out.keep hb6
          have bR6 := BR.out.keep hb6
          obtain ⟨i0, hi0⟩ := ixF_mem st (wordF h.T.init) ((Hlist.out.all.mem _).2 .start)
          have hi0s := ixF_some st _ i0 hi0
          have hi0l := (List.getElem?_eq_some_iff.1 hi0s).1
          have r9 := hRf6.blk.cell 9
          simp only [List.getElem?_cons_zero, List.getElem?_cons_succ] at r9
          have hs0lt : wordF h.T.init < 4294967296 := HW4.out.start
          have hlook : ∀ W' : World, W'.heap[am]? = w6.heap[am]? → (Instr.lookup 103 (.map (some am)) (.int .u32 ((wordF h.T.init : Nat) : Int)) false).run Tryz.prog W' = .ok (.int .i64 (i0 : Int)) W' := fun W' e => by
            have := hRf6.atm.look1 (int_keyed Tryz.underlying78) (T := 103) (E := 3) Tryz.underlying103 zeroIA (keyW Tryz.underlying78 hs0lt) W' e
            simpa [hi0, encW] using this
          have Hlook := hide hlook
          have HFx := hide hFx
          have HFk := hide hFk
          have Hf := hide hf
          have HRf6 := hide hRf6
          have HKn6 := hide hKn6
          have HI6 := hide hI6
          have Hno6 := hide hno6
          have Hr6 := hide hr6
          have Hfull6 := hide hfull6
          have Hin6 := hide hin6
          have Hb6 := hide hb06
          have BH6 := hide bH6
          have BR6 := hide bR6
          have Hi0s := hide hi0s
          clear hlook hFx hFk hf hRf6 hKn6 hI6 hno6 hr6 hfull6 hin6 hb06 hb6 bH6 bR6 hi0 hi0s
          go_upto_region 13 with (fail)
          obtain ⟨w7, hw7⟩ : ∃ Z, Z = w6.drew := ⟨_, rfl⟩
          have hb7 : Below w6.heap.size w6 w7 := by rw [hw7]; exact (Below.refl _ _).drew
          have Hb7 := hide hb7
          clear hb7
          refine wp_region_held_drew (S := (fun w' => w'.cell? ⟨Rb, 9, none⟩ = some (.map (some am)) ∧ w'.heap[am]? = w6.heap[am]?)) (by kernel_rfl) ?_ (fun hHeld => ?_)
          · exact ⟨r9, rfl⟩
          rw [← hw7] at hHeld ⊢
          clear hw7 r9
          refine takeA (i := 0) (v := ?_) (some 58) rfl rfl (by kernel_rfl) (by kernel_rfl) (by kernel_rfl) (fun _ _ _ h => h) (Or.inl ⟨by rfl, ?_⟩) (by assumption) ?_
          rotate_left
          · intro w hSw; (try dsimp only at hSw); obtain ⟨s1, s2⟩ := hSw; first | (go_simp; done) | (go_simp; with_reducible rfl)
          try simp only [Act.put, List.setIfInBounds_toArray, List.set_cons_zero, List.set_cons_succ]
          refine takeA (i := 1) (v := ?_) (some 59) rfl rfl (by kernel_rfl) (by kernel_rfl) (by kernel_rfl) (fun _ _ _ h => h) (Or.inl ⟨by rfl, ?_⟩) (by assumption) ?_
          rotate_left
          · intro w hSw; (try dsimp only at hSw); obtain ⟨s1, s2⟩ := hSw; first | (go_simp; done) | (go_simp; with_reducible rfl)
          try simp only [Act.put, List.setIfInBounds_toArray, List.set_cons_zero, List.set_cons_succ]
          refine takeA (i := 2) (v := ?_) (some 60) rfl rfl (by kernel_rfl) (by kernel_rfl) (by kernel_rfl) (fun _ _ _ h => h) (Or.inl ⟨by rfl, ?_⟩) (by assumption) ?_
          rotate_left
          · intro w hSw; (try dsimp only at hSw); obtain ⟨s1, s2⟩ := hSw; first | (go_simp; done) | (go_simp; with_reducible rfl)
          try simp only [Act.put, List.setIfInBounds_toArray, List.set_cons_zero, List.set_cons_succ]
          refine takeA (i := 3) (v := ?_) (some 61) rfl rfl (by kernel_rfl) (by kernel_rfl) (by kernel_rfl) (fun _ _ _ h => h) (Or.inl ⟨by rfl, ?_⟩) (by assumption) ?_
          rotate_left
          · intro w hSw; (try dsimp only at hSw); obtain ⟨s1, s2⟩ := hSw; first | (go_simp; done) | (go_simp; with_reducible rfl)
          try simp only [Act.put, List.setIfInBounds_toArray, List.set_cons_zero, List.set_cons_succ]
          refine takeA (i := 4) (v := ?_) (some 62) rfl rfl (by kernel_rfl) (by kernel_rfl) (by kernel_rfl) (fun _ _ _ h => h) (Or.inl ⟨by rfl, ?_⟩) (by assumption) ?_
          rotate_left
          · intro w hSw; (try dsimp only at hSw); obtain ⟨s1, s2⟩ := hSw; first | (go_simp; done) | (go_simp; with_reducible rfl)
          try simp only [Act.put, List.setIfInBounds_toArray, List.set_cons_zero, List.set_cons_succ]
          refine wpAnyH_ready (rs := [5]) (by kernel_rfl) (by simp) ?_
          refine AllReadyH.cons rfl (fun K hK => ?_) AllReadyH.nil
          go_simp
          refine (Start_ct g (wordF h.T.init) (wordF h.T.goal) (h.T.ops.map mkOp) w7 ((HRf6.out.keep Hb7.out).words)).mono ?_
          rintro e w8 ⟨rfl, rfl⟩
          go_simp
          refine hK.out _ _ ?_ (fun hHeld2 => ?_)
          · exact hHeld
          clear hK K hHeld
          try simp only [Act.put, List.setIfInBounds_toArray, List.set_cons_zero, List.set_cons_succ]
          have hHeld := hHeld2; clear hHeld2
          refine takeA (i := 6) (v := ?_) (some 64) rfl rfl (by kernel_rfl) (by kernel_rfl) (by kernel_rfl) (fun _ _ _ h => h) (Or.inl ⟨by rfl, ?_⟩) (by assumption) ?_
          rotate_left
          · intro w hSw; (try dsimp only at hSw); obtain ⟨s1, s2⟩ := hSw; have hlk := Hlook.out w s2; first | (go_simp; done) | (go_simp; with_reducible rfl)
          try simp only [Act.put, List.setIfInBounds_toArray, List.set_cons_zero, List.set_cons_succ]
          refine takeA (i := 7) (v := ?_) (some 12) rfl rfl (by kernel_rfl) (by kernel_rfl) (by kernel_rfl) (fun _ _ _ h => h) (Or.inl ⟨by rfl, ?_⟩) (by assumption) ?_
          rotate_left
          · intro w hSw; (try dsimp only at hSw); obtain ⟨s1, s2⟩ := hSw; first | (go_simp; done) | (go_simp; with_reducible rfl)
          try simp only [Act.put, List.setIfInBounds_toArray, List.set_cons_zero, List.set_cons_succ]
          refine wpAnyH_done (by kernel_rfl) ?_ _
          clear hHeld
          go_upto_region 15 with (fail)
          have bB := Blk.new w7 110 [.int .i64 0, .int .i64 (-1)]
          have hb8 : Below w7.heap.size w7 (w7.alloc (.cells #[.int .i64 0, .int .i64 (-1)] 110)) := (Below.refl _ _).alloc (Nat.le_refl _) _
          change Blk 110 (w7.alloc (.cells #[.int .i64 0, .int .i64 (-1)] 110)) w7.heap.size [.int .i64 0, .int .i64 (-1)] at bB
          obtain ⟨w8, hw8⟩ : ∃ Z, Z = w7.alloc (.cells #[.int .i64 0, .int .i64 (-1)] 110) := ⟨_, rfl⟩
          rw [← hw8] at bB hb8 ⊢
          clear hw8
          obtain ⟨Bb, hBb⟩ : ∃ z, z = w7.heap.size := ⟨_, rfl⟩
          rw [← hBb] at bB ⊢
          have bH7 := BH6.out.keep Hb7.out
          have bR7 := BR6.out.keep Hb7.out
          have h_6 := (bH7.keep hb8).cell 6
          simp only [List.getElem?_cons_zero, List.getElem?_cons_succ] at h_6
          have Hb07 := hide (Hb6.out.trans (Hb7.out.mono Hb6.out.size))
          have hnL : nL ≤ 1000 := by have h1 := Hll.out; have h2 := Hok.out.list.few; omega
          have hsp := spread_ct w8 Rb g (wordF h.T.init) (wordF h.T.goal) (h.T.ops.map mkOp) SA st.length sc st am rm bm (.int .i64 h.T.facts) (.slice I nI cI) (.slice G nG cG) (.slice O nO cO) (.int .i64 h.tasks) (.slice M nM cM) (.slice L nL cL) lm ((HRf6.out.keep Hb7.out).keep hb8) w4.heap.size cr cb R rows bk ((HKn6.out.keep Hb7.out).keep hb8) (fun c hc => (Hin6.out c hc).2) (by omega) hlm L nL cL h.list ((Hlst.out.keep Hb07.out).keep hb8) hnL Hlr.out i0 1073741824 hi0l (fun c q hq _ => Hfull6.out c q hq)
          rw [show ((1073741824 : Nat) : Int) = (1073741824 : Int) from rfl] at hsp
          have Hsp := hide hsp
          have BB8 := hide bB
          have Hb8 := hide hb8
          have BH7 := hide bH7
          have BR7 := hide bR7
          have HBb := hide hBb
          clear hsp bB hb8 bH7 bR7 hBb
          go_wp2_with fail
          with_reducible refine Hsp.out.mono ?_
          rintro e w9 ⟨hb9, PA, pn, pc, l, rfl, hrd, hins, hbd, hty⟩
          have bB9 := BB8.out.keep hb9
          have hb79 := Hb8.out.trans (hb9.mono Hb8.out.size)
          have hplow := hrd.low
          have hpl := hrd.len
          have Hb79 := hide hb79
          have Hrd := hide hrd
          have Hins := hide hins
          have Hbd := hide hbd
          have BB9 := hide bB9
          have Hpl := hide hpl
          clear hb79 hrd hins hbd hty bB9 hb9 h_6 hpl
          go_wp2_with fail
          go_loopw [72] (fun o wr => ∃ (k bi : Nat) (bl : Int), k ≤ pn ∧ o = .int .i64 k ∧ -1 ≤ bl ∧ bl ≤ 8 ∧ Blk 110 wr Bb [.int .i64 bi, .int .i64 bl] ∧ Chg (fun b => b = Bb) w9 wr ∧ BestI (fun i => goalW (wordF h.T.goal) ((st[i]?).getD 0)) l k bi bl) (fun o _ => pn - (intOf o).toNat)
          case atStart => exact ⟨0, 0, -1, by omega, rfl, by omega, by omega, BB9.out, Chg.refl _ _, .inl ⟨rfl, fun p hp => by simp at hp⟩⟩
          case round =>
            obtain ⟨k, bi, bl, hkn, rfl, hbl0, hbl8, hbB, hcg, hbest⟩ := hrel
            have hBb7 := HBb.out
            have hb7r : Below w7.heap.size w7 wr := Hb79.out.trans (hcg.below (fun b e => by omega) Hb79.out.size)
            have Hb7r := hide hb7r
            have Hcg := hide hcg
            have Hbest := hide hbest
            have BBr := hide hbB
            clear hb7r hcg hbest hbB hBb7
            by_cases hlt : k < pn
            rotate_left
            · obtain rfl : k = pn := by omega
              have b_1 := BBr.out.cell 1
              have b_0 := BBr.out.cell 0
              have bRr := BR7.out.keep Hb7r.out
              have r_0 := bRr.cell 0
              have r_1 := bRr.cell 1
              have r_l := bRr.lt
              have rf0 := bRr.frozen 0
              have rf1 := bRr.frozen 1
              simp only [List.getElem?_cons_zero, List.getElem?_cons_succ] at b_0 b_1 r_0 r_1
              have HbW := hide (Hb07.out.trans (Hb7r.out.mono Hb07.out.size))
              clear bRr
              have hnone : ∀ p, GoodP h p → p.length ≤ lm → ∃ j s, (j, (lm : Int) - p.length) ∈ l ∧ st[j]? = some s ∧ goalW (wordF h.T.goal) s = true := fun p hp hpl => best_law Hok.out Hlist.out Hi0s.out HI6.out Hno6.out (last := 1073741824) (fun c q hq => by have h1 := (HI6.out.sound c q hq).2.1; have h2 := Hr6.out; omega) Hins.out hp hpl
              have Hnone := hide hnone
              clear hnone
              by_cases hneg : bl < 0
              · have hall := Hbest.out.resolve_right (fun e => by omega)
                have Hall := hide hall
                clear hall
                go_wp2_with fail
                refine bodyPost_ret (v := .tuple #[.slice none 0 0, .bool false, fault 0 0]) (by simp [results, Tryz.results22, go_sem, fault, r_0, r_1, r_l]) rfl ?_
                refine ⟨?_, none, 0, 0, [], false, 0, 0, rfl, .nil _ _, .inr (.inr (.inr ⟨by rw [Hq.out], (by omega), ⟨st, Hlist.out, by omega⟩, rfl, rfl, .inr ⟨rfl, rfl, fun p hp => ?_⟩⟩))⟩
                · have hbx := HBh.out
                  repeat' (first | (with_reducible exact HbW.out) | (with_reducible refine Below.drew ?_) | (with_reducible refine below_setH ?_ ?_ _ _) | omega)
                · rcases Nat.lt_or_ge lm p.length with h1 | h1
                  · omega
                  · obtain ⟨j, s, g1, g2, g3⟩ := Hnone.out p hp h1
                    have := Hall.out.2 (j, (lm : Int) - p.length) (by rw [List.take_of_length_le (by have := Hpl.out; omega)]; exact g1)
                    simp only [g2, Option.getD_some] at this
                    rw [g3] at this
                    cases this
              · obtain ⟨e1, hmem, hgs, hmax⟩ := Hbest.out.resolve_left (fun e => by omega)
                obtain ⟨_, nn, e2, hspr⟩ := (Hins.out.2 _).1 hmem
                simp only at e2 hspr
                have hbi := (Hbd.out _ hmem).1
                simp only at hbi
                have hnnI : (lm : Int) - bl = (nn : Int) := by omega
                have hnnw : IntKind.i64.wrap ((lm : Int) - bl) = (nn : Int) := by rw [IntWalk.i64_in _ (by omega)]; omega
                have hnn8 : nn ≤ lm := by omega
                have hb6r := Hb7.out.trans (Hb7r.out.mono Hb7.out.size)
                have hFr := HFx.out.keep hb6r
                have hll4 : h.list.length ≤ 1000 := by have := Hok.out.list.few; omega
                have hLr := Hlst.out.keep HbW.out
                have hKf := HFk.out
                obtain ⟨fe, hfe⟩ : ∃ fe, fe = f := ⟨_, rfl⟩
                have hf := Hf.out
                have hex := exact_all f hKf 1073741824 (by omega) h.list Hlr.out hll4 wr L nL cL i0 bi nn hFr hLr (by rw [hf]; exact hi0l) (by rw [hf]; exact hbi) (by rw [hf]; exact hnn8)
                rw [hf] at hex
                dsimp only at hex
                rw [show ((1073741824 : Nat) : Int) = (1073741824 : Int) from rfl] at hex
                have Hex := hide hex
                have bHr := BH7.out.keep Hb7r.out
                have h_6 := bHr.cell 6
                simp only [List.getElem?_cons_zero, List.getElem?_cons_succ] at h_6
                have Hgood := hide (And.intro hmem (And.intro hgs (And.intro hmax (And.intro e2 hspr))))
                clear hex hFr hKf hf hfe hLr hmem hgs hmax e2 hspr hb6r bHr r_0 r_1 r_l rf0 rf1
                go_upto_region 24 with (go_at_call 67; refine Hex.out.mono ?_; rintro e w10 ⟨hb10, O, mO, oc, l7, ok, rfl, hrow7, hlen7, hiff7, hseg7⟩; (obtain rfl : ok = true := hiff7.2 Hgood.out.2.2.2.2); have Hb10 := hide hb10; have Hrow7 := hide hrow7; have Hseg7 := hide (hseg7 rfl); clear hb10 hrow7 hlen7 hiff7 hseg7)
                have bR10 := (BR7.out.keep Hb7r.out).keep Hb10.out
                have r_0 := bR10.cell 0
                have r_1 := bR10.cell 1
                have r_l := bR10.lt
                have rf0 := bR10.frozen 0
                have rf1 := bR10.frozen 1
                simp only [List.getElem?_cons_zero, List.getElem?_cons_succ] at r_0 r_1
                have HbE := hide (HbW.out.trans (Hb10.out.mono HbW.out.size))
                clear bR10 h_6 b_0 b_1
                go_wp2_with fail
                refine bodyPost_ret (v := .tuple #[.slice O mO oc, .bool true, fault 0 0]) (by simp [results, Tryz.results22, go_sem, fault, r_0, r_1, r_l]) rfl ?_
                obtain ⟨hmem, hgs, hmax, e2, hspr⟩ := Hgood.out
                obtain ⟨hl7, hsg⟩ := Hseg7.out
                have hbx := HBh.out
                have hset : Chg (fun b => b = Bh + 1) w10 ((w10.setCell ⟨Bh + 1, 0, none⟩ (.int .i64 0)).setCell ⟨Bh + 1, 1, none⟩ (.int .i64 0)) := (Chg.set w10 (Bh + 1) 0 _).trans (Chg.set _ (Bh + 1) 1 _)
                have hszW := HbW.out.size
                have hnB : ∀ r, blkA O = some r → ¬ r = Bh + 1 := fun r hr e => by
                  have h1 := (Hrow7.out.base hr).1
                  have h2 := (BR7.out.keep Hb7r.out).lt
                  omega
                obtain ⟨vs7, hown7⟩ := Hrow7.out
                have hrowE : RowZ w.heap.size ((w10.setCell ⟨Bh + 1, 0, none⟩ (.int .i64 0)).setCell ⟨Bh + 1, 1, none⟩ (.int .i64 0)) O mO oc l7 := RowZ.mono ⟨vs7, hown7.chg hset (fun _ _ => trivial) hnB⟩ hszW
                have hbi2 : st[bi]? = some st[bi] := List.getElem?_eq_getElem hbi
                simp only [hbi2, Option.getD_some] at hgs
                refine ⟨?_, O, mO, oc, l7, true, 0, 0, rfl, hrowE, .inr (.inr (.inr ⟨by rw [Hq.out], (by omega), ⟨st, Hlist.out, by omega⟩, rfl, rfl, .inl ⟨rfl, (good_iff Hok.out Hlist.out Hi0s.out l7).2 ⟨bi, hbi, (seg_iff Hok.out Hlist.out).1 hsg, by rw [← goal_iff Hok.out Hlist.out hbi2]; exact hgs⟩, by omega, fun p hp => ?_⟩⟩))⟩
                · repeat' (first | (with_reducible exact HbE.out) | (with_reducible refine Below.drew ?_) | (with_reducible refine below_setH ?_ ?_ _ _) | omega)
                · rcases Nat.lt_or_ge lm p.length with h1 | h1
                  · omega
                  · obtain ⟨j, s, g1, g2, g3⟩ := Hnone.out p hp h1
                    have := hmax (j, (lm : Int) - p.length) (by rw [List.take_of_length_le (by have := Hpl.out; omega)]; exact g1) (by simp only [g2, Option.getD_some]; exact g3)
                    simp only at this
                    omega
            · have hki : (k : Int) < (pn : Int) := by omega
              obtain ⟨lb, lo, p, ePA, hpk, hpo, y0, y1⟩ := Hrd.out.spot (k := k) hlt
              have hpm := List.mem_of_getElem? hpk
              have hp0 := ((Hins.out.2 p).1 hpm).1
              obtain ⟨hpS, hpL⟩ := Hbd.out p hpm
              have hlbB : lb ≠ Bb := fun e => by
                obtain ⟨lb2, lo2, p2, e2, hpk2, _, u0, u1⟩ := Hrd.out.spot (k := 0) (by omega)
                rw [ePA] at e2
                injection e2 with e2
                injection e2 with e3 e4
                subst e3 e4
                have hq0 := ((Hins.out.2 p2).1 (List.mem_of_getElem? hpk2)).1
                rw [e] at u1
                have hc := BB9.out.cell (lo + 0 * 2 + 1)
                rw [u1] at hc
                rcases Nat.eq_zero_or_pos lo with h0 | h0
                · subst h0
                  simp at hc
                  omega
                · rw [List.getElem?_eq_none (by simp; omega)] at hc
                  cases hc
              replace y0 := chg_cell Hcg.out y0 hlbB
              replace y1 := chg_cell Hcg.out y1 hlbB
              subst ePA
              have Hpk := hide hpk
              have hpI : (p.1 : Int) < (st.length : Int) := by omega
              have hb4r : Below w4.heap.size w4 wr := ((Hcl6).trans (Hb7.out.mono Hcl6.size)).trans (Hb7r.out.mono (Nat.le_trans Hcl6.size Hb7.out.size))
              obtain ⟨sb, so, s, eS, hs1, hs32, hcS⟩ := (Hst4.out.keep hb4r).word (k := p.1) hpS
              subst eS
              have hwr : WordsR wr g (wordF h.T.init) (wordF h.T.goal) (h.T.ops.map mkOp) := HW4.out.keep hb4r
              have Hwr := hide hwr
              have Hs1 := hide hs1
              clear hpk hpm hpS hb4r hwr hs1 hlbB
              go_upto_region 18 with (fail)
              have hal := (Below.refl wr.heap.size wr).alloc (Nat.le_refl _) (.cells #[.int .i64 (p.1 : Int), .int .i64 p.2] 110)
              have bP := Blk.new wr 110 [.int .i64 (p.1 : Int), .int .i64 p.2]
              change Blk 110 (wr.alloc (.cells #[.int .i64 (p.1 : Int), .int .i64 p.2] 110)) wr.heap.size [.int .i64 (p.1 : Int), .int .i64 p.2] at bP
              have bBl := BBr.out.lt
              obtain ⟨V, hV⟩ : ∃ Z, Z = wr.alloc (.cells #[.int .i64 (p.1 : Int), .int .i64 p.2] 110) := ⟨_, rfl⟩
              rw [← hV] at hal bP ⊢
              clear hV y0 y1
              obtain ⟨Bp, hBp⟩ : ∃ z, z = wr.heap.size := ⟨_, rfl⟩
              rw [← hBp] at bP bBl ⊢
              have n_b_p : ¬ Bb = Bp := by omega
              have n_p_b : ¬ Bp = Bb := by omega
              have s_c := (hal.cell (p := ⟨sb, so + p.1, none⟩) (World.block_lt_of_cell? wr _ hcS)).trans hcS
              have bBv := BBr.out.keep hal
              have hgc := Goal_ct g (wordF h.T.init) (wordF h.T.goal) (h.T.ops.map mkOp) s V (Hwr.out.keep hal) hs32
              have p_0 := bP.cell 0
              have p_1 := bP.cell 1
              have b_1 := bBv.cell 1
              simp only [List.getElem?_cons_zero, List.getElem?_cons_succ] at p_0 p_1 b_1
              have HAl := hide hal
              have BP := hide bP
              have BBv := hide bBv
              clear hal bP bBv hBp hcS bBl
              have hmore : ∀ wg, Qt V wg → Chg (fun b => b = Bb) w9 wg := fun wg hq => Hcg.out.trans (Chg.of_below (HAl.out.trans ((hq.below V.heap.size).mono HAl.out.size)) _)
              have Hmore := hide hmore
              clear hmore
              cases hgs : goalW (wordF h.T.goal) s with
              | false =>
                rw [hgs] at hgc
                have Hgc := hide hgc
                have Hgs := hide hgs
                clear hgc hgs
                go_wp2_with (go_at_call 54; refine Hgc.out.mono ?_; rintro e wg ⟨rfl, hqt⟩; have Hqt := hide hqt; clear hqt)
                go_roundw
                case rel => exact ⟨k + 1, bi, bl, by omega, by go_num, hbl0, hbl8, BBv.out.keep (Hqt.out.below _), Hmore.out _ Hqt.out, Hbest.out.skip Hpk.out (by simp only [Hs1.out, Option.getD_some]; exact Hgs.out)⟩
                case measure => simp [intOf]; omega
              | true =>
                rw [hgs] at hgc
                have Hgc := hide hgc
                have Hgs := hide hgs
                clear hgc hgs
                by_cases hgt : bl < p.2
                · go_wp2_with (go_at_call 54; refine Hgc.out.mono ?_; rintro e wg ⟨rfl, hqt⟩; (have hbP := BP.out.keep (hqt.below _)); (have hbB := BBv.out.keep (hqt.below _)); (have p_0 := hbP.cell 0); (have p_1 := hbP.cell 1); (have b_0 := hbB.cell 0); (have b_1 := hbB.cell 1); (have b_l := hbB.lt); (have bf0 := hbB.frozen 0); (have bf1 := hbB.frozen 1); (simp only [List.getElem?_cons_zero, List.getElem?_cons_succ] at p_0 p_1 b_0 b_1); have Hqt := hide hqt; have HbB := hide hbB; clear hqt hbP hbB)
                  have bN := (HbB.out.set 0 (.int .i64 (p.1 : Int))).set 1 (.int .i64 p.2)
                  simp only [List.set_cons_zero, List.set_cons_succ] at bN
                  have hset : Chg (fun b => b = Bb) wg ((wg.setCell ⟨Bb, 0, none⟩ (.int .i64 (p.1 : Int))).setCell ⟨Bb, 1, none⟩ (.int .i64 p.2)) := (Chg.set wg Bb 0 _).trans (Chg.set _ Bb 1 _)
                  go_roundw
                  case rel => exact ⟨k + 1, p.1, p.2, by omega, by go_num, by omega, by omega, bN, (Hmore.out _ Hqt.out).trans hset, Hbest.out.more Hpk.out hp0 hgt (by simp only [Hs1.out, Option.getD_some]; exact Hgs.out)⟩
                  case measure => simp [intOf]; omega
                · go_wp2_with (go_at_call 54; refine Hgc.out.mono ?_; rintro e wg ⟨rfl, hqt⟩; (have hbP := BP.out.keep (hqt.below _)); (have hbB := BBv.out.keep (hqt.below _)); (have p_0 := hbP.cell 0); (have p_1 := hbP.cell 1); (have b_0 := hbB.cell 0); (have b_1 := hbB.cell 1); (simp only [List.getElem?_cons_zero, List.getElem?_cons_succ] at p_0 p_1 b_0 b_1); have Hqt := hide hqt; clear hqt hbP hbB)
                  go_roundw
                  case rel => exact ⟨k + 1, bi, bl, by omega, by go_num, hbl0, hbl8, BBv.out.keep (Hqt.out.below _), Hmore.out _ Hqt.out, Hbest.out.less Hpk.out hp0 (by omega)⟩
                  case measure => simp [intOf]; omega
end Go.Proofs.YtmjiiddncbhgpaaGreat
namespace Go.Proofs.YtmjiiddncbhgpaaGreat
set_option linter.unusedVariables false
set_option linter.unusedSimpArgs false
open Go.RowKit
def oneH : Hy := ⟨oneT, 1, [⟨0, [], [0]⟩], [-1]⟩
theorem oneh_fault : hierFault oneH = (0, 0) := by decide +kernel
theorem oneh_dec : decFault oneH [0] = (0, 0) := by decide +kernel
theorem oneh_ref : RefP oneH [0] := by
  refine ⟨by decide +kernel, ?_⟩
  exact .task (m := ⟨0, [], [0]⟩) (by omega) (by simp [oneH]) rfl (by decide +kernel) (.op (by omega) rfl .nil) .nil
theorem oneh_good : GoodP oneH [0] := ⟨fun x hx => by
  have : x = 0 := by simpa using hx
  subst this
  exact ⟨by omega, by decide +kernel⟩, oneh_ref, by decide +kernel⟩
theorem oneh_arc {s t : Nat} {c : Int} (h : arcW (oneT.ops.map mkOp) s t c) : t = s ||| 1 ∧ c = 3 := by
  obtain ⟨m, hm, _, rfl, rfl⟩ := h
  have : m = mkOp ⟨[], [0], [], 3⟩ := by simpa [oneT] using hm
  subst this
  have hw : wordF [0] = 1 := by decide +kernel
  have h0 : wordF ([] : List Int) = 0 := by decide +kernel
  refine ⟨?_, rfl⟩
  unfold goW mkOp
  simp only [hw, h0]
  unfold lessW
  simp
theorem oneh_reach {x : Nat} (h : Reach (stepW (oneT.ops.map mkOp)) (wordF oneT.init) x) : x = 0 ∨ x = 1 := by
  have h0 : wordF oneT.init = 0 := by decide +kernel
  rw [h0] at h
  induction h with
  | start => exact .inl rfl
  | step hr hs ih =>
    obtain ⟨c, ha⟩ := step_arc.1 hs
    obtain ⟨rfl, _⟩ := oneh_arc ha
    rcases ih with rfl | rfl
    · exact .inr rfl
    · exact .inr rfl
theorem oneh_few {l : List Nat} (hn : l.Nodup) (h : ∀ x ∈ l, Reach (stepW (oneT.ops.map mkOp)) (wordF oneT.init) x) : l.length ≤ 2 :=
  List.Nodup.length_le_of_subset (l₂ := [0, 1]) hn fun x hx => by
    rcases oneh_reach (h x hx) with rfl | rfl <;> simp
theorem oneh_plan {l : List Int} {ok : Bool} {fc fi : Int} (h : PlanR oneH 3 l ok fc fi) : l = [0] ∧ ok = true ∧ fc = 0 ∧ fi = 0 := by
  rcases h with ⟨h, _⟩ | ⟨_, h, _⟩ | ⟨_, _, h, _⟩ | ⟨_, _, _, rfl, rfl, ⟨rfl, h1, h2, h3⟩ | ⟨_, _, h3⟩⟩
  · exact absurd (by rw [oneh_fault]) h
  · omega
  · exfalso
    rcases h with ⟨m, h1, h2, h3⟩ | ⟨L, h1, h2⟩
    · have := oneh_few h1 h2
      omega
    · have := oneh_few h1.all.once (fun x hx => (h1.all.mem x).1 hx)
      omega
  · refine ⟨?_, rfl, rfl, rfl⟩
    have h4 := h3 [0] oneh_good
    match l, h1, h4 with
    | [], h1, _ => exact absurd h1.2.2 (by decide +kernel)
    | [x], h1, _ =>
      have := h1.1 x (by simp)
      have h5 : oneH.T.ops.length = 1 := by decide +kernel
      rw [h5] at this
      obtain rfl : x = 0 := by omega
      rfl
    | x :: y :: l, _, h4 => simp at h4
  · have := h3 [0] oneh_good
    simp at this
def hyVo (h : Hy) (b : HA) : Value := .agg #[.int .i64 h.T.facts, .slice b.a.I b.a.nI b.a.cI, .slice b.a.G b.a.nG b.a.cG, .slice b.a.O b.a.nO b.a.cO, .int .i64 h.tasks, .slice b.M b.nM b.cM, .slice b.L b.nL b.cL]
def OneHP (w : World) (e : Ending) (w' : World) : Prop := Below w.heap.size w w' ∧ ∃ b : HA, e = .returned (hyVo oneH b) ∧ HyR w' b oneH
theorem b1_ (w : World) (X0 : Obj) : Blk 3 ((((w.alloc X0).alloc (.cells #[.int .i64 0] 3)).alloc (.cells #[.int .i64 0] 3)).alloc (.cells #[.slice none 0 0, .slice (some ⟨w.heap.size + 1 + 1, 0, none⟩) 1 1, .slice none 0 0, .int .i64 3] 81)) (w.heap.size + 1) [.int .i64 0] := by
  have b1 := Blk.new (w.alloc X0) 3 [.int .i64 0]
  simp only [World.size_alloc] at b1
  exact (b1.alloc (.cells #[.int .i64 0] 3)).alloc (.cells #[.slice none 0 0, .slice (some ⟨w.heap.size + 1 + 1, 0, none⟩) 1 1, .slice none 0 0, .int .i64 3] 81)
theorem b2_ (w : World) (X0 : Obj) : Blk 3 ((((w.alloc X0).alloc (.cells #[.int .i64 0] 3)).alloc (.cells #[.int .i64 0] 3)).alloc (.cells #[.slice none 0 0, .slice (some ⟨w.heap.size + 1 + 1, 0, none⟩) 1 1, .slice none 0 0, .int .i64 3] 81)) (w.heap.size + 1 + 1) [.int .i64 0] := by
  have b2 := Blk.new ((w.alloc X0).alloc (.cells #[.int .i64 0] 3)) 3 [.int .i64 0]
  simp only [World.size_alloc] at b2
  exact b2.alloc (.cells #[.slice none 0 0, .slice (some ⟨w.heap.size + 1 + 1, 0, none⟩) 1 1, .slice none 0 0, .int .i64 3] 81)
theorem b3_ (w : World) (X0 : Obj) : Blk 81 ((((w.alloc X0).alloc (.cells #[.int .i64 0] 3)).alloc (.cells #[.int .i64 0] 3)).alloc (.cells #[.slice none 0 0, .slice (some ⟨w.heap.size + 1 + 1, 0, none⟩) 1 1, .slice none 0 0, .int .i64 3] 81)) (w.heap.size + 1 + 1 + 1) [.slice none 0 0, .slice (some ⟨w.heap.size + 1 + 1, 0, none⟩) 1 1, .slice none 0 0, .int .i64 3] := by
  have b3 := Blk.new (((w.alloc X0).alloc (.cells #[.int .i64 0] 3)).alloc (.cells #[.int .i64 0] 3)) 81 [.slice none 0 0, .slice (some ⟨w.heap.size + 1 + 1, 0, none⟩) 1 1, .slice none 0 0, .int .i64 3]
  simp only [World.size_alloc] at b3
  exact b3
theorem one_tk {w : World} {g1 g2 g3 : Nat} (d1 : Blk 3 w g1 [.int .i64 0]) (d2 : Blk 3 w g2 [.int .i64 0]) (b3 : Blk 81 w g3 [.slice none 0 0, .slice (some ⟨g2, 0, none⟩) 1 1, .slice none 0 0, .int .i64 3]) : TkR w ⟨none, 0, 0, some ⟨g1, 0, none⟩, 1, 1, some ⟨g3, 0, none⟩, 1, 1⟩ oneT := by
  have r1 := one_lowo d1 (by omega)
  have r2 := one_lowo d2 (by omega)
  refine ⟨by unfold oneT I64s; simp, Rd.nil_ _ _, r1, ?_⟩
  refine ⟨rfl, Nat.le_refl _, (show (1 : Nat) ≤ 9223372036854775807 by omega), fun h => (by cases h), fun _ => ⟨g3, 0, rfl, fun j o hj => ?_⟩⟩
  match j, hj with
  | 0, hj =>
    obtain rfl := Option.some.inj hj
    refine ⟨[.slice none 0 0, .slice (some ⟨g2, 0, none⟩) 1 1, .slice none 0 0, .int .i64 3], ⟨none, 0, 0, _, 1, 1, none, 0, 0, rfl, Rd.nil_ _ _, r2, Rd.nil_ _ _, by unfold I64s; simp⟩, fun i v hi => ?_⟩
    match i, hi with
    | 0, hi => obtain rfl := Option.some.inj hi; exact b3.cell 0
    | 1, hi => obtain rfl := Option.some.inj hi; exact b3.cell 1
    | 2, hi => obtain rfl := Option.some.inj hi; exact b3.cell 2
    | 3, hi => obtain rfl := Option.some.inj hi; exact b3.cell 3
    | i + 4, hi => simp at hi
  | j + 1, hj => simp [oneT] at hj
def OneP2 (w : World) (e : Ending) (w' : World) : Prop := Below w.heap.size w w' ∧ ∃ a : TA, e = .returned (taskVo oneT a) ∧ a.nO = 1 ∧ ∀ w'', Chg (fun b => b < w.heap.size) w' w'' → TkR w'' a oneT
set_option maxRecDepth 100000 in
set_option maxHeartbeats 3200000 in
theorem one_ct2 (w : World) : Calls Tryz.prog 19 #[] w (OneP2 w) := by
  go_enter Tryz.func19, Tryz.ntmps19
  go_wp2_with fail
  refine bodyPost_ret (v := .agg #[.int .i64 1, .slice none 0 0, .slice (some ⟨w.heap.size + 1, 0, none⟩) 1 1, .slice (some ⟨w.heap.size + 1 + 1 + 1, 0, none⟩) 1 1]) (by simp [results, Tryz.results19, go_sem]) rfl ?_
  refine ⟨(one_mem w _).1, ⟨none, 0, 0, some ⟨w.heap.size + 1, 0, none⟩, 1, 1, some ⟨w.heap.size + 1 + 1 + 1, 0, none⟩, 1, 1⟩, rfl, rfl, fun w'' hc => one_tk (g2 := w.heap.size + 1 + 1) (hc.blk (b1_ w _) (by omega)) (hc.blk (b2_ w _) (by omega)) (hc.blk (b3_ w _) (by omega))⟩
set_option maxRecDepth 100000 in
set_option maxHeartbeats 6400000 in
theorem oneH_ct (w : World) : Calls Tryz.prog 59 #[] w (OneHP w) := by
  have Hbl := hide (Below.refl w.heap.size w)
  go_enter Tryz.func59, Tryz.ntmps59
  go_upto_region 1 with (fail)
  obtain ⟨B0, hB0⟩ : ∃ B0, B0 = w.heap.size := ⟨_, rfl⟩
  have HB0 := hide hB0
  clear hB0
  have s_0 : B0 ≤ w.heap.size := Nat.le_trans (Nat.le_of_eq HB0.out) Hbl.out.size
  have hyh_ := Blk.new (w) 50 [.int .i64 0, .slice none 0 0, .slice none 0 0, .slice none 0 0, .int .i64 0, .slice none 0 0, .slice none 0 0]
  have hbW : Below (w).heap.size (w) ((w).alloc (.cells #[.int .i64 0, .slice none 0 0, .slice none 0 0, .slice none 0 0, .int .i64 0, .slice none 0 0, .slice none 0 0] 50)) := (Below.refl _ _).alloc (Nat.le_refl _) _
  obtain ⟨w0, hW⟩ : ∃ W, W = (w).alloc (.cells #[.int .i64 0, .slice none 0 0, .slice none 0 0, .slice none 0 0, .int .i64 0, .slice none 0 0, .slice none 0 0] 50) := ⟨_, rfl⟩
  rw [← hW] at hyh_ hbW ⊢
  replace Hbl := hide (Hbl.out.trans (hbW.mono Hbl.out.size))
  have Hh_ := hide hyh_
  clear hW hbW hyh_
  generalize w.heap.size = gH at Hh_ s_0 ⊢
  have h_0 := Hh_.out.cell 0
  have h_1 := Hh_.out.cell 1
  have h_2 := Hh_.out.cell 2
  have h_3 := Hh_.out.cell 3
  have h_4 := Hh_.out.cell 4
  have h_5 := Hh_.out.cell 5
  have h_6 := Hh_.out.cell 6
  have h_l := Hh_.out.lt
  simp only [List.getElem?_cons_zero, List.getElem?_cons_succ] at h_0 h_1 h_2 h_3 h_4 h_5 h_6
  have a_h_ : B0 ≤ gH := by omega
  clear s_0
  have hlt0 : gH < w0.heap.size := h_l
  go_wp2_with fail
  with_reducible refine (one_ct2 w0).mono ?_
  rintro e w1 ⟨hb, a, rfl, haO, hTk⟩
  clear h_0 h_1 h_2 h_3 h_4 h_5 h_6 h_l
  replace Hh_ := hide (Hh_.out.keep hb)
  replace Hbl := hide (Hbl.out.trans (hb.mono Hbl.out.size))
  clear hb
  have h_0 := Hh_.out.cell 0
  have h_1 := Hh_.out.cell 1
  have h_2 := Hh_.out.cell 2
  have h_3 := Hh_.out.cell 3
  have h_4 := Hh_.out.cell 4
  have h_5 := Hh_.out.cell 5
  have h_6 := Hh_.out.cell 6
  have h_l := Hh_.out.lt
  simp only [List.getElem?_cons_zero, List.getElem?_cons_succ] at h_0 h_1 h_2 h_3 h_4 h_5 h_6
  have Htk := hide hTk
  clear hTk
  have n1 : ¬ gH = w1.heap.size := by omega
  have n2 : ¬ gH = w1.heap.size + 1 := by omega
  have n3 : ¬ gH = w1.heap.size + 1 + 1 := by omega
  have hB4 := ((Hh_.out.alloc (.cells #[.int .i64 0] 3)).alloc (.cells #[.int .i64 0, .slice none 0 0, .slice (some ⟨w1.heap.size, 0, none⟩) 1 1] 116)).alloc (.cells #[.int .i64 (-1)] 3)
  clear h_0 h_1 h_2 h_3 h_4 h_5 h_6 h_l
  have c0 := hB4.cell 0
  have f0 := hB4.frozen 0
  have c1 := hB4.cell 1
  have f1 := hB4.frozen 1
  have c2 := hB4.cell 2
  have f2 := hB4.frozen 2
  have c3 := hB4.cell 3
  have f3 := hB4.frozen 3
  have c4 := hB4.cell 4
  have f4 := hB4.frozen 4
  have c5 := hB4.cell 5
  have f5 := hB4.frozen 5
  have c6 := hB4.cell 6
  have f6 := hB4.frozen 6
  have cl := hB4.lt
  simp only [List.getElem?_cons_zero, List.getElem?_cons_succ] at c0 c1 c2 c3 c4 c5 c6
  unfold taskVo
  go_wp2_with fail

  obtain ⟨w4, hw4⟩ : ∃ Z, Z = ((w1.alloc (.cells #[.int .i64 0] 3)).alloc (.cells #[.int .i64 0, .slice none 0 0, .slice (some ⟨w1.heap.size, 0, none⟩) 1 1] 116)).alloc (.cells #[.int .i64 (-1)] 3) := ⟨_, rfl⟩
  have d1 := ((Blk.new w1 3 [.int .i64 0]).alloc (.cells #[.int .i64 0, .slice none 0 0, .slice (some ⟨w1.heap.size, 0, none⟩) 1 1] 116)).alloc (.cells #[.int .i64 (-1)] 3)
  have d2 := (Blk.new (w1.alloc (.cells #[.int .i64 0] 3)) 116 [.int .i64 0, .slice none 0 0, .slice (some ⟨w1.heap.size, 0, none⟩) 1 1]).alloc (.cells #[.int .i64 (-1)] 3)
  have d3 := Blk.new ((w1.alloc (.cells #[.int .i64 0] 3)).alloc (.cells #[.int .i64 0, .slice none 0 0, .slice (some ⟨w1.heap.size, 0, none⟩) 1 1] 116)) 3 [.int .i64 (-1)]
  simp only [World.size_alloc] at d2 d3
  change Blk 3 (((w1.alloc (.cells #[.int .i64 0] 3)).alloc (.cells #[.int .i64 0, .slice none 0 0, .slice (some ⟨w1.heap.size, 0, none⟩) 1 1] 116)).alloc (.cells #[.int .i64 (-1)] 3)) (w1.heap.size + 1 + 1) [.int .i64 (-1)] at d3
  have hb14 : Below w1.heap.size w1 (((w1.alloc (.cells #[.int .i64 0] 3)).alloc (.cells #[.int .i64 0, .slice none 0 0, .slice (some ⟨w1.heap.size, 0, none⟩) 1 1] 116)).alloc (.cells #[.int .i64 (-1)] 3)) := (((Below.refl _ w1).alloc (Nat.le_refl _) _).alloc (by simp only [World.size_alloc]; omega) _).alloc (by simp only [World.size_alloc]; omega) _
  rw [← hw4] at d1 d2 d3 hB4 hb14 ⊢
  clear hw4 c0 c1 c2 c3 c4 c5 c6 f0 f1 f2 f3 f4 f5 f6 cl
  have bE := ((((((hB4.set 0 (.int .i64 oneT.facts)).set 1 (.slice a.I a.nI a.cI)).set 2 (.slice a.G a.nG a.cG)).set 3 (.slice a.O 1 a.cO)).set 4 (.int .i64 1)).set 5 (.slice (some ⟨w1.heap.size + 1, 0, none⟩) 1 1)).set 6 (.slice (some ⟨w1.heap.size + 1 + 1, 0, none⟩) 1 1)
  have hcE := (((((Chg.set w4 gH 0 (.int .i64 oneT.facts)).trans (Chg.set _ gH 1 (.slice a.I a.nI a.cI))).trans (Chg.set _ gH 2 (.slice a.G a.nG a.cG))).trans (Chg.set _ gH 3 (.slice a.O 1 a.cO))).trans (Chg.set _ gH 4 (.int .i64 1))).trans (Chg.set _ gH 5 (.slice (some ⟨w1.heap.size + 1, 0, none⟩) 1 1)) |>.trans (Chg.set _ gH 6 (.slice (some ⟨w1.heap.size + 1 + 1, 0, none⟩) 1 1))
  simp only [List.set_cons_zero, List.set_cons_succ] at bE
  obtain ⟨wE, hwE⟩ : ∃ Z, Z = ((((((w4.setCell ⟨gH, 0, none⟩ (.int .i64 oneT.facts)).setCell ⟨gH, 1, none⟩ (.slice a.I a.nI a.cI)).setCell ⟨gH, 2, none⟩ (.slice a.G a.nG a.cG)).setCell ⟨gH, 3, none⟩ (.slice a.O 1 a.cO)).setCell ⟨gH, 4, none⟩ (.int .i64 1)).setCell ⟨gH, 5, none⟩ (.slice (some ⟨w1.heap.size + 1, 0, none⟩) 1 1)).setCell ⟨gH, 6, none⟩ (.slice (some ⟨w1.heap.size + 1 + 1, 0, none⟩) 1 1) := ⟨_, rfl⟩
  rw [← hwE] at bE hcE ⊢
  clear hwE
  have e0 := bE.cell 0
  have e1 := bE.cell 1
  have e2 := bE.cell 2
  have e3 := bE.cell 3
  have e4 := bE.cell 4
  have e5 := bE.cell 5
  have e6 := bE.cell 6
  have el := bE.lt
  simp only [List.getElem?_cons_zero, List.getElem?_cons_succ] at e0 e1 e2 e3 e4 e5 e6
  refine bodyPost_ret (v := hyVo oneH ⟨a, some ⟨w1.heap.size + 1, 0, none⟩, 1, 1, some ⟨w1.heap.size + 1 + 1, 0, none⟩, 1, 1⟩) (by simp [results, Tryz.results59, go_sem, e0, e1, e2, e3, e4, e5, e6, el, hyVo, oneH, haO]) rfl ?_
  have hbx := HB0.out
  have hw1 := Hbl.out.size
  have hb4 := Hbl.out.trans (hb14.mono hw1)
  have d1E := hcE.blk d1 (by omega)
  have d2E := hcE.blk d2 (by omega)
  have d3E := hcE.blk d3 (by omega)
  refine ⟨hb4.trans (hcE.below (fun b e => by omega) hb4.size), _, rfl, ⟨Htk.out wE ((Chg.of_below hb14 _).trans (hcE.mono fun b e => by omega)), by unfold oneH I64s; simp, ?_, one_lowo d3E (by omega)⟩⟩
  refine ⟨rfl, Nat.le_refl _, (show (1 : Nat) ≤ 9223372036854775807 by omega), fun h => (by cases h), fun _ => ⟨w1.heap.size + 1, 0, rfl, fun j o hj => ?_⟩⟩
  match j, hj with
  | 0, hj =>
    obtain rfl := Option.some.inj hj
    refine ⟨[.int .i64 0, .slice none 0 0, .slice (some ⟨w1.heap.size, 0, none⟩) 1 1], ⟨none, 0, 0, _, 1, 1, rfl, by unfold I64s; simp, Rd.nil_ _ _, one_lowo d1E (by omega)⟩, fun i v hi => ?_⟩
    match i, hi with
    | 0, hi => obtain rfl := Option.some.inj hi; exact d2E.cell 0
    | 1, hi => obtain rfl := Option.some.inj hi; exact d2E.cell 1
    | 2, hi => obtain rfl := Option.some.inj hi; exact d2E.cell 2
    | i + 3, hi => simp at hi
  | j + 1, hj => simp [oneH] at hj
set_option maxRecDepth 100000 in
set_option maxHeartbeats 6400000 in
theorem hierExample_ct (w : World) : Calls Tryz.prog 21 #[] w (Gives w (.bool true)) := by
  have hfi : ∀ (x : Int) (y : Value) (w : World), (Instr.field 29 (.agg #[.int .i64 x, y]) 0).run Tryz.prog w = .ok (.int .i64 x) w := fun x y w => by kernel_rfl
  go_enter Tryz.func21, Tryz.ntmps21
  go_wp2_with fail
  with_reducible refine (oneH_ct w).mono ?_
  rintro e w1 ⟨hb1, b, rfl, hHy⟩
  unfold hyVo
  go_upto_region 2 with (fail)
  have bH := Blk.new w1 50 [.int .i64 oneH.T.facts, .slice b.a.I b.a.nI b.a.cI, .slice b.a.G b.a.nG b.a.cG, .slice b.a.O b.a.nO b.a.cO, .int .i64 oneH.tasks, .slice b.M b.nM b.cM, .slice b.L b.nL b.cL]
  have hb2 : Below w1.heap.size w1 (w1.alloc (.cells #[.int .i64 oneH.T.facts, .slice b.a.I b.a.nI b.a.cI, .slice b.a.G b.a.nG b.a.cG, .slice b.a.O b.a.nO b.a.cO, .int .i64 oneH.tasks, .slice b.M b.nM b.cM, .slice b.L b.nL b.cL] 50)) := (Below.refl _ _).alloc (Nat.le_refl _) _
  change Blk 50 (w1.alloc (.cells #[.int .i64 oneH.T.facts, .slice b.a.I b.a.nI b.a.cI, .slice b.a.G b.a.nG b.a.cG, .slice b.a.O b.a.nO b.a.cO, .int .i64 oneH.tasks, .slice b.M b.nM b.cM, .slice b.L b.nL b.cL] 50)) w1.heap.size [.int .i64 oneH.T.facts, .slice b.a.I b.a.nI b.a.cI, .slice b.a.G b.a.nG b.a.cG, .slice b.a.O b.a.nO b.a.cO, .int .i64 oneH.tasks, .slice b.M b.nM b.cM, .slice b.L b.nL b.cL] at bH
  obtain ⟨w2, hw2⟩ : ∃ Z, Z = w1.alloc (.cells #[.int .i64 oneH.T.facts, .slice b.a.I b.a.nI b.a.cI, .slice b.a.G b.a.nG b.a.cG, .slice b.a.O b.a.nO b.a.cO, .int .i64 oneH.tasks, .slice b.M b.nM b.cM, .slice b.L b.nL b.cL] 50) := ⟨_, rfl⟩
  rw [← hw2] at bH hb2 ⊢
  clear hw2
  obtain ⟨g1, hg1⟩ : ∃ z, z = w1.heap.size := ⟨_, rfl⟩
  rw [← hg1] at bH ⊢
  clear hg1
  have HH := hide (hHy.keep hb2)
  have Hb := hide (hb1.trans (hb2.mono hb1.size))
  have BH := hide bH
  clear hHy hb1 hb2 bH
  have h_0 := BH.out.cell 0
  have h_1 := BH.out.cell 1
  have h_2 := BH.out.cell 2
  have h_3 := BH.out.cell 3
  have h_4 := BH.out.cell 4
  have h_5 := BH.out.cell 5
  have h_6 := BH.out.cell 6
  have h_l := BH.out.lt
  simp only [List.getElem?_cons_zero, List.getElem?_cons_succ] at h_0 h_1 h_2 h_3 h_4 h_5 h_6
  go_wp2_with fail
  have hal := (Below.refl w2.heap.size w2).alloc (Nat.le_refl _) (.cells #[.int .i64 0] 3)
  have dI := one_lowo (Blk.new w2 3 [.int .i64 0]) (by omega)
  with_reducible refine (Decompose_ct b oneH (some ⟨w2.heap.size, 0, none⟩) 1 1 [0] _ (HH.out.keep hal) dI).mono ?_
  rintro e w3 ⟨hb3, bb, rfl, hiff⟩
  obtain rfl : bb = true := hiff.2 ⟨by rw [oneh_dec], oneh_ref⟩
  rw [oneh_dec]
  have hb23 := hal.trans (hb3.mono hal.size)
  replace HH := hide (HH.out.keep hb23)
  replace BH := hide (BH.out.keep hb23)
  replace Hb := hide (Hb.out.trans (hb23.mono Hb.out.size))
  clear hal dI hb3 hiff hb23 h_0 h_1 h_2 h_3 h_4 h_5 h_6 h_l
  unfold fault
  go_upto_region 3 with (fail)
  have bQ := Blk.new w3 29 [.int .i64 0, .int .i64 0]
  have hbQ : Below w3.heap.size w3 (w3.alloc (.cells #[.int .i64 0, .int .i64 0] 29)) := (Below.refl _ _).alloc (Nat.le_refl _) _
  change Blk 29 (w3.alloc (.cells #[.int .i64 0, .int .i64 0] 29)) w3.heap.size [.int .i64 0, .int .i64 0] at bQ
  obtain ⟨w4, hw⟩ : ∃ Z, Z = w3.alloc (.cells #[.int .i64 0, .int .i64 0] 29) := ⟨_, rfl⟩
  rw [← hw] at bQ hbQ ⊢
  clear hw
  obtain ⟨gq, hg⟩ : ∃ z, z = w3.heap.size := ⟨_, rfl⟩
  rw [← hg] at bQ ⊢
  clear hg
  replace HH := hide (HH.out.keep hbQ)
  replace BH := hide (BH.out.keep hbQ)
  replace Hb := hide (Hb.out.trans (hbQ.mono Hb.out.size))
  have BQ := hide bQ
  clear bQ
  have h_0 := BH.out.cell 0
  have h_1 := BH.out.cell 1
  have h_2 := BH.out.cell 2
  have h_3 := BH.out.cell 3
  have h_4 := BH.out.cell 4
  have h_5 := BH.out.cell 5
  have h_6 := BH.out.cell 6
  simp only [List.getElem?_cons_zero, List.getElem?_cons_succ] at h_0 h_1 h_2 h_3 h_4 h_5 h_6
  go_wp2_with fail
  with_reducible refine (HierPlan_ct b oneH 3 w4 (by omega) (by omega) HH.out).mono ?_
  rintro e w5 ⟨hb5, O, n, oc, l, ok, fc, fi, rfl, hrow, hpr⟩
  obtain ⟨rfl, rfl, rfl, rfl⟩ := oneh_plan hpr
  have hrd := hrow.rd
  replace HH := hide (HH.out.keep hb5)
  replace BH := hide (BH.out.keep hb5)
  replace BQ := hide (BQ.out.keep hb5)
  replace Hb := hide (Hb.out.trans (hb5.mono Hb.out.size))
  have Hrd := hide hrd
  clear hb5 hrow hpr hrd h_0 h_1 h_2 h_3 h_4 h_5 h_6
  unfold fault
  go_upto_region 4 with (fail)
  have bS := Blk.new w5 29 [.int .i64 0, .int .i64 0]
  have hbS : Below w5.heap.size w5 (w5.alloc (.cells #[.int .i64 0, .int .i64 0] 29)) := (Below.refl _ _).alloc (Nat.le_refl _) _
  change Blk 29 (w5.alloc (.cells #[.int .i64 0, .int .i64 0] 29)) w5.heap.size [.int .i64 0, .int .i64 0] at bS
  obtain ⟨w6, hw⟩ : ∃ Z, Z = w5.alloc (.cells #[.int .i64 0, .int .i64 0] 29) := ⟨_, rfl⟩
  rw [← hw] at bS hbS ⊢
  clear hw
  obtain ⟨gs, hg⟩ : ∃ z, z = w5.heap.size := ⟨_, rfl⟩
  rw [← hg] at bS ⊢
  clear hg
  replace HH := hide (HH.out.keep hbS)
  replace BH := hide (BH.out.keep hbS)
  replace Hb := hide (Hb.out.trans (hbS.mono Hb.out.size))
  have BS := hide bS
  clear bS
  replace BQ := hide (BQ.out.keep hbS)
  replace Hrd := hide (Hrd.out.keep hbS)
  have h_0 := BH.out.cell 0
  have h_1 := BH.out.cell 1
  have h_2 := BH.out.cell 2
  have h_3 := BH.out.cell 3
  have h_4 := BH.out.cell 4
  have h_5 := BH.out.cell 5
  have h_6 := BH.out.cell 6
  simp only [List.getElem?_cons_zero, List.getElem?_cons_succ] at h_0 h_1 h_2 h_3 h_4 h_5 h_6
  go_wp2_with fail
  with_reducible refine (hvalidate_ct b oneH w6 HH.out).mono ?_
  rintro e w7 ⟨rfl, hb7⟩
  rw [oneh_fault]
  clear h_0 h_1 h_2 h_3 h_4 h_5 h_6
  have q_0 := (BQ.out.keep hb7).cell 0
  have s_0 := (BS.out.keep hb7).cell 0
  have q_l := (BQ.out.keep hb7).lt
  have s_l := (BS.out.keep hb7).lt
  simp only [List.getElem?_cons_zero, List.getElem?_cons_succ] at q_0 s_0
  have Hrd7 := hide (Hrd.out.keep hb7)
  have Hb7 := hide (Hb.out.trans (hb7.mono Hb.out.size))
  clear hb7
  unfold fault
  go_wp2_with fail
  have hal := (Below.refl w7.heap.size w7).alloc (Nat.le_refl _) (.cells #[.int .i64 0] 3)
  with_reducible refine (Ints_ct O (some ⟨w7.heap.size, 0, none⟩) n oc 1 1 [0] [0] _ (Hrd7.out.keep hal) (one_lowo (Blk.new w7 3 [.int .i64 0]) (by omega))).mono ?_
  rintro e w8 ⟨rfl, hq8⟩
  have hE := hide ((Hb7.out.trans (hal.mono Hb7.out.size)).trans ((hq8.below _).mono (by have := hal.size; have := Hb7.out.size; omega)))
  have hint : intsB [0] [0] = true := by decide +kernel
  rw [hint]
  clear hal hq8
  go_wp2_with fail
  go_ret
  exact ⟨rfl, hE.out⟩
end Go.Proofs.YtmjiiddncbhgpaaGreat
