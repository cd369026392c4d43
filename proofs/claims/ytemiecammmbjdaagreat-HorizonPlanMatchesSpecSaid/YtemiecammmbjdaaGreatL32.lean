/- What the law asks for, part 32: Bg. -/
import Derived.Test.YtemiecammmbjdaaGreatL2
import Derived.Test.YtemiecammmbjdaaGreatL3
import Derived.Test.YtemiecammmbjdaaGreatL4
import Derived.Test.YtemiecammmbjdaaGreatL6
import Derived.Test.YtemiecammmbjdaaGreatL7
import Derived.Test.YtemiecammmbjdaaGreatL8
import Derived.Test.YtemiecammmbjdaaGreatL9
import Derived.Test.YtemiecammmbjdaaGreatL19
import Derived.Test.YtemiecammmbjdaaGreatL20
import Derived.Test.YtemiecammmbjdaaGreatL21
import Derived.Test.YtemiecammmbjdaaGreatL22
import Derived.Test.YtemiecammmbjdaaGreatL23
import Derived.Test.YtemiecammmbjdaaGreatL24
import Derived.Test.YtemiecammmbjdaaGreatL25
import Derived.Test.YtemiecammmbjdaaGreatL26
import Derived.Test.YtemiecammmbjdaaGreatL27
import Derived.Test.YtemiecammmbjdaaGreatL28
import Derived.Test.YtemiecammmbjdaaGreatL29
import Derived.Test.YtemiecammmbjdaaGreatL30
import Derived.Test.YtemiecammmbjdaaGreatL31
import Derived.BigQuiet
import Derived.Deep.AppendLies
import Derived.Deep.DeepCutAuto
import Derived.Deep.Draws
import Derived.Deep.Fields
import Derived.Deep.LoopGhost
import Derived.Deep.QuietTactic
import Derived.Deep.RegionHeld3
import Derived.Deep.Slices
import Derived.DeepKeys4
import Derived.Ground.Names2Prog
import Derived.Ground.SlgnProg
import Derived.Ground.SlsfProg
import Derived.IntWalk
import Derived.Laws.AppendOwnNone
import Derived.Laws.BitsAllLaws
import Derived.Laws.OwnMore
import Derived.Lib.Hide
import Derived.Lib.SlicesCompact
import Derived.LoopIn
import Derived.LoopNIn
import Derived.Maps.AppendAt
import Derived.Maps.OwnIn
import Derived.Maps.OwnOps
import Derived.Maps.OwnSet
import Derived.OwnWalkIn
import Derived.RangeFuncBound
import Derived.RangeFuncCalls
import Derived.RangeFuncLeaves
import Derived.RangeFuncNested
import Derived.Shelf.Abstract
import Derived.Shelf.RegionOpen
import Derived.Shelf.SlSortCmp.Whole1
import Derived.Shelf.Slices.Cells
import Derived.Shelf.Slices.Clone
import Derived.Shelf.Slices.CompactI
import Derived.Shelf.Slices.Empties
import Derived.Shelf.Slices.In.SortNone
import Derived.Shelf.Slices.Reverse
import Derived.Shelf.Slices.SearchI
import Derived.Shelf.Sort.Plain
import Derived.Sort.OwnSortedInts
import Derived.TacticsInMore
import Derived.Test.YtemiecammmbjdaaGreatProg
import Derived.WalkKit
namespace Go.Proofs.YtemiecammmbjdaaGreat
set_option linter.unusedVariables false
set_option linter.unusedSimpArgs false
open Go.RowKit Go.Shelf Go.Maps
theorem below_setB {B : Nat} {w w' : World} (h : Below B w w') {g : Nat} (hg : B ≤ g) (i : Nat) (u : Value) : Below B w (w'.setCell ⟨g, i, none⟩ u) := h.setCell hg u
def LimP (A : Option Addr) (n c : Nat) (b : Bool) (w : World) (e : Ending) (w' : World) : Prop :=
  Below w.heap.size w w' ∧ ((60 < n ∧ e = .returned (.tuple #[.slice none 0 0, .bool false, fault 10 (-9)])) ∨ (n ≤ 60 ∧ e = .returned (.tuple #[.slice A n c, .bool b, fault 0 0])))
/-- what Plan answers -/
def BPlanP (w : World) (T : Tsk) (e : Ending) (w' : World) : Prop :=
  Below w.heap.size w w' ∧ (((taskFault T).1 ≠ 0 ∧ e = .returned (.tuple #[.slice none 0 0, .bool false, fault (taskFault T).1 (taskFault T).2])) ∨
    ((taskFault T).1 = 0 ∧ e = .returned (.tuple #[.slice none 0 0, .bool false, fault 10 (-7)])) ∨
    ((taskFault T).1 = 0 ∧ ((e = .returned (.tuple #[.slice none 0 0, .bool false, fault 0 0]) ∧ NoWay (T.ops.map mkOp) (wordF T.init) (goalW (wordF T.goal))) ∨
      ∃ l, FewestOf (T.ops.map mkOp) (wordF T.init) (goalW (wordF T.goal)) l ∧ (e = .returned (.tuple #[.slice none 0 0, .bool false, fault 10 (-9)]) ∨ ∃ A c, e = .returned (.tuple #[.slice A l.length c, .bool true, fault 0 0])))))
theorem bplan_out {N : Nat} {w w' : World} {T : Tsk} {e : Ending} (hok : OkT T N) (h : BPlanP w T e w') : Below w.heap.size w w' ∧ ∃ (Y : Option Addr) (m d : Nat) (f : Bool) (fc fi : Int), e = .returned (.tuple #[.slice Y m d, .bool f, fault fc fi]) ∧
    (fc = 0 → (f = true → ∃ l : List Int, m = l.length ∧ (∀ x ∈ l, 0 ≤ x ∧ x < T.ops.length) ∧ worksF T T.init l = true ∧ ∀ l' : List Int, (∀ x ∈ l', 0 ≤ x ∧ x < T.ops.length) → worksF T T.init l' = true → m ≤ l'.length) ∧
      (f = false → ∀ l' : List Int, (∀ x ∈ l', 0 ≤ x ∧ x < T.ops.length) → worksF T T.init l' = true → False)) := by
  obtain ⟨hb, ⟨h1, rfl⟩ | ⟨_, rfl⟩ | ⟨_, ⟨rfl, hno⟩ | ⟨l, hl, rfl | ⟨A, c, rfl⟩⟩⟩⟩ := h
  · exact ⟨hb, _, _, _, _, _, _, rfl, fun e => absurd e h1⟩
  · exact ⟨hb, _, _, _, _, _, _, rfl, fun e => absurd e (by decide)⟩
  · exact ⟨hb, _, _, _, _, _, _, rfl, fun _ => ⟨fun e => (by cases e), fun _ l' h1 h2 => noway_plan hok hno h1 h2⟩⟩
  · exact ⟨hb, _, _, _, _, _, _, rfl, fun e => absurd e (by decide)⟩
  · refine ⟨hb, _, _, _, _, _, _, rfl, fun _ => ⟨fun _ => ?_, fun e => by cases e⟩⟩
    obtain ⟨h1, h2⟩ := fewest_plan hok hl
    exact ⟨_, by rw [List.length_map], h1, h2, fun l' g1 g2 => fewest_least hok hl g1 g2⟩
set_option maxRecDepth 100000 in
set_option maxHeartbeats 12800000 in
theorem limited_ct (A : Option Addr) (n c : Nat) (b : Bool) (w : World) : Calls Tryz.prog 28 #[.slice A n c, .bool b] w (LimP A n c b w) := by
  have Hbl := hide (Below.refl w.heap.size w)
  go_enter Tryz.func28, Tryz.ntmps28
  go_upto_region 1 with (fail)
  obtain ⟨B0, hB0⟩ : ∃ B0, B0 = w.heap.size := ⟨_, rfl⟩
  have HB0 := hide hB0
  clear hB0
  have s_0 : B0 ≤ w.heap.size := Nat.le_trans (Nat.le_of_eq HB0.out) Hbl.out.size
  have hyr := Blk.new (w) 28 [.int .i64 0, .int .i64 0]
  have hbW : Below (w).heap.size (w) ((w).alloc (.cells #[.int .i64 0, .int .i64 0] 28)) := (Below.refl _ _).alloc (Nat.le_refl _) _
  obtain ⟨w0, hW⟩ : ∃ W, W = (w).alloc (.cells #[.int .i64 0, .int .i64 0] 28) := ⟨_, rfl⟩
  rw [← hW] at hyr hbW ⊢
  replace Hbl := hide (Hbl.out.trans (hbW.mono Hbl.out.size))
  have Hr := hide hyr
  clear hW hbW hyr
  generalize w.heap.size = gr at Hr s_0 ⊢
  have r0 := Hr.out.cell 0
  have r1 := Hr.out.cell 1
  have rl := Hr.out.lt
  simp only [List.getElem?_cons_zero, List.getElem?_cons_succ] at r0 r1
  have a_r : B0 ≤ gr := by omega
  clear s_0
  have rf0 := Hr.out.frozen 0
  have rf1 := Hr.out.frozen 1
  by_cases h60 : 60 < n
  · have hI : (60 : Int) < (n : Int) := by omega
    go_wp2_with fail
    refine bodyPost_ret (v := .tuple #[.slice none 0 0, .bool false, fault 10 (-9)]) (by simp [results, Tryz.results28, go_sem, fault, r0, r1, rl]) rfl ?_
    have hbx := HB0.out
    refine ⟨?_, .inl ⟨h60, rfl⟩⟩
    repeat' (first | (with_reducible exact Hbl.out) | (with_reducible refine Below.drew ?_) | (with_reducible refine below_setB ?_ ?_ _ _) | (with_reducible refine below_drewN ?_ _) | omega)
  · have hI : ¬ (60 : Int) < (n : Int) := by omega
    go_wp2_with fail
    refine bodyPost_ret (v := .tuple #[.slice A n c, .bool b, fault 0 0]) (by simp [results, Tryz.results28, go_sem, fault, r0, r1, rl]) rfl ?_
    have hbx := HB0.out
    refine ⟨?_, .inr ⟨by omega, rfl⟩⟩
    repeat' (first | (with_reducible exact Hbl.out) | (with_reducible refine Below.drew ?_) | (with_reducible refine below_setB ?_ ?_ _ _) | (with_reducible refine below_drewN ?_ _) | omega)
set_option maxRecDepth 100000 in
set_option maxHeartbeats 12800000 in
theorem BPlan_ct (a : TA) (T : Tsk) (w : World) (h : TkR w a T) : Calls Tryz.prog 10 #[.agg #[.int .i64 T.facts, .slice a.I a.nI a.cI, .slice a.G a.nG a.cG, .slice a.O a.nO a.cO]] w (BPlanP w T) := by
  have hck := Checked_ct a T
  obtain ⟨I, nI, cI, G, nG, cG, O, nO, cO⟩ := a
  simp only at hck ⊢
  have H := hide h
  have Hck := hide hck
  clear h hck
  have Hbl := hide (Below.refl w.heap.size w)
  go_enter Tryz.func10, Tryz.ntmps10
  go_upto_region 1 with (fail)
  obtain ⟨B0, hB0⟩ : ∃ B0, B0 = w.heap.size := ⟨_, rfl⟩
  have HB0 := hide hB0
  clear hB0
  have s_0 : B0 ≤ w.heap.size := Nat.le_trans (Nat.le_of_eq HB0.out) Hbl.out.size
  have hyt := Blk.new (w) 25 [.int .i64 T.facts, .slice I nI cI, .slice G nG cG, .slice O nO cO]
  have hyr := Blk.new ((w).alloc (.cells #[.int .i64 T.facts, .slice I nI cI, .slice G nG cG, .slice O nO cO] 25)) 28 [.int .i64 0, .int .i64 0]
  replace hyt := hyt.alloc (.cells #[.int .i64 0, .int .i64 0] 28)
  have hbW := below_two w (.cells #[.int .i64 T.facts, .slice I nI cI, .slice G nG cG, .slice O nO cO] 25) (.cells #[.int .i64 0, .int .i64 0] 28)
  simp only [World.size_alloc] at hyr
  obtain ⟨w0, hW⟩ : ∃ W, W = ((w).alloc (.cells #[.int .i64 T.facts, .slice I nI cI, .slice G nG cG, .slice O nO cO] 25)).alloc (.cells #[.int .i64 0, .int .i64 0] 28) := ⟨_, rfl⟩
  rw [← hW] at hyt hyr hbW ⊢
  replace Hbl := hide (Hbl.out.trans (hbW.mono Hbl.out.size))
  have Ht := hide hyt
  have Hr := hide hyr
  clear hW hbW hyt hyr
  generalize w.heap.size = gT at Ht Hr s_0 ⊢
  have t0 := Ht.out.cell 0
  have t1 := Ht.out.cell 1
  have t2 := Ht.out.cell 2
  have t3 := Ht.out.cell 3
  have tl := Ht.out.lt
  have r0 := Hr.out.cell 0
  have r1 := Hr.out.cell 1
  have rl := Hr.out.lt
  simp only [List.getElem?_cons_zero, List.getElem?_cons_succ] at t0 t1 t2 t3 r0 r1
  have a_t : B0 ≤ gT := by omega
  have a_r : B0 ≤ gT + 1 := by omega
  clear s_0
  have n_t_r : ¬ gT = gT + 1 := by omega
  have n_r_t : ¬ gT + 1 = gT := by omega
  go_wp2_with fail
  with_reducible refine (Hck.out w0 (H.out.keep Hbl.out)).mono ?_
  rintro e w1 ⟨hb, hor⟩
  clear t0 t1 t2 t3 r0 r1 tl rl
  replace Ht := hide (Ht.out.keep hb)
  replace Hr := hide (Hr.out.keep hb)
  replace Hbl := hide (Hbl.out.trans (hb.mono Hbl.out.size))
  clear hb
  have t0 := Ht.out.cell 0
  have t1 := Ht.out.cell 1
  have t2 := Ht.out.cell 2
  have t3 := Ht.out.cell 3
  have tl := Ht.out.lt
  have r0 := Hr.out.cell 0
  have r1 := Hr.out.cell 1
  have rl := Hr.out.lt
  simp only [List.getElem?_cons_zero, List.getElem?_cons_succ] at t0 t1 t2 t3 r0 r1
  rcases hq : taskFault T with ⟨ec, ei⟩
  rw [hq] at hor
  have Hq := hide hq
  clear hq
  rcases hor with ⟨h1, rfl⟩ | ⟨h1, _, rfl⟩ | ⟨h1, g, A, c, L, rfl, hgl, hgh, hW, hrow, hlist⟩
  · skip
    have hne : (ec != 0) = true := by simpa using h1
    have hne2 : (ec == 0) = false := by simpa using h1
    unfold fault
    go_upto_region 2 with (fail)
    have n_t_k : ¬ gT = w1.heap.size := by omega
    have n_k_t : ¬ w1.heap.size = gT := by omega
    have n_r_k : ¬ gT + 1 = w1.heap.size := by omega
    have n_k_r : ¬ w1.heap.size = gT + 1 := by omega
    have s_t : gT < w1.heap.size := tl
    have s_r : gT + 1 < w1.heap.size := rl
    have s_0 : B0 ≤ w1.heap.size := Nat.le_trans (Nat.le_of_eq HB0.out) Hbl.out.size
    have hyk := Blk.new (w1) 28 [.int .i64 ec, .int .i64 ei]
    have hbW : Below (w1).heap.size (w1) ((w1).alloc (.cells #[.int .i64 ec, .int .i64 ei] 28)) := (Below.refl _ _).alloc (Nat.le_refl _) _
    obtain ⟨w2, hW⟩ : ∃ W, W = (w1).alloc (.cells #[.int .i64 ec, .int .i64 ei] 28) := ⟨_, rfl⟩
    rw [← hW] at hyk hbW ⊢
    replace Ht := hide (Ht.out.keep hbW)
    replace Hr := hide (Hr.out.keep hbW)
    replace Hbl := hide (Hbl.out.trans (hbW.mono Hbl.out.size))
    have Hk := hide hyk
    clear hW hbW hyk
    generalize w1.heap.size = gk at Hk n_t_k n_k_t n_r_k n_k_r s_t s_r s_0 ⊢
    have t0 := Ht.out.cell 0
    have t1 := Ht.out.cell 1
    have t2 := Ht.out.cell 2
    have t3 := Ht.out.cell 3
    have tl := Ht.out.lt
    have r0 := Hr.out.cell 0
    have r1 := Hr.out.cell 1
    have rl := Hr.out.lt
    have k0 := Hk.out.cell 0
    have k1 := Hk.out.cell 1
    have kl := Hk.out.lt
    simp only [List.getElem?_cons_zero, List.getElem?_cons_succ] at t0 t1 t2 t3 r0 r1 k0 k1
    clear s_t
    clear s_r
    have a_k : B0 ≤ gk := by omega
    clear s_0
    have rf0 := Hr.out.frozen 0
    have rf1 := Hr.out.frozen 1
    go_wp2_with fail
    go_region
    all_goals go_wp2_with fail
    all_goals refine bodyPost_ret (v := .tuple #[.slice none 0 0, .bool false, fault ec ei]) (by simp [results, Tryz.results10, go_sem, fault, r0, r1, rl]) rfl ?_
    have hbx := HB0.out
    refine ⟨?_, .inl ⟨by rw [Hq.out]; exact h1, by rw [Hq.out]⟩⟩
    repeat' (first | (with_reducible exact Hbl.out) | (with_reducible refine Below.drew ?_) | (with_reducible refine below_setB ?_ ?_ _ _) | (with_reducible refine below_drewN ?_ _) | omega)
  · skip
    unfold fault
    go_upto_region 2 with (fail)
    have n_t_k : ¬ gT = w1.heap.size := by omega
    have n_k_t : ¬ w1.heap.size = gT := by omega
    have n_r_k : ¬ gT + 1 = w1.heap.size := by omega
    have n_k_r : ¬ w1.heap.size = gT + 1 := by omega
    have s_t : gT < w1.heap.size := tl
    have s_r : gT + 1 < w1.heap.size := rl
    have s_0 : B0 ≤ w1.heap.size := Nat.le_trans (Nat.le_of_eq HB0.out) Hbl.out.size
    have hyk := Blk.new (w1) 28 [.int .i64 10, .int .i64 (-7)]
    have hbW : Below (w1).heap.size (w1) ((w1).alloc (.cells #[.int .i64 10, .int .i64 (-7)] 28)) := (Below.refl _ _).alloc (Nat.le_refl _) _
    obtain ⟨w2, hW⟩ : ∃ W, W = (w1).alloc (.cells #[.int .i64 10, .int .i64 (-7)] 28) := ⟨_, rfl⟩
    rw [← hW] at hyk hbW ⊢
    replace Ht := hide (Ht.out.keep hbW)
    replace Hr := hide (Hr.out.keep hbW)
    replace Hbl := hide (Hbl.out.trans (hbW.mono Hbl.out.size))
    have Hk := hide hyk
    clear hW hbW hyk
    generalize w1.heap.size = gk at Hk n_t_k n_k_t n_r_k n_k_r s_t s_r s_0 ⊢
    have t0 := Ht.out.cell 0
    have t1 := Ht.out.cell 1
    have t2 := Ht.out.cell 2
    have t3 := Ht.out.cell 3
    have tl := Ht.out.lt
    have r0 := Hr.out.cell 0
    have r1 := Hr.out.cell 1
    have rl := Hr.out.lt
    have k0 := Hk.out.cell 0
    have k1 := Hk.out.cell 1
    have kl := Hk.out.lt
    simp only [List.getElem?_cons_zero, List.getElem?_cons_succ] at t0 t1 t2 t3 r0 r1 k0 k1
    clear s_t
    clear s_r
    have a_k : B0 ≤ gk := by omega
    clear s_0
    have rf0 := Hr.out.frozen 0
    have rf1 := Hr.out.frozen 1
    go_wp2_with fail
    go_region
    all_goals go_wp2_with fail
    all_goals refine bodyPost_ret (v := .tuple #[.slice none 0 0, .bool false, fault 10 (-7)]) (by simp [results, Tryz.results10, go_sem, fault, r0, r1, rl]) rfl ?_
    have hbx := HB0.out
    refine ⟨?_, .inr (.inl ⟨by rw [Hq.out]; exact h1, rfl⟩)⟩
    repeat' (first | (with_reducible exact Hbl.out) | (with_reducible refine Below.drew ?_) | (with_reducible refine below_setB ?_ ?_ _ _) | (with_reducible refine below_drewN ?_ _) | omega)
  · skip
    have HW := hide hW
    have Hlist := hide hlist
    have Hx12 := hide (Below.refl w1.heap.size w1)
    clear hW hrow hlist
    unfold fault
    go_upto_region 2 with (fail)
    have n_t_k : ¬ gT = w1.heap.size := by omega
    have n_k_t : ¬ w1.heap.size = gT := by omega
    have n_r_k : ¬ gT + 1 = w1.heap.size := by omega
    have n_k_r : ¬ w1.heap.size = gT + 1 := by omega
    have s_t : gT < w1.heap.size := tl
    have s_r : gT + 1 < w1.heap.size := rl
    have s_0 : B0 ≤ w1.heap.size := Nat.le_trans (Nat.le_of_eq HB0.out) Hbl.out.size
    have hyk := Blk.new (w1) 28 [.int .i64 0, .int .i64 0]
    have hbW : Below (w1).heap.size (w1) ((w1).alloc (.cells #[.int .i64 0, .int .i64 0] 28)) := (Below.refl _ _).alloc (Nat.le_refl _) _
    obtain ⟨w2, hW⟩ : ∃ W, W = (w1).alloc (.cells #[.int .i64 0, .int .i64 0] 28) := ⟨_, rfl⟩
    rw [← hW] at hyk hbW ⊢
    replace Ht := hide (Ht.out.keep hbW)
    replace Hr := hide (Hr.out.keep hbW)
    replace Hbl := hide (Hbl.out.trans (hbW.mono Hbl.out.size))
    replace Hx12 := hide (Hx12.out.trans (hbW.mono Hx12.out.size))
    have Hk := hide hyk
    clear hW hbW hyk
    generalize w1.heap.size = gk at Hk n_t_k n_k_t n_r_k n_k_r s_t s_r s_0 ⊢
    have t0 := Ht.out.cell 0
    have t1 := Ht.out.cell 1
    have t2 := Ht.out.cell 2
    have t3 := Ht.out.cell 3
    have tl := Ht.out.lt
    have r0 := Hr.out.cell 0
    have r1 := Hr.out.cell 1
    have rl := Hr.out.lt
    have k0 := Hk.out.cell 0
    have k1 := Hk.out.cell 1
    have kl := Hk.out.lt
    simp only [List.getElem?_cons_zero, List.getElem?_cons_succ] at t0 t1 t2 t3 r0 r1 k0 k1
    clear s_t
    clear s_r
    have a_k : B0 ≤ gk := by omega
    clear s_0
    have hfi := First_ct g _ _ _ w2 L (HW.out w2 (Chg.of_below Hx12.out _)) Hlist.out.few (fun s => Hlist.out.all.mem s)
    go_wp2_with fail
    with_reducible refine hfi.mono ?_
    rintro e w3 ⟨hb, hor2⟩
    clear hfi
    clear t0 t1 t2 t3 r0 r1 k0 k1 tl rl kl
    replace Ht := hide (Ht.out.keep hb)
    replace Hr := hide (Hr.out.keep hb)
    replace Hk := hide (Hk.out.keep hb)
    replace Hbl := hide (Hbl.out.trans (hb.mono Hbl.out.size))
    replace Hx12 := hide (Hx12.out.trans (hb.mono Hx12.out.size))
    clear hb
    have t0 := Ht.out.cell 0
    have t1 := Ht.out.cell 1
    have t2 := Ht.out.cell 2
    have t3 := Ht.out.cell 3
    have tl := Ht.out.lt
    have r0 := Hr.out.cell 0
    have r1 := Hr.out.cell 1
    have rl := Hr.out.lt
    have k0 := Hk.out.cell 0
    have k1 := Hk.out.cell 1
    have kl := Hk.out.lt
    simp only [List.getElem?_cons_zero, List.getElem?_cons_succ] at t0 t1 t2 t3 r0 r1 k0 k1
    rcases hor2 with ⟨PO, pc, pl, rfl, hfew, _, _⟩ | ⟨rfl, hno⟩
    · skip
      have hlim := limited_ct PO pl.length pc true w3
      go_wp2_with fail
      with_reducible refine hlim.mono ?_
      rintro e w4 ⟨hb, hor3⟩
      clear hlim
      clear t0 t1 t2 t3 r0 r1 k0 k1 tl rl kl
      replace Ht := hide (Ht.out.keep hb)
      replace Hr := hide (Hr.out.keep hb)
      replace Hk := hide (Hk.out.keep hb)
      replace Hbl := hide (Hbl.out.trans (hb.mono Hbl.out.size))
      replace Hx12 := hide (Hx12.out.trans (hb.mono Hx12.out.size))
      clear hb
      have t0 := Ht.out.cell 0
      have t1 := Ht.out.cell 1
      have t2 := Ht.out.cell 2
      have t3 := Ht.out.cell 3
      have tl := Ht.out.lt
      have r0 := Hr.out.cell 0
      have r1 := Hr.out.cell 1
      have rl := Hr.out.lt
      have k0 := Hk.out.cell 0
      have k1 := Hk.out.cell 1
      have kl := Hk.out.lt
      simp only [List.getElem?_cons_zero, List.getElem?_cons_succ] at t0 t1 t2 t3 r0 r1 k0 k1
      rcases hor3 with ⟨h60, rfl⟩ | ⟨h60, rfl⟩
      · skip
        unfold fault
        have rf0 := Hr.out.frozen 0
        have rf1 := Hr.out.frozen 1
        go_wp2_with fail
        refine bodyPost_ret (v := .tuple #[.slice none 0 0, .bool false, fault 10 (-9)]) (by simp [results, Tryz.results10, go_sem, fault, r0, r1, rl]) rfl ?_
        have hbx := HB0.out
        refine ⟨?_, .inr (.inr ⟨by rw [Hq.out]; exact h1, .inr ⟨pl, hfew, .inl rfl⟩⟩)⟩
        repeat' (first | (with_reducible exact Hbl.out) | (with_reducible refine Below.drew ?_) | (with_reducible refine below_setB ?_ ?_ _ _) | (with_reducible refine below_drewN ?_ _) | omega)
      · skip
        unfold fault
        have rf0 := Hr.out.frozen 0
        have rf1 := Hr.out.frozen 1
        go_wp2_with fail
        refine bodyPost_ret (v := .tuple #[.slice PO pl.length pc, .bool true, fault 0 0]) (by simp [results, Tryz.results10, go_sem, fault, r0, r1, rl]) rfl ?_
        have hbx := HB0.out
        refine ⟨?_, .inr (.inr ⟨by rw [Hq.out]; exact h1, .inr ⟨pl, hfew, .inr ⟨_, _, rfl⟩⟩⟩)⟩
        repeat' (first | (with_reducible exact Hbl.out) | (with_reducible refine Below.drew ?_) | (with_reducible refine below_setB ?_ ?_ _ _) | (with_reducible refine below_drewN ?_ _) | omega)
    · skip
      have hlim := limited_ct none 0 0 false w3
      go_wp2_with fail
      with_reducible refine hlim.mono ?_
      rintro e w4 ⟨hb, hor3⟩
      clear hlim
      clear t0 t1 t2 t3 r0 r1 k0 k1 tl rl kl
      replace Ht := hide (Ht.out.keep hb)
      replace Hr := hide (Hr.out.keep hb)
      replace Hk := hide (Hk.out.keep hb)
      replace Hbl := hide (Hbl.out.trans (hb.mono Hbl.out.size))
      replace Hx12 := hide (Hx12.out.trans (hb.mono Hx12.out.size))
      clear hb
      have t0 := Ht.out.cell 0
      have t1 := Ht.out.cell 1
      have t2 := Ht.out.cell 2
      have t3 := Ht.out.cell 3
      have tl := Ht.out.lt
      have r0 := Hr.out.cell 0
      have r1 := Hr.out.cell 1
      have rl := Hr.out.lt
      have k0 := Hk.out.cell 0
      have k1 := Hk.out.cell 1
      have kl := Hk.out.lt
      simp only [List.getElem?_cons_zero, List.getElem?_cons_succ] at t0 t1 t2 t3 r0 r1 k0 k1
      rcases hor3 with ⟨h60, rfl⟩ | ⟨h60, rfl⟩
      · skip
        omega
      · skip
        unfold fault
        have rf0 := Hr.out.frozen 0
        have rf1 := Hr.out.frozen 1
        go_wp2_with fail
        refine bodyPost_ret (v := .tuple #[.slice none 0 0, .bool false, fault 0 0]) (by simp [results, Tryz.results10, go_sem, fault, r0, r1, rl]) rfl ?_
        have hbx := HB0.out
        refine ⟨?_, .inr (.inr ⟨by rw [Hq.out]; exact h1, .inl ⟨rfl, hno⟩⟩)⟩
        repeat' (first | (with_reducible exact Hbl.out) | (with_reducible refine Below.drew ?_) | (with_reducible refine below_setB ?_ ?_ _ _) | (with_reducible refine below_drewN ?_ _) | omega)
end Go.Proofs.YtemiecammmbjdaaGreat
