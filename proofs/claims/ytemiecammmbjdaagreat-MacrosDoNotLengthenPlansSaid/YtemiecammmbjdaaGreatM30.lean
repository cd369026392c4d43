/- What the law asks for, part 30: AP. -/
import Derived.Test.YtemiecammmbjdaaGreatM1
import Derived.Test.YtemiecammmbjdaaGreatM2
import Derived.Test.YtemiecammmbjdaaGreatM3
import Derived.Test.YtemiecammmbjdaaGreatM4
import Derived.Test.YtemiecammmbjdaaGreatM5
import Derived.Test.YtemiecammmbjdaaGreatM6
import Derived.Test.YtemiecammmbjdaaGreatM7
import Derived.Test.YtemiecammmbjdaaGreatM8
import Derived.Test.YtemiecammmbjdaaGreatM9
import Derived.Test.YtemiecammmbjdaaGreatM10
import Derived.Test.YtemiecammmbjdaaGreatM11
import Derived.Test.YtemiecammmbjdaaGreatM12
import Derived.Test.YtemiecammmbjdaaGreatM13
import Derived.Test.YtemiecammmbjdaaGreatM14
import Derived.Test.YtemiecammmbjdaaGreatM15
import Derived.Test.YtemiecammmbjdaaGreatM16
import Derived.Test.YtemiecammmbjdaaGreatM17
import Derived.Test.YtemiecammmbjdaaGreatM18
import Derived.Test.YtemiecammmbjdaaGreatM19
import Derived.Test.YtemiecammmbjdaaGreatM20
import Derived.Test.YtemiecammmbjdaaGreatM21
import Derived.Test.YtemiecammmbjdaaGreatM22
import Derived.Test.YtemiecammmbjdaaGreatM23
import Derived.Test.YtemiecammmbjdaaGreatM24
import Derived.Test.YtemiecammmbjdaaGreatM25
import Derived.Test.YtemiecammmbjdaaGreatM26
import Derived.Test.YtemiecammmbjdaaGreatM27
import Derived.Test.YtemiecammmbjdaaGreatM28
import Derived.Test.YtemiecammmbjdaaGreatM29
import Derived.BigQuiet
import Derived.BigRegion
import Derived.Deep.AppendLies
import Derived.Deep.DeepCutAuto
import Derived.Deep.Draws
import Derived.Deep.Fields
import Derived.Deep.LoopGhost
import Derived.Deep.QuietTactic
import Derived.Deep.RegionHeld3
import Derived.Deep.Slices
import Derived.DeepKeys4
import Derived.Ground.Names2Prog
import Derived.Ground.SlgnProg
import Derived.Ground.SlsfProg
import Derived.IntWalk
import Derived.Laws.AppendOwnNone
import Derived.Laws.BitsAllLaws
import Derived.Laws.EntriesVeiled
import Derived.Laws.OwnMore
import Derived.Lib.Hide
import Derived.Lib.SlicesCompact
import Derived.LoopIn
import Derived.LoopNIn
import Derived.Maps.AppendAt
import Derived.Maps.OwnIn
import Derived.Maps.OwnOps
import Derived.Maps.OwnSet
import Derived.OrdersHeld
import Derived.OrdersIn
import Derived.OwnWalkIn
import Derived.RangeFuncBound
import Derived.RangeFuncCalls
import Derived.RangeFuncLeaves
import Derived.RangeFuncNested
import Derived.Shelf.Abstract
import Derived.Shelf.RegionOpen
import Derived.Shelf.SlSortCmp.Whole1
import Derived.Shelf.Slices.Cells
import Derived.Shelf.Slices.Clone
import Derived.Shelf.Slices.CompactI
import Derived.Shelf.Slices.Empties
import Derived.Shelf.Slices.In.SortNone
import Derived.Shelf.Slices.Reverse
import Derived.Shelf.Slices.SearchI
import Derived.Shelf.Sort.Plain
import Derived.Sort.CutIn
import Derived.Sort.OwnSortedInts
import Derived.StillTail
import Derived.StillTailTactics
import Derived.TacticsInMore
import Derived.Test.YtemiecammmbjdaaGreatProg
import Derived.WalkKit
namespace Go.Proofs.YtemiecammmbjdaaGreat
set_option linter.unusedVariables false
set_option linter.unusedSimpArgs false
open Go.RowKit Go.Shelf Go.Maps
/-- a list of operators as numbers -/
def opsI (l : List Nat) : List Int := l.map fun o : Nat => (o : Int)
theorem opsV_opsI (l : List Nat) : opsV l = (opsI l).map (Value.int .i64) := by rw [opsV_map]; rfl
theorem opsI_length (l : List Nat) : (opsI l).length = l.length := by unfold opsI; rw [List.length_map]
/-- what the search for a best plan answers -/
def APlanP (w : World) (T : Tsk) (e : Ending) (w' : World) : Prop :=
  Below w.heap.size w w' ∧ (((taskFault T).1 ≠ 0 ∧ e = .returned (.tuple #[resV false none 0 0 0 0, fault (taskFault T).1 (taskFault T).2])) ∨
    ((taskFault T).1 = 0 ∧ TooMany T ∧ e = .returned (.tuple #[resV false none 0 0 0 0, fault 10 (-7)])) ∨
    ((taskFault T).1 = 0 ∧ ∃ L, ListOf T L ∧ ((∃ y k, e = .returned (.tuple #[resV false none 0 0 y k, fault 0 0]) ∧ NoWay (T.ops.map mkOp) (wordF T.init) (goalW (wordF T.goal))) ∨
      ∃ l, BestOf (T.ops.map mkOp) (wordF T.init) (goalW (wordF T.goal)) l ∧ ((60 < l.length ∧ e = .returned (.tuple #[resV false none 0 0 0 0, fault 10 (-9)])) ∨
        (l.length ≤ 60 ∧ ∃ A c y k, e = .returned (.tuple #[resV true A l.length c y k, fault 0 0]))))))
theorem path_ops {ms : List Mk} {s u : Nat} {l : List Nat} {n : Int} (h : PathW ms s l u n) (hm : ∀ m ∈ ms, MkOk m) : 0 ≤ n ∧ ∀ o ∈ l, o < ms.length := by
  induction h with
  | nil => exact ⟨Int.le_refl _, fun o ho => by cases ho⟩
  | cons hx _ ih =>
    obtain ⟨i1, i2⟩ := ih
    obtain ⟨k, m, h1, _, h3⟩ := (stepsW_mem _ _ _ _).1 hx
    have hk := (List.getElem?_eq_some_iff.1 h1).1
    have hc := (hm m (List.mem_of_getElem? h1)).low
    simp only [Prod.mk.injEq] at h3
    obtain ⟨rfl, rfl, rfl⟩ := h3
    refine ⟨by omega, fun o ho => ?_⟩
    rcases List.mem_cons.1 ho with rfl | ho
    · omega
    · exact i2 o ho
theorem ops_range {T : Tsk} {N : Nat} (hok : OkT T N) {l : List Nat} (hl : ∀ o ∈ l, o < T.ops.length) : (∀ x ∈ opsI l, 0 ≤ x ∧ x < T.ops.length) ∧ ∀ x ∈ opsI l, 0 ≤ (opAt T.ops x).cost ∧ (opAt T.ops x).cost ≤ 100 := by
  have key : ∀ x ∈ opsI l, ∃ o : Nat, x = (o : Int) ∧ o < T.ops.length := fun x hx => by
    obtain ⟨o, ho, rfl⟩ := List.mem_map.1 hx
    exact ⟨o, rfl, hl o ho⟩
  refine ⟨fun x hx => ?_, fun x hx => ?_⟩
  · obtain ⟨o, rfl, ho⟩ := key x hx
    exact ⟨by omega, by omega⟩
  · obtain ⟨o, rfl, ho⟩ := key x hx
    have hm : opAt T.ops (o : Int) ∈ T.ops := by
      unfold opAt
      simp only [Int.toNat_natCast]
      rw [List.getD_eq_getElem?_getD, List.getElem?_eq_getElem ho]
      exact List.getElem_mem ho
    have := hok.ops _ hm
    exact ⟨this.low, this.high⟩
theorem reach_w {ms : List Mk} {s0 : Nat} {s : Nat} (hm : ∀ m ∈ ms, MkOk m) (h0 : s0 < 4294967296) (h : Reach (stepW ms) s0 s) : s < 4294967296 := reach_word32 hm h0 h
/-- the zero heuristic's contract for the search -/
theorem heu_zero {tb kb xb hb : Nat} {v0 v1 v2 v3 : Value} {L : List Nat} {w0 W : World} (hL : L.length ≤ 2000) (h32 : ∀ s ∈ L, s < 4294967296) (h : HeuW tb kb xb hb [v0, v1, v2, v3] 0 (fun _ => 0) L W) (hlow : w0.heap.size ≤ hb) :
    HeuC xb tb kb hb W.heap.size w0.heap.size (fun _ => 0) L (HeuW tb kb xb hb [v0, v1, v2, v3] 0 (fun _ => 0) L) := by
  obtain ⟨D, _, _, d3⟩ := h.map
  have l1 := h.tbx.lt
  have l2 := h.kbx.lt
  have l3 := h.xbx.lt
  have l4 := d3.lt
  refine ⟨fun W' s hs hW => Heur1_ct hL s hs (h32 s hs) W' hW (fun W2 A n c _ _ => Value0_ct v0 v1 v2 v3 A n c W2), fun W1 W2 h1 hc => h1.chg hc (by omega) (by omega) (by omega) (by omega), hlow, l4⟩
set_option maxRecDepth 100000 in
set_option maxHeartbeats 12800000 in
theorem APlan_ct (a : TA) (T : Tsk) (w : World) (h : TkR w a T) :
    Calls Tryz.prog 13 #[.agg #[.int .i64 T.facts, .slice a.I a.nI a.cI, .slice a.G a.nG a.cG, .slice a.O a.nO a.cO], .int .i64 0] w (APlanP w T) := by
  have hack := fun W hW => AChecked_ct a T W hW
  have hres := fun A n c l fd kx W hW => Result_ct a T A n c l fd kx W hW
  obtain ⟨I, nI, cI, G, nG, cG, O, nO, cO⟩ := a
  simp only at hack hres ⊢
  unfold CheckedP at hack
  unfold ResP at hres
  rcases hq : taskFault T with ⟨ec, ei⟩
  rw [hq] at hack
  have H := hide h
  have Hack := hide hack
  have Hres := hide hres
  have Hq := hide hq
  clear h hq hack hres
  have Hbl := hide (Below.refl w.heap.size w)
  go_enter Tryz.func13, Tryz.ntmps13
  go_upto_region 1 with (fail)
  obtain ⟨B0, hB0⟩ : ∃ B0, B0 = w.heap.size := ⟨_, rfl⟩
  have HB0 := hide hB0
  clear hB0
  have s_0 : B0 ≤ w.heap.size := Nat.le_trans (Nat.le_of_eq HB0.out) Hbl.out.size
  have hyt := Blk.new (w) 25 [.int .i64 T.facts, .slice I nI cI, .slice G nG cG, .slice O nO cO]
  have hyr_ := Blk.new ((w).alloc (.cells #[.int .i64 T.facts, .slice I nI cI, .slice G nG cG, .slice O nO cO] 25)) 40 [.bool false, .slice none 0 0, .int .i64 0, .int .i64 0]
  replace hyt := hyt.alloc (.cells #[.bool false, .slice none 0 0, .int .i64 0, .int .i64 0] 40)
  have hyf := Blk.new (((w).alloc (.cells #[.int .i64 T.facts, .slice I nI cI, .slice G nG cG, .slice O nO cO] 25)).alloc (.cells #[.bool false, .slice none 0 0, .int .i64 0, .int .i64 0] 40)) 28 [.int .i64 0, .int .i64 0]
  replace hyt := hyt.alloc (.cells #[.int .i64 0, .int .i64 0] 28)
  replace hyr_ := hyr_.alloc (.cells #[.int .i64 0, .int .i64 0] 28)
  have hbW := below_three w (.cells #[.int .i64 T.facts, .slice I nI cI, .slice G nG cG, .slice O nO cO] 25) (.cells #[.bool false, .slice none 0 0, .int .i64 0, .int .i64 0] 40) (.cells #[.int .i64 0, .int .i64 0] 28)
  simp only [World.size_alloc] at hyr_ hyf
  obtain ⟨w0, hW⟩ : ∃ W, W = (((w).alloc (.cells #[.int .i64 T.facts, .slice I nI cI, .slice G nG cG, .slice O nO cO] 25)).alloc (.cells #[.bool false, .slice none 0 0, .int .i64 0, .int .i64 0] 40)).alloc (.cells #[.int .i64 0, .int .i64 0] 28) := ⟨_, rfl⟩
  rw [← hW] at hyt hyr_ hyf hbW ⊢
  replace Hbl := hide (Hbl.out.trans (hbW.mono Hbl.out.size))
  have Ht := hide hyt
  have Hr_ := hide hyr_
  have Hf := hide hyf
  clear hW hbW hyt hyr_ hyf
  generalize w.heap.size = gT at Ht Hr_ Hf s_0 ⊢
  have t0 := Ht.out.cell 0
  have t1 := Ht.out.cell 1
  have t2 := Ht.out.cell 2
  have t3 := Ht.out.cell 3
  have tl := Ht.out.lt
  have r_0 := Hr_.out.cell 0
  have r_1 := Hr_.out.cell 1
  have r_2 := Hr_.out.cell 2
  have r_3 := Hr_.out.cell 3
  have r_l := Hr_.out.lt
  have f0 := Hf.out.cell 0
  have f1 := Hf.out.cell 1
  have fl := Hf.out.lt
  simp only [List.getElem?_cons_zero, List.getElem?_cons_succ] at t0 t1 t2 t3 r_0 r_1 r_2 r_3 f0 f1
  have a_t : B0 ≤ gT := by omega
  have a_r_ : B0 ≤ gT + 1 := by omega
  have a_f : B0 ≤ gT + 1 + 1 := by omega
  clear s_0
  have n_t_r_ : ¬ gT = gT + 1 := by omega
  have n_t_f : ¬ gT = gT + 1 + 1 := by omega
  have n_r__t : ¬ gT + 1 = gT := by omega
  have n_r__f : ¬ gT + 1 = gT + 1 + 1 := by omega
  have n_f_t : ¬ gT + 1 + 1 = gT := by omega
  have n_f_r_ : ¬ gT + 1 + 1 = gT + 1 := by omega
  obtain ⟨V, hV⟩ : ∃ W, W = w0.drew := ⟨_, rfl⟩
  have hb : Below w0.heap.size w0 V := by rw [hV]; exact (Below.refl _ _).drew
  refine wp_region_held_drew (S := (fun w' => w'.cell? ⟨gT, 0, none⟩ = some (.int .i64 T.facts) ∧ w'.cell? ⟨gT, 1, none⟩ = some (.slice I nI cI) ∧ w'.cell? ⟨gT, 2, none⟩ = some (.slice G nG cG) ∧ w'.cell? ⟨gT, 3, none⟩ = some (.slice O nO cO))) (by kernel_rfl) ?_ (fun hHeld => ?_)
  · exact ⟨t0, t1, t2, t3⟩
  rw [← hV] at hHeld ⊢
  clear hV
  clear t0 t1 t2 t3 r_0 r_1 r_2 r_3 f0 f1 tl r_l fl
  replace Ht := hide (Ht.out.keep hb)
  replace Hr_ := hide (Hr_.out.keep hb)
  replace Hf := hide (Hf.out.keep hb)
  replace Hbl := hide (Hbl.out.trans (hb.mono Hbl.out.size))
  clear hb
  have t0 := Ht.out.cell 0
  have t1 := Ht.out.cell 1
  have t2 := Ht.out.cell 2
  have t3 := Ht.out.cell 3
  have tl := Ht.out.lt
  have r_0 := Hr_.out.cell 0
  have r_1 := Hr_.out.cell 1
  have r_2 := Hr_.out.cell 2
  have r_3 := Hr_.out.cell 3
  have r_l := Hr_.out.lt
  have f0 := Hf.out.cell 0
  have f1 := Hf.out.cell 1
  have fl := Hf.out.lt
  simp only [List.getElem?_cons_zero, List.getElem?_cons_succ] at t0 t1 t2 t3 r_0 r_1 r_2 r_3 f0 f1
  refine takeA (i := 0) (v := ?_) (some 13) rfl rfl (by kernel_rfl) (by kernel_rfl) (by kernel_rfl) (fun _ _ _ h => h) (Or.inl ⟨by rfl, ?_⟩) (by assumption) ?_
  rotate_left
  · intro w hSw; (try dsimp only at hSw); obtain ⟨s1, s2, s3, s4⟩ := hSw; first | (go_simp; done) | (go_simp; with_reducible rfl)
  try simp only [Act.put, List.setIfInBounds_toArray, List.set_cons_zero, List.set_cons_succ]
  refine takeA (i := 1) (v := ?_) (some 14) rfl rfl (by kernel_rfl) (by kernel_rfl) (by kernel_rfl) (fun _ _ _ h => h) (Or.inl ⟨by rfl, ?_⟩) (by assumption) ?_
  rotate_left
  · intro w hSw; (try dsimp only at hSw); obtain ⟨s1, s2, s3, s4⟩ := hSw; first | (go_simp; done) | (go_simp; with_reducible rfl)
  try simp only [Act.put, List.setIfInBounds_toArray, List.set_cons_zero, List.set_cons_succ]
  refine wpAnyH_ready (rs := [2, 8]) (by kernel_rfl) (by simp) ?_
  refine AllReadyH.cons rfl (fun K hK => ?_) (AllReadyH.cons rfl (fun K hK => ?_) AllReadyH.nil)
  · skip
    go_simp
    refine (Admissible0_ct _).mono ?_
    rintro e w' ⟨rfl, rfl⟩
    go_simp
    refine hK _ _ ?_ (fun hHeld2 => ?_)
    · exact ⟨t0, t1, t2, t3⟩
    clear hK K hHeld
    try simp only [Act.put, List.setIfInBounds_toArray, List.set_cons_zero, List.set_cons_succ]
    have hHeld := hHeld2; clear hHeld2
    refine wpAnyH_ready (rs := [3, 8]) (by kernel_rfl) (by simp) ?_
    refine AllReadyH.cons rfl (fun K hK => ?_) (AllReadyH.cons rfl (fun K hK => ?_) AllReadyH.nil)
    · skip
      go_simp
      with_reducible refine (Hack.out V (H.out.keep Hbl.out)).mono ?_
      rintro e w1 ⟨hb, hor⟩
      have Hb01 := hide hb
      have Hbl0 := hide Hbl.out.size
      have Hft := hide fl
      clear t0 t1 t2 t3 r_0 r_1 r_2 r_3 f0 f1 tl r_l fl
      replace Ht := hide (Ht.out.keep hb)
      replace Hr_ := hide (Hr_.out.keep hb)
      replace Hf := hide (Hf.out.keep hb)
      replace Hbl := hide (Hbl.out.trans (hb.mono Hbl.out.size))
      clear hb
      have t0 := Ht.out.cell 0
      have t1 := Ht.out.cell 1
      have t2 := Ht.out.cell 2
      have t3 := Ht.out.cell 3
      have tl := Ht.out.lt
      have r_0 := Hr_.out.cell 0
      have r_1 := Hr_.out.cell 1
      have r_2 := Hr_.out.cell 2
      have r_3 := Hr_.out.cell 3
      have r_l := Hr_.out.lt
      have f0 := Hf.out.cell 0
      have f1 := Hf.out.cell 1
      have fl := Hf.out.lt
      simp only [List.getElem?_cons_zero, List.getElem?_cons_succ] at t0 t1 t2 t3 r_0 r_1 r_2 r_3 f0 f1
      rcases hor with ⟨h1, rfl⟩ | ⟨h1, hmany, rfl⟩ | ⟨h1, g, A, c, L, rfl, hgl, hgh, hW, hrow, hlist⟩
      · skip
        skip
        unfold fault
        go_simp
        refine hK _ _ ?_ (fun hHeld2 => ?_)
        · exact ⟨t0, t1, t2, t3⟩
        clear hK K hHeld
        try simp only [Act.put, List.setIfInBounds_toArray, List.set_cons_zero, List.set_cons_succ]
        have hHeld := hHeld2; clear hHeld2
        refine takeA (i := 4) (v := ?_) (some 12) rfl rfl (by kernel_rfl) (by kernel_rfl) (by kernel_rfl) (fun _ _ _ h => h) (Or.inl ⟨by rfl, ?_⟩) (by assumption) ?_
        rotate_left
        · intro w hSw; (try dsimp only at hSw); obtain ⟨s1, s2, s3, s4⟩ := hSw; first | (go_simp; done) | (go_simp; with_reducible rfl)
        try simp only [Act.put, List.setIfInBounds_toArray, List.set_cons_zero, List.set_cons_succ]
        refine takeA (i := 5) (v := ?_) (some 17) rfl rfl (by kernel_rfl) (by kernel_rfl) (by kernel_rfl) (fun _ _ _ h => h) (Or.inl ⟨by rfl, ?_⟩) (by assumption) ?_
        rotate_left
        · intro w hSw; (try dsimp only at hSw); obtain ⟨s1, s2, s3, s4⟩ := hSw; first | (go_simp; done) | (go_simp; with_reducible rfl)
        try simp only [Act.put, List.setIfInBounds_toArray, List.set_cons_zero, List.set_cons_succ]
        refine takeA (i := 6) (v := ?_) (some 18) rfl rfl (by kernel_rfl) (by kernel_rfl) (by kernel_rfl) (fun _ _ _ h => h) (Or.inl ⟨by rfl, ?_⟩) (by assumption) ?_
        rotate_left
        · intro w hSw; (try dsimp only at hSw); obtain ⟨s1, s2, s3, s4⟩ := hSw; first | (go_simp; done) | (go_simp; with_reducible rfl)
        try simp only [Act.put, List.setIfInBounds_toArray, List.set_cons_zero, List.set_cons_succ]
        refine takeA (i := 7) (v := ?_) (some 19) rfl rfl (by kernel_rfl) (by kernel_rfl) (by kernel_rfl) (fun _ _ _ h => h) (Or.inl ⟨by rfl, ?_⟩) (by assumption) ?_
        rotate_left
        · intro w hSw; (try dsimp only at hSw); obtain ⟨s1, s2, s3, s4⟩ := hSw; first | (go_simp; done) | (go_simp; with_reducible rfl)
        try simp only [Act.put, List.setIfInBounds_toArray, List.set_cons_zero, List.set_cons_succ]
        refine wpAnyH_ready (rs := [8]) (by kernel_rfl) (by simp) ?_
        refine AllReadyH.cons rfl (fun K hK => ?_) AllReadyH.nil
        go_simp
        obtain ⟨zq, hzq⟩ : ∃ z, z ≤ w1.heap.size ∧ w1.heap.size ≤ z := ⟨w1.heap.size, Nat.le_refl _, Nat.le_refl _⟩
        have hzq1 := hzq
        have hgq : w1.heap.size ≤ w1.heap.size := Nat.le_refl _
        replace hgq := Nat.le_trans hzq.1 hgq
        have n_t_x : ¬ gT = w1.heap.size := by omega
        have n_x_t : ¬ w1.heap.size = gT := by omega
        have n_r__x : ¬ gT + 1 = w1.heap.size := by omega
        have n_x_r_ : ¬ w1.heap.size = gT + 1 := by omega
        have n_f_x : ¬ gT + 1 + 1 = w1.heap.size := by omega
        have n_x_f : ¬ w1.heap.size = gT + 1 + 1 := by omega
        have s_t : gT < w1.heap.size := tl
        have s_r_ : gT + 1 < w1.heap.size := r_l
        have s_f : gT + 1 + 1 < w1.heap.size := fl
        have s_0 : B0 ≤ w1.heap.size := Nat.le_trans (Nat.le_of_eq HB0.out) Hbl.out.size
        have hyx := Blk.new (w1) 28 [.int .i64 0, .int .i64 0]
        have hbW : Below (w1).heap.size (w1) ((w1).alloc (.cells #[.int .i64 0, .int .i64 0] 28)) := (Below.refl _ _).alloc (Nat.le_refl _) _
        obtain ⟨w1b, hW⟩ : ∃ W, W = (w1).alloc (.cells #[.int .i64 0, .int .i64 0] 28) := ⟨_, rfl⟩
        rw [← hW] at hyx hbW ⊢
        replace Ht := hide (Ht.out.keep hbW)
        replace Hr_ := hide (Hr_.out.keep hbW)
        replace Hf := hide (Hf.out.keep hbW)
        replace Hbl := hide (Hbl.out.trans (hbW.mono Hbl.out.size))
        have Hx := hide hyx
        clear hW hbW hyx
        generalize w1.heap.size = gx at Hx hgq n_t_x n_x_t n_r__x n_x_r_ n_f_x n_x_f s_t s_r_ s_f s_0 ⊢
        have t0 := Ht.out.cell 0
        have t1 := Ht.out.cell 1
        have t2 := Ht.out.cell 2
        have t3 := Ht.out.cell 3
        have tl := Ht.out.lt
        have r_0 := Hr_.out.cell 0
        have r_1 := Hr_.out.cell 1
        have r_2 := Hr_.out.cell 2
        have r_3 := Hr_.out.cell 3
        have r_l := Hr_.out.lt
        have f0 := Hf.out.cell 0
        have f1 := Hf.out.cell 1
        have fl := Hf.out.lt
        have x0 := Hx.out.cell 0
        have x1 := Hx.out.cell 1
        have xl := Hx.out.lt
        simp only [List.getElem?_cons_zero, List.getElem?_cons_succ] at t0 t1 t2 t3 r_0 r_1 r_2 r_3 f0 f1 x0 x1
        clear s_t
        clear s_r_
        clear s_f
        have a_x : B0 ≤ gx := by omega
        clear s_0
        have hxlt := xl
        refine hK _ _ ?_ (fun hHeld2 => ?_)
        · exact ⟨t0, t1, t2, t3⟩
        clear hK K hHeld
        try simp only [Act.put, List.setIfInBounds_toArray, List.set_cons_zero, List.set_cons_succ]
        have hHeld := hHeld2; clear hHeld2
        refine takeA (i := 9) (v := ?_) (some 6) rfl rfl (by kernel_rfl) (by kernel_rfl) (by kernel_rfl) (fun _ _ _ h => h) (Or.inl ⟨by rfl, ?_⟩) (by assumption) ?_
        rotate_left
        · intro w hSw; (try dsimp only at hSw); obtain ⟨s1, s2, s3, s4⟩ := hSw; first | (go_simp; done) | (go_simp; with_reducible rfl)
        try simp only [Act.put, List.setIfInBounds_toArray, List.set_cons_zero, List.set_cons_succ]
        refine takeA (i := 10) (v := ?_) (some 7) rfl rfl (by kernel_rfl) (by kernel_rfl) (by kernel_rfl) (fun _ _ _ h => h) (Or.inl ⟨by rfl, ?_⟩) (by assumption) ?_
        rotate_left
        · intro w hSw; (try dsimp only at hSw); obtain ⟨s1, s2, s3, s4⟩ := hSw; first | (go_simp; done) | (go_simp; with_reducible rfl)
        try simp only [Act.put, List.setIfInBounds_toArray, List.set_cons_zero, List.set_cons_succ]
        have xf0 := Hx.out.frozen 0
        have xf1 := Hx.out.frozen 1
        refine wpAnyH_ready (rs := [11]) (by kernel_rfl) (by simp) ?_
        refine AllReadyH.cons rfl (fun K hK => ?_) AllReadyH.nil
        go_simp
        clear xf0 xf1
        have hyb := ((Hx.out.set 0 (.int .i64 ec)).set 1 (.int .i64 ei))
        simp only [List.set_cons_zero, List.set_cons_succ] at hyb
        have hbW := (below_set ((below_set (Below.refl B0 w1b) (g := gx) a_x 0 (.int .i64 ec))) (g := gx) a_x 1 (.int .i64 ei))
        have hcW := ((Chg.refl (fun x => x = gx) w1b).trans (Chg.set _ (gx) 0 (.int .i64 ec))).trans (Chg.set _ (gx) 1 (.int .i64 ei))
        obtain ⟨w2, hW⟩ : ∃ W, W = ((w1b).setCell ⟨gx, 0, none⟩ (.int .i64 ec)).setCell ⟨gx, 1, none⟩ (.int .i64 ei) := ⟨_, rfl⟩
        rw [← hW] at hyb hbW hcW ⊢
        replace Hx := hide hyb
        clear hW hyb
        clear t0 t1 t2 t3 r_0 r_1 r_2 r_3 f0 f1 x0 x1 tl r_l fl xl
        replace Ht := hide (hcW.blk Ht.out (by exact n_t_x))
        replace Hr_ := hide (hcW.blk Hr_.out (by exact n_r__x))
        replace Hf := hide (hcW.blk Hf.out (by exact n_f_x))
        replace Hbl := hide (Hbl.out.trans (hbW.mono (Nat.le_of_eq HB0.out.symm)))
        clear hbW hcW
        have t0 := Ht.out.cell 0
        have t1 := Ht.out.cell 1
        have t2 := Ht.out.cell 2
        have t3 := Ht.out.cell 3
        have tl := Ht.out.lt
        have r_0 := Hr_.out.cell 0
        have r_1 := Hr_.out.cell 1
        have r_2 := Hr_.out.cell 2
        have r_3 := Hr_.out.cell 3
        have r_l := Hr_.out.lt
        have f0 := Hf.out.cell 0
        have f1 := Hf.out.cell 1
        have fl := Hf.out.lt
        have x0 := Hx.out.cell 0
        have x1 := Hx.out.cell 1
        have xl := Hx.out.lt
        simp only [List.getElem?_cons_zero, List.getElem?_cons_succ] at t0 t1 t2 t3 r_0 r_1 r_2 r_3 f0 f1 x0 x1
        refine hK _ _ ?_ (fun hHeld2 => ?_)
        · exact ⟨t0, t1, t2, t3⟩
        clear hK K hHeld
        try simp only [Act.put, List.setIfInBounds_toArray, List.set_cons_zero, List.set_cons_succ]
        have hHeld := hHeld2; clear hHeld2
        refine wpAnyH_done (by kernel_rfl) ?_ _
        clear hHeld
        have r_f0 := Hr_.out.frozen 0
        have r_f1 := Hr_.out.frozen 1
        have r_f2 := Hr_.out.frozen 2
        have r_f3 := Hr_.out.frozen 3
        have ff0 := Hf.out.frozen 0
        have ff1 := Hf.out.frozen 1
        go_upto_region 3 with (fail)
        go_region
        all_goals go_wp2_with fail
        all_goals refine bodyPost_ret (v := .tuple #[resV false none 0 0 0 0, fault ec ei]) (by simp [results, Tryz.results13, go_sem, fault, resV, f0, f1, fl, r_0, r_1, r_2, r_3, r_l]) rfl ?_
        have hbx := HB0.out
        refine ⟨?_, .inl ⟨by rw [Hq.out]; exact h1, by rw [Hq.out]⟩⟩
        repeat' (first | (with_reducible exact Hbl.out) | (with_reducible refine Below.drew ?_) | (with_reducible refine below_setA ?_ ?_ _ _) | (with_reducible refine below_drewN ?_ _) | omega)
      · skip
        have Hmany := hide hmany
        clear hmany
        unfold fault
        go_simp
        refine hK _ _ ?_ (fun hHeld2 => ?_)
        · exact ⟨t0, t1, t2, t3⟩
        clear hK K hHeld
        try simp only [Act.put, List.setIfInBounds_toArray, List.set_cons_zero, List.set_cons_succ]
        have hHeld := hHeld2; clear hHeld2
        refine takeA (i := 4) (v := ?_) (some 12) rfl rfl (by kernel_rfl) (by kernel_rfl) (by kernel_rfl) (fun _ _ _ h => h) (Or.inl ⟨by rfl, ?_⟩) (by assumption) ?_
        rotate_left
        · intro w hSw; (try dsimp only at hSw); obtain ⟨s1, s2, s3, s4⟩ := hSw; first | (go_simp; done) | (go_simp; with_reducible rfl)
        try simp only [Act.put, List.setIfInBounds_toArray, List.set_cons_zero, List.set_cons_succ]
        refine takeA (i := 5) (v := ?_) (some 17) rfl rfl (by kernel_rfl) (by kernel_rfl) (by kernel_rfl) (fun _ _ _ h => h) (Or.inl ⟨by rfl, ?_⟩) (by assumption) ?_
        rotate_left
        · intro w hSw; (try dsimp only at hSw); obtain ⟨s1, s2, s3, s4⟩ := hSw; first | (go_simp; done) | (go_simp; with_reducible rfl)
        try simp only [Act.put, List.setIfInBounds_toArray, List.set_cons_zero, List.set_cons_succ]
        refine takeA (i := 6) (v := ?_) (some 18) rfl rfl (by kernel_rfl) (by kernel_rfl) (by kernel_rfl) (fun _ _ _ h => h) (Or.inl ⟨by rfl, ?_⟩) (by assumption) ?_
        rotate_left
        · intro w hSw; (try dsimp only at hSw); obtain ⟨s1, s2, s3, s4⟩ := hSw; first | (go_simp; done) | (go_simp; with_reducible rfl)
        try simp only [Act.put, List.setIfInBounds_toArray, List.set_cons_zero, List.set_cons_succ]
        refine takeA (i := 7) (v := ?_) (some 19) rfl rfl (by kernel_rfl) (by kernel_rfl) (by kernel_rfl) (fun _ _ _ h => h) (Or.inl ⟨by rfl, ?_⟩) (by assumption) ?_
        rotate_left
        · intro w hSw; (try dsimp only at hSw); obtain ⟨s1, s2, s3, s4⟩ := hSw; first | (go_simp; done) | (go_simp; with_reducible rfl)
        try simp only [Act.put, List.setIfInBounds_toArray, List.set_cons_zero, List.set_cons_succ]
        refine wpAnyH_ready (rs := [8]) (by kernel_rfl) (by simp) ?_
        refine AllReadyH.cons rfl (fun K hK => ?_) AllReadyH.nil
        go_simp
        obtain ⟨zq, hzq⟩ : ∃ z, z ≤ w1.heap.size ∧ w1.heap.size ≤ z := ⟨w1.heap.size, Nat.le_refl _, Nat.le_refl _⟩
        have hzq1 := hzq
        have hgq : w1.heap.size ≤ w1.heap.size := Nat.le_refl _
        replace hgq := Nat.le_trans hzq.1 hgq
        have n_t_x : ¬ gT = w1.heap.size := by omega
        have n_x_t : ¬ w1.heap.size = gT := by omega
        have n_r__x : ¬ gT + 1 = w1.heap.size := by omega
        have n_x_r_ : ¬ w1.heap.size = gT + 1 := by omega
        have n_f_x : ¬ gT + 1 + 1 = w1.heap.size := by omega
        have n_x_f : ¬ w1.heap.size = gT + 1 + 1 := by omega
        have s_t : gT < w1.heap.size := tl
        have s_r_ : gT + 1 < w1.heap.size := r_l
        have s_f : gT + 1 + 1 < w1.heap.size := fl
        have s_0 : B0 ≤ w1.heap.size := Nat.le_trans (Nat.le_of_eq HB0.out) Hbl.out.size
        have hyx := Blk.new (w1) 28 [.int .i64 0, .int .i64 0]
        have hbW : Below (w1).heap.size (w1) ((w1).alloc (.cells #[.int .i64 0, .int .i64 0] 28)) := (Below.refl _ _).alloc (Nat.le_refl _) _
        obtain ⟨w1b, hW⟩ : ∃ W, W = (w1).alloc (.cells #[.int .i64 0, .int .i64 0] 28) := ⟨_, rfl⟩
        rw [← hW] at hyx hbW ⊢
        replace Ht := hide (Ht.out.keep hbW)
        replace Hr_ := hide (Hr_.out.keep hbW)
        replace Hf := hide (Hf.out.keep hbW)
        replace Hbl := hide (Hbl.out.trans (hbW.mono Hbl.out.size))
        have Hx := hide hyx
        clear hW hbW hyx
        generalize w1.heap.size = gx at Hx hgq n_t_x n_x_t n_r__x n_x_r_ n_f_x n_x_f s_t s_r_ s_f s_0 ⊢
        have t0 := Ht.out.cell 0
        have t1 := Ht.out.cell 1
        have t2 := Ht.out.cell 2
        have t3 := Ht.out.cell 3
        have tl := Ht.out.lt
        have r_0 := Hr_.out.cell 0
        have r_1 := Hr_.out.cell 1
        have r_2 := Hr_.out.cell 2
        have r_3 := Hr_.out.cell 3
        have r_l := Hr_.out.lt
        have f0 := Hf.out.cell 0
        have f1 := Hf.out.cell 1
        have fl := Hf.out.lt
        have x0 := Hx.out.cell 0
        have x1 := Hx.out.cell 1
        have xl := Hx.out.lt
        simp only [List.getElem?_cons_zero, List.getElem?_cons_succ] at t0 t1 t2 t3 r_0 r_1 r_2 r_3 f0 f1 x0 x1
        clear s_t
        clear s_r_
        clear s_f
        have a_x : B0 ≤ gx := by omega
        clear s_0
        have hxlt := xl
        refine hK _ _ ?_ (fun hHeld2 => ?_)
        · exact ⟨t0, t1, t2, t3⟩
        clear hK K hHeld
        try simp only [Act.put, List.setIfInBounds_toArray, List.set_cons_zero, List.set_cons_succ]
        have hHeld := hHeld2; clear hHeld2
        refine takeA (i := 9) (v := ?_) (some 6) rfl rfl (by kernel_rfl) (by kernel_rfl) (by kernel_rfl) (fun _ _ _ h => h) (Or.inl ⟨by rfl, ?_⟩) (by assumption) ?_
        rotate_left
        · intro w hSw; (try dsimp only at hSw); obtain ⟨s1, s2, s3, s4⟩ := hSw; first | (go_simp; done) | (go_simp; with_reducible rfl)
        try simp only [Act.put, List.setIfInBounds_toArray, List.set_cons_zero, List.set_cons_succ]
        refine takeA (i := 10) (v := ?_) (some 7) rfl rfl (by kernel_rfl) (by kernel_rfl) (by kernel_rfl) (fun _ _ _ h => h) (Or.inl ⟨by rfl, ?_⟩) (by assumption) ?_
        rotate_left
        · intro w hSw; (try dsimp only at hSw); obtain ⟨s1, s2, s3, s4⟩ := hSw; first | (go_simp; done) | (go_simp; with_reducible rfl)
        try simp only [Act.put, List.setIfInBounds_toArray, List.set_cons_zero, List.set_cons_succ]
        have xf0 := Hx.out.frozen 0
        have xf1 := Hx.out.frozen 1
        refine wpAnyH_ready (rs := [11]) (by kernel_rfl) (by simp) ?_
        refine AllReadyH.cons rfl (fun K hK => ?_) AllReadyH.nil
        go_simp
        clear xf0 xf1
        have hyb := ((Hx.out.set 0 (.int .i64 10)).set 1 (.int .i64 (-7)))
        simp only [List.set_cons_zero, List.set_cons_succ] at hyb
        have hbW := (below_set ((below_set (Below.refl B0 w1b) (g := gx) a_x 0 (.int .i64 10))) (g := gx) a_x 1 (.int .i64 (-7)))
        have hcW := ((Chg.refl (fun x => x = gx) w1b).trans (Chg.set _ (gx) 0 (.int .i64 10))).trans (Chg.set _ (gx) 1 (.int .i64 (-7)))
        obtain ⟨w2, hW⟩ : ∃ W, W = ((w1b).setCell ⟨gx, 0, none⟩ (.int .i64 10)).setCell ⟨gx, 1, none⟩ (.int .i64 (-7)) := ⟨_, rfl⟩
        rw [← hW] at hyb hbW hcW ⊢
        replace Hx := hide hyb
        clear hW hyb
        clear t0 t1 t2 t3 r_0 r_1 r_2 r_3 f0 f1 x0 x1 tl r_l fl xl
        replace Ht := hide (hcW.blk Ht.out (by exact n_t_x))
        replace Hr_ := hide (hcW.blk Hr_.out (by exact n_r__x))
        replace Hf := hide (hcW.blk Hf.out (by exact n_f_x))
        replace Hbl := hide (Hbl.out.trans (hbW.mono (Nat.le_of_eq HB0.out.symm)))
        clear hbW hcW
        have t0 := Ht.out.cell 0
        have t1 := Ht.out.cell 1
        have t2 := Ht.out.cell 2
        have t3 := Ht.out.cell 3
        have tl := Ht.out.lt
        have r_0 := Hr_.out.cell 0
        have r_1 := Hr_.out.cell 1
        have r_2 := Hr_.out.cell 2
        have r_3 := Hr_.out.cell 3
        have r_l := Hr_.out.lt
        have f0 := Hf.out.cell 0
        have f1 := Hf.out.cell 1
        have fl := Hf.out.lt
        have x0 := Hx.out.cell 0
        have x1 := Hx.out.cell 1
        have xl := Hx.out.lt
        simp only [List.getElem?_cons_zero, List.getElem?_cons_succ] at t0 t1 t2 t3 r_0 r_1 r_2 r_3 f0 f1 x0 x1
        refine hK _ _ ?_ (fun hHeld2 => ?_)
        · exact ⟨t0, t1, t2, t3⟩
        clear hK K hHeld
        try simp only [Act.put, List.setIfInBounds_toArray, List.set_cons_zero, List.set_cons_succ]
        have hHeld := hHeld2; clear hHeld2
        refine wpAnyH_done (by kernel_rfl) ?_ _
        clear hHeld
        have r_f0 := Hr_.out.frozen 0
        have r_f1 := Hr_.out.frozen 1
        have r_f2 := Hr_.out.frozen 2
        have r_f3 := Hr_.out.frozen 3
        have ff0 := Hf.out.frozen 0
        have ff1 := Hf.out.frozen 1
        go_upto_region 3 with (fail)
        go_region
        all_goals go_wp2_with fail
        all_goals refine bodyPost_ret (v := .tuple #[resV false none 0 0 0 0, fault 10 (-7)]) (by simp [results, Tryz.results13, go_sem, fault, resV, f0, f1, fl, r_0, r_1, r_2, r_3, r_l]) rfl ?_
        have hbx := HB0.out
        refine ⟨?_, .inr (.inl ⟨by rw [Hq.out]; exact h1, Hmany.out, rfl⟩)⟩
        repeat' (first | (with_reducible exact Hbl.out) | (with_reducible refine Below.drew ?_) | (with_reducible refine below_setA ?_ ?_ _ _) | (with_reducible refine below_drewN ?_ _) | omega)
      · skip
        have HW := hide hW
        have Hlist := hide hlist
        have Hx12 := hide (Below.refl w1.heap.size w1)
        clear hW hrow hlist
        unfold fault
        go_simp
        refine hK _ _ ?_ (fun hHeld2 => ?_)
        · exact ⟨t0, t1, t2, t3⟩
        clear hK K hHeld
        try simp only [Act.put, List.setIfInBounds_toArray, List.set_cons_zero, List.set_cons_succ]
        have hHeld := hHeld2; clear hHeld2
        refine takeA (i := 4) (v := ?_) (some 12) rfl rfl (by kernel_rfl) (by kernel_rfl) (by kernel_rfl) (fun _ _ _ h => h) (Or.inl ⟨by rfl, ?_⟩) (by assumption) ?_
        rotate_left
        · intro w hSw; (try dsimp only at hSw); obtain ⟨s1, s2, s3, s4⟩ := hSw; first | (go_simp; done) | (go_simp; with_reducible rfl)
        try simp only [Act.put, List.setIfInBounds_toArray, List.set_cons_zero, List.set_cons_succ]
        refine takeA (i := 5) (v := ?_) (some 17) rfl rfl (by kernel_rfl) (by kernel_rfl) (by kernel_rfl) (fun _ _ _ h => h) (Or.inl ⟨by rfl, ?_⟩) (by assumption) ?_
        rotate_left
        · intro w hSw; (try dsimp only at hSw); obtain ⟨s1, s2, s3, s4⟩ := hSw; first | (go_simp; done) | (go_simp; with_reducible rfl)
        try simp only [Act.put, List.setIfInBounds_toArray, List.set_cons_zero, List.set_cons_succ]
        refine takeA (i := 6) (v := ?_) (some 18) rfl rfl (by kernel_rfl) (by kernel_rfl) (by kernel_rfl) (fun _ _ _ h => h) (Or.inl ⟨by rfl, ?_⟩) (by assumption) ?_
        rotate_left
        · intro w hSw; (try dsimp only at hSw); obtain ⟨s1, s2, s3, s4⟩ := hSw; first | (go_simp; done) | (go_simp; with_reducible rfl)
        try simp only [Act.put, List.setIfInBounds_toArray, List.set_cons_zero, List.set_cons_succ]
        refine takeA (i := 7) (v := ?_) (some 19) rfl rfl (by kernel_rfl) (by kernel_rfl) (by kernel_rfl) (fun _ _ _ h => h) (Or.inl ⟨by rfl, ?_⟩) (by assumption) ?_
        rotate_left
        · intro w hSw; (try dsimp only at hSw); obtain ⟨s1, s2, s3, s4⟩ := hSw; first | (go_simp; done) | (go_simp; with_reducible rfl)
        try simp only [Act.put, List.setIfInBounds_toArray, List.set_cons_zero, List.set_cons_succ]
        refine wpAnyH_ready (rs := [8]) (by kernel_rfl) (by simp) ?_
        refine AllReadyH.cons rfl (fun K hK => ?_) AllReadyH.nil
        go_simp
        obtain ⟨zq, hzq⟩ : ∃ z, z ≤ w1.heap.size ∧ w1.heap.size ≤ z := ⟨w1.heap.size, Nat.le_refl _, Nat.le_refl _⟩
        have hzq1 := hzq
        have hgq : w1.heap.size ≤ w1.heap.size := Nat.le_refl _
        replace hgq := Nat.le_trans hzq.1 hgq
        have n_t_x : ¬ gT = w1.heap.size := by omega
        have n_x_t : ¬ w1.heap.size = gT := by omega
        have n_r__x : ¬ gT + 1 = w1.heap.size := by omega
        have n_x_r_ : ¬ w1.heap.size = gT + 1 := by omega
        have n_f_x : ¬ gT + 1 + 1 = w1.heap.size := by omega
        have n_x_f : ¬ w1.heap.size = gT + 1 + 1 := by omega
        have s_t : gT < w1.heap.size := tl
        have s_r_ : gT + 1 < w1.heap.size := r_l
        have s_f : gT + 1 + 1 < w1.heap.size := fl
        have s_0 : B0 ≤ w1.heap.size := Nat.le_trans (Nat.le_of_eq HB0.out) Hbl.out.size
        have hyx := Blk.new (w1) 28 [.int .i64 0, .int .i64 0]
        have hbW : Below (w1).heap.size (w1) ((w1).alloc (.cells #[.int .i64 0, .int .i64 0] 28)) := (Below.refl _ _).alloc (Nat.le_refl _) _
        obtain ⟨w1b, hW⟩ : ∃ W, W = (w1).alloc (.cells #[.int .i64 0, .int .i64 0] 28) := ⟨_, rfl⟩
        rw [← hW] at hyx hbW ⊢
        replace Ht := hide (Ht.out.keep hbW)
        replace Hr_ := hide (Hr_.out.keep hbW)
        replace Hf := hide (Hf.out.keep hbW)
        replace Hbl := hide (Hbl.out.trans (hbW.mono Hbl.out.size))
        replace Hx12 := hide (Hx12.out.trans (hbW.mono Hx12.out.size))
        have Hx := hide hyx
        clear hW hbW hyx
        generalize w1.heap.size = gx at Hx hgq n_t_x n_x_t n_r__x n_x_r_ n_f_x n_x_f s_t s_r_ s_f s_0 ⊢
        have t0 := Ht.out.cell 0
        have t1 := Ht.out.cell 1
        have t2 := Ht.out.cell 2
        have t3 := Ht.out.cell 3
        have tl := Ht.out.lt
        have r_0 := Hr_.out.cell 0
        have r_1 := Hr_.out.cell 1
        have r_2 := Hr_.out.cell 2
        have r_3 := Hr_.out.cell 3
        have r_l := Hr_.out.lt
        have f0 := Hf.out.cell 0
        have f1 := Hf.out.cell 1
        have fl := Hf.out.lt
        have x0 := Hx.out.cell 0
        have x1 := Hx.out.cell 1
        have xl := Hx.out.lt
        simp only [List.getElem?_cons_zero, List.getElem?_cons_succ] at t0 t1 t2 t3 r_0 r_1 r_2 r_3 f0 f1 x0 x1
        clear s_t
        clear s_r_
        clear s_f
        have a_x : B0 ≤ gx := by omega
        clear s_0
        have hxlt := xl
        refine hK _ _ ?_ (fun hHeld2 => ?_)
        · exact ⟨t0, t1, t2, t3⟩
        clear hK K hHeld
        try simp only [Act.put, List.setIfInBounds_toArray, List.set_cons_zero, List.set_cons_succ]
        have hHeld := hHeld2; clear hHeld2
        refine takeA (i := 9) (v := ?_) (some 6) rfl rfl (by kernel_rfl) (by kernel_rfl) (by kernel_rfl) (fun _ _ _ h => h) (Or.inl ⟨by rfl, ?_⟩) (by assumption) ?_
        rotate_left
        · intro w hSw; (try dsimp only at hSw); obtain ⟨s1, s2, s3, s4⟩ := hSw; first | (go_simp; done) | (go_simp; with_reducible rfl)
        try simp only [Act.put, List.setIfInBounds_toArray, List.set_cons_zero, List.set_cons_succ]
        refine takeA (i := 10) (v := ?_) (some 7) rfl rfl (by kernel_rfl) (by kernel_rfl) (by kernel_rfl) (fun _ _ _ h => h) (Or.inl ⟨by rfl, ?_⟩) (by assumption) ?_
        rotate_left
        · intro w hSw; (try dsimp only at hSw); obtain ⟨s1, s2, s3, s4⟩ := hSw; first | (go_simp; done) | (go_simp; with_reducible rfl)
        try simp only [Act.put, List.setIfInBounds_toArray, List.set_cons_zero, List.set_cons_succ]
        have xf0 := Hx.out.frozen 0
        have xf1 := Hx.out.frozen 1
        refine wpAnyH_ready (rs := [11]) (by kernel_rfl) (by simp) ?_
        refine AllReadyH.cons rfl (fun K hK => ?_) AllReadyH.nil
        go_simp
        clear xf0 xf1
        have hyb := ((Hx.out.set 0 (.int .i64 0)).set 1 (.int .i64 0))
        simp only [List.set_cons_zero, List.set_cons_succ] at hyb
        have hbW := (below_set ((below_set (Below.refl B0 w1b) (g := gx) a_x 0 (.int .i64 0))) (g := gx) a_x 1 (.int .i64 0))
        have hcW := ((Chg.refl (fun x => x = gx) w1b).trans (Chg.set _ (gx) 0 (.int .i64 0))).trans (Chg.set _ (gx) 1 (.int .i64 0))
        obtain ⟨w2, hW⟩ : ∃ W, W = ((w1b).setCell ⟨gx, 0, none⟩ (.int .i64 0)).setCell ⟨gx, 1, none⟩ (.int .i64 0) := ⟨_, rfl⟩
        rw [← hW] at hyb hbW hcW ⊢
        replace Hx := hide hyb
        clear hW hyb
        clear t0 t1 t2 t3 r_0 r_1 r_2 r_3 f0 f1 x0 x1 tl r_l fl xl
        replace Ht := hide (hcW.blk Ht.out (by exact n_t_x))
        replace Hr_ := hide (hcW.blk Hr_.out (by exact n_r__x))
        replace Hf := hide (hcW.blk Hf.out (by exact n_f_x))
        have Hx12c := hide (Chg.of_below (Hx12.out.trans (hcW.below (fun i e => by have h1 : i = gx := e; omega) (by have := Hx12.out.size; omega))) (fun b => b < V.heap.size))
        replace Hbl := hide (Hbl.out.trans (hbW.mono (Nat.le_of_eq HB0.out.symm)))
        clear hbW hcW
        have t0 := Ht.out.cell 0
        have t1 := Ht.out.cell 1
        have t2 := Ht.out.cell 2
        have t3 := Ht.out.cell 3
        have tl := Ht.out.lt
        have r_0 := Hr_.out.cell 0
        have r_1 := Hr_.out.cell 1
        have r_2 := Hr_.out.cell 2
        have r_3 := Hr_.out.cell 3
        have r_l := Hr_.out.lt
        have f0 := Hf.out.cell 0
        have f1 := Hf.out.cell 1
        have fl := Hf.out.lt
        have x0 := Hx.out.cell 0
        have x1 := Hx.out.cell 1
        have xl := Hx.out.lt
        simp only [List.getElem?_cons_zero, List.getElem?_cons_succ] at t0 t1 t2 t3 r_0 r_1 r_2 r_3 f0 f1 x0 x1
        refine hK _ _ ?_ (fun hHeld2 => ?_)
        · exact ⟨t0, t1, t2, t3⟩
        clear hK K hHeld
        try simp only [Act.put, List.setIfInBounds_toArray, List.set_cons_zero, List.set_cons_succ]
        have hHeld := hHeld2; clear hHeld2
        refine wpAnyH_done (by kernel_rfl) ?_ _
        clear hHeld
        obtain ⟨N, hok⟩ := taskFault_ok (T := T) (by rw [Hq.out]; exact h1)
        have hN := hok.low
        have HW2 := hide (HW.out w2 Hx12c.out)
        have hmk : ∀ m ∈ T.ops.map mkOp, MkOk m := HW2.out.ok
        have h032 := HW2.out.start
        have h32 : ∀ s ∈ L, s < 4294967296 := fun s hs => reach_w hmk h032 ((Hlist.out.all.mem s).1 hs)
        have Hmk := hide hmk
        have H32 := hide h32
        have Hok := hide hok
        clear hmk h32 hok
        have Hb2 := hide (Below.refl w2.heap.size w2)
        have Kt := Ht
        have Kr_ := Hr_
        have Kf := Hf
        have Kx := Hx
        have Kbl := Hbl
        have z2 := HB0.out
        go_upto_region 4 with (fail)
        go_wp2_with fail
        with_reducible refine (Heuristic_ct (.int .i64 T.facts) (.slice I nI cI) (.slice G nG cG) (.slice O nO cO) 0 (fun _ => 0) L w2).mono ?_
        rintro e w3 ⟨hb, tb, kb, xb, hb3, rfl, hheu, hl1, hl2, hl3, hl4⟩
        have Hheu := hide hheu
        clear hheu
        have Hb23 := hide hb
        clear t0 t1 t2 t3 r_0 r_1 r_2 r_3 f0 f1 x0 x1 tl r_l fl xl
        replace Ht := hide (Ht.out.keep hb)
        replace Hr_ := hide (Hr_.out.keep hb)
        replace Hf := hide (Hf.out.keep hb)
        replace Hx := hide (Hx.out.keep hb)
        replace Hbl := hide (Hbl.out.trans (hb.mono Hbl.out.size))
        clear hb
        have t0 := Ht.out.cell 0
        have t1 := Ht.out.cell 1
        have t2 := Ht.out.cell 2
        have t3 := Ht.out.cell 3
        have tl := Ht.out.lt
        have r_0 := Hr_.out.cell 0
        have r_1 := Hr_.out.cell 1
        have r_2 := Hr_.out.cell 2
        have r_3 := Hr_.out.cell 3
        have r_l := Hr_.out.lt
        have f0 := Hf.out.cell 0
        have f1 := Hf.out.cell 1
        have fl := Hf.out.lt
        have x0 := Hx.out.cell 0
        have x1 := Hx.out.cell 1
        have xl := Hx.out.lt
        simp only [List.getElem?_cons_zero, List.getElem?_cons_succ] at t0 t1 t2 t3 r_0 r_1 r_2 r_3 f0 f1 x0 x1
        have hHC := heu_zero (w0 := w2) Hlist.out.few H32.out Hheu.out hl4
        have hbest := Best_ct w2 w3 g _ _ _ xb tb kb hb3 (fun _ => 0) L _ HW2.out Hb23.out hHC Hheu.out Hlist.out.few (fun s => Hlist.out.all.mem s) (fun _ => Int.le_refl _) (fun s l u n hw hg => ⟨(path_ops hw Hmk.out).1, by unfold infA; omega⟩)
        go_wp2_with fail
        with_reducible refine hbest.mono ?_
        rintro e w4 ⟨hb, hor2⟩
        clear hbest hHC
        clear t0 t1 t2 t3 r_0 r_1 r_2 r_3 f0 f1 x0 x1 tl r_l fl xl
        replace Ht := hide (Kt.out.keep hb)
        replace Hr_ := hide (Kr_.out.keep hb)
        replace Hf := hide (Kf.out.keep hb)
        replace Hx := hide (Kx.out.keep hb)
        replace Hbl := hide (Kbl.out.trans (hb.mono Kbl.out.size))
        clear hb
        have t0 := Ht.out.cell 0
        have t1 := Ht.out.cell 1
        have t2 := Ht.out.cell 2
        have t3 := Ht.out.cell 3
        have tl := Ht.out.lt
        have r_0 := Hr_.out.cell 0
        have r_1 := Hr_.out.cell 1
        have r_2 := Hr_.out.cell 2
        have r_3 := Hr_.out.cell 3
        have r_l := Hr_.out.lt
        have f0 := Hf.out.cell 0
        have f1 := Hf.out.cell 1
        have fl := Hf.out.lt
        have x0 := Hx.out.cell 0
        have x1 := Hx.out.cell 1
        have xl := Hx.out.lt
        simp only [List.getElem?_cons_zero, List.getElem?_cons_succ] at t0 t1 t2 t3 r_0 r_1 r_2 r_3 f0 f1 x0 x1
        rcases hor2 with ⟨PO, pc, pl, pk, rfl, hbo, hlen, hown⟩ | ⟨pk, rfl, hno⟩
        · skip
          have hbo2 := hbo
          obtain ⟨u, n, hpath, hgu, _⟩ := hbo2
          obtain ⟨_, hops⟩ := path_ops hpath Hmk.out
          rw [List.length_map] at hops
          obtain ⟨hr1, hr2⟩ := ops_range Hok.out hops
          rw [opsV_opsI] at hown
          have hrd := own_rd hown (opsI_length pl) (fun x hx => by have := hr1 x hx; have := Hok.out.few; omega)
          have Hbo := hide hbo
          clear hbo hpath hgu hops hown
          have hct := Hres.out PO pl.length pc (opsI pl) true pk w4 (H.out.keep Hbl.out) hrd hr1 hr2
          clear hr1 hr2 hrd
          go_wp2_with fail
          with_reducible refine hct.mono ?_
          rintro e w5 ⟨hb, hor3⟩
          clear hct
          clear t0 t1 t2 t3 r_0 r_1 r_2 r_3 f0 f1 x0 x1 tl r_l fl xl
          replace Ht := hide (Ht.out.keep hb)
          replace Hr_ := hide (Hr_.out.keep hb)
          replace Hf := hide (Hf.out.keep hb)
          replace Hx := hide (Hx.out.keep hb)
          replace Hbl := hide (Hbl.out.trans (hb.mono Hbl.out.size))
          clear hb
          have t0 := Ht.out.cell 0
          have t1 := Ht.out.cell 1
          have t2 := Ht.out.cell 2
          have t3 := Ht.out.cell 3
          have tl := Ht.out.lt
          have r_0 := Hr_.out.cell 0
          have r_1 := Hr_.out.cell 1
          have r_2 := Hr_.out.cell 2
          have r_3 := Hr_.out.cell 3
          have r_l := Hr_.out.lt
          have f0 := Hf.out.cell 0
          have f1 := Hf.out.cell 1
          have fl := Hf.out.lt
          have x0 := Hx.out.cell 0
          have x1 := Hx.out.cell 1
          have xl := Hx.out.lt
          simp only [List.getElem?_cons_zero, List.getElem?_cons_succ] at t0 t1 t2 t3 r_0 r_1 r_2 r_3 f0 f1 x0 x1
          rcases hor3 with ⟨h60, rfl⟩ | ⟨h60, rfl⟩
          · skip
            unfold fault resV
            have r_f0 := Hr_.out.frozen 0
            have r_f1 := Hr_.out.frozen 1
            have r_f2 := Hr_.out.frozen 2
            have r_f3 := Hr_.out.frozen 3
            have ff0 := Hf.out.frozen 0
            have ff1 := Hf.out.frozen 1
            go_wp2_with fail
            refine bodyPost_ret (v := .tuple #[resV false none 0 0 0 0, fault 10 (-9)]) (by simp [results, Tryz.results13, go_sem, fault, resV, f0, f1, fl, r_0, r_1, r_2, r_3, r_l]) rfl ?_
            have hbx := HB0.out
            refine ⟨?_, .inr (.inr ⟨by rw [Hq.out]; exact h1, L, Hlist.out, .inr ⟨pl, Hbo.out, .inl ⟨h60, rfl⟩⟩⟩)⟩
            repeat' (first | (with_reducible exact Hbl.out) | (with_reducible refine Below.drew ?_) | (with_reducible refine below_setA ?_ ?_ _ _) | (with_reducible refine below_drewN ?_ _) | omega)
          · skip
            unfold fault resV
            have r_f0 := Hr_.out.frozen 0
            have r_f1 := Hr_.out.frozen 1
            have r_f2 := Hr_.out.frozen 2
            have r_f3 := Hr_.out.frozen 3
            have ff0 := Hf.out.frozen 0
            have ff1 := Hf.out.frozen 1
            go_wp2_with fail
            refine bodyPost_ret (v := .tuple #[resV true PO pl.length pc (costF T.ops (opsI pl)) pk, fault 0 0]) (by simp [results, Tryz.results13, go_sem, fault, resV, f0, f1, fl, r_0, r_1, r_2, r_3, r_l]) rfl ?_
            have hbx := HB0.out
            refine ⟨?_, .inr (.inr ⟨by rw [Hq.out]; exact h1, L, Hlist.out, .inr ⟨pl, Hbo.out, .inr ⟨h60, _, _, _, _, rfl⟩⟩⟩)⟩
            repeat' (first | (with_reducible exact Hbl.out) | (with_reducible refine Below.drew ?_) | (with_reducible refine below_setA ?_ ?_ _ _) | (with_reducible refine below_drewN ?_ _) | omega)
        · skip
          have hct := Hres.out none 0 0 [] false pk w4 (H.out.keep Hbl.out) (Rd.nil_ _ _) (fun x hx => by cases hx) (fun x hx => by cases hx)
          go_wp2_with fail
          with_reducible refine hct.mono ?_
          rintro e w5 ⟨hb, hor3⟩
          clear hct
          clear t0 t1 t2 t3 r_0 r_1 r_2 r_3 f0 f1 x0 x1 tl r_l fl xl
          replace Ht := hide (Ht.out.keep hb)
          replace Hr_ := hide (Hr_.out.keep hb)
          replace Hf := hide (Hf.out.keep hb)
          replace Hx := hide (Hx.out.keep hb)
          replace Hbl := hide (Hbl.out.trans (hb.mono Hbl.out.size))
          clear hb
          have t0 := Ht.out.cell 0
          have t1 := Ht.out.cell 1
          have t2 := Ht.out.cell 2
          have t3 := Ht.out.cell 3
          have tl := Ht.out.lt
          have r_0 := Hr_.out.cell 0
          have r_1 := Hr_.out.cell 1
          have r_2 := Hr_.out.cell 2
          have r_3 := Hr_.out.cell 3
          have r_l := Hr_.out.lt
          have f0 := Hf.out.cell 0
          have f1 := Hf.out.cell 1
          have fl := Hf.out.lt
          have x0 := Hx.out.cell 0
          have x1 := Hx.out.cell 1
          have xl := Hx.out.lt
          simp only [List.getElem?_cons_zero, List.getElem?_cons_succ] at t0 t1 t2 t3 r_0 r_1 r_2 r_3 f0 f1 x0 x1
          rcases hor3 with ⟨h60, rfl⟩ | ⟨h60, rfl⟩
          · skip
            omega
          · skip
            unfold fault resV
            have r_f0 := Hr_.out.frozen 0
            have r_f1 := Hr_.out.frozen 1
            have r_f2 := Hr_.out.frozen 2
            have r_f3 := Hr_.out.frozen 3
            have ff0 := Hf.out.frozen 0
            have ff1 := Hf.out.frozen 1
            go_wp2_with fail
            refine bodyPost_ret (v := .tuple #[resV false none 0 0 (costF T.ops []) pk, fault 0 0]) (by simp [results, Tryz.results13, go_sem, fault, resV, f0, f1, fl, r_0, r_1, r_2, r_3, r_l]) rfl ?_
            have hbx := HB0.out
            refine ⟨?_, .inr (.inr ⟨by rw [Hq.out]; exact h1, L, Hlist.out, .inl ⟨_, _, rfl, hno⟩⟩)⟩
            repeat' (first | (with_reducible exact Hbl.out) | (with_reducible refine Below.drew ?_) | (with_reducible refine below_setA ?_ ?_ _ _) | (with_reducible refine below_drewN ?_ _) | omega)
    · skip
      go_simp
      obtain ⟨zq, hzq⟩ : ∃ z, z ≤ V.heap.size ∧ V.heap.size ≤ z := ⟨V.heap.size, Nat.le_refl _, Nat.le_refl _⟩
      have hzq1 := hzq
      have hgq : V.heap.size ≤ V.heap.size := Nat.le_refl _
      replace hgq := Nat.le_trans hzq.1 hgq
      have n_t_x : ¬ gT = V.heap.size := by omega
      have n_x_t : ¬ V.heap.size = gT := by omega
      have n_r__x : ¬ gT + 1 = V.heap.size := by omega
      have n_x_r_ : ¬ V.heap.size = gT + 1 := by omega
      have n_f_x : ¬ gT + 1 + 1 = V.heap.size := by omega
      have n_x_f : ¬ V.heap.size = gT + 1 + 1 := by omega
      have s_t : gT < V.heap.size := tl
      have s_r_ : gT + 1 < V.heap.size := r_l
      have s_f : gT + 1 + 1 < V.heap.size := fl
      have s_0 : B0 ≤ V.heap.size := Nat.le_trans (Nat.le_of_eq HB0.out) Hbl.out.size
      have hyx := Blk.new (V) 28 [.int .i64 0, .int .i64 0]
      have hbW : Below (V).heap.size (V) ((V).alloc (.cells #[.int .i64 0, .int .i64 0] 28)) := (Below.refl _ _).alloc (Nat.le_refl _) _
      obtain ⟨Va, hW⟩ : ∃ W, W = (V).alloc (.cells #[.int .i64 0, .int .i64 0] 28) := ⟨_, rfl⟩
      rw [← hW] at hyx hbW ⊢
      replace Ht := hide (Ht.out.keep hbW)
      replace Hr_ := hide (Hr_.out.keep hbW)
      replace Hf := hide (Hf.out.keep hbW)
      replace Hbl := hide (Hbl.out.trans (hbW.mono Hbl.out.size))
      have Hx := hide hyx
      clear hW hbW hyx
      generalize V.heap.size = gx at Hx hgq n_t_x n_x_t n_r__x n_x_r_ n_f_x n_x_f s_t s_r_ s_f s_0 ⊢
      have t0 := Ht.out.cell 0
      have t1 := Ht.out.cell 1
      have t2 := Ht.out.cell 2
      have t3 := Ht.out.cell 3
      have tl := Ht.out.lt
      have r_0 := Hr_.out.cell 0
      have r_1 := Hr_.out.cell 1
      have r_2 := Hr_.out.cell 2
      have r_3 := Hr_.out.cell 3
      have r_l := Hr_.out.lt
      have f0 := Hf.out.cell 0
      have f1 := Hf.out.cell 1
      have fl := Hf.out.lt
      have x0 := Hx.out.cell 0
      have x1 := Hx.out.cell 1
      have xl := Hx.out.lt
      simp only [List.getElem?_cons_zero, List.getElem?_cons_succ] at t0 t1 t2 t3 r_0 r_1 r_2 r_3 f0 f1 x0 x1
      clear s_t
      clear s_r_
      clear s_f
      have a_x : B0 ≤ gx := by omega
      clear s_0
      have hxlt := xl
      refine hK _ _ ?_ (fun hHeld2 => ?_)
      · exact ⟨t0, t1, t2, t3⟩
      clear hK K hHeld
      try simp only [Act.put, List.setIfInBounds_toArray, List.set_cons_zero, List.set_cons_succ]
      have hHeld := hHeld2; clear hHeld2
      refine wpAnyH_ready (rs := [3]) (by kernel_rfl) (by simp) ?_
      refine AllReadyH.cons rfl (fun K hK => ?_) AllReadyH.nil
      go_simp
      with_reducible refine (Hack.out Va (H.out.keep Hbl.out)).mono ?_
      rintro e w1 ⟨hb, hor⟩
      have Hb01 := hide hb
      have Hbl0 := hide Hbl.out.size
      have Hft := hide fl
      clear t0 t1 t2 t3 r_0 r_1 r_2 r_3 f0 f1 x0 x1 tl r_l fl xl
      replace Ht := hide (Ht.out.keep hb)
      replace Hr_ := hide (Hr_.out.keep hb)
      replace Hf := hide (Hf.out.keep hb)
      replace Hx := hide (Hx.out.keep hb)
      replace Hbl := hide (Hbl.out.trans (hb.mono Hbl.out.size))
      clear hb
      have t0 := Ht.out.cell 0
      have t1 := Ht.out.cell 1
      have t2 := Ht.out.cell 2
      have t3 := Ht.out.cell 3
      have tl := Ht.out.lt
      have r_0 := Hr_.out.cell 0
      have r_1 := Hr_.out.cell 1
      have r_2 := Hr_.out.cell 2
      have r_3 := Hr_.out.cell 3
      have r_l := Hr_.out.lt
      have f0 := Hf.out.cell 0
      have f1 := Hf.out.cell 1
      have fl := Hf.out.lt
      have x0 := Hx.out.cell 0
      have x1 := Hx.out.cell 1
      have xl := Hx.out.lt
      simp only [List.getElem?_cons_zero, List.getElem?_cons_succ] at t0 t1 t2 t3 r_0 r_1 r_2 r_3 f0 f1 x0 x1
      rcases hor with ⟨h1, rfl⟩ | ⟨h1, hmany, rfl⟩ | ⟨h1, g, A, c, L, rfl, hgl, hgh, hW, hrow, hlist⟩
      · skip
        skip
        unfold fault
        go_simp
        refine hK _ _ ?_ (fun hHeld2 => ?_)
        · exact ⟨t0, t1, t2, t3⟩
        clear hK K hHeld
        try simp only [Act.put, List.setIfInBounds_toArray, List.set_cons_zero, List.set_cons_succ]
        have hHeld := hHeld2; clear hHeld2
        refine takeA (i := 4) (v := ?_) (some 12) rfl rfl (by kernel_rfl) (by kernel_rfl) (by kernel_rfl) (fun _ _ _ h => h) (Or.inl ⟨by rfl, ?_⟩) (by assumption) ?_
        rotate_left
        · intro w hSw; (try dsimp only at hSw); obtain ⟨s1, s2, s3, s4⟩ := hSw; first | (go_simp; done) | (go_simp; with_reducible rfl)
        try simp only [Act.put, List.setIfInBounds_toArray, List.set_cons_zero, List.set_cons_succ]
        refine takeA (i := 5) (v := ?_) (some 17) rfl rfl (by kernel_rfl) (by kernel_rfl) (by kernel_rfl) (fun _ _ _ h => h) (Or.inl ⟨by rfl, ?_⟩) (by assumption) ?_
        rotate_left
        · intro w hSw; (try dsimp only at hSw); obtain ⟨s1, s2, s3, s4⟩ := hSw; first | (go_simp; done) | (go_simp; with_reducible rfl)
        try simp only [Act.put, List.setIfInBounds_toArray, List.set_cons_zero, List.set_cons_succ]
        refine takeA (i := 6) (v := ?_) (some 18) rfl rfl (by kernel_rfl) (by kernel_rfl) (by kernel_rfl) (fun _ _ _ h => h) (Or.inl ⟨by rfl, ?_⟩) (by assumption) ?_
        rotate_left
        · intro w hSw; (try dsimp only at hSw); obtain ⟨s1, s2, s3, s4⟩ := hSw; first | (go_simp; done) | (go_simp; with_reducible rfl)
        try simp only [Act.put, List.setIfInBounds_toArray, List.set_cons_zero, List.set_cons_succ]
        refine takeA (i := 7) (v := ?_) (some 19) rfl rfl (by kernel_rfl) (by kernel_rfl) (by kernel_rfl) (fun _ _ _ h => h) (Or.inl ⟨by rfl, ?_⟩) (by assumption) ?_
        rotate_left
        · intro w hSw; (try dsimp only at hSw); obtain ⟨s1, s2, s3, s4⟩ := hSw; first | (go_simp; done) | (go_simp; with_reducible rfl)
        try simp only [Act.put, List.setIfInBounds_toArray, List.set_cons_zero, List.set_cons_succ]
        refine takeA (i := 9) (v := ?_) (some 6) rfl rfl (by kernel_rfl) (by kernel_rfl) (by kernel_rfl) (fun _ _ _ h => h) (Or.inl ⟨by rfl, ?_⟩) (by assumption) ?_
        rotate_left
        · intro w hSw; (try dsimp only at hSw); obtain ⟨s1, s2, s3, s4⟩ := hSw; first | (go_simp; done) | (go_simp; with_reducible rfl)
        try simp only [Act.put, List.setIfInBounds_toArray, List.set_cons_zero, List.set_cons_succ]
        refine takeA (i := 10) (v := ?_) (some 7) rfl rfl (by kernel_rfl) (by kernel_rfl) (by kernel_rfl) (fun _ _ _ h => h) (Or.inl ⟨by rfl, ?_⟩) (by assumption) ?_
        rotate_left
        · intro w hSw; (try dsimp only at hSw); obtain ⟨s1, s2, s3, s4⟩ := hSw; first | (go_simp; done) | (go_simp; with_reducible rfl)
        try simp only [Act.put, List.setIfInBounds_toArray, List.set_cons_zero, List.set_cons_succ]
        have xf0 := Hx.out.frozen 0
        have xf1 := Hx.out.frozen 1
        refine wpAnyH_ready (rs := [11]) (by kernel_rfl) (by simp) ?_
        refine AllReadyH.cons rfl (fun K hK => ?_) AllReadyH.nil
        go_simp
        clear xf0 xf1
        have hyb := ((Hx.out.set 0 (.int .i64 ec)).set 1 (.int .i64 ei))
        simp only [List.set_cons_zero, List.set_cons_succ] at hyb
        have hbW := (below_set ((below_set (Below.refl B0 w1) (g := gx) a_x 0 (.int .i64 ec))) (g := gx) a_x 1 (.int .i64 ei))
        have hcW := ((Chg.refl (fun x => x = gx) w1).trans (Chg.set _ (gx) 0 (.int .i64 ec))).trans (Chg.set _ (gx) 1 (.int .i64 ei))
        obtain ⟨w2, hW⟩ : ∃ W, W = ((w1).setCell ⟨gx, 0, none⟩ (.int .i64 ec)).setCell ⟨gx, 1, none⟩ (.int .i64 ei) := ⟨_, rfl⟩
        rw [← hW] at hyb hbW hcW ⊢
        replace Hx := hide hyb
        clear hW hyb
        clear t0 t1 t2 t3 r_0 r_1 r_2 r_3 f0 f1 x0 x1 tl r_l fl xl
        replace Ht := hide (hcW.blk Ht.out (by exact n_t_x))
        replace Hr_ := hide (hcW.blk Hr_.out (by exact n_r__x))
        replace Hf := hide (hcW.blk Hf.out (by exact n_f_x))
        replace Hbl := hide (Hbl.out.trans (hbW.mono (Nat.le_of_eq HB0.out.symm)))
        clear hbW hcW
        have t0 := Ht.out.cell 0
        have t1 := Ht.out.cell 1
        have t2 := Ht.out.cell 2
        have t3 := Ht.out.cell 3
        have tl := Ht.out.lt
        have r_0 := Hr_.out.cell 0
        have r_1 := Hr_.out.cell 1
        have r_2 := Hr_.out.cell 2
        have r_3 := Hr_.out.cell 3
        have r_l := Hr_.out.lt
        have f0 := Hf.out.cell 0
        have f1 := Hf.out.cell 1
        have fl := Hf.out.lt
        have x0 := Hx.out.cell 0
        have x1 := Hx.out.cell 1
        have xl := Hx.out.lt
        simp only [List.getElem?_cons_zero, List.getElem?_cons_succ] at t0 t1 t2 t3 r_0 r_1 r_2 r_3 f0 f1 x0 x1
        refine hK _ _ ?_ (fun hHeld2 => ?_)
        · exact ⟨t0, t1, t2, t3⟩
        clear hK K hHeld
        try simp only [Act.put, List.setIfInBounds_toArray, List.set_cons_zero, List.set_cons_succ]
        have hHeld := hHeld2; clear hHeld2
        refine wpAnyH_done (by kernel_rfl) ?_ _
        clear hHeld
        have r_f0 := Hr_.out.frozen 0
        have r_f1 := Hr_.out.frozen 1
        have r_f2 := Hr_.out.frozen 2
        have r_f3 := Hr_.out.frozen 3
        have ff0 := Hf.out.frozen 0
        have ff1 := Hf.out.frozen 1
        go_upto_region 3 with (fail)
        go_region
        all_goals go_wp2_with fail
        all_goals refine bodyPost_ret (v := .tuple #[resV false none 0 0 0 0, fault ec ei]) (by simp [results, Tryz.results13, go_sem, fault, resV, f0, f1, fl, r_0, r_1, r_2, r_3, r_l]) rfl ?_
        have hbx := HB0.out
        refine ⟨?_, .inl ⟨by rw [Hq.out]; exact h1, by rw [Hq.out]⟩⟩
        repeat' (first | (with_reducible exact Hbl.out) | (with_reducible refine Below.drew ?_) | (with_reducible refine below_setA ?_ ?_ _ _) | (with_reducible refine below_drewN ?_ _) | omega)
      · skip
        have Hmany := hide hmany
        clear hmany
        unfold fault
        go_simp
        refine hK _ _ ?_ (fun hHeld2 => ?_)
        · exact ⟨t0, t1, t2, t3⟩
        clear hK K hHeld
        try simp only [Act.put, List.setIfInBounds_toArray, List.set_cons_zero, List.set_cons_succ]
        have hHeld := hHeld2; clear hHeld2
        refine takeA (i := 4) (v := ?_) (some 12) rfl rfl (by kernel_rfl) (by kernel_rfl) (by kernel_rfl) (fun _ _ _ h => h) (Or.inl ⟨by rfl, ?_⟩) (by assumption) ?_
        rotate_left
        · intro w hSw; (try dsimp only at hSw); obtain ⟨s1, s2, s3, s4⟩ := hSw; first | (go_simp; done) | (go_simp; with_reducible rfl)
        try simp only [Act.put, List.setIfInBounds_toArray, List.set_cons_zero, List.set_cons_succ]
        refine takeA (i := 5) (v := ?_) (some 17) rfl rfl (by kernel_rfl) (by kernel_rfl) (by kernel_rfl) (fun _ _ _ h => h) (Or.inl ⟨by rfl, ?_⟩) (by assumption) ?_
        rotate_left
        · intro w hSw; (try dsimp only at hSw); obtain ⟨s1, s2, s3, s4⟩ := hSw; first | (go_simp; done) | (go_simp; with_reducible rfl)
        try simp only [Act.put, List.setIfInBounds_toArray, List.set_cons_zero, List.set_cons_succ]
        refine takeA (i := 6) (v := ?_) (some 18) rfl rfl (by kernel_rfl) (by kernel_rfl) (by kernel_rfl) (fun _ _ _ h => h) (Or.inl ⟨by rfl, ?_⟩) (by assumption) ?_
        rotate_left
        · intro w hSw; (try dsimp only at hSw); obtain ⟨s1, s2, s3, s4⟩ := hSw; first | (go_simp; done) | (go_simp; with_reducible rfl)
        try simp only [Act.put, List.setIfInBounds_toArray, List.set_cons_zero, List.set_cons_succ]
        refine takeA (i := 7) (v := ?_) (some 19) rfl rfl (by kernel_rfl) (by kernel_rfl) (by kernel_rfl) (fun _ _ _ h => h) (Or.inl ⟨by rfl, ?_⟩) (by assumption) ?_
        rotate_left
        · intro w hSw; (try dsimp only at hSw); obtain ⟨s1, s2, s3, s4⟩ := hSw; first | (go_simp; done) | (go_simp; with_reducible rfl)
        try simp only [Act.put, List.setIfInBounds_toArray, List.set_cons_zero, List.set_cons_succ]
        refine takeA (i := 9) (v := ?_) (some 6) rfl rfl (by kernel_rfl) (by kernel_rfl) (by kernel_rfl) (fun _ _ _ h => h) (Or.inl ⟨by rfl, ?_⟩) (by assumption) ?_
        rotate_left
        · intro w hSw; (try dsimp only at hSw); obtain ⟨s1, s2, s3, s4⟩ := hSw; first | (go_simp; done) | (go_simp; with_reducible rfl)
        try simp only [Act.put, List.setIfInBounds_toArray, List.set_cons_zero, List.set_cons_succ]
        refine takeA (i := 10) (v := ?_) (some 7) rfl rfl (by kernel_rfl) (by kernel_rfl) (by kernel_rfl) (fun _ _ _ h => h) (Or.inl ⟨by rfl, ?_⟩) (by assumption) ?_
        rotate_left
        · intro w hSw; (try dsimp only at hSw); obtain ⟨s1, s2, s3, s4⟩ := hSw; first | (go_simp; done) | (go_simp; with_reducible rfl)
        try simp only [Act.put, List.setIfInBounds_toArray, List.set_cons_zero, List.set_cons_succ]
        have xf0 := Hx.out.frozen 0
        have xf1 := Hx.out.frozen 1
        refine wpAnyH_ready (rs := [11]) (by kernel_rfl) (by simp) ?_
        refine AllReadyH.cons rfl (fun K hK => ?_) AllReadyH.nil
        go_simp
        clear xf0 xf1
        have hyb := ((Hx.out.set 0 (.int .i64 10)).set 1 (.int .i64 (-7)))
        simp only [List.set_cons_zero, List.set_cons_succ] at hyb
        have hbW := (below_set ((below_set (Below.refl B0 w1) (g := gx) a_x 0 (.int .i64 10))) (g := gx) a_x 1 (.int .i64 (-7)))
        have hcW := ((Chg.refl (fun x => x = gx) w1).trans (Chg.set _ (gx) 0 (.int .i64 10))).trans (Chg.set _ (gx) 1 (.int .i64 (-7)))
        obtain ⟨w2, hW⟩ : ∃ W, W = ((w1).setCell ⟨gx, 0, none⟩ (.int .i64 10)).setCell ⟨gx, 1, none⟩ (.int .i64 (-7)) := ⟨_, rfl⟩
        rw [← hW] at hyb hbW hcW ⊢
        replace Hx := hide hyb
        clear hW hyb
        clear t0 t1 t2 t3 r_0 r_1 r_2 r_3 f0 f1 x0 x1 tl r_l fl xl
        replace Ht := hide (hcW.blk Ht.out (by exact n_t_x))
        replace Hr_ := hide (hcW.blk Hr_.out (by exact n_r__x))
        replace Hf := hide (hcW.blk Hf.out (by exact n_f_x))
        replace Hbl := hide (Hbl.out.trans (hbW.mono (Nat.le_of_eq HB0.out.symm)))
        clear hbW hcW
        have t0 := Ht.out.cell 0
        have t1 := Ht.out.cell 1
        have t2 := Ht.out.cell 2
        have t3 := Ht.out.cell 3
        have tl := Ht.out.lt
        have r_0 := Hr_.out.cell 0
        have r_1 := Hr_.out.cell 1
        have r_2 := Hr_.out.cell 2
        have r_3 := Hr_.out.cell 3
        have r_l := Hr_.out.lt
        have f0 := Hf.out.cell 0
        have f1 := Hf.out.cell 1
        have fl := Hf.out.lt
        have x0 := Hx.out.cell 0
        have x1 := Hx.out.cell 1
        have xl := Hx.out.lt
        simp only [List.getElem?_cons_zero, List.getElem?_cons_succ] at t0 t1 t2 t3 r_0 r_1 r_2 r_3 f0 f1 x0 x1
        refine hK _ _ ?_ (fun hHeld2 => ?_)
        · exact ⟨t0, t1, t2, t3⟩
        clear hK K hHeld
        try simp only [Act.put, List.setIfInBounds_toArray, List.set_cons_zero, List.set_cons_succ]
        have hHeld := hHeld2; clear hHeld2
        refine wpAnyH_done (by kernel_rfl) ?_ _
        clear hHeld
        have r_f0 := Hr_.out.frozen 0
        have r_f1 := Hr_.out.frozen 1
        have r_f2 := Hr_.out.frozen 2
        have r_f3 := Hr_.out.frozen 3
        have ff0 := Hf.out.frozen 0
        have ff1 := Hf.out.frozen 1
        go_upto_region 3 with (fail)
        go_region
        all_goals go_wp2_with fail
        all_goals refine bodyPost_ret (v := .tuple #[resV false none 0 0 0 0, fault 10 (-7)]) (by simp [results, Tryz.results13, go_sem, fault, resV, f0, f1, fl, r_0, r_1, r_2, r_3, r_l]) rfl ?_
        have hbx := HB0.out
        refine ⟨?_, .inr (.inl ⟨by rw [Hq.out]; exact h1, Hmany.out, rfl⟩)⟩
        repeat' (first | (with_reducible exact Hbl.out) | (with_reducible refine Below.drew ?_) | (with_reducible refine below_setA ?_ ?_ _ _) | (with_reducible refine below_drewN ?_ _) | omega)
      · skip
        have HW := hide hW
        have Hlist := hide hlist
        have Hx12 := hide (Below.refl w1.heap.size w1)
        clear hW hrow hlist
        unfold fault
        go_simp
        refine hK _ _ ?_ (fun hHeld2 => ?_)
        · exact ⟨t0, t1, t2, t3⟩
        clear hK K hHeld
        try simp only [Act.put, List.setIfInBounds_toArray, List.set_cons_zero, List.set_cons_succ]
        have hHeld := hHeld2; clear hHeld2
        refine takeA (i := 4) (v := ?_) (some 12) rfl rfl (by kernel_rfl) (by kernel_rfl) (by kernel_rfl) (fun _ _ _ h => h) (Or.inl ⟨by rfl, ?_⟩) (by assumption) ?_
        rotate_left
        · intro w hSw; (try dsimp only at hSw); obtain ⟨s1, s2, s3, s4⟩ := hSw; first | (go_simp; done) | (go_simp; with_reducible rfl)
        try simp only [Act.put, List.setIfInBounds_toArray, List.set_cons_zero, List.set_cons_succ]
        refine takeA (i := 5) (v := ?_) (some 17) rfl rfl (by kernel_rfl) (by kernel_rfl) (by kernel_rfl) (fun _ _ _ h => h) (Or.inl ⟨by rfl, ?_⟩) (by assumption) ?_
        rotate_left
        · intro w hSw; (try dsimp only at hSw); obtain ⟨s1, s2, s3, s4⟩ := hSw; first | (go_simp; done) | (go_simp; with_reducible rfl)
        try simp only [Act.put, List.setIfInBounds_toArray, List.set_cons_zero, List.set_cons_succ]
        refine takeA (i := 6) (v := ?_) (some 18) rfl rfl (by kernel_rfl) (by kernel_rfl) (by kernel_rfl) (fun _ _ _ h => h) (Or.inl ⟨by rfl, ?_⟩) (by assumption) ?_
        rotate_left
        · intro w hSw; (try dsimp only at hSw); obtain ⟨s1, s2, s3, s4⟩ := hSw; first | (go_simp; done) | (go_simp; with_reducible rfl)
        try simp only [Act.put, List.setIfInBounds_toArray, List.set_cons_zero, List.set_cons_succ]
        refine takeA (i := 7) (v := ?_) (some 19) rfl rfl (by kernel_rfl) (by kernel_rfl) (by kernel_rfl) (fun _ _ _ h => h) (Or.inl ⟨by rfl, ?_⟩) (by assumption) ?_
        rotate_left
        · intro w hSw; (try dsimp only at hSw); obtain ⟨s1, s2, s3, s4⟩ := hSw; first | (go_simp; done) | (go_simp; with_reducible rfl)
        try simp only [Act.put, List.setIfInBounds_toArray, List.set_cons_zero, List.set_cons_succ]
        refine takeA (i := 9) (v := ?_) (some 6) rfl rfl (by kernel_rfl) (by kernel_rfl) (by kernel_rfl) (fun _ _ _ h => h) (Or.inl ⟨by rfl, ?_⟩) (by assumption) ?_
        rotate_left
        · intro w hSw; (try dsimp only at hSw); obtain ⟨s1, s2, s3, s4⟩ := hSw; first | (go_simp; done) | (go_simp; with_reducible rfl)
        try simp only [Act.put, List.setIfInBounds_toArray, List.set_cons_zero, List.set_cons_succ]
        refine takeA (i := 10) (v := ?_) (some 7) rfl rfl (by kernel_rfl) (by kernel_rfl) (by kernel_rfl) (fun _ _ _ h => h) (Or.inl ⟨by rfl, ?_⟩) (by assumption) ?_
        rotate_left
        · intro w hSw; (try dsimp only at hSw); obtain ⟨s1, s2, s3, s4⟩ := hSw; first | (go_simp; done) | (go_simp; with_reducible rfl)
        try simp only [Act.put, List.setIfInBounds_toArray, List.set_cons_zero, List.set_cons_succ]
        have xf0 := Hx.out.frozen 0
        have xf1 := Hx.out.frozen 1
        refine wpAnyH_ready (rs := [11]) (by kernel_rfl) (by simp) ?_
        refine AllReadyH.cons rfl (fun K hK => ?_) AllReadyH.nil
        go_simp
        clear xf0 xf1
        have hyb := ((Hx.out.set 0 (.int .i64 0)).set 1 (.int .i64 0))
        simp only [List.set_cons_zero, List.set_cons_succ] at hyb
        have hbW := (below_set ((below_set (Below.refl B0 w1) (g := gx) a_x 0 (.int .i64 0))) (g := gx) a_x 1 (.int .i64 0))
        have hcW := ((Chg.refl (fun x => x = gx) w1).trans (Chg.set _ (gx) 0 (.int .i64 0))).trans (Chg.set _ (gx) 1 (.int .i64 0))
        obtain ⟨w2, hW⟩ : ∃ W, W = ((w1).setCell ⟨gx, 0, none⟩ (.int .i64 0)).setCell ⟨gx, 1, none⟩ (.int .i64 0) := ⟨_, rfl⟩
        rw [← hW] at hyb hbW hcW ⊢
        replace Hx := hide hyb
        clear hW hyb
        clear t0 t1 t2 t3 r_0 r_1 r_2 r_3 f0 f1 x0 x1 tl r_l fl xl
        replace Ht := hide (hcW.blk Ht.out (by exact n_t_x))
        replace Hr_ := hide (hcW.blk Hr_.out (by exact n_r__x))
        replace Hf := hide (hcW.blk Hf.out (by exact n_f_x))
        have Hx12c := hide (Chg.trans (Chg.of_below Hx12.out (fun b => b < Va.heap.size)) (hcW.mono (fun b (e : b = gx) => by omega)))
        replace Hbl := hide (Hbl.out.trans (hbW.mono (Nat.le_of_eq HB0.out.symm)))
        clear hbW hcW
        have t0 := Ht.out.cell 0
        have t1 := Ht.out.cell 1
        have t2 := Ht.out.cell 2
        have t3 := Ht.out.cell 3
        have tl := Ht.out.lt
        have r_0 := Hr_.out.cell 0
        have r_1 := Hr_.out.cell 1
        have r_2 := Hr_.out.cell 2
        have r_3 := Hr_.out.cell 3
        have r_l := Hr_.out.lt
        have f0 := Hf.out.cell 0
        have f1 := Hf.out.cell 1
        have fl := Hf.out.lt
        have x0 := Hx.out.cell 0
        have x1 := Hx.out.cell 1
        have xl := Hx.out.lt
        simp only [List.getElem?_cons_zero, List.getElem?_cons_succ] at t0 t1 t2 t3 r_0 r_1 r_2 r_3 f0 f1 x0 x1
        refine hK _ _ ?_ (fun hHeld2 => ?_)
        · exact ⟨t0, t1, t2, t3⟩
        clear hK K hHeld
        try simp only [Act.put, List.setIfInBounds_toArray, List.set_cons_zero, List.set_cons_succ]
        have hHeld := hHeld2; clear hHeld2
        refine wpAnyH_done (by kernel_rfl) ?_ _
        clear hHeld
        obtain ⟨N, hok⟩ := taskFault_ok (T := T) (by rw [Hq.out]; exact h1)
        have hN := hok.low
        have HW2 := hide (HW.out w2 Hx12c.out)
        have hmk : ∀ m ∈ T.ops.map mkOp, MkOk m := HW2.out.ok
        have h032 := HW2.out.start
        have h32 : ∀ s ∈ L, s < 4294967296 := fun s hs => reach_w hmk h032 ((Hlist.out.all.mem s).1 hs)
        have Hmk := hide hmk
        have H32 := hide h32
        have Hok := hide hok
        clear hmk h32 hok
        have Hb2 := hide (Below.refl w2.heap.size w2)
        have Kt := Ht
        have Kr_ := Hr_
        have Kf := Hf
        have Kx := Hx
        have Kbl := Hbl
        have z2 := HB0.out
        go_upto_region 4 with (fail)
        go_wp2_with fail
        with_reducible refine (Heuristic_ct (.int .i64 T.facts) (.slice I nI cI) (.slice G nG cG) (.slice O nO cO) 0 (fun _ => 0) L w2).mono ?_
        rintro e w3 ⟨hb, tb, kb, xb, hb3, rfl, hheu, hl1, hl2, hl3, hl4⟩
        have Hheu := hide hheu
        clear hheu
        have Hb23 := hide hb
        clear t0 t1 t2 t3 r_0 r_1 r_2 r_3 f0 f1 x0 x1 tl r_l fl xl
        replace Ht := hide (Ht.out.keep hb)
        replace Hr_ := hide (Hr_.out.keep hb)
        replace Hf := hide (Hf.out.keep hb)
        replace Hx := hide (Hx.out.keep hb)
        replace Hbl := hide (Hbl.out.trans (hb.mono Hbl.out.size))
        clear hb
        have t0 := Ht.out.cell 0
        have t1 := Ht.out.cell 1
        have t2 := Ht.out.cell 2
        have t3 := Ht.out.cell 3
        have tl := Ht.out.lt
        have r_0 := Hr_.out.cell 0
        have r_1 := Hr_.out.cell 1
        have r_2 := Hr_.out.cell 2
        have r_3 := Hr_.out.cell 3
        have r_l := Hr_.out.lt
        have f0 := Hf.out.cell 0
        have f1 := Hf.out.cell 1
        have fl := Hf.out.lt
        have x0 := Hx.out.cell 0
        have x1 := Hx.out.cell 1
        have xl := Hx.out.lt
        simp only [List.getElem?_cons_zero, List.getElem?_cons_succ] at t0 t1 t2 t3 r_0 r_1 r_2 r_3 f0 f1 x0 x1
        have hHC := heu_zero (w0 := w2) Hlist.out.few H32.out Hheu.out hl4
        have hbest := Best_ct w2 w3 g _ _ _ xb tb kb hb3 (fun _ => 0) L _ HW2.out Hb23.out hHC Hheu.out Hlist.out.few (fun s => Hlist.out.all.mem s) (fun _ => Int.le_refl _) (fun s l u n hw hg => ⟨(path_ops hw Hmk.out).1, by unfold infA; omega⟩)
        go_wp2_with fail
        with_reducible refine hbest.mono ?_
        rintro e w4 ⟨hb, hor2⟩
        clear hbest hHC
        clear t0 t1 t2 t3 r_0 r_1 r_2 r_3 f0 f1 x0 x1 tl r_l fl xl
        replace Ht := hide (Kt.out.keep hb)
        replace Hr_ := hide (Kr_.out.keep hb)
        replace Hf := hide (Kf.out.keep hb)
        replace Hx := hide (Kx.out.keep hb)
        replace Hbl := hide (Kbl.out.trans (hb.mono Kbl.out.size))
        clear hb
        have t0 := Ht.out.cell 0
        have t1 := Ht.out.cell 1
        have t2 := Ht.out.cell 2
        have t3 := Ht.out.cell 3
        have tl := Ht.out.lt
        have r_0 := Hr_.out.cell 0
        have r_1 := Hr_.out.cell 1
        have r_2 := Hr_.out.cell 2
        have r_3 := Hr_.out.cell 3
        have r_l := Hr_.out.lt
        have f0 := Hf.out.cell 0
        have f1 := Hf.out.cell 1
        have fl := Hf.out.lt
        have x0 := Hx.out.cell 0
        have x1 := Hx.out.cell 1
        have xl := Hx.out.lt
        simp only [List.getElem?_cons_zero, List.getElem?_cons_succ] at t0 t1 t2 t3 r_0 r_1 r_2 r_3 f0 f1 x0 x1
        rcases hor2 with ⟨PO, pc, pl, pk, rfl, hbo, hlen, hown⟩ | ⟨pk, rfl, hno⟩
        · skip
          have hbo2 := hbo
          obtain ⟨u, n, hpath, hgu, _⟩ := hbo2
          obtain ⟨_, hops⟩ := path_ops hpath Hmk.out
          rw [List.length_map] at hops
          obtain ⟨hr1, hr2⟩ := ops_range Hok.out hops
          rw [opsV_opsI] at hown
          have hrd := own_rd hown (opsI_length pl) (fun x hx => by have := hr1 x hx; have := Hok.out.few; omega)
          have Hbo := hide hbo
          clear hbo hpath hgu hops hown
          have hct := Hres.out PO pl.length pc (opsI pl) true pk w4 (H.out.keep Hbl.out) hrd hr1 hr2
          clear hr1 hr2 hrd
          go_wp2_with fail
          with_reducible refine hct.mono ?_
          rintro e w5 ⟨hb, hor3⟩
          clear hct
          clear t0 t1 t2 t3 r_0 r_1 r_2 r_3 f0 f1 x0 x1 tl r_l fl xl
          replace Ht := hide (Ht.out.keep hb)
          replace Hr_ := hide (Hr_.out.keep hb)
          replace Hf := hide (Hf.out.keep hb)
          replace Hx := hide (Hx.out.keep hb)
          replace Hbl := hide (Hbl.out.trans (hb.mono Hbl.out.size))
          clear hb
          have t0 := Ht.out.cell 0
          have t1 := Ht.out.cell 1
          have t2 := Ht.out.cell 2
          have t3 := Ht.out.cell 3
          have tl := Ht.out.lt
          have r_0 := Hr_.out.cell 0
          have r_1 := Hr_.out.cell 1
          have r_2 := Hr_.out.cell 2
          have r_3 := Hr_.out.cell 3
          have r_l := Hr_.out.lt
          have f0 := Hf.out.cell 0
          have f1 := Hf.out.cell 1
          have fl := Hf.out.lt
          have x0 := Hx.out.cell 0
          have x1 := Hx.out.cell 1
          have xl := Hx.out.lt
          simp only [List.getElem?_cons_zero, List.getElem?_cons_succ] at t0 t1 t2 t3 r_0 r_1 r_2 r_3 f0 f1 x0 x1
          rcases hor3 with ⟨h60, rfl⟩ | ⟨h60, rfl⟩
          · skip
            unfold fault resV
            have r_f0 := Hr_.out.frozen 0
            have r_f1 := Hr_.out.frozen 1
            have r_f2 := Hr_.out.frozen 2
            have r_f3 := Hr_.out.frozen 3
            have ff0 := Hf.out.frozen 0
            have ff1 := Hf.out.frozen 1
            go_wp2_with fail
            refine bodyPost_ret (v := .tuple #[resV false none 0 0 0 0, fault 10 (-9)]) (by simp [results, Tryz.results13, go_sem, fault, resV, f0, f1, fl, r_0, r_1, r_2, r_3, r_l]) rfl ?_
            have hbx := HB0.out
            refine ⟨?_, .inr (.inr ⟨by rw [Hq.out]; exact h1, L, Hlist.out, .inr ⟨pl, Hbo.out, .inl ⟨h60, rfl⟩⟩⟩)⟩
            repeat' (first | (with_reducible exact Hbl.out) | (with_reducible refine Below.drew ?_) | (with_reducible refine below_setA ?_ ?_ _ _) | (with_reducible refine below_drewN ?_ _) | omega)
          · skip
            unfold fault resV
            have r_f0 := Hr_.out.frozen 0
            have r_f1 := Hr_.out.frozen 1
            have r_f2 := Hr_.out.frozen 2
            have r_f3 := Hr_.out.frozen 3
            have ff0 := Hf.out.frozen 0
            have ff1 := Hf.out.frozen 1
            go_wp2_with fail
            refine bodyPost_ret (v := .tuple #[resV true PO pl.length pc (costF T.ops (opsI pl)) pk, fault 0 0]) (by simp [results, Tryz.results13, go_sem, fault, resV, f0, f1, fl, r_0, r_1, r_2, r_3, r_l]) rfl ?_
            have hbx := HB0.out
            refine ⟨?_, .inr (.inr ⟨by rw [Hq.out]; exact h1, L, Hlist.out, .inr ⟨pl, Hbo.out, .inr ⟨h60, _, _, _, _, rfl⟩⟩⟩)⟩
            repeat' (first | (with_reducible exact Hbl.out) | (with_reducible refine Below.drew ?_) | (with_reducible refine below_setA ?_ ?_ _ _) | (with_reducible refine below_drewN ?_ _) | omega)
        · skip
          have hct := Hres.out none 0 0 [] false pk w4 (H.out.keep Hbl.out) (Rd.nil_ _ _) (fun x hx => by cases hx) (fun x hx => by cases hx)
          go_wp2_with fail
          with_reducible refine hct.mono ?_
          rintro e w5 ⟨hb, hor3⟩
          clear hct
          clear t0 t1 t2 t3 r_0 r_1 r_2 r_3 f0 f1 x0 x1 tl r_l fl xl
          replace Ht := hide (Ht.out.keep hb)
          replace Hr_ := hide (Hr_.out.keep hb)
          replace Hf := hide (Hf.out.keep hb)
          replace Hx := hide (Hx.out.keep hb)
          replace Hbl := hide (Hbl.out.trans (hb.mono Hbl.out.size))
          clear hb
          have t0 := Ht.out.cell 0
          have t1 := Ht.out.cell 1
          have t2 := Ht.out.cell 2
          have t3 := Ht.out.cell 3
          have tl := Ht.out.lt
          have r_0 := Hr_.out.cell 0
          have r_1 := Hr_.out.cell 1
          have r_2 := Hr_.out.cell 2
          have r_3 := Hr_.out.cell 3
          have r_l := Hr_.out.lt
          have f0 := Hf.out.cell 0
          have f1 := Hf.out.cell 1
          have fl := Hf.out.lt
          have x0 := Hx.out.cell 0
          have x1 := Hx.out.cell 1
          have xl := Hx.out.lt
          simp only [List.getElem?_cons_zero, List.getElem?_cons_succ] at t0 t1 t2 t3 r_0 r_1 r_2 r_3 f0 f1 x0 x1
          rcases hor3 with ⟨h60, rfl⟩ | ⟨h60, rfl⟩
          · skip
            omega
          · skip
            unfold fault resV
            have r_f0 := Hr_.out.frozen 0
            have r_f1 := Hr_.out.frozen 1
            have r_f2 := Hr_.out.frozen 2
            have r_f3 := Hr_.out.frozen 3
            have ff0 := Hf.out.frozen 0
            have ff1 := Hf.out.frozen 1
            go_wp2_with fail
            refine bodyPost_ret (v := .tuple #[resV false none 0 0 (costF T.ops []) pk, fault 0 0]) (by simp [results, Tryz.results13, go_sem, fault, resV, f0, f1, fl, r_0, r_1, r_2, r_3, r_l]) rfl ?_
            have hbx := HB0.out
            refine ⟨?_, .inr (.inr ⟨by rw [Hq.out]; exact h1, L, Hlist.out, .inl ⟨_, _, rfl, hno⟩⟩)⟩
            repeat' (first | (with_reducible exact Hbl.out) | (with_reducible refine Below.drew ?_) | (with_reducible refine below_setA ?_ ?_ _ _) | (with_reducible refine below_drewN ?_ _) | omega)
  · skip
    go_simp
    obtain ⟨zq, hzq⟩ : ∃ z, z ≤ V.heap.size ∧ V.heap.size ≤ z := ⟨V.heap.size, Nat.le_refl _, Nat.le_refl _⟩
    have hzq1 := hzq
    have hgq : V.heap.size ≤ V.heap.size := Nat.le_refl _
    replace hgq := Nat.le_trans hzq.1 hgq
    have n_t_x : ¬ gT = V.heap.size := by omega
    have n_x_t : ¬ V.heap.size = gT := by omega
    have n_r__x : ¬ gT + 1 = V.heap.size := by omega
    have n_x_r_ : ¬ V.heap.size = gT + 1 := by omega
    have n_f_x : ¬ gT + 1 + 1 = V.heap.size := by omega
    have n_x_f : ¬ V.heap.size = gT + 1 + 1 := by omega
    have s_t : gT < V.heap.size := tl
    have s_r_ : gT + 1 < V.heap.size := r_l
    have s_f : gT + 1 + 1 < V.heap.size := fl
    have s_0 : B0 ≤ V.heap.size := Nat.le_trans (Nat.le_of_eq HB0.out) Hbl.out.size
    have hyx := Blk.new (V) 28 [.int .i64 0, .int .i64 0]
    have hbW : Below (V).heap.size (V) ((V).alloc (.cells #[.int .i64 0, .int .i64 0] 28)) := (Below.refl _ _).alloc (Nat.le_refl _) _
    obtain ⟨Va, hW⟩ : ∃ W, W = (V).alloc (.cells #[.int .i64 0, .int .i64 0] 28) := ⟨_, rfl⟩
    rw [← hW] at hyx hbW ⊢
    replace Ht := hide (Ht.out.keep hbW)
    replace Hr_ := hide (Hr_.out.keep hbW)
    replace Hf := hide (Hf.out.keep hbW)
    replace Hbl := hide (Hbl.out.trans (hbW.mono Hbl.out.size))
    have Hx := hide hyx
    clear hW hbW hyx
    generalize V.heap.size = gx at Hx hgq n_t_x n_x_t n_r__x n_x_r_ n_f_x n_x_f s_t s_r_ s_f s_0 ⊢
    have t0 := Ht.out.cell 0
    have t1 := Ht.out.cell 1
    have t2 := Ht.out.cell 2
    have t3 := Ht.out.cell 3
    have tl := Ht.out.lt
    have r_0 := Hr_.out.cell 0
    have r_1 := Hr_.out.cell 1
    have r_2 := Hr_.out.cell 2
    have r_3 := Hr_.out.cell 3
    have r_l := Hr_.out.lt
    have f0 := Hf.out.cell 0
    have f1 := Hf.out.cell 1
    have fl := Hf.out.lt
    have x0 := Hx.out.cell 0
    have x1 := Hx.out.cell 1
    have xl := Hx.out.lt
    simp only [List.getElem?_cons_zero, List.getElem?_cons_succ] at t0 t1 t2 t3 r_0 r_1 r_2 r_3 f0 f1 x0 x1
    clear s_t
    clear s_r_
    clear s_f
    have a_x : B0 ≤ gx := by omega
    clear s_0
    have hxlt := xl
    refine hK _ _ ?_ (fun hHeld2 => ?_)
    · exact ⟨t0, t1, t2, t3⟩
    clear hK K hHeld
    try simp only [Act.put, List.setIfInBounds_toArray, List.set_cons_zero, List.set_cons_succ]
    have hHeld := hHeld2; clear hHeld2
    refine wpAnyH_ready (rs := [2]) (by kernel_rfl) (by simp) ?_
    refine AllReadyH.cons rfl (fun K hK => ?_) AllReadyH.nil
    go_simp
    refine (Admissible0_ct _).mono ?_
    rintro e w' ⟨rfl, rfl⟩
    go_simp
    refine hK _ _ ?_ (fun hHeld2 => ?_)
    · exact ⟨t0, t1, t2, t3⟩
    clear hK K hHeld
    try simp only [Act.put, List.setIfInBounds_toArray, List.set_cons_zero, List.set_cons_succ]
    have hHeld := hHeld2; clear hHeld2
    refine wpAnyH_ready (rs := [3]) (by kernel_rfl) (by simp) ?_
    refine AllReadyH.cons rfl (fun K hK => ?_) AllReadyH.nil
    go_simp
    with_reducible refine (Hack.out Va (H.out.keep Hbl.out)).mono ?_
    rintro e w1 ⟨hb, hor⟩
    have Hb01 := hide hb
    have Hbl0 := hide Hbl.out.size
    have Hft := hide fl
    clear t0 t1 t2 t3 r_0 r_1 r_2 r_3 f0 f1 x0 x1 tl r_l fl xl
    replace Ht := hide (Ht.out.keep hb)
    replace Hr_ := hide (Hr_.out.keep hb)
    replace Hf := hide (Hf.out.keep hb)
    replace Hx := hide (Hx.out.keep hb)
    replace Hbl := hide (Hbl.out.trans (hb.mono Hbl.out.size))
    clear hb
    have t0 := Ht.out.cell 0
    have t1 := Ht.out.cell 1
    have t2 := Ht.out.cell 2
    have t3 := Ht.out.cell 3
    have tl := Ht.out.lt
    have r_0 := Hr_.out.cell 0
    have r_1 := Hr_.out.cell 1
    have r_2 := Hr_.out.cell 2
    have r_3 := Hr_.out.cell 3
    have r_l := Hr_.out.lt
    have f0 := Hf.out.cell 0
    have f1 := Hf.out.cell 1
    have fl := Hf.out.lt
    have x0 := Hx.out.cell 0
    have x1 := Hx.out.cell 1
    have xl := Hx.out.lt
    simp only [List.getElem?_cons_zero, List.getElem?_cons_succ] at t0 t1 t2 t3 r_0 r_1 r_2 r_3 f0 f1 x0 x1
    rcases hor with ⟨h1, rfl⟩ | ⟨h1, hmany, rfl⟩ | ⟨h1, g, A, c, L, rfl, hgl, hgh, hW, hrow, hlist⟩
    · skip
      skip
      unfold fault
      go_simp
      refine hK _ _ ?_ (fun hHeld2 => ?_)
      · exact ⟨t0, t1, t2, t3⟩
      clear hK K hHeld
      try simp only [Act.put, List.setIfInBounds_toArray, List.set_cons_zero, List.set_cons_succ]
      have hHeld := hHeld2; clear hHeld2
      refine takeA (i := 4) (v := ?_) (some 12) rfl rfl (by kernel_rfl) (by kernel_rfl) (by kernel_rfl) (fun _ _ _ h => h) (Or.inl ⟨by rfl, ?_⟩) (by assumption) ?_
      rotate_left
      · intro w hSw; (try dsimp only at hSw); obtain ⟨s1, s2, s3, s4⟩ := hSw; first | (go_simp; done) | (go_simp; with_reducible rfl)
      try simp only [Act.put, List.setIfInBounds_toArray, List.set_cons_zero, List.set_cons_succ]
      refine takeA (i := 5) (v := ?_) (some 17) rfl rfl (by kernel_rfl) (by kernel_rfl) (by kernel_rfl) (fun _ _ _ h => h) (Or.inl ⟨by rfl, ?_⟩) (by assumption) ?_
      rotate_left
      · intro w hSw; (try dsimp only at hSw); obtain ⟨s1, s2, s3, s4⟩ := hSw; first | (go_simp; done) | (go_simp; with_reducible rfl)
      try simp only [Act.put, List.setIfInBounds_toArray, List.set_cons_zero, List.set_cons_succ]
      refine takeA (i := 6) (v := ?_) (some 18) rfl rfl (by kernel_rfl) (by kernel_rfl) (by kernel_rfl) (fun _ _ _ h => h) (Or.inl ⟨by rfl, ?_⟩) (by assumption) ?_
      rotate_left
      · intro w hSw; (try dsimp only at hSw); obtain ⟨s1, s2, s3, s4⟩ := hSw; first | (go_simp; done) | (go_simp; with_reducible rfl)
      try simp only [Act.put, List.setIfInBounds_toArray, List.set_cons_zero, List.set_cons_succ]
      refine takeA (i := 7) (v := ?_) (some 19) rfl rfl (by kernel_rfl) (by kernel_rfl) (by kernel_rfl) (fun _ _ _ h => h) (Or.inl ⟨by rfl, ?_⟩) (by assumption) ?_
      rotate_left
      · intro w hSw; (try dsimp only at hSw); obtain ⟨s1, s2, s3, s4⟩ := hSw; first | (go_simp; done) | (go_simp; with_reducible rfl)
      try simp only [Act.put, List.setIfInBounds_toArray, List.set_cons_zero, List.set_cons_succ]
      refine takeA (i := 9) (v := ?_) (some 6) rfl rfl (by kernel_rfl) (by kernel_rfl) (by kernel_rfl) (fun _ _ _ h => h) (Or.inl ⟨by rfl, ?_⟩) (by assumption) ?_
      rotate_left
      · intro w hSw; (try dsimp only at hSw); obtain ⟨s1, s2, s3, s4⟩ := hSw; first | (go_simp; done) | (go_simp; with_reducible rfl)
      try simp only [Act.put, List.setIfInBounds_toArray, List.set_cons_zero, List.set_cons_succ]
      refine takeA (i := 10) (v := ?_) (some 7) rfl rfl (by kernel_rfl) (by kernel_rfl) (by kernel_rfl) (fun _ _ _ h => h) (Or.inl ⟨by rfl, ?_⟩) (by assumption) ?_
      rotate_left
      · intro w hSw; (try dsimp only at hSw); obtain ⟨s1, s2, s3, s4⟩ := hSw; first | (go_simp; done) | (go_simp; with_reducible rfl)
      try simp only [Act.put, List.setIfInBounds_toArray, List.set_cons_zero, List.set_cons_succ]
      have xf0 := Hx.out.frozen 0
      have xf1 := Hx.out.frozen 1
      refine wpAnyH_ready (rs := [11]) (by kernel_rfl) (by simp) ?_
      refine AllReadyH.cons rfl (fun K hK => ?_) AllReadyH.nil
      go_simp
      clear xf0 xf1
      have hyb := ((Hx.out.set 0 (.int .i64 ec)).set 1 (.int .i64 ei))
      simp only [List.set_cons_zero, List.set_cons_succ] at hyb
      have hbW := (below_set ((below_set (Below.refl B0 w1) (g := gx) a_x 0 (.int .i64 ec))) (g := gx) a_x 1 (.int .i64 ei))
      have hcW := ((Chg.refl (fun x => x = gx) w1).trans (Chg.set _ (gx) 0 (.int .i64 ec))).trans (Chg.set _ (gx) 1 (.int .i64 ei))
      obtain ⟨w2, hW⟩ : ∃ W, W = ((w1).setCell ⟨gx, 0, none⟩ (.int .i64 ec)).setCell ⟨gx, 1, none⟩ (.int .i64 ei) := ⟨_, rfl⟩
      rw [← hW] at hyb hbW hcW ⊢
      replace Hx := hide hyb
      clear hW hyb
      clear t0 t1 t2 t3 r_0 r_1 r_2 r_3 f0 f1 x0 x1 tl r_l fl xl
      replace Ht := hide (hcW.blk Ht.out (by exact n_t_x))
      replace Hr_ := hide (hcW.blk Hr_.out (by exact n_r__x))
      replace Hf := hide (hcW.blk Hf.out (by exact n_f_x))
      replace Hbl := hide (Hbl.out.trans (hbW.mono (Nat.le_of_eq HB0.out.symm)))
      clear hbW hcW
      have t0 := Ht.out.cell 0
      have t1 := Ht.out.cell 1
      have t2 := Ht.out.cell 2
      have t3 := Ht.out.cell 3
      have tl := Ht.out.lt
      have r_0 := Hr_.out.cell 0
      have r_1 := Hr_.out.cell 1
      have r_2 := Hr_.out.cell 2
      have r_3 := Hr_.out.cell 3
      have r_l := Hr_.out.lt
      have f0 := Hf.out.cell 0
      have f1 := Hf.out.cell 1
      have fl := Hf.out.lt
      have x0 := Hx.out.cell 0
      have x1 := Hx.out.cell 1
      have xl := Hx.out.lt
      simp only [List.getElem?_cons_zero, List.getElem?_cons_succ] at t0 t1 t2 t3 r_0 r_1 r_2 r_3 f0 f1 x0 x1
      refine hK _ _ ?_ (fun hHeld2 => ?_)
      · exact ⟨t0, t1, t2, t3⟩
      clear hK K hHeld
      try simp only [Act.put, List.setIfInBounds_toArray, List.set_cons_zero, List.set_cons_succ]
      have hHeld := hHeld2; clear hHeld2
      refine wpAnyH_done (by kernel_rfl) ?_ _
      clear hHeld
      have r_f0 := Hr_.out.frozen 0
      have r_f1 := Hr_.out.frozen 1
      have r_f2 := Hr_.out.frozen 2
      have r_f3 := Hr_.out.frozen 3
      have ff0 := Hf.out.frozen 0
      have ff1 := Hf.out.frozen 1
      go_upto_region 3 with (fail)
      go_region
      all_goals go_wp2_with fail
      all_goals refine bodyPost_ret (v := .tuple #[resV false none 0 0 0 0, fault ec ei]) (by simp [results, Tryz.results13, go_sem, fault, resV, f0, f1, fl, r_0, r_1, r_2, r_3, r_l]) rfl ?_
      have hbx := HB0.out
      refine ⟨?_, .inl ⟨by rw [Hq.out]; exact h1, by rw [Hq.out]⟩⟩
      repeat' (first | (with_reducible exact Hbl.out) | (with_reducible refine Below.drew ?_) | (with_reducible refine below_setA ?_ ?_ _ _) | (with_reducible refine below_drewN ?_ _) | omega)
    · skip
      have Hmany := hide hmany
      clear hmany
      unfold fault
      go_simp
      refine hK _ _ ?_ (fun hHeld2 => ?_)
      · exact ⟨t0, t1, t2, t3⟩
      clear hK K hHeld
      try simp only [Act.put, List.setIfInBounds_toArray, List.set_cons_zero, List.set_cons_succ]
      have hHeld := hHeld2; clear hHeld2
      refine takeA (i := 4) (v := ?_) (some 12) rfl rfl (by kernel_rfl) (by kernel_rfl) (by kernel_rfl) (fun _ _ _ h => h) (Or.inl ⟨by rfl, ?_⟩) (by assumption) ?_
      rotate_left
      · intro w hSw; (try dsimp only at hSw); obtain ⟨s1, s2, s3, s4⟩ := hSw; first | (go_simp; done) | (go_simp; with_reducible rfl)
      try simp only [Act.put, List.setIfInBounds_toArray, List.set_cons_zero, List.set_cons_succ]
      refine takeA (i := 5) (v := ?_) (some 17) rfl rfl (by kernel_rfl) (by kernel_rfl) (by kernel_rfl) (fun _ _ _ h => h) (Or.inl ⟨by rfl, ?_⟩) (by assumption) ?_
      rotate_left
      · intro w hSw; (try dsimp only at hSw); obtain ⟨s1, s2, s3, s4⟩ := hSw; first | (go_simp; done) | (go_simp; with_reducible rfl)
      try simp only [Act.put, List.setIfInBounds_toArray, List.set_cons_zero, List.set_cons_succ]
      refine takeA (i := 6) (v := ?_) (some 18) rfl rfl (by kernel_rfl) (by kernel_rfl) (by kernel_rfl) (fun _ _ _ h => h) (Or.inl ⟨by rfl, ?_⟩) (by assumption) ?_
      rotate_left
      · intro w hSw; (try dsimp only at hSw); obtain ⟨s1, s2, s3, s4⟩ := hSw; first | (go_simp; done) | (go_simp; with_reducible rfl)
      try simp only [Act.put, List.setIfInBounds_toArray, List.set_cons_zero, List.set_cons_succ]
      refine takeA (i := 7) (v := ?_) (some 19) rfl rfl (by kernel_rfl) (by kernel_rfl) (by kernel_rfl) (fun _ _ _ h => h) (Or.inl ⟨by rfl, ?_⟩) (by assumption) ?_
      rotate_left
      · intro w hSw; (try dsimp only at hSw); obtain ⟨s1, s2, s3, s4⟩ := hSw; first | (go_simp; done) | (go_simp; with_reducible rfl)
      try simp only [Act.put, List.setIfInBounds_toArray, List.set_cons_zero, List.set_cons_succ]
      refine takeA (i := 9) (v := ?_) (some 6) rfl rfl (by kernel_rfl) (by kernel_rfl) (by kernel_rfl) (fun _ _ _ h => h) (Or.inl ⟨by rfl, ?_⟩) (by assumption) ?_
      rotate_left
      · intro w hSw; (try dsimp only at hSw); obtain ⟨s1, s2, s3, s4⟩ := hSw; first | (go_simp; done) | (go_simp; with_reducible rfl)
      try simp only [Act.put, List.setIfInBounds_toArray, List.set_cons_zero, List.set_cons_succ]
      refine takeA (i := 10) (v := ?_) (some 7) rfl rfl (by kernel_rfl) (by kernel_rfl) (by kernel_rfl) (fun _ _ _ h => h) (Or.inl ⟨by rfl, ?_⟩) (by assumption) ?_
      rotate_left
      · intro w hSw; (try dsimp only at hSw); obtain ⟨s1, s2, s3, s4⟩ := hSw; first | (go_simp; done) | (go_simp; with_reducible rfl)
      try simp only [Act.put, List.setIfInBounds_toArray, List.set_cons_zero, List.set_cons_succ]
      have xf0 := Hx.out.frozen 0
      have xf1 := Hx.out.frozen 1
      refine wpAnyH_ready (rs := [11]) (by kernel_rfl) (by simp) ?_
      refine AllReadyH.cons rfl (fun K hK => ?_) AllReadyH.nil
      go_simp
      clear xf0 xf1
      have hyb := ((Hx.out.set 0 (.int .i64 10)).set 1 (.int .i64 (-7)))
      simp only [List.set_cons_zero, List.set_cons_succ] at hyb
      have hbW := (below_set ((below_set (Below.refl B0 w1) (g := gx) a_x 0 (.int .i64 10))) (g := gx) a_x 1 (.int .i64 (-7)))
      have hcW := ((Chg.refl (fun x => x = gx) w1).trans (Chg.set _ (gx) 0 (.int .i64 10))).trans (Chg.set _ (gx) 1 (.int .i64 (-7)))
      obtain ⟨w2, hW⟩ : ∃ W, W = ((w1).setCell ⟨gx, 0, none⟩ (.int .i64 10)).setCell ⟨gx, 1, none⟩ (.int .i64 (-7)) := ⟨_, rfl⟩
      rw [← hW] at hyb hbW hcW ⊢
      replace Hx := hide hyb
      clear hW hyb
      clear t0 t1 t2 t3 r_0 r_1 r_2 r_3 f0 f1 x0 x1 tl r_l fl xl
      replace Ht := hide (hcW.blk Ht.out (by exact n_t_x))
      replace Hr_ := hide (hcW.blk Hr_.out (by exact n_r__x))
      replace Hf := hide (hcW.blk Hf.out (by exact n_f_x))
      replace Hbl := hide (Hbl.out.trans (hbW.mono (Nat.le_of_eq HB0.out.symm)))
      clear hbW hcW
      have t0 := Ht.out.cell 0
      have t1 := Ht.out.cell 1
      have t2 := Ht.out.cell 2
      have t3 := Ht.out.cell 3
      have tl := Ht.out.lt
      have r_0 := Hr_.out.cell 0
      have r_1 := Hr_.out.cell 1
      have r_2 := Hr_.out.cell 2
      have r_3 := Hr_.out.cell 3
      have r_l := Hr_.out.lt
      have f0 := Hf.out.cell 0
      have f1 := Hf.out.cell 1
      have fl := Hf.out.lt
      have x0 := Hx.out.cell 0
      have x1 := Hx.out.cell 1
      have xl := Hx.out.lt
      simp only [List.getElem?_cons_zero, List.getElem?_cons_succ] at t0 t1 t2 t3 r_0 r_1 r_2 r_3 f0 f1 x0 x1
      refine hK _ _ ?_ (fun hHeld2 => ?_)
      · exact ⟨t0, t1, t2, t3⟩
      clear hK K hHeld
      try simp only [Act.put, List.setIfInBounds_toArray, List.set_cons_zero, List.set_cons_succ]
      have hHeld := hHeld2; clear hHeld2
      refine wpAnyH_done (by kernel_rfl) ?_ _
      clear hHeld
      have r_f0 := Hr_.out.frozen 0
      have r_f1 := Hr_.out.frozen 1
      have r_f2 := Hr_.out.frozen 2
      have r_f3 := Hr_.out.frozen 3
      have ff0 := Hf.out.frozen 0
      have ff1 := Hf.out.frozen 1
      go_upto_region 3 with (fail)
      go_region
      all_goals go_wp2_with fail
      all_goals refine bodyPost_ret (v := .tuple #[resV false none 0 0 0 0, fault 10 (-7)]) (by simp [results, Tryz.results13, go_sem, fault, resV, f0, f1, fl, r_0, r_1, r_2, r_3, r_l]) rfl ?_
      have hbx := HB0.out
      refine ⟨?_, .inr (.inl ⟨by rw [Hq.out]; exact h1, Hmany.out, rfl⟩)⟩
      repeat' (first | (with_reducible exact Hbl.out) | (with_reducible refine Below.drew ?_) | (with_reducible refine below_setA ?_ ?_ _ _) | (with_reducible refine below_drewN ?_ _) | omega)
    · skip
      have HW := hide hW
      have Hlist := hide hlist
      have Hx12 := hide (Below.refl w1.heap.size w1)
      clear hW hrow hlist
      unfold fault
      go_simp
      refine hK _ _ ?_ (fun hHeld2 => ?_)
      · exact ⟨t0, t1, t2, t3⟩
      clear hK K hHeld
      try simp only [Act.put, List.setIfInBounds_toArray, List.set_cons_zero, List.set_cons_succ]
      have hHeld := hHeld2; clear hHeld2
      refine takeA (i := 4) (v := ?_) (some 12) rfl rfl (by kernel_rfl) (by kernel_rfl) (by kernel_rfl) (fun _ _ _ h => h) (Or.inl ⟨by rfl, ?_⟩) (by assumption) ?_
      rotate_left
      · intro w hSw; (try dsimp only at hSw); obtain ⟨s1, s2, s3, s4⟩ := hSw; first | (go_simp; done) | (go_simp; with_reducible rfl)
      try simp only [Act.put, List.setIfInBounds_toArray, List.set_cons_zero, List.set_cons_succ]
      refine takeA (i := 5) (v := ?_) (some 17) rfl rfl (by kernel_rfl) (by kernel_rfl) (by kernel_rfl) (fun _ _ _ h => h) (Or.inl ⟨by rfl, ?_⟩) (by assumption) ?_
      rotate_left
      · intro w hSw; (try dsimp only at hSw); obtain ⟨s1, s2, s3, s4⟩ := hSw; first | (go_simp; done) | (go_simp; with_reducible rfl)
      try simp only [Act.put, List.setIfInBounds_toArray, List.set_cons_zero, List.set_cons_succ]
      refine takeA (i := 6) (v := ?_) (some 18) rfl rfl (by kernel_rfl) (by kernel_rfl) (by kernel_rfl) (fun _ _ _ h => h) (Or.inl ⟨by rfl, ?_⟩) (by assumption) ?_
      rotate_left
      · intro w hSw; (try dsimp only at hSw); obtain ⟨s1, s2, s3, s4⟩ := hSw; first | (go_simp; done) | (go_simp; with_reducible rfl)
      try simp only [Act.put, List.setIfInBounds_toArray, List.set_cons_zero, List.set_cons_succ]
      refine takeA (i := 7) (v := ?_) (some 19) rfl rfl (by kernel_rfl) (by kernel_rfl) (by kernel_rfl) (fun _ _ _ h => h) (Or.inl ⟨by rfl, ?_⟩) (by assumption) ?_
      rotate_left
      · intro w hSw; (try dsimp only at hSw); obtain ⟨s1, s2, s3, s4⟩ := hSw; first | (go_simp; done) | (go_simp; with_reducible rfl)
      try simp only [Act.put, List.setIfInBounds_toArray, List.set_cons_zero, List.set_cons_succ]
      refine takeA (i := 9) (v := ?_) (some 6) rfl rfl (by kernel_rfl) (by kernel_rfl) (by kernel_rfl) (fun _ _ _ h => h) (Or.inl ⟨by rfl, ?_⟩) (by assumption) ?_
      rotate_left
      · intro w hSw; (try dsimp only at hSw); obtain ⟨s1, s2, s3, s4⟩ := hSw; first | (go_simp; done) | (go_simp; with_reducible rfl)
      try simp only [Act.put, List.setIfInBounds_toArray, List.set_cons_zero, List.set_cons_succ]
      refine takeA (i := 10) (v := ?_) (some 7) rfl rfl (by kernel_rfl) (by kernel_rfl) (by kernel_rfl) (fun _ _ _ h => h) (Or.inl ⟨by rfl, ?_⟩) (by assumption) ?_
      rotate_left
      · intro w hSw; (try dsimp only at hSw); obtain ⟨s1, s2, s3, s4⟩ := hSw; first | (go_simp; done) | (go_simp; with_reducible rfl)
      try simp only [Act.put, List.setIfInBounds_toArray, List.set_cons_zero, List.set_cons_succ]
      have xf0 := Hx.out.frozen 0
      have xf1 := Hx.out.frozen 1
      refine wpAnyH_ready (rs := [11]) (by kernel_rfl) (by simp) ?_
      refine AllReadyH.cons rfl (fun K hK => ?_) AllReadyH.nil
      go_simp
      clear xf0 xf1
      have hyb := ((Hx.out.set 0 (.int .i64 0)).set 1 (.int .i64 0))
      simp only [List.set_cons_zero, List.set_cons_succ] at hyb
      have hbW := (below_set ((below_set (Below.refl B0 w1) (g := gx) a_x 0 (.int .i64 0))) (g := gx) a_x 1 (.int .i64 0))
      have hcW := ((Chg.refl (fun x => x = gx) w1).trans (Chg.set _ (gx) 0 (.int .i64 0))).trans (Chg.set _ (gx) 1 (.int .i64 0))
      obtain ⟨w2, hW⟩ : ∃ W, W = ((w1).setCell ⟨gx, 0, none⟩ (.int .i64 0)).setCell ⟨gx, 1, none⟩ (.int .i64 0) := ⟨_, rfl⟩
      rw [← hW] at hyb hbW hcW ⊢
      replace Hx := hide hyb
      clear hW hyb
      clear t0 t1 t2 t3 r_0 r_1 r_2 r_3 f0 f1 x0 x1 tl r_l fl xl
      replace Ht := hide (hcW.blk Ht.out (by exact n_t_x))
      replace Hr_ := hide (hcW.blk Hr_.out (by exact n_r__x))
      replace Hf := hide (hcW.blk Hf.out (by exact n_f_x))
      have Hx12c := hide (Chg.trans (Chg.of_below Hx12.out (fun b => b < Va.heap.size)) (hcW.mono (fun b (e : b = gx) => by omega)))
      replace Hbl := hide (Hbl.out.trans (hbW.mono (Nat.le_of_eq HB0.out.symm)))
      clear hbW hcW
      have t0 := Ht.out.cell 0
      have t1 := Ht.out.cell 1
      have t2 := Ht.out.cell 2
      have t3 := Ht.out.cell 3
      have tl := Ht.out.lt
      have r_0 := Hr_.out.cell 0
      have r_1 := Hr_.out.cell 1
      have r_2 := Hr_.out.cell 2
      have r_3 := Hr_.out.cell 3
      have r_l := Hr_.out.lt
      have f0 := Hf.out.cell 0
      have f1 := Hf.out.cell 1
      have fl := Hf.out.lt
      have x0 := Hx.out.cell 0
      have x1 := Hx.out.cell 1
      have xl := Hx.out.lt
      simp only [List.getElem?_cons_zero, List.getElem?_cons_succ] at t0 t1 t2 t3 r_0 r_1 r_2 r_3 f0 f1 x0 x1
      refine hK _ _ ?_ (fun hHeld2 => ?_)
      · exact ⟨t0, t1, t2, t3⟩
      clear hK K hHeld
      try simp only [Act.put, List.setIfInBounds_toArray, List.set_cons_zero, List.set_cons_succ]
      have hHeld := hHeld2; clear hHeld2
      refine wpAnyH_done (by kernel_rfl) ?_ _
      clear hHeld
      obtain ⟨N, hok⟩ := taskFault_ok (T := T) (by rw [Hq.out]; exact h1)
      have hN := hok.low
      have HW2 := hide (HW.out w2 Hx12c.out)
      have hmk : ∀ m ∈ T.ops.map mkOp, MkOk m := HW2.out.ok
      have h032 := HW2.out.start
      have h32 : ∀ s ∈ L, s < 4294967296 := fun s hs => reach_w hmk h032 ((Hlist.out.all.mem s).1 hs)
      have Hmk := hide hmk
      have H32 := hide h32
      have Hok := hide hok
      clear hmk h32 hok
      have Hb2 := hide (Below.refl w2.heap.size w2)
      have Kt := Ht
      have Kr_ := Hr_
      have Kf := Hf
      have Kx := Hx
      have Kbl := Hbl
      have z2 := HB0.out
      go_upto_region 4 with (fail)
      go_wp2_with fail
      with_reducible refine (Heuristic_ct (.int .i64 T.facts) (.slice I nI cI) (.slice G nG cG) (.slice O nO cO) 0 (fun _ => 0) L w2).mono ?_
      rintro e w3 ⟨hb, tb, kb, xb, hb3, rfl, hheu, hl1, hl2, hl3, hl4⟩
      have Hheu := hide hheu
      clear hheu
      have Hb23 := hide hb
      clear t0 t1 t2 t3 r_0 r_1 r_2 r_3 f0 f1 x0 x1 tl r_l fl xl
      replace Ht := hide (Ht.out.keep hb)
      replace Hr_ := hide (Hr_.out.keep hb)
      replace Hf := hide (Hf.out.keep hb)
      replace Hx := hide (Hx.out.keep hb)
      replace Hbl := hide (Hbl.out.trans (hb.mono Hbl.out.size))
      clear hb
      have t0 := Ht.out.cell 0
      have t1 := Ht.out.cell 1
      have t2 := Ht.out.cell 2
      have t3 := Ht.out.cell 3
      have tl := Ht.out.lt
      have r_0 := Hr_.out.cell 0
      have r_1 := Hr_.out.cell 1
      have r_2 := Hr_.out.cell 2
      have r_3 := Hr_.out.cell 3
      have r_l := Hr_.out.lt
      have f0 := Hf.out.cell 0
      have f1 := Hf.out.cell 1
      have fl := Hf.out.lt
      have x0 := Hx.out.cell 0
      have x1 := Hx.out.cell 1
      have xl := Hx.out.lt
      simp only [List.getElem?_cons_zero, List.getElem?_cons_succ] at t0 t1 t2 t3 r_0 r_1 r_2 r_3 f0 f1 x0 x1
      have hHC := heu_zero (w0 := w2) Hlist.out.few H32.out Hheu.out hl4
      have hbest := Best_ct w2 w3 g _ _ _ xb tb kb hb3 (fun _ => 0) L _ HW2.out Hb23.out hHC Hheu.out Hlist.out.few (fun s => Hlist.out.all.mem s) (fun _ => Int.le_refl _) (fun s l u n hw hg => ⟨(path_ops hw Hmk.out).1, by unfold infA; omega⟩)
      go_wp2_with fail
      with_reducible refine hbest.mono ?_
      rintro e w4 ⟨hb, hor2⟩
      clear hbest hHC
      clear t0 t1 t2 t3 r_0 r_1 r_2 r_3 f0 f1 x0 x1 tl r_l fl xl
      replace Ht := hide (Kt.out.keep hb)
      replace Hr_ := hide (Kr_.out.keep hb)
      replace Hf := hide (Kf.out.keep hb)
      replace Hx := hide (Kx.out.keep hb)
      replace Hbl := hide (Kbl.out.trans (hb.mono Kbl.out.size))
      clear hb
      have t0 := Ht.out.cell 0
      have t1 := Ht.out.cell 1
      have t2 := Ht.out.cell 2
      have t3 := Ht.out.cell 3
      have tl := Ht.out.lt
      have r_0 := Hr_.out.cell 0
      have r_1 := Hr_.out.cell 1
      have r_2 := Hr_.out.cell 2
      have r_3 := Hr_.out.cell 3
      have r_l := Hr_.out.lt
      have f0 := Hf.out.cell 0
      have f1 := Hf.out.cell 1
      have fl := Hf.out.lt
      have x0 := Hx.out.cell 0
      have x1 := Hx.out.cell 1
      have xl := Hx.out.lt
      simp only [List.getElem?_cons_zero, List.getElem?_cons_succ] at t0 t1 t2 t3 r_0 r_1 r_2 r_3 f0 f1 x0 x1
      rcases hor2 with ⟨PO, pc, pl, pk, rfl, hbo, hlen, hown⟩ | ⟨pk, rfl, hno⟩
      · skip
        have hbo2 := hbo
        obtain ⟨u, n, hpath, hgu, _⟩ := hbo2
        obtain ⟨_, hops⟩ := path_ops hpath Hmk.out
        rw [List.length_map] at hops
        obtain ⟨hr1, hr2⟩ := ops_range Hok.out hops
        rw [opsV_opsI] at hown
        have hrd := own_rd hown (opsI_length pl) (fun x hx => by have := hr1 x hx; have := Hok.out.few; omega)
        have Hbo := hide hbo
        clear hbo hpath hgu hops hown
        have hct := Hres.out PO pl.length pc (opsI pl) true pk w4 (H.out.keep Hbl.out) hrd hr1 hr2
        clear hr1 hr2 hrd
        go_wp2_with fail
        with_reducible refine hct.mono ?_
        rintro e w5 ⟨hb, hor3⟩
        clear hct
        clear t0 t1 t2 t3 r_0 r_1 r_2 r_3 f0 f1 x0 x1 tl r_l fl xl
        replace Ht := hide (Ht.out.keep hb)
        replace Hr_ := hide (Hr_.out.keep hb)
        replace Hf := hide (Hf.out.keep hb)
        replace Hx := hide (Hx.out.keep hb)
        replace Hbl := hide (Hbl.out.trans (hb.mono Hbl.out.size))
        clear hb
        have t0 := Ht.out.cell 0
        have t1 := Ht.out.cell 1
        have t2 := Ht.out.cell 2
        have t3 := Ht.out.cell 3
        have tl := Ht.out.lt
        have r_0 := Hr_.out.cell 0
        have r_1 := Hr_.out.cell 1
        have r_2 := Hr_.out.cell 2
        have r_3 := Hr_.out.cell 3
        have r_l := Hr_.out.lt
        have f0 := Hf.out.cell 0
        have f1 := Hf.out.cell 1
        have fl := Hf.out.lt
        have x0 := Hx.out.cell 0
        have x1 := Hx.out.cell 1
        have xl := Hx.out.lt
        simp only [List.getElem?_cons_zero, List.getElem?_cons_succ] at t0 t1 t2 t3 r_0 r_1 r_2 r_3 f0 f1 x0 x1
        rcases hor3 with ⟨h60, rfl⟩ | ⟨h60, rfl⟩
        · skip
          unfold fault resV
          have r_f0 := Hr_.out.frozen 0
          have r_f1 := Hr_.out.frozen 1
          have r_f2 := Hr_.out.frozen 2
          have r_f3 := Hr_.out.frozen 3
          have ff0 := Hf.out.frozen 0
          have ff1 := Hf.out.frozen 1
          go_wp2_with fail
          refine bodyPost_ret (v := .tuple #[resV false none 0 0 0 0, fault 10 (-9)]) (by simp [results, Tryz.results13, go_sem, fault, resV, f0, f1, fl, r_0, r_1, r_2, r_3, r_l]) rfl ?_
          have hbx := HB0.out
          refine ⟨?_, .inr (.inr ⟨by rw [Hq.out]; exact h1, L, Hlist.out, .inr ⟨pl, Hbo.out, .inl ⟨h60, rfl⟩⟩⟩)⟩
          repeat' (first | (with_reducible exact Hbl.out) | (with_reducible refine Below.drew ?_) | (with_reducible refine below_setA ?_ ?_ _ _) | (with_reducible refine below_drewN ?_ _) | omega)
        · skip
          unfold fault resV
          have r_f0 := Hr_.out.frozen 0
          have r_f1 := Hr_.out.frozen 1
          have r_f2 := Hr_.out.frozen 2
          have r_f3 := Hr_.out.frozen 3
          have ff0 := Hf.out.frozen 0
          have ff1 := Hf.out.frozen 1
          go_wp2_with fail
          refine bodyPost_ret (v := .tuple #[resV true PO pl.length pc (costF T.ops (opsI pl)) pk, fault 0 0]) (by simp [results, Tryz.results13, go_sem, fault, resV, f0, f1, fl, r_0, r_1, r_2, r_3, r_l]) rfl ?_
          have hbx := HB0.out
          refine ⟨?_, .inr (.inr ⟨by rw [Hq.out]; exact h1, L, Hlist.out, .inr ⟨pl, Hbo.out, .inr ⟨h60, _, _, _, _, rfl⟩⟩⟩)⟩
          repeat' (first | (with_reducible exact Hbl.out) | (with_reducible refine Below.drew ?_) | (with_reducible refine below_setA ?_ ?_ _ _) | (with_reducible refine below_drewN ?_ _) | omega)
      · skip
        have hct := Hres.out none 0 0 [] false pk w4 (H.out.keep Hbl.out) (Rd.nil_ _ _) (fun x hx => by cases hx) (fun x hx => by cases hx)
        go_wp2_with fail
        with_reducible refine hct.mono ?_
        rintro e w5 ⟨hb, hor3⟩
        clear hct
        clear t0 t1 t2 t3 r_0 r_1 r_2 r_3 f0 f1 x0 x1 tl r_l fl xl
        replace Ht := hide (Ht.out.keep hb)
        replace Hr_ := hide (Hr_.out.keep hb)
        replace Hf := hide (Hf.out.keep hb)
        replace Hx := hide (Hx.out.keep hb)
        replace Hbl := hide (Hbl.out.trans (hb.mono Hbl.out.size))
        clear hb
        have t0 := Ht.out.cell 0
        have t1 := Ht.out.cell 1
        have t2 := Ht.out.cell 2
        have t3 := Ht.out.cell 3
        have tl := Ht.out.lt
        have r_0 := Hr_.out.cell 0
        have r_1 := Hr_.out.cell 1
        have r_2 := Hr_.out.cell 2
        have r_3 := Hr_.out.cell 3
        have r_l := Hr_.out.lt
        have f0 := Hf.out.cell 0
        have f1 := Hf.out.cell 1
        have fl := Hf.out.lt
        have x0 := Hx.out.cell 0
        have x1 := Hx.out.cell 1
        have xl := Hx.out.lt
        simp only [List.getElem?_cons_zero, List.getElem?_cons_succ] at t0 t1 t2 t3 r_0 r_1 r_2 r_3 f0 f1 x0 x1
        rcases hor3 with ⟨h60, rfl⟩ | ⟨h60, rfl⟩
        · skip
          omega
        · skip
          unfold fault resV
          have r_f0 := Hr_.out.frozen 0
          have r_f1 := Hr_.out.frozen 1
          have r_f2 := Hr_.out.frozen 2
          have r_f3 := Hr_.out.frozen 3
          have ff0 := Hf.out.frozen 0
          have ff1 := Hf.out.frozen 1
          go_wp2_with fail
          refine bodyPost_ret (v := .tuple #[resV false none 0 0 (costF T.ops []) pk, fault 0 0]) (by simp [results, Tryz.results13, go_sem, fault, resV, f0, f1, fl, r_0, r_1, r_2, r_3, r_l]) rfl ?_
          have hbx := HB0.out
          refine ⟨?_, .inr (.inr ⟨by rw [Hq.out]; exact h1, L, Hlist.out, .inl ⟨_, _, rfl, hno⟩⟩)⟩
          repeat' (first | (with_reducible exact Hbl.out) | (with_reducible refine Below.drew ?_) | (with_reducible refine below_setA ?_ ?_ _ _) | (with_reducible refine below_drewN ?_ _) | omega)
end Go.Proofs.YtemiecammmbjdaaGreat
