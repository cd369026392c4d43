/- What the law asks for, part 33: La31. -/
import Derived.Test.YtemiecammmbjdaaGreatL1
import Derived.Test.YtemiecammmbjdaaGreatL2
import Derived.Test.YtemiecammmbjdaaGreatL3
import Derived.Test.YtemiecammmbjdaaGreatL4
import Derived.Test.YtemiecammmbjdaaGreatL5
import Derived.Test.YtemiecammmbjdaaGreatL6
import Derived.Test.YtemiecammmbjdaaGreatL7
import Derived.Test.YtemiecammmbjdaaGreatL8
import Derived.Test.YtemiecammmbjdaaGreatL9
import Derived.Test.YtemiecammmbjdaaGreatL10
import Derived.Test.YtemiecammmbjdaaGreatL11
import Derived.Test.YtemiecammmbjdaaGreatL12
import Derived.Test.YtemiecammmbjdaaGreatL13
import Derived.Test.YtemiecammmbjdaaGreatL14
import Derived.Test.YtemiecammmbjdaaGreatL15
import Derived.Test.YtemiecammmbjdaaGreatL16
import Derived.Test.YtemiecammmbjdaaGreatL17
import Derived.Test.YtemiecammmbjdaaGreatL18
import Derived.Test.YtemiecammmbjdaaGreatL19
import Derived.Test.YtemiecammmbjdaaGreatL20
import Derived.Test.YtemiecammmbjdaaGreatL21
import Derived.Test.YtemiecammmbjdaaGreatL22
import Derived.Test.YtemiecammmbjdaaGreatL23
import Derived.Test.YtemiecammmbjdaaGreatL24
import Derived.Test.YtemiecammmbjdaaGreatL25
import Derived.Test.YtemiecammmbjdaaGreatL26
import Derived.Test.YtemiecammmbjdaaGreatL27
import Derived.Test.YtemiecammmbjdaaGreatL28
import Derived.Test.YtemiecammmbjdaaGreatL29
import Derived.Test.YtemiecammmbjdaaGreatL30
import Derived.Test.YtemiecammmbjdaaGreatL31
import Derived.Test.YtemiecammmbjdaaGreatL32
import Derived.BigQuiet
import Derived.Deep.AppendLies
import Derived.Deep.DeepCutAuto
import Derived.Deep.Draws
import Derived.Deep.Fields
import Derived.Deep.LoopGhost
import Derived.Deep.QuietTactic
import Derived.Deep.RegionHeld3
import Derived.Deep.RegionLaw
import Derived.Deep.Slices
import Derived.DeepKeys4
import Derived.Ground.Names2Prog
import Derived.Ground.SlgnProg
import Derived.Ground.SlsfProg
import Derived.IntWalk
import Derived.Laws.AppendOwnNone
import Derived.Laws.BitsAllLaws
import Derived.Laws.OwnMore
import Derived.Lib.Hide
import Derived.Lib.SlicesCompact
import Derived.LoopIn
import Derived.LoopNIn
import Derived.Maps.AppendAt
import Derived.Maps.OwnIn
import Derived.Maps.OwnOps
import Derived.Maps.OwnSet
import Derived.OwnWalkIn
import Derived.RangeFuncBound
import Derived.RangeFuncCalls
import Derived.RangeFuncLeaves
import Derived.RangeFuncNested
import Derived.Shelf.Abstract
import Derived.Shelf.RegionOpen
import Derived.Shelf.SlSortCmp.Whole1
import Derived.Shelf.Slices.Cells
import Derived.Shelf.Slices.Clone
import Derived.Shelf.Slices.CompactI
import Derived.Shelf.Slices.Empties
import Derived.Shelf.Slices.In.SortNone
import Derived.Shelf.Slices.Reverse
import Derived.Shelf.Slices.SearchI
import Derived.Shelf.SlicesE.Clone
import Derived.Shelf.Sort.Plain
import Derived.Sort.OwnSortedInts
import Derived.StillTailTactics
import Derived.TacticsInMore
import Derived.Test.YtemiecammmbjdaaGreatProg
import Derived.WalkKit
import Init
namespace Go.Proofs.YtemiecammmbjdaaGreat
set_option linter.unusedVariables false
set_option linter.unusedSimpArgs false
open Go.RowKit
theorem field31 (x : Int) (y : Value) (w : World) : (Instr.field 28 (.agg #[.int .i64 x, y]) 0).run Tryz.prog w = .ok (.int .i64 x) w := by kernel_rfl
set_option maxRecDepth 100000 in
set_option maxHeartbeats 12800000 in
theorem planLawA (a : TA) (T : Tsk) (s : Int) (w : World) (V : Int) (cs : List (List Int)) (ec ei : Int) (h : TkR w a T) (hs : I64s s) (hcr : cnfR T s = (V, cs, ec, ei)) (hec : ec ≠ 0) :
    Calls Tryz.prog 3 #[.agg #[.int .i64 T.facts, .slice a.I a.nI a.cI, .slice a.G a.nG a.cG, .slice a.O a.nO a.cO], .int .i64 s] w (Gives w (.bool true)) := by
  have hpl := fun W hT => HPlan_ct a T s W _ _ _ _ hT hs hcr
  have hef := EncFault_ct a T s
  rw [hcr] at hef
  obtain ⟨I, nI, cI, G, nG, cG, O, nO, cO⟩ := a
  simp only at hpl hef ⊢
  have H := hide h
  replace hpl := hide hpl
  replace hef := hide hef
  clear h hcr
  have Hfi := hide (show ∀ (x : Int) (y : Value) (w : World), (Instr.field 28 (.agg #[.int .i64 x, y]) 0).run Tryz.prog w = .ok (.int .i64 x) w from fun x y w => field31 x y w)
  have Hbl := hide (Below.refl w.heap.size w)
  go_enter Tryz.func3, Tryz.ntmps3
  go_upto_region 1 with (fail)
  obtain ⟨B0, hB0⟩ : ∃ B0, B0 = w.heap.size := ⟨_, rfl⟩
  have HB0 := hide hB0
  clear hB0
  have s_0 : B0 ≤ w.heap.size := Nat.le_trans (Nat.le_of_eq HB0.out) Hbl.out.size
  have hyt := Blk.new (w) 25 [.int .i64 T.facts, .slice I nI cI, .slice G nG cG, .slice O nO cO]
  have hbW : Below (w).heap.size (w) ((w).alloc (.cells #[.int .i64 T.facts, .slice I nI cI, .slice G nG cG, .slice O nO cO] 25)) := (Below.refl _ _).alloc (Nat.le_refl _) _
  obtain ⟨w0, hW⟩ : ∃ W, W = (w).alloc (.cells #[.int .i64 T.facts, .slice I nI cI, .slice G nG cG, .slice O nO cO] 25) := ⟨_, rfl⟩
  rw [← hW] at hyt hbW ⊢
  replace Hbl := hide (Hbl.out.trans (hbW.mono Hbl.out.size))
  have Ht := hide hyt
  clear hW hbW hyt
  generalize w.heap.size = gT at Ht s_0 ⊢
  have t0 := Ht.out.cell 0
  have t1 := Ht.out.cell 1
  have t2 := Ht.out.cell 2
  have t3 := Ht.out.cell 3
  have tl := Ht.out.lt
  simp only [List.getElem?_cons_zero, List.getElem?_cons_succ] at t0 t1 t2 t3
  have a_t : B0 ≤ gT := by omega
  clear s_0
  go_wp2_with fail
  with_reducible refine (horizonExample_ct w0).mono ?_
  rintro e w1 ⟨rfl, hb⟩
  clear t0 t1 t2 t3 tl
  replace Ht := hide (Ht.out.keep hb)
  replace Hbl := hide (Hbl.out.trans (hb.mono Hbl.out.size))
  clear hb
  have t0 := Ht.out.cell 0
  have t1 := Ht.out.cell 1
  have t2 := Ht.out.cell 2
  have t3 := Ht.out.cell 3
  have tl := Ht.out.lt
  simp only [List.getElem?_cons_zero, List.getElem?_cons_succ] at t0 t1 t2 t3
  go_wp2_with fail
  with_reducible refine (hpl.out w1 (H.out.keep Hbl.out)).mono ?_
  rintro e w2 ⟨hb, X, k, c, ok, rfl, hok0, hec0, hiff, hrd⟩
  unfold fault
  clear t0 t1 t2 t3 tl
  replace Ht := hide (Ht.out.keep hb)
  replace Hbl := hide (Hbl.out.trans (hb.mono Hbl.out.size))
  clear hb
  have t0 := Ht.out.cell 0
  have t1 := Ht.out.cell 1
  have t2 := Ht.out.cell 2
  have t3 := Ht.out.cell 3
  have tl := Ht.out.lt
  simp only [List.getElem?_cons_zero, List.getElem?_cons_succ] at t0 t1 t2 t3
  obtain rfl : ok = false := hec0 hec
  obtain rfl : k = 0 := hok0 rfl
  clear hok0 hec0 hiff hrd
  go_upto_region 4 with (fail)
  have s_t : gT < w2.heap.size := tl
  have s_0 : B0 ≤ w2.heap.size := Nat.le_trans (Nat.le_of_eq HB0.out) Hbl.out.size
  have hye := Blk.new (w2) 28 [.int .i64 ec, .int .i64 ei]
  have hbW : Below (w2).heap.size (w2) ((w2).alloc (.cells #[.int .i64 ec, .int .i64 ei] 28)) := (Below.refl _ _).alloc (Nat.le_refl _) _
  obtain ⟨w3, hW⟩ : ∃ W, W = (w2).alloc (.cells #[.int .i64 ec, .int .i64 ei] 28) := ⟨_, rfl⟩
  rw [← hW] at hye hbW ⊢
  replace Ht := hide (Ht.out.keep hbW)
  replace Hbl := hide (Hbl.out.trans (hbW.mono Hbl.out.size))
  have He := hide hye
  clear hW hbW hye
  generalize w2.heap.size = ge at He s_t s_0 ⊢
  have t0 := Ht.out.cell 0
  have t1 := Ht.out.cell 1
  have t2 := Ht.out.cell 2
  have t3 := Ht.out.cell 3
  have tl := Ht.out.lt
  have e0 := He.out.cell 0
  have e1 := He.out.cell 1
  have el := He.out.lt
  simp only [List.getElem?_cons_zero, List.getElem?_cons_succ] at t0 t1 t2 t3 e0 e1
  clear s_t
  have a_e : B0 ≤ ge := by omega
  clear s_0
  go_wp2_with fail
  with_reducible refine (hef.out w3 (H.out.keep Hbl.out) hs).mono ?_
  rintro e w4 ⟨rfl, hb⟩
  clear t0 t1 t2 t3 e0 e1 tl el
  replace Ht := hide (Ht.out.keep hb)
  replace He := hide (He.out.keep hb)
  replace Hbl := hide (Hbl.out.trans (hb.mono Hbl.out.size))
  clear hb
  unfold fault
  simp only
  have t0 := Ht.out.cell 0
  have t1 := Ht.out.cell 1
  have t2 := Ht.out.cell 2
  have t3 := Ht.out.cell 3
  have tl := Ht.out.lt
  have e0 := He.out.cell 0
  have e1 := He.out.cell 1
  have el := He.out.lt
  simp only [List.getElem?_cons_zero, List.getElem?_cons_succ] at t0 t1 t2 t3 e0 e1
  go_upto_region 5 with (fail)
  have s_t : gT < w4.heap.size := tl
  have s_e : ge < w4.heap.size := el
  have s_0 : B0 ≤ w4.heap.size := Nat.le_trans (Nat.le_of_eq HB0.out) Hbl.out.size
  have hyk := Blk.new (w4) 28 [.int .i64 ec, .int .i64 ei]
  have hbW : Below (w4).heap.size (w4) ((w4).alloc (.cells #[.int .i64 ec, .int .i64 ei] 28)) := (Below.refl _ _).alloc (Nat.le_refl _) _
  obtain ⟨w5, hW⟩ : ∃ W, W = (w4).alloc (.cells #[.int .i64 ec, .int .i64 ei] 28) := ⟨_, rfl⟩
  rw [← hW] at hyk hbW ⊢
  replace Ht := hide (Ht.out.keep hbW)
  replace He := hide (He.out.keep hbW)
  replace Hbl := hide (Hbl.out.trans (hbW.mono Hbl.out.size))
  have Hk := hide hyk
  clear hW hbW hyk
  generalize w4.heap.size = gk at Hk s_t s_e s_0 ⊢
  have t0 := Ht.out.cell 0
  have t1 := Ht.out.cell 1
  have t2 := Ht.out.cell 2
  have t3 := Ht.out.cell 3
  have tl := Ht.out.lt
  have e0 := He.out.cell 0
  have e1 := He.out.cell 1
  have el := He.out.lt
  have k0 := Hk.out.cell 0
  have k1 := Hk.out.cell 1
  have kl := Hk.out.lt
  simp only [List.getElem?_cons_zero, List.getElem?_cons_succ] at t0 t1 t2 t3 e0 e1 k0 k1
  clear s_t
  clear s_e
  have a_k : B0 ≤ gk := by omega
  clear s_0
  have hne : (ec != 0) = true := by simpa using hec
  have hne2 : (ec == 0) = false := by simpa using hec
  go_wp2_with fail
  all_goals go_ret
  all_goals exact ⟨ret_bool (by simp), Hbl.out⟩
set_option maxRecDepth 100000 in
set_option maxHeartbeats 12800000 in
theorem planLawB (a : TA) (T : Tsk) (s : Int) (w : World) (N S : Nat) (h : TkR w a T) (hs : I64s s) (hok : OkT T N) (hsS : s = (S : Int)) (hS : S ≤ 4) (hcr : cnfR T s = (((sizeN N S T.ops.length : Nat) : Int), encC T N S, 0, 0)) :
    Calls Tryz.prog 3 #[.agg #[.int .i64 T.facts, .slice a.I a.nI a.cI, .slice a.G a.nG a.cG, .slice a.O a.nO a.cO], .int .i64 s] w (Gives w (.bool true)) := by
  have hpl := fun W hT => HPlan_ct a T s W _ _ _ _ hT hs hcr
  have hef := EncFault_ct a T s
  rw [hcr] at hef
  have hbp := fun W hT => (BPlan_ct a T W hT).mono (fun e w' h => bplan_out hok h)
  have hpf := fun B m d l W hT hl => RPlanFault_ct a T B m d l W hT hl
  have hso := fun B m d l W hT hl hr => RSolves_ct a T N B m d l W hT hok hl hr
  obtain ⟨I, nI, cI, G, nG, cG, O, nO, cO⟩ := a
  simp only at hpl hef hbp hpf hso ⊢
  have HsS := hide hsS
  clear hsS
  have Hok := hide hok
  replace hbp := hide hbp
  replace hpf := hide hpf
  replace hso := hide hso
  clear hok
  have H := hide h
  replace hpl := hide hpl
  replace hef := hide hef
  clear h hcr
  have Hfi := hide (show ∀ (x : Int) (y : Value) (w : World), (Instr.field 28 (.agg #[.int .i64 x, y]) 0).run Tryz.prog w = .ok (.int .i64 x) w from fun x y w => field31 x y w)
  have Hbl := hide (Below.refl w.heap.size w)
  go_enter Tryz.func3, Tryz.ntmps3
  go_upto_region 1 with (fail)
  obtain ⟨B0, hB0⟩ : ∃ B0, B0 = w.heap.size := ⟨_, rfl⟩
  have HB0 := hide hB0
  clear hB0
  have s_0 : B0 ≤ w.heap.size := Nat.le_trans (Nat.le_of_eq HB0.out) Hbl.out.size
  have hyt := Blk.new (w) 25 [.int .i64 T.facts, .slice I nI cI, .slice G nG cG, .slice O nO cO]
  have hbW : Below (w).heap.size (w) ((w).alloc (.cells #[.int .i64 T.facts, .slice I nI cI, .slice G nG cG, .slice O nO cO] 25)) := (Below.refl _ _).alloc (Nat.le_refl _) _
  obtain ⟨w0, hW⟩ : ∃ W, W = (w).alloc (.cells #[.int .i64 T.facts, .slice I nI cI, .slice G nG cG, .slice O nO cO] 25) := ⟨_, rfl⟩
  rw [← hW] at hyt hbW ⊢
  replace Hbl := hide (Hbl.out.trans (hbW.mono Hbl.out.size))
  have Ht := hide hyt
  clear hW hbW hyt
  generalize w.heap.size = gT at Ht s_0 ⊢
  have t0 := Ht.out.cell 0
  have t1 := Ht.out.cell 1
  have t2 := Ht.out.cell 2
  have t3 := Ht.out.cell 3
  have tl := Ht.out.lt
  simp only [List.getElem?_cons_zero, List.getElem?_cons_succ] at t0 t1 t2 t3
  have a_t : B0 ≤ gT := by omega
  clear s_0
  go_wp2_with fail
  with_reducible refine (horizonExample_ct w0).mono ?_
  rintro e w1 ⟨rfl, hb⟩
  clear t0 t1 t2 t3 tl
  replace Ht := hide (Ht.out.keep hb)
  replace Hbl := hide (Hbl.out.trans (hb.mono Hbl.out.size))
  clear hb
  have t0 := Ht.out.cell 0
  have t1 := Ht.out.cell 1
  have t2 := Ht.out.cell 2
  have t3 := Ht.out.cell 3
  have tl := Ht.out.lt
  simp only [List.getElem?_cons_zero, List.getElem?_cons_succ] at t0 t1 t2 t3
  go_wp2_with fail
  with_reducible refine (hpl.out w1 (H.out.keep Hbl.out)).mono ?_
  rintro e w2 ⟨hb, X, k, c, ok, rfl, hok0, hec0, hiff, hrd⟩
  unfold fault
  clear t0 t1 t2 t3 tl
  replace Ht := hide (Ht.out.keep hb)
  replace Hbl := hide (Hbl.out.trans (hb.mono Hbl.out.size))
  clear hb
  have t0 := Ht.out.cell 0
  have t1 := Ht.out.cell 1
  have t2 := Ht.out.cell 2
  have t3 := Ht.out.cell 3
  have tl := Ht.out.lt
  simp only [List.getElem?_cons_zero, List.getElem?_cons_succ] at t0 t1 t2 t3
  have Hk0 := hide hok0
  have Hi := hide hiff
  have Hrd := hide hrd
  clear hok0 hec0 hiff hrd
  cases ok with
  | true =>
    obtain ⟨l, hl, hr, hls, hw⟩ := Hrd.out rfl
    have hkl := hl.len
    have hlw : ((k : Int) ≤ s) := by omega
    have hl60 : l.length ≤ 60 := by have := HsS.out; omega
    have HL := hide hl
    have Hr := hide hr
    have Hw := hide hw
    clear hl hr hw Hrd Hk0 Hi
    go_upto_region 4 with (fail)
    have s_t : gT < w2.heap.size := tl
    have s_0 : B0 ≤ w2.heap.size := Nat.le_trans (Nat.le_of_eq HB0.out) Hbl.out.size
    have hye := Blk.new (w2) 28 [.int .i64 0, .int .i64 0]
    have hbW : Below (w2).heap.size (w2) ((w2).alloc (.cells #[.int .i64 0, .int .i64 0] 28)) := (Below.refl _ _).alloc (Nat.le_refl _) _
    obtain ⟨w3, hW⟩ : ∃ W, W = (w2).alloc (.cells #[.int .i64 0, .int .i64 0] 28) := ⟨_, rfl⟩
    rw [← hW] at hye hbW ⊢
    replace Ht := hide (Ht.out.keep hbW)
    replace HL := hide (HL.out.keep hbW)
    replace Hbl := hide (Hbl.out.trans (hbW.mono Hbl.out.size))
    have He := hide hye
    clear hW hbW hye
    generalize w2.heap.size = ge at He s_t s_0 ⊢
    have t0 := Ht.out.cell 0
    have t1 := Ht.out.cell 1
    have t2 := Ht.out.cell 2
    have t3 := Ht.out.cell 3
    have tl := Ht.out.lt
    have e0 := He.out.cell 0
    have e1 := He.out.cell 1
    have el := He.out.lt
    simp only [List.getElem?_cons_zero, List.getElem?_cons_succ] at t0 t1 t2 t3 e0 e1
    clear s_t
    have a_e : B0 ≤ ge := by omega
    clear s_0
    go_wp2_with fail
    with_reducible refine (hef.out w3 (H.out.keep Hbl.out) hs).mono ?_
    rintro e w4 ⟨rfl, hb⟩
    clear t0 t1 t2 t3 e0 e1 tl el
    replace Ht := hide (Ht.out.keep hb)
    replace He := hide (He.out.keep hb)
    replace HL := hide (HL.out.keep hb)
    replace Hbl := hide (Hbl.out.trans (hb.mono Hbl.out.size))
    clear hb
    unfold fault
    simp only
    have t0 := Ht.out.cell 0
    have t1 := Ht.out.cell 1
    have t2 := Ht.out.cell 2
    have t3 := Ht.out.cell 3
    have tl := Ht.out.lt
    have e0 := He.out.cell 0
    have e1 := He.out.cell 1
    have el := He.out.lt
    simp only [List.getElem?_cons_zero, List.getElem?_cons_succ] at t0 t1 t2 t3 e0 e1
    go_upto_region 5 with (fail)
    have s_t : gT < w4.heap.size := tl
    have s_e : ge < w4.heap.size := el
    have s_0 : B0 ≤ w4.heap.size := Nat.le_trans (Nat.le_of_eq HB0.out) Hbl.out.size
    have hyk := Blk.new (w4) 28 [.int .i64 0, .int .i64 0]
    have hbW : Below (w4).heap.size (w4) ((w4).alloc (.cells #[.int .i64 0, .int .i64 0] 28)) := (Below.refl _ _).alloc (Nat.le_refl _) _
    obtain ⟨w5, hW⟩ : ∃ W, W = (w4).alloc (.cells #[.int .i64 0, .int .i64 0] 28) := ⟨_, rfl⟩
    rw [← hW] at hyk hbW ⊢
    replace Ht := hide (Ht.out.keep hbW)
    replace He := hide (He.out.keep hbW)
    replace HL := hide (HL.out.keep hbW)
    replace Hbl := hide (Hbl.out.trans (hbW.mono Hbl.out.size))
    have Hk := hide hyk
    clear hW hbW hyk
    generalize w4.heap.size = gk at Hk s_t s_e s_0 ⊢
    have t0 := Ht.out.cell 0
    have t1 := Ht.out.cell 1
    have t2 := Ht.out.cell 2
    have t3 := Ht.out.cell 3
    have tl := Ht.out.lt
    have e0 := He.out.cell 0
    have e1 := He.out.cell 1
    have el := He.out.lt
    have k0 := Hk.out.cell 0
    have k1 := Hk.out.cell 1
    have kl := Hk.out.lt
    simp only [List.getElem?_cons_zero, List.getElem?_cons_succ] at t0 t1 t2 t3 e0 e1 k0 k1
    clear s_t
    clear s_e
    have a_k : B0 ≤ gk := by omega
    clear s_0
    have hpq := hpf.out X k c l w5 (H.out.keep Hbl.out) HL.out
    rw [plan_fine Hok.out hl60 Hr.out] at hpq
    have hfi := Hfi.out
    go_wp2_with fail
    with_reducible refine (hpq).mono ?_
    rintro e w6 ⟨rfl, hb⟩
    clear t0 t1 t2 t3 e0 e1 k0 k1 tl el kl
    replace Ht := hide (Ht.out.keep hb)
    replace He := hide (He.out.keep hb)
    replace Hk := hide (Hk.out.keep hb)
    replace HL := hide (HL.out.keep hb)
    replace Hbl := hide (Hbl.out.trans (hb.mono Hbl.out.size))
    clear hb
    clear hpq
    unfold fault
    simp only
    have t0 := Ht.out.cell 0
    have t1 := Ht.out.cell 1
    have t2 := Ht.out.cell 2
    have t3 := Ht.out.cell 3
    have tl := Ht.out.lt
    have e0 := He.out.cell 0
    have e1 := He.out.cell 1
    have el := He.out.lt
    have k0 := Hk.out.cell 0
    have k1 := Hk.out.cell 1
    have kl := Hk.out.lt
    simp only [List.getElem?_cons_zero, List.getElem?_cons_succ] at t0 t1 t2 t3 e0 e1 k0 k1
    have hso2 := hso.out X k c l w6 (H.out.keep Hbl.out) HL.out Hr.out
    rw [Hw.out] at hso2
    go_wp2_with fail
    with_reducible refine (hso2).mono ?_
    rintro e w7 ⟨rfl, hb⟩
    clear t0 t1 t2 t3 e0 e1 k0 k1 tl el kl
    replace Ht := hide (Ht.out.keep hb)
    replace He := hide (He.out.keep hb)
    replace Hk := hide (Hk.out.keep hb)
    replace HL := hide (HL.out.keep hb)
    replace Hbl := hide (Hbl.out.trans (hb.mono Hbl.out.size))
    clear hb
    clear hso2
    have t0 := Ht.out.cell 0
    have t1 := Ht.out.cell 1
    have t2 := Ht.out.cell 2
    have t3 := Ht.out.cell 3
    have tl := Ht.out.lt
    have e0 := He.out.cell 0
    have e1 := He.out.cell 1
    have el := He.out.lt
    have k0 := Hk.out.cell 0
    have k1 := Hk.out.cell 1
    have kl := Hk.out.lt
    simp only [List.getElem?_cons_zero, List.getElem?_cons_succ] at t0 t1 t2 t3 e0 e1 k0 k1
    go_wp2_with fail
    all_goals go_ret
    all_goals exact ⟨ret_bool (by simp), Hbl.out⟩
  | false =>
    obtain rfl : k = 0 := Hk0.out rfl
    clear Hrd Hk0
    go_upto_region 4 with (fail)
    have s_t : gT < w2.heap.size := tl
    have s_0 : B0 ≤ w2.heap.size := Nat.le_trans (Nat.le_of_eq HB0.out) Hbl.out.size
    have hye := Blk.new (w2) 28 [.int .i64 0, .int .i64 0]
    have hbW : Below (w2).heap.size (w2) ((w2).alloc (.cells #[.int .i64 0, .int .i64 0] 28)) := (Below.refl _ _).alloc (Nat.le_refl _) _
    obtain ⟨w3, hW⟩ : ∃ W, W = (w2).alloc (.cells #[.int .i64 0, .int .i64 0] 28) := ⟨_, rfl⟩
    rw [← hW] at hye hbW ⊢
    replace Ht := hide (Ht.out.keep hbW)
    replace Hbl := hide (Hbl.out.trans (hbW.mono Hbl.out.size))
    have He := hide hye
    clear hW hbW hye
    generalize w2.heap.size = ge at He s_t s_0 ⊢
    have t0 := Ht.out.cell 0
    have t1 := Ht.out.cell 1
    have t2 := Ht.out.cell 2
    have t3 := Ht.out.cell 3
    have tl := Ht.out.lt
    have e0 := He.out.cell 0
    have e1 := He.out.cell 1
    have el := He.out.lt
    simp only [List.getElem?_cons_zero, List.getElem?_cons_succ] at t0 t1 t2 t3 e0 e1
    clear s_t
    have a_e : B0 ≤ ge := by omega
    clear s_0
    go_wp2_with fail
    with_reducible refine (hef.out w3 (H.out.keep Hbl.out) hs).mono ?_
    rintro e w4 ⟨rfl, hb⟩
    clear t0 t1 t2 t3 e0 e1 tl el
    replace Ht := hide (Ht.out.keep hb)
    replace He := hide (He.out.keep hb)
    replace Hbl := hide (Hbl.out.trans (hb.mono Hbl.out.size))
    clear hb
    unfold fault
    simp only
    have t0 := Ht.out.cell 0
    have t1 := Ht.out.cell 1
    have t2 := Ht.out.cell 2
    have t3 := Ht.out.cell 3
    have tl := Ht.out.lt
    have e0 := He.out.cell 0
    have e1 := He.out.cell 1
    have el := He.out.lt
    simp only [List.getElem?_cons_zero, List.getElem?_cons_succ] at t0 t1 t2 t3 e0 e1
    go_upto_region 5 with (fail)
    have s_t : gT < w4.heap.size := tl
    have s_e : ge < w4.heap.size := el
    have s_0 : B0 ≤ w4.heap.size := Nat.le_trans (Nat.le_of_eq HB0.out) Hbl.out.size
    have hyk := Blk.new (w4) 28 [.int .i64 0, .int .i64 0]
    have hbW : Below (w4).heap.size (w4) ((w4).alloc (.cells #[.int .i64 0, .int .i64 0] 28)) := (Below.refl _ _).alloc (Nat.le_refl _) _
    obtain ⟨w5, hW⟩ : ∃ W, W = (w4).alloc (.cells #[.int .i64 0, .int .i64 0] 28) := ⟨_, rfl⟩
    rw [← hW] at hyk hbW ⊢
    replace Ht := hide (Ht.out.keep hbW)
    replace He := hide (He.out.keep hbW)
    replace Hbl := hide (Hbl.out.trans (hbW.mono Hbl.out.size))
    have Hk := hide hyk
    clear hW hbW hyk
    generalize w4.heap.size = gk at Hk s_t s_e s_0 ⊢
    have t0 := Ht.out.cell 0
    have t1 := Ht.out.cell 1
    have t2 := Ht.out.cell 2
    have t3 := Ht.out.cell 3
    have tl := Ht.out.lt
    have e0 := He.out.cell 0
    have e1 := He.out.cell 1
    have el := He.out.lt
    have k0 := Hk.out.cell 0
    have k1 := Hk.out.cell 1
    have kl := Hk.out.lt
    simp only [List.getElem?_cons_zero, List.getElem?_cons_succ] at t0 t1 t2 t3 e0 e1 k0 k1
    clear s_t
    clear s_e
    have a_k : B0 ≤ gk := by omega
    clear s_0
    go_wp2_with fail
    with_reducible refine (hbp.out w5 (H.out.keep Hbl.out)).mono ?_
    rintro e w6 ⟨hb, Y, m, d, f, fc, fi, rfl, hf⟩
    have HF0 := hide hf
    clear hf
    unfold fault
    clear t0 t1 t2 t3 e0 e1 k0 k1 tl el kl
    replace Ht := hide (Ht.out.keep hb)
    replace He := hide (He.out.keep hb)
    replace Hk := hide (Hk.out.keep hb)
    replace Hbl := hide (Hbl.out.trans (hb.mono Hbl.out.size))
    clear hb
    have t0 := Ht.out.cell 0
    have t1 := Ht.out.cell 1
    have t2 := Ht.out.cell 2
    have t3 := Ht.out.cell 3
    have tl := Ht.out.lt
    have e0 := He.out.cell 0
    have e1 := He.out.cell 1
    have el := He.out.lt
    have k0 := Hk.out.cell 0
    have k1 := Hk.out.cell 1
    have kl := Hk.out.lt
    simp only [List.getElem?_cons_zero, List.getElem?_cons_succ] at t0 t1 t2 t3 e0 e1 k0 k1
    go_upto_region 12 with (fail)
    have s_t : gT < w6.heap.size := tl
    have s_e : ge < w6.heap.size := el
    have s_k : gk < w6.heap.size := kl
    have s_0 : B0 ≤ w6.heap.size := Nat.le_trans (Nat.le_of_eq HB0.out) Hbl.out.size
    have hyf := Blk.new (w6) 28 [.int .i64 fc, .int .i64 fi]
    have hbW : Below (w6).heap.size (w6) ((w6).alloc (.cells #[.int .i64 fc, .int .i64 fi] 28)) := (Below.refl _ _).alloc (Nat.le_refl _) _
    obtain ⟨w7, hW⟩ : ∃ W, W = (w6).alloc (.cells #[.int .i64 fc, .int .i64 fi] 28) := ⟨_, rfl⟩
    rw [← hW] at hyf hbW ⊢
    replace Ht := hide (Ht.out.keep hbW)
    replace He := hide (He.out.keep hbW)
    replace Hk := hide (Hk.out.keep hbW)
    replace Hbl := hide (Hbl.out.trans (hbW.mono Hbl.out.size))
    have Hf := hide hyf
    clear hW hbW hyf
    generalize w6.heap.size = gf at Hf s_t s_e s_k s_0 ⊢
    have t0 := Ht.out.cell 0
    have t1 := Ht.out.cell 1
    have t2 := Ht.out.cell 2
    have t3 := Ht.out.cell 3
    have tl := Ht.out.lt
    have e0 := He.out.cell 0
    have e1 := He.out.cell 1
    have el := He.out.lt
    have k0 := Hk.out.cell 0
    have k1 := Hk.out.cell 1
    have kl := Hk.out.lt
    have f0 := Hf.out.cell 0
    have f1 := Hf.out.cell 1
    have fl := Hf.out.lt
    simp only [List.getElem?_cons_zero, List.getElem?_cons_succ] at t0 t1 t2 t3 e0 e1 k0 k1 f0 f1
    clear s_t
    clear s_e
    clear s_k
    have a_f : B0 ≤ gf := by omega
    clear s_0
    by_cases hfc : fc = 0
    rotate_left
    · have hne : (fc != 0) = true := by simpa using hfc
      go_wp2_with fail
      all_goals go_ret
      all_goals exact ⟨ret_bool (by simp), Hbl.out⟩
    subst hfc
    cases f with
    | false =>
      go_wp2_with fail
      all_goals go_ret
      all_goals exact ⟨ret_bool (by simp), Hbl.out⟩
    | true =>
      obtain ⟨l, rfl, h2, h3, _⟩ := (HF0.out rfl).1 rfl
      have hgt : s < (l.length : Int) := by
        rcases Int.lt_or_le s l.length with h | h
        · exact h
        · have := (Hi.out (by simp)).2 ⟨l, h2, by omega, h3⟩
          cases this
      go_wp2_with fail
      all_goals go_ret
      all_goals exact ⟨ret_bool (by simp), Hbl.out⟩
theorem planLaw_ct (T : Tsk) (a : TA) (s : Int) (w : World) (hs : -9223372036854775808 ≤ s ∧ s ≤ 9223372036854775807) (h : TkR w a T) :
    Calls Tryz.prog 3 #[.agg #[.int .i64 T.facts, .slice a.I a.nI a.cI, .slice a.G a.nG a.cG, .slice a.O a.nO a.cO], .int .i64 s] w (Gives w (.bool true)) := by
  rcases hcr : cnfR T s with ⟨V, cs, ec, ei⟩
  by_cases hec : ec = 0
  · obtain ⟨N, S, hok, hsS, hS, hn, hV, hcs⟩ := cnfR_ok (T := T) (s := s) (by rw [hcr]; exact hec)
    exact planLawB a T s w N S h hs hok hsS hS hcs
  · exact planLawA a T s w V cs ec ei h hs hcr hec
end Go.Proofs.YtemiecammmbjdaaGreat
