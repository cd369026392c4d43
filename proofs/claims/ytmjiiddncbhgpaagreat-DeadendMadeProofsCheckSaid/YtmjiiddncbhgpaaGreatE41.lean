/- What the law asks for, part 41: La46. -/
import Derived.Test.YtmjiiddncbhgpaaGreatE1
import Derived.Test.YtmjiiddncbhgpaaGreatE2
import Derived.Test.YtmjiiddncbhgpaaGreatE3
import Derived.Test.YtmjiiddncbhgpaaGreatE4
import Derived.Test.YtmjiiddncbhgpaaGreatE5
import Derived.Test.YtmjiiddncbhgpaaGreatE6
import Derived.Test.YtmjiiddncbhgpaaGreatE7
import Derived.Test.YtmjiiddncbhgpaaGreatE8
import Derived.Test.YtmjiiddncbhgpaaGreatE9
import Derived.Test.YtmjiiddncbhgpaaGreatE10
import Derived.Test.YtmjiiddncbhgpaaGreatE11
import Derived.Test.YtmjiiddncbhgpaaGreatE12
import Derived.Test.YtmjiiddncbhgpaaGreatE13
import Derived.Test.YtmjiiddncbhgpaaGreatE14
import Derived.Test.YtmjiiddncbhgpaaGreatE15
import Derived.Test.YtmjiiddncbhgpaaGreatE16
import Derived.Test.YtmjiiddncbhgpaaGreatE17
import Derived.Test.YtmjiiddncbhgpaaGreatE18
import Derived.Test.YtmjiiddncbhgpaaGreatE19
import Derived.Test.YtmjiiddncbhgpaaGreatE20
import Derived.Test.YtmjiiddncbhgpaaGreatE21
import Derived.Test.YtmjiiddncbhgpaaGreatE22
import Derived.Test.YtmjiiddncbhgpaaGreatE23
import Derived.Test.YtmjiiddncbhgpaaGreatE24
import Derived.Test.YtmjiiddncbhgpaaGreatE25
import Derived.Test.YtmjiiddncbhgpaaGreatE26
import Derived.Test.YtmjiiddncbhgpaaGreatE27
import Derived.Test.YtmjiiddncbhgpaaGreatE28
import Derived.Test.YtmjiiddncbhgpaaGreatE29
import Derived.Test.YtmjiiddncbhgpaaGreatE30
import Derived.Test.YtmjiiddncbhgpaaGreatE31
import Derived.Test.YtmjiiddncbhgpaaGreatE32
import Derived.Test.YtmjiiddncbhgpaaGreatE33
import Derived.Test.YtmjiiddncbhgpaaGreatE34
import Derived.Test.YtmjiiddncbhgpaaGreatE35
import Derived.Test.YtmjiiddncbhgpaaGreatE36
import Derived.Test.YtmjiiddncbhgpaaGreatE37
import Derived.Test.YtmjiiddncbhgpaaGreatE38
import Derived.Test.YtmjiiddncbhgpaaGreatE39
import Derived.Test.YtmjiiddncbhgpaaGreatE40
import Derived.BigQuiet
import Derived.BigRegion
import Derived.Deep.AppendLies
import Derived.Deep.DeepCutAuto
import Derived.Deep.Draws
import Derived.Deep.Fields
import Derived.Deep.LoopGhost
import Derived.Deep.QuietTactic
import Derived.Deep.RegionHeld
import Derived.Deep.RegionHeld3
import Derived.Deep.RegionLaw
import Derived.Deep.Slices
import Derived.DeepKeys4
import Derived.Ground.Names2Prog
import Derived.Ground.SlgnProg
import Derived.Ground.SlsfProg
import Derived.IntWalk
import Derived.Laws.AppendOwnNone
import Derived.Laws.BitsAllLaws
import Derived.Laws.EntriesVeiled
import Derived.Laws.OwnMore
import Derived.Lib.Hide
import Derived.Lib.SlicesCompact
import Derived.LoopIn
import Derived.LoopNIn
import Derived.Maps.AppendAt
import Derived.Maps.OwnIn
import Derived.Maps.OwnOps
import Derived.Maps.OwnSet
import Derived.OrdersHeld
import Derived.OrdersIn
import Derived.OwnWalkIn
import Derived.ProofKit
import Derived.RangeFuncBound
import Derived.RangeFuncCalls
import Derived.RangeFuncLeaves
import Derived.RangeFuncNested
import Derived.Shelf.Abstract
import Derived.Shelf.RegionOpen
import Derived.Shelf.SlSortCmp.Whole1
import Derived.Shelf.Slices.Cells
import Derived.Shelf.Slices.Clone
import Derived.Shelf.Slices.CompactI
import Derived.Shelf.Slices.Empties
import Derived.Shelf.Slices.In.SortNone
import Derived.Shelf.Slices.Reverse
import Derived.Shelf.Slices.SearchI
import Derived.Shelf.Sort.Plain
import Derived.Sort.CutIn
import Derived.Sort.OwnSortedInts
import Derived.StillTail
import Derived.StillTailTactics
import Derived.TacticsInMore
import Derived.Test.YtmjiiddncbhgpaaGreatProg
import Derived.WalkKit
import Init
namespace Go.Proofs.YtmjiiddncbhgpaaGreat
set_option linter.unusedVariables false
set_option linter.unusedSimpArgs false
open Go.RowKit
theorem sets_made {N : Nat} {T : Tsk} {l : List Nat} {cs : List SS} (hT : OkT T N) (hl : l.length ≤ 2000) (h : MadeD N T l cs) : setsF T cs = (0, 0) := by
  obtain ⟨h1, h2, _⟩ := h
  have hz : taskFault T = (0, 0) := by
    have h0 : (taskFault T).1 = 0 := by
      unfold taskFault
      rw [if_neg (by rw [hT.facts, inB_iff.2 ⟨by omega, by have := hT.low; omega⟩]; simp), if_neg (by rw [hT.facts, hT.init]; simp), if_neg (by rw [hT.facts, hT.goal]; simp), if_neg (by have := hT.few; omega)]
      refine opsFault_ok.2 (fun o ho => ?_)
      have oo := hT.ops o ho
      unfold opCode
      rw [hT.facts, if_pos ⟨oo.pre, oo.add, oo.del, oo.apart⟩, if_pos (inB_iff.2 ⟨oo.low, oo.high⟩)]
    exact taskFault_zero h0
  unfold setsF
  rw [hz, if_neg (by simp), if_neg (by omega)]
  refine ssF_none (ssF_zero.2 (fun c hc => ?_))
  rw [hT.facts]
  exact okSS_iff.2 (h1 c hc)
theorem plan_out {w w' : World} {T : Tsk} {e : Ending} (h : APlanP w T e w') : Below w.heap.size w w' ∧ ∃ (f : Bool) (A : Option Addr) (n c : Nat) (y k c2 i2 : Int), e = .returned (.tuple #[resV f A n c y k, fault c2 i2]) ∧
    (c2 = 0 → (f = false ∧ NoWay (T.ops.map mkOp) (wordF T.init) (goalW (wordF T.goal))) ∨ (f = true ∧ ∃ l, BestOf (T.ops.map mkOp) (wordF T.init) (goalW (wordF T.goal)) l ∧ n = l.length ∧ l.length ≤ 60)) := by
  obtain ⟨hb, ⟨h1, rfl⟩ | ⟨h1, _, rfl⟩ | ⟨h1, L, hL, ⟨y, k, rfl, hno⟩ | ⟨l, hl, ⟨h60, rfl⟩ | ⟨h60, A, c, y, k, rfl⟩⟩⟩⟩ := h
  · exact ⟨hb, _, _, _, _, _, _, _, _, rfl, fun e => absurd e h1⟩
  · exact ⟨hb, _, _, _, _, _, _, _, _, rfl, fun e => absurd e (by decide)⟩
  · exact ⟨hb, _, _, _, _, _, _, _, _, rfl, fun _ => .inl ⟨rfl, hno⟩⟩
  · exact ⟨hb, _, _, _, _, _, _, _, _, rfl, fun e => absurd e (by decide)⟩
  · exact ⟨hb, _, _, _, _, _, _, _, _, rfl, fun _ => .inr ⟨rfl, l, hl, rfl, h60⟩⟩
theorem reach_path {ms : List Mk} {s u : Nat} (h : Reach (stepW ms) s u) : ∃ l n, PathW ms s l u n := by
  induction h with
  | start => exact ⟨[], 0, .nil⟩
  | step _ hs ih =>
    obtain ⟨l, n, hp⟩ := ih
    obtain ⟨⟨op, c, v⟩, hx, rfl⟩ := (stepsW_step ms 0 _ _).1 hs
    exact ⟨l ++ [op], n + c, hp.snoc hx⟩
theorem path_reach {ms : List Mk} {s0 s u : Nat} {l : List Nat} {n : Int} (h : PathW ms s l u n) : Reach (stepW ms) s0 s → Reach (stepW ms) s0 u := by
  induction h with
  | nil => exact id
  | cons hx _ ih => exact fun h0 => ih (.step h0 ((stepsW_step ms 0 _ _).2 ⟨_, hx, rfl⟩))
set_option maxRecDepth 100000 in
set_option maxHeartbeats 12800000 in
theorem deadMadeLaw_ct (T : Tsk) (a : TA) (w : World) (h : TkR w a T) :
    Calls Tryz.prog 7 #[.agg #[.int .i64 T.facts, .slice a.I a.nI a.cI, .slice a.G a.nG a.cG, .slice a.O a.nO a.cO]] w (Gives w (.bool true)) := by
  have hmk := fun W hT => DMake_ct a T W hT
  have hpl := fun W hT => (APlan_ct a T W hT).mono (fun e w' h => plan_out h)
  have hck := fun A n c l W hT hW => Check_ct a T A n c l W hT hW
  obtain ⟨I, nI, cI, G, nG, cG, O, nO, cO⟩ := a
  simp only at hmk hpl hck ⊢
  unfold MakeP at hmk
  unfold ChkP at hck
  rcases hq : taskFault T with ⟨ec, ei⟩
  rw [hq] at hmk
  have H := hide h
  have Hmk := hide hmk
  have Hpl := hide hpl
  have Hck := hide hck
  have Hq := hide hq
  clear h hmk hpl hck hq
  have Hbl := hide (Below.refl w.heap.size w)
  go_enter Tryz.func7, Tryz.ntmps7
  go_upto_region 1 with (fail)
  obtain ⟨B0, hB0⟩ : ∃ B0, B0 = w.heap.size := ⟨_, rfl⟩
  have HB0 := hide hB0
  clear hB0
  have s_0 : B0 ≤ w.heap.size := Nat.le_trans (Nat.le_of_eq HB0.out) Hbl.out.size
  have hyt := Blk.new (w) 25 [.int .i64 T.facts, .slice I nI cI, .slice G nG cG, .slice O nO cO]
  have hbW : Below (w).heap.size (w) ((w).alloc (.cells #[.int .i64 T.facts, .slice I nI cI, .slice G nG cG, .slice O nO cO] 25)) := (Below.refl _ _).alloc (Nat.le_refl _) _
  obtain ⟨w0, hW⟩ : ∃ W, W = (w).alloc (.cells #[.int .i64 T.facts, .slice I nI cI, .slice G nG cG, .slice O nO cO] 25) := ⟨_, rfl⟩
  rw [← hW] at hyt hbW ⊢
  replace Hbl := hide (Hbl.out.trans (hbW.mono Hbl.out.size))
  have Ht := hide hyt
  clear hW hbW hyt
  generalize w.heap.size = gT at Ht s_0 ⊢
  have t0 := Ht.out.cell 0
  have t1 := Ht.out.cell 1
  have t2 := Ht.out.cell 2
  have t3 := Ht.out.cell 3
  have tl := Ht.out.lt
  simp only [List.getElem?_cons_zero, List.getElem?_cons_succ] at t0 t1 t2 t3
  have a_t : B0 ≤ gT := by omega
  clear s_0
  go_wp2_with fail
  with_reducible refine (deadendExample_ct w0).mono ?_
  rintro e w1 ⟨rfl, hb⟩
  clear t0 t1 t2 t3 tl
  replace Ht := hide (Ht.out.keep hb)
  replace Hbl := hide (Hbl.out.trans (hb.mono Hbl.out.size))
  clear hb
  have t0 := Ht.out.cell 0
  have t1 := Ht.out.cell 1
  have t2 := Ht.out.cell 2
  have t3 := Ht.out.cell 3
  have tl := Ht.out.lt
  simp only [List.getElem?_cons_zero, List.getElem?_cons_succ] at t0 t1 t2 t3
  go_wp2_with fail
  with_reducible refine (Hmk.out w1 (H.out.keep Hbl.out)).mono ?_
  rintro e w2 ⟨hb, hor⟩
  clear t0 t1 t2 t3 tl
  replace Ht := hide (Ht.out.keep hb)
  replace Hbl := hide (Hbl.out.trans (hb.mono Hbl.out.size))
  clear hb
  have t0 := Ht.out.cell 0
  have t1 := Ht.out.cell 1
  have t2 := Ht.out.cell 2
  have t3 := Ht.out.cell 3
  have tl := Ht.out.lt
  simp only [List.getElem?_cons_zero, List.getElem?_cons_succ] at t0 t1 t2 t3
  rcases hor with ⟨h1, rfl⟩ | ⟨h1, hmany, rfl⟩ | ⟨h1, l, hlist, ⟨⟨gx, hgx, hgg⟩, rfl⟩ | ⟨hng, N, P, np, pc0, cs, hok, hmd, hrd, rfl⟩⟩
  · have hne : (ec == 0) = false := by rw [beq_eq_false_iff_ne]; exact h1
    have hne2 : (ec != 0) = true := by simpa using h1
    have hne3 : ¬ ec = 0 := h1
    unfold fault
    go_upto_region 4 with (fail)
    have n_t_m_ : ¬ gT = w2.heap.size := by omega
    have n_m__t : ¬ w2.heap.size = gT := by omega
    have s_t : gT < w2.heap.size := tl
    have s_0 : B0 ≤ w2.heap.size := Nat.le_trans (Nat.le_of_eq HB0.out) Hbl.out.size
    have hym_ := Blk.new (w2) 29 [.int .i64 ec, .int .i64 ei]
    have hbW : Below (w2).heap.size (w2) ((w2).alloc (.cells #[.int .i64 ec, .int .i64 ei] 29)) := (Below.refl _ _).alloc (Nat.le_refl _) _
    obtain ⟨w3, hW⟩ : ∃ W, W = (w2).alloc (.cells #[.int .i64 ec, .int .i64 ei] 29) := ⟨_, rfl⟩
    rw [← hW] at hym_ hbW ⊢
    replace Ht := hide (Ht.out.keep hbW)
    replace Hbl := hide (Hbl.out.trans (hbW.mono Hbl.out.size))
    have Hm_ := hide hym_
    clear hW hbW hym_
    generalize w2.heap.size = gm at Hm_ n_t_m_ n_m__t s_t s_0 ⊢
    have t0 := Ht.out.cell 0
    have t1 := Ht.out.cell 1
    have t2 := Ht.out.cell 2
    have t3 := Ht.out.cell 3
    have tl := Ht.out.lt
    have m_0 := Hm_.out.cell 0
    have m_1 := Hm_.out.cell 1
    have m_l := Hm_.out.lt
    simp only [List.getElem?_cons_zero, List.getElem?_cons_succ] at t0 t1 t2 t3 m_0 m_1
    clear s_t
    have a_m_ : B0 ≤ gm := by omega
    clear s_0
    go_wp2_with fail
    with_reducible refine (Hpl.out w3 (H.out.keep Hbl.out)).mono ?_
    rintro e w4 ⟨hb, f, PA, pn, pc, py, pk, c2, i2, rfl, hout⟩
    have Hout := hide hout
    clear hout
    clear t0 t1 t2 t3 m_0 m_1 tl m_l
    replace Ht := hide (Ht.out.keep hb)
    replace Hm_ := hide (Hm_.out.keep hb)
    replace Hbl := hide (Hbl.out.trans (hb.mono Hbl.out.size))
    clear hb
    have t0 := Ht.out.cell 0
    have t1 := Ht.out.cell 1
    have t2 := Ht.out.cell 2
    have t3 := Ht.out.cell 3
    have tl := Ht.out.lt
    have m_0 := Hm_.out.cell 0
    have m_1 := Hm_.out.cell 1
    have m_l := Hm_.out.lt
    simp only [List.getElem?_cons_zero, List.getElem?_cons_succ] at t0 t1 t2 t3 m_0 m_1
    unfold fault resV
    go_upto_region 5 with (fail)
    have n_t_r_ : ¬ gT = w4.heap.size := by omega
    have n_r__t : ¬ w4.heap.size = gT := by omega
    have n_t_p_ : ¬ gT = w4.heap.size + 1 := by omega
    have n_p__t : ¬ w4.heap.size + 1 = gT := by omega
    have n_m__r_ : ¬ gm = w4.heap.size := by omega
    have n_r__m_ : ¬ w4.heap.size = gm := by omega
    have n_m__p_ : ¬ gm = w4.heap.size + 1 := by omega
    have n_p__m_ : ¬ w4.heap.size + 1 = gm := by omega
    have s_t : gT < w4.heap.size := tl
    have s_m_ : gm < w4.heap.size := m_l
    have s_0 : B0 ≤ w4.heap.size := Nat.le_trans (Nat.le_of_eq HB0.out) Hbl.out.size
    have hyr_ := Blk.new (w4) 66 [.bool f, .slice PA pn pc, .int .i64 py, .int .i64 pk]
    have hyp_ := Blk.new ((w4).alloc (.cells #[.bool f, .slice PA pn pc, .int .i64 py, .int .i64 pk] 66)) 29 [.int .i64 c2, .int .i64 i2]
    replace hyr_ := hyr_.alloc (.cells #[.int .i64 c2, .int .i64 i2] 29)
    have hbW := below_two w4 (.cells #[.bool f, .slice PA pn pc, .int .i64 py, .int .i64 pk] 66) (.cells #[.int .i64 c2, .int .i64 i2] 29)
    simp only [World.size_alloc] at hyp_
    obtain ⟨w5, hW⟩ : ∃ W, W = ((w4).alloc (.cells #[.bool f, .slice PA pn pc, .int .i64 py, .int .i64 pk] 66)).alloc (.cells #[.int .i64 c2, .int .i64 i2] 29) := ⟨_, rfl⟩
    rw [← hW] at hyr_ hyp_ hbW ⊢
    replace Ht := hide (Ht.out.keep hbW)
    replace Hm_ := hide (Hm_.out.keep hbW)
    replace Hbl := hide (Hbl.out.trans (hbW.mono Hbl.out.size))
    have Hr_ := hide hyr_
    have Hp_ := hide hyp_
    clear hW hbW hyr_ hyp_
    generalize w4.heap.size = gr at Hr_ Hp_ n_t_r_ n_r__t n_t_p_ n_p__t n_m__r_ n_r__m_ n_m__p_ n_p__m_ s_t s_m_ s_0 ⊢
    have t0 := Ht.out.cell 0
    have t1 := Ht.out.cell 1
    have t2 := Ht.out.cell 2
    have t3 := Ht.out.cell 3
    have tl := Ht.out.lt
    have m_0 := Hm_.out.cell 0
    have m_1 := Hm_.out.cell 1
    have m_l := Hm_.out.lt
    have r_0 := Hr_.out.cell 0
    have r_1 := Hr_.out.cell 1
    have r_2 := Hr_.out.cell 2
    have r_3 := Hr_.out.cell 3
    have r_l := Hr_.out.lt
    have p_0 := Hp_.out.cell 0
    have p_1 := Hp_.out.cell 1
    have p_l := Hp_.out.lt
    simp only [List.getElem?_cons_zero, List.getElem?_cons_succ] at t0 t1 t2 t3 m_0 m_1 r_0 r_1 r_2 r_3 p_0 p_1
    clear s_t
    clear s_m_
    have a_r_ : B0 ≤ gr := by omega
    have a_p_ : B0 ≤ gr + 1 := by omega
    clear s_0
    have n_r__p_ : ¬ gr = gr + 1 := by omega
    have n_p__r_ : ¬ gr + 1 = gr := by omega
    go_wp2_with fail
    go_ret
    exact ⟨ret_bool (by simp), by
      have hbx := HB0.out
      repeat' (first | (with_reducible exact Hbl.out) | (with_reducible refine Below.drew ?_) | (with_reducible refine below_setD ?_ ?_ _ _) | (with_reducible refine below_drewN ?_ _) | omega)⟩
  · skip
    unfold fault
    go_upto_region 4 with (fail)
    have n_t_m_ : ¬ gT = w2.heap.size := by omega
    have n_m__t : ¬ w2.heap.size = gT := by omega
    have s_t : gT < w2.heap.size := tl
    have s_0 : B0 ≤ w2.heap.size := Nat.le_trans (Nat.le_of_eq HB0.out) Hbl.out.size
    have hym_ := Blk.new (w2) 29 [.int .i64 10, .int .i64 (-7)]
    have hbW : Below (w2).heap.size (w2) ((w2).alloc (.cells #[.int .i64 10, .int .i64 (-7)] 29)) := (Below.refl _ _).alloc (Nat.le_refl _) _
    obtain ⟨w3, hW⟩ : ∃ W, W = (w2).alloc (.cells #[.int .i64 10, .int .i64 (-7)] 29) := ⟨_, rfl⟩
    rw [← hW] at hym_ hbW ⊢
    replace Ht := hide (Ht.out.keep hbW)
    replace Hbl := hide (Hbl.out.trans (hbW.mono Hbl.out.size))
    have Hm_ := hide hym_
    clear hW hbW hym_
    generalize w2.heap.size = gm at Hm_ n_t_m_ n_m__t s_t s_0 ⊢
    have t0 := Ht.out.cell 0
    have t1 := Ht.out.cell 1
    have t2 := Ht.out.cell 2
    have t3 := Ht.out.cell 3
    have tl := Ht.out.lt
    have m_0 := Hm_.out.cell 0
    have m_1 := Hm_.out.cell 1
    have m_l := Hm_.out.lt
    simp only [List.getElem?_cons_zero, List.getElem?_cons_succ] at t0 t1 t2 t3 m_0 m_1
    clear s_t
    have a_m_ : B0 ≤ gm := by omega
    clear s_0
    go_wp2_with fail
    with_reducible refine (Hpl.out w3 (H.out.keep Hbl.out)).mono ?_
    rintro e w4 ⟨hb, f, PA, pn, pc, py, pk, c2, i2, rfl, hout⟩
    have Hout := hide hout
    clear hout
    clear t0 t1 t2 t3 m_0 m_1 tl m_l
    replace Ht := hide (Ht.out.keep hb)
    replace Hm_ := hide (Hm_.out.keep hb)
    replace Hbl := hide (Hbl.out.trans (hb.mono Hbl.out.size))
    clear hb
    have t0 := Ht.out.cell 0
    have t1 := Ht.out.cell 1
    have t2 := Ht.out.cell 2
    have t3 := Ht.out.cell 3
    have tl := Ht.out.lt
    have m_0 := Hm_.out.cell 0
    have m_1 := Hm_.out.cell 1
    have m_l := Hm_.out.lt
    simp only [List.getElem?_cons_zero, List.getElem?_cons_succ] at t0 t1 t2 t3 m_0 m_1
    unfold fault resV
    go_upto_region 5 with (fail)
    have n_t_r_ : ¬ gT = w4.heap.size := by omega
    have n_r__t : ¬ w4.heap.size = gT := by omega
    have n_t_p_ : ¬ gT = w4.heap.size + 1 := by omega
    have n_p__t : ¬ w4.heap.size + 1 = gT := by omega
    have n_m__r_ : ¬ gm = w4.heap.size := by omega
    have n_r__m_ : ¬ w4.heap.size = gm := by omega
    have n_m__p_ : ¬ gm = w4.heap.size + 1 := by omega
    have n_p__m_ : ¬ w4.heap.size + 1 = gm := by omega
    have s_t : gT < w4.heap.size := tl
    have s_m_ : gm < w4.heap.size := m_l
    have s_0 : B0 ≤ w4.heap.size := Nat.le_trans (Nat.le_of_eq HB0.out) Hbl.out.size
    have hyr_ := Blk.new (w4) 66 [.bool f, .slice PA pn pc, .int .i64 py, .int .i64 pk]
    have hyp_ := Blk.new ((w4).alloc (.cells #[.bool f, .slice PA pn pc, .int .i64 py, .int .i64 pk] 66)) 29 [.int .i64 c2, .int .i64 i2]
    replace hyr_ := hyr_.alloc (.cells #[.int .i64 c2, .int .i64 i2] 29)
    have hbW := below_two w4 (.cells #[.bool f, .slice PA pn pc, .int .i64 py, .int .i64 pk] 66) (.cells #[.int .i64 c2, .int .i64 i2] 29)
    simp only [World.size_alloc] at hyp_
    obtain ⟨w5, hW⟩ : ∃ W, W = ((w4).alloc (.cells #[.bool f, .slice PA pn pc, .int .i64 py, .int .i64 pk] 66)).alloc (.cells #[.int .i64 c2, .int .i64 i2] 29) := ⟨_, rfl⟩
    rw [← hW] at hyr_ hyp_ hbW ⊢
    replace Ht := hide (Ht.out.keep hbW)
    replace Hm_ := hide (Hm_.out.keep hbW)
    replace Hbl := hide (Hbl.out.trans (hbW.mono Hbl.out.size))
    have Hr_ := hide hyr_
    have Hp_ := hide hyp_
    clear hW hbW hyr_ hyp_
    generalize w4.heap.size = gr at Hr_ Hp_ n_t_r_ n_r__t n_t_p_ n_p__t n_m__r_ n_r__m_ n_m__p_ n_p__m_ s_t s_m_ s_0 ⊢
    have t0 := Ht.out.cell 0
    have t1 := Ht.out.cell 1
    have t2 := Ht.out.cell 2
    have t3 := Ht.out.cell 3
    have tl := Ht.out.lt
    have m_0 := Hm_.out.cell 0
    have m_1 := Hm_.out.cell 1
    have m_l := Hm_.out.lt
    have r_0 := Hr_.out.cell 0
    have r_1 := Hr_.out.cell 1
    have r_2 := Hr_.out.cell 2
    have r_3 := Hr_.out.cell 3
    have r_l := Hr_.out.lt
    have p_0 := Hp_.out.cell 0
    have p_1 := Hp_.out.cell 1
    have p_l := Hp_.out.lt
    simp only [List.getElem?_cons_zero, List.getElem?_cons_succ] at t0 t1 t2 t3 m_0 m_1 r_0 r_1 r_2 r_3 p_0 p_1
    clear s_t
    clear s_m_
    have a_r_ : B0 ≤ gr := by omega
    have a_p_ : B0 ≤ gr + 1 := by omega
    clear s_0
    have n_r__p_ : ¬ gr = gr + 1 := by omega
    have n_p__r_ : ¬ gr + 1 = gr := by omega
    go_wp2_with fail
    go_ret
    exact ⟨ret_bool (by simp), by
      have hbx := HB0.out
      repeat' (first | (with_reducible exact Hbl.out) | (with_reducible refine Below.drew ?_) | (with_reducible refine below_setD ?_ ?_ _ _) | (with_reducible refine below_drewN ?_ _) | omega)⟩
  · skip
    obtain ⟨lp, np, hpath⟩ := reach_path ((hlist.all.mem gx).1 hgx)
    have Hno := hide (show NoWay (T.ops.map mkOp) (wordF T.init) (goalW (wordF T.goal)) → False from fun h => h _ _ _ hpath hgg)
    clear hpath hgx hgg hlist
    unfold fault
    go_upto_region 4 with (fail)
    have n_t_m_ : ¬ gT = w2.heap.size := by omega
    have n_m__t : ¬ w2.heap.size = gT := by omega
    have s_t : gT < w2.heap.size := tl
    have s_0 : B0 ≤ w2.heap.size := Nat.le_trans (Nat.le_of_eq HB0.out) Hbl.out.size
    have hym_ := Blk.new (w2) 29 [.int .i64 0, .int .i64 0]
    have hbW : Below (w2).heap.size (w2) ((w2).alloc (.cells #[.int .i64 0, .int .i64 0] 29)) := (Below.refl _ _).alloc (Nat.le_refl _) _
    obtain ⟨w3, hW⟩ : ∃ W, W = (w2).alloc (.cells #[.int .i64 0, .int .i64 0] 29) := ⟨_, rfl⟩
    rw [← hW] at hym_ hbW ⊢
    replace Ht := hide (Ht.out.keep hbW)
    replace Hbl := hide (Hbl.out.trans (hbW.mono Hbl.out.size))
    have Hm_ := hide hym_
    clear hW hbW hym_
    generalize w2.heap.size = gm at Hm_ n_t_m_ n_m__t s_t s_0 ⊢
    have t0 := Ht.out.cell 0
    have t1 := Ht.out.cell 1
    have t2 := Ht.out.cell 2
    have t3 := Ht.out.cell 3
    have tl := Ht.out.lt
    have m_0 := Hm_.out.cell 0
    have m_1 := Hm_.out.cell 1
    have m_l := Hm_.out.lt
    simp only [List.getElem?_cons_zero, List.getElem?_cons_succ] at t0 t1 t2 t3 m_0 m_1
    clear s_t
    have a_m_ : B0 ≤ gm := by omega
    clear s_0
    go_wp2_with fail
    with_reducible refine (Hpl.out w3 (H.out.keep Hbl.out)).mono ?_
    rintro e w4 ⟨hb, f, PA, pn, pc, py, pk, c2, i2, rfl, hout⟩
    have Hout := hide hout
    clear hout
    clear t0 t1 t2 t3 m_0 m_1 tl m_l
    replace Ht := hide (Ht.out.keep hb)
    replace Hm_ := hide (Hm_.out.keep hb)
    replace Hbl := hide (Hbl.out.trans (hb.mono Hbl.out.size))
    clear hb
    have t0 := Ht.out.cell 0
    have t1 := Ht.out.cell 1
    have t2 := Ht.out.cell 2
    have t3 := Ht.out.cell 3
    have tl := Ht.out.lt
    have m_0 := Hm_.out.cell 0
    have m_1 := Hm_.out.cell 1
    have m_l := Hm_.out.lt
    simp only [List.getElem?_cons_zero, List.getElem?_cons_succ] at t0 t1 t2 t3 m_0 m_1
    unfold fault resV
    go_upto_region 5 with (fail)
    have n_t_r_ : ¬ gT = w4.heap.size := by omega
    have n_r__t : ¬ w4.heap.size = gT := by omega
    have n_t_p_ : ¬ gT = w4.heap.size + 1 := by omega
    have n_p__t : ¬ w4.heap.size + 1 = gT := by omega
    have n_m__r_ : ¬ gm = w4.heap.size := by omega
    have n_r__m_ : ¬ w4.heap.size = gm := by omega
    have n_m__p_ : ¬ gm = w4.heap.size + 1 := by omega
    have n_p__m_ : ¬ w4.heap.size + 1 = gm := by omega
    have s_t : gT < w4.heap.size := tl
    have s_m_ : gm < w4.heap.size := m_l
    have s_0 : B0 ≤ w4.heap.size := Nat.le_trans (Nat.le_of_eq HB0.out) Hbl.out.size
    have hyr_ := Blk.new (w4) 66 [.bool f, .slice PA pn pc, .int .i64 py, .int .i64 pk]
    have hyp_ := Blk.new ((w4).alloc (.cells #[.bool f, .slice PA pn pc, .int .i64 py, .int .i64 pk] 66)) 29 [.int .i64 c2, .int .i64 i2]
    replace hyr_ := hyr_.alloc (.cells #[.int .i64 c2, .int .i64 i2] 29)
    have hbW := below_two w4 (.cells #[.bool f, .slice PA pn pc, .int .i64 py, .int .i64 pk] 66) (.cells #[.int .i64 c2, .int .i64 i2] 29)
    simp only [World.size_alloc] at hyp_
    obtain ⟨w5, hW⟩ : ∃ W, W = ((w4).alloc (.cells #[.bool f, .slice PA pn pc, .int .i64 py, .int .i64 pk] 66)).alloc (.cells #[.int .i64 c2, .int .i64 i2] 29) := ⟨_, rfl⟩
    rw [← hW] at hyr_ hyp_ hbW ⊢
    replace Ht := hide (Ht.out.keep hbW)
    replace Hm_ := hide (Hm_.out.keep hbW)
    replace Hbl := hide (Hbl.out.trans (hbW.mono Hbl.out.size))
    have Hr_ := hide hyr_
    have Hp_ := hide hyp_
    clear hW hbW hyr_ hyp_
    generalize w4.heap.size = gr at Hr_ Hp_ n_t_r_ n_r__t n_t_p_ n_p__t n_m__r_ n_r__m_ n_m__p_ n_p__m_ s_t s_m_ s_0 ⊢
    have t0 := Ht.out.cell 0
    have t1 := Ht.out.cell 1
    have t2 := Ht.out.cell 2
    have t3 := Ht.out.cell 3
    have tl := Ht.out.lt
    have m_0 := Hm_.out.cell 0
    have m_1 := Hm_.out.cell 1
    have m_l := Hm_.out.lt
    have r_0 := Hr_.out.cell 0
    have r_1 := Hr_.out.cell 1
    have r_2 := Hr_.out.cell 2
    have r_3 := Hr_.out.cell 3
    have r_l := Hr_.out.lt
    have p_0 := Hp_.out.cell 0
    have p_1 := Hp_.out.cell 1
    have p_l := Hp_.out.lt
    simp only [List.getElem?_cons_zero, List.getElem?_cons_succ] at t0 t1 t2 t3 m_0 m_1 r_0 r_1 r_2 r_3 p_0 p_1
    clear s_t
    clear s_m_
    have a_r_ : B0 ≤ gr := by omega
    have a_p_ : B0 ≤ gr + 1 := by omega
    clear s_0
    have n_r__p_ : ¬ gr = gr + 1 := by omega
    have n_p__r_ : ¬ gr + 1 = gr := by omega
    by_cases hc2 : c2 = 0
    rotate_left
    · have hne : (c2 == 0) = false := by rw [beq_eq_false_iff_ne]; exact hc2
      have hne2 : (c2 != 0) = true := by simpa using hc2
      go_wp2_with fail
      go_ret
      exact ⟨ret_bool (by simp), by
        have hbx := HB0.out
        repeat' (first | (with_reducible exact Hbl.out) | (with_reducible refine Below.drew ?_) | (with_reducible refine below_setD ?_ ?_ _ _) | (with_reducible refine below_drewN ?_ _) | omega)⟩
    subst hc2
    rcases Hout.out rfl with ⟨_, hno⟩ | ⟨rfl, _⟩
    · exact (Hno.out hno).elim
    go_wp2_with fail
    go_ret
    exact ⟨ret_bool (by simp), by
      have hbx := HB0.out
      repeat' (first | (with_reducible exact Hbl.out) | (with_reducible refine Below.drew ?_) | (with_reducible refine below_setD ?_ ?_ _ _) | (with_reducible refine below_drewN ?_ _) | omega)⟩
  · skip
    have hsm := sets_made hok hlist.few hmd
    have hprf := made_proof hok hlist.all hng hmd
    have Hno := hide (show ∀ lb, BestOf (T.ops.map mkOp) (wordF T.init) (goalW (wordF T.goal)) lb → False from fun lb hb => by
      obtain ⟨u, n, hp, hg, _⟩ := hb
      have := hng u ((hlist.all.mem u).2 (path_reach hp .start))
      rw [hg] at this
      cases this)
    have Hrd := hide hrd
    have Hsm := hide hsm
    have Hprf := hide hprf
    clear hsm hprf hrd hmd hng hok hlist
    unfold fault
    go_upto_region 4 with (fail)
    have n_t_m_ : ¬ gT = w2.heap.size := by omega
    have n_m__t : ¬ w2.heap.size = gT := by omega
    have s_t : gT < w2.heap.size := tl
    have s_0 : B0 ≤ w2.heap.size := Nat.le_trans (Nat.le_of_eq HB0.out) Hbl.out.size
    have hym_ := Blk.new (w2) 29 [.int .i64 0, .int .i64 0]
    have hbW : Below (w2).heap.size (w2) ((w2).alloc (.cells #[.int .i64 0, .int .i64 0] 29)) := (Below.refl _ _).alloc (Nat.le_refl _) _
    obtain ⟨w3, hW⟩ : ∃ W, W = (w2).alloc (.cells #[.int .i64 0, .int .i64 0] 29) := ⟨_, rfl⟩
    rw [← hW] at hym_ hbW ⊢
    replace Ht := hide (Ht.out.keep hbW)
    replace Hrd := hide (Hrd.out.keep hbW)
    replace Hbl := hide (Hbl.out.trans (hbW.mono Hbl.out.size))
    have Hm_ := hide hym_
    clear hW hbW hym_
    generalize w2.heap.size = gm at Hm_ n_t_m_ n_m__t s_t s_0 ⊢
    have t0 := Ht.out.cell 0
    have t1 := Ht.out.cell 1
    have t2 := Ht.out.cell 2
    have t3 := Ht.out.cell 3
    have tl := Ht.out.lt
    have m_0 := Hm_.out.cell 0
    have m_1 := Hm_.out.cell 1
    have m_l := Hm_.out.lt
    simp only [List.getElem?_cons_zero, List.getElem?_cons_succ] at t0 t1 t2 t3 m_0 m_1
    clear s_t
    have a_m_ : B0 ≤ gm := by omega
    clear s_0
    go_wp2_with fail
    with_reducible refine (Hpl.out w3 (H.out.keep Hbl.out)).mono ?_
    rintro e w4 ⟨hb, f, PA, pn, pc, py, pk, c2, i2, rfl, hout⟩
    have Hout := hide hout
    clear hout
    clear t0 t1 t2 t3 m_0 m_1 tl m_l
    replace Ht := hide (Ht.out.keep hb)
    replace Hm_ := hide (Hm_.out.keep hb)
    replace Hrd := hide (Hrd.out.keep hb)
    replace Hbl := hide (Hbl.out.trans (hb.mono Hbl.out.size))
    clear hb
    have t0 := Ht.out.cell 0
    have t1 := Ht.out.cell 1
    have t2 := Ht.out.cell 2
    have t3 := Ht.out.cell 3
    have tl := Ht.out.lt
    have m_0 := Hm_.out.cell 0
    have m_1 := Hm_.out.cell 1
    have m_l := Hm_.out.lt
    simp only [List.getElem?_cons_zero, List.getElem?_cons_succ] at t0 t1 t2 t3 m_0 m_1
    unfold fault resV
    go_upto_region 5 with (fail)
    have n_t_r_ : ¬ gT = w4.heap.size := by omega
    have n_r__t : ¬ w4.heap.size = gT := by omega
    have n_t_p_ : ¬ gT = w4.heap.size + 1 := by omega
    have n_p__t : ¬ w4.heap.size + 1 = gT := by omega
    have n_m__r_ : ¬ gm = w4.heap.size := by omega
    have n_r__m_ : ¬ w4.heap.size = gm := by omega
    have n_m__p_ : ¬ gm = w4.heap.size + 1 := by omega
    have n_p__m_ : ¬ w4.heap.size + 1 = gm := by omega
    have s_t : gT < w4.heap.size := tl
    have s_m_ : gm < w4.heap.size := m_l
    have s_0 : B0 ≤ w4.heap.size := Nat.le_trans (Nat.le_of_eq HB0.out) Hbl.out.size
    have hyr_ := Blk.new (w4) 66 [.bool f, .slice PA pn pc, .int .i64 py, .int .i64 pk]
    have hyp_ := Blk.new ((w4).alloc (.cells #[.bool f, .slice PA pn pc, .int .i64 py, .int .i64 pk] 66)) 29 [.int .i64 c2, .int .i64 i2]
    replace hyr_ := hyr_.alloc (.cells #[.int .i64 c2, .int .i64 i2] 29)
    have hbW := below_two w4 (.cells #[.bool f, .slice PA pn pc, .int .i64 py, .int .i64 pk] 66) (.cells #[.int .i64 c2, .int .i64 i2] 29)
    simp only [World.size_alloc] at hyp_
    obtain ⟨w5, hW⟩ : ∃ W, W = ((w4).alloc (.cells #[.bool f, .slice PA pn pc, .int .i64 py, .int .i64 pk] 66)).alloc (.cells #[.int .i64 c2, .int .i64 i2] 29) := ⟨_, rfl⟩
    rw [← hW] at hyr_ hyp_ hbW ⊢
    replace Ht := hide (Ht.out.keep hbW)
    replace Hm_ := hide (Hm_.out.keep hbW)
    replace Hrd := hide (Hrd.out.keep hbW)
    replace Hbl := hide (Hbl.out.trans (hbW.mono Hbl.out.size))
    have Hr_ := hide hyr_
    have Hp_ := hide hyp_
    clear hW hbW hyr_ hyp_
    generalize w4.heap.size = gr at Hr_ Hp_ n_t_r_ n_r__t n_t_p_ n_p__t n_m__r_ n_r__m_ n_m__p_ n_p__m_ s_t s_m_ s_0 ⊢
    have t0 := Ht.out.cell 0
    have t1 := Ht.out.cell 1
    have t2 := Ht.out.cell 2
    have t3 := Ht.out.cell 3
    have tl := Ht.out.lt
    have m_0 := Hm_.out.cell 0
    have m_1 := Hm_.out.cell 1
    have m_l := Hm_.out.lt
    have r_0 := Hr_.out.cell 0
    have r_1 := Hr_.out.cell 1
    have r_2 := Hr_.out.cell 2
    have r_3 := Hr_.out.cell 3
    have r_l := Hr_.out.lt
    have p_0 := Hp_.out.cell 0
    have p_1 := Hp_.out.cell 1
    have p_l := Hp_.out.lt
    simp only [List.getElem?_cons_zero, List.getElem?_cons_succ] at t0 t1 t2 t3 m_0 m_1 r_0 r_1 r_2 r_3 p_0 p_1
    clear s_t
    clear s_m_
    have a_r_ : B0 ≤ gr := by omega
    have a_p_ : B0 ≤ gr + 1 := by omega
    clear s_0
    have n_r__p_ : ¬ gr = gr + 1 := by omega
    have n_p__r_ : ¬ gr + 1 = gr := by omega
    by_cases hc2 : c2 = 0
    rotate_left
    · have hne : (c2 == 0) = false := by rw [beq_eq_false_iff_ne]; exact hc2
      have hne2 : (c2 != 0) = true := by simpa using hc2
      go_wp2_with fail
      go_ret
      exact ⟨ret_bool (by simp), by
        have hbx := HB0.out
        repeat' (first | (with_reducible exact Hbl.out) | (with_reducible refine Below.drew ?_) | (with_reducible refine below_setD ?_ ?_ _ _) | (with_reducible refine below_drewN ?_ _) | omega)⟩
    subst hc2
    rcases Hout.out rfl with ⟨rfl, _⟩ | ⟨_, lb, hb, _⟩
    rotate_left
    · exact (Hno.out lb hb).elim
    go_wp2_with fail
    have hchk := Hck.out P np pc0 cs w5 (H.out.keep Hbl.out) Hrd.out
    rw [Hsm.out] at hchk
    with_reducible refine hchk.mono ?_
    rintro e w6 ⟨hb, b1, rfl, hiff⟩
    obtain rfl : b1 = true := hiff.2 ⟨rfl, Hprf.out⟩
    clear hiff hchk
    clear t0 t1 t2 t3 m_0 m_1 r_0 r_1 r_2 r_3 p_0 p_1 tl m_l r_l p_l
    replace Ht := hide (Ht.out.keep hb)
    replace Hm_ := hide (Hm_.out.keep hb)
    replace Hr_ := hide (Hr_.out.keep hb)
    replace Hp_ := hide (Hp_.out.keep hb)
    replace Hrd := hide (Hrd.out.keep hb)
    replace Hbl := hide (Hbl.out.trans (hb.mono Hbl.out.size))
    clear hb
    have t0 := Ht.out.cell 0
    have t1 := Ht.out.cell 1
    have t2 := Ht.out.cell 2
    have t3 := Ht.out.cell 3
    have tl := Ht.out.lt
    have m_0 := Hm_.out.cell 0
    have m_1 := Hm_.out.cell 1
    have m_l := Hm_.out.lt
    have r_0 := Hr_.out.cell 0
    have r_1 := Hr_.out.cell 1
    have r_2 := Hr_.out.cell 2
    have r_3 := Hr_.out.cell 3
    have r_l := Hr_.out.lt
    have p_0 := Hp_.out.cell 0
    have p_1 := Hp_.out.cell 1
    have p_l := Hp_.out.lt
    simp only [List.getElem?_cons_zero, List.getElem?_cons_succ] at t0 t1 t2 t3 m_0 m_1 r_0 r_1 r_2 r_3 p_0 p_1
    unfold fault
    go_upto_region 10 with (fail)
    have n_t_z_ : ¬ gT = w6.heap.size := by omega
    have n_z__t : ¬ w6.heap.size = gT := by omega
    have n_m__z_ : ¬ gm = w6.heap.size := by omega
    have n_z__m_ : ¬ w6.heap.size = gm := by omega
    have n_r__z_ : ¬ gr = w6.heap.size := by omega
    have n_z__r_ : ¬ w6.heap.size = gr := by omega
    have n_p__z_ : ¬ gr + 1 = w6.heap.size := by omega
    have n_z__p_ : ¬ w6.heap.size = gr + 1 := by omega
    have s_t : gT < w6.heap.size := tl
    have s_m_ : gm < w6.heap.size := m_l
    have s_r_ : gr < w6.heap.size := r_l
    have s_p_ : gr + 1 < w6.heap.size := p_l
    have s_0 : B0 ≤ w6.heap.size := Nat.le_trans (Nat.le_of_eq HB0.out) Hbl.out.size
    have hyz_ := Blk.new (w6) 29 [.int .i64 0, .int .i64 0]
    have hbW : Below (w6).heap.size (w6) ((w6).alloc (.cells #[.int .i64 0, .int .i64 0] 29)) := (Below.refl _ _).alloc (Nat.le_refl _) _
    obtain ⟨w7, hW⟩ : ∃ W, W = (w6).alloc (.cells #[.int .i64 0, .int .i64 0] 29) := ⟨_, rfl⟩
    rw [← hW] at hyz_ hbW ⊢
    replace Ht := hide (Ht.out.keep hbW)
    replace Hm_ := hide (Hm_.out.keep hbW)
    replace Hr_ := hide (Hr_.out.keep hbW)
    replace Hp_ := hide (Hp_.out.keep hbW)
    replace Hrd := hide (Hrd.out.keep hbW)
    replace Hbl := hide (Hbl.out.trans (hbW.mono Hbl.out.size))
    have Hz_ := hide hyz_
    clear hW hbW hyz_
    generalize w6.heap.size = gz at Hz_ n_t_z_ n_z__t n_m__z_ n_z__m_ n_r__z_ n_z__r_ n_p__z_ n_z__p_ s_t s_m_ s_r_ s_p_ s_0 ⊢
    have t0 := Ht.out.cell 0
    have t1 := Ht.out.cell 1
    have t2 := Ht.out.cell 2
    have t3 := Ht.out.cell 3
    have tl := Ht.out.lt
    have m_0 := Hm_.out.cell 0
    have m_1 := Hm_.out.cell 1
    have m_l := Hm_.out.lt
    have r_0 := Hr_.out.cell 0
    have r_1 := Hr_.out.cell 1
    have r_2 := Hr_.out.cell 2
    have r_3 := Hr_.out.cell 3
    have r_l := Hr_.out.lt
    have p_0 := Hp_.out.cell 0
    have p_1 := Hp_.out.cell 1
    have p_l := Hp_.out.lt
    have z_0 := Hz_.out.cell 0
    have z_1 := Hz_.out.cell 1
    have z_l := Hz_.out.lt
    simp only [List.getElem?_cons_zero, List.getElem?_cons_succ] at t0 t1 t2 t3 m_0 m_1 r_0 r_1 r_2 r_3 p_0 p_1 z_0 z_1
    clear s_t
    clear s_m_
    clear s_r_
    clear s_p_
    have a_z_ : B0 ≤ gz := by omega
    clear s_0
    go_wp2_with fail
    go_ret
    exact ⟨ret_bool (by simp), by
      have hbx := HB0.out
      repeat' (first | (with_reducible exact Hbl.out) | (with_reducible refine Below.drew ?_) | (with_reducible refine below_setD ?_ ?_ _ _) | (with_reducible refine below_drewN ?_ _) | omega)⟩
end Go.Proofs.YtmjiiddncbhgpaaGreat
