/- Dead ends: the law that a proof excludes plans and covers all reachable states. No condition., part 39: La44. -/
import Derived.Test.YtmjiiddncbhgpaaGreatC1
import Derived.Test.YtmjiiddncbhgpaaGreatC2
import Derived.Test.YtmjiiddncbhgpaaGreatC3
import Derived.Test.YtmjiiddncbhgpaaGreatC4
import Derived.Test.YtmjiiddncbhgpaaGreatC5
import Derived.Test.YtmjiiddncbhgpaaGreatC6
import Derived.Test.YtmjiiddncbhgpaaGreatC7
import Derived.Test.YtmjiiddncbhgpaaGreatC8
import Derived.Test.YtmjiiddncbhgpaaGreatC9
import Derived.Test.YtmjiiddncbhgpaaGreatC10
import Derived.Test.YtmjiiddncbhgpaaGreatC11
import Derived.Test.YtmjiiddncbhgpaaGreatC12
import Derived.Test.YtmjiiddncbhgpaaGreatC13
import Derived.Test.YtmjiiddncbhgpaaGreatC14
import Derived.Test.YtmjiiddncbhgpaaGreatC15
import Derived.Test.YtmjiiddncbhgpaaGreatC16
import Derived.Test.YtmjiiddncbhgpaaGreatC17
import Derived.Test.YtmjiiddncbhgpaaGreatC18
import Derived.Test.YtmjiiddncbhgpaaGreatC19
import Derived.Test.YtmjiiddncbhgpaaGreatC20
import Derived.Test.YtmjiiddncbhgpaaGreatC21
import Derived.Test.YtmjiiddncbhgpaaGreatC22
import Derived.Test.YtmjiiddncbhgpaaGreatC23
import Derived.Test.YtmjiiddncbhgpaaGreatC24
import Derived.Test.YtmjiiddncbhgpaaGreatC25
import Derived.Test.YtmjiiddncbhgpaaGreatC26
import Derived.Test.YtmjiiddncbhgpaaGreatC27
import Derived.Test.YtmjiiddncbhgpaaGreatC28
import Derived.Test.YtmjiiddncbhgpaaGreatC29
import Derived.Test.YtmjiiddncbhgpaaGreatC30
import Derived.Test.YtmjiiddncbhgpaaGreatC31
import Derived.Test.YtmjiiddncbhgpaaGreatC32
import Derived.Test.YtmjiiddncbhgpaaGreatC33
import Derived.Test.YtmjiiddncbhgpaaGreatC34
import Derived.Test.YtmjiiddncbhgpaaGreatC35
import Derived.Test.YtmjiiddncbhgpaaGreatC36
import Derived.Test.YtmjiiddncbhgpaaGreatC37
import Derived.Test.YtmjiiddncbhgpaaGreatC38
import Derived.BigQuiet
import Derived.BigRegion
import Derived.Deep.AppendLies
import Derived.Deep.DeepCutAuto
import Derived.Deep.Draws
import Derived.Deep.Fields
import Derived.Deep.LoopGhost
import Derived.Deep.QuietTactic
import Derived.Deep.RegionHeld
import Derived.Deep.RegionHeld3
import Derived.Deep.RegionLaw
import Derived.Deep.Slices
import Derived.DeepKeys4
import Derived.Ground.Names2Prog
import Derived.Ground.SlgnProg
import Derived.Ground.SlsfProg
import Derived.IntWalk
import Derived.Laws.AppendOwnNone
import Derived.Laws.BitsAllLaws
import Derived.Laws.EntriesVeiled
import Derived.Laws.OwnMore
import Derived.Lib.Hide
import Derived.Lib.SlicesCompact
import Derived.LoopIn
import Derived.LoopNIn
import Derived.Maps.AppendAt
import Derived.Maps.OwnIn
import Derived.Maps.OwnOps
import Derived.Maps.OwnSet
import Derived.OrdersHeld
import Derived.OrdersIn
import Derived.OwnWalkIn
import Derived.ProofKit
import Derived.RangeFuncBound
import Derived.RangeFuncCalls
import Derived.RangeFuncLeaves
import Derived.RangeFuncNested
import Derived.Shelf.Abstract
import Derived.Shelf.RegionOpen
import Derived.Shelf.SlSortCmp.Whole1
import Derived.Shelf.Slices.Cells
import Derived.Shelf.Slices.Clone
import Derived.Shelf.Slices.CompactI
import Derived.Shelf.Slices.Empties
import Derived.Shelf.Slices.In.SortNone
import Derived.Shelf.Slices.SearchI
import Derived.Shelf.Sort.Plain
import Derived.Sort.OwnSortedInts
import Derived.StillTail
import Derived.StillTailTactics
import Derived.TacticsInMore
import Derived.Test.YtmjiiddncbhgpaaGreatProg
import Derived.WalkKit
import Init
namespace Go.Proofs.YtmjiiddncbhgpaaGreat
set_option linter.unusedVariables false
set_option linter.unusedSimpArgs false
open Go.RowKit
theorem closed_reach {N : Nat} {T : Tsk} {cs : List SS} (hT : OkT T N) (h : Closed N T cs) {x : Nat} (hx : Reach (stepW (T.ops.map mkOp)) (wordF T.init) x) : ∃ s, setB N s = true ∧ x = wordF s ∧ inSetsB cs s = true := by
  induction hx with
  | start => exact ⟨T.init, hT.init, rfl, h.start⟩
  | step hr hs ih =>
    obtain ⟨s, h1, rfl, h3⟩ := ih
    obtain ⟨m, hm, hc, rfl⟩ := hs
    obtain ⟨o, ho, rfl⟩ := List.mem_map.1 hm
    have oo := hT.ops o ho
    rw [can_word h1 oo] at hc
    exact ⟨_, upd_setB h1 oo, go_word h1 oo, h.step s h1 h3 o ho hc⟩
theorem way_reach {ms : List Mk} {G : Nat → Bool} {s0 s : Nat} {n : Int} (h : Way (arcW ms) G s n) : Reach (stepW ms) s0 s → ∃ t, Reach (stepW ms) s0 t ∧ G t = true := by
  induction h with
  | here hg => exact fun hr => ⟨_, hr, hg⟩
  | step ha hw ih => exact fun hr => ih (.step hr (step_arc.2 ⟨_, ha⟩))
theorem closed_noway {N : Nat} {T : Tsk} {cs : List SS} (hT : OkT T N) (h : Closed N T cs) {n : Int} : ¬ Way (arcW (T.ops.map mkOp)) (goalW (wordF T.goal)) (wordF T.init) n := fun hw => by
  obtain ⟨t, hr, hg⟩ := way_reach hw .start
  obtain ⟨s, h1, rfl, h3⟩ := closed_reach hT h hr
  rw [goal_word h1 hT.goal, h.goal s h1 h3] at hg
  cases hg
theorem closed_solves {N : Nat} {T : Tsk} {cs : List SS} (hT : OkT T N) (h : Closed N T cs) (p : List Int) : (solvesR T p).1 = false := by
  unfold solvesR
  by_cases h1 : (planFault T p).1 = 0
  · rw [if_neg (by simpa using h1)]
    obtain ⟨_, _, _, hr⟩ := planFault_ok h1
    cases hw : worksF T T.init p
    · rfl
    · unfold worksF at hw
      split at hw
      · rename_i r hx
        exact absurd (exec_way hT _ _ _ (fun o ho => by
          obtain ⟨x, hxp, rfl⟩ := List.mem_map.1 ho
          have := hr x hxp
          exact opAt_mem this.1 this.2) hT.init hx hw) (closed_noway hT h)
      · cases hw
  · rw [if_pos h1]
set_option maxRecDepth 100000 in
set_option maxHeartbeats 12800000 in
theorem deadExcludeLaw_ct (T : Tsk) (a : TA) (A : Option Addr) (n c : Nat) (l : List SS) (D : Option Addr) (m d : Nat) (s : List Int) (w : World) (h : TkR w a T) (hl : Rd Enc.ss w A n c l) (hs : Rd Enc.int w D m d s) :
    Calls Tryz.prog 6 #[.agg #[.int .i64 T.facts, .slice a.I a.nI a.cI, .slice a.G a.nG a.cG, .slice a.O a.nO a.cO], .slice A n c, .slice D m d] w (Gives w (.bool true)) := by
  have hck := fun W hT hW => Check_ct a T A n c l W hT hW
  have hcv := fun D m d s W hT hW hS => Covers_ct a T A n c l D m d s W hT hW hS
  have hop := fun W hT => Optimal_ct a T W hT
  have hex := fun W hT => Explore_ct a T W hT
  have hso := fun W hT hS => SSolves_ct a T D m d s W hT hS
  obtain ⟨I, nI, cI, G, nG, cG, O, nO, cO⟩ := a
  simp only at hck hcv hop hex hso ⊢
  rcases hq : setsF T l with ⟨ec, ei⟩
  unfold ChkP at hck
  rw [hq] at hck
  rcases hqs : solvesR T s with ⟨sb, sc, si⟩
  rw [hqs] at hso
  unfold OptP at hop
  unfold ExploreP at hex
  have H := hide h
  have Hl := hide hl
  have Hs := hide hs
  have Hck := hide hck
  have Hcv := hide hcv
  have Hop := hide hop
  have Hex := hide hex
  have Hso := hide hso
  have Hq := hide hq
  have Hqs := hide hqs
  clear h hl hs hck hcv hop hex hso hq hqs
  have Hbl := hide (Below.refl w.heap.size w)
  go_enter Tryz.func6, Tryz.ntmps6
  go_upto_region 1 with (fail)
  obtain ⟨B0, hB0⟩ : ∃ B0, B0 = w.heap.size := ⟨_, rfl⟩
  have HB0 := hide hB0
  clear hB0
  have s_0 : B0 ≤ w.heap.size := Nat.le_trans (Nat.le_of_eq HB0.out) Hbl.out.size
  have hyt := Blk.new (w) 25 [.int .i64 T.facts, .slice I nI cI, .slice G nG cG, .slice O nO cO]
  have hbW : Below (w).heap.size (w) ((w).alloc (.cells #[.int .i64 T.facts, .slice I nI cI, .slice G nG cG, .slice O nO cO] 25)) := (Below.refl _ _).alloc (Nat.le_refl _) _
  obtain ⟨w0, hW⟩ : ∃ W, W = (w).alloc (.cells #[.int .i64 T.facts, .slice I nI cI, .slice G nG cG, .slice O nO cO] 25) := ⟨_, rfl⟩
  rw [← hW] at hyt hbW ⊢
  replace Hbl := hide (Hbl.out.trans (hbW.mono Hbl.out.size))
  have Ht := hide hyt
  clear hW hbW hyt
  generalize w.heap.size = gT at Ht s_0 ⊢
  have t0 := Ht.out.cell 0
  have t1 := Ht.out.cell 1
  have t2 := Ht.out.cell 2
  have t3 := Ht.out.cell 3
  have tl := Ht.out.lt
  simp only [List.getElem?_cons_zero, List.getElem?_cons_succ] at t0 t1 t2 t3
  have a_t : B0 ≤ gT := by omega
  clear s_0
  go_wp2_with fail
  with_reducible refine (deadendExample_ct w0).mono ?_
  rintro e w1 ⟨rfl, hb⟩
  clear t0 t1 t2 t3 tl
  replace Ht := hide (Ht.out.keep hb)
  replace Hbl := hide (Hbl.out.trans (hb.mono Hbl.out.size))
  clear hb
  have t0 := Ht.out.cell 0
  have t1 := Ht.out.cell 1
  have t2 := Ht.out.cell 2
  have t3 := Ht.out.cell 3
  have tl := Ht.out.lt
  simp only [List.getElem?_cons_zero, List.getElem?_cons_succ] at t0 t1 t2 t3
  go_wp2_with fail
  with_reducible refine (Hck.out w1 (H.out.keep Hbl.out) (Hl.out.keep Hbl.out)).mono ?_
  rintro e w2 ⟨hb, b1, rfl, hiff⟩
  clear t0 t1 t2 t3 tl
  replace Ht := hide (Ht.out.keep hb)
  replace Hbl := hide (Hbl.out.trans (hb.mono Hbl.out.size))
  clear hb
  have t0 := Ht.out.cell 0
  have t1 := Ht.out.cell 1
  have t2 := Ht.out.cell 2
  have t3 := Ht.out.cell 3
  have tl := Ht.out.lt
  simp only [List.getElem?_cons_zero, List.getElem?_cons_succ] at t0 t1 t2 t3
  have Hiff := hide hiff
  clear hiff
  unfold fault
  go_upto_region 4 with (fail)
  have n_t_c_ : ¬ gT = w2.heap.size := by omega
  have n_c__t : ¬ w2.heap.size = gT := by omega
  have s_t : gT < w2.heap.size := tl
  have s_0 : B0 ≤ w2.heap.size := Nat.le_trans (Nat.le_of_eq HB0.out) Hbl.out.size
  have hyc_ := Blk.new (w2) 29 [.int .i64 ec, .int .i64 ei]
  have hbW : Below (w2).heap.size (w2) ((w2).alloc (.cells #[.int .i64 ec, .int .i64 ei] 29)) := (Below.refl _ _).alloc (Nat.le_refl _) _
  obtain ⟨w3, hW⟩ : ∃ W, W = (w2).alloc (.cells #[.int .i64 ec, .int .i64 ei] 29) := ⟨_, rfl⟩
  rw [← hW] at hyc_ hbW ⊢
  replace Ht := hide (Ht.out.keep hbW)
  replace Hbl := hide (Hbl.out.trans (hbW.mono Hbl.out.size))
  have Hc_ := hide hyc_
  clear hW hbW hyc_
  generalize w2.heap.size = gc at Hc_ n_t_c_ n_c__t s_t s_0 ⊢
  have t0 := Ht.out.cell 0
  have t1 := Ht.out.cell 1
  have t2 := Ht.out.cell 2
  have t3 := Ht.out.cell 3
  have tl := Ht.out.lt
  have c_0 := Hc_.out.cell 0
  have c_1 := Hc_.out.cell 1
  have c_l := Hc_.out.lt
  simp only [List.getElem?_cons_zero, List.getElem?_cons_succ] at t0 t1 t2 t3 c_0 c_1
  clear s_t
  have a_c_ : B0 ≤ gc := by omega
  clear s_0
  go_wp2_with fail
  with_reducible refine (Hop.out w3 (H.out.keep Hbl.out)).mono ?_
  rintro e w4 ⟨hb, hor⟩
  clear t0 t1 t2 t3 c_0 c_1 tl c_l
  replace Ht := hide (Ht.out.keep hb)
  replace Hc_ := hide (Hc_.out.keep hb)
  replace Hbl := hide (Hbl.out.trans (hb.mono Hbl.out.size))
  clear hb
  have t0 := Ht.out.cell 0
  have t1 := Ht.out.cell 1
  have t2 := Ht.out.cell 2
  have t3 := Ht.out.cell 3
  have tl := Ht.out.lt
  have c_0 := Hc_.out.cell 0
  have c_1 := Hc_.out.cell 1
  have c_l := Hc_.out.lt
  simp only [List.getElem?_cons_zero, List.getElem?_cons_succ] at t0 t1 t2 t3 c_0 c_1
  obtain ⟨ov, oc, oi, rfl, hopt⟩ : ∃ (ov oc oi : Int), e = .returned (.tuple #[.int .i64 ov, fault oc oi]) ∧ (oc = 0 → ∃ L f, CostsOf T L f ∧ ov = f (wordF T.init)) := by
    rcases hor with ⟨h1, rfl⟩ | ⟨_, _, rfl⟩ | ⟨_, L, f, h2, rfl⟩
    · exact ⟨_, _, _, rfl, fun e => absurd e h1⟩
    · exact ⟨_, _, _, rfl, fun e => by omega⟩
    · exact ⟨_, _, _, rfl, fun _ => ⟨L, f, h2, rfl⟩⟩
  have Hopt := hide hopt
  clear hor hopt
  unfold fault
  go_upto_region 5 with (fail)
  have n_t_o_ : ¬ gT = w4.heap.size := by omega
  have n_o__t : ¬ w4.heap.size = gT := by omega
  have n_c__o_ : ¬ gc = w4.heap.size := by omega
  have n_o__c_ : ¬ w4.heap.size = gc := by omega
  have s_t : gT < w4.heap.size := tl
  have s_c_ : gc < w4.heap.size := c_l
  have s_0 : B0 ≤ w4.heap.size := Nat.le_trans (Nat.le_of_eq HB0.out) Hbl.out.size
  have hyo_ := Blk.new (w4) 29 [.int .i64 oc, .int .i64 oi]
  have hbW : Below (w4).heap.size (w4) ((w4).alloc (.cells #[.int .i64 oc, .int .i64 oi] 29)) := (Below.refl _ _).alloc (Nat.le_refl _) _
  obtain ⟨w5, hW⟩ : ∃ W, W = (w4).alloc (.cells #[.int .i64 oc, .int .i64 oi] 29) := ⟨_, rfl⟩
  rw [← hW] at hyo_ hbW ⊢
  replace Ht := hide (Ht.out.keep hbW)
  replace Hc_ := hide (Hc_.out.keep hbW)
  replace Hbl := hide (Hbl.out.trans (hbW.mono Hbl.out.size))
  have Ho_ := hide hyo_
  clear hW hbW hyo_
  generalize w4.heap.size = go at Ho_ n_t_o_ n_o__t n_c__o_ n_o__c_ s_t s_c_ s_0 ⊢
  have t0 := Ht.out.cell 0
  have t1 := Ht.out.cell 1
  have t2 := Ht.out.cell 2
  have t3 := Ht.out.cell 3
  have tl := Ht.out.lt
  have c_0 := Hc_.out.cell 0
  have c_1 := Hc_.out.cell 1
  have c_l := Hc_.out.lt
  have o_0 := Ho_.out.cell 0
  have o_1 := Ho_.out.cell 1
  have o_l := Ho_.out.lt
  simp only [List.getElem?_cons_zero, List.getElem?_cons_succ] at t0 t1 t2 t3 c_0 c_1 o_0 o_1
  clear s_t
  clear s_c_
  have a_o_ : B0 ≤ go := by omega
  clear s_0
  go_wp2_with fail
  with_reducible refine (Hex.out w5 (H.out.keep Hbl.out)).mono ?_
  rintro e w6 ⟨hb, hor⟩
  clear t0 t1 t2 t3 c_0 c_1 o_0 o_1 tl c_l o_l
  replace Ht := hide (Ht.out.keep hb)
  replace Hc_ := hide (Hc_.out.keep hb)
  replace Ho_ := hide (Ho_.out.keep hb)
  replace Hbl := hide (Hbl.out.trans (hb.mono Hbl.out.size))
  clear hb
  have t0 := Ht.out.cell 0
  have t1 := Ht.out.cell 1
  have t2 := Ht.out.cell 2
  have t3 := Ht.out.cell 3
  have tl := Ht.out.lt
  have c_0 := Hc_.out.cell 0
  have c_1 := Hc_.out.cell 1
  have c_l := Hc_.out.lt
  have o_0 := Ho_.out.cell 0
  have o_1 := Ho_.out.cell 1
  have o_l := Ho_.out.lt
  simp only [List.getElem?_cons_zero, List.getElem?_cons_succ] at t0 t1 t2 t3 c_0 c_1 o_0 o_1
  obtain ⟨X, xn, xc, xe, xi, rfl, hexp⟩ : ∃ (X : Option Addr) (xn xc : Nat) (xe xi : Int), e = .returned (.tuple #[.slice X xn xc, fault xe xi]) ∧ (xe = 0 → ∃ L, ListOf T L ∧ Rd (Enc.sl Enc.int) w6 X xn xc (L.map factsF)) ∧ (xe ≠ 0 → xn = 0) := by
    rcases hor with ⟨h1, rfl⟩ | ⟨_, _, rfl⟩ | ⟨_, L, O', n', oc', h2, h3, rfl⟩
    · exact ⟨_, _, _, _, _, rfl, fun e => absurd e h1, fun _ => rfl⟩
    · exact ⟨_, _, _, _, _, rfl, fun e => by omega, fun _ => rfl⟩
    · exact ⟨_, _, _, _, _, rfl, fun _ => ⟨L, h2, h3⟩, fun e => absurd rfl e⟩
  have Hexp := hide hexp
  have Hb6 := hide (Below.refl w6.heap.size w6)
  clear hor hexp
  unfold fault
  go_upto_region 6 with (fail)
  have n_t_x_ : ¬ gT = w6.heap.size := by omega
  have n_x__t : ¬ w6.heap.size = gT := by omega
  have n_c__x_ : ¬ gc = w6.heap.size := by omega
  have n_x__c_ : ¬ w6.heap.size = gc := by omega
  have n_o__x_ : ¬ go = w6.heap.size := by omega
  have n_x__o_ : ¬ w6.heap.size = go := by omega
  have s_t : gT < w6.heap.size := tl
  have s_c_ : gc < w6.heap.size := c_l
  have s_o_ : go < w6.heap.size := o_l
  have s_0 : B0 ≤ w6.heap.size := Nat.le_trans (Nat.le_of_eq HB0.out) Hbl.out.size
  have hyx_ := Blk.new (w6) 29 [.int .i64 xe, .int .i64 xi]
  have hbW : Below (w6).heap.size (w6) ((w6).alloc (.cells #[.int .i64 xe, .int .i64 xi] 29)) := (Below.refl _ _).alloc (Nat.le_refl _) _
  obtain ⟨w7, hW⟩ : ∃ W, W = (w6).alloc (.cells #[.int .i64 xe, .int .i64 xi] 29) := ⟨_, rfl⟩
  rw [← hW] at hyx_ hbW ⊢
  replace Ht := hide (Ht.out.keep hbW)
  replace Hc_ := hide (Hc_.out.keep hbW)
  replace Ho_ := hide (Ho_.out.keep hbW)
  replace Hbl := hide (Hbl.out.trans (hbW.mono Hbl.out.size))
  replace Hb6 := hide (Hb6.out.trans (hbW.mono Hb6.out.size))
  have Hx_ := hide hyx_
  clear hW hbW hyx_
  generalize w6.heap.size = gx at Hx_ n_t_x_ n_x__t n_c__x_ n_x__c_ n_o__x_ n_x__o_ s_t s_c_ s_o_ s_0 ⊢
  have t0 := Ht.out.cell 0
  have t1 := Ht.out.cell 1
  have t2 := Ht.out.cell 2
  have t3 := Ht.out.cell 3
  have tl := Ht.out.lt
  have c_0 := Hc_.out.cell 0
  have c_1 := Hc_.out.cell 1
  have c_l := Hc_.out.lt
  have o_0 := Ho_.out.cell 0
  have o_1 := Ho_.out.cell 1
  have o_l := Ho_.out.lt
  have x_0 := Hx_.out.cell 0
  have x_1 := Hx_.out.cell 1
  have x_l := Hx_.out.lt
  simp only [List.getElem?_cons_zero, List.getElem?_cons_succ] at t0 t1 t2 t3 c_0 c_1 o_0 o_1 x_0 x_1
  clear s_t
  clear s_c_
  clear s_o_
  have a_x_ : B0 ≤ gx := by omega
  clear s_0
  go_wp2_with fail
  with_reducible refine (Hso.out w7 (H.out.keep Hbl.out) (Hs.out.keep Hbl.out)).mono ?_
  rintro e w8 ⟨rfl, hb⟩
  clear t0 t1 t2 t3 c_0 c_1 o_0 o_1 x_0 x_1 tl c_l o_l x_l
  replace Ht := hide (Ht.out.keep hb)
  replace Hc_ := hide (Hc_.out.keep hb)
  replace Ho_ := hide (Ho_.out.keep hb)
  replace Hx_ := hide (Hx_.out.keep hb)
  replace Hbl := hide (Hbl.out.trans (hb.mono Hbl.out.size))
  replace Hb6 := hide (Hb6.out.trans (hb.mono Hb6.out.size))
  clear hb
  have t0 := Ht.out.cell 0
  have t1 := Ht.out.cell 1
  have t2 := Ht.out.cell 2
  have t3 := Ht.out.cell 3
  have tl := Ht.out.lt
  have c_0 := Hc_.out.cell 0
  have c_1 := Hc_.out.cell 1
  have c_l := Hc_.out.lt
  have o_0 := Ho_.out.cell 0
  have o_1 := Ho_.out.cell 1
  have o_l := Ho_.out.lt
  have x_0 := Hx_.out.cell 0
  have x_1 := Hx_.out.cell 1
  have x_l := Hx_.out.lt
  simp only [List.getElem?_cons_zero, List.getElem?_cons_succ] at t0 t1 t2 t3 c_0 c_1 o_0 o_1 x_0 x_1
  unfold fault
  go_upto_region 7 with (fail)
  have n_t_y_ : ¬ gT = w8.heap.size := by omega
  have n_y__t : ¬ w8.heap.size = gT := by omega
  have n_c__y_ : ¬ gc = w8.heap.size := by omega
  have n_y__c_ : ¬ w8.heap.size = gc := by omega
  have n_o__y_ : ¬ go = w8.heap.size := by omega
  have n_y__o_ : ¬ w8.heap.size = go := by omega
  have n_x__y_ : ¬ gx = w8.heap.size := by omega
  have n_y__x_ : ¬ w8.heap.size = gx := by omega
  have s_t : gT < w8.heap.size := tl
  have s_c_ : gc < w8.heap.size := c_l
  have s_o_ : go < w8.heap.size := o_l
  have s_x_ : gx < w8.heap.size := x_l
  have s_0 : B0 ≤ w8.heap.size := Nat.le_trans (Nat.le_of_eq HB0.out) Hbl.out.size
  have hyy_ := Blk.new (w8) 29 [.int .i64 sc, .int .i64 si]
  have hbW : Below (w8).heap.size (w8) ((w8).alloc (.cells #[.int .i64 sc, .int .i64 si] 29)) := (Below.refl _ _).alloc (Nat.le_refl _) _
  obtain ⟨w9, hW⟩ : ∃ W, W = (w8).alloc (.cells #[.int .i64 sc, .int .i64 si] 29) := ⟨_, rfl⟩
  rw [← hW] at hyy_ hbW ⊢
  replace Ht := hide (Ht.out.keep hbW)
  replace Hc_ := hide (Hc_.out.keep hbW)
  replace Ho_ := hide (Ho_.out.keep hbW)
  replace Hx_ := hide (Hx_.out.keep hbW)
  replace Hbl := hide (Hbl.out.trans (hbW.mono Hbl.out.size))
  replace Hb6 := hide (Hb6.out.trans (hbW.mono Hb6.out.size))
  have Hy_ := hide hyy_
  clear hW hbW hyy_
  generalize w8.heap.size = gs at Hy_ n_t_y_ n_y__t n_c__y_ n_y__c_ n_o__y_ n_y__o_ n_x__y_ n_y__x_ s_t s_c_ s_o_ s_x_ s_0 ⊢
  have t0 := Ht.out.cell 0
  have t1 := Ht.out.cell 1
  have t2 := Ht.out.cell 2
  have t3 := Ht.out.cell 3
  have tl := Ht.out.lt
  have c_0 := Hc_.out.cell 0
  have c_1 := Hc_.out.cell 1
  have c_l := Hc_.out.lt
  have o_0 := Ho_.out.cell 0
  have o_1 := Ho_.out.cell 1
  have o_l := Ho_.out.lt
  have x_0 := Hx_.out.cell 0
  have x_1 := Hx_.out.cell 1
  have x_l := Hx_.out.lt
  have y_0 := Hy_.out.cell 0
  have y_1 := Hy_.out.cell 1
  have y_l := Hy_.out.lt
  simp only [List.getElem?_cons_zero, List.getElem?_cons_succ] at t0 t1 t2 t3 c_0 c_1 o_0 o_1 x_0 x_1 y_0 y_1
  clear s_t
  clear s_c_
  clear s_o_
  clear s_x_
  have a_y_ : B0 ≤ gs := by omega
  clear s_0
  cases b1 with
  | false =>
    by_cases hec : ec = 0
    · subst hec
      go_wp2_with fail
      go_ret
      exact ⟨ret_bool (by simp), Hbl.out⟩
    · have hne : (ec != 0) = true := by simpa using hec
      go_wp2_with fail
      go_ret
      exact ⟨ret_bool (by simp), Hbl.out⟩
  | true =>
    obtain ⟨hec, hprf⟩ := Hiff.out.1 (by simp)
    subst hec
    obtain ⟨N, hok, hss, hfew, hz⟩ := setsF_ok (T := T) (l := l) (by rw [Hq.out])
    have hcl := closed_of_proof hok hss hprf
    have hsb : sb = false := by have := closed_solves hok hcl s; rw [Hqs.out] at this; exact this
    subst hsb
    have hN := hok.low
    have hov : oc = 0 → ¬ ov < 1000000000 := fun e h => by
      obtain ⟨L, f, h1, rfl⟩ := Hopt.out e
      exact closed_noway hok hcl (h1.least.way _ ((h1.list.all.mem _).2 .start) (by unfold infW; exact h))
    have hcov : ∀ x, Reach (stepW (T.ops.map mkOp)) (wordF T.init) x → covF T l (factsF x) = (true, 0, 0) := fun x hx => by
      obtain ⟨q, h1, rfl, h3⟩ := closed_reach hok hcl hx
      unfold covF
      rw [hz, if_neg (by simp), facts_word (by omega) h1, if_neg (by rw [hok.facts, h1]; simp), h3]
    have Hcov := hide hcov
    have Hov := hide hov
    clear hprf hcl hss hcov hov hz hfew
    by_cases hsc : sc = 0
    rotate_left
    · have hne : (sc == 0) = false := by rw [beq_eq_false_iff_ne]; exact hsc
      by_cases hoc : oc = 0
      rotate_left
      · have hneo : (oc == 0) = false := by rw [beq_eq_false_iff_ne]; exact hoc
        go_wp2_with fail
        have Kbl := Hbl
        have Kb6 := Hb6
        have K9 := hide (Below.refl w9.heap.size w9)
        have Kt := Ht
        have Kx_ := Hx_
        clear t0 t1 t2 t3 c_0 c_1 o_0 o_1 x_0 x_1 y_0 y_1 tl c_l o_l x_l y_l
        go_loopw [15] (fun i wr => ∃ k : Nat, i = .int .i64 k ∧ Below w9.heap.size w9 wr) (fun i _ => xn - (intOf i).toNat)
        case atStart => exact ⟨0, rfl, Below.refl _ _⟩
        case round =>
          obtain ⟨k, rfl, hb⟩ := hrel
          replace Hbl := hide (Kbl.out.trans (hb.mono Kbl.out.size))
          replace Hb6 := hide (Kb6.out.trans (hb.mono Kb6.out.size))
          have Hb9 := hide hb
          clear hb
          replace Ht := hide (Kt.out.keep Hb9.out)
          replace Hx_ := hide (Kx_.out.keep Hb9.out)
          have t0 := Ht.out.cell 0
          have t1 := Ht.out.cell 1
          have t2 := Ht.out.cell 2
          have t3 := Ht.out.cell 3
          have tl := Ht.out.lt
          have x_0 := Hx_.out.cell 0
          have x_1 := Hx_.out.cell 1
          have x_l := Hx_.out.lt
          simp only [List.getElem?_cons_zero, List.getElem?_cons_succ] at t0 t1 t2 t3 x_0 x_1
          by_cases hlt : k < xn
          rotate_left
          · have hki : ¬ (k : Int) < (xn : Int) := by omega
            go_wp2_with fail
            go_ret
            exact ⟨ret_bool (by simp), Hbl.out⟩
          by_cases hxe : xe = 0
          rotate_left
          · have := Hexp.out.2 hxe
            omega
          subst hxe
          have hki : (k : Int) < (xn : Int) := by omega
          obtain ⟨L, hL, hrd⟩ := Hexp.out.1 rfl
          have hxl := hrd.low
          obtain ⟨b, off, y, B1, m1, d1, rfl, hy, g0, r1⟩ := (hrd.keep Hb6.out).sl hlt
          rw [List.getElem?_map] at hy
          obtain ⟨x, hx, rfl⟩ := Option.map_eq_some_iff.1 hy
          have hct := fun W (hW : Below wr.heap.size wr W) => Hcv.out B1 m1 d1 (factsF x) W (H.out.keep (Hbl.out.trans (hW.mono Hbl.out.size))) (Hl.out.keep (Hbl.out.trans (hW.mono Hbl.out.size))) (r1.keep hW)
          rw [Hcov.out x ((hL.all.mem x).1 (List.mem_of_getElem? hx))] at hct
          unfold covV fault at hct
          dsimp only at hct
          have Hct := hide hct
          obtain ⟨fl, hfl⟩ : ∃ z, z = (factsF x).length := ⟨_, rfl⟩
          clear hct hx hy hL hrd r1 hfl
          have gb := World.block_lt_of_cell? wr _ g0
          go_upto_region 14 with (fail)
          obtain ⟨V, hV⟩ : ∃ W, W = wr.drew := ⟨_, rfl⟩
          have hbV : Below wr.heap.size wr V := by rw [hV]; exact (Below.refl _ _).drew
          refine wp_region_held_drew (S := (fun w' => w'.cell? ⟨gT, 0, none⟩ = some (.int .i64 T.facts) ∧ w'.cell? ⟨gT, 1, none⟩ = some (.slice I nI cI) ∧ w'.cell? ⟨gT, 2, none⟩ = some (.slice G nG cG) ∧ w'.cell? ⟨gT, 3, none⟩ = some (.slice O nO cO) ∧ w'.cell? ⟨b, off + k, none⟩ = some (.slice B1 m1 d1))) (by kernel_rfl) ?_ (fun hHeld => ?_)
          · exact ⟨t0, t1, t2, t3, g0⟩
          rw [← hV] at hHeld ⊢
          clear hV
          refine takeR (i := 0) (v := ?_) (some 76) rfl rfl (by kernel_rfl) (by kernel_rfl) (by kernel_rfl) (fun _ _ _ h => h) (Or.inl ⟨by rfl, ?_⟩) (by assumption) ?_
          rotate_left
          · intro w hSw; (try dsimp only at hSw); obtain ⟨s1, s2, s3, s4, s5⟩ := hSw; first | (go_simp; done) | (go_simp; with_reducible rfl)
          try simp only [Act.put, List.setIfInBounds_toArray, List.set_cons_zero, List.set_cons_succ]
          refine takeR (i := 1) (v := ?_) (some 77) rfl rfl (by kernel_rfl) (by kernel_rfl) (by kernel_rfl) (fun _ _ _ h => h) (Or.inl ⟨by rfl, ?_⟩) (by assumption) ?_
          rotate_left
          · intro w hSw; (try dsimp only at hSw); obtain ⟨s1, s2, s3, s4, s5⟩ := hSw; first | (go_simp; done) | (go_simp; with_reducible rfl)
          try simp only [Act.put, List.setIfInBounds_toArray, List.set_cons_zero, List.set_cons_succ]
          refine takeR (i := 2) (v := ?_) (some 78) rfl rfl (by kernel_rfl) (by kernel_rfl) (by kernel_rfl) (fun _ _ _ h => h) (Or.inl ⟨by rfl, ?_⟩) (by assumption) ?_
          rotate_left
          · intro w hSw; (try dsimp only at hSw); obtain ⟨s1, s2, s3, s4, s5⟩ := hSw; first | (go_simp; done) | (go_simp; with_reducible rfl)
          try simp only [Act.put, List.setIfInBounds_toArray, List.set_cons_zero, List.set_cons_succ]
          refine takeR (i := 3) (v := ?_) (some 79) rfl rfl (by kernel_rfl) (by kernel_rfl) (by kernel_rfl) (fun _ _ _ h => h) (Or.inl ⟨by rfl, ?_⟩) (by assumption) ?_
          rotate_left
          · intro w hSw; (try dsimp only at hSw); obtain ⟨s1, s2, s3, s4, s5⟩ := hSw; first | (go_simp; done) | (go_simp; with_reducible rfl)
          try simp only [Act.put, List.setIfInBounds_toArray, List.set_cons_zero, List.set_cons_succ]
          refine takeR (i := 4) (v := ?_) (some 80) rfl rfl (by kernel_rfl) (by kernel_rfl) (by kernel_rfl) (fun _ _ _ h => h) (Or.inl ⟨by rfl, ?_⟩) (by assumption) ?_
          rotate_left
          · intro w hSw; (try dsimp only at hSw); obtain ⟨s1, s2, s3, s4, s5⟩ := hSw; first | (go_simp; done) | (go_simp; with_reducible rfl)
          try simp only [Act.put, List.setIfInBounds_toArray, List.set_cons_zero, List.set_cons_succ]
          refine takeR (i := 5) (v := ?_) (some 81) rfl rfl (by kernel_rfl) (by kernel_rfl) (by kernel_rfl) (fun _ _ _ h => h) (Or.inl ⟨by rfl, ?_⟩) (by assumption) ?_
          rotate_left
          · intro w hSw; (try dsimp only at hSw); obtain ⟨s1, s2, s3, s4, s5⟩ := hSw; first | (go_simp; done) | (go_simp; with_reducible rfl)
          try simp only [Act.put, List.setIfInBounds_toArray, List.set_cons_zero, List.set_cons_succ]
          refine wpAnyH_ready (rs := [6, 10]) (by kernel_rfl) (by simp) ?_
          refine AllReadyH.cons rfl (fun K hK => ?_) (AllReadyH.cons rfl (fun K hK => ?_) AllReadyH.nil)
          · go_simp
            refine (Hct.out V hbV).mono ?_
            rintro e w11 ⟨rfl, hb11⟩
            go_simp
            have Hx := hide (hbV.trans (hb11.mono hbV.size))
            refine hK.out _ _ ?_ (fun hHeld2 => ?_)
            · exact ⟨(Hx.out.cell (p := ⟨gT, 0, none⟩) tl).trans t0, (Hx.out.cell (p := ⟨gT, 1, none⟩) tl).trans t1, (Hx.out.cell (p := ⟨gT, 2, none⟩) tl).trans t2, (Hx.out.cell (p := ⟨gT, 3, none⟩) tl).trans t3, (Hx.out.cell (p := ⟨b, off + k, none⟩) gb).trans g0⟩
            clear hK K hHeld
            try simp only [Act.put, List.setIfInBounds_toArray, List.set_cons_zero, List.set_cons_succ]
            have hHeld := hHeld2; clear hHeld2
            refine takeR (i := 7) (v := ?_) (some 75) rfl rfl (by kernel_rfl) (by kernel_rfl) (by kernel_rfl) (fun _ _ _ h => h) (Or.inl ⟨by rfl, ?_⟩) (by assumption) ?_
            rotate_left
            · intro w hSw; (try dsimp only at hSw); obtain ⟨s1, s2, s3, s4, s5⟩ := hSw; first | (go_simp; done) | (go_simp; with_reducible rfl)
            try simp only [Act.put, List.setIfInBounds_toArray, List.set_cons_zero, List.set_cons_succ]
            refine takeR (i := 8) (v := ?_) (some 83) rfl rfl (by kernel_rfl) (by kernel_rfl) (by kernel_rfl) (fun _ _ _ h => h) (Or.inl ⟨by rfl, ?_⟩) (by assumption) ?_
            rotate_left
            · intro w hSw; (try dsimp only at hSw); obtain ⟨s1, s2, s3, s4, s5⟩ := hSw; first | (go_simp; done) | (go_simp; with_reducible rfl)
            try simp only [Act.put, List.setIfInBounds_toArray, List.set_cons_zero, List.set_cons_succ]
            refine takeR (i := 9) (v := ?_) (some 84) rfl rfl (by kernel_rfl) (by kernel_rfl) (by kernel_rfl) (fun _ _ _ h => h) (Or.inl ⟨by rfl, ?_⟩) (by assumption) ?_
            rotate_left
            · intro w hSw; (try dsimp only at hSw); obtain ⟨s1, s2, s3, s4, s5⟩ := hSw; first | (go_simp; done) | (go_simp; with_reducible rfl)
            try simp only [Act.put, List.setIfInBounds_toArray, List.set_cons_zero, List.set_cons_succ]
            refine wpAnyH_ready (rs := [10]) (by kernel_rfl) (by simp) ?_
            refine AllReadyH.cons rfl (fun K hK => ?_) AllReadyH.nil
            go_simp
            have hz11 := Hx.out.size
            have hq9 := Blk.new w11 29 [.int .i64 0, .int .i64 0]
            replace Hx := hide (Hx.out.trans ((Below.refl w11.heap.size w11).alloc (Nat.le_refl _) (.cells #[.int .i64 0, .int .i64 0] 29) |>.mono hz11))
            obtain ⟨gq, hgq⟩ : ∃ z, z = w11.heap.size := ⟨_, rfl⟩
            have hqz : wr.heap.size ≤ gq := by omega
            obtain ⟨w12, hw12⟩ : ∃ W, W = w11.alloc (.cells #[.int .i64 0, .int .i64 0] 29) := ⟨_, rfl⟩
            rw [← hgq] at hq9 ⊢
            rw [← hw12] at hq9 Hx ⊢
            have Hq9 := hide hq9
            have zq := hq9.frozen 0
            have zq1 := hq9.frozen 1
            have zl := hq9.lt
            clear hgq hw12 hq9
            refine hK.out _ _ ?_ (fun hHeld2 => ?_)
            · exact ⟨(Hx.out.cell (p := ⟨gT, 0, none⟩) tl).trans t0, (Hx.out.cell (p := ⟨gT, 1, none⟩) tl).trans t1, (Hx.out.cell (p := ⟨gT, 2, none⟩) tl).trans t2, (Hx.out.cell (p := ⟨gT, 3, none⟩) tl).trans t3, (Hx.out.cell (p := ⟨b, off + k, none⟩) gb).trans g0⟩
            clear hK K hHeld
            try simp only [Act.put, List.setIfInBounds_toArray, List.set_cons_zero, List.set_cons_succ]
            have hHeld := hHeld2; clear hHeld2
            refine takeR (i := 11) (v := ?_) (some 16) rfl rfl (by kernel_rfl) (by kernel_rfl) (by kernel_rfl) (fun _ _ _ h => h) (Or.inl ⟨by rfl, ?_⟩) (by assumption) ?_
            rotate_left
            · intro w hSw; (try dsimp only at hSw); obtain ⟨s1, s2, s3, s4, s5⟩ := hSw; first | (go_simp; done) | (go_simp; with_reducible rfl)
            try simp only [Act.put, List.setIfInBounds_toArray, List.set_cons_zero, List.set_cons_succ]
            refine wpAnyH_ready (rs := [12]) (by kernel_rfl) (by simp) ?_
            refine AllReadyH.cons rfl (fun K hK => ?_) AllReadyH.nil
            have qc0 := Hq9.out.cell 0
            have qc1 := Hq9.out.cell 1
            simp only [List.getElem?_cons_zero, List.getElem?_cons_succ] at qc0 qc1
            go_simp
            clear qc0 qc1
            have hs2 := (Hq9.out.set 0 (.int .i64 0)).set 1 (.int .i64 0)
            simp only [List.set_cons_zero, List.set_cons_succ] at hs2
            replace Hx := hide (Hx.out.trans (below_setD (below_setD (Below.refl wr.heap.size w12) hqz 0 (.int .i64 0)) hqz 1 (.int .i64 0)))
            obtain ⟨w13, hw13⟩ : ∃ W, W = (w12.setCell ⟨gq, 0, none⟩ (.int .i64 0)).setCell ⟨gq, 1, none⟩ (.int .i64 0) := ⟨_, rfl⟩
            rw [← hw13] at hs2 Hx ⊢
            replace Hq9 := hide hs2
            clear hw13 hs2
            refine hK.out _ _ ?_ (fun hHeld2 => ?_)
            · exact ⟨(Hx.out.cell (p := ⟨gT, 0, none⟩) tl).trans t0, (Hx.out.cell (p := ⟨gT, 1, none⟩) tl).trans t1, (Hx.out.cell (p := ⟨gT, 2, none⟩) tl).trans t2, (Hx.out.cell (p := ⟨gT, 3, none⟩) tl).trans t3, (Hx.out.cell (p := ⟨b, off + k, none⟩) gb).trans g0⟩
            clear hK K hHeld
            try simp only [Act.put, List.setIfInBounds_toArray, List.set_cons_zero, List.set_cons_succ]
            have hHeld := hHeld2; clear hHeld2
            have q0 := Hq9.out.cell 0
            have q1 := Hq9.out.cell 1
            have ql := Hq9.out.lt
            simp only [List.getElem?_cons_zero, List.getElem?_cons_succ] at q0 q1
            refine wpAnyH_done (by kernel_rfl) ?_ _
            clear hHeld t0 t1 t2 t3 x_0 x_1 g0
            go_wp2_with fail
            go_roundw
            case rel => exact ⟨k + 1, by go_num, Hb9.out.trans (Hx.out.mono Hb9.out.size)⟩
            case measure => simp [intOf]; omega
          · go_simp
            have hzV := hbV.size
            have hq9 := Blk.new V 29 [.int .i64 0, .int .i64 0]
            have Hx := hide (hbV.trans ((Below.refl V.heap.size V).alloc (Nat.le_refl _) (.cells #[.int .i64 0, .int .i64 0] 29) |>.mono hzV))
            obtain ⟨gq, hgq⟩ : ∃ z, z = V.heap.size := ⟨_, rfl⟩
            have hqz : wr.heap.size ≤ gq := by omega
            obtain ⟨w10, hw10⟩ : ∃ W, W = V.alloc (.cells #[.int .i64 0, .int .i64 0] 29) := ⟨_, rfl⟩
            rw [← hgq] at hq9 ⊢
            rw [← hw10] at hq9 Hx ⊢
            have Hq9 := hide hq9
            clear hgq hw10 hq9
            refine hK.out _ _ ?_ (fun hHeld2 => ?_)
            · exact ⟨(Hx.out.cell (p := ⟨gT, 0, none⟩) tl).trans t0, (Hx.out.cell (p := ⟨gT, 1, none⟩) tl).trans t1, (Hx.out.cell (p := ⟨gT, 2, none⟩) tl).trans t2, (Hx.out.cell (p := ⟨gT, 3, none⟩) tl).trans t3, (Hx.out.cell (p := ⟨b, off + k, none⟩) gb).trans g0⟩
            clear hK K hHeld
            try simp only [Act.put, List.setIfInBounds_toArray, List.set_cons_zero, List.set_cons_succ]
            have hHeld := hHeld2; clear hHeld2
            refine wpAnyH_ready (rs := [6]) (by kernel_rfl) (by simp) ?_
            refine AllReadyH.cons rfl (fun K hK => ?_) AllReadyH.nil
            go_simp
            refine (Hct.out w10 Hx.out).mono ?_
            rintro e w12 ⟨rfl, hb12⟩
            go_simp
            replace Hx := hide (Hx.out.trans (hb12.mono Hx.out.size))
            replace Hq9 := hide (Hq9.out.keep hb12)
            have zq := Hq9.out.frozen 0
            have zq1 := Hq9.out.frozen 1
            have zl := Hq9.out.lt
            refine hK.out _ _ ?_ (fun hHeld2 => ?_)
            · exact ⟨(Hx.out.cell (p := ⟨gT, 0, none⟩) tl).trans t0, (Hx.out.cell (p := ⟨gT, 1, none⟩) tl).trans t1, (Hx.out.cell (p := ⟨gT, 2, none⟩) tl).trans t2, (Hx.out.cell (p := ⟨gT, 3, none⟩) tl).trans t3, (Hx.out.cell (p := ⟨b, off + k, none⟩) gb).trans g0⟩
            clear hK K hHeld
            try simp only [Act.put, List.setIfInBounds_toArray, List.set_cons_zero, List.set_cons_succ]
            have hHeld := hHeld2; clear hHeld2
            refine takeR (i := 7) (v := ?_) (some 75) rfl rfl (by kernel_rfl) (by kernel_rfl) (by kernel_rfl) (fun _ _ _ h => h) (Or.inl ⟨by rfl, ?_⟩) (by assumption) ?_
            rotate_left
            · intro w hSw; (try dsimp only at hSw); obtain ⟨s1, s2, s3, s4, s5⟩ := hSw; first | (go_simp; done) | (go_simp; with_reducible rfl)
            try simp only [Act.put, List.setIfInBounds_toArray, List.set_cons_zero, List.set_cons_succ]
            refine takeR (i := 8) (v := ?_) (some 83) rfl rfl (by kernel_rfl) (by kernel_rfl) (by kernel_rfl) (fun _ _ _ h => h) (Or.inl ⟨by rfl, ?_⟩) (by assumption) ?_
            rotate_left
            · intro w hSw; (try dsimp only at hSw); obtain ⟨s1, s2, s3, s4, s5⟩ := hSw; first | (go_simp; done) | (go_simp; with_reducible rfl)
            try simp only [Act.put, List.setIfInBounds_toArray, List.set_cons_zero, List.set_cons_succ]
            refine takeR (i := 9) (v := ?_) (some 84) rfl rfl (by kernel_rfl) (by kernel_rfl) (by kernel_rfl) (fun _ _ _ h => h) (Or.inl ⟨by rfl, ?_⟩) (by assumption) ?_
            rotate_left
            · intro w hSw; (try dsimp only at hSw); obtain ⟨s1, s2, s3, s4, s5⟩ := hSw; first | (go_simp; done) | (go_simp; with_reducible rfl)
            try simp only [Act.put, List.setIfInBounds_toArray, List.set_cons_zero, List.set_cons_succ]
            refine takeR (i := 11) (v := ?_) (some 16) rfl rfl (by kernel_rfl) (by kernel_rfl) (by kernel_rfl) (fun _ _ _ h => h) (Or.inl ⟨by rfl, ?_⟩) (by assumption) ?_
            rotate_left
            · intro w hSw; (try dsimp only at hSw); obtain ⟨s1, s2, s3, s4, s5⟩ := hSw; first | (go_simp; done) | (go_simp; with_reducible rfl)
            try simp only [Act.put, List.setIfInBounds_toArray, List.set_cons_zero, List.set_cons_succ]
            refine wpAnyH_ready (rs := [12]) (by kernel_rfl) (by simp) ?_
            refine AllReadyH.cons rfl (fun K hK => ?_) AllReadyH.nil
            have qc0 := Hq9.out.cell 0
            have qc1 := Hq9.out.cell 1
            simp only [List.getElem?_cons_zero, List.getElem?_cons_succ] at qc0 qc1
            go_simp
            clear qc0 qc1
            have hs2 := (Hq9.out.set 0 (.int .i64 0)).set 1 (.int .i64 0)
            simp only [List.set_cons_zero, List.set_cons_succ] at hs2
            replace Hx := hide (Hx.out.trans (below_setD (below_setD (Below.refl wr.heap.size w12) hqz 0 (.int .i64 0)) hqz 1 (.int .i64 0)))
            obtain ⟨w13, hw13⟩ : ∃ W, W = (w12.setCell ⟨gq, 0, none⟩ (.int .i64 0)).setCell ⟨gq, 1, none⟩ (.int .i64 0) := ⟨_, rfl⟩
            rw [← hw13] at hs2 Hx ⊢
            replace Hq9 := hide hs2
            clear hw13 hs2
            refine hK.out _ _ ?_ (fun hHeld2 => ?_)
            · exact ⟨(Hx.out.cell (p := ⟨gT, 0, none⟩) tl).trans t0, (Hx.out.cell (p := ⟨gT, 1, none⟩) tl).trans t1, (Hx.out.cell (p := ⟨gT, 2, none⟩) tl).trans t2, (Hx.out.cell (p := ⟨gT, 3, none⟩) tl).trans t3, (Hx.out.cell (p := ⟨b, off + k, none⟩) gb).trans g0⟩
            clear hK K hHeld
            try simp only [Act.put, List.setIfInBounds_toArray, List.set_cons_zero, List.set_cons_succ]
            have hHeld := hHeld2; clear hHeld2
            have q0 := Hq9.out.cell 0
            have q1 := Hq9.out.cell 1
            have ql := Hq9.out.lt
            simp only [List.getElem?_cons_zero, List.getElem?_cons_succ] at q0 q1
            refine wpAnyH_done (by kernel_rfl) ?_ _
            clear hHeld t0 t1 t2 t3 x_0 x_1 g0
            go_wp2_with fail
            go_roundw
            case rel => exact ⟨k + 1, by go_num, Hb9.out.trans (Hx.out.mono Hb9.out.size)⟩
            case measure => simp [intOf]; omega
      subst hoc
      have hov2 := Hov.out rfl
      go_wp2_with fail
      have Kbl := Hbl
      have Kb6 := Hb6
      have K9 := hide (Below.refl w9.heap.size w9)
      have Kt := Ht
      have Kx_ := Hx_
      clear t0 t1 t2 t3 c_0 c_1 o_0 o_1 x_0 x_1 y_0 y_1 tl c_l o_l x_l y_l
      go_loopw [15] (fun i wr => ∃ k : Nat, i = .int .i64 k ∧ Below w9.heap.size w9 wr) (fun i _ => xn - (intOf i).toNat)
      case atStart => exact ⟨0, rfl, Below.refl _ _⟩
      case round =>
        obtain ⟨k, rfl, hb⟩ := hrel
        replace Hbl := hide (Kbl.out.trans (hb.mono Kbl.out.size))
        replace Hb6 := hide (Kb6.out.trans (hb.mono Kb6.out.size))
        have Hb9 := hide hb
        clear hb
        replace Ht := hide (Kt.out.keep Hb9.out)
        replace Hx_ := hide (Kx_.out.keep Hb9.out)
        have t0 := Ht.out.cell 0
        have t1 := Ht.out.cell 1
        have t2 := Ht.out.cell 2
        have t3 := Ht.out.cell 3
        have tl := Ht.out.lt
        have x_0 := Hx_.out.cell 0
        have x_1 := Hx_.out.cell 1
        have x_l := Hx_.out.lt
        simp only [List.getElem?_cons_zero, List.getElem?_cons_succ] at t0 t1 t2 t3 x_0 x_1
        by_cases hlt : k < xn
        rotate_left
        · have hki : ¬ (k : Int) < (xn : Int) := by omega
          go_wp2_with fail
          go_ret
          exact ⟨ret_bool (by simp), Hbl.out⟩
        by_cases hxe : xe = 0
        rotate_left
        · have := Hexp.out.2 hxe
          omega
        subst hxe
        have hki : (k : Int) < (xn : Int) := by omega
        obtain ⟨L, hL, hrd⟩ := Hexp.out.1 rfl
        have hxl := hrd.low
        obtain ⟨b, off, y, B1, m1, d1, rfl, hy, g0, r1⟩ := (hrd.keep Hb6.out).sl hlt
        rw [List.getElem?_map] at hy
        obtain ⟨x, hx, rfl⟩ := Option.map_eq_some_iff.1 hy
        have hct := fun W (hW : Below wr.heap.size wr W) => Hcv.out B1 m1 d1 (factsF x) W (H.out.keep (Hbl.out.trans (hW.mono Hbl.out.size))) (Hl.out.keep (Hbl.out.trans (hW.mono Hbl.out.size))) (r1.keep hW)
        rw [Hcov.out x ((hL.all.mem x).1 (List.mem_of_getElem? hx))] at hct
        unfold covV fault at hct
        dsimp only at hct
        have Hct := hide hct
        obtain ⟨fl, hfl⟩ : ∃ z, z = (factsF x).length := ⟨_, rfl⟩
        clear hct hx hy hL hrd r1 hfl
        have gb := World.block_lt_of_cell? wr _ g0
        go_upto_region 14 with (fail)
        obtain ⟨V, hV⟩ : ∃ W, W = wr.drew := ⟨_, rfl⟩
        have hbV : Below wr.heap.size wr V := by rw [hV]; exact (Below.refl _ _).drew
        refine wp_region_held_drew (S := (fun w' => w'.cell? ⟨gT, 0, none⟩ = some (.int .i64 T.facts) ∧ w'.cell? ⟨gT, 1, none⟩ = some (.slice I nI cI) ∧ w'.cell? ⟨gT, 2, none⟩ = some (.slice G nG cG) ∧ w'.cell? ⟨gT, 3, none⟩ = some (.slice O nO cO) ∧ w'.cell? ⟨b, off + k, none⟩ = some (.slice B1 m1 d1))) (by kernel_rfl) ?_ (fun hHeld => ?_)
        · exact ⟨t0, t1, t2, t3, g0⟩
        rw [← hV] at hHeld ⊢
        clear hV
        refine takeR (i := 0) (v := ?_) (some 76) rfl rfl (by kernel_rfl) (by kernel_rfl) (by kernel_rfl) (fun _ _ _ h => h) (Or.inl ⟨by rfl, ?_⟩) (by assumption) ?_
        rotate_left
        · intro w hSw; (try dsimp only at hSw); obtain ⟨s1, s2, s3, s4, s5⟩ := hSw; first | (go_simp; done) | (go_simp; with_reducible rfl)
        try simp only [Act.put, List.setIfInBounds_toArray, List.set_cons_zero, List.set_cons_succ]
        refine takeR (i := 1) (v := ?_) (some 77) rfl rfl (by kernel_rfl) (by kernel_rfl) (by kernel_rfl) (fun _ _ _ h => h) (Or.inl ⟨by rfl, ?_⟩) (by assumption) ?_
        rotate_left
        · intro w hSw; (try dsimp only at hSw); obtain ⟨s1, s2, s3, s4, s5⟩ := hSw; first | (go_simp; done) | (go_simp; with_reducible rfl)
        try simp only [Act.put, List.setIfInBounds_toArray, List.set_cons_zero, List.set_cons_succ]
        refine takeR (i := 2) (v := ?_) (some 78) rfl rfl (by kernel_rfl) (by kernel_rfl) (by kernel_rfl) (fun _ _ _ h => h) (Or.inl ⟨by rfl, ?_⟩) (by assumption) ?_
        rotate_left
        · intro w hSw; (try dsimp only at hSw); obtain ⟨s1, s2, s3, s4, s5⟩ := hSw; first | (go_simp; done) | (go_simp; with_reducible rfl)
        try simp only [Act.put, List.setIfInBounds_toArray, List.set_cons_zero, List.set_cons_succ]
        refine takeR (i := 3) (v := ?_) (some 79) rfl rfl (by kernel_rfl) (by kernel_rfl) (by kernel_rfl) (fun _ _ _ h => h) (Or.inl ⟨by rfl, ?_⟩) (by assumption) ?_
        rotate_left
        · intro w hSw; (try dsimp only at hSw); obtain ⟨s1, s2, s3, s4, s5⟩ := hSw; first | (go_simp; done) | (go_simp; with_reducible rfl)
        try simp only [Act.put, List.setIfInBounds_toArray, List.set_cons_zero, List.set_cons_succ]
        refine takeR (i := 4) (v := ?_) (some 80) rfl rfl (by kernel_rfl) (by kernel_rfl) (by kernel_rfl) (fun _ _ _ h => h) (Or.inl ⟨by rfl, ?_⟩) (by assumption) ?_
        rotate_left
        · intro w hSw; (try dsimp only at hSw); obtain ⟨s1, s2, s3, s4, s5⟩ := hSw; first | (go_simp; done) | (go_simp; with_reducible rfl)
        try simp only [Act.put, List.setIfInBounds_toArray, List.set_cons_zero, List.set_cons_succ]
        refine takeR (i := 5) (v := ?_) (some 81) rfl rfl (by kernel_rfl) (by kernel_rfl) (by kernel_rfl) (fun _ _ _ h => h) (Or.inl ⟨by rfl, ?_⟩) (by assumption) ?_
        rotate_left
        · intro w hSw; (try dsimp only at hSw); obtain ⟨s1, s2, s3, s4, s5⟩ := hSw; first | (go_simp; done) | (go_simp; with_reducible rfl)
        try simp only [Act.put, List.setIfInBounds_toArray, List.set_cons_zero, List.set_cons_succ]
        refine wpAnyH_ready (rs := [6, 10]) (by kernel_rfl) (by simp) ?_
        refine AllReadyH.cons rfl (fun K hK => ?_) (AllReadyH.cons rfl (fun K hK => ?_) AllReadyH.nil)
        · go_simp
          refine (Hct.out V hbV).mono ?_
          rintro e w11 ⟨rfl, hb11⟩
          go_simp
          have Hx := hide (hbV.trans (hb11.mono hbV.size))
          refine hK.out _ _ ?_ (fun hHeld2 => ?_)
          · exact ⟨(Hx.out.cell (p := ⟨gT, 0, none⟩) tl).trans t0, (Hx.out.cell (p := ⟨gT, 1, none⟩) tl).trans t1, (Hx.out.cell (p := ⟨gT, 2, none⟩) tl).trans t2, (Hx.out.cell (p := ⟨gT, 3, none⟩) tl).trans t3, (Hx.out.cell (p := ⟨b, off + k, none⟩) gb).trans g0⟩
          clear hK K hHeld
          try simp only [Act.put, List.setIfInBounds_toArray, List.set_cons_zero, List.set_cons_succ]
          have hHeld := hHeld2; clear hHeld2
          refine takeR (i := 7) (v := ?_) (some 75) rfl rfl (by kernel_rfl) (by kernel_rfl) (by kernel_rfl) (fun _ _ _ h => h) (Or.inl ⟨by rfl, ?_⟩) (by assumption) ?_
          rotate_left
          · intro w hSw; (try dsimp only at hSw); obtain ⟨s1, s2, s3, s4, s5⟩ := hSw; first | (go_simp; done) | (go_simp; with_reducible rfl)
          try simp only [Act.put, List.setIfInBounds_toArray, List.set_cons_zero, List.set_cons_succ]
          refine takeR (i := 8) (v := ?_) (some 83) rfl rfl (by kernel_rfl) (by kernel_rfl) (by kernel_rfl) (fun _ _ _ h => h) (Or.inl ⟨by rfl, ?_⟩) (by assumption) ?_
          rotate_left
          · intro w hSw; (try dsimp only at hSw); obtain ⟨s1, s2, s3, s4, s5⟩ := hSw; first | (go_simp; done) | (go_simp; with_reducible rfl)
          try simp only [Act.put, List.setIfInBounds_toArray, List.set_cons_zero, List.set_cons_succ]
          refine takeR (i := 9) (v := ?_) (some 84) rfl rfl (by kernel_rfl) (by kernel_rfl) (by kernel_rfl) (fun _ _ _ h => h) (Or.inl ⟨by rfl, ?_⟩) (by assumption) ?_
          rotate_left
          · intro w hSw; (try dsimp only at hSw); obtain ⟨s1, s2, s3, s4, s5⟩ := hSw; first | (go_simp; done) | (go_simp; with_reducible rfl)
          try simp only [Act.put, List.setIfInBounds_toArray, List.set_cons_zero, List.set_cons_succ]
          refine wpAnyH_ready (rs := [10]) (by kernel_rfl) (by simp) ?_
          refine AllReadyH.cons rfl (fun K hK => ?_) AllReadyH.nil
          go_simp
          have hz11 := Hx.out.size
          have hq9 := Blk.new w11 29 [.int .i64 0, .int .i64 0]
          replace Hx := hide (Hx.out.trans ((Below.refl w11.heap.size w11).alloc (Nat.le_refl _) (.cells #[.int .i64 0, .int .i64 0] 29) |>.mono hz11))
          obtain ⟨gq, hgq⟩ : ∃ z, z = w11.heap.size := ⟨_, rfl⟩
          have hqz : wr.heap.size ≤ gq := by omega
          obtain ⟨w12, hw12⟩ : ∃ W, W = w11.alloc (.cells #[.int .i64 0, .int .i64 0] 29) := ⟨_, rfl⟩
          rw [← hgq] at hq9 ⊢
          rw [← hw12] at hq9 Hx ⊢
          have Hq9 := hide hq9
          have zq := hq9.frozen 0
          have zq1 := hq9.frozen 1
          have zl := hq9.lt
          clear hgq hw12 hq9
          refine hK.out _ _ ?_ (fun hHeld2 => ?_)
          · exact ⟨(Hx.out.cell (p := ⟨gT, 0, none⟩) tl).trans t0, (Hx.out.cell (p := ⟨gT, 1, none⟩) tl).trans t1, (Hx.out.cell (p := ⟨gT, 2, none⟩) tl).trans t2, (Hx.out.cell (p := ⟨gT, 3, none⟩) tl).trans t3, (Hx.out.cell (p := ⟨b, off + k, none⟩) gb).trans g0⟩
          clear hK K hHeld
          try simp only [Act.put, List.setIfInBounds_toArray, List.set_cons_zero, List.set_cons_succ]
          have hHeld := hHeld2; clear hHeld2
          refine takeR (i := 11) (v := ?_) (some 16) rfl rfl (by kernel_rfl) (by kernel_rfl) (by kernel_rfl) (fun _ _ _ h => h) (Or.inl ⟨by rfl, ?_⟩) (by assumption) ?_
          rotate_left
          · intro w hSw; (try dsimp only at hSw); obtain ⟨s1, s2, s3, s4, s5⟩ := hSw; first | (go_simp; done) | (go_simp; with_reducible rfl)
          try simp only [Act.put, List.setIfInBounds_toArray, List.set_cons_zero, List.set_cons_succ]
          refine wpAnyH_ready (rs := [12]) (by kernel_rfl) (by simp) ?_
          refine AllReadyH.cons rfl (fun K hK => ?_) AllReadyH.nil
          have qc0 := Hq9.out.cell 0
          have qc1 := Hq9.out.cell 1
          simp only [List.getElem?_cons_zero, List.getElem?_cons_succ] at qc0 qc1
          go_simp
          clear qc0 qc1
          have hs2 := (Hq9.out.set 0 (.int .i64 0)).set 1 (.int .i64 0)
          simp only [List.set_cons_zero, List.set_cons_succ] at hs2
          replace Hx := hide (Hx.out.trans (below_setD (below_setD (Below.refl wr.heap.size w12) hqz 0 (.int .i64 0)) hqz 1 (.int .i64 0)))
          obtain ⟨w13, hw13⟩ : ∃ W, W = (w12.setCell ⟨gq, 0, none⟩ (.int .i64 0)).setCell ⟨gq, 1, none⟩ (.int .i64 0) := ⟨_, rfl⟩
          rw [← hw13] at hs2 Hx ⊢
          replace Hq9 := hide hs2
          clear hw13 hs2
          refine hK.out _ _ ?_ (fun hHeld2 => ?_)
          · exact ⟨(Hx.out.cell (p := ⟨gT, 0, none⟩) tl).trans t0, (Hx.out.cell (p := ⟨gT, 1, none⟩) tl).trans t1, (Hx.out.cell (p := ⟨gT, 2, none⟩) tl).trans t2, (Hx.out.cell (p := ⟨gT, 3, none⟩) tl).trans t3, (Hx.out.cell (p := ⟨b, off + k, none⟩) gb).trans g0⟩
          clear hK K hHeld
          try simp only [Act.put, List.setIfInBounds_toArray, List.set_cons_zero, List.set_cons_succ]
          have hHeld := hHeld2; clear hHeld2
          have q0 := Hq9.out.cell 0
          have q1 := Hq9.out.cell 1
          have ql := Hq9.out.lt
          simp only [List.getElem?_cons_zero, List.getElem?_cons_succ] at q0 q1
          refine wpAnyH_done (by kernel_rfl) ?_ _
          clear hHeld t0 t1 t2 t3 x_0 x_1 g0
          go_wp2_with fail
          go_roundw
          case rel => exact ⟨k + 1, by go_num, Hb9.out.trans (Hx.out.mono Hb9.out.size)⟩
          case measure => simp [intOf]; omega
        · go_simp
          have hzV := hbV.size
          have hq9 := Blk.new V 29 [.int .i64 0, .int .i64 0]
          have Hx := hide (hbV.trans ((Below.refl V.heap.size V).alloc (Nat.le_refl _) (.cells #[.int .i64 0, .int .i64 0] 29) |>.mono hzV))
          obtain ⟨gq, hgq⟩ : ∃ z, z = V.heap.size := ⟨_, rfl⟩
          have hqz : wr.heap.size ≤ gq := by omega
          obtain ⟨w10, hw10⟩ : ∃ W, W = V.alloc (.cells #[.int .i64 0, .int .i64 0] 29) := ⟨_, rfl⟩
          rw [← hgq] at hq9 ⊢
          rw [← hw10] at hq9 Hx ⊢
          have Hq9 := hide hq9
          clear hgq hw10 hq9
          refine hK.out _ _ ?_ (fun hHeld2 => ?_)
          · exact ⟨(Hx.out.cell (p := ⟨gT, 0, none⟩) tl).trans t0, (Hx.out.cell (p := ⟨gT, 1, none⟩) tl).trans t1, (Hx.out.cell (p := ⟨gT, 2, none⟩) tl).trans t2, (Hx.out.cell (p := ⟨gT, 3, none⟩) tl).trans t3, (Hx.out.cell (p := ⟨b, off + k, none⟩) gb).trans g0⟩
          clear hK K hHeld
          try simp only [Act.put, List.setIfInBounds_toArray, List.set_cons_zero, List.set_cons_succ]
          have hHeld := hHeld2; clear hHeld2
          refine wpAnyH_ready (rs := [6]) (by kernel_rfl) (by simp) ?_
          refine AllReadyH.cons rfl (fun K hK => ?_) AllReadyH.nil
          go_simp
          refine (Hct.out w10 Hx.out).mono ?_
          rintro e w12 ⟨rfl, hb12⟩
          go_simp
          replace Hx := hide (Hx.out.trans (hb12.mono Hx.out.size))
          replace Hq9 := hide (Hq9.out.keep hb12)
          have zq := Hq9.out.frozen 0
          have zq1 := Hq9.out.frozen 1
          have zl := Hq9.out.lt
          refine hK.out _ _ ?_ (fun hHeld2 => ?_)
          · exact ⟨(Hx.out.cell (p := ⟨gT, 0, none⟩) tl).trans t0, (Hx.out.cell (p := ⟨gT, 1, none⟩) tl).trans t1, (Hx.out.cell (p := ⟨gT, 2, none⟩) tl).trans t2, (Hx.out.cell (p := ⟨gT, 3, none⟩) tl).trans t3, (Hx.out.cell (p := ⟨b, off + k, none⟩) gb).trans g0⟩
          clear hK K hHeld
          try simp only [Act.put, List.setIfInBounds_toArray, List.set_cons_zero, List.set_cons_succ]
          have hHeld := hHeld2; clear hHeld2
          refine takeR (i := 7) (v := ?_) (some 75) rfl rfl (by kernel_rfl) (by kernel_rfl) (by kernel_rfl) (fun _ _ _ h => h) (Or.inl ⟨by rfl, ?_⟩) (by assumption) ?_
          rotate_left
          · intro w hSw; (try dsimp only at hSw); obtain ⟨s1, s2, s3, s4, s5⟩ := hSw; first | (go_simp; done) | (go_simp; with_reducible rfl)
          try simp only [Act.put, List.setIfInBounds_toArray, List.set_cons_zero, List.set_cons_succ]
          refine takeR (i := 8) (v := ?_) (some 83) rfl rfl (by kernel_rfl) (by kernel_rfl) (by kernel_rfl) (fun _ _ _ h => h) (Or.inl ⟨by rfl, ?_⟩) (by assumption) ?_
          rotate_left
          · intro w hSw; (try dsimp only at hSw); obtain ⟨s1, s2, s3, s4, s5⟩ := hSw; first | (go_simp; done) | (go_simp; with_reducible rfl)
          try simp only [Act.put, List.setIfInBounds_toArray, List.set_cons_zero, List.set_cons_succ]
          refine takeR (i := 9) (v := ?_) (some 84) rfl rfl (by kernel_rfl) (by kernel_rfl) (by kernel_rfl) (fun _ _ _ h => h) (Or.inl ⟨by rfl, ?_⟩) (by assumption) ?_
          rotate_left
          · intro w hSw; (try dsimp only at hSw); obtain ⟨s1, s2, s3, s4, s5⟩ := hSw; first | (go_simp; done) | (go_simp; with_reducible rfl)
          try simp only [Act.put, List.setIfInBounds_toArray, List.set_cons_zero, List.set_cons_succ]
          refine takeR (i := 11) (v := ?_) (some 16) rfl rfl (by kernel_rfl) (by kernel_rfl) (by kernel_rfl) (fun _ _ _ h => h) (Or.inl ⟨by rfl, ?_⟩) (by assumption) ?_
          rotate_left
          · intro w hSw; (try dsimp only at hSw); obtain ⟨s1, s2, s3, s4, s5⟩ := hSw; first | (go_simp; done) | (go_simp; with_reducible rfl)
          try simp only [Act.put, List.setIfInBounds_toArray, List.set_cons_zero, List.set_cons_succ]
          refine wpAnyH_ready (rs := [12]) (by kernel_rfl) (by simp) ?_
          refine AllReadyH.cons rfl (fun K hK => ?_) AllReadyH.nil
          have qc0 := Hq9.out.cell 0
          have qc1 := Hq9.out.cell 1
          simp only [List.getElem?_cons_zero, List.getElem?_cons_succ] at qc0 qc1
          go_simp
          clear qc0 qc1
          have hs2 := (Hq9.out.set 0 (.int .i64 0)).set 1 (.int .i64 0)
          simp only [List.set_cons_zero, List.set_cons_succ] at hs2
          replace Hx := hide (Hx.out.trans (below_setD (below_setD (Below.refl wr.heap.size w12) hqz 0 (.int .i64 0)) hqz 1 (.int .i64 0)))
          obtain ⟨w13, hw13⟩ : ∃ W, W = (w12.setCell ⟨gq, 0, none⟩ (.int .i64 0)).setCell ⟨gq, 1, none⟩ (.int .i64 0) := ⟨_, rfl⟩
          rw [← hw13] at hs2 Hx ⊢
          replace Hq9 := hide hs2
          clear hw13 hs2
          refine hK.out _ _ ?_ (fun hHeld2 => ?_)
          · exact ⟨(Hx.out.cell (p := ⟨gT, 0, none⟩) tl).trans t0, (Hx.out.cell (p := ⟨gT, 1, none⟩) tl).trans t1, (Hx.out.cell (p := ⟨gT, 2, none⟩) tl).trans t2, (Hx.out.cell (p := ⟨gT, 3, none⟩) tl).trans t3, (Hx.out.cell (p := ⟨b, off + k, none⟩) gb).trans g0⟩
          clear hK K hHeld
          try simp only [Act.put, List.setIfInBounds_toArray, List.set_cons_zero, List.set_cons_succ]
          have hHeld := hHeld2; clear hHeld2
          have q0 := Hq9.out.cell 0
          have q1 := Hq9.out.cell 1
          have ql := Hq9.out.lt
          simp only [List.getElem?_cons_zero, List.getElem?_cons_succ] at q0 q1
          refine wpAnyH_done (by kernel_rfl) ?_ _
          clear hHeld t0 t1 t2 t3 x_0 x_1 g0
          go_wp2_with fail
          go_roundw
          case rel => exact ⟨k + 1, by go_num, Hb9.out.trans (Hx.out.mono Hb9.out.size)⟩
          case measure => simp [intOf]; omega
    subst hsc
    by_cases hoc : oc = 0
    rotate_left
    · have hneo : (oc == 0) = false := by rw [beq_eq_false_iff_ne]; exact hoc
      go_wp2_with fail
      have Kbl := Hbl
      have Kb6 := Hb6
      have K9 := hide (Below.refl w9.heap.size w9)
      have Kt := Ht
      have Kx_ := Hx_
      clear t0 t1 t2 t3 c_0 c_1 o_0 o_1 x_0 x_1 y_0 y_1 tl c_l o_l x_l y_l
      go_loopw [15] (fun i wr => ∃ k : Nat, i = .int .i64 k ∧ Below w9.heap.size w9 wr) (fun i _ => xn - (intOf i).toNat)
      case atStart => exact ⟨0, rfl, Below.refl _ _⟩
      case round =>
        obtain ⟨k, rfl, hb⟩ := hrel
        replace Hbl := hide (Kbl.out.trans (hb.mono Kbl.out.size))
        replace Hb6 := hide (Kb6.out.trans (hb.mono Kb6.out.size))
        have Hb9 := hide hb
        clear hb
        replace Ht := hide (Kt.out.keep Hb9.out)
        replace Hx_ := hide (Kx_.out.keep Hb9.out)
        have t0 := Ht.out.cell 0
        have t1 := Ht.out.cell 1
        have t2 := Ht.out.cell 2
        have t3 := Ht.out.cell 3
        have tl := Ht.out.lt
        have x_0 := Hx_.out.cell 0
        have x_1 := Hx_.out.cell 1
        have x_l := Hx_.out.lt
        simp only [List.getElem?_cons_zero, List.getElem?_cons_succ] at t0 t1 t2 t3 x_0 x_1
        by_cases hlt : k < xn
        rotate_left
        · have hki : ¬ (k : Int) < (xn : Int) := by omega
          go_wp2_with fail
          go_ret
          exact ⟨ret_bool (by simp), Hbl.out⟩
        by_cases hxe : xe = 0
        rotate_left
        · have := Hexp.out.2 hxe
          omega
        subst hxe
        have hki : (k : Int) < (xn : Int) := by omega
        obtain ⟨L, hL, hrd⟩ := Hexp.out.1 rfl
        have hxl := hrd.low
        obtain ⟨b, off, y, B1, m1, d1, rfl, hy, g0, r1⟩ := (hrd.keep Hb6.out).sl hlt
        rw [List.getElem?_map] at hy
        obtain ⟨x, hx, rfl⟩ := Option.map_eq_some_iff.1 hy
        have hct := fun W (hW : Below wr.heap.size wr W) => Hcv.out B1 m1 d1 (factsF x) W (H.out.keep (Hbl.out.trans (hW.mono Hbl.out.size))) (Hl.out.keep (Hbl.out.trans (hW.mono Hbl.out.size))) (r1.keep hW)
        rw [Hcov.out x ((hL.all.mem x).1 (List.mem_of_getElem? hx))] at hct
        unfold covV fault at hct
        dsimp only at hct
        have Hct := hide hct
        obtain ⟨fl, hfl⟩ : ∃ z, z = (factsF x).length := ⟨_, rfl⟩
        clear hct hx hy hL hrd r1 hfl
        have gb := World.block_lt_of_cell? wr _ g0
        go_upto_region 14 with (fail)
        obtain ⟨V, hV⟩ : ∃ W, W = wr.drew := ⟨_, rfl⟩
        have hbV : Below wr.heap.size wr V := by rw [hV]; exact (Below.refl _ _).drew
        refine wp_region_held_drew (S := (fun w' => w'.cell? ⟨gT, 0, none⟩ = some (.int .i64 T.facts) ∧ w'.cell? ⟨gT, 1, none⟩ = some (.slice I nI cI) ∧ w'.cell? ⟨gT, 2, none⟩ = some (.slice G nG cG) ∧ w'.cell? ⟨gT, 3, none⟩ = some (.slice O nO cO) ∧ w'.cell? ⟨b, off + k, none⟩ = some (.slice B1 m1 d1))) (by kernel_rfl) ?_ (fun hHeld => ?_)
        · exact ⟨t0, t1, t2, t3, g0⟩
        rw [← hV] at hHeld ⊢
        clear hV
        refine takeR (i := 0) (v := ?_) (some 76) rfl rfl (by kernel_rfl) (by kernel_rfl) (by kernel_rfl) (fun _ _ _ h => h) (Or.inl ⟨by rfl, ?_⟩) (by assumption) ?_
        rotate_left
        · intro w hSw; (try dsimp only at hSw); obtain ⟨s1, s2, s3, s4, s5⟩ := hSw; first | (go_simp; done) | (go_simp; with_reducible rfl)
        try simp only [Act.put, List.setIfInBounds_toArray, List.set_cons_zero, List.set_cons_succ]
        refine takeR (i := 1) (v := ?_) (some 77) rfl rfl (by kernel_rfl) (by kernel_rfl) (by kernel_rfl) (fun _ _ _ h => h) (Or.inl ⟨by rfl, ?_⟩) (by assumption) ?_
        rotate_left
        · intro w hSw; (try dsimp only at hSw); obtain ⟨s1, s2, s3, s4, s5⟩ := hSw; first | (go_simp; done) | (go_simp; with_reducible rfl)
        try simp only [Act.put, List.setIfInBounds_toArray, List.set_cons_zero, List.set_cons_succ]
        refine takeR (i := 2) (v := ?_) (some 78) rfl rfl (by kernel_rfl) (by kernel_rfl) (by kernel_rfl) (fun _ _ _ h => h) (Or.inl ⟨by rfl, ?_⟩) (by assumption) ?_
        rotate_left
        · intro w hSw; (try dsimp only at hSw); obtain ⟨s1, s2, s3, s4, s5⟩ := hSw; first | (go_simp; done) | (go_simp; with_reducible rfl)
        try simp only [Act.put, List.setIfInBounds_toArray, List.set_cons_zero, List.set_cons_succ]
        refine takeR (i := 3) (v := ?_) (some 79) rfl rfl (by kernel_rfl) (by kernel_rfl) (by kernel_rfl) (fun _ _ _ h => h) (Or.inl ⟨by rfl, ?_⟩) (by assumption) ?_
        rotate_left
        · intro w hSw; (try dsimp only at hSw); obtain ⟨s1, s2, s3, s4, s5⟩ := hSw; first | (go_simp; done) | (go_simp; with_reducible rfl)
        try simp only [Act.put, List.setIfInBounds_toArray, List.set_cons_zero, List.set_cons_succ]
        refine takeR (i := 4) (v := ?_) (some 80) rfl rfl (by kernel_rfl) (by kernel_rfl) (by kernel_rfl) (fun _ _ _ h => h) (Or.inl ⟨by rfl, ?_⟩) (by assumption) ?_
        rotate_left
        · intro w hSw; (try dsimp only at hSw); obtain ⟨s1, s2, s3, s4, s5⟩ := hSw; first | (go_simp; done) | (go_simp; with_reducible rfl)
        try simp only [Act.put, List.setIfInBounds_toArray, List.set_cons_zero, List.set_cons_succ]
        refine takeR (i := 5) (v := ?_) (some 81) rfl rfl (by kernel_rfl) (by kernel_rfl) (by kernel_rfl) (fun _ _ _ h => h) (Or.inl ⟨by rfl, ?_⟩) (by assumption) ?_
        rotate_left
        · intro w hSw; (try dsimp only at hSw); obtain ⟨s1, s2, s3, s4, s5⟩ := hSw; first | (go_simp; done) | (go_simp; with_reducible rfl)
        try simp only [Act.put, List.setIfInBounds_toArray, List.set_cons_zero, List.set_cons_succ]
        refine wpAnyH_ready (rs := [6, 10]) (by kernel_rfl) (by simp) ?_
        refine AllReadyH.cons rfl (fun K hK => ?_) (AllReadyH.cons rfl (fun K hK => ?_) AllReadyH.nil)
        · go_simp
          refine (Hct.out V hbV).mono ?_
          rintro e w11 ⟨rfl, hb11⟩
          go_simp
          have Hx := hide (hbV.trans (hb11.mono hbV.size))
          refine hK.out _ _ ?_ (fun hHeld2 => ?_)
          · exact ⟨(Hx.out.cell (p := ⟨gT, 0, none⟩) tl).trans t0, (Hx.out.cell (p := ⟨gT, 1, none⟩) tl).trans t1, (Hx.out.cell (p := ⟨gT, 2, none⟩) tl).trans t2, (Hx.out.cell (p := ⟨gT, 3, none⟩) tl).trans t3, (Hx.out.cell (p := ⟨b, off + k, none⟩) gb).trans g0⟩
          clear hK K hHeld
          try simp only [Act.put, List.setIfInBounds_toArray, List.set_cons_zero, List.set_cons_succ]
          have hHeld := hHeld2; clear hHeld2
          refine takeR (i := 7) (v := ?_) (some 75) rfl rfl (by kernel_rfl) (by kernel_rfl) (by kernel_rfl) (fun _ _ _ h => h) (Or.inl ⟨by rfl, ?_⟩) (by assumption) ?_
          rotate_left
          · intro w hSw; (try dsimp only at hSw); obtain ⟨s1, s2, s3, s4, s5⟩ := hSw; first | (go_simp; done) | (go_simp; with_reducible rfl)
          try simp only [Act.put, List.setIfInBounds_toArray, List.set_cons_zero, List.set_cons_succ]
          refine takeR (i := 8) (v := ?_) (some 83) rfl rfl (by kernel_rfl) (by kernel_rfl) (by kernel_rfl) (fun _ _ _ h => h) (Or.inl ⟨by rfl, ?_⟩) (by assumption) ?_
          rotate_left
          · intro w hSw; (try dsimp only at hSw); obtain ⟨s1, s2, s3, s4, s5⟩ := hSw; first | (go_simp; done) | (go_simp; with_reducible rfl)
          try simp only [Act.put, List.setIfInBounds_toArray, List.set_cons_zero, List.set_cons_succ]
          refine takeR (i := 9) (v := ?_) (some 84) rfl rfl (by kernel_rfl) (by kernel_rfl) (by kernel_rfl) (fun _ _ _ h => h) (Or.inl ⟨by rfl, ?_⟩) (by assumption) ?_
          rotate_left
          · intro w hSw; (try dsimp only at hSw); obtain ⟨s1, s2, s3, s4, s5⟩ := hSw; first | (go_simp; done) | (go_simp; with_reducible rfl)
          try simp only [Act.put, List.setIfInBounds_toArray, List.set_cons_zero, List.set_cons_succ]
          refine wpAnyH_ready (rs := [10]) (by kernel_rfl) (by simp) ?_
          refine AllReadyH.cons rfl (fun K hK => ?_) AllReadyH.nil
          go_simp
          have hz11 := Hx.out.size
          have hq9 := Blk.new w11 29 [.int .i64 0, .int .i64 0]
          replace Hx := hide (Hx.out.trans ((Below.refl w11.heap.size w11).alloc (Nat.le_refl _) (.cells #[.int .i64 0, .int .i64 0] 29) |>.mono hz11))
          obtain ⟨gq, hgq⟩ : ∃ z, z = w11.heap.size := ⟨_, rfl⟩
          have hqz : wr.heap.size ≤ gq := by omega
          obtain ⟨w12, hw12⟩ : ∃ W, W = w11.alloc (.cells #[.int .i64 0, .int .i64 0] 29) := ⟨_, rfl⟩
          rw [← hgq] at hq9 ⊢
          rw [← hw12] at hq9 Hx ⊢
          have Hq9 := hide hq9
          have zq := hq9.frozen 0
          have zq1 := hq9.frozen 1
          have zl := hq9.lt
          clear hgq hw12 hq9
          refine hK.out _ _ ?_ (fun hHeld2 => ?_)
          · exact ⟨(Hx.out.cell (p := ⟨gT, 0, none⟩) tl).trans t0, (Hx.out.cell (p := ⟨gT, 1, none⟩) tl).trans t1, (Hx.out.cell (p := ⟨gT, 2, none⟩) tl).trans t2, (Hx.out.cell (p := ⟨gT, 3, none⟩) tl).trans t3, (Hx.out.cell (p := ⟨b, off + k, none⟩) gb).trans g0⟩
          clear hK K hHeld
          try simp only [Act.put, List.setIfInBounds_toArray, List.set_cons_zero, List.set_cons_succ]
          have hHeld := hHeld2; clear hHeld2
          refine takeR (i := 11) (v := ?_) (some 16) rfl rfl (by kernel_rfl) (by kernel_rfl) (by kernel_rfl) (fun _ _ _ h => h) (Or.inl ⟨by rfl, ?_⟩) (by assumption) ?_
          rotate_left
          · intro w hSw; (try dsimp only at hSw); obtain ⟨s1, s2, s3, s4, s5⟩ := hSw; first | (go_simp; done) | (go_simp; with_reducible rfl)
          try simp only [Act.put, List.setIfInBounds_toArray, List.set_cons_zero, List.set_cons_succ]
          refine wpAnyH_ready (rs := [12]) (by kernel_rfl) (by simp) ?_
          refine AllReadyH.cons rfl (fun K hK => ?_) AllReadyH.nil
          have qc0 := Hq9.out.cell 0
          have qc1 := Hq9.out.cell 1
          simp only [List.getElem?_cons_zero, List.getElem?_cons_succ] at qc0 qc1
          go_simp
          clear qc0 qc1
          have hs2 := (Hq9.out.set 0 (.int .i64 0)).set 1 (.int .i64 0)
          simp only [List.set_cons_zero, List.set_cons_succ] at hs2
          replace Hx := hide (Hx.out.trans (below_setD (below_setD (Below.refl wr.heap.size w12) hqz 0 (.int .i64 0)) hqz 1 (.int .i64 0)))
          obtain ⟨w13, hw13⟩ : ∃ W, W = (w12.setCell ⟨gq, 0, none⟩ (.int .i64 0)).setCell ⟨gq, 1, none⟩ (.int .i64 0) := ⟨_, rfl⟩
          rw [← hw13] at hs2 Hx ⊢
          replace Hq9 := hide hs2
          clear hw13 hs2
          refine hK.out _ _ ?_ (fun hHeld2 => ?_)
          · exact ⟨(Hx.out.cell (p := ⟨gT, 0, none⟩) tl).trans t0, (Hx.out.cell (p := ⟨gT, 1, none⟩) tl).trans t1, (Hx.out.cell (p := ⟨gT, 2, none⟩) tl).trans t2, (Hx.out.cell (p := ⟨gT, 3, none⟩) tl).trans t3, (Hx.out.cell (p := ⟨b, off + k, none⟩) gb).trans g0⟩
          clear hK K hHeld
          try simp only [Act.put, List.setIfInBounds_toArray, List.set_cons_zero, List.set_cons_succ]
          have hHeld := hHeld2; clear hHeld2
          have q0 := Hq9.out.cell 0
          have q1 := Hq9.out.cell 1
          have ql := Hq9.out.lt
          simp only [List.getElem?_cons_zero, List.getElem?_cons_succ] at q0 q1
          refine wpAnyH_done (by kernel_rfl) ?_ _
          clear hHeld t0 t1 t2 t3 x_0 x_1 g0
          go_wp2_with fail
          go_roundw
          case rel => exact ⟨k + 1, by go_num, Hb9.out.trans (Hx.out.mono Hb9.out.size)⟩
          case measure => simp [intOf]; omega
        · go_simp
          have hzV := hbV.size
          have hq9 := Blk.new V 29 [.int .i64 0, .int .i64 0]
          have Hx := hide (hbV.trans ((Below.refl V.heap.size V).alloc (Nat.le_refl _) (.cells #[.int .i64 0, .int .i64 0] 29) |>.mono hzV))
          obtain ⟨gq, hgq⟩ : ∃ z, z = V.heap.size := ⟨_, rfl⟩
          have hqz : wr.heap.size ≤ gq := by omega
          obtain ⟨w10, hw10⟩ : ∃ W, W = V.alloc (.cells #[.int .i64 0, .int .i64 0] 29) := ⟨_, rfl⟩
          rw [← hgq] at hq9 ⊢
          rw [← hw10] at hq9 Hx ⊢
          have Hq9 := hide hq9
          clear hgq hw10 hq9
          refine hK.out _ _ ?_ (fun hHeld2 => ?_)
          · exact ⟨(Hx.out.cell (p := ⟨gT, 0, none⟩) tl).trans t0, (Hx.out.cell (p := ⟨gT, 1, none⟩) tl).trans t1, (Hx.out.cell (p := ⟨gT, 2, none⟩) tl).trans t2, (Hx.out.cell (p := ⟨gT, 3, none⟩) tl).trans t3, (Hx.out.cell (p := ⟨b, off + k, none⟩) gb).trans g0⟩
          clear hK K hHeld
          try simp only [Act.put, List.setIfInBounds_toArray, List.set_cons_zero, List.set_cons_succ]
          have hHeld := hHeld2; clear hHeld2
          refine wpAnyH_ready (rs := [6]) (by kernel_rfl) (by simp) ?_
          refine AllReadyH.cons rfl (fun K hK => ?_) AllReadyH.nil
          go_simp
          refine (Hct.out w10 Hx.out).mono ?_
          rintro e w12 ⟨rfl, hb12⟩
          go_simp
          replace Hx := hide (Hx.out.trans (hb12.mono Hx.out.size))
          replace Hq9 := hide (Hq9.out.keep hb12)
          have zq := Hq9.out.frozen 0
          have zq1 := Hq9.out.frozen 1
          have zl := Hq9.out.lt
          refine hK.out _ _ ?_ (fun hHeld2 => ?_)
          · exact ⟨(Hx.out.cell (p := ⟨gT, 0, none⟩) tl).trans t0, (Hx.out.cell (p := ⟨gT, 1, none⟩) tl).trans t1, (Hx.out.cell (p := ⟨gT, 2, none⟩) tl).trans t2, (Hx.out.cell (p := ⟨gT, 3, none⟩) tl).trans t3, (Hx.out.cell (p := ⟨b, off + k, none⟩) gb).trans g0⟩
          clear hK K hHeld
          try simp only [Act.put, List.setIfInBounds_toArray, List.set_cons_zero, List.set_cons_succ]
          have hHeld := hHeld2; clear hHeld2
          refine takeR (i := 7) (v := ?_) (some 75) rfl rfl (by kernel_rfl) (by kernel_rfl) (by kernel_rfl) (fun _ _ _ h => h) (Or.inl ⟨by rfl, ?_⟩) (by assumption) ?_
          rotate_left
          · intro w hSw; (try dsimp only at hSw); obtain ⟨s1, s2, s3, s4, s5⟩ := hSw; first | (go_simp; done) | (go_simp; with_reducible rfl)
          try simp only [Act.put, List.setIfInBounds_toArray, List.set_cons_zero, List.set_cons_succ]
          refine takeR (i := 8) (v := ?_) (some 83) rfl rfl (by kernel_rfl) (by kernel_rfl) (by kernel_rfl) (fun _ _ _ h => h) (Or.inl ⟨by rfl, ?_⟩) (by assumption) ?_
          rotate_left
          · intro w hSw; (try dsimp only at hSw); obtain ⟨s1, s2, s3, s4, s5⟩ := hSw; first | (go_simp; done) | (go_simp; with_reducible rfl)
          try simp only [Act.put, List.setIfInBounds_toArray, List.set_cons_zero, List.set_cons_succ]
          refine takeR (i := 9) (v := ?_) (some 84) rfl rfl (by kernel_rfl) (by kernel_rfl) (by kernel_rfl) (fun _ _ _ h => h) (Or.inl ⟨by rfl, ?_⟩) (by assumption) ?_
          rotate_left
          · intro w hSw; (try dsimp only at hSw); obtain ⟨s1, s2, s3, s4, s5⟩ := hSw; first | (go_simp; done) | (go_simp; with_reducible rfl)
          try simp only [Act.put, List.setIfInBounds_toArray, List.set_cons_zero, List.set_cons_succ]
          refine takeR (i := 11) (v := ?_) (some 16) rfl rfl (by kernel_rfl) (by kernel_rfl) (by kernel_rfl) (fun _ _ _ h => h) (Or.inl ⟨by rfl, ?_⟩) (by assumption) ?_
          rotate_left
          · intro w hSw; (try dsimp only at hSw); obtain ⟨s1, s2, s3, s4, s5⟩ := hSw; first | (go_simp; done) | (go_simp; with_reducible rfl)
          try simp only [Act.put, List.setIfInBounds_toArray, List.set_cons_zero, List.set_cons_succ]
          refine wpAnyH_ready (rs := [12]) (by kernel_rfl) (by simp) ?_
          refine AllReadyH.cons rfl (fun K hK => ?_) AllReadyH.nil
          have qc0 := Hq9.out.cell 0
          have qc1 := Hq9.out.cell 1
          simp only [List.getElem?_cons_zero, List.getElem?_cons_succ] at qc0 qc1
          go_simp
          clear qc0 qc1
          have hs2 := (Hq9.out.set 0 (.int .i64 0)).set 1 (.int .i64 0)
          simp only [List.set_cons_zero, List.set_cons_succ] at hs2
          replace Hx := hide (Hx.out.trans (below_setD (below_setD (Below.refl wr.heap.size w12) hqz 0 (.int .i64 0)) hqz 1 (.int .i64 0)))
          obtain ⟨w13, hw13⟩ : ∃ W, W = (w12.setCell ⟨gq, 0, none⟩ (.int .i64 0)).setCell ⟨gq, 1, none⟩ (.int .i64 0) := ⟨_, rfl⟩
          rw [← hw13] at hs2 Hx ⊢
          replace Hq9 := hide hs2
          clear hw13 hs2
          refine hK.out _ _ ?_ (fun hHeld2 => ?_)
          · exact ⟨(Hx.out.cell (p := ⟨gT, 0, none⟩) tl).trans t0, (Hx.out.cell (p := ⟨gT, 1, none⟩) tl).trans t1, (Hx.out.cell (p := ⟨gT, 2, none⟩) tl).trans t2, (Hx.out.cell (p := ⟨gT, 3, none⟩) tl).trans t3, (Hx.out.cell (p := ⟨b, off + k, none⟩) gb).trans g0⟩
          clear hK K hHeld
          try simp only [Act.put, List.setIfInBounds_toArray, List.set_cons_zero, List.set_cons_succ]
          have hHeld := hHeld2; clear hHeld2
          have q0 := Hq9.out.cell 0
          have q1 := Hq9.out.cell 1
          have ql := Hq9.out.lt
          simp only [List.getElem?_cons_zero, List.getElem?_cons_succ] at q0 q1
          refine wpAnyH_done (by kernel_rfl) ?_ _
          clear hHeld t0 t1 t2 t3 x_0 x_1 g0
          go_wp2_with fail
          go_roundw
          case rel => exact ⟨k + 1, by go_num, Hb9.out.trans (Hx.out.mono Hb9.out.size)⟩
          case measure => simp [intOf]; omega
    subst hoc
    have hov2 := Hov.out rfl
    go_wp2_with fail
    have Kbl := Hbl
    have Kb6 := Hb6
    have K9 := hide (Below.refl w9.heap.size w9)
    have Kt := Ht
    have Kx_ := Hx_
    clear t0 t1 t2 t3 c_0 c_1 o_0 o_1 x_0 x_1 y_0 y_1 tl c_l o_l x_l y_l
    go_loopw [15] (fun i wr => ∃ k : Nat, i = .int .i64 k ∧ Below w9.heap.size w9 wr) (fun i _ => xn - (intOf i).toNat)
    case atStart => exact ⟨0, rfl, Below.refl _ _⟩
    case round =>
      obtain ⟨k, rfl, hb⟩ := hrel
      replace Hbl := hide (Kbl.out.trans (hb.mono Kbl.out.size))
      replace Hb6 := hide (Kb6.out.trans (hb.mono Kb6.out.size))
      have Hb9 := hide hb
      clear hb
      replace Ht := hide (Kt.out.keep Hb9.out)
      replace Hx_ := hide (Kx_.out.keep Hb9.out)
      have t0 := Ht.out.cell 0
      have t1 := Ht.out.cell 1
      have t2 := Ht.out.cell 2
      have t3 := Ht.out.cell 3
      have tl := Ht.out.lt
      have x_0 := Hx_.out.cell 0
      have x_1 := Hx_.out.cell 1
      have x_l := Hx_.out.lt
      simp only [List.getElem?_cons_zero, List.getElem?_cons_succ] at t0 t1 t2 t3 x_0 x_1
      by_cases hlt : k < xn
      rotate_left
      · have hki : ¬ (k : Int) < (xn : Int) := by omega
        go_wp2_with fail
        go_ret
        exact ⟨ret_bool (by simp), Hbl.out⟩
      by_cases hxe : xe = 0
      rotate_left
      · have := Hexp.out.2 hxe
        omega
      subst hxe
      have hki : (k : Int) < (xn : Int) := by omega
      obtain ⟨L, hL, hrd⟩ := Hexp.out.1 rfl
      have hxl := hrd.low
      obtain ⟨b, off, y, B1, m1, d1, rfl, hy, g0, r1⟩ := (hrd.keep Hb6.out).sl hlt
      rw [List.getElem?_map] at hy
      obtain ⟨x, hx, rfl⟩ := Option.map_eq_some_iff.1 hy
      have hct := fun W (hW : Below wr.heap.size wr W) => Hcv.out B1 m1 d1 (factsF x) W (H.out.keep (Hbl.out.trans (hW.mono Hbl.out.size))) (Hl.out.keep (Hbl.out.trans (hW.mono Hbl.out.size))) (r1.keep hW)
      rw [Hcov.out x ((hL.all.mem x).1 (List.mem_of_getElem? hx))] at hct
      unfold covV fault at hct
      dsimp only at hct
      have Hct := hide hct
      obtain ⟨fl, hfl⟩ : ∃ z, z = (factsF x).length := ⟨_, rfl⟩
      clear hct hx hy hL hrd r1 hfl
      have gb := World.block_lt_of_cell? wr _ g0
      go_upto_region 14 with (fail)
      obtain ⟨V, hV⟩ : ∃ W, W = wr.drew := ⟨_, rfl⟩
      have hbV : Below wr.heap.size wr V := by rw [hV]; exact (Below.refl _ _).drew
      refine wp_region_held_drew (S := (fun w' => w'.cell? ⟨gT, 0, none⟩ = some (.int .i64 T.facts) ∧ w'.cell? ⟨gT, 1, none⟩ = some (.slice I nI cI) ∧ w'.cell? ⟨gT, 2, none⟩ = some (.slice G nG cG) ∧ w'.cell? ⟨gT, 3, none⟩ = some (.slice O nO cO) ∧ w'.cell? ⟨b, off + k, none⟩ = some (.slice B1 m1 d1))) (by kernel_rfl) ?_ (fun hHeld => ?_)
      · exact ⟨t0, t1, t2, t3, g0⟩
      rw [← hV] at hHeld ⊢
      clear hV
      refine takeR (i := 0) (v := ?_) (some 76) rfl rfl (by kernel_rfl) (by kernel_rfl) (by kernel_rfl) (fun _ _ _ h => h) (Or.inl ⟨by rfl, ?_⟩) (by assumption) ?_
      rotate_left
      · intro w hSw; (try dsimp only at hSw); obtain ⟨s1, s2, s3, s4, s5⟩ := hSw; first | (go_simp; done) | (go_simp; with_reducible rfl)
      try simp only [Act.put, List.setIfInBounds_toArray, List.set_cons_zero, List.set_cons_succ]
      refine takeR (i := 1) (v := ?_) (some 77) rfl rfl (by kernel_rfl) (by kernel_rfl) (by kernel_rfl) (fun _ _ _ h => h) (Or.inl ⟨by rfl, ?_⟩) (by assumption) ?_
      rotate_left
      · intro w hSw; (try dsimp only at hSw); obtain ⟨s1, s2, s3, s4, s5⟩ := hSw; first | (go_simp; done) | (go_simp; with_reducible rfl)
      try simp only [Act.put, List.setIfInBounds_toArray, List.set_cons_zero, List.set_cons_succ]
      refine takeR (i := 2) (v := ?_) (some 78) rfl rfl (by kernel_rfl) (by kernel_rfl) (by kernel_rfl) (fun _ _ _ h => h) (Or.inl ⟨by rfl, ?_⟩) (by assumption) ?_
      rotate_left
      · intro w hSw; (try dsimp only at hSw); obtain ⟨s1, s2, s3, s4, s5⟩ := hSw; first | (go_simp; done) | (go_simp; with_reducible rfl)
      try simp only [Act.put, List.setIfInBounds_toArray, List.set_cons_zero, List.set_cons_succ]
      refine takeR (i := 3) (v := ?_) (some 79) rfl rfl (by kernel_rfl) (by kernel_rfl) (by kernel_rfl) (fun _ _ _ h => h) (Or.inl ⟨by rfl, ?_⟩) (by assumption) ?_
      rotate_left
      · intro w hSw; (try dsimp only at hSw); obtain ⟨s1, s2, s3, s4, s5⟩ := hSw; first | (go_simp; done) | (go_simp; with_reducible rfl)
      try simp only [Act.put, List.setIfInBounds_toArray, List.set_cons_zero, List.set_cons_succ]
      refine takeR (i := 4) (v := ?_) (some 80) rfl rfl (by kernel_rfl) (by kernel_rfl) (by kernel_rfl) (fun _ _ _ h => h) (Or.inl ⟨by rfl, ?_⟩) (by assumption) ?_
      rotate_left
      · intro w hSw; (try dsimp only at hSw); obtain ⟨s1, s2, s3, s4, s5⟩ := hSw; first | (go_simp; done) | (go_simp; with_reducible rfl)
      try simp only [Act.put, List.setIfInBounds_toArray, List.set_cons_zero, List.set_cons_succ]
      refine takeR (i := 5) (v := ?_) (some 81) rfl rfl (by kernel_rfl) (by kernel_rfl) (by kernel_rfl) (fun _ _ _ h => h) (Or.inl ⟨by rfl, ?_⟩) (by assumption) ?_
      rotate_left
      · intro w hSw; (try dsimp only at hSw); obtain ⟨s1, s2, s3, s4, s5⟩ := hSw; first | (go_simp; done) | (go_simp; with_reducible rfl)
      try simp only [Act.put, List.setIfInBounds_toArray, List.set_cons_zero, List.set_cons_succ]
      refine wpAnyH_ready (rs := [6, 10]) (by kernel_rfl) (by simp) ?_
      refine AllReadyH.cons rfl (fun K hK => ?_) (AllReadyH.cons rfl (fun K hK => ?_) AllReadyH.nil)
      · go_simp
        refine (Hct.out V hbV).mono ?_
        rintro e w11 ⟨rfl, hb11⟩
        go_simp
        have Hx := hide (hbV.trans (hb11.mono hbV.size))
        refine hK.out _ _ ?_ (fun hHeld2 => ?_)
        · exact ⟨(Hx.out.cell (p := ⟨gT, 0, none⟩) tl).trans t0, (Hx.out.cell (p := ⟨gT, 1, none⟩) tl).trans t1, (Hx.out.cell (p := ⟨gT, 2, none⟩) tl).trans t2, (Hx.out.cell (p := ⟨gT, 3, none⟩) tl).trans t3, (Hx.out.cell (p := ⟨b, off + k, none⟩) gb).trans g0⟩
        clear hK K hHeld
        try simp only [Act.put, List.setIfInBounds_toArray, List.set_cons_zero, List.set_cons_succ]
        have hHeld := hHeld2; clear hHeld2
        refine takeR (i := 7) (v := ?_) (some 75) rfl rfl (by kernel_rfl) (by kernel_rfl) (by kernel_rfl) (fun _ _ _ h => h) (Or.inl ⟨by rfl, ?_⟩) (by assumption) ?_
        rotate_left
        · intro w hSw; (try dsimp only at hSw); obtain ⟨s1, s2, s3, s4, s5⟩ := hSw; first | (go_simp; done) | (go_simp; with_reducible rfl)
        try simp only [Act.put, List.setIfInBounds_toArray, List.set_cons_zero, List.set_cons_succ]
        refine takeR (i := 8) (v := ?_) (some 83) rfl rfl (by kernel_rfl) (by kernel_rfl) (by kernel_rfl) (fun _ _ _ h => h) (Or.inl ⟨by rfl, ?_⟩) (by assumption) ?_
        rotate_left
        · intro w hSw; (try dsimp only at hSw); obtain ⟨s1, s2, s3, s4, s5⟩ := hSw; first | (go_simp; done) | (go_simp; with_reducible rfl)
        try simp only [Act.put, List.setIfInBounds_toArray, List.set_cons_zero, List.set_cons_succ]
        refine takeR (i := 9) (v := ?_) (some 84) rfl rfl (by kernel_rfl) (by kernel_rfl) (by kernel_rfl) (fun _ _ _ h => h) (Or.inl ⟨by rfl, ?_⟩) (by assumption) ?_
        rotate_left
        · intro w hSw; (try dsimp only at hSw); obtain ⟨s1, s2, s3, s4, s5⟩ := hSw; first | (go_simp; done) | (go_simp; with_reducible rfl)
        try simp only [Act.put, List.setIfInBounds_toArray, List.set_cons_zero, List.set_cons_succ]
        refine wpAnyH_ready (rs := [10]) (by kernel_rfl) (by simp) ?_
        refine AllReadyH.cons rfl (fun K hK => ?_) AllReadyH.nil
        go_simp
        have hz11 := Hx.out.size
        have hq9 := Blk.new w11 29 [.int .i64 0, .int .i64 0]
        replace Hx := hide (Hx.out.trans ((Below.refl w11.heap.size w11).alloc (Nat.le_refl _) (.cells #[.int .i64 0, .int .i64 0] 29) |>.mono hz11))
        obtain ⟨gq, hgq⟩ : ∃ z, z = w11.heap.size := ⟨_, rfl⟩
        have hqz : wr.heap.size ≤ gq := by omega
        obtain ⟨w12, hw12⟩ : ∃ W, W = w11.alloc (.cells #[.int .i64 0, .int .i64 0] 29) := ⟨_, rfl⟩
        rw [← hgq] at hq9 ⊢
        rw [← hw12] at hq9 Hx ⊢
        have Hq9 := hide hq9
        have zq := hq9.frozen 0
        have zq1 := hq9.frozen 1
        have zl := hq9.lt
        clear hgq hw12 hq9
        refine hK.out _ _ ?_ (fun hHeld2 => ?_)
        · exact ⟨(Hx.out.cell (p := ⟨gT, 0, none⟩) tl).trans t0, (Hx.out.cell (p := ⟨gT, 1, none⟩) tl).trans t1, (Hx.out.cell (p := ⟨gT, 2, none⟩) tl).trans t2, (Hx.out.cell (p := ⟨gT, 3, none⟩) tl).trans t3, (Hx.out.cell (p := ⟨b, off + k, none⟩) gb).trans g0⟩
        clear hK K hHeld
        try simp only [Act.put, List.setIfInBounds_toArray, List.set_cons_zero, List.set_cons_succ]
        have hHeld := hHeld2; clear hHeld2
        refine takeR (i := 11) (v := ?_) (some 16) rfl rfl (by kernel_rfl) (by kernel_rfl) (by kernel_rfl) (fun _ _ _ h => h) (Or.inl ⟨by rfl, ?_⟩) (by assumption) ?_
        rotate_left
        · intro w hSw; (try dsimp only at hSw); obtain ⟨s1, s2, s3, s4, s5⟩ := hSw; first | (go_simp; done) | (go_simp; with_reducible rfl)
        try simp only [Act.put, List.setIfInBounds_toArray, List.set_cons_zero, List.set_cons_succ]
        refine wpAnyH_ready (rs := [12]) (by kernel_rfl) (by simp) ?_
        refine AllReadyH.cons rfl (fun K hK => ?_) AllReadyH.nil
        have qc0 := Hq9.out.cell 0
        have qc1 := Hq9.out.cell 1
        simp only [List.getElem?_cons_zero, List.getElem?_cons_succ] at qc0 qc1
        go_simp
        clear qc0 qc1
        have hs2 := (Hq9.out.set 0 (.int .i64 0)).set 1 (.int .i64 0)
        simp only [List.set_cons_zero, List.set_cons_succ] at hs2
        replace Hx := hide (Hx.out.trans (below_setD (below_setD (Below.refl wr.heap.size w12) hqz 0 (.int .i64 0)) hqz 1 (.int .i64 0)))
        obtain ⟨w13, hw13⟩ : ∃ W, W = (w12.setCell ⟨gq, 0, none⟩ (.int .i64 0)).setCell ⟨gq, 1, none⟩ (.int .i64 0) := ⟨_, rfl⟩
        rw [← hw13] at hs2 Hx ⊢
        replace Hq9 := hide hs2
        clear hw13 hs2
        refine hK.out _ _ ?_ (fun hHeld2 => ?_)
        · exact ⟨(Hx.out.cell (p := ⟨gT, 0, none⟩) tl).trans t0, (Hx.out.cell (p := ⟨gT, 1, none⟩) tl).trans t1, (Hx.out.cell (p := ⟨gT, 2, none⟩) tl).trans t2, (Hx.out.cell (p := ⟨gT, 3, none⟩) tl).trans t3, (Hx.out.cell (p := ⟨b, off + k, none⟩) gb).trans g0⟩
        clear hK K hHeld
        try simp only [Act.put, List.setIfInBounds_toArray, List.set_cons_zero, List.set_cons_succ]
        have hHeld := hHeld2; clear hHeld2
        have q0 := Hq9.out.cell 0
        have q1 := Hq9.out.cell 1
        have ql := Hq9.out.lt
        simp only [List.getElem?_cons_zero, List.getElem?_cons_succ] at q0 q1
        refine wpAnyH_done (by kernel_rfl) ?_ _
        clear hHeld t0 t1 t2 t3 x_0 x_1 g0
        go_wp2_with fail
        go_roundw
        case rel => exact ⟨k + 1, by go_num, Hb9.out.trans (Hx.out.mono Hb9.out.size)⟩
        case measure => simp [intOf]; omega
      · go_simp
        have hzV := hbV.size
        have hq9 := Blk.new V 29 [.int .i64 0, .int .i64 0]
        have Hx := hide (hbV.trans ((Below.refl V.heap.size V).alloc (Nat.le_refl _) (.cells #[.int .i64 0, .int .i64 0] 29) |>.mono hzV))
        obtain ⟨gq, hgq⟩ : ∃ z, z = V.heap.size := ⟨_, rfl⟩
        have hqz : wr.heap.size ≤ gq := by omega
        obtain ⟨w10, hw10⟩ : ∃ W, W = V.alloc (.cells #[.int .i64 0, .int .i64 0] 29) := ⟨_, rfl⟩
        rw [← hgq] at hq9 ⊢
        rw [← hw10] at hq9 Hx ⊢
        have Hq9 := hide hq9
        clear hgq hw10 hq9
        refine hK.out _ _ ?_ (fun hHeld2 => ?_)
        · exact ⟨(Hx.out.cell (p := ⟨gT, 0, none⟩) tl).trans t0, (Hx.out.cell (p := ⟨gT, 1, none⟩) tl).trans t1, (Hx.out.cell (p := ⟨gT, 2, none⟩) tl).trans t2, (Hx.out.cell (p := ⟨gT, 3, none⟩) tl).trans t3, (Hx.out.cell (p := ⟨b, off + k, none⟩) gb).trans g0⟩
        clear hK K hHeld
        try simp only [Act.put, List.setIfInBounds_toArray, List.set_cons_zero, List.set_cons_succ]
        have hHeld := hHeld2; clear hHeld2
        refine wpAnyH_ready (rs := [6]) (by kernel_rfl) (by simp) ?_
        refine AllReadyH.cons rfl (fun K hK => ?_) AllReadyH.nil
        go_simp
        refine (Hct.out w10 Hx.out).mono ?_
        rintro e w12 ⟨rfl, hb12⟩
        go_simp
        replace Hx := hide (Hx.out.trans (hb12.mono Hx.out.size))
        replace Hq9 := hide (Hq9.out.keep hb12)
        have zq := Hq9.out.frozen 0
        have zq1 := Hq9.out.frozen 1
        have zl := Hq9.out.lt
        refine hK.out _ _ ?_ (fun hHeld2 => ?_)
        · exact ⟨(Hx.out.cell (p := ⟨gT, 0, none⟩) tl).trans t0, (Hx.out.cell (p := ⟨gT, 1, none⟩) tl).trans t1, (Hx.out.cell (p := ⟨gT, 2, none⟩) tl).trans t2, (Hx.out.cell (p := ⟨gT, 3, none⟩) tl).trans t3, (Hx.out.cell (p := ⟨b, off + k, none⟩) gb).trans g0⟩
        clear hK K hHeld
        try simp only [Act.put, List.setIfInBounds_toArray, List.set_cons_zero, List.set_cons_succ]
        have hHeld := hHeld2; clear hHeld2
        refine takeR (i := 7) (v := ?_) (some 75) rfl rfl (by kernel_rfl) (by kernel_rfl) (by kernel_rfl) (fun _ _ _ h => h) (Or.inl ⟨by rfl, ?_⟩) (by assumption) ?_
        rotate_left
        · intro w hSw; (try dsimp only at hSw); obtain ⟨s1, s2, s3, s4, s5⟩ := hSw; first | (go_simp; done) | (go_simp; with_reducible rfl)
        try simp only [Act.put, List.setIfInBounds_toArray, List.set_cons_zero, List.set_cons_succ]
        refine takeR (i := 8) (v := ?_) (some 83) rfl rfl (by kernel_rfl) (by kernel_rfl) (by kernel_rfl) (fun _ _ _ h => h) (Or.inl ⟨by rfl, ?_⟩) (by assumption) ?_
        rotate_left
        · intro w hSw; (try dsimp only at hSw); obtain ⟨s1, s2, s3, s4, s5⟩ := hSw; first | (go_simp; done) | (go_simp; with_reducible rfl)
        try simp only [Act.put, List.setIfInBounds_toArray, List.set_cons_zero, List.set_cons_succ]
        refine takeR (i := 9) (v := ?_) (some 84) rfl rfl (by kernel_rfl) (by kernel_rfl) (by kernel_rfl) (fun _ _ _ h => h) (Or.inl ⟨by rfl, ?_⟩) (by assumption) ?_
        rotate_left
        · intro w hSw; (try dsimp only at hSw); obtain ⟨s1, s2, s3, s4, s5⟩ := hSw; first | (go_simp; done) | (go_simp; with_reducible rfl)
        try simp only [Act.put, List.setIfInBounds_toArray, List.set_cons_zero, List.set_cons_succ]
        refine takeR (i := 11) (v := ?_) (some 16) rfl rfl (by kernel_rfl) (by kernel_rfl) (by kernel_rfl) (fun _ _ _ h => h) (Or.inl ⟨by rfl, ?_⟩) (by assumption) ?_
        rotate_left
        · intro w hSw; (try dsimp only at hSw); obtain ⟨s1, s2, s3, s4, s5⟩ := hSw; first | (go_simp; done) | (go_simp; with_reducible rfl)
        try simp only [Act.put, List.setIfInBounds_toArray, List.set_cons_zero, List.set_cons_succ]
        refine wpAnyH_ready (rs := [12]) (by kernel_rfl) (by simp) ?_
        refine AllReadyH.cons rfl (fun K hK => ?_) AllReadyH.nil
        have qc0 := Hq9.out.cell 0
        have qc1 := Hq9.out.cell 1
        simp only [List.getElem?_cons_zero, List.getElem?_cons_succ] at qc0 qc1
        go_simp
        clear qc0 qc1
        have hs2 := (Hq9.out.set 0 (.int .i64 0)).set 1 (.int .i64 0)
        simp only [List.set_cons_zero, List.set_cons_succ] at hs2
        replace Hx := hide (Hx.out.trans (below_setD (below_setD (Below.refl wr.heap.size w12) hqz 0 (.int .i64 0)) hqz 1 (.int .i64 0)))
        obtain ⟨w13, hw13⟩ : ∃ W, W = (w12.setCell ⟨gq, 0, none⟩ (.int .i64 0)).setCell ⟨gq, 1, none⟩ (.int .i64 0) := ⟨_, rfl⟩
        rw [← hw13] at hs2 Hx ⊢
        replace Hq9 := hide hs2
        clear hw13 hs2
        refine hK.out _ _ ?_ (fun hHeld2 => ?_)
        · exact ⟨(Hx.out.cell (p := ⟨gT, 0, none⟩) tl).trans t0, (Hx.out.cell (p := ⟨gT, 1, none⟩) tl).trans t1, (Hx.out.cell (p := ⟨gT, 2, none⟩) tl).trans t2, (Hx.out.cell (p := ⟨gT, 3, none⟩) tl).trans t3, (Hx.out.cell (p := ⟨b, off + k, none⟩) gb).trans g0⟩
        clear hK K hHeld
        try simp only [Act.put, List.setIfInBounds_toArray, List.set_cons_zero, List.set_cons_succ]
        have hHeld := hHeld2; clear hHeld2
        have q0 := Hq9.out.cell 0
        have q1 := Hq9.out.cell 1
        have ql := Hq9.out.lt
        simp only [List.getElem?_cons_zero, List.getElem?_cons_succ] at q0 q1
        refine wpAnyH_done (by kernel_rfl) ?_ _
        clear hHeld t0 t1 t2 t3 x_0 x_1 g0
        go_wp2_with fail
        go_roundw
        case rel => exact ⟨k + 1, by go_num, Hb9.out.trans (Hx.out.mono Hb9.out.size)⟩
        case measure => simp [intOf]; omega
end Go.Proofs.YtmjiiddncbhgpaaGreat
