/- What the law asks for, part 39: De4 De5 De6 De7 De8 De9. -/
import Derived.Test.YtmjiiddncbhgpaaGreatE1
import Derived.Test.YtmjiiddncbhgpaaGreatE2
import Derived.Test.YtmjiiddncbhgpaaGreatE3
import Derived.Test.YtmjiiddncbhgpaaGreatE4
import Derived.Test.YtmjiiddncbhgpaaGreatE5
import Derived.Test.YtmjiiddncbhgpaaGreatE6
import Derived.Test.YtmjiiddncbhgpaaGreatE7
import Derived.Test.YtmjiiddncbhgpaaGreatE8
import Derived.Test.YtmjiiddncbhgpaaGreatE12
import Derived.Test.YtmjiiddncbhgpaaGreatE13
import Derived.Test.YtmjiiddncbhgpaaGreatE14
import Derived.Test.YtmjiiddncbhgpaaGreatE16
import Derived.Test.YtmjiiddncbhgpaaGreatE26
import Derived.Test.YtmjiiddncbhgpaaGreatE27
import Derived.Test.YtmjiiddncbhgpaaGreatE28
import Derived.Test.YtmjiiddncbhgpaaGreatE29
import Derived.Test.YtmjiiddncbhgpaaGreatE30
import Derived.Test.YtmjiiddncbhgpaaGreatE31
import Derived.Test.YtmjiiddncbhgpaaGreatE34
import Derived.Test.YtmjiiddncbhgpaaGreatE35
import Derived.Test.YtmjiiddncbhgpaaGreatE36
import Derived.Test.YtmjiiddncbhgpaaGreatE37
import Derived.Test.YtmjiiddncbhgpaaGreatE38
import Derived.BigQuiet
import Derived.Deep.AppendLies
import Derived.Deep.DeepCutAuto
import Derived.Deep.Draws
import Derived.Deep.Fields
import Derived.Deep.LoopGhost
import Derived.Deep.QuietTactic
import Derived.Deep.RegionHeld
import Derived.Deep.RegionHeld3
import Derived.Deep.RegionLaw
import Derived.Deep.Slices
import Derived.DeepKeys4
import Derived.Ground.Names2Prog
import Derived.Ground.SlgnProg
import Derived.Ground.SlsfProg
import Derived.IntWalk
import Derived.Laws.AppendOwnNone
import Derived.Laws.BitsAllLaws
import Derived.Laws.EntriesVeiled
import Derived.Laws.OwnMore
import Derived.Lib.Hide
import Derived.Lib.SlicesCompact
import Derived.LoopIn
import Derived.LoopNIn
import Derived.Maps.AppendAt
import Derived.Maps.OwnIn
import Derived.Maps.OwnOps
import Derived.Maps.OwnSet
import Derived.OrdersHeld
import Derived.OrdersIn
import Derived.OwnWalkIn
import Derived.ProofKit
import Derived.RangeFuncBound
import Derived.RangeFuncCalls
import Derived.RangeFuncLeaves
import Derived.RangeFuncNested
import Derived.Shelf.Abstract
import Derived.Shelf.RegionOpen
import Derived.Shelf.Slices.Cells
import Derived.Shelf.Slices.Clone
import Derived.Shelf.Slices.CompactI
import Derived.Shelf.Slices.Empties
import Derived.Shelf.Slices.In.SortNone
import Derived.Shelf.Slices.SearchI
import Derived.Shelf.Sort.Plain
import Derived.Sort.OwnSortedInts
import Derived.StillTail
import Derived.StillTailTactics
import Derived.TacticsInMore
import Derived.Test.YtmjiiddncbhgpaaGreatProg
import Derived.WalkKit
import Init
namespace Go.Proofs.YtmjiiddncbhgpaaGreat
set_option linter.unusedVariables false
set_option linter.unusedSimpArgs false
open Go.RowKit
theorem below_setD {B : Nat} {w w' : World} (h : Below B w w') {g : Nat} (hg : B ≤ g) (i : Nat) (u : Value) : Below B w (w'.setCell ⟨g, i, none⟩ u) := h.setCell hg u
set_option maxRecDepth 100000 in
set_option maxHeartbeats 6400000 in
theorem certificate_ct (a : TA) (T : Tsk) (A : Option Addr) (n c : Nat) (l : List SS) (w : World) (h : TkR w a T) (hl : Rd Enc.ss w A n c l) :
    Calls Tryz.prog 35 #[.agg #[.int .i64 T.facts, .slice a.I a.nI a.cI, .slice a.G a.nG a.cG, .slice a.O a.nO a.cO], .slice A n c] w (Gives w (fault (setsF T l).1 (setsF T l).2)) := by
  have hval := fun W hW => SValidate_ct a T W hW
  obtain ⟨I, nI, cI, G, nG, cG, O, nO, cO⟩ := a
  simp only at hval ⊢
  obtain ⟨R, hR⟩ : ∃ R, R = setsF T l := ⟨_, rfl⟩
  rw [← hR]
  unfold setsF at hR
  rcases hq : taskFault T with ⟨ec, ei⟩
  rw [hq] at hval hR
  simp only at hval hR
  have hlow := hl.low
  have Hlen := hide hl.len
  have H := hide h
  have Hl := hide hl
  have HR := hide hR
  have Hval := hide hval
  have Hq := hide hq
  clear h hl hq hval hR
  have Hbl := hide (Below.refl w.heap.size w)
  go_enter Tryz.func35, Tryz.ntmps35
  go_upto_region 1 with (fail)
  obtain ⟨B0, hB0⟩ : ∃ B0, B0 = w.heap.size := ⟨_, rfl⟩
  have HB0 := hide hB0
  clear hB0
  have s_0 : B0 ≤ w.heap.size := Nat.le_trans (Nat.le_of_eq HB0.out) Hbl.out.size
  have hyt := Blk.new (w) 25 [.int .i64 T.facts, .slice I nI cI, .slice G nG cG, .slice O nO cO]
  have hyf := Blk.new ((w).alloc (.cells #[.int .i64 T.facts, .slice I nI cI, .slice G nG cG, .slice O nO cO] 25)) 29 [.int .i64 0, .int .i64 0]
  replace hyt := hyt.alloc (.cells #[.int .i64 0, .int .i64 0] 29)
  have hbW := below_two w (.cells #[.int .i64 T.facts, .slice I nI cI, .slice G nG cG, .slice O nO cO] 25) (.cells #[.int .i64 0, .int .i64 0] 29)
  simp only [World.size_alloc] at hyf
  obtain ⟨w0, hW⟩ : ∃ W, W = ((w).alloc (.cells #[.int .i64 T.facts, .slice I nI cI, .slice G nG cG, .slice O nO cO] 25)).alloc (.cells #[.int .i64 0, .int .i64 0] 29) := ⟨_, rfl⟩
  rw [← hW] at hyt hyf hbW ⊢
  replace Hbl := hide (Hbl.out.trans (hbW.mono Hbl.out.size))
  have Ht := hide hyt
  have Hf := hide hyf
  clear hW hbW hyt hyf
  generalize w.heap.size = gT at Ht Hf s_0 ⊢
  have t0 := Ht.out.cell 0
  have t1 := Ht.out.cell 1
  have t2 := Ht.out.cell 2
  have t3 := Ht.out.cell 3
  have tl := Ht.out.lt
  have f0 := Hf.out.cell 0
  have f1 := Hf.out.cell 1
  have fl := Hf.out.lt
  simp only [List.getElem?_cons_zero, List.getElem?_cons_succ] at t0 t1 t2 t3 f0 f1
  have a_t : B0 ≤ gT := by omega
  have a_f : B0 ≤ gT + 1 := by omega
  clear s_0
  have n_t_f : ¬ gT = gT + 1 := by omega
  have n_f_t : ¬ gT + 1 = gT := by omega
  go_wp2_with fail
  with_reducible refine (Hval.out w0 (H.out.keep Hbl.out)).mono ?_
  rintro e w1 ⟨rfl, hb⟩
  clear t0 t1 t2 t3 f0 f1 tl fl
  replace Ht := hide (Ht.out.keep hb)
  replace Hf := hide (Hf.out.keep hb)
  replace Hbl := hide (Hbl.out.trans (hb.mono Hbl.out.size))
  clear hb
  have t0 := Ht.out.cell 0
  have t1 := Ht.out.cell 1
  have t2 := Ht.out.cell 2
  have t3 := Ht.out.cell 3
  have tl := Ht.out.lt
  have f0 := Hf.out.cell 0
  have f1 := Hf.out.cell 1
  have fl := Hf.out.lt
  simp only [List.getElem?_cons_zero, List.getElem?_cons_succ] at t0 t1 t2 t3 f0 f1
  unfold fault
  go_upto_region 2 with (fail)
  have n_t_p : ¬ gT = w1.heap.size := by omega
  have n_p_t : ¬ w1.heap.size = gT := by omega
  have n_f_p : ¬ gT + 1 = w1.heap.size := by omega
  have n_p_f : ¬ w1.heap.size = gT + 1 := by omega
  have s_t : gT < w1.heap.size := tl
  have s_f : gT + 1 < w1.heap.size := fl
  have s_0 : B0 ≤ w1.heap.size := Nat.le_trans (Nat.le_of_eq HB0.out) Hbl.out.size
  have hyp := Blk.new (w1) 29 [.int .i64 ec, .int .i64 ei]
  have hbW : Below (w1).heap.size (w1) ((w1).alloc (.cells #[.int .i64 ec, .int .i64 ei] 29)) := (Below.refl _ _).alloc (Nat.le_refl _) _
  obtain ⟨w2, hW⟩ : ∃ W, W = (w1).alloc (.cells #[.int .i64 ec, .int .i64 ei] 29) := ⟨_, rfl⟩
  rw [← hW] at hyp hbW ⊢
  replace Ht := hide (Ht.out.keep hbW)
  replace Hf := hide (Hf.out.keep hbW)
  replace Hbl := hide (Hbl.out.trans (hbW.mono Hbl.out.size))
  have Hp := hide hyp
  clear hW hbW hyp
  generalize w1.heap.size = gp at Hp n_t_p n_p_t n_f_p n_p_f s_t s_f s_0 ⊢
  have t0 := Ht.out.cell 0
  have t1 := Ht.out.cell 1
  have t2 := Ht.out.cell 2
  have t3 := Ht.out.cell 3
  have tl := Ht.out.lt
  have f0 := Hf.out.cell 0
  have f1 := Hf.out.cell 1
  have fl := Hf.out.lt
  have p0 := Hp.out.cell 0
  have p1 := Hp.out.cell 1
  have pl := Hp.out.lt
  simp only [List.getElem?_cons_zero, List.getElem?_cons_succ] at t0 t1 t2 t3 f0 f1 p0 p1
  clear s_t
  clear s_f
  have a_p : B0 ≤ gp := by omega
  clear s_0
  by_cases hec : ec = 0
  rotate_left
  · skip
    have ff0 := Hf.out.frozen 0
    have ff1 := Hf.out.frozen 1
    go_wp2_with fail
    refine bodyPost_ret (v := fault ec ei) (by simp [results, Tryz.results35, go_sem, fault, f0, f1, fl]) rfl ?_
    have hbx := HB0.out
    refine ⟨by rw [HR.out]; rw [if_pos hec], ?_⟩
    repeat' (first | (with_reducible exact Hbl.out) | (with_reducible refine Below.drew ?_) | (with_reducible refine below_setD ?_ ?_ _ _) | omega)
  subst hec
  have hz := taskFault_zero (T := T) (by rw [Hq.out])
  rw [Hq.out] at hz
  obtain ⟨_, e2⟩ := Prod.mk.inj hz
  subst e2
  clear hz
  by_cases hbig : 2000 < n
  · have hbi : (2000 : Int) < (n : Int) := by omega
    have ff0 := Hf.out.frozen 0
    have ff1 := Hf.out.frozen 1
    go_wp2_with fail
    refine bodyPost_ret (v := fault 2 (-8)) (by simp [results, Tryz.results35, go_sem, fault, f0, f1, fl]) rfl ?_
    have hbx := HB0.out
    refine ⟨by rw [HR.out]; rw [if_neg (by simp), if_pos (by rw [Hlen.out]; exact hbig)], ?_⟩
    repeat' (first | (with_reducible exact Hbl.out) | (with_reducible refine Below.drew ?_) | (with_reducible refine below_setD ?_ ?_ _ _) | omega)
  have hbi : ¬ (2000 : Int) < (n : Int) := by omega
  have hR2 : R = ssF T.facts 0 l := by rw [HR.out, if_neg (by simp), if_neg (by rw [Hlen.out]; exact hbig)]
  replace HR := hide hR2
  clear hR2
  go_wp2_with fail
  have hbx2 := hide Hbl.out.size
  clear t0 t1 t2 t3 f0 f1 p0 p1 tl fl pl
  go_loopw [20] (fun i wr => ∃ k : Nat, k ≤ n ∧ i = .int .i64 k ∧ Below w2.heap.size w2 wr ∧ R = ssF T.facts k (l.drop k)) (fun i _ => n - (intOf i).toNat)
  case atStart => exact ⟨0, by omega, rfl, Below.refl _ _, HR.out⟩
  case round =>
    obtain ⟨k, hk, rfl, hb, hrk⟩ := hrel
    replace HR := hide hrk
    clear hrk
    replace Ht := hide (Ht.out.keep hb)
    replace Hf := hide (Hf.out.keep hb)
    replace Hp := hide (Hp.out.keep hb)
    replace Hbl := hide (Hbl.out.trans (hb.mono Hbl.out.size))
    have Hb2 := hide hb
    clear hb
    have t0 := Ht.out.cell 0
    have t1 := Ht.out.cell 1
    have t2 := Ht.out.cell 2
    have t3 := Ht.out.cell 3
    have tl := Ht.out.lt
    have f0 := Hf.out.cell 0
    have f1 := Hf.out.cell 1
    have fl := Hf.out.lt
    have p0 := Hp.out.cell 0
    have p1 := Hp.out.cell 1
    have pl := Hp.out.lt
    simp only [List.getElem?_cons_zero, List.getElem?_cons_succ] at t0 t1 t2 t3 f0 f1 p0 p1
    by_cases hlt : k < n
    rotate_left
    · obtain rfl : k = n := by omega
      have ff0 := Hf.out.frozen 0
      have ff1 := Hf.out.frozen 1
      go_wp2_with fail
      refine bodyPost_ret (v := fault 0 0) (by simp [results, Tryz.results35, go_sem, fault, f0, f1, fl]) rfl ?_
      have hbx := HB0.out
      refine ⟨by rw [HR.out]; rw [ssF_end (by rw [Hlen.out]; omega)], ?_⟩
      repeat' (first | (with_reducible exact Hbl.out) | (with_reducible refine Below.drew ?_) | (with_reducible refine below_setD ?_ ?_ _ _) | omega)
    obtain ⟨b, off, x, A1, n1, c1, A2, n2, c2, rfl, hx, x0, x1, r1, r2⟩ := Hl.out.ss hlt
    have g0 := cellOf_low Hbl.out x0
    have g1 := cellOf_low Hbl.out x1
    have hki : (k : Int) < (n : Int) := by omega
    have hR3 := HR.out
    rw [ssF_at hx] at hR3
    replace HR := hide hR3
    have hci := fun W (hW : Below w.heap.size w W) => SIsSet_ct A1 n1 c1 x.need T.facts W (r1.keep hW)
    have hci2 := fun W (hW : Below w.heap.size w W) => SIsSet_ct A2 n2 c2 x.no T.facts W (r2.keep hW)
    have hok1 := okSSB_1 (N := T.facts) (c := x)
    have hok2 := okSSB_2 (N := T.facts) (c := x)
    have hok3 := okSSB_3 (N := T.facts) (c := x)
    obtain ⟨N, hokT⟩ := taskFault_ok (T := T) (by rw [Hq.out])
    have hmm := fun (hs : setB T.facts x.no = true) W (hW : Below w.heap.size w W) => Meets_ct A1 A2 n1 c1 n2 c2 x.need x.no W (r1.keep hW) (r2.keep hW) ((setB_iff.1 hs).1.imp (fun h => Int.le_of_lt h)) (by
      rw [hokT.facts] at hs
      have := setB_len hs
      have := hokT.low
      have := r2.len
      omega)
    obtain ⟨v1, hv1⟩ : ∃ z, z = setB T.facts x.need := ⟨_, rfl⟩
    obtain ⟨v2, hv2⟩ : ∃ z, z = setB T.facts x.no := ⟨_, rfl⟩
    obtain ⟨v3, hv3⟩ : ∃ z, z = meetB x.need x.no := ⟨_, rfl⟩
    rw [← hv1] at hok1 hok3
    rw [← hv2] at hok2 hok3 hmm
    rw [← hv3] at hok3
    simp only [← hv1] at hci
    simp only [← hv2] at hci2
    simp only [← hv3] at hmm
    have Hci := hide hci
    have Hci2 := hide hci2
    have Hmm := hide hmm
    have Hk1 := hide hok1
    have Hk2 := hide hok2
    have Hk3 := hide hok3
    clear hokT hR3 hx r1 r2 hci hci2 hmm hok1 hok2 hok3 hv1 hv2 hv3 x0 x1
    go_upto_region 9 with (fail)
    have n_t_e : ¬ gT = wr.heap.size := by omega
    have n_e_t : ¬ wr.heap.size = gT := by omega
    have n_f_e : ¬ gT + 1 = wr.heap.size := by omega
    have n_e_f : ¬ wr.heap.size = gT + 1 := by omega
    have n_p_e : ¬ gp = wr.heap.size := by omega
    have n_e_p : ¬ wr.heap.size = gp := by omega
    have s_t : gT < wr.heap.size := tl
    have s_f : gT + 1 < wr.heap.size := fl
    have s_p : gp < wr.heap.size := pl
    have s_0 : B0 ≤ wr.heap.size := Nat.le_trans (Nat.le_of_eq HB0.out) Hbl.out.size
    have hye := Blk.new (wr) 70 [.slice A1 n1 c1, .slice A2 n2 c2]
    have hbW : Below (wr).heap.size (wr) ((wr).alloc (.cells #[.slice A1 n1 c1, .slice A2 n2 c2] 70)) := (Below.refl _ _).alloc (Nat.le_refl _) _
    obtain ⟨w3, hW⟩ : ∃ W, W = (wr).alloc (.cells #[.slice A1 n1 c1, .slice A2 n2 c2] 70) := ⟨_, rfl⟩
    rw [← hW] at hye hbW ⊢
    replace Ht := hide (Ht.out.keep hbW)
    replace Hf := hide (Hf.out.keep hbW)
    replace Hp := hide (Hp.out.keep hbW)
    replace Hbl := hide (Hbl.out.trans (hbW.mono Hbl.out.size))
    replace Hb2 := hide (Hb2.out.trans (hbW.mono Hb2.out.size))
    have He := hide hye
    clear hW hbW hye
    generalize wr.heap.size = ge at He n_t_e n_e_t n_f_e n_e_f n_p_e n_e_p s_t s_f s_p s_0 ⊢
    have t0 := Ht.out.cell 0
    have t1 := Ht.out.cell 1
    have t2 := Ht.out.cell 2
    have t3 := Ht.out.cell 3
    have tl := Ht.out.lt
    have f0 := Hf.out.cell 0
    have f1 := Hf.out.cell 1
    have fl := Hf.out.lt
    have p0 := Hp.out.cell 0
    have p1 := Hp.out.cell 1
    have pl := Hp.out.lt
    have e0 := He.out.cell 0
    have e1 := He.out.cell 1
    have el := He.out.lt
    simp only [List.getElem?_cons_zero, List.getElem?_cons_succ] at t0 t1 t2 t3 f0 f1 p0 p1 e0 e1
    clear s_t
    clear s_f
    clear s_p
    have a_e : B0 ≤ ge := by omega
    clear s_0
    go_wp2_with fail
    with_reducible refine (Hci.out _ Hbl.out).mono ?_
    rintro e w4 ⟨rfl, rfl⟩
    cases v1 with
    | false =>
      have hR4 := HR.out
      rw [if_neg (by rw [Hk1.out (by simp)]; simp)] at hR4
      replace HR := hide hR4
      clear hR4
      have ff0 := Hf.out.frozen 0
      have ff1 := Hf.out.frozen 1
      go_wp2_with fail
      refine bodyPost_ret (v := fault 5 k) (by simp [results, Tryz.results35, go_sem, fault, f0, f1, fl]) rfl ?_
      have hbx := HB0.out
      refine ⟨by rw [HR.out], ?_⟩
      repeat' (first | (with_reducible exact Hbl.out) | (with_reducible refine Below.drew ?_) | (with_reducible refine below_setD ?_ ?_ _ _) | omega)
    | true =>
      go_wp2_with fail
      with_reducible refine (Hci2.out _ Hbl.out).mono ?_
      rintro e w5 ⟨rfl, rfl⟩
      cases v2 with
      | false =>
        have hR4 := HR.out
        rw [if_neg (by rw [Hk2.out (by simp)]; simp)] at hR4
        replace HR := hide hR4
        clear hR4
        have ff0 := Hf.out.frozen 0
        have ff1 := Hf.out.frozen 1
        go_wp2_with fail
        refine bodyPost_ret (v := fault 5 k) (by simp [results, Tryz.results35, go_sem, fault, f0, f1, fl]) rfl ?_
        have hbx := HB0.out
        refine ⟨by rw [HR.out], ?_⟩
        repeat' (first | (with_reducible exact Hbl.out) | (with_reducible refine Below.drew ?_) | (with_reducible refine below_setD ?_ ?_ _ _) | omega)
      | true =>
        go_wp2_with fail
        with_reducible refine (Hmm.out (by simp) _ Hbl.out).mono ?_
        rintro e w6 ⟨rfl, hb⟩
        clear t0 t1 t2 t3 f0 f1 p0 p1 e0 e1 tl fl pl el
        replace Ht := hide (Ht.out.keep hb)
        replace Hf := hide (Hf.out.keep hb)
        replace Hp := hide (Hp.out.keep hb)
        replace He := hide (He.out.keep hb)
        replace Hbl := hide (Hbl.out.trans (hb.mono Hbl.out.size))
        replace Hb2 := hide (Hb2.out.trans (hb.mono Hb2.out.size))
        clear hb
        have t0 := Ht.out.cell 0
        have t1 := Ht.out.cell 1
        have t2 := Ht.out.cell 2
        have t3 := Ht.out.cell 3
        have tl := Ht.out.lt
        have f0 := Hf.out.cell 0
        have f1 := Hf.out.cell 1
        have fl := Hf.out.lt
        have p0 := Hp.out.cell 0
        have p1 := Hp.out.cell 1
        have pl := Hp.out.lt
        have e0 := He.out.cell 0
        have e1 := He.out.cell 1
        have el := He.out.lt
        simp only [List.getElem?_cons_zero, List.getElem?_cons_succ] at t0 t1 t2 t3 f0 f1 p0 p1 e0 e1
        cases v3 with
        | true =>
          have hR4 := HR.out
          rw [if_neg (by rw [Hk3.out (by simp) (by simp)]; simp)] at hR4
          replace HR := hide hR4
          clear hR4
          have ff0 := Hf.out.frozen 0
          have ff1 := Hf.out.frozen 1
          go_wp2_with fail
          refine bodyPost_ret (v := fault 5 k) (by simp [results, Tryz.results35, go_sem, fault, f0, f1, fl]) rfl ?_
          have hbx := HB0.out
          refine ⟨by rw [HR.out], ?_⟩
          repeat' (first | (with_reducible exact Hbl.out) | (with_reducible refine Below.drew ?_) | (with_reducible refine below_setD ?_ ?_ _ _) | omega)
        | false =>
          have hR4 := HR.out
          rw [if_pos (by rw [Hk3.out (by simp) (by simp)]; rfl)] at hR4
          replace HR := hide hR4
          clear hR4
          go_wp2_with fail
          go_roundw
          case rel => exact ⟨k + 1, by omega, by go_num, Hb2.out, HR.out⟩
          case measure => simp [intOf]; omega
end Go.Proofs.YtmjiiddncbhgpaaGreat
namespace Go.Proofs.YtmjiiddncbhgpaaGreat
set_option linter.unusedVariables false
set_option linter.unusedSimpArgs false
open Go.RowKit
/-- a list of ints in memory, on a block of the call's own -/
def OwnI (B : Nat) (w : World) (A : Option Addr) (n c : Nat) (l : List Int) : Prop := l.length = n ∧ w.ownsRow B 3 1 (.slice A n c) n (l.map (Value.int .i64))
def ImgP (w : World) (x : SS) (o : Opr) (e : Ending) (w' : World) : Prop :=
  Below w.heap.size w w' ∧ (meetB o.pre x.no = true ∧ e = .returned (.tuple #[.agg #[.slice none 0 0, .slice none 0 0], .bool false]) ∨
    meetB o.pre x.no = false ∧ ∃ A n c B m d, e = .returned (.tuple #[.agg #[.slice A n c, .slice B m d], .bool true]) ∧ OwnI w.heap.size w' A n c (imgF x o).need ∧ OwnI w.heap.size w' B m d (imgF x o).no)
theorem OwnI.rd {B : Nat} {w : World} {A : Option Addr} {n c : Nat} {l : List Int} (h : OwnI B w A n c l) (hr : ∀ x ∈ l, 0 ≤ x ∧ x < 1000) : Rd Enc.int w A n c l :=
  own_rd h.2 h.1 (fun x hx => by have := hr x hx; omega)
theorem OwnI.keep {B : Nat} {w w' : World} {A : Option Addr} {n c : Nat} {l : List Int} (h : OwnI B w A n c l) (hb : Below w.heap.size w w') : OwnI B w' A n c l := ⟨h.1, own_keep h.2 hb⟩
theorem OwnI.block {B : Nat} {w : World} {A : Option Addr} {n c : Nat} {l : List Int} (h : OwnI B w A n c l) {r : Nat} (hr : blkA A = some r) : B ≤ r ∧ r < w.heap.size := by
  rcases h.2.2 with ⟨e, _⟩ | ⟨g, cap, cur, e, hg, hb, _⟩
  · injection e with e1; subst e1; cases hr
  · injection e with e1; subst e1; cases hr
    exact ⟨hg, (Array.getElem?_eq_some_iff.1 hb).1⟩
theorem OwnI.set {B g : Nat} {w : World} {A : Option Addr} {n c : Nat} {l : List Int} (h : OwnI B w A n c l) (hg : g < B) (i : Nat) (v : Value) : OwnI B (w.setCell ⟨g, i, none⟩ v) A n c l :=
  ⟨h.1, (Chg.set w g i v).own h.2 (fun r hr e => by
    have e2 : r = g := e
    rcases h.2.2 with ⟨e3, _⟩ | ⟨g', cap, cur, e3, hg', _⟩
    · rw [e3] at hr; cases hr
    · rw [e3] at hr
      cases hr
      have e4 : g' = g := e2
      omega)⟩
theorem OwnI.drewN {B : Nat} {w : World} {A : Option Addr} {n c : Nat} {l : List Int} (h : OwnI B w A n c l) (k : Nat) : OwnI B (w.drewN k) A n c l := h.keep (below_drewN (Below.refl _ _) k)
theorem OwnI.drew {B : Nat} {w : World} {A : Option Addr} {n c : Nat} {l : List Int} (h : OwnI B w A n c l) : OwnI B w.drew A n c l := h.keep (Below.refl _ _).drew
theorem OwnI.low {B B' : Nat} {w : World} {A : Option Addr} {n c : Nat} {l : List Int} (h : OwnI B w A n c l) (hB : B' ≤ B) : OwnI B' w A n c l := ⟨h.1, own_lowR h.2 hB⟩
theorem set_rangeD {L : Nat} (hL : L ≤ 24) {l : List Int} (h : setB L l = true) : ∀ x ∈ l, 0 ≤ x ∧ x < 1000 := fun x hx => by have := (setB_iff.1 h).2 x hx; omega
set_option maxRecDepth 100000 in
set_option maxHeartbeats 6400000 in
theorem image_ct {L : Nat} (hL : L ≤ 24) (A B A1 A2 A3 : Option Addr) (n c m d n1 c1 n2 c2 n3 c3 : Nat) (x : SS) (o : Opr) (w : World) (hA : Rd Enc.int w A n c x.need) (hB : Rd Enc.int w B m d x.no) (h1 : Rd Enc.int w A1 n1 c1 o.pre) (h2 : Rd Enc.int w A2 n2 c2 o.add) (h3 : Rd Enc.int w A3 n3 c3 o.del) (hx : OkSS L x) (ho : OkOp L o) :
    Calls Tryz.prog 41 #[.agg #[.slice A n c, .slice B m d], .agg #[.slice A1 n1 c1, .slice A2 n2 c2, .slice A3 n3 c3, .int .i64 o.cost]] w (ImgP w x o) := by
  have hup := (setB_iff.1 hx.no).1
  have n1l : n ≤ 1000000 := by have e1 := hA.len; have e2 := setB_len hx.need; omega
  have n2l : m ≤ 1000000 := by have e1 := hB.len; have e2 := setB_len hx.no; omega
  have n3l : n1 ≤ 1000000 := by have e1 := h1.len; have e2 := setB_len ho.pre; omega
  have n4l : n2 ≤ 1000000 := by have e1 := h2.len; have e2 := setB_len ho.add; omega
  have n5l : n3 ≤ 1000000 := by have e1 := h3.len; have e2 := setB_len ho.del; omega
  have hmm := fun W (hW : Below w.heap.size w W) => Meets_ct A1 B n1 c1 m d o.pre x.no W (h1.keep hW) (hB.keep hW) (hup.imp (fun h => Int.le_of_lt h)) (by omega)
  have hun := fun W (hW : Below w.heap.size w W) => Union_ct A A1 n c n1 c1 x.need o.pre W (hA.keep hW) (h1.keep hW) n1l n3l
  have hu2 := fun W (hW : Below w.heap.size w W) => Update_ct B A3 A2 m d n3 c3 n2 c2 x.no o.del o.add W (hB.keep hW) (h3.keep hW) (h2.keep hW) n2l n5l n4l ((setB_iff.1 ho.add).1.imp (fun h => Int.le_of_lt h))
  have hu1 := fun W (hW : Below w.heap.size w W) B9 n9 c9 l9 (h9 : Rd Enc.int W B9 n9 c9 l9) (hn9 : n9 ≤ 1000000) => Update_ct B9 A2 A3 n9 c9 n2 c2 n3 c3 l9 o.add o.del W h9 (h2.keep hW) (h3.keep hW) hn9 n4l n5l ((setB_iff.1 ho.del).1.imp (fun h => Int.le_of_lt h))
  have hus : setB L (updF x.need o.pre []) = true := updF_set (setB_iff.1 hx.need).2 (setB_iff.1 ho.pre).2
  have Hus := hide hus
  obtain ⟨v1, hv1⟩ : ∃ z, z = meetB o.pre x.no := ⟨_, rfl⟩
  simp only [← hv1] at hmm
  have Hv1 := hide hv1
  have Hmm := hide hmm
  have Hun := hide hun
  have Hu1 := hide hu1
  have Hu2 := hide hu2
  clear hv1 hmm hun hu1 hu2 hA hB h1 h2 h3 hup hus
  have Hbl := hide (Below.refl w.heap.size w)
  go_enter Tryz.func41, Tryz.ntmps41
  go_upto_region 1 with (fail)
  obtain ⟨B0, hB0⟩ : ∃ B0, B0 = w.heap.size := ⟨_, rfl⟩
  have HB0 := hide hB0
  clear hB0
  have s_0 : B0 ≤ w.heap.size := Nat.le_trans (Nat.le_of_eq HB0.out) Hbl.out.size
  have hys := Blk.new (w) 70 [.slice A n c, .slice B m d]
  have hyo := Blk.new ((w).alloc (.cells #[.slice A n c, .slice B m d] 70)) 81 [.slice A1 n1 c1, .slice A2 n2 c2, .slice A3 n3 c3, .int .i64 o.cost]
  replace hys := hys.alloc (.cells #[.slice A1 n1 c1, .slice A2 n2 c2, .slice A3 n3 c3, .int .i64 o.cost] 81)
  have hyr := Blk.new (((w).alloc (.cells #[.slice A n c, .slice B m d] 70)).alloc (.cells #[.slice A1 n1 c1, .slice A2 n2 c2, .slice A3 n3 c3, .int .i64 o.cost] 81)) 70 [.slice none 0 0, .slice none 0 0]
  replace hys := hys.alloc (.cells #[.slice none 0 0, .slice none 0 0] 70)
  replace hyo := hyo.alloc (.cells #[.slice none 0 0, .slice none 0 0] 70)
  have hbW := below_three w (.cells #[.slice A n c, .slice B m d] 70) (.cells #[.slice A1 n1 c1, .slice A2 n2 c2, .slice A3 n3 c3, .int .i64 o.cost] 81) (.cells #[.slice none 0 0, .slice none 0 0] 70)
  simp only [World.size_alloc] at hyo hyr
  obtain ⟨w0, hW⟩ : ∃ W, W = (((w).alloc (.cells #[.slice A n c, .slice B m d] 70)).alloc (.cells #[.slice A1 n1 c1, .slice A2 n2 c2, .slice A3 n3 c3, .int .i64 o.cost] 81)).alloc (.cells #[.slice none 0 0, .slice none 0 0] 70) := ⟨_, rfl⟩
  rw [← hW] at hys hyo hyr hbW ⊢
  replace Hbl := hide (Hbl.out.trans (hbW.mono Hbl.out.size))
  have Hs := hide hys
  have Ho := hide hyo
  have Hr := hide hyr
  clear hW hbW hys hyo hyr
  generalize w.heap.size = gs at Hs Ho Hr s_0 ⊢
  have s0 := Hs.out.cell 0
  have s1 := Hs.out.cell 1
  have sl := Hs.out.lt
  have o0 := Ho.out.cell 0
  have o1 := Ho.out.cell 1
  have o2 := Ho.out.cell 2
  have o3 := Ho.out.cell 3
  have ol := Ho.out.lt
  have r0 := Hr.out.cell 0
  have r1 := Hr.out.cell 1
  have rl := Hr.out.lt
  simp only [List.getElem?_cons_zero, List.getElem?_cons_succ] at s0 s1 o0 o1 o2 o3 r0 r1
  have a_s : B0 ≤ gs := by omega
  have a_o : B0 ≤ gs + 1 := by omega
  have a_r : B0 ≤ gs + 1 + 1 := by omega
  clear s_0
  have n_s_o : ¬ gs = gs + 1 := by omega
  have n_s_r : ¬ gs = gs + 1 + 1 := by omega
  have n_o_s : ¬ gs + 1 = gs := by omega
  have n_o_r : ¬ gs + 1 = gs + 1 + 1 := by omega
  have n_r_s : ¬ gs + 1 + 1 = gs := by omega
  have n_r_o : ¬ gs + 1 + 1 = gs + 1 := by omega
  go_wp2_with fail
  with_reducible refine (Hmm.out _ Hbl.out).mono ?_
  rintro e w1 ⟨rfl, hb⟩
  clear s0 s1 o0 o1 o2 o3 r0 r1 sl ol rl
  replace Hs := hide (Hs.out.keep hb)
  replace Ho := hide (Ho.out.keep hb)
  replace Hr := hide (Hr.out.keep hb)
  replace Hbl := hide (Hbl.out.trans (hb.mono Hbl.out.size))
  clear hb
  have s0 := Hs.out.cell 0
  have s1 := Hs.out.cell 1
  have sl := Hs.out.lt
  have o0 := Ho.out.cell 0
  have o1 := Ho.out.cell 1
  have o2 := Ho.out.cell 2
  have o3 := Ho.out.cell 3
  have ol := Ho.out.lt
  have r0 := Hr.out.cell 0
  have r1 := Hr.out.cell 1
  have rl := Hr.out.lt
  simp only [List.getElem?_cons_zero, List.getElem?_cons_succ] at s0 s1 o0 o1 o2 o3 r0 r1
  cases v1 with
  | true =>
    have rf0 := Hr.out.frozen 0
    have rf1 := Hr.out.frozen 1
    go_wp2_with fail
    refine bodyPost_ret (v := .tuple #[.agg #[.slice none 0 0, .slice none 0 0], .bool false]) (by simp [results, Tryz.results41, go_sem, r0, r1, rl]) rfl ?_
    have hbx := HB0.out
    refine ⟨?_, .inl ⟨Hv1.out.symm, rfl⟩⟩
    repeat' (first | (with_reducible exact Hbl.out) | (with_reducible refine Below.drew ?_) | (with_reducible refine below_setD ?_ ?_ _ _) | omega)
  | false =>
    go_upto_region 3 with (fail)
    refine wp_region_held_drew (S := (fun w' => w'.cell? ⟨gs, 0, none⟩ = some (.slice A n c) ∧ w'.cell? ⟨gs + 1, 0, none⟩ = some (.slice A1 n1 c1) ∧ w'.cell? ⟨gs + 1, 1, none⟩ = some (.slice A2 n2 c2) ∧ w'.cell? ⟨gs + 1, 2, none⟩ = some (.slice A3 n3 c3))) (by kernel_rfl) ?_ (fun hHeld => ?_)
    · exact ⟨s0, o0, o1, o2⟩
    refine takeR (i := 0) (v := ?_) (some 13) rfl rfl (by kernel_rfl) (by kernel_rfl) (by kernel_rfl) (fun _ _ _ h => h) (Or.inl ⟨by rfl, ?_⟩) (by assumption) ?_
    rotate_left
    · intro w hSw; (try dsimp only at hSw); obtain ⟨s1, s2, s3, s4⟩ := hSw; first | (go_simp; done) | (go_simp; with_reducible rfl)
    try simp only [Act.put, List.setIfInBounds_toArray, List.set_cons_zero, List.set_cons_succ]
    refine takeR (i := 1) (v := ?_) (some 14) rfl rfl (by kernel_rfl) (by kernel_rfl) (by kernel_rfl) (fun _ _ _ h => h) (Or.inl ⟨by rfl, ?_⟩) (by assumption) ?_
    rotate_left
    · intro w hSw; (try dsimp only at hSw); obtain ⟨s1, s2, s3, s4⟩ := hSw; first | (go_simp; done) | (go_simp; with_reducible rfl)
    try simp only [Act.put, List.setIfInBounds_toArray, List.set_cons_zero, List.set_cons_succ]
    refine takeR (i := 2) (v := ?_) (some 15) rfl rfl (by kernel_rfl) (by kernel_rfl) (by kernel_rfl) (fun _ _ _ h => h) (Or.inl ⟨by rfl, ?_⟩) (by assumption) ?_
    rotate_left
    · intro w hSw; (try dsimp only at hSw); obtain ⟨s1, s2, s3, s4⟩ := hSw; first | (go_simp; done) | (go_simp; with_reducible rfl)
    try simp only [Act.put, List.setIfInBounds_toArray, List.set_cons_zero, List.set_cons_succ]
    refine takeR (i := 3) (v := ?_) (some 16) rfl rfl (by kernel_rfl) (by kernel_rfl) (by kernel_rfl) (fun _ _ _ h => h) (Or.inl ⟨by rfl, ?_⟩) (by assumption) ?_
    rotate_left
    · intro w hSw; (try dsimp only at hSw); obtain ⟨s1, s2, s3, s4⟩ := hSw; first | (go_simp; done) | (go_simp; with_reducible rfl)
    try simp only [Act.put, List.setIfInBounds_toArray, List.set_cons_zero, List.set_cons_succ]
    refine takeR (i := 5) (v := ?_) (some 18) rfl rfl (by kernel_rfl) (by kernel_rfl) (by kernel_rfl) (fun _ _ _ h => h) (Or.inl ⟨by rfl, ?_⟩) (by assumption) ?_
    rotate_left
    · intro w hSw; (try dsimp only at hSw); obtain ⟨s1, s2, s3, s4⟩ := hSw; first | (go_simp; done) | (go_simp; with_reducible rfl)
    try simp only [Act.put, List.setIfInBounds_toArray, List.set_cons_zero, List.set_cons_succ]
    refine takeR (i := 6) (v := ?_) (some 19) rfl rfl (by kernel_rfl) (by kernel_rfl) (by kernel_rfl) (fun _ _ _ h => h) (Or.inl ⟨by rfl, ?_⟩) (by assumption) ?_
    rotate_left
    · intro w hSw; (try dsimp only at hSw); obtain ⟨s1, s2, s3, s4⟩ := hSw; first | (go_simp; done) | (go_simp; with_reducible rfl)
    try simp only [Act.put, List.setIfInBounds_toArray, List.set_cons_zero, List.set_cons_succ]
    refine takeR (i := 7) (v := ?_) (some 20) rfl rfl (by kernel_rfl) (by kernel_rfl) (by kernel_rfl) (fun _ _ _ h => h) (Or.inl ⟨by rfl, ?_⟩) (by assumption) ?_
    rotate_left
    · intro w hSw; (try dsimp only at hSw); obtain ⟨s1, s2, s3, s4⟩ := hSw; first | (go_simp; done) | (go_simp; with_reducible rfl)
    try simp only [Act.put, List.setIfInBounds_toArray, List.set_cons_zero, List.set_cons_succ]
    refine takeR (i := 8) (v := ?_) (some 21) rfl rfl (by kernel_rfl) (by kernel_rfl) (by kernel_rfl) (fun _ _ _ h => h) (Or.inl ⟨by rfl, ?_⟩) (by assumption) ?_
    rotate_left
    · intro w hSw; (try dsimp only at hSw); obtain ⟨s1, s2, s3, s4⟩ := hSw; first | (go_simp; done) | (go_simp; with_reducible rfl)
    try simp only [Act.put, List.setIfInBounds_toArray, List.set_cons_zero, List.set_cons_succ]
    obtain ⟨w2, hw2⟩ : ∃ W, W = w1.drew := ⟨_, rfl⟩
    have hb : Below w1.heap.size w1 w2 := by rw [hw2]; exact (Below.refl _ _).drew
    rw [← hw2] at hHeld ⊢
    clear hw2
    clear s0 s1 o0 o1 o2 o3 r0 r1 sl ol rl
    replace Hs := hide (Hs.out.keep hb)
    replace Ho := hide (Ho.out.keep hb)
    replace Hr := hide (Hr.out.keep hb)
    replace Hbl := hide (Hbl.out.trans (hb.mono Hbl.out.size))
    clear hb
    have s0 := Hs.out.cell 0
    have s1 := Hs.out.cell 1
    have sl := Hs.out.lt
    have o0 := Ho.out.cell 0
    have o1 := Ho.out.cell 1
    have o2 := Ho.out.cell 2
    have o3 := Ho.out.cell 3
    have ol := Ho.out.lt
    have r0 := Hr.out.cell 0
    have r1 := Hr.out.cell 1
    have rl := Hr.out.lt
    simp only [List.getElem?_cons_zero, List.getElem?_cons_succ] at s0 s1 o0 o1 o2 o3 r0 r1
    refine wpAnyH_ready (rs := [4]) (by kernel_rfl) (by simp) ?_
    refine AllReadyH.cons rfl (fun K hK => ?_) AllReadyH.nil
    go_simp
    refine (Hun.out _ Hbl.out).mono ?_
    rintro e w3 ⟨hb, A4, c4, rfl, ho4⟩
    have h4 := own_rd ho4 rfl (fun z hz => by have := (setB_iff.1 Hus.out).2 z hz; omega)
    have n6l : (updF x.need o.pre []).length ≤ 1000000 := by have := setB_len Hus.out; omega
    have H4 := hide h4
    clear ho4 h4
    clear s0 s1 o0 o1 o2 o3 r0 r1 sl ol rl
    replace Hs := hide (Hs.out.keep hb)
    replace Ho := hide (Ho.out.keep hb)
    replace Hr := hide (Hr.out.keep hb)
    replace Hbl := hide (Hbl.out.trans (hb.mono Hbl.out.size))
    clear hb
    have s0 := Hs.out.cell 0
    have s1 := Hs.out.cell 1
    have sl := Hs.out.lt
    have o0 := Ho.out.cell 0
    have o1 := Ho.out.cell 1
    have o2 := Ho.out.cell 2
    have o3 := Ho.out.cell 3
    have ol := Ho.out.lt
    have r0 := Hr.out.cell 0
    have r1 := Hr.out.cell 1
    have rl := Hr.out.lt
    simp only [List.getElem?_cons_zero, List.getElem?_cons_succ] at s0 s1 o0 o1 o2 o3 r0 r1
    go_simp
    refine hK.out _ _ ?_ (fun hHeld2 => ?_)
    · exact ⟨s0, o0, o1, o2⟩
    clear hK K hHeld
    try simp only [Act.put, List.setIfInBounds_toArray, List.set_cons_zero, List.set_cons_succ]
    have hHeld := hHeld2; clear hHeld2
    refine wpAnyH_ready (rs := [9]) (by kernel_rfl) (by simp) ?_
    refine AllReadyH.cons rfl (fun K hK => ?_) AllReadyH.nil
    go_simp
    refine (Hu1.out _ Hbl.out A4 _ c4 _ H4.out n6l).mono ?_
    rintro e w4 ⟨hb, A5, c5, rfl, ho5⟩
    have H5 := hide (show OwnI w3.heap.size w4 A5 _ c5 (updF (updF x.need o.pre []) o.add o.del) from ⟨rfl, ho5⟩)
    have hz3 := rl
    have hB3 := Nat.le_trans (Nat.le_of_eq HB0.out) Hbl.out.size
    clear ho5
    clear s0 s1 o0 o1 o2 o3 r0 r1 sl ol rl
    replace Hs := hide (Hs.out.keep hb)
    replace Ho := hide (Ho.out.keep hb)
    replace Hr := hide (Hr.out.keep hb)
    replace Hbl := hide (Hbl.out.trans (hb.mono Hbl.out.size))
    clear hb
    have s0 := Hs.out.cell 0
    have s1 := Hs.out.cell 1
    have sl := Hs.out.lt
    have o0 := Ho.out.cell 0
    have o1 := Ho.out.cell 1
    have o2 := Ho.out.cell 2
    have o3 := Ho.out.cell 3
    have ol := Ho.out.lt
    have r0 := Hr.out.cell 0
    have r1 := Hr.out.cell 1
    have rl := Hr.out.lt
    simp only [List.getElem?_cons_zero, List.getElem?_cons_succ] at s0 s1 o0 o1 o2 o3 r0 r1
    go_simp
    refine hK.out _ _ ?_ (fun hHeld2 => ?_)
    · exact ⟨s0, o0, o1, o2⟩
    clear hK K hHeld
    try simp only [Act.put, List.setIfInBounds_toArray, List.set_cons_zero, List.set_cons_succ]
    have hHeld := hHeld2; clear hHeld2
    refine takeR (i := 10) (v := ?_) (some 6) rfl rfl (by kernel_rfl) (by kernel_rfl) (by kernel_rfl) (fun _ _ _ h => h) (Or.inl ⟨by rfl, ?_⟩) (by assumption) ?_
    rotate_left
    · intro w hSw; (try dsimp only at hSw); obtain ⟨s1, s2, s3, s4⟩ := hSw; first | (go_simp; done) | (go_simp; with_reducible rfl)
    try simp only [Act.put, List.setIfInBounds_toArray, List.set_cons_zero, List.set_cons_succ]
    refine wpAnyH_done (by kernel_rfl) ?_ _
    have hz4 := rl
    have hB4 := Nat.le_trans (Nat.le_of_eq HB0.out) Hbl.out.size
    go_wp2_with fail
    with_reducible refine (Hu2.out _ Hbl.out).mono ?_
    rintro e w5 ⟨hb, A6, c6, rfl, ho6⟩
    clear s0 s1 o0 o1 o2 o3 r0 r1 sl ol rl
    replace Hs := hide (Hs.out.keep hb)
    replace Ho := hide (Ho.out.keep hb)
    replace Hr := hide (Hr.out.keep hb)
    replace H5 := hide (H5.out.keep hb)
    replace Hbl := hide (Hbl.out.trans (hb.mono Hbl.out.size))
    clear hb
    have H6 := hide (show OwnI w4.heap.size w5 A6 _ c6 (updF x.no o.del o.add) from ⟨rfl, ho6⟩)
    clear ho6
    have s0 := Hs.out.cell 0
    have s1 := Hs.out.cell 1
    have sl := Hs.out.lt
    have o0 := Ho.out.cell 0
    have o1 := Ho.out.cell 1
    have o2 := Ho.out.cell 2
    have o3 := Ho.out.cell 3
    have ol := Ho.out.lt
    have r0 := Hr.out.cell 0
    have r1 := Hr.out.cell 1
    have rl := Hr.out.lt
    simp only [List.getElem?_cons_zero, List.getElem?_cons_succ] at s0 s1 o0 o1 o2 o3 r0 r1
    have rf0 := Hr.out.frozen 0
    have rf1 := Hr.out.frozen 1
    go_wp2_with fail
    refine bodyPost_ret (v := .tuple #[.agg #[.slice A5 (updF (updF x.need o.pre []) o.add o.del).length c5, .slice A6 (updF x.no o.del o.add).length c6], .bool true]) (by simp [results, Tryz.results41, go_sem, r0, r1, rl]) rfl ?_
    have hbx := HB0.out
    refine ⟨?_, .inr ⟨Hv1.out.symm, _, _, _, _, _, _, rfl, ?_, ?_⟩⟩
    · repeat' (first | (with_reducible exact Hbl.out) | (with_reducible refine Below.drew ?_) | (with_reducible refine below_setD ?_ ?_ _ _) | omega)
    · refine OwnI.low (B := w3.heap.size) (l := updF (updF x.need o.pre []) o.add o.del) ?_ (by omega)
      repeat' (first | (with_reducible exact H5.out) | (with_reducible refine OwnI.drew ?_) | (with_reducible refine OwnI.drewN ?_ _) | (with_reducible refine OwnI.set ?_ ?_ _ _) | omega)
    · refine OwnI.low (B := w4.heap.size) (l := updF x.no o.del o.add) ?_ (by omega)
      repeat' (first | (with_reducible exact H6.out) | (with_reducible refine OwnI.drew ?_) | (with_reducible refine OwnI.drewN ?_ _) | (with_reducible refine OwnI.set ?_ ?_ _ _) | omega)
end Go.Proofs.YtmjiiddncbhgpaaGreat
namespace Go.Proofs.YtmjiiddncbhgpaaGreat
set_option linter.unusedVariables false
set_option linter.unusedSimpArgs false
open Go.RowKit
theorem bool_iff {a b : Bool} (h : a = true ↔ b = true) : a = b := by cases a <;> cases b <;> simp_all
theorem cube_step {L q m : Nat} (hq : q < L) {s : Nat → Bool} {b c : Bool} (hb : b = true ↔ ∀ v, q + 1 ≤ v → v < L → s v = m.testBit v) (hc : c = if s q = m.testBit q then b else false) : c = true ↔ ∀ v, q ≤ v → v < L → s v = m.testBit v := by
  constructor
  · intro h v h1 h2
    rw [hc] at h
    split at h
    · rename_i e
      by_cases hv : v = q
      · rw [hv, e]
      · exact hb.1 h v (by omega) h2
    · cases h
  · intro h
    rw [hc, if_pos (h q (Nat.le_refl _) hq)]
    exact hb.2 (fun v h1 h2 => h v (by omega) h2)
set_option maxRecDepth 100000 in
set_option maxHeartbeats 3200000 in
theorem Cube_ct {L B g bf bp : Nat} {w : World} {ns : List BN} {C m : Nat} (h : St L B g bf bp w ns C) (hm : m < 4294967296) (hC : C + 24 ≤ 5800000000000) :
    Calls Tryz.prog 38 #[.pointer (some ⟨g, 0, none⟩), .int .u32 m] w (StP L B g bf bp w ns (C + L) fun ns' k => ∀ s, sem ns' k s = true ↔ ∀ v, v < L → s v = m.testBit v) := by
  have hL := h.low
  have hgl := h.lt
  obtain ⟨np, M, hnp, hat, hp⟩ := h.2.2
  have g0 := hat.cells
  obtain ⟨A, c, g0, g1, _⟩ := g0
  have H := hide h
  have hw1 : IntKind.i64.wrap ((L : Int) - 1) = (L : Int) - 1 := IntWalk.i64_in _ (by omega)
  clear h hat hp hnp
  go_enter Tryz.func38, Tryz.ntmps38
  go_wp2
  clear g0 g1
  go_loopw [5, 6] (fun o i wr => ∃ (j k : Nat) (z : Int) (ms : List BN), j ≤ L ∧ z = (j : Int) - 1 ∧ i = .int .i64 z ∧ o = .int .i64 (k : Nat) ∧ St L B g bf bp wr (ns ++ ms) (C + (L - j)) ∧ Kept B g bf bp w wr ∧ k < (ns ++ ms).length + 2 ∧ ∀ s, sem (ns ++ ms) k s = true ↔ ∀ v, j ≤ v → v < L → s v = m.testBit v) (fun _ i _ => (intOf i + 1).toNat)
  case atStart => exact ⟨L, 1, _, [], Nat.le_refl _, rfl, rfl, rfl, by simpa using H.out, Kept.refl _ _ _ _ _, by omega, fun s => by rw [sem_one]; exact ⟨fun _ v h1 h2 => by omega, fun _ => rfl⟩⟩
  case round =>
    obtain ⟨j, k, z, ms, hj, hz, rfl, rfl, hst, hK, hk, hq⟩ := hrel
    have Hst := hide hst
    have HK := hide hK
    have Hq := hide hq
    clear hst hK
    by_cases h0 : j = 0
    · subst h0
      have hz2 : ¬ (0 : Int) ≤ z := by omega
      go_wp2
      go_ret
      exact ⟨ms, k, rfl, by simpa using Hst.out, HK.out, hk, fun s => (Hq.out s).trans ⟨fun h v h1 => h v (Nat.zero_le _) h1, fun h v _ h1 => h v h1⟩⟩
    · obtain ⟨q, rfl⟩ : ∃ q, j = q + 1 := ⟨j - 1, by omega⟩
      obtain rfl : z = (q : Int) := by omega
      have hz2 : (0 : Int) ≤ (q : Int) := by omega
      have hbit := bit_test m q hm
      have hw2 : IntKind.i64.wrap ((q : Int) - 1) = (q : Int) - 1 := IntWalk.i64_in _ (by omega)
      have hlv : q < lvl L (ns ++ ms) k := by
        have := lvl_of_dep Hst.out.ok hk hj (fun s t hst => bool_iff ((hq s).trans (Iff.trans ⟨fun h v h1 h2 => by rw [← hst v h1]; exact h v h1 h2, fun h v h1 h2 => by rw [hst v h1]; exact h v h1 h2⟩ (hq t).symm)))
        omega
      have hl0 : q < lvl L (ns ++ ms) 0 := by rw [lvl_small _ (by omega)]; omega
      have Hn1 := hide (Node_st Hst.out (v := q) (l := 0) (h' := k) (by omega) (by omega) hk hl0 hlv (by omega))
      have Hn0 := hide (Node_st Hst.out (v := q) (l := k) (h' := 0) (by omega) hk (by omega) hlv hl0 (by omega))
      clear hq hlv hl0 hz
      cases hb2 : m.testBit q with
      | true =>
        rw [hb2] at hbit
        have Hb2 := hide hb2
        clear hb2
        go_wp2_with fail
        refine Hn1.out.mono ?_
        rintro e w2 ⟨ms2, k2, rfl, h2, h3, h4, h5, _⟩
        have H2 := hide (And.intro h2 (And.intro h3 (And.intro h4 h5)))
        clear h2 h3 h4 h5
        go_wp2
        go_roundw
        case rel =>
          obtain ⟨h2, h3, h4, h5⟩ := H2.out
          rw [List.append_assoc] at h2 h4 h5
          refine ⟨q, k2, _, ms ++ ms2, by omega, rfl, rfl, rfl, h2.mono (by omega), HK.out.trans h3, h4, fun s => cube_step (by omega) (Hq.out s) ?_⟩
          rw [h5, sem_zero, Hb2.out]
        case measure => simp [intOf]
      | false =>
        rw [hb2] at hbit
        have Hb2 := hide hb2
        clear hb2
        go_wp2_with fail
        refine Hn0.out.mono ?_
        rintro e w2 ⟨ms2, k2, rfl, h2, h3, h4, h5, _⟩
        have H2 := hide (And.intro h2 (And.intro h3 (And.intro h4 h5)))
        clear h2 h3 h4 h5
        go_wp2
        go_roundw
        case rel =>
          obtain ⟨h2, h3, h4, h5⟩ := H2.out
          rw [List.append_assoc] at h2 h4 h5
          refine ⟨q, k2, _, ms ++ ms2, by omega, rfl, rfl, rfl, h2.mono (by omega), HK.out.trans h3, h4, fun s => cube_step (by omega) (Hq.out s) ?_⟩
          rw [h5, sem_zero, Hb2.out]
          cases s q <;> rfl
        case measure => simp [intOf]
/-- a region of sets in memory -/
def RegAt (L B g bf bp rb : Nat) (cs : List SS) (W : World) (C : Nat) : Prop :=
  ∃ ns all, St L B g bf bp W ns C ∧ Blk 76 W rb [.pointer (some ⟨g, 0, none⟩), .int .i64 (all : Nat)] ∧ rb ≠ g ∧ all < ns.length + 2 ∧ ∀ s, sem ns all s = inR cs s
theorem RegAt.keep {L B g bf bp rb : Nat} {cs : List SS} {W W' : World} {C : Nat} (h : RegAt L B g bf bp rb cs W C) (hb : Below W.heap.size W W') : RegAt L B g bf bp rb cs W' C :=
  let ⟨ns, all, h1, h2, h3, h4, h5⟩ := h; ⟨ns, all, h1.keep hb, h2.keep hb, h3, h4, h5⟩
theorem RegAt.mono {L B g bf bp rb : Nat} {cs : List SS} {W : World} {C C' : Nat} (h : RegAt L B g bf bp rb cs W C) (hC : C ≤ C') : RegAt L B g bf bp rb cs W C' :=
  let ⟨ns, all, h1, h2, h3, h4, h5⟩ := h; ⟨ns, all, h1.mono hC, h2, h3, h4, h5⟩
theorem RegAt.free {L B g bf bp rb : Nat} {cs : List SS} {W : World} {C : Nat} (h : RegAt L B g bf bp rb cs W C) {t : TypeId} {b : Nat} {vs : List Value} (hb : Blk t W b vs) (hg : b ≠ g) (ht : t ≠ 162) : Free W g bf bp b :=
  let ⟨_, _, h1, _⟩ := h; h1.free hb hg ht
theorem RegAt.lt {L B g bf bp rb : Nat} {cs : List SS} {W : World} {C : Nat} (h : RegAt L B g bf bp rb cs W C) : g < W.heap.size := let ⟨_, _, h1, _⟩ := h; h1.lt
theorem RegAt.base {L B g bf bp rb : Nat} {cs : List SS} {W : World} {C : Nat} (h : RegAt L B g bf bp rb cs W C) : B ≤ W.heap.size := let ⟨_, _, h1, _⟩ := h; h1.base
theorem St.new {L B g bf bp : Nat} {w W : World} {ns : List BN} {C : Nat} (h : St L B g bf bp w ns C) (hb : Below w.heap.size w W) {r : Nat} (h1 : w.heap.size ≤ r) (h2 : r < W.heap.size) : Free W g bf bp r := by
  have h3 := h.lt
  obtain ⟨h4, h5⟩ := h.maps
  refine ⟨h2, by omega, by omega, by omega, ?_⟩
  rw [rowOf_same (hb.block g h3)]
  obtain ⟨_, _, np, M, _, q4, _⟩ := h
  obtain ⟨A, c, hbk, ho⟩ := q4.blk
  rw [own_slice hbk]
  intro e
  have := (own_block ho e).1
  omega
theorem RegAt.fresh {L B g bf bp rb : Nat} {cs : List SS} {w W : World} {C : Nat} (h : RegAt L B g bf bp rb cs w C) (hb : Below w.heap.size w W) {A : Option Addr} {n c : Nat} {l : List Int} (ho : OwnI w.heap.size W A n c l) : FreeA W B g bf bp A n := fun _ r hr =>
  have ⟨h1, h2⟩ := ho.block hr
  let ⟨_, _, k, _⟩ := h
  ⟨h2, .inr (k.new hb h1 h2)⟩
theorem contains_at {L B g bf bp rb : Nat} {cs : List SS} {W : World} {C : Nat} {A A' : Option Addr} {m c m' c' : Nat} {x : SS} (h : RegAt L B g bf bp rb cs W C) (hA : Rd Enc.int W A m c x.need) (hB : Rd Enc.int W A' m' c' x.no) (fA : FreeA W B g bf bp A m) (fB : FreeA W B g bf bp A' m')
    (h1 : setB L x.need = true) (h2 : setB L x.no = true) (hL : L ≤ 24) (hC : C + 67111266 ≤ 5800000000000) :
    Calls Tryz.prog 42 #[.pointer (some ⟨rb, 0, none⟩), .agg #[.slice A m c, .slice A' m' c']] W fun e w' => ∃ b, e = .returned (.bool b) ∧ RegAt L B g bf bp rb cs w' (C + 67111266) ∧ Kept B g bf bp W w' ∧ (b = true ↔ subR cs x) := by
  obtain ⟨ns, all, k1, k2, k3, k4, k5⟩ := h
  refine (contains_ct k1 k2 k3 hA hB fA fB (setB_iff.1 h1).2 (setB_iff.1 h2).2 (by rw [← hA.len]; exact Nat.le_trans (setB_len h1) hL) (by rw [← hB.len]; exact Nat.le_trans (setB_len h2) hL) k4 hC).mono ?_
  rintro e w' ⟨b, ms, rfl, p1, p2, p3⟩
  refine ⟨b, rfl, ⟨ns ++ ms, all, p1, p2.blk k2 (k1.free k2 k3 (by decide)), k3, Nat.lt_of_lt_of_le k4 (by have := len_more ns ms; omega), fun s => by rw [sem_add k1.ok ms k4, k5]⟩, p2, p3.trans ?_⟩
  unfold subR
  simp only [k5]
theorem newRegion_at {L : Nat} (hL : L ≤ 24) {w : World} {A : Option Addr} {n c : Nat} {cs : List SS} (h : Rd Enc.ss w A n c cs) (hok : ∀ x ∈ cs, OkSS L x) (hn : n ≤ 2000) :
    Calls Tryz.prog 36 #[.int .i64 L, .slice A n c] w fun e w' => ∃ g bf bp rb, e = .returned (.pointer (some ⟨rb, 0, none⟩)) ∧ RegAt L w.heap.size g bf bp rb cs w' 67113800000 ∧ Below w.heap.size w w' := by
  refine (newRegion_ct hL h hok hn).mono ?_
  rintro e w' ⟨g, bf, bp, rb, ns, all, Ck, rfl, h1, h2, h3, h4, h5, h6, h7⟩
  exact ⟨g, bf, bp, rb, rfl, ⟨ns, all, h1.mono (by omega), h3, h4, h5, h6⟩, h7⟩
end Go.Proofs.YtmjiiddncbhgpaaGreat
namespace Go.Proofs.YtmjiiddncbhgpaaGreat
set_option linter.unusedVariables false
set_option linter.unusedSimpArgs false
open Go.RowKit
/-- what Check answers -/
def ChkP (w : World) (T : Tsk) (cs : List SS) (e : Ending) (w' : World) : Prop :=
  Below w.heap.size w w' ∧ ∃ b, e = .returned (.tuple #[.bool b, fault (setsF T cs).1 (setsF T cs).2]) ∧ (b = true ↔ (setsF T cs).1 = 0 ∧ Proof T cs)
theorem ChkP.of {w w' : World} {T : Tsk} {cs : List SS} {b : Bool} {ec ei : Int} (hq : setsF T cs = (ec, ei)) (hb : Below w.heap.size w w') (h : b = true ↔ ec = 0 ∧ Proof T cs) : ChkP w T cs (.returned (.tuple #[.bool b, fault ec ei])) w' :=
  ⟨hb, b, by rw [hq], by rw [hq]; exact h⟩
/-- And of the start's cube and the region is empty exactly if the start is not in it -/
theorem start_zero {L : Nat} {ns : List BN} (ok : OkD L ns) {k : Nat} (hk : k < ns.length + 2) {T : Tsk} (hi : setB L T.init = true) {cs : List SS} (hok : ∀ c ∈ cs, OkSS L c) {cq : (Nat → Bool) → Bool} (hcq : ∀ s, cq s = true ↔ ∀ v, v < L → s v = (wordF T.init).testBit v)
    (h : ∀ s, sem ns k s = (cq s && inR cs s)) : k = 0 ↔ inR cs (stF T.init) = false := by
  have hw : ∀ v, (wordF T.init).testBit v = stF T.init v := fun v => by
    rw [word_bit (setB_pos hi)]
    unfold stF
    rw [Bool.eq_iff_iff, decide_eq_true_iff, hasB_iff]
  rw [zero_iff ok hk]
  constructor
  · intro e
    have := (h (stF T.init)).symm.trans (e _)
    rw [(hcq _).2 (fun v hv => (hw v).symm)] at this
    simpa using this
  · intro e s
    rw [h]
    cases hc : cq s
    · rfl
    · rw [Bool.true_and, inR_near hok (t := stF T.init) (fun v hv => ((hcq s).1 hc v hv).trans (hw v)), e]
/-- the sets looked at so far, and of the next one the operators so far -/
def StepTo (T : Tsk) (cs : List SS) (k : Nat) : Prop := ∀ c ∈ cs.take k, meetB T.goal c.no = true ∧ ∀ o ∈ T.ops, meetB o.pre c.no = false → subR cs (imgF c o)
def OpsTo (T : Tsk) (cs : List SS) (c : SS) (q : Nat) : Prop := ∀ o ∈ T.ops.take q, meetB o.pre c.no = false → subR cs (imgF c o)
theorem ops_succ {T : Tsk} {cs : List SS} {c : SS} {q : Nat} {o : Opr} (h : OpsTo T cs c q) (ho : T.ops[q]? = some o) (k : meetB o.pre c.no = false → subR cs (imgF c o)) : OpsTo T cs c (q + 1) := fun o' ho' => by
  rw [List.take_add_one, ho, List.mem_append] at ho'
  rcases ho' with ho' | ho'
  · exact h o' ho'
  · simp at ho'; subst ho'; exact k
theorem step_succ {T : Tsk} {cs : List SS} {c : SS} {k : Nat} (h : StepTo T cs k) (hc : cs[k]? = some c) (hg : meetB T.goal c.no = true) (ho : OpsTo T cs c T.ops.length) : StepTo T cs (k + 1) := fun c' hc' => by
  rw [List.take_add_one, hc, List.mem_append] at hc'
  rcases hc' with hc' | hc'
  · exact h c' hc'
  · simp at hc'; subst hc'
    exact ⟨hg, fun o hoo => ho o (by rw [List.take_of_length_le (Nat.le_refl _)]; exact hoo)⟩
theorem proof_of_steps {T : Tsk} {cs : List SS} (h0 : inR cs (stF T.init) = true) (h : StepTo T cs cs.length) : Proof T cs :=
  ⟨h0, fun c hc => (h c (by rw [List.take_of_length_le (Nat.le_refl _)]; exact hc)).1, fun c hc => (h c (by rw [List.take_of_length_le (Nat.le_refl _)]; exact hc)).2⟩
set_option maxRecDepth 100000 in
set_option maxHeartbeats 6400000 in
theorem Check_ct (a : TA) (T : Tsk) (A : Option Addr) (n c : Nat) (l : List SS) (w : World) (h : TkR w a T) (hl : Rd Enc.ss w A n c l) :
    Calls Tryz.prog 9 #[.agg #[.int .i64 T.facts, .slice a.I a.nI a.cI, .slice a.G a.nG a.cG, .slice a.O a.nO a.cO], .slice A n c] w (ChkP w T l) := by
  have hcert := fun W hT hW => certificate_ct a T A n c l W hT hW
  obtain ⟨I, nI, cI, G, nG, cG, O, nO, cO⟩ := a
  simp only at hcert ⊢
  rcases hq : setsF T l with ⟨ec, ei⟩
  rw [hq] at hcert
  have hlow := hl.low
  have Hlen := hide hl.len
  have H := hide h
  have Hl := hide hl
  have Hcert := hide hcert
  have Hq := hide hq
  clear h hl hq hcert
  have Hbl := hide (Below.refl w.heap.size w)
  go_enter Tryz.func9, Tryz.ntmps9
  go_upto_region 1 with (fail)
  obtain ⟨B0, hB0⟩ : ∃ B0, B0 = w.heap.size := ⟨_, rfl⟩
  have HB0 := hide hB0
  clear hB0
  have s_0 : B0 ≤ w.heap.size := Nat.le_trans (Nat.le_of_eq HB0.out) Hbl.out.size
  have hyt := Blk.new (w) 25 [.int .i64 T.facts, .slice I nI cI, .slice G nG cG, .slice O nO cO]
  have hyf := Blk.new ((w).alloc (.cells #[.int .i64 T.facts, .slice I nI cI, .slice G nG cG, .slice O nO cO] 25)) 29 [.int .i64 0, .int .i64 0]
  replace hyt := hyt.alloc (.cells #[.int .i64 0, .int .i64 0] 29)
  have hbW := below_two w (.cells #[.int .i64 T.facts, .slice I nI cI, .slice G nG cG, .slice O nO cO] 25) (.cells #[.int .i64 0, .int .i64 0] 29)
  simp only [World.size_alloc] at hyf
  obtain ⟨w0, hW⟩ : ∃ W, W = ((w).alloc (.cells #[.int .i64 T.facts, .slice I nI cI, .slice G nG cG, .slice O nO cO] 25)).alloc (.cells #[.int .i64 0, .int .i64 0] 29) := ⟨_, rfl⟩
  rw [← hW] at hyt hyf hbW ⊢
  replace Hbl := hide (Hbl.out.trans (hbW.mono Hbl.out.size))
  have Ht := hide hyt
  have Hf := hide hyf
  clear hW hbW hyt hyf
  generalize w.heap.size = gT at Ht Hf s_0 ⊢
  have t0 := Ht.out.cell 0
  have t1 := Ht.out.cell 1
  have t2 := Ht.out.cell 2
  have t3 := Ht.out.cell 3
  have tl := Ht.out.lt
  have f0 := Hf.out.cell 0
  have f1 := Hf.out.cell 1
  have fl := Hf.out.lt
  simp only [List.getElem?_cons_zero, List.getElem?_cons_succ] at t0 t1 t2 t3 f0 f1
  have a_t : B0 ≤ gT := by omega
  have a_f : B0 ≤ gT + 1 := by omega
  clear s_0
  have n_t_f : ¬ gT = gT + 1 := by omega
  have n_f_t : ¬ gT + 1 = gT := by omega
  go_wp2_with fail
  with_reducible refine (Hcert.out w0 (H.out.keep Hbl.out) (Hl.out.keep Hbl.out)).mono ?_
  rintro e w1 ⟨rfl, hb⟩
  clear t0 t1 t2 t3 f0 f1 tl fl
  replace Ht := hide (Ht.out.keep hb)
  replace Hf := hide (Hf.out.keep hb)
  replace Hbl := hide (Hbl.out.trans (hb.mono Hbl.out.size))
  clear hb
  have t0 := Ht.out.cell 0
  have t1 := Ht.out.cell 1
  have t2 := Ht.out.cell 2
  have t3 := Ht.out.cell 3
  have tl := Ht.out.lt
  have f0 := Hf.out.cell 0
  have f1 := Hf.out.cell 1
  have fl := Hf.out.lt
  simp only [List.getElem?_cons_zero, List.getElem?_cons_succ] at t0 t1 t2 t3 f0 f1
  unfold fault
  go_upto_region 2 with (fail)
  have n_t_p : ¬ gT = w1.heap.size := by omega
  have n_p_t : ¬ w1.heap.size = gT := by omega
  have n_f_p : ¬ gT + 1 = w1.heap.size := by omega
  have n_p_f : ¬ w1.heap.size = gT + 1 := by omega
  have s_t : gT < w1.heap.size := tl
  have s_f : gT + 1 < w1.heap.size := fl
  have s_0 : B0 ≤ w1.heap.size := Nat.le_trans (Nat.le_of_eq HB0.out) Hbl.out.size
  have hyp := Blk.new (w1) 29 [.int .i64 ec, .int .i64 ei]
  have hbW : Below (w1).heap.size (w1) ((w1).alloc (.cells #[.int .i64 ec, .int .i64 ei] 29)) := (Below.refl _ _).alloc (Nat.le_refl _) _
  obtain ⟨w2, hW⟩ : ∃ W, W = (w1).alloc (.cells #[.int .i64 ec, .int .i64 ei] 29) := ⟨_, rfl⟩
  rw [← hW] at hyp hbW ⊢
  replace Ht := hide (Ht.out.keep hbW)
  replace Hf := hide (Hf.out.keep hbW)
  replace Hbl := hide (Hbl.out.trans (hbW.mono Hbl.out.size))
  have Hp := hide hyp
  clear hW hbW hyp
  generalize w1.heap.size = gp at Hp n_t_p n_p_t n_f_p n_p_f s_t s_f s_0 ⊢
  have t0 := Ht.out.cell 0
  have t1 := Ht.out.cell 1
  have t2 := Ht.out.cell 2
  have t3 := Ht.out.cell 3
  have tl := Ht.out.lt
  have f0 := Hf.out.cell 0
  have f1 := Hf.out.cell 1
  have fl := Hf.out.lt
  have p0 := Hp.out.cell 0
  have p1 := Hp.out.cell 1
  have pl := Hp.out.lt
  simp only [List.getElem?_cons_zero, List.getElem?_cons_succ] at t0 t1 t2 t3 f0 f1 p0 p1
  clear s_t
  clear s_f
  have a_p : B0 ≤ gp := by omega
  clear s_0
  by_cases hec : ec = 0
  rotate_left
  · skip
    have ff0 := Hf.out.frozen 0
    have ff1 := Hf.out.frozen 1
    go_upto_region 3 with (fail)
    go_region
    all_goals go_wp2_with fail
    all_goals refine bodyPost_ret (v := .tuple #[.bool false, fault ec ei]) (by simp [results, Tryz.results9, go_sem, fault, f0, f1, fl]) rfl ?_
    have hbx := HB0.out
    refine ChkP.of Hq.out ?_ ⟨fun h => (by cases h), fun h => absurd h.1 hec⟩
    repeat' (first | (with_reducible exact Hbl.out) | (with_reducible refine Below.drew ?_) | (with_reducible refine below_setD ?_ ?_ _ _) | (with_reducible refine below_drewN ?_ _) | omega)
  subst hec
  obtain ⟨N, hok, hss, hfew, hz⟩ := setsF_ok (T := T) (l := l) (by rw [Hq.out])
  rw [Hq.out] at hz
  obtain ⟨_, e2⟩ := Prod.mk.inj hz
  subst e2
  clear hz
  have hN := hok.low
  have HfN := hide hok.facts
  have Hss := hide hss
  have Hok := hide hok
  have hf : T.facts = (N : Int) := hok.facts
  have hn : n ≤ 2000 := by rw [← Hlen.out]; exact hfew
  clear hok hss hfew
  have hnr := newRegion_at hN (Hl.out.keep Hbl.out) Hss.out hn
  rw [← hf] at hnr
  have Hnr := hide hnr
  clear hnr hf
  go_wp2_with fail
  with_reducible refine Hnr.out.mono ?_
  rintro e w3 ⟨g, bf, bp, rb, rfl, hreg, hb⟩
  have q_t := tl
  have q_f := fl
  have q_p := pl
  have Hbw := hide Hbl.out.size
  have Kbl := Hbl
  have Kt := Ht
  have Kf := Hf
  have Kp := Hp
  have Hreg := hide hreg
  have hreg3 := hreg
  obtain ⟨ns, all, k1, k2, k3, k4, k5⟩ := hreg3
  have k2l := k2.lt
  clear hreg Hnr
  clear t0 t1 t2 t3 f0 f1 p0 p1 tl fl pl
  replace Ht := hide (Ht.out.keep hb)
  replace Hf := hide (Hf.out.keep hb)
  replace Hp := hide (Hp.out.keep hb)
  replace Hbl := hide (Hbl.out.trans (hb.mono Hbl.out.size))
  have Hb2 := hide hb
  clear hb
  have t0 := Ht.out.cell 0
  have t1 := Ht.out.cell 1
  have t2 := Ht.out.cell 2
  have t3 := Ht.out.cell 3
  have tl := Ht.out.lt
  have f0 := Hf.out.cell 0
  have f1 := Hf.out.cell 1
  have fl := Hf.out.lt
  have p0 := Hp.out.cell 0
  have p1 := Hp.out.cell 1
  have pl := Hp.out.lt
  simp only [List.getElem?_cons_zero, List.getElem?_cons_succ] at t0 t1 t2 t3 f0 f1 p0 p1
  have r0 := k2.cell 0
  have r1 := k2.cell 1
  simp only [List.getElem?_cons_zero, List.getElem?_cons_succ] at r0 r1
  have hinit := (H.out.keep Hbl.out).init
  have hwd := fun W (hW : Below w3.heap.size w3 W) => Word_ct I nI cI T.init W (hinit.keep hW) (fun x hx => by have := (setB_iff.1 Hok.out.init).2 x hx; omega)
  have hwlt : wordF T.init < 4294967296 := word_lt (fun x hx => by have := (setB_iff.1 Hok.out.init).2 x hx; omega)
  have Hwd := hide hwd
  have St0 := hide k1
  have Hrg := hide k2
  have Hk5 := hide k5
  have Hfr := hide (k1.free k2 k3 (by decide))
  clear hwd hinit k5
  go_upto_region 5 with (fail)
  refine wp_region_held_drew (S := (fun w' => w'.cell? ⟨rb, 0, none⟩ = some (.pointer (some ⟨g, 0, none⟩)) ∧ w'.cell? ⟨rb, 1, none⟩ = some (.int .i64 (all : Nat)) ∧ w'.cell? ⟨gT, 1, none⟩ = some (.slice I nI cI))) (by kernel_rfl) ?_ (fun hHeld => ?_)
  · exact ⟨r0, r1, t1⟩
  refine takeR (i := 0) (v := ?_) (some 25) rfl rfl (by kernel_rfl) (by kernel_rfl) (by kernel_rfl) (fun _ _ _ h => h) (Or.inl ⟨by rfl, ?_⟩) (by assumption) ?_
  rotate_left
  · intro w hSw; (try dsimp only at hSw); obtain ⟨s1, s2, s3⟩ := hSw; first | (go_simp; done) | (go_simp; with_reducible rfl)
  try simp only [Act.put, List.setIfInBounds_toArray, List.set_cons_zero, List.set_cons_succ]
  refine takeR (i := 1) (v := ?_) (some 26) rfl rfl (by kernel_rfl) (by kernel_rfl) (by kernel_rfl) (fun _ _ _ h => h) (Or.inl ⟨by rfl, ?_⟩) (by assumption) ?_
  rotate_left
  · intro w hSw; (try dsimp only at hSw); obtain ⟨s1, s2, s3⟩ := hSw; first | (go_simp; done) | (go_simp; with_reducible rfl)
  try simp only [Act.put, List.setIfInBounds_toArray, List.set_cons_zero, List.set_cons_succ]
  refine takeR (i := 2) (v := ?_) (some 27) rfl rfl (by kernel_rfl) (by kernel_rfl) (by kernel_rfl) (fun _ _ _ h => h) (Or.inl ⟨by rfl, ?_⟩) (by assumption) ?_
  rotate_left
  · intro w hSw; (try dsimp only at hSw); obtain ⟨s1, s2, s3⟩ := hSw; first | (go_simp; done) | (go_simp; with_reducible rfl)
  try simp only [Act.put, List.setIfInBounds_toArray, List.set_cons_zero, List.set_cons_succ]
  refine takeR (i := 3) (v := ?_) (some 28) rfl rfl (by kernel_rfl) (by kernel_rfl) (by kernel_rfl) (fun _ _ _ h => h) (Or.inl ⟨by rfl, ?_⟩) (by assumption) ?_
  rotate_left
  · intro w hSw; (try dsimp only at hSw); obtain ⟨s1, s2, s3⟩ := hSw; first | (go_simp; done) | (go_simp; with_reducible rfl)
  try simp only [Act.put, List.setIfInBounds_toArray, List.set_cons_zero, List.set_cons_succ]
  refine takeR (i := 4) (v := ?_) (some 29) rfl rfl (by kernel_rfl) (by kernel_rfl) (by kernel_rfl) (fun _ _ _ h => h) (Or.inl ⟨by rfl, ?_⟩) (by assumption) ?_
  rotate_left
  · intro w hSw; (try dsimp only at hSw); obtain ⟨s1, s2, s3⟩ := hSw; first | (go_simp; done) | (go_simp; with_reducible rfl)
  try simp only [Act.put, List.setIfInBounds_toArray, List.set_cons_zero, List.set_cons_succ]
  refine takeR (i := 5) (v := ?_) (some 30) rfl rfl (by kernel_rfl) (by kernel_rfl) (by kernel_rfl) (fun _ _ _ h => h) (Or.inl ⟨by rfl, ?_⟩) (by assumption) ?_
  rotate_left
  · intro w hSw; (try dsimp only at hSw); obtain ⟨s1, s2, s3⟩ := hSw; first | (go_simp; done) | (go_simp; with_reducible rfl)
  try simp only [Act.put, List.setIfInBounds_toArray, List.set_cons_zero, List.set_cons_succ]
  refine takeR (i := 6) (v := ?_) (some 31) rfl rfl (by kernel_rfl) (by kernel_rfl) (by kernel_rfl) (fun _ _ _ h => h) (Or.inl ⟨by rfl, ?_⟩) (by assumption) ?_
  rotate_left
  · intro w hSw; (try dsimp only at hSw); obtain ⟨s1, s2, s3⟩ := hSw; first | (go_simp; done) | (go_simp; with_reducible rfl)
  try simp only [Act.put, List.setIfInBounds_toArray, List.set_cons_zero, List.set_cons_succ]
  refine takeR (i := 7) (v := ?_) (some 32) rfl rfl (by kernel_rfl) (by kernel_rfl) (by kernel_rfl) (fun _ _ _ h => h) (Or.inl ⟨by rfl, ?_⟩) (by assumption) ?_
  rotate_left
  · intro w hSw; (try dsimp only at hSw); obtain ⟨s1, s2, s3⟩ := hSw; first | (go_simp; done) | (go_simp; with_reducible rfl)
  try simp only [Act.put, List.setIfInBounds_toArray, List.set_cons_zero, List.set_cons_succ]
  refine takeR (i := 8) (v := ?_) (some 33) rfl rfl (by kernel_rfl) (by kernel_rfl) (by kernel_rfl) (fun _ _ _ h => h) (Or.inl ⟨by rfl, ?_⟩) (by assumption) ?_
  rotate_left
  · intro w hSw; (try dsimp only at hSw); obtain ⟨s1, s2, s3⟩ := hSw; first | (go_simp; done) | (go_simp; with_reducible rfl)
  try simp only [Act.put, List.setIfInBounds_toArray, List.set_cons_zero, List.set_cons_succ]
  refine takeR (i := 9) (v := ?_) (some 34) rfl rfl (by kernel_rfl) (by kernel_rfl) (by kernel_rfl) (fun _ _ _ h => h) (Or.inl ⟨by rfl, ?_⟩) (by assumption) ?_
  rotate_left
  · intro w hSw; (try dsimp only at hSw); obtain ⟨s1, s2, s3⟩ := hSw; first | (go_simp; done) | (go_simp; with_reducible rfl)
  try simp only [Act.put, List.setIfInBounds_toArray, List.set_cons_zero, List.set_cons_succ]
  refine takeR (i := 12) (v := ?_) (some 37) rfl rfl (by kernel_rfl) (by kernel_rfl) (by kernel_rfl) (fun _ _ _ h => h) (Or.inl ⟨by rfl, ?_⟩) (by assumption) ?_
  rotate_left
  · intro w hSw; (try dsimp only at hSw); obtain ⟨s1, s2, s3⟩ := hSw; first | (go_simp; done) | (go_simp; with_reducible rfl)
  try simp only [Act.put, List.setIfInBounds_toArray, List.set_cons_zero, List.set_cons_succ]
  refine takeR (i := 13) (v := ?_) (some 38) rfl rfl (by kernel_rfl) (by kernel_rfl) (by kernel_rfl) (fun _ _ _ h => h) (Or.inl ⟨by rfl, ?_⟩) (by assumption) ?_
  rotate_left
  · intro w hSw; (try dsimp only at hSw); obtain ⟨s1, s2, s3⟩ := hSw; first | (go_simp; done) | (go_simp; with_reducible rfl)
  try simp only [Act.put, List.setIfInBounds_toArray, List.set_cons_zero, List.set_cons_succ]
  refine takeR (i := 14) (v := ?_) (some 39) rfl rfl (by kernel_rfl) (by kernel_rfl) (by kernel_rfl) (fun _ _ _ h => h) (Or.inl ⟨by rfl, ?_⟩) (by assumption) ?_
  rotate_left
  · intro w hSw; (try dsimp only at hSw); obtain ⟨s1, s2, s3⟩ := hSw; first | (go_simp; done) | (go_simp; with_reducible rfl)
  try simp only [Act.put, List.setIfInBounds_toArray, List.set_cons_zero, List.set_cons_succ]
  refine takeR (i := 15) (v := ?_) (some 40) rfl rfl (by kernel_rfl) (by kernel_rfl) (by kernel_rfl) (fun _ _ _ h => h) (Or.inl ⟨by rfl, ?_⟩) (by assumption) ?_
  rotate_left
  · intro w hSw; (try dsimp only at hSw); obtain ⟨s1, s2, s3⟩ := hSw; first | (go_simp; done) | (go_simp; with_reducible rfl)
  try simp only [Act.put, List.setIfInBounds_toArray, List.set_cons_zero, List.set_cons_succ]
  refine wpAnyH_ready (rs := [10]) (by kernel_rfl) (by simp) ?_
  refine AllReadyH.cons rfl (fun K hK => ?_) AllReadyH.nil
  go_simp
  with_reducible refine (Hwd.out _ ((Below.refl _ _).drew)).mono ?_
  rintro e w4 ⟨rfl, rfl⟩
  go_simp
  refine hK.out _ _ ?_ (fun hHeld2 => ?_)
  · exact ⟨r0, r1, t1⟩
  clear hK K hHeld
  try simp only [Act.put, List.setIfInBounds_toArray, List.set_cons_zero, List.set_cons_succ]
  have hHeld := hHeld2; clear hHeld2
  obtain ⟨w5, hw5⟩ : ∃ W, W = w3.drew := ⟨_, rfl⟩
  have hb : Below w3.heap.size w3 w5 := by rw [hw5]; exact (Below.refl _ _).drew
  rw [← hw5] at hHeld ⊢
  have St1 := hide (St0.out.keep hb)
  have Hrg1 := hide (Hrg.out.keep hb)
  have Hfr1 := hide (St1.out.free Hrg1.out k3 (by decide))
  clear hw5 St0 Hrg Hfr
  clear t0 t1 t2 t3 f0 f1 p0 p1 tl fl pl
  replace Ht := hide (Ht.out.keep hb)
  replace Hf := hide (Hf.out.keep hb)
  replace Hp := hide (Hp.out.keep hb)
  replace Hbl := hide (Hbl.out.trans (hb.mono Hbl.out.size))
  replace Hb2 := hide (Hb2.out.trans (hb.mono Hb2.out.size))
  clear hb
  have t0 := Ht.out.cell 0
  have t1 := Ht.out.cell 1
  have t2 := Ht.out.cell 2
  have t3 := Ht.out.cell 3
  have tl := Ht.out.lt
  have f0 := Hf.out.cell 0
  have f1 := Hf.out.cell 1
  have fl := Hf.out.lt
  have p0 := Hp.out.cell 0
  have p1 := Hp.out.cell 1
  have pl := Hp.out.lt
  simp only [List.getElem?_cons_zero, List.getElem?_cons_succ] at t0 t1 t2 t3 f0 f1 p0 p1
  clear r0 r1
  have r0 := Hrg1.out.cell 0
  have r1 := Hrg1.out.cell 1
  simp only [List.getElem?_cons_zero, List.getElem?_cons_succ] at r0 r1
  refine wpAnyH_ready (rs := [11]) (by kernel_rfl) (by simp) ?_
  refine AllReadyH.cons rfl (fun K hK => ?_) AllReadyH.nil
  go_simp
  refine (Cube_ct St1.out hwlt (by omega)).mono ?_
  rintro e w6 ⟨ms1, kc, rfl, hs6, hK6, hkc, hqc⟩
  go_simp
  have hb := hK6.below St1.out.base
  have St2 := hide hs6
  have Hrg2 := hide (hK6.blk Hrg1.out Hfr1.out)
  have Hfr2 := hide (hK6.free Hfr1.out)
  have hl1 : ns.length ≤ (ns ++ ms1).length := len_more _ _
  have Hbs := hide St1.out.base
  have Hok1 := hide St1.out.ok
  clear hs6 hK6
  clear t0 t1 t2 t3 f0 f1 p0 p1 tl fl pl
  replace Ht := hide (Ht.out.below hb (by omega))
  replace Hf := hide (Hf.out.below hb (by omega))
  replace Hp := hide (Hp.out.below hb (by omega))
  replace Hbl := hide (Hbl.out.trans (hb.mono (by have := Hbw.out; omega)))
  replace Hb2 := hide (Hb2.out.trans hb)
  clear hb
  have t0 := Ht.out.cell 0
  have t1 := Ht.out.cell 1
  have t2 := Ht.out.cell 2
  have t3 := Ht.out.cell 3
  have tl := Ht.out.lt
  have f0 := Hf.out.cell 0
  have f1 := Hf.out.cell 1
  have fl := Hf.out.lt
  have p0 := Hp.out.cell 0
  have p1 := Hp.out.cell 1
  have pl := Hp.out.lt
  simp only [List.getElem?_cons_zero, List.getElem?_cons_succ] at t0 t1 t2 t3 f0 f1 p0 p1
  clear r0 r1
  have r0 := Hrg2.out.cell 0
  have r1 := Hrg2.out.cell 1
  simp only [List.getElem?_cons_zero, List.getElem?_cons_succ] at r0 r1
  refine hK.out _ _ ?_ (fun hHeld2 => ?_)
  · exact ⟨r0, r1, t1⟩
  clear hK K hHeld
  try simp only [Act.put, List.setIfInBounds_toArray, List.set_cons_zero, List.set_cons_succ]
  have hHeld := hHeld2; clear hHeld2
  refine wpAnyH_ready (rs := [16]) (by kernel_rfl) (by simp) ?_
  refine AllReadyH.cons rfl (fun K hK => ?_) AllReadyH.nil
  go_simp
  refine (And_ct St2.out (a := kc) (b := all) hkc (by omega) (by omega)).mono ?_
  rintro e w7 ⟨ms2, kn, rfl, hs7, hK7, hkn, hqn⟩
  go_simp
  have hb := hK7.below St2.out.base
  have hzz := start_zero hs7.ok hkn Hok.out.init Hss.out hqc (fun s => by rw [hqn, sem_add Hok1.out ms1 k4, Hk5.out])
  have hregA : RegAt N w2.heap.size g bf bp rb l w7 67147355000 := ⟨_, all, hs7.mono (by omega), hK7.blk Hrg2.out Hfr2.out, k3, by have := len_more (ns ++ ms1) ms2; omega, fun s => by rw [sem_add St2.out.ok ms2 (by omega), sem_add Hok1.out ms1 k4, Hk5.out]⟩
  have HregA := hide hregA
  have Hrg3 := hide (hK7.blk Hrg2.out Hfr2.out)
  have Hzz := hide hzz
  clear hs7 hK7 hregA hqn hqc hzz
  clear t0 t1 t2 t3 f0 f1 p0 p1 tl fl pl
  replace Ht := hide (Ht.out.below hb (by omega))
  replace Hf := hide (Hf.out.below hb (by omega))
  replace Hp := hide (Hp.out.below hb (by omega))
  replace Hbl := hide (Hbl.out.trans (hb.mono (by have := Hbw.out; omega)))
  replace Hb2 := hide (Hb2.out.trans hb)
  clear hb
  have t0 := Ht.out.cell 0
  have t1 := Ht.out.cell 1
  have t2 := Ht.out.cell 2
  have t3 := Ht.out.cell 3
  have tl := Ht.out.lt
  have f0 := Hf.out.cell 0
  have f1 := Hf.out.cell 1
  have fl := Hf.out.lt
  have p0 := Hp.out.cell 0
  have p1 := Hp.out.cell 1
  have pl := Hp.out.lt
  simp only [List.getElem?_cons_zero, List.getElem?_cons_succ] at t0 t1 t2 t3 f0 f1 p0 p1
  clear r0 r1
  have r0 := Hrg3.out.cell 0
  have r1 := Hrg3.out.cell 1
  simp only [List.getElem?_cons_zero, List.getElem?_cons_succ] at r0 r1
  refine hK.out _ _ ?_ (fun hHeld2 => ?_)
  · exact ⟨r0, r1, t1⟩
  clear hK K hHeld
  try simp only [Act.put, List.setIfInBounds_toArray, List.set_cons_zero, List.set_cons_succ]
  have hHeld := hHeld2; clear hHeld2
  refine takeR (i := 17) (v := ?_) (some 42) rfl rfl (by kernel_rfl) (by kernel_rfl) (by kernel_rfl) (fun _ _ _ h => h) (Or.inl ⟨by rfl, ?_⟩) (by assumption) ?_
  rotate_left
  · intro w hSw; (try dsimp only at hSw); obtain ⟨s1, s2, s3⟩ := hSw; first | (go_simp; done) | (go_simp; with_reducible rfl)
  try simp only [Act.put, List.setIfInBounds_toArray, List.set_cons_zero, List.set_cons_succ]
  refine wpAnyH_done (by kernel_rfl) ?_ _
  clear r0 r1 hHeld Hrg1 Hrg2 Hrg3 Hfr1 Hfr2 St1 St2 Hwd k1 k2 k2l Hok1 Hk5
  by_cases hkz : kn = 0
  · subst hkz
    have hst := Hzz.out.1 rfl
    clear Hzz hkn
    have ff0 := Hf.out.frozen 0
    have ff1 := Hf.out.frozen 1
    go_wp2_with fail
    refine bodyPost_ret (v := .tuple #[.bool false, fault 0 0]) (by simp [results, Tryz.results9, go_sem, fault, f0, f1, fl]) rfl ?_
    have hbx := HB0.out
    refine ChkP.of Hq.out ?_ ⟨fun h => (by cases h), fun h => by have := h.2.start; rw [hst] at this; cases this⟩
    repeat' (first | (with_reducible exact Hbl.out) | (with_reducible refine Below.drew ?_) | (with_reducible refine below_setD ?_ ?_ _ _) | (with_reducible refine below_drewN ?_ _) | omega)
  have hst : inR l (stF T.init) = true := by
    cases e : inR l (stF T.init)
    · exact absurd (Hzz.out.2 e) hkz
    · rfl
  have Hst := hide hst
  have hkb : ((kn : Int) == 0) = false := by simpa using hkz
  clear Hzz hkn hst
  go_wp2_with fail
  clear hkb
  clear t0 t1 t2 t3 f0 f1 p0 p1 tl fl pl
  go_loopw [46] (fun i wr => ∃ (k Ck : Nat), k ≤ n ∧ i = .int .i64 k ∧ Below w2.heap.size w2 wr ∧ RegAt N w2.heap.size g bf bp rb l wr Ck ∧ Ck ≤ 67147355000 + 2684450640 * k ∧ StepTo T l k) (fun i _ => n - (intOf i).toNat)
  case atStart => exact ⟨0, _, by omega, rfl, Hb2.out, HregA.out, by omega, fun c hc => by simp at hc⟩
  case round =>
    obtain ⟨k, Ck, hk, rfl, hb, hrA, hCk, hsteps⟩ := hrel
    obtain ⟨wo, rfl⟩ : ∃ V, V = wr := ⟨_, rfl⟩
    replace HregA := hide hrA
    have Hsteps := hide hsteps
    replace Hb2 := hide hb
    replace Hbl := hide (Kbl.out.trans (hb.mono Hbw.out))
    clear hrA hsteps hb
    replace Ht := hide (Kt.out.keep Hb2.out)
    replace Hf := hide (Kf.out.keep Hb2.out)
    replace Hp := hide (Kp.out.keep Hb2.out)
    have t0 := Ht.out.cell 0
    have t1 := Ht.out.cell 1
    have t2 := Ht.out.cell 2
    have t3 := Ht.out.cell 3
    have tl := Ht.out.lt
    have f0 := Hf.out.cell 0
    have f1 := Hf.out.cell 1
    have fl := Hf.out.lt
    have p0 := Hp.out.cell 0
    have p1 := Hp.out.cell 1
    have pl := Hp.out.lt
    simp only [List.getElem?_cons_zero, List.getElem?_cons_succ] at t0 t1 t2 t3 f0 f1 p0 p1
    by_cases hlt : k < n
    rotate_left
    · obtain rfl : k = n := by omega
      have ff0 := Hf.out.frozen 0
      have ff1 := Hf.out.frozen 1
      go_wp2_with fail
      refine bodyPost_ret (v := .tuple #[.bool true, fault 0 0]) (by simp [results, Tryz.results9, go_sem, fault, f0, f1, fl]) rfl ?_
      have hbx := HB0.out
      refine ChkP.of Hq.out ?_ ⟨fun _ => ⟨rfl, proof_of_steps Hst.out (by rw [Hlen.out]; exact Hsteps.out)⟩, fun _ => rfl⟩
      repeat' (first | (with_reducible exact Hbl.out) | (with_reducible refine Below.drew ?_) | (with_reducible refine below_setD ?_ ?_ _ _) | (with_reducible refine below_drewN ?_ _) | omega)
    obtain ⟨b, off, x, A1, n1, c1, A2, n2, c2, rfl, hx, x0, x1, r1, r2⟩ := Hl.out.ss hlt
    have g0 := cellOf_low Hbl.out x0
    have g1 := cellOf_low Hbl.out x1
    have hki : (k : Int) < (n : Int) := by omega
    have hmem := List.mem_of_getElem? hx
    have hxo := Hss.out x hmem
    have hn2 : n2 ≤ 1000000000000 := by have e1 := r2.len; have e2 := setB_len hxo.no; omega
    have hmm := fun W (hW : Below w.heap.size w W) => Meets_ct G A2 nG cG n2 c2 T.goal x.no W (H.out.goal.keep hW) (r2.keep hW) ((setB_iff.1 hxo.no).1.imp (fun h => Int.le_of_lt h)) hn2
    obtain ⟨v1, hv1⟩ : ∃ z, z = meetB T.goal x.no := ⟨_, rfl⟩
    simp only [← hv1] at hmm
    have Hmm := hide hmm
    have Hv1 := hide hv1
    have Hr1 := hide r1
    have Hr2 := hide r2
    have Hx := hide hx
    have Hmem := hide hmem
    have Hxo := hide hxo
    clear hmm hv1 r1 r2 hx hmem hxo x0 x1
    go_upto_region 10 with (fail)
    have e_c : ¬ wo.heap.size = g := by have := HregA.out.lt; omega
    have n_t_j : ¬ gT = wo.heap.size := by omega
    have n_j_t : ¬ wo.heap.size = gT := by omega
    have n_f_j : ¬ gT + 1 = wo.heap.size := by omega
    have n_j_f : ¬ wo.heap.size = gT + 1 := by omega
    have n_p_j : ¬ gp = wo.heap.size := by omega
    have n_j_p : ¬ wo.heap.size = gp := by omega
    have s_t : gT < wo.heap.size := tl
    have s_f : gT + 1 < wo.heap.size := fl
    have s_p : gp < wo.heap.size := pl
    have s_0 : B0 ≤ wo.heap.size := Nat.le_trans (Nat.le_of_eq HB0.out) Hbl.out.size
    have hyj := Blk.new (wo) 70 [.slice A1 n1 c1, .slice A2 n2 c2]
    have hbW : Below (wo).heap.size (wo) ((wo).alloc (.cells #[.slice A1 n1 c1, .slice A2 n2 c2] 70)) := (Below.refl _ _).alloc (Nat.le_refl _) _
    obtain ⟨w8, hW⟩ : ∃ W, W = (wo).alloc (.cells #[.slice A1 n1 c1, .slice A2 n2 c2] 70) := ⟨_, rfl⟩
    rw [← hW] at hyj hbW ⊢
    replace Ht := hide (Ht.out.keep hbW)
    replace Hf := hide (Hf.out.keep hbW)
    replace Hp := hide (Hp.out.keep hbW)
    replace HregA := hide (HregA.out.keep hbW)
    replace Hbl := hide (Hbl.out.trans (hbW.mono Hbl.out.size))
    replace Hb2 := hide (Hb2.out.trans (hbW.mono Hb2.out.size))
    have Hj := hide hyj
    clear hW hbW hyj
    generalize wo.heap.size = gc at Hj e_c n_t_j n_j_t n_f_j n_j_f n_p_j n_j_p s_t s_f s_p s_0 ⊢
    have t0 := Ht.out.cell 0
    have t1 := Ht.out.cell 1
    have t2 := Ht.out.cell 2
    have t3 := Ht.out.cell 3
    have tl := Ht.out.lt
    have f0 := Hf.out.cell 0
    have f1 := Hf.out.cell 1
    have fl := Hf.out.lt
    have p0 := Hp.out.cell 0
    have p1 := Hp.out.cell 1
    have pl := Hp.out.lt
    have j0 := Hj.out.cell 0
    have j1 := Hj.out.cell 1
    have jl := Hj.out.lt
    simp only [List.getElem?_cons_zero, List.getElem?_cons_succ] at t0 t1 t2 t3 f0 f1 p0 p1 j0 j1
    clear s_t
    clear s_f
    clear s_p
    have a_j : B0 ≤ gc := by omega
    clear s_0
    go_wp2_with fail
    with_reducible refine (Hmm.out _ Hbl.out).mono ?_
    rintro e w9 ⟨rfl, hb⟩
    clear t0 t1 t2 t3 f0 f1 p0 p1 j0 j1 tl fl pl jl
    replace Ht := hide (Ht.out.keep hb)
    replace Hf := hide (Hf.out.keep hb)
    replace Hp := hide (Hp.out.keep hb)
    replace Hj := hide (Hj.out.keep hb)
    replace HregA := hide (HregA.out.keep hb)
    replace Hbl := hide (Hbl.out.trans (hb.mono Hbl.out.size))
    replace Hb2 := hide (Hb2.out.trans (hb.mono Hb2.out.size))
    clear hb
    have t0 := Ht.out.cell 0
    have t1 := Ht.out.cell 1
    have t2 := Ht.out.cell 2
    have t3 := Ht.out.cell 3
    have tl := Ht.out.lt
    have f0 := Hf.out.cell 0
    have f1 := Hf.out.cell 1
    have fl := Hf.out.lt
    have p0 := Hp.out.cell 0
    have p1 := Hp.out.cell 1
    have pl := Hp.out.lt
    have j0 := Hj.out.cell 0
    have j1 := Hj.out.cell 1
    have jl := Hj.out.lt
    simp only [List.getElem?_cons_zero, List.getElem?_cons_succ] at t0 t1 t2 t3 f0 f1 p0 p1 j0 j1
    cases v1 with
    | false =>
      have ff0 := Hf.out.frozen 0
      have ff1 := Hf.out.frozen 1
      go_wp2_with fail
      refine bodyPost_ret (v := .tuple #[.bool false, fault 0 0]) (by simp [results, Tryz.results9, go_sem, fault, f0, f1, fl]) rfl ?_
      have hbx := HB0.out
      refine ChkP.of Hq.out ?_ ⟨fun h => (by cases h), fun h => by have e := h.2.goal x Hmem.out; rw [← Hv1.out] at e; cases e⟩
      repeat' (first | (with_reducible exact Hbl.out) | (with_reducible refine Below.drew ?_) | (with_reducible refine below_setD ?_ ?_ _ _) | (with_reducible refine below_drewN ?_ _) | omega)
    | true =>
      go_wp2_with fail
      clear t0 t1 t2 t3 f0 f1 p0 p1 j0 j1 tl fl pl jl
      have Hlo := hide (show T.ops.length = nO from H.out.ops.len)
      have hOl := H.out.ops.low
      go_loopw [60] (fun i wr => ∃ (q Cq : Nat), q ≤ nO ∧ i = .int .i64 q ∧ Below w2.heap.size w2 wr ∧ RegAt N w2.heap.size g bf bp rb l wr Cq ∧ Cq ≤ Ck + 67111266 * q ∧ OpsTo T l x q ∧ Blk 70 wr gc [.slice A1 n1 c1, .slice A2 n2 c2]) (fun i _ => nO - (intOf i).toNat)
      case atStart => exact ⟨0, Ck, by omega, rfl, Hb2.out, HregA.out, by omega, (fun o ho => by simp at ho), Hj.out⟩
      case round =>
        obtain ⟨q, Cq, hq, rfl, hb, hrA, hCq, hops, hcb⟩ := hrel
        replace HregA := hide hrA
        have Hops := hide hops
        replace Hb2 := hide hb
        replace Hj := hide hcb
        replace Hbl := hide (Kbl.out.trans (hb.mono Hbw.out))
        have h40 : nO ≤ 40 := by have := Hlo.out; have := Hok.out.few; omega
        clear hrA hops hb hcb
        replace Ht := hide (Kt.out.keep Hb2.out)
        replace Hf := hide (Kf.out.keep Hb2.out)
        replace Hp := hide (Kp.out.keep Hb2.out)
        have t0 := Ht.out.cell 0
        have t1 := Ht.out.cell 1
        have t2 := Ht.out.cell 2
        have t3 := Ht.out.cell 3
        have tl := Ht.out.lt
        have f0 := Hf.out.cell 0
        have f1 := Hf.out.cell 1
        have fl := Hf.out.lt
        have p0 := Hp.out.cell 0
        have p1 := Hp.out.cell 1
        have pl := Hp.out.lt
        have j0 := Hj.out.cell 0
        have j1 := Hj.out.cell 1
        have jl := Hj.out.lt
        simp only [List.getElem?_cons_zero, List.getElem?_cons_succ] at t0 t1 t2 t3 f0 f1 p0 p1 j0 j1
        by_cases hlq : q < nO
        rotate_left
        · obtain rfl : q = nO := by omega
          go_wp2_with fail
          go_roundw
          case rel => exact ⟨_, _, _, _, _, _, ⟨k + 1, by omega, rfl, Hb2.out, Cq, HregA.out, by omega, step_succ Hsteps.out Hx.out Hv1.out.symm (by rw [Hlo.out]; exact Hops.out)⟩, rfl, rfl, rfl, rfl, rfl, by go_num⟩
          case measure => simp [intOf]; omega
        obtain ⟨bo, ofo, o, P1, m1, d1, P2, m2, d2, P3, m3, d3, rfl, ho, y0, y1, y2, y3, q1, q2, q3, q4⟩ := H.out.ops.op hlq
        have z0 := cellOf_low Hbl.out y0
        have z1 := cellOf_low Hbl.out y1
        have z2 := cellOf_low Hbl.out y2
        have z3 := cellOf_low Hbl.out y3
        have hqi : (q : Int) < (nO : Int) := by omega
        have hom := List.mem_of_getElem? ho
        have hoo := Hok.out.ops o hom
        have him := fun W (hW : Below w.heap.size w W) => image_ct hN A1 A2 P1 P2 P3 n1 c1 n2 c2 m1 d1 m2 d2 m3 d3 x o W (Hr1.out.keep hW) (Hr2.out.keep hW) (q1.keep hW) (q2.keep hW) (q3.keep hW) Hxo.out hoo
        have Him := hide him
        have Ho_ := hide ho
        have Hom := hide hom
        have Hoo := hide hoo
        clear him ho hom hoo y0 y1 y2 y3 q1 q2 q3 q4
        go_upto_region 15 with (fail)
        have n_t_o : ¬ gT = wr.heap.size := by omega
        have n_o_t : ¬ wr.heap.size = gT := by omega
        have n_f_o : ¬ gT + 1 = wr.heap.size := by omega
        have n_o_f : ¬ wr.heap.size = gT + 1 := by omega
        have n_p_o : ¬ gp = wr.heap.size := by omega
        have n_o_p : ¬ wr.heap.size = gp := by omega
        have n_j_o : ¬ gc = wr.heap.size := by omega
        have n_o_j : ¬ wr.heap.size = gc := by omega
        have s_t : gT < wr.heap.size := tl
        have s_f : gT + 1 < wr.heap.size := fl
        have s_p : gp < wr.heap.size := pl
        have s_j : gc < wr.heap.size := jl
        have s_0 : B0 ≤ wr.heap.size := Nat.le_trans (Nat.le_of_eq HB0.out) Hbl.out.size
        have hyo := Blk.new (wr) 81 [.slice P1 m1 d1, .slice P2 m2 d2, .slice P3 m3 d3, .int .i64 o.cost]
        have hbW : Below (wr).heap.size (wr) ((wr).alloc (.cells #[.slice P1 m1 d1, .slice P2 m2 d2, .slice P3 m3 d3, .int .i64 o.cost] 81)) := (Below.refl _ _).alloc (Nat.le_refl _) _
        obtain ⟨w10, hW⟩ : ∃ W, W = (wr).alloc (.cells #[.slice P1 m1 d1, .slice P2 m2 d2, .slice P3 m3 d3, .int .i64 o.cost] 81) := ⟨_, rfl⟩
        rw [← hW] at hyo hbW ⊢
        replace Ht := hide (Ht.out.keep hbW)
        replace Hf := hide (Hf.out.keep hbW)
        replace Hp := hide (Hp.out.keep hbW)
        replace Hj := hide (Hj.out.keep hbW)
        replace HregA := hide (HregA.out.keep hbW)
        replace Hbl := hide (Hbl.out.trans (hbW.mono Hbl.out.size))
        replace Hb2 := hide (Hb2.out.trans (hbW.mono Hb2.out.size))
        have Ho := hide hyo
        clear hW hbW hyo
        generalize wr.heap.size = go at Ho n_t_o n_o_t n_f_o n_o_f n_p_o n_o_p n_j_o n_o_j s_t s_f s_p s_j s_0 ⊢
        have t0 := Ht.out.cell 0
        have t1 := Ht.out.cell 1
        have t2 := Ht.out.cell 2
        have t3 := Ht.out.cell 3
        have tl := Ht.out.lt
        have f0 := Hf.out.cell 0
        have f1 := Hf.out.cell 1
        have fl := Hf.out.lt
        have p0 := Hp.out.cell 0
        have p1 := Hp.out.cell 1
        have pl := Hp.out.lt
        have j0 := Hj.out.cell 0
        have j1 := Hj.out.cell 1
        have jl := Hj.out.lt
        have o0 := Ho.out.cell 0
        have o1 := Ho.out.cell 1
        have o2 := Ho.out.cell 2
        have o3 := Ho.out.cell 3
        have ol := Ho.out.lt
        simp only [List.getElem?_cons_zero, List.getElem?_cons_succ] at t0 t1 t2 t3 f0 f1 p0 p1 j0 j1 o0 o1 o2 o3
        clear s_t
        clear s_f
        clear s_p
        clear s_j
        have a_o : B0 ≤ go := by omega
        clear s_0
        have Hrx := HregA
        have Hwx := hide (Below.refl w10.heap.size w10)
        go_wp2_with fail
        with_reducible refine (Him.out _ Hbl.out).mono ?_
        rintro e w11 ⟨hb, hcase⟩
        clear t0 t1 t2 t3 f0 f1 p0 p1 j0 j1 o0 o1 o2 o3 tl fl pl jl ol
        replace Ht := hide (Ht.out.keep hb)
        replace Hf := hide (Hf.out.keep hb)
        replace Hp := hide (Hp.out.keep hb)
        replace Hj := hide (Hj.out.keep hb)
        replace Ho := hide (Ho.out.keep hb)
        replace HregA := hide (HregA.out.keep hb)
        replace Hbl := hide (Hbl.out.trans (hb.mono Hbl.out.size))
        replace Hb2 := hide (Hb2.out.trans (hb.mono Hb2.out.size))
        have Hnb := hide hb
        clear hb
        have t0 := Ht.out.cell 0
        have t1 := Ht.out.cell 1
        have t2 := Ht.out.cell 2
        have t3 := Ht.out.cell 3
        have tl := Ht.out.lt
        have f0 := Hf.out.cell 0
        have f1 := Hf.out.cell 1
        have fl := Hf.out.lt
        have p0 := Hp.out.cell 0
        have p1 := Hp.out.cell 1
        have pl := Hp.out.lt
        have j0 := Hj.out.cell 0
        have j1 := Hj.out.cell 1
        have jl := Hj.out.lt
        have o0 := Ho.out.cell 0
        have o1 := Ho.out.cell 1
        have o2 := Ho.out.cell 2
        have o3 := Ho.out.cell 3
        have ol := Ho.out.lt
        simp only [List.getElem?_cons_zero, List.getElem?_cons_succ] at t0 t1 t2 t3 f0 f1 p0 p1 j0 j1 o0 o1 o2 o3
        rcases hcase with ⟨hm, rfl⟩ | ⟨hm, A5, n5, c5, A6, n6, c6, rfl, h5, h6⟩
        · have Hm := hide hm
          clear hm
          go_upto_region 16 with (fail)
          have n_t_i : ¬ gT = w11.heap.size := by omega
          have n_i_t : ¬ w11.heap.size = gT := by omega
          have n_f_i : ¬ gT + 1 = w11.heap.size := by omega
          have n_i_f : ¬ w11.heap.size = gT + 1 := by omega
          have n_p_i : ¬ gp = w11.heap.size := by omega
          have n_i_p : ¬ w11.heap.size = gp := by omega
          have n_j_i : ¬ gc = w11.heap.size := by omega
          have n_i_j : ¬ w11.heap.size = gc := by omega
          have n_o_i : ¬ go = w11.heap.size := by omega
          have n_i_o : ¬ w11.heap.size = go := by omega
          have s_t : gT < w11.heap.size := tl
          have s_f : gT + 1 < w11.heap.size := fl
          have s_p : gp < w11.heap.size := pl
          have s_j : gc < w11.heap.size := jl
          have s_o : go < w11.heap.size := ol
          have s_0 : B0 ≤ w11.heap.size := Nat.le_trans (Nat.le_of_eq HB0.out) Hbl.out.size
          have hyi := Blk.new (w11) 70 [.slice none 0 0, .slice none 0 0]
          have hbW : Below (w11).heap.size (w11) ((w11).alloc (.cells #[.slice none 0 0, .slice none 0 0] 70)) := (Below.refl _ _).alloc (Nat.le_refl _) _
          obtain ⟨w12, hW⟩ : ∃ W, W = (w11).alloc (.cells #[.slice none 0 0, .slice none 0 0] 70) := ⟨_, rfl⟩
          rw [← hW] at hyi hbW ⊢
          replace Ht := hide (Ht.out.keep hbW)
          replace Hf := hide (Hf.out.keep hbW)
          replace Hp := hide (Hp.out.keep hbW)
          replace Hj := hide (Hj.out.keep hbW)
          replace Ho := hide (Ho.out.keep hbW)
          replace HregA := hide (HregA.out.keep hbW)
          replace Hbl := hide (Hbl.out.trans (hbW.mono Hbl.out.size))
          replace Hb2 := hide (Hb2.out.trans (hbW.mono Hb2.out.size))
          have Hi := hide hyi
          clear hW hbW hyi
          generalize w11.heap.size = gi at Hi n_t_i n_i_t n_f_i n_i_f n_p_i n_i_p n_j_i n_i_j n_o_i n_i_o s_t s_f s_p s_j s_o s_0 ⊢
          have t0 := Ht.out.cell 0
          have t1 := Ht.out.cell 1
          have t2 := Ht.out.cell 2
          have t3 := Ht.out.cell 3
          have tl := Ht.out.lt
          have f0 := Hf.out.cell 0
          have f1 := Hf.out.cell 1
          have fl := Hf.out.lt
          have p0 := Hp.out.cell 0
          have p1 := Hp.out.cell 1
          have pl := Hp.out.lt
          have j0 := Hj.out.cell 0
          have j1 := Hj.out.cell 1
          have jl := Hj.out.lt
          have o0 := Ho.out.cell 0
          have o1 := Ho.out.cell 1
          have o2 := Ho.out.cell 2
          have o3 := Ho.out.cell 3
          have ol := Ho.out.lt
          have i0 := Hi.out.cell 0
          have i1 := Hi.out.cell 1
          have il := Hi.out.lt
          simp only [List.getElem?_cons_zero, List.getElem?_cons_succ] at t0 t1 t2 t3 f0 f1 p0 p1 j0 j1 o0 o1 o2 o3 i0 i1
          clear s_t
          clear s_f
          clear s_p
          clear s_j
          clear s_o
          have a_i : B0 ≤ gi := by omega
          clear s_0
          go_wp2_with fail
          go_roundw
          case rel => exact ⟨q + 1, Cq, by omega, by go_num, Hb2.out, HregA.out, by omega, ops_succ Hops.out Ho_.out (fun k => by rw [Hm.out] at k; cases k), Hj.out⟩
          case measure => simp [intOf]; omega
        · have Hm := hide hm
          have H5 := hide h5
          have H6 := hide h6
          clear hm h5 h6
          go_upto_region 16 with (fail)
          have n_t_i : ¬ gT = w11.heap.size := by omega
          have n_i_t : ¬ w11.heap.size = gT := by omega
          have n_f_i : ¬ gT + 1 = w11.heap.size := by omega
          have n_i_f : ¬ w11.heap.size = gT + 1 := by omega
          have n_p_i : ¬ gp = w11.heap.size := by omega
          have n_i_p : ¬ w11.heap.size = gp := by omega
          have n_j_i : ¬ gc = w11.heap.size := by omega
          have n_i_j : ¬ w11.heap.size = gc := by omega
          have n_o_i : ¬ go = w11.heap.size := by omega
          have n_i_o : ¬ w11.heap.size = go := by omega
          have s_t : gT < w11.heap.size := tl
          have s_f : gT + 1 < w11.heap.size := fl
          have s_p : gp < w11.heap.size := pl
          have s_j : gc < w11.heap.size := jl
          have s_o : go < w11.heap.size := ol
          have s_0 : B0 ≤ w11.heap.size := Nat.le_trans (Nat.le_of_eq HB0.out) Hbl.out.size
          have hyi := Blk.new (w11) 70 [.slice A5 n5 c5, .slice A6 n6 c6]
          have hbW : Below (w11).heap.size (w11) ((w11).alloc (.cells #[.slice A5 n5 c5, .slice A6 n6 c6] 70)) := (Below.refl _ _).alloc (Nat.le_refl _) _
          obtain ⟨w12, hW⟩ : ∃ W, W = (w11).alloc (.cells #[.slice A5 n5 c5, .slice A6 n6 c6] 70) := ⟨_, rfl⟩
          rw [← hW] at hyi hbW ⊢
          replace Ht := hide (Ht.out.keep hbW)
          replace Hf := hide (Hf.out.keep hbW)
          replace Hp := hide (Hp.out.keep hbW)
          replace Hj := hide (Hj.out.keep hbW)
          replace Ho := hide (Ho.out.keep hbW)
          replace HregA := hide (HregA.out.keep hbW)
          replace H5 := hide (H5.out.keep hbW)
          replace H6 := hide (H6.out.keep hbW)
          replace Hbl := hide (Hbl.out.trans (hbW.mono Hbl.out.size))
          replace Hb2 := hide (Hb2.out.trans (hbW.mono Hb2.out.size))
          replace Hnb := hide (Hnb.out.trans (hbW.mono Hnb.out.size))
          have Hi := hide hyi
          clear hW hbW hyi
          generalize w11.heap.size = gi at Hi n_t_i n_i_t n_f_i n_i_f n_p_i n_i_p n_j_i n_i_j n_o_i n_i_o s_t s_f s_p s_j s_o s_0 ⊢
          have t0 := Ht.out.cell 0
          have t1 := Ht.out.cell 1
          have t2 := Ht.out.cell 2
          have t3 := Ht.out.cell 3
          have tl := Ht.out.lt
          have f0 := Hf.out.cell 0
          have f1 := Hf.out.cell 1
          have fl := Hf.out.lt
          have p0 := Hp.out.cell 0
          have p1 := Hp.out.cell 1
          have pl := Hp.out.lt
          have j0 := Hj.out.cell 0
          have j1 := Hj.out.cell 1
          have jl := Hj.out.lt
          have o0 := Ho.out.cell 0
          have o1 := Ho.out.cell 1
          have o2 := Ho.out.cell 2
          have o3 := Ho.out.cell 3
          have ol := Ho.out.lt
          have i0 := Hi.out.cell 0
          have i1 := Hi.out.cell 1
          have il := Hi.out.lt
          simp only [List.getElem?_cons_zero, List.getElem?_cons_succ] at t0 t1 t2 t3 f0 f1 p0 p1 j0 j1 o0 o1 o2 o3 i0 i1
          clear s_t
          clear s_f
          clear s_p
          clear s_j
          clear s_o
          have a_i : B0 ≤ gi := by omega
          clear s_0
          obtain ⟨i1, i2⟩ := img_set Hxo.out Hoo.out
          have hco := contains_at HregA.out (H5.out.rd (set_rangeD hN i1)) (H6.out.rd (set_rangeD hN i2)) (Hrx.out.fresh Hnb.out H5.out) (Hrx.out.fresh Hnb.out H6.out) i1 i2 hN (by omega)
          have Hco := hide hco
          clear hco
          go_wp2_with fail
          with_reducible refine Hco.out.mono ?_
          rintro e w13 ⟨bb, rfl, hrA, hK, hiff⟩
          have hbB := hK.below (HregA.out.base)
          have hc2 := hK.blk Hj.out (HregA.out.free Hj.out e_c (by decide))
          clear t0 t1 t2 t3 f0 f1 p0 p1 j0 j1 o0 o1 o2 o3 i0 i1 tl fl pl jl ol il
          replace HregA := hide hrA
          replace Hj := hide hc2
          replace Hb2 := hide (Hb2.out.trans hbB)
          replace Hbl := hide (Kbl.out.trans (Hb2.out.mono Hbw.out))
          have Hiff := hide hiff
          clear hrA hK hiff hbB hc2 Ho Hi
          replace Ht := hide (Kt.out.keep Hb2.out)
          replace Hf := hide (Kf.out.keep Hb2.out)
          replace Hp := hide (Kp.out.keep Hb2.out)
          have t0 := Ht.out.cell 0
          have t1 := Ht.out.cell 1
          have t2 := Ht.out.cell 2
          have t3 := Ht.out.cell 3
          have tl := Ht.out.lt
          have f0 := Hf.out.cell 0
          have f1 := Hf.out.cell 1
          have fl := Hf.out.lt
          have p0 := Hp.out.cell 0
          have p1 := Hp.out.cell 1
          have pl := Hp.out.lt
          have j0 := Hj.out.cell 0
          have j1 := Hj.out.cell 1
          have jl := Hj.out.lt
          simp only [List.getElem?_cons_zero, List.getElem?_cons_succ] at t0 t1 t2 t3 f0 f1 p0 p1 j0 j1
          cases bb with
          | false =>
            have ff0 := Hf.out.frozen 0
            have ff1 := Hf.out.frozen 1
            go_wp2_with fail
            refine bodyPost_ret (v := .tuple #[.bool false, fault 0 0]) (by simp [results, Tryz.results9, go_sem, fault, f0, f1, fl]) rfl ?_
            have hbx := HB0.out
            refine ChkP.of Hq.out ?_ ⟨fun h => (by cases h), fun h => by have e := Hiff.out.2 (h.2.step x Hmem.out o Hom.out Hm.out); simp at e⟩
            repeat' (first | (with_reducible exact Hbl.out) | (with_reducible refine Below.drew ?_) | (with_reducible refine below_setD ?_ ?_ _ _) | (with_reducible refine below_drewN ?_ _) | omega)
          | true =>
            go_wp2_with fail
            go_roundw
            case rel => exact ⟨q + 1, _, by omega, by go_num, Hb2.out, HregA.out, by omega, ops_succ Hops.out Ho_.out (fun _ => Hiff.out.1 (by simp)), Hj.out⟩
            case measure => simp [intOf]; omega
end Go.Proofs.YtmjiiddncbhgpaaGreat
namespace Go.Proofs.YtmjiiddncbhgpaaGreat
set_option linter.unusedVariables false
set_option linter.unusedSimpArgs false
open Go.RowKit
theorem meetB_comm (a b : List Int) : meetB a b = meetB b a := by
  rw [Bool.eq_iff_iff, meetB_iff, meetB_iff]
  exact ⟨fun ⟨x, h1, h2⟩ => ⟨x, h2, h1⟩, fun ⟨x, h1, h2⟩ => ⟨x, h2, h1⟩⟩
/-- slices.IndexFunc: the first place where it holds -/
def firstZ {α : Type} (p : α → Bool) : Nat → List α → Int
  | _, [] => -1
  | k, x :: xs => if p x = true then k else firstZ p (k + 1) xs
theorem firstZ_sign {α : Type} (p : α → Bool) (k : Nat) (xs : List α) : decide (0 ≤ firstZ p k xs) = xs.any p := by
  induction xs generalizing k with
  | nil => simp [firstZ]
  | cons x xs ih =>
    unfold firstZ
    by_cases h : p x = true
    · simp [h]
    · rw [if_neg h, ih]
      simp [h]
def inOne (s : List Int) (c : SS) : Bool := subsetB c.need s && !meetB c.no s
def covF (T : Tsk) (cs : List SS) (s : List Int) : Bool × Int × Int :=
  if (setsF T cs).1 ≠ 0 then (false, (setsF T cs).1, (setsF T cs).2) else if setB T.facts s = false then (false, 5, -4) else (inSetsB cs s, 0, 0)
def covV (r : Bool × Int × Int) : Value := .tuple #[.bool r.1, fault r.2.1 r.2.2]
set_option maxRecDepth 100000 in
set_option maxHeartbeats 3200000 in
theorem covers1_ct {N : Nat} (hN : N ≤ 24) (gb : Nat) (D : Option Addr) (m d : Nat) (s : List Int) (A1 A2 : Option Addr) (n1 c1 n2 c2 : Nat) (x : SS) (w : World) (hb : w.cell? ⟨gb, 0, none⟩ = some (.slice D m d)) (hs : Rd Enc.int w D m d s) (hset : setB N s = true)
    (h1 : Rd Enc.int w A1 n1 c1 x.need) (h2 : Rd Enc.int w A2 n2 c2 x.no) (hx : OkSS N x) :
    Calls Tryz.prog 45 #[.agg #[.slice A1 n1 c1, .slice A2 n2 c2], .pointer (some ⟨gb, 0, none⟩)] w (Gives w (.bool (inOne s x))) := by
  have hcn := fun W (hW : Below w.heap.size w W) => Contains_ct D A1 m d n1 c1 s x.need W (hs.keep hW) (h1.keep hW) (setB_iff.1 hset).1 (setB_iff.1 hx.need).1
  have hn2 : n2 ≤ 1000000000000 := by have e1 := h2.len; have e2 := setB_len hx.no; omega
  have hmm := fun W (hW : Below w.heap.size w W) => Meets_ct D A2 m d n2 c2 s x.no W (hs.keep hW) (h2.keep hW) ((setB_iff.1 hx.no).1.imp (fun h => Int.le_of_lt h)) hn2
  have hq : inOne s x = (subsetB x.need s && !meetB s x.no) := by unfold inOne; rw [meetB_comm s]
  rw [hq]
  obtain ⟨v1, hv1⟩ : ∃ z, z = subsetB x.need s := ⟨_, rfl⟩
  obtain ⟨v2, hv2⟩ : ∃ z, z = meetB s x.no := ⟨_, rfl⟩
  simp only [← hv1] at hcn
  simp only [← hv2] at hmm
  rw [← hv1, ← hv2]
  have Hcn := hide hcn
  have Hmm := hide hmm
  have hbl := World.block_lt_of_cell? w _ hb
  have Hb := hide hb
  clear hcn hmm hv1 hv2 hq h1 h2 hs hset hx hb
  have Hbl := hide (Below.refl w.heap.size w)
  go_enter Tryz.func45, Tryz.ntmps45
  go_upto_region 1 with (fail)
  obtain ⟨B0, hB0⟩ : ∃ B0, B0 = w.heap.size := ⟨_, rfl⟩
  have HB0 := hide hB0
  clear hB0
  have s_0 : B0 ≤ w.heap.size := Nat.le_trans (Nat.le_of_eq HB0.out) Hbl.out.size
  have hye := Blk.new (w) 70 [.slice A1 n1 c1, .slice A2 n2 c2]
  have hbW : Below (w).heap.size (w) ((w).alloc (.cells #[.slice A1 n1 c1, .slice A2 n2 c2] 70)) := (Below.refl _ _).alloc (Nat.le_refl _) _
  obtain ⟨w0, hW⟩ : ∃ W, W = (w).alloc (.cells #[.slice A1 n1 c1, .slice A2 n2 c2] 70) := ⟨_, rfl⟩
  rw [← hW] at hye hbW ⊢
  replace Hbl := hide (Hbl.out.trans (hbW.mono Hbl.out.size))
  have He := hide hye
  clear hW hbW hye
  generalize w.heap.size = ge at He s_0 ⊢
  have e0 := He.out.cell 0
  have e1 := He.out.cell 1
  have el := He.out.lt
  simp only [List.getElem?_cons_zero, List.getElem?_cons_succ] at e0 e1
  have a_e : B0 ≤ ge := by omega
  clear s_0
  have b0 := (Hbl.out.cell (p := ⟨gb, 0, none⟩) hbl).trans Hb.out
  go_wp2_with fail
  with_reducible refine (Hcn.out _ Hbl.out).mono ?_
  rintro e w1 ⟨rfl, rfl⟩
  cases v1 with
  | false =>
    go_wp2_with fail
    go_ret
    exact ⟨rfl, Hbl.out⟩
  | true =>
    go_wp2_with fail
    with_reducible refine (Hmm.out _ Hbl.out).mono ?_
    rintro e w2 ⟨rfl, hb⟩
    clear e0 e1 el
    replace He := hide (He.out.keep hb)
    replace Hbl := hide (Hbl.out.trans (hb.mono Hbl.out.size))
    clear hb
    have e0 := He.out.cell 0
    have e1 := He.out.cell 1
    have el := He.out.lt
    simp only [List.getElem?_cons_zero, List.getElem?_cons_succ] at e0 e1
    go_wp2_with fail
    go_ret
    exact ⟨rfl, Hbl.out⟩
set_option maxRecDepth 100000 in
set_option maxHeartbeats 1600000 in
theorem IndexCov_ct (gb : Nat) (p : SS → Bool) (B : Option Addr) (n c : Nat) (xs : List SS) (w : World) (hx : Rd Enc.ss w B n c xs)
    (hf : ∀ (A1 A2 : Option Addr) (n1 c1 n2 c2 : Nat) (x : SS) (W : World), x ∈ xs → Below w.heap.size w W → Rd Enc.int W A1 n1 c1 x.need → Rd Enc.int W A2 n2 c2 x.no → Calls Tryz.prog 45 #[.agg #[.slice A1 n1 c1, .slice A2 n2 c2], .pointer (some ⟨gb, 0, none⟩)] W (Gives W (.bool (p x)))) :
    Calls Tryz.prog 93 #[.slice B n c, .func (.func 45) #[] #[.pointer (some ⟨gb, 0, none⟩)]] w (Gives w (.int .i64 (firstZ p 0 xs))) := by
  have hsm := hx.low
  have Hl := hide hx.len
  have Hx := hide hx
  have Hf := hide hf
  clear hf hx
  go_enter Tryz.func93, Tryz.ntmps93
  go_wp2
  go_loopw [8] (fun i wr => ∃ k : Nat, k ≤ n ∧ i = .int .i64 k ∧ Below w.heap.size w wr ∧ firstZ p 0 xs = firstZ p k (xs.drop k)) (fun i _ => n - (intOf i).toNat)
  case atStart => exact ⟨0, by omega, rfl, Below.refl _ _, by simp⟩
  case round =>
    obtain ⟨k, hk, rfl, hb, hrel⟩ := hrel
    by_cases hlt : k < n
    · obtain ⟨b, off, x, A1, n1, c1, A2, n2, c2, rfl, hxx, g0, g1, r1, r2⟩ := (Hx.out.keep hb).ss hlt
      rw [drop_cons hxx] at hrel
      have Hfx := hide (Hf.out A1 A2 n1 c1 n2 c2 x wr (List.mem_of_getElem? hxx) hb r1 r2)
      have Hrel := hide hrel
      have Hb := hide hb
      have hki : (k : Int) < (n : Int) := by omega
      clear hrel hxx r1 r2 hb
      obtain ⟨b, hb⟩ : ∃ b, b = p x := ⟨_, rfl⟩
      rw [← hb] at Hfx
      have Hbb := hide hb
      clear hb
      go_wp2_with fail
      refine (Hfx.out).mono ?_
      rintro e w1 ⟨rfl, hb1⟩
      have Hb2 := hide (Hb.out.trans (hb1.mono Hb.out.size))
      clear hb1
      cases b with
      | true =>
        go_wp2
        go_ret
        exact ⟨ret_int (by rw [Hrel.out, firstZ, if_pos Hbb.out.symm]), Hb2.out⟩
      | false =>
        go_wp2
        go_roundw
        case rel => exact ⟨k + 1, by omega, by go_num, Hb2.out, by rw [Hrel.out, firstZ, if_neg (by rw [← Hbb.out]; simp)]⟩
        case measure => simp [intOf]; omega
    · have Hrel := hide hrel
      have Hb := hide hb
      clear hrel hb
      go_wp2
      go_ret
      refine ⟨ret_int ?_, Hb.out⟩
      rw [Hrel.out, List.drop_of_length_le (by rw [Hl.out]; omega), firstZ]
set_option maxHeartbeats 800000 in
theorem ContainsCov_ct (gb : Nat) (p : SS → Bool) (B : Option Addr) (n c : Nat) (xs : List SS) (w : World) (hx : Rd Enc.ss w B n c xs)
    (hf : ∀ (A1 A2 : Option Addr) (n1 c1 n2 c2 : Nat) (x : SS) (W : World), x ∈ xs → Below w.heap.size w W → Rd Enc.int W A1 n1 c1 x.need → Rd Enc.int W A2 n2 c2 x.no → Calls Tryz.prog 45 #[.agg #[.slice A1 n1 c1, .slice A2 n2 c2], .pointer (some ⟨gb, 0, none⟩)] W (Gives W (.bool (p x)))) :
    Calls Tryz.prog 44 #[.slice B n c, .func (.func 45) #[] #[.pointer (some ⟨gb, 0, none⟩)]] w (Gives w (.bool (xs.any p))) := by
  have Hi := hide (IndexCov_ct gb p B n c xs w hx hf)
  clear hf hx
  have hs := firstZ_sign p 0 xs
  obtain ⟨z, hz⟩ : ∃ z, z = firstZ p 0 xs := ⟨_, rfl⟩
  rw [← hz] at Hi hs
  have Hs := hide hs
  clear hz hs
  go_enter Tryz.func44, Tryz.ntmps44
  go_wp2_with fail
  refine Hi.out.mono ?_
  rintro e w1 ⟨rfl, hb⟩
  have Hb := hide hb
  clear hb
  go_wp2
  go_ret
  exact ⟨ret_bool Hs.out, Hb.out⟩
set_option maxRecDepth 100000 in
set_option maxHeartbeats 6400000 in
theorem Covers_ct (a : TA) (T : Tsk) (A : Option Addr) (n c : Nat) (l : List SS) (D : Option Addr) (m d : Nat) (s : List Int) (w : World) (h : TkR w a T) (hl : Rd Enc.ss w A n c l) (hs : Rd Enc.int w D m d s) :
    Calls Tryz.prog 10 #[.agg #[.int .i64 T.facts, .slice a.I a.nI a.cI, .slice a.G a.nG a.cG, .slice a.O a.nO a.cO], .slice A n c, .slice D m d] w (Gives w (covV (covF T l s))) := by
  have hcert := fun W hT hW => certificate_ct a T A n c l W hT hW
  obtain ⟨I, nI, cI, G, nG, cG, O, nO, cO⟩ := a
  simp only at hcert ⊢
  obtain ⟨R, hR⟩ : ∃ R, R = covF T l s := ⟨_, rfl⟩
  rw [← hR]
  unfold covF at hR
  rcases hq : setsF T l with ⟨ec, ei⟩
  rw [hq] at hcert hR
  simp only at hR
  have hlow := hl.low
  have hci := fun W (hW : Below w.heap.size w W) => SIsSet_ct D m d s T.facts W (hs.keep hW)
  obtain ⟨v1, hv1⟩ : ∃ z, z = setB T.facts s := ⟨_, rfl⟩
  rw [← hv1] at hR
  have hset : v1 = true → setB T.facts s = true := fun e => by rw [← hv1, e]
  simp only [← hv1] at hci
  have H := hide h
  have Hl := hide hl
  have Hs := hide hs
  have HR := hide hR
  have Hset := hide hset
  have Hci := hide hci
  have Hcert := hide hcert
  have Hq := hide hq
  have hf1 := h.facts
  obtain ⟨hf1, hf2⟩ := hf1
  clear h hl hs hq hcert hR hset hci hv1
  have Hbl := hide (Below.refl w.heap.size w)
  have hmf : ∀ (fn : Fn) (first cap : Array Value) (w : World), (Instr.makeFunc fn first cap).run Tryz.prog w = .ok (.func fn first cap) w := fun _ _ _ _ => rfl
  go_enter Tryz.func10, Tryz.ntmps10
  go_upto_region 1 with (fail)
  obtain ⟨B0, hB0⟩ : ∃ B0, B0 = w.heap.size := ⟨_, rfl⟩
  have HB0 := hide hB0
  clear hB0
  have s_0 : B0 ≤ w.heap.size := Nat.le_trans (Nat.le_of_eq HB0.out) Hbl.out.size
  have hyt := Blk.new (w) 25 [.int .i64 T.facts, .slice I nI cI, .slice G nG cG, .slice O nO cO]
  have hyj := Blk.new ((w).alloc (.cells #[.int .i64 T.facts, .slice I nI cI, .slice G nG cG, .slice O nO cO] 25)) 22 [.slice D m d]
  replace hyt := hyt.alloc (.cells #[.slice D m d] 22)
  have hyf := Blk.new (((w).alloc (.cells #[.int .i64 T.facts, .slice I nI cI, .slice G nG cG, .slice O nO cO] 25)).alloc (.cells #[.slice D m d] 22)) 29 [.int .i64 0, .int .i64 0]
  replace hyt := hyt.alloc (.cells #[.int .i64 0, .int .i64 0] 29)
  replace hyj := hyj.alloc (.cells #[.int .i64 0, .int .i64 0] 29)
  have hbW := below_three w (.cells #[.int .i64 T.facts, .slice I nI cI, .slice G nG cG, .slice O nO cO] 25) (.cells #[.slice D m d] 22) (.cells #[.int .i64 0, .int .i64 0] 29)
  simp only [World.size_alloc] at hyj hyf
  obtain ⟨w0, hW⟩ : ∃ W, W = (((w).alloc (.cells #[.int .i64 T.facts, .slice I nI cI, .slice G nG cG, .slice O nO cO] 25)).alloc (.cells #[.slice D m d] 22)).alloc (.cells #[.int .i64 0, .int .i64 0] 29) := ⟨_, rfl⟩
  rw [← hW] at hyt hyj hyf hbW ⊢
  replace Hbl := hide (Hbl.out.trans (hbW.mono Hbl.out.size))
  have Ht := hide hyt
  have Hj := hide hyj
  have Hf := hide hyf
  clear hW hbW hyt hyj hyf
  generalize w.heap.size = gT at Ht Hj Hf s_0 ⊢
  have t0 := Ht.out.cell 0
  have t1 := Ht.out.cell 1
  have t2 := Ht.out.cell 2
  have t3 := Ht.out.cell 3
  have tl := Ht.out.lt
  have j0 := Hj.out.cell 0
  have jl := Hj.out.lt
  have f0 := Hf.out.cell 0
  have f1 := Hf.out.cell 1
  have fl := Hf.out.lt
  simp only [List.getElem?_cons_zero, List.getElem?_cons_succ] at t0 t1 t2 t3 j0 f0 f1
  have a_t : B0 ≤ gT := by omega
  have a_j : B0 ≤ gT + 1 := by omega
  have a_f : B0 ≤ gT + 1 + 1 := by omega
  clear s_0
  have n_t_j : ¬ gT = gT + 1 := by omega
  have n_t_f : ¬ gT = gT + 1 + 1 := by omega
  have n_j_t : ¬ gT + 1 = gT := by omega
  have n_j_f : ¬ gT + 1 = gT + 1 + 1 := by omega
  have n_f_t : ¬ gT + 1 + 1 = gT := by omega
  have n_f_j : ¬ gT + 1 + 1 = gT + 1 := by omega
  go_wp2_with fail
  with_reducible refine (Hcert.out w0 (H.out.keep Hbl.out) (Hl.out.keep Hbl.out)).mono ?_
  rintro e w1 ⟨rfl, hb⟩
  clear t0 t1 t2 t3 j0 f0 f1 tl jl fl
  replace Ht := hide (Ht.out.keep hb)
  replace Hj := hide (Hj.out.keep hb)
  replace Hf := hide (Hf.out.keep hb)
  replace Hbl := hide (Hbl.out.trans (hb.mono Hbl.out.size))
  clear hb
  have t0 := Ht.out.cell 0
  have t1 := Ht.out.cell 1
  have t2 := Ht.out.cell 2
  have t3 := Ht.out.cell 3
  have tl := Ht.out.lt
  have j0 := Hj.out.cell 0
  have jl := Hj.out.lt
  have f0 := Hf.out.cell 0
  have f1 := Hf.out.cell 1
  have fl := Hf.out.lt
  simp only [List.getElem?_cons_zero, List.getElem?_cons_succ] at t0 t1 t2 t3 j0 f0 f1
  unfold fault
  go_upto_region 2 with (fail)
  have n_t_p : ¬ gT = w1.heap.size := by omega
  have n_p_t : ¬ w1.heap.size = gT := by omega
  have n_j_p : ¬ gT + 1 = w1.heap.size := by omega
  have n_p_j : ¬ w1.heap.size = gT + 1 := by omega
  have n_f_p : ¬ gT + 1 + 1 = w1.heap.size := by omega
  have n_p_f : ¬ w1.heap.size = gT + 1 + 1 := by omega
  have s_t : gT < w1.heap.size := tl
  have s_j : gT + 1 < w1.heap.size := jl
  have s_f : gT + 1 + 1 < w1.heap.size := fl
  have s_0 : B0 ≤ w1.heap.size := Nat.le_trans (Nat.le_of_eq HB0.out) Hbl.out.size
  have hyp := Blk.new (w1) 29 [.int .i64 ec, .int .i64 ei]
  have hbW : Below (w1).heap.size (w1) ((w1).alloc (.cells #[.int .i64 ec, .int .i64 ei] 29)) := (Below.refl _ _).alloc (Nat.le_refl _) _
  obtain ⟨w2, hW⟩ : ∃ W, W = (w1).alloc (.cells #[.int .i64 ec, .int .i64 ei] 29) := ⟨_, rfl⟩
  rw [← hW] at hyp hbW ⊢
  replace Ht := hide (Ht.out.keep hbW)
  replace Hj := hide (Hj.out.keep hbW)
  replace Hf := hide (Hf.out.keep hbW)
  replace Hbl := hide (Hbl.out.trans (hbW.mono Hbl.out.size))
  have Hp := hide hyp
  clear hW hbW hyp
  generalize w1.heap.size = gp at Hp n_t_p n_p_t n_j_p n_p_j n_f_p n_p_f s_t s_j s_f s_0 ⊢
  have t0 := Ht.out.cell 0
  have t1 := Ht.out.cell 1
  have t2 := Ht.out.cell 2
  have t3 := Ht.out.cell 3
  have tl := Ht.out.lt
  have j0 := Hj.out.cell 0
  have jl := Hj.out.lt
  have f0 := Hf.out.cell 0
  have f1 := Hf.out.cell 1
  have fl := Hf.out.lt
  have p0 := Hp.out.cell 0
  have p1 := Hp.out.cell 1
  have pl := Hp.out.lt
  simp only [List.getElem?_cons_zero, List.getElem?_cons_succ] at t0 t1 t2 t3 j0 f0 f1 p0 p1
  clear s_t
  clear s_j
  clear s_f
  have a_p : B0 ≤ gp := by omega
  clear s_0
  by_cases hec : ec = 0
  rotate_left
  · skip
    have ff0 := Hf.out.frozen 0
    have ff1 := Hf.out.frozen 1
    go_upto_region 3 with (fail)
    go_region
    all_goals go_wp2_with fail
    all_goals refine bodyPost_ret (v := .tuple #[.bool false, fault ec ei]) (by simp [results, Tryz.results10, go_sem, fault, f0, f1, fl]) rfl ?_
    have hbx := HB0.out
    refine ⟨by rw [HR.out, if_pos hec]; rfl, ?_⟩
    repeat' (first | (with_reducible exact Hbl.out) | (with_reducible refine Below.drew ?_) | (with_reducible refine below_setD ?_ ?_ _ _) | (with_reducible refine below_drewN ?_ _) | omega)
  subst hec
  obtain ⟨N, hok, hss, hfew, hz⟩ := setsF_ok (T := T) (l := l) (by rw [Hq.out])
  rw [Hq.out] at hz
  obtain ⟨_, e2⟩ := Prod.mk.inj hz
  subst e2
  clear hz
  have hN := hok.low
  have HfN := hide hok.facts
  have Hss := hide hss
  clear hok hss hfew
  go_wp2_with fail
  with_reducible refine (Hci.out _ Hbl.out).mono ?_
  rintro e w3 ⟨rfl, rfl⟩
  cases v1 with
  | false =>
    have ff0 := Hf.out.frozen 0
    have ff1 := Hf.out.frozen 1
    go_wp2_with fail
    refine bodyPost_ret (v := .tuple #[.bool false, fault 5 (-4)]) (by simp [results, Tryz.results10, go_sem, fault, f0, f1, fl]) rfl ?_
    have hbx := HB0.out
    refine ⟨by rw [HR.out, if_neg (by simp), if_pos (by simp)]; rfl, ?_⟩
    repeat' (first | (with_reducible exact Hbl.out) | (with_reducible refine Below.drew ?_) | (with_reducible refine below_setD ?_ ?_ _ _) | (with_reducible refine below_drewN ?_ _) | omega)
  | true =>
    have hsN : setB N s = true := by have := Hset.out rfl; rwa [HfN.out] at this
    have hcc := ContainsCov_ct (gT + 1) (inOne s) A n c l w2 (Hl.out.keep Hbl.out) (fun A1 A2 n1 c1 n2 c2 x W hx hW r1 r2 => covers1_ct hN (gT + 1) D m d s A1 A2 n1 c1 n2 c2 x W (cellOf_low hW j0) ((Hs.out.keep Hbl.out).keep hW) hsN r1 r2 (Hss.out x hx))
    have Hcc := hide hcc
    clear hcc hsN
    go_wp2_with fail
    with_reducible refine (Hcc.out).mono ?_
    rintro e w4 ⟨rfl, hb⟩
    clear t0 t1 t2 t3 j0 f0 f1 p0 p1 tl jl fl pl
    replace Ht := hide (Ht.out.keep hb)
    replace Hj := hide (Hj.out.keep hb)
    replace Hf := hide (Hf.out.keep hb)
    replace Hp := hide (Hp.out.keep hb)
    replace Hbl := hide (Hbl.out.trans (hb.mono Hbl.out.size))
    clear hb
    have t0 := Ht.out.cell 0
    have t1 := Ht.out.cell 1
    have t2 := Ht.out.cell 2
    have t3 := Ht.out.cell 3
    have tl := Ht.out.lt
    have j0 := Hj.out.cell 0
    have jl := Hj.out.lt
    have f0 := Hf.out.cell 0
    have f1 := Hf.out.cell 1
    have fl := Hf.out.lt
    have p0 := Hp.out.cell 0
    have p1 := Hp.out.cell 1
    have pl := Hp.out.lt
    simp only [List.getElem?_cons_zero, List.getElem?_cons_succ] at t0 t1 t2 t3 j0 f0 f1 p0 p1
    have ff0 := Hf.out.frozen 0
    have ff1 := Hf.out.frozen 1
    go_wp2_with fail
    refine bodyPost_ret (v := .tuple #[.bool (l.any (inOne s)), fault 0 0]) (by simp [results, Tryz.results10, go_sem, fault, f0, f1, fl]) rfl ?_
    have hbx := HB0.out
    refine ⟨by rw [HR.out, if_neg (by simp), if_neg (by simp)]; rfl, ?_⟩
    repeat' (first | (with_reducible exact Hbl.out) | (with_reducible refine Below.drew ?_) | (with_reducible refine below_setD ?_ ?_ _ _) | (with_reducible refine below_drewN ?_ _) | omega)
end Go.Proofs.YtmjiiddncbhgpaaGreat
namespace Go.Proofs.YtmjiiddncbhgpaaGreat
set_option linter.unusedVariables false
set_option linter.unusedSimpArgs false
open Go.RowKit
theorem Rd.nd {w : World} {A : Option Addr} {n c k : Nat} {ds : List BN} (h : Rd Enc.node w A n c (ds.map castN)) (hk : k < n) :
    ∃ b off v l h', A = some ⟨b, off, none⟩ ∧ ds[k]? = some (v, l, h') ∧ w.cell? ⟨b, off + k * 3, none⟩ = some (.int .i64 (v : Nat)) ∧ w.cell? ⟨b, off + k * 3 + 1, none⟩ = some (.int .i64 (l : Nat)) ∧ w.cell? ⟨b, off + k * 3 + 2, none⟩ = some (.int .i64 (h' : Nat)) ∧ b < w.heap.size := by
  obtain ⟨b, off, x, vs, e, hx, ho, hv⟩ := h.get hk
  rw [List.getElem?_map] at hx
  obtain ⟨⟨v, l, h'⟩, hd, rfl⟩ := Option.map_eq_some_iff.1 hx
  obtain ⟨us, ys, rfl, ⟨rfl, _⟩, zs, qs, rfl, ⟨rfl, _⟩, rfl, _⟩ := ho
  have c0 := hv 0 _ rfl
  exact ⟨b, off, v, l, h', e, hd, c0, hv 1 _ rfl, hv 2 _ rfl, World.block_lt_of_cell? _ _ c0⟩
/-- one int more in a row of the call's own, in a region that draws; the new element lies in some block -/
theorem step_pushR {P : Program} {w : World} {ops : Array Oper} {o : Oper} {a : Act} {K : Act → World → Prop} {Q : Exit → Act → World → Prop} {X : Prop} (hgd : o.guard = none) (s x : Operand) (t : TypeId)
    (ho : o.op = .call { callee := .builtin .append, args := #[s, x], argTypes := #[t, t] })
    (base : Nat) (e : TypeId) (i : TypeInfo) (z : Value) (bytes : Nat) (ht : P.underlying t = some (.slice e)) (hi : P.info? e = some i) (hz : i.zero = some z)
    (hsize : i.size = 1) (hby : i.bytes = bytes) (hzs : z.cells.size = 1)
    {A : Option Addr} {n c : Nat} {xs : List Value} (hs : a.eval s = .slice A n c) (hown : w.ownsRow base e 1 (.slice A n c) n xs)
    (u : Value) (h1 : u.oneCell' = true) {bx m : Nat} (hx : a.eval x = .slice (some ⟨bx, 0, none⟩) 1 m) (hcell : w.cell? ⟨bx, 0, none⟩ = some u)
    (h63 : n + 1 ≤ 1000000000000) (hbytes : (n + 1) * bytes ≤ 140737488355328) (hbase : base ≤ w.heap.size)
    (h : ∀ O oc w', w'.ownsRow base e 1 (.slice O (n + 1) oc) (n + 1) (xs ++ [u]) → Chg (fun b => blkA A = some b) w w' → (blkA O = blkA A ∨ blkA O = some w.heap.size) → K (a.put o.dst (.slice O (n + 1) oc)) w') :
    if Region.wanted o (yielded ops a.tmps) = true then Oper.wp P o a w K Q else X := by
  have hw : Region.wanted o (yielded ops a.tmps) = true := by simp [Region.wanted, hgd]
  rw [if_pos hw]
  obtain ⟨g, cap', w', hr, h2, h3, h4, h5⟩ := run_append_lies (P := P) (w := w) t o.type base e i z 1 bytes ht hi hz hsize hby hzs (by omega) _ n xs hown ⟨bx, 0, none⟩ 1 m [u] rfl (by
    intro j v hj
    rw [add_plain, Nat.zero_add]
    cases j with
    | zero => simp at hj; subst hj; exact hcell
    | succ j => simp at hj) (by simpa using h1) (by omega) (by unfold maxLen; omega) hbytes hbase w.heap.size rfl
  unfold Oper.wp execOp
  simp only [ho, resolve, invoke, builtin, Sem.run_bind, Sem.run_pure, Result.andThen_ok, List.map_toArray, List.map_cons, List.map_nil, hs, hx, hr]
  have hg : w.grownBy w' (blkA A) := by rw [← own_blkA A n c]; exact h3
  refine h (some ⟨g, 0, none⟩) cap' w' h2 (Chg.of_grown hg) ?_
  rw [own_blkA] at h4
  rcases h4 with h4 | h4
  · exact .inl h4.symm
  · exact .inr (by rw [h4]; rfl)
/-- the row of sets that a walk along the paths grows -/
structure PtJ (B X : Nat) (W : World) (g6 : Nat) (M : Nat → Prop) (O : Option Addr) (n oc : Nat) (vs : List Value) (outs : List SS) : Prop where
  own : OwnE Enc.ss 70 B (fun b => M b ∨ b < X) W O n oc vs outs
  row : ∀ r, blkA O = some r → M r
  box : Blk 26 W g6 [.slice O n oc]
  inM : M g6
  rng : ∀ b, M b → B ≤ b ∧ b < W.heap.size
theorem PtJ.keep {B X : Nat} {W W' : World} {g6 : Nat} {M : Nat → Prop} {O : Option Addr} {n oc : Nat} {vs : List Value} {outs : List SS} (h : PtJ B X W g6 M O n oc vs outs) (hb : Below W.heap.size W W') : PtJ B X W' g6 M O n oc vs outs :=
  ⟨h.own.keep hb, h.row, h.box.keep hb, h.inM, fun b hM => by have := h.rng b hM; have := hb.size; omega⟩
theorem PtJ.ne {B X : Nat} {W : World} {g6 : Nat} {M : Nat → Prop} {O : Option Addr} {n oc : Nat} {vs : List Value} {outs : List SS} (h : PtJ B X W g6 M O n oc vs outs) {r : Nat} (hr : blkA O = some r) : r ≠ g6 := fun e => by
  subst e
  obtain ⟨_, cs, m, hc⟩ := own_block h.own.own (by rw [own_blkA]; exact hr)
  have hb := h.box
  unfold Blk at hb
  rw [hb] at hc
  injection hc with hc
  injection hc with _ e _
  cases e
theorem PtJ.push {B X : Nat} {W W1 W2 : World} {g6 : Nat} {M : Nat → Prop} {O O' : Option Addr} {n oc oc' : Nat} {vs us : List Value} {outs : List SS} {c : SS} (h : PtJ B X W g6 M O n oc vs outs) (hb : Below W.heap.size W W1)
    (h2 : OwnE Enc.ss 70 B (fun b => (M b ∨ b < X) ∨ W1.heap.size ≤ b) W2 O' (n + 1) oc' (vs ++ us) (outs ++ [c])) (hch : Chg (fun b => blkA O = some b) W1 W2) (hO : blkA O' = blkA O ∨ blkA O' = some (W1.heap.size + 1)) :
    Chg M W (W2.setCell ⟨g6, 0, none⟩ (.slice O' (n + 1) oc')) ∧ ∃ M', PtJ B X (W2.setCell ⟨g6, 0, none⟩ (.slice O' (n + 1) oc')) g6 M' O' (n + 1) oc' (vs ++ us) (outs ++ [c]) ∧ (∀ b, M' b → M b ∨ W.heap.size ≤ b) ∧ ∀ b, M b → M' b := by
  have h1 := h.keep hb
  have hlt := h1.box.lt
  have hb2 := hch.blk h1.box (fun e => h1.ne e rfl)
  have hs2 := hch.size
  have hne : ∀ r, blkA O' = some r → r ≠ g6 := fun r hr => by
    rcases hO with e | e
    · exact h1.ne (by rw [← e]; exact hr)
    · rw [hr] at e
      injection e with e
      omega
  have hbx := hb2.set 0 (.slice O' (n + 1) oc')
  simp only [List.set_cons_zero] at hbx
  refine ⟨?_, fun b => M b ∨ blkA O' = some b, ⟨?_, fun r hr => .inr hr, hbx, .inl h.inM, fun b hM => ?_⟩, fun b hM => ?_, fun b hM => .inl hM⟩
  · exact ((Chg.of_below hb M).trans (hch.mono h.row)).trans ((Chg.set W2 g6 0 _).mono (fun b e => e ▸ h.inM))
  · refine ((h2.less (M' := fun b => (M b ∨ blkA O' = some b) ∨ b < X) (fun i hi hM => ?_)).chg (Chg.set W2 g6 0 _) (fun i e => .inl (.inl (e ▸ h.inM))) (fun r hr => hne r hr))
    rcases hM with (hM | hM) | hM
    · exact .inl (.inl hM)
    rotate_left
    · exact .inl (.inr hM)
    · rcases hO with e | e
      · exact .inl (.inl (h.row i (by rw [← e]; exact hM)))
      · rw [hM] at e
        injection e with e
        exact .inr (by omega)
  · have hz : (W2.setCell ⟨g6, 0, none⟩ (.slice O' (n + 1) oc')).heap.size = W2.heap.size := by simp [World.setCell]
    rcases hM with hM | hM
    · have := h1.rng b hM
      rw [hz]
      omega
    · have := h2.base hM
      rw [hz]
      omega
  · rcases hM with hM | hM
    · exact .inl hM
    · rcases hO with e | e
      · exact .inl (h.row b (by rw [← e]; exact hM))
      · rw [hM] at e
        injection e with e
        have := hb.size
        exact .inr (by omega)
/-- the walk along the paths has grown the row -/
def PathP (B X : Nat) (W : World) (g6 : Nat) (M : Nat → Prop) (outs : List SS) (e : Ending) (W' : World) : Prop :=
  e = .returned (.tuple #[]) ∧ Chg M W W' ∧ ∃ M' O n oc vs, PtJ B X W' g6 M' O n oc vs outs ∧ (∀ b, M' b → M b ∨ W.heap.size ≤ b) ∧ ∀ b, M b → M' b
theorem ssInfo : (Tryz.prog.info? 70).map (fun i => (i.zero, i.size, i.bytes)) = some (some (.agg #[.slice none 0 0, .slice none 0 0]), 2, 48) := by kernel_rfl
theorem firm_ss {M : Nat → Prop} {w : World} {A B : Option Addr} {n c m d : Nat} {x : SS} (h1 : RdM M w A n c x.need) (h2 : RdM M w B m d x.no) : Firm Enc.ss M w [.slice A n c, .slice B m d] x := fun w' hc => ⟨A, n, c, B, m, d, rfl, h1 w' hc, h2 w' hc⟩
theorem RdM.next {X : Nat} {M M' : Nat → Prop} {W W' : World} {A : Option Addr} {n c : Nat} {l : List Int} (h : RdM (fun b => M b ∨ b < X) W A n c l) (hc : Chg M W W') (hM : ∀ b, M' b → M b ∨ W.heap.size ≤ b) : RdM (fun b => M' b ∨ b < X) W' A n c l :=
  fun W2 h2 => h W2 ((hc.mono (fun i e => .inl e)).trans2 h2 (fun i hi e => e.elim (fun e => .inl ((hM i e).resolve_right (by omega))) .inr))
/-- what stands in front of the walk -/
structure WkR (L g3 g7 g6 : Nat) (D : Option Addr) (nd cd : Nat) (r : Nat) (ds : List BN) (M : Nat → Prop) (W : World) : Prop where
  d : Blk 158 W g3 [.int .i64 L, .slice D nd cd, .int .i64 r]
  nd : ∀ W', Chg M W W' → Rd Enc.node W' D nd cd (ds.map castN)
  f : Blk 160 W g7 [.func (.func 101) #[] #[.pointer (some ⟨g6, 0, none⟩), .pointer (some ⟨g3, 0, none⟩), .pointer (some ⟨g7, 0, none⟩)]]
  m3 : ¬ M g3
  m7 : ¬ M g7
theorem WkR.chg {L g3 g7 g6 : Nat} {D : Option Addr} {nd cd r : Nat} {ds : List BN} {M M' : Nat → Prop} {W W' : World} (h : WkR L g3 g7 g6 D nd cd r ds M W) (hc : Chg M W W') (hM : ∀ b, M' b → M b ∨ W.heap.size ≤ b) : WkR L g3 g7 g6 D nd cd r ds M' W' :=
  ⟨hc.blk h.d h.m3, fun W2 h2 => h.nd W2 (hc.trans2 h2 (fun i hi e => (hM i e).resolve_right (by omega))), hc.blk h.f h.m7, fun e => (hM _ e).elim h.m3 (fun k => by have := h.d.lt; omega), fun e => (hM _ e).elim h.m7 (fun k => by have := h.f.lt; omega)⟩
theorem WkR.keep {L g3 g7 g6 : Nat} {D : Option Addr} {nd cd r : Nat} {ds : List BN} {M : Nat → Prop} {W W' : World} (h : WkR L g3 g7 g6 D nd cd r ds M W) (hb : Below W.heap.size W W') : WkR L g3 g7 g6 D nd cd r ds M W' := h.chg (Chg.of_below hb M) (fun _ e => .inl e)
set_option maxRecDepth 100000 in
set_option maxHeartbeats 6400000 in
theorem pathsWalk_ct {L : Nat} (hL : L ≤ 24) {ds : List BN} (ok : OkD L ds) {B X g3 g6 g7 nd cd r : Nat} {D : Option Addr} (hX : X ≤ B) (hBw : nd = ds.length) (hds : ds.length ≤ 9223372036854775807) : ∀ (k : Nat), k < ds.length + 2 → ∀ (c : SS), UpS (lvl L ds k) c → ∀ (W : World) (M : Nat → Prop) (O : Option Addr) (n oc : Nat) (vs : List Value) (outs : List SS) (A1 A2 : Option Addr) (n1 c1 n2 c2 : Nat),
    PtJ B X W g6 M O n oc vs outs → RdM (fun b => M b ∨ b < X) W A1 n1 c1 c.need → RdM (fun b => M b ∨ b < X) W A2 n2 c2 c.no → WkR L g3 g7 g6 D nd cd r ds M W → outs.length + 2 ^ (L - lvl L ds k) ≤ 33554432 →
    Calls Tryz.prog 101 #[.int .i64 k, .agg #[.slice A1 n1 c1, .slice A2 n2 c2], .pointer (some ⟨g6, 0, none⟩), .pointer (some ⟨g3, 0, none⟩), .pointer (some ⟨g7, 0, none⟩)] W (PathP B X W g6 M (outs ++ pathsF ds k c)) := by
  obtain ⟨i1, hi1, hy0, hy1, hy2⟩ := info_parts ssInfo
  obtain ⟨i2, hi2, hx0, hx1, hx2⟩ := info_parts intInfoT
  intro k
  induction k using Nat.strongRecOn with
  | _ k ih =>
    intro hk c hc W M O n oc vs outs A1 A2 n1 c1 n2 c2 hJ hA hB hR hfew
    have hBs := (hJ.rng _ hJ.inM)
    obtain ⟨W1, hW1⟩ : ∃ W1, W1 = W.alloc (.cells #[.slice A1 n1 c1, .slice A2 n2 c2] 70) := ⟨_, rfl⟩
    have hb1 : Below W.heap.size W W1 := by rw [hW1]; exact (Below.refl _ _).alloc (Nat.le_refl _) _
    have hc1 : Blk 70 W1 W.heap.size [.slice A1 n1 c1, .slice A2 n2 c2] := by rw [hW1]; exact Blk.new W _ _
    have HW1 := hide hW1
    have hz1 := hc1.lt
    rcases node_cases hk with rfl | rfl | ⟨i, v, l, h, rfl, hn⟩
    · rw [paths_zero, List.append_nil]
      have hJ1 := hide (hJ.keep hb1)
      have Hb1 := hide hb1
      clear hJ hA hB hR hc hc1 hb1 ih hW1
      go_enter Tryz.func101, Tryz.ntmps101
      go_wp2_with fail
      rw [← HW1.out]
      refine bodyPost_ret (v := .tuple #[]) (by simp [results, Tryz.results101, go_sem]) rfl ?_
      exact ⟨rfl, Chg.of_below Hb1.out M, M, O, n, oc, vs, hJ1.out, fun _ e => .inl e, fun _ e => e⟩
    · rw [paths_one]
      have hJ1 := hJ.keep hb1
      have bx := hJ1.box.cell 0
      have bxf := hJ1.box.frozen 0
      have bxl := hJ1.box.lt
      have b0 := hc1.cell 0
      have b1 := hc1.cell 1
      simp only [List.getElem?_cons_zero, List.getElem?_cons_succ] at bx b0 b1
      have Hf := hide (firm_ss (hA.keep hb1) (hB.keep hb1))
      have HJ := hide hJ
      have HJ1 := hide hJ1
      have Hb1 := hide hb1
      have hlen := hJ.own.len
      have hpw := Nat.one_le_two_pow (n := L - lvl L ds 1)
      clear hJ hJ1 hA hB hR hc hc1 hb1 ih hW1
      go_enter Tryz.func101, Tryz.ntmps101
      go_upto_region 4 with (fail)
      rw [← HW1.out]
      go_wp2_with
        (at_builtin
         refine wpList_pushE (E := Enc.ss) rfl _ _ 26 rfl B 70 i1 (.agg #[.slice none 0 0, .slice none 0 0]) 48 Tryz.underlying26 hi1 hy0 hy1 hy2 rfl (by decide) rfl HJ1.out.own (fun r hr => .inl (HJ1.out.row r hr)) [.slice A1 n1 c1, .slice A2 n2 c2] c (by intro u hu; simp at hu; rcases hu with rfl | rfl <;> rfl) rfl Hf.out (by omega) (by omega) (by omega) ?_
         intro O' oc' W2 h2 hch hO
         have hpush := HJ.out.push Hb1.out h2 hch hO
         have Hpush := hide hpush
         have hbx2 := hch.blk HJ1.out.box (fun e => HJ1.out.ne e rfl)
         have bx2 := hbx2.cell 0
         have bf2 := hbx2.frozen 0
         have bl2 := hbx2.lt
         clear hpush h2 hch hO)
      refine bodyPost_ret (v := .tuple #[]) (by simp [results, Tryz.results101, go_sem]) rfl ?_
      obtain ⟨p1, M', p2, p3, p4⟩ := Hpush.out
      exact ⟨rfl, p1, M', O', n + 1, oc', _, p2, p3, p4⟩
    · obtain ⟨v1, v2, v3, _, v5, v6⟩ := ok.node i v l h hn
      have hi := (List.getElem?_eq_some_iff.1 hn).1
      have hiI : (i : Int) < (ds.length : Int) := by omega
      subst hBw
      have hR1 := hR.keep hb1
      obtain ⟨b, off, v', l', h', rfl, hn', d0, d1, d2, dl⟩ := (hR1.nd W1 (Chg.refl _ _)).nd (show i < ds.length by omega)
      rw [hn] at hn'
      injection hn' with hn'
      injection hn' with e1 e2
      injection e2 with e2 e3
      subst e1 e2 e3
      rw [lvl_node hn] at hc hfew
      have q0 := hR1.d.cell 0
      have q1 := hR1.d.cell 1
      have ql := hR1.d.lt
      simp only [List.getElem?_cons_zero, List.getElem?_cons_succ] at q0 q1
      obtain ⟨W2, hW2⟩ : ∃ Z, Z = W1.alloc (.cells #[.int .i64 (v : Nat), .int .i64 (l : Nat), .int .i64 (h : Nat)] 162) := ⟨_, rfl⟩
      have hb2 : Below W1.heap.size W1 W2 := by rw [hW2]; exact (Below.refl _ _).alloc (Nat.le_refl _) _
      have hn2 : Blk 162 W2 W1.heap.size [.int .i64 (v : Nat), .int .i64 (l : Nat), .int .i64 (h : Nat)] := by rw [hW2]; exact Blk.new W1 _ _
      have hc2 := hc1.keep hb2
      have HW2 := hide hW2
      have hb12 := hb1.trans (hb2.mono hb1.size)
      have hzz := hn2.lt
      have hMW : ∀ b, M b → b < W.heap.size := fun b e => (hJ.rng b e).2
      have hl1 : n1 ≤ 24 := by have e1 := hA.rd.len; have e2 := setB_len (setB_more (Nat.le_of_lt v1) hc.need); omega
      have hl2 : n2 ≤ 24 := by have e1 := hB.rd.len; have e2 := setB_len (setB_more (Nat.le_of_lt v1) hc.no); omega
      have hpw : 2 ^ (L - v) = 2 ^ (L - v - 1) + 2 ^ (L - v - 1) := by
        rw [show L - v = (L - v - 1) + 1 from by omega, Nat.pow_succ, Nat.add_sub_cancel]
        omega
      have hpl : 2 ^ (L - lvl L ds l) ≤ 2 ^ (L - v - 1) := Nat.pow_le_pow_right (by omega) (by omega)
      have hph : 2 ^ (L - lvl L ds h) ≤ 2 ^ (L - v - 1) := Nat.pow_le_pow_right (by omega) (by omega)
      have hpp := paths_len ok l (by omega) ⟨c.need, c.no ++ [(v : Int)]⟩
      have HJ := hide (hJ.keep hb12)
      have HR := hide (hR.keep hb12)
      have HA := hide (hA.keep hb12)
      have HB := hide (hB.keep hb12)
      have Hb2 := hide hb12
      have Hc2 := hide hc2
      have Hn2 := hide hn2
      have Hih := hide ih
      have Hc := hide hc
      have Hnn := hide hn
      clear hJ hA hB hR hR1 hc hc1 hb1 hb2 hb12 hc2 hn2 ih hW1 hW2 hn
      go_enter Tryz.func101, Tryz.ntmps101
      go_upto_region 5 with (fail)
      rw [← HW1.out]
      go_upto_region 6 with (fail)
      rw [← HW2.out]
      rename_i Kr hKr
      have hMx : ∀ r, M r → r < W2.heap.size := fun r e => by have := hMW r e; omega
      have hXW : X ≤ W2.heap.size := by have := Hb2.out.size; omega
      have hMc : ¬ M W.heap.size := fun e => by have := hMW _ e; omega
      have hMn : ¬ M W1.heap.size := fun e => by have := hMW _ e; omega
      have htail : ∀ (s23 s24 s25 s26 s27 s28 s29 s30 s31 s32 s33 s34 s35 s36 s37 : Value) (W3 : World) (M3 : Nat → Prop) (O3 : Option Addr) (n3 oc3 : Nat) (vs3 : List Value), Chg M W2 W3 → PtJ B X W3 g6 M3 O3 n3 oc3 vs3 (outs ++ pathsF ds l ⟨c.need, c.no ++ [(v : Int)]⟩) → (∀ b, M3 b → M b ∨ W2.heap.size ≤ b) → (∀ b, M b → M3 b) →
          Kr { tmps := #[.int .i64 ((i + 2 : Nat) : Int), .agg #[.slice A1 n1 c1, .slice A2 n2 c2], .pointer (some ⟨g6, 0, none⟩), .pointer (some ⟨g3, 0, none⟩), .pointer (some ⟨g7, 0, none⟩), undef, .pointer (some ⟨W.heap.size, 0, none⟩), .pointer (some ⟨W1.heap.size, 0, none⟩), .int .i64 ((i + 2 : Nat) : Int), .bool ((i : Int) + 2 == 0), .bool ((i : Int) + 2 == 0), .bool ((i : Int) + 2 == 1), .bool ((i : Int) + 2 == 1), undef, undef, undef, undef, .pointer (some ⟨g3, 1, none⟩), .slice (some ⟨b, off, none⟩) ds.length cd, .int .i64 ((i + 2 : Nat) : Int), .int .i64 (i : Int), .pointer (some ⟨b, off + i * 3, none⟩), .agg #[.int .i64 (v : Nat), .int .i64 (l : Nat), .int .i64 (h : Nat)], s23, s24, s25, s26, s27, s28, s29, s30, s31, s32, s33, s34, s35, s36, s37, undef, undef, undef, undef, undef, undef, undef, undef, undef, undef, undef, undef, undef, undef, undef], defers := [] } W3 := by
        intro s23 s24 s25 s26 s27 s28 s29 s30 s31 s32 s33 s34 s35 s36 s37 W3 M3 O3 n3 oc3 vs3 hc3 hJ3 h31 h32
        refine hKr _ _ ?_
        clear hKr hMx
        have Hc3 := hide hc3
        have HJ3 := hide hJ3
        have HR3 := hide (HR.out.chg hc3 h31)
        have HA3 := hide (HA.out.next hc3 h31)
        have HB3 := hide (HB.out.next hc3 h31)
        have Hc_ := hide (hc3.blk Hc2.out hMc)
        have Hn_ := hide (hc3.blk Hn2.out hMn)
        have hMx : ∀ r, M3 r → r < W3.heap.size := fun r e => (hJ3.rng r e).2
        have hXW2 : X ≤ W3.heap.size := Nat.le_trans hXW hc3.size
        clear hXW
        have hXW := hXW2
        clear hXW2
        have hMc3 : ¬ M3 W.heap.size := fun e => (h31 _ e).elim hMc (fun k => by omega)
        have hMn3 : ¬ M3 W1.heap.size := fun e => (h31 _ e).elim hMn (fun k => by omega)
        have hzW3 := hc3.size
        clear hc3 hJ3 hMc hMn
        have hMc := hMc3
        have hMn := hMn3
        clear hMc3 hMn3
        obtain ⟨V, hV⟩ : ∃ Z, Z = W3.drew := ⟨_, rfl⟩
        have hbV : Below W3.heap.size W3 V := by rw [hV]; exact (Below.refl _ _).drew
        have HR_ := hide (HR3.out.keep hbV)
        have HJ_ := hide (HJ3.out.keep hbV)
        have HA_ := hide (HA3.out.keep hbV)
        have HB_ := hide (HB3.out.keep hbV)
        have Hcv := hide (Hc_.out.keep hbV)
        have Hnv := hide (Hn_.out.keep hbV)
        have hfx := HR_.out.f.cell 0
        have f1 := Hnv.out.cell 0
        have f2 := Hnv.out.cell 2
        have f3 := Hcv.out.cell 0
        have f4 := Hcv.out.cell 1
        simp only [List.getElem?_cons_zero, List.getElem?_cons_succ] at hfx f1 f2 f3 f4
        have HVs := hide hbV.size
        refine wp_region_held_drew (S := (fun w' => w'.cell? ⟨g7, 0, none⟩ = some (.func (.func 101) #[] #[.pointer (some ⟨g6, 0, none⟩), .pointer (some ⟨g3, 0, none⟩), .pointer (some ⟨g7, 0, none⟩)]) ∧ w'.cell? ⟨W1.heap.size, 0, none⟩ = some (.int .i64 (v : Nat)) ∧ w'.cell? ⟨W1.heap.size, 2, none⟩ = some (.int .i64 (h : Nat)) ∧ w'.cell? ⟨W.heap.size, 0, none⟩ = some (.slice A1 n1 c1) ∧ w'.cell? ⟨W.heap.size, 1, none⟩ = some (.slice A2 n2 c2))) (by kernel_rfl) ?_ (fun hHeld => ?_)
        · rw [← hV]; exact ⟨hfx, f1, f2, f3, f4⟩
        rw [← hV] at hHeld ⊢
        have HbVW := hide hbV
        clear hV hbV
        refine takeR (i := 0) (v := ?_) (some 38) rfl rfl (by kernel_rfl) (by kernel_rfl) (by kernel_rfl) (fun _ _ _ h => h) (Or.inl ⟨by rfl, ?_⟩) (by assumption) ?_
        rotate_left
        · intro w hSw; (try dsimp only at hSw); obtain ⟨s1, s2, s3, s4, s5⟩ := hSw; first | (go_simp; done) | (go_simp; with_reducible rfl)
        try simp only [Act.put, List.setIfInBounds_toArray, List.set_cons_zero, List.set_cons_succ]
        refine takeR (i := 1) (v := ?_) (some 39) rfl rfl (by kernel_rfl) (by kernel_rfl) (by kernel_rfl) (fun _ _ _ h => h) (Or.inl ⟨by rfl, ?_⟩) (by assumption) ?_
        rotate_left
        · intro w hSw; (try dsimp only at hSw); obtain ⟨s1, s2, s3, s4, s5⟩ := hSw; first | (go_simp; done) | (go_simp; with_reducible rfl)
        try simp only [Act.put, List.setIfInBounds_toArray, List.set_cons_zero, List.set_cons_succ]
        refine takeR (i := 2) (v := ?_) (some 40) rfl rfl (by kernel_rfl) (by kernel_rfl) (by kernel_rfl) (fun _ _ _ h => h) (Or.inl ⟨by rfl, ?_⟩) (by assumption) ?_
        rotate_left
        · intro w hSw; (try dsimp only at hSw); obtain ⟨s1, s2, s3, s4, s5⟩ := hSw; first | (go_simp; done) | (go_simp; with_reducible rfl)
        try simp only [Act.put, List.setIfInBounds_toArray, List.set_cons_zero, List.set_cons_succ]
        refine takeR (i := 3) (v := ?_) (some 41) rfl rfl (by kernel_rfl) (by kernel_rfl) (by kernel_rfl) (fun _ _ _ h => h) (Or.inl ⟨by rfl, ?_⟩) (by assumption) ?_
        rotate_left
        · intro w hSw; (try dsimp only at hSw); obtain ⟨s1, s2, s3, s4, s5⟩ := hSw; first | (go_simp; done) | (go_simp; with_reducible rfl)
        try simp only [Act.put, List.setIfInBounds_toArray, List.set_cons_zero, List.set_cons_succ]
        refine takeR (i := 4) (v := ?_) (some 42) rfl rfl (by kernel_rfl) (by kernel_rfl) (by kernel_rfl) (fun _ _ _ h => h) (Or.inl ⟨by rfl, ?_⟩) (by assumption) ?_
        rotate_left
        · intro w hSw; (try dsimp only at hSw); obtain ⟨s1, s2, s3, s4, s5⟩ := hSw; first | (go_simp; done) | (go_simp; with_reducible rfl)
        try simp only [Act.put, List.setIfInBounds_toArray, List.set_cons_zero, List.set_cons_succ]
        refine takeR (i := 6) (v := ?_) (some 44) rfl rfl (by kernel_rfl) (by kernel_rfl) (by kernel_rfl) (fun _ _ _ h => h) (Or.inl ⟨by rfl, ?_⟩) (by assumption) ?_
        rotate_left
        · intro w hSw; (try dsimp only at hSw); obtain ⟨s1, s2, s3, s4, s5⟩ := hSw; first | (go_simp; done) | (go_simp; with_reducible rfl)
        try simp only [Act.put, List.setIfInBounds_toArray, List.set_cons_zero, List.set_cons_succ]
        refine takeR (i := 7) (v := ?_) (some 45) rfl rfl (by kernel_rfl) (by kernel_rfl) (by kernel_rfl) (fun _ _ _ h => h) (Or.inl ⟨by rfl, ?_⟩) (by assumption) ?_
        rotate_left
        · intro w hSw; (try dsimp only at hSw); obtain ⟨s1, s2, s3, s4, s5⟩ := hSw; first | (go_simp; done) | (go_simp; with_reducible rfl)
        try simp only [Act.put, List.setIfInBounds_toArray, List.set_cons_zero, List.set_cons_succ]
        refine takeR (i := 10) (v := ?_) (some 48) rfl rfl (by kernel_rfl) (by kernel_rfl) (by kernel_rfl) (fun _ _ _ h => h) (Or.inl ⟨by rfl, ?_⟩) (by assumption) ?_
        rotate_left
        · intro w hSw; (try dsimp only at hSw); obtain ⟨s1, s2, s3, s4, s5⟩ := hSw; first | (go_simp; done) | (go_simp; with_reducible rfl)
        try simp only [Act.put, List.setIfInBounds_toArray, List.set_cons_zero, List.set_cons_succ]
        refine takeR (i := 11) (v := ?_) (some 49) rfl rfl (by kernel_rfl) (by kernel_rfl) (by kernel_rfl) (fun _ _ _ h => h) (Or.inl ⟨by rfl, ?_⟩) (by assumption) ?_
        rotate_left
        · intro w hSw; (try dsimp only at hSw); obtain ⟨s1, s2, s3, s4, s5⟩ := hSw; first | (go_simp; done) | (go_simp; with_reducible rfl)
        try simp only [Act.put, List.setIfInBounds_toArray, List.set_cons_zero, List.set_cons_succ]
        have HbV := hide (Below.refl V.heap.size V)
        refine wpAnyH_ready (rs := [5, 8]) (by kernel_rfl) (by simp) ?_
        refine AllReadyH.cons rfl (fun K hK => ?_) (AllReadyH.cons rfl (fun K hK => ?_) AllReadyH.nil)
        · go_simp
          refine (CloneI_ct A1 n1 c1 c.need V (HA_.out.keep HbV.out).rd (by omega)).mono ?_
          rintro e V1 ⟨hbN, P5, d5, rfl, hoN⟩
          have HO5 := hide (show OwnI V.heap.size V1 P5 n1 d5 c.need from ⟨HA_.out.rd.len, hoN⟩)
          have HbV1 := hide (HbV.out.trans (hbN.mono HbV.out.size))
          clear hbN hoN
          go_simp
          refine hK.out _ _ ?_ (fun hHeld2 => ?_)
          · exact ⟨cellOf_low HbV1.out hfx, cellOf_low HbV1.out f1, cellOf_low HbV1.out f2, cellOf_low HbV1.out f3, cellOf_low HbV1.out f4⟩
          clear hK K hHeld
          try simp only [Act.put, List.setIfInBounds_toArray, List.set_cons_zero, List.set_cons_succ]
          have hHeld := hHeld2; clear hHeld2
          refine wpAnyH_ready (rs := [8]) (by kernel_rfl) (by simp) ?_
          refine AllReadyH.cons rfl (fun K hK => ?_) AllReadyH.nil
          go_simp
          obtain ⟨V2, hN⟩ : ∃ Z, Z = V1.alloc (.cells #[.int .i64 (v : Nat)] 3) := ⟨_, rfl⟩
          have hbN : Below V1.heap.size V1 V2 := by rw [hN]; exact (Below.refl _ _).alloc (Nat.le_refl _) _
          have hlN : V2.cell? ⟨V1.heap.size, 0, none⟩ = some (.int .i64 (v : Nat)) := by rw [hN]; exact (Blk.new V1 3 [.int .i64 (v : Nat)]).cell 0
          rw [← hN]
          clear hN
          obtain ⟨bx, hbx⟩ : ∃ z, z = V1.heap.size := ⟨_, rfl⟩
          rw [← hbx] at hlN ⊢
          have HL := hide hlN
          have HbV2 := hide (HbV1.out.trans (hbN.mono HbV1.out.size))
          replace HO5 := hide (HO5.out.keep hbN)
          clear hbN hlN hbx
          refine hK.out _ _ ?_ (fun hHeld2 => ?_)
          · exact ⟨cellOf_low HbV2.out hfx, cellOf_low HbV2.out f1, cellOf_low HbV2.out f2, cellOf_low HbV2.out f3, cellOf_low HbV2.out f4⟩
          clear hK K hHeld
          try simp only [Act.put, List.setIfInBounds_toArray, List.set_cons_zero, List.set_cons_succ]
          have hHeld := hHeld2; clear hHeld2
          refine wpAnyH_ready (rs := [9]) (by kernel_rfl) (by simp) ?_
          refine AllReadyH.cons rfl (fun K hK => ?_) AllReadyH.nil
          refine step_pushR rfl _ _ 22 rfl V.heap.size 3 i2 (.int .i64 0) 8 Tryz.underlying22 hi2 hx0 hx1 hx2 rfl rfl (own_lowR HO5.out.2 HbV.out.size) (.int .i64 (v : Nat)) rfl rfl HL.out (by omega) (by omega) HbV2.out.size ?_
          intro P6 d6 V3 hoN hcN hOO
          have hb9 : Below V.heap.size V2 V3 := hcN.below (fun r hr => Nat.le_trans HbV.out.size (HO5.out.block hr).1) HbV2.out.size
          have HbV3 := hide (HbV2.out.trans hb9)
          have HO6 := hide (show OwnI V.heap.size V3 P6 (n1 + 1) d6 (c.need ++ [(v : Int)]) from ⟨by rw [List.length_append, HO5.out.1]; rfl, by simpa using hoN⟩)
          clear hoN hcN hOO hb9
          refine hK.out _ _ ?_ (fun hHeld2 => ?_)
          · exact ⟨cellOf_low HbV3.out hfx, cellOf_low HbV3.out f1, cellOf_low HbV3.out f2, cellOf_low HbV3.out f3, cellOf_low HbV3.out f4⟩
          clear hK K hHeld
          try simp only [Act.put, List.setIfInBounds_toArray, List.set_cons_zero, List.set_cons_succ]
          have hHeld := hHeld2; clear hHeld2
          refine wpAnyH_ready (rs := [12]) (by kernel_rfl) (by simp) ?_
          refine AllReadyH.cons rfl (fun K hK => ?_) AllReadyH.nil
          go_simp
          refine (CloneI_ct A2 n2 c2 c.no V3 (HB_.out.keep HbV3.out).rd (by omega)).mono ?_
          rintro e V4 ⟨hbN, P8, d8, rfl, hoN⟩
          have HO8 := hide (show OwnI V3.heap.size V4 P8 n2 d8 c.no from ⟨HB_.out.rd.len, hoN⟩)
          have HbV4 := hide (HbV3.out.trans (hbN.mono HbV3.out.size))
          have hne68 : ∀ r r2, blkA P6 = some r → blkA P8 = some r2 → r ≠ r2 := fun r r2 e1 e2 => by have := (HO6.out.block e1).2; have := (HO8.out.block e2).1; omega
          replace HO6 := hide (HO6.out.keep hbN)
          clear hbN hoN
          go_simp
          refine hK.out _ _ ?_ (fun hHeld2 => ?_)
          · exact ⟨cellOf_low HbV4.out hfx, cellOf_low HbV4.out f1, cellOf_low HbV4.out f2, cellOf_low HbV4.out f3, cellOf_low HbV4.out f4⟩
          clear hK K hHeld
          try simp only [Act.put, List.setIfInBounds_toArray, List.set_cons_zero, List.set_cons_succ]
          have hHeld := hHeld2; clear hHeld2
          refine takeR (i := 13) (v := ?_) (some 51) rfl rfl (by kernel_rfl) (by kernel_rfl) (by kernel_rfl) (fun _ _ _ h => h) (Or.inl ⟨by rfl, ?_⟩) (by assumption) ?_
          rotate_left
          · intro w hSw; (try dsimp only at hSw); obtain ⟨s1, s2, s3, s4, s5⟩ := hSw; first | (go_simp; done) | (go_simp; with_reducible rfl)
          try simp only [Act.put, List.setIfInBounds_toArray, List.set_cons_zero, List.set_cons_succ]
          refine wpAnyH_ready (rs := [14]) (by kernel_rfl) (by simp) ?_
          refine AllReadyH.cons rfl (fun K hK => ?_) AllReadyH.nil
          go_simp
          have huS : UpS (lvl L ds h) ⟨c.need ++ [(v : Int)], c.no⟩ := (Hc.out.high).mono (by omega)
          have hr1 := (setB_iff.1 (huS.mono (lvl_le ok _)).need).2
          have hr2 := (setB_iff.1 (huS.mono (lvl_le ok _)).no).2
          refine (Hih.out h (by omega) (by omega) ⟨c.need ++ [(v : Int)], c.no⟩ huS V4 _ _ _ _ _ _ P6 P8 _ d6 _ d8 (HJ_.out.keep HbV4.out) (RdM.own HO6.out.2 (fun r hr e => by have := e.elim (hMx r) (fun k => Nat.lt_of_lt_of_le k hXW); have := Nat.le_trans HbV.out.size (HO6.out.block hr).1; have := HVs.out; omega) HO6.out.1 (fun x hx => by have := hr1 x hx; omega)) (RdM.own HO8.out.2 (fun r hr e => by have := e.elim (hMx r) (fun k => Nat.lt_of_lt_of_le k hXW); have := Nat.le_trans HbV3.out.size (HO8.out.block hr).1; have := HVs.out; omega) HO8.out.1 (fun x hx => by have := hr2 x hx; omega)) (HR_.out.keep HbV4.out) (by rw [List.length_append]; omega)).mono ?_
          rintro e W9 ⟨rfl, hch, M4, O4, n4, oc4, vs4, hJ4, hm1, hm2⟩
          go_simp
          have Hch := hide hch
          have HJ4 := hide hJ4
          clear hch hJ4 huS hr1 hr2
          have k0 := (Hch.out.blk (HR_.out.keep HbV4.out).f (HR_.out.m7)).cell 0
          have k1 := (Hch.out.blk (Hnv.out.keep HbV4.out) hMn).cell 0
          have k2 := (Hch.out.blk (Hnv.out.keep HbV4.out) hMn).cell 2
          have k3 := (Hch.out.blk (Hcv.out.keep HbV4.out) hMc).cell 0
          have k4 := (Hch.out.blk (Hcv.out.keep HbV4.out) hMc).cell 1
          simp only [List.getElem?_cons_zero, List.getElem?_cons_succ] at k0 k1 k2 k3 k4
          refine hK.out _ _ ?_ (fun hHeld2 => ?_)
          · exact ⟨k0, k1, k2, k3, k4⟩
          clear hK K hHeld
          try simp only [Act.put, List.setIfInBounds_toArray, List.set_cons_zero, List.set_cons_succ]
          have hHeld := hHeld2; clear hHeld2
          refine wpAnyH_done (by kernel_rfl) ?_ _
          go_wp2_with fail
          refine bodyPost_ret (v := .tuple #[]) (by simp [results, Tryz.results101, go_sem]) rfl ?_
          have hfin : Chg M W W9 := ((Chg.of_below Hb2.out M).trans Hc3.out).trans2 (((Chg.of_below HbVW.out M3).trans (Chg.of_below HbV4.out M3)).trans Hch.out) (fun j hj e => (h31 j e).resolve_right (by have := Hb2.out.size; omega))
          refine ⟨rfl, hfin, M4, O4, n4, oc4, vs4, ?_, fun b e => ?_, fun b e => hm2 b (h32 b e)⟩
          · have := HJ4.out
            rw [List.append_assoc, ← paths_node ok Hnn.out] at this
            exact this
          · rcases hm1 b e with e | e
            · exact (h31 b e).imp id (fun k => by have := Hb2.out.size; omega)
            · right
              have := HbV4.out.size
              have := HVs.out
              have := Hc3.out.size
              have := Hb2.out.size
              omega
        · go_simp
          obtain ⟨V1, hN⟩ : ∃ Z, Z = V.alloc (.cells #[.int .i64 (v : Nat)] 3) := ⟨_, rfl⟩
          have hbN : Below V.heap.size V V1 := by rw [hN]; exact (Below.refl _ _).alloc (Nat.le_refl _) _
          have hlN : V1.cell? ⟨V.heap.size, 0, none⟩ = some (.int .i64 (v : Nat)) := by rw [hN]; exact (Blk.new V 3 [.int .i64 (v : Nat)]).cell 0
          rw [← hN]
          clear hN
          obtain ⟨bx, hbx⟩ : ∃ z, z = V.heap.size := ⟨_, rfl⟩
          rw [← hbx] at hlN ⊢
          have HL := hide hlN
          have HbV1 := hide (HbV.out.trans (hbN.mono HbV.out.size))
          clear hbN hlN hbx
          refine hK.out _ _ ?_ (fun hHeld2 => ?_)
          · exact ⟨cellOf_low HbV1.out hfx, cellOf_low HbV1.out f1, cellOf_low HbV1.out f2, cellOf_low HbV1.out f3, cellOf_low HbV1.out f4⟩
          clear hK K hHeld
          try simp only [Act.put, List.setIfInBounds_toArray, List.set_cons_zero, List.set_cons_succ]
          have hHeld := hHeld2; clear hHeld2
          refine wpAnyH_ready (rs := [5]) (by kernel_rfl) (by simp) ?_
          refine AllReadyH.cons rfl (fun K hK => ?_) AllReadyH.nil
          go_simp
          refine (CloneI_ct A1 n1 c1 c.need V1 (HA_.out.keep HbV1.out).rd (by omega)).mono ?_
          rintro e V2 ⟨hbN, P5, d5, rfl, hoN⟩
          have HO5 := hide (show OwnI V1.heap.size V2 P5 n1 d5 c.need from ⟨HA_.out.rd.len, hoN⟩)
          have HbV2 := hide (HbV1.out.trans (hbN.mono HbV1.out.size))
          replace HL := hide (cellOf_low hbN HL.out)
          clear hbN hoN
          go_simp
          refine hK.out _ _ ?_ (fun hHeld2 => ?_)
          · exact ⟨cellOf_low HbV2.out hfx, cellOf_low HbV2.out f1, cellOf_low HbV2.out f2, cellOf_low HbV2.out f3, cellOf_low HbV2.out f4⟩
          clear hK K hHeld
          try simp only [Act.put, List.setIfInBounds_toArray, List.set_cons_zero, List.set_cons_succ]
          have hHeld := hHeld2; clear hHeld2
          refine wpAnyH_ready (rs := [9]) (by kernel_rfl) (by simp) ?_
          refine AllReadyH.cons rfl (fun K hK => ?_) AllReadyH.nil
          refine step_pushR rfl _ _ 22 rfl V.heap.size 3 i2 (.int .i64 0) 8 Tryz.underlying22 hi2 hx0 hx1 hx2 rfl rfl (own_lowR HO5.out.2 HbV1.out.size) (.int .i64 (v : Nat)) rfl rfl HL.out (by omega) (by omega) HbV2.out.size ?_
          intro P6 d6 V3 hoN hcN hOO
          have hb9 : Below V.heap.size V2 V3 := hcN.below (fun r hr => Nat.le_trans HbV1.out.size (HO5.out.block hr).1) HbV2.out.size
          have HbV3 := hide (HbV2.out.trans hb9)
          have HO6 := hide (show OwnI V.heap.size V3 P6 (n1 + 1) d6 (c.need ++ [(v : Int)]) from ⟨by rw [List.length_append, HO5.out.1]; rfl, by simpa using hoN⟩)
          clear hoN hcN hOO hb9
          refine hK.out _ _ ?_ (fun hHeld2 => ?_)
          · exact ⟨cellOf_low HbV3.out hfx, cellOf_low HbV3.out f1, cellOf_low HbV3.out f2, cellOf_low HbV3.out f3, cellOf_low HbV3.out f4⟩
          clear hK K hHeld
          try simp only [Act.put, List.setIfInBounds_toArray, List.set_cons_zero, List.set_cons_succ]
          have hHeld := hHeld2; clear hHeld2
          refine wpAnyH_ready (rs := [12]) (by kernel_rfl) (by simp) ?_
          refine AllReadyH.cons rfl (fun K hK => ?_) AllReadyH.nil
          go_simp
          refine (CloneI_ct A2 n2 c2 c.no V3 (HB_.out.keep HbV3.out).rd (by omega)).mono ?_
          rintro e V4 ⟨hbN, P8, d8, rfl, hoN⟩
          have HO8 := hide (show OwnI V3.heap.size V4 P8 n2 d8 c.no from ⟨HB_.out.rd.len, hoN⟩)
          have HbV4 := hide (HbV3.out.trans (hbN.mono HbV3.out.size))
          have hne68 : ∀ r r2, blkA P6 = some r → blkA P8 = some r2 → r ≠ r2 := fun r r2 e1 e2 => by have := (HO6.out.block e1).2; have := (HO8.out.block e2).1; omega
          replace HO6 := hide (HO6.out.keep hbN)
          clear hbN hoN
          go_simp
          refine hK.out _ _ ?_ (fun hHeld2 => ?_)
          · exact ⟨cellOf_low HbV4.out hfx, cellOf_low HbV4.out f1, cellOf_low HbV4.out f2, cellOf_low HbV4.out f3, cellOf_low HbV4.out f4⟩
          clear hK K hHeld
          try simp only [Act.put, List.setIfInBounds_toArray, List.set_cons_zero, List.set_cons_succ]
          have hHeld := hHeld2; clear hHeld2
          refine takeR (i := 13) (v := ?_) (some 51) rfl rfl (by kernel_rfl) (by kernel_rfl) (by kernel_rfl) (fun _ _ _ h => h) (Or.inl ⟨by rfl, ?_⟩) (by assumption) ?_
          rotate_left
          · intro w hSw; (try dsimp only at hSw); obtain ⟨s1, s2, s3, s4, s5⟩ := hSw; first | (go_simp; done) | (go_simp; with_reducible rfl)
          try simp only [Act.put, List.setIfInBounds_toArray, List.set_cons_zero, List.set_cons_succ]
          refine wpAnyH_ready (rs := [14]) (by kernel_rfl) (by simp) ?_
          refine AllReadyH.cons rfl (fun K hK => ?_) AllReadyH.nil
          go_simp
          have huS : UpS (lvl L ds h) ⟨c.need ++ [(v : Int)], c.no⟩ := (Hc.out.high).mono (by omega)
          have hr1 := (setB_iff.1 (huS.mono (lvl_le ok _)).need).2
          have hr2 := (setB_iff.1 (huS.mono (lvl_le ok _)).no).2
          refine (Hih.out h (by omega) (by omega) ⟨c.need ++ [(v : Int)], c.no⟩ huS V4 _ _ _ _ _ _ P6 P8 _ d6 _ d8 (HJ_.out.keep HbV4.out) (RdM.own HO6.out.2 (fun r hr e => by have := e.elim (hMx r) (fun k => Nat.lt_of_lt_of_le k hXW); have := Nat.le_trans HbV.out.size (HO6.out.block hr).1; have := HVs.out; omega) HO6.out.1 (fun x hx => by have := hr1 x hx; omega)) (RdM.own HO8.out.2 (fun r hr e => by have := e.elim (hMx r) (fun k => Nat.lt_of_lt_of_le k hXW); have := Nat.le_trans HbV3.out.size (HO8.out.block hr).1; have := HVs.out; omega) HO8.out.1 (fun x hx => by have := hr2 x hx; omega)) (HR_.out.keep HbV4.out) (by rw [List.length_append]; omega)).mono ?_
          rintro e W9 ⟨rfl, hch, M4, O4, n4, oc4, vs4, hJ4, hm1, hm2⟩
          go_simp
          have Hch := hide hch
          have HJ4 := hide hJ4
          clear hch hJ4 huS hr1 hr2
          have k0 := (Hch.out.blk (HR_.out.keep HbV4.out).f (HR_.out.m7)).cell 0
          have k1 := (Hch.out.blk (Hnv.out.keep HbV4.out) hMn).cell 0
          have k2 := (Hch.out.blk (Hnv.out.keep HbV4.out) hMn).cell 2
          have k3 := (Hch.out.blk (Hcv.out.keep HbV4.out) hMc).cell 0
          have k4 := (Hch.out.blk (Hcv.out.keep HbV4.out) hMc).cell 1
          simp only [List.getElem?_cons_zero, List.getElem?_cons_succ] at k0 k1 k2 k3 k4
          refine hK.out _ _ ?_ (fun hHeld2 => ?_)
          · exact ⟨k0, k1, k2, k3, k4⟩
          clear hK K hHeld
          try simp only [Act.put, List.setIfInBounds_toArray, List.set_cons_zero, List.set_cons_succ]
          have hHeld := hHeld2; clear hHeld2
          refine wpAnyH_done (by kernel_rfl) ?_ _
          go_wp2_with fail
          refine bodyPost_ret (v := .tuple #[]) (by simp [results, Tryz.results101, go_sem]) rfl ?_
          have hfin : Chg M W W9 := ((Chg.of_below Hb2.out M).trans Hc3.out).trans2 (((Chg.of_below HbVW.out M3).trans (Chg.of_below HbV4.out M3)).trans Hch.out) (fun j hj e => (h31 j e).resolve_right (by have := Hb2.out.size; omega))
          refine ⟨rfl, hfin, M4, O4, n4, oc4, vs4, ?_, fun b e => ?_, fun b e => hm2 b (h32 b e)⟩
          · have := HJ4.out
            rw [List.append_assoc, ← paths_node ok Hnn.out] at this
            exact this
          · rcases hm1 b e with e | e
            · exact (h31 b e).imp id (fun k => by have := Hb2.out.size; omega)
            · right
              have := HbV4.out.size
              have := HVs.out
              have := Hc3.out.size
              have := Hb2.out.size
              omega
      clear hKr
      obtain ⟨V, hV⟩ : ∃ Z, Z = W2.drew := ⟨_, rfl⟩
      have hbV : Below W2.heap.size W2 V := by rw [hV]; exact (Below.refl _ _).drew
      have HR_ := hide (HR.out.keep hbV)
      have HJ_ := hide (HJ.out.keep hbV)
      have HA_ := hide (HA.out.keep hbV)
      have HB_ := hide (HB.out.keep hbV)
      have Hcv := hide (Hc2.out.keep hbV)
      have Hnv := hide (Hn2.out.keep hbV)
      have hfx := HR_.out.f.cell 0
      have f1 := Hnv.out.cell 0
      have f2 := Hnv.out.cell 1
      have f3 := Hcv.out.cell 0
      have f4 := Hcv.out.cell 1
      simp only [List.getElem?_cons_zero, List.getElem?_cons_succ] at hfx f1 f2 f3 f4
      have HVs := hide hbV.size
      refine wp_region_held_drew (S := (fun w' => w'.cell? ⟨g7, 0, none⟩ = some (.func (.func 101) #[] #[.pointer (some ⟨g6, 0, none⟩), .pointer (some ⟨g3, 0, none⟩), .pointer (some ⟨g7, 0, none⟩)]) ∧ w'.cell? ⟨W1.heap.size, 0, none⟩ = some (.int .i64 (v : Nat)) ∧ w'.cell? ⟨W1.heap.size, 1, none⟩ = some (.int .i64 (l : Nat)) ∧ w'.cell? ⟨W.heap.size, 0, none⟩ = some (.slice A1 n1 c1) ∧ w'.cell? ⟨W.heap.size, 1, none⟩ = some (.slice A2 n2 c2))) (by kernel_rfl) ?_ (fun hHeld => ?_)
      · rw [← hV]; exact ⟨hfx, f1, f2, f3, f4⟩
      rw [← hV] at hHeld ⊢
      have HbVW := hide hbV
      clear hV hbV
      refine takeR (i := 0) (v := ?_) (some 23) rfl rfl (by kernel_rfl) (by kernel_rfl) (by kernel_rfl) (fun _ _ _ h => h) (Or.inl ⟨by rfl, ?_⟩) (by assumption) ?_
      rotate_left
      · intro w hSw; (try dsimp only at hSw); obtain ⟨s1, s2, s3, s4, s5⟩ := hSw; first | (go_simp; done) | (go_simp; with_reducible rfl)
      try simp only [Act.put, List.setIfInBounds_toArray, List.set_cons_zero, List.set_cons_succ]
      refine takeR (i := 1) (v := ?_) (some 24) rfl rfl (by kernel_rfl) (by kernel_rfl) (by kernel_rfl) (fun _ _ _ h => h) (Or.inl ⟨by rfl, ?_⟩) (by assumption) ?_
      rotate_left
      · intro w hSw; (try dsimp only at hSw); obtain ⟨s1, s2, s3, s4, s5⟩ := hSw; first | (go_simp; done) | (go_simp; with_reducible rfl)
      try simp only [Act.put, List.setIfInBounds_toArray, List.set_cons_zero, List.set_cons_succ]
      refine takeR (i := 2) (v := ?_) (some 25) rfl rfl (by kernel_rfl) (by kernel_rfl) (by kernel_rfl) (fun _ _ _ h => h) (Or.inl ⟨by rfl, ?_⟩) (by assumption) ?_
      rotate_left
      · intro w hSw; (try dsimp only at hSw); obtain ⟨s1, s2, s3, s4, s5⟩ := hSw; first | (go_simp; done) | (go_simp; with_reducible rfl)
      try simp only [Act.put, List.setIfInBounds_toArray, List.set_cons_zero, List.set_cons_succ]
      refine takeR (i := 3) (v := ?_) (some 26) rfl rfl (by kernel_rfl) (by kernel_rfl) (by kernel_rfl) (fun _ _ _ h => h) (Or.inl ⟨by rfl, ?_⟩) (by assumption) ?_
      rotate_left
      · intro w hSw; (try dsimp only at hSw); obtain ⟨s1, s2, s3, s4, s5⟩ := hSw; first | (go_simp; done) | (go_simp; with_reducible rfl)
      try simp only [Act.put, List.setIfInBounds_toArray, List.set_cons_zero, List.set_cons_succ]
      refine takeR (i := 4) (v := ?_) (some 27) rfl rfl (by kernel_rfl) (by kernel_rfl) (by kernel_rfl) (fun _ _ _ h => h) (Or.inl ⟨by rfl, ?_⟩) (by assumption) ?_
      rotate_left
      · intro w hSw; (try dsimp only at hSw); obtain ⟨s1, s2, s3, s4, s5⟩ := hSw; first | (go_simp; done) | (go_simp; with_reducible rfl)
      try simp only [Act.put, List.setIfInBounds_toArray, List.set_cons_zero, List.set_cons_succ]
      refine takeR (i := 6) (v := ?_) (some 29) rfl rfl (by kernel_rfl) (by kernel_rfl) (by kernel_rfl) (fun _ _ _ h => h) (Or.inl ⟨by rfl, ?_⟩) (by assumption) ?_
      rotate_left
      · intro w hSw; (try dsimp only at hSw); obtain ⟨s1, s2, s3, s4, s5⟩ := hSw; first | (go_simp; done) | (go_simp; with_reducible rfl)
      try simp only [Act.put, List.setIfInBounds_toArray, List.set_cons_zero, List.set_cons_succ]
      refine takeR (i := 7) (v := ?_) (some 30) rfl rfl (by kernel_rfl) (by kernel_rfl) (by kernel_rfl) (fun _ _ _ h => h) (Or.inl ⟨by rfl, ?_⟩) (by assumption) ?_
      rotate_left
      · intro w hSw; (try dsimp only at hSw); obtain ⟨s1, s2, s3, s4, s5⟩ := hSw; first | (go_simp; done) | (go_simp; with_reducible rfl)
      try simp only [Act.put, List.setIfInBounds_toArray, List.set_cons_zero, List.set_cons_succ]
      refine takeR (i := 9) (v := ?_) (some 32) rfl rfl (by kernel_rfl) (by kernel_rfl) (by kernel_rfl) (fun _ _ _ h => h) (Or.inl ⟨by rfl, ?_⟩) (by assumption) ?_
      rotate_left
      · intro w hSw; (try dsimp only at hSw); obtain ⟨s1, s2, s3, s4, s5⟩ := hSw; first | (go_simp; done) | (go_simp; with_reducible rfl)
      try simp only [Act.put, List.setIfInBounds_toArray, List.set_cons_zero, List.set_cons_succ]
      refine takeR (i := 10) (v := ?_) (some 33) rfl rfl (by kernel_rfl) (by kernel_rfl) (by kernel_rfl) (fun _ _ _ h => h) (Or.inl ⟨by rfl, ?_⟩) (by assumption) ?_
      rotate_left
      · intro w hSw; (try dsimp only at hSw); obtain ⟨s1, s2, s3, s4, s5⟩ := hSw; first | (go_simp; done) | (go_simp; with_reducible rfl)
      try simp only [Act.put, List.setIfInBounds_toArray, List.set_cons_zero, List.set_cons_succ]
      have HbV := hide (Below.refl V.heap.size V)
      refine wpAnyH_ready (rs := [5, 11]) (by kernel_rfl) (by simp) ?_
      refine AllReadyH.cons rfl (fun K hK => ?_) (AllReadyH.cons rfl (fun K hK => ?_) AllReadyH.nil)
      · go_simp
        refine (CloneI_ct A1 n1 c1 c.need V (HA_.out.keep HbV.out).rd (by omega)).mono ?_
        rintro e V1 ⟨hbN, P5, d5, rfl, hoN⟩
        have HO5 := hide (show OwnI V.heap.size V1 P5 n1 d5 c.need from ⟨HA_.out.rd.len, hoN⟩)
        have HbV1 := hide (HbV.out.trans (hbN.mono HbV.out.size))
        clear hbN hoN
        go_simp
        refine hK.out _ _ ?_ (fun hHeld2 => ?_)
        · exact ⟨cellOf_low HbV1.out hfx, cellOf_low HbV1.out f1, cellOf_low HbV1.out f2, cellOf_low HbV1.out f3, cellOf_low HbV1.out f4⟩
        clear hK K hHeld
        try simp only [Act.put, List.setIfInBounds_toArray, List.set_cons_zero, List.set_cons_succ]
        have hHeld := hHeld2; clear hHeld2
        refine wpAnyH_ready (rs := [8, 11]) (by kernel_rfl) (by simp) ?_
        refine AllReadyH.cons rfl (fun K hK => ?_) (AllReadyH.cons rfl (fun K hK => ?_) AllReadyH.nil)
        · go_simp
          refine (CloneI_ct A2 n2 c2 c.no V1 (HB_.out.keep HbV1.out).rd (by omega)).mono ?_
          rintro e V2 ⟨hbN, P8, d8, rfl, hoN⟩
          have HO8 := hide (show OwnI V1.heap.size V2 P8 n2 d8 c.no from ⟨HB_.out.rd.len, hoN⟩)
          have HbV2 := hide (HbV1.out.trans (hbN.mono HbV1.out.size))
          have hne58 : ∀ r r2, blkA P5 = some r → blkA P8 = some r2 → r ≠ r2 := fun r r2 e1 e2 => by have := (HO5.out.block e1).2; have := (HO8.out.block e2).1; omega
          replace HO5 := hide (HO5.out.keep hbN)
          clear hbN hoN
          go_simp
          refine hK.out _ _ ?_ (fun hHeld2 => ?_)
          · exact ⟨cellOf_low HbV2.out hfx, cellOf_low HbV2.out f1, cellOf_low HbV2.out f2, cellOf_low HbV2.out f3, cellOf_low HbV2.out f4⟩
          clear hK K hHeld
          try simp only [Act.put, List.setIfInBounds_toArray, List.set_cons_zero, List.set_cons_succ]
          have hHeld := hHeld2; clear hHeld2
          refine wpAnyH_ready (rs := [11]) (by kernel_rfl) (by simp) ?_
          refine AllReadyH.cons rfl (fun K hK => ?_) AllReadyH.nil
          go_simp
          obtain ⟨V3, hN⟩ : ∃ Z, Z = V2.alloc (.cells #[.int .i64 (v : Nat)] 3) := ⟨_, rfl⟩
          have hbN : Below V2.heap.size V2 V3 := by rw [hN]; exact (Below.refl _ _).alloc (Nat.le_refl _) _
          have hlN : V3.cell? ⟨V2.heap.size, 0, none⟩ = some (.int .i64 (v : Nat)) := by rw [hN]; exact (Blk.new V2 3 [.int .i64 (v : Nat)]).cell 0
          rw [← hN]
          clear hN
          obtain ⟨bx, hbx⟩ : ∃ z, z = V2.heap.size := ⟨_, rfl⟩
          rw [← hbx] at hlN ⊢
          have HL := hide hlN
          have HbV3 := hide (HbV2.out.trans (hbN.mono HbV2.out.size))
          replace HO5 := hide (HO5.out.keep hbN)
          replace HO8 := hide (HO8.out.keep hbN)
          clear hbN hlN hbx
          refine hK.out _ _ ?_ (fun hHeld2 => ?_)
          · exact ⟨cellOf_low HbV3.out hfx, cellOf_low HbV3.out f1, cellOf_low HbV3.out f2, cellOf_low HbV3.out f3, cellOf_low HbV3.out f4⟩
          clear hK K hHeld
          try simp only [Act.put, List.setIfInBounds_toArray, List.set_cons_zero, List.set_cons_succ]
          have hHeld := hHeld2; clear hHeld2
          refine wpAnyH_ready (rs := [12]) (by kernel_rfl) (by simp) ?_
          refine AllReadyH.cons rfl (fun K hK => ?_) AllReadyH.nil
          refine step_pushR rfl _ _ 22 rfl V.heap.size 3 i2 (.int .i64 0) 8 Tryz.underlying22 hi2 hx0 hx1 hx2 rfl rfl (own_lowR HO8.out.2 HbV1.out.size) (.int .i64 (v : Nat)) rfl rfl HL.out (by omega) (by omega) HbV3.out.size ?_
          intro P9 d9 V4 hoN hcN hOO
          have hb9 : Below V.heap.size V3 V4 := hcN.below (fun r hr => Nat.le_trans HbV1.out.size (HO8.out.block hr).1) HbV3.out.size
          have HbV4 := hide (HbV3.out.trans hb9)
          have HO9 := hide (show OwnI V.heap.size V4 P9 (n2 + 1) d9 (c.no ++ [(v : Int)]) from ⟨by rw [List.length_append, HO8.out.1]; rfl, by simpa using hoN⟩)
          replace HO5 := hide (show OwnI V.heap.size V4 P5 n1 d5 c.need from ⟨HO5.out.1, hcN.own HO5.out.2 (fun r e1 e2 => hne58 r r (by rw [← own_blkA P5 n1 d5]; exact e1) e2 rfl)⟩)
          clear hoN hcN hOO hb9
          refine hK.out _ _ ?_ (fun hHeld2 => ?_)
          · exact ⟨cellOf_low HbV4.out hfx, cellOf_low HbV4.out f1, cellOf_low HbV4.out f2, cellOf_low HbV4.out f3, cellOf_low HbV4.out f4⟩
          clear hK K hHeld
          try simp only [Act.put, List.setIfInBounds_toArray, List.set_cons_zero, List.set_cons_succ]
          have hHeld := hHeld2; clear hHeld2
          refine takeR (i := 13) (v := ?_) (some 36) rfl rfl (by kernel_rfl) (by kernel_rfl) (by kernel_rfl) (fun _ _ _ h => h) (Or.inl ⟨by rfl, ?_⟩) (by assumption) ?_
          rotate_left
          · intro w hSw; (try dsimp only at hSw); obtain ⟨s1, s2, s3, s4, s5⟩ := hSw; first | (go_simp; done) | (go_simp; with_reducible rfl)
          try simp only [Act.put, List.setIfInBounds_toArray, List.set_cons_zero, List.set_cons_succ]
          refine wpAnyH_ready (rs := [14]) (by kernel_rfl) (by simp) ?_
          refine AllReadyH.cons rfl (fun K hK => ?_) AllReadyH.nil
          go_simp
          have huS : UpS (lvl L ds l) ⟨c.need, c.no ++ [(v : Int)]⟩ := (Hc.out.low).mono (by omega)
          have hr1 := (setB_iff.1 (huS.mono (lvl_le ok _)).need).2
          have hr2 := (setB_iff.1 (huS.mono (lvl_le ok _)).no).2
          refine (Hih.out l (by omega) (by omega) ⟨c.need, c.no ++ [(v : Int)]⟩ huS V4 _ _ _ _ _ _ P5 P9 _ d5 _ d9 (HJ_.out.keep HbV4.out) (RdM.own HO5.out.2 (fun r hr e => by have := e.elim (hMx r) (fun k => Nat.lt_of_lt_of_le k hXW); have := Nat.le_trans HbV.out.size (HO5.out.block hr).1; have := HVs.out; omega) HO5.out.1 (fun x hx => by have := hr1 x hx; omega)) (RdM.own HO9.out.2 (fun r hr e => by have := e.elim (hMx r) (fun k => Nat.lt_of_lt_of_le k hXW); have := Nat.le_trans HbV.out.size (HO9.out.block hr).1; have := HVs.out; omega) HO9.out.1 (fun x hx => by have := hr2 x hx; omega)) (HR_.out.keep HbV4.out) (by omega)).mono ?_
          rintro e W9 ⟨rfl, hch, M4, O4, n4, oc4, vs4, hJ4, hm1, hm2⟩
          go_simp
          have Hch := hide hch
          have HJ4 := hide hJ4
          clear hch hJ4 huS hr1 hr2
          have k0 := (Hch.out.blk (HR_.out.keep HbV4.out).f (HR_.out.m7)).cell 0
          have k1 := (Hch.out.blk (Hnv.out.keep HbV4.out) hMn).cell 0
          have k2 := (Hch.out.blk (Hnv.out.keep HbV4.out) hMn).cell 1
          have k3 := (Hch.out.blk (Hcv.out.keep HbV4.out) hMc).cell 0
          have k4 := (Hch.out.blk (Hcv.out.keep HbV4.out) hMc).cell 1
          simp only [List.getElem?_cons_zero, List.getElem?_cons_succ] at k0 k1 k2 k3 k4
          refine hK.out _ _ ?_ (fun hHeld2 => ?_)
          · exact ⟨k0, k1, k2, k3, k4⟩
          clear hK K hHeld
          try simp only [Act.put, List.setIfInBounds_toArray, List.set_cons_zero, List.set_cons_succ]
          have hHeld := hHeld2; clear hHeld2
          refine wpAnyH_done (by kernel_rfl) ?_ _
          exact htail _ _ _ _ _ _ _ _ _ _ _ _ _ _ _ W9 M4 O4 n4 oc4 vs4 (((Chg.of_below HbVW.out M).trans (Chg.of_below HbV4.out M)).trans Hch.out) HJ4.out (fun b e => (hm1 b e).imp id (fun k => by have := HbV4.out.size; have := HVs.out; omega)) hm2
        · go_simp
          obtain ⟨V2, hN⟩ : ∃ Z, Z = V1.alloc (.cells #[.int .i64 (v : Nat)] 3) := ⟨_, rfl⟩
          have hbN : Below V1.heap.size V1 V2 := by rw [hN]; exact (Below.refl _ _).alloc (Nat.le_refl _) _
          have hlN : V2.cell? ⟨V1.heap.size, 0, none⟩ = some (.int .i64 (v : Nat)) := by rw [hN]; exact (Blk.new V1 3 [.int .i64 (v : Nat)]).cell 0
          rw [← hN]
          clear hN
          obtain ⟨bx, hbx⟩ : ∃ z, z = V1.heap.size := ⟨_, rfl⟩
          rw [← hbx] at hlN ⊢
          have HL := hide hlN
          have HbV2 := hide (HbV1.out.trans (hbN.mono HbV1.out.size))
          replace HO5 := hide (HO5.out.keep hbN)
          clear hbN hlN hbx
          refine hK.out _ _ ?_ (fun hHeld2 => ?_)
          · exact ⟨cellOf_low HbV2.out hfx, cellOf_low HbV2.out f1, cellOf_low HbV2.out f2, cellOf_low HbV2.out f3, cellOf_low HbV2.out f4⟩
          clear hK K hHeld
          try simp only [Act.put, List.setIfInBounds_toArray, List.set_cons_zero, List.set_cons_succ]
          have hHeld := hHeld2; clear hHeld2
          refine wpAnyH_ready (rs := [8]) (by kernel_rfl) (by simp) ?_
          refine AllReadyH.cons rfl (fun K hK => ?_) AllReadyH.nil
          go_simp
          refine (CloneI_ct A2 n2 c2 c.no V2 (HB_.out.keep HbV2.out).rd (by omega)).mono ?_
          rintro e V3 ⟨hbN, P8, d8, rfl, hoN⟩
          have HO8 := hide (show OwnI V2.heap.size V3 P8 n2 d8 c.no from ⟨HB_.out.rd.len, hoN⟩)
          have HbV3 := hide (HbV2.out.trans (hbN.mono HbV2.out.size))
          have hne58 : ∀ r r2, blkA P5 = some r → blkA P8 = some r2 → r ≠ r2 := fun r r2 e1 e2 => by have := (HO5.out.block e1).2; have := (HO8.out.block e2).1; omega
          replace HO5 := hide (HO5.out.keep hbN)
          replace HL := hide (cellOf_low hbN HL.out)
          clear hbN hoN
          go_simp
          refine hK.out _ _ ?_ (fun hHeld2 => ?_)
          · exact ⟨cellOf_low HbV3.out hfx, cellOf_low HbV3.out f1, cellOf_low HbV3.out f2, cellOf_low HbV3.out f3, cellOf_low HbV3.out f4⟩
          clear hK K hHeld
          try simp only [Act.put, List.setIfInBounds_toArray, List.set_cons_zero, List.set_cons_succ]
          have hHeld := hHeld2; clear hHeld2
          refine wpAnyH_ready (rs := [12]) (by kernel_rfl) (by simp) ?_
          refine AllReadyH.cons rfl (fun K hK => ?_) AllReadyH.nil
          refine step_pushR rfl _ _ 22 rfl V.heap.size 3 i2 (.int .i64 0) 8 Tryz.underlying22 hi2 hx0 hx1 hx2 rfl rfl (own_lowR HO8.out.2 HbV2.out.size) (.int .i64 (v : Nat)) rfl rfl HL.out (by omega) (by omega) HbV3.out.size ?_
          intro P9 d9 V4 hoN hcN hOO
          have hb9 : Below V.heap.size V3 V4 := hcN.below (fun r hr => Nat.le_trans HbV2.out.size (HO8.out.block hr).1) HbV3.out.size
          have HbV4 := hide (HbV3.out.trans hb9)
          have HO9 := hide (show OwnI V.heap.size V4 P9 (n2 + 1) d9 (c.no ++ [(v : Int)]) from ⟨by rw [List.length_append, HO8.out.1]; rfl, by simpa using hoN⟩)
          replace HO5 := hide (show OwnI V.heap.size V4 P5 n1 d5 c.need from ⟨HO5.out.1, hcN.own HO5.out.2 (fun r e1 e2 => hne58 r r (by rw [← own_blkA P5 n1 d5]; exact e1) e2 rfl)⟩)
          clear hoN hcN hOO hb9
          refine hK.out _ _ ?_ (fun hHeld2 => ?_)
          · exact ⟨cellOf_low HbV4.out hfx, cellOf_low HbV4.out f1, cellOf_low HbV4.out f2, cellOf_low HbV4.out f3, cellOf_low HbV4.out f4⟩
          clear hK K hHeld
          try simp only [Act.put, List.setIfInBounds_toArray, List.set_cons_zero, List.set_cons_succ]
          have hHeld := hHeld2; clear hHeld2
          refine takeR (i := 13) (v := ?_) (some 36) rfl rfl (by kernel_rfl) (by kernel_rfl) (by kernel_rfl) (fun _ _ _ h => h) (Or.inl ⟨by rfl, ?_⟩) (by assumption) ?_
          rotate_left
          · intro w hSw; (try dsimp only at hSw); obtain ⟨s1, s2, s3, s4, s5⟩ := hSw; first | (go_simp; done) | (go_simp; with_reducible rfl)
          try simp only [Act.put, List.setIfInBounds_toArray, List.set_cons_zero, List.set_cons_succ]
          refine wpAnyH_ready (rs := [14]) (by kernel_rfl) (by simp) ?_
          refine AllReadyH.cons rfl (fun K hK => ?_) AllReadyH.nil
          go_simp
          have huS : UpS (lvl L ds l) ⟨c.need, c.no ++ [(v : Int)]⟩ := (Hc.out.low).mono (by omega)
          have hr1 := (setB_iff.1 (huS.mono (lvl_le ok _)).need).2
          have hr2 := (setB_iff.1 (huS.mono (lvl_le ok _)).no).2
          refine (Hih.out l (by omega) (by omega) ⟨c.need, c.no ++ [(v : Int)]⟩ huS V4 _ _ _ _ _ _ P5 P9 _ d5 _ d9 (HJ_.out.keep HbV4.out) (RdM.own HO5.out.2 (fun r hr e => by have := e.elim (hMx r) (fun k => Nat.lt_of_lt_of_le k hXW); have := Nat.le_trans HbV.out.size (HO5.out.block hr).1; have := HVs.out; omega) HO5.out.1 (fun x hx => by have := hr1 x hx; omega)) (RdM.own HO9.out.2 (fun r hr e => by have := e.elim (hMx r) (fun k => Nat.lt_of_lt_of_le k hXW); have := Nat.le_trans HbV.out.size (HO9.out.block hr).1; have := HVs.out; omega) HO9.out.1 (fun x hx => by have := hr2 x hx; omega)) (HR_.out.keep HbV4.out) (by omega)).mono ?_
          rintro e W9 ⟨rfl, hch, M4, O4, n4, oc4, vs4, hJ4, hm1, hm2⟩
          go_simp
          have Hch := hide hch
          have HJ4 := hide hJ4
          clear hch hJ4 huS hr1 hr2
          have k0 := (Hch.out.blk (HR_.out.keep HbV4.out).f (HR_.out.m7)).cell 0
          have k1 := (Hch.out.blk (Hnv.out.keep HbV4.out) hMn).cell 0
          have k2 := (Hch.out.blk (Hnv.out.keep HbV4.out) hMn).cell 1
          have k3 := (Hch.out.blk (Hcv.out.keep HbV4.out) hMc).cell 0
          have k4 := (Hch.out.blk (Hcv.out.keep HbV4.out) hMc).cell 1
          simp only [List.getElem?_cons_zero, List.getElem?_cons_succ] at k0 k1 k2 k3 k4
          refine hK.out _ _ ?_ (fun hHeld2 => ?_)
          · exact ⟨k0, k1, k2, k3, k4⟩
          clear hK K hHeld
          try simp only [Act.put, List.setIfInBounds_toArray, List.set_cons_zero, List.set_cons_succ]
          have hHeld := hHeld2; clear hHeld2
          refine wpAnyH_done (by kernel_rfl) ?_ _
          exact htail _ _ _ _ _ _ _ _ _ _ _ _ _ _ _ W9 M4 O4 n4 oc4 vs4 (((Chg.of_below HbVW.out M).trans (Chg.of_below HbV4.out M)).trans Hch.out) HJ4.out (fun b e => (hm1 b e).imp id (fun k => by have := HbV4.out.size; have := HVs.out; omega)) hm2
      · go_simp
        obtain ⟨V1, hN⟩ : ∃ Z, Z = V.alloc (.cells #[.int .i64 (v : Nat)] 3) := ⟨_, rfl⟩
        have hbN : Below V.heap.size V V1 := by rw [hN]; exact (Below.refl _ _).alloc (Nat.le_refl _) _
        have hlN : V1.cell? ⟨V.heap.size, 0, none⟩ = some (.int .i64 (v : Nat)) := by rw [hN]; exact (Blk.new V 3 [.int .i64 (v : Nat)]).cell 0
        rw [← hN]
        clear hN
        obtain ⟨bx, hbx⟩ : ∃ z, z = V.heap.size := ⟨_, rfl⟩
        rw [← hbx] at hlN ⊢
        have HL := hide hlN
        have HbV1 := hide (HbV.out.trans (hbN.mono HbV.out.size))
        clear hbN hlN hbx
        refine hK.out _ _ ?_ (fun hHeld2 => ?_)
        · exact ⟨cellOf_low HbV1.out hfx, cellOf_low HbV1.out f1, cellOf_low HbV1.out f2, cellOf_low HbV1.out f3, cellOf_low HbV1.out f4⟩
        clear hK K hHeld
        try simp only [Act.put, List.setIfInBounds_toArray, List.set_cons_zero, List.set_cons_succ]
        have hHeld := hHeld2; clear hHeld2
        refine wpAnyH_ready (rs := [5]) (by kernel_rfl) (by simp) ?_
        refine AllReadyH.cons rfl (fun K hK => ?_) AllReadyH.nil
        go_simp
        refine (CloneI_ct A1 n1 c1 c.need V1 (HA_.out.keep HbV1.out).rd (by omega)).mono ?_
        rintro e V2 ⟨hbN, P5, d5, rfl, hoN⟩
        have HO5 := hide (show OwnI V1.heap.size V2 P5 n1 d5 c.need from ⟨HA_.out.rd.len, hoN⟩)
        have HbV2 := hide (HbV1.out.trans (hbN.mono HbV1.out.size))
        replace HL := hide (cellOf_low hbN HL.out)
        clear hbN hoN
        go_simp
        refine hK.out _ _ ?_ (fun hHeld2 => ?_)
        · exact ⟨cellOf_low HbV2.out hfx, cellOf_low HbV2.out f1, cellOf_low HbV2.out f2, cellOf_low HbV2.out f3, cellOf_low HbV2.out f4⟩
        clear hK K hHeld
        try simp only [Act.put, List.setIfInBounds_toArray, List.set_cons_zero, List.set_cons_succ]
        have hHeld := hHeld2; clear hHeld2
        refine wpAnyH_ready (rs := [8]) (by kernel_rfl) (by simp) ?_
        refine AllReadyH.cons rfl (fun K hK => ?_) AllReadyH.nil
        go_simp
        refine (CloneI_ct A2 n2 c2 c.no V2 (HB_.out.keep HbV2.out).rd (by omega)).mono ?_
        rintro e V3 ⟨hbN, P8, d8, rfl, hoN⟩
        have HO8 := hide (show OwnI V2.heap.size V3 P8 n2 d8 c.no from ⟨HB_.out.rd.len, hoN⟩)
        have HbV3 := hide (HbV2.out.trans (hbN.mono HbV2.out.size))
        have hne58 : ∀ r r2, blkA P5 = some r → blkA P8 = some r2 → r ≠ r2 := fun r r2 e1 e2 => by have := (HO5.out.block e1).2; have := (HO8.out.block e2).1; omega
        replace HO5 := hide (HO5.out.keep hbN)
        replace HL := hide (cellOf_low hbN HL.out)
        clear hbN hoN
        go_simp
        refine hK.out _ _ ?_ (fun hHeld2 => ?_)
        · exact ⟨cellOf_low HbV3.out hfx, cellOf_low HbV3.out f1, cellOf_low HbV3.out f2, cellOf_low HbV3.out f3, cellOf_low HbV3.out f4⟩
        clear hK K hHeld
        try simp only [Act.put, List.setIfInBounds_toArray, List.set_cons_zero, List.set_cons_succ]
        have hHeld := hHeld2; clear hHeld2
        refine wpAnyH_ready (rs := [12]) (by kernel_rfl) (by simp) ?_
        refine AllReadyH.cons rfl (fun K hK => ?_) AllReadyH.nil
        refine step_pushR rfl _ _ 22 rfl V.heap.size 3 i2 (.int .i64 0) 8 Tryz.underlying22 hi2 hx0 hx1 hx2 rfl rfl (own_lowR HO8.out.2 HbV2.out.size) (.int .i64 (v : Nat)) rfl rfl HL.out (by omega) (by omega) HbV3.out.size ?_
        intro P9 d9 V4 hoN hcN hOO
        have hb9 : Below V.heap.size V3 V4 := hcN.below (fun r hr => Nat.le_trans HbV2.out.size (HO8.out.block hr).1) HbV3.out.size
        have HbV4 := hide (HbV3.out.trans hb9)
        have HO9 := hide (show OwnI V.heap.size V4 P9 (n2 + 1) d9 (c.no ++ [(v : Int)]) from ⟨by rw [List.length_append, HO8.out.1]; rfl, by simpa using hoN⟩)
        replace HO5 := hide (show OwnI V1.heap.size V4 P5 n1 d5 c.need from ⟨HO5.out.1, hcN.own HO5.out.2 (fun r e1 e2 => hne58 r r (by rw [← own_blkA P5 n1 d5]; exact e1) e2 rfl)⟩)
        clear hoN hcN hOO hb9
        refine hK.out _ _ ?_ (fun hHeld2 => ?_)
        · exact ⟨cellOf_low HbV4.out hfx, cellOf_low HbV4.out f1, cellOf_low HbV4.out f2, cellOf_low HbV4.out f3, cellOf_low HbV4.out f4⟩
        clear hK K hHeld
        try simp only [Act.put, List.setIfInBounds_toArray, List.set_cons_zero, List.set_cons_succ]
        have hHeld := hHeld2; clear hHeld2
        refine takeR (i := 13) (v := ?_) (some 36) rfl rfl (by kernel_rfl) (by kernel_rfl) (by kernel_rfl) (fun _ _ _ h => h) (Or.inl ⟨by rfl, ?_⟩) (by assumption) ?_
        rotate_left
        · intro w hSw; (try dsimp only at hSw); obtain ⟨s1, s2, s3, s4, s5⟩ := hSw; first | (go_simp; done) | (go_simp; with_reducible rfl)
        try simp only [Act.put, List.setIfInBounds_toArray, List.set_cons_zero, List.set_cons_succ]
        refine wpAnyH_ready (rs := [14]) (by kernel_rfl) (by simp) ?_
        refine AllReadyH.cons rfl (fun K hK => ?_) AllReadyH.nil
        go_simp
        have huS : UpS (lvl L ds l) ⟨c.need, c.no ++ [(v : Int)]⟩ := (Hc.out.low).mono (by omega)
        have hr1 := (setB_iff.1 (huS.mono (lvl_le ok _)).need).2
        have hr2 := (setB_iff.1 (huS.mono (lvl_le ok _)).no).2
        refine (Hih.out l (by omega) (by omega) ⟨c.need, c.no ++ [(v : Int)]⟩ huS V4 _ _ _ _ _ _ P5 P9 _ d5 _ d9 (HJ_.out.keep HbV4.out) (RdM.own HO5.out.2 (fun r hr e => by have := e.elim (hMx r) (fun k => Nat.lt_of_lt_of_le k hXW); have := Nat.le_trans HbV1.out.size (HO5.out.block hr).1; have := HVs.out; omega) HO5.out.1 (fun x hx => by have := hr1 x hx; omega)) (RdM.own HO9.out.2 (fun r hr e => by have := e.elim (hMx r) (fun k => Nat.lt_of_lt_of_le k hXW); have := Nat.le_trans HbV.out.size (HO9.out.block hr).1; have := HVs.out; omega) HO9.out.1 (fun x hx => by have := hr2 x hx; omega)) (HR_.out.keep HbV4.out) (by omega)).mono ?_
        rintro e W9 ⟨rfl, hch, M4, O4, n4, oc4, vs4, hJ4, hm1, hm2⟩
        go_simp
        have Hch := hide hch
        have HJ4 := hide hJ4
        clear hch hJ4 huS hr1 hr2
        have k0 := (Hch.out.blk (HR_.out.keep HbV4.out).f (HR_.out.m7)).cell 0
        have k1 := (Hch.out.blk (Hnv.out.keep HbV4.out) hMn).cell 0
        have k2 := (Hch.out.blk (Hnv.out.keep HbV4.out) hMn).cell 1
        have k3 := (Hch.out.blk (Hcv.out.keep HbV4.out) hMc).cell 0
        have k4 := (Hch.out.blk (Hcv.out.keep HbV4.out) hMc).cell 1
        simp only [List.getElem?_cons_zero, List.getElem?_cons_succ] at k0 k1 k2 k3 k4
        refine hK.out _ _ ?_ (fun hHeld2 => ?_)
        · exact ⟨k0, k1, k2, k3, k4⟩
        clear hK K hHeld
        try simp only [Act.put, List.setIfInBounds_toArray, List.set_cons_zero, List.set_cons_succ]
        have hHeld := hHeld2; clear hHeld2
        refine wpAnyH_done (by kernel_rfl) ?_ _
        exact htail _ _ _ _ _ _ _ _ _ _ _ _ _ _ _ W9 M4 O4 n4 oc4 vs4 (((Chg.of_below HbVW.out M).trans (Chg.of_below HbV4.out M)).trans Hch.out) HJ4.out (fun b e => (hm1 b e).imp id (fun k => by have := HbV4.out.size; have := HVs.out; omega)) hm2
end Go.Proofs.YtmjiiddncbhgpaaGreat
