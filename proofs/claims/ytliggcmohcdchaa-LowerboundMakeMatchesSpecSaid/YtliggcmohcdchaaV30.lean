/- What the law of made tables' costs asks for, part 30: Lo7. -/
import Derived.Test.YtliggcmohcdchaaV1
import Derived.Test.YtliggcmohcdchaaV2
import Derived.Test.YtliggcmohcdchaaV3
import Derived.Test.YtliggcmohcdchaaV4
import Derived.Test.YtliggcmohcdchaaV5
import Derived.Test.YtliggcmohcdchaaV6
import Derived.Test.YtliggcmohcdchaaV7
import Derived.Test.YtliggcmohcdchaaV8
import Derived.Test.YtliggcmohcdchaaV13
import Derived.Test.YtliggcmohcdchaaV15
import Derived.Test.YtliggcmohcdchaaV16
import Derived.Test.YtliggcmohcdchaaV17
import Derived.Test.YtliggcmohcdchaaV18
import Derived.Test.YtliggcmohcdchaaV19
import Derived.Test.YtliggcmohcdchaaV20
import Derived.Test.YtliggcmohcdchaaV26
import Derived.Test.YtliggcmohcdchaaV27
import Derived.Test.YtliggcmohcdchaaV28
import Derived.Test.YtliggcmohcdchaaV29
import Derived.BigQuiet
import Derived.Deep.AppendLies
import Derived.Deep.DeepCutAuto
import Derived.Deep.Draws
import Derived.Deep.Fields
import Derived.Deep.LoopGhost
import Derived.Deep.QuietTactic
import Derived.Deep.RegionHeld3
import Derived.Deep.Slices
import Derived.DeepKeys4
import Derived.Ground.Names2Prog
import Derived.Ground.SlgnProg
import Derived.Ground.SlsfProg
import Derived.IntWalk
import Derived.Laws.AppendOwnNone
import Derived.Laws.BitsAllLaws
import Derived.Laws.OwnMore
import Derived.Lib.Hide
import Derived.Lib.SlicesCompact
import Derived.LoopIn
import Derived.LoopNIn
import Derived.Maps.AppendAt
import Derived.Maps.OwnIn
import Derived.Maps.OwnOps
import Derived.Maps.OwnSet
import Derived.OrdersHeld
import Derived.OrdersIn
import Derived.OwnWalkIn
import Derived.RangeFuncBound
import Derived.RangeFuncCalls
import Derived.RangeFuncLeaves
import Derived.RangeFuncNested
import Derived.Shelf.Abstract
import Derived.Shelf.RegionOpen
import Derived.Shelf.Slices.Cells
import Derived.Shelf.Slices.Clone
import Derived.Shelf.Slices.CompactI
import Derived.Shelf.Slices.Empties
import Derived.Shelf.Slices.In.SortNone
import Derived.Shelf.Slices.SearchI
import Derived.Shelf.Sort.Plain
import Derived.Sort.OwnSortedInts
import Derived.StillTail
import Derived.StillTailTactics
import Derived.TacticsInMore
import Derived.Test.YtliggcmohcdchaaProg
import Derived.WalkKit
namespace Go.Proofs.Ytliggcmohcdchaa
set_option linter.unusedVariables false
set_option linter.unusedSimpArgs false
open Go.RowKit Go.Maps
theorem entInfo : (Try.prog.info? 38).map (fun i => (i.zero, i.size, i.bytes)) = some (some (.agg #[.slice none 0 0, .int .i64 0]), 2, 32) := by kernel_rfl
theorem firm_ent {M : Nat → Prop} {w : World} {A : Option Addr} {n c : Nat} {e : Ent} (h : RdM M w A n c e.st) (hv : I64s e.val) : Firm Enc.ent M w [.slice A n c, .int .i64 e.val] e := fun w' hc => ⟨A, n, c, rfl, h w' hc, hv⟩
/-- what Raise answers -/
def rseF (T : Tsk) (l : List Ent) : Option (List Ent) × Int × Int :=
  if (boundsF T l).1 ≠ 0 then (none, (boundsF T l).1, (boundsF T l).2) else if holdB infC T l = true then (some (raiseF infC T l), 0, 0) else (none, 16, -10)
theorem rse_bad {T : Tsk} {l : List Ent} (h : (boundsF T l).1 ≠ 0) : rseF T l = (none, (boundsF T l).1, (boundsF T l).2) := by unfold rseF; rw [if_pos h]
theorem rse_no {T : Tsk} {l : List Ent} (h : (boundsF T l).1 = 0) (h2 : holdB infC T l = false) : rseF T l = (none, 16, -10) := by unfold rseF; rw [if_neg (by simp [h]), if_neg (by simp [h2])]
theorem rse_yes {T : Tsk} {l : List Ent} (h : (boundsF T l).1 = 0) (h2 : holdB infC T l = true) : rseF T l = (some (raiseF infC T l), 0, 0) := by unfold rseF; rw [if_neg (by simp [h]), if_pos h2]
/-- a table or none, and a fault -/
def TabP (w : World) (r : Option (List Ent) × Int × Int) (e : Ending) (w' : World) : Prop :=
  Below w.heap.size w w' ∧ match r with
    | (none, c, i) => e = .returned (.tuple #[.slice none 0 0, fault c i])
    | (some l, c, i) => ∃ (A : Option Addr) (cp : Nat), e = .returned (.tuple #[.slice A l.length cp, fault c i]) ∧ Rd Enc.ent w' A l.length cp l
set_option maxRecDepth 100000 in
set_option maxHeartbeats 6400000 in
theorem Raise_ct (a : TA) (T : Tsk) (A : Option Addr) (n c : Nat) (l : List Ent) (w : World) (h : TkR w a T) (hl : Rd Enc.ent w A n c l) :
    Calls Try.prog 13 #[.agg #[.int .i64 T.facts, .slice a.I a.nI a.cI, .slice a.G a.nG a.cG, .slice a.O a.nO a.cO], .slice A n c] w (TabP w (rseF T l)) := by
  obtain ⟨i1, hi1, hy0, hy1, hy2⟩ := info_parts entInfo
  have hval := fun W hT hW => validate_ct a T A n c l W hT hW
  have hnv := fun N W hT hok hW htab => newValues_ct a T N A n c l W hT hok hW htab
  obtain ⟨I, nI, cI, G, nG, cG, O, nO, cO⟩ := a
  simp only at hval hnv ⊢
  have Hlen := hide hl.len
  have hlow := hl.low
  obtain ⟨R, hR⟩ : ∃ R, R = rseF T l := ⟨_, rfl⟩
  rw [← hR]
  rcases hq : boundsF T l with ⟨ec, ei⟩
  rw [hq] at hval
  have H := hide h
  have Hl := hide hl
  have HR := hide hR
  have Hval := hide hval
  have Hnv := hide hnv
  have Hq := hide hq
  clear h hl hq hval hR hnv
  have Hbl := hide (Below.refl w.heap.size w)
  go_enter Try.func13, Try.ntmps13
  go_upto_region 1 with (fail)
  obtain ⟨B0, hB0⟩ : ∃ B0, B0 = w.heap.size := ⟨_, rfl⟩
  have HB0 := hide hB0
  clear hB0
  have s_0 : B0 ≤ w.heap.size := Nat.le_trans (Nat.le_of_eq HB0.out) Hbl.out.size
  have hyt := Blk.new (w) 25 [.int .i64 T.facts, .slice I nI cI, .slice G nG cG, .slice O nO cO]
  have hyf := Blk.new ((w).alloc (.cells #[.int .i64 T.facts, .slice I nI cI, .slice G nG cG, .slice O nO cO] 25)) 29 [.int .i64 0, .int .i64 0]
  replace hyt := hyt.alloc (.cells #[.int .i64 0, .int .i64 0] 29)
  have hbW := below_two w (.cells #[.int .i64 T.facts, .slice I nI cI, .slice G nG cG, .slice O nO cO] 25) (.cells #[.int .i64 0, .int .i64 0] 29)
  simp only [World.size_alloc] at hyf
  obtain ⟨w0, hW⟩ : ∃ W, W = ((w).alloc (.cells #[.int .i64 T.facts, .slice I nI cI, .slice G nG cG, .slice O nO cO] 25)).alloc (.cells #[.int .i64 0, .int .i64 0] 29) := ⟨_, rfl⟩
  rw [← hW] at hyt hyf hbW ⊢
  replace Hbl := hide (Hbl.out.trans (hbW.mono Hbl.out.size))
  have Ht := hide hyt
  have Hf := hide hyf
  clear hW hbW hyt hyf
  generalize w.heap.size = gT at Ht Hf s_0 ⊢
  have t0 := Ht.out.cell 0
  have t1 := Ht.out.cell 1
  have t2 := Ht.out.cell 2
  have t3 := Ht.out.cell 3
  have tl := Ht.out.lt
  have f0 := Hf.out.cell 0
  have f1 := Hf.out.cell 1
  have fl := Hf.out.lt
  simp only [List.getElem?_cons_zero, List.getElem?_cons_succ] at t0 t1 t2 t3 f0 f1
  have a_t : B0 ≤ gT := by omega
  have a_f : B0 ≤ gT + 1 := by omega
  clear s_0
  have n_t_f : ¬ gT = gT + 1 := by omega
  have n_f_t : ¬ gT + 1 = gT := by omega
  go_wp2_with fail
  with_reducible refine (Hval.out w0 (H.out.keep Hbl.out) (Hl.out.keep Hbl.out)).mono ?_
  rintro e w1 ⟨rfl, hb⟩
  clear t0 t1 t2 t3 f0 f1 tl fl
  replace Ht := hide (Ht.out.keep hb)
  replace Hf := hide (Hf.out.keep hb)
  replace Hbl := hide (Hbl.out.trans (hb.mono Hbl.out.size))
  clear hb
  have t0 := Ht.out.cell 0
  have t1 := Ht.out.cell 1
  have t2 := Ht.out.cell 2
  have t3 := Ht.out.cell 3
  have tl := Ht.out.lt
  have f0 := Hf.out.cell 0
  have f1 := Hf.out.cell 1
  have fl := Hf.out.lt
  simp only [List.getElem?_cons_zero, List.getElem?_cons_succ] at t0 t1 t2 t3 f0 f1
  unfold fault
  go_upto_region 2 with (fail)
  have n_t_p : ¬ gT = w1.heap.size := by omega
  have n_p_t : ¬ w1.heap.size = gT := by omega
  have n_f_p : ¬ gT + 1 = w1.heap.size := by omega
  have n_p_f : ¬ w1.heap.size = gT + 1 := by omega
  have s_t : gT < w1.heap.size := tl
  have s_f : gT + 1 < w1.heap.size := fl
  have s_0 : B0 ≤ w1.heap.size := Nat.le_trans (Nat.le_of_eq HB0.out) Hbl.out.size
  have hyp := Blk.new (w1) 29 [.int .i64 ec, .int .i64 ei]
  have hbW : Below (w1).heap.size (w1) ((w1).alloc (.cells #[.int .i64 ec, .int .i64 ei] 29)) := (Below.refl _ _).alloc (Nat.le_refl _) _
  obtain ⟨w2, hW⟩ : ∃ W, W = (w1).alloc (.cells #[.int .i64 ec, .int .i64 ei] 29) := ⟨_, rfl⟩
  rw [← hW] at hyp hbW ⊢
  replace Ht := hide (Ht.out.keep hbW)
  replace Hf := hide (Hf.out.keep hbW)
  replace Hbl := hide (Hbl.out.trans (hbW.mono Hbl.out.size))
  have Hp := hide hyp
  clear hW hbW hyp
  generalize w1.heap.size = gp at Hp n_t_p n_p_t n_f_p n_p_f s_t s_f s_0 ⊢
  have t0 := Ht.out.cell 0
  have t1 := Ht.out.cell 1
  have t2 := Ht.out.cell 2
  have t3 := Ht.out.cell 3
  have tl := Ht.out.lt
  have f0 := Hf.out.cell 0
  have f1 := Hf.out.cell 1
  have fl := Hf.out.lt
  have p0 := Hp.out.cell 0
  have p1 := Hp.out.cell 1
  have pl := Hp.out.lt
  simp only [List.getElem?_cons_zero, List.getElem?_cons_succ] at t0 t1 t2 t3 f0 f1 p0 p1
  clear s_t
  clear s_f
  have a_p : B0 ≤ gp := by omega
  clear s_0
  by_cases hec : ec = 0
  rotate_left
  · skip
    have ff0 := Hf.out.frozen 0
    have ff1 := Hf.out.frozen 1
    go_upto_region 3 with (fail)
    go_region
    all_goals go_wp2_with fail
    all_goals refine bodyPost_ret (v := .tuple #[.slice none 0 0, fault ec ei]) (by simp [results, Try.results13, go_sem, fault, f0, f1, fl]) rfl ?_
    have hbx := HB0.out
    rw [HR.out, rse_bad (by rw [Hq.out]; exact hec), Hq.out]
    refine ⟨?_, rfl⟩
    repeat' (first | (with_reducible exact Hbl.out) | (with_reducible refine Below.drew ?_) | (with_reducible refine below_setL ?_ ?_ _ _) | (with_reducible refine below_drewN ?_ _) | omega)
  subst hec
  have hz := boundsF_zero (T := T) (l := l) (by rw [Hq.out])
  rw [Hq.out] at hz
  obtain ⟨_, e2⟩ := Prod.mk.inj hz
  subst e2
  clear hz
  obtain ⟨N, hok, htab⟩ := boundsF_ok (T := T) (l := l) (by rw [Hq.out])
  have Hok := hide hok
  have Htab := hide htab
  have hN := hok.low
  have h2k := htab.few
  rw [Hlen.out] at h2k
  clear hok htab
  have hfl2 := fl
  go_wp2_with fail
  with_reducible refine (Hnv.out N w2 (H.out.keep Hbl.out) Hok.out (Hl.out.keep Hbl.out) Htab.out).mono ?_
  rintro e w3 ⟨hb, gv, rfl, hgv, hvals⟩
  have Hvals := hide hvals
  clear hvals
  clear t0 t1 t2 t3 f0 f1 p0 p1 tl fl pl
  replace Ht := hide (Ht.out.keep hb)
  replace Hf := hide (Hf.out.keep hb)
  replace Hp := hide (Hp.out.keep hb)
  replace Hbl := hide (Hbl.out.trans (hb.mono Hbl.out.size))
  clear hb
  have t0 := Ht.out.cell 0
  have t1 := Ht.out.cell 1
  have t2 := Ht.out.cell 2
  have t3 := Ht.out.cell 3
  have tl := Ht.out.lt
  have f0 := Hf.out.cell 0
  have f1 := Hf.out.cell 1
  have fl := Hf.out.lt
  have p0 := Hp.out.cell 0
  have p1 := Hp.out.cell 1
  have pl := Hp.out.lt
  simp only [List.getElem?_cons_zero, List.getElem?_cons_succ] at t0 t1 t2 t3 f0 f1 p0 p1
  obtain ⟨v1, hv1⟩ : ∃ z, z = holdB infC T l := ⟨_, rfl⟩
  have hho := hold_ct gv (wordF T.init) (wordF T.goal) (T.ops.map mkOp) N A n c l w3 Hvals.out Htab.out hN (Hl.out.keep Hbl.out)
  have hany : l.any (aboveB (wordF T.goal) (T.ops.map mkOp) l) = !holdB infC T l := hold_any Hok.out Htab.out
  rw [hany, ← hv1, Bool.not_not] at hho
  have Hho := hide hho
  have Hv1 := hide hv1
  clear hho hany hv1
  go_wp2_with fail
  with_reducible refine (Hho.out).mono ?_
  rintro e w4 ⟨rfl, hb⟩
  clear t0 t1 t2 t3 f0 f1 p0 p1 tl fl pl
  replace Ht := hide (Ht.out.keep hb)
  replace Hf := hide (Hf.out.keep hb)
  replace Hp := hide (Hp.out.keep hb)
  replace Hvals := hide (Hvals.out.keep hb)
  replace Hbl := hide (Hbl.out.trans (hb.mono Hbl.out.size))
  clear hb
  have t0 := Ht.out.cell 0
  have t1 := Ht.out.cell 1
  have t2 := Ht.out.cell 2
  have t3 := Ht.out.cell 3
  have tl := Ht.out.lt
  have f0 := Hf.out.cell 0
  have f1 := Hf.out.cell 1
  have fl := Hf.out.lt
  have p0 := Hp.out.cell 0
  have p1 := Hp.out.cell 1
  have pl := Hp.out.lt
  simp only [List.getElem?_cons_zero, List.getElem?_cons_succ] at t0 t1 t2 t3 f0 f1 p0 p1
  cases v1 with
  | false =>
    have ff0 := Hf.out.frozen 0
    have ff1 := Hf.out.frozen 1
    go_wp2_with fail
    refine bodyPost_ret (v := .tuple #[.slice none 0 0, fault 16 (-10)]) (by simp [results, Try.results13, go_sem, fault, f0, f1, fl]) rfl ?_
    have hbx := HB0.out
    rw [HR.out, rse_no (by rw [Hq.out]) Hv1.out.symm]
    refine ⟨?_, rfl⟩
    repeat' (first | (with_reducible exact Hbl.out) | (with_reducible refine Below.drew ?_) | (with_reducible refine below_setL ?_ ?_ _ _) | (with_reducible refine below_drewN ?_ _) | omega)
  | true =>
    have hgl := Hbl.out.size
    have hf4 := Hf.out.lt
    go_wp2_with fail
    go_loopw [8, 28] (fun ov i wr => ∃ (k : Nat) (Oa : Option Addr) (oc : Nat) (vs : List Value), k ≤ n ∧ i = .int .i64 k ∧ ov = .slice Oa k oc ∧ Below w4.heap.size w4 wr ∧ OwnE Enc.ent 38 w4.heap.size (fun b => b < w4.heap.size ∨ blkA Oa = some b ∨ wr.heap.size ≤ b) wr Oa k oc vs ((l.take k).map fun e => ⟨e.st, leastF infC T.ops l e.st⟩)) (fun _ i _ => n - (intOf i).toNat)
    case atStart => exact ⟨0, none, 0, [], by omega, rfl, rfl, Below.refl _ _, OwnE.nil _ _ _ _ _⟩
    case round =>
      clear t0 t1 t2 t3 f0 f1 p0 p1 tl fl pl
      obtain ⟨k, Oa, oc, vs, hk, rfl, rfl, hb, hown⟩ := hrel
      have hszb := hb.size
      have Hb := hide hb
      have Hown := hide hown
      have Hbl2 := hide (Hbl.out.trans (hb.mono hgl))
      have Hvals2 := hide (Hvals.out.keep hb)
      clear hb hown
      by_cases hlt : k < n
      rotate_left
      · obtain rfl : k = n := by omega
        have Hf2 := hide (Hf.out.keep Hb.out)
        have hown := Hown.out
        rw [List.take_of_length_le (by rw [Hlen.out]; omega)] at hown
        replace Hown := hide hown
        clear hown
        have f0 := Hf2.out.cell 0
        have f1 := Hf2.out.cell 1
        have fl := Hf2.out.lt
        have ff0 := Hf2.out.frozen 0
        have ff1 := Hf2.out.frozen 1
        simp only [List.getElem?_cons_zero, List.getElem?_cons_succ] at f0 f1
        go_wp2_with fail
        refine bodyPost_ret (v := .tuple #[.slice Oa k oc, fault 0 0]) (by simp [results, Try.results13, go_sem, fault, f0, f1, fl]) rfl ?_
        have hbx := HB0.out
        rw [HR.out, rse_yes (by rw [Hq.out]) Hv1.out.symm]
        have hlr : (raiseF infC T l).length = k := by unfold raiseF; rw [List.length_map, Hlen.out]
        have hc2 := ((Chg.set wr (gT + 1) 0 (.int .i64 0)).trans (Chg.set _ (gT + 1) 1 (.int .i64 0)))
        refine ⟨?_, Oa, oc, by rw [hlr], ?_⟩
        · have Hbl := Hbl2
          repeat' (first | (with_reducible exact Hbl.out) | (with_reducible refine Below.drew ?_) | (with_reducible refine below_setL ?_ ?_ _ _) | (with_reducible refine below_drewN ?_ _) | omega)
        · rw [hlr]
          refine (Hown.out.chg hc2 (fun i e => .inl (by omega)) (fun r hr e => ?_)).rd
          have := (Hown.out.base hr).1
          omega
      obtain ⟨b, off, e, A1, n1, c1, rfl, he, g0, g1, r1, r2⟩ := (Hl.out.keep Hbl2.out).ent hlt
      have hmem := List.mem_of_getElem? he
      have hset := Htab.out.set e hmem
      have hn1 : n1 ≤ 24 := by
        have := setB_len hset
        rw [r1.len] at this
        omega
      have hwl : wordF e.st < 4294967296 := word_lt (set_range hN hset)
      have hlw := leastW_of Hok.out Htab.out.set hset
      have hng : subsetB T.goal e.st = false := (hold_iff.1 Hv1.out.symm e hmem).1
      rw [hng, if_neg (by simp)] at hlw
      have hrange : 1 ≤ leastF infC T.ops l e.st ∧ leastF infC T.ops l e.st ≤ infC := raise_range Hv1.out.symm (Htab.out.low) ⟨e.st, leastF infC T.ops l e.st⟩ (List.mem_map.2 ⟨e, hmem, rfl⟩)
      have htk : ((l.take (k + 1)).map fun e => (⟨e.st, leastF infC T.ops l e.st⟩ : Ent)) = ((l.take k).map fun e => ⟨e.st, leastF infC T.ops l e.st⟩) ++ [⟨e.st, leastF infC T.ops l e.st⟩] := by rw [List.take_add_one, he, List.map_append]; rfl
      obtain ⟨hv_1, hv_2⟩ := r2
      obtain ⟨v, hv⟩ : ∃ v, v = leastF infC T.ops l e.st := ⟨_, rfl⟩
      rw [← hv] at hlw hrange htk
      unfold infC at hrange
      have hki : (k : Int) < (n : Int) := by omega
      have hls := fun W hW => least_ct gv _ _ _ N l (wordF e.st) W (Hvals2.out.keep hW) Htab.out hwl
      rw [hlw] at hls
      have hwd := fun W (hW : Below wr.heap.size wr W) => Word_ct A1 n1 c1 e.st W (r1.keep hW) (set_range hN hset)
      have hcl := fun W (hW : Below wr.heap.size wr W) => CloneI_ct A1 n1 c1 e.st W (r1.keep hW) (by omega)
      have hint := rd_ints r1
      have hel := r1.len
      obtain ⟨x, hx⟩ : ∃ x, x = wordF e.st := ⟨_, rfl⟩
      simp only [← hx] at hls hwd
      have Hls := hide hls
      have Hwd := hide hwd
      have Hcl := hide hcl
      have Hint := hide hint
      have Htk := hide htk
      have Hel := hide hel
      clear hls hwd hcl hint htk hx hv hlw hset hmem he r1 hel
      go_upto_region 11 with (fail)
      have hY := Blk.new wr 38 [.slice A1 n1 c1, .int .i64 e.val]
      have hby := (Below.refl wr.heap.size wr).alloc (Nat.le_refl _) (.cells #[.slice A1 n1 c1, .int .i64 e.val] 38)
      obtain ⟨W4, hW4⟩ : ∃ W, W = wr.alloc (.cells #[.slice A1 n1 c1, .int .i64 e.val] 38) := ⟨_, rfl⟩
      rw [← hW4] at hY hby ⊢
      clear hW4
      have sA : ¬ blkA Oa = some wr.heap.size := fun e => by have := (Hown.out.base e).2; omega
      have hOb : ∀ r, blkA Oa = some r → r < wr.heap.size := fun r hr => (Hown.out.base hr).2
      have sB : w4.heap.size ≤ wr.heap.size := hszb
      replace Hown := hide (Hown.out.keep hby)
      have Hby := hide hby
      have hY2 : wr.heap.size < W4.heap.size := hY.lt
      clear hby g0 g1
      generalize hgy : wr.heap.size = gY at hY sA sB hY2 hOb ⊢
      have Hgy := hide hgy
      have HY := hide hY
      clear hY hgy
      have y0 := HY.out.cell 0
      simp only [List.getElem?_cons_zero, List.getElem?_cons_succ] at y0
      refine wp_region_held_drew (S := (fun w' => w'.cell? ⟨gY, 0, none⟩ = some (.slice A1 n1 c1))) (by kernel_rfl) ?_ (fun hHeld => ?_)
      · (try dsimp only); exact y0
      refine takeH (i := 0) (v := ?_) (some 32) rfl rfl (by kernel_rfl) (by kernel_rfl) (by kernel_rfl) (fun _ _ _ h => h) (Or.inl ⟨by rfl, ?_⟩) (by assumption) ?_
      rotate_left
      · intro w hSw; (try dsimp only at hSw); have s1 := hSw; first | (go_simp; done) | (go_simp; with_reducible rfl)
      try simp only [Act.put, List.setIfInBounds_toArray, List.set_cons_zero, List.set_cons_succ]
      refine takeH (i := 1) (v := ?_) (some 33) rfl rfl (by kernel_rfl) (by kernel_rfl) (by kernel_rfl) (fun _ _ _ h => h) (Or.inl ⟨by rfl, ?_⟩) (by assumption) ?_
      rotate_left
      · intro w hSw; (try dsimp only at hSw); have s1 := hSw; first | (go_simp; done) | (go_simp; with_reducible rfl)
      try simp only [Act.put, List.setIfInBounds_toArray, List.set_cons_zero, List.set_cons_succ]
      refine takeH (i := 2) (v := ?_) (some 34) rfl rfl (by kernel_rfl) (by kernel_rfl) (by kernel_rfl) (fun _ _ _ h => h) (Or.inl ⟨by rfl, ?_⟩) (by assumption) ?_
      rotate_left
      · intro w hSw; (try dsimp only at hSw); have s1 := hSw; first | (go_simp; done) | (go_simp; with_reducible rfl)
      try simp only [Act.put, List.setIfInBounds_toArray, List.set_cons_zero, List.set_cons_succ]
      refine takeH (i := 4) (v := ?_) (some 36) rfl rfl (by kernel_rfl) (by kernel_rfl) (by kernel_rfl) (fun _ _ _ h => h) (Or.inl ⟨by rfl, ?_⟩) (by assumption) ?_
      rotate_left
      · intro w hSw; (try dsimp only at hSw); have s1 := hSw; first | (go_simp; done) | (go_simp; with_reducible rfl)
      try simp only [Act.put, List.setIfInBounds_toArray, List.set_cons_zero, List.set_cons_succ]
      refine takeH (i := 5) (v := ?_) (some 37) rfl rfl (by kernel_rfl) (by kernel_rfl) (by kernel_rfl) (fun _ _ _ h => h) (Or.inl ⟨by rfl, ?_⟩) (by assumption) ?_
      rotate_left
      · intro w hSw; (try dsimp only at hSw); have s1 := hSw; first | (go_simp; done) | (go_simp; with_reducible rfl)
      try simp only [Act.put, List.setIfInBounds_toArray, List.set_cons_zero, List.set_cons_succ]
      refine takeH (i := 6) (v := ?_) (some 38) rfl rfl (by kernel_rfl) (by kernel_rfl) (by kernel_rfl) (fun _ _ _ h => h) (Or.inl ⟨by rfl, ?_⟩) (by assumption) ?_
      rotate_left
      · intro w hSw; (try dsimp only at hSw); have s1 := hSw; first | (go_simp; done) | (go_simp; with_reducible rfl)
      try simp only [Act.put, List.setIfInBounds_toArray, List.set_cons_zero, List.set_cons_succ]
      clear y0
      replace HY := hide (HY.out.qt (Qt.refl W4).drew)
      replace Hown := hide (Hown.out.qt (Qt.refl W4).drew)
      have Hb5 := hide (Hby.out.drew)
      obtain ⟨W5, hW5⟩ : ∃ W, W = W4.drew := ⟨_, rfl⟩
      have hz5 : W5.heap.size = W4.heap.size := by rw [hW5]; rfl
      rw [← hW5] at HY Hown Hb5 hHeld ⊢
      clear hW5
      refine wpAnyH_ready (rs := [3]) (by kernel_rfl) (by simp) ?_
      refine AllReadyH.cons rfl (fun K hK => ?_) AllReadyH.nil
      go_simp
      with_reducible refine (Hcl.out W5 Hb5.out).mono ?_
      rintro e1 w6 ⟨hb6, A2, c2, rfl, hrow⟩
      have hO6 : ∀ r, blkA A2 = some r → W5.heap.size ≤ r ∧ r < w6.heap.size := fun r hr => ⟨own_base hrow (by rw [own_blkA]; exact hr), (own_block hrow (by rw [own_blkA]; exact hr)).1⟩
      replace HY := hide (HY.out.keep hb6)
      replace Hown := hide (Hown.out.keep hb6)
      have Hb6 := hide (Hb5.out.trans (hb6.mono Hb5.out.size))
      have hz6 := hb6.size
      have Hrow := hide hrow
      clear hrow hb6
      have y0 := HY.out.cell 0
      simp only [List.getElem?_cons_zero, List.getElem?_cons_succ] at y0
      refine hK.out _ _ ?_ (fun hHeld2 => ?_)
      · (try dsimp only); exact y0
      clear hK K hHeld
      try simp only [Act.put, List.setIfInBounds_toArray, List.set_cons_zero, List.set_cons_succ]
      have hHeld := hHeld2; clear hHeld2
      refine wpAnyH_ready (rs := [7]) (by kernel_rfl) (by simp) ?_
      refine AllReadyH.cons rfl (fun K hK => ?_) AllReadyH.nil
      go_simp
      with_reducible refine (Hwd.out w6 Hb6.out).mono ?_
      rintro e1 w6' ⟨rfl, rfl⟩
      refine hK.out _ _ ?_ (fun hHeld2 => ?_)
      · (try dsimp only); exact y0
      clear hK K hHeld
      try simp only [Act.put, List.setIfInBounds_toArray, List.set_cons_zero, List.set_cons_succ]
      have hHeld := hHeld2; clear hHeld2
      refine wpAnyH_ready (rs := [8]) (by kernel_rfl) (by simp) ?_
      refine AllReadyH.cons rfl (fun K hK => ?_) AllReadyH.nil
      go_simp
      with_reducible refine (Hls.out w6 Hb6.out).mono ?_
      rintro e1 w7 ⟨rfl, hb7⟩
      replace HY := hide (HY.out.keep hb7)
      replace Hown := hide (Hown.out.keep hb7)
      replace Hrow := hide (own_keep Hrow.out hb7)
      have Hb7 := hide (Hb6.out.trans (hb7.mono Hb6.out.size))
      have hz7 := hb7.size
      clear hb7 y0
      have y0 := HY.out.cell 0
      simp only [List.getElem?_cons_zero, List.getElem?_cons_succ] at y0
      refine hK.out _ _ ?_ (fun hHeld2 => ?_)
      · (try dsimp only); exact y0
      clear hK K hHeld
      try simp only [Act.put, List.setIfInBounds_toArray, List.set_cons_zero, List.set_cons_succ]
      have hHeld := hHeld2; clear hHeld2
      refine takeH (i := 9) (v := ?_) (some 41) rfl rfl (by kernel_rfl) (by kernel_rfl) (by kernel_rfl) (fun _ _ _ h => h) (Or.inl ⟨by rfl, ?_⟩) (by assumption) ?_
      rotate_left
      · intro w hSw; (try dsimp only at hSw); have s1 := hSw; first | (go_simp; done) | (go_simp; with_reducible rfl)
      try simp only [Act.put, List.setIfInBounds_toArray, List.set_cons_zero, List.set_cons_succ]
      have y0a := (HY.out.alloc (.cells #[.slice A2 n1 c2, .int .i64 v] 38)).cell 0
      simp only [List.getElem?_cons_zero, List.getElem?_cons_succ] at y0a
      refine wpAnyH_ready (rs := [10]) (by kernel_rfl) (by simp) ?_
      refine AllReadyH.cons rfl (fun K hK => ?_) AllReadyH.nil
      go_simp
      refine hK.out _ _ ?_ (fun hHeld2 => ?_)
      · (try dsimp only); exact y0a
      clear hK K hHeld
      try simp only [Act.put, List.setIfInBounds_toArray, List.set_cons_zero, List.set_cons_succ]
      have hHeld := hHeld2; clear hHeld2
      have hown7 := Hown.out.less (M' := fun b => b < w4.heap.size ∨ blkA Oa = some b ∨ w7.heap.size ≤ b) (fun i hi h => by
        rcases h with h | h | h
        · exact .inl h
        · exact .inr (.inl h)
        · omega)
      have hfirm : Firm Enc.ent (fun b => b < w4.heap.size ∨ blkA Oa = some b ∨ w7.heap.size ≤ b) w7 [.slice A2 n1 c2, .int .i64 v] ⟨e.st, v⟩ := by
        have hrm : RdM (fun b => b < w4.heap.size ∨ blkA Oa = some b ∨ w7.heap.size ≤ b) w7 A2 n1 c2 e.st := RdM.own Hrow.out (fun r hr h => by
          have h1 := hO6 r hr
          rcases h with h | h | h
          · omega
          · have := (Hown.out.base h).2
            have h2 := (hOb r h)
            omega
          · omega) Hel.out Hint.out
        exact firm_ent (e := ⟨e.st, v⟩) hrm (show -9223372036854775808 ≤ v ∧ v ≤ 9223372036854775807 by omega)
      refine wpAnyH_ready (rs := [11]) (by kernel_rfl) (by simp) ?_
      refine AllReadyH.cons rfl (fun K hK => ?_) AllReadyH.nil
      refine step_pushS rfl _ _ 26 rfl w4.heap.size 38 i1 _ 32 Try.underlying26 hi1 hy0 hy1 hy2 rfl (by decide) (A := Oa) (n := k) (c := oc) (by first | rfl | (go_simp; done)) hown7 (fun r hr => .inr (.inl hr)) [.slice A2 n1 c2, .int .i64 v] ⟨e.st, v⟩ (by intro u hu; simp at hu; rcases hu with hu | hu <;> subst hu <;> rfl) (by first | rfl | (go_simp; done)) hfirm (by omega) (by omega) (by omega) ?_
      intro O8 oc8 w8 hown8 hch8 hat8
      have y8 := (hch8.blk HY.out (fun e => sA e)).cell 0
      simp only [List.getElem?_cons_zero, List.getElem?_cons_succ] at y8
      have hb8 : Below w4.heap.size w4 w8 := (Hb.out.trans (Hb7.out.mono (by have := Hgy.out; omega))).trans (hch8.below (fun i hi => (Hown.out.base hi).1) (by omega))
      have hown9 := hown8.less (M' := fun b => b < w4.heap.size ∨ blkA O8 = some b ∨ w8.heap.size ≤ b) (fun i hi h => by
        rcases h with h | h | h
        · exact .inl (.inl h)
        · rcases hat8 with e | e
          · exact .inl (.inr (.inl (by rw [← e]; exact h)))
          · rw [e] at h
            injection h with h
            exact .inr (by omega)
        · omega)
      rw [← Htk.out] at hown9
      have Hb8 := hide hb8
      have Hown9 := hide hown9
      clear hown7 hfirm hown8 hch8 hat8 hb8 hown9 y0
      refine hK.out _ _ ?_ (fun hHeld2 => ?_)
      · (try dsimp only); exact y8
      clear hK K hHeld
      try simp only [Act.put, List.setIfInBounds_toArray, List.set_cons_zero, List.set_cons_succ]
      have hHeld := hHeld2; clear hHeld2
      refine takeH (i := 12) (v := ?_) (some 8) rfl rfl (by kernel_rfl) (by kernel_rfl) (by kernel_rfl) (fun _ _ _ h => h) (Or.inl ⟨by rfl, ?_⟩) (by assumption) ?_
      rotate_left
      · intro w hSw; (try dsimp only at hSw); have s1 := hSw; first | (go_simp; done) | (go_simp; with_reducible rfl)
      try simp only [Act.put, List.setIfInBounds_toArray, List.set_cons_zero, List.set_cons_succ]
      refine wpAnyH_done (by kernel_rfl) ?_ _
      go_wp2_with fail
      go_roundw
      case rel => exact ⟨k + 1, O8, oc8, _, by omega, by go_num, rfl, Hb8.out, Hown9.out⟩
      case measure => simp [intOf]; omega
end Go.Proofs.Ytliggcmohcdchaa
