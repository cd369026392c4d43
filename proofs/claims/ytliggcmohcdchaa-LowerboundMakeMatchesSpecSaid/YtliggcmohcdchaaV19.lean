/- What the law of made tables' costs asks for, part 19: Lo2 Lr3. -/
import Derived.Test.YtliggcmohcdchaaV1
import Derived.Test.YtliggcmohcdchaaV2
import Derived.Test.YtliggcmohcdchaaV3
import Derived.Test.YtliggcmohcdchaaV4
import Derived.Test.YtliggcmohcdchaaV5
import Derived.Test.YtliggcmohcdchaaV6
import Derived.Test.YtliggcmohcdchaaV7
import Derived.Test.YtliggcmohcdchaaV8
import Derived.Test.YtliggcmohcdchaaV16
import Derived.Test.YtliggcmohcdchaaV17
import Derived.Test.YtliggcmohcdchaaV18
import Derived.BigQuiet
import Derived.Deep.AppendLies
import Derived.Deep.DeepCutAuto
import Derived.Deep.Draws
import Derived.Deep.Fields
import Derived.Deep.LoopGhost
import Derived.Deep.QuietTactic
import Derived.Deep.Slices
import Derived.DeepKeys4
import Derived.Ground.Names2Prog
import Derived.Ground.SlgnProg
import Derived.Ground.SlsfProg
import Derived.IntWalk
import Derived.Laws.AppendOwnNone
import Derived.Laws.BitsAllLaws
import Derived.Laws.OwnMore
import Derived.Lib.Hide
import Derived.Lib.SlicesCompact
import Derived.LoopIn
import Derived.LoopNIn
import Derived.Maps.AppendAt
import Derived.Maps.OwnIn
import Derived.Maps.OwnOps
import Derived.Maps.OwnSet
import Derived.OwnWalkIn
import Derived.RangeFuncBound
import Derived.RangeFuncCalls
import Derived.RangeFuncLeaves
import Derived.RangeFuncNested
import Derived.Shelf.Abstract
import Derived.Shelf.RegionOpen
import Derived.Shelf.Slices.Cells
import Derived.Shelf.Slices.Clone
import Derived.Shelf.Slices.CompactI
import Derived.Shelf.Slices.Empties
import Derived.Shelf.Slices.In.SortNone
import Derived.Shelf.Slices.SearchI
import Derived.Shelf.Sort.Plain
import Derived.Sort.OwnSortedInts
import Derived.TacticsInMore
import Derived.Test.YtliggcmohcdchaaProg
import Derived.WalkKit
namespace Go.Proofs.Ytliggcmohcdchaa
set_option linter.unusedVariables false
set_option linter.unusedSimpArgs false
open Go.RowKit
theorem below_setL {B : Nat} {w w' : World} (h : Below B w w') {g : Nat} (hg : B ≤ g) (i : Nat) (u : Value) : Below B w (w'.setCell ⟨g, i, none⟩ u) := h.setCell hg u
theorem badE_no {N : Int} {l : List Ent} {k : Nat} {s : List Int} (h : setB N s = false) : badE N (prvE l k) s = true := by unfold badE; rw [h]; rfl
theorem badE_zero {N : Int} {l : List Ent} {s : List Int} (h : setB N s = true) : badE N (prvE l 0) s = false := by unfold badE prvE; rw [h]; rfl
theorem badE_pos {N : Int} {l : List Ent} {k : Nat} {s : List Int} {p : Ent} (h : setB N s = true) (hk : 0 < k) (hp : l[k - 1]? = some p) : badE N (prvE l k) s = !lessL p.st s := by unfold badE prvE; rw [h, if_neg (by omega), hp]; rfl
set_option maxRecDepth 100000 in
set_option maxHeartbeats 6400000 in
theorem validate_ct (a : TA) (T : Tsk) (A : Option Addr) (n c : Nat) (l : List Ent) (w : World) (h : TkR w a T) (hl : Rd Enc.ent w A n c l) :
    Calls Try.prog 35 #[.agg #[.int .i64 T.facts, .slice a.I a.nI a.cI, .slice a.G a.nG a.cG, .slice a.O a.nO a.cO], .slice A n c] w (Gives w (fault (boundsF T l).1 (boundsF T l).2)) := by
  have hval := fun W hW => SValidate_ct a T W hW
  obtain ⟨I, nI, cI, G, nG, cG, O, nO, cO⟩ := a
  simp only at hval ⊢
  obtain ⟨R, hR⟩ : ∃ R, R = boundsF T l := ⟨_, rfl⟩
  rw [← hR]
  unfold boundsF at hR
  rcases hq : taskFault T with ⟨ec, ei⟩
  rw [hq] at hval hR
  simp only at hval hR
  have hlow := hl.low
  have Hlen := hide hl.len
  have H := hide h
  have Hl := hide hl
  have HR := hide hR
  have Hval := hide hval
  have Hq := hide hq
  clear h hl hq hval hR
  have Hbl := hide (Below.refl w.heap.size w)
  go_enter Try.func35, Try.ntmps35
  go_upto_region 1 with (fail)
  obtain ⟨B0, hB0⟩ : ∃ B0, B0 = w.heap.size := ⟨_, rfl⟩
  have HB0 := hide hB0
  clear hB0
  have s_0 : B0 ≤ w.heap.size := Nat.le_trans (Nat.le_of_eq HB0.out) Hbl.out.size
  have hyt := Blk.new (w) 25 [.int .i64 T.facts, .slice I nI cI, .slice G nG cG, .slice O nO cO]
  have hyf := Blk.new ((w).alloc (.cells #[.int .i64 T.facts, .slice I nI cI, .slice G nG cG, .slice O nO cO] 25)) 29 [.int .i64 0, .int .i64 0]
  replace hyt := hyt.alloc (.cells #[.int .i64 0, .int .i64 0] 29)
  have hbW := below_two w (.cells #[.int .i64 T.facts, .slice I nI cI, .slice G nG cG, .slice O nO cO] 25) (.cells #[.int .i64 0, .int .i64 0] 29)
  simp only [World.size_alloc] at hyf
  obtain ⟨w0, hW⟩ : ∃ W, W = ((w).alloc (.cells #[.int .i64 T.facts, .slice I nI cI, .slice G nG cG, .slice O nO cO] 25)).alloc (.cells #[.int .i64 0, .int .i64 0] 29) := ⟨_, rfl⟩
  rw [← hW] at hyt hyf hbW ⊢
  replace Hbl := hide (Hbl.out.trans (hbW.mono Hbl.out.size))
  have Ht := hide hyt
  have Hf := hide hyf
  clear hW hbW hyt hyf
  generalize w.heap.size = gT at Ht Hf s_0 ⊢
  have t0 := Ht.out.cell 0
  have t1 := Ht.out.cell 1
  have t2 := Ht.out.cell 2
  have t3 := Ht.out.cell 3
  have tl := Ht.out.lt
  have f0 := Hf.out.cell 0
  have f1 := Hf.out.cell 1
  have fl := Hf.out.lt
  simp only [List.getElem?_cons_zero, List.getElem?_cons_succ] at t0 t1 t2 t3 f0 f1
  have a_t : B0 ≤ gT := by omega
  have a_f : B0 ≤ gT + 1 := by omega
  clear s_0
  have n_t_f : ¬ gT = gT + 1 := by omega
  have n_f_t : ¬ gT + 1 = gT := by omega
  go_wp2_with fail
  with_reducible refine (Hval.out w0 (H.out.keep Hbl.out)).mono ?_
  rintro e w1 ⟨rfl, hb⟩
  clear t0 t1 t2 t3 f0 f1 tl fl
  replace Ht := hide (Ht.out.keep hb)
  replace Hf := hide (Hf.out.keep hb)
  replace Hbl := hide (Hbl.out.trans (hb.mono Hbl.out.size))
  clear hb
  have t0 := Ht.out.cell 0
  have t1 := Ht.out.cell 1
  have t2 := Ht.out.cell 2
  have t3 := Ht.out.cell 3
  have tl := Ht.out.lt
  have f0 := Hf.out.cell 0
  have f1 := Hf.out.cell 1
  have fl := Hf.out.lt
  simp only [List.getElem?_cons_zero, List.getElem?_cons_succ] at t0 t1 t2 t3 f0 f1
  unfold fault
  go_upto_region 2 with (fail)
  have n_t_p : ¬ gT = w1.heap.size := by omega
  have n_p_t : ¬ w1.heap.size = gT := by omega
  have n_f_p : ¬ gT + 1 = w1.heap.size := by omega
  have n_p_f : ¬ w1.heap.size = gT + 1 := by omega
  have s_t : gT < w1.heap.size := tl
  have s_f : gT + 1 < w1.heap.size := fl
  have s_0 : B0 ≤ w1.heap.size := Nat.le_trans (Nat.le_of_eq HB0.out) Hbl.out.size
  have hyp := Blk.new (w1) 29 [.int .i64 ec, .int .i64 ei]
  have hbW : Below (w1).heap.size (w1) ((w1).alloc (.cells #[.int .i64 ec, .int .i64 ei] 29)) := (Below.refl _ _).alloc (Nat.le_refl _) _
  obtain ⟨w2, hW⟩ : ∃ W, W = (w1).alloc (.cells #[.int .i64 ec, .int .i64 ei] 29) := ⟨_, rfl⟩
  rw [← hW] at hyp hbW ⊢
  replace Ht := hide (Ht.out.keep hbW)
  replace Hf := hide (Hf.out.keep hbW)
  replace Hbl := hide (Hbl.out.trans (hbW.mono Hbl.out.size))
  have Hp := hide hyp
  clear hW hbW hyp
  generalize w1.heap.size = gp at Hp n_t_p n_p_t n_f_p n_p_f s_t s_f s_0 ⊢
  have t0 := Ht.out.cell 0
  have t1 := Ht.out.cell 1
  have t2 := Ht.out.cell 2
  have t3 := Ht.out.cell 3
  have tl := Ht.out.lt
  have f0 := Hf.out.cell 0
  have f1 := Hf.out.cell 1
  have fl := Hf.out.lt
  have p0 := Hp.out.cell 0
  have p1 := Hp.out.cell 1
  have pl := Hp.out.lt
  simp only [List.getElem?_cons_zero, List.getElem?_cons_succ] at t0 t1 t2 t3 f0 f1 p0 p1
  clear s_t
  clear s_f
  have a_p : B0 ≤ gp := by omega
  clear s_0
  by_cases hec : ec = 0
  rotate_left
  · skip
    have ff0 := Hf.out.frozen 0
    have ff1 := Hf.out.frozen 1
    go_wp2_with fail
    refine bodyPost_ret (v := fault ec ei) (by simp [results, Try.results35, go_sem, fault, f0, f1, fl]) rfl ?_
    have hbx := HB0.out
    refine ⟨by rw [HR.out]; rw [if_pos hec], ?_⟩
    repeat' (first | (with_reducible exact Hbl.out) | (with_reducible refine Below.drew ?_) | (with_reducible refine below_setL ?_ ?_ _ _) | omega)
  subst hec
  have hz := taskFault_zero (T := T) (by rw [Hq.out])
  rw [Hq.out] at hz
  obtain ⟨_, e2⟩ := Prod.mk.inj hz
  subst e2
  clear hz
  by_cases hbig : 2000 < n
  · have hbi : (2000 : Int) < (n : Int) := by omega
    have ff0 := Hf.out.frozen 0
    have ff1 := Hf.out.frozen 1
    go_wp2_with fail
    refine bodyPost_ret (v := fault 2 (-8)) (by simp [results, Try.results35, go_sem, fault, f0, f1, fl]) rfl ?_
    have hbx := HB0.out
    refine ⟨by rw [HR.out]; rw [if_neg (by simp), if_pos (by rw [Hlen.out]; exact hbig)], ?_⟩
    repeat' (first | (with_reducible exact Hbl.out) | (with_reducible refine Below.drew ?_) | (with_reducible refine below_setL ?_ ?_ _ _) | omega)
  have hbi : ¬ (2000 : Int) < (n : Int) := by omega
  have hR2 : R = entsF T.facts none 0 l := by rw [HR.out, if_neg (by simp), if_neg (by rw [Hlen.out]; exact hbig)]
  replace HR := hide hR2
  clear hR2
  go_wp2_with fail
  have hbx2 := hide Hbl.out.size
  clear t0 t1 t2 t3 f0 f1 p0 p1 tl fl pl
  go_loopw [20] (fun i wr => ∃ k : Nat, k ≤ n ∧ i = .int .i64 k ∧ Below w2.heap.size w2 wr ∧ R = entsF T.facts (prvE l k) k (l.drop k)) (fun i _ => n - (intOf i).toNat)
  case atStart => exact ⟨0, by omega, rfl, Below.refl _ _, HR.out⟩
  case round =>
    obtain ⟨k, hk, rfl, hb, hrk⟩ := hrel
    replace HR := hide hrk
    clear hrk
    replace Ht := hide (Ht.out.keep hb)
    replace Hf := hide (Hf.out.keep hb)
    replace Hp := hide (Hp.out.keep hb)
    replace Hbl := hide (Hbl.out.trans (hb.mono Hbl.out.size))
    have Hb2 := hide hb
    clear hb
    have t0 := Ht.out.cell 0
    have t1 := Ht.out.cell 1
    have t2 := Ht.out.cell 2
    have t3 := Ht.out.cell 3
    have tl := Ht.out.lt
    have f0 := Hf.out.cell 0
    have f1 := Hf.out.cell 1
    have fl := Hf.out.lt
    have p0 := Hp.out.cell 0
    have p1 := Hp.out.cell 1
    have pl := Hp.out.lt
    simp only [List.getElem?_cons_zero, List.getElem?_cons_succ] at t0 t1 t2 t3 f0 f1 p0 p1
    by_cases hlt : k < n
    rotate_left
    · obtain rfl : k = n := by omega
      have ff0 := Hf.out.frozen 0
      have ff1 := Hf.out.frozen 1
      go_wp2_with fail
      refine bodyPost_ret (v := fault 0 0) (by simp [results, Try.results35, go_sem, fault, f0, f1, fl]) rfl ?_
      have hbx := HB0.out
      refine ⟨by rw [HR.out]; rw [entsF_end (by rw [Hlen.out]; omega)], ?_⟩
      repeat' (first | (with_reducible exact Hbl.out) | (with_reducible refine Below.drew ?_) | (with_reducible refine below_setL ?_ ?_ _ _) | omega)
    obtain ⟨b, off, e, A1, n1, c1, rfl, he, g0, g1, r1, r2⟩ := (Hl.out.keep Hbl.out).ent hlt
    have hki : (k : Int) < (n : Int) := by omega
    have hbs : b < wr.heap.size := World.block_lt_of_cell? wr _ g0
    have hR3 := HR.out
    rw [entsF_at he] at hR3
    replace HR := hide hR3
    have Hr1 := hide r1
    have He := hide he
    obtain ⟨hv_1, hv_2⟩ := r2
    clear hR3 r1 he
    go_upto_region 9 with (fail)
    have n_t_e : ¬ gT = wr.heap.size := by omega
    have n_e_t : ¬ wr.heap.size = gT := by omega
    have n_f_e : ¬ gT + 1 = wr.heap.size := by omega
    have n_e_f : ¬ wr.heap.size = gT + 1 := by omega
    have n_p_e : ¬ gp = wr.heap.size := by omega
    have n_e_p : ¬ wr.heap.size = gp := by omega
    have s_t : gT < wr.heap.size := tl
    have s_f : gT + 1 < wr.heap.size := fl
    have s_p : gp < wr.heap.size := pl
    have s_0 : B0 ≤ wr.heap.size := Nat.le_trans (Nat.le_of_eq HB0.out) Hbl.out.size
    have hye := Blk.new (wr) 38 [.slice A1 n1 c1, .int .i64 e.val]
    have hbW : Below (wr).heap.size (wr) ((wr).alloc (.cells #[.slice A1 n1 c1, .int .i64 e.val] 38)) := (Below.refl _ _).alloc (Nat.le_refl _) _
    obtain ⟨w3, hW⟩ : ∃ W, W = (wr).alloc (.cells #[.slice A1 n1 c1, .int .i64 e.val] 38) := ⟨_, rfl⟩
    rw [← hW] at hye hbW ⊢
    replace Ht := hide (Ht.out.keep hbW)
    replace Hf := hide (Hf.out.keep hbW)
    replace Hp := hide (Hp.out.keep hbW)
    replace Hr1 := hide (Hr1.out.keep hbW)
    replace Hbl := hide (Hbl.out.trans (hbW.mono Hbl.out.size))
    replace Hb2 := hide (Hb2.out.trans (hbW.mono Hb2.out.size))
    have He := hide hye
    clear hW hbW hye
    generalize wr.heap.size = ge at He n_t_e n_e_t n_f_e n_e_f n_p_e n_e_p s_t s_f s_p s_0 ⊢
    have t0 := Ht.out.cell 0
    have t1 := Ht.out.cell 1
    have t2 := Ht.out.cell 2
    have t3 := Ht.out.cell 3
    have tl := Ht.out.lt
    have f0 := Hf.out.cell 0
    have f1 := Hf.out.cell 1
    have fl := Hf.out.lt
    have p0 := Hp.out.cell 0
    have p1 := Hp.out.cell 1
    have pl := Hp.out.lt
    have e0 := He.out.cell 0
    have e1 := He.out.cell 1
    have el := He.out.lt
    simp only [List.getElem?_cons_zero, List.getElem?_cons_succ] at t0 t1 t2 t3 f0 f1 p0 p1 e0 e1
    clear s_t
    clear s_f
    clear s_p
    have a_e : B0 ≤ ge := by omega
    clear s_0
    have hci := fun W (hW : Below w3.heap.size w3 W) => SIsSet_ct A1 n1 c1 e.st T.facts W (Hr1.out.keep hW)
    obtain ⟨v1, hv1⟩ : ∃ z, z = setB T.facts e.st := ⟨_, rfl⟩
    rw [← hv1] at hci
    have Hci := hide hci
    have Hv1 := hide hv1
    clear hci hv1
    cases v1 with
    | false =>
      have ff0 := Hf.out.frozen 0
      have ff1 := Hf.out.frozen 1
      have hR4 := HR.out
      rw [if_pos (badE_no Hv1.out.symm)] at hR4
      replace HR := hide hR4
      clear hR4
      go_quiet ((go_at_call 68; exact same_call (Hci.out _ (below_drewN (Below.refl _ _) _))))
      go_wp2_with fail
      refine bodyPost_ret (v := fault 5 k) (by simp [results, Try.results35, go_sem, fault, f0, f1, fl]) rfl ?_
      have hbx := HB0.out
      refine ⟨by rw [HR.out], ?_⟩
      repeat' (first | (with_reducible exact Hbl.out) | (with_reducible refine Below.drew ?_) | (with_reducible refine below_setL ?_ ?_ _ _) | (with_reducible refine below_drewN ?_ _) | omega)
    | true =>
      by_cases hk0 : k = 0
      · subst hk0
        have hR4 := HR.out
        rw [badE_zero Hv1.out.symm, if_neg (by simp)] at hR4
        replace HR := hide hR4
        clear hR4
        go_quiet ((go_at_call 68; exact same_call (Hci.out _ (below_drewN (Below.refl _ _) _))))
        by_cases hlo : e.val < 1
        · have hR5 := HR.out
          rw [if_neg (by rw [inB_no.2 (.inl hlo)]; simp)] at hR5
          replace HR := hide hR5
          clear hR5
          have ff0 := Hf.out.frozen 0
          have ff1 := Hf.out.frozen 1
          go_wp2_with fail
          refine bodyPost_ret (v := fault 3 0) (by simp [results, Try.results35, go_sem, fault, f0, f1, fl]) rfl ?_
          have hbx := HB0.out
          refine ⟨by rw [HR.out]; rfl, ?_⟩
          repeat' (first | (with_reducible exact Hbl.out) | (with_reducible refine Below.drew ?_) | (with_reducible refine below_setL ?_ ?_ _ _) | (with_reducible refine below_drewN ?_ _) | omega)
        by_cases hhi : 1000000000 < e.val
        · have hR5 := HR.out
          rw [if_neg (by rw [inB_no.2 (.inr (by unfold infC; exact hhi))]; simp)] at hR5
          replace HR := hide hR5
          clear hR5
          have ff0 := Hf.out.frozen 0
          have ff1 := Hf.out.frozen 1
          go_wp2_with fail
          refine bodyPost_ret (v := fault 3 0) (by simp [results, Try.results35, go_sem, fault, f0, f1, fl]) rfl ?_
          have hbx := HB0.out
          refine ⟨by rw [HR.out]; rfl, ?_⟩
          repeat' (first | (with_reducible exact Hbl.out) | (with_reducible refine Below.drew ?_) | (with_reducible refine below_setL ?_ ?_ _ _) | (with_reducible refine below_drewN ?_ _) | omega)
        have hR5 := HR.out
        rw [if_pos (inB_iff.2 ⟨by omega, by unfold infC; omega⟩)] at hR5
        replace HR := hide hR5
        clear hR5
        go_wp2_with fail
        go_roundw
        case rel => exact ⟨0 + 1, by omega, by go_num, below_drewN Hb2.out _, HR.out⟩
        case measure => simp [intOf]; omega
      have hk1 : 0 < k := by omega
      have hki0 : (0 : Int) < (k : Int) := by omega
      have hw1 : IntKind.i64.wrap ((k : Int) - 1) = ((k - 1 : Nat) : Int) := by rw [IntWalk.i64_in _ (by omega)]; omega
      obtain ⟨b2, off2, p, A2, n2, c2, eb, hp, q0, q1, r3, r4⟩ := (Hl.out.keep Hbl.out).ent (show k - 1 < n by omega)
      injection eb with eb
      injection eb with eb1 eb2
      subst eb1 eb2
      have hR4 := HR.out
      rw [badE_pos Hv1.out.symm hk1 hp] at hR4
      replace HR := hide hR4
      clear hR4
      have hcc := fun W (hW : Below w3.heap.size w3 W) => Compare_ct A1 A2 n1 c1 n2 c2 e.st p.st W (Hr1.out.keep hW) (r3.keep hW)
      have hle := cmpL_leq e.st p.st
      obtain ⟨z, hz⟩ : ∃ z, z = cmpL e.st p.st := ⟨_, rfl⟩
      rw [← hz] at hcc hle
      obtain ⟨v2, hv2⟩ : ∃ z, z = lessL p.st e.st := ⟨_, rfl⟩
      rw [← hv2] at hle
      have hR4 := HR.out
      rw [← hv2] at hR4
      replace HR := hide hR4
      have Hcc := hide hcc
      clear hR4 hcc hz hp r3 r4 hv2
      cases v2 with
      | false =>
        have hzi : z ≤ 0 := by simpa using hle
        clear hle
        have hR4 := HR.out
        rw [if_pos (by rfl)] at hR4
        replace HR := hide hR4
        clear hR4
        have ff0 := Hf.out.frozen 0
        have ff1 := Hf.out.frozen 1
        go_quiet ((first | (go_at_call 68; exact same_call (Hci.out _ (below_drewN (Below.refl _ _) _))) | (go_at_call 69; exact same_call (Hcc.out _ (below_drewN (Below.refl _ _) _)))))
        go_wp2_with fail
        refine bodyPost_ret (v := fault 5 k) (by simp [results, Try.results35, go_sem, fault, f0, f1, fl]) rfl ?_
        have hbx := HB0.out
        refine ⟨by rw [HR.out], ?_⟩
        repeat' (first | (with_reducible exact Hbl.out) | (with_reducible refine Below.drew ?_) | (with_reducible refine below_setL ?_ ?_ _ _) | (with_reducible refine below_drewN ?_ _) | omega)
      | true =>
        have hzi : ¬ z ≤ 0 := by simpa using hle
        clear hle
        have hR4 := HR.out
        rw [if_neg (by simp)] at hR4
        replace HR := hide hR4
        clear hR4
        go_quiet ((first | (go_at_call 68; exact same_call (Hci.out _ (below_drewN (Below.refl _ _) _))) | (go_at_call 69; exact same_call (Hcc.out _ (below_drewN (Below.refl _ _) _)))))
        by_cases hlo : e.val < 1
        · have hR5 := HR.out
          rw [if_neg (by rw [inB_no.2 (.inl hlo)]; simp)] at hR5
          replace HR := hide hR5
          clear hR5
          have ff0 := Hf.out.frozen 0
          have ff1 := Hf.out.frozen 1
          go_wp2_with fail
          refine bodyPost_ret (v := fault 3 k) (by simp [results, Try.results35, go_sem, fault, f0, f1, fl]) rfl ?_
          have hbx := HB0.out
          refine ⟨by rw [HR.out], ?_⟩
          repeat' (first | (with_reducible exact Hbl.out) | (with_reducible refine Below.drew ?_) | (with_reducible refine below_setL ?_ ?_ _ _) | (with_reducible refine below_drewN ?_ _) | omega)
        by_cases hhi : 1000000000 < e.val
        · have hR5 := HR.out
          rw [if_neg (by rw [inB_no.2 (.inr (by unfold infC; exact hhi))]; simp)] at hR5
          replace HR := hide hR5
          clear hR5
          have ff0 := Hf.out.frozen 0
          have ff1 := Hf.out.frozen 1
          go_wp2_with fail
          refine bodyPost_ret (v := fault 3 k) (by simp [results, Try.results35, go_sem, fault, f0, f1, fl]) rfl ?_
          have hbx := HB0.out
          refine ⟨by rw [HR.out], ?_⟩
          repeat' (first | (with_reducible exact Hbl.out) | (with_reducible refine Below.drew ?_) | (with_reducible refine below_setL ?_ ?_ _ _) | (with_reducible refine below_drewN ?_ _) | omega)
        have hR5 := HR.out
        rw [if_pos (inB_iff.2 ⟨by omega, by unfold infC; omega⟩)] at hR5
        replace HR := hide hR5
        clear hR5
        go_wp2_with fail
        go_roundw
        case rel => exact ⟨k + 1, by omega, by go_num, below_drewN Hb2.out _, HR.out⟩
        case measure => simp [intOf]; omega
end Go.Proofs.Ytliggcmohcdchaa
namespace Go.Proofs.Ytliggcmohcdchaa
set_option linter.unusedVariables false
set_option linter.unusedSimpArgs false
open Go.RowKit
set_option maxRecDepth 100000 in
set_option maxHeartbeats 6400000 in
theorem RBoundsFault_ct (a : TA) (T : Tsk) (A : Option Addr) (n c : Nat) (l : List Ent) (w : World) (h : TkR w a T) (hl : Rd Enc.ent w A n c l) :
    Calls Try.prog 11 #[.agg #[.int .i64 T.facts, .slice a.I a.nI a.cI, .slice a.G a.nG a.cG, .slice a.O a.nO a.cO], .slice A n c] w (Gives w (fault (boundsF T l).1 (boundsF T l).2)) := by
  have htf := fun W hW => RTaskFault_ct a T W hW
  obtain ⟨I, nI, cI, G, nG, cG, O, nO, cO⟩ := a
  simp only at htf ⊢
  obtain ⟨R, hR⟩ : ∃ R, R = boundsF T l := ⟨_, rfl⟩
  rw [← hR]
  unfold boundsF at hR
  rcases hq : taskFault T with ⟨ec, ei⟩
  rw [hq] at htf hR
  simp only at htf hR
  have hlow := hl.low
  have Hlen := hide hl.len
  have H := hide h
  have Hl := hide hl
  have HR := hide hR
  have Htf := hide htf
  have Hq := hide hq
  clear h hl hq htf hR
  have HAt := hide (fun (c i : Int) W => At_ct c i W)
  have Hbl := hide (Below.refl w.heap.size w)
  go_enter Try.func11, Try.ntmps11
  go_upto_region 1 with (fail)
  obtain ⟨B0, hB0⟩ : ∃ B0, B0 = w.heap.size := ⟨_, rfl⟩
  have HB0 := hide hB0
  clear hB0
  have s_0 : B0 ≤ w.heap.size := Nat.le_trans (Nat.le_of_eq HB0.out) Hbl.out.size
  have hyt := Blk.new (w) 25 [.int .i64 T.facts, .slice I nI cI, .slice G nG cG, .slice O nO cO]
  have hyf := Blk.new ((w).alloc (.cells #[.int .i64 T.facts, .slice I nI cI, .slice G nG cG, .slice O nO cO] 25)) 29 [.int .i64 0, .int .i64 0]
  replace hyt := hyt.alloc (.cells #[.int .i64 0, .int .i64 0] 29)
  have hbW := below_two w (.cells #[.int .i64 T.facts, .slice I nI cI, .slice G nG cG, .slice O nO cO] 25) (.cells #[.int .i64 0, .int .i64 0] 29)
  simp only [World.size_alloc] at hyf
  obtain ⟨w0, hW⟩ : ∃ W, W = ((w).alloc (.cells #[.int .i64 T.facts, .slice I nI cI, .slice G nG cG, .slice O nO cO] 25)).alloc (.cells #[.int .i64 0, .int .i64 0] 29) := ⟨_, rfl⟩
  rw [← hW] at hyt hyf hbW ⊢
  replace Hbl := hide (Hbl.out.trans (hbW.mono Hbl.out.size))
  have Ht := hide hyt
  have Hf := hide hyf
  clear hW hbW hyt hyf
  generalize w.heap.size = gT at Ht Hf s_0 ⊢
  have t0 := Ht.out.cell 0
  have t1 := Ht.out.cell 1
  have t2 := Ht.out.cell 2
  have t3 := Ht.out.cell 3
  have tl := Ht.out.lt
  have f0 := Hf.out.cell 0
  have f1 := Hf.out.cell 1
  have fl := Hf.out.lt
  simp only [List.getElem?_cons_zero, List.getElem?_cons_succ] at t0 t1 t2 t3 f0 f1
  have a_t : B0 ≤ gT := by omega
  have a_f : B0 ≤ gT + 1 := by omega
  clear s_0
  have n_t_f : ¬ gT = gT + 1 := by omega
  have n_f_t : ¬ gT + 1 = gT := by omega
  go_wp2_with fail
  with_reducible refine (Htf.out w0 (H.out.keep Hbl.out)).mono ?_
  rintro e w1 ⟨rfl, hb⟩
  clear t0 t1 t2 t3 f0 f1 tl fl
  replace Ht := hide (Ht.out.keep hb)
  replace Hf := hide (Hf.out.keep hb)
  replace Hbl := hide (Hbl.out.trans (hb.mono Hbl.out.size))
  clear hb
  have t0 := Ht.out.cell 0
  have t1 := Ht.out.cell 1
  have t2 := Ht.out.cell 2
  have t3 := Ht.out.cell 3
  have tl := Ht.out.lt
  have f0 := Hf.out.cell 0
  have f1 := Hf.out.cell 1
  have fl := Hf.out.lt
  simp only [List.getElem?_cons_zero, List.getElem?_cons_succ] at t0 t1 t2 t3 f0 f1
  unfold fault
  go_upto_region 2 with (fail)
  have n_t_p : ¬ gT = w1.heap.size := by omega
  have n_p_t : ¬ w1.heap.size = gT := by omega
  have n_f_p : ¬ gT + 1 = w1.heap.size := by omega
  have n_p_f : ¬ w1.heap.size = gT + 1 := by omega
  have s_t : gT < w1.heap.size := tl
  have s_f : gT + 1 < w1.heap.size := fl
  have s_0 : B0 ≤ w1.heap.size := Nat.le_trans (Nat.le_of_eq HB0.out) Hbl.out.size
  have hyp := Blk.new (w1) 29 [.int .i64 ec, .int .i64 ei]
  have hbW : Below (w1).heap.size (w1) ((w1).alloc (.cells #[.int .i64 ec, .int .i64 ei] 29)) := (Below.refl _ _).alloc (Nat.le_refl _) _
  obtain ⟨w2, hW⟩ : ∃ W, W = (w1).alloc (.cells #[.int .i64 ec, .int .i64 ei] 29) := ⟨_, rfl⟩
  rw [← hW] at hyp hbW ⊢
  replace Ht := hide (Ht.out.keep hbW)
  replace Hf := hide (Hf.out.keep hbW)
  replace Hbl := hide (Hbl.out.trans (hbW.mono Hbl.out.size))
  have Hp := hide hyp
  clear hW hbW hyp
  generalize w1.heap.size = gp at Hp n_t_p n_p_t n_f_p n_p_f s_t s_f s_0 ⊢
  have t0 := Ht.out.cell 0
  have t1 := Ht.out.cell 1
  have t2 := Ht.out.cell 2
  have t3 := Ht.out.cell 3
  have tl := Ht.out.lt
  have f0 := Hf.out.cell 0
  have f1 := Hf.out.cell 1
  have fl := Hf.out.lt
  have p0 := Hp.out.cell 0
  have p1 := Hp.out.cell 1
  have pl := Hp.out.lt
  simp only [List.getElem?_cons_zero, List.getElem?_cons_succ] at t0 t1 t2 t3 f0 f1 p0 p1
  clear s_t
  clear s_f
  have a_p : B0 ≤ gp := by omega
  clear s_0
  by_cases hec : ec = 0
  rotate_left
  · have hne : (ec != 0) = true := by simpa using hec
    have ff0 := Hf.out.frozen 0
    have ff1 := Hf.out.frozen 1
    go_wp2_with fail
    refine bodyPost_ret (v := fault ec ei) (by simp [results, Try.results11, go_sem, fault, f0, f1, fl]) rfl ?_
    have hbx := HB0.out
    refine ⟨by rw [HR.out]; rw [if_pos hec], ?_⟩
    repeat' (first | (with_reducible exact Hbl.out) | (with_reducible refine Below.drew ?_) | (with_reducible refine below_setL ?_ ?_ _ _) | (with_reducible refine below_drewN ?_ _) | omega)
  subst hec
  have hz := taskFault_zero (T := T) (by rw [Hq.out])
  rw [Hq.out] at hz
  obtain ⟨_, e2⟩ := Prod.mk.inj hz
  subst e2
  clear hz
  obtain ⟨N, hok⟩ := taskFault_ok (T := T) (by rw [Hq.out])
  have HfN := hide hok.facts
  have hN := hok.low
  clear hok
  by_cases hbig : 2000 < n
  · have hbi : (2000 : Int) < (n : Int) := by omega
    go_wp2_with fail
    with_reducible refine (HAt.out 2 (-8) _).mono ?_
    rintro e w9 ⟨rfl, hb⟩
    unfold fault
    clear t0 t1 t2 t3 f0 f1 p0 p1 tl fl pl
    replace Ht := hide (Ht.out.keep hb)
    replace Hf := hide (Hf.out.keep hb)
    replace Hp := hide (Hp.out.keep hb)
    replace Hbl := hide (Hbl.out.trans (hb.mono Hbl.out.size))
    clear hb
    have t0 := Ht.out.cell 0
    have t1 := Ht.out.cell 1
    have t2 := Ht.out.cell 2
    have t3 := Ht.out.cell 3
    have tl := Ht.out.lt
    have f0 := Hf.out.cell 0
    have f1 := Hf.out.cell 1
    have fl := Hf.out.lt
    have p0 := Hp.out.cell 0
    have p1 := Hp.out.cell 1
    have pl := Hp.out.lt
    simp only [List.getElem?_cons_zero, List.getElem?_cons_succ] at t0 t1 t2 t3 f0 f1 p0 p1
    have ff0 := Hf.out.frozen 0
    have ff1 := Hf.out.frozen 1
    go_wp2_with fail
    refine bodyPost_ret (v := fault 2 (-8)) (by simp [results, Try.results11, go_sem, fault, f0, f1, fl]) rfl ?_
    have hbx := HB0.out
    refine ⟨by rw [HR.out]; rw [if_neg (by simp), if_pos (by rw [Hlen.out]; exact hbig)], ?_⟩
    repeat' (first | (with_reducible exact Hbl.out) | (with_reducible refine Below.drew ?_) | (with_reducible refine below_setL ?_ ?_ _ _) | (with_reducible refine below_drewN ?_ _) | omega)
  have hbi : ¬ (2000 : Int) < (n : Int) := by omega
  have hR2 : R = entsF T.facts none 0 l := by rw [HR.out, if_neg (by simp), if_neg (by rw [Hlen.out]; exact hbig)]
  replace HR := hide hR2
  clear hR2
  go_wp2_with fail
  have hbx2 := hide Hbl.out.size
  clear t0 t1 t2 t3 f0 f1 p0 p1 tl fl pl
  go_loopw [6] (fun i wr => ∃ k : Nat, k ≤ n ∧ i = .int .i64 k ∧ Below w2.heap.size w2 wr ∧ R = entsF T.facts (prvE l k) k (l.drop k)) (fun i _ => n - (intOf i).toNat)
  case atStart => exact ⟨0, by omega, rfl, Below.refl _ _, HR.out⟩
  case round =>
    obtain ⟨k, hk, rfl, hb, hrk⟩ := hrel
    replace HR := hide hrk
    clear hrk
    replace Ht := hide (Ht.out.keep hb)
    replace Hf := hide (Hf.out.keep hb)
    replace Hp := hide (Hp.out.keep hb)
    replace Hbl := hide (Hbl.out.trans (hb.mono Hbl.out.size))
    have Hb2 := hide hb
    clear hb
    have t0 := Ht.out.cell 0
    have t1 := Ht.out.cell 1
    have t2 := Ht.out.cell 2
    have t3 := Ht.out.cell 3
    have tl := Ht.out.lt
    have f0 := Hf.out.cell 0
    have f1 := Hf.out.cell 1
    have fl := Hf.out.lt
    have p0 := Hp.out.cell 0
    have p1 := Hp.out.cell 1
    have pl := Hp.out.lt
    simp only [List.getElem?_cons_zero, List.getElem?_cons_succ] at t0 t1 t2 t3 f0 f1 p0 p1
    by_cases hlt : k < n
    rotate_left
    · obtain rfl : k = n := by omega
      have ff0 := Hf.out.frozen 0
      have ff1 := Hf.out.frozen 1
      go_wp2_with fail
      refine bodyPost_ret (v := fault 0 0) (by simp [results, Try.results11, go_sem, fault, f0, f1, fl]) rfl ?_
      have hbx := HB0.out
      refine ⟨by rw [HR.out]; rw [entsF_end (by rw [Hlen.out]; omega)], ?_⟩
      repeat' (first | (with_reducible exact Hbl.out) | (with_reducible refine Below.drew ?_) | (with_reducible refine below_setL ?_ ?_ _ _) | (with_reducible refine below_drewN ?_ _) | omega)
    obtain ⟨b, off, e, A1, n1, c1, rfl, he, g0, g1, r1, r2⟩ := (Hl.out.keep Hbl.out).ent hlt
    have hki : (k : Int) < (n : Int) := by omega
    have hbs : b < wr.heap.size := World.block_lt_of_cell? wr _ g0
    have hR3 := HR.out
    rw [entsF_at he] at hR3
    replace HR := hide hR3
    clear hR3
    have Hr1 := hide r1
    obtain ⟨hv_1, hv_2⟩ := r2
    clear r1 he
    have hci := fun W (hW : Below wr.heap.size wr W) => RIsSet_ct A1 n1 c1 e.st T.facts W (Hr1.out.keep hW) (by rw [HfN.out]; omega)
    obtain ⟨v1, hv1⟩ : ∃ z, z = setB T.facts e.st := ⟨_, rfl⟩
    simp only [← hv1] at hci
    have Hci := hide hci
    have Hv1 := hide hv1
    have Hg1 := hide g1
    clear hci hv1
    go_upto_region 9 with (fail)
    cases v1 with
    | false =>
      have hR4 := HR.out
      rw [if_pos (badE_no Hv1.out.symm)] at hR4
      replace HR := hide hR4
      clear hR4
      go_quiet ((go_at_call 32; with_reducible exact quiet_call (Hci.out _ (below_drewN (Below.refl _ _) _))))
      clear g0 g1
      obtain ⟨w7, hW⟩ : ∃ W, W = wr.drewN nq := ⟨_, rfl⟩
      have hb := below_drewN (Below.refl wr.heap.size wr) nq
      rw [← hW] at hb ⊢
      clear hW
      have g1 := (hb.cell (p := ⟨b, off + k * 2 + 1, none⟩) hbs).trans Hg1.out
      clear t0 t1 t2 t3 f0 f1 p0 p1 tl fl pl
      replace Ht := hide (Ht.out.keep hb)
      replace Hf := hide (Hf.out.keep hb)
      replace Hp := hide (Hp.out.keep hb)
      replace Hbl := hide (Hbl.out.trans (hb.mono Hbl.out.size))
      replace Hb2 := hide (Hb2.out.trans (hb.mono Hb2.out.size))
      clear hb
      have t0 := Ht.out.cell 0
      have t1 := Ht.out.cell 1
      have t2 := Ht.out.cell 2
      have t3 := Ht.out.cell 3
      have tl := Ht.out.lt
      have f0 := Hf.out.cell 0
      have f1 := Hf.out.cell 1
      have fl := Hf.out.lt
      have p0 := Hp.out.cell 0
      have p1 := Hp.out.cell 1
      have pl := Hp.out.lt
      simp only [List.getElem?_cons_zero, List.getElem?_cons_succ] at t0 t1 t2 t3 f0 f1 p0 p1
      go_wp2_with fail
      with_reducible refine (HAt.out 5 k _).mono ?_
      rintro e w9 ⟨rfl, hb⟩
      unfold fault
      clear t0 t1 t2 t3 f0 f1 p0 p1 tl fl pl
      replace Ht := hide (Ht.out.keep hb)
      replace Hf := hide (Hf.out.keep hb)
      replace Hp := hide (Hp.out.keep hb)
      replace Hbl := hide (Hbl.out.trans (hb.mono Hbl.out.size))
      clear hb
      have t0 := Ht.out.cell 0
      have t1 := Ht.out.cell 1
      have t2 := Ht.out.cell 2
      have t3 := Ht.out.cell 3
      have tl := Ht.out.lt
      have f0 := Hf.out.cell 0
      have f1 := Hf.out.cell 1
      have fl := Hf.out.lt
      have p0 := Hp.out.cell 0
      have p1 := Hp.out.cell 1
      have pl := Hp.out.lt
      simp only [List.getElem?_cons_zero, List.getElem?_cons_succ] at t0 t1 t2 t3 f0 f1 p0 p1
      have ff0 := Hf.out.frozen 0
      have ff1 := Hf.out.frozen 1
      go_wp2_with fail
      refine bodyPost_ret (v := fault 5 k) (by simp [results, Try.results11, go_sem, fault, f0, f1, fl]) rfl ?_
      have hbx := HB0.out
      refine ⟨by rw [HR.out], ?_⟩
      repeat' (first | (with_reducible exact Hbl.out) | (with_reducible refine Below.drew ?_) | (with_reducible refine below_setL ?_ ?_ _ _) | (with_reducible refine below_drewN ?_ _) | omega)
    | true =>
      by_cases hk0 : k = 0
      · subst hk0
        simp only [Nat.zero_mul, Nat.add_zero] at g0 g1
        have hR4 := HR.out
        rw [badE_zero Hv1.out.symm, if_neg (by simp)] at hR4
        replace HR := hide hR4
        clear hR4
        skip
        go_quiet ((go_at_call 32; with_reducible exact quiet_call (Hci.out _ (below_drewN (Below.refl _ _) _))))
        clear g0 g1
        obtain ⟨w7, hW⟩ : ∃ W, W = wr.drewN nq := ⟨_, rfl⟩
        have hb := below_drewN (Below.refl wr.heap.size wr) nq
        rw [← hW] at hb ⊢
        clear hW
        have g1 := (hb.cell (p := ⟨b, off + 0 * 2 + 1, none⟩) hbs).trans Hg1.out
        simp only [Nat.zero_mul, Nat.add_zero] at g1
        clear t0 t1 t2 t3 f0 f1 p0 p1 tl fl pl
        replace Ht := hide (Ht.out.keep hb)
        replace Hf := hide (Hf.out.keep hb)
        replace Hp := hide (Hp.out.keep hb)
        replace Hbl := hide (Hbl.out.trans (hb.mono Hbl.out.size))
        replace Hb2 := hide (Hb2.out.trans (hb.mono Hb2.out.size))
        clear hb
        have t0 := Ht.out.cell 0
        have t1 := Ht.out.cell 1
        have t2 := Ht.out.cell 2
        have t3 := Ht.out.cell 3
        have tl := Ht.out.lt
        have f0 := Hf.out.cell 0
        have f1 := Hf.out.cell 1
        have fl := Hf.out.lt
        have p0 := Hp.out.cell 0
        have p1 := Hp.out.cell 1
        have pl := Hp.out.lt
        simp only [List.getElem?_cons_zero, List.getElem?_cons_succ] at t0 t1 t2 t3 f0 f1 p0 p1
        obtain ⟨v3, hv3⟩ : ∃ z, z = inB e.val 1 infC := ⟨_, rfl⟩
        have hin := In_ct e.val 1 1000000000 w7
        rw [show inB e.val 1 1000000000 = v3 from hv3.symm] at hin
        have hR5 := HR.out
        rw [← hv3] at hR5
        replace HR := hide hR5
        have Hin := hide hin
        clear hR5 hin hv3
        go_wp2_with fail
        with_reducible refine Hin.out.mono ?_
        rintro e1 w8 ⟨rfl, rfl⟩
        cases v3 with
        | false =>
          have hR6 := HR.out
          rw [if_neg (by simp)] at hR6
          replace HR := hide hR6
          clear hR6
          go_wp2_with fail
          with_reducible refine (HAt.out 3 0 _).mono ?_
          rintro e w9 ⟨rfl, hb⟩
          unfold fault
          clear t0 t1 t2 t3 f0 f1 p0 p1 tl fl pl
          replace Ht := hide (Ht.out.keep hb)
          replace Hf := hide (Hf.out.keep hb)
          replace Hp := hide (Hp.out.keep hb)
          replace Hbl := hide (Hbl.out.trans (hb.mono Hbl.out.size))
          clear hb
          have t0 := Ht.out.cell 0
          have t1 := Ht.out.cell 1
          have t2 := Ht.out.cell 2
          have t3 := Ht.out.cell 3
          have tl := Ht.out.lt
          have f0 := Hf.out.cell 0
          have f1 := Hf.out.cell 1
          have fl := Hf.out.lt
          have p0 := Hp.out.cell 0
          have p1 := Hp.out.cell 1
          have pl := Hp.out.lt
          simp only [List.getElem?_cons_zero, List.getElem?_cons_succ] at t0 t1 t2 t3 f0 f1 p0 p1
          have ff0 := Hf.out.frozen 0
          have ff1 := Hf.out.frozen 1
          go_wp2_with fail
          refine bodyPost_ret (v := fault 3 0) (by simp [results, Try.results11, go_sem, fault, f0, f1, fl]) rfl ?_
          have hbx := HB0.out
          refine ⟨by rw [HR.out]; rfl, ?_⟩
          repeat' (first | (with_reducible exact Hbl.out) | (with_reducible refine Below.drew ?_) | (with_reducible refine below_setL ?_ ?_ _ _) | (with_reducible refine below_drewN ?_ _) | omega)
        | true =>
          have hR6 := HR.out
          rw [if_pos rfl] at hR6
          replace HR := hide hR6
          clear hR6
          go_wp2_with fail
          go_roundw
          case rel => exact ⟨0 + 1, by omega, by go_num, Hb2.out, HR.out⟩
          case measure => simp [intOf]; omega
      have hk1 : 0 < k := by omega
      have hki0 : (0 : Int) < (k : Int) := by omega
      have hw1 : IntKind.i64.wrap ((k : Int) - 1) = ((k - 1 : Nat) : Int) := by rw [IntWalk.i64_in _ (by omega)]; omega
      obtain ⟨b2, off2, p, A2, n2, c2, eb, hp, q0, q1, r3, r4⟩ := (Hl.out.keep Hbl.out).ent (show k - 1 < n by omega)
      injection eb with eb
      injection eb with eb1 eb2
      subst eb1 eb2
      have hR4 := HR.out
      rw [badE_pos Hv1.out.symm hk1 hp] at hR4
      replace HR := hide hR4
      clear hR4
      have hcc := fun W (hW : Below wr.heap.size wr W) => RLess_ct p.st e.st A2 A1 n2 c2 n1 c1 W (r3.keep hW) (Hr1.out.keep hW)
      obtain ⟨v2, hv2⟩ : ∃ z, z = lessL p.st e.st := ⟨_, rfl⟩
      simp only [← hv2] at hcc
      have hR4 := HR.out
      rw [← hv2] at hR4
      replace HR := hide hR4
      have Hcc := hide hcc
      clear hR4 hcc hp r3 r4 hv2
      cases v2 with
      | false =>
        have hR4 := HR.out
        rw [if_pos (by rfl)] at hR4
        replace HR := hide hR4
        clear hR4
        go_quiet ((first | (go_at_call 32; with_reducible exact quiet_call (Hci.out _ (below_drewN (Below.refl _ _) _))) | (go_at_call 33; with_reducible exact quiet_call (Hcc.out _ (below_drewN (Below.refl _ _) _)))))
        clear g0 g1
        obtain ⟨w7, hW⟩ : ∃ W, W = wr.drewN nq := ⟨_, rfl⟩
        have hb := below_drewN (Below.refl wr.heap.size wr) nq
        rw [← hW] at hb ⊢
        clear hW
        have g1 := (hb.cell (p := ⟨b, off + k * 2 + 1, none⟩) hbs).trans Hg1.out
        clear t0 t1 t2 t3 f0 f1 p0 p1 tl fl pl
        replace Ht := hide (Ht.out.keep hb)
        replace Hf := hide (Hf.out.keep hb)
        replace Hp := hide (Hp.out.keep hb)
        replace Hbl := hide (Hbl.out.trans (hb.mono Hbl.out.size))
        replace Hb2 := hide (Hb2.out.trans (hb.mono Hb2.out.size))
        clear hb
        have t0 := Ht.out.cell 0
        have t1 := Ht.out.cell 1
        have t2 := Ht.out.cell 2
        have t3 := Ht.out.cell 3
        have tl := Ht.out.lt
        have f0 := Hf.out.cell 0
        have f1 := Hf.out.cell 1
        have fl := Hf.out.lt
        have p0 := Hp.out.cell 0
        have p1 := Hp.out.cell 1
        have pl := Hp.out.lt
        simp only [List.getElem?_cons_zero, List.getElem?_cons_succ] at t0 t1 t2 t3 f0 f1 p0 p1
        go_wp2_with fail
        with_reducible refine (HAt.out 5 k _).mono ?_
        rintro e w9 ⟨rfl, hb⟩
        unfold fault
        clear t0 t1 t2 t3 f0 f1 p0 p1 tl fl pl
        replace Ht := hide (Ht.out.keep hb)
        replace Hf := hide (Hf.out.keep hb)
        replace Hp := hide (Hp.out.keep hb)
        replace Hbl := hide (Hbl.out.trans (hb.mono Hbl.out.size))
        clear hb
        have t0 := Ht.out.cell 0
        have t1 := Ht.out.cell 1
        have t2 := Ht.out.cell 2
        have t3 := Ht.out.cell 3
        have tl := Ht.out.lt
        have f0 := Hf.out.cell 0
        have f1 := Hf.out.cell 1
        have fl := Hf.out.lt
        have p0 := Hp.out.cell 0
        have p1 := Hp.out.cell 1
        have pl := Hp.out.lt
        simp only [List.getElem?_cons_zero, List.getElem?_cons_succ] at t0 t1 t2 t3 f0 f1 p0 p1
        have ff0 := Hf.out.frozen 0
        have ff1 := Hf.out.frozen 1
        go_wp2_with fail
        refine bodyPost_ret (v := fault 5 k) (by simp [results, Try.results11, go_sem, fault, f0, f1, fl]) rfl ?_
        have hbx := HB0.out
        refine ⟨by rw [HR.out], ?_⟩
        repeat' (first | (with_reducible exact Hbl.out) | (with_reducible refine Below.drew ?_) | (with_reducible refine below_setL ?_ ?_ _ _) | (with_reducible refine below_drewN ?_ _) | omega)
      | true =>
        have hR4 := HR.out
        rw [if_neg (by simp)] at hR4
        replace HR := hide hR4
        clear hR4
        go_quiet ((first | (go_at_call 32; with_reducible exact quiet_call (Hci.out _ (below_drewN (Below.refl _ _) _))) | (go_at_call 33; with_reducible exact quiet_call (Hcc.out _ (below_drewN (Below.refl _ _) _)))))
        clear g0 g1
        obtain ⟨w7, hW⟩ : ∃ W, W = wr.drewN nq := ⟨_, rfl⟩
        have hb := below_drewN (Below.refl wr.heap.size wr) nq
        rw [← hW] at hb ⊢
        clear hW
        have g1 := (hb.cell (p := ⟨b, off + k * 2 + 1, none⟩) hbs).trans Hg1.out
        clear t0 t1 t2 t3 f0 f1 p0 p1 tl fl pl
        replace Ht := hide (Ht.out.keep hb)
        replace Hf := hide (Hf.out.keep hb)
        replace Hp := hide (Hp.out.keep hb)
        replace Hbl := hide (Hbl.out.trans (hb.mono Hbl.out.size))
        replace Hb2 := hide (Hb2.out.trans (hb.mono Hb2.out.size))
        clear hb
        have t0 := Ht.out.cell 0
        have t1 := Ht.out.cell 1
        have t2 := Ht.out.cell 2
        have t3 := Ht.out.cell 3
        have tl := Ht.out.lt
        have f0 := Hf.out.cell 0
        have f1 := Hf.out.cell 1
        have fl := Hf.out.lt
        have p0 := Hp.out.cell 0
        have p1 := Hp.out.cell 1
        have pl := Hp.out.lt
        simp only [List.getElem?_cons_zero, List.getElem?_cons_succ] at t0 t1 t2 t3 f0 f1 p0 p1
        obtain ⟨v3, hv3⟩ : ∃ z, z = inB e.val 1 infC := ⟨_, rfl⟩
        have hin := In_ct e.val 1 1000000000 w7
        rw [show inB e.val 1 1000000000 = v3 from hv3.symm] at hin
        have hR5 := HR.out
        rw [← hv3] at hR5
        replace HR := hide hR5
        have Hin := hide hin
        clear hR5 hin hv3
        go_wp2_with fail
        with_reducible refine Hin.out.mono ?_
        rintro e1 w8 ⟨rfl, rfl⟩
        cases v3 with
        | false =>
          have hR6 := HR.out
          rw [if_neg (by simp)] at hR6
          replace HR := hide hR6
          clear hR6
          go_wp2_with fail
          with_reducible refine (HAt.out 3 k _).mono ?_
          rintro e w9 ⟨rfl, hb⟩
          unfold fault
          clear t0 t1 t2 t3 f0 f1 p0 p1 tl fl pl
          replace Ht := hide (Ht.out.keep hb)
          replace Hf := hide (Hf.out.keep hb)
          replace Hp := hide (Hp.out.keep hb)
          replace Hbl := hide (Hbl.out.trans (hb.mono Hbl.out.size))
          clear hb
          have t0 := Ht.out.cell 0
          have t1 := Ht.out.cell 1
          have t2 := Ht.out.cell 2
          have t3 := Ht.out.cell 3
          have tl := Ht.out.lt
          have f0 := Hf.out.cell 0
          have f1 := Hf.out.cell 1
          have fl := Hf.out.lt
          have p0 := Hp.out.cell 0
          have p1 := Hp.out.cell 1
          have pl := Hp.out.lt
          simp only [List.getElem?_cons_zero, List.getElem?_cons_succ] at t0 t1 t2 t3 f0 f1 p0 p1
          have ff0 := Hf.out.frozen 0
          have ff1 := Hf.out.frozen 1
          go_wp2_with fail
          refine bodyPost_ret (v := fault 3 k) (by simp [results, Try.results11, go_sem, fault, f0, f1, fl]) rfl ?_
          have hbx := HB0.out
          refine ⟨by rw [HR.out], ?_⟩
          repeat' (first | (with_reducible exact Hbl.out) | (with_reducible refine Below.drew ?_) | (with_reducible refine below_setL ?_ ?_ _ _) | (with_reducible refine below_drewN ?_ _) | omega)
        | true =>
          have hR6 := HR.out
          rw [if_pos rfl] at hR6
          replace HR := hide hR6
          clear hR6
          go_wp2_with fail
          go_roundw
          case rel => exact ⟨k + 1, by omega, by go_num, Hb2.out, HR.out⟩
          case measure => simp [intOf]; omega
end Go.Proofs.Ytliggcmohcdchaa
