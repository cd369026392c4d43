/- What the laws ask for, part 12: Hz6. -/
import Derived.Test.YtemiecammmbjdaaG1
import Derived.Test.YtemiecammmbjdaaG2
import Derived.Test.YtemiecammmbjdaaG3
import Derived.Test.YtemiecammmbjdaaG4
import Derived.Test.YtemiecammmbjdaaG5
import Derived.Test.YtemiecammmbjdaaG6
import Derived.Test.YtemiecammmbjdaaG7
import Derived.Test.YtemiecammmbjdaaG8
import Derived.Test.YtemiecammmbjdaaG9
import Derived.Test.YtemiecammmbjdaaG10
import Derived.Test.YtemiecammmbjdaaG11
import Derived.BigQuiet
import Derived.Deep.AppendLies
import Derived.Deep.DeepCutAuto
import Derived.Deep.Draws
import Derived.Deep.Fields
import Derived.Deep.LoopGhost
import Derived.Deep.QuietTactic
import Derived.Deep.RegionHeld3
import Derived.Deep.Slices
import Derived.Ground.Names2Prog
import Derived.Ground.SlgnProg
import Derived.Ground.SlsfProg
import Derived.IntWalk
import Derived.Laws.AppendOwnNone
import Derived.Laws.OwnMore
import Derived.Lib.Hide
import Derived.Lib.SlicesCompact
import Derived.Maps.AppendAt
import Derived.Shelf.Slices.Cells
import Derived.Shelf.Slices.Clone
import Derived.Shelf.Slices.CompactI
import Derived.Shelf.Slices.Empties
import Derived.Shelf.Slices.In.SortNone
import Derived.Shelf.Slices.SearchI
import Derived.Shelf.Sort.Plain
import Derived.Sort.OwnSortedInts
import Derived.Test.YtemiecammmbjdaaProg
import Derived.WalkKit
import Init
namespace Go.Proofs.Ytemiecammmbjdaa
set_option linter.unusedVariables false
set_option linter.unusedSimpArgs false
open Go.RowKit
theorem wantF_len (N S n : Nat) (m : List Bool) (k : Nat) : (wantF N S n m k).length ≤ k * n := by
  induction k with
  | zero => simp [wantF]
  | succ k ih =>
    have h1 : (exeF N S n m k).length ≤ n := by
      unfold exeF pick
      rw [List.length_map]
      exact Nat.le_trans (List.length_filter_le _ _) (by simp)
    rw [wantF_succ, List.length_append, Nat.add_mul]
    omega
set_option maxRecDepth 100000 in
set_option maxHeartbeats 6400000 in
theorem decode_ct (a : TA) (T : Tsk) (N S : Nat) (M : Option Addr) (mn mc : Nat) (m : List Bool) (w : World) (hf : T.facts = N) (hm : Rd Enc.bool w M mn mc m) (hN : N ≤ 24) (hS : S ≤ 4) (hn : a.nO ≤ 40) (hl : mn = sizeN N S a.nO) :
    Calls Try.prog 18 #[.agg #[.int .i64 T.facts, .slice a.I a.nI a.cI, .slice a.G a.nG a.cG, .slice a.O a.nO a.cO], .int .i64 S, .slice M mn mc] w (MadeI w (wantF N S a.nO m S)) := by
  obtain ⟨i1, hi1, hy0, hy1, hy2⟩ := info_parts intInfoT
  have hst := fun t q w h1 h2 h3 h4 h5 => step_ct a N S t q w h1 h2 h3 h4 h5
  obtain ⟨I, nI, cI, G, nG, cG, O, nO, cO⟩ := a
  simp only at hn hl hst ⊢
  rw [hf]
  have Hm := hide hm
  have hml := hm.low
  have Hst := hide hst
  have Hl := hide hl
  clear hm hst hl
  have Hbl := hide (Below.refl w.heap.size w)
  go_enter Try.func18, Try.ntmps18
  go_upto_region 1 with (fail)
  obtain ⟨B0, hB0⟩ : ∃ B0, B0 = w.heap.size := ⟨_, rfl⟩
  have HB0 := hide hB0
  clear hB0
  have s_0 : B0 ≤ w.heap.size := Nat.le_trans (Nat.le_of_eq HB0.out) Hbl.out.size
  have hyt := Blk.new (w) 25 [.int .i64 N, .slice I nI cI, .slice G nG cG, .slice O nO cO]
  have hbW : Below (w).heap.size (w) ((w).alloc (.cells #[.int .i64 N, .slice I nI cI, .slice G nG cG, .slice O nO cO] 25)) := (Below.refl _ _).alloc (Nat.le_refl _) _
  obtain ⟨w0, hW⟩ : ∃ W, W = (w).alloc (.cells #[.int .i64 N, .slice I nI cI, .slice G nG cG, .slice O nO cO] 25) := ⟨_, rfl⟩
  rw [← hW] at hyt hbW ⊢
  replace Hbl := hide (Hbl.out.trans (hbW.mono Hbl.out.size))
  have Ht := hide hyt
  clear hW hbW hyt
  generalize w.heap.size = gT at Ht s_0 ⊢
  have t0 := Ht.out.cell 0
  have t1 := Ht.out.cell 1
  have t2 := Ht.out.cell 2
  have t3 := Ht.out.cell 3
  have tl := Ht.out.lt
  simp only [List.getElem?_cons_zero, List.getElem?_cons_succ] at t0 t1 t2 t3
  have a_t : B0 ≤ gT := by omega
  clear s_0
  go_upto_region 2 with (fail)
  have n_t_e : ¬ gT = w0.heap.size := by omega
  have n_e_t : ¬ w0.heap.size = gT := by omega
  have s_t : gT < w0.heap.size := tl
  have s_0 : B0 ≤ w0.heap.size := Nat.le_trans (Nat.le_of_eq HB0.out) Hbl.out.size
  have hye := Blk.new (w0) 76 [.int .i64 N, .slice I nI cI, .slice G nG cG, .slice O nO cO, .int .i64 S]
  have hbW : Below (w0).heap.size (w0) ((w0).alloc (.cells #[.int .i64 N, .slice I nI cI, .slice G nG cG, .slice O nO cO, .int .i64 S] 76)) := (Below.refl _ _).alloc (Nat.le_refl _) _
  obtain ⟨w1, hW⟩ : ∃ W, W = (w0).alloc (.cells #[.int .i64 N, .slice I nI cI, .slice G nG cG, .slice O nO cO, .int .i64 S] 76) := ⟨_, rfl⟩
  rw [← hW] at hye hbW ⊢
  replace Ht := hide (Ht.out.keep hbW)
  replace Hbl := hide (Hbl.out.trans (hbW.mono Hbl.out.size))
  have He := hide hye
  clear hW hbW hye
  generalize w0.heap.size = gE at He n_t_e n_e_t s_t s_0 ⊢
  have t0 := Ht.out.cell 0
  have t1 := Ht.out.cell 1
  have t2 := Ht.out.cell 2
  have t3 := Ht.out.cell 3
  have tl := Ht.out.lt
  have e0 := He.out.cell 0
  have e1 := He.out.cell 1
  have e2 := He.out.cell 2
  have e3 := He.out.cell 3
  have e4 := He.out.cell 4
  have el := He.out.lt
  simp only [List.getElem?_cons_zero, List.getElem?_cons_succ] at t0 t1 t2 t3 e0 e1 e2 e3 e4
  clear s_t
  have a_e : B0 ≤ gE := by omega
  clear s_0
  have hsz1 : w.heap.size ≤ w1.heap.size := Hbl.out.size
  go_wp2_with fail
  clear t0 t1 t2 t3 e0 e1 e2 e3 e4 tl el
  go_loopw [8, 15] (fun ov i wr => ∃ (k : Nat) (D : Option Addr) (q dc : Nat) (us : List Value), k ≤ S ∧ i = .int .i64 k ∧ ov = .slice D q dc ∧ OwnE Enc.int 3 w1.heap.size (fun b => w1.heap.size ≤ b) wr D q dc us (wantF N S nO m k) ∧ Below w1.heap.size w1 wr) (fun _ i _ => S - (intOf i).toNat)
  case atStart => exact ⟨0, none, 0, 0, [], by omega, rfl, rfl, OwnE.nil _ _ _ _ _, Below.refl _ _⟩
  case round =>
    obtain ⟨w2, rfl⟩ : ∃ V, V = wr := ⟨_, rfl⟩
    obtain ⟨k, D, q, dc, us, hk, rfl, rfl, hrow, hb⟩ := hrel
    have Hrow := hide hrow
    have Hb := hide hb
    clear hrow hb
    have hT2 := Ht.out.keep Hb.out
    have hE2 := He.out.keep Hb.out
    have t0 := hT2.cell 0
    have t1 := hT2.cell 1
    have t2 := hT2.cell 2
    have t3 := hT2.cell 3
    have tl := hT2.lt
    obtain ⟨e0, e1, e2, e3, e4⟩ := cell5 hE2
    have el := hE2.lt
    simp only [List.getElem?_cons_zero, List.getElem?_cons_succ] at t0 t1 t2 t3
    clear hT2 hE2
    by_cases hkS : k < S
    · have hkI : (k : Int) < (S : Int) := by omega
      have hwl := wantF_len N S nO m k
      have hwl2 := Nat.mul_le_mul (show k ≤ 4 by omega) hn
      go_wp2_with fail
      clear t0 t1 t2 t3 tl e0 e1 e2 e3 e4 el
      go_loopw [8, 21] (fun ov i wr => ∃ (j : Nat) (D : Option Addr) (q dc : Nat) (us : List Value), j ≤ nO ∧ i = .int .i64 j ∧ ov = .slice D q dc ∧ OwnE Enc.int 3 w1.heap.size (fun b => w1.heap.size ≤ b) wr D q dc us (wantF N S nO m k ++ pick j (sv N S nO m k)) ∧ Below w1.heap.size w1 wr) (fun _ i _ => nO - (intOf i).toNat)
      case atStart => exact ⟨0, _, _, _, _, by omega, rfl, rfl, by simpa [pick] using Hrow.out, Hb.out⟩
      case round =>
        clear Hrow Hb
        obtain ⟨w3, rfl⟩ : ∃ V, V = wr := ⟨_, rfl⟩
        obtain ⟨j, D, q, dc, us, hj, rfl, rfl, hrow, hb⟩ := hrel
        have hqk : q ≤ k * nO + j := by
          rw [← hrow.len, List.length_append]
          unfold pick
          rw [List.length_map]
          have := List.length_filter_le (sv N S nO m k) (List.range j)
          rw [List.length_range] at this
          omega
        have Hrow := hide hrow
        have Hb := hide hb
        clear hrow hb
        have hT2 := Ht.out.keep Hb.out
        have hE2 := He.out.keep Hb.out
        have t0 := hT2.cell 0
        have t1 := hT2.cell 1
        have t2 := hT2.cell 2
        have t3 := hT2.cell 3
        have tl := hT2.lt
        obtain ⟨e0, e1, e2, e3, e4⟩ := cell5 hE2
        have el := hE2.lt
        simp only [List.getElem?_cons_zero, List.getElem?_cons_succ] at t0 t1 t2 t3
        clear hT2 hE2
        by_cases hjn : j < nO
        · have hjI : (j : Int) < (nO : Int) := by omega
          have hct := Hst.out k j w3 hN (by omega) (by omega) (by omega) (by omega)
          have hidx := sidx_low (N := N) hkS hjn
          rw [← Hl.out] at hidx
          have hsV : stepV N S nO k j = ((sidx N S nO k j : Nat) : Int) + 1 := by rw [stepV_lit]; unfold litI; rw [if_pos rfl]
          rw [hsV] at hct
          have hps := pick_succ j (sv N S nO m k)
          have hsvz : sv N S nO m k j = m.getD (sidx N S nO k j) false := rfl
          obtain ⟨z, hz⟩ : ∃ z, z = sidx N S nO k j := ⟨_, rfl⟩
          rw [← hz] at hct hidx hsvz
          have hzm : z ≤ 100000 := by
            have h1 := Nat.mul_le_mul (show S + 1 ≤ 5 by omega) hN
            have h2 := Nat.mul_le_mul hS hn
            have := Hl.out
            unfold sizeN at this
            omega
          have Hsvz := hide hsvz
          clear hsV hz hsvz
          go_wp2_with fail
          with_reducible refine hct.mono ?_
          rintro e w4 ⟨rfl, hb⟩
          have hsz3 := Hb.out.size
          have hb1 := Hb.out.trans (hb.mono hsz3)
          replace Hrow := hide ((Hrow.out.keep hb).less (M' := fun b => w1.heap.size ≤ b) (fun i _ e => e))
          clear Hb hct t0 t1 t2 t3 tl e0 e1 e2 e3 e4 el hb
          have Hb := hide hb1
          clear hb1 hsz3
          obtain ⟨b, off, y, rfl, hy, hcy⟩ := (Hm.out.keep (Hbl.out.trans (Hb.out.mono hsz1))).bool hidx
          have hyv : sv N S nO m k j = y := by rw [Hsvz.out, List.getD_eq_getElem?_getD, hy]; rfl
          rw [hyv] at hps
          have Hps := hide hps
          have hzI : (z : Int) < (mn : Int) := by omega
          have hwz : IntKind.i64.wrap ((z : Int) + 1 - 1) = (z : Int) := by rw [show (z : Int) + 1 - 1 = (z : Int) by omega]; exact wrap_small (by omega) (by omega)
          have hwz2 : (z : Int) + 1 - 1 = (z : Int) := by omega
          clear hy hyv hps
          cases y with
          | false =>
            go_wp2_with fail
            go_roundw
            case rel => exact ⟨j + 1, D, q, dc, us, by omega, by go_num, rfl, by rw [Hps.out]; simpa using Hrow.out, Hb.out⟩
            case measure => simp [intOf]; omega
          | true =>
            have hsz3 := Hb.out.size
            go_wp2_with
              (at_builtin
               refine wpList_pushE rfl _ _ 22 rfl w1.heap.size 3 i1 (.int .i64 0) 8 Try.underlying22 hi1 hy0 hy1 hy2 rfl (by decide) rfl Hrow.out (fun r hr => (Hrow.out.base hr).1) [.int .i64 j] j (by intro u hu; simp at hu; subst hu; rfl) rfl (firm_int (by omega) (by omega)) (by omega) (by omega) hsz3 ?_
               intro O6 oc6 w6 hown6 hch6 hat6
               have hown6 := hown6.less (M' := fun b => w1.heap.size ≤ b) (fun i _ e => .inl e)
               have hb6 := row_below Hb.out hsz3 hch6 (fun r hr => (Hrow.out.base hr).1)
               have Hown6 := hide hown6
               have Hb6 := hide hb6
               clear hown6 hch6 hat6 hb6)
            go_roundw
            case rel => exact ⟨j + 1, O6, q + 1, oc6, _, by omega, by go_num, rfl, by rw [Hps.out]; simpa using Hown6.out, Hb6.out⟩
            case measure => simp [intOf]; omega
        · obtain rfl : nO = j := by omega
          have hnext : wantF N S nO m (k + 1) = wantF N S nO m k ++ pick nO (sv N S nO m k) := wantF_succ N S nO m k
          have Hnext := hide hnext
          clear hnext
          go_wp2_with fail
          go_roundw
          case rel => exact ⟨k + 1, D, q, dc, us, by omega, by go_num, rfl, by rw [Hnext.out]; exact Hrow.out, Hb.out⟩
          case measure => simp [intOf]; omega
    · obtain rfl : S = k := by omega
      have hints := own_low Hrow.out.ints hsz1
      have hql := Hrow.out.len
      have Hints := hide hints
      have Hq := hide hql
      clear hints hql
      go_wp2_with fail
      go_ret
      refine ⟨Hbl.out.trans (Hb.out.mono hsz1), D, dc, ?_, ?_⟩
      · rw [Hq.out]
        rfl
      · rw [Hq.out]
        exact Hints.out
/-- what Decode answers -/
def decodeR (T : Tsk) (s : Int) (m : List Bool) : List Int × Int × Int :=
  if (cnfR T s).2.2.1 ≠ 0 then ([], (cnfR T s).2.2) else if ((m.length : Nat) : Int) ≠ (cnfR T s).1 then ([], 9, -10) else
  if trueAll (cnfR T s).2.1 m = false then ([], 11, -11) else (wantF T.facts.toNat s.toNat T.ops.length m s.toNat, 0, 0)
theorem cnfR_ok {T : Tsk} {s : Int} (h : (cnfR T s).2.2.1 = 0) : ∃ N S : Nat, OkT T N ∧ s = (S : Int) ∧ S ≤ 4 ∧ T.ops.length ≤ 20 ∧ sizeN N S T.ops.length ≤ 80 ∧ cnfR T s = (((sizeN N S T.ops.length : Nat) : Int), encC T N S, 0, 0) := by
  unfold cnfR at h ⊢
  by_cases h1 : (taskFault T).1 ≠ 0
  · rw [if_pos h1] at h
    exact absurd h h1
  rw [if_neg h1] at h ⊢
  by_cases h2 : s < 0 ∨ 4 < s
  · rw [if_pos h2] at h
    cases h
  rw [if_neg h2] at h ⊢
  obtain ⟨N, hok⟩ := taskFault_ok (T := T) (by simpa using h1)
  have hfT : T.facts.toNat = N := by have := hok.facts; omega
  obtain ⟨S, rfl⟩ : ∃ S : Nat, s = (S : Int) := ⟨s.toNat, by omega⟩
  rw [hfT, Int.toNat_natCast, sizeV_nat] at h ⊢
  by_cases h3 : (80 : Int) < ((sizeN N S T.ops.length : Nat) : Int) ∨ 20 < T.ops.length
  · rw [if_pos h3] at h
    cases h
  rw [if_neg h3]
  exact ⟨N, S, hok, rfl, by omega, by omega, by omega, rfl⟩
set_option maxRecDepth 100000 in
set_option maxHeartbeats 6400000 in
theorem Decode_ct (a : TA) (T : Tsk) (s : Int) (M : Option Addr) (mn mc : Nat) (m : List Bool) (w : World) (h : TkR w a T) (hs : I64s s) (hm : Rd Enc.bool w M mn mc m) :
    Calls Try.prog 12 #[.agg #[.int .i64 T.facts, .slice a.I a.nI a.cI, .slice a.G a.nG a.cG, .slice a.O a.nO a.cO], .int .i64 s, .slice M mn mc] w (ExpandP w (decodeR T s m)) := by
  have hcn := cnf_ct a T s
  have hdec := fun N S M mn mc m w h1 h2 h3 h4 h5 h6 => decode_ct a T N S M mn mc m w h1 h2 h3 h4 h5 h6
  obtain ⟨I, nI, cI, G, nG, cG, O, nO, cO⟩ := a
  simp only at hcn hdec ⊢
  have hok0 := cnfR_ok (T := T) (s := s)
  rcases hq : cnfR T s with ⟨Vi, cs, ec, ei⟩
  rw [hq] at hcn hok0
  have hlO := h.ops.len
  simp only at hlO hcn hok0
  have HlO := hide hlO
  have H := hide h
  have Hm := hide hm
  have Hml := hide hm.len
  have hmlow := hm.low
  have Hq := hide hq
  have Hcn := hide hcn
  have Hdec := hide hdec
  have Hok0 := hide hok0
  clear h hm hq hcn hdec hlO hok0
  have Hbl := hide (Below.refl w.heap.size w)
  go_enter Try.func12, Try.ntmps12
  go_upto_region 1 with (fail)
  obtain ⟨B0, hB0⟩ : ∃ B0, B0 = w.heap.size := ⟨_, rfl⟩
  have HB0 := hide hB0
  clear hB0
  have s_0 : B0 ≤ w.heap.size := Nat.le_trans (Nat.le_of_eq HB0.out) Hbl.out.size
  have hyt := Blk.new (w) 25 [.int .i64 T.facts, .slice I nI cI, .slice G nG cG, .slice O nO cO]
  have hyr := Blk.new ((w).alloc (.cells #[.int .i64 T.facts, .slice I nI cI, .slice G nG cG, .slice O nO cO] 25)) 28 [.int .i64 0, .int .i64 0]
  replace hyt := hyt.alloc (.cells #[.int .i64 0, .int .i64 0] 28)
  have hbW := below_two w (.cells #[.int .i64 T.facts, .slice I nI cI, .slice G nG cG, .slice O nO cO] 25) (.cells #[.int .i64 0, .int .i64 0] 28)
  simp only [World.size_alloc] at hyr
  obtain ⟨w0, hW⟩ : ∃ W, W = ((w).alloc (.cells #[.int .i64 T.facts, .slice I nI cI, .slice G nG cG, .slice O nO cO] 25)).alloc (.cells #[.int .i64 0, .int .i64 0] 28) := ⟨_, rfl⟩
  rw [← hW] at hyt hyr hbW ⊢
  replace Hbl := hide (Hbl.out.trans (hbW.mono Hbl.out.size))
  have Ht := hide hyt
  have Hr := hide hyr
  clear hW hbW hyt hyr
  generalize w.heap.size = gT at Ht Hr s_0 ⊢
  have t0 := Ht.out.cell 0
  have t1 := Ht.out.cell 1
  have t2 := Ht.out.cell 2
  have t3 := Ht.out.cell 3
  have tl := Ht.out.lt
  have r0 := Hr.out.cell 0
  have r1 := Hr.out.cell 1
  have rl := Hr.out.lt
  simp only [List.getElem?_cons_zero, List.getElem?_cons_succ] at t0 t1 t2 t3 r0 r1
  have a_t : B0 ≤ gT := by omega
  have a_r : B0 ≤ gT + 1 := by omega
  clear s_0
  have n_t_r : ¬ gT = gT + 1 := by omega
  have n_r_t : ¬ gT + 1 = gT := by omega
  go_wp2_with fail
  with_reducible refine (Hcn.out w0 (H.out.keep Hbl.out) hs).mono ?_
  rintro e w1 ⟨hb, A, n, c, rfl, hplain, hrows⟩
  have hrd := hrows w1 (Chg.refl _ _)
  have Hrd := hide hrd
  clear hrows hplain hrd
  unfold fault
  clear t0 t1 t2 t3 r0 r1 tl rl
  replace Ht := hide (Ht.out.keep hb)
  replace Hr := hide (Hr.out.keep hb)
  replace Hbl := hide (Hbl.out.trans (hb.mono Hbl.out.size))
  clear hb
  have t0 := Ht.out.cell 0
  have t1 := Ht.out.cell 1
  have t2 := Ht.out.cell 2
  have t3 := Ht.out.cell 3
  have tl := Ht.out.lt
  have r0 := Hr.out.cell 0
  have r1 := Hr.out.cell 1
  have rl := Hr.out.lt
  simp only [List.getElem?_cons_zero, List.getElem?_cons_succ] at t0 t1 t2 t3 r0 r1
  go_upto_region 2 with (fail)
  have n_t_c : ¬ gT = w1.heap.size := by omega
  have n_c_t : ¬ w1.heap.size = gT := by omega
  have n_t_k : ¬ gT = w1.heap.size + 1 := by omega
  have n_k_t : ¬ w1.heap.size + 1 = gT := by omega
  have n_r_c : ¬ gT + 1 = w1.heap.size := by omega
  have n_c_r : ¬ w1.heap.size = gT + 1 := by omega
  have n_r_k : ¬ gT + 1 = w1.heap.size + 1 := by omega
  have n_k_r : ¬ w1.heap.size + 1 = gT + 1 := by omega
  have s_t : gT < w1.heap.size := tl
  have s_r : gT + 1 < w1.heap.size := rl
  have s_0 : B0 ≤ w1.heap.size := Nat.le_trans (Nat.le_of_eq HB0.out) Hbl.out.size
  have hyc := Blk.new (w1) 36 [.int .i64 Vi, .slice A n c]
  have hyk := Blk.new ((w1).alloc (.cells #[.int .i64 Vi, .slice A n c] 36)) 28 [.int .i64 ec, .int .i64 ei]
  replace hyc := hyc.alloc (.cells #[.int .i64 ec, .int .i64 ei] 28)
  have hbW := below_two w1 (.cells #[.int .i64 Vi, .slice A n c] 36) (.cells #[.int .i64 ec, .int .i64 ei] 28)
  simp only [World.size_alloc] at hyk
  obtain ⟨w2, hW⟩ : ∃ W, W = ((w1).alloc (.cells #[.int .i64 Vi, .slice A n c] 36)).alloc (.cells #[.int .i64 ec, .int .i64 ei] 28) := ⟨_, rfl⟩
  rw [← hW] at hyc hyk hbW ⊢
  replace Ht := hide (Ht.out.keep hbW)
  replace Hr := hide (Hr.out.keep hbW)
  replace Hrd := hide (Hrd.out.keep hbW)
  replace Hbl := hide (Hbl.out.trans (hbW.mono Hbl.out.size))
  have Hc := hide hyc
  have Hk := hide hyk
  clear hW hbW hyc hyk
  generalize w1.heap.size = gc at Hc Hk n_t_c n_c_t n_t_k n_k_t n_r_c n_c_r n_r_k n_k_r s_t s_r s_0 ⊢
  have t0 := Ht.out.cell 0
  have t1 := Ht.out.cell 1
  have t2 := Ht.out.cell 2
  have t3 := Ht.out.cell 3
  have tl := Ht.out.lt
  have r0 := Hr.out.cell 0
  have r1 := Hr.out.cell 1
  have rl := Hr.out.lt
  have c0 := Hc.out.cell 0
  have c1 := Hc.out.cell 1
  have cl := Hc.out.lt
  have k0 := Hk.out.cell 0
  have k1 := Hk.out.cell 1
  have kl := Hk.out.lt
  simp only [List.getElem?_cons_zero, List.getElem?_cons_succ] at t0 t1 t2 t3 r0 r1 c0 c1 k0 k1
  clear s_t
  clear s_r
  have a_c : B0 ≤ gc := by omega
  have a_k : B0 ≤ gc + 1 := by omega
  clear s_0
  have n_c_k : ¬ gc = gc + 1 := by omega
  have n_k_c : ¬ gc + 1 = gc := by omega
  by_cases hec : ec = 0
  · subst hec
    obtain ⟨N, S, hok, hsS, hS, hn, hV, hcs⟩ := Hok0.out rfl
    obtain ⟨e1, e2⟩ := Prod.mk.inj hcs
    obtain ⟨e2, e3⟩ := Prod.mk.inj e2
    obtain ⟨_, e4⟩ := Prod.mk.inj e3
    have hfits : ∀ l ∈ cs, ∀ x ∈ l, Fits (sizeN N S T.ops.length : Nat) x := fun l hl => by rw [e2] at hl; exact code_fits (enc_code hok hl)
    have hN := hok.low
    have hfN := hok.facts
    rw [HlO.out] at hn hV e1 hfits
    subst e4
    obtain ⟨V, hVe⟩ : ∃ V, V = sizeN N S nO := ⟨_, rfl⟩
    rw [← hVe] at e1 hV hfits
    have HVe := hide hVe
    have Hfits := hide hfits
    have HfN := hide hfN
    have HsS := hide hsS
    have E1 := hide e1
    clear e1 e2 e3 hcs hVe hfits hfN hsS
    rw [E1.out] at c0
    by_cases hlen : mn = V
    · skip
      have hlI : (mn : Int) = (V : Int) := by omega
      have hct := True_ct A M n c mn mc cs m w2 Hrd.out (Hm.out.keep Hbl.out) (by omega) (by rw [hlen]; exact Hfits.out)
      obtain ⟨bo, hbo⟩ : ∃ z, z = trueAll cs m := ⟨_, rfl⟩
      rw [← hbo] at hct
      have Hbo := hide hbo
      have Hlen := hide hlen
      clear hbo hlen
      go_wp2_with fail
      with_reducible refine (hct).mono ?_
      rintro e w3 ⟨rfl, hb⟩
      clear t0 t1 t2 t3 r0 r1 c0 c1 k0 k1 tl rl cl kl
      replace Ht := hide (Ht.out.keep hb)
      replace Hr := hide (Hr.out.keep hb)
      replace Hc := hide (Hc.out.keep hb)
      replace Hk := hide (Hk.out.keep hb)
      replace Hrd := hide (Hrd.out.keep hb)
      replace Hbl := hide (Hbl.out.trans (hb.mono Hbl.out.size))
      clear hb
      clear hct
      have t0 := Ht.out.cell 0
      have t1 := Ht.out.cell 1
      have t2 := Ht.out.cell 2
      have t3 := Ht.out.cell 3
      have tl := Ht.out.lt
      have r0 := Hr.out.cell 0
      have r1 := Hr.out.cell 1
      have rl := Hr.out.lt
      have c0 := Hc.out.cell 0
      have c1 := Hc.out.cell 1
      have cl := Hc.out.lt
      have k0 := Hk.out.cell 0
      have k1 := Hk.out.cell 1
      have kl := Hk.out.lt
      simp only [List.getElem?_cons_zero, List.getElem?_cons_succ] at t0 t1 t2 t3 r0 r1 c0 c1 k0 k1
      cases bo with
      | false =>
        have rf0 := Hr.out.frozen 0
        have rf1 := Hr.out.frozen 1
        go_wp2_with fail
        refine bodyPost_ret (v := .tuple #[.slice none 0 0, fault 11 (-11)]) (by simp [results, Try.results12, go_sem, fault, r0, r1, rl]) rfl ?_
        have hres : decodeR T s m = ([], 11, -11) := by
          unfold decodeR
          rw [Hq.out, if_neg (by simp), if_neg (by simp only; rw [Hml.out, E1.out]; exact fun h => h hlI)]
          simp only
          rw [if_pos Hbo.out.symm]
        rw [hres]
        have hbx := HB0.out
        refine expandP_nil ?_ _ _
        repeat' (first | (with_reducible exact Hbl.out) | (with_reducible refine Below.drew ?_) | (with_reducible refine below_set ?_ ?_ _ _) | (have := HB0.out; omega))
      | true =>
        have hdc := Hdec.out N S M mn mc m w3 HfN.out (Hm.out.keep Hbl.out) hN hS (by omega) (by rw [Hlen.out]; exact HVe.out)
        have s3r : gT + 1 < w3.heap.size := rl
        have s30 := Hbl.out.size
        have hsS := HsS.out
        rw [hsS]
        go_wp2_with fail
        with_reducible refine hdc.mono ?_
        rintro e w4 ⟨hb, X, xc, rfl, hown⟩
        have hr2 := RdM.own (M := fun b => b < w3.heap.size) hown (fun r hr e => by
          have h1 := own_base hown (by rw [own_blkA]; exact hr)
          omega) rfl (fun x hx => by have := wantF_range x hx; omega)
        have Hr2 := hide hr2
        clear hdc hown hr2
        clear t0 t1 t2 t3 r0 r1 c0 c1 k0 k1 tl rl cl kl
        replace Ht := hide (Ht.out.keep hb)
        replace Hr := hide (Hr.out.keep hb)
        replace Hc := hide (Hc.out.keep hb)
        replace Hk := hide (Hk.out.keep hb)
        replace Hbl := hide (Hbl.out.trans (hb.mono Hbl.out.size))
        clear hb
        have t0 := Ht.out.cell 0
        have t1 := Ht.out.cell 1
        have t2 := Ht.out.cell 2
        have t3 := Ht.out.cell 3
        have tl := Ht.out.lt
        have r0 := Hr.out.cell 0
        have r1 := Hr.out.cell 1
        have rl := Hr.out.lt
        have c0 := Hc.out.cell 0
        have c1 := Hc.out.cell 1
        have cl := Hc.out.lt
        have k0 := Hk.out.cell 0
        have k1 := Hk.out.cell 1
        have kl := Hk.out.lt
        simp only [List.getElem?_cons_zero, List.getElem?_cons_succ] at t0 t1 t2 t3 r0 r1 c0 c1 k0 k1
        obtain ⟨nx, hnx⟩ : ∃ nx, nx = wantF N S nO m S := ⟨_, rfl⟩
        rw [← hnx] at Hr2 ⊢
        have Hnx := hide hnx
        clear hnx
        generalize nx.length = ln at Hr2 ⊢
        have rf0 := Hr.out.frozen 0
        have rf1 := Hr.out.frozen 1
        clear hsS
        go_wp2_with fail
        refine bodyPost_ret (v := .tuple #[.slice X ln xc, fault 0 0]) (by simp [results, Try.results12, go_sem, fault, r0, r1, rl]) rfl ?_
        have hres : decodeR T s m = (nx, 0, 0) := by
          unfold decodeR
          rw [Hq.out, if_neg (by simp), if_neg (by simp only; rw [Hml.out, E1.out]; exact fun h => h hlI)]
          simp only
          rw [if_neg (by rw [← Hbo.out]; simp), Hnx.out, HfN.out, HsS.out, Int.toNat_natCast, Int.toNat_natCast, HlO.out]
        rw [hres]
        have hbx := HB0.out
        refine ⟨?_, X, ln, xc, rfl, fun w'' hc => ?_⟩
        · repeat' (first | (with_reducible exact Hbl.out) | (with_reducible refine Below.drew ?_) | (with_reducible refine below_set ?_ ?_ _ _) | (have := HB0.out; omega))
        · exact (Hr2.out.chg ((((Chg.set _ (gT + 1) 0 _).trans (Chg.set _ (gT + 1) 1 _)).mono (fun b e => by omega)).trans (hc.mono (fun b e => by omega)))).rd
    · have hlI : ¬ (mn : Int) = (V : Int) := by omega
      have rf0 := Hr.out.frozen 0
      have rf1 := Hr.out.frozen 1
      go_wp2_with fail
      refine bodyPost_ret (v := .tuple #[.slice none 0 0, fault 9 (-10)]) (by simp [results, Try.results12, go_sem, fault, r0, r1, rl]) rfl ?_
      have hres : decodeR T s m = ([], 9, -10) := by
        unfold decodeR
        rw [Hq.out, if_neg (by simp), if_pos (by simp only; rw [Hml.out, E1.out]; exact hlI)]
      rw [hres]
      have hbx := HB0.out
      refine expandP_nil ?_ _ _
      repeat' (first | (with_reducible exact Hbl.out) | (with_reducible refine Below.drew ?_) | (with_reducible refine below_set ?_ ?_ _ _) | (have := HB0.out; omega))
  · have hne : (ec != 0) = true := by simpa using hec
    have hne2 : (ec == 0) = false := by simpa using hec
    have rf0 := Hr.out.frozen 0
    have rf1 := Hr.out.frozen 1
    go_wp2_with fail
    go_region
    all_goals go_wp2_with fail
    all_goals refine bodyPost_ret (v := .tuple #[.slice none 0 0, fault ec ei]) (by simp [results, Try.results12, go_sem, fault, r0, r1, rl]) rfl ?_
    have hres : decodeR T s m = ([], ec, ei) := by
      unfold decodeR
      rw [Hq.out, if_pos hec]
    rw [hres]
    have hbx := HB0.out
    refine expandP_nil ?_ _ _
    repeat' (first | (with_reducible exact Hbl.out) | (with_reducible refine Below.drew ?_) | (with_reducible refine below_set ?_ ?_ _ _) | (have := HB0.out; omega))
end Go.Proofs.Ytemiecammmbjdaa
