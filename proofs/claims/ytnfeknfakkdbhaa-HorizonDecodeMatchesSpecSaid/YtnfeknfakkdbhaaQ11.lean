/- The law on Decode, part 11: Hr2 Hr3. -/
import Derived.Test.YtnfeknfakkdbhaaQ1
import Derived.Test.YtnfeknfakkdbhaaQ2
import Derived.Test.YtnfeknfakkdbhaaQ3
import Derived.Test.YtnfeknfakkdbhaaQ5
import Derived.Test.YtnfeknfakkdbhaaQ6
import Derived.Test.YtnfeknfakkdbhaaQ7
import Derived.Test.YtnfeknfakkdbhaaQ8
import Derived.Test.YtnfeknfakkdbhaaQ9
import Derived.Test.YtnfeknfakkdbhaaQ10
import Derived.BigQuiet
import Derived.Deep.AppendLies
import Derived.Deep.DeepCutAuto
import Derived.Deep.Draws
import Derived.Deep.Fields
import Derived.Deep.LoopGhost
import Derived.Deep.QuietTactic
import Derived.Deep.RegionHeld3
import Derived.Deep.Slices
import Derived.Ground.Names2Prog
import Derived.Ground.SlgnProg
import Derived.Ground.SlsfProg
import Derived.IntWalk
import Derived.Laws.AppendOwnNone
import Derived.Laws.OwnMore
import Derived.Lib.Hide
import Derived.Lib.SlicesCompact
import Derived.Maps.AppendAt
import Derived.Shelf.Slices.Cells
import Derived.Shelf.Slices.Clone
import Derived.Shelf.Slices.CompactI
import Derived.Shelf.Slices.Empties
import Derived.Shelf.Slices.In.SortNone
import Derived.Shelf.Slices.SearchI
import Derived.Shelf.Sort.Plain
import Derived.Sort.OwnSortedInts
import Derived.StillTailTactics
import Derived.Test.YtnfeknfakkdbhaaProg
import Derived.WalkKit
import Init
namespace Go.Proofs.Ytnfeknfakkdbhaa
set_option linter.unusedVariables false
set_option linter.unusedSimpArgs false
open Go.RowKit
theorem descR_step {T : Tsk} {N S : Nat} {m : List Bool} {k : Nat} (hk : k < S) (h : stepR T N S m k = false) : descR T N S m = false := by
  unfold descR
  have : (List.range S).all (stepR T N S m) = false := by
    rw [List.all_eq_false]
    exact ⟨k, List.mem_range.2 hk, by rw [h]; simp⟩
  rw [this, Bool.and_false]
theorem all_succ {f : Nat → Bool} {k : Nat} (h : (List.range k).all f = true) (hk : f k = true) : (List.range (k + 1)).all f = true := by
  rw [List.range_succ, List.all_append, h]
  simp [hk]
def statesF (N : Nat) (m : List Bool) (k : Nat) : List (List Int) := (List.range k).map (stF N m)
theorem statesF_succ (N : Nat) (m : List Bool) (k : Nat) : statesF N m (k + 1) = statesF N m k ++ [stF N m k] := by
  unfold statesF
  rw [List.range_succ, List.map_append]
  rfl
theorem statesF_at {N k j : Nat} {m : List Bool} (h : j < k) : (statesF N m k)[j]? = some (stF N m j) := by
  unfold statesF
  rw [List.getElem?_map, List.getElem?_range h]
  rfl
set_option maxRecDepth 100000 in
set_option maxHeartbeats 6400000 in
theorem Describes_ct (a : TA) (T : Tsk) (N S : Nat) (M : Option Addr) (mn mc : Nat) (m : List Bool) (w : World) (h : TkR w a T) (hok : OkT T N) (hm : Rd Enc.bool w M mn mc m) (hS : S ≤ 4) (hn : a.nO ≤ 40) (hl : mn = sizeN N S a.nO) :
    Calls Try.prog 49 #[.agg #[.int .i64 T.facts, .slice a.I a.nI a.cI, .slice a.G a.nG a.cG, .slice a.O a.nO a.cO], .int .i64 S, .slice M mn mc] w (Gives w (.bool (descR T N S m))) := by
  obtain ⟨i1, hi1, hy0, hy1, hy2⟩ := info_parts rowInfoT
  obtain ⟨i0, hi0, hz0, hz1, hz2⟩ := info_parts intInfoT
  have hexe := fun t M mn mc m w h1 h2 h3 h4 h5 h6 h7 => Executed_ct a T N S t M mn mc m w h1 h2 h3 h4 h5 h6 h7
  have happ := fun B m d l q w h1 h2 h3 => Applies_ct a T B m d l q w h1 h2 h3
  have haft := fun B m d l q w h1 h2 h3 h4 h5 => After_ct a T N B m d l q w h1 h2 h3 h4 h5
  obtain ⟨I, nI, cI, G, nG, cG, O, nO, cO⟩ := a
  simp only at hn hl hexe happ haft ⊢
  rw [hok.facts] at hexe happ haft ⊢
  have hN := hok.low
  have hlO := h.ops.len
  simp only at hlO
  have hfew := hok.few
  rw [hlO] at hfew
  have HlO := hide hlO
  have H := hide h
  have Hm := hide hm
  have hml := hm.low
  have Hok := hide hok
  have Hexe := hide hexe
  have Happ := hide happ
  have Haft := hide haft
  clear h hm hok hexe happ haft hlO
  have hfv0 : ∀ k p, k ≤ S → p < N → k * N + p < mn := fun k p h1 h2 => by
    have := fidx_low h1 h2
    have h3 : (S + 1) * N ≤ sizeN N S nO := by unfold sizeN; omega
    unfold fidx at this
    omega
  have Hfv := hide hfv0
  have Hl := hide hl
  clear hfv0 hl
  have Hbl := hide (Below.refl w.heap.size w)
  go_enter Try.func49, Try.ntmps49
  go_upto_region 1 with (fail)
  obtain ⟨B0, hB0⟩ : ∃ B0, B0 = w.heap.size := ⟨_, rfl⟩
  have HB0 := hide hB0
  clear hB0
  have s_0 : B0 ≤ w.heap.size := Nat.le_trans (Nat.le_of_eq HB0.out) Hbl.out.size
  have hyt := Blk.new (w) 25 [.int .i64 N, .slice I nI cI, .slice G nG cG, .slice O nO cO]
  have hbW : Below (w).heap.size (w) ((w).alloc (.cells #[.int .i64 N, .slice I nI cI, .slice G nG cG, .slice O nO cO] 25)) := (Below.refl _ _).alloc (Nat.le_refl _) _
  obtain ⟨w0, hW⟩ : ∃ W, W = (w).alloc (.cells #[.int .i64 N, .slice I nI cI, .slice G nG cG, .slice O nO cO] 25) := ⟨_, rfl⟩
  rw [← hW] at hyt hbW ⊢
  replace Hbl := hide (Hbl.out.trans (hbW.mono Hbl.out.size))
  have Ht := hide hyt
  clear hW hbW hyt
  generalize w.heap.size = gT at Ht s_0 ⊢
  have t0 := Ht.out.cell 0
  have t1 := Ht.out.cell 1
  have t2 := Ht.out.cell 2
  have t3 := Ht.out.cell 3
  have tl := Ht.out.lt
  simp only [List.getElem?_cons_zero, List.getElem?_cons_succ] at t0 t1 t2 t3
  have a_t : B0 ≤ gT := by omega
  clear s_0
  obtain ⟨B1, hB1⟩ : ∃ B1, B1 = gT + 1 := ⟨_, rfl⟩
  have hBg : gT < B1 := by omega
  have hB01 : B0 ≤ B1 := by omega
  have hsz0 : B1 ≤ w0.heap.size := by omega
  clear hB1
  go_wp2_with fail
  clear t0 t1 t2 t3 tl
  go_loopw [7, 8] (fun ov i wr => ∃ (k : Nat) (O' : Option Addr) (oc : Nat) (vs : List Value), k ≤ S + 1 ∧ i = .int .i64 k ∧ ov = .slice O' k oc ∧ OwnE (Enc.sl Enc.int) 22 B1 (RunM B1 wr O') wr O' k oc vs (statesF N m k) ∧ Below w.heap.size w wr ∧ B1 ≤ wr.heap.size ∧ Blk 25 wr gT [.int .i64 N, .slice I nI cI, .slice G nG cG, .slice O nO cO]) (fun _ i _ => S + 1 - (intOf i).toNat)
  case atStart => exact ⟨0, none, 0, [], by omega, rfl, rfl, OwnE.nil _ _ _ _ _, Hbl.out, hsz0, Ht.out⟩
  case round =>
    clear Ht Hbl
    obtain ⟨wq, rfl⟩ : ∃ V, V = wr := ⟨_, rfl⟩
    obtain ⟨k, O', oc, vs, hk, rfl, rfl, hown, hbl, hbr, ht⟩ := hrel
    have Hown := hide hown
    have Hbl := hide hbl
    have Ht := hide ht
    clear hown hbl ht
    have t0 := Ht.out.cell 0
    have t1 := Ht.out.cell 1
    have t2 := Ht.out.cell 2
    have t3 := Ht.out.cell 3
    have tl := Ht.out.lt
    simp only [List.getElem?_cons_zero, List.getElem?_cons_succ] at t0 t1 t2 t3
    by_cases hkS : k ≤ S
    · skip
      have hkI : (k : Int) ≤ (S : Int) := by omega
      have hkn := mul_small (show k ≤ 10 by omega) hN (by omega)
      obtain ⟨kn, hkne⟩ : ∃ z, z = k * N := ⟨_, rfl⟩
      rw [← hkne] at hkn
      have hw1 : IntKind.i64.wrap ((k : Int) * (N : Int)) = (kn : Int) := by rw [← Int.natCast_mul, ← hkne]; exact wrap_small (by omega) (by omega)
      have hfv1 : ∀ p, p < N → kn + p < mn := fun p hp => by rw [hkne]; exact Hfv.out k p hkS hp
      have hfv2 : ∀ p, fv N m k p = m.getD (kn + p) false := fun p => by unfold fv fidx; rw [hkne]
      have Hfv1 := hide hfv1
      have Hfv2 := hide hfv2
      clear hkne hfv1 hfv2
      go_wp2_with fail
      clear t0 t1 t2 t3 tl
      have hOk : ∀ r, blkA O' = some r → r < wq.heap.size := fun r hr => (Hown.out.base hr).2
      have HOk := hide hOk
      clear hOk
      go_loopw [9, 10] (fun ov i wr => ∃ (p : Nat) (D : Option Addr) (q dc : Nat) (us : List Value), p ≤ N ∧ i = .int .i64 p ∧ ov = .slice D q dc ∧ OwnE Enc.int 3 wq.heap.size (fun b => wq.heap.size ≤ b) wr D q dc us (pick p (fv N m k)) ∧ Below wq.heap.size wq wr) (fun _ i _ => N - (intOf i).toNat)
      case atStart => exact ⟨0, none, 0, 0, [], by omega, rfl, rfl, OwnE.nil _ _ _ _ _, Below.refl _ _⟩
      case round =>
        obtain ⟨p, D, q, dc, us, hp, rfl, rfl, hrow, hb⟩ := hrel
        have hqk : q ≤ p := by
          rw [← hrow.len]
          unfold pick
          rw [List.length_map]
          exact Nat.le_trans (List.length_filter_le _ _) (by simp)
        have hT2 := Ht.out.keep hb
        have t0 := hT2.cell 0
        have tl := hT2.lt
        simp only [List.getElem?_cons_zero] at t0
        have Hrow := hide hrow
        have Hb := hide hb
        have HT2 := hide hT2
        clear hrow hb hT2
        by_cases hlt : p < N
        · obtain ⟨b, off, z, rfl, hz, hcz⟩ := (Hm.out.keep (Hbl.out.trans (Hb.out.mono Hbl.out.size))).bool (Hfv1.out p hlt)
          have hzv : fv N m k p = z := by rw [Hfv2.out, List.getD_eq_getElem?_getD, hz]; rfl
          have hps := pick_succ p (fv N m k)
          rw [hzv] at hps
          have Hps := hide hps
          have hidx := Hfv1.out p hlt
          obtain ⟨j, hj⟩ : ∃ j, j = kn + p := ⟨_, rfl⟩
          rw [← hj] at hcz hidx
          have hs2 : IntKind.i64.wrap ((kn : Int) + (p : Int)) = (j : Int) := by rw [hj, Int.natCast_add]; exact wrap_small (by omega) (by omega)
          have hji : (j : Int) < (mn : Int) := by omega
          have hpi : (p : Int) < (N : Int) := by omega
          clear hz hzv hps hj
          cases z with
          | false =>
            go_wp2_with fail
            go_roundw
            case rel => exact ⟨p + 1, D, q, dc, us, by omega, by go_num, rfl, by rw [Hps.out]; simpa using Hrow.out, Hb.out⟩
            case measure => simp [intOf]; omega
          | true =>
            have hsz1 := Hb.out.size
            go_wp2_with
              (at_builtin
               refine wpList_pushE rfl _ _ 22 rfl wq.heap.size 3 i0 (.int .i64 0) 8 Try.underlying22 hi0 hz0 hz1 hz2 rfl (by decide) rfl Hrow.out (fun r hr => (Hrow.out.base hr).1) [.int .i64 p] p (by intro u hu; simp at hu; subst hu; rfl) rfl (firm_int (by omega) (by omega)) (by omega) (by omega) hsz1 ?_
               intro O6 oc6 w6 hown6 hch6 hat6
               have hown6 := hown6.less (M' := fun b => wq.heap.size ≤ b) (fun i _ e => .inl e)
               have hb6 := row_below Hb.out hsz1 hch6 (fun r hr => (Hrow.out.base hr).1)
               have Hown6 := hide hown6
               have Hb6 := hide hb6
               clear hown6 hch6 hat6 hb6)
            go_roundw
            case rel => exact ⟨p + 1, O6, q + 1, oc6, _, by omega, by go_num, rfl, by rw [Hps.out]; simpa using Hown6.out, Hb6.out⟩
            case measure => simp [intOf]; omega
        · obtain rfl : N = p := by omega
          have hsz34 := Hb.out.size
          have hfr := firm_row (M := RunM B1 wr O') Hrow.out.ints Hrow.out.len (set_ints (pick_set _ _) (by omega)) (fun i hi e => by
            rcases e with e | e | e
            · exact HOk.out i e
            · omega
            · omega)
          have Hfr := hide hfr
          have hown2 := (Hown.out.keep Hb.out).less (M' := RunM B1 wr O') (fun i hi e => by
            rcases e with e | e | e
            · exact .inl e
            · exact .inr (.inl e)
            · omega)
          have Hown2 := hide hown2
          have Hbl2 := hide (Hbl.out.trans (Hb.out.mono Hbl.out.size))
          have hszw : B1 ≤ wr.heap.size := by omega
          have hnext : statesF N m (k + 1) = statesF N m k ++ [pick N (fv N m k)] := statesF_succ N m k
          have Hnext := hide hnext
          clear hfr hown2 hnext Hown
          go_wp2_with
            (at_builtin
             refine wpList_pushE rfl _ _ 40 rfl B1 22 i1 _ 24 Try.underlying40 hi1 hy0 hy1 hy2 rfl (by decide) rfl Hown2.out (fun r hr => .inl hr) [.slice D q dc] (pick N (fv N m k)) (by intro u hu; simp at hu; subst hu; rfl) rfl Hfr.out (by omega) (by omega) hszw ?_
             intro O6 oc6 w6 hown6 hch6 hat6
             have hne6 : ∀ i, blkA O' = some i → B1 ≤ i := fun i e => (Hown2.out.base e).1
             have hsz6 := hch6.size
             have hown7 := hown6.less (M' := RunM B1 w6 O6) (fun i hi e => by
               rcases e with e | e | e
               · rcases hat6 with hat6 | hat6
                 · exact .inl (.inl (by rw [← hat6]; exact e))
                 · rw [hat6] at e
                   injection e with e
                   exact .inr (by omega)
               · exact .inl (.inr (.inl e))
               · omega)
             have hbl6 := Hbl2.out.trans (hch6.below (B := w.heap.size) (fun i e => by have := hne6 i e; have := HB0.out; omega) Hbl2.out.size)
             have ht6 := hch6.blk HT2.out (fun e => by have h9 := hne6 _ e; omega)
             have Hown6 := hide hown7
             have Hbl6 := hide hbl6
             have Ht6 := hide ht6
             clear hown6 hch6 hat6 hne6 hown7 hbl6 ht6 t0 tl)
          go_roundw
          case rel => exact ⟨k + 1, O6, oc6, _, by omega, by go_num, rfl, by rw [Hnext.out]; exact Hown6.out, Hbl6.out, by omega, Ht6.out⟩
          case measure => simp [intOf]; omega
    · obtain rfl : k = S + 1 := by omega
      have hrows := Hown.out.rd
      have hsb := Hbl.out.size
      clear Hown hbr
      have Hrows := hide hrows
      obtain ⟨bs, offs, x0, A0, n0, c0, hO, hx0, hk0, hr0⟩ := hrows.sl (show 0 < S + 1 by omega)
      obtain ⟨bs2, offs2, xS, AS, nS, cS, hO2, hxS, hkS, hrS⟩ := hrows.sl (show S < S + 1 by omega)
      rw [statesF_at (by omega)] at hx0 hxS
      obtain rfl := Option.some.inj hx0
      obtain rfl := Option.some.inj hxS
      rw [hO] at hO2
      injection hO2 with hO2
      injection hO2 with e1 e2
      subst e1 e2 hO
      rw [Nat.add_zero] at hk0
      have Hr0 := hide hr0
      have HrS := hide hrS
      have hcap := Hrows.out.low
      clear hrows hx0 hxS hr0 hrS
      have hSI : (S : Int) < ((S + 1 : Nat) : Int) := by omega
      have h0I : (0 : Int) < ((S + 1 : Nat) : Int) := by omega
      have hSI2 : (S : Int) < (S : Int) + 1 := by omega
      have h0I2 : (0 : Int) < (S : Int) + 1 := by omega
      obtain ⟨u1, hu1⟩ : ∃ z, z = intsB (stF N m 0) T.init := ⟨_, rfl⟩
      obtain ⟨u2, hu2⟩ : ∃ z, z = subsetB T.goal (stF N m S) := ⟨_, rfl⟩
      have hc1 := fun W (hW : Below wq.heap.size wq W) => Ints_ct A0 I n0 c0 nI cI (stF N m 0) T.init W (Hr0.out.keep hW) (H.out.init.keep (Hbl.out.trans (hW.mono hsb)))
      have hc2 := fun W (hW : Below wq.heap.size wq W) => Subset_ct G AS nG cG nS cS T.goal (stF N m S) W (H.out.goal.keep (Hbl.out.trans (hW.mono hsb))) (HrS.out.keep hW)
      simp only [← hu1] at hc1
      simp only [← hu2] at hc2
      have Hc1 := hide hc1
      have Hc2 := hide hc2
      have Hu1 := hide hu1
      have Hu2 := hide hu2
      clear hc1 hc2 hu1 hu2
      go_upto_region 12 with (fail)
      cases u1 with
      | false =>
        go_quiet ((first | (go_at_call 28; exact quiet_call (Hc1.out _ (below_drewN (Below.refl _ _) _))) | (go_at_call 43; exact quiet_call (Hc2.out _ (below_drewN (Below.refl _ _) _)))))
        go_wp2_with fail
        go_ret
        exact ⟨ret_bool (by unfold descR; rw [← Hu1.out]; rfl), below_drewN Hbl.out _⟩
      | true =>
        cases u2 with
        | false =>
          go_quiet ((first | (go_at_call 28; exact quiet_call (Hc1.out _ (below_drewN (Below.refl _ _) _))) | (go_at_call 43; exact quiet_call (Hc2.out _ (below_drewN (Below.refl _ _) _)))))
          go_wp2_with fail
          go_ret
          exact ⟨ret_bool (by unfold descR; rw [← Hu1.out, ← Hu2.out]; rfl), below_drewN Hbl.out _⟩
        | true =>
          go_quiet ((first | (go_at_call 28; exact quiet_call (Hc1.out _ (below_drewN (Below.refl _ _) _))) | (go_at_call 43; exact quiet_call (Hc2.out _ (below_drewN (Below.refl _ _) _)))))
          obtain ⟨w3, hW⟩ : ∃ W, W = wq.drewN nq := ⟨_, rfl⟩
          have hb := below_drewN (Below.refl wq.heap.size wq) nq
          rw [← hW] at hb ⊢
          clear t0 t1 t2 t3 tl
          replace Ht := hide (Ht.out.keep hb)
          replace Hrows := hide (Hrows.out.keep hb)
          replace Hbl := hide (Hbl.out.trans (hb.mono Hbl.out.size))
          clear hW hb hk0 hkS Hr0 HrS Hc1 Hc2 hsb
          have t0 := Ht.out.cell 0
          have t1 := Ht.out.cell 1
          have t2 := Ht.out.cell 2
          have t3 := Ht.out.cell 3
          have tl := Ht.out.lt
          simp only [List.getElem?_cons_zero, List.getElem?_cons_succ] at t0 t1 t2 t3
          go_wp2_with fail
          clear t0 t1 t2 t3 tl
          go_loopw [11] (fun i wr => ∃ k : Nat, k ≤ S ∧ i = .int .i64 k ∧ Below w3.heap.size w3 wr ∧ (List.range k).all (stepR T N S m) = true) (fun i _ => S - (intOf i).toNat)
          case atStart => exact ⟨0, by omega, rfl, Below.refl _ _, by simp⟩
          case round =>
            obtain ⟨w4, rfl⟩ : ∃ V, V = wr := ⟨_, rfl⟩
            obtain ⟨k, hk, rfl, hb, hall⟩ := hrel
            replace Ht := hide (Ht.out.keep hb)
            replace Hrows := hide (Hrows.out.keep hb)
            have Hb := hide hb
            replace Hbl := hide (Hbl.out.trans (hb.mono Hbl.out.size))
            have Hall := hide hall
            clear hb hall
            have t0 := Ht.out.cell 0
            have t1 := Ht.out.cell 1
            have t2 := Ht.out.cell 2
            have t3 := Ht.out.cell 3
            have tl := Ht.out.lt
            simp only [List.getElem?_cons_zero, List.getElem?_cons_succ] at t0 t1 t2 t3
            by_cases hlt : k < S
            · have hki : (k : Int) < (S : Int) := by omega
              have hct := Hexe.out k M mn mc m w4 (by trivial) (Hm.out.keep Hbl.out) hN hS hlt hn Hl.out
              go_wp2_with fail
              with_reducible refine hct.mono ?_
              rintro e w5 ⟨hb, X, xc, rfl, hown⟩
              have hxs := set_ints (pick_set nO (sv N S nO m k)) (by omega)
              have hrx := own_rd hown rfl hxs
              have hexl := pick_set nO (sv N S nO m k)
              clear hct hown hxs
              clear t0 t1 t2 t3 tl
              replace Ht := hide (Ht.out.keep hb)
              replace Hrows := hide (Hrows.out.keep hb)
              replace Hb := hide (Hb.out.trans (hb.mono Hb.out.size))
              replace Hbl := hide (Hbl.out.trans (hb.mono Hbl.out.size))
              clear hb
              have t0 := Ht.out.cell 0
              have t1 := Ht.out.cell 1
              have t2 := Ht.out.cell 2
              have t3 := Ht.out.cell 3
              have tl := Ht.out.lt
              simp only [List.getElem?_cons_zero, List.getElem?_cons_succ] at t0 t1 t2 t3
              have Hrx := hide hrx
              have hst1 : ∀ x y r, exeF N S nO m k = x :: y :: r → stepR T N S m k = false := fun x y r e => by unfold stepR; rw [HlO.out, e]
              have hst2 : exeF N S nO m k = [] → stepR T N S m k = intsB (stF N m (k + 1)) (stF N m k) := fun e => by unfold stepR; rw [HlO.out, e]
              have hst3 : ∀ x, exeF N S nO m k = [x] → stepR T N S m k = (subsetB (opAt T.ops x).pre (stF N m k) && intsB (stF N m (k + 1)) (afterF N (opAt T.ops x) (stF N m k))) := fun x e => by unfold stepR; rw [HlO.out, e]
              have hmx : ∀ x ∈ exeF N S nO m k, 0 ≤ x ∧ x < nO := (setB_iff.1 hexl).2
              have Hst1 := hide hst1
              have Hst2 := hide hst2
              have Hst3 := hide hst3
              clear hrx hst1 hst2 hst3 hexl
              obtain ⟨ex, hex⟩ : ∃ z, z = exeF N S nO m k := ⟨_, rfl⟩
              rw [← hex] at hmx Hrx Hst1 Hst2 Hst3 ⊢
              clear hex
              obtain ⟨bk, offk, xk, Ak, nk, ck, hOk, hxk, hkk, hrk⟩ := Hrows.out.sl (show k < S + 1 by omega)
              obtain ⟨bn, offn, xn, An, nn, cn, hOn, hxn, hkn, hrn⟩ := Hrows.out.sl (show k + 1 < S + 1 by omega)
              rw [statesF_at (by omega)] at hxk hxn
              obtain rfl := Option.some.inj hxk
              obtain rfl := Option.some.inj hxn
              injection hOk with hOk
              injection hOk with e1 e2
              injection hOn with hOn
              injection hOn with e3 e4
              subst e1 e2
              subst e3 e4
              have Hrk := hide hrk
              have Hrn := hide hrn
              clear hxk hxn hrk hrn
              have hkI : (k : Int) < ((S + 1 : Nat) : Int) := by omega
              have hkI2 : (k : Int) < (S : Int) + 1 := by omega
              have hkn1 : (k : Int) + 1 < (S : Int) + 1 := by omega
              match ex, Hrx, Hst1, Hst2, Hst3, hmx with
              | [], Hrx, Hst1, Hst2, Hst3, hmx =>
                simp only [List.length_nil] at Hrx ⊢
                have hct := Ints_ct An Ak nn cn nk ck (stF N m (k + 1)) (stF N m k) w5 Hrn.out Hrk.out
                have hst := Hst2.out rfl
                obtain ⟨v1, hv1⟩ : ∃ z, z = intsB (stF N m (k + 1)) (stF N m k) := ⟨_, rfl⟩
                rw [← hv1] at hct hst
                have Hst := hide hst
                clear hv1 hst
                go_wp2_with fail
                with_reducible refine hct.mono ?_
                rintro e w6 ⟨rfl, hq⟩
                have hb := hq.below w5.heap.size
                have hb6 := Hb.out.trans (hb.mono Hb.out.size)
                have hbl6 := Hbl.out.trans (hb.mono Hbl.out.size)
                have Hb6 := hide hb6
                have Hbl6 := hide hbl6
                clear hct hq hb hb6 hbl6 t0 t1 t2 t3 tl hkk hkn
                cases v1 with
                | false =>
                  go_wp2_with fail
                  go_ret
                  exact ⟨ret_bool (descR_step hlt Hst.out).symm, Hbl6.out⟩
                | true =>
                  go_wp2_with fail
                  go_roundw
                  case rel => exact ⟨k + 1, by omega, by go_num, Hb6.out, all_succ Hall.out Hst.out⟩
                  case measure => simp [intOf]; omega
              | [x], Hrx, Hst1, Hst2, Hst3, hmx =>
                simp only [List.length_cons, List.length_nil, Nat.zero_add] at Hrx ⊢
                have hxr := hmx x (List.mem_cons_self ..)
                obtain ⟨q, rfl⟩ : ∃ q : Nat, x = (q : Int) := ⟨x.toNat, by omega⟩
                have hqn : q < nO := by omega
                obtain ⟨bx, offx, x2, rfl, hx0, hx1, hx2, hcx⟩ := Hrx.out.int (show 0 < 1 by omega)
                obtain rfl : (q : Int) = x2 := by simpa using hx0
                rw [Nat.add_zero] at hcx
                have hst := Hst3.out _ rfl
                have h01 : (0 : Int) < 1 := by omega
                clear hx0
                go_upto_region 22 with (fail)
                go_still_tail 8, (by kernel_rfl)
                change wpList _ _ _ _ _ w5.drew
                obtain ⟨w6, hW⟩ : ∃ W, W = w5.drew := ⟨_, rfl⟩
                have hb : Below w5.heap.size w5 w6 := by rw [hW]; exact (Below.refl _ _).drew
                rw [← hW]
                clear hW
                replace Ht := hide (Ht.out.keep hb)
                replace Hrows := hide (Hrows.out.keep hb)
                replace Hb := hide (Hb.out.trans (hb.mono Hb.out.size))
                replace Hbl := hide (Hbl.out.trans (hb.mono Hbl.out.size))
                replace Hrk := hide (Hrk.out.keep hb)
                replace Hrn := hide (Hrn.out.keep hb)
                replace hkk := (hb.cell (p := ⟨bs, offs + k, none⟩) (World.block_lt_of_cell? _ _ hkk)).trans hkk
                replace hkn := (hb.cell (p := ⟨bs, offs + (k + 1), none⟩) (World.block_lt_of_cell? _ _ hkn)).trans hkn
                replace hcx := (hb.cell (p := ⟨bx, offx, none⟩) (World.block_lt_of_cell? _ _ hcx)).trans hcx
                clear hb t0 t1 t2 t3 tl
                have t0 := Ht.out.cell 0
                have t1 := Ht.out.cell 1
                have t2 := Ht.out.cell 2
                have t3 := Ht.out.cell 3
                have tl := Ht.out.lt
                simp only [List.getElem?_cons_zero, List.getElem?_cons_succ] at t0 t1 t2 t3
                have hct := Happ.out Ak nk ck (stF N m k) q w6 (H.out.keep Hbl.out) Hrk.out hqn
                obtain ⟨v1, hv1⟩ : ∃ z, z = subsetB (opAt T.ops (q : Int)).pre (stF N m k) := ⟨_, rfl⟩
                rw [← hv1] at hct hst
                go_wp2_with fail
                with_reducible refine hct.mono ?_
                rintro e w7 ⟨rfl, hb⟩
                clear hct hv1
                replace Ht := hide (Ht.out.keep hb)
                replace Hrows := hide (Hrows.out.keep hb)
                replace Hb := hide (Hb.out.trans (hb.mono Hb.out.size))
                replace Hbl := hide (Hbl.out.trans (hb.mono Hbl.out.size))
                replace Hrk := hide (Hrk.out.keep hb)
                replace Hrn := hide (Hrn.out.keep hb)
                replace hkk := (hb.cell (p := ⟨bs, offs + k, none⟩) (World.block_lt_of_cell? _ _ hkk)).trans hkk
                replace hkn := (hb.cell (p := ⟨bs, offs + (k + 1), none⟩) (World.block_lt_of_cell? _ _ hkn)).trans hkn
                replace hcx := (hb.cell (p := ⟨bx, offx, none⟩) (World.block_lt_of_cell? _ _ hcx)).trans hcx
                clear hb t0 t1 t2 t3 tl
                have t0 := Ht.out.cell 0
                have t1 := Ht.out.cell 1
                have t2 := Ht.out.cell 2
                have t3 := Ht.out.cell 3
                have tl := Ht.out.lt
                simp only [List.getElem?_cons_zero, List.getElem?_cons_succ] at t0 t1 t2 t3
                cases v1 with
                | false =>
                  have Hst := hide hst
                  clear hst
                  go_wp2_with fail
                  go_ret
                  exact ⟨ret_bool (descR_step hlt Hst.out).symm, Hbl.out⟩
                | true =>
                  rw [Bool.true_and] at hst
                  go_wp2_with fail
                  go_still_tail 8, (by kernel_rfl)
                  change wpList _ _ _ _ _ w7.drew
                  obtain ⟨w8, hW⟩ : ∃ W, W = w7.drew := ⟨_, rfl⟩
                  have hb : Below w7.heap.size w7 w8 := by rw [hW]; exact (Below.refl _ _).drew
                  rw [← hW]
                  clear hW
                  replace Ht := hide (Ht.out.keep hb)
                  replace Hrows := hide (Hrows.out.keep hb)
                  replace Hb := hide (Hb.out.trans (hb.mono Hb.out.size))
                  replace Hbl := hide (Hbl.out.trans (hb.mono Hbl.out.size))
                  replace Hrk := hide (Hrk.out.keep hb)
                  replace Hrn := hide (Hrn.out.keep hb)
                  replace hkk := (hb.cell (p := ⟨bs, offs + k, none⟩) (World.block_lt_of_cell? _ _ hkk)).trans hkk
                  replace hkn := (hb.cell (p := ⟨bs, offs + (k + 1), none⟩) (World.block_lt_of_cell? _ _ hkn)).trans hkn
                  replace hcx := (hb.cell (p := ⟨bx, offx, none⟩) (World.block_lt_of_cell? _ _ hcx)).trans hcx
                  clear hb t0 t1 t2 t3 tl
                  have t0 := Ht.out.cell 0
                  have t1 := Ht.out.cell 1
                  have t2 := Ht.out.cell 2
                  have t3 := Ht.out.cell 3
                  have tl := Ht.out.lt
                  simp only [List.getElem?_cons_zero, List.getElem?_cons_succ] at t0 t1 t2 t3
                  have hct := Haft.out Ak nk ck (stF N m k) q w8 (H.out.keep Hbl.out) (by trivial) (by omega) Hrk.out hqn
                  go_wp2_with fail
                  with_reducible refine hct.mono ?_
                  rintro e w9 ⟨hb, Y, yc, rfl, hown⟩
                  have hry := own_rd hown rfl (set_ints (pick_set N _) (by omega))
                  have Hry := hide hry
                  clear hct hown hry
                  replace Ht := hide (Ht.out.keep hb)
                  replace Hrows := hide (Hrows.out.keep hb)
                  replace Hb := hide (Hb.out.trans (hb.mono Hb.out.size))
                  replace Hbl := hide (Hbl.out.trans (hb.mono Hbl.out.size))
                  replace Hrk := hide (Hrk.out.keep hb)
                  replace Hrn := hide (Hrn.out.keep hb)
                  replace hkk := (hb.cell (p := ⟨bs, offs + k, none⟩) (World.block_lt_of_cell? _ _ hkk)).trans hkk
                  replace hkn := (hb.cell (p := ⟨bs, offs + (k + 1), none⟩) (World.block_lt_of_cell? _ _ hkn)).trans hkn
                  replace hcx := (hb.cell (p := ⟨bx, offx, none⟩) (World.block_lt_of_cell? _ _ hcx)).trans hcx
                  clear hb t0 t1 t2 t3 tl
                  have t0 := Ht.out.cell 0
                  have t1 := Ht.out.cell 1
                  have t2 := Ht.out.cell 2
                  have t3 := Ht.out.cell 3
                  have tl := Ht.out.lt
                  simp only [List.getElem?_cons_zero, List.getElem?_cons_succ] at t0 t1 t2 t3
                  obtain ⟨v2, hv2⟩ : ∃ z, z = intsB (stF N m (k + 1)) (afterF N (opAt T.ops (q : Int)) (stF N m k)) := ⟨_, rfl⟩
                  have hct := Ints_ct An Y nn cn _ yc (stF N m (k + 1)) (afterF N (opAt T.ops (q : Int)) (stF N m k)) w9 Hrn.out Hry.out
                  rw [← hv2] at hct hst
                  have Hst := hide hst
                  clear hv2 hst
                  generalize (afterF N (opAt T.ops (q : Int)) (stF N m k)).length = ny at hct ⊢
                  go_wp2_with fail
                  with_reducible refine hct.mono ?_
                  rintro e w10 ⟨rfl, hq⟩
                  have hb := hq.below w9.heap.size
                  have hb6 := Hb.out.trans (hb.mono Hb.out.size)
                  have hbl6 := Hbl.out.trans (hb.mono Hbl.out.size)
                  have Hb6 := hide hb6
                  have Hbl6 := hide hbl6
                  clear hct hq hb hb6 hbl6 t0 t1 t2 t3 tl hkk hkn hcx
                  cases v2 with
                  | false =>
                    go_wp2_with fail
                    go_ret
                    exact ⟨ret_bool (descR_step hlt Hst.out).symm, Hbl6.out⟩
                  | true =>
                    go_wp2_with fail
                    go_roundw
                    case rel => exact ⟨k + 1, by omega, by go_num, Hb6.out, all_succ Hall.out Hst.out⟩
                    case measure => simp [intOf]; omega
              | x :: y :: r, Hrx, Hst1, Hst2, Hst3, hmx =>
                have hlen : (1 : Int) < (((x :: y :: r).length : Nat) : Int) := by simp only [List.length_cons]; omega
                generalize (x :: y :: r).length = ln at hlen Hrx ⊢
                go_wp2_with fail
                go_ret
                exact ⟨ret_bool (descR_step hlt (Hst1.out _ _ _ rfl)).symm, Hbl.out⟩
            · obtain rfl : S = k := by omega
              go_wp2_with fail
              go_ret
              refine ⟨ret_bool ?_, Hbl.out⟩
              unfold descR
              rw [← Hu1.out, ← Hu2.out, Hall.out]
              rfl
end Go.Proofs.Ytnfeknfakkdbhaa
namespace Go.Proofs.Ytnfeknfakkdbhaa
set_option linter.unusedVariables false
set_option linter.unusedSimpArgs false
open Go.RowKit
def EndsP (w : World) (r : Option (List Int)) (e : Ending) (w' : World) : Prop := Below w.heap.size w w' ∧
  ((r = none ∧ e = .returned (.tuple #[.slice none 0 0, .bool false])) ∨ ∃ (x : List Int) (A : Option Addr) (n c : Nat), r = some x ∧ e = .returned (.tuple #[.slice A n c, .bool true]) ∧ Rd Enc.int w' A n c x)
set_option maxRecDepth 100000 in
set_option maxHeartbeats 6400000 in
theorem Ends_ct (a : TA) (T : Tsk) (N : Nat) (P : Option Addr) (np dp : Nat) (s : List Int) (B : Option Addr) (m d : Nat) (l : List Int) (w : World) (h : TkR w a T) (hok : OkT T N) (hs : Rd Enc.int w P np dp s) (hl : Rd Enc.int w B m d l) (hset : setB N s = true) (hr : ∀ x ∈ l, 0 ≤ x ∧ x < T.ops.length) :
    Calls Try.prog 113 #[.agg #[.int .i64 T.facts, .slice a.I a.nI a.cI, .slice a.G a.nG a.cG, .slice a.O a.nO a.cO], .slice P np dp, .slice B m d] w (EndsP w (execO s (l.map (opAt T.ops)))) := by
  have happ := fun B m d l q w h1 h2 h3 => Applies_ct a T B m d l q w h1 h2 h3
  have haft := fun B m d l q w h1 h2 h3 h4 h5 => After_ct a T N B m d l q w h1 h2 h3 h4 h5
  obtain ⟨I, nI, cI, G, nG, cG, O, nO, cO⟩ := a
  simp only at happ haft ⊢
  rw [hok.facts] at happ haft ⊢
  have hN := hok.low
  have hlO := h.ops.len
  simp only at hlO
  have HlO := hide hlO
  have H := hide h
  have Hs := hide hs
  have Hl := hide hl
  have Hll := hide hl.len
  have hlm := hl.low
  have Hok := hide hok
  have Hset := hide hset
  have Hr := hide hr
  have Happ := hide happ
  have Haft := hide haft
  clear h hs hl hok hset hr happ haft hlO
  have Hbl := hide (Below.refl w.heap.size w)
  go_enter Try.func113, Try.ntmps113
  go_upto_region 1 with (fail)
  obtain ⟨B0, hB0⟩ : ∃ B0, B0 = w.heap.size := ⟨_, rfl⟩
  have HB0 := hide hB0
  clear hB0
  have s_0 : B0 ≤ w.heap.size := Nat.le_trans (Nat.le_of_eq HB0.out) Hbl.out.size
  have hyt := Blk.new (w) 25 [.int .i64 N, .slice I nI cI, .slice G nG cG, .slice O nO cO]
  have hbW : Below (w).heap.size (w) ((w).alloc (.cells #[.int .i64 N, .slice I nI cI, .slice G nG cG, .slice O nO cO] 25)) := (Below.refl _ _).alloc (Nat.le_refl _) _
  obtain ⟨w0, hW⟩ : ∃ W, W = (w).alloc (.cells #[.int .i64 N, .slice I nI cI, .slice G nG cG, .slice O nO cO] 25) := ⟨_, rfl⟩
  rw [← hW] at hyt hbW ⊢
  replace Hbl := hide (Hbl.out.trans (hbW.mono Hbl.out.size))
  have Ht := hide hyt
  clear hW hbW hyt
  generalize w.heap.size = gT at Ht s_0 ⊢
  have t0 := Ht.out.cell 0
  have t1 := Ht.out.cell 1
  have t2 := Ht.out.cell 2
  have t3 := Ht.out.cell 3
  have tl := Ht.out.lt
  simp only [List.getElem?_cons_zero, List.getElem?_cons_succ] at t0 t1 t2 t3
  have a_t : B0 ≤ gT := by omega
  clear s_0
  go_wp2_with fail
  clear t0 t1 t2 t3 tl
  go_loopw [1, 8] (fun ss i wr => ∃ (k : Nat) (P' : Option Addr) (n' c' : Nat) (s' : List Int), k ≤ m ∧ i = .int .i64 k ∧ ss = .slice P' n' c' ∧ Rd Enc.int wr P' n' c' s' ∧ setB N s' = true ∧ execO s (l.map (opAt T.ops)) = execO s' ((l.drop k).map (opAt T.ops)) ∧ Below w.heap.size w wr ∧ Blk 25 wr gT [.int .i64 N, .slice I nI cI, .slice G nG cG, .slice O nO cO]) (fun _ i _ => m - (intOf i).toNat)
  case atStart => exact ⟨0, P, np, dp, s, by omega, rfl, rfl, Hs.out.keep Hbl.out, Hset.out, rfl, Hbl.out, Ht.out⟩
  case round =>
    clear Ht Hbl
    obtain ⟨w4, rfl⟩ : ∃ V, V = wr := ⟨_, rfl⟩
    obtain ⟨k, P', n', c', s', hk, rfl, rfl, hrd, hset', hex, hbl, ht⟩ := hrel
    have Hrd := hide hrd
    have Hset' := hide hset'
    have Hex := hide hex
    have Hbl := hide hbl
    have Ht := hide ht
    clear hrd hset' hex hbl ht
    have t0 := Ht.out.cell 0
    have t1 := Ht.out.cell 1
    have t2 := Ht.out.cell 2
    have t3 := Ht.out.cell 3
    have tl := Ht.out.lt
    simp only [List.getElem?_cons_zero, List.getElem?_cons_succ] at t0 t1 t2 t3
    by_cases hlt : k < m
    · have hki : (k : Int) < (m : Int) := by omega
      obtain ⟨b, off, x, rfl, hx, hx1, hx2, hcx⟩ := (Hl.out.keep Hbl.out).int hlt
      have hxr := Hr.out x (List.mem_of_getElem? hx)
      obtain ⟨q, rfl⟩ : ∃ q : Nat, x = (q : Int) := ⟨x.toNat, by omega⟩
      have hqn : q < nO := by have := HlO.out; omega
      have hdrop := drop_cons hx
      have Hdrop := hide hdrop
      clear hx hxr hdrop
      go_upto_region 4 with (fail)
      go_still_tail 6, (by kernel_rfl)
      change wpList _ _ _ _ _ w4.drew
      obtain ⟨w5, hW⟩ : ∃ W, W = w4.drew := ⟨_, rfl⟩
      have hb : Below w4.heap.size w4 w5 := by rw [hW]; exact (Below.refl _ _).drew
      rw [← hW]
      clear hW
      replace Ht := hide (Ht.out.keep hb)
      replace Hbl := hide (Hbl.out.trans (hb.mono Hbl.out.size))
      replace Hrd := hide (Hrd.out.keep hb)
      replace hcx := (hb.cell (p := ⟨b, off + k, none⟩) (World.block_lt_of_cell? _ _ hcx)).trans hcx
      clear hb t0 t1 t2 t3 tl
      have t0 := Ht.out.cell 0
      have t1 := Ht.out.cell 1
      have t2 := Ht.out.cell 2
      have t3 := Ht.out.cell 3
      have tl := Ht.out.lt
      simp only [List.getElem?_cons_zero, List.getElem?_cons_succ] at t0 t1 t2 t3
      have hct := Happ.out P' n' c' s' q w5 (H.out.keep Hbl.out) Hrd.out hqn
      obtain ⟨v1, hv1⟩ : ∃ z, z = subsetB (opAt T.ops (q : Int)).pre s' := ⟨_, rfl⟩
      rw [← hv1] at hct
      have Hv1 := hide hv1
      go_wp2_with fail
      with_reducible refine hct.mono ?_
      rintro e w6 ⟨rfl, hb⟩
      clear hct hv1
      replace Ht := hide (Ht.out.keep hb)
      replace Hbl := hide (Hbl.out.trans (hb.mono Hbl.out.size))
      replace Hrd := hide (Hrd.out.keep hb)
      replace hcx := (hb.cell (p := ⟨b, off + k, none⟩) (World.block_lt_of_cell? _ _ hcx)).trans hcx
      clear hb t0 t1 t2 t3 tl
      have t0 := Ht.out.cell 0
      have t1 := Ht.out.cell 1
      have t2 := Ht.out.cell 2
      have t3 := Ht.out.cell 3
      have tl := Ht.out.lt
      simp only [List.getElem?_cons_zero, List.getElem?_cons_succ] at t0 t1 t2 t3
      have hop := Hok.out.ops (opAt T.ops q) (opAt_mem (by omega) (by have := HlO.out; omega))
      cases v1 with
      | false =>
        have hend : execO s (l.map (opAt T.ops)) = none := by
          rw [Hex.out, Hdrop.out, List.map_cons]
          unfold execO
          rw [if_neg (by rw [← Hv1.out]; simp)]
        have Hend := hide hend
        clear hend
        go_wp2_with fail
        go_ret2
        exact ⟨Hbl.out, .inl ⟨Hend.out, rfl⟩⟩
      | true =>
        have hnx : execO s (l.map (opAt T.ops)) = execO (afterF N (opAt T.ops (q : Int)) s') ((l.drop (k + 1)).map (opAt T.ops)) := by
          rw [Hex.out, Hdrop.out, List.map_cons]
          conv => lhs; unfold execO
          rw [if_pos Hv1.out.symm, after_upd hop Hset'.out]
        have Hnx := hide hnx
        clear hnx
        go_upto_region 6 with (fail)
        go_still_tail 6, (by kernel_rfl)
        change wpList _ _ _ _ _ w6.drew
        obtain ⟨w7, hW⟩ : ∃ W, W = w6.drew := ⟨_, rfl⟩
        have hb : Below w6.heap.size w6 w7 := by rw [hW]; exact (Below.refl _ _).drew
        rw [← hW]
        clear hW
        replace Ht := hide (Ht.out.keep hb)
        replace Hbl := hide (Hbl.out.trans (hb.mono Hbl.out.size))
        replace Hrd := hide (Hrd.out.keep hb)
        replace hcx := (hb.cell (p := ⟨b, off + k, none⟩) (World.block_lt_of_cell? _ _ hcx)).trans hcx
        clear hb t0 t1 t2 t3 tl
        have t0 := Ht.out.cell 0
        have t1 := Ht.out.cell 1
        have t2 := Ht.out.cell 2
        have t3 := Ht.out.cell 3
        have tl := Ht.out.lt
        simp only [List.getElem?_cons_zero, List.getElem?_cons_succ] at t0 t1 t2 t3
        have hct := Haft.out P' n' c' s' q w7 (H.out.keep Hbl.out) (by trivial) (by omega) Hrd.out hqn
        go_wp2_with fail
        with_reducible refine hct.mono ?_
        rintro e w8 ⟨hb, Y, yc, rfl, hown⟩
        have hry := own_rd hown rfl (set_ints (pick_set N _) (by omega))
        have Hry := hide hry
        clear hct hown hry
        replace Ht := hide (Ht.out.keep hb)
        replace Hbl := hide (Hbl.out.trans (hb.mono Hbl.out.size))
        replace Hrd := hide (Hrd.out.keep hb)
        replace hcx := (hb.cell (p := ⟨b, off + k, none⟩) (World.block_lt_of_cell? _ _ hcx)).trans hcx
        clear hb t0 t1 t2 t3 tl
        have t0 := Ht.out.cell 0
        have t1 := Ht.out.cell 1
        have t2 := Ht.out.cell 2
        have t3 := Ht.out.cell 3
        have tl := Ht.out.lt
        simp only [List.getElem?_cons_zero, List.getElem?_cons_succ] at t0 t1 t2 t3
        go_wp2_with fail
        go_roundw
        case rel => exact ⟨k + 1, Y, _, yc, _, by omega, by go_num, rfl, Hry.out, pick_set N _, Hnx.out, Hbl.out, Ht.out⟩
        case measure => simp [intOf]; omega
    · obtain rfl : m = k := by omega
      have hend : execO s (l.map (opAt T.ops)) = some s' := by
        rw [Hex.out, List.drop_of_length_le (by rw [Hll.out]; omega)]
        rfl
      have Hend := hide hend
      clear hend
      go_wp2_with fail
      go_ret2
      exact ⟨Hbl.out, .inr ⟨s', P', n', c', Hend.out, rfl, Hrd.out⟩⟩
set_option maxRecDepth 100000 in
set_option maxHeartbeats 6400000 in
theorem RWorks_ct (a : TA) (T : Tsk) (N : Nat) (P : Option Addr) (np dp : Nat) (s : List Int) (B : Option Addr) (m d : Nat) (l : List Int) (w : World) (h : TkR w a T) (hok : OkT T N) (hs : Rd Enc.int w P np dp s) (hl : Rd Enc.int w B m d l) (hset : setB N s = true) (hr : ∀ x ∈ l, 0 ≤ x ∧ x < T.ops.length) :
    Calls Try.prog 88 #[.agg #[.int .i64 T.facts, .slice a.I a.nI a.cI, .slice a.G a.nG a.cG, .slice a.O a.nO a.cO], .slice P np dp, .slice B m d] w (Gives w (.bool (worksF T s l))) := by
  have hends := Ends_ct a T N P np dp s B m d l
  obtain ⟨I, nI, cI, G, nG, cG, O, nO, cO⟩ := a
  simp only at hends ⊢
  have H := hide h
  have Hs := hide hs
  have Hl := hide hl
  have Hok := hide hok
  have Hset := hide hset
  have Hr := hide hr
  have Hends := hide hends
  clear h hs hl hok hset hr hends
  have Hbl := hide (Below.refl w.heap.size w)
  go_enter Try.func88, Try.ntmps88
  go_upto_region 1 with (fail)
  obtain ⟨B0, hB0⟩ : ∃ B0, B0 = w.heap.size := ⟨_, rfl⟩
  have HB0 := hide hB0
  clear hB0
  have s_0 : B0 ≤ w.heap.size := Nat.le_trans (Nat.le_of_eq HB0.out) Hbl.out.size
  have hyt := Blk.new (w) 25 [.int .i64 T.facts, .slice I nI cI, .slice G nG cG, .slice O nO cO]
  have hbW : Below (w).heap.size (w) ((w).alloc (.cells #[.int .i64 T.facts, .slice I nI cI, .slice G nG cG, .slice O nO cO] 25)) := (Below.refl _ _).alloc (Nat.le_refl _) _
  obtain ⟨w0, hW⟩ : ∃ W, W = (w).alloc (.cells #[.int .i64 T.facts, .slice I nI cI, .slice G nG cG, .slice O nO cO] 25) := ⟨_, rfl⟩
  rw [← hW] at hyt hbW ⊢
  replace Hbl := hide (Hbl.out.trans (hbW.mono Hbl.out.size))
  have Ht := hide hyt
  clear hW hbW hyt
  generalize w.heap.size = gT at Ht s_0 ⊢
  have t0 := Ht.out.cell 0
  have t1 := Ht.out.cell 1
  have t2 := Ht.out.cell 2
  have t3 := Ht.out.cell 3
  have tl := Ht.out.lt
  simp only [List.getElem?_cons_zero, List.getElem?_cons_succ] at t0 t1 t2 t3
  have a_t : B0 ≤ gT := by omega
  clear s_0
  go_wp2_with fail
  with_reducible refine (Hends.out w0 (H.out.keep Hbl.out) Hok.out (Hs.out.keep Hbl.out) (Hl.out.keep Hbl.out) Hset.out Hr.out).mono ?_
  rintro e w1 ⟨hb, ⟨hno, rfl⟩ | ⟨x, A, n, c, hsome, rfl, hrd⟩⟩
  · skip
    clear t0 t1 t2 t3 tl
    replace Ht := hide (Ht.out.keep hb)
    replace Hbl := hide (Hbl.out.trans (hb.mono Hbl.out.size))
    clear hb
    have t0 := Ht.out.cell 0
    have t1 := Ht.out.cell 1
    have t2 := Ht.out.cell 2
    have t3 := Ht.out.cell 3
    have tl := Ht.out.lt
    simp only [List.getElem?_cons_zero, List.getElem?_cons_succ] at t0 t1 t2 t3
    have hres : worksF T s l = false := by unfold worksF; rw [hno]
    have Hres := hide hres
    clear hres hno
    go_wp2_with fail
    go_ret
    exact ⟨ret_bool Hres.out.symm, Hbl.out⟩
  · skip
    have hres : worksF T s l = subsetB T.goal x := by unfold worksF; rw [hsome]
    have Hres := hide hres
    have Hrd := hide hrd
    clear hres hsome hrd
    clear t0 t1 t2 t3 tl
    replace Ht := hide (Ht.out.keep hb)
    replace Hbl := hide (Hbl.out.trans (hb.mono Hbl.out.size))
    clear hb
    have t0 := Ht.out.cell 0
    have t1 := Ht.out.cell 1
    have t2 := Ht.out.cell 2
    have t3 := Ht.out.cell 3
    have tl := Ht.out.lt
    simp only [List.getElem?_cons_zero, List.getElem?_cons_succ] at t0 t1 t2 t3
    have hct := Subset_ct G A nG cG n c T.goal x w1 (H.out.goal.keep Hbl.out) Hrd.out
    go_wp2_with fail
    with_reducible refine hct.mono ?_
    rintro e w2 ⟨rfl, hq⟩
    have Hq := hide hq
    clear hct hq
    go_wp2_with fail
    go_ret
    exact ⟨ret_bool (by rw [Hres.out]), Hbl.out.trans (Hq.out.below _)⟩
set_option maxRecDepth 100000 in
set_option maxHeartbeats 6400000 in
theorem RSolves_ct (a : TA) (T : Tsk) (N : Nat) (B : Option Addr) (m d : Nat) (l : List Int) (w : World) (h : TkR w a T) (hok : OkT T N) (hl : Rd Enc.int w B m d l) (hr : ∀ x ∈ l, 0 ≤ x ∧ x < T.ops.length) :
    Calls Try.prog 51 #[.agg #[.int .i64 T.facts, .slice a.I a.nI a.cI, .slice a.G a.nG a.cG, .slice a.O a.nO a.cO], .slice B m d] w (Gives w (.bool (worksF T T.init l))) := by
  have hwk := fun P np dp s w => RWorks_ct a T N P np dp s B m d l w
  obtain ⟨I, nI, cI, G, nG, cG, O, nO, cO⟩ := a
  simp only at hwk ⊢
  have H := hide h
  have Hl := hide hl
  have Hok := hide hok
  have Hr := hide hr
  have Hwk := hide hwk
  clear h hl hok hr hwk
  have Hbl := hide (Below.refl w.heap.size w)
  go_enter Try.func51, Try.ntmps51
  go_upto_region 1 with (fail)
  obtain ⟨B0, hB0⟩ : ∃ B0, B0 = w.heap.size := ⟨_, rfl⟩
  have HB0 := hide hB0
  clear hB0
  have s_0 : B0 ≤ w.heap.size := Nat.le_trans (Nat.le_of_eq HB0.out) Hbl.out.size
  have hyt := Blk.new (w) 25 [.int .i64 T.facts, .slice I nI cI, .slice G nG cG, .slice O nO cO]
  have hbW : Below (w).heap.size (w) ((w).alloc (.cells #[.int .i64 T.facts, .slice I nI cI, .slice G nG cG, .slice O nO cO] 25)) := (Below.refl _ _).alloc (Nat.le_refl _) _
  obtain ⟨w0, hW⟩ : ∃ W, W = (w).alloc (.cells #[.int .i64 T.facts, .slice I nI cI, .slice G nG cG, .slice O nO cO] 25) := ⟨_, rfl⟩
  rw [← hW] at hyt hbW ⊢
  replace Hbl := hide (Hbl.out.trans (hbW.mono Hbl.out.size))
  have Ht := hide hyt
  clear hW hbW hyt
  generalize w.heap.size = gT at Ht s_0 ⊢
  have t0 := Ht.out.cell 0
  have t1 := Ht.out.cell 1
  have t2 := Ht.out.cell 2
  have t3 := Ht.out.cell 3
  have tl := Ht.out.lt
  simp only [List.getElem?_cons_zero, List.getElem?_cons_succ] at t0 t1 t2 t3
  have a_t : B0 ≤ gT := by omega
  clear s_0
  go_wp2_with fail
  with_reducible refine (Hwk.out I nI cI T.init w0 (H.out.keep Hbl.out) Hok.out (H.out.init.keep Hbl.out) (Hl.out.keep Hbl.out) Hok.out.init Hr.out).mono ?_
  rintro e w1 ⟨rfl, hb⟩
  have Hb := hide hb
  clear hb
  go_wp2_with fail
  go_ret
  exact ⟨rfl, Hbl.out.trans (Hb.out.mono Hbl.out.size)⟩
end Go.Proofs.Ytnfeknfakkdbhaa
