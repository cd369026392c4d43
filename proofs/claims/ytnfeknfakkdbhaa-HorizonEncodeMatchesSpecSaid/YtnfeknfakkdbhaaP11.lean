/- The law on Encode, part 11: Hr2 Hr3 Hr4. -/
import Derived.Test.YtnfeknfakkdbhaaP1
import Derived.Test.YtnfeknfakkdbhaaP2
import Derived.Test.YtnfeknfakkdbhaaP3
import Derived.Test.YtnfeknfakkdbhaaP5
import Derived.Test.YtnfeknfakkdbhaaP6
import Derived.Test.YtnfeknfakkdbhaaP7
import Derived.Test.YtnfeknfakkdbhaaP8
import Derived.Test.YtnfeknfakkdbhaaP9
import Derived.Test.YtnfeknfakkdbhaaP10
import Derived.BigQuiet
import Derived.Deep.AppendLies
import Derived.Deep.DeepCutAuto
import Derived.Deep.Draws
import Derived.Deep.Fields
import Derived.Deep.LoopGhost
import Derived.Deep.QuietTactic
import Derived.Deep.RegionHeld3
import Derived.Deep.Slices
import Derived.Ground.Names2Prog
import Derived.Ground.SlgnProg
import Derived.Ground.SlsfProg
import Derived.IntWalk
import Derived.Laws.AppendOwnNone
import Derived.Laws.OwnMore
import Derived.Lib.Hide
import Derived.Lib.SlicesCompact
import Derived.Maps.AppendAt
import Derived.Shelf.Slices.Cells
import Derived.Shelf.Slices.Clone
import Derived.Shelf.Slices.CompactI
import Derived.Shelf.Slices.Empties
import Derived.Shelf.Slices.In.SortNone
import Derived.Shelf.Slices.SearchI
import Derived.Shelf.Sort.Plain
import Derived.Sort.OwnSortedInts
import Derived.StillTailTactics
import Derived.Test.YtnfeknfakkdbhaaProg
import Derived.WalkKit
import Init
namespace Go.Proofs.Ytnfeknfakkdbhaa
set_option linter.unusedVariables false
set_option linter.unusedSimpArgs false
open Go.RowKit
theorem descR_step {T : Tsk} {N S : Nat} {m : List Bool} {k : Nat} (hk : k < S) (h : stepR T N S m k = false) : descR T N S m = false := by
  unfold descR
  have : (List.range S).all (stepR T N S m) = false := by
    rw [List.all_eq_false]
    exact ⟨k, List.mem_range.2 hk, by rw [h]; simp⟩
  rw [this, Bool.and_false]
theorem all_succ {f : Nat → Bool} {k : Nat} (h : (List.range k).all f = true) (hk : f k = true) : (List.range (k + 1)).all f = true := by
  rw [List.range_succ, List.all_append, h]
  simp [hk]
def statesF (N : Nat) (m : List Bool) (k : Nat) : List (List Int) := (List.range k).map (stF N m)
theorem statesF_succ (N : Nat) (m : List Bool) (k : Nat) : statesF N m (k + 1) = statesF N m k ++ [stF N m k] := by
  unfold statesF
  rw [List.range_succ, List.map_append]
  rfl
theorem statesF_at {N k j : Nat} {m : List Bool} (h : j < k) : (statesF N m k)[j]? = some (stF N m j) := by
  unfold statesF
  rw [List.getElem?_map, List.getElem?_range h]
  rfl
set_option maxRecDepth 100000 in
set_option maxHeartbeats 6400000 in
theorem Describes_ct (a : TA) (T : Tsk) (N S : Nat) (M : Option Addr) (mn mc : Nat) (m : List Bool) (w : World) (h : TkR w a T) (hok : OkT T N) (hm : Rd Enc.bool w M mn mc m) (hS : S ≤ 4) (hn : a.nO ≤ 40) (hl : mn = sizeN N S a.nO) :
    Calls Try.prog 49 #[.agg #[.int .i64 T.facts, .slice a.I a.nI a.cI, .slice a.G a.nG a.cG, .slice a.O a.nO a.cO], .int .i64 S, .slice M mn mc] w (Gives w (.bool (descR T N S m))) := by
  obtain ⟨i1, hi1, hy0, hy1, hy2⟩ := info_parts rowInfoT
  obtain ⟨i0, hi0, hz0, hz1, hz2⟩ := info_parts intInfoT
  have hexe := fun t M mn mc m w h1 h2 h3 h4 h5 h6 h7 => Executed_ct a T N S t M mn mc m w h1 h2 h3 h4 h5 h6 h7
  have happ := fun B m d l q w h1 h2 h3 => Applies_ct a T B m d l q w h1 h2 h3
  have haft := fun B m d l q w h1 h2 h3 h4 h5 => After_ct a T N B m d l q w h1 h2 h3 h4 h5
  obtain ⟨I, nI, cI, G, nG, cG, O, nO, cO⟩ := a
  simp only at hn hl hexe happ haft ⊢
  rw [hok.facts] at hexe happ haft ⊢
  have hN := hok.low
  have hlO := h.ops.len
  simp only at hlO
  have hfew := hok.few
  rw [hlO] at hfew
  have HlO := hide hlO
  have H := hide h
  have Hm := hide hm
  have hml := hm.low
  have Hok := hide hok
  have Hexe := hide hexe
  have Happ := hide happ
  have Haft := hide haft
  clear h hm hok hexe happ haft hlO
  have hfv0 : ∀ k p, k ≤ S → p < N → k * N + p < mn := fun k p h1 h2 => by
    have := fidx_low h1 h2
    have h3 : (S + 1) * N ≤ sizeN N S nO := by unfold sizeN; omega
    unfold fidx at this
    omega
  have Hfv := hide hfv0
  have Hl := hide hl
  clear hfv0 hl
  have Hbl := hide (Below.refl w.heap.size w)
  go_enter Try.func49, Try.ntmps49
  go_upto_region 1 with (fail)
  obtain ⟨B0, hB0⟩ : ∃ B0, B0 = w.heap.size := ⟨_, rfl⟩
  have HB0 := hide hB0
  clear hB0
  have s_0 : B0 ≤ w.heap.size := Nat.le_trans (Nat.le_of_eq HB0.out) Hbl.out.size
  have hyt := Blk.new (w) 25 [.int .i64 N, .slice I nI cI, .slice G nG cG, .slice O nO cO]
  have hbW : Below (w).heap.size (w) ((w).alloc (.cells #[.int .i64 N, .slice I nI cI, .slice G nG cG, .slice O nO cO] 25)) := (Below.refl _ _).alloc (Nat.le_refl _) _
  obtain ⟨w0, hW⟩ : ∃ W, W = (w).alloc (.cells #[.int .i64 N, .slice I nI cI, .slice G nG cG, .slice O nO cO] 25) := ⟨_, rfl⟩
  rw [← hW] at hyt hbW ⊢
  replace Hbl := hide (Hbl.out.trans (hbW.mono Hbl.out.size))
  have Ht := hide hyt
  clear hW hbW hyt
  generalize w.heap.size = gT at Ht s_0 ⊢
  have t0 := Ht.out.cell 0
  have t1 := Ht.out.cell 1
  have t2 := Ht.out.cell 2
  have t3 := Ht.out.cell 3
  have tl := Ht.out.lt
  simp only [List.getElem?_cons_zero, List.getElem?_cons_succ] at t0 t1 t2 t3
  have a_t : B0 ≤ gT := by omega
  clear s_0
  obtain ⟨B1, hB1⟩ : ∃ B1, B1 = gT + 1 := ⟨_, rfl⟩
  have hBg : gT < B1 := by omega
  have hB01 : B0 ≤ B1 := by omega
  have hsz0 : B1 ≤ w0.heap.size := by omega
  clear hB1
  go_wp2_with fail
  clear t0 t1 t2 t3 tl
  go_loopw [7, 8] (fun ov i wr => ∃ (k : Nat) (O' : Option Addr) (oc : Nat) (vs : List Value), k ≤ S + 1 ∧ i = .int .i64 k ∧ ov = .slice O' k oc ∧ OwnE (Enc.sl Enc.int) 22 B1 (RunM B1 wr O') wr O' k oc vs (statesF N m k) ∧ Below w.heap.size w wr ∧ B1 ≤ wr.heap.size ∧ Blk 25 wr gT [.int .i64 N, .slice I nI cI, .slice G nG cG, .slice O nO cO]) (fun _ i _ => S + 1 - (intOf i).toNat)
  case atStart => exact ⟨0, none, 0, [], by omega, rfl, rfl, OwnE.nil _ _ _ _ _, Hbl.out, hsz0, Ht.out⟩
  case round =>
    clear Ht Hbl
    obtain ⟨wq, rfl⟩ : ∃ V, V = wr := ⟨_, rfl⟩
    obtain ⟨k, O', oc, vs, hk, rfl, rfl, hown, hbl, hbr, ht⟩ := hrel
    have Hown := hide hown
    have Hbl := hide hbl
    have Ht := hide ht
    clear hown hbl ht
    have t0 := Ht.out.cell 0
    have t1 := Ht.out.cell 1
    have t2 := Ht.out.cell 2
    have t3 := Ht.out.cell 3
    have tl := Ht.out.lt
    simp only [List.getElem?_cons_zero, List.getElem?_cons_succ] at t0 t1 t2 t3
    by_cases hkS : k ≤ S
    · skip
      have hkI : (k : Int) ≤ (S : Int) := by omega
      have hkn := mul_small (show k ≤ 10 by omega) hN (by omega)
      obtain ⟨kn, hkne⟩ : ∃ z, z = k * N := ⟨_, rfl⟩
      rw [← hkne] at hkn
      have hw1 : IntKind.i64.wrap ((k : Int) * (N : Int)) = (kn : Int) := by rw [← Int.natCast_mul, ← hkne]; exact wrap_small (by omega) (by omega)
      have hfv1 : ∀ p, p < N → kn + p < mn := fun p hp => by rw [hkne]; exact Hfv.out k p hkS hp
      have hfv2 : ∀ p, fv N m k p = m.getD (kn + p) false := fun p => by unfold fv fidx; rw [hkne]
      have Hfv1 := hide hfv1
      have Hfv2 := hide hfv2
      clear hkne hfv1 hfv2
      go_wp2_with fail
      clear t0 t1 t2 t3 tl
      have hOk : ∀ r, blkA O' = some r → r < wq.heap.size := fun r hr => (Hown.out.base hr).2
      have HOk := hide hOk
      clear hOk
      go_loopw [9, 10] (fun ov i wr => ∃ (p : Nat) (D : Option Addr) (q dc : Nat) (us : List Value), p ≤ N ∧ i = .int .i64 p ∧ ov = .slice D q dc ∧ OwnE Enc.int 3 wq.heap.size (fun b => wq.heap.size ≤ b) wr D q dc us (pick p (fv N m k)) ∧ Below wq.heap.size wq wr) (fun _ i _ => N - (intOf i).toNat)
      case atStart => exact ⟨0, none, 0, 0, [], by omega, rfl, rfl, OwnE.nil _ _ _ _ _, Below.refl _ _⟩
      case round =>
        obtain ⟨p, D, q, dc, us, hp, rfl, rfl, hrow, hb⟩ := hrel
        have hqk : q ≤ p := by
          rw [← hrow.len]
          unfold pick
          rw [List.length_map]
          exact Nat.le_trans (List.length_filter_le _ _) (by simp)
        have hT2 := Ht.out.keep hb
        have t0 := hT2.cell 0
        have tl := hT2.lt
        simp only [List.getElem?_cons_zero] at t0
        have Hrow := hide hrow
        have Hb := hide hb
        have HT2 := hide hT2
        clear hrow hb hT2
        by_cases hlt : p < N
        · obtain ⟨b, off, z, rfl, hz, hcz⟩ := (Hm.out.keep (Hbl.out.trans (Hb.out.mono Hbl.out.size))).bool (Hfv1.out p hlt)
          have hzv : fv N m k p = z := by rw [Hfv2.out, List.getD_eq_getElem?_getD, hz]; rfl
          have hps := pick_succ p (fv N m k)
          rw [hzv] at hps
          have Hps := hide hps
          have hidx := Hfv1.out p hlt
          obtain ⟨j, hj⟩ : ∃ j, j = kn + p := ⟨_, rfl⟩
          rw [← hj] at hcz hidx
          have hs2 : IntKind.i64.wrap ((kn : Int) + (p : Int)) = (j : Int) := by rw [hj, Int.natCast_add]; exact wrap_small (by omega) (by omega)
          have hji : (j : Int) < (mn : Int) := by omega
          have hpi : (p : Int) < (N : Int) := by omega
          clear hz hzv hps hj
          cases z with
          | false =>
            go_wp2_with fail
            go_roundw
            case rel => exact ⟨p + 1, D, q, dc, us, by omega, by go_num, rfl, by rw [Hps.out]; simpa using Hrow.out, Hb.out⟩
            case measure => simp [intOf]; omega
          | true =>
            have hsz1 := Hb.out.size
            go_wp2_with
              (at_builtin
               refine wpList_pushE rfl _ _ 22 rfl wq.heap.size 3 i0 (.int .i64 0) 8 Try.underlying22 hi0 hz0 hz1 hz2 rfl (by decide) rfl Hrow.out (fun r hr => (Hrow.out.base hr).1) [.int .i64 p] p (by intro u hu; simp at hu; subst hu; rfl) rfl (firm_int (by omega) (by omega)) (by omega) (by omega) hsz1 ?_
               intro O6 oc6 w6 hown6 hch6 hat6
               have hown6 := hown6.less (M' := fun b => wq.heap.size ≤ b) (fun i _ e => .inl e)
               have hb6 := row_below Hb.out hsz1 hch6 (fun r hr => (Hrow.out.base hr).1)
               have Hown6 := hide hown6
               have Hb6 := hide hb6
               clear hown6 hch6 hat6 hb6)
            go_roundw
            case rel => exact ⟨p + 1, O6, q + 1, oc6, _, by omega, by go_num, rfl, by rw [Hps.out]; simpa using Hown6.out, Hb6.out⟩
            case measure => simp [intOf]; omega
        · obtain rfl : N = p := by omega
          have hsz34 := Hb.out.size
          have hfr := firm_row (M := RunM B1 wr O') Hrow.out.ints Hrow.out.len (set_ints (pick_set _ _) (by omega)) (fun i hi e => by
            rcases e with e | e | e
            · exact HOk.out i e
            · omega
            · omega)
          have Hfr := hide hfr
          have hown2 := (Hown.out.keep Hb.out).less (M' := RunM B1 wr O') (fun i hi e => by
            rcases e with e | e | e
            · exact .inl e
            · exact .inr (.inl e)
            · omega)
          have Hown2 := hide hown2
          have Hbl2 := hide (Hbl.out.trans (Hb.out.mono Hbl.out.size))
          have hszw : B1 ≤ wr.heap.size := by omega
          have hnext : statesF N m (k + 1) = statesF N m k ++ [pick N (fv N m k)] := statesF_succ N m k
          have Hnext := hide hnext
          clear hfr hown2 hnext Hown
          go_wp2_with
            (at_builtin
             refine wpList_pushE rfl _ _ 40 rfl B1 22 i1 _ 24 Try.underlying40 hi1 hy0 hy1 hy2 rfl (by decide) rfl Hown2.out (fun r hr => .inl hr) [.slice D q dc] (pick N (fv N m k)) (by intro u hu; simp at hu; subst hu; rfl) rfl Hfr.out (by omega) (by omega) hszw ?_
             intro O6 oc6 w6 hown6 hch6 hat6
             have hne6 : ∀ i, blkA O' = some i → B1 ≤ i := fun i e => (Hown2.out.base e).1
             have hsz6 := hch6.size
             have hown7 := hown6.less (M' := RunM B1 w6 O6) (fun i hi e => by
               rcases e with e | e | e
               · rcases hat6 with hat6 | hat6
                 · exact .inl (.inl (by rw [← hat6]; exact e))
                 · rw [hat6] at e
                   injection e with e
                   exact .inr (by omega)
               · exact .inl (.inr (.inl e))
               · omega)
             have hbl6 := Hbl2.out.trans (hch6.below (B := w.heap.size) (fun i e => by have := hne6 i e; have := HB0.out; omega) Hbl2.out.size)
             have ht6 := hch6.blk HT2.out (fun e => by have h9 := hne6 _ e; omega)
             have Hown6 := hide hown7
             have Hbl6 := hide hbl6
             have Ht6 := hide ht6
             clear hown6 hch6 hat6 hne6 hown7 hbl6 ht6 t0 tl)
          go_roundw
          case rel => exact ⟨k + 1, O6, oc6, _, by omega, by go_num, rfl, by rw [Hnext.out]; exact Hown6.out, Hbl6.out, by omega, Ht6.out⟩
          case measure => simp [intOf]; omega
    · obtain rfl : k = S + 1 := by omega
      have hrows := Hown.out.rd
      have hsb := Hbl.out.size
      clear Hown hbr
      have Hrows := hide hrows
      obtain ⟨bs, offs, x0, A0, n0, c0, hO, hx0, hk0, hr0⟩ := hrows.sl (show 0 < S + 1 by omega)
      obtain ⟨bs2, offs2, xS, AS, nS, cS, hO2, hxS, hkS, hrS⟩ := hrows.sl (show S < S + 1 by omega)
      rw [statesF_at (by omega)] at hx0 hxS
      obtain rfl := Option.some.inj hx0
      obtain rfl := Option.some.inj hxS
      rw [hO] at hO2
      injection hO2 with hO2
      injection hO2 with e1 e2
      subst e1 e2 hO
      rw [Nat.add_zero] at hk0
      have Hr0 := hide hr0
      have HrS := hide hrS
      have hcap := Hrows.out.low
      clear hrows hx0 hxS hr0 hrS
      have hSI : (S : Int) < ((S + 1 : Nat) : Int) := by omega
      have h0I : (0 : Int) < ((S + 1 : Nat) : Int) := by omega
      have hSI2 : (S : Int) < (S : Int) + 1 := by omega
      have h0I2 : (0 : Int) < (S : Int) + 1 := by omega
      obtain ⟨u1, hu1⟩ : ∃ z, z = intsB (stF N m 0) T.init := ⟨_, rfl⟩
      obtain ⟨u2, hu2⟩ : ∃ z, z = subsetB T.goal (stF N m S) := ⟨_, rfl⟩
      have hc1 := fun W (hW : Below wq.heap.size wq W) => Ints_ct A0 I n0 c0 nI cI (stF N m 0) T.init W (Hr0.out.keep hW) (H.out.init.keep (Hbl.out.trans (hW.mono hsb)))
      have hc2 := fun W (hW : Below wq.heap.size wq W) => Subset_ct G AS nG cG nS cS T.goal (stF N m S) W (H.out.goal.keep (Hbl.out.trans (hW.mono hsb))) (HrS.out.keep hW)
      simp only [← hu1] at hc1
      simp only [← hu2] at hc2
      have Hc1 := hide hc1
      have Hc2 := hide hc2
      have Hu1 := hide hu1
      have Hu2 := hide hu2
      clear hc1 hc2 hu1 hu2
      go_upto_region 12 with (fail)
      cases u1 with
      | false =>
        go_quiet ((first | (go_at_call 28; exact quiet_call (Hc1.out _ (below_drewN (Below.refl _ _) _))) | (go_at_call 43; exact quiet_call (Hc2.out _ (below_drewN (Below.refl _ _) _)))))
        go_wp2_with fail
        go_ret
        exact ⟨ret_bool (by unfold descR; rw [← Hu1.out]; rfl), below_drewN Hbl.out _⟩
      | true =>
        cases u2 with
        | false =>
          go_quiet ((first | (go_at_call 28; exact quiet_call (Hc1.out _ (below_drewN (Below.refl _ _) _))) | (go_at_call 43; exact quiet_call (Hc2.out _ (below_drewN (Below.refl _ _) _)))))
          go_wp2_with fail
          go_ret
          exact ⟨ret_bool (by unfold descR; rw [← Hu1.out, ← Hu2.out]; rfl), below_drewN Hbl.out _⟩
        | true =>
          go_quiet ((first | (go_at_call 28; exact quiet_call (Hc1.out _ (below_drewN (Below.refl _ _) _))) | (go_at_call 43; exact quiet_call (Hc2.out _ (below_drewN (Below.refl _ _) _)))))
          obtain ⟨w3, hW⟩ : ∃ W, W = wq.drewN nq := ⟨_, rfl⟩
          have hb := below_drewN (Below.refl wq.heap.size wq) nq
          rw [← hW] at hb ⊢
          clear t0 t1 t2 t3 tl
          replace Ht := hide (Ht.out.keep hb)
          replace Hrows := hide (Hrows.out.keep hb)
          replace Hbl := hide (Hbl.out.trans (hb.mono Hbl.out.size))
          clear hW hb hk0 hkS Hr0 HrS Hc1 Hc2 hsb
          have t0 := Ht.out.cell 0
          have t1 := Ht.out.cell 1
          have t2 := Ht.out.cell 2
          have t3 := Ht.out.cell 3
          have tl := Ht.out.lt
          simp only [List.getElem?_cons_zero, List.getElem?_cons_succ] at t0 t1 t2 t3
          go_wp2_with fail
          clear t0 t1 t2 t3 tl
          go_loopw [11] (fun i wr => ∃ k : Nat, k ≤ S ∧ i = .int .i64 k ∧ Below w3.heap.size w3 wr ∧ (List.range k).all (stepR T N S m) = true) (fun i _ => S - (intOf i).toNat)
          case atStart => exact ⟨0, by omega, rfl, Below.refl _ _, by simp⟩
          case round =>
            obtain ⟨w4, rfl⟩ : ∃ V, V = wr := ⟨_, rfl⟩
            obtain ⟨k, hk, rfl, hb, hall⟩ := hrel
            replace Ht := hide (Ht.out.keep hb)
            replace Hrows := hide (Hrows.out.keep hb)
            have Hb := hide hb
            replace Hbl := hide (Hbl.out.trans (hb.mono Hbl.out.size))
            have Hall := hide hall
            clear hb hall
            have t0 := Ht.out.cell 0
            have t1 := Ht.out.cell 1
            have t2 := Ht.out.cell 2
            have t3 := Ht.out.cell 3
            have tl := Ht.out.lt
            simp only [List.getElem?_cons_zero, List.getElem?_cons_succ] at t0 t1 t2 t3
            by_cases hlt : k < S
            · have hki : (k : Int) < (S : Int) := by omega
              have hct := Hexe.out k M mn mc m w4 (by trivial) (Hm.out.keep Hbl.out) hN hS hlt hn Hl.out
              go_wp2_with fail
              with_reducible refine hct.mono ?_
              rintro e w5 ⟨hb, X, xc, rfl, hown⟩
              have hxs := set_ints (pick_set nO (sv N S nO m k)) (by omega)
              have hrx := own_rd hown rfl hxs
              have hexl := pick_set nO (sv N S nO m k)
              clear hct hown hxs
              clear t0 t1 t2 t3 tl
              replace Ht := hide (Ht.out.keep hb)
              replace Hrows := hide (Hrows.out.keep hb)
              replace Hb := hide (Hb.out.trans (hb.mono Hb.out.size))
              replace Hbl := hide (Hbl.out.trans (hb.mono Hbl.out.size))
              clear hb
              have t0 := Ht.out.cell 0
              have t1 := Ht.out.cell 1
              have t2 := Ht.out.cell 2
              have t3 := Ht.out.cell 3
              have tl := Ht.out.lt
              simp only [List.getElem?_cons_zero, List.getElem?_cons_succ] at t0 t1 t2 t3
              have Hrx := hide hrx
              have hst1 : ∀ x y r, exeF N S nO m k = x :: y :: r → stepR T N S m k = false := fun x y r e => by unfold stepR; rw [HlO.out, e]
              have hst2 : exeF N S nO m k = [] → stepR T N S m k = intsB (stF N m (k + 1)) (stF N m k) := fun e => by unfold stepR; rw [HlO.out, e]
              have hst3 : ∀ x, exeF N S nO m k = [x] → stepR T N S m k = (subsetB (opAt T.ops x).pre (stF N m k) && intsB (stF N m (k + 1)) (afterF N (opAt T.ops x) (stF N m k))) := fun x e => by unfold stepR; rw [HlO.out, e]
              have hmx : ∀ x ∈ exeF N S nO m k, 0 ≤ x ∧ x < nO := (setB_iff.1 hexl).2
              have Hst1 := hide hst1
              have Hst2 := hide hst2
              have Hst3 := hide hst3
              clear hrx hst1 hst2 hst3 hexl
              obtain ⟨ex, hex⟩ : ∃ z, z = exeF N S nO m k := ⟨_, rfl⟩
              rw [← hex] at hmx Hrx Hst1 Hst2 Hst3 ⊢
              clear hex
              obtain ⟨bk, offk, xk, Ak, nk, ck, hOk, hxk, hkk, hrk⟩ := Hrows.out.sl (show k < S + 1 by omega)
              obtain ⟨bn, offn, xn, An, nn, cn, hOn, hxn, hkn, hrn⟩ := Hrows.out.sl (show k + 1 < S + 1 by omega)
              rw [statesF_at (by omega)] at hxk hxn
              obtain rfl := Option.some.inj hxk
              obtain rfl := Option.some.inj hxn
              injection hOk with hOk
              injection hOk with e1 e2
              injection hOn with hOn
              injection hOn with e3 e4
              subst e1 e2
              subst e3 e4
              have Hrk := hide hrk
              have Hrn := hide hrn
              clear hxk hxn hrk hrn
              have hkI : (k : Int) < ((S + 1 : Nat) : Int) := by omega
              have hkI2 : (k : Int) < (S : Int) + 1 := by omega
              have hkn1 : (k : Int) + 1 < (S : Int) + 1 := by omega
              match ex, Hrx, Hst1, Hst2, Hst3, hmx with
              | [], Hrx, Hst1, Hst2, Hst3, hmx =>
                simp only [List.length_nil] at Hrx ⊢
                have hct := Ints_ct An Ak nn cn nk ck (stF N m (k + 1)) (stF N m k) w5 Hrn.out Hrk.out
                have hst := Hst2.out rfl
                obtain ⟨v1, hv1⟩ : ∃ z, z = intsB (stF N m (k + 1)) (stF N m k) := ⟨_, rfl⟩
                rw [← hv1] at hct hst
                have Hst := hide hst
                clear hv1 hst
                go_wp2_with fail
                with_reducible refine hct.mono ?_
                rintro e w6 ⟨rfl, hq⟩
                have hb := hq.below w5.heap.size
                have hb6 := Hb.out.trans (hb.mono Hb.out.size)
                have hbl6 := Hbl.out.trans (hb.mono Hbl.out.size)
                have Hb6 := hide hb6
                have Hbl6 := hide hbl6
                clear hct hq hb hb6 hbl6 t0 t1 t2 t3 tl hkk hkn
                cases v1 with
                | false =>
                  go_wp2_with fail
                  go_ret
                  exact ⟨ret_bool (descR_step hlt Hst.out).symm, Hbl6.out⟩
                | true =>
                  go_wp2_with fail
                  go_roundw
                  case rel => exact ⟨k + 1, by omega, by go_num, Hb6.out, all_succ Hall.out Hst.out⟩
                  case measure => simp [intOf]; omega
              | [x], Hrx, Hst1, Hst2, Hst3, hmx =>
                simp only [List.length_cons, List.length_nil, Nat.zero_add] at Hrx ⊢
                have hxr := hmx x (List.mem_cons_self ..)
                obtain ⟨q, rfl⟩ : ∃ q : Nat, x = (q : Int) := ⟨x.toNat, by omega⟩
                have hqn : q < nO := by omega
                obtain ⟨bx, offx, x2, rfl, hx0, hx1, hx2, hcx⟩ := Hrx.out.int (show 0 < 1 by omega)
                obtain rfl : (q : Int) = x2 := by simpa using hx0
                rw [Nat.add_zero] at hcx
                have hst := Hst3.out _ rfl
                have h01 : (0 : Int) < 1 := by omega
                clear hx0
                go_upto_region 22 with (fail)
                go_still_tail 8, (by kernel_rfl)
                change wpList _ _ _ _ _ w5.drew
                obtain ⟨w6, hW⟩ : ∃ W, W = w5.drew := ⟨_, rfl⟩
                have hb : Below w5.heap.size w5 w6 := by rw [hW]; exact (Below.refl _ _).drew
                rw [← hW]
                clear hW
                replace Ht := hide (Ht.out.keep hb)
                replace Hrows := hide (Hrows.out.keep hb)
                replace Hb := hide (Hb.out.trans (hb.mono Hb.out.size))
                replace Hbl := hide (Hbl.out.trans (hb.mono Hbl.out.size))
                replace Hrk := hide (Hrk.out.keep hb)
                replace Hrn := hide (Hrn.out.keep hb)
                replace hkk := (hb.cell (p := ⟨bs, offs + k, none⟩) (World.block_lt_of_cell? _ _ hkk)).trans hkk
                replace hkn := (hb.cell (p := ⟨bs, offs + (k + 1), none⟩) (World.block_lt_of_cell? _ _ hkn)).trans hkn
                replace hcx := (hb.cell (p := ⟨bx, offx, none⟩) (World.block_lt_of_cell? _ _ hcx)).trans hcx
                clear hb t0 t1 t2 t3 tl
                have t0 := Ht.out.cell 0
                have t1 := Ht.out.cell 1
                have t2 := Ht.out.cell 2
                have t3 := Ht.out.cell 3
                have tl := Ht.out.lt
                simp only [List.getElem?_cons_zero, List.getElem?_cons_succ] at t0 t1 t2 t3
                have hct := Happ.out Ak nk ck (stF N m k) q w6 (H.out.keep Hbl.out) Hrk.out hqn
                obtain ⟨v1, hv1⟩ : ∃ z, z = subsetB (opAt T.ops (q : Int)).pre (stF N m k) := ⟨_, rfl⟩
                rw [← hv1] at hct hst
                go_wp2_with fail
                with_reducible refine hct.mono ?_
                rintro e w7 ⟨rfl, hb⟩
                clear hct hv1
                replace Ht := hide (Ht.out.keep hb)
                replace Hrows := hide (Hrows.out.keep hb)
                replace Hb := hide (Hb.out.trans (hb.mono Hb.out.size))
                replace Hbl := hide (Hbl.out.trans (hb.mono Hbl.out.size))
                replace Hrk := hide (Hrk.out.keep hb)
                replace Hrn := hide (Hrn.out.keep hb)
                replace hkk := (hb.cell (p := ⟨bs, offs + k, none⟩) (World.block_lt_of_cell? _ _ hkk)).trans hkk
                replace hkn := (hb.cell (p := ⟨bs, offs + (k + 1), none⟩) (World.block_lt_of_cell? _ _ hkn)).trans hkn
                replace hcx := (hb.cell (p := ⟨bx, offx, none⟩) (World.block_lt_of_cell? _ _ hcx)).trans hcx
                clear hb t0 t1 t2 t3 tl
                have t0 := Ht.out.cell 0
                have t1 := Ht.out.cell 1
                have t2 := Ht.out.cell 2
                have t3 := Ht.out.cell 3
                have tl := Ht.out.lt
                simp only [List.getElem?_cons_zero, List.getElem?_cons_succ] at t0 t1 t2 t3
                cases v1 with
                | false =>
                  have Hst := hide hst
                  clear hst
                  go_wp2_with fail
                  go_ret
                  exact ⟨ret_bool (descR_step hlt Hst.out).symm, Hbl.out⟩
                | true =>
                  rw [Bool.true_and] at hst
                  go_wp2_with fail
                  go_still_tail 8, (by kernel_rfl)
                  change wpList _ _ _ _ _ w7.drew
                  obtain ⟨w8, hW⟩ : ∃ W, W = w7.drew := ⟨_, rfl⟩
                  have hb : Below w7.heap.size w7 w8 := by rw [hW]; exact (Below.refl _ _).drew
                  rw [← hW]
                  clear hW
                  replace Ht := hide (Ht.out.keep hb)
                  replace Hrows := hide (Hrows.out.keep hb)
                  replace Hb := hide (Hb.out.trans (hb.mono Hb.out.size))
                  replace Hbl := hide (Hbl.out.trans (hb.mono Hbl.out.size))
                  replace Hrk := hide (Hrk.out.keep hb)
                  replace Hrn := hide (Hrn.out.keep hb)
                  replace hkk := (hb.cell (p := ⟨bs, offs + k, none⟩) (World.block_lt_of_cell? _ _ hkk)).trans hkk
                  replace hkn := (hb.cell (p := ⟨bs, offs + (k + 1), none⟩) (World.block_lt_of_cell? _ _ hkn)).trans hkn
                  replace hcx := (hb.cell (p := ⟨bx, offx, none⟩) (World.block_lt_of_cell? _ _ hcx)).trans hcx
                  clear hb t0 t1 t2 t3 tl
                  have t0 := Ht.out.cell 0
                  have t1 := Ht.out.cell 1
                  have t2 := Ht.out.cell 2
                  have t3 := Ht.out.cell 3
                  have tl := Ht.out.lt
                  simp only [List.getElem?_cons_zero, List.getElem?_cons_succ] at t0 t1 t2 t3
                  have hct := Haft.out Ak nk ck (stF N m k) q w8 (H.out.keep Hbl.out) (by trivial) (by omega) Hrk.out hqn
                  go_wp2_with fail
                  with_reducible refine hct.mono ?_
                  rintro e w9 ⟨hb, Y, yc, rfl, hown⟩
                  have hry := own_rd hown rfl (set_ints (pick_set N _) (by omega))
                  have Hry := hide hry
                  clear hct hown hry
                  replace Ht := hide (Ht.out.keep hb)
                  replace Hrows := hide (Hrows.out.keep hb)
                  replace Hb := hide (Hb.out.trans (hb.mono Hb.out.size))
                  replace Hbl := hide (Hbl.out.trans (hb.mono Hbl.out.size))
                  replace Hrk := hide (Hrk.out.keep hb)
                  replace Hrn := hide (Hrn.out.keep hb)
                  replace hkk := (hb.cell (p := ⟨bs, offs + k, none⟩) (World.block_lt_of_cell? _ _ hkk)).trans hkk
                  replace hkn := (hb.cell (p := ⟨bs, offs + (k + 1), none⟩) (World.block_lt_of_cell? _ _ hkn)).trans hkn
                  replace hcx := (hb.cell (p := ⟨bx, offx, none⟩) (World.block_lt_of_cell? _ _ hcx)).trans hcx
                  clear hb t0 t1 t2 t3 tl
                  have t0 := Ht.out.cell 0
                  have t1 := Ht.out.cell 1
                  have t2 := Ht.out.cell 2
                  have t3 := Ht.out.cell 3
                  have tl := Ht.out.lt
                  simp only [List.getElem?_cons_zero, List.getElem?_cons_succ] at t0 t1 t2 t3
                  obtain ⟨v2, hv2⟩ : ∃ z, z = intsB (stF N m (k + 1)) (afterF N (opAt T.ops (q : Int)) (stF N m k)) := ⟨_, rfl⟩
                  have hct := Ints_ct An Y nn cn _ yc (stF N m (k + 1)) (afterF N (opAt T.ops (q : Int)) (stF N m k)) w9 Hrn.out Hry.out
                  rw [← hv2] at hct hst
                  have Hst := hide hst
                  clear hv2 hst
                  generalize (afterF N (opAt T.ops (q : Int)) (stF N m k)).length = ny at hct ⊢
                  go_wp2_with fail
                  with_reducible refine hct.mono ?_
                  rintro e w10 ⟨rfl, hq⟩
                  have hb := hq.below w9.heap.size
                  have hb6 := Hb.out.trans (hb.mono Hb.out.size)
                  have hbl6 := Hbl.out.trans (hb.mono Hbl.out.size)
                  have Hb6 := hide hb6
                  have Hbl6 := hide hbl6
                  clear hct hq hb hb6 hbl6 t0 t1 t2 t3 tl hkk hkn hcx
                  cases v2 with
                  | false =>
                    go_wp2_with fail
                    go_ret
                    exact ⟨ret_bool (descR_step hlt Hst.out).symm, Hbl6.out⟩
                  | true =>
                    go_wp2_with fail
                    go_roundw
                    case rel => exact ⟨k + 1, by omega, by go_num, Hb6.out, all_succ Hall.out Hst.out⟩
                    case measure => simp [intOf]; omega
              | x :: y :: r, Hrx, Hst1, Hst2, Hst3, hmx =>
                have hlen : (1 : Int) < (((x :: y :: r).length : Nat) : Int) := by simp only [List.length_cons]; omega
                generalize (x :: y :: r).length = ln at hlen Hrx ⊢
                go_wp2_with fail
                go_ret
                exact ⟨ret_bool (descR_step hlt (Hst1.out _ _ _ rfl)).symm, Hbl.out⟩
            · obtain rfl : S = k := by omega
              go_wp2_with fail
              go_ret
              refine ⟨ret_bool ?_, Hbl.out⟩
              unfold descR
              rw [← Hu1.out, ← Hu2.out, Hall.out]
              rfl
end Go.Proofs.Ytnfeknfakkdbhaa
namespace Go.Proofs.Ytnfeknfakkdbhaa
set_option linter.unusedVariables false
set_option linter.unusedSimpArgs false
open Go.RowKit
def EndsP (w : World) (r : Option (List Int)) (e : Ending) (w' : World) : Prop := Below w.heap.size w w' ∧
  ((r = none ∧ e = .returned (.tuple #[.slice none 0 0, .bool false])) ∨ ∃ (x : List Int) (A : Option Addr) (n c : Nat), r = some x ∧ e = .returned (.tuple #[.slice A n c, .bool true]) ∧ Rd Enc.int w' A n c x)
set_option maxRecDepth 100000 in
set_option maxHeartbeats 6400000 in
theorem Ends_ct (a : TA) (T : Tsk) (N : Nat) (P : Option Addr) (np dp : Nat) (s : List Int) (B : Option Addr) (m d : Nat) (l : List Int) (w : World) (h : TkR w a T) (hok : OkT T N) (hs : Rd Enc.int w P np dp s) (hl : Rd Enc.int w B m d l) (hset : setB N s = true) (hr : ∀ x ∈ l, 0 ≤ x ∧ x < T.ops.length) :
    Calls Try.prog 113 #[.agg #[.int .i64 T.facts, .slice a.I a.nI a.cI, .slice a.G a.nG a.cG, .slice a.O a.nO a.cO], .slice P np dp, .slice B m d] w (EndsP w (execO s (l.map (opAt T.ops)))) := by
  have happ := fun B m d l q w h1 h2 h3 => Applies_ct a T B m d l q w h1 h2 h3
  have haft := fun B m d l q w h1 h2 h3 h4 h5 => After_ct a T N B m d l q w h1 h2 h3 h4 h5
  obtain ⟨I, nI, cI, G, nG, cG, O, nO, cO⟩ := a
  simp only at happ haft ⊢
  rw [hok.facts] at happ haft ⊢
  have hN := hok.low
  have hlO := h.ops.len
  simp only at hlO
  have HlO := hide hlO
  have H := hide h
  have Hs := hide hs
  have Hl := hide hl
  have Hll := hide hl.len
  have hlm := hl.low
  have Hok := hide hok
  have Hset := hide hset
  have Hr := hide hr
  have Happ := hide happ
  have Haft := hide haft
  clear h hs hl hok hset hr happ haft hlO
  have Hbl := hide (Below.refl w.heap.size w)
  go_enter Try.func113, Try.ntmps113
  go_upto_region 1 with (fail)
  obtain ⟨B0, hB0⟩ : ∃ B0, B0 = w.heap.size := ⟨_, rfl⟩
  have HB0 := hide hB0
  clear hB0
  have s_0 : B0 ≤ w.heap.size := Nat.le_trans (Nat.le_of_eq HB0.out) Hbl.out.size
  have hyt := Blk.new (w) 25 [.int .i64 N, .slice I nI cI, .slice G nG cG, .slice O nO cO]
  have hbW : Below (w).heap.size (w) ((w).alloc (.cells #[.int .i64 N, .slice I nI cI, .slice G nG cG, .slice O nO cO] 25)) := (Below.refl _ _).alloc (Nat.le_refl _) _
  obtain ⟨w0, hW⟩ : ∃ W, W = (w).alloc (.cells #[.int .i64 N, .slice I nI cI, .slice G nG cG, .slice O nO cO] 25) := ⟨_, rfl⟩
  rw [← hW] at hyt hbW ⊢
  replace Hbl := hide (Hbl.out.trans (hbW.mono Hbl.out.size))
  have Ht := hide hyt
  clear hW hbW hyt
  generalize w.heap.size = gT at Ht s_0 ⊢
  have t0 := Ht.out.cell 0
  have t1 := Ht.out.cell 1
  have t2 := Ht.out.cell 2
  have t3 := Ht.out.cell 3
  have tl := Ht.out.lt
  simp only [List.getElem?_cons_zero, List.getElem?_cons_succ] at t0 t1 t2 t3
  have a_t : B0 ≤ gT := by omega
  clear s_0
  go_wp2_with fail
  clear t0 t1 t2 t3 tl
  go_loopw [1, 8] (fun ss i wr => ∃ (k : Nat) (P' : Option Addr) (n' c' : Nat) (s' : List Int), k ≤ m ∧ i = .int .i64 k ∧ ss = .slice P' n' c' ∧ Rd Enc.int wr P' n' c' s' ∧ setB N s' = true ∧ execO s (l.map (opAt T.ops)) = execO s' ((l.drop k).map (opAt T.ops)) ∧ Below w.heap.size w wr ∧ Blk 25 wr gT [.int .i64 N, .slice I nI cI, .slice G nG cG, .slice O nO cO]) (fun _ i _ => m - (intOf i).toNat)
  case atStart => exact ⟨0, P, np, dp, s, by omega, rfl, rfl, Hs.out.keep Hbl.out, Hset.out, rfl, Hbl.out, Ht.out⟩
  case round =>
    clear Ht Hbl
    obtain ⟨w4, rfl⟩ : ∃ V, V = wr := ⟨_, rfl⟩
    obtain ⟨k, P', n', c', s', hk, rfl, rfl, hrd, hset', hex, hbl, ht⟩ := hrel
    have Hrd := hide hrd
    have Hset' := hide hset'
    have Hex := hide hex
    have Hbl := hide hbl
    have Ht := hide ht
    clear hrd hset' hex hbl ht
    have t0 := Ht.out.cell 0
    have t1 := Ht.out.cell 1
    have t2 := Ht.out.cell 2
    have t3 := Ht.out.cell 3
    have tl := Ht.out.lt
    simp only [List.getElem?_cons_zero, List.getElem?_cons_succ] at t0 t1 t2 t3
    by_cases hlt : k < m
    · have hki : (k : Int) < (m : Int) := by omega
      obtain ⟨b, off, x, rfl, hx, hx1, hx2, hcx⟩ := (Hl.out.keep Hbl.out).int hlt
      have hxr := Hr.out x (List.mem_of_getElem? hx)
      obtain ⟨q, rfl⟩ : ∃ q : Nat, x = (q : Int) := ⟨x.toNat, by omega⟩
      have hqn : q < nO := by have := HlO.out; omega
      have hdrop := drop_cons hx
      have Hdrop := hide hdrop
      clear hx hxr hdrop
      go_upto_region 4 with (fail)
      go_still_tail 6, (by kernel_rfl)
      change wpList _ _ _ _ _ w4.drew
      obtain ⟨w5, hW⟩ : ∃ W, W = w4.drew := ⟨_, rfl⟩
      have hb : Below w4.heap.size w4 w5 := by rw [hW]; exact (Below.refl _ _).drew
      rw [← hW]
      clear hW
      replace Ht := hide (Ht.out.keep hb)
      replace Hbl := hide (Hbl.out.trans (hb.mono Hbl.out.size))
      replace Hrd := hide (Hrd.out.keep hb)
      replace hcx := (hb.cell (p := ⟨b, off + k, none⟩) (World.block_lt_of_cell? _ _ hcx)).trans hcx
      clear hb t0 t1 t2 t3 tl
      have t0 := Ht.out.cell 0
      have t1 := Ht.out.cell 1
      have t2 := Ht.out.cell 2
      have t3 := Ht.out.cell 3
      have tl := Ht.out.lt
      simp only [List.getElem?_cons_zero, List.getElem?_cons_succ] at t0 t1 t2 t3
      have hct := Happ.out P' n' c' s' q w5 (H.out.keep Hbl.out) Hrd.out hqn
      obtain ⟨v1, hv1⟩ : ∃ z, z = subsetB (opAt T.ops (q : Int)).pre s' := ⟨_, rfl⟩
      rw [← hv1] at hct
      have Hv1 := hide hv1
      go_wp2_with fail
      with_reducible refine hct.mono ?_
      rintro e w6 ⟨rfl, hb⟩
      clear hct hv1
      replace Ht := hide (Ht.out.keep hb)
      replace Hbl := hide (Hbl.out.trans (hb.mono Hbl.out.size))
      replace Hrd := hide (Hrd.out.keep hb)
      replace hcx := (hb.cell (p := ⟨b, off + k, none⟩) (World.block_lt_of_cell? _ _ hcx)).trans hcx
      clear hb t0 t1 t2 t3 tl
      have t0 := Ht.out.cell 0
      have t1 := Ht.out.cell 1
      have t2 := Ht.out.cell 2
      have t3 := Ht.out.cell 3
      have tl := Ht.out.lt
      simp only [List.getElem?_cons_zero, List.getElem?_cons_succ] at t0 t1 t2 t3
      have hop := Hok.out.ops (opAt T.ops q) (opAt_mem (by omega) (by have := HlO.out; omega))
      cases v1 with
      | false =>
        have hend : execO s (l.map (opAt T.ops)) = none := by
          rw [Hex.out, Hdrop.out, List.map_cons]
          unfold execO
          rw [if_neg (by rw [← Hv1.out]; simp)]
        have Hend := hide hend
        clear hend
        go_wp2_with fail
        go_ret2
        exact ⟨Hbl.out, .inl ⟨Hend.out, rfl⟩⟩
      | true =>
        have hnx : execO s (l.map (opAt T.ops)) = execO (afterF N (opAt T.ops (q : Int)) s') ((l.drop (k + 1)).map (opAt T.ops)) := by
          rw [Hex.out, Hdrop.out, List.map_cons]
          conv => lhs; unfold execO
          rw [if_pos Hv1.out.symm, after_upd hop Hset'.out]
        have Hnx := hide hnx
        clear hnx
        go_upto_region 6 with (fail)
        go_still_tail 6, (by kernel_rfl)
        change wpList _ _ _ _ _ w6.drew
        obtain ⟨w7, hW⟩ : ∃ W, W = w6.drew := ⟨_, rfl⟩
        have hb : Below w6.heap.size w6 w7 := by rw [hW]; exact (Below.refl _ _).drew
        rw [← hW]
        clear hW
        replace Ht := hide (Ht.out.keep hb)
        replace Hbl := hide (Hbl.out.trans (hb.mono Hbl.out.size))
        replace Hrd := hide (Hrd.out.keep hb)
        replace hcx := (hb.cell (p := ⟨b, off + k, none⟩) (World.block_lt_of_cell? _ _ hcx)).trans hcx
        clear hb t0 t1 t2 t3 tl
        have t0 := Ht.out.cell 0
        have t1 := Ht.out.cell 1
        have t2 := Ht.out.cell 2
        have t3 := Ht.out.cell 3
        have tl := Ht.out.lt
        simp only [List.getElem?_cons_zero, List.getElem?_cons_succ] at t0 t1 t2 t3
        have hct := Haft.out P' n' c' s' q w7 (H.out.keep Hbl.out) (by trivial) (by omega) Hrd.out hqn
        go_wp2_with fail
        with_reducible refine hct.mono ?_
        rintro e w8 ⟨hb, Y, yc, rfl, hown⟩
        have hry := own_rd hown rfl (set_ints (pick_set N _) (by omega))
        have Hry := hide hry
        clear hct hown hry
        replace Ht := hide (Ht.out.keep hb)
        replace Hbl := hide (Hbl.out.trans (hb.mono Hbl.out.size))
        replace Hrd := hide (Hrd.out.keep hb)
        replace hcx := (hb.cell (p := ⟨b, off + k, none⟩) (World.block_lt_of_cell? _ _ hcx)).trans hcx
        clear hb t0 t1 t2 t3 tl
        have t0 := Ht.out.cell 0
        have t1 := Ht.out.cell 1
        have t2 := Ht.out.cell 2
        have t3 := Ht.out.cell 3
        have tl := Ht.out.lt
        simp only [List.getElem?_cons_zero, List.getElem?_cons_succ] at t0 t1 t2 t3
        go_wp2_with fail
        go_roundw
        case rel => exact ⟨k + 1, Y, _, yc, _, by omega, by go_num, rfl, Hry.out, pick_set N _, Hnx.out, Hbl.out, Ht.out⟩
        case measure => simp [intOf]; omega
    · obtain rfl : m = k := by omega
      have hend : execO s (l.map (opAt T.ops)) = some s' := by
        rw [Hex.out, List.drop_of_length_le (by rw [Hll.out]; omega)]
        rfl
      have Hend := hide hend
      clear hend
      go_wp2_with fail
      go_ret2
      exact ⟨Hbl.out, .inr ⟨s', P', n', c', Hend.out, rfl, Hrd.out⟩⟩
set_option maxRecDepth 100000 in
set_option maxHeartbeats 6400000 in
theorem RWorks_ct (a : TA) (T : Tsk) (N : Nat) (P : Option Addr) (np dp : Nat) (s : List Int) (B : Option Addr) (m d : Nat) (l : List Int) (w : World) (h : TkR w a T) (hok : OkT T N) (hs : Rd Enc.int w P np dp s) (hl : Rd Enc.int w B m d l) (hset : setB N s = true) (hr : ∀ x ∈ l, 0 ≤ x ∧ x < T.ops.length) :
    Calls Try.prog 88 #[.agg #[.int .i64 T.facts, .slice a.I a.nI a.cI, .slice a.G a.nG a.cG, .slice a.O a.nO a.cO], .slice P np dp, .slice B m d] w (Gives w (.bool (worksF T s l))) := by
  have hends := Ends_ct a T N P np dp s B m d l
  obtain ⟨I, nI, cI, G, nG, cG, O, nO, cO⟩ := a
  simp only at hends ⊢
  have H := hide h
  have Hs := hide hs
  have Hl := hide hl
  have Hok := hide hok
  have Hset := hide hset
  have Hr := hide hr
  have Hends := hide hends
  clear h hs hl hok hset hr hends
  have Hbl := hide (Below.refl w.heap.size w)
  go_enter Try.func88, Try.ntmps88
  go_upto_region 1 with (fail)
  obtain ⟨B0, hB0⟩ : ∃ B0, B0 = w.heap.size := ⟨_, rfl⟩
  have HB0 := hide hB0
  clear hB0
  have s_0 : B0 ≤ w.heap.size := Nat.le_trans (Nat.le_of_eq HB0.out) Hbl.out.size
  have hyt := Blk.new (w) 25 [.int .i64 T.facts, .slice I nI cI, .slice G nG cG, .slice O nO cO]
  have hbW : Below (w).heap.size (w) ((w).alloc (.cells #[.int .i64 T.facts, .slice I nI cI, .slice G nG cG, .slice O nO cO] 25)) := (Below.refl _ _).alloc (Nat.le_refl _) _
  obtain ⟨w0, hW⟩ : ∃ W, W = (w).alloc (.cells #[.int .i64 T.facts, .slice I nI cI, .slice G nG cG, .slice O nO cO] 25) := ⟨_, rfl⟩
  rw [← hW] at hyt hbW ⊢
  replace Hbl := hide (Hbl.out.trans (hbW.mono Hbl.out.size))
  have Ht := hide hyt
  clear hW hbW hyt
  generalize w.heap.size = gT at Ht s_0 ⊢
  have t0 := Ht.out.cell 0
  have t1 := Ht.out.cell 1
  have t2 := Ht.out.cell 2
  have t3 := Ht.out.cell 3
  have tl := Ht.out.lt
  simp only [List.getElem?_cons_zero, List.getElem?_cons_succ] at t0 t1 t2 t3
  have a_t : B0 ≤ gT := by omega
  clear s_0
  go_wp2_with fail
  with_reducible refine (Hends.out w0 (H.out.keep Hbl.out) Hok.out (Hs.out.keep Hbl.out) (Hl.out.keep Hbl.out) Hset.out Hr.out).mono ?_
  rintro e w1 ⟨hb, ⟨hno, rfl⟩ | ⟨x, A, n, c, hsome, rfl, hrd⟩⟩
  · skip
    clear t0 t1 t2 t3 tl
    replace Ht := hide (Ht.out.keep hb)
    replace Hbl := hide (Hbl.out.trans (hb.mono Hbl.out.size))
    clear hb
    have t0 := Ht.out.cell 0
    have t1 := Ht.out.cell 1
    have t2 := Ht.out.cell 2
    have t3 := Ht.out.cell 3
    have tl := Ht.out.lt
    simp only [List.getElem?_cons_zero, List.getElem?_cons_succ] at t0 t1 t2 t3
    have hres : worksF T s l = false := by unfold worksF; rw [hno]
    have Hres := hide hres
    clear hres hno
    go_wp2_with fail
    go_ret
    exact ⟨ret_bool Hres.out.symm, Hbl.out⟩
  · skip
    have hres : worksF T s l = subsetB T.goal x := by unfold worksF; rw [hsome]
    have Hres := hide hres
    have Hrd := hide hrd
    clear hres hsome hrd
    clear t0 t1 t2 t3 tl
    replace Ht := hide (Ht.out.keep hb)
    replace Hbl := hide (Hbl.out.trans (hb.mono Hbl.out.size))
    clear hb
    have t0 := Ht.out.cell 0
    have t1 := Ht.out.cell 1
    have t2 := Ht.out.cell 2
    have t3 := Ht.out.cell 3
    have tl := Ht.out.lt
    simp only [List.getElem?_cons_zero, List.getElem?_cons_succ] at t0 t1 t2 t3
    have hct := Subset_ct G A nG cG n c T.goal x w1 (H.out.goal.keep Hbl.out) Hrd.out
    go_wp2_with fail
    with_reducible refine hct.mono ?_
    rintro e w2 ⟨rfl, hq⟩
    have Hq := hide hq
    clear hct hq
    go_wp2_with fail
    go_ret
    exact ⟨ret_bool (by rw [Hres.out]), Hbl.out.trans (Hq.out.below _)⟩
set_option maxRecDepth 100000 in
set_option maxHeartbeats 6400000 in
theorem RSolves_ct (a : TA) (T : Tsk) (N : Nat) (B : Option Addr) (m d : Nat) (l : List Int) (w : World) (h : TkR w a T) (hok : OkT T N) (hl : Rd Enc.int w B m d l) (hr : ∀ x ∈ l, 0 ≤ x ∧ x < T.ops.length) :
    Calls Try.prog 51 #[.agg #[.int .i64 T.facts, .slice a.I a.nI a.cI, .slice a.G a.nG a.cG, .slice a.O a.nO a.cO], .slice B m d] w (Gives w (.bool (worksF T T.init l))) := by
  have hwk := fun P np dp s w => RWorks_ct a T N P np dp s B m d l w
  obtain ⟨I, nI, cI, G, nG, cG, O, nO, cO⟩ := a
  simp only at hwk ⊢
  have H := hide h
  have Hl := hide hl
  have Hok := hide hok
  have Hr := hide hr
  have Hwk := hide hwk
  clear h hl hok hr hwk
  have Hbl := hide (Below.refl w.heap.size w)
  go_enter Try.func51, Try.ntmps51
  go_upto_region 1 with (fail)
  obtain ⟨B0, hB0⟩ : ∃ B0, B0 = w.heap.size := ⟨_, rfl⟩
  have HB0 := hide hB0
  clear hB0
  have s_0 : B0 ≤ w.heap.size := Nat.le_trans (Nat.le_of_eq HB0.out) Hbl.out.size
  have hyt := Blk.new (w) 25 [.int .i64 T.facts, .slice I nI cI, .slice G nG cG, .slice O nO cO]
  have hbW : Below (w).heap.size (w) ((w).alloc (.cells #[.int .i64 T.facts, .slice I nI cI, .slice G nG cG, .slice O nO cO] 25)) := (Below.refl _ _).alloc (Nat.le_refl _) _
  obtain ⟨w0, hW⟩ : ∃ W, W = (w).alloc (.cells #[.int .i64 T.facts, .slice I nI cI, .slice G nG cG, .slice O nO cO] 25) := ⟨_, rfl⟩
  rw [← hW] at hyt hbW ⊢
  replace Hbl := hide (Hbl.out.trans (hbW.mono Hbl.out.size))
  have Ht := hide hyt
  clear hW hbW hyt
  generalize w.heap.size = gT at Ht s_0 ⊢
  have t0 := Ht.out.cell 0
  have t1 := Ht.out.cell 1
  have t2 := Ht.out.cell 2
  have t3 := Ht.out.cell 3
  have tl := Ht.out.lt
  simp only [List.getElem?_cons_zero, List.getElem?_cons_succ] at t0 t1 t2 t3
  have a_t : B0 ≤ gT := by omega
  clear s_0
  go_wp2_with fail
  with_reducible refine (Hwk.out I nI cI T.init w0 (H.out.keep Hbl.out) Hok.out (H.out.init.keep Hbl.out) (Hl.out.keep Hbl.out) Hok.out.init Hr.out).mono ?_
  rintro e w1 ⟨rfl, hb⟩
  have Hb := hide hb
  clear hb
  go_wp2_with fail
  go_ret
  exact ⟨rfl, Hbl.out.trans (Hb.out.mono Hbl.out.size)⟩
set_option maxRecDepth 100000 in
set_option maxHeartbeats 6400000 in
theorem RPlanFault_ct (a : TA) (T : Tsk) (B : Option Addr) (m d : Nat) (l : List Int) (w : World) (h : TkR w a T) (hl : Rd Enc.int w B m d l) :
    Calls Try.prog 50 #[.agg #[.int .i64 T.facts, .slice a.I a.nI a.cI, .slice a.G a.nG a.cG, .slice a.O a.nO a.cO], .slice B m d] w (Gives w (fault (planFault T l).1 (planFault T l).2)) := by
  have hval := RTaskFault_ct a T
  obtain ⟨I, nI, cI, G, nG, cG, O, nO, cO⟩ := a
  simp only at hval ⊢
  rcases hq : taskFault T with ⟨ec, ei⟩
  rw [hq] at hval
  have hlO := h.ops.len
  have hlow := h.ops.low
  simp only at hlO hlow
  have Hq := hide hq
  have HlO := hide hlO
  have H := hide h
  have Hl := hide hl
  have Hval := hide hval
  clear hq h hl hval hlO
  have Hbl := hide (Below.refl w.heap.size w)
  go_enter Try.func50, Try.ntmps50
  go_upto_region 1 with (fail)
  obtain ⟨B0, hB0⟩ : ∃ B0, B0 = w.heap.size := ⟨_, rfl⟩
  have HB0 := hide hB0
  clear hB0
  have s_0 : B0 ≤ w.heap.size := Nat.le_trans (Nat.le_of_eq HB0.out) Hbl.out.size
  have hyt := Blk.new (w) 25 [.int .i64 T.facts, .slice I nI cI, .slice G nG cG, .slice O nO cO]
  have hyr := Blk.new ((w).alloc (.cells #[.int .i64 T.facts, .slice I nI cI, .slice G nG cG, .slice O nO cO] 25)) 29 [.int .i64 0, .int .i64 0]
  replace hyt := hyt.alloc (.cells #[.int .i64 0, .int .i64 0] 29)
  have hbW := below_two w (.cells #[.int .i64 T.facts, .slice I nI cI, .slice G nG cG, .slice O nO cO] 25) (.cells #[.int .i64 0, .int .i64 0] 29)
  simp only [World.size_alloc] at hyr
  obtain ⟨w0, hW⟩ : ∃ W, W = ((w).alloc (.cells #[.int .i64 T.facts, .slice I nI cI, .slice G nG cG, .slice O nO cO] 25)).alloc (.cells #[.int .i64 0, .int .i64 0] 29) := ⟨_, rfl⟩
  rw [← hW] at hyt hyr hbW ⊢
  replace Hbl := hide (Hbl.out.trans (hbW.mono Hbl.out.size))
  have Ht := hide hyt
  have Hr := hide hyr
  clear hW hbW hyt hyr
  generalize w.heap.size = gT at Ht Hr s_0 ⊢
  have t0 := Ht.out.cell 0
  have t1 := Ht.out.cell 1
  have t2 := Ht.out.cell 2
  have t3 := Ht.out.cell 3
  have tl := Ht.out.lt
  have r0 := Hr.out.cell 0
  have r1 := Hr.out.cell 1
  have rl := Hr.out.lt
  simp only [List.getElem?_cons_zero, List.getElem?_cons_succ] at t0 t1 t2 t3 r0 r1
  have a_t : B0 ≤ gT := by omega
  have a_r : B0 ≤ gT + 1 := by omega
  clear s_0
  have n_t_r : ¬ gT = gT + 1 := by omega
  have n_r_t : ¬ gT + 1 = gT := by omega
  go_wp2_with fail
  with_reducible refine (Hval.out w0 (H.out.keep Hbl.out)).mono ?_
  rintro e w1 ⟨rfl, hb⟩
  clear t0 t1 t2 t3 r0 r1 tl rl
  replace Ht := hide (Ht.out.keep hb)
  replace Hr := hide (Hr.out.keep hb)
  replace Hbl := hide (Hbl.out.trans (hb.mono Hbl.out.size))
  clear hb
  unfold fault
  have t0 := Ht.out.cell 0
  have t1 := Ht.out.cell 1
  have t2 := Ht.out.cell 2
  have t3 := Ht.out.cell 3
  have tl := Ht.out.lt
  have r0 := Hr.out.cell 0
  have r1 := Hr.out.cell 1
  have rl := Hr.out.lt
  simp only [List.getElem?_cons_zero, List.getElem?_cons_succ] at t0 t1 t2 t3 r0 r1
  go_upto_region 2 with (fail)
  have n_t_k : ¬ gT = w1.heap.size := by omega
  have n_k_t : ¬ w1.heap.size = gT := by omega
  have n_r_k : ¬ gT + 1 = w1.heap.size := by omega
  have n_k_r : ¬ w1.heap.size = gT + 1 := by omega
  have s_t : gT < w1.heap.size := tl
  have s_r : gT + 1 < w1.heap.size := rl
  have s_0 : B0 ≤ w1.heap.size := Nat.le_trans (Nat.le_of_eq HB0.out) Hbl.out.size
  have hyk := Blk.new (w1) 29 [.int .i64 ec, .int .i64 ei]
  have hbW : Below (w1).heap.size (w1) ((w1).alloc (.cells #[.int .i64 ec, .int .i64 ei] 29)) := (Below.refl _ _).alloc (Nat.le_refl _) _
  obtain ⟨w2, hW⟩ : ∃ W, W = (w1).alloc (.cells #[.int .i64 ec, .int .i64 ei] 29) := ⟨_, rfl⟩
  rw [← hW] at hyk hbW ⊢
  replace Ht := hide (Ht.out.keep hbW)
  replace Hr := hide (Hr.out.keep hbW)
  replace Hbl := hide (Hbl.out.trans (hbW.mono Hbl.out.size))
  have Hk := hide hyk
  clear hW hbW hyk
  generalize w1.heap.size = gk at Hk n_t_k n_k_t n_r_k n_k_r s_t s_r s_0 ⊢
  have t0 := Ht.out.cell 0
  have t1 := Ht.out.cell 1
  have t2 := Ht.out.cell 2
  have t3 := Ht.out.cell 3
  have tl := Ht.out.lt
  have r0 := Hr.out.cell 0
  have r1 := Hr.out.cell 1
  have rl := Hr.out.lt
  have k0 := Hk.out.cell 0
  have k1 := Hk.out.cell 1
  have kl := Hk.out.lt
  simp only [List.getElem?_cons_zero, List.getElem?_cons_succ] at t0 t1 t2 t3 r0 r1 k0 k1
  clear s_t
  clear s_r
  have a_k : B0 ≤ gk := by omega
  clear s_0
  by_cases hec : ec = 0
  · subst hec
    have hz := taskFault_zero (T := T) (by rw [Hq.out])
    rw [Hq.out] at hz
    obtain ⟨_, e2⟩ := Prod.mk.inj hz
    subst e2
    clear hz
    obtain ⟨sc, si, hsf⟩ : ∃ sc si, stepsFault T.ops.length l = (sc, si) := ⟨_, _, rfl⟩
    have hct := RSteps_ct nO B m d l w2 (Hl.out.keep Hbl.out) hlow
    rw [← HlO.out, hsf, HlO.out] at hct
    have Hs := hide hsf
    clear hsf
    go_wp2_with fail
    with_reducible refine (hct).mono ?_
    rintro e w3 ⟨rfl, hb⟩
    clear t0 t1 t2 t3 r0 r1 k0 k1 tl rl kl
    replace Ht := hide (Ht.out.keep hb)
    replace Hr := hide (Hr.out.keep hb)
    replace Hk := hide (Hk.out.keep hb)
    replace Hbl := hide (Hbl.out.trans (hb.mono Hbl.out.size))
    clear hb
    clear hct
    unfold fault
    have t0 := Ht.out.cell 0
    have t1 := Ht.out.cell 1
    have t2 := Ht.out.cell 2
    have t3 := Ht.out.cell 3
    have tl := Ht.out.lt
    have r0 := Hr.out.cell 0
    have r1 := Hr.out.cell 1
    have rl := Hr.out.lt
    have k0 := Hk.out.cell 0
    have k1 := Hk.out.cell 1
    have kl := Hk.out.lt
    simp only [List.getElem?_cons_zero, List.getElem?_cons_succ] at t0 t1 t2 t3 r0 r1 k0 k1
    have rf0 := Hr.out.frozen 0
    have rf1 := Hr.out.frozen 1
    have kf0 := Hk.out.frozen 0
    have kf1 := Hk.out.frozen 1
    go_upto_region 4 with (fail)
    clear rf0 rf1 kf0 kf1
    have hyb := ((Hk.out.set 0 (.int .i64 sc)).set 1 (.int .i64 si))
    simp only [List.set_cons_zero, List.set_cons_succ] at hyb
    have hbW := (below_set ((below_set (Below.refl B0 w3) (g := gk) a_k 0 (.int .i64 sc))) (g := gk) a_k 1 (.int .i64 si))
    have hcW := ((Chg.refl (fun x => x = gk) w3).trans (Chg.set _ (gk) 0 (.int .i64 sc))).trans (Chg.set _ (gk) 1 (.int .i64 si))
    obtain ⟨w4, hW⟩ : ∃ W, W = ((w3).setCell ⟨gk, 0, none⟩ (.int .i64 sc)).setCell ⟨gk, 1, none⟩ (.int .i64 si) := ⟨_, rfl⟩
    rw [← hW] at hyb hbW hcW ⊢
    replace Hk := hide hyb
    clear hW hyb
    clear t0 t1 t2 t3 r0 r1 k0 k1 tl rl kl
    replace Ht := hide (hcW.blk Ht.out (by exact n_t_k))
    replace Hr := hide (hcW.blk Hr.out (by exact n_r_k))
    replace Hbl := hide (Hbl.out.trans (hbW.mono (Nat.le_of_eq HB0.out.symm)))
    clear hbW hcW
    have t0 := Ht.out.cell 0
    have t1 := Ht.out.cell 1
    have t2 := Ht.out.cell 2
    have t3 := Ht.out.cell 3
    have tl := Ht.out.lt
    have r0 := Hr.out.cell 0
    have r1 := Hr.out.cell 1
    have rl := Hr.out.lt
    have k0 := Hk.out.cell 0
    have k1 := Hk.out.cell 1
    have kl := Hk.out.lt
    simp only [List.getElem?_cons_zero, List.getElem?_cons_succ] at t0 t1 t2 t3 r0 r1 k0 k1
    have rf0 := Hr.out.frozen 0
    have rf1 := Hr.out.frozen 1
    go_wp2_with fail
    refine bodyPost_ret (v := fault sc si) (by simp [results, Try.results50, go_sem, fault, r0, r1, rl, n_r_k, n_k_r]) rfl ?_
    have hres : planFault T l = (sc, si) := by
      unfold planFault
      rw [Hq.out, if_neg (by simp), Hs.out]
    rw [hres]
    have hbx := HB0.out
    refine ⟨rfl, ?_⟩
    repeat' (first | (with_reducible exact Hbl.out) | (with_reducible refine Below.drew ?_) | (with_reducible refine below_set ?_ ?_ _ _) | (have := HB0.out; omega))
  · have hne : (ec != 0) = true := by simpa using hec
    have hne2 : (ec == 0) = false := by simpa using hec
    have rf0 := Hr.out.frozen 0
    have rf1 := Hr.out.frozen 1
    go_wp2_with fail
    refine bodyPost_ret (v := fault ec ei) (by simp [results, Try.results50, go_sem, fault, r0, r1, rl, n_r_k, n_k_r]) rfl ?_
    have hres : planFault T l = (ec, ei) := by
      unfold planFault
      rw [Hq.out, if_pos hec]
    rw [hres]
    have hbx := HB0.out
    refine ⟨rfl, ?_⟩
    repeat' (first | (with_reducible exact Hbl.out) | (with_reducible refine Below.drew ?_) | (with_reducible refine below_set ?_ ?_ _ _) | (have := HB0.out; omega))
end Go.Proofs.Ytnfeknfakkdbhaa
namespace Go.Proofs.Ytnfeknfakkdbhaa
set_option linter.unusedVariables false
set_option linter.unusedSimpArgs false
open Go.RowKit
theorem boolInfoW : (Try.prog.info? 4).map (fun i => (i.zero, i.size, i.bytes)) = some (some (.bool false), 1, 1) := by kernel_rfl
theorem run_make_marks {P : Program} (t e : TypeId) (i : TypeInfo) (ht : P.underlying t = some (.slice e)) (hi : P.info? e = some i) (hz : i.zero = some (.bool false)) (h1 : i.size = 1) (h8 : i.bytes = 1)
    (n : Nat) (hn : n ≤ 1000000) (w : World) :
    (Instr.makeSlice t (.int .i64 (n : Int)) (.int .i64 (n : Int))).run P w = .ok (.slice (some ⟨w.heap.size, 0, none⟩) n n) (w.alloc (.cells ((markB n []).map Value.bool).toArray e)) := by
  have hr := run_make (P := P) w t e i _ ht hi hz .i64 .i64 n n (by omega) (by omega) (by rw [h8]; omega) (by omega)
  simp only [Int.toNat_natCast] at hr
  rw [hr, h1, Nat.mul_one]
  congr 3
  apply Array.ext'
  rw [markB_nil, show (Value.bool false).cells = #[Value.bool false] from rfl, toList_madeCells_one]
  simp
def BlkB (w : World) (g V : Nat) (ms : List Nat) : Prop := Blk 4 w g ((markB V ms).map Value.bool)
theorem BlkB.set {w : World} {g V j : Nat} {ms : List Nat} (h : BlkB w g V ms) (hj : j < V) : BlkB (w.setCell ⟨g, j, none⟩ (.bool true)) g V (ms ++ [j]) := by
  have := Blk.set h j (.bool true)
  rw [← List.map_set, markB_set hj] at this
  exact this
theorem BlkB.at_ {w : World} {g V j : Nat} {ms : List Nat} (h : BlkB w g V ms) (hj : j < V) : w.cell? ⟨g, j, none⟩ = some (.bool (decide (j ∈ ms))) := by
  have := Blk.cell h j
  rw [List.getElem?_map, markB_at hj] at this
  exact this
theorem BlkB.rd {w : World} {g V : Nat} {ms : List Nat} (h : BlkB w g V ms) (hV : V ≤ 1000000) : Rd Enc.bool w (some ⟨g, 0, none⟩) V V (markB V ms) :=
  ⟨markB_len V ms, Nat.le_refl _, by omega, fun h => (by cases h), fun _ => ⟨g, 0, rfl, fun j x hj => ⟨[.bool x], rfl, fun i v hi => by
    cases i with
    | succ i => simp at hi
    | zero =>
      simp at hi
      subst hi
      have hl : j < V := by have := (List.getElem?_eq_some_iff.1 hj).1; rwa [markB_len] at this
      have := Blk.cell h j
      rw [List.getElem?_map, hj] at this
      simpa [Enc.bool] using this⟩⟩⟩
def WrittenP (w : World) (V : Nat) (l : List Bool) (e : Ending) (w' : World) : Prop := Below w.heap.size w w' ∧ ∃ g, e = .returned (.slice (some ⟨g, 0, none⟩) V V) ∧ Rd Enc.bool w' (some ⟨g, 0, none⟩) V V l
set_option maxRecDepth 100000 in
set_option maxHeartbeats 6400000 in
theorem Written_ct (a : TA) (T : Tsk) (N S : Nat) (B : Option Addr) (m d : Nat) (l : List Int) (w : World) (h : TkR w a T) (hok : OkT T N) (hl : Rd Enc.int w B m d l) (hr : ∀ x ∈ l, 0 ≤ x ∧ x < T.ops.length) (hS : S ≤ 4) (hn : a.nO ≤ 40) (hlen : l.length ≤ S) :
    Calls Try.prog 52 #[.agg #[.int .i64 T.facts, .slice a.I a.nI a.cI, .slice a.G a.nG a.cG, .slice a.O a.nO a.cO], .int .i64 S, .slice B m d] w (WrittenP w (sizeN N S a.nO) (writtenF T N S l)) := by
  obtain ⟨i1, hi1, hy0, hy1, hy2⟩ := info_parts boolInfoW
  have hsz := fun w h1 h2 h3 h4 => Size_ct a T N S w h1 h2 h3 h4
  have haft := fun B m d l q w h1 h2 h3 h4 h5 => After_ct a T N B m d l q w h1 h2 h3 h4 h5
  obtain ⟨I, nI, cI, G, nG, cG, O, nO, cO⟩ := a
  simp only at hsz haft hn ⊢
  rw [hok.facts] at hsz haft ⊢
  have hN := hok.low
  have hlO := h.ops.len
  simp only at hlO
  have HlO := hide hlO
  have hVm : sizeN N S nO ≤ 10000 := by
    have h1 := Nat.mul_le_mul (show S + 1 ≤ 5 by omega) hN
    have h2 := Nat.mul_le_mul hS hn
    unfold sizeN
    omega
  obtain ⟨V, hV⟩ : ∃ V, V = sizeN N S nO := ⟨_, rfl⟩
  rw [← hV] at hsz hVm ⊢
  have hfi : ∀ k p, k ≤ S → p < N → fidx N k p < V := fun k p h1 h2 => by
    have := fidx_low h1 h2
    rw [hV]
    unfold sizeN
    omega
  have hsi : ∀ k q, k < S → q < nO → sidx N S nO k q < V := fun k q h1 h2 => by rw [hV]; exact sidx_low h1 h2
  have Hfi := hide hfi
  have Hsi := hide hsi
  have HV := hide hV
  have hmk := fun w => run_make_marks (P := Try.prog) 52 4 i1 Try.underlying52 hi1 hy0 hy1 hy2 V (by omega) w
  have Hmk := hide hmk
  have H := hide h
  have Hl := hide hl
  have Hll := hide hl.len
  have hlm := hl.low
  have Hok := hide hok
  have Hr := hide hr
  have Hsz := hide hsz
  have Haft := hide haft
  have hmS : m ≤ S := by rw [← hl.len]; exact hlen
  clear h hl hok hr hsz haft hlO hfi hsi hV hmk hlen
  have Hbl := hide (Below.refl w.heap.size w)
  go_enter Try.func52, Try.ntmps52
  go_upto_region 1 with (fail)
  obtain ⟨B0, hB0⟩ : ∃ B0, B0 = w.heap.size := ⟨_, rfl⟩
  have HB0 := hide hB0
  clear hB0
  have s_0 : B0 ≤ w.heap.size := Nat.le_trans (Nat.le_of_eq HB0.out) Hbl.out.size
  have hyt := Blk.new (w) 25 [.int .i64 N, .slice I nI cI, .slice G nG cG, .slice O nO cO]
  have hbW : Below (w).heap.size (w) ((w).alloc (.cells #[.int .i64 N, .slice I nI cI, .slice G nG cG, .slice O nO cO] 25)) := (Below.refl _ _).alloc (Nat.le_refl _) _
  obtain ⟨w0, hW⟩ : ∃ W, W = (w).alloc (.cells #[.int .i64 N, .slice I nI cI, .slice G nG cG, .slice O nO cO] 25) := ⟨_, rfl⟩
  rw [← hW] at hyt hbW ⊢
  replace Hbl := hide (Hbl.out.trans (hbW.mono Hbl.out.size))
  have Ht := hide hyt
  clear hW hbW hyt
  generalize w.heap.size = gT at Ht s_0 ⊢
  have t0 := Ht.out.cell 0
  have t1 := Ht.out.cell 1
  have t2 := Ht.out.cell 2
  have t3 := Ht.out.cell 3
  have tl := Ht.out.lt
  simp only [List.getElem?_cons_zero, List.getElem?_cons_succ] at t0 t1 t2 t3
  have a_t : B0 ≤ gT := by omega
  clear s_0
  have hct := Hsz.out w0 (by trivial) hN (by omega) (by omega)
  go_wp2_with fail
  with_reducible refine (hct).mono ?_
  rintro e w1 ⟨rfl, hb⟩
  clear t0 t1 t2 t3 tl
  replace Ht := hide (Ht.out.keep hb)
  replace Hbl := hide (Hbl.out.trans (hb.mono Hbl.out.size))
  clear hb
  clear hct
  have t0 := Ht.out.cell 0
  have t1 := Ht.out.cell 1
  have t2 := Ht.out.cell 2
  have t3 := Ht.out.cell 3
  have tl := Ht.out.lt
  simp only [List.getElem?_cons_zero, List.getElem?_cons_succ] at t0 t1 t2 t3
  have hmk := Hmk.out
  go_upto_region 2 with (fail)
  clear hmk
  have hsg := Hbl.out.size
  have hbW : Below w1.heap.size w1 (w1.alloc (.cells ((markB V []).map Value.bool).toArray 4)) := (Below.refl _ _).alloc (Nat.le_refl _) _
  have hblk : BlkB (w1.alloc (.cells ((markB V []).map Value.bool).toArray 4)) w1.heap.size V [] := Blk.new w1 _ _
  obtain ⟨gO, hgO⟩ : ∃ g, g = w1.heap.size := ⟨_, rfl⟩
  obtain ⟨w2, hW⟩ : ∃ W, W = w1.alloc (.cells ((markB V []).map Value.bool).toArray 4) := ⟨_, rfl⟩
  rw [← hW, ← hgO] at hblk
  rw [← hW] at hbW
  rw [← hW, ← hgO]
  have hgt : gT < gO := by omega
  have hB0g : w.heap.size ≤ gO := by omega
  have n1 : ¬ gT = gO := by omega
  have n2 : ¬ gO = gT := by omega
  have HblkB := hide hblk
  clear hW hgO hblk hsg
  clear t0 t1 t2 t3 tl
  replace Ht := hide (Ht.out.keep hbW)
  replace Hbl := hide (Hbl.out.trans (hbW.mono Hbl.out.size))
  clear hbW
  have t0 := Ht.out.cell 0
  have t1 := Ht.out.cell 1
  have t2 := Ht.out.cell 2
  have t3 := Ht.out.cell 3
  have tl := Ht.out.lt
  simp only [List.getElem?_cons_zero, List.getElem?_cons_succ] at t0 t1 t2 t3
  go_wp2_with fail
  clear t0 t1 t2 t3 tl
  have hrd0 : RdM (fun b => b = gO) w2 I nI cI T.init := fun w' hc => H.out.init.keep (Hbl.out.trans (hc.below (B := w.heap.size) (fun i e => by omega) Hbl.out.size))
  have Hrd0 := hide hrd0
  clear hrd0
  go_loopw [8, 9] (fun ss i wr => ∃ (k : Nat) (P' : Option Addr) (n' c' : Nat), k ≤ S + 1 ∧ i = .int .i64 k ∧ ss = .slice P' n' c' ∧ RdM (fun b => b = gO) wr P' n' c' (stAt T N S l k) ∧ BlkB wr gO V (marksF T N S l k) ∧ Below w.heap.size w wr ∧ Blk 25 wr gT [.int .i64 N, .slice I nI cI, .slice G nG cG, .slice O nO cO]) (fun _ i _ => S + 1 - (intOf i).toNat)
  case atStart => exact ⟨0, I, nI, cI, by omega, rfl, rfl, Hrd0.out, HblkB.out, Hbl.out, Ht.out⟩
  case round =>
    clear Ht Hbl HblkB Hrd0
    obtain ⟨w4, rfl⟩ : ∃ V, V = wr := ⟨_, rfl⟩
    obtain ⟨k, P', n', c', hk, rfl, rfl, hrd, hblk, hbl, ht⟩ := hrel
    have Hrd := hide hrd
    have HblkB := hide hblk
    have Hbl := hide hbl
    have Ht := hide ht
    clear hrd hblk hbl ht
    have t0 := Ht.out.cell 0
    have t1 := Ht.out.cell 1
    have t2 := Ht.out.cell 2
    have t3 := Ht.out.cell 3
    have tl := Ht.out.lt
    simp only [List.getElem?_cons_zero, List.getElem?_cons_succ] at t0 t1 t2 t3
    by_cases hkS : k ≤ S
    · skip
      have hkI : (k : Int) ≤ (S : Int) := by omega
      have hset := stAt_set (S := S) (l := l) Hok.out k
      have hsl := setB_len hset
      rw [Hrd.out.rd.len] at hsl
      have Hset := hide hset
      have hkn := mul_small (show k ≤ 10 by omega) hN (by omega)
      obtain ⟨kn, hkne⟩ : ∃ z, z = k * N := ⟨_, rfl⟩
      rw [← hkne] at hkn
      have hw1 : IntKind.i64.wrap ((k : Int) * (N : Int)) = (kn : Int) := by rw [← Int.natCast_mul, ← hkne]; exact wrap_small (by omega) (by omega)
      have Hkne := hide hkne
      clear hkne hset
      go_wp2_with fail
      clear t0 t1 t2 t3 tl
      go_loopw [10] (fun i wr => ∃ j : Nat, j ≤ n' ∧ i = .int .i64 j ∧ BlkB wr gO V (marksF T N S l k ++ ((stAt T N S l k).take j).map (fun x => fidx N k x.toNat)) ∧ Chg (fun b => b = gO) w4 wr) (fun i _ => n' - (intOf i).toNat)
      case atStart => exact ⟨0, by omega, rfl, (by simpa using HblkB.out), Chg.refl _ _⟩
      case round =>
        clear HblkB
        obtain ⟨w5, rfl⟩ : ∃ V, V = wr := ⟨_, rfl⟩
        obtain ⟨j, hj, rfl, hblk, hch⟩ := hrel
        have HblkB := hide hblk
        have Hch := hide hch
        have ht5 := hch.blk Ht.out n1
        have Ht5 := hide ht5
        have t0 := ht5.cell 0
        have t1 := ht5.cell 1
        have t2 := ht5.cell 2
        have t3 := ht5.cell 3
        have tl := ht5.lt
        simp only [List.getElem?_cons_zero, List.getElem?_cons_succ] at t0 t1 t2 t3
        clear hblk hch ht5
        by_cases hjt : j < n'
        · obtain ⟨b, off, x, rfl, hx, hx1, hx2, hcx⟩ := (Hrd.out.chg Hch.out).rd.int hjt
          have hxr := (setB_iff.1 Hset.out).2 x (List.mem_of_getElem? hx)
          obtain ⟨p, rfl⟩ : ∃ p : Nat, x = (p : Int) := ⟨x.toNat, by omega⟩
          have hpN : p < N := by omega
          have hjI : (j : Int) < (n' : Int) := by omega
          have hidx : kn + p < V := by have := Hfi.out k p hkS hpN; unfold fidx at this; rw [Hkne.out]; exact this
          have htk : ((stAt T N S l k).take (j + 1)).map (fun x => fidx N k x.toNat) = ((stAt T N S l k).take j).map (fun x => fidx N k x.toNat) ++ [kn + p] := by
            rw [List.take_add_one, hx, List.map_append]
            simp only [Option.toList_some, List.map_cons, List.map_nil, Int.toNat_natCast]
            unfold fidx
            rw [Hkne.out]
          have Htk := hide htk
          obtain ⟨z, hz⟩ : ∃ z, z = kn + p := ⟨_, rfl⟩
          rw [← hz] at hidx Htk
          have hs2 : IntKind.i64.wrap ((kn : Int) + (p : Int)) = (z : Int) := by rw [hz, Int.natCast_add]; exact wrap_small (by omega) (by omega)
          have hzI : (z : Int) < (V : Int) := by omega
          have hcz := HblkB.out.at_ hidx
          have hfz := Blk.frozen HblkB.out z
          have hlz := Blk.lt HblkB.out
          clear hx hxr htk hz
          go_upto_region 9 with (fail)
          go_region
          all_goals go_wp2_with fail
          have hbs := HblkB.out.set hidx
          have hcs := Hch.out.trans (Chg.set w5 gO z (.bool true))
          have Hbs := hide hbs
          have Hcs := hide hcs
          go_roundw
          case rel => exact ⟨j + 1, by omega, by go_num, by rw [Htk.out, ← List.append_assoc]; exact Blk.qt Hbs.out (Qt.refl _).drew, Hcs.out.trans (Chg.qt _ (Qt.refl _).drew)⟩
          case measure => simp [intOf]; omega
        · obtain rfl : n' = j := by omega
          have htl : (stAt T N S l k).take n' = stAt T N S l k := List.take_of_length_le (by rw [Hrd.out.rd.len]; omega)
          have hblk2 := HblkB.out
          rw [htl] at hblk2
          have hrd5 := Hrd.out.chg Hch.out
          have hbl5 := Hbl.out.trans (Hch.out.below (B := w.heap.size) (fun i e => by omega) Hbl.out.size)
          clear HblkB Hbl Hrd Ht htl
          have HblkB := hide hblk2
          have Hrd := hide hrd5
          have Hbl := hide hbl5
          have Ht := Ht5
          clear hblk2 hrd5 hbl5 Ht5 Hch
          by_cases hkm : k < m
          · have hkS2 : k < S := by omega
            have hkmI : (k : Int) < (m : Int) := by omega
            have hkSI : (k : Int) < (S : Int) := by omega
            obtain ⟨b, off, x, rfl, hx, hx1, hx2, hcx0⟩ := Hl.out.int hkm
            have hlb : b < w.heap.size := World.block_lt_of_cell? w _ hcx0
            have hcx := ((olds Hbl.out).1 _ _ hlb).trans hcx0
            have hxr := Hr.out x (List.mem_of_getElem? hx)
            obtain ⟨q, rfl⟩ : ∃ q : Nat, x = (q : Int) := ⟨x.toNat, by omega⟩
            have hqn : q < nO := by have := HlO.out; omega
            have hgd : l.getD k 0 = (q : Int) := by rw [List.getD_eq_getElem?_getD, hx]; rfl
            have hmn : marksF T N S l (k + 1) = marksF T N S l k ++ (stAt T N S l k).map (fun x => fidx N k x.toNat) ++ [sidx N S nO k q] := by
              conv => lhs; unfold marksF
              rw [if_pos ⟨by rw [Hll.out]; exact hkm, hkS2⟩, hgd, Int.toNat_natCast, HlO.out]
            have hsn : stAt T N S l (k + 1) = afterF N (opAt T.ops (q : Int)) (stAt T N S l k) := by
              conv => lhs; unfold stAt
              rw [if_pos ⟨by rw [Hll.out]; exact hkm, hkS2⟩, hgd]
            have hidx := Hsi.out k q hkS2 hqn
            have h1 := mul_small (show S + 1 ≤ 11 by omega) hN (by omega)
            have h2 := mul_small (show k ≤ 10 by omega) (show nO ≤ 100 by omega) (by omega)
            obtain ⟨xx, hxx⟩ : ∃ x, x = (S + 1) * N := ⟨_, rfl⟩
            obtain ⟨yy, hyy⟩ : ∃ y, y = k * nO := ⟨_, rfl⟩
            have hsx : sidx N S nO k q = xx + yy + q := by unfold sidx; rw [hxx, hyy]
            rw [← hxx] at h1
            rw [← hyy] at h2
            have hw2 : IntKind.i64.wrap (((S : Int) + 1) * (N : Int)) = (xx : Int) := by
              rw [show ((S : Int) + 1) * (N : Int) = ((S + 1) * N : Nat) by simp [Int.natCast_mul], ← hxx]
              exact wrap_small (by omega) (by omega)
            have hw3 : IntKind.i64.wrap ((k : Int) * (nO : Int)) = (yy : Int) := by
              rw [← Int.natCast_mul, ← hyy]
              exact wrap_small (by omega) (by omega)
            obtain ⟨z, hz⟩ : ∃ z, z = sidx N S nO k q := ⟨_, rfl⟩
            rw [← hz] at hidx hmn hsx
            have hs1 : IntKind.i64.wrap ((xx : Int) + (yy : Int)) = ((xx + yy : Nat) : Int) := by rw [Int.natCast_add]; exact wrap_small (by omega) (by omega)
            have hs2 : IntKind.i64.wrap (((xx + yy : Nat) : Int) + (q : Int)) = (z : Int) := by rw [hsx, Int.natCast_add]; exact wrap_small (by omega) (by omega)
            generalize xx + yy = xy at hs1 hs2
            have hzI : (z : Int) < (V : Int) := by omega
            have hcz := HblkB.out.at_ hidx
            have hfz := Blk.frozen HblkB.out z
            have hlz := Blk.lt HblkB.out
            have Hmn := hide hmn
            have Hsn := hide hsn
            clear hx hxr hgd hmn hsn hz hsx hxx hyy
            go_upto_region 11 with (fail)
            go_region
            all_goals go_wp2_with fail
            have hbs := Blk.qt (HblkB.out.set hidx) (Qt.refl _).drew
            have hc6 : Chg (fun b => b = gO) w5 ((w5.setCell ⟨gO, z, none⟩ (.bool true)).drew) := (Chg.set w5 gO z (.bool true)).trans (Chg.qt _ (Qt.refl _).drew)
            obtain ⟨w6, hW⟩ : ∃ W, W = (w5.setCell ⟨gO, z, none⟩ (.bool true)).drew := ⟨_, rfl⟩
            rw [← hW] at hbs hc6 ⊢
            have ht6 := hc6.blk Ht.out n1
            have hcx6 := ((olds (Hbl.out.trans (hc6.below (B := w.heap.size) (fun i e => by omega) Hbl.out.size))).1 _ _ hlb).trans hcx0
            have hrd6 := Hrd.out.chg hc6
            have hbl6 := Hbl.out.trans (hc6.below (B := w.heap.size) (fun i e => by omega) Hbl.out.size)
            have Hbs := hide (show BlkB w6 gO V (marksF T N S l (k + 1)) by rw [Hmn.out]; exact hbs)
            clear HblkB Hbl Hrd Ht hW hbs hc6 t0 t1 t2 t3 tl hcx hcz hfz hlz
            have Ht := hide ht6
            have Hrd := hide hrd6
            have Hbl := hide hbl6
            clear ht6 hrd6 hbl6
            have t0 := Ht.out.cell 0
            have t1 := Ht.out.cell 1
            have t2 := Ht.out.cell 2
            have t3 := Ht.out.cell 3
            have tl := Ht.out.lt
            simp only [List.getElem?_cons_zero, List.getElem?_cons_succ] at t0 t1 t2 t3
            go_still_tail 6, (by kernel_rfl)
            change wpList _ _ _ _ _ w6.drew
            obtain ⟨w7, hW⟩ : ∃ W, W = w6.drew := ⟨_, rfl⟩
            have hb : Below w6.heap.size w6 w7 := by rw [hW]; exact (Below.refl _ _).drew
            rw [← hW]
            clear hW t0 t1 t2 t3 tl hcx6
            replace Ht := hide (Ht.out.keep hb)
            replace Hrd := hide (Hrd.out.keep hb)
            replace Hbl := hide (Hbl.out.trans (hb.mono Hbl.out.size))
            replace Hbs := hide (show BlkB w7 gO V (marksF T N S l (k + 1)) from Blk.keep Hbs.out hb)
            clear hb
            have hct := Haft.out P' n' c' (stAt T N S l k) q w7 (H.out.keep Hbl.out) (by trivial) (by omega) Hrd.out.rd hqn
            go_wp2_with fail
            with_reducible refine hct.mono ?_
            rintro e w8 ⟨hb, Y, yc, rfl, hown⟩
            have hgl : gO < w7.heap.size := Blk.lt Hbs.out
            have hry := RdM.own (M := fun b => b = gO) hown (fun r hr e => by
              have := own_base hown (by rw [own_blkA]; exact hr)
              omega) rfl (set_ints (pick_set N _) (by omega))
            have Hry := hide (show RdM (fun b => b = gO) w8 Y _ yc (stAt T N S l (k + 1)) by rw [Hsn.out]; exact hry)
            clear hct hown hry
            replace Ht := hide (Ht.out.keep hb)
            replace Hbl := hide (Hbl.out.trans (hb.mono Hbl.out.size))
            replace Hbs := hide (show BlkB w8 gO V (marksF T N S l (k + 1)) from Blk.keep Hbs.out hb)
            clear hb
            go_wp2_with fail
            go_roundw
            case rel => exact ⟨k + 1, Y, _, yc, by omega, by go_num, rfl, Hry.out, Hbs.out, Hbl.out, Ht.out⟩
            case measure => simp [intOf]; omega
          · have hmn : marksF T N S l (k + 1) = marksF T N S l k ++ (stAt T N S l k).map (fun x => fidx N k x.toNat) := by
              conv => lhs; unfold marksF
              rw [if_neg (by rw [Hll.out]; omega), List.append_nil]
            have hsn : stAt T N S l (k + 1) = stAt T N S l k := by
              conv => lhs; unfold stAt
              rw [if_neg (by rw [Hll.out]; omega)]
            have Hmn := hide hmn
            have Hsn := hide hsn
            have hkm2 : decide ((k : Int) < (m : Int)) = false := by simp; omega
            clear hmn hsn
            go_wp2_with fail
            go_roundw
            case rel => exact ⟨k + 1, P', n', c', by omega, by go_num, rfl, by rw [Hsn.out]; exact Hrd.out, by rw [Hmn.out]; exact HblkB.out, Hbl.out, Ht.out⟩
            case measure => simp [intOf]; omega
    · obtain rfl : k = S + 1 := by omega
      go_wp2_with fail
      go_ret
      refine ⟨Hbl.out, gO, rfl, ?_⟩
      have hr9 := HblkB.out.rd (by omega)
      unfold writtenF
      rw [HlO.out, ← HV.out]
      exact hr9
end Go.Proofs.Ytnfeknfakkdbhaa
