/- What the laws of lowerbound ask for, part 33: Lr2 Lr4. -/
import Derived.Test.YtliggcmohcdchaaU1
import Derived.Test.YtliggcmohcdchaaU2
import Derived.Test.YtliggcmohcdchaaU3
import Derived.Test.YtliggcmohcdchaaU4
import Derived.Test.YtliggcmohcdchaaU5
import Derived.Test.YtliggcmohcdchaaU6
import Derived.Test.YtliggcmohcdchaaU7
import Derived.Test.YtliggcmohcdchaaU8
import Derived.Test.YtliggcmohcdchaaU13
import Derived.Test.YtliggcmohcdchaaU15
import Derived.Test.YtliggcmohcdchaaU16
import Derived.Test.YtliggcmohcdchaaU17
import Derived.Test.YtliggcmohcdchaaU18
import Derived.Test.YtliggcmohcdchaaU19
import Derived.Test.YtliggcmohcdchaaU20
import Derived.Test.YtliggcmohcdchaaU26
import Derived.Test.YtliggcmohcdchaaU27
import Derived.Test.YtliggcmohcdchaaU28
import Derived.Test.YtliggcmohcdchaaU32
import Derived.BigQuiet
import Derived.Deep.AppendLies
import Derived.Deep.DeepCutAuto
import Derived.Deep.Draws
import Derived.Deep.Fields
import Derived.Deep.LoopGhost
import Derived.Deep.QuietTactic
import Derived.Deep.RegionHeld3
import Derived.Deep.Slices
import Derived.DeepKeys4
import Derived.Ground.Names2Prog
import Derived.Ground.SlgnProg
import Derived.Ground.SlsfProg
import Derived.IntWalk
import Derived.Laws.AppendOwnNone
import Derived.Laws.BitsAllLaws
import Derived.Laws.OwnMore
import Derived.Lib.Hide
import Derived.Lib.SlicesCompact
import Derived.LoopIn
import Derived.LoopNIn
import Derived.Maps.AppendAt
import Derived.Maps.OwnIn
import Derived.Maps.OwnOps
import Derived.Maps.OwnSet
import Derived.OrdersHeld
import Derived.OrdersIn
import Derived.OwnWalkIn
import Derived.RangeFuncBound
import Derived.RangeFuncCalls
import Derived.RangeFuncLeaves
import Derived.RangeFuncNested
import Derived.Shelf.Abstract
import Derived.Shelf.RegionOpen
import Derived.Shelf.Slices.Cells
import Derived.Shelf.Slices.Clone
import Derived.Shelf.Slices.CompactI
import Derived.Shelf.Slices.Empties
import Derived.Shelf.Slices.In.SortNone
import Derived.Shelf.Slices.SearchI
import Derived.Shelf.Sort.Plain
import Derived.Sort.OwnSortedInts
import Derived.StillTail
import Derived.StillTailTactics
import Derived.TacticsInMore
import Derived.Test.YtliggcmohcdchaaProg
import Derived.WalkKit
namespace Go.Proofs.Ytliggcmohcdchaa
set_option linter.unusedVariables false
set_option linter.unusedSimpArgs false
open Go.RowKit
theorem bOf_range {N : Nat} (hN : N ≤ 24) {l : List Ent} (h : TabOk N l) {s : List Int} (hs : setB N s = true) : 0 ≤ bOf l s ∧ bOf l s ≤ infC := by
  rw [← bW_of hN h.set hs]
  exact bW_range h _
theorem own_rdI {w : World} {B : Nat} {A : Option Addr} {n c : Nat} {l : List Int} (h : w.ownsRow B 3 1 (.slice A n c) n (l.map (Value.int .i64))) {N : Nat} (hN : N ≤ 24) (hs : setB N l = true) (hl : l.length = n) : Rd Enc.int w A n c l :=
  own_rd h hl fun x hx => by have := (setB_iff.1 hs).2 x hx; omega
set_option maxRecDepth 100000 in
set_option maxHeartbeats 6400000 in
theorem RRaised_ct (a : TA) (T : Tsk) (N : Nat) (A : Option Addr) (n c' : Nat) (l : List Ent) (B : Option Addr) (m d : Nat) (s : List Int) (w : World) (h : TkR w a T) (hok : OkT T N) (hl : Rd Enc.ent w A n c' l) (htab : TabOk N l) (hs : Rd Enc.int w B m d s) (hset : setB N s = true) :
    Calls Try.prog 16 #[.agg #[.int .i64 T.facts, .slice a.I a.nI a.cI, .slice a.G a.nG a.cG, .slice a.O a.nO a.cO], .slice A n c', .slice B m d] w (Gives w (.int .i64 (leastF infC T.ops l s))) := by
  have happ := fun B m d l q w h hl hq => RApplies_ct a T B m d l q w h hl hq
  have haft := fun B m d l q w h hl hq => RAfter_ct a T N B m d l q w h hok.facts (by have := hok.low; omega) hl hq
  obtain ⟨I, nI, cI, G, nG, cG, O, nO, cO⟩ := a
  simp only at happ haft ⊢
  have hlO := h.ops.len
  have h40 := hok.few
  simp only at hlO
  have hnO : nO ≤ 40 := by rw [← hlO]; exact h40
  have hN := hok.low
  obtain ⟨R, hR⟩ : ∃ R, R = leastF infC T.ops l s := ⟨_, rfl⟩
  rw [← hR]
  have H := hide h
  have Hl := hide hl
  have Hs := hide hs
  have Hok := hide hok
  have Htab := hide htab
  have Hset := hide hset
  have HlO := hide hlO
  have Happ := hide happ
  have Haft := hide haft
  have HR := hide (show R = (T.ops.drop 0).foldl (leastStep l s) infC by rw [hR, List.drop_zero]; rfl)
  clear h hl hs hok htab hset hlO happ haft hR h40
  have Hbl := hide (Below.refl w.heap.size w)
  go_enter Try.func16, Try.ntmps16
  go_upto_region 1 with (fail)
  obtain ⟨B0, hB0⟩ : ∃ B0, B0 = w.heap.size := ⟨_, rfl⟩
  have HB0 := hide hB0
  clear hB0
  have s_0 : B0 ≤ w.heap.size := Nat.le_trans (Nat.le_of_eq HB0.out) Hbl.out.size
  have hyt := Blk.new (w) 25 [.int .i64 T.facts, .slice I nI cI, .slice G nG cG, .slice O nO cO]
  have hbW : Below (w).heap.size (w) ((w).alloc (.cells #[.int .i64 T.facts, .slice I nI cI, .slice G nG cG, .slice O nO cO] 25)) := (Below.refl _ _).alloc (Nat.le_refl _) _
  obtain ⟨w0, hW⟩ : ∃ W, W = (w).alloc (.cells #[.int .i64 T.facts, .slice I nI cI, .slice G nG cG, .slice O nO cO] 25) := ⟨_, rfl⟩
  rw [← hW] at hyt hbW ⊢
  replace Hbl := hide (Hbl.out.trans (hbW.mono Hbl.out.size))
  have Ht := hide hyt
  clear hW hbW hyt
  generalize w.heap.size = gT at Ht s_0 ⊢
  have t0 := Ht.out.cell 0
  have t1 := Ht.out.cell 1
  have t2 := Ht.out.cell 2
  have t3 := Ht.out.cell 3
  have tl := Ht.out.lt
  simp only [List.getElem?_cons_zero, List.getElem?_cons_succ] at t0 t1 t2 t3
  have a_t : B0 ≤ gT := by omega
  clear s_0
  go_wp2_with fail
  have hg0 := Hbl.out.size
  clear t0 t1 t2 t3 tl
  go_loopw [7, 8] (fun b i wr => ∃ (k : Nat) (bv : Int), k ≤ nO ∧ i = .int .i64 k ∧ b = .int .i64 bv ∧ 0 ≤ bv ∧ bv ≤ 1000000000 ∧ Below w0.heap.size w0 wr ∧ R = (T.ops.drop k).foldl (leastStep l s) bv) (fun _ i _ => nO - (intOf i).toNat)
  case atStart => exact ⟨0, 1000000000, by omega, rfl, rfl, by omega, by omega, Below.refl _ _, HR.out⟩
  case round =>
    obtain ⟨k, bv, hk, rfl, rfl, hb1, hb2, hb, hrk⟩ := hrel
    have Hb := hide hb
    replace HR := hide hrk
    clear hrk
    replace Ht := hide (Ht.out.keep hb)
    replace Hbl := hide (Hbl.out.trans (hb.mono Hbl.out.size))
    clear hb
    have t0 := Ht.out.cell 0
    have t1 := Ht.out.cell 1
    have t2 := Ht.out.cell 2
    have t3 := Ht.out.cell 3
    have tl := Ht.out.lt
    simp only [List.getElem?_cons_zero, List.getElem?_cons_succ] at t0 t1 t2 t3
    by_cases hlt : k < nO
    rotate_left
    · obtain rfl : k = nO := by omega
      have hr := HR.out
      rw [List.drop_of_length_le (by rw [HlO.out]; omega)] at hr
      replace HR := hide hr
      clear hr
      go_wp2_with fail
      go_ret
      exact ⟨ret_int HR.out.symm, Hbl.out⟩
    obtain ⟨b, off, o, A1, n1, c1, A2, n2, c2, A3, n3, c3, rfl, hoq, g0, g1, g2, g3, r1, r2, r3, r4⟩ := (H.out.keep Hbl.out).ops.op hlt
    have hop := Hok.out.ops o (List.mem_of_getElem? hoq)
    have hopq : opAt T.ops k = o := opAt_eq hoq
    have hr := HR.out
    rw [drop_cons hoq, List.foldl_cons] at hr
    replace HR := hide hr
    clear hr r1 r2 r3 r4 g0 g1 g2
    have hki : (k : Int) < (nO : Int) := by omega
    have hct := Happ.out B m d s k wr (H.out.keep Hbl.out) (Hs.out.keep Hbl.out) hlt
    rw [hopq] at hct
    obtain ⟨v1, hv1⟩ : ∃ z, z = subsetB o.pre s := ⟨_, rfl⟩
    rw [← hv1] at hct
    have Hv1 := hide hv1
    have Hct := hide hct
    have Hop := hide hop
    have Hopq := hide hopq
    have Hg3 := hide g3
    have hgb := World.block_lt_of_cell? wr _ g3
    clear hct hv1 hop hopq hoq g3
    go_wp2_with fail
    with_reducible refine Hct.out.mono ?_
    rintro e w1 ⟨rfl, hb⟩
    have g3 := (hb.cell (p := ⟨b, off + k * 4 + 3, none⟩) hgb).trans Hg3.out
    clear t0 t1 t2 t3 tl
    replace Ht := hide (Ht.out.keep hb)
    replace Hbl := hide (Hbl.out.trans (hb.mono Hbl.out.size))
    replace Hb := hide (Hb.out.trans (hb.mono Hb.out.size))
    clear hb Hg3 Hct
    have t0 := Ht.out.cell 0
    have t1 := Ht.out.cell 1
    have t2 := Ht.out.cell 2
    have t3 := Ht.out.cell 3
    have tl := Ht.out.lt
    simp only [List.getElem?_cons_zero, List.getElem?_cons_succ] at t0 t1 t2 t3
    cases v1 with
    | false =>
      have hr := HR.out
      rw [leastStep, if_neg (by rw [← Hv1.out]; simp)] at hr
      replace HR := hide hr
      clear hr
      go_wp2_with fail
      go_roundw
      case rel => exact ⟨k + 1, bv, by omega, by go_num, rfl, hb1, hb2, Hb.out, HR.out⟩
      case measure => simp [intOf]; omega
    | true =>
      have hr := HR.out
      rw [leastStep, if_pos (by rw [← Hv1.out])] at hr
      have hnx : setB N (updF s o.add o.del) = true := upd_setB Hset.out Hop.out
      obtain ⟨hx1, hx2⟩ := bOf_range hN Htab.out hnx
      have hc1 := Hop.out.low
      have hc2 := Hop.out.high
      unfold infC at hx2
      have haf := Haft.out B m d s k w1.drew (H.out.keep Hbl.out.drew) (Hs.out.keep Hbl.out.drew) hlt
      rw [Hopq.out, aftR_upd Hop.out Hset.out] at haf
      obtain ⟨nx, hnx0⟩ : ∃ z, z = updF s o.add o.del := ⟨_, rfl⟩
      rw [← hnx0] at hr hx1 hx2 haf hnx
      obtain ⟨x, hx⟩ : ∃ z, z = bOf l nx := ⟨_, rfl⟩
      rw [← hx] at hr hx1 hx2
      replace HR := hide hr
      have Hx := hide hx
      have Haf := hide haf
      have Hnx := hide hnx
      have hwr : IntKind.i64.wrap (o.cost + x) = o.cost + x := by rw [IntWalk.i64_in _ (by omega)]
      have hlO8 := (H.out.keep Hbl.out).ops.low
      simp only at hlO8
      clear hr hx haf hnx hnx0
      go_upto_region 6 with (fail)
      refine wp_region_held_drew (S := (fun w' => w'.cell? ⟨gT, 0, none⟩ = some (.int .i64 T.facts) ∧ w'.cell? ⟨gT, 1, none⟩ = some (.slice I nI cI) ∧ w'.cell? ⟨gT, 2, none⟩ = some (.slice G nG cG) ∧ w'.cell? ⟨gT, 3, none⟩ = some (.slice (some ⟨b, off, none⟩) nO cO) ∧ gT < w'.heap.size ∧ w'.cell? ⟨b, off + k * 4 + 3, none⟩ = some (.int .i64 o.cost))) (by kernel_rfl) ?_ (fun hHeld => ?_)
      · (try dsimp only); exact ⟨t0, t1, t2, t3, tl, g3⟩
      refine takeH (i := 0) (v := ?_) (some 21) rfl rfl (by kernel_rfl) (by kernel_rfl) (by kernel_rfl) (fun _ _ _ h => h) (Or.inl ⟨by rfl, ?_⟩) (by assumption) ?_
      rotate_left
      · intro w hSw; (try dsimp only at hSw); obtain ⟨s1, s2, s3, s4, s5, s6⟩ := hSw; first | (go_simp; done) | (go_simp; with_reducible rfl)
      try simp only [Act.put, List.setIfInBounds_toArray, List.set_cons_zero, List.set_cons_succ]
      refine takeH (i := 1) (v := ?_) (some 22) rfl rfl (by kernel_rfl) (by kernel_rfl) (by kernel_rfl) (fun _ _ _ h => h) (Or.inl ⟨by rfl, ?_⟩) (by assumption) ?_
      rotate_left
      · intro w hSw; (try dsimp only at hSw); obtain ⟨s1, s2, s3, s4, s5, s6⟩ := hSw; first | (go_simp; done) | (go_simp; with_reducible rfl)
      try simp only [Act.put, List.setIfInBounds_toArray, List.set_cons_zero, List.set_cons_succ]
      refine takeH (i := 2) (v := ?_) (some 23) rfl rfl (by kernel_rfl) (by kernel_rfl) (by kernel_rfl) (fun _ _ _ h => h) (Or.inl ⟨by rfl, ?_⟩) (by assumption) ?_
      rotate_left
      · intro w hSw; (try dsimp only at hSw); obtain ⟨s1, s2, s3, s4, s5, s6⟩ := hSw; first | (go_simp; done) | (go_simp; with_reducible rfl)
      try simp only [Act.put, List.setIfInBounds_toArray, List.set_cons_zero, List.set_cons_succ]
      refine takeH (i := 3) (v := ?_) (some 24) rfl rfl (by kernel_rfl) (by kernel_rfl) (by kernel_rfl) (fun _ _ _ h => h) (Or.inl ⟨by rfl, ?_⟩) (by assumption) ?_
      rotate_left
      · intro w hSw; (try dsimp only at hSw); obtain ⟨s1, s2, s3, s4, s5, s6⟩ := hSw; first | (go_simp; done) | (go_simp; with_reducible rfl)
      try simp only [Act.put, List.setIfInBounds_toArray, List.set_cons_zero, List.set_cons_succ]
      refine takeH (i := 4) (v := ?_) (some 25) rfl rfl (by kernel_rfl) (by kernel_rfl) (by kernel_rfl) (fun _ _ _ h => h) (Or.inl ⟨by rfl, ?_⟩) (by assumption) ?_
      rotate_left
      · intro w hSw; (try dsimp only at hSw); obtain ⟨s1, s2, s3, s4, s5, s6⟩ := hSw; first | (go_simp; done) | (go_simp; with_reducible rfl)
      try simp only [Act.put, List.setIfInBounds_toArray, List.set_cons_zero, List.set_cons_succ]
      refine takeH (i := 5) (v := ?_) (some 26) rfl rfl (by kernel_rfl) (by kernel_rfl) (by kernel_rfl) (fun _ _ _ h => h) (Or.inl ⟨by rfl, ?_⟩) (by assumption) ?_
      rotate_left
      · intro w hSw; (try dsimp only at hSw); obtain ⟨s1, s2, s3, s4, s5, s6⟩ := hSw; first | (go_simp; done) | (go_simp; with_reducible rfl)
      try simp only [Act.put, List.setIfInBounds_toArray, List.set_cons_zero, List.set_cons_succ]
      refine takeH (i := 6) (v := ?_) (some 27) rfl rfl (by kernel_rfl) (by kernel_rfl) (by kernel_rfl) (fun _ _ _ h => h) (Or.inl ⟨by rfl, ?_⟩) (by assumption) ?_
      rotate_left
      · intro w hSw; (try dsimp only at hSw); obtain ⟨s1, s2, s3, s4, s5, s6⟩ := hSw; first | (go_simp; done) | (go_simp; with_reducible rfl)
      try simp only [Act.put, List.setIfInBounds_toArray, List.set_cons_zero, List.set_cons_succ]
      refine takeH (i := 7) (v := ?_) (some 28) rfl rfl (by kernel_rfl) (by kernel_rfl) (by kernel_rfl) (fun _ _ _ h => h) (Or.inl ⟨by rfl, ?_⟩) (by assumption) ?_
      rotate_left
      · intro w hSw; (try dsimp only at hSw); obtain ⟨s1, s2, s3, s4, s5, s6⟩ := hSw; first | (go_simp; done) | (go_simp; with_reducible rfl)
      try simp only [Act.put, List.setIfInBounds_toArray, List.set_cons_zero, List.set_cons_succ]
      refine takeH (i := 8) (v := ?_) (some 29) rfl rfl (by kernel_rfl) (by kernel_rfl) (by kernel_rfl) (fun _ _ _ h => h) (Or.inl ⟨by rfl, ?_⟩) (by assumption) ?_
      rotate_left
      · intro w hSw; (try dsimp only at hSw); obtain ⟨s1, s2, s3, s4, s5, s6⟩ := hSw; first | (go_simp; done) | (go_simp; with_reducible rfl)
      try simp only [Act.put, List.setIfInBounds_toArray, List.set_cons_zero, List.set_cons_succ]
      refine takeH (i := 9) (v := ?_) (some 30) rfl rfl (by kernel_rfl) (by kernel_rfl) (by kernel_rfl) (fun _ _ _ h => h) (Or.inl ⟨by rfl, ?_⟩) (by assumption) ?_
      rotate_left
      · intro w hSw; (try dsimp only at hSw); obtain ⟨s1, s2, s3, s4, s5, s6⟩ := hSw; first | (go_simp; done) | (go_simp; with_reducible rfl)
      try simp only [Act.put, List.setIfInBounds_toArray, List.set_cons_zero, List.set_cons_succ]
      refine wpAnyH_ready (rs := [10]) (by kernel_rfl) (by simp) ?_
      refine AllReadyH.cons rfl (fun K hK => ?_) AllReadyH.nil
      go_simp
      with_reducible refine Haf.out.mono ?_
      rintro e1 w2 ⟨hb, A4, c4, rfl, hrow⟩
      have hb12 : Below w1.heap.size w1 w2 := (Below.refl _ _).drew.trans hb
      have hgb1 := World.block_lt_of_cell? w1 _ g3
      replace g3 := (hb12.cell (p := ⟨b, off + k * 4 + 3, none⟩) hgb1).trans g3
      clear t0 t1 t2 t3 tl
      replace Ht := hide (Ht.out.keep hb12)
      replace Hbl := hide (Hbl.out.trans (hb12.mono Hbl.out.size))
      replace Hb := hide (Hb.out.trans (hb12.mono Hb.out.size))
      have hlx : nx.length = nx.length := rfl
      have hrd := own_rdI hrow hN Hnx.out rfl

      clear hb hb12 hgb1 hrow hlx
      have t0 := Ht.out.cell 0
      have t1 := Ht.out.cell 1
      have t2 := Ht.out.cell 2
      have t3 := Ht.out.cell 3
      have tl := Ht.out.lt
      simp only [List.getElem?_cons_zero, List.getElem?_cons_succ] at t0 t1 t2 t3
      obtain ⟨q, hq⟩ : ∃ q, q = nx.length := ⟨_, rfl⟩
      rw [← hq] at hrd ⊢
      have hbo := RBoundOf_ct A A4 n c' q c4 l nx w2 (Hl.out.keep Hbl.out) hrd
      rw [← Hx.out] at hbo
      have Hbo := hide hbo
      clear hbo hrd hq
      refine hK.out _ _ ?_ (fun hHeld2 => ?_)
      · (try dsimp only); exact ⟨t0, t1, t2, t3, tl, g3⟩
      clear hK K hHeld
      try simp only [Act.put, List.setIfInBounds_toArray, List.set_cons_zero, List.set_cons_succ]
      have hHeld := hHeld2; clear hHeld2
      refine wpAnyH_ready (rs := [11]) (by kernel_rfl) (by simp) ?_
      refine AllReadyH.cons rfl (fun K hK => ?_) AllReadyH.nil
      go_simp
      with_reducible refine Hbo.out.mono ?_
      rintro e1 w3 ⟨rfl, hq3⟩
      have hb := hq3.below w2.heap.size
      have hgb1 := World.block_lt_of_cell? w2 _ g3
      replace g3 := (hb.cell (p := ⟨b, off + k * 4 + 3, none⟩) hgb1).trans g3
      clear t0 t1 t2 t3 tl
      replace Ht := hide (Ht.out.keep hb)
      replace Hbl := hide (Hbl.out.trans (hb.mono Hbl.out.size))
      replace Hb := hide (Hb.out.trans (hb.mono Hb.out.size))
      clear hb hq3 hgb1
      have t0 := Ht.out.cell 0
      have t1 := Ht.out.cell 1
      have t2 := Ht.out.cell 2
      have t3 := Ht.out.cell 3
      have tl := Ht.out.lt
      simp only [List.getElem?_cons_zero, List.getElem?_cons_succ] at t0 t1 t2 t3
      refine hK.out _ _ ?_ (fun hHeld2 => ?_)
      · (try dsimp only); exact ⟨t0, t1, t2, t3, tl, g3⟩
      clear hK K hHeld
      try simp only [Act.put, List.setIfInBounds_toArray, List.set_cons_zero, List.set_cons_succ]
      have hHeld := hHeld2; clear hHeld2
      refine takeH (i := 12) (v := ?_) (some 33) rfl rfl (by kernel_rfl) (by kernel_rfl) (by kernel_rfl) (fun _ _ _ h => h) (Or.inl ⟨by rfl, ?_⟩) (by assumption) ?_
      rotate_left
      · intro w hSw; (try dsimp only at hSw); obtain ⟨s1, s2, s3, s4, s5, s6⟩ := hSw; first | (go_simp; done) | (go_simp; with_reducible rfl)
      try simp only [Act.put, List.setIfInBounds_toArray, List.set_cons_zero, List.set_cons_succ]
      refine takeH (i := 13) (v := ?_) (some 9) rfl rfl (by kernel_rfl) (by kernel_rfl) (by kernel_rfl) (fun _ _ _ h => h) (Or.inl ⟨by rfl, ?_⟩) (by assumption) ?_
      rotate_left
      · intro w hSw; (try dsimp only at hSw); obtain ⟨s1, s2, s3, s4, s5, s6⟩ := hSw; first | (go_simp; done) | (go_simp; with_reducible rfl)
      try simp only [Act.put, List.setIfInBounds_toArray, List.set_cons_zero, List.set_cons_succ]
      refine wpAnyH_done (by kernel_rfl) ?_ _
      by_cases hmin : o.cost + x < bv
      · have hr := HR.out
        rw [show min bv (o.cost + x) = o.cost + x by omega] at hr
        replace HR := hide hr
        clear hr
        go_wp2_with fail
        go_roundw
        case rel => exact ⟨k + 1, o.cost + x, by omega, by go_num, rfl, by omega, by omega, Hb.out, HR.out⟩
        case measure => simp [intOf]; omega
      · have hr := HR.out
        rw [show min bv (o.cost + x) = bv by omega] at hr
        replace HR := hide hr
        clear hr
        go_wp2_with fail
        go_roundw
        case rel => exact ⟨k + 1, bv, by omega, by go_num, rfl, hb1, hb2, Hb.out, HR.out⟩
        case measure => simp [intOf]; omega
end Go.Proofs.Ytliggcmohcdchaa
namespace Go.Proofs.Ytliggcmohcdchaa
set_option linter.unusedVariables false
set_option linter.unusedSimpArgs false
open Go.RowKit
/-- two tables are the same -/
def sameE : List Ent → List Ent → Bool
  | [], [] => true
  | x :: a, y :: b => decide (x.val = y.val) && decide (x.st = y.st) && sameE a b
  | _, _ => false
theorem sameE_iff : ∀ {a b : List Ent}, sameE a b = true ↔ a = b := by
  intro a
  induction a with
  | nil => intro b; cases b <;> simp [sameE]
  | cons x a ih =>
    intro b
    cases b with
    | nil => simp [sameE]
    | cons y b =>
      rcases x with ⟨s, v⟩
      rcases y with ⟨s', v'⟩
      simp only [sameE, Bool.and_eq_true, decide_eq_true_eq, ih, List.cons.injEq, Ent.mk.injEq]
      constructor
      · rintro ⟨⟨h1, h2⟩, h3⟩; exact ⟨⟨h2, h1⟩, h3⟩
      · rintro ⟨⟨h1, h2⟩, h3⟩; exact ⟨⟨h2, h1⟩, h3⟩
theorem sameE_len {a b : List Ent} (h : a.length ≠ b.length) : sameE a b = false := by
  rw [Bool.eq_false_iff]
  intro e
  exact h (by rw [sameE_iff.1 e])
theorem sameE_drop {a b : List Ent} {k : Nat} {x y : Ent} (hx : a[k]? = some x) (hy : b[k]? = some y) : sameE (a.drop k) (b.drop k) = (decide (x.val = y.val) && decide (x.st = y.st) && sameE (a.drop (k + 1)) (b.drop (k + 1))) := by
  rw [drop_cons hx, drop_cons hy]
  rfl
set_option maxRecDepth 100000 in
set_option maxHeartbeats 3200000 in
theorem sameBounds_ct (A B : Option Addr) (n c m d : Nat) (a b : List Ent) (w : World) (ha : Rd Enc.ent w A n c a) (hb : Rd Enc.ent w B m d b) :
    Calls Try.prog 18 #[.slice A n c, .slice B m d] w (Quiet w (.bool (sameE a b))) := by
  have hlow := ha.low
  have hlow2 := hb.low
  have Hla := hide ha.len
  have Hlb := hide hb.len
  have Ha := hide ha
  have Hb := hide hb
  clear ha hb
  by_cases hnm : n = m
  · subst hnm
    obtain ⟨R, hR⟩ : ∃ R, R = sameE a b := ⟨_, rfl⟩
    rw [← hR]
    have HR := hide (show R = sameE (a.drop 0) (b.drop 0) by simpa using hR)
    clear hR
    go_enter Try.func18, Try.ntmps18
    go_wp2
    go_loopw [5] (fun i wr => ∃ k : Nat, k ≤ n ∧ i = .int .i64 k ∧ Qt w wr ∧ R = sameE (a.drop k) (b.drop k)) (fun i _ => n - (intOf i).toNat)
    case atStart => exact ⟨0, by omega, rfl, Qt.refl _, HR.out⟩
    case round =>
      obtain ⟨k, hk, rfl, hq, hrk⟩ := hrel
      by_cases hlt : k < n
      · obtain ⟨b1, o1, x, A1, n1, c1, rfl, hx, g0, g1, r1, r2⟩ := (Ha.out.qt hq).ent hlt
        obtain ⟨b2, o2, y, A2, n2, c2, rfl, hy, q0, q1, r3, r4⟩ := (Hb.out.qt hq).ent hlt
        rw [sameE_drop hx hy] at hrk
        have hct := fun W (hW : Qt wr W) => Ints_ct A1 A2 n1 c1 n2 c2 x.st y.st W (r1.qt hW) (r3.qt hW)
        have hv0 : intsB x.st y.st = decide (x.st = y.st) := rfl
        simp only [hv0] at hct
        obtain ⟨v, hv⟩ : ∃ v, v = decide (x.st = y.st) := ⟨_, rfl⟩
        rw [← hv] at hrk
        simp only [← hv] at hct
        obtain ⟨p, hp⟩ : ∃ p, p = x.val := ⟨_, rfl⟩
        obtain ⟨q, hqq⟩ : ∃ q, q = y.val := ⟨_, rfl⟩
        rw [← hp, ← hqq] at hrk
        rw [← hp] at g1
        rw [← hqq] at q1
        have Hct := hide hct
        have Hrk := hide hrk
        have Hq := hide hq
        have hki : (k : Int) < (n : Int) := by omega
        clear hct hrk hq hx hy r1 r2 r3 r4 hv hv0 hp hqq
        go_upto_region 6 with (fail)
        by_cases hpq : p = q
        · subst hpq
          have hpp : (p != p) = false := by simp
          cases v with
          | false =>
            have hr := Hrk.out
            rw [Bool.and_false, Bool.false_and] at hr
            replace Hrk := hide hr
            clear hr
            go_quiet ((go_at_call 23; with_reducible exact quiet_call (Hct.out _ ((Qt.refl _).drewN _))))
            go_wp2
            go_ret
            exact ⟨ret_bool Hrk.out.symm, Hq.out.drewN _⟩
          | true =>
            have hr := Hrk.out
            rw [decide_eq_true rfl, Bool.true_and, Bool.true_and] at hr
            replace Hrk := hide hr
            clear hr
            go_quiet ((go_at_call 23; with_reducible exact quiet_call (Hct.out _ ((Qt.refl _).drewN _))))
            go_wp2
            go_roundw
            case rel => exact ⟨k + 1, by omega, by go_num, Hq.out.drewN _, Hrk.out⟩
            case measure => simp [intOf]; omega
        · have hr := Hrk.out
          rw [decide_eq_false hpq, Bool.false_and, Bool.false_and] at hr
          replace Hrk := hide hr
          have hne : (p != q) = true := by simpa using hpq
          clear hr
          go_quiet (fail)
          go_wp2
          go_ret
          exact ⟨ret_bool Hrk.out.symm, Hq.out.drewN _⟩
      · have Hrk := hide hrk
        have Hq := hide hq
        clear hrk hq
        go_wp2
        go_ret
        refine ⟨ret_bool ?_, Hq.out⟩
        rw [Hrk.out, List.drop_of_length_le (by rw [Hla.out]; omega), List.drop_of_length_le (by rw [Hlb.out]; omega)]
        rfl
  · have hne : ((n : Int) != (m : Int)) = true := by rw [bne_iff_ne]; omega
    have Hs := hide (sameE_len (a := a) (b := b) (by rw [Hla.out, Hlb.out]; exact hnm))
    go_enter Try.func18, Try.ntmps18
    go_wp2
    go_ret
    exact ⟨ret_bool Hs.out.symm, Qt.refl _⟩
set_option maxRecDepth 100000 in
set_option maxHeartbeats 6400000 in
theorem RBoundsHold_ct (a : TA) (T : Tsk) (N : Nat) (A : Option Addr) (n c : Nat) (l : List Ent) (w : World) (h : TkR w a T) (hok : OkT T N) (hl : Rd Enc.ent w A n c l) (htab : TabOk N l) :
    Calls Try.prog 14 #[.agg #[.int .i64 T.facts, .slice a.I a.nI a.cI, .slice a.G a.nG a.cG, .slice a.O a.nO a.cO], .slice A n c] w (Gives w (.bool (holdB infC T l))) := by
  have hra := fun A n c' B m d s w h hl hs hset => RRaised_ct a T N A n c' l B m d s w h hok hl htab hs hset
  obtain ⟨I, nI, cI, G, nG, cG, O, nO, cO⟩ := a
  simp only at hra ⊢
  have hN := hok.low
  have hlow := hl.low
  have Hlen := hide hl.len
  obtain ⟨R, hR⟩ : ∃ R, R = holdB infC T l := ⟨_, rfl⟩
  rw [← hR]
  have HR := hide (show R = (l.drop 0).all (fun e => !subsetB T.goal e.st && decide (e.val ≤ leastF infC T.ops l e.st)) by rw [hR, List.drop_zero]; rfl)
  have H := hide h
  have Hl := hide hl
  have Htab := hide htab
  have Hra := hide hra
  clear h hl hok htab hR hra
  have Hbl := hide (Below.refl w.heap.size w)
  go_enter Try.func14, Try.ntmps14
  go_upto_region 1 with (fail)
  obtain ⟨B0, hB0⟩ : ∃ B0, B0 = w.heap.size := ⟨_, rfl⟩
  have HB0 := hide hB0
  clear hB0
  have s_0 : B0 ≤ w.heap.size := Nat.le_trans (Nat.le_of_eq HB0.out) Hbl.out.size
  have hyt := Blk.new (w) 25 [.int .i64 T.facts, .slice I nI cI, .slice G nG cG, .slice O nO cO]
  have hbW : Below (w).heap.size (w) ((w).alloc (.cells #[.int .i64 T.facts, .slice I nI cI, .slice G nG cG, .slice O nO cO] 25)) := (Below.refl _ _).alloc (Nat.le_refl _) _
  obtain ⟨w0, hW⟩ : ∃ W, W = (w).alloc (.cells #[.int .i64 T.facts, .slice I nI cI, .slice G nG cG, .slice O nO cO] 25) := ⟨_, rfl⟩
  rw [← hW] at hyt hbW ⊢
  replace Hbl := hide (Hbl.out.trans (hbW.mono Hbl.out.size))
  have Ht := hide hyt
  clear hW hbW hyt
  generalize w.heap.size = gT at Ht s_0 ⊢
  have t0 := Ht.out.cell 0
  have t1 := Ht.out.cell 1
  have t2 := Ht.out.cell 2
  have t3 := Ht.out.cell 3
  have tl := Ht.out.lt
  simp only [List.getElem?_cons_zero, List.getElem?_cons_succ] at t0 t1 t2 t3
  have a_t : B0 ≤ gT := by omega
  clear s_0
  go_wp2_with fail
  have hg0 := Hbl.out.size
  clear t0 t1 t2 t3 tl
  go_loopw [5] (fun i wr => ∃ k : Nat, k ≤ n ∧ i = .int .i64 k ∧ Below w0.heap.size w0 wr ∧ R = (l.drop k).all (fun e => !subsetB T.goal e.st && decide (e.val ≤ leastF infC T.ops l e.st))) (fun i _ => n - (intOf i).toNat)
  case atStart => exact ⟨0, by omega, rfl, Below.refl _ _, HR.out⟩
  case round =>
    obtain ⟨k, hk, rfl, hb, hrk⟩ := hrel
    have Hb := hide hb
    replace HR := hide hrk
    clear hrk
    replace Ht := hide (Ht.out.keep hb)
    replace Hbl := hide (Hbl.out.trans (hb.mono Hbl.out.size))
    clear hb
    have t0 := Ht.out.cell 0
    have t1 := Ht.out.cell 1
    have t2 := Ht.out.cell 2
    have t3 := Ht.out.cell 3
    have tl := Ht.out.lt
    simp only [List.getElem?_cons_zero, List.getElem?_cons_succ] at t0 t1 t2 t3
    by_cases hlt : k < n
    rotate_left
    · obtain rfl : k = n := by omega
      have hr := HR.out
      rw [List.drop_of_length_le (by rw [Hlen.out]; omega)] at hr
      replace HR := hide hr
      clear hr
      go_wp2_with fail
      go_ret
      exact ⟨ret_bool HR.out.symm, Hbl.out⟩
    obtain ⟨b, off, e, A1, n1, c1, rfl, he, g0, g1, r1, r2⟩ := (Hl.out.keep Hbl.out).ent hlt
    have hset := Htab.out.set e (List.mem_of_getElem? he)
    have hr := HR.out
    rw [drop_cons he, List.all_cons] at hr
    replace HR := hide hr
    clear hr
    have Hr1 := hide r1
    have hki : (k : Int) < (n : Int) := by omega
    have hgb := World.block_lt_of_cell? wr _ g0
    have hct := fun W (hW : Qt wr W) => Subset_ct G A1 nG cG n1 c1 T.goal e.st W ((H.out.keep Hbl.out).goal.qt hW) (r1.qt hW)
    obtain ⟨v1, hv1⟩ : ∃ z, z = subsetB T.goal e.st := ⟨_, rfl⟩
    simp only [← hv1] at hct
    have hr := HR.out
    rw [← hv1] at hr
    replace HR := hide hr
    clear hr
    obtain ⟨x, hx⟩ : ∃ z, z = leastF infC T.ops l e.st := ⟨_, rfl⟩
    have hr := HR.out
    rw [← hx] at hr
    replace HR := hide hr
    clear hr
    have Hct := hide hct
    have Hset := hide hset
    have Hx := hide hx
    obtain ⟨hv_1, hv_2⟩ := r2
    obtain ⟨p, hp⟩ : ∃ p, p = e.val := ⟨_, rfl⟩
    have hr := HR.out
    rw [← hp] at hr g1
    replace HR := hide hr
    clear hr hct hv1 hset hx he r1 hp
    go_upto_region 4 with (fail)
    cases v1 with
    | true =>
      have hr := HR.out
      rw [Bool.not_true, Bool.false_and, Bool.false_and] at hr
      replace HR := hide hr
      clear hr
      go_quiet ((go_at_call 42; with_reducible exact quiet_call (Hct.out _ ((Qt.refl _).drewN _))))
      go_wp2
      go_ret
      exact ⟨ret_bool HR.out.symm, below_drewN Hbl.out _⟩
    | false =>
      have hr := HR.out
      rw [Bool.not_false, Bool.true_and] at hr
      replace HR := hide hr
      clear hr
      refine wp_region_held_drew (S := (fun w' => w'.cell? ⟨gT, 0, none⟩ = some (.int .i64 T.facts) ∧ w'.cell? ⟨gT, 1, none⟩ = some (.slice I nI cI) ∧ w'.cell? ⟨gT, 2, none⟩ = some (.slice G nG cG) ∧ w'.cell? ⟨gT, 3, none⟩ = some (.slice O nO cO) ∧ gT < w'.heap.size ∧ w'.cell? ⟨b, off + k * 2, none⟩ = some (.slice A1 n1 c1) ∧ w'.cell? ⟨b, off + k * 2 + 1, none⟩ = some (.int .i64 p))) (by kernel_rfl) ?_ (fun hHeld => ?_)
      · (try dsimp only); exact ⟨t0, t1, t2, t3, tl, g0, g1⟩
      refine takeH (i := 0) (v := ?_) (some 12) rfl rfl (by kernel_rfl) (by kernel_rfl) (by kernel_rfl) (fun _ _ _ h => h) (Or.inl ⟨by rfl, ?_⟩) (by assumption) ?_
      rotate_left
      · intro w hSw; (try dsimp only at hSw); obtain ⟨s1, s2, s3, s4, s5, s6, s7⟩ := hSw; first | (go_simp; done) | (go_simp; with_reducible rfl)
      try simp only [Act.put, List.setIfInBounds_toArray, List.set_cons_zero, List.set_cons_succ]
      refine takeH (i := 1) (v := ?_) (some 13) rfl rfl (by kernel_rfl) (by kernel_rfl) (by kernel_rfl) (fun _ _ _ h => h) (Or.inl ⟨by rfl, ?_⟩) (by assumption) ?_
      rotate_left
      · intro w hSw; (try dsimp only at hSw); obtain ⟨s1, s2, s3, s4, s5, s6, s7⟩ := hSw; first | (go_simp; done) | (go_simp; with_reducible rfl)
      try simp only [Act.put, List.setIfInBounds_toArray, List.set_cons_zero, List.set_cons_succ]
      refine takeH (i := 2) (v := ?_) (some 14) rfl rfl (by kernel_rfl) (by kernel_rfl) (by kernel_rfl) (fun _ _ _ h => h) (Or.inl ⟨by rfl, ?_⟩) (by assumption) ?_
      rotate_left
      · intro w hSw; (try dsimp only at hSw); obtain ⟨s1, s2, s3, s4, s5, s6, s7⟩ := hSw; first | (go_simp; done) | (go_simp; with_reducible rfl)
      try simp only [Act.put, List.setIfInBounds_toArray, List.set_cons_zero, List.set_cons_succ]
      refine takeH (i := 3) (v := ?_) (some 15) rfl rfl (by kernel_rfl) (by kernel_rfl) (by kernel_rfl) (fun _ _ _ h => h) (Or.inl ⟨by rfl, ?_⟩) (by assumption) ?_
      rotate_left
      · intro w hSw; (try dsimp only at hSw); obtain ⟨s1, s2, s3, s4, s5, s6, s7⟩ := hSw; first | (go_simp; done) | (go_simp; with_reducible rfl)
      try simp only [Act.put, List.setIfInBounds_toArray, List.set_cons_zero, List.set_cons_succ]
      refine takeH (i := 4) (v := ?_) (some 16) rfl rfl (by kernel_rfl) (by kernel_rfl) (by kernel_rfl) (fun _ _ _ h => h) (Or.inl ⟨by rfl, ?_⟩) (by assumption) ?_
      rotate_left
      · intro w hSw; (try dsimp only at hSw); obtain ⟨s1, s2, s3, s4, s5, s6, s7⟩ := hSw; first | (go_simp; done) | (go_simp; with_reducible rfl)
      try simp only [Act.put, List.setIfInBounds_toArray, List.set_cons_zero, List.set_cons_succ]
      refine takeH (i := 5) (v := ?_) (some 17) rfl rfl (by kernel_rfl) (by kernel_rfl) (by kernel_rfl) (fun _ _ _ h => h) (Or.inl ⟨by rfl, ?_⟩) (by assumption) ?_
      rotate_left
      · intro w hSw; (try dsimp only at hSw); obtain ⟨s1, s2, s3, s4, s5, s6, s7⟩ := hSw; first | (go_simp; done) | (go_simp; with_reducible rfl)
      try simp only [Act.put, List.setIfInBounds_toArray, List.set_cons_zero, List.set_cons_succ]
      refine takeH (i := 6) (v := ?_) (some 18) rfl rfl (by kernel_rfl) (by kernel_rfl) (by kernel_rfl) (fun _ _ _ h => h) (Or.inl ⟨by rfl, ?_⟩) (by assumption) ?_
      rotate_left
      · intro w hSw; (try dsimp only at hSw); obtain ⟨s1, s2, s3, s4, s5, s6, s7⟩ := hSw; first | (go_simp; done) | (go_simp; with_reducible rfl)
      try simp only [Act.put, List.setIfInBounds_toArray, List.set_cons_zero, List.set_cons_succ]
      refine wpAnyH_ready (rs := [7]) (by kernel_rfl) (by simp) ?_
      refine AllReadyH.cons rfl (fun K hK => ?_) AllReadyH.nil
      go_simp
      with_reducible refine (Hct.out wr.drew ((Qt.refl _).drew)).mono ?_
      rintro e1 w2 ⟨rfl, hq⟩
      have hb := ((Qt.refl wr).drew.trans hq).below wr.heap.size
      clear hq Hct
      replace g0 := (hb.cell (p := ⟨b, off + k * 2, none⟩) hgb).trans g0
      replace g1 := (hb.cell (p := ⟨b, off + k * 2 + 1, none⟩) hgb).trans g1
      replace hgb := Nat.lt_of_lt_of_le hgb hb.size
      clear t0 t1 t2 t3 tl
      replace Ht := hide (Ht.out.keep hb)
      replace Hr1 := hide (Hr1.out.keep hb)
      replace Hbl := hide (Hbl.out.trans (hb.mono Hbl.out.size))
      replace Hb := hide (Hb.out.trans (hb.mono Hb.out.size))
      clear hb
      have t0 := Ht.out.cell 0
      have t1 := Ht.out.cell 1
      have t2 := Ht.out.cell 2
      have t3 := Ht.out.cell 3
      have tl := Ht.out.lt
      simp only [List.getElem?_cons_zero, List.getElem?_cons_succ] at t0 t1 t2 t3
      have hraw := Hra.out (some ⟨b, off, none⟩) n c A1 n1 c1 e.st w2 (H.out.keep Hbl.out) (Hl.out.keep Hbl.out) Hr1.out Hset.out
      rw [← Hx.out] at hraw
      have Hraw := hide hraw
      clear hraw
      refine hK.out _ _ ?_ (fun hHeld2 => ?_)
      · (try dsimp only); exact ⟨t0, t1, t2, t3, tl, g0, g1⟩
      clear hK K hHeld
      try simp only [Act.put, List.setIfInBounds_toArray, List.set_cons_zero, List.set_cons_succ]
      have hHeld := hHeld2; clear hHeld2
      refine takeH (i := 8) (v := ?_) (some 20) rfl rfl (by kernel_rfl) (by kernel_rfl) (by kernel_rfl) (fun _ _ _ h => h) (Or.inl ⟨by rfl, ?_⟩) (by assumption) ?_
      rotate_left
      · intro w hSw; (try dsimp only at hSw); obtain ⟨s1, s2, s3, s4, s5, s6, s7⟩ := hSw; first | (go_simp; done) | (go_simp; with_reducible rfl)
      try simp only [Act.put, List.setIfInBounds_toArray, List.set_cons_zero, List.set_cons_succ]
      refine takeH (i := 9) (v := ?_) (some 21) rfl rfl (by kernel_rfl) (by kernel_rfl) (by kernel_rfl) (fun _ _ _ h => h) (Or.inl ⟨by rfl, ?_⟩) (by assumption) ?_
      rotate_left
      · intro w hSw; (try dsimp only at hSw); obtain ⟨s1, s2, s3, s4, s5, s6, s7⟩ := hSw; first | (go_simp; done) | (go_simp; with_reducible rfl)
      try simp only [Act.put, List.setIfInBounds_toArray, List.set_cons_zero, List.set_cons_succ]
      refine takeH (i := 10) (v := ?_) (some 22) rfl rfl (by kernel_rfl) (by kernel_rfl) (by kernel_rfl) (fun _ _ _ h => h) (Or.inl ⟨by rfl, ?_⟩) (by assumption) ?_
      rotate_left
      · intro w hSw; (try dsimp only at hSw); obtain ⟨s1, s2, s3, s4, s5, s6, s7⟩ := hSw; first | (go_simp; done) | (go_simp; with_reducible rfl)
      try simp only [Act.put, List.setIfInBounds_toArray, List.set_cons_zero, List.set_cons_succ]
      refine takeH (i := 11) (v := ?_) (some 23) rfl rfl (by kernel_rfl) (by kernel_rfl) (by kernel_rfl) (fun _ _ _ h => h) (Or.inl ⟨by rfl, ?_⟩) (by assumption) ?_
      rotate_left
      · intro w hSw; (try dsimp only at hSw); obtain ⟨s1, s2, s3, s4, s5, s6, s7⟩ := hSw; first | (go_simp; done) | (go_simp; with_reducible rfl)
      try simp only [Act.put, List.setIfInBounds_toArray, List.set_cons_zero, List.set_cons_succ]
      refine takeH (i := 12) (v := ?_) (some 24) rfl rfl (by kernel_rfl) (by kernel_rfl) (by kernel_rfl) (fun _ _ _ h => h) (Or.inl ⟨by rfl, ?_⟩) (by assumption) ?_
      rotate_left
      · intro w hSw; (try dsimp only at hSw); obtain ⟨s1, s2, s3, s4, s5, s6, s7⟩ := hSw; first | (go_simp; done) | (go_simp; with_reducible rfl)
      try simp only [Act.put, List.setIfInBounds_toArray, List.set_cons_zero, List.set_cons_succ]
      refine takeH (i := 13) (v := ?_) (some 25) rfl rfl (by kernel_rfl) (by kernel_rfl) (by kernel_rfl) (fun _ _ _ h => h) (Or.inl ⟨by rfl, ?_⟩) (by assumption) ?_
      rotate_left
      · intro w hSw; (try dsimp only at hSw); obtain ⟨s1, s2, s3, s4, s5, s6, s7⟩ := hSw; first | (go_simp; done) | (go_simp; with_reducible rfl)
      try simp only [Act.put, List.setIfInBounds_toArray, List.set_cons_zero, List.set_cons_succ]
      refine takeH (i := 14) (v := ?_) (some 26) rfl rfl (by kernel_rfl) (by kernel_rfl) (by kernel_rfl) (fun _ _ _ h => h) (Or.inl ⟨by rfl, ?_⟩) (by assumption) ?_
      rotate_left
      · intro w hSw; (try dsimp only at hSw); obtain ⟨s1, s2, s3, s4, s5, s6, s7⟩ := hSw; first | (go_simp; done) | (go_simp; with_reducible rfl)
      try simp only [Act.put, List.setIfInBounds_toArray, List.set_cons_zero, List.set_cons_succ]
      refine takeH (i := 15) (v := ?_) (some 27) rfl rfl (by kernel_rfl) (by kernel_rfl) (by kernel_rfl) (fun _ _ _ h => h) (Or.inl ⟨by rfl, ?_⟩) (by assumption) ?_
      rotate_left
      · intro w hSw; (try dsimp only at hSw); obtain ⟨s1, s2, s3, s4, s5, s6, s7⟩ := hSw; first | (go_simp; done) | (go_simp; with_reducible rfl)
      try simp only [Act.put, List.setIfInBounds_toArray, List.set_cons_zero, List.set_cons_succ]
      refine takeH (i := 16) (v := ?_) (some 28) rfl rfl (by kernel_rfl) (by kernel_rfl) (by kernel_rfl) (fun _ _ _ h => h) (Or.inl ⟨by rfl, ?_⟩) (by assumption) ?_
      rotate_left
      · intro w hSw; (try dsimp only at hSw); obtain ⟨s1, s2, s3, s4, s5, s6, s7⟩ := hSw; first | (go_simp; done) | (go_simp; with_reducible rfl)
      try simp only [Act.put, List.setIfInBounds_toArray, List.set_cons_zero, List.set_cons_succ]
      refine takeH (i := 17) (v := ?_) (some 29) rfl rfl (by kernel_rfl) (by kernel_rfl) (by kernel_rfl) (fun _ _ _ h => h) (Or.inl ⟨by rfl, ?_⟩) (by assumption) ?_
      rotate_left
      · intro w hSw; (try dsimp only at hSw); obtain ⟨s1, s2, s3, s4, s5, s6, s7⟩ := hSw; first | (go_simp; done) | (go_simp; with_reducible rfl)
      try simp only [Act.put, List.setIfInBounds_toArray, List.set_cons_zero, List.set_cons_succ]
      refine takeH (i := 18) (v := ?_) (some 30) rfl rfl (by kernel_rfl) (by kernel_rfl) (by kernel_rfl) (fun _ _ _ h => h) (Or.inl ⟨by rfl, ?_⟩) (by assumption) ?_
      rotate_left
      · intro w hSw; (try dsimp only at hSw); obtain ⟨s1, s2, s3, s4, s5, s6, s7⟩ := hSw; first | (go_simp; done) | (go_simp; with_reducible rfl)
      try simp only [Act.put, List.setIfInBounds_toArray, List.set_cons_zero, List.set_cons_succ]
      refine takeH (i := 19) (v := ?_) (some 31) rfl rfl (by kernel_rfl) (by kernel_rfl) (by kernel_rfl) (fun _ _ _ h => h) (Or.inl ⟨by rfl, ?_⟩) (by assumption) ?_
      rotate_left
      · intro w hSw; (try dsimp only at hSw); obtain ⟨s1, s2, s3, s4, s5, s6, s7⟩ := hSw; first | (go_simp; done) | (go_simp; with_reducible rfl)
      try simp only [Act.put, List.setIfInBounds_toArray, List.set_cons_zero, List.set_cons_succ]
      refine takeH (i := 20) (v := ?_) (some 32) rfl rfl (by kernel_rfl) (by kernel_rfl) (by kernel_rfl) (fun _ _ _ h => h) (Or.inl ⟨by rfl, ?_⟩) (by assumption) ?_
      rotate_left
      · intro w hSw; (try dsimp only at hSw); obtain ⟨s1, s2, s3, s4, s5, s6, s7⟩ := hSw; first | (go_simp; done) | (go_simp; with_reducible rfl)
      try simp only [Act.put, List.setIfInBounds_toArray, List.set_cons_zero, List.set_cons_succ]
      refine wpAnyH_ready (rs := [21]) (by kernel_rfl) (by simp) ?_
      refine AllReadyH.cons rfl (fun K hK => ?_) AllReadyH.nil
      go_simp
      with_reducible refine Hraw.out.mono ?_
      rintro e1 w3 ⟨rfl, hb⟩
      replace g0 := (hb.cell (p := ⟨b, off + k * 2, none⟩) hgb).trans g0
      replace g1 := (hb.cell (p := ⟨b, off + k * 2 + 1, none⟩) hgb).trans g1
      replace hgb := Nat.lt_of_lt_of_le hgb hb.size
      clear t0 t1 t2 t3 tl
      replace Ht := hide (Ht.out.keep hb)
      replace Hr1 := hide (Hr1.out.keep hb)
      replace Hbl := hide (Hbl.out.trans (hb.mono Hbl.out.size))
      replace Hb := hide (Hb.out.trans (hb.mono Hb.out.size))
      clear hb
      have t0 := Ht.out.cell 0
      have t1 := Ht.out.cell 1
      have t2 := Ht.out.cell 2
      have t3 := Ht.out.cell 3
      have tl := Ht.out.lt
      simp only [List.getElem?_cons_zero, List.getElem?_cons_succ] at t0 t1 t2 t3
      refine hK.out _ _ ?_ (fun hHeld2 => ?_)
      · (try dsimp only); exact ⟨t0, t1, t2, t3, tl, g0, g1⟩
      clear hK K hHeld
      try simp only [Act.put, List.setIfInBounds_toArray, List.set_cons_zero, List.set_cons_succ]
      have hHeld := hHeld2; clear hHeld2
      refine takeH (i := 22) (v := ?_) (some 34) rfl rfl (by kernel_rfl) (by kernel_rfl) (by kernel_rfl) (fun _ _ _ h => h) (Or.inl ⟨by rfl, ?_⟩) (by assumption) ?_
      rotate_left
      · intro w hSw; (try dsimp only at hSw); obtain ⟨s1, s2, s3, s4, s5, s6, s7⟩ := hSw; first | (go_simp; done) | (go_simp; with_reducible rfl)
      try simp only [Act.put, List.setIfInBounds_toArray, List.set_cons_zero, List.set_cons_succ]
      refine takeH (i := 23) (v := ?_) (some 35) rfl rfl (by kernel_rfl) (by kernel_rfl) (by kernel_rfl) (fun _ _ _ h => h) (Or.inl ⟨by rfl, ?_⟩) (by assumption) ?_
      rotate_left
      · intro w hSw; (try dsimp only at hSw); obtain ⟨s1, s2, s3, s4, s5, s6, s7⟩ := hSw; first | (go_simp; done) | (go_simp; with_reducible rfl)
      try simp only [Act.put, List.setIfInBounds_toArray, List.set_cons_zero, List.set_cons_succ]
      refine wpAnyH_done (by kernel_rfl) ?_ _
      by_cases hpx : x < p
      · have hr := HR.out
        rw [decide_eq_false (by omega), Bool.false_and] at hr
        replace HR := hide hr
        clear hr
        go_wp2_with fail
        go_ret
        exact ⟨ret_bool HR.out.symm, Hbl.out⟩
      · have hr := HR.out
        rw [decide_eq_true (by omega), Bool.true_and] at hr
        replace HR := hide hr
        clear hr
        go_wp2_with fail
        go_roundw
        case rel => exact ⟨k + 1, by omega, by go_num, Hb.out, HR.out⟩
        case measure => simp [intOf]; omega
end Go.Proofs.Ytliggcmohcdchaa
