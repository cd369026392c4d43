/- The law HierarchyPlanMatchesSpec of the package hierarchy holds, without a condition., part 18: Hr6 Sr1 Sr2 Sr3. -/
import Derived.Test.YtmjiiddncbhgpaaGreatF1
import Derived.Test.YtmjiiddncbhgpaaGreatF2
import Derived.Test.YtmjiiddncbhgpaaGreatF3
import Derived.Test.YtmjiiddncbhgpaaGreatF4
import Derived.Test.YtmjiiddncbhgpaaGreatF5
import Derived.Test.YtmjiiddncbhgpaaGreatF13
import Derived.Test.YtmjiiddncbhgpaaGreatF14
import Derived.Test.YtmjiiddncbhgpaaGreatF15
import Derived.Test.YtmjiiddncbhgpaaGreatF16
import Derived.Test.YtmjiiddncbhgpaaGreatF17
import Derived.BigQuiet
import Derived.Deep.AppendLies
import Derived.Deep.DeepCutAuto
import Derived.Deep.Draws
import Derived.Deep.Fields
import Derived.Deep.LoopGhost
import Derived.Deep.QuietTactic
import Derived.Deep.RegionHeld3
import Derived.Deep.Slices
import Derived.Ground.Names2Prog
import Derived.Ground.SlgnProg
import Derived.Ground.SlsfProg
import Derived.IntWalk
import Derived.Laws.AppendOwnNone
import Derived.Laws.BitsAllLaws
import Derived.Laws.OwnMore
import Derived.Lib.Hide
import Derived.Lib.SlicesCompact
import Derived.Maps.AppendAt
import Derived.Shelf.Slices.Cells
import Derived.Shelf.Slices.Clone
import Derived.Shelf.Slices.CompactI
import Derived.Shelf.Slices.Empties
import Derived.Shelf.Slices.In.SortNone
import Derived.Shelf.Slices.SearchI
import Derived.Shelf.Sort.Plain
import Derived.Sort.OwnSortedInts
import Derived.StillTailTactics
import Derived.Test.YtmjiiddncbhgpaaGreatProg
import Derived.WalkKit
namespace Go.Proofs.YtmjiiddncbhgpaaGreat
set_option linter.unusedVariables false
set_option linter.unusedSimpArgs false
open Go.RowKit
def EndsR6 (w : World) (r : Option (List Int)) (e : Ending) (w' : World) : Prop := Below w.heap.size w w' ∧
  ((r = none ∧ e = .returned (.tuple #[.slice none 0 0, .bool false])) ∨ ∃ (x : List Int) (A : Option Addr) (n c : Nat), r = some x ∧ e = .returned (.tuple #[.slice A n c, .bool true]) ∧ Rd Enc.int w' A n c x)
set_option maxRecDepth 100000 in
set_option maxHeartbeats 6400000 in
theorem Ends_ct (a : TA) (T : Tsk) (N : Nat) (P : Option Addr) (np dp : Nat) (s : List Int) (B : Option Addr) (m d : Nat) (l : List Int) (w : World) (h : TkR w a T) (hok : OkT T N) (hs : Rd Enc.int w P np dp s) (hl : Rd Enc.int w B m d l) (hset : setB N s = true) (hr : ∀ x ∈ l, 0 ≤ x ∧ x < T.ops.length) :
    Calls Tryz.prog 114 #[.agg #[.int .i64 T.facts, .slice a.I a.nI a.cI, .slice a.G a.nG a.cG, .slice a.O a.nO a.cO], .slice P np dp, .slice B m d] w (EndsR6 w (execO s (l.map (opAt T.ops)))) := by
  have happ := fun B m d l q w h1 h2 h3 => RApplies_ct a T B m d l q w h1 h2 h3
  have haft := fun B m d l q w h1 h2 h3 h4 h5 => RAfter_ct a T N B m d l q w h1 h2 h3 h4 h5
  obtain ⟨I, nI, cI, G, nG, cG, O, nO, cO⟩ := a
  simp only at happ haft ⊢
  rw [hok.facts] at happ haft ⊢
  have hN := hok.low
  have hlO := h.ops.len
  simp only at hlO
  have HlO := hide hlO
  have H := hide h
  have Hs := hide hs
  have Hl := hide hl
  have Hll := hide hl.len
  have hlm := hl.low
  have Hok := hide hok
  have Hset := hide hset
  have Hr := hide hr
  have Happ := hide happ
  have Haft := hide haft
  clear h hs hl hok hset hr happ haft hlO
  have Hbl := hide (Below.refl w.heap.size w)
  go_enter Tryz.func114, Tryz.ntmps114
  go_upto_region 1 with (fail)
  obtain ⟨B0, hB0⟩ : ∃ B0, B0 = w.heap.size := ⟨_, rfl⟩
  have HB0 := hide hB0
  clear hB0
  have s_0 : B0 ≤ w.heap.size := Nat.le_trans (Nat.le_of_eq HB0.out) Hbl.out.size
  have hyt := Blk.new (w) 25 [.int .i64 N, .slice I nI cI, .slice G nG cG, .slice O nO cO]
  have hbW : Below (w).heap.size (w) ((w).alloc (.cells #[.int .i64 N, .slice I nI cI, .slice G nG cG, .slice O nO cO] 25)) := (Below.refl _ _).alloc (Nat.le_refl _) _
  obtain ⟨w0, hW⟩ : ∃ W, W = (w).alloc (.cells #[.int .i64 N, .slice I nI cI, .slice G nG cG, .slice O nO cO] 25) := ⟨_, rfl⟩
  rw [← hW] at hyt hbW ⊢
  replace Hbl := hide (Hbl.out.trans (hbW.mono Hbl.out.size))
  have Ht := hide hyt
  clear hW hbW hyt
  generalize w.heap.size = gT at Ht s_0 ⊢
  have t0 := Ht.out.cell 0
  have t1 := Ht.out.cell 1
  have t2 := Ht.out.cell 2
  have t3 := Ht.out.cell 3
  have tl := Ht.out.lt
  simp only [List.getElem?_cons_zero, List.getElem?_cons_succ] at t0 t1 t2 t3
  have a_t : B0 ≤ gT := by omega
  clear s_0
  go_wp2_with fail
  clear t0 t1 t2 t3 tl
  go_loopw [1, 8] (fun ss i wr => ∃ (k : Nat) (P' : Option Addr) (n' c' : Nat) (s' : List Int), k ≤ m ∧ i = .int .i64 k ∧ ss = .slice P' n' c' ∧ Rd Enc.int wr P' n' c' s' ∧ setB N s' = true ∧ execO s (l.map (opAt T.ops)) = execO s' ((l.drop k).map (opAt T.ops)) ∧ Below w.heap.size w wr ∧ Blk 25 wr gT [.int .i64 N, .slice I nI cI, .slice G nG cG, .slice O nO cO]) (fun _ i _ => m - (intOf i).toNat)
  case atStart => exact ⟨0, P, np, dp, s, by omega, rfl, rfl, Hs.out.keep Hbl.out, Hset.out, rfl, Hbl.out, Ht.out⟩
  case round =>
    clear Ht Hbl
    obtain ⟨w4, rfl⟩ : ∃ V, V = wr := ⟨_, rfl⟩
    obtain ⟨k, P', n', c', s', hk, rfl, rfl, hrd, hset', hex, hbl, ht⟩ := hrel
    have Hrd := hide hrd
    have Hset' := hide hset'
    have Hex := hide hex
    have Hbl := hide hbl
    have Ht := hide ht
    clear hrd hset' hex hbl ht
    have t0 := Ht.out.cell 0
    have t1 := Ht.out.cell 1
    have t2 := Ht.out.cell 2
    have t3 := Ht.out.cell 3
    have tl := Ht.out.lt
    simp only [List.getElem?_cons_zero, List.getElem?_cons_succ] at t0 t1 t2 t3
    by_cases hlt : k < m
    · have hki : (k : Int) < (m : Int) := by omega
      obtain ⟨b, off, x, rfl, hx, hx1, hx2, hcx⟩ := (Hl.out.keep Hbl.out).int hlt
      have hxr := Hr.out x (List.mem_of_getElem? hx)
      obtain ⟨q, rfl⟩ : ∃ q : Nat, x = (q : Int) := ⟨x.toNat, by omega⟩
      have hqn : q < nO := by have := HlO.out; omega
      have hdrop := drop_cons hx
      have Hdrop := hide hdrop
      clear hx hxr hdrop
      go_upto_region 4 with (fail)
      go_still_tail 6, (by kernel_rfl)
      change wpList _ _ _ _ _ w4.drew
      obtain ⟨w5, hW⟩ : ∃ W, W = w4.drew := ⟨_, rfl⟩
      have hb : Below w4.heap.size w4 w5 := by rw [hW]; exact (Below.refl _ _).drew
      rw [← hW]
      clear hW
      replace Ht := hide (Ht.out.keep hb)
      replace Hbl := hide (Hbl.out.trans (hb.mono Hbl.out.size))
      replace Hrd := hide (Hrd.out.keep hb)
      replace hcx := (hb.cell (p := ⟨b, off + k, none⟩) (World.block_lt_of_cell? _ _ hcx)).trans hcx
      clear hb t0 t1 t2 t3 tl
      have t0 := Ht.out.cell 0
      have t1 := Ht.out.cell 1
      have t2 := Ht.out.cell 2
      have t3 := Ht.out.cell 3
      have tl := Ht.out.lt
      simp only [List.getElem?_cons_zero, List.getElem?_cons_succ] at t0 t1 t2 t3
      have hct := Happ.out P' n' c' s' q w5 (H.out.keep Hbl.out) Hrd.out hqn
      obtain ⟨v1, hv1⟩ : ∃ z, z = subsetB (opAt T.ops (q : Int)).pre s' := ⟨_, rfl⟩
      rw [← hv1] at hct
      have Hv1 := hide hv1
      go_wp2_with fail
      with_reducible refine hct.mono ?_
      rintro e w6 ⟨rfl, hb⟩
      clear hct hv1
      replace Ht := hide (Ht.out.keep hb)
      replace Hbl := hide (Hbl.out.trans (hb.mono Hbl.out.size))
      replace Hrd := hide (Hrd.out.keep hb)
      replace hcx := (hb.cell (p := ⟨b, off + k, none⟩) (World.block_lt_of_cell? _ _ hcx)).trans hcx
      clear hb t0 t1 t2 t3 tl
      have t0 := Ht.out.cell 0
      have t1 := Ht.out.cell 1
      have t2 := Ht.out.cell 2
      have t3 := Ht.out.cell 3
      have tl := Ht.out.lt
      simp only [List.getElem?_cons_zero, List.getElem?_cons_succ] at t0 t1 t2 t3
      have hop := Hok.out.ops (opAt T.ops q) (opAt_mem (by omega) (by have := HlO.out; omega))
      cases v1 with
      | false =>
        have hend : execO s (l.map (opAt T.ops)) = none := by
          rw [Hex.out, Hdrop.out, List.map_cons]
          unfold execO
          rw [if_neg (by rw [← Hv1.out]; simp)]
        have Hend := hide hend
        clear hend
        go_wp2_with fail
        go_ret2
        exact ⟨Hbl.out, .inl ⟨Hend.out, rfl⟩⟩
      | true =>
        have hnx : execO s (l.map (opAt T.ops)) = execO (aftR N (opAt T.ops (q : Int)) s') ((l.drop (k + 1)).map (opAt T.ops)) := by
          rw [Hex.out, Hdrop.out, List.map_cons]
          conv => lhs; unfold execO
          rw [if_pos Hv1.out.symm, aftR_upd hop Hset'.out]
        have Hnx := hide hnx
        clear hnx
        go_upto_region 6 with (fail)
        go_still_tail 6, (by kernel_rfl)
        change wpList _ _ _ _ _ w6.drew
        obtain ⟨w7, hW⟩ : ∃ W, W = w6.drew := ⟨_, rfl⟩
        have hb : Below w6.heap.size w6 w7 := by rw [hW]; exact (Below.refl _ _).drew
        rw [← hW]
        clear hW
        replace Ht := hide (Ht.out.keep hb)
        replace Hbl := hide (Hbl.out.trans (hb.mono Hbl.out.size))
        replace Hrd := hide (Hrd.out.keep hb)
        replace hcx := (hb.cell (p := ⟨b, off + k, none⟩) (World.block_lt_of_cell? _ _ hcx)).trans hcx
        clear hb t0 t1 t2 t3 tl
        have t0 := Ht.out.cell 0
        have t1 := Ht.out.cell 1
        have t2 := Ht.out.cell 2
        have t3 := Ht.out.cell 3
        have tl := Ht.out.lt
        simp only [List.getElem?_cons_zero, List.getElem?_cons_succ] at t0 t1 t2 t3
        have hct := Haft.out P' n' c' s' q w7 (H.out.keep Hbl.out) (by trivial) (by omega) Hrd.out hqn
        go_wp2_with fail
        with_reducible refine hct.mono ?_
        rintro e w8 ⟨hb, Y, yc, rfl, hown⟩
        have hry := own_rd hown rfl (set_ints (pickR_set N _) (by omega))
        have Hry := hide hry
        clear hct hown hry
        replace Ht := hide (Ht.out.keep hb)
        replace Hbl := hide (Hbl.out.trans (hb.mono Hbl.out.size))
        replace Hrd := hide (Hrd.out.keep hb)
        replace hcx := (hb.cell (p := ⟨b, off + k, none⟩) (World.block_lt_of_cell? _ _ hcx)).trans hcx
        clear hb t0 t1 t2 t3 tl
        have t0 := Ht.out.cell 0
        have t1 := Ht.out.cell 1
        have t2 := Ht.out.cell 2
        have t3 := Ht.out.cell 3
        have tl := Ht.out.lt
        simp only [List.getElem?_cons_zero, List.getElem?_cons_succ] at t0 t1 t2 t3
        go_wp2_with fail
        go_roundw
        case rel => exact ⟨k + 1, Y, _, yc, _, by omega, by go_num, rfl, Hry.out, pickR_set N _, Hnx.out, Hbl.out, Ht.out⟩
        case measure => simp [intOf]; omega
    · obtain rfl : m = k := by omega
      have hend : execO s (l.map (opAt T.ops)) = some s' := by
        rw [Hex.out, List.drop_of_length_le (by rw [Hll.out]; omega)]
        rfl
      have Hend := hide hend
      clear hend
      go_wp2_with fail
      go_ret2
      exact ⟨Hbl.out, .inr ⟨s', P', n', c', Hend.out, rfl, Hrd.out⟩⟩
set_option maxRecDepth 100000 in
set_option maxHeartbeats 6400000 in
theorem RWorks_ct (a : TA) (T : Tsk) (N : Nat) (P : Option Addr) (np dp : Nat) (s : List Int) (B : Option Addr) (m d : Nat) (l : List Int) (w : World) (h : TkR w a T) (hok : OkT T N) (hs : Rd Enc.int w P np dp s) (hl : Rd Enc.int w B m d l) (hset : setB N s = true) (hr : ∀ x ∈ l, 0 ≤ x ∧ x < T.ops.length) :
    Calls Tryz.prog 70 #[.agg #[.int .i64 T.facts, .slice a.I a.nI a.cI, .slice a.G a.nG a.cG, .slice a.O a.nO a.cO], .slice P np dp, .slice B m d] w (Gives w (.bool (worksF T s l))) := by
  have hends := Ends_ct a T N P np dp s B m d l
  obtain ⟨I, nI, cI, G, nG, cG, O, nO, cO⟩ := a
  simp only at hends ⊢
  have H := hide h
  have Hs := hide hs
  have Hl := hide hl
  have Hok := hide hok
  have Hset := hide hset
  have Hr := hide hr
  have Hends := hide hends
  clear h hs hl hok hset hr hends
  have Hbl := hide (Below.refl w.heap.size w)
  go_enter Tryz.func70, Tryz.ntmps70
  go_upto_region 1 with (fail)
  obtain ⟨B0, hB0⟩ : ∃ B0, B0 = w.heap.size := ⟨_, rfl⟩
  have HB0 := hide hB0
  clear hB0
  have s_0 : B0 ≤ w.heap.size := Nat.le_trans (Nat.le_of_eq HB0.out) Hbl.out.size
  have hyt := Blk.new (w) 25 [.int .i64 T.facts, .slice I nI cI, .slice G nG cG, .slice O nO cO]
  have hbW : Below (w).heap.size (w) ((w).alloc (.cells #[.int .i64 T.facts, .slice I nI cI, .slice G nG cG, .slice O nO cO] 25)) := (Below.refl _ _).alloc (Nat.le_refl _) _
  obtain ⟨w0, hW⟩ : ∃ W, W = (w).alloc (.cells #[.int .i64 T.facts, .slice I nI cI, .slice G nG cG, .slice O nO cO] 25) := ⟨_, rfl⟩
  rw [← hW] at hyt hbW ⊢
  replace Hbl := hide (Hbl.out.trans (hbW.mono Hbl.out.size))
  have Ht := hide hyt
  clear hW hbW hyt
  generalize w.heap.size = gT at Ht s_0 ⊢
  have t0 := Ht.out.cell 0
  have t1 := Ht.out.cell 1
  have t2 := Ht.out.cell 2
  have t3 := Ht.out.cell 3
  have tl := Ht.out.lt
  simp only [List.getElem?_cons_zero, List.getElem?_cons_succ] at t0 t1 t2 t3
  have a_t : B0 ≤ gT := by omega
  clear s_0
  go_wp2_with fail
  with_reducible refine (Hends.out w0 (H.out.keep Hbl.out) Hok.out (Hs.out.keep Hbl.out) (Hl.out.keep Hbl.out) Hset.out Hr.out).mono ?_
  rintro e w1 ⟨hb, ⟨hno, rfl⟩ | ⟨x, A, n, c, hsome, rfl, hrd⟩⟩
  · skip
    clear t0 t1 t2 t3 tl
    replace Ht := hide (Ht.out.keep hb)
    replace Hbl := hide (Hbl.out.trans (hb.mono Hbl.out.size))
    clear hb
    have t0 := Ht.out.cell 0
    have t1 := Ht.out.cell 1
    have t2 := Ht.out.cell 2
    have t3 := Ht.out.cell 3
    have tl := Ht.out.lt
    simp only [List.getElem?_cons_zero, List.getElem?_cons_succ] at t0 t1 t2 t3
    have hres : worksF T s l = false := by unfold worksF; rw [hno]
    have Hres := hide hres
    clear hres hno
    go_wp2_with fail
    go_ret
    exact ⟨ret_bool Hres.out.symm, Hbl.out⟩
  · skip
    have hres : worksF T s l = subsetB T.goal x := by unfold worksF; rw [hsome]
    have Hres := hide hres
    have Hrd := hide hrd
    clear hres hsome hrd
    clear t0 t1 t2 t3 tl
    replace Ht := hide (Ht.out.keep hb)
    replace Hbl := hide (Hbl.out.trans (hb.mono Hbl.out.size))
    clear hb
    have t0 := Ht.out.cell 0
    have t1 := Ht.out.cell 1
    have t2 := Ht.out.cell 2
    have t3 := Ht.out.cell 3
    have tl := Ht.out.lt
    simp only [List.getElem?_cons_zero, List.getElem?_cons_succ] at t0 t1 t2 t3
    have hct := Subset_ct G A nG cG n c T.goal x w1 (H.out.goal.keep Hbl.out) Hrd.out
    go_wp2_with fail
    with_reducible refine hct.mono ?_
    rintro e w2 ⟨rfl, hq⟩
    have Hq := hide hq
    clear hct hq
    go_wp2_with fail
    go_ret
    exact ⟨ret_bool (by rw [Hres.out]), Hbl.out.trans (Hq.out.below _)⟩
set_option maxRecDepth 100000 in
set_option maxHeartbeats 6400000 in
theorem RSolves_ct (a : TA) (T : Tsk) (N : Nat) (B : Option Addr) (m d : Nat) (l : List Int) (w : World) (h : TkR w a T) (hok : OkT T N) (hl : Rd Enc.int w B m d l) (hr : ∀ x ∈ l, 0 ≤ x ∧ x < T.ops.length) :
    Calls Tryz.prog 26 #[.agg #[.int .i64 T.facts, .slice a.I a.nI a.cI, .slice a.G a.nG a.cG, .slice a.O a.nO a.cO], .slice B m d] w (Gives w (.bool (worksF T T.init l))) := by
  have hwk := fun P np dp s w => RWorks_ct a T N P np dp s B m d l w
  obtain ⟨I, nI, cI, G, nG, cG, O, nO, cO⟩ := a
  simp only at hwk ⊢
  have H := hide h
  have Hl := hide hl
  have Hok := hide hok
  have Hr := hide hr
  have Hwk := hide hwk
  clear h hl hok hr hwk
  have Hbl := hide (Below.refl w.heap.size w)
  go_enter Tryz.func26, Tryz.ntmps26
  go_upto_region 1 with (fail)
  obtain ⟨B0, hB0⟩ : ∃ B0, B0 = w.heap.size := ⟨_, rfl⟩
  have HB0 := hide hB0
  clear hB0
  have s_0 : B0 ≤ w.heap.size := Nat.le_trans (Nat.le_of_eq HB0.out) Hbl.out.size
  have hyt := Blk.new (w) 25 [.int .i64 T.facts, .slice I nI cI, .slice G nG cG, .slice O nO cO]
  have hbW : Below (w).heap.size (w) ((w).alloc (.cells #[.int .i64 T.facts, .slice I nI cI, .slice G nG cG, .slice O nO cO] 25)) := (Below.refl _ _).alloc (Nat.le_refl _) _
  obtain ⟨w0, hW⟩ : ∃ W, W = (w).alloc (.cells #[.int .i64 T.facts, .slice I nI cI, .slice G nG cG, .slice O nO cO] 25) := ⟨_, rfl⟩
  rw [← hW] at hyt hbW ⊢
  replace Hbl := hide (Hbl.out.trans (hbW.mono Hbl.out.size))
  have Ht := hide hyt
  clear hW hbW hyt
  generalize w.heap.size = gT at Ht s_0 ⊢
  have t0 := Ht.out.cell 0
  have t1 := Ht.out.cell 1
  have t2 := Ht.out.cell 2
  have t3 := Ht.out.cell 3
  have tl := Ht.out.lt
  simp only [List.getElem?_cons_zero, List.getElem?_cons_succ] at t0 t1 t2 t3
  have a_t : B0 ≤ gT := by omega
  clear s_0
  go_wp2_with fail
  with_reducible refine (Hwk.out I nI cI T.init w0 (H.out.keep Hbl.out) Hok.out (H.out.init.keep Hbl.out) (Hl.out.keep Hbl.out) Hok.out.init Hr.out).mono ?_
  rintro e w1 ⟨rfl, hb⟩
  have Hb := hide hb
  clear hb
  go_wp2_with fail
  go_ret
  exact ⟨rfl, Hbl.out.trans (Hb.out.mono Hbl.out.size)⟩
end Go.Proofs.YtmjiiddncbhgpaaGreat
namespace Go.Proofs.YtmjiiddncbhgpaaGreat
set_option linter.unusedVariables false
set_option linter.unusedSimpArgs false
open Go.RowKit
/-- what follows the operators of the state at place i -/
def contR (T : Tsk) (i : Nat) : Option (List (List Int)) → Option (List (List Int))
  | none => none
  | some o => refAll T (2000 - i) (i + 1) o
theorem refAll_step {T : Tsk} {i : Nat} {outs : List (List Int)} {s : List Int} (hi : i ≤ 2000) (h : outs[i]? = some s) : refAll T (2001 - i) i outs = contR T i (refOps s T.ops outs) := by
  have e : 2001 - i = (2000 - i) + 1 := by omega
  rw [e]
  unfold refAll
  rw [h]
  simp only
  cases refOps s T.ops outs <;> rfl
theorem refAll_end {T : Tsk} {i : Nat} {outs : List (List Int)} (hi : i ≤ 2000) (h : outs.length ≤ i) : refAll T (2001 - i) i outs = some outs := by
  have e : 2001 - i = (2000 - i) + 1 := by omega
  rw [e]
  unfold refAll
  rw [List.getElem?_eq_none h]
theorem hasB_words (l : List (List Int)) (x : Nat) : hasB (l.map fun s => (wordF s : Int)) (x : Int) = (l.map wordF).contains x := by
  rw [Bool.eq_iff_iff, hasB_iff]
  simp only [List.mem_map, List.contains_eq_mem, decide_eq_true_eq]
  constructor
  · rintro ⟨s, h1, h2⟩; exact ⟨s, h1, by omega⟩
  · rintro ⟨s, h1, h2⟩; exact ⟨s, h1, by omega⟩
theorem rowInfoR : (Tryz.prog.info? 22).map (fun i => (i.zero, i.size, i.bytes)) = some (some (.slice none 0 0), 1, 24) := by kernel_rfl
/-- a row of ints of the call's own, whatever happens to other blocks -/
def RowI (B : Nat) (w : World) (A : Option Addr) (n c : Nat) (xs : List Int) : Prop := ∃ vs, OwnE Enc.int 3 B (fun _ => True) w A n c vs xs
section
variable {B n c : Nat} {w w' : World} {A : Option Addr} {xs : List Int}
theorem RowI.nil (B : Nat) (w : World) : RowI B w none 0 0 [] := ⟨_, OwnE.nil _ _ _ _ _⟩
theorem RowI.len (h : RowI B w A n c xs) : xs.length = n := let ⟨_, k⟩ := h; k.len
theorem RowI.rd (h : RowI B w A n c xs) : Rd Enc.int w A n c xs := let ⟨_, k⟩ := h; k.rd
theorem RowI.chg {M : Nat → Prop} (h : RowI B w A n c xs) (hc : Chg M w w') (hA : ∀ r, blkA A = some r → ¬ M r) : RowI B w' A n c xs := let ⟨_, k⟩ := h; ⟨_, k.chg hc (fun _ _ => trivial) hA⟩
theorem RowI.keep (h : RowI B w A n c xs) (hb : Below w.heap.size w w') : RowI B w' A n c xs := let ⟨_, k⟩ := h; ⟨_, k.keep hb⟩
theorem RowI.base (h : RowI B w A n c xs) {r : Nat} (hr : blkA A = some r) : B ≤ r ∧ r < w.heap.size := let ⟨_, k⟩ := h; k.base hr
theorem RowI.cells (h : RowI B w A n c xs) {r : Nat} (hr : blkA A = some r) : ∃ cs e m, w.heap[r]? = some (.cells cs e m) := by
  obtain ⟨_, k⟩ := h
  obtain ⟨_, cs, m, e⟩ := own_block k.own (by rw [own_blkA]; exact hr)
  exact ⟨cs, _, m, e⟩
end
/-- one number more -/
theorem wpList_pushI {w : World} {ops : Array Oper} {rest : List Oper} {o : Oper} {a : Act} {Q : Exit → Act → World → Prop} (hgd : o.guard = none) (s x : Operand)
    (ho : o.op = .call { callee := .builtin .append, args := #[s, x], argTypes := #[22, 22] })
    {B : Nat} {A : Option Addr} {n c : Nat} {xs : List Int} (hs : a.eval s = .slice A n c) (hown : RowI B w A n c xs) (y : Int) (hy1 : -9223372036854775808 ≤ y) (hy2 : y ≤ 9223372036854775807) (hx : a.eval x = .slice (some ⟨w.heap.size, 0, none⟩) 1 1) (hn : n ≤ 1000000) (hbase : B ≤ w.heap.size)
    (h : ∀ O oc w', RowI B w' O (n + 1) oc (xs ++ [y]) → Chg (fun b => blkA A = some b) w w' → (blkA O = blkA A ∨ blkA O = some (w.heap.size + 1)) → wpList Tryz.prog ops Q rest (a.put o.dst (.slice O (n + 1) oc)) w') :
    wpList Tryz.prog ops Q (o :: rest) a (w.alloc (.cells #[.int .i64 y] 3)) := by
  obtain ⟨i1, hi1, hz0, hz1, hz2⟩ := info_parts intInfoS
  obtain ⟨vs, hown⟩ := hown
  exact wpList_pushE hgd s x 22 ho B 3 i1 (.int .i64 0) 8 Tryz.underlying22 hi1 hz0 hz1 hz2 rfl (by decide) hs hown (fun _ _ => trivial) [.int .i64 y] y (by intro u hu; simp at hu; subst hu; rfl) hx (firm_int hy1 hy2) (by omega) (by omega) hbase
    fun O oc w' hown' hch hat => h O oc w' ⟨_, hown'.less fun _ _ _ => .inl trivial⟩ hch hat
theorem rowI_one (w : World) (x : Int) (h1 : -9223372036854775808 ≤ x) (h2 : x ≤ 9223372036854775807) : RowI w.heap.size (w.alloc (.cells #[.int .i64 x] 3)) (some ⟨w.heap.size, 0, none⟩) 1 1 [x] := by
  refine ⟨[.int .i64 x], ⟨⟨rfl, .inr ⟨w.heap.size, 1, #[.int .i64 x], rfl, Nat.le_refl _, heap_alloc_new w _, by omega, by unfold maxLen; omega, rfl, rfl⟩⟩, rfl, fun i y hy => ?_⟩⟩
  cases i with
  | zero => simp at hy; subst hy; exact ⟨[.int .i64 x], fun j v h => by simpa using h, firm_int h1 h2⟩
  | succ i => simp at hy
/-- a row that reads as a list, whatever happens to blocks of M -/
theorem firm_rowR {w : World} {B : Nat} {M : Nat → Prop} {A : Option Addr} {n c : Nat} {l : List Int} (h : w.ownsRow B 3 1 (.slice A n c) n (l.map (Value.int .i64))) (hl : l.length = n) (hr : ∀ x ∈ l, -9223372036854775808 ≤ x ∧ x ≤ 9223372036854775807) (hM : ∀ r, blkA A = some r → ¬ M r) : Firm (Enc.sl Enc.int) M w [.slice A n c] l :=
  fun w' hc => ⟨A, n, c, rfl, own_rd (hc.own h (fun r hr => hM r (by rw [own_blkA] at hr; exact hr))) hl hr⟩
/-- what stands while the reference searches: the task's box, the states, their words -/
structure RrS (w W : World) (gT : Nat) (tc : List Value) (B1 : Nat) (O : Option Addr) (n oc : Nat) (vs : List Value) (outs : List (List Int)) (V : Option Addr) (m vc : Nat) (wds : List Int) : Prop where
  low : Below w.heap.size w W
  par : Blk 25 W gT tc
  out : OwnE (Enc.sl Enc.int) 22 B1 (fun b => blkA O = some b ∨ blkA V = some b ∨ W.heap.size ≤ b) W O n oc vs outs
  wd : RowI B1 W V m vc wds
  ap : ∀ r, blkA O = some r → ¬ blkA V = some r
  g0 : w.heap.size ≤ gT
  g1 : gT < B1
  g2 : B1 ≤ W.heap.size
section
variable {w W W' : World} {gT B1 : Nat} {tc : List Value} {O V : Option Addr} {n oc m vc : Nat} {vs : List Value} {outs : List (List Int)} {wds : List Int}
theorem RrS.keep (h : RrS w W gT tc B1 O n oc vs outs V m vc wds) (hb : Below W.heap.size W W') : RrS w W' gT tc B1 O n oc vs outs V m vc wds :=
  ⟨h.low.trans (hb.mono h.low.size), h.par.keep hb, (h.out.keep hb).less (fun i hi e => by have := hb.size; rcases e with e | e | e; exact .inl e; exact .inr (.inl e); exact .inr (.inr (by omega))), h.wd.keep hb, h.ap, h.g0, h.g1, Nat.le_trans h.g2 hb.size⟩
/-- one state more -/
theorem RrS.pushO (h : RrS w W gT tc B1 O n oc vs outs V m vc wds) {us : List Value} {O' : Option Addr} {oc' : Nat} {s : List Int}
    (hown : OwnE (Enc.sl Enc.int) 22 B1 (fun b => (blkA O = some b ∨ blkA V = some b ∨ W.heap.size ≤ b) ∨ W.heap.size ≤ b) W' O' (n + 1) oc' (vs ++ us) (outs ++ [s])) (hch : Chg (fun b => blkA O = some b) W W') (hat : blkA O' = blkA O ∨ blkA O' = some (W.heap.size + 1)) :
    RrS w W' gT tc B1 O' (n + 1) oc' (vs ++ us) (outs ++ [s]) V m vc wds := by
  have hO : ∀ r, blkA O = some r → B1 ≤ r := fun r hr => (h.out.base hr).1
  have hg0 := h.g0
  have hg1 := h.g1
  have hg2 := h.g2
  refine ⟨h.low.trans (hch.below (fun i hi => by have := hO i hi; omega) h.low.size), hch.blk h.par (fun e => by have := hO _ e; omega), hown.less (fun i hi e => ?_), h.wd.chg hch (fun r hr e => h.ap r e hr), fun r hr e => ?_, hg0, hg1, Nat.le_trans hg2 hch.size⟩
  · rcases e with e | e | e
    · rcases hat with a | a
      · exact .inl (.inl (by rw [← a]; exact e))
      · rw [a] at e
        injection e with e
        exact .inr (by omega)
    · exact .inl (.inr (.inl e))
    · omega
  · rcases hat with a | a
    · exact h.ap r (by rw [← a]; exact hr) e
    · rw [a] at hr
      injection hr with hr
      have := (h.wd.base e).2
      omega
/-- one word more -/
theorem RrS.pushV (h : RrS w W gT tc B1 O n oc vs outs V m vc wds) {V' : Option Addr} {vc' : Nat} {x : Int} (hrow : RowI B1 W' V' (m + 1) vc' (wds ++ [x])) (hch : Chg (fun b => blkA V = some b) W W') (hat : blkA V' = blkA V ∨ blkA V' = some (W.heap.size + 1)) :
    RrS w W' gT tc B1 O n oc vs outs V' (m + 1) vc' (wds ++ [x]) := by
  have hV : ∀ r, blkA V = some r → B1 ≤ r := fun r hr => (h.wd.base hr).1
  have hg0 := h.g0
  have hg1 := h.g1
  have hg2 := h.g2
  refine ⟨h.low.trans (hch.below (fun i hi => by have := hV i hi; omega) h.low.size), hch.blk h.par (fun e => by have := hV _ e; omega), (h.out.chg hch (fun i e => .inr (.inl e)) (fun r hr e => h.ap r hr e)).less (fun i hi e => ?_), hrow, fun r hr e => ?_, hg0, hg1, Nat.le_trans hg2 hch.size⟩
  · have := hch.size
    rcases e with e | e | e
    · exact .inl e
    · rcases hat with a | a
      · exact .inr (.inl (by rw [← a]; exact e))
      · rw [a] at e
        injection e with e
        exact .inr (.inr (by omega))
    · omega
  · rcases hat with a | a
    · exact h.ap r hr (by rw [← a]; exact e)
    · rw [a] at e
      injection e with e
      have := (h.out.base hr).2
      omega
end
/-- what the reference's search gives -/
def RReachP (w : World) (r : Option (List (List Int))) (e : Ending) (w' : World) : Prop :=
  Below w.heap.size w w' ∧ match r with
    | none => e = .returned (.tuple #[.slice none 0 0, .bool false])
    | some l => ∃ (A : Option Addr) (c : Nat), e = .returned (.tuple #[.slice A l.length c, .bool true]) ∧ Rd (Enc.sl Enc.int) w' A l.length c l
end Go.Proofs.YtmjiiddncbhgpaaGreat
namespace Go.Proofs.YtmjiiddncbhgpaaGreat
set_option linter.unusedVariables false
set_option linter.unusedSimpArgs false
open Go.RowKit
theorem own_oneR {α : Type} {E : Enc α} {t : TypeId} {M : Nat → Prop} {w : World} {us : List Value} {x : α} (hf : ∀ W, Below w.heap.size w W → Firm E M W us x) : OwnE E t w.heap.size M (w.alloc (.cells us.toArray t)) (some ⟨w.heap.size, 0, none⟩) 1 1 us [x] :=
  ⟨⟨by rw [E.len (hf w (Below.refl _ _)).ok]; omega, .inr ⟨w.heap.size, 1, us.toArray, rfl, Nat.le_refl _, Blk.new w t us, Nat.le_refl _, by unfold maxLen; omega, by simpa using E.len (hf w (Below.refl _ _)).ok, by simp; exact List.take_of_length_le (by rw [E.len (hf w (Below.refl _ _)).ok]; omega)⟩⟩, rfl, fun i y hi => by
    cases i with
    | zero =>
      simp at hi
      subst hi
      exact ⟨us, fun j v hj => by simpa using hj, hf _ ((Below.refl _ _).alloc (Nat.le_refl _) _)⟩
    | succ i => simp at hi⟩
theorem upd_setR {N : Nat} {s : List Int} {o : Opr} (hs : setB N s = true) (ho : OkOp N o) : setB N (updF s o.add o.del) = true := updF_set (setB_iff.1 hs).2 (setB_iff.1 ho.add).2
set_option maxRecDepth 100000 in
set_option maxHeartbeats 12800000 in
theorem ReachedFrom_ct (a : TA) (T : Tsk) (N : Nat) (P : Option Addr) (np dp : Nat) (s : List Int) (w : World) (h : TkR w a T) (hok : OkT T N) (hs : Rd Enc.int w P np dp s) (hset : setB N s = true) :
    Calls Tryz.prog 57 #[.agg #[.int .i64 T.facts, .slice a.I a.nI a.cI, .slice a.G a.nG a.cG, .slice a.O a.nO a.cO], .slice P np dp] w (RReachP w (refAll T 2001 0 [s])) := by
  have happ := fun B m d l q w h hl hq => RApplies_ct a T B m d l q w h hl hq
  have haft := fun B m d l q w h hl hq => RAfter_ct a T N B m d l q w h hok.facts (by have := hok.low; omega) hl hq
  have hN := hok.low
  have hset32 : ∀ {l : List Int}, setB N l = true → setB 32 l = true := fun hl => setB_iff.2 ⟨(setB_iff.1 hl).1, fun x hx => by have := (setB_iff.1 hl).2 x hx; omega⟩
  have hwl : ∀ {l : List Int}, setB N l = true → wordF l < 4294967296 := fun hl => word_lt fun x hx => by have := (setB_iff.1 hl).2 x hx; exact ⟨this.1, by omega⟩
  have hword := fun A m c l w h hl => RWord_ct A m c l w h (hset32 hl)
  obtain ⟨i1, hi1, hy0, hy1, hy2⟩ := info_parts rowInfoR
  obtain ⟨I, nI, cI, G, nG, cG, O, nO, cO⟩ := a
  simp only at happ haft ⊢
  have hlO := h.ops.len
  have h40 := hok.few
  simp only at hlO
  have hnO : nO ≤ 40 := by rw [← hlO]; exact h40
  obtain ⟨R, hR⟩ : ∃ R, R = refAll T 2001 0 [s] := ⟨_, rfl⟩
  rw [← hR]
  have hwI := hwl hset
  have HR := hide hR
  have Happ := hide happ
  have Haft := hide haft
  have Hword := hide hword
  have Hwl := hide (fun (l : List Int) (hl : setB N l = true) => hwl hl)
  have H := hide h
  have Hs := hide hs
  have Hset := hide hset
  have Hok := hide hok
  have HlO := hide hlO
  have hw1 := fun W hb => hword P np dp s W (hs.keep hb) hset
  obtain ⟨x0, hx0⟩ : ∃ x, x = wordF s := ⟨_, rfl⟩
  simp only [← hx0] at hw1
  rw [← hx0] at hwI
  have Hw1 := hide hw1
  have Hx0 := hide hx0
  clear h hok hs hset hlO h40 hR hword hwl hset32 happ haft hw1 hx0
  go_enter Tryz.func57, Tryz.ntmps57
  go_upto_region 1 with (fail)
  have hT := Blk.new w 25 [.int .i64 T.facts, .slice I nI cI, .slice G nG cG, .slice O nO cO]
  have hb0 := (Below.refl w.heap.size w).alloc (Nat.le_refl _) (.cells #[.int .i64 T.facts, .slice I nI cI, .slice G nG cG, .slice O nO cO] 25)
  have hz0 : (w.alloc (.cells #[.int .i64 T.facts, .slice I nI cI, .slice G nG cG, .slice O nO cO] 25)).heap.size = w.heap.size + 1 := by simp only [World.size_alloc]
  obtain ⟨W0, hW0⟩ : ∃ W0, W0 = w.alloc (.cells #[.int .i64 T.facts, .slice I nI cI, .slice G nG cG, .slice O nO cO] 25) := ⟨_, rfl⟩
  rw [← hW0] at hT hb0 hz0 ⊢
  clear hW0
  have hM : ∀ W, Below W0.heap.size W0 W → Firm (Enc.sl Enc.int) (fun b => W0.heap.size ≤ b) W [.slice P np dp] s := fun W hb => firm_old (w0 := w) (E := Enc.sl Enc.int) ⟨P, np, dp, rfl, Hs.out⟩ (hb0.trans (hb.mono (by omega))) (fun i hi => by omega)
  have ho := own_oneR (t := 22) hM
  have hb1 := (Below.refl W0.heap.size W0).alloc (Nat.le_refl _) (.cells #[.slice P np dp] 22)
  have hz1 : (W0.alloc (.cells #[.slice P np dp] 22)).heap.size = w.heap.size + 1 + 1 := by simp only [World.size_alloc, hz0]
  have HT := hide hT
  have Hb0 := hide hb0
  have Hz0 := hide hz0
  rw [hz0] at ho
  have Ho := hide ho
  clear hT hb0 ho hM
  go_upto_region 2 with (fail)
  obtain ⟨W1, hW1⟩ : ∃ W1, W1 = W0.alloc (.cells #[.slice P np dp] 22) := ⟨_, rfl⟩
  rw [← hW1] at hb1 hz1 Ho ⊢
  clear hW1
  have hb01 := Hb0.out.trans (hb1.mono (by omega))
  have Hb1 := hide hb1
  have Hb01 := hide hb01
  clear hb1 hb01 hz0
  go_wp2_with (go_at_call 103; refine (Hw1.out W1 Hb01.out).mono ?_; rintro e w1 ⟨rfl, rfl⟩)
  have hz0 := Hz0.out
  have hv := rowI_one W1 x0 (by omega) (by omega)
  have hb2 := (Below.refl W1.heap.size W1).alloc (Nat.le_refl _) (.cells #[.int .i64 x0] 3)
  have hz2 : (W1.alloc (.cells #[.int .i64 x0] 3)).heap.size = w.heap.size + 1 + 1 + 1 := by simp only [World.size_alloc, hz1]
  obtain ⟨W2, hW2⟩ : ∃ W2, W2 = W1.alloc (.cells #[.int .i64 x0] 3) := ⟨_, rfl⟩
  rw [← hW2] at hv hb2 hz2 ⊢
  clear hW2
  rw [hz1] at hv
  have hx0 := Hx0.out
  subst hx0
  have hS : RrS w W2 w.heap.size [.int .i64 T.facts, .slice I nI cI, .slice G nG cG, .slice O nO cO] (w.heap.size + 1) (some ⟨w.heap.size + 1, 0, none⟩) 1 1 [.slice P np dp] [s] (some ⟨w.heap.size + 1 + 1, 0, none⟩) 1 1 ([s].map fun s => (wordF s : Int)) := by
    have hlt : ∀ r, blkA (some (⟨w.heap.size + 1, 0, none⟩ : Addr)) = some r → w.heap.size + 1 = r := fun r hr => by simpa [blkA] using hr
    have hlt2 : ∀ r, blkA (some (⟨w.heap.size + 1 + 1, 0, none⟩ : Addr)) = some r → w.heap.size + 1 + 1 = r := fun r hr => by simpa [blkA] using hr
    refine ⟨Hb01.out.trans (hb2.mono (by omega)), (HT.out.keep Hb1.out).keep hb2, (Ho.out.keep hb2).less (fun i hi e => ?_), ?_, fun r h1 h2 => ?_, Nat.le_refl _, by omega, by omega⟩
    · rcases e with e | e | e
      · have := hlt i e; omega
      · have := hlt2 i e; omega
      · omega
    · obtain ⟨vs, hv⟩ := hv
      exact ⟨vs, ⟨own_lowR hv.own (by omega), hv.len, hv.elem⟩⟩
    · have := hlt r h1
      have := hlt2 r h2
      omega
  have HS := hide hS
  have hR0 := HR.out
  have HR0 := hide hR0
  clear hS hv hb2 hz2 hz1 hz0 Ho Hb01 Hb1 HT Hb0 Hz0 Hw1 hR0 HR
  generalize hB1 : w.heap.size + 1 = B1 at HS ⊢
  generalize hB2 : B1 + 1 = B2 at HS ⊢
  generalize hgT : w.heap.size = gT at HS ⊢
  have HgT := hide hgT
  clear hB1 hB2 hgT
  go_loopw [6, 7, 8] (fun ov wv iv wr => ∃ (i : Nat) (Oa : Option Addr) (n oc : Nat) (vs : List Value) (outs : List (List Int)) (V : Option Addr) (vc : Nat), iv = .int .i64 i ∧ ov = .slice Oa n oc ∧ wv = .slice V n vc ∧
      RrS w wr gT [.int .i64 T.facts, .slice I nI cI, .slice G nG cG, .slice O nO cO] B1 Oa n oc vs outs V n vc (outs.map fun s => (wordF s : Int)) ∧ i ≤ n ∧ n ≤ 2000 ∧ (∀ x ∈ outs, setB N x = true) ∧ R = refAll T (2001 - i) i outs) (fun _ _ iv _ => 2001 - (intOf iv).toNat)
  case atStart => exact ⟨0, _, 1, 1, _, [s], _, 1, rfl, rfl, rfl, HS.out, by omega, by omega, fun x hx => by obtain rfl := List.mem_singleton.1 hx; exact Hset.out, HR0.out⟩
  case round =>
    obtain ⟨i, Oa, n, oc, vs, outs, V, vc, rfl, rfl, rfl, hS, hin, hn2, hsets, hRi⟩ := hrel
    clear HS HR0
    have HS := hide hS
    have Hsets := hide hsets
    have hnl := hS.out.len
    have Hnl := hide hnl
    clear hS hsets hnl
    by_cases hlt : i < n
    · have hRs : ∃ si, outs[i]? = some si ∧ R = contR T i (refOps si (T.ops.drop 0) outs) := by
        have hx : outs[i]? = some (outs[i]'(by rw [Hnl.out]; exact hlt)) := List.getElem?_eq_getElem _
        exact ⟨_, hx, by rw [hRi, refAll_step (by omega) hx]; rfl⟩
      obtain ⟨si, hsi, hRs⟩ := hRs
      have Hsi := hide hsi
      have HRs := hide hRs
      clear hRi hsi hRs
      obtain ⟨wq, rfl⟩ : ∃ W, W = wr := ⟨_, rfl⟩
      go_wp2_with fail
      go_loopw [6, 7, 9] (fun ov wv qv wr => ∃ (q : Nat) (Oa : Option Addr) (n oc : Nat) (vs : List Value) (outs : List (List Int)) (V : Option Addr) (vc : Nat), qv = .int .i64 q ∧ ov = .slice Oa n oc ∧ wv = .slice V n vc ∧ q ≤ nO ∧
          RrS w wr gT [.int .i64 T.facts, .slice I nI cI, .slice G nG cG, .slice O nO cO] B1 Oa n oc vs outs V n vc (outs.map fun s => (wordF s : Int)) ∧ i < n ∧ n ≤ 2000 ∧ (∀ x ∈ outs, setB N x = true) ∧ outs[i]? = some si ∧ R = contR T i (refOps si (T.ops.drop q) outs)) (fun _ _ qv _ => nO - (intOf qv).toNat)
      case atStart => exact ⟨0, Oa, n, oc, vs, outs, V, vc, rfl, rfl, rfl, by omega, HS.out, hlt, hn2, Hsets.out, Hsi.out, HRs.out⟩
      case round =>
        clear HS Hsets Hnl Hsi HRs hlt hn2 hin
        obtain ⟨q, Oa, n, oc, vs, outs, V, vc, rfl, rfl, rfl, hqn, hS, hin, hn2, hsets, hsi, hRi⟩ := hrel
        have hsis := hsets si (List.mem_of_getElem? hsi)
        have HS := hide hS
        have Hsets := hide hsets
        have Hnl := hide hS.out.len
        have Hsi := hide hsi
        have HRi := hide hRi
        have Hsis := hide hsis
        clear hS hsets hsi hRi hsis
        obtain ⟨t0, t1, t2, t3⟩ := HS.out.par.cell4
        have tl := HS.out.par.lt
        by_cases hlq : q < nO
        · skip
          obtain ⟨b1, o1, si', A1, n1, c1, e1, hx1, hcx, hrd⟩ := HS.out.out.rd.sl hin
          obtain rfl : si = si' := Option.some.inj (Hsi.out.symm.trans hx1)
          have hbO : blkA Oa = some b1 := by rw [e1]; rfl
          have hoq : T.ops[q]? = some (opAt T.ops q) := by
            have hq2 : q < T.ops.length := by rw [HlO.out]; exact hlq
            rw [opAt_eq (List.getElem?_eq_getElem hq2)]
            exact List.getElem?_eq_getElem hq2
          have hop := Hok.out.ops _ (List.mem_of_getElem? hoq)
          have hdr := List.drop_eq_getElem_cons (show q < T.ops.length by rw [HlO.out]; exact hlq)
          have hdr2 : T.ops.drop q = opAt T.ops q :: T.ops.drop (q + 1) := by
            rw [hdr]
            congr 1
            exact (Option.some.inj (hoq.symm.trans (List.getElem?_eq_getElem _))).symm
          obtain ⟨op, hopq⟩ : ∃ op, op = opAt T.ops q := ⟨_, rfl⟩
          rw [← hopq] at hop hdr2
          have Hop := hide hop
          have Hdr := hide hdr2
          have Hopq := hide hopq
          have Hrd := hide hrd
          subst e1
          have Hcx := hide hcx
          have hcx2 := hcx
          clear hoq hop hdr hdr2 hx1 hrd hopq hcx
          have hqi : ((q : Nat) : Int) < (nO : Int) := by omega
          have hini : ((i : Nat) : Int) < (n : Int) := by omega
          go_upto_region 9 with (fail)
          go_still_tail 6, (by kernel_rfl)
          change wpList _ _ _ _ _ wr.drew
          obtain ⟨w5, hW⟩ : ∃ W, W = wr.drew := ⟨_, rfl⟩
          have hb : Below wr.heap.size wr w5 := by rw [hW]; exact (Below.refl _ _).drew
          rw [← hW]
          clear hW
          clear t0 t1 t2 t3 tl
          replace HS := hide (HS.out.keep hb)
          replace Hrd := hide (Hrd.out.keep hb)
          replace Hcx := hide ((hb.cell (p := ⟨b1, o1 + i, none⟩) (World.block_lt_of_cell? _ _ Hcx.out)).trans Hcx.out)
          clear hb hcx2
          have hcx2 := Hcx.out
          obtain ⟨t0, t1, t2, t3⟩ := HS.out.par.cell4
          have tl := HS.out.par.lt
          have hct := Happ.out A1 n1 c1 si q w5 (H.out.keep HS.out.low) Hrd.out hlq
          rw [← Hopq.out] at hct
          obtain ⟨v1, hv1⟩ : ∃ z, z = subsetB op.pre si := ⟨_, rfl⟩
          rw [← hv1] at hct
          have Hv1 := hide hv1
          have Hct := hide hct
          clear hv1 hct
          go_wp2_with fail
          with_reducible refine Hct.out.mono ?_
          rintro e w6 ⟨rfl, hb⟩
          clear Hct
          clear t0 t1 t2 t3 tl
          replace HS := hide (HS.out.keep hb)
          replace Hrd := hide (Hrd.out.keep hb)
          replace Hcx := hide ((hb.cell (p := ⟨b1, o1 + i, none⟩) (World.block_lt_of_cell? _ _ Hcx.out)).trans Hcx.out)
          clear hb hcx2
          have hcx2 := Hcx.out
          obtain ⟨t0, t1, t2, t3⟩ := HS.out.par.cell4
          have tl := HS.out.par.lt
          cases v1 with
          | false =>
            have hRn : R = contR T i (refOps si (T.ops.drop (q + 1)) outs) := by
              rw [HRi.out, Hdr.out]
              congr 1
              rw [refOps, if_neg (by rw [← Hv1.out]; simp)]
            have HRn := hide hRn
            clear hRn
            go_wp2_with fail
            go_roundw
            case rel => exact ⟨q + 1, _, n, oc, vs, outs, V, vc, by go_num, rfl, rfl, by omega, HS.out, hin, hn2, Hsets.out, Hsi.out, HRn.out⟩
            case measure => simp [intOf]; omega
          | true =>
            go_upto_region 10 with (fail)
            go_still_tail 6, (by kernel_rfl)
            change wpList _ _ _ _ _ w6.drew
            obtain ⟨w7, hW⟩ : ∃ W, W = w6.drew := ⟨_, rfl⟩
            have hb : Below w6.heap.size w6 w7 := by rw [hW]; exact (Below.refl _ _).drew
            rw [← hW]
            clear hW
            clear t0 t1 t2 t3 tl
            replace HS := hide (HS.out.keep hb)
            replace Hrd := hide (Hrd.out.keep hb)
            replace Hcx := hide ((hb.cell (p := ⟨b1, o1 + i, none⟩) (World.block_lt_of_cell? _ _ Hcx.out)).trans Hcx.out)
            clear hb hcx2
            have hcx2 := Hcx.out
            obtain ⟨t0, t1, t2, t3⟩ := HS.out.par.cell4
            have tl := HS.out.par.lt
            have hct := Haft.out A1 n1 c1 si q w7 (H.out.keep HS.out.low) Hrd.out hlq
            rw [← Hopq.out, aftR_upd Hop.out Hsis.out] at hct
            have Hct := hide hct
            clear hct
            go_wp2_with fail
            with_reducible refine Hct.out.mono ?_
            rintro e w8 ⟨hb, A2, c2, rfl, hown⟩
            have hO8 : ∀ r, blkA A2 = some r → w7.heap.size ≤ r := fun r hr => own_base hown (by rw [own_blkA]; exact hr)
            have hOl : ∀ r, blkA (some (⟨b1, o1, none⟩ : Addr)) = some r → r < w7.heap.size := fun r hr => (HS.out.out.base hr).2
            have hVl : ∀ r, blkA V = some r → r < w7.heap.size := fun r hr => (HS.out.wd.base hr).2
            clear Hct
            clear t0 t1 t2 t3 tl
            replace HS := hide (HS.out.keep hb)
            replace Hrd := hide (Hrd.out.keep hb)
            replace Hcx := hide ((hb.cell (p := ⟨b1, o1 + i, none⟩) (World.block_lt_of_cell? _ _ Hcx.out)).trans Hcx.out)
            clear hb hcx2
            have hcx2 := Hcx.out
            obtain ⟨t0, t1, t2, t3⟩ := HS.out.par.cell4
            have tl := HS.out.par.lt
            have hnx := upd_setR Hsis.out Hop.out
            obtain ⟨nx, hnxe⟩ : ∃ nx, nx = updF si op.add op.del := ⟨_, rfl⟩
            rw [← hnxe] at hown hnx ⊢
            have hni : ∀ x ∈ nx, -9223372036854775808 ≤ x ∧ x ≤ 9223372036854775807 := fun x hx => by
              have := (setB_iff.1 hnx).2 x hx
              omega
            have hfirm := firm_rowR (M := fun b => blkA (some (⟨b1, o1, none⟩ : Addr)) = some b ∨ blkA V = some b ∨ w8.heap.size ≤ b) hown rfl hni (fun r hr e => by
              have h1 := hO8 r hr
              have h2 := (own_block hown (r := r) (by rw [own_blkA]; exact hr)).1
              rcases e with e | e | e
              · have := hOl r e; omega
              · have := hVl r e; omega
              · omega)
            have hrdn := own_rd hown rfl hni
            have hwn := Hwl.out nx hnx
            obtain ⟨ln, hln⟩ : ∃ ln, ln = nx.length := ⟨_, rfl⟩
            rw [← hln] at hfirm hrdn ⊢
            have hwd := Hword.out A2 ln c2 nx w8 hrdn hnx
            obtain ⟨xn, hxn⟩ : ∃ x, x = wordF nx := ⟨_, rfl⟩
            rw [← hxn] at hwd hwn
            have hhas := Has_ct V n vc (outs.map fun s => (wordF s : Int)) xn w8 HS.out.wd.rd
            rw [hasB_words] at hhas
            obtain ⟨v2, hv2⟩ : ∃ z, z = (outs.map wordF).contains xn := ⟨_, rfl⟩
            rw [← hv2] at hhas
            have Hnx := hide hnx
            have Hnxe := hide hnxe
            have Hfirm := hide hfirm
            have Hrdn := hide hrdn
            have Hwd := hide hwd
            have Hxn := hide hxn
            have Hhas := hide hhas
            have Hv2 := hide hv2
            clear hown hO8 hOl hVl hnx hnxe hni hfirm hrdn hln hwd hxn hhas hv2
            go_upto_region 11 with (fail)
            cases v2 with
            | true =>
              have hRn : R = contR T i (refOps si (T.ops.drop (q + 1)) outs) := by
                rw [HRi.out, Hdr.out]
                congr 1
                rw [refOps, if_pos (by rw [← Hv1.out]), ← Hnxe.out, ← Hxn.out, if_pos (by rw [← Hv2.out])]
              have HRn := hide hRn
              clear hRn
              go_wp2_with (first
                | (go_at_call 103; (with_reducible refine Hwd.out.mono ?_); rintro e w9 ⟨rfl, rfl⟩)
                | (go_at_call 58; (with_reducible refine Hhas.out.mono ?_); rintro e w9 ⟨rfl, rfl⟩))
              go_roundw
              case rel => exact ⟨q + 1, _, n, oc, vs, outs, V, vc, by go_num, rfl, rfl, by omega, HS.out, hin, hn2, Hsets.out, Hsi.out, HRn.out⟩
              case measure => simp [intOf]; omega
            | false =>
              by_cases hfull : n = 2000
              · have hRn : R = none := by
                  rw [HRi.out, Hdr.out, refOps, if_pos (by rw [← Hv1.out]), ← Hnxe.out, ← Hxn.out, if_neg (by rw [← Hv2.out]; simp), if_pos (by rw [Hnl.out]; exact hfull)]
                  rfl
                have HRn := hide hRn
                clear hRn
                subst hfull
                go_wp2_with (first
                  | (go_at_call 103; (with_reducible refine Hwd.out.mono ?_); rintro e w9 ⟨rfl, rfl⟩)
                  | (go_at_call 58; (with_reducible refine Hhas.out.mono ?_); rintro e w9 ⟨rfl, rfl⟩))
                go_ret2
                rw [HRn.out]
                exact ⟨HS.out.low, rfl⟩
              · have hRn : R = contR T i (refOps si (T.ops.drop (q + 1)) (outs ++ [nx])) := by
                  rw [HRi.out, Hdr.out]
                  congr 1
                  rw [refOps, if_pos (by rw [← Hv1.out]), ← Hnxe.out, ← Hxn.out, if_neg (by rw [← Hv2.out]; simp), if_neg (by rw [Hnl.out]; exact hfull)]
                have HRn := hide hRn
                have hfe : ((n : Int) == 2000) = false := by rw [beq_eq_false_iff_ne]; omega
                clear hRn
                go_wp2_with (first
                  | (go_at_call 103; (with_reducible refine Hwd.out.mono ?_); rintro e w9 ⟨rfl, rfl⟩)
                  | (go_at_call 103; (with_reducible refine Hwd9.out.mono ?_); rintro e w9 ⟨rfl, rfl⟩)
                  | (go_at_call 58; (with_reducible refine Hhas.out.mono ?_); rintro e w9 ⟨rfl, rfl⟩)
                  | (at_builtin
                     refine wpList_pushE (E := Enc.sl Enc.int) rfl _ _ 42 rfl B1 22 i1 (.slice none 0 0) 24 Tryz.underlying42 hi1 hy0 hy1 hy2 rfl (by decide) rfl HS.out.out (fun r hr => .inl hr) [.slice A2 ln c2] nx (by intro u hu; simp at hu; subst hu; rfl) rfl Hfirm.out (by omega) (by omega) HS.out.g2 ?_
                     intro O6 oc6 w9 hown6 hch6 hat6
                     have HS9 := hide (HS.out.pushO hown6 hch6 hat6)
                     obtain ⟨_, _, _, he9, hr9⟩ := Hfirm.out w9 (hch6.mono (fun b e => .inl e))
                     injection he9 with he9 _
                     injection he9 with a1 a2 a3
                     subst a1 a2 a3
                     have hwd9 := Hword.out A2 ln c2 nx w9 hr9 Hnx.out
                     rw [← Hxn.out] at hwd9
                     have Hwd9 := hide hwd9
                     clear hown6 hch6 hat6 hr9 hwd9)
                  | (at_builtin
                     refine wpList_pushI rfl _ _ rfl rfl HS9.out.wd (xn : Int) (by omega) (by omega) rfl (by omega) HS9.out.g2 ?_
                     intro O7 oc7 w10 hrow7 hch7 hat7
                     have HS10 := hide (HS9.out.pushV hrow7 hch7 hat7)
                     clear hrow7 hch7 hat7))
                go_roundw
                case rel =>
                  refine ⟨q + 1, O6, n + 1, oc6, vs ++ [.slice A2 ln c2], outs ++ [nx], O7, oc7, by go_num, rfl, rfl, by omega, ?_, by omega, by omega, fun x hx => ?_, ?_, HRn.out⟩
                  · have := HS10.out
                    rw [Hxn.out] at this
                    simpa using this
                  · rcases List.mem_append.1 hx with hx | hx
                    · exact Hsets.out x hx
                    · obtain rfl := List.mem_singleton.1 hx
                      exact Hnx.out
                  · rw [List.getElem?_append_left (by rw [Hnl.out]; exact hin)]
                    exact Hsi.out
                case measure => simp [intOf]; omega
        · skip
          have hqe : q = nO := by omega
          have hRn : R = refAll T (2001 - (i + 1)) (i + 1) outs := by
            rw [HRi.out, hqe, List.drop_eq_nil_of_le (by rw [HlO.out]; omega), show 2001 - (i + 1) = 2000 - i by omega]
            rfl
          have HRn := hide hRn
          clear hRn hqe
          go_wp2_with fail
          go_roundw
          case rel => exact ⟨i + 1, Oa, n, oc, vs, outs, V, vc, by go_num, rfl, rfl, HS.out, by omega, hn2, Hsets.out, HRn.out⟩
          case measure => simp [intOf]; omega
    · have hie : n ≤ i := by omega
      have hRe : R = some outs := by rw [hRi, refAll_end (by omega) (by rw [Hnl.out]; exact hie)]
      have HRe := hide hRe
      clear hRi hRe
      go_wp2_with fail
      go_ret2
      rw [HRe.out]
      have hl := Hnl.out
      subst hl
      exact ⟨HS.out.low, _, _, rfl, HS.out.out.rd⟩
    end Go.Proofs.YtmjiiddncbhgpaaGreat
namespace Go.Proofs.YtmjiiddncbhgpaaGreat
set_option linter.unusedVariables false
set_option linter.unusedSimpArgs false
open Go.RowKit
set_option maxRecDepth 100000 in
set_option maxHeartbeats 3200000 in
theorem Reached_ct (a : TA) (T : Tsk) (N : Nat) (w : World) (h : TkR w a T) (hok : OkT T N) :
    Calls Tryz.prog 18 #[.agg #[.int .i64 T.facts, .slice a.I a.nI a.cI, .slice a.G a.nG a.cG, .slice a.O a.nO a.cO]] w (RReachP w (refReach T)) := by
  have hfr := fun P np dp s w h hs hset => ReachedFrom_ct a T N P np dp s w h hok hs hset
  obtain ⟨I, nI, cI, G, nG, cG, O, nO, cO⟩ := a
  simp only at hfr ⊢
  have hT := Blk.new w 25 [.int .i64 T.facts, .slice I nI cI, .slice G nG cG, .slice O nO cO]
  have hb0 := (Below.refl w.heap.size w).alloc (Nat.le_refl _) (.cells #[.int .i64 T.facts, .slice I nI cI, .slice G nG cG, .slice O nO cO] 25)
  have Hc := hide (hfr I nI cI T.init _ (h.keep hb0) (h.init.keep hb0) hok.init)
  have Hb0 := hide hb0
  have hR : refReach T = refAll T 2001 0 [T.init] := rfl
  rw [hR]
  obtain ⟨R, hRe⟩ : ∃ R, R = refAll T 2001 0 [T.init] := ⟨_, rfl⟩
  rw [← hRe] at Hc ⊢
  clear hR hRe hfr hb0 hT
  go_enter Tryz.func18, Tryz.ntmps18
  go_wp2_with fail
  with_reducible refine Hc.out.mono ?_
  rintro e w1 ⟨hb, hr⟩
  have Hb1 := hide (Hb0.out.trans (hb.mono Hb0.out.size))
  clear hb
  cases R with
  | none =>
    subst hr
    go_wp2_with fail
    go_ret2
    exact ⟨Hb1.out, rfl⟩
  | some l =>
    obtain ⟨A, c, rfl, hrd⟩ := hr
    have Hrd := hide hrd
    clear hrd
    go_wp2_with fail
    go_ret2
    exact ⟨Hb1.out, A, c, rfl, Hrd.out⟩
theorem reach_some {T : Tsk} {N : Nat} (hok : OkT T N) {l : List (List Int)} (h : refReach T = some l) : AllOf (stepW (T.ops.map mkOp)) (wordF T.init) (l.map wordF) ∧ l.length ≤ 2000 ∧ ∀ x ∈ l, setB N x = true := by
  have := refReach_law hok
  rw [h] at this
  exact this
theorem reach_none {T : Tsk} {N : Nat} (hok : OkT T N) (h : refReach T = none) : TooMany T := by
  have := refReach_law hok
  rw [h] at this
  exact this
/-- too many, or a list of all: not both -/
theorem many_not_all {T : Tsk} {l : List Nat} (h : TooMany T) (hl : AllOf (stepW (T.ops.map mkOp)) (wordF T.init) l) : 2001 ≤ l.length := by
  obtain ⟨m, h1, h2, h3⟩ := h
  have := hl.few h1 h2
  omega
end Go.Proofs.YtmjiiddncbhgpaaGreat
