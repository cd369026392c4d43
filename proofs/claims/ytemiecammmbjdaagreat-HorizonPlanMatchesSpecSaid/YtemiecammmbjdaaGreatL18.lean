/- What the law asks for, part 18: Hr3. -/
import Derived.Test.YtemiecammmbjdaaGreatL1
import Derived.Test.YtemiecammmbjdaaGreatL2
import Derived.Test.YtemiecammmbjdaaGreatL3
import Derived.Test.YtemiecammmbjdaaGreatL4
import Derived.Test.YtemiecammmbjdaaGreatL6
import Derived.Test.YtemiecammmbjdaaGreatL7
import Derived.Test.YtemiecammmbjdaaGreatL8
import Derived.Test.YtemiecammmbjdaaGreatL9
import Derived.Test.YtemiecammmbjdaaGreatL10
import Derived.BigQuiet
import Derived.Deep.AppendLies
import Derived.Deep.DeepCutAuto
import Derived.Deep.Draws
import Derived.Deep.Fields
import Derived.Deep.LoopGhost
import Derived.Deep.QuietTactic
import Derived.Deep.RegionHeld3
import Derived.Deep.Slices
import Derived.Ground.Names2Prog
import Derived.Ground.SlgnProg
import Derived.Ground.SlsfProg
import Derived.IntWalk
import Derived.Laws.AppendOwnNone
import Derived.Laws.OwnMore
import Derived.Lib.Hide
import Derived.Lib.SlicesCompact
import Derived.Maps.AppendAt
import Derived.Shelf.Slices.Cells
import Derived.Shelf.Slices.Clone
import Derived.Shelf.Slices.CompactI
import Derived.Shelf.Slices.Empties
import Derived.Shelf.Slices.In.SortNone
import Derived.Shelf.Slices.SearchI
import Derived.Shelf.Sort.Plain
import Derived.Sort.OwnSortedInts
import Derived.StillTailTactics
import Derived.Test.YtemiecammmbjdaaGreatProg
import Derived.WalkKit
import Init
namespace Go.Proofs.YtemiecammmbjdaaGreat
set_option linter.unusedVariables false
set_option linter.unusedSimpArgs false
open Go.RowKit
def EndsP (w : World) (r : Option (List Int)) (e : Ending) (w' : World) : Prop := Below w.heap.size w w' ∧
  ((r = none ∧ e = .returned (.tuple #[.slice none 0 0, .bool false])) ∨ ∃ (x : List Int) (A : Option Addr) (n c : Nat), r = some x ∧ e = .returned (.tuple #[.slice A n c, .bool true]) ∧ Rd Enc.int w' A n c x)
set_option maxRecDepth 100000 in
set_option maxHeartbeats 6400000 in
theorem Ends_ct (a : TA) (T : Tsk) (N : Nat) (P : Option Addr) (np dp : Nat) (s : List Int) (B : Option Addr) (m d : Nat) (l : List Int) (w : World) (h : TkR w a T) (hok : OkT T N) (hs : Rd Enc.int w P np dp s) (hl : Rd Enc.int w B m d l) (hset : setB N s = true) (hr : ∀ x ∈ l, 0 ≤ x ∧ x < T.ops.length) :
    Calls Tryz.prog 50 #[.agg #[.int .i64 T.facts, .slice a.I a.nI a.cI, .slice a.G a.nG a.cG, .slice a.O a.nO a.cO], .slice P np dp, .slice B m d] w (EndsP w (execO s (l.map (opAt T.ops)))) := by
  have happ := fun B m d l q w h1 h2 h3 => Applies_ct a T B m d l q w h1 h2 h3
  have haft := fun B m d l q w h1 h2 h3 h4 h5 => After_ct a T N B m d l q w h1 h2 h3 h4 h5
  obtain ⟨I, nI, cI, G, nG, cG, O, nO, cO⟩ := a
  simp only at happ haft ⊢
  rw [hok.facts] at happ haft ⊢
  have hN := hok.low
  have hlO := h.ops.len
  simp only at hlO
  have HlO := hide hlO
  have H := hide h
  have Hs := hide hs
  have Hl := hide hl
  have Hll := hide hl.len
  have hlm := hl.low
  have Hok := hide hok
  have Hset := hide hset
  have Hr := hide hr
  have Happ := hide happ
  have Haft := hide haft
  clear h hs hl hok hset hr happ haft hlO
  have Hbl := hide (Below.refl w.heap.size w)
  go_enter Tryz.func50, Tryz.ntmps50
  go_upto_region 1 with (fail)
  obtain ⟨B0, hB0⟩ : ∃ B0, B0 = w.heap.size := ⟨_, rfl⟩
  have HB0 := hide hB0
  clear hB0
  have s_0 : B0 ≤ w.heap.size := Nat.le_trans (Nat.le_of_eq HB0.out) Hbl.out.size
  have hyt := Blk.new (w) 25 [.int .i64 N, .slice I nI cI, .slice G nG cG, .slice O nO cO]
  have hbW : Below (w).heap.size (w) ((w).alloc (.cells #[.int .i64 N, .slice I nI cI, .slice G nG cG, .slice O nO cO] 25)) := (Below.refl _ _).alloc (Nat.le_refl _) _
  obtain ⟨w0, hW⟩ : ∃ W, W = (w).alloc (.cells #[.int .i64 N, .slice I nI cI, .slice G nG cG, .slice O nO cO] 25) := ⟨_, rfl⟩
  rw [← hW] at hyt hbW ⊢
  replace Hbl := hide (Hbl.out.trans (hbW.mono Hbl.out.size))
  have Ht := hide hyt
  clear hW hbW hyt
  generalize w.heap.size = gT at Ht s_0 ⊢
  have t0 := Ht.out.cell 0
  have t1 := Ht.out.cell 1
  have t2 := Ht.out.cell 2
  have t3 := Ht.out.cell 3
  have tl := Ht.out.lt
  simp only [List.getElem?_cons_zero, List.getElem?_cons_succ] at t0 t1 t2 t3
  have a_t : B0 ≤ gT := by omega
  clear s_0
  go_wp2_with fail
  clear t0 t1 t2 t3 tl
  go_loopw [1, 8] (fun ss i wr => ∃ (k : Nat) (P' : Option Addr) (n' c' : Nat) (s' : List Int), k ≤ m ∧ i = .int .i64 k ∧ ss = .slice P' n' c' ∧ Rd Enc.int wr P' n' c' s' ∧ setB N s' = true ∧ execO s (l.map (opAt T.ops)) = execO s' ((l.drop k).map (opAt T.ops)) ∧ Below w.heap.size w wr ∧ Blk 25 wr gT [.int .i64 N, .slice I nI cI, .slice G nG cG, .slice O nO cO]) (fun _ i _ => m - (intOf i).toNat)
  case atStart => exact ⟨0, P, np, dp, s, by omega, rfl, rfl, Hs.out.keep Hbl.out, Hset.out, rfl, Hbl.out, Ht.out⟩
  case round =>
    clear Ht Hbl
    obtain ⟨w4, rfl⟩ : ∃ V, V = wr := ⟨_, rfl⟩
    obtain ⟨k, P', n', c', s', hk, rfl, rfl, hrd, hset', hex, hbl, ht⟩ := hrel
    have Hrd := hide hrd
    have Hset' := hide hset'
    have Hex := hide hex
    have Hbl := hide hbl
    have Ht := hide ht
    clear hrd hset' hex hbl ht
    have t0 := Ht.out.cell 0
    have t1 := Ht.out.cell 1
    have t2 := Ht.out.cell 2
    have t3 := Ht.out.cell 3
    have tl := Ht.out.lt
    simp only [List.getElem?_cons_zero, List.getElem?_cons_succ] at t0 t1 t2 t3
    by_cases hlt : k < m
    · have hki : (k : Int) < (m : Int) := by omega
      obtain ⟨b, off, x, rfl, hx, hx1, hx2, hcx⟩ := (Hl.out.keep Hbl.out).int hlt
      have hxr := Hr.out x (List.mem_of_getElem? hx)
      obtain ⟨q, rfl⟩ : ∃ q : Nat, x = (q : Int) := ⟨x.toNat, by omega⟩
      have hqn : q < nO := by have := HlO.out; omega
      have hdrop := drop_cons hx
      have Hdrop := hide hdrop
      clear hx hxr hdrop
      go_upto_region 4 with (fail)
      go_still_tail 6, (by kernel_rfl)
      change wpList _ _ _ _ _ w4.drew
      obtain ⟨w5, hW⟩ : ∃ W, W = w4.drew := ⟨_, rfl⟩
      have hb : Below w4.heap.size w4 w5 := by rw [hW]; exact (Below.refl _ _).drew
      rw [← hW]
      clear hW
      replace Ht := hide (Ht.out.keep hb)
      replace Hbl := hide (Hbl.out.trans (hb.mono Hbl.out.size))
      replace Hrd := hide (Hrd.out.keep hb)
      replace hcx := (hb.cell (p := ⟨b, off + k, none⟩) (World.block_lt_of_cell? _ _ hcx)).trans hcx
      clear hb t0 t1 t2 t3 tl
      have t0 := Ht.out.cell 0
      have t1 := Ht.out.cell 1
      have t2 := Ht.out.cell 2
      have t3 := Ht.out.cell 3
      have tl := Ht.out.lt
      simp only [List.getElem?_cons_zero, List.getElem?_cons_succ] at t0 t1 t2 t3
      have hct := Happ.out P' n' c' s' q w5 (H.out.keep Hbl.out) Hrd.out hqn
      obtain ⟨v1, hv1⟩ : ∃ z, z = subsetB (opAt T.ops (q : Int)).pre s' := ⟨_, rfl⟩
      rw [← hv1] at hct
      have Hv1 := hide hv1
      go_wp2_with fail
      with_reducible refine hct.mono ?_
      rintro e w6 ⟨rfl, hb⟩
      clear hct hv1
      replace Ht := hide (Ht.out.keep hb)
      replace Hbl := hide (Hbl.out.trans (hb.mono Hbl.out.size))
      replace Hrd := hide (Hrd.out.keep hb)
      replace hcx := (hb.cell (p := ⟨b, off + k, none⟩) (World.block_lt_of_cell? _ _ hcx)).trans hcx
      clear hb t0 t1 t2 t3 tl
      have t0 := Ht.out.cell 0
      have t1 := Ht.out.cell 1
      have t2 := Ht.out.cell 2
      have t3 := Ht.out.cell 3
      have tl := Ht.out.lt
      simp only [List.getElem?_cons_zero, List.getElem?_cons_succ] at t0 t1 t2 t3
      have hop := Hok.out.ops (opAt T.ops q) (opAt_mem (by omega) (by have := HlO.out; omega))
      cases v1 with
      | false =>
        have hend : execO s (l.map (opAt T.ops)) = none := by
          rw [Hex.out, Hdrop.out, List.map_cons]
          unfold execO
          rw [if_neg (by rw [← Hv1.out]; simp)]
        have Hend := hide hend
        clear hend
        go_wp2_with fail
        go_ret2
        exact ⟨Hbl.out, .inl ⟨Hend.out, rfl⟩⟩
      | true =>
        have hnx : execO s (l.map (opAt T.ops)) = execO (afterF N (opAt T.ops (q : Int)) s') ((l.drop (k + 1)).map (opAt T.ops)) := by
          rw [Hex.out, Hdrop.out, List.map_cons]
          conv => lhs; unfold execO
          rw [if_pos Hv1.out.symm, after_upd hop Hset'.out]
        have Hnx := hide hnx
        clear hnx
        go_upto_region 6 with (fail)
        go_still_tail 6, (by kernel_rfl)
        change wpList _ _ _ _ _ w6.drew
        obtain ⟨w7, hW⟩ : ∃ W, W = w6.drew := ⟨_, rfl⟩
        have hb : Below w6.heap.size w6 w7 := by rw [hW]; exact (Below.refl _ _).drew
        rw [← hW]
        clear hW
        replace Ht := hide (Ht.out.keep hb)
        replace Hbl := hide (Hbl.out.trans (hb.mono Hbl.out.size))
        replace Hrd := hide (Hrd.out.keep hb)
        replace hcx := (hb.cell (p := ⟨b, off + k, none⟩) (World.block_lt_of_cell? _ _ hcx)).trans hcx
        clear hb t0 t1 t2 t3 tl
        have t0 := Ht.out.cell 0
        have t1 := Ht.out.cell 1
        have t2 := Ht.out.cell 2
        have t3 := Ht.out.cell 3
        have tl := Ht.out.lt
        simp only [List.getElem?_cons_zero, List.getElem?_cons_succ] at t0 t1 t2 t3
        have hct := Haft.out P' n' c' s' q w7 (H.out.keep Hbl.out) (by trivial) (by omega) Hrd.out hqn
        go_wp2_with fail
        with_reducible refine hct.mono ?_
        rintro e w8 ⟨hb, Y, yc, rfl, hown⟩
        have hry := own_rd hown rfl (set_ints (pick_set N _) (by omega))
        have Hry := hide hry
        clear hct hown hry
        replace Ht := hide (Ht.out.keep hb)
        replace Hbl := hide (Hbl.out.trans (hb.mono Hbl.out.size))
        replace Hrd := hide (Hrd.out.keep hb)
        replace hcx := (hb.cell (p := ⟨b, off + k, none⟩) (World.block_lt_of_cell? _ _ hcx)).trans hcx
        clear hb t0 t1 t2 t3 tl
        have t0 := Ht.out.cell 0
        have t1 := Ht.out.cell 1
        have t2 := Ht.out.cell 2
        have t3 := Ht.out.cell 3
        have tl := Ht.out.lt
        simp only [List.getElem?_cons_zero, List.getElem?_cons_succ] at t0 t1 t2 t3
        go_wp2_with fail
        go_roundw
        case rel => exact ⟨k + 1, Y, _, yc, _, by omega, by go_num, rfl, Hry.out, pick_set N _, Hnx.out, Hbl.out, Ht.out⟩
        case measure => simp [intOf]; omega
    · obtain rfl : m = k := by omega
      have hend : execO s (l.map (opAt T.ops)) = some s' := by
        rw [Hex.out, List.drop_of_length_le (by rw [Hll.out]; omega)]
        rfl
      have Hend := hide hend
      clear hend
      go_wp2_with fail
      go_ret2
      exact ⟨Hbl.out, .inr ⟨s', P', n', c', Hend.out, rfl, Hrd.out⟩⟩
set_option maxRecDepth 100000 in
set_option maxHeartbeats 6400000 in
theorem RWorks_ct (a : TA) (T : Tsk) (N : Nat) (P : Option Addr) (np dp : Nat) (s : List Int) (B : Option Addr) (m d : Nat) (l : List Int) (w : World) (h : TkR w a T) (hok : OkT T N) (hs : Rd Enc.int w P np dp s) (hl : Rd Enc.int w B m d l) (hset : setB N s = true) (hr : ∀ x ∈ l, 0 ≤ x ∧ x < T.ops.length) :
    Calls Tryz.prog 26 #[.agg #[.int .i64 T.facts, .slice a.I a.nI a.cI, .slice a.G a.nG a.cG, .slice a.O a.nO a.cO], .slice P np dp, .slice B m d] w (Gives w (.bool (worksF T s l))) := by
  have hends := Ends_ct a T N P np dp s B m d l
  obtain ⟨I, nI, cI, G, nG, cG, O, nO, cO⟩ := a
  simp only at hends ⊢
  have H := hide h
  have Hs := hide hs
  have Hl := hide hl
  have Hok := hide hok
  have Hset := hide hset
  have Hr := hide hr
  have Hends := hide hends
  clear h hs hl hok hset hr hends
  have Hbl := hide (Below.refl w.heap.size w)
  go_enter Tryz.func26, Tryz.ntmps26
  go_upto_region 1 with (fail)
  obtain ⟨B0, hB0⟩ : ∃ B0, B0 = w.heap.size := ⟨_, rfl⟩
  have HB0 := hide hB0
  clear hB0
  have s_0 : B0 ≤ w.heap.size := Nat.le_trans (Nat.le_of_eq HB0.out) Hbl.out.size
  have hyt := Blk.new (w) 25 [.int .i64 T.facts, .slice I nI cI, .slice G nG cG, .slice O nO cO]
  have hbW : Below (w).heap.size (w) ((w).alloc (.cells #[.int .i64 T.facts, .slice I nI cI, .slice G nG cG, .slice O nO cO] 25)) := (Below.refl _ _).alloc (Nat.le_refl _) _
  obtain ⟨w0, hW⟩ : ∃ W, W = (w).alloc (.cells #[.int .i64 T.facts, .slice I nI cI, .slice G nG cG, .slice O nO cO] 25) := ⟨_, rfl⟩
  rw [← hW] at hyt hbW ⊢
  replace Hbl := hide (Hbl.out.trans (hbW.mono Hbl.out.size))
  have Ht := hide hyt
  clear hW hbW hyt
  generalize w.heap.size = gT at Ht s_0 ⊢
  have t0 := Ht.out.cell 0
  have t1 := Ht.out.cell 1
  have t2 := Ht.out.cell 2
  have t3 := Ht.out.cell 3
  have tl := Ht.out.lt
  simp only [List.getElem?_cons_zero, List.getElem?_cons_succ] at t0 t1 t2 t3
  have a_t : B0 ≤ gT := by omega
  clear s_0
  go_wp2_with fail
  with_reducible refine (Hends.out w0 (H.out.keep Hbl.out) Hok.out (Hs.out.keep Hbl.out) (Hl.out.keep Hbl.out) Hset.out Hr.out).mono ?_
  rintro e w1 ⟨hb, ⟨hno, rfl⟩ | ⟨x, A, n, c, hsome, rfl, hrd⟩⟩
  · skip
    clear t0 t1 t2 t3 tl
    replace Ht := hide (Ht.out.keep hb)
    replace Hbl := hide (Hbl.out.trans (hb.mono Hbl.out.size))
    clear hb
    have t0 := Ht.out.cell 0
    have t1 := Ht.out.cell 1
    have t2 := Ht.out.cell 2
    have t3 := Ht.out.cell 3
    have tl := Ht.out.lt
    simp only [List.getElem?_cons_zero, List.getElem?_cons_succ] at t0 t1 t2 t3
    have hres : worksF T s l = false := by unfold worksF; rw [hno]
    have Hres := hide hres
    clear hres hno
    go_wp2_with fail
    go_ret
    exact ⟨ret_bool Hres.out.symm, Hbl.out⟩
  · skip
    have hres : worksF T s l = subsetB T.goal x := by unfold worksF; rw [hsome]
    have Hres := hide hres
    have Hrd := hide hrd
    clear hres hsome hrd
    clear t0 t1 t2 t3 tl
    replace Ht := hide (Ht.out.keep hb)
    replace Hbl := hide (Hbl.out.trans (hb.mono Hbl.out.size))
    clear hb
    have t0 := Ht.out.cell 0
    have t1 := Ht.out.cell 1
    have t2 := Ht.out.cell 2
    have t3 := Ht.out.cell 3
    have tl := Ht.out.lt
    simp only [List.getElem?_cons_zero, List.getElem?_cons_succ] at t0 t1 t2 t3
    have hct := Subset_ct G A nG cG n c T.goal x w1 (H.out.goal.keep Hbl.out) Hrd.out
    go_wp2_with fail
    with_reducible refine hct.mono ?_
    rintro e w2 ⟨rfl, hq⟩
    have Hq := hide hq
    clear hct hq
    go_wp2_with fail
    go_ret
    exact ⟨ret_bool (by rw [Hres.out]), Hbl.out.trans (Hq.out.below _)⟩
set_option maxRecDepth 100000 in
set_option maxHeartbeats 6400000 in
theorem RSolves_ct (a : TA) (T : Tsk) (N : Nat) (B : Option Addr) (m d : Nat) (l : List Int) (w : World) (h : TkR w a T) (hok : OkT T N) (hl : Rd Enc.int w B m d l) (hr : ∀ x ∈ l, 0 ≤ x ∧ x < T.ops.length) :
    Calls Tryz.prog 9 #[.agg #[.int .i64 T.facts, .slice a.I a.nI a.cI, .slice a.G a.nG a.cG, .slice a.O a.nO a.cO], .slice B m d] w (Gives w (.bool (worksF T T.init l))) := by
  have hwk := fun P np dp s w => RWorks_ct a T N P np dp s B m d l w
  obtain ⟨I, nI, cI, G, nG, cG, O, nO, cO⟩ := a
  simp only at hwk ⊢
  have H := hide h
  have Hl := hide hl
  have Hok := hide hok
  have Hr := hide hr
  have Hwk := hide hwk
  clear h hl hok hr hwk
  have Hbl := hide (Below.refl w.heap.size w)
  go_enter Tryz.func9, Tryz.ntmps9
  go_upto_region 1 with (fail)
  obtain ⟨B0, hB0⟩ : ∃ B0, B0 = w.heap.size := ⟨_, rfl⟩
  have HB0 := hide hB0
  clear hB0
  have s_0 : B0 ≤ w.heap.size := Nat.le_trans (Nat.le_of_eq HB0.out) Hbl.out.size
  have hyt := Blk.new (w) 25 [.int .i64 T.facts, .slice I nI cI, .slice G nG cG, .slice O nO cO]
  have hbW : Below (w).heap.size (w) ((w).alloc (.cells #[.int .i64 T.facts, .slice I nI cI, .slice G nG cG, .slice O nO cO] 25)) := (Below.refl _ _).alloc (Nat.le_refl _) _
  obtain ⟨w0, hW⟩ : ∃ W, W = (w).alloc (.cells #[.int .i64 T.facts, .slice I nI cI, .slice G nG cG, .slice O nO cO] 25) := ⟨_, rfl⟩
  rw [← hW] at hyt hbW ⊢
  replace Hbl := hide (Hbl.out.trans (hbW.mono Hbl.out.size))
  have Ht := hide hyt
  clear hW hbW hyt
  generalize w.heap.size = gT at Ht s_0 ⊢
  have t0 := Ht.out.cell 0
  have t1 := Ht.out.cell 1
  have t2 := Ht.out.cell 2
  have t3 := Ht.out.cell 3
  have tl := Ht.out.lt
  simp only [List.getElem?_cons_zero, List.getElem?_cons_succ] at t0 t1 t2 t3
  have a_t : B0 ≤ gT := by omega
  clear s_0
  go_wp2_with fail
  with_reducible refine (Hwk.out I nI cI T.init w0 (H.out.keep Hbl.out) Hok.out (H.out.init.keep Hbl.out) (Hl.out.keep Hbl.out) Hok.out.init Hr.out).mono ?_
  rintro e w1 ⟨rfl, hb⟩
  have Hb := hide hb
  clear hb
  go_wp2_with fail
  go_ret
  exact ⟨rfl, Hbl.out.trans (Hb.out.mono Hbl.out.size)⟩
set_option maxRecDepth 100000 in
set_option maxHeartbeats 6400000 in
theorem RPlanFault_ct (a : TA) (T : Tsk) (B : Option Addr) (m d : Nat) (l : List Int) (w : World) (h : TkR w a T) (hl : Rd Enc.int w B m d l) :
    Calls Tryz.prog 8 #[.agg #[.int .i64 T.facts, .slice a.I a.nI a.cI, .slice a.G a.nG a.cG, .slice a.O a.nO a.cO], .slice B m d] w (Gives w (fault (planFault T l).1 (planFault T l).2)) := by
  have hval := RTaskFault_ct a T
  obtain ⟨I, nI, cI, G, nG, cG, O, nO, cO⟩ := a
  simp only at hval ⊢
  rcases hq : taskFault T with ⟨ec, ei⟩
  rw [hq] at hval
  have hlO := h.ops.len
  have hlow := h.ops.low
  simp only at hlO hlow
  have Hq := hide hq
  have HlO := hide hlO
  have H := hide h
  have Hl := hide hl
  have Hval := hide hval
  clear hq h hl hval hlO
  have Hbl := hide (Below.refl w.heap.size w)
  go_enter Tryz.func8, Tryz.ntmps8
  go_upto_region 1 with (fail)
  obtain ⟨B0, hB0⟩ : ∃ B0, B0 = w.heap.size := ⟨_, rfl⟩
  have HB0 := hide hB0
  clear hB0
  have s_0 : B0 ≤ w.heap.size := Nat.le_trans (Nat.le_of_eq HB0.out) Hbl.out.size
  have hyt := Blk.new (w) 25 [.int .i64 T.facts, .slice I nI cI, .slice G nG cG, .slice O nO cO]
  have hyr := Blk.new ((w).alloc (.cells #[.int .i64 T.facts, .slice I nI cI, .slice G nG cG, .slice O nO cO] 25)) 28 [.int .i64 0, .int .i64 0]
  replace hyt := hyt.alloc (.cells #[.int .i64 0, .int .i64 0] 28)
  have hbW := below_two w (.cells #[.int .i64 T.facts, .slice I nI cI, .slice G nG cG, .slice O nO cO] 25) (.cells #[.int .i64 0, .int .i64 0] 28)
  simp only [World.size_alloc] at hyr
  obtain ⟨w0, hW⟩ : ∃ W, W = ((w).alloc (.cells #[.int .i64 T.facts, .slice I nI cI, .slice G nG cG, .slice O nO cO] 25)).alloc (.cells #[.int .i64 0, .int .i64 0] 28) := ⟨_, rfl⟩
  rw [← hW] at hyt hyr hbW ⊢
  replace Hbl := hide (Hbl.out.trans (hbW.mono Hbl.out.size))
  have Ht := hide hyt
  have Hr := hide hyr
  clear hW hbW hyt hyr
  generalize w.heap.size = gT at Ht Hr s_0 ⊢
  have t0 := Ht.out.cell 0
  have t1 := Ht.out.cell 1
  have t2 := Ht.out.cell 2
  have t3 := Ht.out.cell 3
  have tl := Ht.out.lt
  have r0 := Hr.out.cell 0
  have r1 := Hr.out.cell 1
  have rl := Hr.out.lt
  simp only [List.getElem?_cons_zero, List.getElem?_cons_succ] at t0 t1 t2 t3 r0 r1
  have a_t : B0 ≤ gT := by omega
  have a_r : B0 ≤ gT + 1 := by omega
  clear s_0
  have n_t_r : ¬ gT = gT + 1 := by omega
  have n_r_t : ¬ gT + 1 = gT := by omega
  go_wp2_with fail
  with_reducible refine (Hval.out w0 (H.out.keep Hbl.out)).mono ?_
  rintro e w1 ⟨rfl, hb⟩
  clear t0 t1 t2 t3 r0 r1 tl rl
  replace Ht := hide (Ht.out.keep hb)
  replace Hr := hide (Hr.out.keep hb)
  replace Hbl := hide (Hbl.out.trans (hb.mono Hbl.out.size))
  clear hb
  unfold fault
  have t0 := Ht.out.cell 0
  have t1 := Ht.out.cell 1
  have t2 := Ht.out.cell 2
  have t3 := Ht.out.cell 3
  have tl := Ht.out.lt
  have r0 := Hr.out.cell 0
  have r1 := Hr.out.cell 1
  have rl := Hr.out.lt
  simp only [List.getElem?_cons_zero, List.getElem?_cons_succ] at t0 t1 t2 t3 r0 r1
  go_upto_region 2 with (fail)
  have n_t_k : ¬ gT = w1.heap.size := by omega
  have n_k_t : ¬ w1.heap.size = gT := by omega
  have n_r_k : ¬ gT + 1 = w1.heap.size := by omega
  have n_k_r : ¬ w1.heap.size = gT + 1 := by omega
  have s_t : gT < w1.heap.size := tl
  have s_r : gT + 1 < w1.heap.size := rl
  have s_0 : B0 ≤ w1.heap.size := Nat.le_trans (Nat.le_of_eq HB0.out) Hbl.out.size
  have hyk := Blk.new (w1) 28 [.int .i64 ec, .int .i64 ei]
  have hbW : Below (w1).heap.size (w1) ((w1).alloc (.cells #[.int .i64 ec, .int .i64 ei] 28)) := (Below.refl _ _).alloc (Nat.le_refl _) _
  obtain ⟨w2, hW⟩ : ∃ W, W = (w1).alloc (.cells #[.int .i64 ec, .int .i64 ei] 28) := ⟨_, rfl⟩
  rw [← hW] at hyk hbW ⊢
  replace Ht := hide (Ht.out.keep hbW)
  replace Hr := hide (Hr.out.keep hbW)
  replace Hbl := hide (Hbl.out.trans (hbW.mono Hbl.out.size))
  have Hk := hide hyk
  clear hW hbW hyk
  generalize w1.heap.size = gk at Hk n_t_k n_k_t n_r_k n_k_r s_t s_r s_0 ⊢
  have t0 := Ht.out.cell 0
  have t1 := Ht.out.cell 1
  have t2 := Ht.out.cell 2
  have t3 := Ht.out.cell 3
  have tl := Ht.out.lt
  have r0 := Hr.out.cell 0
  have r1 := Hr.out.cell 1
  have rl := Hr.out.lt
  have k0 := Hk.out.cell 0
  have k1 := Hk.out.cell 1
  have kl := Hk.out.lt
  simp only [List.getElem?_cons_zero, List.getElem?_cons_succ] at t0 t1 t2 t3 r0 r1 k0 k1
  clear s_t
  clear s_r
  have a_k : B0 ≤ gk := by omega
  clear s_0
  by_cases hec : ec = 0
  · subst hec
    have hz := taskFault_zero (T := T) (by rw [Hq.out])
    rw [Hq.out] at hz
    obtain ⟨_, e2⟩ := Prod.mk.inj hz
    subst e2
    clear hz
    obtain ⟨sc, si, hsf⟩ : ∃ sc si, stepsFault T.ops.length l = (sc, si) := ⟨_, _, rfl⟩
    have hct := RSteps_ct nO B m d l w2 (Hl.out.keep Hbl.out) hlow
    rw [← HlO.out, hsf, HlO.out] at hct
    have Hs := hide hsf
    clear hsf
    go_wp2_with fail
    with_reducible refine (hct).mono ?_
    rintro e w3 ⟨rfl, hb⟩
    clear t0 t1 t2 t3 r0 r1 k0 k1 tl rl kl
    replace Ht := hide (Ht.out.keep hb)
    replace Hr := hide (Hr.out.keep hb)
    replace Hk := hide (Hk.out.keep hb)
    replace Hbl := hide (Hbl.out.trans (hb.mono Hbl.out.size))
    clear hb
    clear hct
    unfold fault
    have t0 := Ht.out.cell 0
    have t1 := Ht.out.cell 1
    have t2 := Ht.out.cell 2
    have t3 := Ht.out.cell 3
    have tl := Ht.out.lt
    have r0 := Hr.out.cell 0
    have r1 := Hr.out.cell 1
    have rl := Hr.out.lt
    have k0 := Hk.out.cell 0
    have k1 := Hk.out.cell 1
    have kl := Hk.out.lt
    simp only [List.getElem?_cons_zero, List.getElem?_cons_succ] at t0 t1 t2 t3 r0 r1 k0 k1
    have rf0 := Hr.out.frozen 0
    have rf1 := Hr.out.frozen 1
    have kf0 := Hk.out.frozen 0
    have kf1 := Hk.out.frozen 1
    go_upto_region 4 with (fail)
    clear rf0 rf1 kf0 kf1
    have hyb := ((Hk.out.set 0 (.int .i64 sc)).set 1 (.int .i64 si))
    simp only [List.set_cons_zero, List.set_cons_succ] at hyb
    have hbW := (below_set ((below_set (Below.refl B0 w3) (g := gk) a_k 0 (.int .i64 sc))) (g := gk) a_k 1 (.int .i64 si))
    have hcW := ((Chg.refl (fun x => x = gk) w3).trans (Chg.set _ (gk) 0 (.int .i64 sc))).trans (Chg.set _ (gk) 1 (.int .i64 si))
    obtain ⟨w4, hW⟩ : ∃ W, W = ((w3).setCell ⟨gk, 0, none⟩ (.int .i64 sc)).setCell ⟨gk, 1, none⟩ (.int .i64 si) := ⟨_, rfl⟩
    rw [← hW] at hyb hbW hcW ⊢
    replace Hk := hide hyb
    clear hW hyb
    clear t0 t1 t2 t3 r0 r1 k0 k1 tl rl kl
    replace Ht := hide (hcW.blk Ht.out (by exact n_t_k))
    replace Hr := hide (hcW.blk Hr.out (by exact n_r_k))
    replace Hbl := hide (Hbl.out.trans (hbW.mono (Nat.le_of_eq HB0.out.symm)))
    clear hbW hcW
    have t0 := Ht.out.cell 0
    have t1 := Ht.out.cell 1
    have t2 := Ht.out.cell 2
    have t3 := Ht.out.cell 3
    have tl := Ht.out.lt
    have r0 := Hr.out.cell 0
    have r1 := Hr.out.cell 1
    have rl := Hr.out.lt
    have k0 := Hk.out.cell 0
    have k1 := Hk.out.cell 1
    have kl := Hk.out.lt
    simp only [List.getElem?_cons_zero, List.getElem?_cons_succ] at t0 t1 t2 t3 r0 r1 k0 k1
    have rf0 := Hr.out.frozen 0
    have rf1 := Hr.out.frozen 1
    go_wp2_with fail
    refine bodyPost_ret (v := fault sc si) (by simp [results, Tryz.results8, go_sem, fault, r0, r1, rl, n_r_k, n_k_r]) rfl ?_
    have hres : planFault T l = (sc, si) := by
      unfold planFault
      rw [Hq.out, if_neg (by simp), Hs.out]
    rw [hres]
    have hbx := HB0.out
    refine ⟨rfl, ?_⟩
    repeat' (first | (with_reducible exact Hbl.out) | (with_reducible refine Below.drew ?_) | (with_reducible refine below_set ?_ ?_ _ _) | (have := HB0.out; omega))
  · have hne : (ec != 0) = true := by simpa using hec
    have hne2 : (ec == 0) = false := by simpa using hec
    have rf0 := Hr.out.frozen 0
    have rf1 := Hr.out.frozen 1
    go_wp2_with fail
    refine bodyPost_ret (v := fault ec ei) (by simp [results, Tryz.results8, go_sem, fault, r0, r1, rl, n_r_k, n_k_r]) rfl ?_
    have hres : planFault T l = (ec, ei) := by
      unfold planFault
      rw [Hq.out, if_pos hec]
    rw [hres]
    have hbx := HB0.out
    refine ⟨rfl, ?_⟩
    repeat' (first | (with_reducible exact Hbl.out) | (with_reducible refine Below.drew ?_) | (with_reducible refine below_set ?_ ?_ _ _) | (have := HB0.out; omega))
end Go.Proofs.YtemiecammmbjdaaGreat
