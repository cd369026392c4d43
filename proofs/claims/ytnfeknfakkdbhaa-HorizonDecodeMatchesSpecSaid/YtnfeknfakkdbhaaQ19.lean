/- The law on Decode, part 19: La24. -/
import Derived.Test.YtnfeknfakkdbhaaQ1
import Derived.Test.YtnfeknfakkdbhaaQ2
import Derived.Test.YtnfeknfakkdbhaaQ3
import Derived.Test.YtnfeknfakkdbhaaQ4
import Derived.Test.YtnfeknfakkdbhaaQ5
import Derived.Test.YtnfeknfakkdbhaaQ6
import Derived.Test.YtnfeknfakkdbhaaQ7
import Derived.Test.YtnfeknfakkdbhaaQ8
import Derived.Test.YtnfeknfakkdbhaaQ9
import Derived.Test.YtnfeknfakkdbhaaQ10
import Derived.Test.YtnfeknfakkdbhaaQ11
import Derived.Test.YtnfeknfakkdbhaaQ12
import Derived.Test.YtnfeknfakkdbhaaQ13
import Derived.Test.YtnfeknfakkdbhaaQ14
import Derived.Test.YtnfeknfakkdbhaaQ15
import Derived.Test.YtnfeknfakkdbhaaQ16
import Derived.Test.YtnfeknfakkdbhaaQ17
import Derived.Test.YtnfeknfakkdbhaaQ18
import Derived.BigQuiet
import Derived.Deep.AppendLies
import Derived.Deep.DeepCutAuto
import Derived.Deep.Draws
import Derived.Deep.Fields
import Derived.Deep.LoopGhost
import Derived.Deep.QuietTactic
import Derived.Deep.RegionHeld3
import Derived.Deep.RegionLaw
import Derived.Deep.Slices
import Derived.Ground.Names2Prog
import Derived.Ground.SlgnProg
import Derived.Ground.SlsfProg
import Derived.IntWalk
import Derived.Laws.AppendOwnNone
import Derived.Laws.OwnMore
import Derived.Lib.Hide
import Derived.Lib.SlicesCompact
import Derived.Maps.AppendAt
import Derived.Shelf.SlSortCmp.Whole1
import Derived.Shelf.Slices.Cells
import Derived.Shelf.Slices.Clone
import Derived.Shelf.Slices.CompactI
import Derived.Shelf.Slices.Empties
import Derived.Shelf.Slices.In.SortNone
import Derived.Shelf.Slices.SearchI
import Derived.Shelf.SlicesE.Clone
import Derived.Shelf.Sort.Plain
import Derived.Sort.OwnSortedInts
import Derived.StillTailTactics
import Derived.Test.YtnfeknfakkdbhaaProg
import Derived.WalkKit
import Init
namespace Go.Proofs.Ytnfeknfakkdbhaa
set_option linter.unusedVariables false
set_option linter.unusedSimpArgs false
open Go.RowKit
set_option maxRecDepth 100000 in
set_option maxHeartbeats 6400000 in
theorem decodeLawA (a : TA) (T : Tsk) (s : Int) (M : Option Addr) (mn mc : Nat) (m : List Bool) (w : World) (h : TkR w a T) (hs : I64s s) (hm : Rd Enc.bool w M mn mc m) (Vi : Int) (cs : List (List Int)) (ec ei : Int) (hec : ec ≠ 0) (hcr : cnfR T s = (Vi, cs, ec, ei)) (hdr : decodeR T s m = ([], ec, ei)) :
    Calls Try.prog 13 #[.agg #[.int .i64 T.facts, .slice a.I a.nI a.cI, .slice a.G a.nG a.cG, .slice a.O a.nO a.cO], .int .i64 s, .slice M mn mc] w (Gives w (.bool true)) := by
  skip
  have HD := Decode_ct a T s M mn mc m
  rw [hdr] at HD
  have HE := EncFault_ct a T s
  rw [hcr] at HE
  obtain ⟨I, nI, cI, G, nG, cG, O, nO, cO⟩ := a
  simp only at HD HE ⊢
  have hlO := h.ops.len
  simp only at hlO
  have HlO := hide hlO
  have H := hide h
  have Hm := hide hm
  have hml := hm.low
  replace HD := hide HD
  replace HE := hide HE
  clear h hm hdr hcr hlO  
  have Hbl := hide (Below.refl w.heap.size w)
  go_enter Try.func13, Try.ntmps13
  go_upto_region 1 with (fail)
  obtain ⟨B0, hB0⟩ : ∃ B0, B0 = w.heap.size := ⟨_, rfl⟩
  have HB0 := hide hB0
  clear hB0
  have s_0 : B0 ≤ w.heap.size := Nat.le_trans (Nat.le_of_eq HB0.out) Hbl.out.size
  have hyt := Blk.new (w) 25 [.int .i64 T.facts, .slice I nI cI, .slice G nG cG, .slice O nO cO]
  have hbW : Below (w).heap.size (w) ((w).alloc (.cells #[.int .i64 T.facts, .slice I nI cI, .slice G nG cG, .slice O nO cO] 25)) := (Below.refl _ _).alloc (Nat.le_refl _) _
  obtain ⟨w0, hW⟩ : ∃ W, W = (w).alloc (.cells #[.int .i64 T.facts, .slice I nI cI, .slice G nG cG, .slice O nO cO] 25) := ⟨_, rfl⟩
  rw [← hW] at hyt hbW ⊢
  replace Hbl := hide (Hbl.out.trans (hbW.mono Hbl.out.size))
  have Ht := hide hyt
  clear hW hbW hyt
  generalize w.heap.size = gT at Ht s_0 ⊢
  have t0 := Ht.out.cell 0
  have t1 := Ht.out.cell 1
  have t2 := Ht.out.cell 2
  have t3 := Ht.out.cell 3
  have tl := Ht.out.lt
  simp only [List.getElem?_cons_zero, List.getElem?_cons_succ] at t0 t1 t2 t3
  have a_t : B0 ≤ gT := by omega
  clear s_0
  go_wp2_with fail
  with_reducible refine (horizonExample_ct w0).mono ?_
  rintro e w1 ⟨rfl, hb⟩
  clear t0 t1 t2 t3 tl
  replace Ht := hide (Ht.out.keep hb)
  replace Hbl := hide (Hbl.out.trans (hb.mono Hbl.out.size))
  clear hb
  have t0 := Ht.out.cell 0
  have t1 := Ht.out.cell 1
  have t2 := Ht.out.cell 2
  have t3 := Ht.out.cell 3
  have tl := Ht.out.lt
  simp only [List.getElem?_cons_zero, List.getElem?_cons_succ] at t0 t1 t2 t3
  go_wp2_with fail
  with_reducible refine (HD.out w1 (H.out.keep Hbl.out) hs (Hm.out.keep Hbl.out)).mono ?_
  rintro e w2 ⟨hb, X, xn, xc, rfl, hx⟩
  have HR := hide (hx w2 (Chg.refl _ _))
  clear hx
  simp only
  unfold fault
  clear t0 t1 t2 t3 tl
  replace Ht := hide (Ht.out.keep hb)
  replace Hbl := hide (Hbl.out.trans (hb.mono Hbl.out.size))
  clear hb
  have t0 := Ht.out.cell 0
  have t1 := Ht.out.cell 1
  have t2 := Ht.out.cell 2
  have t3 := Ht.out.cell 3
  have tl := Ht.out.lt
  simp only [List.getElem?_cons_zero, List.getElem?_cons_succ] at t0 t1 t2 t3
  have hxn : xn = 0 := by have := HR.out.len; simpa using this.symm
  subst hxn
  clear HR
  go_upto_region 4 with (fail)
  have n_t_d : ¬ gT = w2.heap.size := by omega
  have n_d_t : ¬ w2.heap.size = gT := by omega
  have s_t : gT < w2.heap.size := tl
  have s_0 : B0 ≤ w2.heap.size := Nat.le_trans (Nat.le_of_eq HB0.out) Hbl.out.size
  have hyd := Blk.new (w2) 29 [.int .i64 ec, .int .i64 ei]
  have hbW : Below (w2).heap.size (w2) ((w2).alloc (.cells #[.int .i64 ec, .int .i64 ei] 29)) := (Below.refl _ _).alloc (Nat.le_refl _) _
  obtain ⟨w3, hW⟩ : ∃ W, W = (w2).alloc (.cells #[.int .i64 ec, .int .i64 ei] 29) := ⟨_, rfl⟩
  rw [← hW] at hyd hbW ⊢
  replace Ht := hide (Ht.out.keep hbW)
  replace Hbl := hide (Hbl.out.trans (hbW.mono Hbl.out.size))
  have Hd := hide hyd
  clear hW hbW hyd
  generalize w2.heap.size = gd at Hd n_t_d n_d_t s_t s_0 ⊢
  have t0 := Ht.out.cell 0
  have t1 := Ht.out.cell 1
  have t2 := Ht.out.cell 2
  have t3 := Ht.out.cell 3
  have tl := Ht.out.lt
  have d0 := Hd.out.cell 0
  have d1 := Hd.out.cell 1
  have dl := Hd.out.lt
  simp only [List.getElem?_cons_zero, List.getElem?_cons_succ] at t0 t1 t2 t3 d0 d1
  clear s_t
  have a_d : B0 ≤ gd := by omega
  clear s_0
  go_wp2_with fail
  with_reducible refine (HE.out w3 (H.out.keep Hbl.out) hs).mono ?_
  rintro e w4 ⟨rfl, hb⟩
  clear t0 t1 t2 t3 d0 d1 tl dl
  replace Ht := hide (Ht.out.keep hb)
  replace Hd := hide (Hd.out.keep hb)
  replace Hbl := hide (Hbl.out.trans (hb.mono Hbl.out.size))
  clear hb
  unfold fault
  simp only
  have t0 := Ht.out.cell 0
  have t1 := Ht.out.cell 1
  have t2 := Ht.out.cell 2
  have t3 := Ht.out.cell 3
  have tl := Ht.out.lt
  have d0 := Hd.out.cell 0
  have d1 := Hd.out.cell 1
  have dl := Hd.out.lt
  simp only [List.getElem?_cons_zero, List.getElem?_cons_succ] at t0 t1 t2 t3 d0 d1
  go_upto_region 5 with (fail)
  have n_t_k : ¬ gT = w4.heap.size := by omega
  have n_k_t : ¬ w4.heap.size = gT := by omega
  have n_d_k : ¬ gd = w4.heap.size := by omega
  have n_k_d : ¬ w4.heap.size = gd := by omega
  have s_t : gT < w4.heap.size := tl
  have s_d : gd < w4.heap.size := dl
  have s_0 : B0 ≤ w4.heap.size := Nat.le_trans (Nat.le_of_eq HB0.out) Hbl.out.size
  have hyk := Blk.new (w4) 29 [.int .i64 ec, .int .i64 ei]
  have hbW : Below (w4).heap.size (w4) ((w4).alloc (.cells #[.int .i64 ec, .int .i64 ei] 29)) := (Below.refl _ _).alloc (Nat.le_refl _) _
  obtain ⟨w5, hW⟩ : ∃ W, W = (w4).alloc (.cells #[.int .i64 ec, .int .i64 ei] 29) := ⟨_, rfl⟩
  rw [← hW] at hyk hbW ⊢
  replace Ht := hide (Ht.out.keep hbW)
  replace Hd := hide (Hd.out.keep hbW)
  replace Hbl := hide (Hbl.out.trans (hbW.mono Hbl.out.size))
  have Hk := hide hyk
  clear hW hbW hyk
  generalize w4.heap.size = gk at Hk n_t_k n_k_t n_d_k n_k_d s_t s_d s_0 ⊢
  have t0 := Ht.out.cell 0
  have t1 := Ht.out.cell 1
  have t2 := Ht.out.cell 2
  have t3 := Ht.out.cell 3
  have tl := Ht.out.lt
  have d0 := Hd.out.cell 0
  have d1 := Hd.out.cell 1
  have dl := Hd.out.lt
  have k0 := Hk.out.cell 0
  have k1 := Hk.out.cell 1
  have kl := Hk.out.lt
  simp only [List.getElem?_cons_zero, List.getElem?_cons_succ] at t0 t1 t2 t3 d0 d1 k0 k1
  clear s_t
  clear s_d
  have a_k : B0 ≤ gk := by omega
  clear s_0
  have hne : (ec != 0) = true := by simpa using hec
  have hne2 : (ec == 0) = false := by simpa using hec
  go_wp2_with fail
  go_ret
  exact ⟨ret_bool (by simp), Hbl.out⟩
set_option maxRecDepth 100000 in
set_option maxHeartbeats 6400000 in
theorem decodeLawB (a : TA) (T : Tsk) (s : Int) (M : Option Addr) (mn mc : Nat) (m : List Bool) (w : World) (h : TkR w a T) (hs : I64s s) (hm : Rd Enc.bool w M mn mc m) (Vi : Int) (cs : List (List Int)) (N S : Nat) (hok : OkT T N) (hsS : s = (S : Int)) (hS : S ≤ 4) (hn : T.ops.length ≤ 20) (hV : sizeN N S T.ops.length ≤ 80) (hcr : cnfR T s = (Vi, cs, 0, 0)) (hlen : mn ≠ sizeN N S T.ops.length) (hdr : decodeR T s m = ([], 9, -10)) :
    Calls Try.prog 13 #[.agg #[.int .i64 T.facts, .slice a.I a.nI a.cI, .slice a.G a.nG a.cG, .slice a.O a.nO a.cO], .int .i64 s, .slice M mn mc] w (Gives w (.bool true)) := by
  skip
  have HD := Decode_ct a T s M mn mc m
  rw [hdr] at HD
  have HE := EncFault_ct a T s
  rw [hcr] at HE
  have HZ := fun w => Size_ct a T N S w hok.facts hok.low (by omega)
  obtain ⟨I, nI, cI, G, nG, cG, O, nO, cO⟩ := a
  simp only at HD HE ⊢
  have hlO := h.ops.len
  simp only at hlO
  have HlO := hide hlO
  have H := hide h
  have Hm := hide hm
  have hml := hm.low
  replace HD := hide HD
  replace HE := hide HE
  simp only at HZ
  rw [hlO] at hn hV hlen
  have hfc := hok.facts
  have hN := hok.low
  replace HZ := hide HZ
  subst hsS
  have Hlen := hide hlen
  have Hfc := hide hfc
  clear hlen hfc
  clear h hm hdr hcr hlO hok hV 
  have Hbl := hide (Below.refl w.heap.size w)
  go_enter Try.func13, Try.ntmps13
  go_upto_region 1 with (fail)
  obtain ⟨B0, hB0⟩ : ∃ B0, B0 = w.heap.size := ⟨_, rfl⟩
  have HB0 := hide hB0
  clear hB0
  have s_0 : B0 ≤ w.heap.size := Nat.le_trans (Nat.le_of_eq HB0.out) Hbl.out.size
  have hyt := Blk.new (w) 25 [.int .i64 T.facts, .slice I nI cI, .slice G nG cG, .slice O nO cO]
  have hbW : Below (w).heap.size (w) ((w).alloc (.cells #[.int .i64 T.facts, .slice I nI cI, .slice G nG cG, .slice O nO cO] 25)) := (Below.refl _ _).alloc (Nat.le_refl _) _
  obtain ⟨w0, hW⟩ : ∃ W, W = (w).alloc (.cells #[.int .i64 T.facts, .slice I nI cI, .slice G nG cG, .slice O nO cO] 25) := ⟨_, rfl⟩
  rw [← hW] at hyt hbW ⊢
  replace Hbl := hide (Hbl.out.trans (hbW.mono Hbl.out.size))
  have Ht := hide hyt
  clear hW hbW hyt
  generalize w.heap.size = gT at Ht s_0 ⊢
  have t0 := Ht.out.cell 0
  have t1 := Ht.out.cell 1
  have t2 := Ht.out.cell 2
  have t3 := Ht.out.cell 3
  have tl := Ht.out.lt
  simp only [List.getElem?_cons_zero, List.getElem?_cons_succ] at t0 t1 t2 t3
  have a_t : B0 ≤ gT := by omega
  clear s_0
  go_wp2_with fail
  with_reducible refine (horizonExample_ct w0).mono ?_
  rintro e w1 ⟨rfl, hb⟩
  clear t0 t1 t2 t3 tl
  replace Ht := hide (Ht.out.keep hb)
  replace Hbl := hide (Hbl.out.trans (hb.mono Hbl.out.size))
  clear hb
  have t0 := Ht.out.cell 0
  have t1 := Ht.out.cell 1
  have t2 := Ht.out.cell 2
  have t3 := Ht.out.cell 3
  have tl := Ht.out.lt
  simp only [List.getElem?_cons_zero, List.getElem?_cons_succ] at t0 t1 t2 t3
  go_wp2_with fail
  with_reducible refine (HD.out w1 (H.out.keep Hbl.out) hs (Hm.out.keep Hbl.out)).mono ?_
  rintro e w2 ⟨hb, X, xn, xc, rfl, hx⟩
  have HR := hide (hx w2 (Chg.refl _ _))
  clear hx
  simp only
  unfold fault
  clear t0 t1 t2 t3 tl
  replace Ht := hide (Ht.out.keep hb)
  replace Hbl := hide (Hbl.out.trans (hb.mono Hbl.out.size))
  clear hb
  have t0 := Ht.out.cell 0
  have t1 := Ht.out.cell 1
  have t2 := Ht.out.cell 2
  have t3 := Ht.out.cell 3
  have tl := Ht.out.lt
  simp only [List.getElem?_cons_zero, List.getElem?_cons_succ] at t0 t1 t2 t3
  have hxn : xn = 0 := by have := HR.out.len; simpa using this.symm
  subst hxn
  clear HR
  go_upto_region 4 with (fail)
  have n_t_d : ¬ gT = w2.heap.size := by omega
  have n_d_t : ¬ w2.heap.size = gT := by omega
  have s_t : gT < w2.heap.size := tl
  have s_0 : B0 ≤ w2.heap.size := Nat.le_trans (Nat.le_of_eq HB0.out) Hbl.out.size
  have hyd := Blk.new (w2) 29 [.int .i64 9, .int .i64 (-10)]
  have hbW : Below (w2).heap.size (w2) ((w2).alloc (.cells #[.int .i64 9, .int .i64 (-10)] 29)) := (Below.refl _ _).alloc (Nat.le_refl _) _
  obtain ⟨w3, hW⟩ : ∃ W, W = (w2).alloc (.cells #[.int .i64 9, .int .i64 (-10)] 29) := ⟨_, rfl⟩
  rw [← hW] at hyd hbW ⊢
  replace Ht := hide (Ht.out.keep hbW)
  replace Hbl := hide (Hbl.out.trans (hbW.mono Hbl.out.size))
  have Hd := hide hyd
  clear hW hbW hyd
  generalize w2.heap.size = gd at Hd n_t_d n_d_t s_t s_0 ⊢
  have t0 := Ht.out.cell 0
  have t1 := Ht.out.cell 1
  have t2 := Ht.out.cell 2
  have t3 := Ht.out.cell 3
  have tl := Ht.out.lt
  have d0 := Hd.out.cell 0
  have d1 := Hd.out.cell 1
  have dl := Hd.out.lt
  simp only [List.getElem?_cons_zero, List.getElem?_cons_succ] at t0 t1 t2 t3 d0 d1
  clear s_t
  have a_d : B0 ≤ gd := by omega
  clear s_0
  go_wp2_with fail
  with_reducible refine (HE.out w3 (H.out.keep Hbl.out) hs).mono ?_
  rintro e w4 ⟨rfl, hb⟩
  clear t0 t1 t2 t3 d0 d1 tl dl
  replace Ht := hide (Ht.out.keep hb)
  replace Hd := hide (Hd.out.keep hb)
  replace Hbl := hide (Hbl.out.trans (hb.mono Hbl.out.size))
  clear hb
  unfold fault
  simp only
  have t0 := Ht.out.cell 0
  have t1 := Ht.out.cell 1
  have t2 := Ht.out.cell 2
  have t3 := Ht.out.cell 3
  have tl := Ht.out.lt
  have d0 := Hd.out.cell 0
  have d1 := Hd.out.cell 1
  have dl := Hd.out.lt
  simp only [List.getElem?_cons_zero, List.getElem?_cons_succ] at t0 t1 t2 t3 d0 d1
  go_upto_region 5 with (fail)
  have n_t_k : ¬ gT = w4.heap.size := by omega
  have n_k_t : ¬ w4.heap.size = gT := by omega
  have n_d_k : ¬ gd = w4.heap.size := by omega
  have n_k_d : ¬ w4.heap.size = gd := by omega
  have s_t : gT < w4.heap.size := tl
  have s_d : gd < w4.heap.size := dl
  have s_0 : B0 ≤ w4.heap.size := Nat.le_trans (Nat.le_of_eq HB0.out) Hbl.out.size
  have hyk := Blk.new (w4) 29 [.int .i64 0, .int .i64 0]
  have hbW : Below (w4).heap.size (w4) ((w4).alloc (.cells #[.int .i64 0, .int .i64 0] 29)) := (Below.refl _ _).alloc (Nat.le_refl _) _
  obtain ⟨w5, hW⟩ : ∃ W, W = (w4).alloc (.cells #[.int .i64 0, .int .i64 0] 29) := ⟨_, rfl⟩
  rw [← hW] at hyk hbW ⊢
  replace Ht := hide (Ht.out.keep hbW)
  replace Hd := hide (Hd.out.keep hbW)
  replace Hbl := hide (Hbl.out.trans (hbW.mono Hbl.out.size))
  have Hk := hide hyk
  clear hW hbW hyk
  generalize w4.heap.size = gk at Hk n_t_k n_k_t n_d_k n_k_d s_t s_d s_0 ⊢
  have t0 := Ht.out.cell 0
  have t1 := Ht.out.cell 1
  have t2 := Ht.out.cell 2
  have t3 := Ht.out.cell 3
  have tl := Ht.out.lt
  have d0 := Hd.out.cell 0
  have d1 := Hd.out.cell 1
  have dl := Hd.out.lt
  have k0 := Hk.out.cell 0
  have k1 := Hk.out.cell 1
  have kl := Hk.out.lt
  simp only [List.getElem?_cons_zero, List.getElem?_cons_succ] at t0 t1 t2 t3 d0 d1 k0 k1
  clear s_t
  clear s_d
  have a_k : B0 ≤ gk := by omega
  clear s_0
  have hct := HZ.out w5 (by omega)
  obtain ⟨V, hV⟩ : ∃ V, V = sizeN N S nO := ⟨_, rfl⟩
  rw [← hV] at hct
  have HV := hide hV
  have hlI : ((mn : Int) != (V : Int)) = true := by have := Hlen.out; simp; omega
  have hlI2 : ¬ (mn : Int) = (V : Int) := by have := Hlen.out; omega
  clear hV
  go_wp2_with fail
  with_reducible refine (hct).mono ?_
  rintro e w6 ⟨rfl, hb⟩
  clear t0 t1 t2 t3 d0 d1 k0 k1 tl dl kl
  replace Ht := hide (Ht.out.keep hb)
  replace Hd := hide (Hd.out.keep hb)
  replace Hk := hide (Hk.out.keep hb)
  replace Hbl := hide (Hbl.out.trans (hb.mono Hbl.out.size))
  clear hb
  clear hct
  have t0 := Ht.out.cell 0
  have t1 := Ht.out.cell 1
  have t2 := Ht.out.cell 2
  have t3 := Ht.out.cell 3
  have tl := Ht.out.lt
  have d0 := Hd.out.cell 0
  have d1 := Hd.out.cell 1
  have dl := Hd.out.lt
  have k0 := Hk.out.cell 0
  have k1 := Hk.out.cell 1
  have kl := Hk.out.lt
  simp only [List.getElem?_cons_zero, List.getElem?_cons_succ] at t0 t1 t2 t3 d0 d1 k0 k1
  go_wp2_with fail
  with_reducible refine (At_ct _ _ _).mono ?_
  rintro e w7 ⟨rfl, hb⟩
  clear t0 t1 t2 t3 d0 d1 k0 k1 tl dl kl
  replace Ht := hide (Ht.out.keep hb)
  replace Hd := hide (Hd.out.keep hb)
  replace Hk := hide (Hk.out.keep hb)
  replace Hbl := hide (Hbl.out.trans (hb.mono Hbl.out.size))
  clear hb
  unfold fault
  have t0 := Ht.out.cell 0
  have t1 := Ht.out.cell 1
  have t2 := Ht.out.cell 2
  have t3 := Ht.out.cell 3
  have tl := Ht.out.lt
  have d0 := Hd.out.cell 0
  have d1 := Hd.out.cell 1
  have dl := Hd.out.lt
  have k0 := Hk.out.cell 0
  have k1 := Hk.out.cell 1
  have kl := Hk.out.lt
  simp only [List.getElem?_cons_zero, List.getElem?_cons_succ] at t0 t1 t2 t3 d0 d1 k0 k1
  have kf0 := Hk.out.frozen 0
  have kf1 := Hk.out.frozen 1
  go_upto_region 7 with (fail)
  clear kf0 kf1
  have hyb := ((Hk.out.set 0 (.int .i64 9)).set 1 (.int .i64 (-10)))
  simp only [List.set_cons_zero, List.set_cons_succ] at hyb
  have hbW := (below_set ((below_set (Below.refl B0 w7) (g := gk) a_k 0 (.int .i64 9))) (g := gk) a_k 1 (.int .i64 (-10)))
  have hcW := ((Chg.refl (fun x => x = gk) w7).trans (Chg.set _ (gk) 0 (.int .i64 9))).trans (Chg.set _ (gk) 1 (.int .i64 (-10)))
  obtain ⟨w8, hW⟩ : ∃ W, W = ((w7).setCell ⟨gk, 0, none⟩ (.int .i64 9)).setCell ⟨gk, 1, none⟩ (.int .i64 (-10)) := ⟨_, rfl⟩
  rw [← hW] at hyb hbW hcW ⊢
  replace Hk := hide hyb
  clear hW hyb
  clear t0 t1 t2 t3 d0 d1 k0 k1 tl dl kl
  replace Ht := hide (hcW.blk Ht.out (by exact n_t_k))
  replace Hd := hide (hcW.blk Hd.out (by exact n_d_k))
  replace Hbl := hide (Hbl.out.trans (hbW.mono (Nat.le_of_eq HB0.out.symm)))
  clear hbW hcW
  have t0 := Ht.out.cell 0
  have t1 := Ht.out.cell 1
  have t2 := Ht.out.cell 2
  have t3 := Ht.out.cell 3
  have tl := Ht.out.lt
  have d0 := Hd.out.cell 0
  have d1 := Hd.out.cell 1
  have dl := Hd.out.lt
  have k0 := Hk.out.cell 0
  have k1 := Hk.out.cell 1
  have kl := Hk.out.lt
  simp only [List.getElem?_cons_zero, List.getElem?_cons_succ] at t0 t1 t2 t3 d0 d1 k0 k1
  go_wp2_with fail
  go_ret
  exact ⟨ret_bool (by simp), Hbl.out⟩
set_option maxRecDepth 100000 in
set_option maxHeartbeats 6400000 in
theorem decodeLawC (a : TA) (T : Tsk) (s : Int) (M : Option Addr) (mn mc : Nat) (m : List Bool) (w : World) (h : TkR w a T) (hs : I64s s) (hm : Rd Enc.bool w M mn mc m) (Vi : Int) (cs : List (List Int)) (N S : Nat) (hok : OkT T N) (hsS : s = (S : Int)) (hS : S ≤ 4) (hn : T.ops.length ≤ 20) (hV : sizeN N S T.ops.length ≤ 80) (hcr : cnfR T s = (Vi, cs, 0, 0)) (hlen : mn = sizeN N S T.ops.length) (hds : descR T N S m = false) (hdr : decodeR T s m = ([], 11, -11)) :
    Calls Try.prog 13 #[.agg #[.int .i64 T.facts, .slice a.I a.nI a.cI, .slice a.G a.nG a.cG, .slice a.O a.nO a.cO], .int .i64 s, .slice M mn mc] w (Gives w (.bool true)) := by
  skip
  have HD := Decode_ct a T s M mn mc m
  rw [hdr] at HD
  have HE := EncFault_ct a T s
  rw [hcr] at HE
  have HZ := fun w => Size_ct a T N S w hok.facts hok.low (by omega)
  have HQ := fun w h => Describes_ct a T N S M mn mc m w h hok
  obtain ⟨I, nI, cI, G, nG, cG, O, nO, cO⟩ := a
  simp only at HD HE ⊢
  have hlO := h.ops.len
  simp only at hlO
  have HlO := hide hlO
  have H := hide h
  have Hm := hide hm
  have hml := hm.low
  replace HD := hide HD
  replace HE := hide HE
  simp only at HZ
  rw [hlO] at hn hV hlen
  have hfc := hok.facts
  have hN := hok.low
  replace HZ := hide HZ
  subst hsS
  simp only at HQ
  rw [hds] at HQ
  replace HQ := hide HQ
  have Hlen := hide hlen
  have Hfc := hide hfc
  clear hlen hfc
  clear h hm hdr hcr hlO hok hV hds
  have Hbl := hide (Below.refl w.heap.size w)
  go_enter Try.func13, Try.ntmps13
  go_upto_region 1 with (fail)
  obtain ⟨B0, hB0⟩ : ∃ B0, B0 = w.heap.size := ⟨_, rfl⟩
  have HB0 := hide hB0
  clear hB0
  have s_0 : B0 ≤ w.heap.size := Nat.le_trans (Nat.le_of_eq HB0.out) Hbl.out.size
  have hyt := Blk.new (w) 25 [.int .i64 T.facts, .slice I nI cI, .slice G nG cG, .slice O nO cO]
  have hbW : Below (w).heap.size (w) ((w).alloc (.cells #[.int .i64 T.facts, .slice I nI cI, .slice G nG cG, .slice O nO cO] 25)) := (Below.refl _ _).alloc (Nat.le_refl _) _
  obtain ⟨w0, hW⟩ : ∃ W, W = (w).alloc (.cells #[.int .i64 T.facts, .slice I nI cI, .slice G nG cG, .slice O nO cO] 25) := ⟨_, rfl⟩
  rw [← hW] at hyt hbW ⊢
  replace Hbl := hide (Hbl.out.trans (hbW.mono Hbl.out.size))
  have Ht := hide hyt
  clear hW hbW hyt
  generalize w.heap.size = gT at Ht s_0 ⊢
  have t0 := Ht.out.cell 0
  have t1 := Ht.out.cell 1
  have t2 := Ht.out.cell 2
  have t3 := Ht.out.cell 3
  have tl := Ht.out.lt
  simp only [List.getElem?_cons_zero, List.getElem?_cons_succ] at t0 t1 t2 t3
  have a_t : B0 ≤ gT := by omega
  clear s_0
  go_wp2_with fail
  with_reducible refine (horizonExample_ct w0).mono ?_
  rintro e w1 ⟨rfl, hb⟩
  clear t0 t1 t2 t3 tl
  replace Ht := hide (Ht.out.keep hb)
  replace Hbl := hide (Hbl.out.trans (hb.mono Hbl.out.size))
  clear hb
  have t0 := Ht.out.cell 0
  have t1 := Ht.out.cell 1
  have t2 := Ht.out.cell 2
  have t3 := Ht.out.cell 3
  have tl := Ht.out.lt
  simp only [List.getElem?_cons_zero, List.getElem?_cons_succ] at t0 t1 t2 t3
  go_wp2_with fail
  with_reducible refine (HD.out w1 (H.out.keep Hbl.out) hs (Hm.out.keep Hbl.out)).mono ?_
  rintro e w2 ⟨hb, X, xn, xc, rfl, hx⟩
  have HR := hide (hx w2 (Chg.refl _ _))
  clear hx
  simp only
  unfold fault
  clear t0 t1 t2 t3 tl
  replace Ht := hide (Ht.out.keep hb)
  replace Hbl := hide (Hbl.out.trans (hb.mono Hbl.out.size))
  clear hb
  have t0 := Ht.out.cell 0
  have t1 := Ht.out.cell 1
  have t2 := Ht.out.cell 2
  have t3 := Ht.out.cell 3
  have tl := Ht.out.lt
  simp only [List.getElem?_cons_zero, List.getElem?_cons_succ] at t0 t1 t2 t3
  have hxn : xn = 0 := by have := HR.out.len; simpa using this.symm
  subst hxn
  clear HR
  go_upto_region 4 with (fail)
  have n_t_d : ¬ gT = w2.heap.size := by omega
  have n_d_t : ¬ w2.heap.size = gT := by omega
  have s_t : gT < w2.heap.size := tl
  have s_0 : B0 ≤ w2.heap.size := Nat.le_trans (Nat.le_of_eq HB0.out) Hbl.out.size
  have hyd := Blk.new (w2) 29 [.int .i64 11, .int .i64 (-11)]
  have hbW : Below (w2).heap.size (w2) ((w2).alloc (.cells #[.int .i64 11, .int .i64 (-11)] 29)) := (Below.refl _ _).alloc (Nat.le_refl _) _
  obtain ⟨w3, hW⟩ : ∃ W, W = (w2).alloc (.cells #[.int .i64 11, .int .i64 (-11)] 29) := ⟨_, rfl⟩
  rw [← hW] at hyd hbW ⊢
  replace Ht := hide (Ht.out.keep hbW)
  replace Hbl := hide (Hbl.out.trans (hbW.mono Hbl.out.size))
  have Hd := hide hyd
  clear hW hbW hyd
  generalize w2.heap.size = gd at Hd n_t_d n_d_t s_t s_0 ⊢
  have t0 := Ht.out.cell 0
  have t1 := Ht.out.cell 1
  have t2 := Ht.out.cell 2
  have t3 := Ht.out.cell 3
  have tl := Ht.out.lt
  have d0 := Hd.out.cell 0
  have d1 := Hd.out.cell 1
  have dl := Hd.out.lt
  simp only [List.getElem?_cons_zero, List.getElem?_cons_succ] at t0 t1 t2 t3 d0 d1
  clear s_t
  have a_d : B0 ≤ gd := by omega
  clear s_0
  go_wp2_with fail
  with_reducible refine (HE.out w3 (H.out.keep Hbl.out) hs).mono ?_
  rintro e w4 ⟨rfl, hb⟩
  clear t0 t1 t2 t3 d0 d1 tl dl
  replace Ht := hide (Ht.out.keep hb)
  replace Hd := hide (Hd.out.keep hb)
  replace Hbl := hide (Hbl.out.trans (hb.mono Hbl.out.size))
  clear hb
  unfold fault
  simp only
  have t0 := Ht.out.cell 0
  have t1 := Ht.out.cell 1
  have t2 := Ht.out.cell 2
  have t3 := Ht.out.cell 3
  have tl := Ht.out.lt
  have d0 := Hd.out.cell 0
  have d1 := Hd.out.cell 1
  have dl := Hd.out.lt
  simp only [List.getElem?_cons_zero, List.getElem?_cons_succ] at t0 t1 t2 t3 d0 d1
  go_upto_region 5 with (fail)
  have n_t_k : ¬ gT = w4.heap.size := by omega
  have n_k_t : ¬ w4.heap.size = gT := by omega
  have n_d_k : ¬ gd = w4.heap.size := by omega
  have n_k_d : ¬ w4.heap.size = gd := by omega
  have s_t : gT < w4.heap.size := tl
  have s_d : gd < w4.heap.size := dl
  have s_0 : B0 ≤ w4.heap.size := Nat.le_trans (Nat.le_of_eq HB0.out) Hbl.out.size
  have hyk := Blk.new (w4) 29 [.int .i64 0, .int .i64 0]
  have hbW : Below (w4).heap.size (w4) ((w4).alloc (.cells #[.int .i64 0, .int .i64 0] 29)) := (Below.refl _ _).alloc (Nat.le_refl _) _
  obtain ⟨w5, hW⟩ : ∃ W, W = (w4).alloc (.cells #[.int .i64 0, .int .i64 0] 29) := ⟨_, rfl⟩
  rw [← hW] at hyk hbW ⊢
  replace Ht := hide (Ht.out.keep hbW)
  replace Hd := hide (Hd.out.keep hbW)
  replace Hbl := hide (Hbl.out.trans (hbW.mono Hbl.out.size))
  have Hk := hide hyk
  clear hW hbW hyk
  generalize w4.heap.size = gk at Hk n_t_k n_k_t n_d_k n_k_d s_t s_d s_0 ⊢
  have t0 := Ht.out.cell 0
  have t1 := Ht.out.cell 1
  have t2 := Ht.out.cell 2
  have t3 := Ht.out.cell 3
  have tl := Ht.out.lt
  have d0 := Hd.out.cell 0
  have d1 := Hd.out.cell 1
  have dl := Hd.out.lt
  have k0 := Hk.out.cell 0
  have k1 := Hk.out.cell 1
  have kl := Hk.out.lt
  simp only [List.getElem?_cons_zero, List.getElem?_cons_succ] at t0 t1 t2 t3 d0 d1 k0 k1
  clear s_t
  clear s_d
  have a_k : B0 ≤ gk := by omega
  clear s_0
  have hct := HZ.out w5 (by omega)
  obtain ⟨V, hV⟩ : ∃ V, V = sizeN N S nO := ⟨_, rfl⟩
  rw [← hV] at hct
  have HV := hide hV
  have hlI : (mn : Int) = (V : Int) := by have := Hlen.out; omega
  clear hV
  go_wp2_with fail
  with_reducible refine (hct).mono ?_
  rintro e w6 ⟨rfl, hb⟩
  clear t0 t1 t2 t3 d0 d1 k0 k1 tl dl kl
  replace Ht := hide (Ht.out.keep hb)
  replace Hd := hide (Hd.out.keep hb)
  replace Hk := hide (Hk.out.keep hb)
  replace Hbl := hide (Hbl.out.trans (hb.mono Hbl.out.size))
  clear hb
  clear hct
  have t0 := Ht.out.cell 0
  have t1 := Ht.out.cell 1
  have t2 := Ht.out.cell 2
  have t3 := Ht.out.cell 3
  have tl := Ht.out.lt
  have d0 := Hd.out.cell 0
  have d1 := Hd.out.cell 1
  have dl := Hd.out.lt
  have k0 := Hk.out.cell 0
  have k1 := Hk.out.cell 1
  have kl := Hk.out.lt
  simp only [List.getElem?_cons_zero, List.getElem?_cons_succ] at t0 t1 t2 t3 d0 d1 k0 k1
  go_wp2_with fail
  with_reducible refine (HQ.out w6 (H.out.keep Hbl.out) (Hm.out.keep Hbl.out) hS (by omega) Hlen.out).mono ?_
  rintro e w7 ⟨rfl, hb⟩
  clear t0 t1 t2 t3 d0 d1 k0 k1 tl dl kl
  replace Ht := hide (Ht.out.keep hb)
  replace Hd := hide (Hd.out.keep hb)
  replace Hk := hide (Hk.out.keep hb)
  replace Hbl := hide (Hbl.out.trans (hb.mono Hbl.out.size))
  clear hb
  have t0 := Ht.out.cell 0
  have t1 := Ht.out.cell 1
  have t2 := Ht.out.cell 2
  have t3 := Ht.out.cell 3
  have tl := Ht.out.lt
  have d0 := Hd.out.cell 0
  have d1 := Hd.out.cell 1
  have dl := Hd.out.lt
  have k0 := Hk.out.cell 0
  have k1 := Hk.out.cell 1
  have kl := Hk.out.lt
  simp only [List.getElem?_cons_zero, List.getElem?_cons_succ] at t0 t1 t2 t3 d0 d1 k0 k1
  go_wp2_with fail
  with_reducible refine (At_ct _ _ _).mono ?_
  rintro e w8 ⟨rfl, hb⟩
  clear t0 t1 t2 t3 d0 d1 k0 k1 tl dl kl
  replace Ht := hide (Ht.out.keep hb)
  replace Hd := hide (Hd.out.keep hb)
  replace Hk := hide (Hk.out.keep hb)
  replace Hbl := hide (Hbl.out.trans (hb.mono Hbl.out.size))
  clear hb
  unfold fault
  have t0 := Ht.out.cell 0
  have t1 := Ht.out.cell 1
  have t2 := Ht.out.cell 2
  have t3 := Ht.out.cell 3
  have tl := Ht.out.lt
  have d0 := Hd.out.cell 0
  have d1 := Hd.out.cell 1
  have dl := Hd.out.lt
  have k0 := Hk.out.cell 0
  have k1 := Hk.out.cell 1
  have kl := Hk.out.lt
  simp only [List.getElem?_cons_zero, List.getElem?_cons_succ] at t0 t1 t2 t3 d0 d1 k0 k1
  have kf0 := Hk.out.frozen 0
  have kf1 := Hk.out.frozen 1
  go_upto_region 9 with (fail)
  clear kf0 kf1
  have hyb := ((Hk.out.set 0 (.int .i64 11)).set 1 (.int .i64 (-11)))
  simp only [List.set_cons_zero, List.set_cons_succ] at hyb
  have hbW := (below_set ((below_set (Below.refl B0 w8) (g := gk) a_k 0 (.int .i64 11))) (g := gk) a_k 1 (.int .i64 (-11)))
  have hcW := ((Chg.refl (fun x => x = gk) w8).trans (Chg.set _ (gk) 0 (.int .i64 11))).trans (Chg.set _ (gk) 1 (.int .i64 (-11)))
  obtain ⟨w9, hW⟩ : ∃ W, W = ((w8).setCell ⟨gk, 0, none⟩ (.int .i64 11)).setCell ⟨gk, 1, none⟩ (.int .i64 (-11)) := ⟨_, rfl⟩
  rw [← hW] at hyb hbW hcW ⊢
  replace Hk := hide hyb
  clear hW hyb
  clear t0 t1 t2 t3 d0 d1 k0 k1 tl dl kl
  replace Ht := hide (hcW.blk Ht.out (by exact n_t_k))
  replace Hd := hide (hcW.blk Hd.out (by exact n_d_k))
  replace Hbl := hide (Hbl.out.trans (hbW.mono (Nat.le_of_eq HB0.out.symm)))
  clear hbW hcW
  have t0 := Ht.out.cell 0
  have t1 := Ht.out.cell 1
  have t2 := Ht.out.cell 2
  have t3 := Ht.out.cell 3
  have tl := Ht.out.lt
  have d0 := Hd.out.cell 0
  have d1 := Hd.out.cell 1
  have dl := Hd.out.lt
  have k0 := Hk.out.cell 0
  have k1 := Hk.out.cell 1
  have kl := Hk.out.lt
  simp only [List.getElem?_cons_zero, List.getElem?_cons_succ] at t0 t1 t2 t3 d0 d1 k0 k1
  go_wp2_with fail
  go_ret
  exact ⟨ret_bool (by simp), Hbl.out⟩
set_option maxRecDepth 100000 in
set_option maxHeartbeats 6400000 in
theorem decodeLawD (a : TA) (T : Tsk) (s : Int) (M : Option Addr) (mn mc : Nat) (m : List Bool) (w : World) (h : TkR w a T) (hs : I64s s) (hm : Rd Enc.bool w M mn mc m) (Vi : Int) (cs : List (List Int)) (N S : Nat) (hok : OkT T N) (hsS : s = (S : Int)) (hS : S ≤ 4) (hn : T.ops.length ≤ 20) (hV : sizeN N S T.ops.length ≤ 80) (hcr : cnfR T s = (Vi, cs, 0, 0)) (hlen : mn = sizeN N S T.ops.length) (hds : descR T N S m = true) (hwv : worksF T T.init (wantF N S T.ops.length m S) = true) (hwr : ∀ x ∈ wantF N S T.ops.length m S, 0 ≤ x ∧ x < T.ops.length) (hdr : decodeR T s m = (wantF N S a.nO m S, 0, 0)) :
    Calls Try.prog 13 #[.agg #[.int .i64 T.facts, .slice a.I a.nI a.cI, .slice a.G a.nG a.cG, .slice a.O a.nO a.cO], .int .i64 s, .slice M mn mc] w (Gives w (.bool true)) := by
  obtain ⟨i1, hi1, hy0, hy1, hy2⟩ := info_parts intInfoT
  have HD := Decode_ct a T s M mn mc m
  rw [hdr] at HD
  have HE := EncFault_ct a T s
  rw [hcr] at HE
  have HZ := fun w => Size_ct a T N S w hok.facts hok.low (by omega)
  have HQ := fun w h => Describes_ct a T N S M mn mc m w h hok
  have HX := fun t M mn mc m w h1 h2 h3 h4 h5 h6 h7 => Executed_ct a T N S t M mn mc m w h1 h2 h3 h4 h5 h6 h7
  have HS := fun B m d l w h1 h2 h3 h4 => RSolves_ct a T N B m d l w h1 h2 h3 h4
  obtain ⟨I, nI, cI, G, nG, cG, O, nO, cO⟩ := a
  simp only at HD HE ⊢
  have hlO := h.ops.len
  simp only at hlO
  have HlO := hide hlO
  have H := hide h
  have Hm := hide hm
  have hml := hm.low
  replace HD := hide HD
  replace HE := hide HE
  simp only at HZ
  rw [hlO] at hn hV hlen
  have hfc := hok.facts
  have hN := hok.low
  replace HZ := hide HZ
  subst hsS
  simp only at HQ
  rw [hds] at HQ
  replace HQ := hide HQ
  simp only at HX HS
  rw [hlO] at hwv hwr
  replace HX := hide HX
  replace HS := hide HS
  have Hwv := hide hwv
  have Hwr := hide hwr
  have Hok := hide hok
  clear hwv hwr
  have Hlen := hide hlen
  have Hfc := hide hfc
  clear hlen hfc
  clear h hm hdr hcr hlO hok hV hds
  have Hbl := hide (Below.refl w.heap.size w)
  go_enter Try.func13, Try.ntmps13
  go_upto_region 1 with (fail)
  obtain ⟨B0, hB0⟩ : ∃ B0, B0 = w.heap.size := ⟨_, rfl⟩
  have HB0 := hide hB0
  clear hB0
  have s_0 : B0 ≤ w.heap.size := Nat.le_trans (Nat.le_of_eq HB0.out) Hbl.out.size
  have hyt := Blk.new (w) 25 [.int .i64 T.facts, .slice I nI cI, .slice G nG cG, .slice O nO cO]
  have hbW : Below (w).heap.size (w) ((w).alloc (.cells #[.int .i64 T.facts, .slice I nI cI, .slice G nG cG, .slice O nO cO] 25)) := (Below.refl _ _).alloc (Nat.le_refl _) _
  obtain ⟨w0, hW⟩ : ∃ W, W = (w).alloc (.cells #[.int .i64 T.facts, .slice I nI cI, .slice G nG cG, .slice O nO cO] 25) := ⟨_, rfl⟩
  rw [← hW] at hyt hbW ⊢
  replace Hbl := hide (Hbl.out.trans (hbW.mono Hbl.out.size))
  have Ht := hide hyt
  clear hW hbW hyt
  generalize w.heap.size = gT at Ht s_0 ⊢
  have t0 := Ht.out.cell 0
  have t1 := Ht.out.cell 1
  have t2 := Ht.out.cell 2
  have t3 := Ht.out.cell 3
  have tl := Ht.out.lt
  simp only [List.getElem?_cons_zero, List.getElem?_cons_succ] at t0 t1 t2 t3
  have a_t : B0 ≤ gT := by omega
  clear s_0
  go_wp2_with fail
  with_reducible refine (horizonExample_ct w0).mono ?_
  rintro e w1 ⟨rfl, hb⟩
  clear t0 t1 t2 t3 tl
  replace Ht := hide (Ht.out.keep hb)
  replace Hbl := hide (Hbl.out.trans (hb.mono Hbl.out.size))
  clear hb
  have t0 := Ht.out.cell 0
  have t1 := Ht.out.cell 1
  have t2 := Ht.out.cell 2
  have t3 := Ht.out.cell 3
  have tl := Ht.out.lt
  simp only [List.getElem?_cons_zero, List.getElem?_cons_succ] at t0 t1 t2 t3
  go_wp2_with fail
  with_reducible refine (HD.out w1 (H.out.keep Hbl.out) hs (Hm.out.keep Hbl.out)).mono ?_
  rintro e w2 ⟨hb, X, xn, xc, rfl, hx⟩
  have HR := hide (hx w2 (Chg.refl _ _))
  clear hx
  simp only
  unfold fault
  clear t0 t1 t2 t3 tl
  replace Ht := hide (Ht.out.keep hb)
  replace Hbl := hide (Hbl.out.trans (hb.mono Hbl.out.size))
  clear hb
  have t0 := Ht.out.cell 0
  have t1 := Ht.out.cell 1
  have t2 := Ht.out.cell 2
  have t3 := Ht.out.cell 3
  have tl := Ht.out.lt
  simp only [List.getElem?_cons_zero, List.getElem?_cons_succ] at t0 t1 t2 t3
  go_upto_region 4 with (fail)
  have n_t_d : ¬ gT = w2.heap.size := by omega
  have n_d_t : ¬ w2.heap.size = gT := by omega
  have s_t : gT < w2.heap.size := tl
  have s_0 : B0 ≤ w2.heap.size := Nat.le_trans (Nat.le_of_eq HB0.out) Hbl.out.size
  have hyd := Blk.new (w2) 29 [.int .i64 0, .int .i64 0]
  have hbW : Below (w2).heap.size (w2) ((w2).alloc (.cells #[.int .i64 0, .int .i64 0] 29)) := (Below.refl _ _).alloc (Nat.le_refl _) _
  obtain ⟨w3, hW⟩ : ∃ W, W = (w2).alloc (.cells #[.int .i64 0, .int .i64 0] 29) := ⟨_, rfl⟩
  rw [← hW] at hyd hbW ⊢
  replace Ht := hide (Ht.out.keep hbW)
  replace HR := hide (HR.out.keep hbW)
  replace Hbl := hide (Hbl.out.trans (hbW.mono Hbl.out.size))
  have Hd := hide hyd
  clear hW hbW hyd
  generalize w2.heap.size = gd at Hd n_t_d n_d_t s_t s_0 ⊢
  have t0 := Ht.out.cell 0
  have t1 := Ht.out.cell 1
  have t2 := Ht.out.cell 2
  have t3 := Ht.out.cell 3
  have tl := Ht.out.lt
  have d0 := Hd.out.cell 0
  have d1 := Hd.out.cell 1
  have dl := Hd.out.lt
  simp only [List.getElem?_cons_zero, List.getElem?_cons_succ] at t0 t1 t2 t3 d0 d1
  clear s_t
  have a_d : B0 ≤ gd := by omega
  clear s_0
  go_wp2_with fail
  with_reducible refine (HE.out w3 (H.out.keep Hbl.out) hs).mono ?_
  rintro e w4 ⟨rfl, hb⟩
  clear t0 t1 t2 t3 d0 d1 tl dl
  replace Ht := hide (Ht.out.keep hb)
  replace Hd := hide (Hd.out.keep hb)
  replace HR := hide (HR.out.keep hb)
  replace Hbl := hide (Hbl.out.trans (hb.mono Hbl.out.size))
  clear hb
  unfold fault
  simp only
  have t0 := Ht.out.cell 0
  have t1 := Ht.out.cell 1
  have t2 := Ht.out.cell 2
  have t3 := Ht.out.cell 3
  have tl := Ht.out.lt
  have d0 := Hd.out.cell 0
  have d1 := Hd.out.cell 1
  have dl := Hd.out.lt
  simp only [List.getElem?_cons_zero, List.getElem?_cons_succ] at t0 t1 t2 t3 d0 d1
  go_upto_region 5 with (fail)
  have n_t_k : ¬ gT = w4.heap.size := by omega
  have n_k_t : ¬ w4.heap.size = gT := by omega
  have n_d_k : ¬ gd = w4.heap.size := by omega
  have n_k_d : ¬ w4.heap.size = gd := by omega
  have s_t : gT < w4.heap.size := tl
  have s_d : gd < w4.heap.size := dl
  have s_0 : B0 ≤ w4.heap.size := Nat.le_trans (Nat.le_of_eq HB0.out) Hbl.out.size
  have hyk := Blk.new (w4) 29 [.int .i64 0, .int .i64 0]
  have hbW : Below (w4).heap.size (w4) ((w4).alloc (.cells #[.int .i64 0, .int .i64 0] 29)) := (Below.refl _ _).alloc (Nat.le_refl _) _
  obtain ⟨w5, hW⟩ : ∃ W, W = (w4).alloc (.cells #[.int .i64 0, .int .i64 0] 29) := ⟨_, rfl⟩
  rw [← hW] at hyk hbW ⊢
  replace Ht := hide (Ht.out.keep hbW)
  replace Hd := hide (Hd.out.keep hbW)
  replace HR := hide (HR.out.keep hbW)
  replace Hbl := hide (Hbl.out.trans (hbW.mono Hbl.out.size))
  have Hk := hide hyk
  clear hW hbW hyk
  generalize w4.heap.size = gk at Hk n_t_k n_k_t n_d_k n_k_d s_t s_d s_0 ⊢
  have t0 := Ht.out.cell 0
  have t1 := Ht.out.cell 1
  have t2 := Ht.out.cell 2
  have t3 := Ht.out.cell 3
  have tl := Ht.out.lt
  have d0 := Hd.out.cell 0
  have d1 := Hd.out.cell 1
  have dl := Hd.out.lt
  have k0 := Hk.out.cell 0
  have k1 := Hk.out.cell 1
  have kl := Hk.out.lt
  simp only [List.getElem?_cons_zero, List.getElem?_cons_succ] at t0 t1 t2 t3 d0 d1 k0 k1
  clear s_t
  clear s_d
  have a_k : B0 ≤ gk := by omega
  clear s_0
  have hct := HZ.out w5 (by omega)
  obtain ⟨V, hV⟩ : ∃ V, V = sizeN N S nO := ⟨_, rfl⟩
  rw [← hV] at hct
  have HV := hide hV
  have hlI : (mn : Int) = (V : Int) := by have := Hlen.out; omega
  clear hV
  go_wp2_with fail
  with_reducible refine (hct).mono ?_
  rintro e w6 ⟨rfl, hb⟩
  clear t0 t1 t2 t3 d0 d1 k0 k1 tl dl kl
  replace Ht := hide (Ht.out.keep hb)
  replace Hd := hide (Hd.out.keep hb)
  replace Hk := hide (Hk.out.keep hb)
  replace HR := hide (HR.out.keep hb)
  replace Hbl := hide (Hbl.out.trans (hb.mono Hbl.out.size))
  clear hb
  clear hct
  have t0 := Ht.out.cell 0
  have t1 := Ht.out.cell 1
  have t2 := Ht.out.cell 2
  have t3 := Ht.out.cell 3
  have tl := Ht.out.lt
  have d0 := Hd.out.cell 0
  have d1 := Hd.out.cell 1
  have dl := Hd.out.lt
  have k0 := Hk.out.cell 0
  have k1 := Hk.out.cell 1
  have kl := Hk.out.lt
  simp only [List.getElem?_cons_zero, List.getElem?_cons_succ] at t0 t1 t2 t3 d0 d1 k0 k1
  go_wp2_with fail
  with_reducible refine (HQ.out w6 (H.out.keep Hbl.out) (Hm.out.keep Hbl.out) hS (by omega) Hlen.out).mono ?_
  rintro e w7 ⟨rfl, hb⟩
  clear t0 t1 t2 t3 d0 d1 k0 k1 tl dl kl
  replace Ht := hide (Ht.out.keep hb)
  replace Hd := hide (Hd.out.keep hb)
  replace Hk := hide (Hk.out.keep hb)
  replace HR := hide (HR.out.keep hb)
  replace Hbl := hide (Hbl.out.trans (hb.mono Hbl.out.size))
  clear hb
  have t0 := Ht.out.cell 0
  have t1 := Ht.out.cell 1
  have t2 := Ht.out.cell 2
  have t3 := Ht.out.cell 3
  have tl := Ht.out.lt
  have d0 := Hd.out.cell 0
  have d1 := Hd.out.cell 1
  have dl := Hd.out.lt
  have k0 := Hk.out.cell 0
  have k1 := Hk.out.cell 1
  have kl := Hk.out.lt
  simp only [List.getElem?_cons_zero, List.getElem?_cons_succ] at t0 t1 t2 t3 d0 d1 k0 k1
  go_wp2_with fail
  clear t0 t1 t2 t3 d0 d1 k0 k1 tl dl kl
  have hsz7 : w.heap.size ≤ w7.heap.size := Hbl.out.size
  go_loopw [10, 11] (fun ov i wr => ∃ (k : Nat) (D : Option Addr) (q dc : Nat) (us : List Value), k ≤ S ∧ i = .int .i64 k ∧ ov = .slice D q dc ∧ OwnE Enc.int 3 w7.heap.size (fun b => w7.heap.size ≤ b) wr D q dc us (wantF N S nO m k) ∧ Below w7.heap.size w7 wr) (fun _ i _ => S - (intOf i).toNat)
  case atStart => exact ⟨0, none, 0, 0, [], by omega, rfl, rfl, OwnE.nil _ _ _ _ _, Below.refl _ _⟩
  case round =>
    obtain ⟨w8, rfl⟩ : ∃ V, V = wr := ⟨_, rfl⟩
    obtain ⟨k, D, q, dc, us, hk, rfl, rfl, hrow, hb⟩ := hrel
    have Hrow := hide hrow
    have Hb := hide hb
    replace Hbl := hide (Hbl.out.trans (hb.mono Hbl.out.size))
    replace Ht := hide (Ht.out.keep hb)
    replace Hd := hide (Hd.out.keep hb)
    replace Hk := hide (Hk.out.keep hb)
    replace HR := hide (HR.out.keep hb)
    clear hrow hb
    have t0 := Ht.out.cell 0
    have t1 := Ht.out.cell 1
    have t2 := Ht.out.cell 2
    have t3 := Ht.out.cell 3
    have tl := Ht.out.lt
    have d0 := Hd.out.cell 0
    have d1 := Hd.out.cell 1
    have dl := Hd.out.lt
    have k0 := Hk.out.cell 0
    have k1 := Hk.out.cell 1
    have kl := Hk.out.lt
    simp only [List.getElem?_cons_zero, List.getElem?_cons_succ] at t0 t1 t2 t3 d0 d1 k0 k1
    by_cases hkS : k < S
    · have hkI : (k : Int) < (S : Int) := by omega
      have hct := HX.out k M mn mc m w8 Hfc.out (Hm.out.keep Hbl.out) hN hS hkS (by omega) Hlen.out
      have hwl := wantF_len N S nO m k
      have hwl2 := Nat.mul_le_mul (show k ≤ 4 by omega) hn
      have hql := Hrow.out.len
      go_wp2_with fail
      with_reducible refine hct.mono ?_
      rintro e w9 ⟨hb, Y, yc, rfl, hown⟩
      have hry := own_rd hown rfl (set_ints (pick_set nO _) (by omega))
      have hel : (exeF N S nO m k).length ≤ nO := by
        unfold exeF pick
        rw [List.length_map]
        exact Nat.le_trans (List.length_filter_le _ _) (by simp)
      have hnx : wantF N S nO m (k + 1) = wantF N S nO m k ++ exeF N S nO m k := wantF_succ N S nO m k
      have Hry := hide hry
      have Hnx := hide hnx
      have hsz8 := Hb.out.size
      have hb9 := Hb.out.trans (hb.mono hsz8)
      replace Hrow := hide ((Hrow.out.keep hb).less (M' := fun b => w7.heap.size ≤ b) (fun i _ e => e))
      clear hct hown hry hnx Hb
      have Hb := hide hb9
      have hsz9 : w7.heap.size ≤ w9.heap.size := hb9.size
      clear hb9 hb
      clear t0 t1 t2 t3 d0 d1 k0 k1 tl dl kl
      generalize exeF N S nO m k = ex at Hry Hnx hel ⊢
      generalize hxl : ex.length = el at Hry hel ⊢
      have Hxl := hide hxl
      clear hxl
      go_wp2_with
        (at_builtin
         refine wpList_appendE rfl _ _ 22 rfl w7.heap.size 3 i1 (.int .i64 0) 8 Try.underlying22 hi1 hy0 hy1 hy2 rfl (by decide) (fun _ _ _ h => one_int h) rfl Hrow.out (fun r hr => (Hrow.out.base hr).1) Hry.out (Below.refl _ _) (fun us y hok _ => ?_) rfl (by omega) (by omega) hsz9 ?_
         · obtain ⟨e1, e2, e3⟩ := hok
           subst e1
           exact firm_int e2 e3
         intro O6 oc6 w10 vs6 hown6 hch6 hat6
         have hown6 := hown6.less (M' := fun b => w7.heap.size ≤ b) (fun i _ e => .inl e)
         have hb6 := row_below Hb.out hsz9 hch6 (fun r hr => (Hrow.out.base hr).1)
         have Hown6 := hide hown6
         have Hb6 := hide hb6
         clear hown6 hch6 hat6 hb6)
      go_roundw
      case rel => exact ⟨k + 1, O6, q + el, oc6, _, by omega, by go_num, rfl, by rw [Hnx.out]; exact Hown6.out, Hb6.out⟩
      case measure => simp [intOf]; omega
    · obtain rfl : S = k := by omega
      have hrw := Hrow.out.rd
      have Hrw := hide hrw
      have hct := Ints_ct X D xn xc q dc (wantF N S nO m S) (wantF N S nO m S) w8 HR.out hrw
      rw [show intsB (wantF N S nO m S) (wantF N S nO m S) = true by simp [intsB]] at hct
      clear hrw
      go_wp2_with fail
      with_reducible refine hct.mono ?_
      rintro e w9 ⟨rfl, hq⟩
      have hb := hq.below w8.heap.size
      replace Hrw := hide (Hrw.out.keep hb)
      clear hct hq Hrow Hb
      clear t0 t1 t2 t3 d0 d1 k0 k1 tl dl kl
      replace Ht := hide (Ht.out.keep hb)
      replace Hd := hide (Hd.out.keep hb)
      replace Hk := hide (Hk.out.keep hb)
      replace HR := hide (HR.out.keep hb)
      replace Hbl := hide (Hbl.out.trans (hb.mono Hbl.out.size))
      clear hb
      have t0 := Ht.out.cell 0
      have t1 := Ht.out.cell 1
      have t2 := Ht.out.cell 2
      have t3 := Ht.out.cell 3
      have tl := Ht.out.lt
      have d0 := Hd.out.cell 0
      have d1 := Hd.out.cell 1
      have dl := Hd.out.lt
      have k0 := Hk.out.cell 0
      have k1 := Hk.out.cell 1
      have kl := Hk.out.lt
      simp only [List.getElem?_cons_zero, List.getElem?_cons_succ] at t0 t1 t2 t3 d0 d1 k0 k1
      have hct := HS.out D q dc (wantF N S nO m S) w9 (H.out.keep Hbl.out) Hok.out Hrw.out (by rw [HlO.out]; exact Hwr.out)
      rw [Hwv.out] at hct
      go_wp2_with fail
      with_reducible refine (hct).mono ?_
      rintro e w10 ⟨rfl, hb⟩
      clear t0 t1 t2 t3 d0 d1 k0 k1 tl dl kl
      replace Ht := hide (Ht.out.keep hb)
      replace Hd := hide (Hd.out.keep hb)
      replace Hk := hide (Hk.out.keep hb)
      replace HR := hide (HR.out.keep hb)
      replace Hbl := hide (Hbl.out.trans (hb.mono Hbl.out.size))
      clear hb
      clear hct
      have t0 := Ht.out.cell 0
      have t1 := Ht.out.cell 1
      have t2 := Ht.out.cell 2
      have t3 := Ht.out.cell 3
      have tl := Ht.out.lt
      have d0 := Hd.out.cell 0
      have d1 := Hd.out.cell 1
      have dl := Hd.out.lt
      have k0 := Hk.out.cell 0
      have k1 := Hk.out.cell 1
      have kl := Hk.out.lt
      simp only [List.getElem?_cons_zero, List.getElem?_cons_succ] at t0 t1 t2 t3 d0 d1 k0 k1
      go_wp2_with fail
      go_ret
      exact ⟨ret_bool (by simp), Hbl.out⟩
theorem decodeLaw_ct (T : Tsk) (a : TA) (s : Int) (M : Option Addr) (mn mc : Nat) (m : List Bool) (w : World) (hs : -9223372036854775808 ≤ s ∧ s ≤ 9223372036854775807) (h : TkR w a T) (hm : Rd Enc.bool w M mn mc m) :
    Calls Try.prog 13 #[.agg #[.int .i64 T.facts, .slice a.I a.nI a.cI, .slice a.G a.nG a.cG, .slice a.O a.nO a.cO], .int .i64 s, .slice M mn mc] w (Gives w (.bool true)) := by
  rcases hcr : cnfR T s with ⟨Vi, cs, ec, ei⟩
  by_cases hec : ec = 0
  · obtain ⟨N, S, hok, hsS, hS, hn, hV, hcs⟩ := cnfR_ok (T := T) (s := s) (by rw [hcr]; exact hec)
    have hcs2 := hcs
    rw [hcr] at hcs2
    obtain ⟨e1, e2⟩ := Prod.mk.inj hcs2
    obtain ⟨e2, e3⟩ := Prod.mk.inj e2
    obtain ⟨e3, e4⟩ := Prod.mk.inj e3
    subst e1 e2 e3 e4
    have hlm := hm.len
    have hlo := h.ops.len
    by_cases hlen : mn = sizeN N S T.ops.length
    · cases hds : descR T N S m with
      | false =>
        exact decodeLawC a T s M mn mc m w h hs hm _ _ N S hok hsS hS hn hV hcs hlen hds (by
          unfold decodeR
          rw [hcs, if_neg (by simp), if_neg (by simp only; rw [hlm, hlen]; simp), if_pos (by simp only; rw [desc_law hok]; exact hds)])
      | true =>
        obtain ⟨hw1, hw2⟩ := desc_solves hok hds
        exact decodeLawD a T s M mn mc m w h hs hm _ _ N S hok hsS hS hn hV hcs hlen hds hw1 wantF_range (by
          unfold decodeR
          rw [hcs, if_neg (by simp), if_neg (by simp only; rw [hlm, hlen]; simp), if_neg (by simp only; rw [desc_law hok, hds]; simp), hok.facts, hsS, Int.toNat_natCast, Int.toNat_natCast, hlo])
    · exact decodeLawB a T s M mn mc m w h hs hm _ _ N S hok hsS hS hn hV hcs hlen (by
        unfold decodeR
        rw [hcs, if_neg (by simp), if_pos (by simp only; rw [hlm]; omega)])
  · exact decodeLawA a T s M mn mc m w h hs hm Vi cs ec ei hec hcr (by
      unfold decodeR
      rw [hcr, if_pos hec])
end Go.Proofs.Ytnfeknfakkdbhaa
