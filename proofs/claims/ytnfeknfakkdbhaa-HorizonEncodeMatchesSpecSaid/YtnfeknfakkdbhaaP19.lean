/- The law on Encode, part 19: La23. -/
import Derived.Test.YtnfeknfakkdbhaaP1
import Derived.Test.YtnfeknfakkdbhaaP2
import Derived.Test.YtnfeknfakkdbhaaP3
import Derived.Test.YtnfeknfakkdbhaaP4
import Derived.Test.YtnfeknfakkdbhaaP5
import Derived.Test.YtnfeknfakkdbhaaP6
import Derived.Test.YtnfeknfakkdbhaaP7
import Derived.Test.YtnfeknfakkdbhaaP8
import Derived.Test.YtnfeknfakkdbhaaP9
import Derived.Test.YtnfeknfakkdbhaaP10
import Derived.Test.YtnfeknfakkdbhaaP11
import Derived.Test.YtnfeknfakkdbhaaP12
import Derived.Test.YtnfeknfakkdbhaaP13
import Derived.Test.YtnfeknfakkdbhaaP14
import Derived.Test.YtnfeknfakkdbhaaP15
import Derived.Test.YtnfeknfakkdbhaaP16
import Derived.Test.YtnfeknfakkdbhaaP17
import Derived.Test.YtnfeknfakkdbhaaP18
import Derived.BigQuiet
import Derived.Deep.AppendLies
import Derived.Deep.DeepCutAuto
import Derived.Deep.Draws
import Derived.Deep.Fields
import Derived.Deep.LoopGhost
import Derived.Deep.QuietTactic
import Derived.Deep.RegionHeld3
import Derived.Deep.RegionLaw
import Derived.Deep.Slices
import Derived.Ground.Names2Prog
import Derived.Ground.SlgnProg
import Derived.Ground.SlsfProg
import Derived.IntWalk
import Derived.Laws.AppendOwnNone
import Derived.Laws.OwnMore
import Derived.Lib.Hide
import Derived.Lib.SlicesCompact
import Derived.Maps.AppendAt
import Derived.Shelf.SlSortCmp.Whole1
import Derived.Shelf.Slices.Cells
import Derived.Shelf.Slices.Clone
import Derived.Shelf.Slices.CompactI
import Derived.Shelf.Slices.Empties
import Derived.Shelf.Slices.In.SortNone
import Derived.Shelf.Slices.SearchI
import Derived.Shelf.SlicesE.Clone
import Derived.Shelf.Sort.Plain
import Derived.Sort.OwnSortedInts
import Derived.StillTailTactics
import Derived.Test.YtnfeknfakkdbhaaProg
import Derived.WalkKit
import Init
namespace Go.Proofs.Ytnfeknfakkdbhaa
set_option linter.unusedVariables false
set_option linter.unusedSimpArgs false
open Go.RowKit
theorem cnfR_bad {T : Tsk} {s : Int} (h : (cnfR T s).2.2.1 ≠ 0) : (cnfR T s).1 = 0 ∧ (cnfR T s).2.1 = [] := by
  unfold cnfR at h ⊢
  split
  · exact ⟨rfl, rfl⟩
  · rename_i h1
    rw [if_neg h1] at h
    split
    · exact ⟨rfl, rfl⟩
    · rename_i h2
      rw [if_neg h2] at h
      split
      · exact ⟨rfl, rfl⟩
      · rename_i h3
        rw [if_neg h3] at h
        exact absurd rfl h
set_option maxRecDepth 100000 in
set_option maxHeartbeats 6400000 in
theorem encodeLawA (a : TA) (T : Tsk) (s : Int) (M : Option Addr) (mn mc : Nat) (m : List Bool) (P : Option Addr) (pn pc : Nat) (plan : List Int) (w : World) (h : TkR w a T) (hs : I64s s) (hm : Rd Enc.bool w M mn mc m) (hp : Rd Enc.int w P pn pc plan) (ec ei : Int) (hec : ec ≠ 0) (hcr : cnfR T s = (0, [], ec, ei)) :
    Calls Try.prog 12 #[.agg #[.int .i64 T.facts, .slice a.I a.nI a.cI, .slice a.G a.nG a.cG, .slice a.O a.nO a.cO], .int .i64 s, .slice M mn mc, .slice P pn pc] w (Gives w (.bool true)) := by
  have HE := fun w h hs => Encode_ct a T s _ w h hs hcr
  have HF := EncFault_ct a T s
  rw [hcr] at HF
  obtain ⟨I, nI, cI, G, nG, cG, O, nO, cO⟩ := a
  simp only at HE HF ⊢
  have H := hide h
  have Hm := hide hm
  have Hp := hide hp
  have hml := hm.low
  have hpl := hp.low
  have Hpl := hide hp.len
  have Hml := hide hm.len
  replace HE := hide HE
  replace HF := hide HF

  clear h hm hp hcr 
  have hfi : ∀ (x : Int) (y : Value) (w : World), (Instr.field 29 (.agg #[.int .i64 x, y]) 0).run Try.prog w = .ok (.int .i64 x) w := fun x y w => field_int x y w
  have Hfi := hide hfi
  clear hfi
  have Hbl := hide (Below.refl w.heap.size w)
  go_enter Try.func12, Try.ntmps12
  go_upto_region 1 with (fail)
  obtain ⟨B0, hB0⟩ : ∃ B0, B0 = w.heap.size := ⟨_, rfl⟩
  have HB0 := hide hB0
  clear hB0
  have s_0 : B0 ≤ w.heap.size := Nat.le_trans (Nat.le_of_eq HB0.out) Hbl.out.size
  have hyt := Blk.new (w) 25 [.int .i64 T.facts, .slice I nI cI, .slice G nG cG, .slice O nO cO]
  have hbW : Below (w).heap.size (w) ((w).alloc (.cells #[.int .i64 T.facts, .slice I nI cI, .slice G nG cG, .slice O nO cO] 25)) := (Below.refl _ _).alloc (Nat.le_refl _) _
  obtain ⟨w0, hW⟩ : ∃ W, W = (w).alloc (.cells #[.int .i64 T.facts, .slice I nI cI, .slice G nG cG, .slice O nO cO] 25) := ⟨_, rfl⟩
  rw [← hW] at hyt hbW ⊢
  replace Hbl := hide (Hbl.out.trans (hbW.mono Hbl.out.size))
  have Ht := hide hyt
  clear hW hbW hyt
  generalize w.heap.size = gT at Ht s_0 ⊢
  have t0 := Ht.out.cell 0
  have t1 := Ht.out.cell 1
  have t2 := Ht.out.cell 2
  have t3 := Ht.out.cell 3
  have tl := Ht.out.lt
  simp only [List.getElem?_cons_zero, List.getElem?_cons_succ] at t0 t1 t2 t3
  have a_t : B0 ≤ gT := by omega
  clear s_0
  go_wp2_with fail
  with_reducible refine (horizonExample_ct w0).mono ?_
  rintro e w1 ⟨rfl, hb⟩
  clear t0 t1 t2 t3 tl
  replace Ht := hide (Ht.out.keep hb)
  replace Hbl := hide (Hbl.out.trans (hb.mono Hbl.out.size))
  clear hb
  have t0 := Ht.out.cell 0
  have t1 := Ht.out.cell 1
  have t2 := Ht.out.cell 2
  have t3 := Ht.out.cell 3
  have tl := Ht.out.lt
  simp only [List.getElem?_cons_zero, List.getElem?_cons_succ] at t0 t1 t2 t3
  go_wp2_with fail
  with_reducible refine (HE.out w1 (H.out.keep Hbl.out) hs).mono ?_
  rintro e w2 ⟨hb, A, n, c, rfl, hplain, hrows⟩
  have HR := hide (hrows w2 (Chg.refl _ _))
  clear hrows hplain
  simp only
  unfold fault
  clear t0 t1 t2 t3 tl
  replace Ht := hide (Ht.out.keep hb)
  replace Hbl := hide (Hbl.out.trans (hb.mono Hbl.out.size))
  clear hb
  have t0 := Ht.out.cell 0
  have t1 := Ht.out.cell 1
  have t2 := Ht.out.cell 2
  have t3 := Ht.out.cell 3
  have tl := Ht.out.lt
  simp only [List.getElem?_cons_zero, List.getElem?_cons_succ] at t0 t1 t2 t3
  have hn0 : n = 0 := by have := HR.out.len; simpa using this.symm
  subst hn0
  clear HR
  go_upto_region 4 with (fail)
  have s_t : gT < w2.heap.size := tl
  have s_0 : B0 ≤ w2.heap.size := Nat.le_trans (Nat.le_of_eq HB0.out) Hbl.out.size
  have hyc := Blk.new (w2) 51 [.int .i64 0, .slice A 0 c]
  have hyf := Blk.new ((w2).alloc (.cells #[.int .i64 0, .slice A 0 c] 51)) 29 [.int .i64 ec, .int .i64 ei]
  replace hyc := hyc.alloc (.cells #[.int .i64 ec, .int .i64 ei] 29)
  have hbW := below_two w2 (.cells #[.int .i64 0, .slice A 0 c] 51) (.cells #[.int .i64 ec, .int .i64 ei] 29)
  simp only [World.size_alloc] at hyf
  obtain ⟨w3, hW⟩ : ∃ W, W = ((w2).alloc (.cells #[.int .i64 0, .slice A 0 c] 51)).alloc (.cells #[.int .i64 ec, .int .i64 ei] 29) := ⟨_, rfl⟩
  rw [← hW] at hyc hyf hbW ⊢
  replace Ht := hide (Ht.out.keep hbW)
  replace Hbl := hide (Hbl.out.trans (hbW.mono Hbl.out.size))
  have Hc := hide hyc
  have Hf := hide hyf
  clear hW hbW hyc hyf
  generalize w2.heap.size = gc at Hc Hf s_t s_0 ⊢
  have t0 := Ht.out.cell 0
  have t1 := Ht.out.cell 1
  have t2 := Ht.out.cell 2
  have t3 := Ht.out.cell 3
  have tl := Ht.out.lt
  have c0 := Hc.out.cell 0
  have c1 := Hc.out.cell 1
  have cl := Hc.out.lt
  have f0 := Hf.out.cell 0
  have f1 := Hf.out.cell 1
  have fl := Hf.out.lt
  simp only [List.getElem?_cons_zero, List.getElem?_cons_succ] at t0 t1 t2 t3 c0 c1 f0 f1
  clear s_t
  have a_c : B0 ≤ gc := by omega
  have a_f : B0 ≤ gc + 1 := by omega
  clear s_0
  have n_c_f : ¬ gc = gc + 1 := by omega
  have n_f_c : ¬ gc + 1 = gc := by omega
  go_wp2_with fail
  with_reducible refine (HF.out w3 (H.out.keep Hbl.out) hs).mono ?_
  rintro e w4 ⟨rfl, hb⟩
  clear t0 t1 t2 t3 c0 c1 f0 f1 tl cl fl
  replace Ht := hide (Ht.out.keep hb)
  replace Hc := hide (Hc.out.keep hb)
  replace Hf := hide (Hf.out.keep hb)
  replace Hbl := hide (Hbl.out.trans (hb.mono Hbl.out.size))
  clear hb
  unfold fault
  simp only
  have t0 := Ht.out.cell 0
  have t1 := Ht.out.cell 1
  have t2 := Ht.out.cell 2
  have t3 := Ht.out.cell 3
  have tl := Ht.out.lt
  have c0 := Hc.out.cell 0
  have c1 := Hc.out.cell 1
  have cl := Hc.out.lt
  have f0 := Hf.out.cell 0
  have f1 := Hf.out.cell 1
  have fl := Hf.out.lt
  simp only [List.getElem?_cons_zero, List.getElem?_cons_succ] at t0 t1 t2 t3 c0 c1 f0 f1
  go_upto_region 5 with (fail)
  have s_t : gT < w4.heap.size := tl
  have s_c : gc < w4.heap.size := cl
  have s_f : gc + 1 < w4.heap.size := fl
  have s_0 : B0 ≤ w4.heap.size := Nat.le_trans (Nat.le_of_eq HB0.out) Hbl.out.size
  have hyk := Blk.new (w4) 29 [.int .i64 ec, .int .i64 ei]
  have hbW : Below (w4).heap.size (w4) ((w4).alloc (.cells #[.int .i64 ec, .int .i64 ei] 29)) := (Below.refl _ _).alloc (Nat.le_refl _) _
  obtain ⟨w5, hW⟩ : ∃ W, W = (w4).alloc (.cells #[.int .i64 ec, .int .i64 ei] 29) := ⟨_, rfl⟩
  rw [← hW] at hyk hbW ⊢
  replace Ht := hide (Ht.out.keep hbW)
  replace Hc := hide (Hc.out.keep hbW)
  replace Hf := hide (Hf.out.keep hbW)
  replace Hbl := hide (Hbl.out.trans (hbW.mono Hbl.out.size))
  have Hk := hide hyk
  clear hW hbW hyk
  generalize w4.heap.size = gk at Hk s_t s_c s_f s_0 ⊢
  have t0 := Ht.out.cell 0
  have t1 := Ht.out.cell 1
  have t2 := Ht.out.cell 2
  have t3 := Ht.out.cell 3
  have tl := Ht.out.lt
  have c0 := Hc.out.cell 0
  have c1 := Hc.out.cell 1
  have cl := Hc.out.lt
  have f0 := Hf.out.cell 0
  have f1 := Hf.out.cell 1
  have fl := Hf.out.lt
  have k0 := Hk.out.cell 0
  have k1 := Hk.out.cell 1
  have kl := Hk.out.lt
  simp only [List.getElem?_cons_zero, List.getElem?_cons_succ] at t0 t1 t2 t3 c0 c1 f0 f1 k0 k1
  clear s_t
  clear s_c
  clear s_f
  have a_k : B0 ≤ gk := by omega
  clear s_0
  have hne : (ec != 0) = true := by simpa using hec
  have hne2 : (ec == 0) = false := by simpa using hec
  go_wp2_with fail
  go_ret
  exact ⟨ret_bool (by simp), Hbl.out⟩
set_option maxRecDepth 100000 in
set_option maxHeartbeats 6400000 in
theorem encodeLawB (a : TA) (T : Tsk) (s : Int) (M : Option Addr) (mn mc : Nat) (m : List Bool) (P : Option Addr) (pn pc : Nat) (plan : List Int) (w : World) (h : TkR w a T) (hs : I64s s) (hm : Rd Enc.bool w M mn mc m) (hp : Rd Enc.int w P pn pc plan) (N S : Nat) (hok : OkT T N) (hsS : s = (S : Int)) (hS : S ≤ 4) (hn : T.ops.length ≤ 20) (hV : sizeN N S T.ops.length ≤ 80) (hcr : cnfR T s = (((sizeN N S T.ops.length : Nat) : Int), encC T N S, 0, 0)) (hlen : mn ≠ sizeN N S a.nO) :
    Calls Try.prog 12 #[.agg #[.int .i64 T.facts, .slice a.I a.nI a.cI, .slice a.G a.nG a.cG, .slice a.O a.nO a.cO], .int .i64 s, .slice M mn mc, .slice P pn pc] w (Gives w (.bool true)) := by
  have HE := fun w h hs => Encode_ct a T s _ w h hs hcr
  have HF := EncFault_ct a T s
  rw [hcr] at HF
  have hfl := enc_fault hok hS hn hV
  have hfits : ∀ l ∈ encC T N S, ∀ x ∈ l, Fits (sizeN N S T.ops.length : Nat) x := fun l hl => code_fits (enc_code hok hl)
  have hdl := fun m => desc_law (m := m) (S := S) hok
  have HZ := fun w => Size_ct a T N S w hok.facts hok.low (by omega)
  have HC := fun A n c w h => CnfFault_ct (sizeN N S T.ops.length : Nat) A n c (encC T N S) w h
  rw [hfl] at HC
  have HPF := fun w h hl => RPlanFault_ct a T P pn pc plan w h hl
  have HQ := fun w h => Describes_ct a T N S M mn mc m w h hok
  have HSO := fun w h hl hr => RSolves_ct a T N P pn pc plan w h hok hl hr
  have HWR := fun w h hl hr => Written_ct a T N S P pn pc plan w h hok hl hr hS
  obtain ⟨I, nI, cI, G, nG, cG, O, nO, cO⟩ := a
  have hwt := fun hr hl hw => written_true (l := plan) (S := S) hok hr hl hw
  have hlO := h.ops.len
  simp only at HE HF HZ HC HPF HQ HSO HWR hlO ⊢
  rw [hlO] at hn hV HE HC hfits
  rw [hlO] at hwt
  have hN := hok.low
  obtain ⟨V, hVe⟩ : ∃ V, V = sizeN N S nO := ⟨_, rfl⟩
  rw [← hVe] at HE HZ HC HWR hV hfits
  have Hwt := hide hwt
  have HVe := hide hVe
  have HlO := hide hlO
  have Hfits := hide hfits
  have Hdl := hide hdl
  replace HZ := hide HZ
  replace HC := hide HC
  replace HPF := hide HPF
  replace HQ := hide HQ
  replace HSO := hide HSO
  replace HWR := hide HWR
  have hpf0 := planFault_ok (T := T) (l := plan)
  rcases hpq : planFault T plan with ⟨fc, fi⟩
  rw [hpq] at hpf0
  have Hpf0 := hide hpf0
  have Hpq := hide hpq
  subst hsS
  have H := hide h
  have Hm := hide hm
  have Hp := hide hp
  have hml := hm.low
  have hpl := hp.low
  have Hpl := hide hp.len
  have Hml := hide hm.len
  replace HE := hide HE
  replace HF := hide HF
  have Hlen := hide hlen
  clear h hm hp hcr hok hfl hfits hdl hlO hVe hpf0 hpq hwt hlen
  have hfi : ∀ (x : Int) (y : Value) (w : World), (Instr.field 29 (.agg #[.int .i64 x, y]) 0).run Try.prog w = .ok (.int .i64 x) w := fun x y w => field_int x y w
  have Hfi := hide hfi
  clear hfi
  have Hbl := hide (Below.refl w.heap.size w)
  go_enter Try.func12, Try.ntmps12
  go_upto_region 1 with (fail)
  obtain ⟨B0, hB0⟩ : ∃ B0, B0 = w.heap.size := ⟨_, rfl⟩
  have HB0 := hide hB0
  clear hB0
  have s_0 : B0 ≤ w.heap.size := Nat.le_trans (Nat.le_of_eq HB0.out) Hbl.out.size
  have hyt := Blk.new (w) 25 [.int .i64 T.facts, .slice I nI cI, .slice G nG cG, .slice O nO cO]
  have hbW : Below (w).heap.size (w) ((w).alloc (.cells #[.int .i64 T.facts, .slice I nI cI, .slice G nG cG, .slice O nO cO] 25)) := (Below.refl _ _).alloc (Nat.le_refl _) _
  obtain ⟨w0, hW⟩ : ∃ W, W = (w).alloc (.cells #[.int .i64 T.facts, .slice I nI cI, .slice G nG cG, .slice O nO cO] 25) := ⟨_, rfl⟩
  rw [← hW] at hyt hbW ⊢
  replace Hbl := hide (Hbl.out.trans (hbW.mono Hbl.out.size))
  have Ht := hide hyt
  clear hW hbW hyt
  generalize w.heap.size = gT at Ht s_0 ⊢
  have t0 := Ht.out.cell 0
  have t1 := Ht.out.cell 1
  have t2 := Ht.out.cell 2
  have t3 := Ht.out.cell 3
  have tl := Ht.out.lt
  simp only [List.getElem?_cons_zero, List.getElem?_cons_succ] at t0 t1 t2 t3
  have a_t : B0 ≤ gT := by omega
  clear s_0
  go_wp2_with fail
  with_reducible refine (horizonExample_ct w0).mono ?_
  rintro e w1 ⟨rfl, hb⟩
  clear t0 t1 t2 t3 tl
  replace Ht := hide (Ht.out.keep hb)
  replace Hbl := hide (Hbl.out.trans (hb.mono Hbl.out.size))
  clear hb
  have t0 := Ht.out.cell 0
  have t1 := Ht.out.cell 1
  have t2 := Ht.out.cell 2
  have t3 := Ht.out.cell 3
  have tl := Ht.out.lt
  simp only [List.getElem?_cons_zero, List.getElem?_cons_succ] at t0 t1 t2 t3
  go_wp2_with fail
  with_reducible refine (HE.out w1 (H.out.keep Hbl.out) hs).mono ?_
  rintro e w2 ⟨hb, A, n, c, rfl, hplain, hrows⟩
  have HR := hide (hrows w2 (Chg.refl _ _))
  clear hrows hplain
  simp only
  unfold fault
  clear t0 t1 t2 t3 tl
  replace Ht := hide (Ht.out.keep hb)
  replace Hbl := hide (Hbl.out.trans (hb.mono Hbl.out.size))
  clear hb
  have t0 := Ht.out.cell 0
  have t1 := Ht.out.cell 1
  have t2 := Ht.out.cell 2
  have t3 := Ht.out.cell 3
  have tl := Ht.out.lt
  simp only [List.getElem?_cons_zero, List.getElem?_cons_succ] at t0 t1 t2 t3
  go_upto_region 4 with (fail)
  have s_t : gT < w2.heap.size := tl
  have s_0 : B0 ≤ w2.heap.size := Nat.le_trans (Nat.le_of_eq HB0.out) Hbl.out.size
  have hyc := Blk.new (w2) 51 [.int .i64 V, .slice A n c]
  have hyf := Blk.new ((w2).alloc (.cells #[.int .i64 V, .slice A n c] 51)) 29 [.int .i64 0, .int .i64 0]
  replace hyc := hyc.alloc (.cells #[.int .i64 0, .int .i64 0] 29)
  have hbW := below_two w2 (.cells #[.int .i64 V, .slice A n c] 51) (.cells #[.int .i64 0, .int .i64 0] 29)
  simp only [World.size_alloc] at hyf
  obtain ⟨w3, hW⟩ : ∃ W, W = ((w2).alloc (.cells #[.int .i64 V, .slice A n c] 51)).alloc (.cells #[.int .i64 0, .int .i64 0] 29) := ⟨_, rfl⟩
  rw [← hW] at hyc hyf hbW ⊢
  replace Ht := hide (Ht.out.keep hbW)
  replace HR := hide (HR.out.keep hbW)
  replace Hbl := hide (Hbl.out.trans (hbW.mono Hbl.out.size))
  have Hc := hide hyc
  have Hf := hide hyf
  clear hW hbW hyc hyf
  generalize w2.heap.size = gc at Hc Hf s_t s_0 ⊢
  have t0 := Ht.out.cell 0
  have t1 := Ht.out.cell 1
  have t2 := Ht.out.cell 2
  have t3 := Ht.out.cell 3
  have tl := Ht.out.lt
  have c0 := Hc.out.cell 0
  have c1 := Hc.out.cell 1
  have cl := Hc.out.lt
  have f0 := Hf.out.cell 0
  have f1 := Hf.out.cell 1
  have fl := Hf.out.lt
  simp only [List.getElem?_cons_zero, List.getElem?_cons_succ] at t0 t1 t2 t3 c0 c1 f0 f1
  clear s_t
  have a_c : B0 ≤ gc := by omega
  have a_f : B0 ≤ gc + 1 := by omega
  clear s_0
  have n_c_f : ¬ gc = gc + 1 := by omega
  have n_f_c : ¬ gc + 1 = gc := by omega
  go_wp2_with fail
  with_reducible refine (HF.out w3 (H.out.keep Hbl.out) hs).mono ?_
  rintro e w4 ⟨rfl, hb⟩
  clear t0 t1 t2 t3 c0 c1 f0 f1 tl cl fl
  replace Ht := hide (Ht.out.keep hb)
  replace Hc := hide (Hc.out.keep hb)
  replace Hf := hide (Hf.out.keep hb)
  replace HR := hide (HR.out.keep hb)
  replace Hbl := hide (Hbl.out.trans (hb.mono Hbl.out.size))
  clear hb
  unfold fault
  simp only
  have t0 := Ht.out.cell 0
  have t1 := Ht.out.cell 1
  have t2 := Ht.out.cell 2
  have t3 := Ht.out.cell 3
  have tl := Ht.out.lt
  have c0 := Hc.out.cell 0
  have c1 := Hc.out.cell 1
  have cl := Hc.out.lt
  have f0 := Hf.out.cell 0
  have f1 := Hf.out.cell 1
  have fl := Hf.out.lt
  simp only [List.getElem?_cons_zero, List.getElem?_cons_succ] at t0 t1 t2 t3 c0 c1 f0 f1
  go_upto_region 5 with (fail)
  have s_t : gT < w4.heap.size := tl
  have s_c : gc < w4.heap.size := cl
  have s_f : gc + 1 < w4.heap.size := fl
  have s_0 : B0 ≤ w4.heap.size := Nat.le_trans (Nat.le_of_eq HB0.out) Hbl.out.size
  have hyk := Blk.new (w4) 29 [.int .i64 0, .int .i64 0]
  have hbW : Below (w4).heap.size (w4) ((w4).alloc (.cells #[.int .i64 0, .int .i64 0] 29)) := (Below.refl _ _).alloc (Nat.le_refl _) _
  obtain ⟨w5, hW⟩ : ∃ W, W = (w4).alloc (.cells #[.int .i64 0, .int .i64 0] 29) := ⟨_, rfl⟩
  rw [← hW] at hyk hbW ⊢
  replace Ht := hide (Ht.out.keep hbW)
  replace Hc := hide (Hc.out.keep hbW)
  replace Hf := hide (Hf.out.keep hbW)
  replace HR := hide (HR.out.keep hbW)
  replace Hbl := hide (Hbl.out.trans (hbW.mono Hbl.out.size))
  have Hk := hide hyk
  clear hW hbW hyk
  generalize w4.heap.size = gk at Hk s_t s_c s_f s_0 ⊢
  have t0 := Ht.out.cell 0
  have t1 := Ht.out.cell 1
  have t2 := Ht.out.cell 2
  have t3 := Ht.out.cell 3
  have tl := Ht.out.lt
  have c0 := Hc.out.cell 0
  have c1 := Hc.out.cell 1
  have cl := Hc.out.lt
  have f0 := Hf.out.cell 0
  have f1 := Hf.out.cell 1
  have fl := Hf.out.lt
  have k0 := Hk.out.cell 0
  have k1 := Hk.out.cell 1
  have kl := Hk.out.lt
  simp only [List.getElem?_cons_zero, List.getElem?_cons_succ] at t0 t1 t2 t3 c0 c1 f0 f1 k0 k1
  clear s_t
  clear s_c
  clear s_f
  have a_k : B0 ≤ gk := by omega
  clear s_0
  go_upto_region 7 with (fail)
  refine wp_region_held_drew (S := (fun w' => w'.cell? ⟨gc + 1, 0, none⟩ = some (.int .i64 0) ∧ w'.cell? ⟨gc, 0, none⟩ = some (.int .i64 V) ∧ w'.cell? ⟨gc, 1, none⟩ = some (.slice A n c) ∧ w'.cell? ⟨gT, 0, none⟩ = some (.int .i64 T.facts) ∧ w'.cell? ⟨gT, 1, none⟩ = some (.slice I nI cI) ∧ w'.cell? ⟨gT, 2, none⟩ = some (.slice G nG cG) ∧ w'.cell? ⟨gT, 3, none⟩ = some (.slice O nO cO))) (by kernel_rfl) ?_ (fun hHeld => ?_)
  · (try dsimp only); exact ⟨f0, c0, c1, t0, t1, t2, t3⟩
  refine takeM (i := 0) (v := ?_) (some 40) rfl rfl (by kernel_rfl) (by kernel_rfl) (by kernel_rfl) (fun _ _ _ h => h) (Or.inl ⟨by rfl, ?_⟩) (by assumption) ?_
  rotate_left
  · intro w hSw; (try dsimp only at hSw); obtain ⟨s1, s2, s3, s4, s5, s6, s7⟩ := hSw; have hfi := Hfi.out; first | (go_simp; done) | (go_simp; with_reducible rfl)
  try simp only [Act.put, List.setIfInBounds_toArray, List.set_cons_zero, List.set_cons_succ]
  refine takeM (i := 1) (v := ?_) (some 41) rfl rfl (by kernel_rfl) (by kernel_rfl) (by kernel_rfl) (fun _ _ _ h => h) (Or.inl ⟨by rfl, ?_⟩) (by assumption) ?_
  rotate_left
  · intro w hSw; (try dsimp only at hSw); obtain ⟨s1, s2, s3, s4, s5, s6, s7⟩ := hSw; have hfi := Hfi.out; first | (go_simp; done) | (go_simp; with_reducible rfl)
  try simp only [Act.put, List.setIfInBounds_toArray, List.set_cons_zero, List.set_cons_succ]
  refine takeM (i := 2) (v := ?_) (some 42) rfl rfl (by kernel_rfl) (by kernel_rfl) (by kernel_rfl) (fun _ _ _ h => h) (Or.inl ⟨by rfl, ?_⟩) (by assumption) ?_
  rotate_left
  · intro w hSw; (try dsimp only at hSw); obtain ⟨s1, s2, s3, s4, s5, s6, s7⟩ := hSw; have hfi := Hfi.out; first | (go_simp; done) | (go_simp; with_reducible rfl)
  try simp only [Act.put, List.setIfInBounds_toArray, List.set_cons_zero, List.set_cons_succ]
  refine takeM (i := 3) (v := ?_) (some 43) rfl rfl (by kernel_rfl) (by kernel_rfl) (by kernel_rfl) (fun _ _ _ h => h) (Or.inl ⟨by rfl, ?_⟩) (by assumption) ?_
  rotate_left
  · intro w hSw; (try dsimp only at hSw); obtain ⟨s1, s2, s3, s4, s5, s6, s7⟩ := hSw; have hfi := Hfi.out; first | (go_simp; done) | (go_simp; with_reducible rfl)
  try simp only [Act.put, List.setIfInBounds_toArray, List.set_cons_zero, List.set_cons_succ]
  refine takeM (i := 4) (v := ?_) (some 44) rfl rfl (by kernel_rfl) (by kernel_rfl) (by kernel_rfl) (fun _ _ _ h => h) (Or.inl ⟨by rfl, ?_⟩) (by assumption) ?_
  rotate_left
  · intro w hSw; (try dsimp only at hSw); obtain ⟨s1, s2, s3, s4, s5, s6, s7⟩ := hSw; have hfi := Hfi.out; first | (go_simp; done) | (go_simp; with_reducible rfl)
  try simp only [Act.put, List.setIfInBounds_toArray, List.set_cons_zero, List.set_cons_succ]
  refine takeM (i := 5) (v := ?_) (some 45) rfl rfl (by kernel_rfl) (by kernel_rfl) (by kernel_rfl) (fun _ _ _ h => h) (Or.inl ⟨by rfl, ?_⟩) (by assumption) ?_
  rotate_left
  · intro w hSw; (try dsimp only at hSw); obtain ⟨s1, s2, s3, s4, s5, s6, s7⟩ := hSw; have hfi := Hfi.out; first | (go_simp; done) | (go_simp; with_reducible rfl)
  try simp only [Act.put, List.setIfInBounds_toArray, List.set_cons_zero, List.set_cons_succ]
  refine takeM (i := 6) (v := ?_) (some 46) rfl rfl (by kernel_rfl) (by kernel_rfl) (by kernel_rfl) (fun _ _ _ h => h) (Or.inl ⟨by rfl, ?_⟩) (by assumption) ?_
  rotate_left
  · intro w hSw; (try dsimp only at hSw); obtain ⟨s1, s2, s3, s4, s5, s6, s7⟩ := hSw; have hfi := Hfi.out; first | (go_simp; done) | (go_simp; with_reducible rfl)
  try simp only [Act.put, List.setIfInBounds_toArray, List.set_cons_zero, List.set_cons_succ]
  refine takeM (i := 7) (v := ?_) (some 47) rfl rfl (by kernel_rfl) (by kernel_rfl) (by kernel_rfl) (fun _ _ _ h => h) (Or.inl ⟨by rfl, ?_⟩) (by assumption) ?_
  rotate_left
  · intro w hSw; (try dsimp only at hSw); obtain ⟨s1, s2, s3, s4, s5, s6, s7⟩ := hSw; have hfi := Hfi.out; first | (go_simp; done) | (go_simp; with_reducible rfl)
  try simp only [Act.put, List.setIfInBounds_toArray, List.set_cons_zero, List.set_cons_succ]
  refine wpAnyH_ready (rs := [8]) (by kernel_rfl) (by simp) ?_
  refine AllReadyH.cons rfl (fun K hK => ?_) AllReadyH.nil
  go_simp
  with_reducible refine (HZ.out _ (by omega)).mono ?_
  rintro e w6 ⟨rfl, hb0⟩
  have hb : Below w5.heap.size w5 w6 := (Below.refl w5.heap.size w5).drew.trans hb0
  clear hb0
  clear t0 t1 t2 t3 c0 c1 f0 f1 k0 k1 tl cl fl kl
  replace Ht := hide (Ht.out.keep hb)
  replace Hc := hide (Hc.out.keep hb)
  replace Hf := hide (Hf.out.keep hb)
  replace Hk := hide (Hk.out.keep hb)
  replace HR := hide (HR.out.keep hb)
  replace Hbl := hide (Hbl.out.trans (hb.mono Hbl.out.size))
  clear hb
  have t0 := Ht.out.cell 0
  have t1 := Ht.out.cell 1
  have t2 := Ht.out.cell 2
  have t3 := Ht.out.cell 3
  have tl := Ht.out.lt
  have c0 := Hc.out.cell 0
  have c1 := Hc.out.cell 1
  have cl := Hc.out.lt
  have f0 := Hf.out.cell 0
  have f1 := Hf.out.cell 1
  have fl := Hf.out.lt
  have k0 := Hk.out.cell 0
  have k1 := Hk.out.cell 1
  have kl := Hk.out.lt
  simp only [List.getElem?_cons_zero, List.getElem?_cons_succ] at t0 t1 t2 t3 c0 c1 f0 f1 k0 k1
  refine hK.out _ _ ?_ (fun hHeld2 => ?_)
  · (try dsimp only); exact ⟨f0, c0, c1, t0, t1, t2, t3⟩
  clear hK K hHeld
  try simp only [Act.put, List.setIfInBounds_toArray, List.set_cons_zero, List.set_cons_succ]
  have hHeld := hHeld2; clear hHeld2
  refine takeM (i := 9) (v := ?_) (some 49) rfl rfl (by kernel_rfl) (by kernel_rfl) (by kernel_rfl) (fun _ _ _ h => h) (Or.inl ⟨by rfl, ?_⟩) (by assumption) ?_
  rotate_left
  · intro w hSw; (try dsimp only at hSw); obtain ⟨s1, s2, s3, s4, s5, s6, s7⟩ := hSw; have hfi := Hfi.out; first | (go_simp; done) | (go_simp; with_reducible rfl)
  try simp only [Act.put, List.setIfInBounds_toArray, List.set_cons_zero, List.set_cons_succ]
  refine takeM (i := 10) (v := ?_) (some 50) rfl rfl (by kernel_rfl) (by kernel_rfl) (by kernel_rfl) (fun _ _ _ h => h) (Or.inl ⟨by rfl, ?_⟩) (by assumption) ?_
  rotate_left
  · intro w hSw; (try dsimp only at hSw); obtain ⟨s1, s2, s3, s4, s5, s6, s7⟩ := hSw; have hfi := Hfi.out; first | (go_simp; done) | (go_simp; with_reducible rfl)
  try simp only [Act.put, List.setIfInBounds_toArray, List.set_cons_zero, List.set_cons_succ]
  refine takeM (i := 11) (v := ?_) (some 51) rfl rfl (by kernel_rfl) (by kernel_rfl) (by kernel_rfl) (fun _ _ _ h => h) (Or.inl ⟨by rfl, ?_⟩) (by assumption) ?_
  rotate_left
  · intro w hSw; (try dsimp only at hSw); obtain ⟨s1, s2, s3, s4, s5, s6, s7⟩ := hSw; have hfi := Hfi.out; first | (go_simp; done) | (go_simp; with_reducible rfl)
  try simp only [Act.put, List.setIfInBounds_toArray, List.set_cons_zero, List.set_cons_succ]
  refine takeM (i := 12) (v := ?_) (some 52) rfl rfl (by kernel_rfl) (by kernel_rfl) (by kernel_rfl) (fun _ _ _ h => h) (Or.inl ⟨by rfl, ?_⟩) (by assumption) ?_
  rotate_left
  · intro w hSw; (try dsimp only at hSw); obtain ⟨s1, s2, s3, s4, s5, s6, s7⟩ := hSw; have hfi := Hfi.out; first | (go_simp; done) | (go_simp; with_reducible rfl)
  try simp only [Act.put, List.setIfInBounds_toArray, List.set_cons_zero, List.set_cons_succ]
  refine wpAnyH_ready (rs := [13]) (by kernel_rfl) (by simp) ?_
  refine AllReadyH.cons rfl (fun K hK => ?_) AllReadyH.nil
  go_simp
  with_reducible refine (HC.out A n c w6 HR.out).mono ?_
  rintro e w7 ⟨rfl, hb⟩
  unfold faultV
  simp only
  clear t0 t1 t2 t3 c0 c1 f0 f1 k0 k1 tl cl fl kl
  replace Ht := hide (Ht.out.keep hb)
  replace Hc := hide (Hc.out.keep hb)
  replace Hf := hide (Hf.out.keep hb)
  replace Hk := hide (Hk.out.keep hb)
  replace HR := hide (HR.out.keep hb)
  replace Hbl := hide (Hbl.out.trans (hb.mono Hbl.out.size))
  clear hb
  have t0 := Ht.out.cell 0
  have t1 := Ht.out.cell 1
  have t2 := Ht.out.cell 2
  have t3 := Ht.out.cell 3
  have tl := Ht.out.lt
  have c0 := Hc.out.cell 0
  have c1 := Hc.out.cell 1
  have cl := Hc.out.lt
  have f0 := Hf.out.cell 0
  have f1 := Hf.out.cell 1
  have fl := Hf.out.lt
  have k0 := Hk.out.cell 0
  have k1 := Hk.out.cell 1
  have kl := Hk.out.lt
  simp only [List.getElem?_cons_zero, List.getElem?_cons_succ] at t0 t1 t2 t3 c0 c1 f0 f1 k0 k1
  refine hK.out _ _ ?_ (fun hHeld2 => ?_)
  · (try dsimp only); exact ⟨f0, c0, c1, t0, t1, t2, t3⟩
  clear hK K hHeld
  try simp only [Act.put, List.setIfInBounds_toArray, List.set_cons_zero, List.set_cons_succ]
  have hHeld := hHeld2; clear hHeld2
  refine takeM (i := 14) (v := ?_) (some 54) rfl rfl (by kernel_rfl) (by kernel_rfl) (by kernel_rfl) (fun _ _ _ h => h) (Or.inl ⟨by rfl, ?_⟩) (by assumption) ?_
  rotate_left
  · intro w hSw; (try dsimp only at hSw); obtain ⟨s1, s2, s3, s4, s5, s6, s7⟩ := hSw; have hfi := Hfi.out; first | (go_simp; done) | (go_simp; with_reducible rfl)
  try simp only [Act.put, List.setIfInBounds_toArray, List.set_cons_zero, List.set_cons_succ]
  refine takeM (i := 15) (v := ?_) (some 55) rfl rfl (by kernel_rfl) (by kernel_rfl) (by kernel_rfl) (fun _ _ _ h => h) (Or.inl ⟨by rfl, ?_⟩) (by assumption) ?_
  rotate_left
  · intro w hSw; (try dsimp only at hSw); obtain ⟨s1, s2, s3, s4, s5, s6, s7⟩ := hSw; have hfi := Hfi.out; first | (go_simp; done) | (go_simp; with_reducible rfl)
  try simp only [Act.put, List.setIfInBounds_toArray, List.set_cons_zero, List.set_cons_succ]
  refine takeM (i := 16) (v := ?_) (some 56) rfl rfl (by kernel_rfl) (by kernel_rfl) (by kernel_rfl) (fun _ _ _ h => h) (Or.inl ⟨by rfl, ?_⟩) (by assumption) ?_
  rotate_left
  · intro w hSw; (try dsimp only at hSw); obtain ⟨s1, s2, s3, s4, s5, s6, s7⟩ := hSw; have hfi := Hfi.out; first | (go_simp; done) | (go_simp; with_reducible rfl)
  try simp only [Act.put, List.setIfInBounds_toArray, List.set_cons_zero, List.set_cons_succ]
  refine wpAnyH_done (by kernel_rfl) ?_ _
  go_upto_region 9 with (fail)
  have hlen := Hlen.out
  have hlI : ¬ (mn : Int) = (V : Int) := by have := HVe.out; omega
  have hlD : decide ((mn : Int) = (V : Int)) = false := by simp; omega
  have hlE : ((mn : Int) == (V : Int)) = false := by simp; omega
  go_quiet (fail)
  obtain ⟨w8, hW⟩ : ∃ W, W = w7.drewN nq := ⟨_, rfl⟩
  have hb := below_drewN (Below.refl w7.heap.size w7) nq
  rw [← hW] at hb ⊢
  clear hW
  clear t0 t1 t2 t3 c0 c1 f0 f1 k0 k1 tl cl fl kl
  replace Ht := hide (Ht.out.keep hb)
  replace Hc := hide (Hc.out.keep hb)
  replace Hf := hide (Hf.out.keep hb)
  replace Hk := hide (Hk.out.keep hb)
  replace HR := hide (HR.out.keep hb)
  replace Hbl := hide (Hbl.out.trans (hb.mono Hbl.out.size))
  clear hb
  have t0 := Ht.out.cell 0
  have t1 := Ht.out.cell 1
  have t2 := Ht.out.cell 2
  have t3 := Ht.out.cell 3
  have tl := Ht.out.lt
  have c0 := Hc.out.cell 0
  have c1 := Hc.out.cell 1
  have cl := Hc.out.lt
  have f0 := Hf.out.cell 0
  have f1 := Hf.out.cell 1
  have fl := Hf.out.lt
  have k0 := Hk.out.cell 0
  have k1 := Hk.out.cell 1
  have kl := Hk.out.lt
  simp only [List.getElem?_cons_zero, List.getElem?_cons_succ] at t0 t1 t2 t3 c0 c1 f0 f1 k0 k1
  have hfi := Hfi.out
  have hct := HPF.out w8 (H.out.keep Hbl.out) (Hp.out.keep Hbl.out)
  rw [Hpq.out] at hct
  go_wp2_with fail
  with_reducible refine (hct).mono ?_
  rintro e w9 ⟨rfl, hb⟩
  clear t0 t1 t2 t3 c0 c1 f0 f1 k0 k1 tl cl fl kl
  replace Ht := hide (Ht.out.keep hb)
  replace Hc := hide (Hc.out.keep hb)
  replace Hf := hide (Hf.out.keep hb)
  replace Hk := hide (Hk.out.keep hb)
  replace HR := hide (HR.out.keep hb)
  replace Hbl := hide (Hbl.out.trans (hb.mono Hbl.out.size))
  clear hb
  clear hct
  unfold fault
  simp only
  have t0 := Ht.out.cell 0
  have t1 := Ht.out.cell 1
  have t2 := Ht.out.cell 2
  have t3 := Ht.out.cell 3
  have tl := Ht.out.lt
  have c0 := Hc.out.cell 0
  have c1 := Hc.out.cell 1
  have cl := Hc.out.lt
  have f0 := Hf.out.cell 0
  have f1 := Hf.out.cell 1
  have fl := Hf.out.lt
  have k0 := Hk.out.cell 0
  have k1 := Hk.out.cell 1
  have kl := Hk.out.lt
  simp only [List.getElem?_cons_zero, List.getElem?_cons_succ] at t0 t1 t2 t3 c0 c1 f0 f1 k0 k1
  by_cases hfc : fc = 0
  · subst hfc
    obtain ⟨_, _, _, hrp⟩ := Hpf0.out rfl
    have Hrp := hide hrp
    clear hrp
    by_cases hgt : S < pn
    · have hgI : (S : Int) < (pn : Int) := by omega
      go_wp2_with fail
      go_ret
      exact ⟨ret_bool (by simp), Hbl.out⟩
    have hgI : ¬ (S : Int) < (pn : Int) := by omega
    have hct := HSO.out w9 (H.out.keep Hbl.out) (Hp.out.keep Hbl.out) Hrp.out
    obtain ⟨bw, hbw⟩ : ∃ z, z = worksF T T.init plan := ⟨_, rfl⟩
    rw [← hbw] at hct
    have Hbw := hide hbw
    clear hbw
    go_wp2_with fail
    with_reducible refine (hct).mono ?_
    rintro e w10 ⟨rfl, hb⟩
    clear t0 t1 t2 t3 c0 c1 f0 f1 k0 k1 tl cl fl kl
    replace Ht := hide (Ht.out.keep hb)
    replace Hc := hide (Hc.out.keep hb)
    replace Hf := hide (Hf.out.keep hb)
    replace Hk := hide (Hk.out.keep hb)
    replace HR := hide (HR.out.keep hb)
    replace Hbl := hide (Hbl.out.trans (hb.mono Hbl.out.size))
    clear hb
    clear hct
    have t0 := Ht.out.cell 0
    have t1 := Ht.out.cell 1
    have t2 := Ht.out.cell 2
    have t3 := Ht.out.cell 3
    have tl := Ht.out.lt
    have c0 := Hc.out.cell 0
    have c1 := Hc.out.cell 1
    have cl := Hc.out.lt
    have f0 := Hf.out.cell 0
    have f1 := Hf.out.cell 1
    have fl := Hf.out.lt
    have k0 := Hk.out.cell 0
    have k1 := Hk.out.cell 1
    have kl := Hk.out.lt
    simp only [List.getElem?_cons_zero, List.getElem?_cons_succ] at t0 t1 t2 t3 c0 c1 f0 f1 k0 k1
    cases bw with
    | false =>
      go_wp2_with fail
      go_ret
      exact ⟨ret_bool (by simp), Hbl.out⟩
    | true =>
      have hlen9 : plan.length ≤ S := by rw [Hpl.out]; omega
      have htr := Hwt.out (by have h9 := Hrp.out; rw [HlO.out] at h9; exact h9) hlen9 Hbw.out.symm
      have Htr := hide htr
      clear htr
      go_upto_region 13 with (fail)
      have hd9 : Below w10.heap.size w10 w10.drew := (Below.refl _ _).drew
      refine wp_region_held_drew (S := (fun w' => w'.cell? ⟨gc + 1, 0, none⟩ = some (.int .i64 0) ∧ w'.cell? ⟨gc, 0, none⟩ = some (.int .i64 V) ∧ w'.cell? ⟨gc, 1, none⟩ = some (.slice A n c) ∧ w'.cell? ⟨gT, 0, none⟩ = some (.int .i64 T.facts) ∧ w'.cell? ⟨gT, 1, none⟩ = some (.slice I nI cI) ∧ w'.cell? ⟨gT, 2, none⟩ = some (.slice G nG cG) ∧ w'.cell? ⟨gT, 3, none⟩ = some (.slice O nO cO))) (by kernel_rfl) ?_ (fun hHeld => ?_)
      · (try dsimp only); exact ⟨f0, c0, c1, t0, t1, t2, t3⟩
      refine takeM (i := 0) (v := ?_) (some 90) rfl rfl (by kernel_rfl) (by kernel_rfl) (by kernel_rfl) (fun _ _ _ h => h) (Or.inl ⟨by rfl, ?_⟩) (by assumption) ?_
      rotate_left
      · intro w hSw; (try dsimp only at hSw); obtain ⟨s1, s2, s3, s4, s5, s6, s7⟩ := hSw; have hfi := Hfi.out; first | (go_simp; done) | (go_simp; with_reducible rfl)
      try simp only [Act.put, List.setIfInBounds_toArray, List.set_cons_zero, List.set_cons_succ]
      refine takeM (i := 1) (v := ?_) (some 91) rfl rfl (by kernel_rfl) (by kernel_rfl) (by kernel_rfl) (fun _ _ _ h => h) (Or.inl ⟨by rfl, ?_⟩) (by assumption) ?_
      rotate_left
      · intro w hSw; (try dsimp only at hSw); obtain ⟨s1, s2, s3, s4, s5, s6, s7⟩ := hSw; have hfi := Hfi.out; first | (go_simp; done) | (go_simp; with_reducible rfl)
      try simp only [Act.put, List.setIfInBounds_toArray, List.set_cons_zero, List.set_cons_succ]
      refine takeM (i := 2) (v := ?_) (some 92) rfl rfl (by kernel_rfl) (by kernel_rfl) (by kernel_rfl) (fun _ _ _ h => h) (Or.inl ⟨by rfl, ?_⟩) (by assumption) ?_
      rotate_left
      · intro w hSw; (try dsimp only at hSw); obtain ⟨s1, s2, s3, s4, s5, s6, s7⟩ := hSw; have hfi := Hfi.out; first | (go_simp; done) | (go_simp; with_reducible rfl)
      try simp only [Act.put, List.setIfInBounds_toArray, List.set_cons_zero, List.set_cons_succ]
      refine takeM (i := 3) (v := ?_) (some 93) rfl rfl (by kernel_rfl) (by kernel_rfl) (by kernel_rfl) (fun _ _ _ h => h) (Or.inl ⟨by rfl, ?_⟩) (by assumption) ?_
      rotate_left
      · intro w hSw; (try dsimp only at hSw); obtain ⟨s1, s2, s3, s4, s5, s6, s7⟩ := hSw; have hfi := Hfi.out; first | (go_simp; done) | (go_simp; with_reducible rfl)
      try simp only [Act.put, List.setIfInBounds_toArray, List.set_cons_zero, List.set_cons_succ]
      refine takeM (i := 4) (v := ?_) (some 94) rfl rfl (by kernel_rfl) (by kernel_rfl) (by kernel_rfl) (fun _ _ _ h => h) (Or.inl ⟨by rfl, ?_⟩) (by assumption) ?_
      rotate_left
      · intro w hSw; (try dsimp only at hSw); obtain ⟨s1, s2, s3, s4, s5, s6, s7⟩ := hSw; have hfi := Hfi.out; first | (go_simp; done) | (go_simp; with_reducible rfl)
      try simp only [Act.put, List.setIfInBounds_toArray, List.set_cons_zero, List.set_cons_succ]
      refine wpAnyH_ready (rs := [5]) (by kernel_rfl) (by simp) ?_
      refine AllReadyH.cons rfl (fun K hK => ?_) AllReadyH.nil
      go_simp
      have hct := HWR.out w10.drew (H.out.keep (Hbl.out.trans (hd9.mono Hbl.out.size))) (Hp.out.keep (Hbl.out.trans (hd9.mono Hbl.out.size))) Hrp.out (by omega) hlen9
      with_reducible refine hct.mono ?_
      rintro e w12 ⟨hb0, gw, rfl, hrw⟩
      have hb := hd9.trans hb0
      have Hrw := hide hrw
      clear hct hrw hb0 hd9
      clear t0 t1 t2 t3 c0 c1 f0 f1 k0 k1 tl cl fl kl
      replace Ht := hide (Ht.out.keep hb)
      replace Hc := hide (Hc.out.keep hb)
      replace Hf := hide (Hf.out.keep hb)
      replace Hk := hide (Hk.out.keep hb)
      replace HR := hide (HR.out.keep hb)
      replace Hbl := hide (Hbl.out.trans (hb.mono Hbl.out.size))
      clear hb
      have t0 := Ht.out.cell 0
      have t1 := Ht.out.cell 1
      have t2 := Ht.out.cell 2
      have t3 := Ht.out.cell 3
      have tl := Ht.out.lt
      have c0 := Hc.out.cell 0
      have c1 := Hc.out.cell 1
      have cl := Hc.out.lt
      have f0 := Hf.out.cell 0
      have f1 := Hf.out.cell 1
      have fl := Hf.out.lt
      have k0 := Hk.out.cell 0
      have k1 := Hk.out.cell 1
      have kl := Hk.out.lt
      simp only [List.getElem?_cons_zero, List.getElem?_cons_succ] at t0 t1 t2 t3 c0 c1 f0 f1 k0 k1
      refine hK.out _ _ ?_ (fun hHeld2 => ?_)
      · (try dsimp only); exact ⟨f0, c0, c1, t0, t1, t2, t3⟩
      clear hK K hHeld
      try simp only [Act.put, List.setIfInBounds_toArray, List.set_cons_zero, List.set_cons_succ]
      have hHeld := hHeld2; clear hHeld2
      refine wpAnyH_ready (rs := [6]) (by kernel_rfl) (by simp) ?_
      refine AllReadyH.cons rfl (fun K hK => ?_) AllReadyH.nil
      go_simp
      have hct := Satisfies_ct A (some ⟨gw, 0, none⟩) n c V V (encC T N S) (writtenF T N S plan) w12 HR.out Hrw.out (by omega) Hfits.out
      rw [Htr.out] at hct
      with_reducible refine hct.mono ?_
      rintro e w13 ⟨rfl, rfl⟩
      clear hct
      refine hK.out _ _ ?_ (fun hHeld2 => ?_)
      · (try dsimp only); exact ⟨f0, c0, c1, t0, t1, t2, t3⟩
      clear hK K hHeld
      try simp only [Act.put, List.setIfInBounds_toArray, List.set_cons_zero, List.set_cons_succ]
      have hHeld := hHeld2; clear hHeld2
      refine takeM (i := 7) (v := ?_) (some 8) rfl rfl (by kernel_rfl) (by kernel_rfl) (by kernel_rfl) (fun _ _ _ h => h) (Or.inl ⟨by rfl, ?_⟩) (by assumption) ?_
      rotate_left
      · intro w hSw; (try dsimp only at hSw); obtain ⟨s1, s2, s3, s4, s5, s6, s7⟩ := hSw; have hfi := Hfi.out; first | (go_simp; done) | (go_simp; with_reducible rfl)
      try simp only [Act.put, List.setIfInBounds_toArray, List.set_cons_zero, List.set_cons_succ]
      refine wpAnyH_done (by kernel_rfl) ?_ _
      go_wp2_with fail
      go_ret
      exact ⟨ret_bool rfl, Hbl.out⟩
  · have hne : (fc != 0) = true := by simpa using hfc
    go_wp2_with fail
    go_ret
    exact ⟨ret_bool (by simp), Hbl.out⟩
set_option maxRecDepth 100000 in
set_option maxHeartbeats 6400000 in
theorem encodeLawC (a : TA) (T : Tsk) (s : Int) (M : Option Addr) (mn mc : Nat) (m : List Bool) (P : Option Addr) (pn pc : Nat) (plan : List Int) (w : World) (h : TkR w a T) (hs : I64s s) (hm : Rd Enc.bool w M mn mc m) (hp : Rd Enc.int w P pn pc plan) (N S : Nat) (hok : OkT T N) (hsS : s = (S : Int)) (hS : S ≤ 4) (hn : T.ops.length ≤ 20) (hV : sizeN N S T.ops.length ≤ 80) (hcr : cnfR T s = (((sizeN N S T.ops.length : Nat) : Int), encC T N S, 0, 0)) (hlen : mn = sizeN N S a.nO) :
    Calls Try.prog 12 #[.agg #[.int .i64 T.facts, .slice a.I a.nI a.cI, .slice a.G a.nG a.cG, .slice a.O a.nO a.cO], .int .i64 s, .slice M mn mc, .slice P pn pc] w (Gives w (.bool true)) := by
  have HE := fun w h hs => Encode_ct a T s _ w h hs hcr
  have HF := EncFault_ct a T s
  rw [hcr] at HF
  have hfl := enc_fault hok hS hn hV
  have hfits : ∀ l ∈ encC T N S, ∀ x ∈ l, Fits (sizeN N S T.ops.length : Nat) x := fun l hl => code_fits (enc_code hok hl)
  have hdl := fun m => desc_law (m := m) (S := S) hok
  have HZ := fun w => Size_ct a T N S w hok.facts hok.low (by omega)
  have HC := fun A n c w h => CnfFault_ct (sizeN N S T.ops.length : Nat) A n c (encC T N S) w h
  rw [hfl] at HC
  have HPF := fun w h hl => RPlanFault_ct a T P pn pc plan w h hl
  have HQ := fun w h => Describes_ct a T N S M mn mc m w h hok
  have HSO := fun w h hl hr => RSolves_ct a T N P pn pc plan w h hok hl hr
  have HWR := fun w h hl hr => Written_ct a T N S P pn pc plan w h hok hl hr hS
  obtain ⟨I, nI, cI, G, nG, cG, O, nO, cO⟩ := a
  have hwt := fun hr hl hw => written_true (l := plan) (S := S) hok hr hl hw
  have hlO := h.ops.len
  simp only at HE HF HZ HC HPF HQ HSO HWR hlO ⊢
  rw [hlO] at hn hV HE HC hfits
  rw [hlO] at hwt
  have hN := hok.low
  obtain ⟨V, hVe⟩ : ∃ V, V = sizeN N S nO := ⟨_, rfl⟩
  rw [← hVe] at HE HZ HC HWR hV hfits
  have Hwt := hide hwt
  have HVe := hide hVe
  have HlO := hide hlO
  have Hfits := hide hfits
  have Hdl := hide hdl
  replace HZ := hide HZ
  replace HC := hide HC
  replace HPF := hide HPF
  replace HQ := hide HQ
  replace HSO := hide HSO
  replace HWR := hide HWR
  have hpf0 := planFault_ok (T := T) (l := plan)
  rcases hpq : planFault T plan with ⟨fc, fi⟩
  rw [hpq] at hpf0
  have Hpf0 := hide hpf0
  have Hpq := hide hpq
  subst hsS
  have H := hide h
  have Hm := hide hm
  have Hp := hide hp
  have hml := hm.low
  have hpl := hp.low
  have Hpl := hide hp.len
  have Hml := hide hm.len
  replace HE := hide HE
  replace HF := hide HF
  have Hlen := hide hlen
  clear h hm hp hcr hok hfl hfits hdl hlO hVe hpf0 hpq hwt hlen
  have hfi : ∀ (x : Int) (y : Value) (w : World), (Instr.field 29 (.agg #[.int .i64 x, y]) 0).run Try.prog w = .ok (.int .i64 x) w := fun x y w => field_int x y w
  have Hfi := hide hfi
  clear hfi
  have Hbl := hide (Below.refl w.heap.size w)
  go_enter Try.func12, Try.ntmps12
  go_upto_region 1 with (fail)
  obtain ⟨B0, hB0⟩ : ∃ B0, B0 = w.heap.size := ⟨_, rfl⟩
  have HB0 := hide hB0
  clear hB0
  have s_0 : B0 ≤ w.heap.size := Nat.le_trans (Nat.le_of_eq HB0.out) Hbl.out.size
  have hyt := Blk.new (w) 25 [.int .i64 T.facts, .slice I nI cI, .slice G nG cG, .slice O nO cO]
  have hbW : Below (w).heap.size (w) ((w).alloc (.cells #[.int .i64 T.facts, .slice I nI cI, .slice G nG cG, .slice O nO cO] 25)) := (Below.refl _ _).alloc (Nat.le_refl _) _
  obtain ⟨w0, hW⟩ : ∃ W, W = (w).alloc (.cells #[.int .i64 T.facts, .slice I nI cI, .slice G nG cG, .slice O nO cO] 25) := ⟨_, rfl⟩
  rw [← hW] at hyt hbW ⊢
  replace Hbl := hide (Hbl.out.trans (hbW.mono Hbl.out.size))
  have Ht := hide hyt
  clear hW hbW hyt
  generalize w.heap.size = gT at Ht s_0 ⊢
  have t0 := Ht.out.cell 0
  have t1 := Ht.out.cell 1
  have t2 := Ht.out.cell 2
  have t3 := Ht.out.cell 3
  have tl := Ht.out.lt
  simp only [List.getElem?_cons_zero, List.getElem?_cons_succ] at t0 t1 t2 t3
  have a_t : B0 ≤ gT := by omega
  clear s_0
  go_wp2_with fail
  with_reducible refine (horizonExample_ct w0).mono ?_
  rintro e w1 ⟨rfl, hb⟩
  clear t0 t1 t2 t3 tl
  replace Ht := hide (Ht.out.keep hb)
  replace Hbl := hide (Hbl.out.trans (hb.mono Hbl.out.size))
  clear hb
  have t0 := Ht.out.cell 0
  have t1 := Ht.out.cell 1
  have t2 := Ht.out.cell 2
  have t3 := Ht.out.cell 3
  have tl := Ht.out.lt
  simp only [List.getElem?_cons_zero, List.getElem?_cons_succ] at t0 t1 t2 t3
  go_wp2_with fail
  with_reducible refine (HE.out w1 (H.out.keep Hbl.out) hs).mono ?_
  rintro e w2 ⟨hb, A, n, c, rfl, hplain, hrows⟩
  have HR := hide (hrows w2 (Chg.refl _ _))
  clear hrows hplain
  simp only
  unfold fault
  clear t0 t1 t2 t3 tl
  replace Ht := hide (Ht.out.keep hb)
  replace Hbl := hide (Hbl.out.trans (hb.mono Hbl.out.size))
  clear hb
  have t0 := Ht.out.cell 0
  have t1 := Ht.out.cell 1
  have t2 := Ht.out.cell 2
  have t3 := Ht.out.cell 3
  have tl := Ht.out.lt
  simp only [List.getElem?_cons_zero, List.getElem?_cons_succ] at t0 t1 t2 t3
  go_upto_region 4 with (fail)
  have s_t : gT < w2.heap.size := tl
  have s_0 : B0 ≤ w2.heap.size := Nat.le_trans (Nat.le_of_eq HB0.out) Hbl.out.size
  have hyc := Blk.new (w2) 51 [.int .i64 V, .slice A n c]
  have hyf := Blk.new ((w2).alloc (.cells #[.int .i64 V, .slice A n c] 51)) 29 [.int .i64 0, .int .i64 0]
  replace hyc := hyc.alloc (.cells #[.int .i64 0, .int .i64 0] 29)
  have hbW := below_two w2 (.cells #[.int .i64 V, .slice A n c] 51) (.cells #[.int .i64 0, .int .i64 0] 29)
  simp only [World.size_alloc] at hyf
  obtain ⟨w3, hW⟩ : ∃ W, W = ((w2).alloc (.cells #[.int .i64 V, .slice A n c] 51)).alloc (.cells #[.int .i64 0, .int .i64 0] 29) := ⟨_, rfl⟩
  rw [← hW] at hyc hyf hbW ⊢
  replace Ht := hide (Ht.out.keep hbW)
  replace HR := hide (HR.out.keep hbW)
  replace Hbl := hide (Hbl.out.trans (hbW.mono Hbl.out.size))
  have Hc := hide hyc
  have Hf := hide hyf
  clear hW hbW hyc hyf
  generalize w2.heap.size = gc at Hc Hf s_t s_0 ⊢
  have t0 := Ht.out.cell 0
  have t1 := Ht.out.cell 1
  have t2 := Ht.out.cell 2
  have t3 := Ht.out.cell 3
  have tl := Ht.out.lt
  have c0 := Hc.out.cell 0
  have c1 := Hc.out.cell 1
  have cl := Hc.out.lt
  have f0 := Hf.out.cell 0
  have f1 := Hf.out.cell 1
  have fl := Hf.out.lt
  simp only [List.getElem?_cons_zero, List.getElem?_cons_succ] at t0 t1 t2 t3 c0 c1 f0 f1
  clear s_t
  have a_c : B0 ≤ gc := by omega
  have a_f : B0 ≤ gc + 1 := by omega
  clear s_0
  have n_c_f : ¬ gc = gc + 1 := by omega
  have n_f_c : ¬ gc + 1 = gc := by omega
  go_wp2_with fail
  with_reducible refine (HF.out w3 (H.out.keep Hbl.out) hs).mono ?_
  rintro e w4 ⟨rfl, hb⟩
  clear t0 t1 t2 t3 c0 c1 f0 f1 tl cl fl
  replace Ht := hide (Ht.out.keep hb)
  replace Hc := hide (Hc.out.keep hb)
  replace Hf := hide (Hf.out.keep hb)
  replace HR := hide (HR.out.keep hb)
  replace Hbl := hide (Hbl.out.trans (hb.mono Hbl.out.size))
  clear hb
  unfold fault
  simp only
  have t0 := Ht.out.cell 0
  have t1 := Ht.out.cell 1
  have t2 := Ht.out.cell 2
  have t3 := Ht.out.cell 3
  have tl := Ht.out.lt
  have c0 := Hc.out.cell 0
  have c1 := Hc.out.cell 1
  have cl := Hc.out.lt
  have f0 := Hf.out.cell 0
  have f1 := Hf.out.cell 1
  have fl := Hf.out.lt
  simp only [List.getElem?_cons_zero, List.getElem?_cons_succ] at t0 t1 t2 t3 c0 c1 f0 f1
  go_upto_region 5 with (fail)
  have s_t : gT < w4.heap.size := tl
  have s_c : gc < w4.heap.size := cl
  have s_f : gc + 1 < w4.heap.size := fl
  have s_0 : B0 ≤ w4.heap.size := Nat.le_trans (Nat.le_of_eq HB0.out) Hbl.out.size
  have hyk := Blk.new (w4) 29 [.int .i64 0, .int .i64 0]
  have hbW : Below (w4).heap.size (w4) ((w4).alloc (.cells #[.int .i64 0, .int .i64 0] 29)) := (Below.refl _ _).alloc (Nat.le_refl _) _
  obtain ⟨w5, hW⟩ : ∃ W, W = (w4).alloc (.cells #[.int .i64 0, .int .i64 0] 29) := ⟨_, rfl⟩
  rw [← hW] at hyk hbW ⊢
  replace Ht := hide (Ht.out.keep hbW)
  replace Hc := hide (Hc.out.keep hbW)
  replace Hf := hide (Hf.out.keep hbW)
  replace HR := hide (HR.out.keep hbW)
  replace Hbl := hide (Hbl.out.trans (hbW.mono Hbl.out.size))
  have Hk := hide hyk
  clear hW hbW hyk
  generalize w4.heap.size = gk at Hk s_t s_c s_f s_0 ⊢
  have t0 := Ht.out.cell 0
  have t1 := Ht.out.cell 1
  have t2 := Ht.out.cell 2
  have t3 := Ht.out.cell 3
  have tl := Ht.out.lt
  have c0 := Hc.out.cell 0
  have c1 := Hc.out.cell 1
  have cl := Hc.out.lt
  have f0 := Hf.out.cell 0
  have f1 := Hf.out.cell 1
  have fl := Hf.out.lt
  have k0 := Hk.out.cell 0
  have k1 := Hk.out.cell 1
  have kl := Hk.out.lt
  simp only [List.getElem?_cons_zero, List.getElem?_cons_succ] at t0 t1 t2 t3 c0 c1 f0 f1 k0 k1
  clear s_t
  clear s_c
  clear s_f
  have a_k : B0 ≤ gk := by omega
  clear s_0
  go_upto_region 7 with (fail)
  refine wp_region_held_drew (S := (fun w' => w'.cell? ⟨gc + 1, 0, none⟩ = some (.int .i64 0) ∧ w'.cell? ⟨gc, 0, none⟩ = some (.int .i64 V) ∧ w'.cell? ⟨gc, 1, none⟩ = some (.slice A n c) ∧ w'.cell? ⟨gT, 0, none⟩ = some (.int .i64 T.facts) ∧ w'.cell? ⟨gT, 1, none⟩ = some (.slice I nI cI) ∧ w'.cell? ⟨gT, 2, none⟩ = some (.slice G nG cG) ∧ w'.cell? ⟨gT, 3, none⟩ = some (.slice O nO cO))) (by kernel_rfl) ?_ (fun hHeld => ?_)
  · (try dsimp only); exact ⟨f0, c0, c1, t0, t1, t2, t3⟩
  refine takeM (i := 0) (v := ?_) (some 40) rfl rfl (by kernel_rfl) (by kernel_rfl) (by kernel_rfl) (fun _ _ _ h => h) (Or.inl ⟨by rfl, ?_⟩) (by assumption) ?_
  rotate_left
  · intro w hSw; (try dsimp only at hSw); obtain ⟨s1, s2, s3, s4, s5, s6, s7⟩ := hSw; have hfi := Hfi.out; first | (go_simp; done) | (go_simp; with_reducible rfl)
  try simp only [Act.put, List.setIfInBounds_toArray, List.set_cons_zero, List.set_cons_succ]
  refine takeM (i := 1) (v := ?_) (some 41) rfl rfl (by kernel_rfl) (by kernel_rfl) (by kernel_rfl) (fun _ _ _ h => h) (Or.inl ⟨by rfl, ?_⟩) (by assumption) ?_
  rotate_left
  · intro w hSw; (try dsimp only at hSw); obtain ⟨s1, s2, s3, s4, s5, s6, s7⟩ := hSw; have hfi := Hfi.out; first | (go_simp; done) | (go_simp; with_reducible rfl)
  try simp only [Act.put, List.setIfInBounds_toArray, List.set_cons_zero, List.set_cons_succ]
  refine takeM (i := 2) (v := ?_) (some 42) rfl rfl (by kernel_rfl) (by kernel_rfl) (by kernel_rfl) (fun _ _ _ h => h) (Or.inl ⟨by rfl, ?_⟩) (by assumption) ?_
  rotate_left
  · intro w hSw; (try dsimp only at hSw); obtain ⟨s1, s2, s3, s4, s5, s6, s7⟩ := hSw; have hfi := Hfi.out; first | (go_simp; done) | (go_simp; with_reducible rfl)
  try simp only [Act.put, List.setIfInBounds_toArray, List.set_cons_zero, List.set_cons_succ]
  refine takeM (i := 3) (v := ?_) (some 43) rfl rfl (by kernel_rfl) (by kernel_rfl) (by kernel_rfl) (fun _ _ _ h => h) (Or.inl ⟨by rfl, ?_⟩) (by assumption) ?_
  rotate_left
  · intro w hSw; (try dsimp only at hSw); obtain ⟨s1, s2, s3, s4, s5, s6, s7⟩ := hSw; have hfi := Hfi.out; first | (go_simp; done) | (go_simp; with_reducible rfl)
  try simp only [Act.put, List.setIfInBounds_toArray, List.set_cons_zero, List.set_cons_succ]
  refine takeM (i := 4) (v := ?_) (some 44) rfl rfl (by kernel_rfl) (by kernel_rfl) (by kernel_rfl) (fun _ _ _ h => h) (Or.inl ⟨by rfl, ?_⟩) (by assumption) ?_
  rotate_left
  · intro w hSw; (try dsimp only at hSw); obtain ⟨s1, s2, s3, s4, s5, s6, s7⟩ := hSw; have hfi := Hfi.out; first | (go_simp; done) | (go_simp; with_reducible rfl)
  try simp only [Act.put, List.setIfInBounds_toArray, List.set_cons_zero, List.set_cons_succ]
  refine takeM (i := 5) (v := ?_) (some 45) rfl rfl (by kernel_rfl) (by kernel_rfl) (by kernel_rfl) (fun _ _ _ h => h) (Or.inl ⟨by rfl, ?_⟩) (by assumption) ?_
  rotate_left
  · intro w hSw; (try dsimp only at hSw); obtain ⟨s1, s2, s3, s4, s5, s6, s7⟩ := hSw; have hfi := Hfi.out; first | (go_simp; done) | (go_simp; with_reducible rfl)
  try simp only [Act.put, List.setIfInBounds_toArray, List.set_cons_zero, List.set_cons_succ]
  refine takeM (i := 6) (v := ?_) (some 46) rfl rfl (by kernel_rfl) (by kernel_rfl) (by kernel_rfl) (fun _ _ _ h => h) (Or.inl ⟨by rfl, ?_⟩) (by assumption) ?_
  rotate_left
  · intro w hSw; (try dsimp only at hSw); obtain ⟨s1, s2, s3, s4, s5, s6, s7⟩ := hSw; have hfi := Hfi.out; first | (go_simp; done) | (go_simp; with_reducible rfl)
  try simp only [Act.put, List.setIfInBounds_toArray, List.set_cons_zero, List.set_cons_succ]
  refine takeM (i := 7) (v := ?_) (some 47) rfl rfl (by kernel_rfl) (by kernel_rfl) (by kernel_rfl) (fun _ _ _ h => h) (Or.inl ⟨by rfl, ?_⟩) (by assumption) ?_
  rotate_left
  · intro w hSw; (try dsimp only at hSw); obtain ⟨s1, s2, s3, s4, s5, s6, s7⟩ := hSw; have hfi := Hfi.out; first | (go_simp; done) | (go_simp; with_reducible rfl)
  try simp only [Act.put, List.setIfInBounds_toArray, List.set_cons_zero, List.set_cons_succ]
  refine wpAnyH_ready (rs := [8]) (by kernel_rfl) (by simp) ?_
  refine AllReadyH.cons rfl (fun K hK => ?_) AllReadyH.nil
  go_simp
  with_reducible refine (HZ.out _ (by omega)).mono ?_
  rintro e w6 ⟨rfl, hb0⟩
  have hb : Below w5.heap.size w5 w6 := (Below.refl w5.heap.size w5).drew.trans hb0
  clear hb0
  clear t0 t1 t2 t3 c0 c1 f0 f1 k0 k1 tl cl fl kl
  replace Ht := hide (Ht.out.keep hb)
  replace Hc := hide (Hc.out.keep hb)
  replace Hf := hide (Hf.out.keep hb)
  replace Hk := hide (Hk.out.keep hb)
  replace HR := hide (HR.out.keep hb)
  replace Hbl := hide (Hbl.out.trans (hb.mono Hbl.out.size))
  clear hb
  have t0 := Ht.out.cell 0
  have t1 := Ht.out.cell 1
  have t2 := Ht.out.cell 2
  have t3 := Ht.out.cell 3
  have tl := Ht.out.lt
  have c0 := Hc.out.cell 0
  have c1 := Hc.out.cell 1
  have cl := Hc.out.lt
  have f0 := Hf.out.cell 0
  have f1 := Hf.out.cell 1
  have fl := Hf.out.lt
  have k0 := Hk.out.cell 0
  have k1 := Hk.out.cell 1
  have kl := Hk.out.lt
  simp only [List.getElem?_cons_zero, List.getElem?_cons_succ] at t0 t1 t2 t3 c0 c1 f0 f1 k0 k1
  refine hK.out _ _ ?_ (fun hHeld2 => ?_)
  · (try dsimp only); exact ⟨f0, c0, c1, t0, t1, t2, t3⟩
  clear hK K hHeld
  try simp only [Act.put, List.setIfInBounds_toArray, List.set_cons_zero, List.set_cons_succ]
  have hHeld := hHeld2; clear hHeld2
  refine takeM (i := 9) (v := ?_) (some 49) rfl rfl (by kernel_rfl) (by kernel_rfl) (by kernel_rfl) (fun _ _ _ h => h) (Or.inl ⟨by rfl, ?_⟩) (by assumption) ?_
  rotate_left
  · intro w hSw; (try dsimp only at hSw); obtain ⟨s1, s2, s3, s4, s5, s6, s7⟩ := hSw; have hfi := Hfi.out; first | (go_simp; done) | (go_simp; with_reducible rfl)
  try simp only [Act.put, List.setIfInBounds_toArray, List.set_cons_zero, List.set_cons_succ]
  refine takeM (i := 10) (v := ?_) (some 50) rfl rfl (by kernel_rfl) (by kernel_rfl) (by kernel_rfl) (fun _ _ _ h => h) (Or.inl ⟨by rfl, ?_⟩) (by assumption) ?_
  rotate_left
  · intro w hSw; (try dsimp only at hSw); obtain ⟨s1, s2, s3, s4, s5, s6, s7⟩ := hSw; have hfi := Hfi.out; first | (go_simp; done) | (go_simp; with_reducible rfl)
  try simp only [Act.put, List.setIfInBounds_toArray, List.set_cons_zero, List.set_cons_succ]
  refine takeM (i := 11) (v := ?_) (some 51) rfl rfl (by kernel_rfl) (by kernel_rfl) (by kernel_rfl) (fun _ _ _ h => h) (Or.inl ⟨by rfl, ?_⟩) (by assumption) ?_
  rotate_left
  · intro w hSw; (try dsimp only at hSw); obtain ⟨s1, s2, s3, s4, s5, s6, s7⟩ := hSw; have hfi := Hfi.out; first | (go_simp; done) | (go_simp; with_reducible rfl)
  try simp only [Act.put, List.setIfInBounds_toArray, List.set_cons_zero, List.set_cons_succ]
  refine takeM (i := 12) (v := ?_) (some 52) rfl rfl (by kernel_rfl) (by kernel_rfl) (by kernel_rfl) (fun _ _ _ h => h) (Or.inl ⟨by rfl, ?_⟩) (by assumption) ?_
  rotate_left
  · intro w hSw; (try dsimp only at hSw); obtain ⟨s1, s2, s3, s4, s5, s6, s7⟩ := hSw; have hfi := Hfi.out; first | (go_simp; done) | (go_simp; with_reducible rfl)
  try simp only [Act.put, List.setIfInBounds_toArray, List.set_cons_zero, List.set_cons_succ]
  refine wpAnyH_ready (rs := [13]) (by kernel_rfl) (by simp) ?_
  refine AllReadyH.cons rfl (fun K hK => ?_) AllReadyH.nil
  go_simp
  with_reducible refine (HC.out A n c w6 HR.out).mono ?_
  rintro e w7 ⟨rfl, hb⟩
  unfold faultV
  simp only
  clear t0 t1 t2 t3 c0 c1 f0 f1 k0 k1 tl cl fl kl
  replace Ht := hide (Ht.out.keep hb)
  replace Hc := hide (Hc.out.keep hb)
  replace Hf := hide (Hf.out.keep hb)
  replace Hk := hide (Hk.out.keep hb)
  replace HR := hide (HR.out.keep hb)
  replace Hbl := hide (Hbl.out.trans (hb.mono Hbl.out.size))
  clear hb
  have t0 := Ht.out.cell 0
  have t1 := Ht.out.cell 1
  have t2 := Ht.out.cell 2
  have t3 := Ht.out.cell 3
  have tl := Ht.out.lt
  have c0 := Hc.out.cell 0
  have c1 := Hc.out.cell 1
  have cl := Hc.out.lt
  have f0 := Hf.out.cell 0
  have f1 := Hf.out.cell 1
  have fl := Hf.out.lt
  have k0 := Hk.out.cell 0
  have k1 := Hk.out.cell 1
  have kl := Hk.out.lt
  simp only [List.getElem?_cons_zero, List.getElem?_cons_succ] at t0 t1 t2 t3 c0 c1 f0 f1 k0 k1
  refine hK.out _ _ ?_ (fun hHeld2 => ?_)
  · (try dsimp only); exact ⟨f0, c0, c1, t0, t1, t2, t3⟩
  clear hK K hHeld
  try simp only [Act.put, List.setIfInBounds_toArray, List.set_cons_zero, List.set_cons_succ]
  have hHeld := hHeld2; clear hHeld2
  refine takeM (i := 14) (v := ?_) (some 54) rfl rfl (by kernel_rfl) (by kernel_rfl) (by kernel_rfl) (fun _ _ _ h => h) (Or.inl ⟨by rfl, ?_⟩) (by assumption) ?_
  rotate_left
  · intro w hSw; (try dsimp only at hSw); obtain ⟨s1, s2, s3, s4, s5, s6, s7⟩ := hSw; have hfi := Hfi.out; first | (go_simp; done) | (go_simp; with_reducible rfl)
  try simp only [Act.put, List.setIfInBounds_toArray, List.set_cons_zero, List.set_cons_succ]
  refine takeM (i := 15) (v := ?_) (some 55) rfl rfl (by kernel_rfl) (by kernel_rfl) (by kernel_rfl) (fun _ _ _ h => h) (Or.inl ⟨by rfl, ?_⟩) (by assumption) ?_
  rotate_left
  · intro w hSw; (try dsimp only at hSw); obtain ⟨s1, s2, s3, s4, s5, s6, s7⟩ := hSw; have hfi := Hfi.out; first | (go_simp; done) | (go_simp; with_reducible rfl)
  try simp only [Act.put, List.setIfInBounds_toArray, List.set_cons_zero, List.set_cons_succ]
  refine takeM (i := 16) (v := ?_) (some 56) rfl rfl (by kernel_rfl) (by kernel_rfl) (by kernel_rfl) (fun _ _ _ h => h) (Or.inl ⟨by rfl, ?_⟩) (by assumption) ?_
  rotate_left
  · intro w hSw; (try dsimp only at hSw); obtain ⟨s1, s2, s3, s4, s5, s6, s7⟩ := hSw; have hfi := Hfi.out; first | (go_simp; done) | (go_simp; with_reducible rfl)
  try simp only [Act.put, List.setIfInBounds_toArray, List.set_cons_zero, List.set_cons_succ]
  refine wpAnyH_done (by kernel_rfl) ?_ _
  go_upto_region 9 with (fail)
  have hlen := Hlen.out
  clear Hlen
  obtain rfl : V = mn := by rw [HVe.out]; exact hlen.symm
  have hdd : trueAll (encC T N S) m = descR T N S m := Hdl.out m
  obtain ⟨bd, hbd⟩ : ∃ z, z = descR T N S m := ⟨_, rfl⟩
  have hc1 := fun W h hm => Satisfies_ct A M n c V mc (encC T N S) m W h hm (by omega) Hfits.out
  have hc2 := fun W h hm => HQ.out W h hm hS (by omega) hlen
  rw [hdd, ← hbd] at hc1
  rw [← hbd] at hc2
  have Hc1 := hide hc1
  have Hc2 := hide hc2
  clear hc1 hc2 hdd hbd hlen
  refine wp_region_held_drew (S := (fun w' => w'.cell? ⟨gc + 1, 0, none⟩ = some (.int .i64 0) ∧ w'.cell? ⟨gc, 0, none⟩ = some (.int .i64 V) ∧ w'.cell? ⟨gc, 1, none⟩ = some (.slice A n c) ∧ w'.cell? ⟨gT, 0, none⟩ = some (.int .i64 T.facts) ∧ w'.cell? ⟨gT, 1, none⟩ = some (.slice I nI cI) ∧ w'.cell? ⟨gT, 2, none⟩ = some (.slice G nG cG) ∧ w'.cell? ⟨gT, 3, none⟩ = some (.slice O nO cO))) (by kernel_rfl) ?_ (fun hHeld => ?_)
  · (try dsimp only); exact ⟨f0, c0, c1, t0, t1, t2, t3⟩
  refine takeM (i := 0) (v := ?_) (some 57) rfl rfl (by kernel_rfl) (by kernel_rfl) (by kernel_rfl) (fun _ _ _ h => h) (Or.inl ⟨by rfl, ?_⟩) (by assumption) ?_
  rotate_left
  · intro w hSw; (try dsimp only at hSw); obtain ⟨s1, s2, s3, s4, s5, s6, s7⟩ := hSw; have hfi := Hfi.out; first | (go_simp; done) | (go_simp; with_reducible rfl)
  try simp only [Act.put, List.setIfInBounds_toArray, List.set_cons_zero, List.set_cons_succ]
  refine takeM (i := 1) (v := ?_) (some 58) rfl rfl (by kernel_rfl) (by kernel_rfl) (by kernel_rfl) (fun _ _ _ h => h) (Or.inl ⟨by rfl, ?_⟩) (by assumption) ?_
  rotate_left
  · intro w hSw; (try dsimp only at hSw); obtain ⟨s1, s2, s3, s4, s5, s6, s7⟩ := hSw; have hfi := Hfi.out; first | (go_simp; done) | (go_simp; with_reducible rfl)
  try simp only [Act.put, List.setIfInBounds_toArray, List.set_cons_zero, List.set_cons_succ]
  refine takeM (i := 2) (v := ?_) (some 59) rfl rfl (by kernel_rfl) (by kernel_rfl) (by kernel_rfl) (fun _ _ _ h => h) (Or.inl ⟨by rfl, ?_⟩) (by assumption) ?_
  rotate_left
  · intro w hSw; (try dsimp only at hSw); obtain ⟨s1, s2, s3, s4, s5, s6, s7⟩ := hSw; have hfi := Hfi.out; first | (go_simp; done) | (go_simp; with_reducible rfl)
  try simp only [Act.put, List.setIfInBounds_toArray, List.set_cons_zero, List.set_cons_succ]
  refine takeM (i := 3) (v := ?_) (some 60) rfl rfl (by kernel_rfl) (by kernel_rfl) (by kernel_rfl) (fun _ _ _ h => h) (Or.inl ⟨by rfl, ?_⟩) (by assumption) ?_
  rotate_left
  · intro w hSw; (try dsimp only at hSw); obtain ⟨s1, s2, s3, s4, s5, s6, s7⟩ := hSw; have hfi := Hfi.out; first | (go_simp; done) | (go_simp; with_reducible rfl)
  try simp only [Act.put, List.setIfInBounds_toArray, List.set_cons_zero, List.set_cons_succ]
  refine takeM (i := 4) (v := .bool true) (some 61) rfl rfl (by kernel_rfl) (by kernel_rfl) (by kernel_rfl) (fun _ _ _ h => h) (Or.inl ⟨by rfl, ?_⟩) (by assumption) ?_
  · intro w hSw; (try dsimp only at hSw); obtain ⟨s1, s2, s3, s4, s5, s6, s7⟩ := hSw; have hfi := Hfi.out; first | (go_simp; done) | (go_simp; with_reducible rfl)
  try simp only [Act.put, List.setIfInBounds_toArray, List.set_cons_zero, List.set_cons_succ]
  refine takeM (i := 5) (v := .bool true) (some 62) rfl rfl (by kernel_rfl) (by kernel_rfl) (by kernel_rfl) (fun _ _ _ h => h) (Or.inl ⟨by rfl, ?_⟩) (by assumption) ?_
  · intro w hSw; (try dsimp only at hSw); obtain ⟨s1, s2, s3, s4, s5, s6, s7⟩ := hSw; have hfi := Hfi.out; first | (go_simp; done) | (go_simp; with_reducible rfl)
  try simp only [Act.put, List.setIfInBounds_toArray, List.set_cons_zero, List.set_cons_succ]
  refine takeM (i := 6) (v := ?_) (some 63) rfl rfl (by kernel_rfl) (by kernel_rfl) (by kernel_rfl) (fun _ _ _ h => h) (Or.inl ⟨by rfl, ?_⟩) (by assumption) ?_
  rotate_left
  · intro w hSw; (try dsimp only at hSw); obtain ⟨s1, s2, s3, s4, s5, s6, s7⟩ := hSw; have hfi := Hfi.out; first | (go_simp; done) | (go_simp; with_reducible rfl)
  try simp only [Act.put, List.setIfInBounds_toArray, List.set_cons_zero, List.set_cons_succ]
  refine takeM (i := 7) (v := ?_) (some 64) rfl rfl (by kernel_rfl) (by kernel_rfl) (by kernel_rfl) (fun _ _ _ h => h) (Or.inl ⟨by rfl, ?_⟩) (by assumption) ?_
  rotate_left
  · intro w hSw; (try dsimp only at hSw); obtain ⟨s1, s2, s3, s4, s5, s6, s7⟩ := hSw; have hfi := Hfi.out; first | (go_simp; done) | (go_simp; with_reducible rfl)
  try simp only [Act.put, List.setIfInBounds_toArray, List.set_cons_zero, List.set_cons_succ]
  refine takeM (i := 8) (v := ?_) (some 65) rfl rfl (by kernel_rfl) (by kernel_rfl) (by kernel_rfl) (fun _ _ _ h => h) (Or.inl ⟨by rfl, ?_⟩) (by assumption) ?_
  rotate_left
  · intro w hSw; (try dsimp only at hSw); obtain ⟨s1, s2, s3, s4, s5, s6, s7⟩ := hSw; have hfi := Hfi.out; first | (go_simp; done) | (go_simp; with_reducible rfl)
  try simp only [Act.put, List.setIfInBounds_toArray, List.set_cons_zero, List.set_cons_succ]
  refine takeM (i := 10) (v := ?_) (some 67) rfl rfl (by kernel_rfl) (by kernel_rfl) (by kernel_rfl) (fun _ _ _ h => h) (Or.inl ⟨by rfl, ?_⟩) (by assumption) ?_
  rotate_left
  · intro w hSw; (try dsimp only at hSw); obtain ⟨s1, s2, s3, s4, s5, s6, s7⟩ := hSw; have hfi := Hfi.out; first | (go_simp; done) | (go_simp; with_reducible rfl)
  try simp only [Act.put, List.setIfInBounds_toArray, List.set_cons_zero, List.set_cons_succ]
  refine takeM (i := 11) (v := ?_) (some 68) rfl rfl (by kernel_rfl) (by kernel_rfl) (by kernel_rfl) (fun _ _ _ h => h) (Or.inl ⟨by rfl, ?_⟩) (by assumption) ?_
  rotate_left
  · intro w hSw; (try dsimp only at hSw); obtain ⟨s1, s2, s3, s4, s5, s6, s7⟩ := hSw; have hfi := Hfi.out; first | (go_simp; done) | (go_simp; with_reducible rfl)
  try simp only [Act.put, List.setIfInBounds_toArray, List.set_cons_zero, List.set_cons_succ]
  refine takeM (i := 12) (v := ?_) (some 69) rfl rfl (by kernel_rfl) (by kernel_rfl) (by kernel_rfl) (fun _ _ _ h => h) (Or.inl ⟨by rfl, ?_⟩) (by assumption) ?_
  rotate_left
  · intro w hSw; (try dsimp only at hSw); obtain ⟨s1, s2, s3, s4, s5, s6, s7⟩ := hSw; have hfi := Hfi.out; first | (go_simp; done) | (go_simp; with_reducible rfl)
  try simp only [Act.put, List.setIfInBounds_toArray, List.set_cons_zero, List.set_cons_succ]
  refine wpAnyH_ready (rs := [9]) (by kernel_rfl) (by simp) ?_
  refine AllReadyH.cons rfl (fun K hK => ?_) AllReadyH.nil
  go_simp
  with_reducible refine (Hc1.out _ (HR.out.keep (Below.refl _ _).drew) (Hm.out.keep (Hbl.out.trans ((Below.refl _ _).drew)))).mono ?_
  rintro e w8 ⟨rfl, rfl⟩
  have hb : Below w7.heap.size w7 w7.drew := (Below.refl w7.heap.size w7).drew
  obtain ⟨w8, hW⟩ : ∃ W, W = w7.drew := ⟨_, rfl⟩
  rw [← hW] at hb ⊢
  clear hW
  clear t0 t1 t2 t3 c0 c1 f0 f1 k0 k1 tl cl fl kl
  replace Ht := hide (Ht.out.keep hb)
  replace Hc := hide (Hc.out.keep hb)
  replace Hf := hide (Hf.out.keep hb)
  replace Hk := hide (Hk.out.keep hb)
  replace HR := hide (HR.out.keep hb)
  replace Hbl := hide (Hbl.out.trans (hb.mono Hbl.out.size))
  clear hb
  have t0 := Ht.out.cell 0
  have t1 := Ht.out.cell 1
  have t2 := Ht.out.cell 2
  have t3 := Ht.out.cell 3
  have tl := Ht.out.lt
  have c0 := Hc.out.cell 0
  have c1 := Hc.out.cell 1
  have cl := Hc.out.lt
  have f0 := Hf.out.cell 0
  have f1 := Hf.out.cell 1
  have fl := Hf.out.lt
  have k0 := Hk.out.cell 0
  have k1 := Hk.out.cell 1
  have kl := Hk.out.lt
  simp only [List.getElem?_cons_zero, List.getElem?_cons_succ] at t0 t1 t2 t3 c0 c1 f0 f1 k0 k1
  refine hK.out _ _ ?_ (fun hHeld2 => ?_)
  · (try dsimp only); exact ⟨f0, c0, c1, t0, t1, t2, t3⟩
  clear hK K hHeld
  try simp only [Act.put, List.setIfInBounds_toArray, List.set_cons_zero, List.set_cons_succ]
  have hHeld := hHeld2; clear hHeld2
  refine wpAnyH_ready (rs := [13]) (by kernel_rfl) (by simp) ?_
  refine AllReadyH.cons rfl (fun K hK => ?_) AllReadyH.nil
  go_simp
  with_reducible refine (Hc2.out _ (H.out.keep Hbl.out) (Hm.out.keep Hbl.out)).mono ?_
  rintro e w9 ⟨rfl, hb⟩
  clear t0 t1 t2 t3 c0 c1 f0 f1 k0 k1 tl cl fl kl
  replace Ht := hide (Ht.out.keep hb)
  replace Hc := hide (Hc.out.keep hb)
  replace Hf := hide (Hf.out.keep hb)
  replace Hk := hide (Hk.out.keep hb)
  replace HR := hide (HR.out.keep hb)
  replace Hbl := hide (Hbl.out.trans (hb.mono Hbl.out.size))
  clear hb
  have t0 := Ht.out.cell 0
  have t1 := Ht.out.cell 1
  have t2 := Ht.out.cell 2
  have t3 := Ht.out.cell 3
  have tl := Ht.out.lt
  have c0 := Hc.out.cell 0
  have c1 := Hc.out.cell 1
  have cl := Hc.out.lt
  have f0 := Hf.out.cell 0
  have f1 := Hf.out.cell 1
  have fl := Hf.out.lt
  have k0 := Hk.out.cell 0
  have k1 := Hk.out.cell 1
  have kl := Hk.out.lt
  simp only [List.getElem?_cons_zero, List.getElem?_cons_succ] at t0 t1 t2 t3 c0 c1 f0 f1 k0 k1
  refine hK.out _ _ ?_ (fun hHeld2 => ?_)
  · (try dsimp only); exact ⟨f0, c0, c1, t0, t1, t2, t3⟩
  clear hK K hHeld
  try simp only [Act.put, List.setIfInBounds_toArray, List.set_cons_zero, List.set_cons_succ]
  have hHeld := hHeld2; clear hHeld2
  refine takeM (i := 14) (v := ?_) (some 71) rfl rfl (by kernel_rfl) (by kernel_rfl) (by kernel_rfl) (fun _ _ _ h => h) (Or.inl ⟨by rfl, ?_⟩) (by assumption) ?_
  rotate_left
  · intro w hSw; (try dsimp only at hSw); obtain ⟨s1, s2, s3, s4, s5, s6, s7⟩ := hSw; have hfi := Hfi.out; first | (go_simp; done) | (go_simp; with_reducible rfl)
  try simp only [Act.put, List.setIfInBounds_toArray, List.set_cons_zero, List.set_cons_succ]
  refine takeM (i := 15) (v := ?_) (some 72) rfl rfl (by kernel_rfl) (by kernel_rfl) (by kernel_rfl) (fun _ _ _ h => h) (Or.inl ⟨by rfl, ?_⟩) (by assumption) ?_
  rotate_left
  · intro w hSw; (try dsimp only at hSw); obtain ⟨s1, s2, s3, s4, s5, s6, s7⟩ := hSw; have hfi := Hfi.out; first | (go_simp; done) | (go_simp; with_reducible rfl)
  try simp only [Act.put, List.setIfInBounds_toArray, List.set_cons_zero, List.set_cons_succ]
  refine wpAnyH_done (by kernel_rfl) ?_ _
  have hfi := Hfi.out
  have hct := HPF.out w9 (H.out.keep Hbl.out) (Hp.out.keep Hbl.out)
  rw [Hpq.out] at hct
  go_wp2_with fail
  with_reducible refine (hct).mono ?_
  rintro e w10 ⟨rfl, hb⟩
  clear t0 t1 t2 t3 c0 c1 f0 f1 k0 k1 tl cl fl kl
  replace Ht := hide (Ht.out.keep hb)
  replace Hc := hide (Hc.out.keep hb)
  replace Hf := hide (Hf.out.keep hb)
  replace Hk := hide (Hk.out.keep hb)
  replace HR := hide (HR.out.keep hb)
  replace Hbl := hide (Hbl.out.trans (hb.mono Hbl.out.size))
  clear hb
  clear hct
  unfold fault
  simp only
  have t0 := Ht.out.cell 0
  have t1 := Ht.out.cell 1
  have t2 := Ht.out.cell 2
  have t3 := Ht.out.cell 3
  have tl := Ht.out.lt
  have c0 := Hc.out.cell 0
  have c1 := Hc.out.cell 1
  have cl := Hc.out.lt
  have f0 := Hf.out.cell 0
  have f1 := Hf.out.cell 1
  have fl := Hf.out.lt
  have k0 := Hk.out.cell 0
  have k1 := Hk.out.cell 1
  have kl := Hk.out.lt
  simp only [List.getElem?_cons_zero, List.getElem?_cons_succ] at t0 t1 t2 t3 c0 c1 f0 f1 k0 k1
  by_cases hfc : fc = 0
  · subst hfc
    obtain ⟨_, _, _, hrp⟩ := Hpf0.out rfl
    have Hrp := hide hrp
    clear hrp
    by_cases hgt : S < pn
    · have hgI : (S : Int) < (pn : Int) := by omega
      go_wp2_with fail
      go_ret
      exact ⟨ret_bool (by simp), Hbl.out⟩
    have hgI : ¬ (S : Int) < (pn : Int) := by omega
    have hct := HSO.out w10 (H.out.keep Hbl.out) (Hp.out.keep Hbl.out) Hrp.out
    obtain ⟨bw, hbw⟩ : ∃ z, z = worksF T T.init plan := ⟨_, rfl⟩
    rw [← hbw] at hct
    have Hbw := hide hbw
    clear hbw
    go_wp2_with fail
    with_reducible refine (hct).mono ?_
    rintro e w11 ⟨rfl, hb⟩
    clear t0 t1 t2 t3 c0 c1 f0 f1 k0 k1 tl cl fl kl
    replace Ht := hide (Ht.out.keep hb)
    replace Hc := hide (Hc.out.keep hb)
    replace Hf := hide (Hf.out.keep hb)
    replace Hk := hide (Hk.out.keep hb)
    replace HR := hide (HR.out.keep hb)
    replace Hbl := hide (Hbl.out.trans (hb.mono Hbl.out.size))
    clear hb
    clear hct
    have t0 := Ht.out.cell 0
    have t1 := Ht.out.cell 1
    have t2 := Ht.out.cell 2
    have t3 := Ht.out.cell 3
    have tl := Ht.out.lt
    have c0 := Hc.out.cell 0
    have c1 := Hc.out.cell 1
    have cl := Hc.out.lt
    have f0 := Hf.out.cell 0
    have f1 := Hf.out.cell 1
    have fl := Hf.out.lt
    have k0 := Hk.out.cell 0
    have k1 := Hk.out.cell 1
    have kl := Hk.out.lt
    simp only [List.getElem?_cons_zero, List.getElem?_cons_succ] at t0 t1 t2 t3 c0 c1 f0 f1 k0 k1
    cases bw with
    | false =>
      go_wp2_with fail
      go_ret
      exact ⟨ret_bool (by simp), Hbl.out⟩
    | true =>
      have hlen9 : plan.length ≤ S := by rw [Hpl.out]; omega
      have htr := Hwt.out (by have h9 := Hrp.out; rw [HlO.out] at h9; exact h9) hlen9 Hbw.out.symm
      have Htr := hide htr
      clear htr
      go_upto_region 13 with (fail)
      have hd9 : Below w11.heap.size w11 w11.drew := (Below.refl _ _).drew
      refine wp_region_held_drew (S := (fun w' => w'.cell? ⟨gc + 1, 0, none⟩ = some (.int .i64 0) ∧ w'.cell? ⟨gc, 0, none⟩ = some (.int .i64 V) ∧ w'.cell? ⟨gc, 1, none⟩ = some (.slice A n c) ∧ w'.cell? ⟨gT, 0, none⟩ = some (.int .i64 T.facts) ∧ w'.cell? ⟨gT, 1, none⟩ = some (.slice I nI cI) ∧ w'.cell? ⟨gT, 2, none⟩ = some (.slice G nG cG) ∧ w'.cell? ⟨gT, 3, none⟩ = some (.slice O nO cO))) (by kernel_rfl) ?_ (fun hHeld => ?_)
      · (try dsimp only); exact ⟨f0, c0, c1, t0, t1, t2, t3⟩
      refine takeM (i := 0) (v := ?_) (some 90) rfl rfl (by kernel_rfl) (by kernel_rfl) (by kernel_rfl) (fun _ _ _ h => h) (Or.inl ⟨by rfl, ?_⟩) (by assumption) ?_
      rotate_left
      · intro w hSw; (try dsimp only at hSw); obtain ⟨s1, s2, s3, s4, s5, s6, s7⟩ := hSw; have hfi := Hfi.out; first | (go_simp; done) | (go_simp; with_reducible rfl)
      try simp only [Act.put, List.setIfInBounds_toArray, List.set_cons_zero, List.set_cons_succ]
      refine takeM (i := 1) (v := ?_) (some 91) rfl rfl (by kernel_rfl) (by kernel_rfl) (by kernel_rfl) (fun _ _ _ h => h) (Or.inl ⟨by rfl, ?_⟩) (by assumption) ?_
      rotate_left
      · intro w hSw; (try dsimp only at hSw); obtain ⟨s1, s2, s3, s4, s5, s6, s7⟩ := hSw; have hfi := Hfi.out; first | (go_simp; done) | (go_simp; with_reducible rfl)
      try simp only [Act.put, List.setIfInBounds_toArray, List.set_cons_zero, List.set_cons_succ]
      refine takeM (i := 2) (v := ?_) (some 92) rfl rfl (by kernel_rfl) (by kernel_rfl) (by kernel_rfl) (fun _ _ _ h => h) (Or.inl ⟨by rfl, ?_⟩) (by assumption) ?_
      rotate_left
      · intro w hSw; (try dsimp only at hSw); obtain ⟨s1, s2, s3, s4, s5, s6, s7⟩ := hSw; have hfi := Hfi.out; first | (go_simp; done) | (go_simp; with_reducible rfl)
      try simp only [Act.put, List.setIfInBounds_toArray, List.set_cons_zero, List.set_cons_succ]
      refine takeM (i := 3) (v := ?_) (some 93) rfl rfl (by kernel_rfl) (by kernel_rfl) (by kernel_rfl) (fun _ _ _ h => h) (Or.inl ⟨by rfl, ?_⟩) (by assumption) ?_
      rotate_left
      · intro w hSw; (try dsimp only at hSw); obtain ⟨s1, s2, s3, s4, s5, s6, s7⟩ := hSw; have hfi := Hfi.out; first | (go_simp; done) | (go_simp; with_reducible rfl)
      try simp only [Act.put, List.setIfInBounds_toArray, List.set_cons_zero, List.set_cons_succ]
      refine takeM (i := 4) (v := ?_) (some 94) rfl rfl (by kernel_rfl) (by kernel_rfl) (by kernel_rfl) (fun _ _ _ h => h) (Or.inl ⟨by rfl, ?_⟩) (by assumption) ?_
      rotate_left
      · intro w hSw; (try dsimp only at hSw); obtain ⟨s1, s2, s3, s4, s5, s6, s7⟩ := hSw; have hfi := Hfi.out; first | (go_simp; done) | (go_simp; with_reducible rfl)
      try simp only [Act.put, List.setIfInBounds_toArray, List.set_cons_zero, List.set_cons_succ]
      refine wpAnyH_ready (rs := [5]) (by kernel_rfl) (by simp) ?_
      refine AllReadyH.cons rfl (fun K hK => ?_) AllReadyH.nil
      go_simp
      have hct := HWR.out w11.drew (H.out.keep (Hbl.out.trans (hd9.mono Hbl.out.size))) (Hp.out.keep (Hbl.out.trans (hd9.mono Hbl.out.size))) Hrp.out (by omega) hlen9
      with_reducible refine hct.mono ?_
      rintro e w13 ⟨hb0, gw, rfl, hrw⟩
      have hb := hd9.trans hb0
      have Hrw := hide hrw
      clear hct hrw hb0 hd9
      clear t0 t1 t2 t3 c0 c1 f0 f1 k0 k1 tl cl fl kl
      replace Ht := hide (Ht.out.keep hb)
      replace Hc := hide (Hc.out.keep hb)
      replace Hf := hide (Hf.out.keep hb)
      replace Hk := hide (Hk.out.keep hb)
      replace HR := hide (HR.out.keep hb)
      replace Hbl := hide (Hbl.out.trans (hb.mono Hbl.out.size))
      clear hb
      have t0 := Ht.out.cell 0
      have t1 := Ht.out.cell 1
      have t2 := Ht.out.cell 2
      have t3 := Ht.out.cell 3
      have tl := Ht.out.lt
      have c0 := Hc.out.cell 0
      have c1 := Hc.out.cell 1
      have cl := Hc.out.lt
      have f0 := Hf.out.cell 0
      have f1 := Hf.out.cell 1
      have fl := Hf.out.lt
      have k0 := Hk.out.cell 0
      have k1 := Hk.out.cell 1
      have kl := Hk.out.lt
      simp only [List.getElem?_cons_zero, List.getElem?_cons_succ] at t0 t1 t2 t3 c0 c1 f0 f1 k0 k1
      refine hK.out _ _ ?_ (fun hHeld2 => ?_)
      · (try dsimp only); exact ⟨f0, c0, c1, t0, t1, t2, t3⟩
      clear hK K hHeld
      try simp only [Act.put, List.setIfInBounds_toArray, List.set_cons_zero, List.set_cons_succ]
      have hHeld := hHeld2; clear hHeld2
      refine wpAnyH_ready (rs := [6]) (by kernel_rfl) (by simp) ?_
      refine AllReadyH.cons rfl (fun K hK => ?_) AllReadyH.nil
      go_simp
      have hct := Satisfies_ct A (some ⟨gw, 0, none⟩) n c V V (encC T N S) (writtenF T N S plan) w13 HR.out Hrw.out (by omega) Hfits.out
      rw [Htr.out] at hct
      with_reducible refine hct.mono ?_
      rintro e w14 ⟨rfl, rfl⟩
      clear hct
      refine hK.out _ _ ?_ (fun hHeld2 => ?_)
      · (try dsimp only); exact ⟨f0, c0, c1, t0, t1, t2, t3⟩
      clear hK K hHeld
      try simp only [Act.put, List.setIfInBounds_toArray, List.set_cons_zero, List.set_cons_succ]
      have hHeld := hHeld2; clear hHeld2
      refine takeM (i := 7) (v := ?_) (some 8) rfl rfl (by kernel_rfl) (by kernel_rfl) (by kernel_rfl) (fun _ _ _ h => h) (Or.inl ⟨by rfl, ?_⟩) (by assumption) ?_
      rotate_left
      · intro w hSw; (try dsimp only at hSw); obtain ⟨s1, s2, s3, s4, s5, s6, s7⟩ := hSw; have hfi := Hfi.out; first | (go_simp; done) | (go_simp; with_reducible rfl)
      try simp only [Act.put, List.setIfInBounds_toArray, List.set_cons_zero, List.set_cons_succ]
      refine wpAnyH_done (by kernel_rfl) ?_ _
      go_wp2_with fail
      go_ret
      exact ⟨ret_bool rfl, Hbl.out⟩
  · have hne : (fc != 0) = true := by simpa using hfc
    go_wp2_with fail
    go_ret
    exact ⟨ret_bool (by simp), Hbl.out⟩
theorem encodeLaw_ct (T : Tsk) (a : TA) (s : Int) (M : Option Addr) (mn mc : Nat) (m : List Bool) (P : Option Addr) (pn pc : Nat) (plan : List Int) (w : World) (hs : -9223372036854775808 ≤ s ∧ s ≤ 9223372036854775807) (h : TkR w a T) (hm : Rd Enc.bool w M mn mc m) (hp : Rd Enc.int w P pn pc plan) :
    Calls Try.prog 12 #[.agg #[.int .i64 T.facts, .slice a.I a.nI a.cI, .slice a.G a.nG a.cG, .slice a.O a.nO a.cO], .int .i64 s, .slice M mn mc, .slice P pn pc] w (Gives w (.bool true)) := by
  by_cases hec : (cnfR T s).2.2.1 = 0
  · obtain ⟨N, S, hok, hsS, hS, hn, hV, hcs⟩ := cnfR_ok (T := T) (s := s) hec
    by_cases hlen : mn = sizeN N S a.nO
    · exact encodeLawC a T s M mn mc m P pn pc plan w h hs hm hp N S hok hsS hS hn hV hcs hlen
    · exact encodeLawB a T s M mn mc m P pn pc plan w h hs hm hp N S hok hsS hS hn hV hcs hlen
  · obtain ⟨e1, e2⟩ := cnfR_bad hec
    rcases hcr : cnfR T s with ⟨Vi, cs, ec, ei⟩
    rw [hcr] at e1 e2 hec
    simp only at e1 e2 hec
    subst e1 e2
    exact encodeLawA a T s M mn mc m P pn pc plan w h hs hm hp ec ei hec hcr
end Go.Proofs.Ytnfeknfakkdbhaa
