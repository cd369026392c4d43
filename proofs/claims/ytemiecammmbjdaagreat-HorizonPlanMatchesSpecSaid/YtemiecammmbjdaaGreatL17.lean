/- What the law asks for, part 17: Hz7 Hz8 Hx. -/
import Derived.Test.YtemiecammmbjdaaGreatL1
import Derived.Test.YtemiecammmbjdaaGreatL2
import Derived.Test.YtemiecammmbjdaaGreatL3
import Derived.Test.YtemiecammmbjdaaGreatL4
import Derived.Test.YtemiecammmbjdaaGreatL5
import Derived.Test.YtemiecammmbjdaaGreatL6
import Derived.Test.YtemiecammmbjdaaGreatL7
import Derived.Test.YtemiecammmbjdaaGreatL8
import Derived.Test.YtemiecammmbjdaaGreatL9
import Derived.Test.YtemiecammmbjdaaGreatL10
import Derived.Test.YtemiecammmbjdaaGreatL11
import Derived.Test.YtemiecammmbjdaaGreatL12
import Derived.Test.YtemiecammmbjdaaGreatL13
import Derived.Test.YtemiecammmbjdaaGreatL14
import Derived.Test.YtemiecammmbjdaaGreatL15
import Derived.Test.YtemiecammmbjdaaGreatL16
import Derived.BigQuiet
import Derived.Deep.AppendLies
import Derived.Deep.DeepCutAuto
import Derived.Deep.Draws
import Derived.Deep.Fields
import Derived.Deep.LoopGhost
import Derived.Deep.QuietTactic
import Derived.Deep.RegionHeld3
import Derived.Deep.RegionLaw
import Derived.Deep.Slices
import Derived.Ground.Names2Prog
import Derived.Ground.SlgnProg
import Derived.Ground.SlsfProg
import Derived.IntWalk
import Derived.Laws.AppendOwnNone
import Derived.Laws.OwnMore
import Derived.Lib.Hide
import Derived.Lib.SlicesCompact
import Derived.Maps.AppendAt
import Derived.Shelf.SlSortCmp.Whole1
import Derived.Shelf.Slices.Cells
import Derived.Shelf.Slices.Clone
import Derived.Shelf.Slices.CompactI
import Derived.Shelf.Slices.Empties
import Derived.Shelf.Slices.In.SortNone
import Derived.Shelf.Slices.SearchI
import Derived.Shelf.SlicesE.Clone
import Derived.Shelf.Sort.Plain
import Derived.Sort.OwnSortedInts
import Derived.Test.YtemiecammmbjdaaGreatProg
import Derived.WalkKit
import Init
namespace Go.Proofs.YtemiecammmbjdaaGreat
set_option linter.unusedVariables false
set_option linter.unusedSimpArgs false
open Go.RowKit
def PlanP (w : World) (N S n V : Nat) (cs : List (List Int)) (e : Ending) (w' : World) : Prop := Below w.heap.size w w' ∧
  ((∃ (m : List Bool) (X : Option Addr) (k c : Nat), m.length = V ∧ trueAll cs m = true ∧ e = .returned (.tuple #[.slice X k c, .bool true, fault 0 0]) ∧ Rd Enc.int w' X k c (wantF N S n m S)) ∨
   (e = .returned (.tuple #[.slice none 0 0, .bool false, fault 0 0]) ∧ ∀ m : List Bool, m.length = V → trueAll cs m = false))
set_option maxRecDepth 100000 in
set_option maxHeartbeats 6400000 in
theorem Plan_ct (a : TA) (T : Tsk) (N S : Nat) (w : World) (h : TkR w a T) (hok : OkT T N) (hS : S ≤ 4) (hn : T.ops.length ≤ 20) (hV : sizeN N S T.ops.length ≤ 80) (hq : cnfR T (S : Int) = (((sizeN N S T.ops.length : Nat) : Int), encC T N S, 0, 0)) :
    Calls Tryz.prog 6 #[.agg #[.int .i64 T.facts, .slice a.I a.nI a.cI, .slice a.G a.nG a.cG, .slice a.O a.nO a.cO], .int .i64 S] w (PlanP w N S T.ops.length (sizeN N S T.ops.length) (encC T N S)) := by
  have hcn := cnf_ct a T S
  have hdec := fun M mn mc m w h1 h2 h3 h4 h5 h6 => decode_ct a T N S M mn mc m w h1 h2 h3 h4 h5 h6
  rw [hq] at hcn
  have hfd := fun A n c w => Find_ct (sizeN N S T.ops.length) A n c (encC T N S) w hV (few_enc80 hok hS hn hV)
  have hN := hok.low
  have hfN := hok.facts
  obtain ⟨I, nI, cI, G, nG, cG, O, nO, cO⟩ := a
  simp only at hcn hdec ⊢
  have hlO := h.ops.len
  simp only at hlO
  have hel := enc_len hok hS hn (by omega)
  have hcl : ∀ c ∈ encC T N S, Clean (sizeN N S T.ops.length : Nat) c := fun c hc => clean_of_code (enc_code hok hc)
  rw [hlO] at hcn hfd hn hV hcl ⊢
  obtain ⟨V, hVe⟩ : ∃ V, V = sizeN N S nO := ⟨_, rfl⟩
  rw [← hVe] at hcn hfd hV hcl ⊢
  have HVe := hide hVe
  have HlO := hide hlO
  have H := hide h
  have Hcn := hide hcn
  have Hdec := hide hdec
  have Hfd := hide hfd
  have Hcl := hide hcl
  have Hel := hide hel
  have HfN := hide hfN
  clear h hq hcn hdec hlO hfd hcl hVe hfN hel
  have Hbl := hide (Below.refl w.heap.size w)
  go_enter Tryz.func6, Tryz.ntmps6
  go_upto_region 1 with (fail)
  obtain ⟨B0, hB0⟩ : ∃ B0, B0 = w.heap.size := ⟨_, rfl⟩
  have HB0 := hide hB0
  clear hB0
  have s_0 : B0 ≤ w.heap.size := Nat.le_trans (Nat.le_of_eq HB0.out) Hbl.out.size
  have hyt := Blk.new (w) 25 [.int .i64 T.facts, .slice I nI cI, .slice G nG cG, .slice O nO cO]
  have hyr := Blk.new ((w).alloc (.cells #[.int .i64 T.facts, .slice I nI cI, .slice G nG cG, .slice O nO cO] 25)) 28 [.int .i64 0, .int .i64 0]
  replace hyt := hyt.alloc (.cells #[.int .i64 0, .int .i64 0] 28)
  have hbW := below_two w (.cells #[.int .i64 T.facts, .slice I nI cI, .slice G nG cG, .slice O nO cO] 25) (.cells #[.int .i64 0, .int .i64 0] 28)
  simp only [World.size_alloc] at hyr
  obtain ⟨w0, hW⟩ : ∃ W, W = ((w).alloc (.cells #[.int .i64 T.facts, .slice I nI cI, .slice G nG cG, .slice O nO cO] 25)).alloc (.cells #[.int .i64 0, .int .i64 0] 28) := ⟨_, rfl⟩
  rw [← hW] at hyt hyr hbW ⊢
  replace Hbl := hide (Hbl.out.trans (hbW.mono Hbl.out.size))
  have Ht := hide hyt
  have Hr := hide hyr
  clear hW hbW hyt hyr
  generalize w.heap.size = gT at Ht Hr s_0 ⊢
  have t0 := Ht.out.cell 0
  have t1 := Ht.out.cell 1
  have t2 := Ht.out.cell 2
  have t3 := Ht.out.cell 3
  have tl := Ht.out.lt
  have r0 := Hr.out.cell 0
  have r1 := Hr.out.cell 1
  have rl := Hr.out.lt
  simp only [List.getElem?_cons_zero, List.getElem?_cons_succ] at t0 t1 t2 t3 r0 r1
  have a_t : B0 ≤ gT := by omega
  have a_r : B0 ≤ gT + 1 := by omega
  clear s_0
  have n_t_r : ¬ gT = gT + 1 := by omega
  have n_r_t : ¬ gT + 1 = gT := by omega
  go_wp2_with fail
  with_reducible refine (Hcn.out w0 (H.out.keep Hbl.out) (by unfold I64s; omega)).mono ?_
  rintro e w1 ⟨hb, A, n, c, rfl, hplain, hrows⟩
  have hrd := hrows w1 (Chg.refl _ _)
  have Hrd := hide hrd
  have Hplain := hide hplain
  clear hrows hplain hrd
  unfold fault
  clear t0 t1 t2 t3 r0 r1 tl rl
  replace Ht := hide (Ht.out.keep hb)
  replace Hr := hide (Hr.out.keep hb)
  replace Hbl := hide (Hbl.out.trans (hb.mono Hbl.out.size))
  clear hb
  have t0 := Ht.out.cell 0
  have t1 := Ht.out.cell 1
  have t2 := Ht.out.cell 2
  have t3 := Ht.out.cell 3
  have tl := Ht.out.lt
  have r0 := Hr.out.cell 0
  have r1 := Hr.out.cell 1
  have rl := Hr.out.lt
  simp only [List.getElem?_cons_zero, List.getElem?_cons_succ] at t0 t1 t2 t3 r0 r1
  simp only
  go_upto_region 2 with (fail)
  have n_t_c : ¬ gT = w1.heap.size := by omega
  have n_c_t : ¬ w1.heap.size = gT := by omega
  have n_t_k : ¬ gT = w1.heap.size + 1 := by omega
  have n_k_t : ¬ w1.heap.size + 1 = gT := by omega
  have n_r_c : ¬ gT + 1 = w1.heap.size := by omega
  have n_c_r : ¬ w1.heap.size = gT + 1 := by omega
  have n_r_k : ¬ gT + 1 = w1.heap.size + 1 := by omega
  have n_k_r : ¬ w1.heap.size + 1 = gT + 1 := by omega
  have s_t : gT < w1.heap.size := tl
  have s_r : gT + 1 < w1.heap.size := rl
  have s_0 : B0 ≤ w1.heap.size := Nat.le_trans (Nat.le_of_eq HB0.out) Hbl.out.size
  have hyc := Blk.new (w1) 45 [.int .i64 V, .slice A n c]
  have hyk := Blk.new ((w1).alloc (.cells #[.int .i64 V, .slice A n c] 45)) 28 [.int .i64 0, .int .i64 0]
  replace hyc := hyc.alloc (.cells #[.int .i64 0, .int .i64 0] 28)
  have hbW := below_two w1 (.cells #[.int .i64 V, .slice A n c] 45) (.cells #[.int .i64 0, .int .i64 0] 28)
  simp only [World.size_alloc] at hyk
  obtain ⟨w2, hW⟩ : ∃ W, W = ((w1).alloc (.cells #[.int .i64 V, .slice A n c] 45)).alloc (.cells #[.int .i64 0, .int .i64 0] 28) := ⟨_, rfl⟩
  rw [← hW] at hyc hyk hbW ⊢
  replace Ht := hide (Ht.out.keep hbW)
  replace Hr := hide (Hr.out.keep hbW)
  replace Hrd := hide (Hrd.out.keep hbW)
  replace Hbl := hide (Hbl.out.trans (hbW.mono Hbl.out.size))
  have Hc := hide hyc
  have Hk := hide hyk
  clear hW hbW hyc hyk
  generalize w1.heap.size = gc at Hc Hk n_t_c n_c_t n_t_k n_k_t n_r_c n_c_r n_r_k n_k_r s_t s_r s_0 ⊢
  have t0 := Ht.out.cell 0
  have t1 := Ht.out.cell 1
  have t2 := Ht.out.cell 2
  have t3 := Ht.out.cell 3
  have tl := Ht.out.lt
  have r0 := Hr.out.cell 0
  have r1 := Hr.out.cell 1
  have rl := Hr.out.lt
  have c0 := Hc.out.cell 0
  have c1 := Hc.out.cell 1
  have cl := Hc.out.lt
  have k0 := Hk.out.cell 0
  have k1 := Hk.out.cell 1
  have kl := Hk.out.lt
  simp only [List.getElem?_cons_zero, List.getElem?_cons_succ] at t0 t1 t2 t3 r0 r1 c0 c1 k0 k1
  clear s_t
  clear s_r
  have a_c : B0 ≤ gc := by omega
  have a_k : B0 ≤ gc + 1 := by omega
  clear s_0
  have n_c_k : ¬ gc = gc + 1 := by omega
  have n_k_c : ¬ gc + 1 = gc := by omega
  have hnl : n ≤ 1000000 := by have := Hrd.out.len; have := Hel.out; simp only at *; omega
  have hct := Hfd.out A n c w2 hnl Hrd.out Hplain.out Hcl.out
  go_wp2_with fail
  with_reducible refine hct.mono ?_
  rintro e w3 ⟨hb, ⟨A3, c3, m, rfl, hml, hmt, hmr⟩ | ⟨rfl, hno⟩⟩
  · skip
    clear t0 t1 t2 t3 r0 r1 c0 c1 k0 k1 tl rl cl kl
    replace Ht := hide (Ht.out.keep hb)
    replace Hr := hide (Hr.out.keep hb)
    replace Hc := hide (Hc.out.keep hb)
    replace Hk := hide (Hk.out.keep hb)
    replace Hrd := hide (Hrd.out.keep hb)
    replace Hbl := hide (Hbl.out.trans (hb.mono Hbl.out.size))
    clear hb hct
    have t0 := Ht.out.cell 0
    have t1 := Ht.out.cell 1
    have t2 := Ht.out.cell 2
    have t3 := Ht.out.cell 3
    have tl := Ht.out.lt
    have r0 := Hr.out.cell 0
    have r1 := Hr.out.cell 1
    have rl := Hr.out.lt
    have c0 := Hc.out.cell 0
    have c1 := Hc.out.cell 1
    have cl := Hc.out.lt
    have k0 := Hk.out.cell 0
    have k1 := Hk.out.cell 1
    have kl := Hk.out.lt
    simp only [List.getElem?_cons_zero, List.getElem?_cons_succ] at t0 t1 t2 t3 r0 r1 c0 c1 k0 k1
    have Hmr := hide hmr
    have Hml := hide hml
    have Hmt := hide hmt
    clear hmr hml hmt
    have hdc := Hdec.out A3 V c3 m w3 HfN.out Hmr.out hN hS (by omega) HVe.out
    have s3r : gT + 1 < w3.heap.size := rl
    have s30 := Hbl.out.size
    go_wp2_with fail
    with_reducible refine hdc.mono ?_
    rintro e w4 ⟨hb, X, xc, rfl, hown⟩
    have hr2 := RdM.own (M := fun b => b < w3.heap.size) hown (fun r hr e => by
      have h1 := own_base hown (by rw [own_blkA]; exact hr)
      omega) rfl (fun x hx => by have := wantF_range x hx; omega)
    have Hr2 := hide hr2
    clear hdc hown hr2
    clear t0 t1 t2 t3 r0 r1 c0 c1 k0 k1 tl rl cl kl
    replace Ht := hide (Ht.out.keep hb)
    replace Hr := hide (Hr.out.keep hb)
    replace Hc := hide (Hc.out.keep hb)
    replace Hk := hide (Hk.out.keep hb)
    replace Hbl := hide (Hbl.out.trans (hb.mono Hbl.out.size))
    clear hb
    have t0 := Ht.out.cell 0
    have t1 := Ht.out.cell 1
    have t2 := Ht.out.cell 2
    have t3 := Ht.out.cell 3
    have tl := Ht.out.lt
    have r0 := Hr.out.cell 0
    have r1 := Hr.out.cell 1
    have rl := Hr.out.lt
    have c0 := Hc.out.cell 0
    have c1 := Hc.out.cell 1
    have cl := Hc.out.lt
    have k0 := Hk.out.cell 0
    have k1 := Hk.out.cell 1
    have kl := Hk.out.lt
    simp only [List.getElem?_cons_zero, List.getElem?_cons_succ] at t0 t1 t2 t3 r0 r1 c0 c1 k0 k1
    generalize (wantF N S nO m S).length = ln at Hr2 ⊢
    have rf0 := Hr.out.frozen 0
    have rf1 := Hr.out.frozen 1
    go_wp2_with fail
    refine bodyPost_ret (v := .tuple #[.slice X ln xc, .bool true, fault 0 0]) (by simp [results, Tryz.results6, go_sem, fault, r0, r1, rl]) rfl ?_
    have hbx := HB0.out
    refine ⟨?_, .inl ⟨m, X, ln, xc, Hml.out, Hmt.out, rfl, ?_⟩⟩
    · repeat' (first | (with_reducible exact Hbl.out) | (with_reducible refine Below.drew ?_) | (with_reducible refine below_set ?_ ?_ _ _) | (have := HB0.out; omega))
    · exact (Hr2.out.chg (((Chg.set _ (gT + 1) 0 _).trans (Chg.set _ (gT + 1) 1 _)).mono (fun b e => by omega))).rd
  · have Hno := hide hno
    clear hno
    clear t0 t1 t2 t3 r0 r1 c0 c1 k0 k1 tl rl cl kl
    replace Ht := hide (Ht.out.keep hb)
    replace Hr := hide (Hr.out.keep hb)
    replace Hc := hide (Hc.out.keep hb)
    replace Hk := hide (Hk.out.keep hb)
    replace Hrd := hide (Hrd.out.keep hb)
    replace Hbl := hide (Hbl.out.trans (hb.mono Hbl.out.size))
    clear hb hct
    have t0 := Ht.out.cell 0
    have t1 := Ht.out.cell 1
    have t2 := Ht.out.cell 2
    have t3 := Ht.out.cell 3
    have tl := Ht.out.lt
    have r0 := Hr.out.cell 0
    have r1 := Hr.out.cell 1
    have rl := Hr.out.lt
    have c0 := Hc.out.cell 0
    have c1 := Hc.out.cell 1
    have cl := Hc.out.lt
    have k0 := Hk.out.cell 0
    have k1 := Hk.out.cell 1
    have kl := Hk.out.lt
    simp only [List.getElem?_cons_zero, List.getElem?_cons_succ] at t0 t1 t2 t3 r0 r1 c0 c1 k0 k1
    have rf0 := Hr.out.frozen 0
    have rf1 := Hr.out.frozen 1
    go_wp2_with fail
    refine bodyPost_ret (v := .tuple #[.slice none 0 0, .bool false, fault 0 0]) (by simp [results, Tryz.results6, go_sem, fault, r0, r1, rl]) rfl ?_
    have hbx := HB0.out
    refine ⟨?_, .inr ⟨rfl, Hno.out⟩⟩
    repeat' (first | (with_reducible exact Hbl.out) | (with_reducible refine Below.drew ?_) | (with_reducible refine below_set ?_ ?_ _ _) | (have := HB0.out; omega))
def oneT : Tsk := ⟨1, [], [0], [⟨[], [0], [], 3⟩]⟩
def OneP (w : World) (e : Ending) (w' : World) : Prop := Below w.heap.size w w' ∧ ∃ a : TA, e = .returned (taskV oneT a) ∧ a.nO = 1 ∧ TkR w' a oneT
theorem one_mem (w : World) (X0 : Obj) : OneP w (.returned (.agg #[.int .i64 1, .slice none 0 0, .slice (some ⟨w.heap.size + 1, 0, none⟩) 1 1, .slice (some ⟨w.heap.size + 1 + 1 + 1, 0, none⟩) 1 1]))
    ((((w.alloc X0).alloc (.cells #[.int .i64 0] 3)).alloc (.cells #[.int .i64 0] 3)).alloc (.cells #[.slice none 0 0, .slice (some ⟨w.heap.size + 1 + 1, 0, none⟩) 1 1, .slice none 0 0, .int .i64 3] 72)) := by
  have b1 := Blk.new (w.alloc X0) 3 [.int .i64 0]
  have b2 := Blk.new ((w.alloc X0).alloc (.cells #[.int .i64 0] 3)) 3 [.int .i64 0]
  have b3 := Blk.new (((w.alloc X0).alloc (.cells #[.int .i64 0] 3)).alloc (.cells #[.int .i64 0] 3)) 72 [.slice none 0 0, .slice (some ⟨w.heap.size + 1 + 1, 0, none⟩) 1 1, .slice none 0 0, .int .i64 3]
  simp only [World.size_alloc] at b1 b2 b3
  have d1 := (b1.alloc (.cells #[.int .i64 0] 3)).alloc (.cells #[.slice none 0 0, .slice (some ⟨w.heap.size + 1 + 1, 0, none⟩) 1 1, .slice none 0 0, .int .i64 3] 72)
  have d2 := b2.alloc (.cells #[.slice none 0 0, .slice (some ⟨w.heap.size + 1 + 1, 0, none⟩) 1 1, .slice none 0 0, .int .i64 3] 72)
  have hb : Below w.heap.size w ((((w.alloc X0).alloc (.cells #[.int .i64 0] 3)).alloc (.cells #[.int .i64 0] 3)).alloc (.cells #[.slice none 0 0, .slice (some ⟨w.heap.size + 1 + 1, 0, none⟩) 1 1, .slice none 0 0, .int .i64 3] 72)) :=
    (((((Below.refl w.heap.size w).alloc (Nat.le_refl _) X0).alloc (by simp only [World.size_alloc]; omega) _).alloc (by simp only [World.size_alloc]; omega) _).alloc (by simp only [World.size_alloc]; omega) _)
  have r1 := one_low d1 (by omega)
  have r2 := one_low d2 (by omega)
  refine ⟨hb, ⟨none, 0, 0, some ⟨w.heap.size + 1, 0, none⟩, 1, 1, some ⟨w.heap.size + 1 + 1 + 1, 0, none⟩, 1, 1⟩, rfl, rfl, ⟨by unfold oneT I64s; simp, Rd.nil_ _ _, r1, ?_⟩⟩
  refine ⟨rfl, Nat.le_refl _, (show (1 : Nat) ≤ 9223372036854775807 by omega), fun h => (by cases h), fun _ => ⟨w.heap.size + 1 + 1 + 1, 0, rfl, fun j o hj => ?_⟩⟩
  match j, hj with
  | 0, hj =>
    obtain rfl := Option.some.inj hj
    refine ⟨[.slice none 0 0, .slice (some ⟨w.heap.size + 1 + 1, 0, none⟩) 1 1, .slice none 0 0, .int .i64 3], ⟨none, 0, 0, _, 1, 1, none, 0, 0, rfl, Rd.nil_ _ _, r2, Rd.nil_ _ _, by unfold I64s; simp⟩, fun i v hi => ?_⟩
    match i, hi with
    | 0, hi => obtain rfl := Option.some.inj hi; exact b3.cell 0
    | 1, hi => obtain rfl := Option.some.inj hi; exact b3.cell 1
    | 2, hi => obtain rfl := Option.some.inj hi; exact b3.cell 2
    | 3, hi => obtain rfl := Option.some.inj hi; exact b3.cell 3
    | i + 4, hi => simp at hi
  | j + 1, hj => simp [oneT] at hj
set_option maxRecDepth 100000 in
set_option maxHeartbeats 3200000 in
theorem one_ct (w : World) : Calls Tryz.prog 15 #[] w (OneP w) := by
  go_enter Tryz.func15, Tryz.ntmps15
  go_wp2_with fail
  exact bodyPost_ret (v := .agg #[.int .i64 1, .slice none 0 0, .slice (some ⟨w.heap.size + 1, 0, none⟩) 1 1, .slice (some ⟨w.heap.size + 1 + 1 + 1, 0, none⟩) 1 1]) (by simp [results, Tryz.results15, go_sem]) rfl (one_mem w _)
end Go.Proofs.YtemiecammmbjdaaGreat
namespace Go.Proofs.YtemiecammmbjdaaGreat
set_option linter.unusedVariables false
set_option linter.unusedSimpArgs false
open Go.RowKit
theorem plan_fine {T : Tsk} {N : Nat} (hT : OkT T N) {l : List Int} (h60 : l.length ≤ 60) (hr : ∀ x ∈ l, 0 ≤ x ∧ x < T.ops.length) : planFault T l = (0, 0) := by
  unfold planFault
  rw [if_neg (by rw [okt_fault hT]; simp)]
  unfold stepsFault
  rw [if_neg (by omega), if_neg]
  intro h
  obtain ⟨x, hx, h1⟩ := List.any_eq_true.1 h
  have := hr x hx
  unfold outB at h1
  simp at h1
  omega
/-- a plan with at most s steps -/
def HasP (T : Tsk) (s : Int) : Prop := ∃ l : List Int, (∀ x ∈ l, 0 ≤ x ∧ x < T.ops.length) ∧ (l.length : Int) ≤ s ∧ worksF T T.init l = true
def HPlanP (w : World) (T : Tsk) (s ec ei : Int) (e : Ending) (w' : World) : Prop := Below w.heap.size w w' ∧ ∃ (X : Option Addr) (k c : Nat) (ok : Bool), e = .returned (.tuple #[.slice X k c, .bool ok, fault ec ei]) ∧ (ok = false → k = 0) ∧ (ec ≠ 0 → ok = false) ∧
  (ec = 0 → (ok = true ↔ HasP T s)) ∧ (ok = true → ∃ l : List Int, Rd Enc.int w' X k c l ∧ (∀ x ∈ l, 0 ≤ x ∧ x < T.ops.length) ∧ (l.length : Int) ≤ s ∧ worksF T T.init l = true)
set_option maxRecDepth 100000 in
set_option maxHeartbeats 6400000 in
theorem PlanF_ct (a : TA) (T : Tsk) (s : Int) (w : World) (V : Int) (cs : List (List Int)) (ec ei : Int) (h : TkR w a T) (hs : I64s s) (hq : cnfR T s = (V, cs, ec, ei)) (hec : ec ≠ 0) :
    Calls Tryz.prog 6 #[.agg #[.int .i64 T.facts, .slice a.I a.nI a.cI, .slice a.G a.nG a.cG, .slice a.O a.nO a.cO], .int .i64 s] w (fun e w' => Below w.heap.size w w' ∧ e = .returned (.tuple #[.slice none 0 0, .bool false, fault ec ei])) := by
  have hcn := cnf_ct a T s
  rw [hq] at hcn
  obtain ⟨I, nI, cI, G, nG, cG, O, nO, cO⟩ := a
  simp only at hcn ⊢
  have H := hide h
  have Hcn := hide hcn
  clear h hq hcn
  have Hbl := hide (Below.refl w.heap.size w)
  go_enter Tryz.func6, Tryz.ntmps6
  go_upto_region 1 with (fail)
  obtain ⟨B0, hB0⟩ : ∃ B0, B0 = w.heap.size := ⟨_, rfl⟩
  have HB0 := hide hB0
  clear hB0
  have s_0 : B0 ≤ w.heap.size := Nat.le_trans (Nat.le_of_eq HB0.out) Hbl.out.size
  have hyt := Blk.new (w) 25 [.int .i64 T.facts, .slice I nI cI, .slice G nG cG, .slice O nO cO]
  have hyr := Blk.new ((w).alloc (.cells #[.int .i64 T.facts, .slice I nI cI, .slice G nG cG, .slice O nO cO] 25)) 28 [.int .i64 0, .int .i64 0]
  replace hyt := hyt.alloc (.cells #[.int .i64 0, .int .i64 0] 28)
  have hbW := below_two w (.cells #[.int .i64 T.facts, .slice I nI cI, .slice G nG cG, .slice O nO cO] 25) (.cells #[.int .i64 0, .int .i64 0] 28)
  simp only [World.size_alloc] at hyr
  obtain ⟨w0, hW⟩ : ∃ W, W = ((w).alloc (.cells #[.int .i64 T.facts, .slice I nI cI, .slice G nG cG, .slice O nO cO] 25)).alloc (.cells #[.int .i64 0, .int .i64 0] 28) := ⟨_, rfl⟩
  rw [← hW] at hyt hyr hbW ⊢
  replace Hbl := hide (Hbl.out.trans (hbW.mono Hbl.out.size))
  have Ht := hide hyt
  have Hr := hide hyr
  clear hW hbW hyt hyr
  generalize w.heap.size = gT at Ht Hr s_0 ⊢
  have t0 := Ht.out.cell 0
  have t1 := Ht.out.cell 1
  have t2 := Ht.out.cell 2
  have t3 := Ht.out.cell 3
  have tl := Ht.out.lt
  have r0 := Hr.out.cell 0
  have r1 := Hr.out.cell 1
  have rl := Hr.out.lt
  simp only [List.getElem?_cons_zero, List.getElem?_cons_succ] at t0 t1 t2 t3 r0 r1
  have a_t : B0 ≤ gT := by omega
  have a_r : B0 ≤ gT + 1 := by omega
  clear s_0
  have n_t_r : ¬ gT = gT + 1 := by omega
  have n_r_t : ¬ gT + 1 = gT := by omega
  go_wp2_with fail
  with_reducible refine (Hcn.out w0 (H.out.keep Hbl.out) hs).mono ?_
  rintro e w1 ⟨hb, A, n, c, rfl, hplain, hrows⟩
  clear hrows hplain
  unfold fault
  clear t0 t1 t2 t3 r0 r1 tl rl
  replace Ht := hide (Ht.out.keep hb)
  replace Hr := hide (Hr.out.keep hb)
  replace Hbl := hide (Hbl.out.trans (hb.mono Hbl.out.size))
  clear hb
  have t0 := Ht.out.cell 0
  have t1 := Ht.out.cell 1
  have t2 := Ht.out.cell 2
  have t3 := Ht.out.cell 3
  have tl := Ht.out.lt
  have r0 := Hr.out.cell 0
  have r1 := Hr.out.cell 1
  have rl := Hr.out.lt
  simp only [List.getElem?_cons_zero, List.getElem?_cons_succ] at t0 t1 t2 t3 r0 r1
  simp only
  go_upto_region 2 with (fail)
  have n_t_c : ¬ gT = w1.heap.size := by omega
  have n_c_t : ¬ w1.heap.size = gT := by omega
  have n_t_k : ¬ gT = w1.heap.size + 1 := by omega
  have n_k_t : ¬ w1.heap.size + 1 = gT := by omega
  have n_r_c : ¬ gT + 1 = w1.heap.size := by omega
  have n_c_r : ¬ w1.heap.size = gT + 1 := by omega
  have n_r_k : ¬ gT + 1 = w1.heap.size + 1 := by omega
  have n_k_r : ¬ w1.heap.size + 1 = gT + 1 := by omega
  have s_t : gT < w1.heap.size := tl
  have s_r : gT + 1 < w1.heap.size := rl
  have s_0 : B0 ≤ w1.heap.size := Nat.le_trans (Nat.le_of_eq HB0.out) Hbl.out.size
  have hyc := Blk.new (w1) 45 [.int .i64 V, .slice A n c]
  have hyk := Blk.new ((w1).alloc (.cells #[.int .i64 V, .slice A n c] 45)) 28 [.int .i64 ec, .int .i64 ei]
  replace hyc := hyc.alloc (.cells #[.int .i64 ec, .int .i64 ei] 28)
  have hbW := below_two w1 (.cells #[.int .i64 V, .slice A n c] 45) (.cells #[.int .i64 ec, .int .i64 ei] 28)
  simp only [World.size_alloc] at hyk
  obtain ⟨w2, hW⟩ : ∃ W, W = ((w1).alloc (.cells #[.int .i64 V, .slice A n c] 45)).alloc (.cells #[.int .i64 ec, .int .i64 ei] 28) := ⟨_, rfl⟩
  rw [← hW] at hyc hyk hbW ⊢
  replace Ht := hide (Ht.out.keep hbW)
  replace Hr := hide (Hr.out.keep hbW)
  replace Hbl := hide (Hbl.out.trans (hbW.mono Hbl.out.size))
  have Hc := hide hyc
  have Hk := hide hyk
  clear hW hbW hyc hyk
  generalize w1.heap.size = gc at Hc Hk n_t_c n_c_t n_t_k n_k_t n_r_c n_c_r n_r_k n_k_r s_t s_r s_0 ⊢
  have t0 := Ht.out.cell 0
  have t1 := Ht.out.cell 1
  have t2 := Ht.out.cell 2
  have t3 := Ht.out.cell 3
  have tl := Ht.out.lt
  have r0 := Hr.out.cell 0
  have r1 := Hr.out.cell 1
  have rl := Hr.out.lt
  have c0 := Hc.out.cell 0
  have c1 := Hc.out.cell 1
  have cl := Hc.out.lt
  have k0 := Hk.out.cell 0
  have k1 := Hk.out.cell 1
  have kl := Hk.out.lt
  simp only [List.getElem?_cons_zero, List.getElem?_cons_succ] at t0 t1 t2 t3 r0 r1 c0 c1 k0 k1
  clear s_t
  clear s_r
  have a_c : B0 ≤ gc := by omega
  have a_k : B0 ≤ gc + 1 := by omega
  clear s_0
  have n_c_k : ¬ gc = gc + 1 := by omega
  have n_k_c : ¬ gc + 1 = gc := by omega
  have hne : (ec != 0) = true := by simpa using hec
  have hne2 : (ec == 0) = false := by simpa using hec
  have rf0 := Hr.out.frozen 0
  have rf1 := Hr.out.frozen 1
  go_wp2_with fail
  go_region
  all_goals go_wp2_with fail
  all_goals refine bodyPost_ret (v := .tuple #[.slice none 0 0, .bool false, fault ec ei]) (by simp [results, Tryz.results6, go_sem, fault, r0, r1, rl]) rfl ?_
  have hbx := HB0.out
  refine ⟨?_, rfl⟩
  repeat' (first | (with_reducible exact Hbl.out) | (with_reducible refine Below.drew ?_) | (with_reducible refine below_set ?_ ?_ _ _) | (have := HB0.out; omega))
theorem HPlan_ct (a : TA) (T : Tsk) (s : Int) (w : World) (V : Int) (cs : List (List Int)) (ec ei : Int) (h : TkR w a T) (hs : I64s s) (hq : cnfR T s = (V, cs, ec, ei)) :
    Calls Tryz.prog 6 #[.agg #[.int .i64 T.facts, .slice a.I a.nI a.cI, .slice a.G a.nG a.cG, .slice a.O a.nO a.cO], .int .i64 s] w (HPlanP w T s ec ei) := by
  by_cases hec : ec = 0
  · obtain ⟨N, S, hok, rfl, hS, hn, hV, hcs⟩ := cnfR_ok (T := T) (s := s) (by rw [hq]; exact hec)
    have h2 := hcs
    rw [hq] at h2
    obtain ⟨e1, e2⟩ := Prod.mk.inj h2
    obtain ⟨e2, e3⟩ := Prod.mk.inj e2
    obtain ⟨e3, e4⟩ := Prod.mk.inj e3
    clear e2 h2
    subst e4
    subst hec
    refine (Plan_ct a T N S w h hok hS hn hV hcs).mono ?_
    rintro e w' ⟨hb, ⟨m, X, k, c, hml, hmt, rfl, hrd⟩ | ⟨rfl, hno⟩⟩
    · rw [desc_law hok] at hmt
      obtain ⟨hw1, hw2⟩ := desc_solves hok hmt
      have hhas : HasP T (S : Int) := ⟨_, wantF_range, by omega, hw1⟩
      exact ⟨hb, X, k, c, true, rfl, (fun e => by cases e), (fun e => absurd rfl e), (fun _ => ⟨fun _ => hhas, fun _ => rfl⟩), fun _ => ⟨_, hrd, wantF_range, by omega, hw1⟩⟩
    · refine ⟨hb, none, 0, 0, false, rfl, (fun _ => rfl), (fun e => absurd rfl e), (fun _ => ⟨fun e => (by cases e), ?_⟩), fun e => by cases e⟩
      rintro ⟨l, h1, h2, h3⟩
      have hw := written_true (S := S) hok h1 (by omega) h3
      rw [hno _ (by unfold writtenF; exact markB_len _ _)] at hw
      cases hw
  · refine (PlanF_ct a T s w V cs ec ei h hs hq hec).mono ?_
    rintro e w' ⟨hb, rfl⟩
    exact ⟨hb, none, 0, 0, false, rfl, (fun _ => rfl), (fun _ => rfl), (fun e => absurd e hec), fun e => by cases e⟩
end Go.Proofs.YtemiecammmbjdaaGreat
namespace Go.Proofs.YtemiecammmbjdaaGreat
set_option linter.unusedVariables false
set_option linter.unusedSimpArgs false
open Go.RowKit
theorem one_ok : OkT oneT 1 := ⟨rfl, by omega, by decide +kernel, by decide +kernel, by decide +kernel, fun o ho => by
  have : o = ⟨[], [0], [], 3⟩ := by simpa [oneT] using ho
  subst this
  exact ⟨by decide +kernel, by decide +kernel, by decide +kernel, by decide +kernel, by decide +kernel, by decide +kernel⟩⟩
theorem one_cnf : cnfR oneT 1 = (3, encC oneT 1 1, 0, 0) := by decide +kernel
theorem one_decode : decodeR oneT 1 [false, true, true] = ([0], 0, 0) := by decide +kernel
theorem one_plan (m : List Bool) (hl : m.length = 3) (ht : trueAll (encC oneT 1 1) m = true) : wantF 1 1 1 m 1 = [0] := by
  match m, hl, ht with
  | [a, b, c], _, ht =>
    revert ht
    cases a <;> cases b <;> cases c <;> decide +kernel
theorem one_model : trueAll (encC oneT 1 1) [false, true, true] = true := by decide +kernel
set_option maxRecDepth 100000 in
set_option maxHeartbeats 6400000 in
theorem horizonExample_ct (w : World) : Calls Tryz.prog 5 #[] w (Gives w (.bool true)) := by
  have Hbl := hide (Below.refl w.heap.size w)
  have hinf := one_low (w := w) (g := 0) (x := 0)
  clear hinf
  go_enter Tryz.func5, Tryz.ntmps5
  obtain ⟨B0, hB0⟩ : ∃ B0, B0 = w.heap.size := ⟨_, rfl⟩
  have HB0 := hide hB0
  clear hB0
  go_wp2_with fail
  with_reducible refine (one_ct w).mono ?_
  rintro e w1 ⟨hb, a, rfl, han, ht⟩
  have Hat := hide ht
  have Han := hide han
  clear ht han
  unfold taskV
  replace Hbl := hide (Hbl.out.trans (hb.mono Hbl.out.size))
  clear hb
  have hct := Encode_ct a oneT 1 _ w1 Hat.out (by unfold I64s; omega) one_cnf
  go_wp2_with fail
  with_reducible refine hct.mono ?_
  rintro e w2 ⟨hb, A, n, c, rfl, hplain, hrows⟩
  clear hrows hplain hct
  simp only
  unfold fault
  replace Hbl := hide (Hbl.out.trans (hb.mono Hbl.out.size))
  clear hb
  go_upto_region 2 with (fail)
  have s_0 : B0 ≤ w2.heap.size := Nat.le_trans (Nat.le_of_eq HB0.out) Hbl.out.size
  have hyc := Blk.new (w2) 45 [.int .i64 3, .slice A n c]
  have hyf := Blk.new ((w2).alloc (.cells #[.int .i64 3, .slice A n c] 45)) 28 [.int .i64 0, .int .i64 0]
  replace hyc := hyc.alloc (.cells #[.int .i64 0, .int .i64 0] 28)
  have hbW := below_two w2 (.cells #[.int .i64 3, .slice A n c] 45) (.cells #[.int .i64 0, .int .i64 0] 28)
  simp only [World.size_alloc] at hyf
  obtain ⟨w3, hW⟩ : ∃ W, W = ((w2).alloc (.cells #[.int .i64 3, .slice A n c] 45)).alloc (.cells #[.int .i64 0, .int .i64 0] 28) := ⟨_, rfl⟩
  rw [← hW] at hyc hyf hbW ⊢
  replace Hbl := hide (Hbl.out.trans (hbW.mono Hbl.out.size))
  have Hc := hide hyc
  have Hf := hide hyf
  clear hW hbW hyc hyf
  generalize w2.heap.size = gc at Hc Hf s_0 ⊢
  have c0 := Hc.out.cell 0
  have c1 := Hc.out.cell 1
  have cl := Hc.out.lt
  have f0 := Hf.out.cell 0
  have f1 := Hf.out.cell 1
  have fl := Hf.out.lt
  simp only [List.getElem?_cons_zero, List.getElem?_cons_succ] at c0 c1 f0 f1
  have a_c : B0 ≤ gc := by omega
  have a_f : B0 ≤ gc + 1 := by omega
  clear s_0
  have n_c_f : ¬ gc = gc + 1 := by omega
  have n_f_c : ¬ gc + 1 = gc := by omega
  go_wp2_with fail
  with_reducible refine (one_ct w3).mono ?_
  rintro e w4 ⟨hb, b, rfl, hbn, ht⟩
  have Hbt := hide ht
  have Hbn := hide hbn
  clear ht hbn
  unfold taskV
  clear c0 c1 f0 f1 cl fl
  replace Hc := hide (Hc.out.keep hb)
  replace Hf := hide (Hf.out.keep hb)
  replace Hbl := hide (Hbl.out.trans (hb.mono Hbl.out.size))
  clear hb
  have c0 := Hc.out.cell 0
  have c1 := Hc.out.cell 1
  have cl := Hc.out.lt
  have f0 := Hf.out.cell 0
  have f1 := Hf.out.cell 1
  have fl := Hf.out.lt
  simp only [List.getElem?_cons_zero, List.getElem?_cons_succ] at c0 c1 f0 f1
  have hbL : Below w4.heap.size w4 (w4.alloc (.cells #[.bool false, .bool true, .bool true] 4)) := (Below.refl _ _).alloc (Nat.le_refl _) _
  have hlb := Rd.lit_bools [false, true, true] (Blk.new w4 4 [.bool false, .bool true, .bool true]) (by simp)
  have hct := Decode_ct b oneT 1 (some ⟨w4.heap.size, 0, none⟩) 3 3 [false, true, true] (w4.alloc (.cells #[.bool false, .bool true, .bool true] 4)) (Hbt.out.keep hbL) (by unfold I64s; omega) hlb
  rw [one_decode] at hct
  go_wp2_with fail
  with_reducible refine hct.mono ?_
  rintro e w5 ⟨hb0, X, xn, xc, rfl, hrows⟩
  have hb : Below w4.heap.size w4 w5 := hbL.trans (hb0.mono (by simp))
  have Hx := hide (hrows w5 (Chg.refl _ _))
  clear hrows hct hb0 hlb hbL
  simp only
  unfold fault
  clear c0 c1 f0 f1 cl fl
  replace Hc := hide (Hc.out.keep hb)
  replace Hf := hide (Hf.out.keep hb)
  replace Hbl := hide (Hbl.out.trans (hb.mono Hbl.out.size))
  clear hb
  have c0 := Hc.out.cell 0
  have c1 := Hc.out.cell 1
  have cl := Hc.out.lt
  have f0 := Hf.out.cell 0
  have f1 := Hf.out.cell 1
  have fl := Hf.out.lt
  simp only [List.getElem?_cons_zero, List.getElem?_cons_succ] at c0 c1 f0 f1
  go_upto_region 3 with (fail)
  have s_c : gc < w5.heap.size := cl
  have s_f : gc + 1 < w5.heap.size := fl
  have s_0 : B0 ≤ w5.heap.size := Nat.le_trans (Nat.le_of_eq HB0.out) Hbl.out.size
  have hyk := Blk.new (w5) 28 [.int .i64 0, .int .i64 0]
  have hbW : Below (w5).heap.size (w5) ((w5).alloc (.cells #[.int .i64 0, .int .i64 0] 28)) := (Below.refl _ _).alloc (Nat.le_refl _) _
  obtain ⟨w6, hW⟩ : ∃ W, W = (w5).alloc (.cells #[.int .i64 0, .int .i64 0] 28) := ⟨_, rfl⟩
  rw [← hW] at hyk hbW ⊢
  replace Hc := hide (Hc.out.keep hbW)
  replace Hf := hide (Hf.out.keep hbW)
  replace Hx := hide (Hx.out.keep hbW)
  replace Hbl := hide (Hbl.out.trans (hbW.mono Hbl.out.size))
  have Hk := hide hyk
  clear hW hbW hyk
  generalize w5.heap.size = gk at Hk s_c s_f s_0 ⊢
  have c0 := Hc.out.cell 0
  have c1 := Hc.out.cell 1
  have cl := Hc.out.lt
  have f0 := Hf.out.cell 0
  have f1 := Hf.out.cell 1
  have fl := Hf.out.lt
  have k0 := Hk.out.cell 0
  have k1 := Hk.out.cell 1
  have kl := Hk.out.lt
  simp only [List.getElem?_cons_zero, List.getElem?_cons_succ] at c0 c1 f0 f1 k0 k1
  clear s_c
  clear s_f
  have a_k : B0 ≤ gk := by omega
  clear s_0
  go_wp2_with fail
  with_reducible refine (one_ct w6).mono ?_
  rintro e w7 ⟨hb, d, rfl, hdn, ht⟩
  have Hdt := hide ht
  have Hdn := hide hdn
  clear ht hdn
  unfold taskV
  clear c0 c1 f0 f1 k0 k1 cl fl kl
  replace Hc := hide (Hc.out.keep hb)
  replace Hf := hide (Hf.out.keep hb)
  replace Hk := hide (Hk.out.keep hb)
  replace Hx := hide (Hx.out.keep hb)
  replace Hbl := hide (Hbl.out.trans (hb.mono Hbl.out.size))
  clear hb
  have c0 := Hc.out.cell 0
  have c1 := Hc.out.cell 1
  have cl := Hc.out.lt
  have f0 := Hf.out.cell 0
  have f1 := Hf.out.cell 1
  have fl := Hf.out.lt
  have k0 := Hk.out.cell 0
  have k1 := Hk.out.cell 1
  have kl := Hk.out.lt
  simp only [List.getElem?_cons_zero, List.getElem?_cons_succ] at c0 c1 f0 f1 k0 k1
  have hct := Plan_ct d oneT 1 1 w7 Hdt.out one_ok (by omega) (by decide +kernel) (by decide +kernel) (by have := one_cnf; exact this)
  rw [show ((1 : Nat) : Int) = 1 from rfl] at hct
  go_wp2_with fail
  with_reducible refine hct.mono ?_
  rintro e w8 ⟨hb, ⟨m, Y, yn, yc, hml, hmt, rfl, hry⟩ | ⟨rfl, hno⟩⟩
  rotate_left
  · have h9 := hno [false, true, true] rfl
    rw [one_model] at h9
    cases h9
  have hw := one_plan m hml hmt
  have hry2 : Rd Enc.int w8 Y yn yc [0] := by rw [← hw]; exact hry
  have Hy := hide hry2
  clear hct hml hmt hw hry hry2
  unfold fault
  clear c0 c1 f0 f1 k0 k1 cl fl kl
  replace Hc := hide (Hc.out.keep hb)
  replace Hf := hide (Hf.out.keep hb)
  replace Hk := hide (Hk.out.keep hb)
  replace Hx := hide (Hx.out.keep hb)
  replace Hbl := hide (Hbl.out.trans (hb.mono Hbl.out.size))
  clear hb
  have c0 := Hc.out.cell 0
  have c1 := Hc.out.cell 1
  have cl := Hc.out.lt
  have f0 := Hf.out.cell 0
  have f1 := Hf.out.cell 1
  have fl := Hf.out.lt
  have k0 := Hk.out.cell 0
  have k1 := Hk.out.cell 1
  have kl := Hk.out.lt
  simp only [List.getElem?_cons_zero, List.getElem?_cons_succ] at c0 c1 f0 f1 k0 k1
  go_upto_region 4 with (fail)
  have s_c : gc < w8.heap.size := cl
  have s_f : gc + 1 < w8.heap.size := fl
  have s_k : gk < w8.heap.size := kl
  have s_0 : B0 ≤ w8.heap.size := Nat.le_trans (Nat.le_of_eq HB0.out) Hbl.out.size
  have hyz := Blk.new (w8) 28 [.int .i64 0, .int .i64 0]
  have hbW : Below (w8).heap.size (w8) ((w8).alloc (.cells #[.int .i64 0, .int .i64 0] 28)) := (Below.refl _ _).alloc (Nat.le_refl _) _
  obtain ⟨w9, hW⟩ : ∃ W, W = (w8).alloc (.cells #[.int .i64 0, .int .i64 0] 28) := ⟨_, rfl⟩
  rw [← hW] at hyz hbW ⊢
  replace Hc := hide (Hc.out.keep hbW)
  replace Hf := hide (Hf.out.keep hbW)
  replace Hk := hide (Hk.out.keep hbW)
  replace Hx := hide (Hx.out.keep hbW)
  replace Hy := hide (Hy.out.keep hbW)
  replace Hbl := hide (Hbl.out.trans (hbW.mono Hbl.out.size))
  have Hz := hide hyz
  clear hW hbW hyz
  generalize w8.heap.size = gz at Hz s_c s_f s_k s_0 ⊢
  have c0 := Hc.out.cell 0
  have c1 := Hc.out.cell 1
  have cl := Hc.out.lt
  have f0 := Hf.out.cell 0
  have f1 := Hf.out.cell 1
  have fl := Hf.out.lt
  have k0 := Hk.out.cell 0
  have k1 := Hk.out.cell 1
  have kl := Hk.out.lt
  have z0 := Hz.out.cell 0
  have z1 := Hz.out.cell 1
  have zl := Hz.out.lt
  simp only [List.getElem?_cons_zero, List.getElem?_cons_succ] at c0 c1 f0 f1 k0 k1 z0 z1
  clear s_c
  clear s_f
  clear s_k
  have a_z : B0 ≤ gz := by omega
  clear s_0
  have hbL : Below w9.heap.size w9 (w9.alloc (.cells #[.int .i64 0] 3)) := (Below.refl _ _).alloc (Nat.le_refl _) _
  have hl0 := one_low (Blk.new w9 3 [.int .i64 0]) (by omega)
  have hct := Ints_ct X (some ⟨w9.heap.size, 0, none⟩) xn xc 1 1 [0] [0] _ (Hx.out.keep hbL) hl0
  rw [show intsB [0] [0] = true by decide +kernel] at hct
  go_wp2_with fail
  with_reducible refine hct.mono ?_
  rintro e w10 ⟨rfl, hq⟩
  have hb := hbL.trans ((hq.below _).mono (Nat.le_refl _))
  clear hct hq hl0 hbL
  clear c0 c1 f0 f1 k0 k1 z0 z1 cl fl kl zl
  replace Hc := hide (Hc.out.keep hb)
  replace Hf := hide (Hf.out.keep hb)
  replace Hk := hide (Hk.out.keep hb)
  replace Hz := hide (Hz.out.keep hb)
  replace Hx := hide (Hx.out.keep hb)
  replace Hy := hide (Hy.out.keep hb)
  replace Hbl := hide (Hbl.out.trans (hb.mono Hbl.out.size))
  clear hb
  have c0 := Hc.out.cell 0
  have c1 := Hc.out.cell 1
  have cl := Hc.out.lt
  have f0 := Hf.out.cell 0
  have f1 := Hf.out.cell 1
  have fl := Hf.out.lt
  have k0 := Hk.out.cell 0
  have k1 := Hk.out.cell 1
  have kl := Hk.out.lt
  have z0 := Hz.out.cell 0
  have z1 := Hz.out.cell 1
  have zl := Hz.out.lt
  simp only [List.getElem?_cons_zero, List.getElem?_cons_succ] at c0 c1 f0 f1 k0 k1 z0 z1
  have hbL : Below w10.heap.size w10 (w10.alloc (.cells #[.int .i64 0] 3)) := (Below.refl _ _).alloc (Nat.le_refl _) _
  have hl0 := one_low (Blk.new w10 3 [.int .i64 0]) (by omega)
  have hct := Ints_ct Y (some ⟨w10.heap.size, 0, none⟩) yn yc 1 1 [0] [0] _ (Hy.out.keep hbL) hl0
  rw [show intsB [0] [0] = true by decide +kernel] at hct
  go_wp2_with fail
  with_reducible refine hct.mono ?_
  rintro e w11 ⟨rfl, hq⟩
  have hb := hbL.trans ((hq.below _).mono (Nat.le_refl _))
  replace Hbl := hide (Hbl.out.trans (hb.mono Hbl.out.size))
  clear hct hq hl0 hbL hb
  go_wp2_with fail
  go_ret
  exact ⟨ret_bool (by simp), Hbl.out⟩
end Go.Proofs.YtemiecammmbjdaaGreat
