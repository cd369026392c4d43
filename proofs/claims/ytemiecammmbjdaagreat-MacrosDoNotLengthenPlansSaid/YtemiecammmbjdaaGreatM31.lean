/- What the law asks for, part 31: La45. -/
import Derived.Test.YtemiecammmbjdaaGreatM1
import Derived.Test.YtemiecammmbjdaaGreatM2
import Derived.Test.YtemiecammmbjdaaGreatM3
import Derived.Test.YtemiecammmbjdaaGreatM4
import Derived.Test.YtemiecammmbjdaaGreatM5
import Derived.Test.YtemiecammmbjdaaGreatM6
import Derived.Test.YtemiecammmbjdaaGreatM7
import Derived.Test.YtemiecammmbjdaaGreatM8
import Derived.Test.YtemiecammmbjdaaGreatM9
import Derived.Test.YtemiecammmbjdaaGreatM10
import Derived.Test.YtemiecammmbjdaaGreatM11
import Derived.Test.YtemiecammmbjdaaGreatM12
import Derived.Test.YtemiecammmbjdaaGreatM13
import Derived.Test.YtemiecammmbjdaaGreatM14
import Derived.Test.YtemiecammmbjdaaGreatM15
import Derived.Test.YtemiecammmbjdaaGreatM16
import Derived.Test.YtemiecammmbjdaaGreatM17
import Derived.Test.YtemiecammmbjdaaGreatM18
import Derived.Test.YtemiecammmbjdaaGreatM19
import Derived.Test.YtemiecammmbjdaaGreatM20
import Derived.Test.YtemiecammmbjdaaGreatM21
import Derived.Test.YtemiecammmbjdaaGreatM22
import Derived.Test.YtemiecammmbjdaaGreatM23
import Derived.Test.YtemiecammmbjdaaGreatM24
import Derived.Test.YtemiecammmbjdaaGreatM25
import Derived.Test.YtemiecammmbjdaaGreatM26
import Derived.Test.YtemiecammmbjdaaGreatM27
import Derived.Test.YtemiecammmbjdaaGreatM28
import Derived.Test.YtemiecammmbjdaaGreatM29
import Derived.Test.YtemiecammmbjdaaGreatM30
import Derived.BigQuiet
import Derived.BigRegion
import Derived.Deep.AppendLies
import Derived.Deep.DeepCutAuto
import Derived.Deep.Draws
import Derived.Deep.Fields
import Derived.Deep.LoopGhost
import Derived.Deep.QuietTactic
import Derived.Deep.RegionHeld3
import Derived.Deep.Slices
import Derived.DeepKeys4
import Derived.Ground.Names2Prog
import Derived.Ground.SlgnProg
import Derived.Ground.SlsfProg
import Derived.IntWalk
import Derived.Laws.AppendOwnNone
import Derived.Laws.BitsAllLaws
import Derived.Laws.EntriesVeiled
import Derived.Laws.OwnMore
import Derived.Lib.Hide
import Derived.Lib.SlicesCompact
import Derived.LoopIn
import Derived.LoopNIn
import Derived.Maps.AppendAt
import Derived.Maps.OwnIn
import Derived.Maps.OwnOps
import Derived.Maps.OwnSet
import Derived.OrdersHeld
import Derived.OrdersIn
import Derived.OwnWalkIn
import Derived.RangeFuncBound
import Derived.RangeFuncCalls
import Derived.RangeFuncLeaves
import Derived.RangeFuncNested
import Derived.Shelf.Abstract
import Derived.Shelf.RegionOpen
import Derived.Shelf.SlSortCmp.Whole1
import Derived.Shelf.Slices.Cells
import Derived.Shelf.Slices.Clone
import Derived.Shelf.Slices.CompactI
import Derived.Shelf.Slices.Empties
import Derived.Shelf.Slices.In.SortNone
import Derived.Shelf.Slices.Reverse
import Derived.Shelf.Slices.SearchI
import Derived.Shelf.Sort.Plain
import Derived.Sort.CutIn
import Derived.Sort.OwnSortedInts
import Derived.StillTail
import Derived.StillTailTactics
import Derived.TacticsInMore
import Derived.Test.YtemiecammmbjdaaGreatProg
import Derived.WalkKit
namespace Go.Proofs.YtemiecammmbjdaaGreat
set_option linter.unusedVariables false
set_option linter.unusedSimpArgs false
open Go.RowKit
theorem plan_out2 {w w' : World} {T : Tsk} {e : Ending} (h : APlanP w T e w') : Below w.heap.size w w' ∧ ∃ (f : Bool) (A : Option Addr) (n c : Nat) (y k c2 i2 : Int), e = .returned (.tuple #[resV f A n c y k, fault c2 i2]) ∧
    (c2 = 0 → (f = false ∧ n = 0 ∧ NoWay (T.ops.map mkOp) (wordF T.init) (goalW (wordF T.goal))) ∨ (f = true ∧ ∃ l, BestOf (T.ops.map mkOp) (wordF T.init) (goalW (wordF T.goal)) l ∧ n = l.length ∧ l.length ≤ 60)) := by
  obtain ⟨hb, ⟨h1, rfl⟩ | ⟨h1, _, rfl⟩ | ⟨h1, L, hL, ⟨y, k, rfl, hno⟩ | ⟨l, hl, ⟨h60, rfl⟩ | ⟨h60, A, c, y, k, rfl⟩⟩⟩⟩ := h
  · exact ⟨hb, _, _, _, _, _, _, _, _, rfl, fun e => absurd e h1⟩
  · exact ⟨hb, _, _, _, _, _, _, _, _, rfl, fun e => absurd e (by decide)⟩
  · exact ⟨hb, _, _, _, _, _, _, _, _, rfl, fun _ => .inl ⟨rfl, rfl, hno⟩⟩
  · exact ⟨hb, _, _, _, _, _, _, _, _, rfl, fun e => absurd e (by decide)⟩
  · exact ⟨hb, _, _, _, _, _, _, _, _, rfl, fun _ => .inr ⟨rfl, l, hl, rfl, h60⟩⟩
set_option maxRecDepth 100000 in
set_option maxHeartbeats 12800000 in
theorem shortLaw_ct (T : Tsk) (a : TA) (B : Option Addr) (m d : Nat) (ms : List (List Int)) (w : World) (h : TkR w a T) (hl : Rd (Enc.sl Enc.int) w B m d ms) :
    Calls Tryz.prog 4 #[.agg #[.int .i64 T.facts, .slice a.I a.nI a.cI, .slice a.G a.nG a.cG, .slice a.O a.nO a.cO], .slice B m d] w (Gives w (.bool true)) := by
  have hex := fun W hT hl => Extend_ct a T B m d ms W hT hl
  have hpl := fun W hT => (APlan_ct a T W hT).mono (fun e w' h => plan_out2 h)
  obtain ⟨I, nI, cI, G, nG, cG, O, nO, cO⟩ := a
  simp only at hex hpl ⊢
  have H := hide h
  have Hl := hide hl
  have Hex := hide hex
  have Hpl := hide hpl
  clear h hl hex hpl
  have Hbl := hide (Below.refl w.heap.size w)
  go_enter Tryz.func4, Tryz.ntmps4
  go_upto_region 1 with (fail)
  obtain ⟨B0, hB0⟩ : ∃ B0, B0 = w.heap.size := ⟨_, rfl⟩
  have HB0 := hide hB0
  clear hB0
  have s_0 : B0 ≤ w.heap.size := Nat.le_trans (Nat.le_of_eq HB0.out) Hbl.out.size
  have hyt := Blk.new (w) 25 [.int .i64 T.facts, .slice I nI cI, .slice G nG cG, .slice O nO cO]
  have hbW : Below (w).heap.size (w) ((w).alloc (.cells #[.int .i64 T.facts, .slice I nI cI, .slice G nG cG, .slice O nO cO] 25)) := (Below.refl _ _).alloc (Nat.le_refl _) _
  obtain ⟨w0, hW⟩ : ∃ W, W = (w).alloc (.cells #[.int .i64 T.facts, .slice I nI cI, .slice G nG cG, .slice O nO cO] 25) := ⟨_, rfl⟩
  rw [← hW] at hyt hbW ⊢
  replace Hbl := hide (Hbl.out.trans (hbW.mono Hbl.out.size))
  have Ht := hide hyt
  clear hW hbW hyt
  generalize w.heap.size = gT at Ht s_0 ⊢
  have t0 := Ht.out.cell 0
  have t1 := Ht.out.cell 1
  have t2 := Ht.out.cell 2
  have t3 := Ht.out.cell 3
  have tl := Ht.out.lt
  simp only [List.getElem?_cons_zero, List.getElem?_cons_succ] at t0 t1 t2 t3
  have a_t : B0 ≤ gT := by omega
  clear s_0
  go_wp2_with fail
  with_reducible refine (macrosExample_ct w0).mono ?_
  rintro e w1 ⟨rfl, hb⟩
  clear t0 t1 t2 t3 tl
  replace Ht := hide (Ht.out.keep hb)
  replace Hbl := hide (Hbl.out.trans (hb.mono Hbl.out.size))
  clear hb
  have t0 := Ht.out.cell 0
  have t1 := Ht.out.cell 1
  have t2 := Ht.out.cell 2
  have t3 := Ht.out.cell 3
  have tl := Ht.out.lt
  simp only [List.getElem?_cons_zero, List.getElem?_cons_succ] at t0 t1 t2 t3
  rcases hxr : extendR T ms with ⟨X, xc, xi⟩
  have hct := Hex.out w1 (H.out.keep Hbl.out) (Hl.out.keep Hbl.out)
  rw [hxr] at hct
  have Hxr := hide hxr
  clear hxr
  go_wp2_with fail
  with_reducible refine hct.mono ?_
  rintro e w2 ⟨hb, b, rfl, hx⟩
  have Hx := hide (hx w2 (Chg.refl _ _))
  clear hct hx
  unfold taskV fault
  dsimp only
  clear t0 t1 t2 t3 tl
  replace Ht := hide (Ht.out.keep hb)
  replace Hbl := hide (Hbl.out.trans (hb.mono Hbl.out.size))
  clear hb
  have t0 := Ht.out.cell 0
  have t1 := Ht.out.cell 1
  have t2 := Ht.out.cell 2
  have t3 := Ht.out.cell 3
  have tl := Ht.out.lt
  simp only [List.getElem?_cons_zero, List.getElem?_cons_succ] at t0 t1 t2 t3
  obtain ⟨bI, bnI, bcI, bG, bnG, bcG, bO, bnO, bcO⟩ := b
  simp only at Hx ⊢
  go_upto_region 4 with (fail)
  have s_t : gT < w2.heap.size := tl
  have s_0 : B0 ≤ w2.heap.size := Nat.le_trans (Nat.le_of_eq HB0.out) Hbl.out.size
  have hyxx := Blk.new (w2) 25 [.int .i64 X.facts, .slice bI bnI bcI, .slice bG bnG bcG, .slice bO bnO bcO]
  have hyf := Blk.new ((w2).alloc (.cells #[.int .i64 X.facts, .slice bI bnI bcI, .slice bG bnG bcG, .slice bO bnO bcO] 25)) 28 [.int .i64 xc, .int .i64 xi]
  replace hyxx := hyxx.alloc (.cells #[.int .i64 xc, .int .i64 xi] 28)
  have hbW := below_two w2 (.cells #[.int .i64 X.facts, .slice bI bnI bcI, .slice bG bnG bcG, .slice bO bnO bcO] 25) (.cells #[.int .i64 xc, .int .i64 xi] 28)
  simp only [World.size_alloc] at hyf
  obtain ⟨w3, hW⟩ : ∃ W, W = ((w2).alloc (.cells #[.int .i64 X.facts, .slice bI bnI bcI, .slice bG bnG bcG, .slice bO bnO bcO] 25)).alloc (.cells #[.int .i64 xc, .int .i64 xi] 28) := ⟨_, rfl⟩
  rw [← hW] at hyxx hyf hbW ⊢
  replace Ht := hide (Ht.out.keep hbW)
  replace Hx := hide (Hx.out.keep hbW)
  replace Hbl := hide (Hbl.out.trans (hbW.mono Hbl.out.size))
  have Hxx := hide hyxx
  have Hf := hide hyf
  clear hW hbW hyxx hyf
  generalize w2.heap.size = gx at Hxx Hf s_t s_0 ⊢
  have t0 := Ht.out.cell 0
  have t1 := Ht.out.cell 1
  have t2 := Ht.out.cell 2
  have t3 := Ht.out.cell 3
  have tl := Ht.out.lt
  have xx0 := Hxx.out.cell 0
  have xx1 := Hxx.out.cell 1
  have xx2 := Hxx.out.cell 2
  have xx3 := Hxx.out.cell 3
  have xxl := Hxx.out.lt
  have f0 := Hf.out.cell 0
  have f1 := Hf.out.cell 1
  have fl := Hf.out.lt
  simp only [List.getElem?_cons_zero, List.getElem?_cons_succ] at t0 t1 t2 t3 xx0 xx1 xx2 xx3 f0 f1
  clear s_t
  have a_xx : B0 ≤ gx := by omega
  have a_f : B0 ≤ gx + 1 := by omega
  clear s_0
  have n_xx_f : ¬ gx = gx + 1 := by omega
  have n_f_xx : ¬ gx + 1 = gx := by omega
  go_wp2_with fail
  with_reducible refine (Hpl.out w3 (H.out.keep Hbl.out)).mono ?_
  rintro e w4 ⟨hb, b1, A1, n1, k1, y1, z1, c1, i1, rfl, hout1⟩
  have Hout1 := hide hout1
  clear hout1
  unfold fault resV
  clear t0 t1 t2 t3 xx0 xx1 xx2 xx3 f0 f1 tl xxl fl
  replace Ht := hide (Ht.out.keep hb)
  replace Hxx := hide (Hxx.out.keep hb)
  replace Hf := hide (Hf.out.keep hb)
  replace Hx := hide (Hx.out.keep hb)
  replace Hbl := hide (Hbl.out.trans (hb.mono Hbl.out.size))
  clear hb
  have t0 := Ht.out.cell 0
  have t1 := Ht.out.cell 1
  have t2 := Ht.out.cell 2
  have t3 := Ht.out.cell 3
  have tl := Ht.out.lt
  have xx0 := Hxx.out.cell 0
  have xx1 := Hxx.out.cell 1
  have xx2 := Hxx.out.cell 2
  have xx3 := Hxx.out.cell 3
  have xxl := Hxx.out.lt
  have f0 := Hf.out.cell 0
  have f1 := Hf.out.cell 1
  have fl := Hf.out.lt
  simp only [List.getElem?_cons_zero, List.getElem?_cons_succ] at t0 t1 t2 t3 xx0 xx1 xx2 xx3 f0 f1
  go_upto_region 5 with (fail)
  have s_t : gT < w4.heap.size := tl
  have s_xx : gx < w4.heap.size := xxl
  have s_f : gx + 1 < w4.heap.size := fl
  have s_0 : B0 ≤ w4.heap.size := Nat.le_trans (Nat.le_of_eq HB0.out) Hbl.out.size
  have hyra := Blk.new (w4) 40 [.bool b1, .slice A1 n1 k1, .int .i64 y1, .int .i64 z1]
  have hypa := Blk.new ((w4).alloc (.cells #[.bool b1, .slice A1 n1 k1, .int .i64 y1, .int .i64 z1] 40)) 28 [.int .i64 c1, .int .i64 i1]
  replace hyra := hyra.alloc (.cells #[.int .i64 c1, .int .i64 i1] 28)
  have hbW := below_two w4 (.cells #[.bool b1, .slice A1 n1 k1, .int .i64 y1, .int .i64 z1] 40) (.cells #[.int .i64 c1, .int .i64 i1] 28)
  simp only [World.size_alloc] at hypa
  obtain ⟨w5, hW⟩ : ∃ W, W = ((w4).alloc (.cells #[.bool b1, .slice A1 n1 k1, .int .i64 y1, .int .i64 z1] 40)).alloc (.cells #[.int .i64 c1, .int .i64 i1] 28) := ⟨_, rfl⟩
  rw [← hW] at hyra hypa hbW ⊢
  replace Ht := hide (Ht.out.keep hbW)
  replace Hxx := hide (Hxx.out.keep hbW)
  replace Hf := hide (Hf.out.keep hbW)
  replace Hx := hide (Hx.out.keep hbW)
  replace Hbl := hide (Hbl.out.trans (hbW.mono Hbl.out.size))
  have Hra := hide hyra
  have Hpa := hide hypa
  clear hW hbW hyra hypa
  generalize w4.heap.size = ga at Hra Hpa s_t s_xx s_f s_0 ⊢
  have t0 := Ht.out.cell 0
  have t1 := Ht.out.cell 1
  have t2 := Ht.out.cell 2
  have t3 := Ht.out.cell 3
  have tl := Ht.out.lt
  have xx0 := Hxx.out.cell 0
  have xx1 := Hxx.out.cell 1
  have xx2 := Hxx.out.cell 2
  have xx3 := Hxx.out.cell 3
  have xxl := Hxx.out.lt
  have f0 := Hf.out.cell 0
  have f1 := Hf.out.cell 1
  have fl := Hf.out.lt
  have ra0 := Hra.out.cell 0
  have ra1 := Hra.out.cell 1
  have ra2 := Hra.out.cell 2
  have ra3 := Hra.out.cell 3
  have ral := Hra.out.lt
  have pa0 := Hpa.out.cell 0
  have pa1 := Hpa.out.cell 1
  have pal := Hpa.out.lt
  simp only [List.getElem?_cons_zero, List.getElem?_cons_succ] at t0 t1 t2 t3 xx0 xx1 xx2 xx3 f0 f1 ra0 ra1 ra2 ra3 pa0 pa1
  clear s_t
  clear s_xx
  clear s_f
  have a_ra : B0 ≤ ga := by omega
  have a_pa : B0 ≤ ga + 1 := by omega
  clear s_0
  have n_ra_pa : ¬ ga = ga + 1 := by omega
  have n_pa_ra : ¬ ga + 1 = ga := by omega
  have hpl2 := (APlan_ct ⟨bI, bnI, bcI, bG, bnG, bcG, bO, bnO, bcO⟩ X w5 Hx.out).mono (fun e w' h => plan_out2 h)
  simp only at hpl2
  go_wp2_with fail
  with_reducible refine hpl2.mono ?_
  rintro e w6 ⟨hb, b2, A2, n2, k2, y2, z2, c2, i2, rfl, hout2⟩
  have Hout2 := hide hout2
  clear hout2 hpl2
  unfold fault resV
  clear t0 t1 t2 t3 xx0 xx1 xx2 xx3 f0 f1 ra0 ra1 ra2 ra3 pa0 pa1 tl xxl fl ral pal
  replace Ht := hide (Ht.out.keep hb)
  replace Hxx := hide (Hxx.out.keep hb)
  replace Hf := hide (Hf.out.keep hb)
  replace Hra := hide (Hra.out.keep hb)
  replace Hpa := hide (Hpa.out.keep hb)
  replace Hx := hide (Hx.out.keep hb)
  replace Hbl := hide (Hbl.out.trans (hb.mono Hbl.out.size))
  clear hb
  have t0 := Ht.out.cell 0
  have t1 := Ht.out.cell 1
  have t2 := Ht.out.cell 2
  have t3 := Ht.out.cell 3
  have tl := Ht.out.lt
  have xx0 := Hxx.out.cell 0
  have xx1 := Hxx.out.cell 1
  have xx2 := Hxx.out.cell 2
  have xx3 := Hxx.out.cell 3
  have xxl := Hxx.out.lt
  have f0 := Hf.out.cell 0
  have f1 := Hf.out.cell 1
  have fl := Hf.out.lt
  have ra0 := Hra.out.cell 0
  have ra1 := Hra.out.cell 1
  have ra2 := Hra.out.cell 2
  have ra3 := Hra.out.cell 3
  have ral := Hra.out.lt
  have pa0 := Hpa.out.cell 0
  have pa1 := Hpa.out.cell 1
  have pal := Hpa.out.lt
  simp only [List.getElem?_cons_zero, List.getElem?_cons_succ] at t0 t1 t2 t3 xx0 xx1 xx2 xx3 f0 f1 ra0 ra1 ra2 ra3 pa0 pa1
  go_upto_region 6 with (fail)
  have s_t : gT < w6.heap.size := tl
  have s_xx : gx < w6.heap.size := xxl
  have s_f : gx + 1 < w6.heap.size := fl
  have s_ra : ga < w6.heap.size := ral
  have s_pa : ga + 1 < w6.heap.size := pal
  have s_0 : B0 ≤ w6.heap.size := Nat.le_trans (Nat.le_of_eq HB0.out) Hbl.out.size
  have hyrb := Blk.new (w6) 40 [.bool b2, .slice A2 n2 k2, .int .i64 y2, .int .i64 z2]
  have hypb := Blk.new ((w6).alloc (.cells #[.bool b2, .slice A2 n2 k2, .int .i64 y2, .int .i64 z2] 40)) 28 [.int .i64 c2, .int .i64 i2]
  replace hyrb := hyrb.alloc (.cells #[.int .i64 c2, .int .i64 i2] 28)
  have hbW := below_two w6 (.cells #[.bool b2, .slice A2 n2 k2, .int .i64 y2, .int .i64 z2] 40) (.cells #[.int .i64 c2, .int .i64 i2] 28)
  simp only [World.size_alloc] at hypb
  obtain ⟨w7, hW⟩ : ∃ W, W = ((w6).alloc (.cells #[.bool b2, .slice A2 n2 k2, .int .i64 y2, .int .i64 z2] 40)).alloc (.cells #[.int .i64 c2, .int .i64 i2] 28) := ⟨_, rfl⟩
  rw [← hW] at hyrb hypb hbW ⊢
  replace Ht := hide (Ht.out.keep hbW)
  replace Hxx := hide (Hxx.out.keep hbW)
  replace Hf := hide (Hf.out.keep hbW)
  replace Hra := hide (Hra.out.keep hbW)
  replace Hpa := hide (Hpa.out.keep hbW)
  replace Hx := hide (Hx.out.keep hbW)
  replace Hbl := hide (Hbl.out.trans (hbW.mono Hbl.out.size))
  have Hrb := hide hyrb
  have Hpb := hide hypb
  clear hW hbW hyrb hypb
  generalize w6.heap.size = gb at Hrb Hpb s_t s_xx s_f s_ra s_pa s_0 ⊢
  have t0 := Ht.out.cell 0
  have t1 := Ht.out.cell 1
  have t2 := Ht.out.cell 2
  have t3 := Ht.out.cell 3
  have tl := Ht.out.lt
  have xx0 := Hxx.out.cell 0
  have xx1 := Hxx.out.cell 1
  have xx2 := Hxx.out.cell 2
  have xx3 := Hxx.out.cell 3
  have xxl := Hxx.out.lt
  have f0 := Hf.out.cell 0
  have f1 := Hf.out.cell 1
  have fl := Hf.out.lt
  have ra0 := Hra.out.cell 0
  have ra1 := Hra.out.cell 1
  have ra2 := Hra.out.cell 2
  have ra3 := Hra.out.cell 3
  have ral := Hra.out.lt
  have pa0 := Hpa.out.cell 0
  have pa1 := Hpa.out.cell 1
  have pal := Hpa.out.lt
  have rb0 := Hrb.out.cell 0
  have rb1 := Hrb.out.cell 1
  have rb2 := Hrb.out.cell 2
  have rb3 := Hrb.out.cell 3
  have rbl := Hrb.out.lt
  have pb0 := Hpb.out.cell 0
  have pb1 := Hpb.out.cell 1
  have pbl := Hpb.out.lt
  simp only [List.getElem?_cons_zero, List.getElem?_cons_succ] at t0 t1 t2 t3 xx0 xx1 xx2 xx3 f0 f1 ra0 ra1 ra2 ra3 pa0 pa1 rb0 rb1 rb2 rb3 pb0 pb1
  clear s_t
  clear s_xx
  clear s_f
  clear s_ra
  clear s_pa
  have a_rb : B0 ≤ gb := by omega
  have a_pb : B0 ≤ gb + 1 := by omega
  clear s_0
  have n_rb_pb : ¬ gb = gb + 1 := by omega
  have n_pb_rb : ¬ gb + 1 = gb := by omega
  by_cases hx0 : xc = 0
  rotate_left
  · have hne : (xc != 0) = true := by simpa using hx0
    go_wp2_with fail
    all_goals go_ret
    all_goals exact ⟨ret_bool (by simp), Hbl.out⟩
  subst hx0
  by_cases hc1 : c1 = 0
  rotate_left
  · have hne : (c1 != 0) = true := by simpa using hc1
    go_wp2_with fail
    all_goals go_ret
    all_goals exact ⟨ret_bool (by simp), Hbl.out⟩
  subst hc1
  by_cases hc2 : c2 = 0
  rotate_left
  · have hne : (c2 != 0) = true := by simpa using hc2
    go_wp2_with fail
    all_goals go_ret
    all_goals exact ⟨ret_bool (by simp), Hbl.out⟩
  subst hc2
  have hx1 : (extendR T ms).2.1 = 0 := by rw [Hxr.out]
  have hx2 : X = (extendR T ms).1 := by rw [Hxr.out]
  have hpq := plans_len hx1
  rw [← hx2] at hpq
  have hsame : b2 = b1 ∧ n2 ≤ n1 := by
    rcases Hout1.out rfl with ⟨rfl, rfl, g1⟩ | ⟨rfl, l1, g1, rfl, g2⟩
    · rcases Hout2.out rfl with ⟨rfl, rfl, _⟩ | ⟨rfl, l2, ⟨u, n, hp, hg, _⟩, rfl, _⟩
      · exact ⟨rfl, Nat.le_refl _⟩
      · exact (hpq.1.1 g1 _ _ _ hp hg).elim
    · rcases Hout2.out rfl with ⟨rfl, rfl, k1⟩ | ⟨rfl, l2, k1, rfl, k2⟩
      · obtain ⟨u, n, hp, hg, _⟩ := g1
        exact (hpq.1.2 k1 _ _ _ hp hg).elim
      · exact ⟨rfl, hpq.2 _ _ g1 g2 k1 k2⟩
  obtain ⟨rfl, hle⟩ := hsame
  have hlei : (n2 : Int) ≤ (n1 : Int) := by omega
  clear hpq hx1 hx2
  go_wp2_with fail
  all_goals go_ret
  all_goals exact ⟨ret_bool (by simp), Hbl.out⟩
end Go.Proofs.YtemiecammmbjdaaGreat
